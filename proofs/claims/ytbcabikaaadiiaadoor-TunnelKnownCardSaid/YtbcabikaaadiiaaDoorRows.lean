/-
  NARROWER THAN 'FOR EVERY INPUT', by the rows' own cells (each row's printed sentence says how): TunnelDries: laid · TunnelBests: laid · TunnelAsks: laid · TunnelTrue: laid · TunnelEnds: laid · TunnelBest: laid · TunnelClash: laid · TopFrames: laid · TunnelLess: laid · TunnelLonger: laid · TopCool: laid · TunnelHotter: laid · TunnelAsk: laid · TunnelKnown: laid · TopAlone: laid · TopFits: laid.
  DERIVED. THE GIVEN ROWS OF THIS SEAT. 16 by the template 'for every input the law returns true; each argument reads behind the call as it read before'; 0 by the template 'total and deterministic' (their statements: YtbcabikaaadiiaaDoorTotals.lean).
  GIVEN WITH THE SEED: the statements are not yours to turn. If you find one false, say at which input.
  Laid BY PROGRAM, IN A SANDBOX (cutbox-rows.mjs): the forced cells as the released guide's own fill.sh prints them over the translation 24211ba4bfa3b91c… (all of the seat's roots in one cut). By AI agents, Wed Nov 11 2026. No macro, syntax, notation, axiom, sorry.
-/
import Derived.Test.YtbcabikaaadiiaaDoorChecked
import GoSem.Claim
import GoSem.ClaimJoined
import GoSem.ClaimMapViews
import Derived.JoinedTies
import Derived.KernelRfl
namespace Go.Proofs.YtbcabikaaadiiaaDoor
/- THE CELL 'sum', in the pinned program and in every row, IS THE sha256 OF THE DUMP (.gsa) THAT YtbcabikaaadiiaaDoorProg.lean LOADS. Nothing in Lean hashes anything: it is a label: what it is worth is what the hold of that sum in a sandbox is worth. -/
noncomputable def Tryd.pinned : Pinned := { name := "ytbcabikaaadiiaadoor", sum := "24211ba4bfa3b91c9564a6fca267f136180e58348b5f1748abf02abe6838be42", checked := Tryd.checked }
namespace Rows
def none {H : Type} : Left H := { results := [], args := [] }

/- WHAT THE LISTED PACKAGE-LEVEL VARIABLES READ AS WHEN THE CALL BEGINS. Each datum BY PROGRAM (the guide's laid-datum.mjs) off the statement by which the dump's own 'gosem.cut.vars' lays the variable. In a bare row this is a premise. The card (YtbcabikaaadiiaaDoorCards.lean) ties it to the program's text. -/
def laid_lucifer_tunnel_none {H : Type} : DataW H := .agg [.lit (.int .i64 (-1)), .agg [.lit (.int .i64 0), .lit (.int .i64 0), .lit (.int .i64 0), .lit (.int .i64 0)]]
def laid_lucifer_tunnel_ends {H : Type} : DataW H := .iface "func table" (.agg [.iface "func" (.lit (.string [40, 108, 117, 99, 105, 102, 101, 114, 47, 116, 117, 110, 110, 101, 108, 46, 98, 111, 111, 107, 41, 46, 119, 101, 116])), .iface "func" (.lit (.string [40, 108, 117, 99, 105, 102, 101, 114, 47, 116, 117, 110, 110, 101, 108, 46, 98, 111, 111, 107, 41, 46, 100, 114, 121]))])
def laid_lucifer_peel_ends {H : Type} : DataW H := .iface "func table" (.agg [.iface "func" (.lit (.string [40, 108, 117, 99, 105, 102, 101, 114, 47, 112, 101, 101, 108, 46, 108, 111, 103, 41, 46, 102, 105, 114, 115, 116])), .iface "func" (.lit (.string [40, 108, 117, 99, 105, 102, 101, 114, 47, 112, 101, 101, 108, 46, 108, 111, 103, 41, 46, 108, 97, 115, 116]))])
def laid_lucifer_fill_ends {H : Type} : DataW H := .iface "func table" (.agg [.iface "func" (.lit (.string [40, 108, 117, 99, 105, 102, 101, 114, 47, 102, 105, 108, 108, 46, 98, 111, 111, 107, 41, 46, 108, 111, 119])), .iface "func" (.lit (.string [40, 108, 117, 99, 105, 102, 101, 114, 47, 102, 105, 108, 108, 46, 98, 111, 111, 107, 41, 46, 104, 105, 103, 104]))])
def laid_lucifer_yard_wants {H : Type} : DataW H := .iface "func table" (.agg [.iface "func" (.lit (.string [40, 108, 117, 99, 105, 102, 101, 114, 47, 121, 97, 114, 100, 46, 121, 97, 114, 100, 41, 46, 100, 111, 111, 114, 115])), .iface "func" (.lit (.string [40, 108, 117, 99, 105, 102, 101, 114, 47, 121, 97, 114, 100, 46, 121, 97, 114, 100, 41, 46, 98, 117, 99, 107, 101, 116, 115]))])
def laid_lucifer_insure_causes {H : Type} : DataW H := .iface "func table" (.agg [.iface "func" (.lit (.string [40, 108, 117, 99, 105, 102, 101, 114, 47, 105, 110, 115, 117, 114, 101, 46, 98, 111, 111, 107, 41, 46, 103, 111, 111, 100, 115])), .iface "func" (.lit (.string [40, 108, 117, 99, 105, 102, 101, 114, 47, 105, 110, 115, 117, 114, 101, 46, 98, 111, 111, 107, 41, 46, 112, 97, 105, 114, 115])), .iface "func" (.lit (.string [40, 108, 117, 99, 105, 102, 101, 114, 47, 105, 110, 115, 117, 114, 101, 46, 98, 111, 111, 107, 41, 46, 117, 110, 115, 101, 114, 118, 101, 100])), .iface "func" (.lit (.string [40, 108, 117, 99, 105, 102, 101, 114, 47, 105, 110, 115, 117, 114, 101, 46, 98, 111, 111, 107, 41, 46, 104, 101, 97, 116])), .iface "func" (.lit (.string [40, 108, 117, 99, 105, 102, 101, 114, 47, 105, 110, 115, 117, 114, 101, 46, 98, 111, 111, 107, 41, 46, 102, 114, 97, 109, 101, 115]))])

/-- 'luciferlaw03.TunnelDries': WHATEVER THE INPUT: true; the input reads as it did. -/
def tunnelDriesSpec : ChangeSpec := { name := "tunnelDries", fn := fun _ => fun
  | [d1, d2, d3] => { results := [.lit (.bool true)], args := [d1, d2, d3] }
  | _ => none }
def tunnelDriesRow : OpenClaim := { program := "ytbcabikaaadiiaadoor", sum := "24211ba4bfa3b91c9564a6fca267f136180e58348b5f1748abf02abe6838be42", func := "lucifer/luciferlaw03.TunnelDries", spec := "tunnelDries", unfollowed := true, recurses := true, named := ["lucifer/tunnel.none", "lucifer/tunnel.ends"], plainKeys := false, apart := false, laid := [("lucifer/tunnel.none", laid_lucifer_tunnel_none), ("lucifer/tunnel.ends", laid_lucifer_tunnel_ends)] }
def TunnelDriesSaid : Prop := tunnelDriesRow.holds Tryd.pinned (OpenSpec.ofChange tunnelDriesSpec)

/-- ITS FALSE NEIGHBOUR: 'it returns false'. Refute it at one input. -/
def tunnelDriesWrong : ChangeSpec := { name := "tunnelDries", fn := fun _ => fun
  | [d1, d2, d3] => { results := [.lit (.bool false)], args := [d1, d2, d3] }
  | _ => none }
def TunnelDriesWrongFalsely : Prop := tunnelDriesRow.holds Tryd.pinned (OpenSpec.ofChange tunnelDriesWrong)

/-- 'luciferlaw03.TunnelBests': WHATEVER THE INPUT: true; the input reads as it did. -/
def tunnelBestsSpec : ChangeSpec := { name := "tunnelBests", fn := fun _ => fun
  | [d] => { results := [.lit (.bool true)], args := [d] }
  | _ => none }
def tunnelBestsRow : OpenClaim := { program := "ytbcabikaaadiiaadoor", sum := "24211ba4bfa3b91c9564a6fca267f136180e58348b5f1748abf02abe6838be42", func := "lucifer/luciferlaw03.TunnelBests", spec := "tunnelBests", unfollowed := true, recurses := true, named := ["lucifer/tunnel.none", "lucifer/tunnel.ends"], plainKeys := false, apart := false, laid := [("lucifer/tunnel.none", laid_lucifer_tunnel_none), ("lucifer/tunnel.ends", laid_lucifer_tunnel_ends)] }
def TunnelBestsSaid : Prop := tunnelBestsRow.holds Tryd.pinned (OpenSpec.ofChange tunnelBestsSpec)

/-- ITS FALSE NEIGHBOUR: 'it returns false'. Refute it at one input. -/
def tunnelBestsWrong : ChangeSpec := { name := "tunnelBests", fn := fun _ => fun
  | [d] => { results := [.lit (.bool false)], args := [d] }
  | _ => none }
def TunnelBestsWrongFalsely : Prop := tunnelBestsRow.holds Tryd.pinned (OpenSpec.ofChange tunnelBestsWrong)

/-- 'luciferlaw03.TunnelAsks': WHATEVER THE INPUT: true; the input reads as it did. -/
def tunnelAsksSpec : ChangeSpec := { name := "tunnelAsks", fn := fun _ => fun
  | [d1, d2, d3] => { results := [.lit (.bool true)], args := [d1, d2, d3] }
  | _ => none }
def tunnelAsksRow : OpenClaim := { program := "ytbcabikaaadiiaadoor", sum := "24211ba4bfa3b91c9564a6fca267f136180e58348b5f1748abf02abe6838be42", func := "lucifer/luciferlaw03.TunnelAsks", spec := "tunnelAsks", unfollowed := true, recurses := true, named := ["lucifer/tunnel.none", "lucifer/tunnel.ends"], plainKeys := false, apart := false, laid := [("lucifer/tunnel.none", laid_lucifer_tunnel_none), ("lucifer/tunnel.ends", laid_lucifer_tunnel_ends)] }
def TunnelAsksSaid : Prop := tunnelAsksRow.holds Tryd.pinned (OpenSpec.ofChange tunnelAsksSpec)

/-- ITS FALSE NEIGHBOUR: 'it returns false'. Refute it at one input. -/
def tunnelAsksWrong : ChangeSpec := { name := "tunnelAsks", fn := fun _ => fun
  | [d1, d2, d3] => { results := [.lit (.bool false)], args := [d1, d2, d3] }
  | _ => none }
def TunnelAsksWrongFalsely : Prop := tunnelAsksRow.holds Tryd.pinned (OpenSpec.ofChange tunnelAsksWrong)

/-- 'luciferlaw03.TunnelTrue': WHATEVER THE INPUT: true; the input reads as it did. -/
def tunnelTrueSpec : ChangeSpec := { name := "tunnelTrue", fn := fun _ => fun
  | [d1, d2, d3] => { results := [.lit (.bool true)], args := [d1, d2, d3] }
  | _ => none }
def tunnelTrueRow : OpenClaim := { program := "ytbcabikaaadiiaadoor", sum := "24211ba4bfa3b91c9564a6fca267f136180e58348b5f1748abf02abe6838be42", func := "lucifer/luciferlaw03.TunnelTrue", spec := "tunnelTrue", unfollowed := true, recurses := true, named := ["lucifer/tunnel.none", "lucifer/tunnel.ends"], plainKeys := false, apart := false, laid := [("lucifer/tunnel.none", laid_lucifer_tunnel_none), ("lucifer/tunnel.ends", laid_lucifer_tunnel_ends)] }
def TunnelTrueSaid : Prop := tunnelTrueRow.holds Tryd.pinned (OpenSpec.ofChange tunnelTrueSpec)

/-- ITS FALSE NEIGHBOUR: 'it returns false'. Refute it at one input. -/
def tunnelTrueWrong : ChangeSpec := { name := "tunnelTrue", fn := fun _ => fun
  | [d1, d2, d3] => { results := [.lit (.bool false)], args := [d1, d2, d3] }
  | _ => none }
def TunnelTrueWrongFalsely : Prop := tunnelTrueRow.holds Tryd.pinned (OpenSpec.ofChange tunnelTrueWrong)

/-- 'luciferlaw03.TunnelEnds': WHATEVER THE INPUT: true; the input reads as it did. -/
def tunnelEndsSpec : ChangeSpec := { name := "tunnelEnds", fn := fun _ => fun
  | [d1, d2, d3] => { results := [.lit (.bool true)], args := [d1, d2, d3] }
  | _ => none }
def tunnelEndsRow : OpenClaim := { program := "ytbcabikaaadiiaadoor", sum := "24211ba4bfa3b91c9564a6fca267f136180e58348b5f1748abf02abe6838be42", func := "lucifer/luciferlaw03.TunnelEnds", spec := "tunnelEnds", unfollowed := true, recurses := true, named := ["lucifer/tunnel.none", "lucifer/tunnel.ends"], plainKeys := false, apart := false, laid := [("lucifer/tunnel.none", laid_lucifer_tunnel_none), ("lucifer/tunnel.ends", laid_lucifer_tunnel_ends)] }
def TunnelEndsSaid : Prop := tunnelEndsRow.holds Tryd.pinned (OpenSpec.ofChange tunnelEndsSpec)

/-- ITS FALSE NEIGHBOUR: 'it returns false'. Refute it at one input. -/
def tunnelEndsWrong : ChangeSpec := { name := "tunnelEnds", fn := fun _ => fun
  | [d1, d2, d3] => { results := [.lit (.bool false)], args := [d1, d2, d3] }
  | _ => none }
def TunnelEndsWrongFalsely : Prop := tunnelEndsRow.holds Tryd.pinned (OpenSpec.ofChange tunnelEndsWrong)

/-- 'luciferlaw03.TunnelBest': WHATEVER THE INPUT: true; the input reads as it did. -/
def tunnelBestSpec : ChangeSpec := { name := "tunnelBest", fn := fun _ => fun
  | [d1, d2] => { results := [.lit (.bool true)], args := [d1, d2] }
  | _ => none }
def tunnelBestRow : OpenClaim := { program := "ytbcabikaaadiiaadoor", sum := "24211ba4bfa3b91c9564a6fca267f136180e58348b5f1748abf02abe6838be42", func := "lucifer/luciferlaw03.TunnelBest", spec := "tunnelBest", unfollowed := true, recurses := true, named := ["lucifer/tunnel.none", "lucifer/tunnel.ends"], plainKeys := false, apart := false, laid := [("lucifer/tunnel.none", laid_lucifer_tunnel_none), ("lucifer/tunnel.ends", laid_lucifer_tunnel_ends)] }
def TunnelBestSaid : Prop := tunnelBestRow.holds Tryd.pinned (OpenSpec.ofChange tunnelBestSpec)

/-- ITS FALSE NEIGHBOUR: 'it returns false'. Refute it at one input. -/
def tunnelBestWrong : ChangeSpec := { name := "tunnelBest", fn := fun _ => fun
  | [d1, d2] => { results := [.lit (.bool false)], args := [d1, d2] }
  | _ => none }
def TunnelBestWrongFalsely : Prop := tunnelBestRow.holds Tryd.pinned (OpenSpec.ofChange tunnelBestWrong)

/-- 'luciferlaw03.TunnelClash': WHATEVER THE INPUT: true; the input reads as it did. -/
def tunnelClashSpec : ChangeSpec := { name := "tunnelClash", fn := fun _ => fun
  | [d1, d2, d3] => { results := [.lit (.bool true)], args := [d1, d2, d3] }
  | _ => none }
def tunnelClashRow : OpenClaim := { program := "ytbcabikaaadiiaadoor", sum := "24211ba4bfa3b91c9564a6fca267f136180e58348b5f1748abf02abe6838be42", func := "lucifer/luciferlaw03.TunnelClash", spec := "tunnelClash", unfollowed := true, recurses := true, named := ["lucifer/tunnel.none", "lucifer/tunnel.ends"], plainKeys := false, apart := false, laid := [("lucifer/tunnel.none", laid_lucifer_tunnel_none), ("lucifer/tunnel.ends", laid_lucifer_tunnel_ends)] }
def TunnelClashSaid : Prop := tunnelClashRow.holds Tryd.pinned (OpenSpec.ofChange tunnelClashSpec)

/-- ITS FALSE NEIGHBOUR: 'it returns false'. Refute it at one input. -/
def tunnelClashWrong : ChangeSpec := { name := "tunnelClash", fn := fun _ => fun
  | [d1, d2, d3] => { results := [.lit (.bool false)], args := [d1, d2, d3] }
  | _ => none }
def TunnelClashWrongFalsely : Prop := tunnelClashRow.holds Tryd.pinned (OpenSpec.ofChange tunnelClashWrong)

/-- 'lucifertop.TopFrames': WHATEVER THE INPUT: true; the input reads as it did. -/
def topFramesSpec : ChangeSpec := { name := "topFrames", fn := fun _ => fun
  | [d1, d2, d3, d4] => { results := [.lit (.bool true)], args := [d1, d2, d3, d4] }
  | _ => none }
def topFramesRow : OpenClaim := { program := "ytbcabikaaadiiaadoor", sum := "24211ba4bfa3b91c9564a6fca267f136180e58348b5f1748abf02abe6838be42", func := "lucifer/lucifertop.TopFrames", spec := "topFrames", unfollowed := true, recurses := true, named := ["lucifer/fill.ends", "lucifer/tunnel.none", "lucifer/tunnel.ends", "lucifer/peel.ends"], plainKeys := false, apart := false, laid := [("lucifer/peel.ends", laid_lucifer_peel_ends), ("lucifer/fill.ends", laid_lucifer_fill_ends), ("lucifer/tunnel.none", laid_lucifer_tunnel_none), ("lucifer/tunnel.ends", laid_lucifer_tunnel_ends)] }
def TopFramesSaid : Prop := topFramesRow.holds Tryd.pinned (OpenSpec.ofChange topFramesSpec)

/-- ITS FALSE NEIGHBOUR: 'it returns false'. Refute it at one input. -/
def topFramesWrong : ChangeSpec := { name := "topFrames", fn := fun _ => fun
  | [d1, d2, d3, d4] => { results := [.lit (.bool false)], args := [d1, d2, d3, d4] }
  | _ => none }
def TopFramesWrongFalsely : Prop := topFramesRow.holds Tryd.pinned (OpenSpec.ofChange topFramesWrong)

/-- 'luciferlaw03.TunnelLess': WHATEVER THE INPUT: true; the input reads as it did. -/
def tunnelLessSpec : ChangeSpec := { name := "tunnelLess", fn := fun _ => fun
  | [d1, d2] => { results := [.lit (.bool true)], args := [d1, d2] }
  | _ => none }
def tunnelLessRow : OpenClaim := { program := "ytbcabikaaadiiaadoor", sum := "24211ba4bfa3b91c9564a6fca267f136180e58348b5f1748abf02abe6838be42", func := "lucifer/luciferlaw03.TunnelLess", spec := "tunnelLess", unfollowed := true, recurses := true, named := ["lucifer/tunnel.none", "lucifer/tunnel.ends"], plainKeys := false, apart := false, laid := [("lucifer/tunnel.none", laid_lucifer_tunnel_none), ("lucifer/tunnel.ends", laid_lucifer_tunnel_ends)] }
def TunnelLessSaid : Prop := tunnelLessRow.holds Tryd.pinned (OpenSpec.ofChange tunnelLessSpec)

/-- ITS FALSE NEIGHBOUR: 'it returns false'. Refute it at one input. -/
def tunnelLessWrong : ChangeSpec := { name := "tunnelLess", fn := fun _ => fun
  | [d1, d2] => { results := [.lit (.bool false)], args := [d1, d2] }
  | _ => none }
def TunnelLessWrongFalsely : Prop := tunnelLessRow.holds Tryd.pinned (OpenSpec.ofChange tunnelLessWrong)

/-- 'luciferlaw03.TunnelLonger': WHATEVER THE INPUT: true; the input reads as it did. -/
def tunnelLongerSpec : ChangeSpec := { name := "tunnelLonger", fn := fun _ => fun
  | [d1, d2, d3] => { results := [.lit (.bool true)], args := [d1, d2, d3] }
  | _ => none }
def tunnelLongerRow : OpenClaim := { program := "ytbcabikaaadiiaadoor", sum := "24211ba4bfa3b91c9564a6fca267f136180e58348b5f1748abf02abe6838be42", func := "lucifer/luciferlaw03.TunnelLonger", spec := "tunnelLonger", unfollowed := true, recurses := true, named := ["lucifer/tunnel.none", "lucifer/tunnel.ends"], plainKeys := false, apart := false, laid := [("lucifer/tunnel.none", laid_lucifer_tunnel_none), ("lucifer/tunnel.ends", laid_lucifer_tunnel_ends)] }
def TunnelLongerSaid : Prop := tunnelLongerRow.holds Tryd.pinned (OpenSpec.ofChange tunnelLongerSpec)

/-- ITS FALSE NEIGHBOUR: 'it returns false'. Refute it at one input. -/
def tunnelLongerWrong : ChangeSpec := { name := "tunnelLonger", fn := fun _ => fun
  | [d1, d2, d3] => { results := [.lit (.bool false)], args := [d1, d2, d3] }
  | _ => none }
def TunnelLongerWrongFalsely : Prop := tunnelLongerRow.holds Tryd.pinned (OpenSpec.ofChange tunnelLongerWrong)

/-- 'lucifertop.TopCool': WHATEVER THE INPUT: true; the input reads as it did. -/
def topCoolSpec : ChangeSpec := { name := "topCool", fn := fun _ => fun
  | [d] => { results := [.lit (.bool true)], args := [d] }
  | _ => none }
def topCoolRow : OpenClaim := { program := "ytbcabikaaadiiaadoor", sum := "24211ba4bfa3b91c9564a6fca267f136180e58348b5f1748abf02abe6838be42", func := "lucifer/lucifertop.TopCool", spec := "topCool", unfollowed := true, recurses := true, named := ["lucifer/yard.wants", "lucifer/insure.causes", "lucifer/tunnel.none", "lucifer/tunnel.ends"], plainKeys := false, apart := false, laid := [("lucifer/tunnel.none", laid_lucifer_tunnel_none), ("lucifer/tunnel.ends", laid_lucifer_tunnel_ends), ("lucifer/yard.wants", laid_lucifer_yard_wants), ("lucifer/insure.causes", laid_lucifer_insure_causes)] }
def TopCoolSaid : Prop := topCoolRow.holds Tryd.pinned (OpenSpec.ofChange topCoolSpec)

/-- ITS FALSE NEIGHBOUR: 'it returns false'. Refute it at one input. -/
def topCoolWrong : ChangeSpec := { name := "topCool", fn := fun _ => fun
  | [d] => { results := [.lit (.bool false)], args := [d] }
  | _ => none }
def TopCoolWrongFalsely : Prop := topCoolRow.holds Tryd.pinned (OpenSpec.ofChange topCoolWrong)

/-- 'luciferlaw03.TunnelHotter': WHATEVER THE INPUT: true; the input reads as it did. -/
def tunnelHotterSpec : ChangeSpec := { name := "tunnelHotter", fn := fun _ => fun
  | [d1, d2, d3] => { results := [.lit (.bool true)], args := [d1, d2, d3] }
  | _ => none }
def tunnelHotterRow : OpenClaim := { program := "ytbcabikaaadiiaadoor", sum := "24211ba4bfa3b91c9564a6fca267f136180e58348b5f1748abf02abe6838be42", func := "lucifer/luciferlaw03.TunnelHotter", spec := "tunnelHotter", unfollowed := true, recurses := true, named := ["lucifer/tunnel.none", "lucifer/tunnel.ends"], plainKeys := false, apart := false, laid := [("lucifer/tunnel.none", laid_lucifer_tunnel_none), ("lucifer/tunnel.ends", laid_lucifer_tunnel_ends)] }
def TunnelHotterSaid : Prop := tunnelHotterRow.holds Tryd.pinned (OpenSpec.ofChange tunnelHotterSpec)

/-- ITS FALSE NEIGHBOUR: 'it returns false'. Refute it at one input. -/
def tunnelHotterWrong : ChangeSpec := { name := "tunnelHotter", fn := fun _ => fun
  | [d1, d2, d3] => { results := [.lit (.bool false)], args := [d1, d2, d3] }
  | _ => none }
def TunnelHotterWrongFalsely : Prop := tunnelHotterRow.holds Tryd.pinned (OpenSpec.ofChange tunnelHotterWrong)

/-- 'luciferlaw03.TunnelAsk': WHATEVER THE INPUT: true; the input reads as it did. -/
def tunnelAskSpec : ChangeSpec := { name := "tunnelAsk", fn := fun _ => fun
  | [d1, d2] => { results := [.lit (.bool true)], args := [d1, d2] }
  | _ => none }
def tunnelAskRow : OpenClaim := { program := "ytbcabikaaadiiaadoor", sum := "24211ba4bfa3b91c9564a6fca267f136180e58348b5f1748abf02abe6838be42", func := "lucifer/luciferlaw03.TunnelAsk", spec := "tunnelAsk", unfollowed := true, recurses := true, named := ["lucifer/tunnel.none", "lucifer/tunnel.ends"], plainKeys := false, apart := false, laid := [("lucifer/tunnel.none", laid_lucifer_tunnel_none), ("lucifer/tunnel.ends", laid_lucifer_tunnel_ends)] }
def TunnelAskSaid : Prop := tunnelAskRow.holds Tryd.pinned (OpenSpec.ofChange tunnelAskSpec)

/-- ITS FALSE NEIGHBOUR: 'it returns false'. Refute it at one input. -/
def tunnelAskWrong : ChangeSpec := { name := "tunnelAsk", fn := fun _ => fun
  | [d1, d2] => { results := [.lit (.bool false)], args := [d1, d2] }
  | _ => none }
def TunnelAskWrongFalsely : Prop := tunnelAskRow.holds Tryd.pinned (OpenSpec.ofChange tunnelAskWrong)

/-- 'luciferlaw03.TunnelKnown': WHATEVER THE INPUT: true; the input reads as it did. -/
def tunnelKnownSpec : ChangeSpec := { name := "tunnelKnown", fn := fun _ => fun
  | [] => { results := [.lit (.bool true)], args := [] }
  | _ => none }
def tunnelKnownRow : OpenClaim := { program := "ytbcabikaaadiiaadoor", sum := "24211ba4bfa3b91c9564a6fca267f136180e58348b5f1748abf02abe6838be42", func := "lucifer/luciferlaw03.TunnelKnown", spec := "tunnelKnown", unfollowed := true, recurses := true, named := ["lucifer/tunnel.none", "lucifer/tunnel.ends"], plainKeys := false, apart := false, laid := [("lucifer/tunnel.none", laid_lucifer_tunnel_none), ("lucifer/tunnel.ends", laid_lucifer_tunnel_ends)] }
def TunnelKnownSaid : Prop := tunnelKnownRow.holds Tryd.pinned (OpenSpec.ofChange tunnelKnownSpec)

/-- ITS FALSE NEIGHBOUR: 'it returns false'. Refute it at one input. -/
def tunnelKnownWrong : ChangeSpec := { name := "tunnelKnown", fn := fun _ => fun
  | [] => { results := [.lit (.bool false)], args := [] }
  | _ => none }
def TunnelKnownWrongFalsely : Prop := tunnelKnownRow.holds Tryd.pinned (OpenSpec.ofChange tunnelKnownWrong)

/-- 'lucifertop.TopAlone': WHATEVER THE INPUT: true; the input reads as it did. -/
def topAloneSpec : ChangeSpec := { name := "topAlone", fn := fun _ => fun
  | [d1, d2, d3] => { results := [.lit (.bool true)], args := [d1, d2, d3] }
  | _ => none }
def topAloneRow : OpenClaim := { program := "ytbcabikaaadiiaadoor", sum := "24211ba4bfa3b91c9564a6fca267f136180e58348b5f1748abf02abe6838be42", func := "lucifer/lucifertop.TopAlone", spec := "topAlone", unfollowed := true, recurses := true, named := ["lucifer/yard.wants", "lucifer/insure.causes", "lucifer/tunnel.none", "lucifer/tunnel.ends"], plainKeys := false, apart := false, laid := [("lucifer/tunnel.none", laid_lucifer_tunnel_none), ("lucifer/tunnel.ends", laid_lucifer_tunnel_ends), ("lucifer/yard.wants", laid_lucifer_yard_wants), ("lucifer/insure.causes", laid_lucifer_insure_causes)] }
def TopAloneSaid : Prop := topAloneRow.holds Tryd.pinned (OpenSpec.ofChange topAloneSpec)

/-- ITS FALSE NEIGHBOUR: 'it returns false'. Refute it at one input. -/
def topAloneWrong : ChangeSpec := { name := "topAlone", fn := fun _ => fun
  | [d1, d2, d3] => { results := [.lit (.bool false)], args := [d1, d2, d3] }
  | _ => none }
def TopAloneWrongFalsely : Prop := topAloneRow.holds Tryd.pinned (OpenSpec.ofChange topAloneWrong)

/-- 'lucifertop.TopFits': WHATEVER THE INPUT: true; the input reads as it did. -/
def topFitsSpec : ChangeSpec := { name := "topFits", fn := fun _ => fun
  | [d1, d2, d3] => { results := [.lit (.bool true)], args := [d1, d2, d3] }
  | _ => none }
def topFitsRow : OpenClaim := { program := "ytbcabikaaadiiaadoor", sum := "24211ba4bfa3b91c9564a6fca267f136180e58348b5f1748abf02abe6838be42", func := "lucifer/lucifertop.TopFits", spec := "topFits", unfollowed := true, recurses := true, named := ["lucifer/yard.wants", "lucifer/insure.causes", "lucifer/tunnel.none", "lucifer/tunnel.ends"], plainKeys := false, apart := false, laid := [("lucifer/tunnel.none", laid_lucifer_tunnel_none), ("lucifer/tunnel.ends", laid_lucifer_tunnel_ends), ("lucifer/yard.wants", laid_lucifer_yard_wants), ("lucifer/insure.causes", laid_lucifer_insure_causes)] }
def TopFitsSaid : Prop := topFitsRow.holds Tryd.pinned (OpenSpec.ofChange topFitsSpec)

/-- ITS FALSE NEIGHBOUR: 'it returns false'. Refute it at one input. -/
def topFitsWrong : ChangeSpec := { name := "topFits", fn := fun _ => fun
  | [d1, d2, d3] => { results := [.lit (.bool false)], args := [d1, d2, d3] }
  | _ => none }
def TopFitsWrongFalsely : Prop := topFitsRow.holds Tryd.pinned (OpenSpec.ofChange topFitsWrong)

/- THE SECOND FORM. 'bulk': how many values and letters a reading holds, each counted each time it is reached (what is shared counts as often as it is met; a slice's spare places count too). A statement '..UptoSaid' is the law's where the arguments, and the package variables that the reading takes, are together of bulk at most 1048576: NARROWER than '..Said'. Prove '..Said' where nothing that the law and all that it calls make is longer than what came in: it says more and counts as full. Else prove '..UptoSaid'. A law counts once. -/
mutual
def uptoBulk {H : Type} : DataW H → Nat
  | .lit (.string bytes) => bytes.length + 1
  | .lit _ => 1
  | .nil => 1
  | .ptr d => uptoBulk d + 1
  | .slice elems spare => uptoBulkAll elems + uptoBulkAll spare + 1
  | .agg parts => uptoBulkAll parts + 1
  | .iface _ d => uptoBulk d + 1
  | .map entries => uptoBulkEntries entries + 1
  | .held _ => 1
def uptoBulkAll {H : Type} : List (DataW H) → Nat
  | [] => 0
  | d :: r => uptoBulk d + uptoBulkAll r
def uptoBulkEntries {H : Type} : List (Lit × DataW H) → Nat
  | [] => 0
  | x :: r => uptoBulkEntry x + uptoBulkEntries r
def uptoBulkEntry {H : Type} : Lit × DataW H → Nat
  | (.string bytes, d) => bytes.length + uptoBulk d + 1
  | (_, d) => uptoBulk d + 1
 end
def uptoSmall : (H : Type) → List (DataW H) → Bool := fun _ ds => decide (uptoBulkAll ds ≤ 1048576)
def OpenSpec.upto (s : _root_.Go.ChangeSpec) : _root_.Go.OpenSpec := { _root_.Go.OpenSpec.ofChange s with cond := some uptoSmall }

/-- 'luciferlaw03.TunnelDries', WHERE WHAT IT READS IS OF BULK AT MOST 1048576: true; the input reads as it did. -/
def tunnelDriesUptoRow : OpenClaim := { program := "ytbcabikaaadiiaadoor", sum := "24211ba4bfa3b91c9564a6fca267f136180e58348b5f1748abf02abe6838be42", func := "lucifer/luciferlaw03.TunnelDries", spec := "tunnelDries", unfollowed := true, recurses := true, named := ["lucifer/tunnel.none", "lucifer/tunnel.ends"], plainKeys := false, apart := false, laid := [("lucifer/tunnel.none", laid_lucifer_tunnel_none), ("lucifer/tunnel.ends", laid_lucifer_tunnel_ends)], narrowed := true }
def TunnelDriesUptoSaid : Prop := tunnelDriesUptoRow.holds Tryd.pinned (OpenSpec.upto tunnelDriesSpec)

/-- 'luciferlaw03.TunnelBests', WHERE WHAT IT READS IS OF BULK AT MOST 1048576: true; the input reads as it did. -/
def tunnelBestsUptoRow : OpenClaim := { program := "ytbcabikaaadiiaadoor", sum := "24211ba4bfa3b91c9564a6fca267f136180e58348b5f1748abf02abe6838be42", func := "lucifer/luciferlaw03.TunnelBests", spec := "tunnelBests", unfollowed := true, recurses := true, named := ["lucifer/tunnel.none", "lucifer/tunnel.ends"], plainKeys := false, apart := false, laid := [("lucifer/tunnel.none", laid_lucifer_tunnel_none), ("lucifer/tunnel.ends", laid_lucifer_tunnel_ends)], narrowed := true }
def TunnelBestsUptoSaid : Prop := tunnelBestsUptoRow.holds Tryd.pinned (OpenSpec.upto tunnelBestsSpec)

/-- 'luciferlaw03.TunnelAsks', WHERE WHAT IT READS IS OF BULK AT MOST 1048576: true; the input reads as it did. -/
def tunnelAsksUptoRow : OpenClaim := { program := "ytbcabikaaadiiaadoor", sum := "24211ba4bfa3b91c9564a6fca267f136180e58348b5f1748abf02abe6838be42", func := "lucifer/luciferlaw03.TunnelAsks", spec := "tunnelAsks", unfollowed := true, recurses := true, named := ["lucifer/tunnel.none", "lucifer/tunnel.ends"], plainKeys := false, apart := false, laid := [("lucifer/tunnel.none", laid_lucifer_tunnel_none), ("lucifer/tunnel.ends", laid_lucifer_tunnel_ends)], narrowed := true }
def TunnelAsksUptoSaid : Prop := tunnelAsksUptoRow.holds Tryd.pinned (OpenSpec.upto tunnelAsksSpec)

/-- 'luciferlaw03.TunnelTrue', WHERE WHAT IT READS IS OF BULK AT MOST 1048576: true; the input reads as it did. -/
def tunnelTrueUptoRow : OpenClaim := { program := "ytbcabikaaadiiaadoor", sum := "24211ba4bfa3b91c9564a6fca267f136180e58348b5f1748abf02abe6838be42", func := "lucifer/luciferlaw03.TunnelTrue", spec := "tunnelTrue", unfollowed := true, recurses := true, named := ["lucifer/tunnel.none", "lucifer/tunnel.ends"], plainKeys := false, apart := false, laid := [("lucifer/tunnel.none", laid_lucifer_tunnel_none), ("lucifer/tunnel.ends", laid_lucifer_tunnel_ends)], narrowed := true }
def TunnelTrueUptoSaid : Prop := tunnelTrueUptoRow.holds Tryd.pinned (OpenSpec.upto tunnelTrueSpec)

/-- 'luciferlaw03.TunnelEnds', WHERE WHAT IT READS IS OF BULK AT MOST 1048576: true; the input reads as it did. -/
def tunnelEndsUptoRow : OpenClaim := { program := "ytbcabikaaadiiaadoor", sum := "24211ba4bfa3b91c9564a6fca267f136180e58348b5f1748abf02abe6838be42", func := "lucifer/luciferlaw03.TunnelEnds", spec := "tunnelEnds", unfollowed := true, recurses := true, named := ["lucifer/tunnel.none", "lucifer/tunnel.ends"], plainKeys := false, apart := false, laid := [("lucifer/tunnel.none", laid_lucifer_tunnel_none), ("lucifer/tunnel.ends", laid_lucifer_tunnel_ends)], narrowed := true }
def TunnelEndsUptoSaid : Prop := tunnelEndsUptoRow.holds Tryd.pinned (OpenSpec.upto tunnelEndsSpec)

/-- 'luciferlaw03.TunnelBest', WHERE WHAT IT READS IS OF BULK AT MOST 1048576: true; the input reads as it did. -/
def tunnelBestUptoRow : OpenClaim := { program := "ytbcabikaaadiiaadoor", sum := "24211ba4bfa3b91c9564a6fca267f136180e58348b5f1748abf02abe6838be42", func := "lucifer/luciferlaw03.TunnelBest", spec := "tunnelBest", unfollowed := true, recurses := true, named := ["lucifer/tunnel.none", "lucifer/tunnel.ends"], plainKeys := false, apart := false, laid := [("lucifer/tunnel.none", laid_lucifer_tunnel_none), ("lucifer/tunnel.ends", laid_lucifer_tunnel_ends)], narrowed := true }
def TunnelBestUptoSaid : Prop := tunnelBestUptoRow.holds Tryd.pinned (OpenSpec.upto tunnelBestSpec)

/-- 'luciferlaw03.TunnelClash', WHERE WHAT IT READS IS OF BULK AT MOST 1048576: true; the input reads as it did. -/
def tunnelClashUptoRow : OpenClaim := { program := "ytbcabikaaadiiaadoor", sum := "24211ba4bfa3b91c9564a6fca267f136180e58348b5f1748abf02abe6838be42", func := "lucifer/luciferlaw03.TunnelClash", spec := "tunnelClash", unfollowed := true, recurses := true, named := ["lucifer/tunnel.none", "lucifer/tunnel.ends"], plainKeys := false, apart := false, laid := [("lucifer/tunnel.none", laid_lucifer_tunnel_none), ("lucifer/tunnel.ends", laid_lucifer_tunnel_ends)], narrowed := true }
def TunnelClashUptoSaid : Prop := tunnelClashUptoRow.holds Tryd.pinned (OpenSpec.upto tunnelClashSpec)

/-- 'lucifertop.TopFrames', WHERE WHAT IT READS IS OF BULK AT MOST 1048576: true; the input reads as it did. -/
def topFramesUptoRow : OpenClaim := { program := "ytbcabikaaadiiaadoor", sum := "24211ba4bfa3b91c9564a6fca267f136180e58348b5f1748abf02abe6838be42", func := "lucifer/lucifertop.TopFrames", spec := "topFrames", unfollowed := true, recurses := true, named := ["lucifer/fill.ends", "lucifer/tunnel.none", "lucifer/tunnel.ends", "lucifer/peel.ends"], plainKeys := false, apart := false, laid := [("lucifer/peel.ends", laid_lucifer_peel_ends), ("lucifer/fill.ends", laid_lucifer_fill_ends), ("lucifer/tunnel.none", laid_lucifer_tunnel_none), ("lucifer/tunnel.ends", laid_lucifer_tunnel_ends)], narrowed := true }
def TopFramesUptoSaid : Prop := topFramesUptoRow.holds Tryd.pinned (OpenSpec.upto topFramesSpec)

/-- 'luciferlaw03.TunnelLess', WHERE WHAT IT READS IS OF BULK AT MOST 1048576: true; the input reads as it did. -/
def tunnelLessUptoRow : OpenClaim := { program := "ytbcabikaaadiiaadoor", sum := "24211ba4bfa3b91c9564a6fca267f136180e58348b5f1748abf02abe6838be42", func := "lucifer/luciferlaw03.TunnelLess", spec := "tunnelLess", unfollowed := true, recurses := true, named := ["lucifer/tunnel.none", "lucifer/tunnel.ends"], plainKeys := false, apart := false, laid := [("lucifer/tunnel.none", laid_lucifer_tunnel_none), ("lucifer/tunnel.ends", laid_lucifer_tunnel_ends)], narrowed := true }
def TunnelLessUptoSaid : Prop := tunnelLessUptoRow.holds Tryd.pinned (OpenSpec.upto tunnelLessSpec)

/-- 'luciferlaw03.TunnelLonger', WHERE WHAT IT READS IS OF BULK AT MOST 1048576: true; the input reads as it did. -/
def tunnelLongerUptoRow : OpenClaim := { program := "ytbcabikaaadiiaadoor", sum := "24211ba4bfa3b91c9564a6fca267f136180e58348b5f1748abf02abe6838be42", func := "lucifer/luciferlaw03.TunnelLonger", spec := "tunnelLonger", unfollowed := true, recurses := true, named := ["lucifer/tunnel.none", "lucifer/tunnel.ends"], plainKeys := false, apart := false, laid := [("lucifer/tunnel.none", laid_lucifer_tunnel_none), ("lucifer/tunnel.ends", laid_lucifer_tunnel_ends)], narrowed := true }
def TunnelLongerUptoSaid : Prop := tunnelLongerUptoRow.holds Tryd.pinned (OpenSpec.upto tunnelLongerSpec)

/-- 'lucifertop.TopCool', WHERE WHAT IT READS IS OF BULK AT MOST 1048576: true; the input reads as it did. -/
def topCoolUptoRow : OpenClaim := { program := "ytbcabikaaadiiaadoor", sum := "24211ba4bfa3b91c9564a6fca267f136180e58348b5f1748abf02abe6838be42", func := "lucifer/lucifertop.TopCool", spec := "topCool", unfollowed := true, recurses := true, named := ["lucifer/yard.wants", "lucifer/insure.causes", "lucifer/tunnel.none", "lucifer/tunnel.ends"], plainKeys := false, apart := false, laid := [("lucifer/tunnel.none", laid_lucifer_tunnel_none), ("lucifer/tunnel.ends", laid_lucifer_tunnel_ends), ("lucifer/yard.wants", laid_lucifer_yard_wants), ("lucifer/insure.causes", laid_lucifer_insure_causes)], narrowed := true }
def TopCoolUptoSaid : Prop := topCoolUptoRow.holds Tryd.pinned (OpenSpec.upto topCoolSpec)

/-- 'luciferlaw03.TunnelHotter', WHERE WHAT IT READS IS OF BULK AT MOST 1048576: true; the input reads as it did. -/
def tunnelHotterUptoRow : OpenClaim := { program := "ytbcabikaaadiiaadoor", sum := "24211ba4bfa3b91c9564a6fca267f136180e58348b5f1748abf02abe6838be42", func := "lucifer/luciferlaw03.TunnelHotter", spec := "tunnelHotter", unfollowed := true, recurses := true, named := ["lucifer/tunnel.none", "lucifer/tunnel.ends"], plainKeys := false, apart := false, laid := [("lucifer/tunnel.none", laid_lucifer_tunnel_none), ("lucifer/tunnel.ends", laid_lucifer_tunnel_ends)], narrowed := true }
def TunnelHotterUptoSaid : Prop := tunnelHotterUptoRow.holds Tryd.pinned (OpenSpec.upto tunnelHotterSpec)

/-- 'luciferlaw03.TunnelAsk', WHERE WHAT IT READS IS OF BULK AT MOST 1048576: true; the input reads as it did. -/
def tunnelAskUptoRow : OpenClaim := { program := "ytbcabikaaadiiaadoor", sum := "24211ba4bfa3b91c9564a6fca267f136180e58348b5f1748abf02abe6838be42", func := "lucifer/luciferlaw03.TunnelAsk", spec := "tunnelAsk", unfollowed := true, recurses := true, named := ["lucifer/tunnel.none", "lucifer/tunnel.ends"], plainKeys := false, apart := false, laid := [("lucifer/tunnel.none", laid_lucifer_tunnel_none), ("lucifer/tunnel.ends", laid_lucifer_tunnel_ends)], narrowed := true }
def TunnelAskUptoSaid : Prop := tunnelAskUptoRow.holds Tryd.pinned (OpenSpec.upto tunnelAskSpec)

/-- 'luciferlaw03.TunnelKnown', WHERE WHAT IT READS IS OF BULK AT MOST 1048576: true; the input reads as it did. -/
def tunnelKnownUptoRow : OpenClaim := { program := "ytbcabikaaadiiaadoor", sum := "24211ba4bfa3b91c9564a6fca267f136180e58348b5f1748abf02abe6838be42", func := "lucifer/luciferlaw03.TunnelKnown", spec := "tunnelKnown", unfollowed := true, recurses := true, named := ["lucifer/tunnel.none", "lucifer/tunnel.ends"], plainKeys := false, apart := false, laid := [("lucifer/tunnel.none", laid_lucifer_tunnel_none), ("lucifer/tunnel.ends", laid_lucifer_tunnel_ends)], narrowed := true }
def TunnelKnownUptoSaid : Prop := tunnelKnownUptoRow.holds Tryd.pinned (OpenSpec.upto tunnelKnownSpec)

/-- 'lucifertop.TopAlone', WHERE WHAT IT READS IS OF BULK AT MOST 1048576: true; the input reads as it did. -/
def topAloneUptoRow : OpenClaim := { program := "ytbcabikaaadiiaadoor", sum := "24211ba4bfa3b91c9564a6fca267f136180e58348b5f1748abf02abe6838be42", func := "lucifer/lucifertop.TopAlone", spec := "topAlone", unfollowed := true, recurses := true, named := ["lucifer/yard.wants", "lucifer/insure.causes", "lucifer/tunnel.none", "lucifer/tunnel.ends"], plainKeys := false, apart := false, laid := [("lucifer/tunnel.none", laid_lucifer_tunnel_none), ("lucifer/tunnel.ends", laid_lucifer_tunnel_ends), ("lucifer/yard.wants", laid_lucifer_yard_wants), ("lucifer/insure.causes", laid_lucifer_insure_causes)], narrowed := true }
def TopAloneUptoSaid : Prop := topAloneUptoRow.holds Tryd.pinned (OpenSpec.upto topAloneSpec)

/-- 'lucifertop.TopFits', WHERE WHAT IT READS IS OF BULK AT MOST 1048576: true; the input reads as it did. -/
def topFitsUptoRow : OpenClaim := { program := "ytbcabikaaadiiaadoor", sum := "24211ba4bfa3b91c9564a6fca267f136180e58348b5f1748abf02abe6838be42", func := "lucifer/lucifertop.TopFits", spec := "topFits", unfollowed := true, recurses := true, named := ["lucifer/yard.wants", "lucifer/insure.causes", "lucifer/tunnel.none", "lucifer/tunnel.ends"], plainKeys := false, apart := false, laid := [("lucifer/tunnel.none", laid_lucifer_tunnel_none), ("lucifer/tunnel.ends", laid_lucifer_tunnel_ends), ("lucifer/yard.wants", laid_lucifer_yard_wants), ("lucifer/insure.causes", laid_lucifer_insure_causes)], narrowed := true }
def TopFitsUptoSaid : Prop := topFitsUptoRow.holds Tryd.pinned (OpenSpec.upto topFitsSpec)

end Rows
end Go.Proofs.YtbcabikaaadiiaaDoor
