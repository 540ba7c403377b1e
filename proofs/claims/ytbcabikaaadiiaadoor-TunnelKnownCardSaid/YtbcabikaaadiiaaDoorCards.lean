/-
  DERIVED. GIVEN WITH THE SEED: THE CARDS: each row of YtbcabikaaadiiaaDoorRows.lean that lists a variable, with what it lists TIED to the program's text (the seventh form; the later family's looks); each row that meets fmt, with fmt's text TOLD by the authors' own Lean function (tested against real Go, not proved from fmt's source: count such statements apart). THE CARD IS WHAT COUNTS. Prove the row's statement (the work); the ties are given (YtbcabikaaadiiaaDoorTie.lean); close each card by the builder's one call (the guide's Derived/Test/ToyasCard.lean, 'card_holds'). Laid BY PROGRAM, IN A SANDBOX (cutbox-door.mjs). By AI agents, Wed Nov 11 2026. No macro, syntax, notation, axiom, sorry.
-/
import Derived.Test.YtbcabikaaadiiaaDoorRows
import GoSem.ClaimSeven
namespace Go.Proofs.YtbcabikaaadiiaaDoor
namespace Rows

/-- THE TIED CARD OF 'luciferlaw03.TunnelDries'. -/
def tunnelDriesCard : Claim7 := { stood := { row := tunnelDriesRow, standIns := [], harness := (true, "c4df599d689d9743511037877c92d06976f223b5ab9256e0bf12e956f1c77bbf"), looks := false }, kinds := [], alts := [], laidByText := true, laidKinds := [.data, .funcs], laidTests := true, laidLooks := .later }
def TunnelDriesCardSaid : Prop := Claim7.holds Tryd.pinned (.plain (OpenSpec.ofChange tunnelDriesSpec)) tunnelDriesCard

/-- THE TIED CARD OF 'luciferlaw03.TunnelBests'. -/
def tunnelBestsCard : Claim7 := { stood := { row := tunnelBestsRow, standIns := [], harness := (true, "c4df599d689d9743511037877c92d06976f223b5ab9256e0bf12e956f1c77bbf"), looks := false }, kinds := [], alts := [], laidByText := true, laidKinds := [.data, .funcs], laidTests := true, laidLooks := .later }
def TunnelBestsCardSaid : Prop := Claim7.holds Tryd.pinned (.plain (OpenSpec.ofChange tunnelBestsSpec)) tunnelBestsCard

/-- THE TIED CARD OF 'luciferlaw03.TunnelAsks'. -/
def tunnelAsksCard : Claim7 := { stood := { row := tunnelAsksRow, standIns := [], harness := (true, "c4df599d689d9743511037877c92d06976f223b5ab9256e0bf12e956f1c77bbf"), looks := false }, kinds := [], alts := [], laidByText := true, laidKinds := [.data, .funcs], laidTests := true, laidLooks := .later }
def TunnelAsksCardSaid : Prop := Claim7.holds Tryd.pinned (.plain (OpenSpec.ofChange tunnelAsksSpec)) tunnelAsksCard

/-- THE TIED CARD OF 'luciferlaw03.TunnelTrue'. -/
def tunnelTrueCard : Claim7 := { stood := { row := tunnelTrueRow, standIns := [], harness := (true, "c4df599d689d9743511037877c92d06976f223b5ab9256e0bf12e956f1c77bbf"), looks := false }, kinds := [], alts := [], laidByText := true, laidKinds := [.data, .funcs], laidTests := true, laidLooks := .later }
def TunnelTrueCardSaid : Prop := Claim7.holds Tryd.pinned (.plain (OpenSpec.ofChange tunnelTrueSpec)) tunnelTrueCard

/-- THE TIED CARD OF 'luciferlaw03.TunnelEnds'. -/
def tunnelEndsCard : Claim7 := { stood := { row := tunnelEndsRow, standIns := [], harness := (true, "c4df599d689d9743511037877c92d06976f223b5ab9256e0bf12e956f1c77bbf"), looks := false }, kinds := [], alts := [], laidByText := true, laidKinds := [.data, .funcs], laidTests := true, laidLooks := .later }
def TunnelEndsCardSaid : Prop := Claim7.holds Tryd.pinned (.plain (OpenSpec.ofChange tunnelEndsSpec)) tunnelEndsCard

/-- THE TIED CARD OF 'luciferlaw03.TunnelBest'. -/
def tunnelBestCard : Claim7 := { stood := { row := tunnelBestRow, standIns := [], harness := (true, "c4df599d689d9743511037877c92d06976f223b5ab9256e0bf12e956f1c77bbf"), looks := false }, kinds := [], alts := [], laidByText := true, laidKinds := [.data, .funcs], laidTests := true, laidLooks := .later }
def TunnelBestCardSaid : Prop := Claim7.holds Tryd.pinned (.plain (OpenSpec.ofChange tunnelBestSpec)) tunnelBestCard

/-- THE TIED CARD OF 'luciferlaw03.TunnelClash'. -/
def tunnelClashCard : Claim7 := { stood := { row := tunnelClashRow, standIns := [], harness := (true, "c4df599d689d9743511037877c92d06976f223b5ab9256e0bf12e956f1c77bbf"), looks := false }, kinds := [], alts := [], laidByText := true, laidKinds := [.data, .funcs], laidTests := true, laidLooks := .later }
def TunnelClashCardSaid : Prop := Claim7.holds Tryd.pinned (.plain (OpenSpec.ofChange tunnelClashSpec)) tunnelClashCard

/-- THE TIED CARD OF 'lucifertop.TopFrames'. -/
def topFramesCard : Claim7 := { stood := { row := topFramesRow, standIns := [], harness := (true, "c4df599d689d9743511037877c92d06976f223b5ab9256e0bf12e956f1c77bbf"), looks := false }, kinds := [], alts := [], laidByText := true, laidKinds := [.funcs, .funcs, .data, .funcs], laidTests := true, laidLooks := .later }
def TopFramesCardSaid : Prop := Claim7.holds Tryd.pinned (.plain (OpenSpec.ofChange topFramesSpec)) topFramesCard

/-- THE TIED CARD OF 'luciferlaw03.TunnelLess'. -/
def tunnelLessCard : Claim7 := { stood := { row := tunnelLessRow, standIns := [], harness := (true, "c4df599d689d9743511037877c92d06976f223b5ab9256e0bf12e956f1c77bbf"), looks := false }, kinds := [], alts := [], laidByText := true, laidKinds := [.data, .funcs], laidTests := true, laidLooks := .later }
def TunnelLessCardSaid : Prop := Claim7.holds Tryd.pinned (.plain (OpenSpec.ofChange tunnelLessSpec)) tunnelLessCard

/-- THE TIED CARD OF 'luciferlaw03.TunnelLonger'. -/
def tunnelLongerCard : Claim7 := { stood := { row := tunnelLongerRow, standIns := [], harness := (true, "c4df599d689d9743511037877c92d06976f223b5ab9256e0bf12e956f1c77bbf"), looks := false }, kinds := [], alts := [], laidByText := true, laidKinds := [.data, .funcs], laidTests := true, laidLooks := .later }
def TunnelLongerCardSaid : Prop := Claim7.holds Tryd.pinned (.plain (OpenSpec.ofChange tunnelLongerSpec)) tunnelLongerCard

/-- THE TIED CARD OF 'lucifertop.TopCool'. -/
def topCoolCard : Claim7 := { stood := { row := topCoolRow, standIns := [], harness := (true, "c4df599d689d9743511037877c92d06976f223b5ab9256e0bf12e956f1c77bbf"), looks := false }, kinds := [], alts := [], laidByText := true, laidKinds := [.data, .funcs, .funcs, .funcs], laidTests := true, laidLooks := .later }
def TopCoolCardSaid : Prop := Claim7.holds Tryd.pinned (.plain (OpenSpec.ofChange topCoolSpec)) topCoolCard

/-- THE TIED CARD OF 'luciferlaw03.TunnelHotter'. -/
def tunnelHotterCard : Claim7 := { stood := { row := tunnelHotterRow, standIns := [], harness := (true, "c4df599d689d9743511037877c92d06976f223b5ab9256e0bf12e956f1c77bbf"), looks := false }, kinds := [], alts := [], laidByText := true, laidKinds := [.data, .funcs], laidTests := true, laidLooks := .later }
def TunnelHotterCardSaid : Prop := Claim7.holds Tryd.pinned (.plain (OpenSpec.ofChange tunnelHotterSpec)) tunnelHotterCard

/-- THE TIED CARD OF 'luciferlaw03.TunnelAsk'. -/
def tunnelAskCard : Claim7 := { stood := { row := tunnelAskRow, standIns := [], harness := (true, "c4df599d689d9743511037877c92d06976f223b5ab9256e0bf12e956f1c77bbf"), looks := false }, kinds := [], alts := [], laidByText := true, laidKinds := [.data, .funcs], laidTests := true, laidLooks := .later }
def TunnelAskCardSaid : Prop := Claim7.holds Tryd.pinned (.plain (OpenSpec.ofChange tunnelAskSpec)) tunnelAskCard

/-- THE TIED CARD OF 'luciferlaw03.TunnelKnown'. -/
def tunnelKnownCard : Claim7 := { stood := { row := tunnelKnownRow, standIns := [], harness := (true, "c4df599d689d9743511037877c92d06976f223b5ab9256e0bf12e956f1c77bbf"), looks := false }, kinds := [], alts := [], laidByText := true, laidKinds := [.data, .funcs], laidTests := true, laidLooks := .later }
def TunnelKnownCardSaid : Prop := Claim7.holds Tryd.pinned (.plain (OpenSpec.ofChange tunnelKnownSpec)) tunnelKnownCard

/-- THE TIED CARD OF 'lucifertop.TopAlone'. -/
def topAloneCard : Claim7 := { stood := { row := topAloneRow, standIns := [], harness := (true, "c4df599d689d9743511037877c92d06976f223b5ab9256e0bf12e956f1c77bbf"), looks := false }, kinds := [], alts := [], laidByText := true, laidKinds := [.data, .funcs, .funcs, .funcs], laidTests := true, laidLooks := .later }
def TopAloneCardSaid : Prop := Claim7.holds Tryd.pinned (.plain (OpenSpec.ofChange topAloneSpec)) topAloneCard

/-- THE TIED CARD OF 'lucifertop.TopFits'. -/
def topFitsCard : Claim7 := { stood := { row := topFitsRow, standIns := [], harness := (true, "c4df599d689d9743511037877c92d06976f223b5ab9256e0bf12e956f1c77bbf"), looks := false }, kinds := [], alts := [], laidByText := true, laidKinds := [.data, .funcs, .funcs, .funcs], laidTests := true, laidLooks := .later }
def TopFitsCardSaid : Prop := Claim7.holds Tryd.pinned (.plain (OpenSpec.ofChange topFitsSpec)) topFitsCard

/-- THE SECOND FORM's CARD OF 'luciferlaw03.TunnelDries'. -/
def tunnelDriesUptoCard : Claim7 := { stood := { row := tunnelDriesUptoRow, standIns := [], harness := (true, "c4df599d689d9743511037877c92d06976f223b5ab9256e0bf12e956f1c77bbf"), looks := false }, kinds := [], alts := [], laidByText := true, laidKinds := [.data, .funcs], laidTests := true, laidLooks := .later }
def TunnelDriesUptoCardSaid : Prop := Claim7.holds Tryd.pinned (.plain (OpenSpec.upto tunnelDriesSpec)) tunnelDriesUptoCard

/-- THE SECOND FORM's CARD OF 'luciferlaw03.TunnelBests'. -/
def tunnelBestsUptoCard : Claim7 := { stood := { row := tunnelBestsUptoRow, standIns := [], harness := (true, "c4df599d689d9743511037877c92d06976f223b5ab9256e0bf12e956f1c77bbf"), looks := false }, kinds := [], alts := [], laidByText := true, laidKinds := [.data, .funcs], laidTests := true, laidLooks := .later }
def TunnelBestsUptoCardSaid : Prop := Claim7.holds Tryd.pinned (.plain (OpenSpec.upto tunnelBestsSpec)) tunnelBestsUptoCard

/-- THE SECOND FORM's CARD OF 'luciferlaw03.TunnelAsks'. -/
def tunnelAsksUptoCard : Claim7 := { stood := { row := tunnelAsksUptoRow, standIns := [], harness := (true, "c4df599d689d9743511037877c92d06976f223b5ab9256e0bf12e956f1c77bbf"), looks := false }, kinds := [], alts := [], laidByText := true, laidKinds := [.data, .funcs], laidTests := true, laidLooks := .later }
def TunnelAsksUptoCardSaid : Prop := Claim7.holds Tryd.pinned (.plain (OpenSpec.upto tunnelAsksSpec)) tunnelAsksUptoCard

/-- THE SECOND FORM's CARD OF 'luciferlaw03.TunnelTrue'. -/
def tunnelTrueUptoCard : Claim7 := { stood := { row := tunnelTrueUptoRow, standIns := [], harness := (true, "c4df599d689d9743511037877c92d06976f223b5ab9256e0bf12e956f1c77bbf"), looks := false }, kinds := [], alts := [], laidByText := true, laidKinds := [.data, .funcs], laidTests := true, laidLooks := .later }
def TunnelTrueUptoCardSaid : Prop := Claim7.holds Tryd.pinned (.plain (OpenSpec.upto tunnelTrueSpec)) tunnelTrueUptoCard

/-- THE SECOND FORM's CARD OF 'luciferlaw03.TunnelEnds'. -/
def tunnelEndsUptoCard : Claim7 := { stood := { row := tunnelEndsUptoRow, standIns := [], harness := (true, "c4df599d689d9743511037877c92d06976f223b5ab9256e0bf12e956f1c77bbf"), looks := false }, kinds := [], alts := [], laidByText := true, laidKinds := [.data, .funcs], laidTests := true, laidLooks := .later }
def TunnelEndsUptoCardSaid : Prop := Claim7.holds Tryd.pinned (.plain (OpenSpec.upto tunnelEndsSpec)) tunnelEndsUptoCard

/-- THE SECOND FORM's CARD OF 'luciferlaw03.TunnelBest'. -/
def tunnelBestUptoCard : Claim7 := { stood := { row := tunnelBestUptoRow, standIns := [], harness := (true, "c4df599d689d9743511037877c92d06976f223b5ab9256e0bf12e956f1c77bbf"), looks := false }, kinds := [], alts := [], laidByText := true, laidKinds := [.data, .funcs], laidTests := true, laidLooks := .later }
def TunnelBestUptoCardSaid : Prop := Claim7.holds Tryd.pinned (.plain (OpenSpec.upto tunnelBestSpec)) tunnelBestUptoCard

/-- THE SECOND FORM's CARD OF 'luciferlaw03.TunnelClash'. -/
def tunnelClashUptoCard : Claim7 := { stood := { row := tunnelClashUptoRow, standIns := [], harness := (true, "c4df599d689d9743511037877c92d06976f223b5ab9256e0bf12e956f1c77bbf"), looks := false }, kinds := [], alts := [], laidByText := true, laidKinds := [.data, .funcs], laidTests := true, laidLooks := .later }
def TunnelClashUptoCardSaid : Prop := Claim7.holds Tryd.pinned (.plain (OpenSpec.upto tunnelClashSpec)) tunnelClashUptoCard

/-- THE SECOND FORM's CARD OF 'lucifertop.TopFrames'. -/
def topFramesUptoCard : Claim7 := { stood := { row := topFramesUptoRow, standIns := [], harness := (true, "c4df599d689d9743511037877c92d06976f223b5ab9256e0bf12e956f1c77bbf"), looks := false }, kinds := [], alts := [], laidByText := true, laidKinds := [.funcs, .funcs, .data, .funcs], laidTests := true, laidLooks := .later }
def TopFramesUptoCardSaid : Prop := Claim7.holds Tryd.pinned (.plain (OpenSpec.upto topFramesSpec)) topFramesUptoCard

/-- THE SECOND FORM's CARD OF 'luciferlaw03.TunnelLess'. -/
def tunnelLessUptoCard : Claim7 := { stood := { row := tunnelLessUptoRow, standIns := [], harness := (true, "c4df599d689d9743511037877c92d06976f223b5ab9256e0bf12e956f1c77bbf"), looks := false }, kinds := [], alts := [], laidByText := true, laidKinds := [.data, .funcs], laidTests := true, laidLooks := .later }
def TunnelLessUptoCardSaid : Prop := Claim7.holds Tryd.pinned (.plain (OpenSpec.upto tunnelLessSpec)) tunnelLessUptoCard

/-- THE SECOND FORM's CARD OF 'luciferlaw03.TunnelLonger'. -/
def tunnelLongerUptoCard : Claim7 := { stood := { row := tunnelLongerUptoRow, standIns := [], harness := (true, "c4df599d689d9743511037877c92d06976f223b5ab9256e0bf12e956f1c77bbf"), looks := false }, kinds := [], alts := [], laidByText := true, laidKinds := [.data, .funcs], laidTests := true, laidLooks := .later }
def TunnelLongerUptoCardSaid : Prop := Claim7.holds Tryd.pinned (.plain (OpenSpec.upto tunnelLongerSpec)) tunnelLongerUptoCard

/-- THE SECOND FORM's CARD OF 'lucifertop.TopCool'. -/
def topCoolUptoCard : Claim7 := { stood := { row := topCoolUptoRow, standIns := [], harness := (true, "c4df599d689d9743511037877c92d06976f223b5ab9256e0bf12e956f1c77bbf"), looks := false }, kinds := [], alts := [], laidByText := true, laidKinds := [.data, .funcs, .funcs, .funcs], laidTests := true, laidLooks := .later }
def TopCoolUptoCardSaid : Prop := Claim7.holds Tryd.pinned (.plain (OpenSpec.upto topCoolSpec)) topCoolUptoCard

/-- THE SECOND FORM's CARD OF 'luciferlaw03.TunnelHotter'. -/
def tunnelHotterUptoCard : Claim7 := { stood := { row := tunnelHotterUptoRow, standIns := [], harness := (true, "c4df599d689d9743511037877c92d06976f223b5ab9256e0bf12e956f1c77bbf"), looks := false }, kinds := [], alts := [], laidByText := true, laidKinds := [.data, .funcs], laidTests := true, laidLooks := .later }
def TunnelHotterUptoCardSaid : Prop := Claim7.holds Tryd.pinned (.plain (OpenSpec.upto tunnelHotterSpec)) tunnelHotterUptoCard

/-- THE SECOND FORM's CARD OF 'luciferlaw03.TunnelAsk'. -/
def tunnelAskUptoCard : Claim7 := { stood := { row := tunnelAskUptoRow, standIns := [], harness := (true, "c4df599d689d9743511037877c92d06976f223b5ab9256e0bf12e956f1c77bbf"), looks := false }, kinds := [], alts := [], laidByText := true, laidKinds := [.data, .funcs], laidTests := true, laidLooks := .later }
def TunnelAskUptoCardSaid : Prop := Claim7.holds Tryd.pinned (.plain (OpenSpec.upto tunnelAskSpec)) tunnelAskUptoCard

/-- THE SECOND FORM's CARD OF 'luciferlaw03.TunnelKnown'. -/
def tunnelKnownUptoCard : Claim7 := { stood := { row := tunnelKnownUptoRow, standIns := [], harness := (true, "c4df599d689d9743511037877c92d06976f223b5ab9256e0bf12e956f1c77bbf"), looks := false }, kinds := [], alts := [], laidByText := true, laidKinds := [.data, .funcs], laidTests := true, laidLooks := .later }
def TunnelKnownUptoCardSaid : Prop := Claim7.holds Tryd.pinned (.plain (OpenSpec.upto tunnelKnownSpec)) tunnelKnownUptoCard

/-- THE SECOND FORM's CARD OF 'lucifertop.TopAlone'. -/
def topAloneUptoCard : Claim7 := { stood := { row := topAloneUptoRow, standIns := [], harness := (true, "c4df599d689d9743511037877c92d06976f223b5ab9256e0bf12e956f1c77bbf"), looks := false }, kinds := [], alts := [], laidByText := true, laidKinds := [.data, .funcs, .funcs, .funcs], laidTests := true, laidLooks := .later }
def TopAloneUptoCardSaid : Prop := Claim7.holds Tryd.pinned (.plain (OpenSpec.upto topAloneSpec)) topAloneUptoCard

/-- THE SECOND FORM's CARD OF 'lucifertop.TopFits'. -/
def topFitsUptoCard : Claim7 := { stood := { row := topFitsUptoRow, standIns := [], harness := (true, "c4df599d689d9743511037877c92d06976f223b5ab9256e0bf12e956f1c77bbf"), looks := false }, kinds := [], alts := [], laidByText := true, laidKinds := [.data, .funcs, .funcs, .funcs], laidTests := true, laidLooks := .later }
def TopFitsUptoCardSaid : Prop := Claim7.holds Tryd.pinned (.plain (OpenSpec.upto topFitsSpec)) topFitsUptoCard
end Rows
end Go.Proofs.YtbcabikaaadiiaaDoor
