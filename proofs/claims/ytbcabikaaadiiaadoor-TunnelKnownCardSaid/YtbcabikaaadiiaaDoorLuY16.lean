/- The tied card of TunnelKnown: whatever the arguments, the call returns true and turns none of them; the row lists the two variables of the package tunnel, tied to the text. -/
import Derived.Test.YtbcabikaaadiiaaDoorLuX16
import Derived.Test.YtbcabikaaadiiaaDoorLuFD16
import Derived.Test.YtbcabikaaadiiaaDoorLuFP4
import Derived.SevenTiedAt
import Derived.Test.YtbcabikaaadiiaaDoorTie
import Derived.Test.YtbcabikaaadiiaaDoorCards
namespace Go.Proofs.YtbcabikaaadiiaaDoor.lawTunnelKnown
open Go
set_option maxRecDepth 100000
theorem plain (f : FuncId) (fn : Func) (hf : Tryd.pinned.checked.prog.funcNamed "lucifer/luciferlaw03.TunnelKnown" = some f) (hfn : Tryd.pinned.checked.prog.funcs[f]? = some fn) :
    false = Tryd.pinned.checked.prog.looks [] ∧ ∀ (j : Nat) t, fn.params[j]? = some t → Tryd.pinned.checked.prog.wantsStandIn t = false := by
  obtain rfl : f = 16 := Option.some.inj ((show Tryd.prog.funcNamed "lucifer/luciferlaw03.TunnelKnown" = some 16 by kernel_rfl).symm.trans hf) |>.symm
  obtain rfl : fn = Tryd.f16 := (Option.some.inj (Tryd.func16.symm.trans hfn)).symm
  refine ⟨Go.Lu.p_looks, fun j t ht => ?_⟩
  rw [Tryd.params16] at ht
  have hm : t ∈ ([] : List TypeId) := by simpa using Array.mem_of_getElem? ht
  have hall : (([] : List TypeId).all fun u => !Tryd.prog.wantsStandIn u) = true := by kernel_rfl
  exact (show Tryd.prog.wantsStandIn t = false by simpa using List.all_eq_true.1 hall t hm)
end Go.Proofs.YtbcabikaaadiiaaDoor.lawTunnelKnown
namespace Go.Proofs.YtbcabikaaadiiaaDoor
set_option maxRecDepth 100000
theorem tunnelKnown_card : Rows.TunnelKnownCardSaid :=
  Claim7.holds_tied_plain_at .later [] _ _ _ _ lawTunnelKnown.said (fun _ h => by cases h) (by kernel_rfl) (fun _ h => by cases h) tunnelKnown_row_tie rfl ⟨rfl, rfl⟩ Go.Lu.p_main rfl lawTunnelKnown.plain lawTunnelKnown.f_goes
end Go.Proofs.YtbcabikaaadiiaaDoor
