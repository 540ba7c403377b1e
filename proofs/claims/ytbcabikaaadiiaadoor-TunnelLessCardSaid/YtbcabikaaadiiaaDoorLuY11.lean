/- The tied card of TunnelLess: whatever the arguments, the call returns true and turns none of them; the row lists the two variables of the package tunnel, tied to the text. -/
import Derived.Test.YtbcabikaaadiiaaDoorLuX11
import Derived.Test.YtbcabikaaadiiaaDoorLuFD11
import Derived.Test.YtbcabikaaadiiaaDoorLuFP4
import Derived.SevenTiedAt
import Derived.Test.YtbcabikaaadiiaaDoorTie
import Derived.Test.YtbcabikaaadiiaaDoorCards
namespace Go.Proofs.YtbcabikaaadiiaaDoor.lawTunnelLess
open Go
set_option maxRecDepth 100000
theorem plain (f : FuncId) (fn : Func) (hf : Tryd.pinned.checked.prog.funcNamed "lucifer/luciferlaw03.TunnelLess" = some f) (hfn : Tryd.pinned.checked.prog.funcs[f]? = some fn) :
    false = Tryd.pinned.checked.prog.looks [] ∧ ∀ (j : Nat) t, fn.params[j]? = some t → Tryd.pinned.checked.prog.wantsStandIn t = false := by
  obtain rfl : f = 11 := Option.some.inj ((show Tryd.prog.funcNamed "lucifer/luciferlaw03.TunnelLess" = some 11 by kernel_rfl).symm.trans hf) |>.symm
  obtain rfl : fn = Tryd.f11 := (Option.some.inj (Tryd.func11.symm.trans hfn)).symm
  refine ⟨Go.Lu.p_looks, fun j t ht => ?_⟩
  rw [Tryd.params11] at ht
  have hm : t ∈ [25, 62] := by simpa using Array.mem_of_getElem? ht
  have hall : ([25, 62].all fun u => !Tryd.prog.wantsStandIn u) = true := by kernel_rfl
  exact (show Tryd.prog.wantsStandIn t = false by simpa using List.all_eq_true.1 hall t hm)
end Go.Proofs.YtbcabikaaadiiaaDoor.lawTunnelLess
namespace Go.Proofs.YtbcabikaaadiiaaDoor
set_option maxRecDepth 100000
theorem tunnelLess_card : Rows.TunnelLessCardSaid :=
  Claim7.holds_tied_plain_at .later [] _ _ _ _ lawTunnelLess.said (fun _ h => by cases h) (by kernel_rfl) (fun _ h => by cases h) tunnelLess_row_tie rfl ⟨rfl, rfl⟩ Go.Lu.p_main rfl lawTunnelLess.plain lawTunnelLess.f_goes
end Go.Proofs.YtbcabikaaadiiaaDoor
