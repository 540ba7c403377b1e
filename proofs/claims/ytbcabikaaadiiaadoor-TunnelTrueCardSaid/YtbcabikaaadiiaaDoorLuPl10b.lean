/-
  Plain laws: parts with other damp.
-/
import Derived.Test.YtbcabikaaadiiaaDoorLuPl9
namespace Go.Lu
open Go
set_option linter.unusedVariables false
set_option linter.unusedSimpArgs false

theorem mix_get (d : TunnelPart → Nat → Int) (ps : List TunnelPart) {i : Nat} (hi : i < ps.length) : nth ((damped d 0 ps).take i ++ ps.drop i) (i : Int) = some ps[i] := by
  have hl := damped_len d 0 ps
  rw [nth_nat, List.getElem?_append_right (by simp; omega)]
  have : i - ((damped d 0 ps).take i).length = 0 := by simp; omega
  rw [this, List.getElem?_drop]; simp [hi]
theorem mix_set (d : TunnelPart → Nat → Int) (ps : List TunnelPart) {i : Nat} (hi : i < ps.length) : ((damped d 0 ps).take i ++ ps.drop i).set i ⟨ps[i].Heat, ⟨d ps[i] i, d ps[i] i⟩⟩ = (damped d 0 ps).take (i + 1) ++ ps.drop (i + 1) := by
  have hl := damped_len d 0 ps
  rw [List.set_append_right _ _ (by simp; omega)]
  have : i - ((damped d 0 ps).take i).length = 0 := by simp; omega
  rw [this, List.drop_eq_getElem_cons hi, List.set_cons_zero, List.take_succ_eq_append_getElem (by omega), damped_get d 0 i ps hi (by omega), Nat.zero_add, List.append_assoc]; rfl
end Go.Lu
