/-
  Rows of a told number of places.
-/
import Derived.Test.YtbcabikaaadiiaaDoorLuP9
namespace Go.Lu
open Go Go.Proofs
set_option maxRecDepth 100000
set_option linter.unusedVariables false

section
variable {P : Program} {N : Nat} {D : List Deferred} {K : Kp} {E : Env} {H : Hp} {L : List Ass} {C : Act → World → Prop}

/-- The shape of an own row whose cells are told. -/
theorem a_rowplaceC {i T n sz : Nat} {v : Value} {cs : List Value} (hn : Nat.blt 0 (n * sz) = true) (h0 : Nat.blt 0 sz = true) (hi : L[i]? = some (.row v cs T sz)) (hl : cs.length = n * sz)
    (k : ∀ b c, v = .slice (some ⟨b, 0, none⟩) n c → At N D K E H L C) : At N D K E H L C := fun a w ha hs => by
  have h0' := Nat.le_of_ble_eq_true hn
  have hz' : 0 < sz := Nat.le_of_ble_eq_true h0
  rcases hs.ok _ (List.mem_of_getElem? hi) with ⟨x, rfl, rfl⟩ | ⟨b, m, cap, junk, rfl, hc0, hm, hl', hjk, hb⟩
  · exfalso; simp at hl; omega
  · have : m = n := by rw [hl'] at hl; exact Nat.eq_of_mul_eq_mul_right hz' hl
    subst this
    exact k b cap rfl a w ha hs
end
end Go.Lu
