/-
  Plain laws: where a number stands, lists that grow.
-/
import Derived.Test.YtbcabikaaadiiaaDoorLuPl8
namespace Go.Lu
open Go
set_option linter.unusedVariables false
set_option linter.unusedSimpArgs false

theorem index_lj2 (k : Nat) (l : List Int) (x : Int) (hl : l.length ≤ maxLen) : ∀ (m i n : Nat), i + m = l.length → m < n →
    (ref00_Index_lj2 k l x n (i : Int) = some (Sum.inr ()) ∧ x ∉ l.drop i) ∨ ∃ j : Nat, ref00_Index_lj2 k l x n (i : Int) = some (Sum.inl (j : Int)) ∧ x ∈ l.drop i
  | 0, i, n + 1, h, _ => by
    left
    have e : decide ((i : Int) < (l.length : Int)) = false := by simp; omega
    rw [ref00_Index_lj2.eq_2, e, List.drop_of_length_le (by omega)]; exact ⟨rfl, by simp⟩
  | m + 1, i, n + 1, h, hn => by
    have hi : i < l.length := by omega
    have e : decide ((i : Int) < (l.length : Int)) = true := by simp; omega
    rw [ref00_Index_lj2.eq_2, e, cond_true, nth_nat, List.getElem?_eq_getElem hi, bind_s, wrN (by omega), List.drop_eq_getElem_cons hi]
    by_cases hx : l[i] = x
    · have e2 : (l[i] == x) = true := by simp [hx]
      rw [e2]; exact .inr ⟨i, rfl, by simp [hx]⟩
    · have e2 : (l[i] == x) = false := by simp [hx]
      rw [e2, cond_false]
      rcases index_lj2 k l x hl m (i + 1) n (by omega) (by omega) with ⟨h1, h2⟩ | ⟨j, h1, h2⟩
      · exact .inl ⟨h1, by simp only [List.mem_cons, not_or]; exact ⟨fun e => hx e.symm, h2⟩⟩
      · exact .inr ⟨j, h1, List.mem_cons_of_mem _ h2⟩
theorem index_eq {k : Nat} {l : List Int} (x : Int) (hk : l.length < k) (hl : l.length ≤ maxLen) : ∃ v, ref00_Index k l x = some v ∧ decide (v ≥ 0) = decide (x ∈ l) := by
  unfold ref00_Index
  have h := index_lj2 k l x hl l.length 0 k (by omega) hk
  simp only [Int.natCast_zero, List.drop_zero] at h
  rcases h with ⟨h, h'⟩ | ⟨j, h, h'⟩
  · rw [h]; exact ⟨-1, rfl, by rw [decide_eq_false h']; rfl⟩
  · rw [h]; exact ⟨j, rfl, by rw [decide_eq_true h', decide_eq_true (by omega)]⟩

theorem grows_lj2 (k : Nat) (l : List Int) (below : Int) (hb : 0 ≤ below ∧ below ≤ 1000) (hl : l.length ≤ maxLen) (hin : ∀ x ∈ l, 0 ≤ x ∧ x < below) (hp : l.Pairwise (· < ·)) : ∀ (m i n : Nat), i + m = l.length → m < n → ref00_Grows_lj2 k l below n (i : Int) = some (Sum.inr ())
  | 0, i, n + 1, h, _ => by
    have e : decide ((i : Int) < (l.length : Int)) = false := by simp; omega
    rw [ref00_Grows_lj2.eq_2, e]; rfl
  | m + 1, i, n + 1, h, hn => by
    have hi : i < l.length := by omega
    have e : decide ((i : Int) < (l.length : Int)) = true := by simp; omega
    have hx := hin _ (List.getElem_mem hi)
    rw [ref00_Grows_lj2.eq_2, e, cond_true, nth_nat, List.getElem?_eq_getElem hi, bind_s, wr (n := below - 1) (by omega) (by omega), fits_eq, bind_s]
    have e2 : (decide (0 ≤ l[i]) && decide (l[i] ≤ below - 1)) = true := by simp; omega
    rw [e2, Bool.not_true, cond_false]
    have key : (bif decide ((i : Int) > 0) then (some l[i]).bind fun x4_14 => (nth l (IntKind.i64.wrap ((i : Int) - 1))).bind fun x4_19 => some (decide (x4_14 ≤ x4_19)) else some false) = some false := by
      cases i with
      | zero => rfl
      | succ i =>
        have hm : maxLen = 9223372036854775807 := by unfold maxLen; omega
        have e3 : decide (((i + 1 : Nat) : Int) > 0) = true := by simp
        have e4 : IntKind.i64.wrap (((i + 1 : Nat) : Int) - 1) = (i : Int) := by rw [wr_max (by omega) (by omega)]; omega
        rw [e3, cond_true, e4, bind_s, nth_nat, List.getElem?_eq_getElem (by omega), bind_s]
        have := List.pairwise_iff_getElem.1 hp i (i + 1) (by omega) hi (by omega)
        congr 1; simp; omega
    rw [key, bind_s, cond_false, wrN (by omega)]
    exact grows_lj2 k l below hb hl hin hp m (i + 1) n (by omega) (by omega)
theorem grows_eq {k : Nat} {l : List Int} {below : Int} (hk : l.length < k) (hb : 0 ≤ below ∧ below ≤ 1000) (hl : l.length ≤ maxLen) (hin : ∀ x ∈ l, 0 ≤ x ∧ x < below) (hp : l.Pairwise (· < ·)) : ref00_Grows k l below = some true := by
  unfold ref00_Grows
  have := grows_lj2 k l below hb hl hin hp l.length 0 k (by omega) hk
  simp only [Int.natCast_zero] at this
  rw [this]; rfl
theorem goodL_sorted (b : TunnelBook) (s : List Int) : (goodL b s).Pairwise (· < ·) := by
  unfold goodL
  rw [List.pairwise_map]
  exact (List.Pairwise.filter _ (List.pairwise_lt_range)).imp fun h => by omega
theorem goodL_in (b : TunnelBook) (s : List Int) : ∀ x ∈ goodL b s, 0 ≤ x ∧ x < b.Frames.length := fun x hx => by
  unfold goodL at hx
  obtain ⟨j, hj, rfl⟩ := List.mem_map.1 hx
  have := List.mem_range.1 (List.mem_filter.1 hj).1
  omega

end Go.Lu
