/-
  Plain laws: the reference: what is asked.
-/
import Derived.Test.YtbcabikaaadiiaaDoorLuPl14
namespace Go.Lu
open Go
set_option linter.unusedVariables false
set_option linter.unusedSimpArgs false

theorem isSet_lj3 {k : Nat} {s : List Int} (h4 : s.length ≤ maxLen) : ∀ (m i n : Nat), i + m = s.length → m < n → ref03_isSet_lj3 k s n (i : Int) = some (bif (s.drop i).all (fun x => decide (0 ≤ x) && decide (x ≤ 3)) then Sum.inr () else Sum.inl false)
 | 0, i, n + 1, h, _ => by
   have e : decide ((i : Int) < (s.length : Int)) = false := by simp; omega
   rw [ref03_isSet_lj3.eq_2, e, List.drop_of_length_le (by omega)]; rfl
 | m + 1, i, n + 1, h, hn => by
   have hi : i < s.length := by omega
   have e : decide ((i : Int) < (s.length : Int)) = true := by simp; omega
   rw [ref03_isSet_lj3.eq_2, e, cond_true, nth_nat, List.getElem?_eq_getElem hi, bind_s, fits_eq, bind_s, wrN (by omega), isSet_lj3 h4 m (i + 1) n (by omega) (by omega), List.drop_eq_getElem_cons hi, List.all_cons]
   cases (decide (0 ≤ s[i]) && decide (s[i] ≤ 3)) <;> rfl
theorem isSet_eq {k : Nat} {b : TunnelBook} {s : List Int} (hk : s.length < k) (hl : s.length ≤ maxLen) : ref03_isSet k b s = some (setB b.Parts.length s) := by
 unfold ref03_isSet setB
 have h := isSet_lj3 (k := k) hl s.length 0 k (by omega) hk
 simp only [Int.natCast_zero, List.drop_zero] at h
 unfold bne
 cases ((s.length : Int) == (b.Parts.length : Int))
 · rfl
 · rw [Bool.not_true, cond_false, h, bind_s]
   cases s.all (fun x => decide (0 ≤ x) && decide (x ≤ 3)) <;> rfl
theorem ref_asked {k : Nat} {b : TunnelBook} (hf : Fits b) (hk : Fuel k b) (r : Bool) : ref03_asked k b r = some (bif bookB b then (bif r then 0 else 31) else 30) := by
 unfold ref03_asked
 rw [ref_check hf hk, bind_s]
 cases bookB b <;> cases r <;> rfl
theorem ref_isFrame (k : Nat) {b : TunnelBook} (hf : b.Frames.length ≤ maxLen) (n : Int) : ref03_isFrame k b n = some (decide (0 ≤ n) && decide (n ≤ (b.Frames.length : Int) - 1)) := by
 have hm : maxLen = 9223372036854775807 := by unfold maxLen; omega
 unfold ref03_isFrame; rw [fits_eq, bind_s, wr_max (by omega) (by omega)]
end Go.Lu
