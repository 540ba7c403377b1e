/-
  Plain laws, eighth part: what comes before, what is alike; the example; fuel.
-/
import Derived.Test.YtbcabikaaadiiaaDoorLuPl7
import Derived.Test.YtbcabikaaadiiaaDoorLuG12x4
namespace Go.Lu
open Go
set_option linter.unusedVariables false
set_option linter.unusedSimpArgs false

theorem warmed_ok (n : Nat) : law03_warmed (n + 60) = some true := by kernel_rfl
theorem warmed_eq {k : Nat} (h : 1000 ≤ k) : law03_warmed k = some true := by
  obtain ⟨n, rfl⟩ : ∃ n, k = n + 60 := ⟨k - 60, by omega⟩
  exact warmed_ok n
theorem le_sum : ∀ {l : List Nat} {x : Nat}, x ∈ l → x ≤ l.sum
  | a :: l, x, h => by
    rcases List.mem_cons.1 h with rfl | h
    · simp
    · have := le_sum h; simp; omega
theorem fuel_of (b : TunnelBook) (m : Nat) : ∃ k, Fuel k b ∧ m < k := by
  refine ⟨1000 + b.Parts.length + b.Frames.length + (b.Frames.map (·.Stay.length)).sum + m + 1, ⟨by omega, by omega, by omega, fun f hf => ?_⟩, by omega⟩
  have := le_sum (List.mem_map.2 ⟨f, hf, rfl⟩ : f.Stay.length ∈ b.Frames.map (·.Stay.length))
  omega
theorem spin_book {n : Int} {m : Nat} (h : 1 ≤ m) : ∃ j : Nat, spinV n m = j ∧ j < m := by
  have := spinV_in (n := n) (m := (m : Int)) (by omega)
  exact ⟨(spinV n m).toNat, by omega, by omega⟩

theorem alike_lj3 (k : Nat) (l : List Int) (hl : l.length ≤ maxLen) : ∀ (m i n : Nat), i + m = l.length → m < n → ref00_Alike_lj3 k l l n (i : Int) = some (Sum.inr ())
  | 0, i, n + 1, h, _ => by
    have e : decide ((i : Int) < (l.length : Int)) = false := by simp; omega
    rw [ref00_Alike_lj3.eq_2, e]; rfl
  | m + 1, i, n + 1, h, hn => by
    have hi : i < l.length := by omega
    have e : decide ((i : Int) < (l.length : Int)) = true := by simp; omega
    rw [ref00_Alike_lj3.eq_2, e, cond_true, nth_nat, List.getElem?_eq_getElem hi, bind_s, bind_s, wrN (by omega)]
    have e2 : (l[i] != l[i]) = false := by simp
    rw [e2, cond_false]
    exact alike_lj3 k l hl m (i + 1) n (by omega) (by omega)
theorem alike_self {k : Nat} {l : List Int} (hk : l.length < k) (hl : l.length ≤ maxLen) : ref00_Alike k l l = some true := by
  unfold ref00_Alike
  have e : ((l.length : Int) != (l.length : Int)) = false := by simp
  have := alike_lj3 k l hl l.length 0 k (by omega) hk
  simp only [Int.natCast_zero] at this
  rw [e, cond_false, this]; rfl

def earlierB : List Int → List Int → Bool
  | a :: l, b :: m => if a = b then earlierB l m else decide (a < b)
  | [], _ :: _ => true
  | _, [] => false
theorem earlier_lj2 (k : Nat) (l m : List Int) (hl : l.length ≤ maxLen) (hm : m.length = l.length) : ∀ (r i n : Nat), i + r = l.length → r < n →
    ref00_Earlier_lj2 k l m n (i : Int) = some (Sum.inl (earlierB (l.drop i) (m.drop i))) ∨ (ref00_Earlier_lj2 k l m n (i : Int) = some (Sum.inr ()) ∧ earlierB (l.drop i) (m.drop i) = false)
  | 0, i, n + 1, h, _ => by
    right
    have e : decide ((i : Int) < (l.length : Int)) = false := by simp; omega
    rw [ref00_Earlier_lj2.eq_2, e, List.drop_of_length_le (by omega), List.drop_of_length_le (by omega)]; exact ⟨rfl, rfl⟩
  | r + 1, i, n + 1, h, hn => by
    have hi : i < l.length := by omega
    have hj : i < m.length := by omega
    have e : decide ((i : Int) < (l.length : Int)) = true := by simp; omega
    have e' : decide ((i : Int) < (m.length : Int)) = true := by simp; omega
    rw [ref00_Earlier_lj2.eq_2, e, e', cond_true, bind_s, cond_true, nth_nat, nth_nat, List.getElem?_eq_getElem hi, List.getElem?_eq_getElem hj, bind_s, bind_s, wrN (by omega), List.drop_eq_getElem_cons hi, List.drop_eq_getElem_cons hj]
    unfold earlierB
    by_cases hx : l[i] = m[i]
    · have e2 : (l[i] != m[i]) = false := by simp [hx]
      rw [e2, cond_false, if_pos hx]
      exact earlier_lj2 k l m hl hm r (i + 1) n (by omega) (by omega)
    · have e2 : (l[i] != m[i]) = true := by simp [hx]
      rw [e2, cond_true, if_neg hx]; exact .inl rfl
theorem earlier_eq {k : Nat} {l m : List Int} (hk : l.length < k) (hl : l.length ≤ maxLen) (hm : m.length = l.length) : ref00_Earlier k l m = some (earlierB l m) := by
  unfold ref00_Earlier
  have h := earlier_lj2 k l m hl hm l.length 0 k (by omega) hk
  simp only [Int.natCast_zero, List.drop_zero] at h
  rcases h with h | ⟨h, h'⟩
  · rw [h]; rfl
  · rw [h, h']
    have e : decide ((l.length : Int) < (m.length : Int)) = false := by simp; omega
    rw [bind_s]; simp only [e]
theorem earlier_irr : ∀ l : List Int, earlierB l l = false
  | [] => rfl
  | a :: l => by unfold earlierB; rw [if_pos rfl]; exact earlier_irr l
theorem earlier_asym : ∀ l m : List Int, earlierB l m = true → earlierB m l = false
  | [], [], h => rfl
  | [], _ :: _, _ => rfl
  | _ :: _, [], h => by simp [earlierB] at h
  | a :: l, b :: m, h => by
    unfold earlierB at h ⊢
    by_cases e : a = b
    · rw [if_pos e] at h; rw [if_pos e.symm]; exact earlier_asym l m h
    · rw [if_neg e] at h; rw [if_neg (Ne.symm e)]; simp at h ⊢; omega
theorem sets_sorted : ∀ n : Nat, (sets n).Pairwise (fun s t => earlierB s t = true)
  | 0 => by simp [sets]
  | n + 1 => by
    have ih := sets_sorted n
    unfold sets
    rw [List.pairwise_flatMap]
    refine ⟨fun a _ => ?_, ?_⟩
    · rw [List.pairwise_map]
      exact ih.imp fun {s t} h => by unfold earlierB; rw [if_pos rfl]; exact h
    · have hp : ([0, 1, 2, 3] : List Int).Pairwise (· < ·) := by decide
      refine hp.imp fun {a b} hab s hs t ht => ?_
      obtain ⟨s', _, rfl⟩ := List.mem_map.1 hs
      obtain ⟨t', _, rfl⟩ := List.mem_map.1 ht
      unfold earlierB; rw [if_neg (by omega)]; simp; exact hab
/-- None that is as good comes before the best one. -/
theorem mostS_first {b : TunnelBook} {s : List Int} (hs : SetOk b.Parts.length s) (h : betterS b (mostS b) s = false) : earlierB s (mostS b) = false := by
  obtain ⟨p, q, e, hp, _⟩ := (mostS_pick b).2.split
  have hm := (mem_sets _ _).2 hs
  rw [e] at hm
  have hsort := sets_sorted b.Parts.length
  rw [e, List.pairwise_append] at hsort
  rcases List.mem_append.1 hm with h1 | h1
  · rw [hp s h1] at h; cases h
  · rcases List.mem_cons.1 h1 with rfl | h1
    · exact earlier_irr _
    · exact earlier_asym _ _ ((List.pairwise_cons.1 hsort.2.1).1 s h1)
end Go.Lu
