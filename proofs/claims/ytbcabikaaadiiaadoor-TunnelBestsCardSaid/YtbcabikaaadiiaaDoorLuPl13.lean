/-
  Plain laws, thirteenth part: frames that are lost, frames that clash.
-/
import Derived.Test.YtbcabikaaadiiaaDoorLuPl8
namespace Go.Lu
open Go
set_option linter.unusedVariables false
set_option linter.unusedSimpArgs false

theorem one_in {b : TunnelBook} {i : Nat} (hi : i < b.Frames.length) : ∀ x ∈ [(i : Int)], ∃ j : Nat, x = j ∧ j < b.Frames.length := fun x hx => by
  simp at hx; exact ⟨i, hx, hi⟩
theorem two_in {b : TunnelBook} {i j : Nat} (hi : i < b.Frames.length) (hj : j < b.Frames.length) : ∀ x ∈ [(i : Int), (j : Int)], ∃ j : Nat, x = j ∧ j < b.Frames.length := fun x hx => by
  simp at hx
  rcases hx with hx | hx
  · exact ⟨i, hx, hi⟩
  · exact ⟨j, hx, hj⟩
theorem stO_found (b : TunnelBook) (o : Option (List Int)) : (stO b o).2 = o.isSome := by cases o <;> rfl
def lostP (b : TunnelBook) (j : Nat) : Bool := (bestS b [(j : Int)]).isNone
def lostL (b : TunnelBook) : List Int := ((List.range b.Frames.length).filter (lostP b)).map fun (j : Nat) => (j : Int)
theorem lost_lj2 {k : Nat} (hk : 1000 ≤ k) {b : TunnelBook} (hb : BookOk b) : ∀ (m i n : Nat), i + m = b.Frames.length → m < n →
    tunnel_book_lost_lj2 k b n (((List.range i).filter (lostP b)).map fun (j : Nat) => (j : Int)) (i : Int) = some (lostL b)
  | 0, i, n + 1, h, _ => by
    obtain rfl : i = b.Frames.length := by omega
    have e : decide (((b.Frames.length : Nat) : Int) < (b.Frames.length : Int)) = false := by simp
    rw [tunnel_book_lost_lj2.eq_2, e]; rfl
  | m + 1, i, n + 1, h, hn => by
    have hi : i < b.Frames.length := by omega
    have e : decide ((i : Int) < (b.Frames.length : Int)) = true := by simp; omega
    have h5 := hb.five
    have hl : (((List.range i).filter (lostP b)).map fun (j : Nat) => (j : Int)).length ≤ 5 := by
      rw [List.length_map]; have := List.length_filter_le (lostP b) (List.range i); simp at this; omega
    rw [tunnel_book_lost_lj2.eq_2, e, cond_true, best_eq hb hk (one_in hi) (by simp), bind_s, stO_found, wrN (by unfold maxLen; omega)]
    have ih := lost_lj2 hk hb m (i + 1) n (by omega) (by omega)
    rw [range_filter_succ] at ih
    cases hd : lostP b i
    · have hs : (bestS b [(i : Int)]).isSome = true := by unfold lostP at hd; cases h : bestS b [(i : Int)] <;> simp [h] at hd ⊢
      rw [hd] at ih
      rw [hs]; simpa using ih
    · have hs : (bestS b [(i : Int)]).isSome = false := by unfold lostP at hd; cases h : bestS b [(i : Int)] <;> simp [h] at hd ⊢
      rw [hd] at ih
      simp only [if_true, List.map_append, List.map_cons, List.map_nil] at ih
      rw [hs, Bool.not_false, cond_true, app_eq (by simp only [List.length_cons, List.length_nil]; omega), bind_s]; exact ih
theorem blost_eq {k : Nat} (hk : 1000 ≤ k) {b : TunnelBook} (hb : BookOk b) : tunnel_book_lost k b = some (lostL b) := by
  unfold tunnel_book_lost
  have h5 := hb.five
  have := lost_lj2 hk hb b.Frames.length 0 k (by omega) (by omega)
  simp only [List.range_zero, List.filter_nil, List.map_nil, Int.natCast_zero] at this
  rw [this, bind_s, cut_all]; rfl
theorem Lost_ok {k : Nat} {b : TunnelBook} (A : Asks k b) : tunnel_Lost k b = some (lostL b, 0) := by
  unfold tunnel_Lost
  rw [check_ok A, bind_s, show ((0 : Int) != 0) = false from rfl, cond_false, blost_eq A.fuel.low A.ok]; rfl
theorem lostL_len (b : TunnelBook) : (lostL b).length ≤ b.Frames.length := by
  unfold lostL; rw [List.length_map]; have := List.length_filter_le (lostP b) (List.range b.Frames.length); simpa using this
theorem lostL_sorted (b : TunnelBook) : (lostL b).Pairwise (· < ·) := by
  unfold lostL
  rw [List.pairwise_map]
  exact (List.Pairwise.filter _ (List.pairwise_lt_range)).imp fun h => by omega
theorem mem_lost {b : TunnelBook} {x : Int} (h : x ∈ lostL b) : ∃ j : Nat, x = j ∧ j < b.Frames.length ∧ bestS b [(j : Int)] = none := by
  unfold lostL at h
  obtain ⟨j, hj, rfl⟩ := List.mem_map.1 h
  obtain ⟨h1, h2⟩ := List.mem_filter.1 hj
  exact ⟨j, rfl, List.mem_range.1 h1, by unfold lostP at h2; cases e : bestS b [(j : Int)] <;> simp [e] at h2 ⊢⟩
theorem not_lost {b : TunnelBook} (h : lostL b = []) {j : Nat} (hj : j < b.Frames.length) : ∃ s, bestS b [(j : Int)] = some s := by
  cases e : bestS b [(j : Int)] with
  | some s => exact ⟨s, rfl⟩
  | none =>
    have : (j : Int) ∈ lostL b := by
      unfold lostL
      exact List.mem_map.2 ⟨j, List.mem_filter.2 ⟨List.mem_range.2 hj, by unfold lostP; rw [e]; rfl⟩, rfl⟩
    rw [h] at this; cases this

theorem clash_lj7 {k : Nat} (hk : 1000 ≤ k) {b : TunnelBook} (hb : BookOk b) {p : Nat} (hp : p < b.Frames.length) : ∀ (m i n : Nat), i + m = b.Frames.length → m < n →
    (∃ q : Nat, i ≤ q ∧ q < b.Frames.length ∧ tunnel_Clash_lj7 k b (p : Int) n (i : Int) = some (Sum.inl ((p : Int), (q : Int), 0)) ∧ bestS b [(p : Int), (q : Int)] = none ∧ ∀ j : Nat, i ≤ j → j < q → bestS b [(p : Int), (j : Int)] ≠ none) ∨
    (tunnel_Clash_lj7 k b (p : Int) n (i : Int) = some (Sum.inr ()) ∧ ∀ j : Nat, i ≤ j → j < b.Frames.length → bestS b [(p : Int), (j : Int)] ≠ none)
  | 0, i, n + 1, h, _ => by
    right
    have e : decide ((i : Int) < (b.Frames.length : Int)) = false := by simp; omega
    rw [tunnel_Clash_lj7.eq_2, e]; exact ⟨rfl, fun j h1 h2 => by omega⟩
  | m + 1, i, n + 1, h, hn => by
    have hi : i < b.Frames.length := by omega
    have h5 := hb.five
    have e : decide ((i : Int) < (b.Frames.length : Int)) = true := by simp; omega
    rw [tunnel_Clash_lj7.eq_2, e, cond_true, best_eq hb hk (two_in hp hi) (by simp), bind_s, stO_found, wrN (by unfold maxLen; omega)]
    cases hd : bestS b [(p : Int), (i : Int)] with
    | none => exact .inl ⟨i, Nat.le_refl _, hi, rfl, hd, fun j h1 h2 => by omega⟩
    | some s =>
      simp only [Option.isSome_some, Bool.not_true, cond_false]
      rcases clash_lj7 hk hb hp m (i + 1) n (by omega) (by omega) with ⟨q, q1, q2, h1, h2, h3⟩ | ⟨h1, h2⟩
      · refine .inl ⟨q, by omega, q2, h1, h2, fun j j1 j2 => ?_⟩
        by_cases ej : j = i
        · rw [ej, hd]; exact fun h => by cases h
        · exact h3 j (by omega) j2
      · refine .inr ⟨h1, fun j j1 j2 => ?_⟩
        by_cases ej : j = i
        · rw [ej, hd]; exact fun h => by cases h
        · exact h2 j (by omega) j2
/-- Two frames, the first ones that clash. -/
structure Clashes (b : TunnelBook) (p q : Nat) : Prop where
  lt : p < q
  in_ : q < b.Frames.length
  no : bestS b [(p : Int), (q : Int)] = none
  first : ∀ i j : Nat, i < j → j < b.Frames.length → bestS b [(i : Int), (j : Int)] = none → p < i ∨ (p = i ∧ q ≤ j)
theorem clash_lj4 {k : Nat} (hk : 1000 ≤ k) {b : TunnelBook} (hb : BookOk b) : ∀ (m i n : Nat), i + m = b.Frames.length → m < n → (∀ p q : Nat, p < i → p < q → q < b.Frames.length → bestS b [(p : Int), (q : Int)] ≠ none) →
    (∃ p q : Nat, tunnel_Clash_lj4 k b n (i : Int) = some (Sum.inl ((p : Int), (q : Int), 0)) ∧ Clashes b p q) ∨
    (tunnel_Clash_lj4 k b n (i : Int) = some (Sum.inr ()) ∧ ∀ p q : Nat, p < q → q < b.Frames.length → bestS b [(p : Int), (q : Int)] ≠ none)
  | 0, i, n + 1, h, _, hb' => by
    right
    have e : decide ((i : Int) < (b.Frames.length : Int)) = false := by simp; omega
    rw [tunnel_Clash_lj4.eq_2, e]; exact ⟨rfl, fun p q h1 h2 => hb' p q (by omega) h1 h2⟩
  | m + 1, i, n + 1, h, hn, hb' => by
    have hi : i < b.Frames.length := by omega
    have h5 := hb.five
    have e : decide ((i : Int) < (b.Frames.length : Int)) = true := by simp; omega
    rw [tunnel_Clash_lj4.eq_2, e, cond_true, wrN (by unfold maxLen; omega)]
    rcases clash_lj7 hk hb hi (b.Frames.length - (i + 1)) (i + 1) k (by omega) (by omega) with ⟨q, q1, q2, h1, h2, h3⟩ | ⟨h1, h2⟩
    · refine .inl ⟨i, q, by rw [h1]; rfl, by omega, q2, h2, fun a c hac hc hn' => ?_⟩
      by_cases ha : a < i
      · exact absurd hn' (hb' a c ha hac hc)
      · by_cases ea : a = i
        · subst ea
          right
          refine ⟨rfl, ?_⟩
          by_cases hq : c < q
          · exact absurd hn' (h3 c (by omega) hq)
          · omega
        · left; omega
    · rw [h1, bind_s]
      exact clash_lj4 hk hb m (i + 1) n (by omega) (by omega) fun p q hp hpq hq => by
        by_cases ep : p = i
        · subst ep; exact h2 q (by omega) hq
        · exact hb' p q (by omega) hpq hq
theorem Clash_ok {k : Nat} {b : TunnelBook} (A : Asks k b) :
    (lostL b ≠ [] ∧ tunnel_Clash k b = some (0, 0, 32)) ∨ (lostL b = [] ∧ ((∃ p q : Nat, tunnel_Clash k b = some ((p : Int), (q : Int), 0) ∧ Clashes b p q) ∨
      (tunnel_Clash k b = some (0, 0, 4) ∧ ∀ p q : Nat, p < q → q < b.Frames.length → bestS b [(p : Int), (q : Int)] ≠ none))) := by
  unfold tunnel_Clash
  rw [check_ok A, bind_s, show ((0 : Int) != 0) = false from rfl, cond_false, blost_eq A.fuel.low A.ok, bind_s]
  by_cases hl : lostL b = []
  · right
    refine ⟨hl, ?_⟩
    rw [hl]
    rcases clash_lj4 A.fuel.low A.ok b.Frames.length 0 k (by omega) A.fuel.frames (fun p q hp => by omega) with ⟨p, q, h1, h2⟩ | ⟨h1, h2⟩
    · rw [Int.natCast_zero] at h1
      exact .inl ⟨p, q, by rw [h1]; rfl, h2⟩
    · rw [Int.natCast_zero] at h1
      exact .inr ⟨by rw [h1]; rfl, h2⟩
  · left
    have e : decide (((lostL b).length : Int) > 0) = true := by
      have : (lostL b).length ≠ 0 := fun h => hl (List.length_eq_zero_iff.1 h)
      simp; omega
    rw [e]; exact ⟨hl, rfl⟩
end Go.Lu
