/-
  Plain laws, sixth part: what a question answers: settings, Heat, Dries.
-/
import Derived.Test.YtbcabikaaadiiaaDoorLuPl5
import Derived.Test.YtbcabikaaadiiaaDoorLuW3
namespace Go.Lu
open Go
set_option linter.unusedVariables false
set_option linter.unusedSimpArgs false

theorem app_eq {α : Type} {l m : List α} (h : l.length + m.length ≤ 1000) : app l m = some (l ++ m) := by unfold app; rw [if_pos (by unfold capBound; omega)]

/-! ### What is asked -/
def setB (n : Nat) (s : List Int) : Bool := (s.length : Int) == (n : Int) && s.all fun x => decide (0 ≤ x) && decide (x ≤ 3)
theorem setB_iff {n : Nat} {s : List Int} : setB n s = true ↔ SetOk n s := by
  simp only [setB, Bool.and_eq_true, beq_iff_eq, List.all_eq_true, decide_eq_true_eq]
  constructor
  · rintro ⟨h1, h2⟩; exact ⟨by omega, h2⟩
  · rintro ⟨h1, h2⟩; exact ⟨by omega, h2⟩
theorem set_pad (s : List Int) (i : Nat) (hi : i < s.length) (h4 : s.length ≤ 4) : (s.take i ++ List.replicate (4 - i) 0).set i s[i] = s.take (i + 1) ++ List.replicate (4 - (i + 1)) 0 := by
  have e : 4 - i = (4 - (i + 1)) + 1 := by omega
  rw [e, List.replicate_succ, List.set_append_right _ _ (by simp; omega)]
  have e2 : i - (s.take i).length = 0 := by simp; omega
  rw [e2, List.set_cons_zero, List.take_succ_eq_append_getElem hi, List.append_assoc]; rfl
theorem read_lj3 {k : Nat} {s : List Int} (h4 : s.length ≤ 4) : ∀ (m i n : Nat), i + m = s.length → m < n →
    ∃ x, tunnel_book_read_lj3 k s n (s.take i ++ List.replicate (4 - i) 0) (i : Int) = some (bif (s.drop i).all (fun x => decide (0 ≤ x) && decide (x ≤ 3)) then Sum.inr (pad4 s) else Sum.inl (x, false))
  | 0, i, n + 1, h, _ => by
    have e : decide ((i : Int) < (s.length : Int)) = false := by simp; omega
    refine ⟨[], ?_⟩
    rw [tunnel_book_read_lj3.eq_2, e, List.drop_of_length_le (by omega), List.take_of_length_le (by omega)]
    obtain rfl : i = s.length := by omega
    rfl
  | m + 1, i, n + 1, h, hn => by
    have hi : i < s.length := by omega
    have e : decide ((i : Int) < (s.length : Int)) = true := by simp; omega
    obtain ⟨x, ih⟩ := read_lj3 (k := k) h4 m (i + 1) n (by omega) (by omega)
    rw [tunnel_book_read_lj3.eq_2, e, cond_true, nth_nat, List.getElem?_eq_getElem hi, bind_s, in_eq, bind_s, List.drop_eq_getElem_cons hi, List.all_cons]
    cases hc : (decide (0 ≤ s[i]) && decide (s[i] ≤ 3))
    · exact ⟨_, rfl⟩
    · refine ⟨x, ?_⟩
      have hn' : nth (s.take i ++ List.replicate (4 - i) (0 : Int)) (i : Int) = some 0 := by
        rw [nth_nat, List.getElem?_append_right (by simp; omega)]
        have : i - (s.take i).length = 0 := by simp; omega
        rw [this, List.getElem?_replicate, if_pos (by omega)]
      simp only [Bool.not_true, cond_false, Bool.true_and]
      rw [hn', bind_s, Int.toNat_natCast, set_pad s i hi h4, wrN (by unfold maxLen; omega), ih]
theorem read_eq {k : Nat} {b : TunnelBook} {s : List Int} (h4 : b.Parts.length ≤ 4) (hk : 1000 ≤ k) : ∃ x, tunnel_book_read k b s = some (bif setB b.Parts.length s then pad4 s else x, setB b.Parts.length s) := by
  unfold tunnel_book_read
  rw [show tunnel_closed k = some [0, 0, 0, 0] from rfl, bind_s]
  by_cases hl : s.length = b.Parts.length
  · have e : ((s.length : Int) != (b.Parts.length : Int)) = false := by simp [hl]
    obtain ⟨x, h⟩ := read_lj3 (k := k) (s := s) (by omega) s.length 0 k (by omega) (by omega)
    refine ⟨x, ?_⟩
    have e2 : (s.take 0 ++ List.replicate (4 - 0) (0 : Int)) = [0, 0, 0, 0] := by rfl
    rw [e2] at h
    simp only [Int.natCast_zero, List.drop_zero] at h
    rw [e, cond_false, h, bind_s]
    have e3 : setB b.Parts.length s = s.all fun x => decide (0 ≤ x) && decide (x ≤ 3) := by simp [setB, hl]
    rw [e3]
    cases s.all (fun x => decide (0 ≤ x) && decide (x ≤ 3)) <;> rfl
  · have e : ((s.length : Int) != (b.Parts.length : Int)) = true := by simp; omega
    refine ⟨[0, 0, 0, 0], ?_⟩
    have e3 : setB b.Parts.length s = false := by simp [setB]; intro h; omega
    rw [e, e3]; rfl
/-- The error of a question. -/
def askE (b : TunnelBook) (s : List Int) (right : Bool) : Int := bif bookB b then (bif setB b.Parts.length s && right then 0 else 31) else 30
theorem asked_eq {k : Nat} {b : TunnelBook} (hf : Fits b) (hk : Fuel k b) (s : List Int) (right : Bool) : tunnel_asked k b s right = some (bif askE b s right == 0 then (b, pad4 s, 0) else (⟨[], []⟩, [0, 0, 0, 0], askE b s right)) := by
  unfold tunnel_asked askE
  rw [check_eq hf hk, bind_s]
  cases e : bookB b
  · rfl
  · have hb := (bookB_iff hf.heat).1 e
    obtain ⟨x, h⟩ := read_eq (k := k) (s := s) hb.four hk.low
    rw [h]
    cases setB b.Parts.length s <;> cases right <;> rfl
theorem isFrame_eq (k : Nat) {b : TunnelBook} (hf : b.Frames.length ≤ maxLen) (n : Int) : tunnel_isFrame k b n = some (decide (0 ≤ n) && decide (n ≤ (b.Frames.length : Int) - 1)) := by
  have hm : maxLen = 9223372036854775807 := by unfold maxLen; omega
  unfold tunnel_isFrame; rw [in_eq, bind_s, wr_max (by omega) (by omega)]
theorem isPart_eq (k : Nat) {b : TunnelBook} (hf : b.Parts.length ≤ maxLen) (n : Int) : tunnel_isPart k b n = some (decide (0 ≤ n) && decide (n ≤ (b.Parts.length : Int) - 1)) := by
  have hm : maxLen = 9223372036854775807 := by unfold maxLen; omega
  unfold tunnel_isPart; rw [in_eq, bind_s, wr_max (by omega) (by omega)]

theorem sum_lj2 {k : Nat} {l : List Int} (hl : l.length ≤ 100) (h : ∀ x ∈ l, 0 ≤ x ∧ x ≤ 1000) : ∀ (m i n : Nat) (a : Int), i + m = l.length → m < n → 0 ≤ a → a + 1000 * m ≤ 1000000 → tunnel_sum_int_lj2 k l n a (i : Int) = some (a + (l.drop i).sum)
  | 0, i, n + 1, a, hi, _, _, _ => by
    have e : decide ((i : Int) < (l.length : Int)) = false := by simp; omega
    rw [tunnel_sum_int_lj2.eq_2, e, List.drop_of_length_le (by omega)]; simp
  | m + 1, i, n + 1, a, hi, hn, h0, h1 => by
    have hlt : i < l.length := by omega
    have e : decide ((i : Int) < (l.length : Int)) = true := by simp; omega
    have hx := h l[i] (List.getElem_mem hlt)
    rw [tunnel_sum_int_lj2.eq_2, e, cond_true, nth_nat, List.getElem?_eq_getElem hlt, bind_s, wrN (by unfold maxLen; omega), wr (by omega) (by omega), sum_lj2 hl h m (i + 1) n _ (by omega) (by omega) (by omega) (by omega), List.drop_eq_getElem_cons hlt, List.sum_cons]
    congr 1; omega
theorem sum_eq {k : Nat} {l : List Int} (hk : 1000 ≤ k) (hl : l.length ≤ 100) (h : ∀ x ∈ l, 0 ≤ x ∧ x ≤ 1000) : tunnel_sum_int k l = some l.sum := by
  unfold tunnel_sum_int
  have := sum_lj2 (k := k) hl h l.length 0 k 0 (by omega) (by omega) (by omega) (by omega)
  simp only [Int.natCast_zero, List.drop_zero, Int.zero_add] at this
  rw [this]; rfl
theorem heatL_length : ∀ (ps : List TunnelPart) (ss : List Int), ss.length = ps.length → (heatL ps ss).length = ps.length
  | [], _, _ => by simp [heatL]
  | _ :: _, [], h => by simp at h
  | p :: ps, s :: ss, h => by simp [heatL]; exact heatL_length ps ss (by simpa using h)
theorem heatL_get : ∀ (ps : List TunnelPart) (ss : List Int) (i : Nat) (h1 : i < ps.length) (h2 : i < ss.length) (h3 : i < (heatL ps ss).length), (heatL ps ss)[i] = hAt ps[i] ss[i]
  | p :: ps, s :: ss, 0, _, _, _ => rfl
  | p :: ps, s :: ss, i + 1, h1, h2, h3 => by simpa [heatL] using heatL_get ps ss i (by simpa using h1) (by simpa using h2) (by simpa [heatL] using h3)
theorem heat_lj2 {k : Nat} {b : TunnelBook} (hb : BookOk b) {s : List Int} (hs : SetOk b.Parts.length s) : ∀ (m i n : Nat), i + m = b.Parts.length → m < n → tunnel_book_heat_lj2 k b (pad4 s) n ((heatL b.Parts s).take i) (i : Int) = some (heatL b.Parts s)
  | 0, i, n + 1, h, _ => by
    have e : decide ((i : Int) < (b.Parts.length : Int)) = false := by simp; omega
    rw [tunnel_book_heat_lj2.eq_2, e, cond_false, List.take_of_length_le (by have := heatL_len b.Parts s; omega)]
  | m + 1, i, n + 1, h, hn => by
    have hi : i < b.Parts.length := by omega
    have hj : i < s.length := by rw [hs.len]; omega
    have e : decide ((i : Int) < (b.Parts.length : Int)) = true := by simp; omega
    have h4 := hb.four
    obtain ⟨s0, s1⟩ := hs.in3 s[i] (List.getElem_mem hj)
    obtain ⟨hh, _, _⟩ := hAt_of (hb.part _ (List.getElem_mem hi)) s0 s1
    have e2 : nth (pad4 s) (i : Int) = some s[i] := by rw [nth_nat]; unfold pad4; rw [List.getElem?_append_left hj, List.getElem?_eq_getElem hj]
    have hl := heatL_length b.Parts s hs.len
    rw [tunnel_book_heat_lj2.eq_2, e, cond_true, nth_nat, List.getElem?_eq_getElem hi, bind_s, e2, bind_s, hh, bind_s, app_eq (by simp; omega), bind_s, wrN (by unfold maxLen; omega)]
    have ih := heat_lj2 (k := k) hb hs m (i + 1) n (by omega) (by omega)
    rw [← heatL_get b.Parts s i hi hj (by omega), ← List.take_succ_eq_append_getElem (by omega)]
    exact ih
theorem bheat_eq {k : Nat} {b : TunnelBook} (hb : BookOk b) (hk : 1000 ≤ k) {s : List Int} (hs : SetOk b.Parts.length s) : tunnel_book_heat k b (pad4 s) = some (heatS b s) := by
  unfold tunnel_book_heat
  have h4 := hb.four
  have := heat_lj2 (k := k) hb hs b.Parts.length 0 k (by omega) (by omega)
  simp only [Int.natCast_zero, List.take_zero] at this
  rw [this, bind_s, sum_eq hk (by have := heatL_len b.Parts s; omega) (fun x hx => by have := heatL_in b.Parts s hb.part hs.in3 x hx; omega)]
  rfl

theorem Heat_eq {k : Nat} {b : TunnelBook} (hf : Fits b) (hk : Fuel k b) (s : List Int) : tunnel_Heat k b s = some (bif askE b s true == 0 then (heatS b s, 0) else (0, askE b s true)) := by
  unfold tunnel_Heat
  rw [asked_eq hf hk, bind_s]
  cases e : (askE b s true == 0)
  · have : (askE b s true != 0) = true := by simp [bne, e]
    simp [this]
  · have hb : bookB b = true ∧ setB b.Parts.length s = true := by
      unfold askE at e
      cases h1 : bookB b <;> cases h2 : setB b.Parts.length s <;> simp [h1, h2] at e ⊢
    simp only [cond_true]
    rw [bheat_eq ((bookB_iff hf.heat).1 hb.1) hk.low (setB_iff.1 hb.2)]; rfl
/-- Of a right question, how dry a frame is. -/
theorem Dries_eq {k : Nat} {b : TunnelBook} (hf : Fits b) (hk : Fuel k b) (s : List Int) (n : Int) :
    tunnel_Dries k b s n = some (bif askE b s (decide (0 ≤ n) && decide (n ≤ (b.Frames.length : Int) - 1)) == 0 then (((nth b.Frames n).map (drySpan b s)).getD ⟨0, 0⟩, 0) else (⟨0, 0⟩, askE b s (decide (0 ≤ n) && decide (n ≤ (b.Frames.length : Int) - 1)))) := by
  unfold tunnel_Dries
  rw [isFrame_eq k hf.frames, bind_s, asked_eq hf hk, bind_s]
  generalize hq : (decide (0 ≤ n) && decide (n ≤ (b.Frames.length : Int) - 1)) = q
  cases e : (askE b s q == 0)
  · have : (askE b s q != 0) = true := by simp [bne, e]
    simp [this]
  · have hb : bookB b = true ∧ setB b.Parts.length s = true ∧ q = true := by
      unfold askE at e
      cases h1 : bookB b <;> cases h2 : setB b.Parts.length s <;> cases h3 : q <;> simp [h1, h2, h3] at e ⊢
    obtain ⟨h1, h2, rfl⟩ := hb
    simp at hq
    obtain ⟨f, hf1, _⟩ := nth_lt (l := b.Frames) hq.1 (by omega)
    have hn : n = (n.toNat : Int) := by omega
    have hf2 : b.Frames[n.toNat]? = some f := by rw [hn, nth_nat] at hf1; simpa using hf1
    have hd := dryPure_eq ((bookB_iff hf.heat).1 h1) (setB_iff.1 h2) hf2
    rw [← hn] at hd
    simp only [cond_true, hf1, Option.map_some, Option.getD_some]
    rw [show ((0 : Int) != 0) = false from rfl, cond_false, hd]; rfl
end Go.Lu
