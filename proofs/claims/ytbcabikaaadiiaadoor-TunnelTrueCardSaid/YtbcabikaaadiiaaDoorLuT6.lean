/-
  The law TunnelTrue, in plain Lean: however damp it truly is, by any setting, each frame is as dry as lies between what is returned; what may become of it is what is returned of it; by the best setting each frame is dry in time.
-/
import Derived.Test.YtbcabikaaadiiaaDoorLuG6x1
import Derived.Test.YtbcabikaaadiiaaDoorLuPl10a
import Derived.Test.YtbcabikaaadiiaaDoorLuPl6s
import Derived.Test.YtbcabikaaadiiaaDoorLuPl10b
import Derived.Test.YtbcabikaaadiiaaDoorLuPl10c
namespace Go.Lu
open Go
set_option linter.unusedVariables false
set_option linter.unusedSimpArgs false

def dTrue (bits : List Int) (p : TunnelPart) (i : Nat) : Int := p.Damp.Low + spinV (itemV bits i) (p.Damp.High - p.Damp.Low + 1)
theorem dTrue_in (bits : List Int) (p : TunnelPart) (i : Nat) (h : p.Damp.Low ≤ p.Damp.High) : p.Damp.Low ≤ dTrue bits p i ∧ dTrue bits p i ≤ p.Damp.High := by
  have := spinV_in (n := itemV bits i) (m := p.Damp.High - p.Damp.Low + 1) (by omega)
  unfold dTrue; omega
theorem truly_loop {k : Nat} {b : TunnelBook} (hb : BookOk b) {bits : List Int} (hl : bits.length ≤ maxLen) : ∀ (m i n : Nat), i + m = b.Parts.length → m < n →
    law03_truly_lj2 k b bits n ((damped (dTrue bits) 0 b.Parts).take i ++ b.Parts.drop i) (i : Int) = some (damped (dTrue bits) 0 b.Parts)
  | 0, i, n + 1, h, _ => by
    have h1 := damped_len (dTrue bits) 0 b.Parts
    have e : decide ((i : Int) < (((damped (dTrue bits) 0 b.Parts).take i ++ b.Parts.drop i).length : Int)) = false := by simp; omega
    rw [law03_truly_lj2.eq_2, e, List.drop_of_length_le (by omega), List.take_of_length_le (by omega)]; simp
  | m + 1, i, n + 1, h, hn => by
    have hi : i < b.Parts.length := by omega
    have h1 := damped_len (dTrue bits) 0 b.Parts
    have h4 := hb.four
    have P := hb.part _ (List.getElem_mem hi)
    have e : decide ((i : Int) < (((damped (dTrue bits) 0 b.Parts).take i ++ b.Parts.drop i).length : Int)) = true := by simp; omega
    rw [law03_truly_lj2.eq_2, e, cond_true, nth_nat, List.getElem?_eq_getElem hi, bind_s, item_eq k hl, bind_s, drawn_eq k P.low P.le (by have := P.high; omega), bind_s, only_eq, bind_s, mix_get _ _ hi, bind_s, Int.toNat_natCast, wrN (by unfold maxLen; omega)]
    have s1 := mix_set (dTrue bits) b.Parts hi
    simp only [dTrue] at s1 ⊢
    rw [s1]
    exact truly_loop hb hl m (i + 1) n (by omega) (by omega)
theorem truly_eq {k : Nat} (hk : 1000 ≤ k) {b : TunnelBook} (hb : BookOk b) {bits : List Int} (hl : bits.length ≤ maxLen) : law03_truly k b bits = some ⟨damped (dTrue bits) 0 b.Parts, b.Frames⟩ := by
  unfold law03_truly
  have h4 := hb.four
  have := truly_loop (k := k) hb hl b.Parts.length 0 k (by omega) (by omega)
  simp only [List.take_zero, List.drop_zero, List.nil_append, Int.natCast_zero] at this
  rw [app_eq (by simp; omega), bind_s, List.nil_append, this]; rfl
theorem set_lj11 {k : Nat} {m0 : List Int} (h3 : ∀ x ∈ m0, 0 ≤ x ∧ x ≤ 3) (hl : m0.length ≤ 4) (e0 : Int) : ∀ (m i n : Nat), i + m = m0.length → m < n → law03_TunnelTrue_lj11 k (m0, e0) n (i : Int) = some (Sum.inr ())
  | 0, i, n + 1, h, _ => by
    have e : decide ((i : Int) < (((m0, e0) : List Int × Int).1.length : Int)) = false := by simp; omega
    rw [law03_TunnelTrue_lj11.eq_2, e]; rfl
  | m + 1, i, n + 1, h, hn => by
    have hi : i < m0.length := by omega
    have e : decide ((i : Int) < (((m0, e0) : List Int × Int).1.length : Int)) = true := by simp; omega
    have hx := h3 _ (List.getElem_mem hi)
    have en : nth ((m0, e0) : List Int × Int).1 (i : Int) = some m0[i] := by rw [nth_nat]; exact List.getElem?_eq_getElem hi
    rw [law03_TunnelTrue_lj11.eq_2, e, cond_true, en, bind_s, fits_eq, bind_s, wrN (by unfold maxLen; omega)]
    have e2 : (decide (0 ≤ m0[i]) && decide (m0[i] ≤ 3)) = true := by simp; exact hx
    rw [e2, Bool.not_true, cond_false]
    exact set_lj11 h3 hl e0 m (i + 1) n (by omega) (by omega)
theorem has_eq (k : Nat) (s : Span) (n : Int) : ref00_Has k s n = some (decide (s.Low ≤ n) && decide (n ≤ s.High)) := by unfold ref00_Has; rw [fits_eq]; rfl
theorem kind_cases (f : TunnelFrame) (d : Span) (n : Int) (h1 : d.Low ≤ n) (h2 : n ≤ d.High) :
    (bif decide (n < f.Need.Low) then (rem (kindV f d) 2).bind fun x15_29 => bif x15_29 == 0 then some true else bif decide (n > f.Need.High) then some (decide (kindV f d < 2)) else some false
      else bif decide (n > f.Need.High) then some (decide (kindV f d < 2)) else some false) = some false := by
  unfold kindV
  by_cases q1 : d.Low < f.Need.Low <;> by_cases q2 : d.High > f.Need.High <;> by_cases q3 : n < f.Need.Low <;> by_cases q4 : n > f.Need.High <;> simp only [q1, q2, q3, q4, decide_true, decide_false, cond_true, cond_false, if_true, if_false] <;> first | rfl | (exfalso; omega)

theorem true_loop {k : Nat} {b : TunnelBook} (A : Asks k b) {bits : List Int} {s : List Int} (hs : SetOk b.Parts.length s) (best : List Int × Int)
    (hbest : best.2 ≠ 0 ∨ (best.1 = mostS b ∧ manyS b (mostS b) = b.Frames.length)) (e0 : Int) : ∀ (m i n : Nat), i + m = b.Frames.length → m < n →
    law03_TunnelTrue_lj5 k b ⟨damped (dTrue bits) 0 b.Parts, b.Frames⟩ s (goodL b s, e0) best n (i : Int) = some (Sum.inr ())
  | 0, i, n + 1, h, _ => by
    have e : decide ((i : Int) < (b.Frames.length : Int)) = false := by simp; omega
    rw [law03_TunnelTrue_lj5.eq_2, e]; rfl
  | m + 1, i, n + 1, h, hn => by
    have hi : i < b.Frames.length := by omega
    have e : decide ((i : Int) < (b.Frames.length : Int)) = true := by simp; omega
    have h4 := A.ok.four
    have h5 := A.ok.five
    have hk := A.fuel.low
    have hfm := List.getElem_mem hi
    have bx : BookOk ⟨damped (dTrue bits) 0 b.Parts, b.Frames⟩ := damped_book A.ok fun p i h => dTrue_in bits p i h
    have lx := damped_len (dTrue bits) 0 b.Parts
    have hsx : ∀ t, SetOk b.Parts.length t → SetOk (damped (dTrue bits) 0 b.Parts).length t := fun t ht => by rw [lx]; exact ht
    have stay : ∀ x ∈ (b.Frames[i]).Stay, 0 ≤ x := fun x hx => ((A.ok.frame _ hfm).stay x hx).1
    have lo : ∀ t, (drySpan b t b.Frames[i]).Low ≤ drySum true (damped (dTrue bits) 0 b.Parts) t b.Frames[i].Stay := fun t =>
      Drier.sum (damped_lo (d := dTrue bits) false (fun p i h => (dTrue_in bits p i h).2) 0 _ A.ok.part) stay
    have hi' : ∀ t, drySum true (damped (dTrue bits) 0 b.Parts) t b.Frames[i].Stay ≤ (drySpan b t b.Frames[i]).High := fun t =>
      Drier.sum (damped_hi (d := dTrue bits) true (fun p i h => (dTrue_in bits p i h).1) 0 _ A.ok.part) stay
    have y1 := dryness_eq hk bx (hsx s hs) (bx.frame _ hfm)
    have d1 := Dries_ok A hs hi
    have d2 := Kind_ok A hs hi
    obtain ⟨v, hv, hv'⟩ := index_eq (k := k) (l := goodL b s) (i : Int) (by have := good_len_le b s; omega) (by have := good_len_le b s; unfold maxLen; omega)
    have hmem : decide ((i : Int) ∈ goodL b s) = (kindV b.Frames[i] (drySpan b s b.Frames[i]) == 0) := by
      rw [kindV_dry, ← dryK_nat hi]
      cases hd : dryK b s (i : Nat)
      · exact decide_eq_false fun hm => by rw [mem_good.1 hm] at hd; cases hd
      · exact decide_eq_true (mem_good.2 hd)
    rw [hmem] at hv'
    have c1 : ref00_Has k (drySpan b s b.Frames[i]) (drySum true (damped (dTrue bits) 0 b.Parts) s b.Frames[i].Stay) = some true := by
      rw [has_eq, decide_eq_true (lo s), decide_eq_true (hi' s)]; rfl
    have c2 := kind_cases b.Frames[i] (drySpan b s b.Frames[i]) _ (lo s) (hi' s)
    have ih := true_loop A (bits := bits) hs best hbest e0 m (i + 1) n (by omega) (by omega)
    rw [law03_TunnelTrue_lj5.eq_2, e, cond_true, nth_nat, List.getElem?_eq_getElem hi, bind_s, y1, bind_s, d1, bind_s, d2, bind_s, wrN (by unfold maxLen; omega), ih]
    simp only [show ((0 : Int) != 0) = false from rfl, cond_false, c1, hv, hv', bind_s, Bool.not_true, bne_self_eq_false]
    rw [c2, bind_s, cond_false]
    rcases hbest with hbest | ⟨hbest, hall⟩
    · have : (best.2 != 0) = true := by simp [hbest]
      rw [this, cond_true]
    · have hm := mostS_ok b
      have z1 := set_lj11 (k := k) hm.in3 (by rw [hm.len]; exact h4) best.2 (mostS b).length 0 k (by omega) (by have := hm.len; omega)
      have eb : (mostS b, best.2) = best := by rw [← hbest]
      rw [eb, Int.natCast_zero] at z1
      have y2 := dryness_eq hk bx (hsx _ hm) (bx.frame _ hfm)
      have hd : dryB b (mostS b) b.Frames[i] = true := by
        rw [← dryK_nat hi]
        exact (all_dry_iff b (mostS b)).2 hall i (List.mem_map.2 ⟨i, List.mem_range.2 hi, rfl⟩)
      simp only [dryB, Bool.and_eq_true, decide_eq_true_eq] at hd
      have c3 : ref00_Has k b.Frames[i].Need (drySum true (damped (dTrue bits) 0 b.Parts) (mostS b) b.Frames[i].Stay) = some true := by
        rw [has_eq, decide_eq_true (Int.le_trans hd.1 (lo _)), decide_eq_true (Int.le_trans (hi' _) hd.2)]; rfl
      rw [hbest]
      cases (best.2 != 0)
      · simp only [cond_false, z1, bind_s, y2, c3, Bool.not_true]
      · rfl

theorem true_true (b : TunnelBook) (hf : Fits b) (bits : List Int) (hl : bits.length ≤ maxLen) (set : List Int) (hl2 : set.length ≤ maxLen) : ∃ k, law03_TunnelTrue k b bits set = some true := by
  obtain ⟨k, hk, _⟩ := fuel_of b 0
  refine ⟨k, ?_⟩
  have hw := warmed_eq hk.low
  unfold law03_TunnelTrue
  rw [sound_eq hf hk, bind_s]
  cases hB : bookB b
  · simp only [Bool.not_false, cond_true, bind_s, hw]
  have hb := (bookB_iff hf.heat).1 hB
  have A : Asks k b := ⟨hf, hk, hb⟩
  have hs := settingV_ok b set
  have eset := setting_eq (k := k) (b := b) hb.four hk.low hl2
  generalize settingV b set = s at *
  have et := truly_eq hk.low hb hl
  have e1 := Good_ok A hs
  have e2 := Best_ok A
  have h5 := hb.five
  have gl := good_len_le b s
  have hm := mostS_ok b
  have eg : ref00_Grows k (goodL b s) (b.Frames.length : Int) = some true := grows_eq (by have := hk.low; omega) (by omega) (by unfold maxLen; omega) (goodL_in b s) (goodL_sorted b s)
  simp only [Bool.not_true, cond_false, et, eset, e1, bind_s, show ((0 : Int) != 0) = false from rfl, eg]
  by_cases hall : manyS b (mostS b) = b.Frames.length
  · rw [if_pos hall] at e2
    have lp := true_loop A (bits := bits) hs (mostS b, 0) (.inr ⟨rfl, hall⟩) 0 b.Frames.length 0 k (by omega) hk.frames
    rw [Int.natCast_zero] at lp
    have c : (((mostS b).length : Int) != (b.Parts.length : Int)) = false := by simp [hm.len]
    simp only [e2, bind_s, show ((0 : Int) != 0) = false from rfl, show ((0 : Int) == 0) = true from rfl, cond_false, cond_true, c, lp, hw]
  · rw [if_neg hall] at e2
    have lp := true_loop A (bits := bits) hs (([] : List Int), 4) (.inl (by decide)) 0 b.Frames.length 0 k (by omega) hk.frames
    rw [Int.natCast_zero] at lp
    simp only [e2, bind_s, show ((4 : Int) != 0) = true from rfl, show ((4 : Int) != 4) = false from rfl, show ((4 : Int) == 0) = false from rfl, List.length_nil, show (((0 : Nat) : Int) != 0) = false from rfl, cond_false, cond_true, lp, hw]
end Go.Lu
