/-
  The law TunnelBest, in plain Lean: by no setting, that numbers choose, more frames surely are dry in time than by the one that is returned for the most; if by it all are it is no cooler than the best one, nor as cool and before it.
-/
import Derived.Test.YtbcabikaaadiiaaDoorLuG8x4
import Derived.Test.YtbcabikaaadiiaaDoorLuPl8
namespace Go.Lu
open Go
set_option linter.unusedVariables false
set_option linter.unusedSimpArgs false

theorem heat_loop {k : Nat} {b : TunnelBook} (hb : BookOk b) {s : List Int} (hs : SetOk b.Parts.length s) : ∀ (m i n : Nat) (a : Int), i + m = s.length → m < n → 0 ≤ a → a ≤ 1000 * i → law03_TunnelBest_lj5 k b s n a (i : Int) = some (a + ((heatL b.Parts s).drop i).sum)
  | 0, i, n + 1, a, h, _, _, _ => by
    have e : decide ((i : Int) < (s.length : Int)) = false := by simp; omega
    rw [law03_TunnelBest_lj5.eq_2, e, List.drop_of_length_le (by have := heatL_len b.Parts s; have := hs.len; omega)]; simp
  | m + 1, i, n + 1, a, h, hn, h0, h1 => by
    have hj : i < s.length := by omega
    have hi : i < b.Parts.length := by have := hs.len; omega
    have e : decide ((i : Int) < (s.length : Int)) = true := by simp; omega
    have h4 := hb.four
    have hl := heatL_length b.Parts s hs.len
    obtain ⟨s0, s1⟩ := hs.in3 s[i] (List.getElem_mem hj)
    obtain ⟨hh, g0, g1⟩ := hAt_of (hb.part _ (List.getElem_mem hi)) s0 s1
    rw [law03_TunnelBest_lj5.eq_2, e, cond_true, nth_nat, List.getElem?_eq_getElem hj, bind_s, nth_nat, List.getElem?_eq_getElem hi, bind_s, hh, bind_s, wrN (by unfold maxLen; omega), wr (by omega) (by omega), heat_loop hb hs m (i + 1) n _ (by omega) (by omega) (by omega) (by omega), List.drop_eq_getElem_cons (l := heatL b.Parts s) (i := i) (by omega), List.sum_cons, heatL_get b.Parts s i hi hj (by omega)]
    congr 1; omega

theorem best_true (b : TunnelBook) (hf : Fits b) (bits : List Int) (hl : bits.length ≤ maxLen) : ∃ k, law03_TunnelBest k b bits = some true := by
  obtain ⟨k, hk, _⟩ := fuel_of b 0
  refine ⟨k, ?_⟩
  have hw := warmed_eq hk.low
  unfold law03_TunnelBest
  rw [sound_eq hf hk, bind_s]
  cases hB : bookB b
  · simp only [Bool.not_false, cond_true, bind_s, hw]
  have hb := (bookB_iff hf.heat).1 hB
  have A : Asks k b := ⟨hf, hk, hb⟩
  have hs := settingV_ok b bits
  have eset := setting_eq (k := k) (b := b) hb.four hk.low hl
  have hm := mostS_ok b
  have h4 := hb.four
  have h5 := hb.five
  generalize settingV b bits = s at *
  have e1 := Good_ok A hs
  have e2 := Heat_ok A hs
  have e3 := Most_ok A
  have e4 := Good_ok A hm
  have e5 := Heat_ok A hm
  have e6 := Best_ok A
  have gl := good_len_le b (mostS b)
  have e7 : ref00_Alike k (goodL b (mostS b)) (goodL b (mostS b)) = some true := alike_self (by have := hk.low; omega) (by unfold maxLen; omega)
  have e7' : ref00_Alike k (mostS b) (mostS b) = some true := alike_self (by have := hk.low; have := hm.len; omega) (by have := hm.len; unfold maxLen; omega)
  have e8 := heat_loop (k := k) hb hs s.length 0 k 0 (by omega) (by have := hk.low; have := hs.len; omega) (by omega) (by omega)
  simp only [Int.natCast_zero, List.drop_zero, Int.zero_add] at e8
  have e8' : law03_TunnelBest_lj5 k b s k 0 0 = some (heatS b s) := e8
  have hle := mostS_many b hs
  have hbt := mostS_best b hs
  have e9 := earlier_eq (k := k) (l := s) (m := mostS b) (by have := hk.low; have := hs.len; omega) (by have := hs.len; unfold maxLen; omega) (by rw [hm.len, hs.len])
  simp only [Bool.not_true, cond_false, eset, e1, e2, e3, e4, e5, bind_s, e7, e8', e9, show ((0 : Int) != 0) = false from rfl]
  have c1 : decide (((goodL b s).length : Int) > ((goodL b (mostS b)).length : Int)) = false := by unfold manyS at hle; simp; omega
  rw [c1]
  simp only [cond_false, show (heatS b s != heatS b s) = false by simp]
  have tail : ∀ (j : Int) (best : List Int), (j = 0 → best = mostS b) → ((bif ((goodL b s).length : Int) == ((goodL b (mostS b)).length : Int) then bif decide (heatS b s < heatS b (mostS b)) then some true else bif heatS b s == heatS b (mostS b) then some (earlierB s (mostS b)) else some false else some false) : Option Bool) = some false := by
    intro j best _
    by_cases h1 : manyS b s = manyS b (mostS b)
    · have h1' : (((goodL b s).length : Int) == ((goodL b (mostS b)).length : Int)) = true := by unfold manyS at h1; simp; omega
      have h2 : ¬ heatS b s < heatS b (mostS b) := by
        simp [betterS, h1] at hbt; omega
      rw [h1']
      simp only [cond_true, h2, decide_false, cond_false]
      by_cases h3 : heatS b s = heatS b (mostS b)
      · have h4 : betterS b (mostS b) s = false := by simp [betterS, h1, h3]
        rw [mostS_first hs h4]; simp
      · have : (heatS b s == heatS b (mostS b)) = false := by simp [h3]
        rw [this]; rfl
    · have h1' : (((goodL b s).length : Int) == ((goodL b (mostS b)).length : Int)) = false := by unfold manyS at h1; simp; omega
      rw [h1']; rfl
  by_cases hall : manyS b (mostS b) = b.Frames.length
  · rw [if_pos hall] at e6
    have c2 : ((((0 : Int) == 0)) != (((goodL b (mostS b)).length : Int) == (b.Frames.length : Int))) = false := by unfold manyS at hall; simp [hall]
    simp only [e6, bind_s, c2, cond_false, show ((0 : Int) != 0) = false from rfl, tail 0 (mostS b) (fun _ => rfl), e7', cond_true, hw]
  · rw [if_neg hall] at e6
    have c2 : ((((4 : Int) == 0)) != (((goodL b (mostS b)).length : Int) == (b.Frames.length : Int))) = false := by unfold manyS at hall; simp; omega
    simp only [e6, bind_s, c2, cond_false, show ((4 : Int) != 0) = true from rfl, show ((4 : Int) != 4) = false from rfl, cond_true, List.length_nil, show (((0 : Nat) : Int) != 0) = false from rfl, tail 4 [] (fun h => by cases h), hw]
end Go.Lu
