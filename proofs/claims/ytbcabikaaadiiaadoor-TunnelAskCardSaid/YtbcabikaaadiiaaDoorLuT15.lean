/-
  The law TunnelAsk, in plain Lean: whatever the damp of the part is that is asked for, by one setting no fewer frames surely are dry in time than at the worst of any other part, and no fewer than before; of equal ones it is the first one.
-/
import Derived.Test.YtbcabikaaadiiaaDoorLuG15x1
import Derived.Test.YtbcabikaaadiiaaDoorLuPl12
namespace Go.Lu
open Go
set_option linter.unusedVariables false
set_option linter.unusedSimpArgs false

theorem only_eq (k : Nat) (n : Int) : ref00_Only k n = some ⟨n, n⟩ := rfl
theorem worst_lj2 {k : Nat} (hk : 1000 ≤ k) {b : TunnelBook} (hb : BookOk b) {p : Nat} (hp : p < b.Parts.length) : ∀ (c n : Nat) (a d : Int), d + c = b.Parts[p].Damp.High + 1 → b.Parts[p].Damp.Low ≤ d → c < n →
    law03_worst_lj2 k b (p : Int) n a d = some (Sum.inr (worstFrom b p b.Parts[p] a d c))
  | 0, n + 1, a, d, h, h0, _ => by
    have n1 : nth b.Parts (p : Int) = some b.Parts[p] := by rw [nth_nat, List.getElem?_eq_getElem hp]
    have e : decide (d ≤ b.Parts[p].Damp.High) = false := by simp; omega
    rw [law03_worst_lj2.eq_2, n1, bind_s, e]; rfl
  | c + 1, n + 1, a, d, h, h0, hn => by
    have P := hb.part _ (List.getElem_mem hp)
    have := P.low; have := P.high; have := P.le
    have h4 := hb.four
    have n1 : nth b.Parts (p : Int) = some b.Parts[p] := by rw [nth_nat, List.getElem?_eq_getElem hp]
    have e : decide (d ≤ b.Parts[p].Damp.High) = true := by simp; omega
    have hM := Most_ok (asks_of hk (meas_ok hb hp (d := d) h0 (by omega)))
    have hM' : tunnel_Most k ⟨b.Parts.set p ⟨b.Parts[p].Heat, ⟨d, d⟩⟩, b.Frames⟩ = _ := hM
    have w : IntKind.i64.wrap (d + 1) = d + 1 := wr (by omega) (by omega)
    rw [law03_worst_lj2.eq_2, n1, bind_s, e, cond_true, app_eq (by simp; omega), bind_s, List.nil_append, only_eq, bind_s, n1, bind_s, Int.toNat_natCast, hM', bind_s, w]
    simp only [show ((0 : Int) != 0) = false from rfl, cond_false]
    exact worst_lj2 hk hb hp c n _ (d + 1) (by omega) (by omega) (by omega)
theorem worst_eq {k : Nat} (hk : 1000 ≤ k) {b : TunnelBook} (hb : BookOk b) {p : Nat} (hp : p < b.Parts.length) : law03_worst k b (p : Int) = some (worstV b p b.Parts[p]) := by
  have P := hb.part _ (List.getElem_mem hp)
  have := P.le; have := P.wide
  have n1 : nth b.Parts (p : Int) = some b.Parts[p] := by rw [nth_nat, List.getElem?_eq_getElem hp]
  unfold law03_worst
  rw [n1, bind_s, worst_lj2 hk hb hp (b.Parts[p].Damp.High - b.Parts[p].Damp.Low + 1).toNat k _ _ (by omega) (Int.le_refl _) (by omega)]; rfl

theorem ask_true (b : TunnelBook) (hf : Fits b) (n : Int) : ∃ k, law03_TunnelAsk k b n = some true := by
  obtain ⟨k, hk, _⟩ := fuel_of b 0
  refine ⟨k, ?_⟩
  have hw := warmed_eq hk.low
  unfold law03_TunnelAsk
  rw [sound_eq hf hk, bind_s]
  cases hB : bookB b
  · simp only [Bool.not_false, cond_true, bind_s, hw]
  have hb := (bookB_iff hf.heat).1 hB
  have A : Asks k b := ⟨hf, hk, hb⟩
  have h4 := hb.four
  obtain ⟨a, ha, hab⟩ := Ask_ok A
  have e2 := Most_ok A
  obtain ⟨p, hp, hpl⟩ := spin_book (n := n) hb.one
  have hpl' : (b.Parts.length : Int) ≤ 9223372036854775807 := by omega
  have w1 : IntKind.i64.wrap ((b.Parts.length : Int) - 1) = (b.Parts.length : Int) - 1 := wr (by omega) (by omega)
  have hal := hab.lt
  have c1 : ref00_Fits k (a : Int) 0 ((b.Parts.length : Int) - 1) = some true := by rw [fits_eq]; congr 1; simp; omega
  have x1 := worst_eq hk.low hb hal
  have x2 := worst_eq hk.low hb hpl
  have Pa := hb.part _ (List.getElem_mem hal)
  have g1 : mostN b ≤ worstV b a b.Parts[a] := by
    have := Pa.le
    have gl := good_len_le b (mostS b)
    exact worst_ge hb hal _ _ _ (by unfold mostN manyS; omega) (Int.le_refl _) (by omega)
  have c2 : decide (worstV b a b.Parts[a] ≥ ((goodL b (mostS b)).length : Int)) = true := by simp; exact g1
  have hmax := hab.max p hpl
  simp only [Bool.not_true, cond_false, ha, e2, bind_s, show ((0 : Int) != 0) = false from rfl, w1, c1, spin_eq k _ hpl', hp, x1, x2, c2, cond_true]
  by_cases h1 : worstV b a b.Parts[a] > worstV b p b.Parts[p]
  · rw [decide_eq_true h1]; simp only [cond_true, hw, bind_s]
  · rw [decide_eq_false h1]
    have h2 : worstV b a b.Parts[a] = worstV b p b.Parts[p] := by omega
    have h3 : decide ((a : Int) ≤ (p : Int)) = true := by
      refine decide_eq_true ?_
      by_cases hpa : p < a
      · have := hab.first p hpa; omega
      · omega
    have h2' : (worstV b a b.Parts[a] == worstV b p b.Parts[p]) = true := by simp [h2]
    simp only [h2', h3, cond_true, cond_false, hw, bind_s]
end Go.Lu
