/-
  The law TunnelLonger, in plain Lean: a frame that stays for as many minutes more as are returned surely is dry in time, and for one minute more it is not, or it would stay too long.
-/
import Derived.Test.YtbcabikaaadiiaaDoorLuG12x1
import Derived.Test.YtbcabikaaadiiaaDoorLuPl11
import Derived.Test.YtbcabikaaadiiaaDoorLuPl6s
namespace Go.Lu
open Go
set_option linter.unusedVariables false
set_option linter.unusedSimpArgs false

theorem stays_eq {k : Nat} {b : TunnelBook} (hb : BookOk b) {i : Nat} (hi : i < b.Frames.length) {p : Nat} (hp : p < b.Frames[i].Stay.length) (st : Int) : law03_stays k b (i : Int) (p : Int) st = some (stayB' b i b.Frames[i] p st) := by
  have h5 := hb.five
  have h4 := hb.four
  have hl := (hb.frame _ (List.getElem_mem hi)).len
  have a1 : app ([] : List TunnelFrame) b.Frames = some b.Frames := by rw [app_eq (by simp; omega)]; rfl
  have a2 : app ([] : List Int) b.Frames[i].Stay = some b.Frames[i].Stay := by rw [app_eq (by simp; omega)]; rfl
  have n1 : nth b.Frames (i : Int) = some b.Frames[i] := by rw [nth_nat, List.getElem?_eq_getElem hi]
  have n2 : nth b.Frames[i].Stay (p : Int) = some b.Frames[i].Stay[p] := by rw [nth_nat, List.getElem?_eq_getElem hp]
  unfold law03_stays
  simp only [a1, a2, n1, n2, bind_s, Int.toNat_natCast]; rfl
theorem stay_kind {k : Nat} (hk : 1000 ≤ k) {b : TunnelBook} (hb : BookOk b) {s : List Int} (hs : SetOk b.Parts.length s) {i : Nat} (hi : i < b.Frames.length) {p : Nat} {st : Int} (h0 : 0 ≤ st) (h1 : st ≤ 20) :
    ∃ v, tunnel_Kind k (stayB' b i b.Frames[i] p st) s (i : Int) = some (v, 0) ∧ (v != 0) = !dryB b s (stayF b.Frames[i] p st) := by
  have bx := stayB_ok hb (hb.frame _ (List.getElem_mem hi)) i (p := p) h0 h1
  have hi' : i < (stayB' b i b.Frames[i] p st).Frames.length := by simp [stayB', hi]
  have e : (stayB' b i b.Frames[i] p st).Frames[i] = stayF b.Frames[i] p st := by simp [stayB']
  refine ⟨_, Kind_ok (asks_of hk bx) hs hi', ?_⟩
  have := kindV_dry (stayB' b i b.Frames[i] p st) s (stayF b.Frames[i] p st)
  rw [e]
  unfold bne
  rw [this]; rfl

theorem longer_true (b : TunnelBook) (hf : Fits b) (bits : List Int) (hl : bits.length ≤ maxLen) (n : List Int) (hn : n.length = 2) : ∃ k, law03_TunnelLonger k b bits n = some true := by
  obtain ⟨k, hk, _⟩ := fuel_of b 0
  refine ⟨k, ?_⟩
  have hw := warmed_eq hk.low
  unfold law03_TunnelLonger
  rw [sound_eq hf hk, bind_s]
  cases hB : bookB b
  · simp only [Bool.not_false, cond_true, bind_s, hw]
  have hb := (bookB_iff hf.heat).1 hB
  have A : Asks k b := ⟨hf, hk, hb⟩
  simp only [Bool.not_true, cond_false, bind_s]
  cases h0 : ((b.Frames.length : Int) == 0)
  · have hfr : 1 ≤ b.Frames.length := by simp at h0; cases h : b.Frames with | nil => exact absurd h h0 | cons => simp
    obtain ⟨i, hi, hil⟩ := spin_book (n := n[0]'(by omega)) hfr
    obtain ⟨p, hp, hpl⟩ := spin_book (n := n[1]'(by omega)) hb.one
    have hfl : (b.Frames.length : Int) ≤ 9223372036854775807 := by have := hb.five; omega
    have hpl' : (b.Parts.length : Int) ≤ 9223372036854775807 := by have := hb.four; omega
    have e0 : nth n (0 : Int) = some n[0] := by rw [show (0 : Int) = ((0 : Nat) : Int) from rfl, nth_nat]; simp
    have e1 : nth n (1 : Int) = some n[1] := by rw [show (1 : Int) = ((1 : Nat) : Int) from rfl, nth_nat]; simp
    have hs := settingV_ok b bits
    have eset := setting_eq (k := k) (b := b) hb.four hk.low hl
    generalize settingV b bits = s at *
    have hfm := List.getElem_mem hil
    have F := hb.frame _ hfm
    have hps : p < b.Frames[i].Stay.length := by rw [F.len]; exact hpl
    have hx := F.stay _ (List.getElem_mem hps)
    have d2 := Kind_ok A hs hil
    have hkd := kindV_dry b s b.Frames[i]
    have n1 : nth b.Frames (i : Int) = some b.Frames[i] := by rw [nth_nat, List.getElem?_eq_getElem hil]
    have n2 : nth b.Frames[i].Stay (p : Int) = some b.Frames[i].Stay[p] := by rw [nth_nat, List.getElem?_eq_getElem hps]
    generalize kindV b.Frames[i] (drySpan b s b.Frames[i]) = kd at *
    rcases Longer_ok A hs hil hps with ⟨hd, hL⟩ | ⟨hd, m, hm, hL, h2, h3⟩
    · rw [hd] at hkd
      have c1 : (kd != 0) = true := by unfold bne; rw [hkd]; rfl
      simp only [cond_false, eset, bind_s, e0, e1, spin_eq k _ hfl, spin_eq k _ hpl', hi, hp, hL, d2, c1, show ((0 : Int) != 0) = false from rfl, show ((4 : Int) == 4) = true from rfl, show ((4 : Int) != 0) = true from rfl, show ((4 : Int) != 4) = false from rfl, bne_self_eq_false, cond_true, hw]
    · rw [hd] at hkd
      have c1 : (kd != 0) = false := by unfold bne; rw [hkd]; rfl
      have w1 : IntKind.i64.wrap (20 - b.Frames[i].Stay[p]) = 20 - b.Frames[i].Stay[p] := wr (by omega) (by omega)
      have w2 : IntKind.i64.wrap (b.Frames[i].Stay[p] + (m : Int)) = b.Frames[i].Stay[p] + (m : Int) := wr (by omega) (by omega)
      have w3 : IntKind.i64.wrap (b.Frames[i].Stay[p] + (m : Int) + 1) = b.Frames[i].Stay[p] + (m : Int) + 1 := wr (by omega) (by omega)
      have c2 : ref00_Fits k (m : Int) 0 (20 - b.Frames[i].Stay[p]) = some true := by
        rw [fits_eq]; congr 1; simp; omega
      obtain ⟨v, hv, hv'⟩ := stay_kind hk.low hb hs hil (p := p) (st := b.Frames[i].Stay[p] + m) (by omega) hm
      rw [h2] at hv'
      simp only [cond_false, eset, bind_s, e0, e1, spin_eq k _ hfl, spin_eq k _ hpl', hi, hp, hL, d2, c1, show ((0 : Int) != 0) = false from rfl, show ((0 : Int) == 4) = false from rfl, bne_self_eq_false, n1, n2, w1, c2, Bool.not_true, w2, stays_eq hb hil hps, hv, hv']
      cases hq : (b.Frames[i].Stay[p] + (m : Int) == 20)
      · have hne : b.Frames[i].Stay[p] + (m : Int) ≠ 20 := by simpa using hq
        obtain ⟨u, hu, hu'⟩ := stay_kind hk.low hb hs hil (p := p) (st := b.Frames[i].Stay[p] + m + 1) (by omega) (by omega)
        have h3' := h3 (m + 1) (by omega) (by omega)
        have e4 : b.Frames[i].Stay[p] + ((m + 1 : Nat) : Int) = b.Frames[i].Stay[p] + m + 1 := by omega
        rw [e4] at h3'
        rw [h3'] at hu'
        simp only [cond_false, w3, stays_eq hb hil hps, bind_s, hu, hu', show ((0 : Int) == 0) = true from rfl, cond_true, Bool.not_false, hw]
      · simp only [cond_true, hw, bind_s]
  · simp only [cond_true, hw, bind_s]
end Go.Lu
