/-
  The law TunnelEnds, in plain Lean: both ends of how dry a frame can be are so in a truth: with as little damp as there can be, and with as much; the kind is told by both.
-/
import Derived.Test.YtbcabikaaadiiaaDoorLuG7x1
import Derived.Test.YtbcabikaaadiiaaDoorLuPl10b
import Derived.Test.YtbcabikaaadiiaaDoorLuPl6s
namespace Go.Lu
open Go
set_option linter.unusedVariables false
set_option linter.unusedSimpArgs false

def dHi (p : TunnelPart) (_ : Nat) : Int := p.Damp.High
def dLo (p : TunnelPart) (_ : Nat) : Int := p.Damp.Low
theorem ends_loop {k : Nat} {b : TunnelBook} (hb : BookOk b) : ∀ (m i n : Nat), i + m = b.Parts.length → m < n →
    law03_TunnelEnds_lj4 k b n ((damped dHi 0 b.Parts).take i ++ b.Parts.drop i) ((damped dLo 0 b.Parts).take i ++ b.Parts.drop i) (i : Int) = some (damped dHi 0 b.Parts, damped dLo 0 b.Parts)
  | 0, i, n + 1, h, _ => by
    have e : decide ((i : Int) < (b.Parts.length : Int)) = false := by simp; omega
    have h1 := damped_len dHi 0 b.Parts
    have h2 := damped_len dLo 0 b.Parts
    rw [law03_TunnelEnds_lj4.eq_2, e, List.drop_of_length_le (by omega), List.take_of_length_le (by omega), List.take_of_length_le (by omega)]; simp
  | m + 1, i, n + 1, h, hn => by
    have hi : i < b.Parts.length := by omega
    have h4 := hb.four
    have e : decide ((i : Int) < (b.Parts.length : Int)) = true := by simp; omega
    rw [law03_TunnelEnds_lj4.eq_2, e, cond_true, nth_nat, List.getElem?_eq_getElem hi, bind_s, only_eq, bind_s, bind_s, only_eq, bind_s, mix_get dHi _ hi, bind_s, mix_get dLo _ hi, bind_s, Int.toNat_natCast, wrN (by unfold maxLen; omega)]
    have s1 := mix_set dHi b.Parts hi
    have s2 := mix_set dLo b.Parts hi
    simp only [dHi, dLo] at s1 s2 ⊢
    rw [s1, s2]
    exact ends_loop hb m (i + 1) n (by omega) (by omega)
theorem hi_sum {b : TunnelBook} (hb : BookOk b) (s : List Int) {f : TunnelFrame} (hf : f ∈ b.Frames) : drySum true (damped dHi 0 b.Parts) s f.Stay = (drySpan b s f).Low :=
  Int.le_antisymm (Drier.sum (damped_hi (d := dHi) false (fun p i _ => Int.le_refl _) 0 _ hb.part) fun n hn => ((hb.frame f hf).stay n hn).1)
    (Drier.sum (damped_lo (d := dHi) false (fun p i _ => Int.le_refl _) 0 _ hb.part) fun n hn => ((hb.frame f hf).stay n hn).1)
theorem lo_sum {b : TunnelBook} (hb : BookOk b) (s : List Int) {f : TunnelFrame} (hf : f ∈ b.Frames) : drySum true (damped dLo 0 b.Parts) s f.Stay = (drySpan b s f).High :=
  Int.le_antisymm (Drier.sum (damped_hi (d := dLo) true (fun p i _ => Int.le_refl _) 0 _ hb.part) fun n hn => ((hb.frame f hf).stay n hn).1)
    (Drier.sum (damped_lo (d := dLo) true (fun p i _ => Int.le_refl _) 0 _ hb.part) fun n hn => ((hb.frame f hf).stay n hn).1)

theorem ends_true (b : TunnelBook) (hf : Fits b) (bits : List Int) (hl : bits.length ≤ maxLen) (n : Int) : ∃ k, law03_TunnelEnds k b bits n = some true := by
  obtain ⟨k, hk, _⟩ := fuel_of b 0
  refine ⟨k, ?_⟩
  have hw := warmed_eq hk.low
  unfold law03_TunnelEnds
  rw [sound_eq hf hk, bind_s]
  cases hB : bookB b
  · simp only [Bool.not_false, cond_true, bind_s, hw]
  have hb := (bookB_iff hf.heat).1 hB
  have A : Asks k b := ⟨hf, hk, hb⟩
  simp only [Bool.not_true, cond_false, bind_s]
  cases h0 : ((b.Frames.length : Int) == 0)
  · have hfr : 1 ≤ b.Frames.length := by simp at h0; cases h : b.Frames with | nil => exact absurd h h0 | cons => simp
    obtain ⟨i, hi, hil⟩ := spin_book (n := n) hfr
    have hfl : (b.Frames.length : Int) ≤ 9223372036854775807 := by have := hb.five; omega
    have h4 := hb.four
    have hs := settingV_ok b bits
    have eset := setting_eq (k := k) (b := b) hb.four hk.low hl
    have eloop := ends_loop (k := k) hb b.Parts.length 0 k (by omega) hk.parts
    simp only [List.take_zero, List.drop_zero, List.nil_append, Int.natCast_zero] at eloop
    generalize settingV b bits = s at *
    have hfm := List.getElem_mem hil
    have d1 := Dries_ok A hs hil
    have d2 := Kind_ok A hs hil
    have hfi : nth b.Frames (i : Int) = some b.Frames[i] := by rw [nth_nat, List.getElem?_eq_getElem hil]
    have bh : BookOk ⟨damped dHi 0 b.Parts, b.Frames⟩ := damped_book hb fun p i h => ⟨h, Int.le_refl _⟩
    have bl : BookOk ⟨damped dLo 0 b.Parts, b.Frames⟩ := damped_book hb fun p i h => ⟨Int.le_refl _, h⟩
    have lh := damped_len dHi 0 b.Parts
    have ll := damped_len dLo 0 b.Parts
    have y1 : law03_dryness k ⟨damped dHi 0 b.Parts, b.Frames⟩ s b.Frames[i] = some (drySpan b s b.Frames[i]).Low := by
      rw [dryness_eq hk.low bh (s := s) (by show SetOk (damped dHi 0 b.Parts).length s; rw [lh]; exact hs) (bh.frame _ hfm)]
      exact congrArg some (hi_sum hb s hfm)
    have y2 : law03_dryness k ⟨damped dLo 0 b.Parts, b.Frames⟩ s b.Frames[i] = some (drySpan b s b.Frames[i]).High := by
      rw [dryness_eq hk.low bl (s := s) (by show SetOk (damped dLo 0 b.Parts).length s; rw [ll]; exact hs) (bl.frame _ hfm)]
      exact congrArg some (lo_sum hb s hfm)
    have happ : app ([] : List TunnelPart) b.Parts = some b.Parts := by rw [app_eq (by simp; omega)]; rfl
    have hk2 : (bif decide ((drySpan b s b.Frames[i]).High > b.Frames[i].Need.High) then some (IntKind.i64.wrap ((if (drySpan b s b.Frames[i]).Low < b.Frames[i].Need.Low then 1 else 0) + 2)) else some (if (drySpan b s b.Frames[i]).Low < b.Frames[i].Need.Low then 1 else 0)) = some (kindV b.Frames[i] (drySpan b s b.Frames[i])) := by
      unfold kindV
      by_cases q1 : (drySpan b s b.Frames[i]).Low < b.Frames[i].Need.Low <;> by_cases q2 : (drySpan b s b.Frames[i]).High > b.Frames[i].Need.High <;> simp only [q1, q2, decide_true, decide_false, cond_true, cond_false, if_true, if_false] <;> rfl
    have hk1 : (bif decide ((drySpan b s b.Frames[i]).Low < b.Frames[i].Need.Low) then some 1 else some 0) = some (if (drySpan b s b.Frames[i]).Low < b.Frames[i].Need.Low then (1 : Int) else 0) := by
      by_cases q1 : (drySpan b s b.Frames[i]).Low < b.Frames[i].Need.Low <;> simp only [q1, decide_true, decide_false, cond_true, cond_false, if_true, if_false]
    have hsp : ref00_Sp k (drySpan b s b.Frames[i]).Low (drySpan b s b.Frames[i]).High = some (drySpan b s b.Frames[i]) := rfl
    simp only [cond_false, happ, bind_s, eloop, spin_eq k _ hfl, hi, eset, d1, d2, hfi, y1, y2, hk1, hk2, hsp, show ((0 : Int) == 0) = true from rfl, cond_true, decide_true, beq_self_eq_true, hw]
  · simp only [cond_true, hw, bind_s]
end Go.Lu
