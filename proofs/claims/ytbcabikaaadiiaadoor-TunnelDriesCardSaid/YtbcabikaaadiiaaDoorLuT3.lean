/-
  The law TunnelDries, in plain Lean: Check, Heat, Dries, Kind and Good return what the reference says, for any book, setting and frame.
-/
import Derived.Test.YtbcabikaaadiiaaDoorLuG3x1
import Derived.Test.YtbcabikaaadiiaaDoorLuPl14
namespace Go.Lu
open Go
set_option linter.unusedVariables false
set_option linter.unusedSimpArgs false

theorem askE_zero {b : TunnelBook} {s : List Int} {r : Bool} (h : (askE b s r == 0) = true) : bookB b = true ∧ setB b.Parts.length s = true ∧ r = true := by
  unfold askE at h
  cases h1 : bookB b <;> cases h2 : setB b.Parts.length s <;> cases r <;> simp [h1, h2] at h ⊢
theorem ref_ask1 {k : Nat} {b : TunnelBook} (hf : Fits b) (hk : Fuel k b) (s : List Int) : ref03_asked k b (setB b.Parts.length s) = some (askE b s true) := by
  rw [ref_asked hf hk]; unfold askE
  cases bookB b <;> cases setB b.Parts.length s <;> rfl
theorem ref_ask2 {k : Nat} {b : TunnelBook} (hf : Fits b) (hk : Fuel k b) (s : List Int) (r : Bool) : (bif setB b.Parts.length s then (ref03_asked k b r).bind fun x => some x else (ref03_asked k b false).bind fun x => some x) = some (askE b s r) := by
  rw [ref_asked hf hk, ref_asked hf hk]; unfold askE
  cases bookB b <;> cases setB b.Parts.length s <;> cases r <;> rfl
section
variable {k : Nat} {b : TunnelBook} (hf : Fits b) (hk : Fuel k b) {s : List Int} (hs : s.length < k) (hl : s.length ≤ maxLen)
include hf hk hs hl
theorem heat_both : ∃ r, tunnel_Heat k b s = some r ∧ ref03_Heat k b s = some r := by
  refine ⟨_, Heat_eq hf hk s, ?_⟩
  unfold ref03_Heat
  rw [isSet_eq hs hl, bind_s, ref_ask1 hf hk, bind_s]
  cases e : (askE b s true == 0)
  · have : (askE b s true != 0) = true := by unfold bne; rw [e]; rfl
    rw [this]; rfl
  · obtain ⟨h1, h2, _⟩ := askE_zero e
    have : (askE b s true != 0) = false := by unfold bne; rw [e]; rfl
    rw [this, cond_false, ref_heat hk.low ((bookB_iff hf.heat).1 h1) (setB_iff.1 h2)]; rfl
theorem good_both : ∃ r, tunnel_Good k b s = some r ∧ ref03_Good k b s = some r ∧ r.1.length ≤ b.Frames.length := by
  unfold tunnel_Good ref03_Good
  rw [asked_eq hf hk, bind_s, isSet_eq hs hl, bind_s, ref_ask1 hf hk, bind_s]
  cases e : (askE b s true == 0)
  · have : (askE b s true != 0) = true := by unfold bne; rw [e]; rfl
    simp only [cond_false, this, cond_true]
    exact ⟨_, rfl, rfl, by simp⟩
  · obtain ⟨h1, h2, _⟩ := askE_zero e
    have hb := (bookB_iff hf.heat).1 h1
    have : (askE b s true != 0) = false := by unfold bne; rw [e]; rfl
    simp only [cond_true, this, cond_false, show ((0 : Int) != 0) = false from rfl, bgood_eq hb hk.low (setB_iff.1 h2), ref_good hk.low hb (setB_iff.1 h2), bind_s]
    exact ⟨_, rfl, rfl, good_len_le b s⟩
theorem dries_both (n : Int) : ∃ r, tunnel_Dries k b s n = some r ∧ ref03_Dries k b s n = some r ∧ (r.2 == 0) = (askE b s (decide (0 ≤ n) && decide (n ≤ (b.Frames.length : Int) - 1)) == 0) ∧ (r.2 ≠ 0 → r.2 = askE b s (decide (0 ≤ n) && decide (n ≤ (b.Frames.length : Int) - 1))) ∧
    ((askE b s (decide (0 ≤ n) && decide (n ≤ (b.Frames.length : Int) - 1)) == 0) = true → dryPure b ⟨n, pad4 s⟩ = some r.1) := by
  have hD := Dries_eq hf hk s n
  refine ⟨_, hD, ?_, ?_⟩
  · unfold ref03_Dries
    rw [isSet_eq hs hl, bind_s, ref_isFrame k hf.frames, bind_s, ref_ask2 hf hk, bind_s]
    generalize hq : (decide (0 ≤ n) && decide (n ≤ (b.Frames.length : Int) - 1)) = q
    cases e : (askE b s q == 0)
    · have : (askE b s q != 0) = true := by unfold bne; rw [e]; rfl
      rw [this]; rfl
    · obtain ⟨h1, h2, rfl⟩ := askE_zero e
      have hb := (bookB_iff hf.heat).1 h1
      have : (askE b s true != 0) = false := by unfold bne; rw [e]; rfl
      simp at hq
      obtain ⟨f, hf1, hfm⟩ := nth_lt (l := b.Frames) hq.1 (by omega)
      rw [this, cond_false, hf1, bind_s, ref_dries hk.low hb (setB_iff.1 h2) (hb.frame f hfm)]; rfl
  · generalize hq : (decide (0 ≤ n) && decide (n ≤ (b.Frames.length : Int) - 1)) = q
    cases e : (askE b s q == 0)
    · exact ⟨e, fun _ => rfl, fun h => by cases h⟩
    · obtain ⟨h1, h2, rfl⟩ := askE_zero e
      have hb := (bookB_iff hf.heat).1 h1
      simp at hq
      obtain ⟨f, hf1, hfm⟩ := nth_lt (l := b.Frames) hq.1 (by omega)
      have hn : n = (n.toNat : Int) := by omega
      have hf2 : b.Frames[n.toNat]? = some f := by rw [hn, nth_nat] at hf1; simpa using hf1
      have hd := dryPure_eq hb (setB_iff.1 h2) hf2
      rw [← hn] at hd
      refine ⟨rfl, fun h => absurd rfl h, fun _ => ?_⟩
      rw [hd, hf1]; rfl
theorem kind_both (n : Int) : ∃ r, tunnel_Kind k b s n = some r ∧ ref03_Kind k b s n = some r := by
  obtain ⟨r, h1, h2, h3, h4, h5⟩ := dries_both hf hk hs hl n
  unfold tunnel_Kind ref03_Kind
  rw [isFrame_eq k hf.frames, bind_s, asked_eq hf hk, bind_s, h2, bind_s]
  generalize hq : (decide (0 ≤ n) && decide (n ≤ (b.Frames.length : Int) - 1)) = q at *
  cases e : (askE b s q == 0)
  · rw [e] at h3
    have c1 : (askE b s q != 0) = true := by unfold bne; rw [e]; rfl
    have c2 : (r.2 != 0) = true := by unfold bne; rw [h3]; rfl
    have c3 : r.2 = askE b s q := h4 (by simpa using c2)
    simp only [cond_false, c1, c2, cond_true]
    exact ⟨_, rfl, by rw [c3]⟩
  · rw [e] at h3
    obtain ⟨g1, g2, rfl⟩ := askE_zero e
    have c2 : (r.2 != 0) = false := by unfold bne; rw [h3]; rfl
    simp at hq
    obtain ⟨f, hf1, hfm⟩ := nth_lt (l := b.Frames) hq.1 (by omega)
    simp only [cond_true, cond_false, c2, show ((0 : Int) != 0) = false from rfl, h5 e, bind_s, hf1]
    cases decide (r.1.Low < f.Need.Low) <;> cases decide (r.1.High > f.Need.High) <;> exact ⟨_, rfl, rfl⟩
end

theorem dries_true (b : TunnelBook) (hf : Fits b) (s : List Int) (hl : s.length ≤ maxLen) (n : Int) : ∃ k, law03_TunnelDries k b s n = some true := by
  obtain ⟨k, hk, hs⟩ := fuel_of b s.length
  refine ⟨k, ?_⟩
  have hw := warmed_eq hk.low
  obtain ⟨r1, a1, a2⟩ := heat_both hf hk hs hl
  obtain ⟨r2, b1, b2, _⟩ := dries_both hf hk hs hl n
  obtain ⟨r3, c1, c2⟩ := kind_both hf hk hs hl n
  obtain ⟨r4, d1, d2, d3⟩ := good_both hf hk hs hl
  have hm : b.Frames.length ≤ maxLen := hf.frames
  have hal : ref00_Alike k r4.1 r4.1 = some true := alike_self (by have := hk.frames; omega) (by omega)
  unfold law03_TunnelDries
  simp only [a1, a2, bind_s, check_eq hf hk, ref_check hf hk, bne_self_eq_false, cond_false, b1, b2, c1, c2, d1, d2, decide_true, Bool.not_true, hal, beq_self_eq_true, cond_true, hw]
end Go.Lu
