/-
  Plain laws, ninth part: how dry a frame is, minute by minute.
-/
import Derived.Test.YtbcabikaaadiiaaDoorLuPl8
namespace Go.Lu
open Go
set_option linter.unusedVariables false
set_option linter.unusedSimpArgs false

theorem dryness_lj5 {k : Nat} {f : TunnelFrame} {p : Int} {st : Nat} (hst : nth f.Stay p = some (st : Int)) (h20 : st ≤ 20) {h : Int} {part : TunnelPart} (h0 : 0 ≤ h) (h1 : h ≤ 20) (l0 : 0 ≤ part.Damp.Low) (l1 : part.Damp.Low ≤ 20) :
    ∀ (r i n : Nat) (a : Int), i + r = st → r < n → 0 ≤ a → a + 20 * r ≤ 100000 → law03_dryness_lj5 k f p h part n a (i : Int) = some (a + r * max 0 (h - part.Damp.Low))
  | 0, i, n + 1, a, hi, _, a0, a1 => by
    rw [law03_dryness_lj5.eq_2, wr (by omega) (by omega)]
    have e : (bif decide (h - part.Damp.Low > 0) then (nth f.Stay p).bind fun x7_7 => some (decide ((i : Int) < x7_7)) else some false) = some false := by
      cases decide (h - part.Damp.Low > 0)
      · rfl
      · rw [cond_true, hst, bind_s]; congr 1; simp; omega
    rw [e]; simp
  | r + 1, i, n + 1, a, hi, hn, a0, a1 => by
    rw [law03_dryness_lj5.eq_2, wr (n := h - part.Damp.Low) (by omega) (by omega)]
    by_cases hb : h - part.Damp.Low > 0
    · have e : (bif decide (h - part.Damp.Low > 0) then (nth f.Stay p).bind fun x7_7 => some (decide ((i : Int) < x7_7)) else some false) = some true := by
        rw [decide_eq_true hb, cond_true, hst, bind_s]; congr 1; simp; omega
      rw [e, bind_s, cond_true, wrN (by unfold maxLen; omega), wr (by omega) (by omega), dryness_lj5 hst h20 h0 h1 l0 l1 r (i + 1) n _ (by omega) (by omega) (by omega) (by omega)]
      have hm : max 0 (h - part.Damp.Low) = h - part.Damp.Low := by omega
      rw [hm]; congr 1
      rw [Int.natCast_add, Int.add_mul]; omega
    · have e : (bif decide (h - part.Damp.Low > 0) then (nth f.Stay p).bind fun x7_7 => some (decide ((i : Int) < x7_7)) else some false) = some false := by
        rw [decide_eq_false hb]; rfl
      have hm : max 0 (h - part.Damp.Low) = 0 := by omega
      rw [e, bind_s, cond_false, hm]; simp
theorem dryL_length (m : Bool) : ∀ (ps : List TunnelPart) (ss ns : List Int), ss.length = ps.length → ns.length = ps.length → (dryL m ps ss ns).length = ps.length
  | [], _, _, _, _ => by simp [dryL]
  | _ :: _, [], _, h, _ => by simp at h
  | _ :: _, _ :: _, [], _, h => by simp at h
  | p :: ps, s :: ss, n :: ns, h, h' => by simp [dryL]; exact dryL_length m ps ss ns (by simpa using h) (by simpa using h')
theorem dryL_get (m : Bool) : ∀ (ps : List TunnelPart) (ss ns : List Int) (i : Nat) (h1 : i < ps.length) (h2 : i < ss.length) (h3 : i < ns.length) (h4 : i < (dryL m ps ss ns).length), (dryL m ps ss ns)[i] = ns[i] * max 0 (hAt ps[i] ss[i] - endOf m ps[i].Damp)
  | p :: ps, s :: ss, n :: ns, 0, _, _, _, _ => rfl
  | p :: ps, s :: ss, n :: ns, i + 1, h1, h2, h3, h4 => by simpa [dryL] using dryL_get m ps ss ns i (by simpa using h1) (by simpa using h2) (by simpa using h3) (by simpa [dryL] using h4)
theorem dryness_lj2 {k : Nat} (hk : 1000 ≤ k) {b : TunnelBook} (hb : BookOk b) {s : List Int} (hs : SetOk b.Parts.length s) {f : TunnelFrame} (hf : FrameOk b.Parts.length f) : ∀ (m i n : Nat) (a : Int), i + m = s.length → m < n → 0 ≤ a → a ≤ 1000 * i →
    law03_dryness_lj2 k b s f n a (i : Int) = some (a + ((dryL true b.Parts s f.Stay).drop i).sum)
  | 0, i, n + 1, a, h, _, _, _ => by
    have e : decide ((i : Int) < (s.length : Int)) = false := by simp; omega
    rw [law03_dryness_lj2.eq_2, e, List.drop_of_length_le (by have := dryL_len true b.Parts s f.Stay; have := hs.len; have := hf.len; omega)]; simp
  | m + 1, i, n + 1, a, h, hn, h0, h1 => by
    have hj : i < s.length := by omega
    have hi : i < b.Parts.length := by have := hs.len; omega
    have hq : i < f.Stay.length := by have := hf.len; omega
    have e : decide ((i : Int) < (s.length : Int)) = true := by simp; omega
    have h4 := hb.four
    have hl := dryL_length true b.Parts s f.Stay hs.len hf.len
    obtain ⟨s0, s1⟩ := hs.in3 s[i] (List.getElem_mem hj)
    have P := hb.part _ (List.getElem_mem hi)
    obtain ⟨hh, g0, g1⟩ := hAt_of P s0 s1
    obtain ⟨q0, q1⟩ := hf.stay _ (List.getElem_mem hq)
    have hst : nth f.Stay (i : Int) = some ((f.Stay[i].toNat : Nat) : Int) := by rw [nth_nat, List.getElem?_eq_getElem hq]; congr 1; omega
    have t := term_in P true s0 s1 q0 q1
    have hlow := P.low; have hle := P.le; have hhigh := P.high
    have h5 := dryness_lj5 (k := k) hst (by omega) g0 g1 hlow (by omega) f.Stay[i].toNat 0 k a (by omega) (by omega) h0 (by omega)
    have e5 : ((f.Stay[i].toNat : Nat) : Int) = f.Stay[i] := by omega
    rw [e5] at h5
    have e6 : max 0 (hAt b.Parts[i] s[i] - b.Parts[i].Damp.Low) = max 0 (hAt b.Parts[i] s[i] - endOf true b.Parts[i].Damp) := rfl
    rw [e6] at h5
    have h5' : law03_dryness_lj5 k f (i : Int) (hAt b.Parts[i] s[i]) b.Parts[i] k a 0 = _ := h5
    rw [law03_dryness_lj2.eq_2, e, cond_true, nth_nat, List.getElem?_eq_getElem hj, bind_s, nth_nat, List.getElem?_eq_getElem hi, bind_s, hh, bind_s, bind_s, h5', bind_s, wrN (by unfold maxLen; omega), dryness_lj2 hk hb hs hf m (i + 1) n _ (by omega) (by omega) (by omega) (by omega), List.drop_eq_getElem_cons (l := dryL true b.Parts s f.Stay) (i := i) (by omega), List.sum_cons, dryL_get true b.Parts s f.Stay i hi hj hq (by omega)]
    congr 1; omega
theorem dryness_eq {k : Nat} (hk : 1000 ≤ k) {b : TunnelBook} (hb : BookOk b) {s : List Int} (hs : SetOk b.Parts.length s) {f : TunnelFrame} (hf : FrameOk b.Parts.length f) : law03_dryness k b s f = some (drySum true b.Parts s f.Stay) := by
  unfold law03_dryness
  have h4 := hb.four
  have := dryness_lj2 hk hb hs hf s.length 0 k 0 (by omega) (by have := hs.len; omega) (by omega) (by omega)
  simp only [Int.natCast_zero, List.drop_zero, Int.zero_add] at this
  rw [this]; rfl

/-! ### Books of which the damp is known -/
theorem only_eq (k : Nat) (n : Int) : ref00_Only k n = some ⟨n, n⟩ := rfl
/-- The parts, with other damp. -/
def damped (d : TunnelPart → Nat → Int) : Nat → List TunnelPart → List TunnelPart
  | _, [] => []
  | i, p :: ps => ⟨p.Heat, ⟨d p i, d p i⟩⟩ :: damped d (i + 1) ps
theorem damped_len (d : TunnelPart → Nat → Int) : ∀ (i : Nat) (ps : List TunnelPart), (damped d i ps).length = ps.length
  | _, [] => rfl
  | i, p :: ps => by simp [damped, damped_len d (i + 1) ps]
theorem damped_get (d : TunnelPart → Nat → Int) : ∀ (j i : Nat) (ps : List TunnelPart) (h : i < ps.length) (h' : i < (damped d j ps).length), (damped d j ps)[i] = ⟨ps[i].Heat, ⟨d ps[i] (j + i), d ps[i] (j + i)⟩⟩
  | j, 0, p :: ps, _, _ => rfl
  | j, i + 1, p :: ps, h, h' => by
    have := damped_get d (j + 1) i ps (by simpa using h) (by simpa [damped] using h')
    simp only [damped, List.getElem_cons_succ]
    rw [this]; simp [Nat.add_assoc, Nat.add_comm 1 i]
theorem damped_ok {d : TunnelPart → Nat → Int} (hd : ∀ p i, p.Damp.Low ≤ p.Damp.High → p.Damp.Low ≤ d p i ∧ d p i ≤ p.Damp.High) : ∀ (i : Nat) (ps : List TunnelPart), (∀ p ∈ ps, PartOk p) → ∀ p ∈ damped d i ps, PartOk p
  | _, [], _ => by simp [damped]
  | i, p :: ps, h => by
    intro q hq
    rcases List.mem_cons.1 hq with rfl | hq
    · have P := h p (by simp)
      have := hd p i P.le
      have := P.low; have := P.high
      exact ⟨P.len, P.heat, P.inc, by show 0 ≤ d p i; omega, Int.le_refl _, by show d p i ≤ 20; omega, by show d p i - d p i ≤ 3; omega⟩
    · exact damped_ok hd (i + 1) ps (fun q hq => h q (by simp [hq])) q hq
theorem damped_lo {d : TunnelPart → Nat → Int} (m : Bool) (hd : ∀ p i, p.Damp.Low ≤ p.Damp.High → d p i ≤ endOf m p.Damp) : ∀ (i : Nat) (ps : List TunnelPart), (∀ p ∈ ps, PartOk p) → Drier m true ps (damped d i ps)
  | _, [], _ => trivial
  | i, p :: ps, h => ⟨rfl, hd p i (h p (by simp)).le, damped_lo m hd (i + 1) ps fun q hq => h q (by simp [hq])⟩
theorem damped_hi {d : TunnelPart → Nat → Int} (m : Bool) (hd : ∀ p i, p.Damp.Low ≤ p.Damp.High → endOf m p.Damp ≤ d p i) : ∀ (i : Nat) (ps : List TunnelPart), (∀ p ∈ ps, PartOk p) → Drier true m (damped d i ps) ps
  | _, [], _ => trivial
  | i, p :: ps, h => ⟨rfl, hd p i (h p (by simp)).le, damped_hi m hd (i + 1) ps fun q hq => h q (by simp [hq])⟩
theorem damped_book {b : TunnelBook} (hb : BookOk b) {d : TunnelPart → Nat → Int} (hd : ∀ p i, p.Damp.Low ≤ p.Damp.High → p.Damp.Low ≤ d p i ∧ d p i ≤ p.Damp.High) : BookOk ⟨damped d 0 b.Parts, b.Frames⟩ := by
  have hl := damped_len d 0 b.Parts
  exact ⟨by show 1 ≤ (damped d 0 b.Parts).length; rw [hl]; exact hb.one, by show (damped d 0 b.Parts).length ≤ 4; rw [hl]; exact hb.four, hb.five, damped_ok hd 0 _ hb.part, fun f hf => by show FrameOk (damped d 0 b.Parts).length f; rw [hl]; exact hb.frame f hf⟩
end Go.Lu
