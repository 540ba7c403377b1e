/-
  Plain laws, fourth part: what dries more.
-/
import Derived.Test.YtbcabikaaadiiaaDoorLuPl3
namespace Go.Lu
open Go
set_option linter.unusedVariables false

/-- Parts of the same heat, the second ones' damp no greater than the first ones'. -/
def Drier (m1 m2 : Bool) : List TunnelPart → List TunnelPart → Prop
  | [], [] => True
  | p :: ps, q :: qs => p.Heat = q.Heat ∧ endOf m2 q.Damp ≤ endOf m1 p.Damp ∧ Drier m1 m2 ps qs
  | _, _ => False
theorem Drier.sum {m1 m2 : Bool} : ∀ {ps qs : List TunnelPart} {ss ns : List Int}, Drier m1 m2 ps qs → (∀ n ∈ ns, 0 ≤ n) → drySum m1 ps ss ns ≤ drySum m2 qs ss ns
  | [], [], ss, ns, _, _ => by simp [drySum, dryL]
  | p :: ps, q :: qs, [], ns, _, _ => by simp [drySum, dryL]
  | p :: ps, q :: qs, s :: ss, [], _, _ => by simp [drySum, dryL]
  | p :: ps, q :: qs, s :: ss, n :: ns, h, hn => by
    have ih := Drier.sum (ss := ss) (ns := ns) h.2.2 fun x hx => hn x (by simp [hx])
    have e : hAt p s = hAt q s := by unfold hAt; rw [h.1]
    have h2 := h.2.1
    have h3 : n * max 0 (hAt p s - endOf m1 p.Damp) ≤ n * max 0 (hAt q s - endOf m2 q.Damp) := Int.mul_le_mul_of_nonneg_left (by rw [e]; omega) (hn n (by simp))
    simp only [drySum, dryL, List.sum_cons] at ih ⊢
    omega
theorem Drier.refl {m1 m2 : Bool} : ∀ (ps : List TunnelPart), (∀ p ∈ ps, endOf m2 p.Damp ≤ endOf m1 p.Damp) → Drier m1 m2 ps ps
  | [], _ => trivial
  | p :: ps, h => ⟨rfl, h p (by simp), Drier.refl ps fun q hq => h q (by simp [hq])⟩

/-- Settings, the second one nowhere less. -/
def Upper : List Int → List Int → Prop
  | [], [] => True
  | s :: ss, t :: ts => s ≤ t ∧ Upper ss ts
  | _, _ => False
theorem Upper.refl : ∀ (s : List Int), Upper s s
  | [] => trivial
  | _ :: s => ⟨Int.le_refl _, Upper.refl s⟩
theorem Upper.set : ∀ {s : List Int} {i : Nat} {x y : Int}, s[i]? = some x → x ≤ y → Upper s (s.set i y)
  | [], _, _, _, h, _ => by simp at h
  | a :: s, 0, x, y, h, hl => by simp at h; subst h; exact ⟨hl, Upper.refl s⟩
  | a :: s, i + 1, x, y, h, hl => ⟨Int.le_refl _, Upper.set (by simpa using h) hl⟩
theorem hAt_mono {p : TunnelPart} (hp : PartOk p) {s t : Int} (h0 : 0 ≤ s) (h : s ≤ t) (h1 : t ≤ 3) : hAt p s ≤ hAt p t := by
  by_cases e : s = t
  · subst e; exact Int.le_refl _
  have h2 := hp.len
  have hs : s.toNat < p.Heat.length := by omega
  have ht : t.toNat < p.Heat.length := by omega
  have := List.pairwise_iff_getElem.1 hp.inc s.toNat t.toNat hs ht (by omega)
  have e1 : hAt p s = p.Heat[s.toNat] := by simp [hAt, nth, h0, hs]
  have e2 : hAt p t = p.Heat[t.toNat] := by simp [hAt, nth, (by omega : 0 ≤ t), ht]
  omega
theorem Upper.sum (m : Bool) : ∀ {ps : List TunnelPart} {ss ts ns : List Int}, Upper ss ts → (∀ p ∈ ps, PartOk p) → (∀ x ∈ ss, 0 ≤ x) → (∀ x ∈ ts, x ≤ 3) → (∀ n ∈ ns, 0 ≤ n) → drySum m ps ss ns ≤ drySum m ps ts ns
  | [], ss, ts, ns, _, _, _, _, _ => by simp [drySum, dryL]
  | p :: ps, [], [], ns, _, _, _, _, _ => by simp [drySum, dryL]
  | p :: ps, s :: ss, t :: ts, [], _, _, _, _, _ => by simp [drySum, dryL]
  | p :: ps, s :: ss, t :: ts, n :: ns, h, hp, hs, ht, hn => by
    have ih := Upper.sum m (ps := ps) (ns := ns) h.2 (fun q hq => hp q (by simp [hq])) (fun q hq => hs q (by simp [hq])) (fun q hq => ht q (by simp [hq])) (fun q hq => hn q (by simp [hq]))
    have h1 := hAt_mono (hp p (by simp)) (hs s (by simp)) h.1 (ht t (by simp))
    have h3 : n * max 0 (hAt p s - endOf m p.Damp) ≤ n * max 0 (hAt p t - endOf m p.Damp) := Int.mul_le_mul_of_nonneg_left (by omega) (hn n (by simp))
    simp only [drySum, dryL, List.sum_cons] at ih ⊢
    omega
theorem Upper.heat : ∀ {ps : List TunnelPart} {ss ts : List Int}, Upper ss ts → (∀ p ∈ ps, PartOk p) → (∀ x ∈ ss, 0 ≤ x) → (∀ x ∈ ts, x ≤ 3) → (heatL ps ss).sum ≤ (heatL ps ts).sum
  | [], ss, ts, _, _, _, _ => by simp [heatL]
  | p :: ps, [], [], _, _, _, _ => by simp [heatL]
  | p :: ps, s :: ss, t :: ts, h, hp, hs, ht => by
    have ih := Upper.heat (ps := ps) h.2 (fun q hq => hp q (by simp [hq])) (fun q hq => hs q (by simp [hq])) (fun q hq => ht q (by simp [hq]))
    have h1 := hAt_mono (hp p (by simp)) (hs s (by simp)) h.1 (ht t (by simp))
    simp only [heatL, List.sum_cons] at ih ⊢
    omega
/-- The ends of how dry a frame is stand in order. -/
theorem drySpan_le {b : TunnelBook} (hb : BookOk b) {s : List Int} {f : TunnelFrame} (hf : f ∈ b.Frames) : (drySpan b s f).Low ≤ (drySpan b s f).High :=
  Drier.sum (Drier.refl b.Parts fun p hp => (hb.part p hp).le) fun n hn => ((hb.frame f hf).stay n hn).1
end Go.Lu
