/-
  Plain laws, sixteenth part: the reference: Longer and Ask.
-/
import Derived.Test.YtbcabikaaadiiaaDoorLuPl15
import Derived.Test.YtbcabikaaadiiaaDoorLuPl14q
import Derived.Test.YtbcabikaaadiiaaDoorLuPl11
import Derived.Test.YtbcabikaaadiiaaDoorLuPl12
namespace Go.Lu
open Go
set_option linter.unusedVariables false
set_option linter.unusedSimpArgs false

theorem Stays_eq (k : Nat) {f : TunnelFrame} (hl : f.Stay.length ≤ 100) {p : Nat} (hp : p < f.Stay.length) {m : Int} (h0 : 0 ≤ f.Stay[p]) (h1 : f.Stay[p] ≤ 20) (m0 : 0 ≤ m) (m1 : m ≤ 1000) : ref03_Stays k f (p : Int) m = some (stayF f p (f.Stay[p] + m)) := by
 have n1 : nth f.Stay (p : Int) = some f.Stay[p] := by rw [nth_nat, List.getElem?_eq_getElem hp]
 unfold ref03_Stays
 rw [app_eq (by simp; omega), bind_s, List.nil_append, n1, bind_s, bind_s, Int.toNat_natCast, wr (by omega) (by omega)]; rfl
theorem rlonger_lj5 {k : Nat} (hk : 1000 ≤ k) {b : TunnelBook} (hb : BookOk b) {s : List Int} (hs : SetOk b.Parts.length s) {f : TunnelFrame} (hf : FrameOk b.Parts.length f) {p : Nat} (hp : p < f.Stay.length) : ∀ (m j n : Nat) (g : Nat), (j : Int) + m = 20 - f.Stay[p] + 1 → m < n → 1 ≤ j → g < j → (g = 0 ∨ dryB b s (stayF f p (f.Stay[p] + g)) = true) → (∀ i : Nat, g < i → i < j → dryB b s (stayF f p (f.Stay[p] + i)) = false) →
   ∃ r : Nat, ref03_Longer_lj5 k b s (p : Int) f n (g : Int) (j : Int) = some (r : Int) ∧ f.Stay[p] + r ≤ 20 ∧ (r = 0 ∨ dryB b s (stayF f p (f.Stay[p] + r)) = true) ∧ ∀ i : Nat, r < i → f.Stay[p] + i ≤ 20 → dryB b s (stayF f p (f.Stay[p] + i)) = false
 | 0, j, n + 1, g, h, _, hj, hg, h1, h2 => by
   have hx := hf.stay _ (List.getElem_mem hp)
   have n1 : nth f.Stay (p : Int) = some f.Stay[p] := by rw [nth_nat, List.getElem?_eq_getElem hp]
   have w : IntKind.i64.wrap (f.Stay[p] + (j : Int)) = f.Stay[p] + j := wr (by omega) (by omega)
   have e : decide (f.Stay[p] + (j : Int) ≤ 20) = false := by simp; omega
   refine ⟨g, ?_, by omega, h1, fun i i1 i2 => h2 i i1 (by omega)⟩
   rw [ref03_Longer_lj5.eq_2, n1, bind_s, w, e]; rfl
 | m + 1, j, n + 1, g, h, hn, hj, hg, h1, h2 => by
   have hx := hf.stay _ (List.getElem_mem hp)
   have h4 := hb.four
   have hfl := hf.len
   have n1 : nth f.Stay (p : Int) = some f.Stay[p] := by rw [nth_nat, List.getElem?_eq_getElem hp]
   have w : IntKind.i64.wrap (f.Stay[p] + (j : Int)) = f.Stay[p] + j := wr (by omega) (by omega)
   have e : decide (f.Stay[p] + (j : Int) ≤ 20) = true := by simp; omega
   have hS := Stays_eq k (f := f) (by omega) hp (m := (j : Int)) hx.1 hx.2 (by omega) (by omega)
   have hd := ref_dry hk hb hs (stayF_ok hf (p := p) (st := f.Stay[p] + j) (by omega) (by omega))
   rw [ref03_Longer_lj5.eq_2, n1, bind_s, w, e, cond_true, hS, bind_s, hd, bind_s, wrN (by unfold maxLen; omega)]
   cases hdr : dryB b s (stayF f p (f.Stay[p] + j))
   · exact rlonger_lj5 hk hb hs hf hp m (j + 1) n g (by omega) (by omega) (by omega) (by omega) h1 fun i i1 i2 => by
       by_cases ei : i = j
       · rw [ei]; exact hdr
       · exact h2 i i1 (by omega)
   · exact rlonger_lj5 hk hb hs hf hp m (j + 1) n j (by omega) (by omega) (by omega) (by omega) (.inr hdr) fun i i1 i2 => by omega

theorem rask_lj6 {k : Nat} (hk : 1000 ≤ k) {b : TunnelBook} (hb : BookOk b) {p : Nat} (hp : p < b.Parts.length) : ∀ (c n : Nat) (a d : Int), d + c = b.Parts[p].Damp.High + 1 → b.Parts[p].Damp.Low ≤ d → c < n →
   ref03_Ask_lj6 k b (p : Int) n a d = some (worstFrom b p b.Parts[p] a d c)
 | 0, n + 1, a, d, h, h0, _ => by
   have n1 : nth b.Parts (p : Int) = some b.Parts[p] := by rw [nth_nat, List.getElem?_eq_getElem hp]
   have e : decide (d ≤ b.Parts[p].Damp.High) = false := by simp; omega
   rw [ref03_Ask_lj6.eq_2, n1, bind_s, e]; rfl
 | c + 1, n + 1, a, d, h, h0, hn => by
   have P := hb.part _ (List.getElem_mem hp)
   have := P.low; have := P.high; have := P.le
   have h4 := hb.four
   have n1 : nth b.Parts (p : Int) = some b.Parts[p] := by rw [nth_nat, List.getElem?_eq_getElem hp]
   have e : decide (d ≤ b.Parts[p].Damp.High) = true := by simp; omega
   have bx := meas_ok hb hp (d := d) h0 (by omega)
   have hM : ref03_Measured k b (p : Int) d = some (measB b p b.Parts[p] d) := by
     unfold ref03_Measured
     rw [app_eq (by simp; omega), bind_s, List.nil_append, show ref00_Only k d = some ⟨d, d⟩ from rfl, bind_s, n1, bind_s, Int.toNat_natCast]; rfl
   have w : IntKind.i64.wrap (d + 1) = d + 1 := wr (by omega) (by omega)
   rw [ref03_Ask_lj6.eq_2, n1, bind_s, e, cond_true, hM, bind_s, ref_most hk bx, bind_s, ref_good hk bx (mostS_ok _), bind_s, w]
   exact rask_lj6 hk hb hp c n _ (d + 1) (by omega) (by omega) (by omega)
theorem worst_nonneg {b : TunnelBook} {p : Nat} {q : TunnelPart} : ∀ (c : Nat) (a d : Int), 0 ≤ a → 0 ≤ worstFrom b p q a d c
 | 0, a, d, h => h
 | c + 1, a, d, h => worst_nonneg c _ _ (by unfold mostN manyS; omega)
theorem rask_lj3 {k : Nat} (hk : 1000 ≤ k) {b : TunnelBook} (hb : BookOk b) : ∀ (m i n : Nat) (at_ g : Int), i + m = b.Parts.length → m < n → 1 ≤ b.Parts.length →
   ((i = 0 ∧ at_ = -1 ∧ g = -1) ∨ ∃ a : Nat, ∃ h : AskBest b i a, at_ = a ∧ g = worstV b a (b.Parts[a]'(Nat.lt_of_lt_of_le h.lt h.le))) →
   ∃ a : Nat, ref03_Ask_lj3 k b n at_ g (i : Int) = some (a : Int) ∧ AskBest b b.Parts.length a
 | 0, i, n + 1, at_, g, h, _, h1, hs => by
   obtain rfl : i = b.Parts.length := by omega
   have e : decide (((b.Parts.length : Nat) : Int) < (b.Parts.length : Int)) = false := by simp
   rcases hs with ⟨h0, _⟩ | ⟨a, ha, rfl, _⟩
   · omega
   · exact ⟨a, by rw [ref03_Ask_lj3.eq_2, e]; rfl, ha⟩
 | m + 1, i, n + 1, at_, g, h, hn, h1, hs => by
   have hi : i < b.Parts.length := by omega
   have P := hb.part _ (List.getElem_mem hi)
   have := P.le; have := P.wide
   have e : decide ((i : Int) < (b.Parts.length : Int)) = true := by simp; omega
   have n1 : nth b.Parts (i : Int) = some b.Parts[i] := by rw [nth_nat, List.getElem?_eq_getElem hi]
   have h6 := rask_lj6 hk hb hi (b.Parts[i].Damp.High - b.Parts[i].Damp.Low + 1).toNat k (b.Frames.length : Int) b.Parts[i].Damp.Low (by omega) (Int.le_refl _) (by omega)
   have hw : worstFrom b i b.Parts[i] (b.Frames.length : Int) b.Parts[i].Damp.Low (b.Parts[i].Damp.High - b.Parts[i].Damp.Low + 1).toNat = worstV b i b.Parts[i] := rfl
   rw [hw] at h6
   have h4 := hb.four
   rw [ref03_Ask_lj3.eq_2, e, cond_true, n1, bind_s, h6, bind_s, wrN (by unfold maxLen; omega)]
   have step : ∀ (a : Nat) (ha : AskBest b (i + 1) a) (g' : Int), g' = worstV b a (b.Parts[a]'(by have := ha.lt; omega)) → ∃ a' : Nat, ref03_Ask_lj3 k b n (a : Int) g' ((i + 1 : Nat) : Int) = some (a' : Int) ∧ AskBest b b.Parts.length a' := fun a ha g' hg =>
     rask_lj3 hk hb m (i + 1) n a g' (by omega) (by omega) h1 (.inr ⟨a, ha, rfl, hg⟩)
   rcases hs with ⟨h0, rfl, rfl⟩ | ⟨a, ha, rfl, rfl⟩
   · subst h0
     have hpos : 0 ≤ worstV b 0 b.Parts[0] := worst_nonneg _ _ _ (by omega)
     rw [decide_eq_true (show worstV b 0 b.Parts[0] > -1 by omega), cond_true]
     refine step 0 ⟨by omega, by omega, fun p hp => ?_, fun p hp => by omega⟩ _ rfl
     obtain rfl : p = 0 := by omega
     exact Int.le_refl _
   · have hal := ha.lt
     by_cases hgt : worstV b i b.Parts[i] > worstV b a (b.Parts[a]'(by omega))
     · rw [decide_eq_true hgt, cond_true]
       refine step i ⟨by omega, by omega, fun p hp => ?_, fun p hp => ?_⟩ _ rfl
       · by_cases ep : p = i
         · subst ep; exact Int.le_refl _
         · have := ha.max p (by omega); omega
       · have := ha.max p hp; omega
     · rw [decide_eq_false hgt, cond_false]
       refine step a ⟨by omega, by omega, fun p hp => ?_, fun p hp => ha.first p hp⟩ _ rfl
       by_cases ep : p = i
       · subst ep; omega
       · exact ha.max p (by omega)
theorem AskBest.unique {b : TunnelBook} {a c : Nat} (h : AskBest b b.Parts.length a) (k : AskBest b b.Parts.length c) : a = c := by
 rcases Nat.lt_trichotomy a c with hlt | rfl | hlt
 · have h1 := k.first a hlt; have h2 := h.max c k.lt; omega
 · rfl
 · have h1 := h.first c hlt; have h2 := k.max a h.lt; omega
end Go.Lu
