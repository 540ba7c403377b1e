/-
  Plain laws, twelfth part: a damp that is known; Ask.
-/
import Derived.Test.YtbcabikaaadiiaaDoorLuPl8
namespace Go.Lu
open Go
set_option linter.unusedVariables false
set_option linter.unusedSimpArgs false

theorem Drier.set (m : Bool) : ∀ (ps : List TunnelPart) (i : Nat) (q : TunnelPart) (h : i < ps.length), ps[i].Heat = q.Heat → endOf m q.Damp ≤ endOf m ps[i].Damp → Drier m m ps (ps.set i q)
 | p :: ps, 0, q, _, h1, h2 => ⟨h1, h2, Drier.refl ps fun _ _ => Int.le_refl _⟩
 | p :: ps, i + 1, q, h, h1, h2 => ⟨rfl, Int.le_refl _, Drier.set m ps i q (by simpa using h) h1 h2⟩
theorem Drier.unset (m : Bool) : ∀ (ps : List TunnelPart) (i : Nat) (q : TunnelPart) (h : i < ps.length), q.Heat = ps[i].Heat → endOf m ps[i].Damp ≤ endOf m q.Damp → Drier m m (ps.set i q) ps
 | p :: ps, 0, q, _, h1, h2 => ⟨h1, h2, Drier.refl ps fun _ _ => Int.le_refl _⟩
 | p :: ps, i + 1, q, h, h1, h2 => ⟨rfl, Int.le_refl _, Drier.unset m ps i q (by simpa using h) h1 h2⟩
/-- x is b, of which more is known of the damp. -/
structure Known (b x : TunnelBook) : Prop where
  len : x.Parts.length = b.Parts.length
  frames : x.Frames = b.Frames
  low : Drier false false b.Parts x.Parts
  high : Drier true true x.Parts b.Parts
theorem Known.dry {b x : TunnelBook} (hb : BookOk b) (h : Known b x) {s : List Int} {f : TunnelFrame} (hf : f ∈ b.Frames) (hd : dryB b s f = true) : dryB x s f = true := by
 simp only [dryB, Bool.and_eq_true, decide_eq_true_eq] at hd ⊢
 have stay : ∀ x ∈ f.Stay, 0 ≤ x := fun x hx => ((hb.frame f hf).stay x hx).1
 exact ⟨Int.le_trans hd.1 (h.low.sum stay), Int.le_trans (h.high.sum stay) hd.2⟩
theorem manyS_count (b : TunnelBook) (s : List Int) : manyS b s = ((List.range b.Frames.length).countP (fun j => dryK b s (j : Nat)) : Nat) := by
 unfold manyS; rw [goodL_nat, List.length_map, List.countP_eq_length_filter]
theorem Known.many {b x : TunnelBook} (hb : BookOk b) (h : Known b x) (s : List Int) : manyS b s ≤ manyS x s := by
 rw [manyS_count, manyS_count, h.frames]
 refine Int.ofNat_le.2 (List.countP_mono_left fun j hj hd => ?_)
 have hj := List.mem_range.1 hj
 rw [dryK_nat hj] at hd
 have hj' : j < x.Frames.length := by rw [h.frames]; exact hj
 rw [dryK_nat hj']
 have e : x.Frames[j] = b.Frames[j] := by simp [h.frames]
 rw [e]; exact h.dry hb (List.getElem_mem hj) hd
def mostN (b : TunnelBook) : Int := manyS b (mostS b)
theorem Known.most {b x : TunnelBook} (hb : BookOk b) (h : Known b x) : mostN b ≤ mostN x :=
 Int.le_trans (h.many hb (mostS b)) (mostS_many x (by rw [h.len]; exact mostS_ok b))
def measB (b : TunnelBook) (p : Nat) (q : TunnelPart) (d : Int) : TunnelBook := ⟨b.Parts.set p ⟨q.Heat, ⟨d, d⟩⟩, b.Frames⟩
theorem meas_known {b : TunnelBook} {p : Nat} (hp : p < b.Parts.length) {d : Int} (h0 : b.Parts[p].Damp.Low ≤ d) (h1 : d ≤ b.Parts[p].Damp.High) : Known b (measB b p b.Parts[p] d) :=
 ⟨by simp [measB], rfl, Drier.set false b.Parts p _ hp rfl h1, Drier.unset true b.Parts p _ hp rfl h0⟩
theorem meas_ok {b : TunnelBook} (hb : BookOk b) {p : Nat} (hp : p < b.Parts.length) {d : Int} (h0 : b.Parts[p].Damp.Low ≤ d) (h1 : d ≤ b.Parts[p].Damp.High) : BookOk (measB b p b.Parts[p] d) := by
 have P := hb.part _ (List.getElem_mem hp)
 have := P.low; have := P.high
 refine ⟨by simp [measB]; exact hb.one, by simp [measB]; exact hb.four, hb.five, fun q hq => ?_, fun f hf => by simp [measB]; exact hb.frame f hf⟩
 rcases List.mem_or_eq_of_mem_set hq with h | h
 · exact hb.part q h
 · subst h; exact ⟨P.len, P.heat, P.inc, by show 0 ≤ d; omega, Int.le_refl _, by show d ≤ 20; omega, by show d - d ≤ 3; omega⟩
/-- How few are dry by the best setting for the most, of some damps. -/
def worstFrom (b : TunnelBook) (p : Nat) (q : TunnelPart) : Int → Int → Nat → Int
  | a, _, 0 => a
  | a, d, c + 1 => worstFrom b p q (min a (mostN (measB b p q d))) (d + 1) c
theorem worst_ge {b : TunnelBook} (hb : BookOk b) {p : Nat} (hp : p < b.Parts.length) : ∀ (c : Nat) (a d : Int), mostN b ≤ a → b.Parts[p].Damp.Low ≤ d → d + c ≤ b.Parts[p].Damp.High + 1 → mostN b ≤ worstFrom b p b.Parts[p] a d c
 | 0, a, d, h, _, _ => h
 | c + 1, a, d, h, h0, h1 => by
   have := (meas_known (d := d) hp h0 (by omega)).most hb
   exact worst_ge hb hp c _ (d + 1) (by omega) (by omega) (by omega)
def worstV (b : TunnelBook) (p : Nat) (q : TunnelPart) : Int := worstFrom b p q b.Frames.length q.Damp.Low (q.Damp.High - q.Damp.Low + 1).toNat

theorem meas_best {k : Nat} (hk : 1000 ≤ k) {b : TunnelBook} (hb : BookOk b) {p : Nat} (hp : p < b.Parts.length) {d : Int} (h0 : b.Parts[p].Damp.Low ≤ d) (h1 : d ≤ b.Parts[p].Damp.High) :
   tunnel_book_best k (measB b p b.Parts[p] d) [] = some (choiceS (measB b p b.Parts[p] d) (mostS (measB b p b.Parts[p] d)), true) := by
 rw [best_eq (meas_ok hb hp h0 h1) hk (by simp) (by simp), bestS_nil]; rfl
theorem ask_lj6 {k : Nat} (hk : 1000 ≤ k) {b : TunnelBook} (hb : BookOk b) {p : Nat} (hp : p < b.Parts.length) : ∀ (c i n : Nat) (a : Int), (i : Int) + c = b.Parts[p].Damp.High - b.Parts[p].Damp.Low + 1 → c < n →
   tunnel_Ask_lj6 k b (p : Int) b.Parts[p] n a (i : Int) = some (worstFrom b p b.Parts[p] a (b.Parts[p].Damp.Low + i) c)
 | 0, i, n + 1, a, h, _ => by
   have P := hb.part _ (List.getElem_mem hp)
   have := P.low; have := P.high; have := P.le; have := P.wide
   rw [tunnel_Ask_lj6.eq_2, wr (n := b.Parts[p].Damp.High - b.Parts[p].Damp.Low) (by omega) (by omega), wr (by omega) (by omega)]
   have e : decide ((i : Int) < b.Parts[p].Damp.High - b.Parts[p].Damp.Low + 1) = false := by simp; omega
   rw [e]; rfl
 | c + 1, i, n + 1, a, h, hn => by
   have P := hb.part _ (List.getElem_mem hp)
   have := P.low; have := P.high; have := P.le; have := P.wide
   have h4 := hb.four
   have e : decide ((i : Int) < b.Parts[p].Damp.High - b.Parts[p].Damp.Low + 1) = true := by simp; omega
   have n1 : nth b.Parts (p : Int) = some b.Parts[p] := by rw [nth_nat, List.getElem?_eq_getElem hp]
   have w : IntKind.i64.wrap (b.Parts[p].Damp.Low + (i : Int)) = b.Parts[p].Damp.Low + i := wr (by omega) (by omega)
   have hbst := meas_best hk hb hp (d := b.Parts[p].Damp.Low + i) (by omega) (by omega)
   have hbst' : tunnel_book_best k ⟨b.Parts.set p ⟨b.Parts[p].Heat, ⟨b.Parts[p].Damp.Low + i, b.Parts[p].Damp.Low + i⟩⟩, b.Frames⟩ [] = _ := hbst
   rw [tunnel_Ask_lj6.eq_2, wr (n := b.Parts[p].Damp.High - b.Parts[p].Damp.Low) (by omega) (by omega), wr (n := b.Parts[p].Damp.High - b.Parts[p].Damp.Low + 1) (by omega) (by omega), e, cond_true, app_eq (by simp; omega), bind_s, List.nil_append, n1, bind_s, Int.toNat_natCast, w, hbst', bind_s, wrN (by unfold maxLen; omega), ask_lj6 hk hb hp c (i + 1) n _ (by omega) (by omega)]
   have e2 : b.Parts[p].Damp.Low + ((i + 1 : Nat) : Int) = b.Parts[p].Damp.Low + i + 1 := by omega
   rw [e2]; rfl
/-- The first part of the greatest worst. -/
structure AskBest (b : TunnelBook) (i : Nat) (a : Nat) : Prop where
  lt : a < i
  le : i ≤ b.Parts.length
  max : ∀ p (hp : p < i), worstV b p (b.Parts[p]'(by omega)) ≤ worstV b a (b.Parts[a]'(by omega))
  first : ∀ p (hp : p < a), worstV b p (b.Parts[p]'(by omega)) < worstV b a (b.Parts[a]'(by omega))
theorem ask_lj3 {k : Nat} (hk : 1000 ≤ k) {b : TunnelBook} (hb : BookOk b) : ∀ (m i n : Nat) (at_ g : Int), i + m = b.Parts.length → m < n → 1 ≤ b.Parts.length →
   ((i = 0 ∧ at_ = -1) ∨ ∃ a : Nat, ∃ h : AskBest b i a, at_ = a ∧ g = worstV b a (b.Parts[a]'(Nat.lt_of_lt_of_le h.lt h.le))) →
   ∃ a : Nat, tunnel_Ask_lj3 k b n at_ g (i : Int) = some (a : Int) ∧ AskBest b b.Parts.length a
 | 0, i, n + 1, at_, g, h, _, h1, hs => by
   obtain rfl : i = b.Parts.length := by omega
   have e : decide (((b.Parts.length : Nat) : Int) < (b.Parts.length : Int)) = false := by simp
   rcases hs with ⟨h0, _⟩ | ⟨a, ha, rfl, _⟩
   · omega
   · exact ⟨a, by rw [tunnel_Ask_lj3.eq_2, e]; rfl, ha⟩
 | m + 1, i, n + 1, at_, g, h, hn, h1, hs => by
   have hi : i < b.Parts.length := by omega
   have P := hb.part _ (List.getElem_mem hi)
   have := P.le; have := P.wide
   have e : decide ((i : Int) < (b.Parts.length : Int)) = true := by simp; omega
   have n1 : nth b.Parts (i : Int) = some b.Parts[i] := by rw [nth_nat, List.getElem?_eq_getElem hi]
   have h6 := ask_lj6 hk hb hi (b.Parts[i].Damp.High - b.Parts[i].Damp.Low + 1).toNat 0 k (b.Frames.length : Int) (by omega) (by omega)
   have hw : worstFrom b i b.Parts[i] (b.Frames.length : Int) (b.Parts[i].Damp.Low + ((0 : Nat) : Int)) (b.Parts[i].Damp.High - b.Parts[i].Damp.Low + 1).toNat = worstV b i b.Parts[i] := by unfold worstV; simp
   rw [hw, Int.natCast_zero] at h6
   have h4 := hb.four
   rw [tunnel_Ask_lj3.eq_2, e, cond_true, n1, bind_s, h6, bind_s, wrN (by unfold maxLen; omega)]
   have step : ∀ (a : Nat) (ha : AskBest b (i + 1) a) (g' : Int), g' = worstV b a (b.Parts[a]'(by have := ha.lt; omega)) → ∃ a' : Nat, tunnel_Ask_lj3 k b n (a : Int) g' ((i + 1 : Nat) : Int) = some (a' : Int) ∧ AskBest b b.Parts.length a' := fun a ha g' hg =>
     ask_lj3 hk hb m (i + 1) n a g' (by omega) (by omega) h1 (.inr ⟨a, ha, rfl, hg⟩)
   rcases hs with ⟨h0, rfl⟩ | ⟨a, ha, rfl, rfl⟩
   · subst h0
     rw [show decide ((-1 : Int) < 0) = true from rfl, cond_true, bind_s, cond_true]
     refine step 0 ⟨by omega, by omega, fun p hp => ?_, fun p hp => by omega⟩ _ rfl
     obtain rfl : p = 0 := by omega
     exact Int.le_refl _
   · have e2 : decide ((a : Int) < 0) = false := by simp
     have hal := ha.lt
     rw [e2, cond_false, bind_s]
     by_cases hgt : worstV b i b.Parts[i] > worstV b a (b.Parts[a]'(by omega))
     · rw [decide_eq_true hgt, cond_true]
       refine step i ⟨by omega, by omega, fun p hp => ?_, fun p hp => ?_⟩ _ rfl
       · by_cases ep : p = i
         · subst ep; exact Int.le_refl _
         · have := ha.max p (by omega); omega
       · have := ha.max p hp; omega
     · rw [decide_eq_false hgt, cond_false]
       refine step a ⟨by omega, by omega, fun p hp => ?_, fun p hp => ha.first p hp⟩ _ rfl
       by_cases ep : p = i
       · subst ep; omega
       · exact ha.max p (by omega)
theorem Ask_ok {k : Nat} {b : TunnelBook} (A : Asks k b) : ∃ a : Nat, tunnel_Ask k b = some ((a : Int), 0) ∧ AskBest b b.Parts.length a := by
 unfold tunnel_Ask
 rw [check_ok A, bind_s, show ((0 : Int) != 0) = false from rfl, cond_false]
 obtain ⟨a, h1, h2⟩ := ask_lj3 A.fuel.low A.ok b.Parts.length 0 k (-1) 0 (by omega) A.fuel.parts A.ok.one (.inl ⟨rfl, rfl⟩)
 rw [Int.natCast_zero] at h1
 rw [h1]; exact ⟨a, rfl, h2⟩
end Go.Lu
