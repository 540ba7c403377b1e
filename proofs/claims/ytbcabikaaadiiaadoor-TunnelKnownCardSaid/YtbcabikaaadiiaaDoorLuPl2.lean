/-
  Plain laws, second part: how dry a frame is, what heat a setting has, all settings.
-/
import Derived.Test.YtbcabikaaadiiaaDoorLuP5
import Derived.IntWalk
import Derived.Test.YtbcabikaaadiiaaDoorLuPl1
namespace Go.Lu
open Go
set_option linter.unusedVariables false

theorem nth_nat {α : Type} (l : List α) (i : Nat) : nth l (i : Int) = l[i]? := by simp [nth]
theorem nth_of {α : Type} {l : List α} {i : Int} {j : Nat} (h : i = j) : nth l i = l[j]? := by subst h; exact nth_nat l j
theorem nth_cons0 {α : Type} (x : α) (l : List α) : nth (x :: l) 0 = some x := rfl
theorem nth_lt {α : Type} {l : List α} {i : Int} (h0 : 0 ≤ i) (h1 : i < l.length) : ∃ x, nth l i = some x ∧ x ∈ l := by
  have h : i.toNat < l.length := by omega
  exact ⟨l[i.toNat], by simp [nth, h0, h], List.getElem_mem h⟩
theorem nth_mem {α : Type} {l : List α} {i : Int} {x : α} (h : nth l i = some x) : x ∈ l := by
  unfold nth at h
  split at h
  · exact List.mem_of_getElem? h
  · cases h
theorem wr {n : Int} (h0 : -9000000000000000000 ≤ n) (h1 : n ≤ 9000000000000000000) : IntKind.i64.wrap n = n := by rw [IntKind.wrap_i64]; omega

/-! ### Books that are right -/
structure PartOk (p : TunnelPart) : Prop where
  len : p.Heat.length = 4
  heat : ∀ h ∈ p.Heat, 0 ≤ h ∧ h ≤ 20
  inc : p.Heat.Pairwise (· ≤ ·)
  low : 0 ≤ p.Damp.Low
  le : p.Damp.Low ≤ p.Damp.High
  high : p.Damp.High ≤ 20
  wide : p.Damp.High - p.Damp.Low ≤ 3
structure FrameOk (n : Nat) (f : TunnelFrame) : Prop where
  len : f.Stay.length = n
  stay : ∀ s ∈ f.Stay, 0 ≤ s ∧ s ≤ 20
  low : 0 ≤ f.Need.Low
  le : f.Need.Low ≤ f.Need.High
  high : f.Need.High ≤ 999
structure BookOk (b : TunnelBook) : Prop where
  one : 1 ≤ b.Parts.length
  four : b.Parts.length ≤ 4
  five : b.Frames.length ≤ 5
  part : ∀ p ∈ b.Parts, PartOk p
  frame : ∀ f ∈ b.Frames, FrameOk b.Parts.length f
/-- What a machine's memory says of a book. -/
structure Fits (b : TunnelBook) : Prop where
  parts : b.Parts.length ≤ maxLen
  heat : ∀ p ∈ b.Parts, p.Heat.length = 4
  frames : b.Frames.length ≤ maxLen
  stay : ∀ f ∈ b.Frames, f.Stay.length ≤ maxLen
structure SetOk (n : Nat) (s : List Int) : Prop where
  len : s.length = n
  in3 : ∀ x ∈ s, 0 ≤ x ∧ x ≤ 3
def pad4 (s : List Int) : List Int := s ++ List.replicate (4 - s.length) 0

/-! ### How dry -/
def hAt (p : TunnelPart) (s : Int) : Int := (nth p.Heat s).getD 0
def endOf (most : Bool) (d : Span) : Int := bif most then d.Low else d.High
def dryL (most : Bool) : List TunnelPart → List Int → List Int → List Int
  | p :: ps, s :: ss, n :: ns => n * max 0 (hAt p s - endOf most p.Damp) :: dryL most ps ss ns
  | _, _, _ => []
def drySum (most : Bool) (ps : List TunnelPart) (ss ns : List Int) : Int := (dryL most ps ss ns).sum
def drySpan (b : TunnelBook) (s : List Int) (f : TunnelFrame) : Span := ⟨drySum false b.Parts s f.Stay, drySum true b.Parts s f.Stay⟩

theorem hAt_of {p : TunnelPart} (hp : PartOk p) {s : Int} (h0 : 0 ≤ s) (h1 : s ≤ 3) : nth p.Heat s = some (hAt p s) ∧ 0 ≤ hAt p s ∧ hAt p s ≤ 20 := by
  obtain ⟨x, hx, hm⟩ := nth_lt (l := p.Heat) h0 (by rw [hp.len]; omega)
  have : hAt p s = x := by simp [hAt, hx]
  rw [this]
  exact ⟨hx, hp.heat x hm⟩

theorem term_in {p : TunnelPart} (hp : PartOk p) {s n : Int} (most : Bool) (h0 : 0 ≤ s) (h1 : s ≤ 3) (n0 : 0 ≤ n) (n1 : n ≤ 20) :
    0 ≤ n * max 0 (hAt p s - endOf most p.Damp) ∧ n * max 0 (hAt p s - endOf most p.Damp) ≤ 400 := by
  obtain ⟨_, h2, h3⟩ := hAt_of hp h0 h1
  have he : 0 ≤ endOf most p.Damp := by unfold endOf; have := hp.low; have := hp.le; cases most <;> simp <;> omega
  generalize hm : max 0 (hAt p s - endOf most p.Damp) = m
  have m0 : 0 ≤ m := by omega
  have m1 : m ≤ 20 := by omega
  exact ⟨Int.mul_nonneg n0 m0, by have := Int.mul_le_mul n1 m1 m0 (by decide : (0 : Int) ≤ 20); simpa using this⟩

theorem dryL_in (most : Bool) : ∀ (ps : List TunnelPart) (ss ns : List Int), (∀ p ∈ ps, PartOk p) → (∀ x ∈ ss, 0 ≤ x ∧ x ≤ 3) → (∀ x ∈ ns, 0 ≤ x ∧ x ≤ 20) → ∀ t ∈ dryL most ps ss ns, 0 ≤ t ∧ t ≤ 400
  | [], _, _, _, _, _ => by simp [dryL]
  | _ :: _, [], _, _, _, _ => by simp [dryL]
  | _ :: _, _ :: _, [], _, _, _ => by simp [dryL]
  | p :: ps, s :: ss, n :: ns, hp, hs, hn => by
    intro t ht
    simp only [dryL, List.mem_cons] at ht
    rcases ht with rfl | ht
    · exact term_in (hp p (by simp)) most (hs s (by simp)).1 (hs s (by simp)).2 (hn n (by simp)).1 (hn n (by simp)).2
    · exact dryL_in most ps ss ns (fun q hq => hp q (by simp [hq])) (fun q hq => hs q (by simp [hq])) (fun q hq => hn q (by simp [hq])) t ht

theorem dryL_len (most : Bool) : ∀ (ps : List TunnelPart) (ss ns : List Int), (dryL most ps ss ns).length ≤ ns.length
  | [], _, _ => by simp [dryL]
  | _ :: _, [], _ => by simp [dryL]
  | _ :: _, _ :: _, [] => by simp [dryL]
  | p :: ps, s :: ss, n :: ns => by simp [dryL]; exact dryL_len most ps ss ns

theorem sum_in {c : Int} : ∀ (l : List Int), (∀ t ∈ l, 0 ≤ t ∧ t ≤ c) → 0 ≤ l.sum ∧ l.sum ≤ c * l.length
  | [], _ => by simp
  | a :: l, h => by
    have h1 := h a (by simp)
    have h2 := sum_in l fun t ht => h t (by simp [ht])
    simp only [List.sum_cons, List.length_cons]
    have : c * ((l.length + 1 : Nat) : Int) = c * l.length + c := by rw [Int.natCast_add]; rw [Int.mul_add]; simp
    omega
theorem sumW_from : ∀ (l : List Int) (a c : Int), 0 ≤ a → (∀ t ∈ l, 0 ≤ t ∧ t ≤ c) → a + c * l.length ≤ 1000000000 → l.foldl (fun a n => IntKind.i64.wrap (a + n)) a = a + l.sum
  | [], a, c, _, _, _ => by simp
  | x :: l, a, c, h0, h, h1 => by
    have hx := h x (by simp)
    have e : c * ((l.length + 1 : Nat) : Int) = c * l.length + c := by rw [Int.natCast_add]; rw [Int.mul_add]; simp
    have hs := sum_in l fun t ht => h t (by simp [ht])
    simp only [List.length_cons] at h1
    rw [List.foldl_cons, wr (by omega) (by omega), sumW_from l (a + x) c (by omega) (fun t ht => h t (by simp [ht])) (by omega), List.sum_cons]
    omega
theorem sumW_eq {l : List Int} {c : Int} (h : ∀ t ∈ l, 0 ≤ t ∧ t ≤ c) (hc : c * l.length ≤ 1000000000) : sumW l = l.sum := by
  have := sumW_from l 0 c (Int.le_refl _) h (by omega)
  simpa [sumW] using this

theorem dryList_eq {b : TunnelBook} {set : List Int} (most : Bool) : ∀ (ns ss : List Int) (ps : List TunnelPart) (j : Nat) (rest : List Int), b.Parts.drop j = ps → set.drop j = ss ++ rest → ns.length = ps.length → ss.length = ps.length →
    (∀ p ∈ ps, PartOk p) → (∀ x ∈ ss, 0 ≤ x ∧ x ≤ 3) → (∀ x ∈ ns, 0 ≤ x ∧ x ≤ 20) → dryList b set most j ns = some (dryL most ps ss ns)
  | [], ss, ps, j, rest, hp, hs, hl, hl2, _, _, _ => by
    cases ps with
    | nil => rfl
    | cons => simp at hl
  | n :: ns, ss, ps, j, rest, hp, hs, hl, hl2, okp, oks, okn => by
    match ps, ss, hl, hl2 with
    | p :: ps, s :: ss, hl, hl2 =>
      have e1 : nth b.Parts j = some p := by
        rw [nth_nat]
        have := congrArg (fun l => l[0]?) hp
        simpa using this
      have e2 : nth set j = some s := by
        rw [nth_nat]
        have := congrArg (fun l => l[0]?) hs
        simpa using this
      have hp1 : b.Parts.drop (j + 1) = ps := by rw [← List.drop_drop, hp]; rfl
      have hs1 : set.drop (j + 1) = ss ++ rest := by rw [← List.drop_drop, hs]; rfl
      have ih := dryList_eq most ns ss ps (j + 1) rest hp1 hs1 (by simpa using hl) (by simpa using hl2) (fun q hq => okp q (by simp [hq])) (fun q hq => oks q (by simp [hq])) (fun q hq => okn q (by simp [hq]))
      have P := okp p (by simp)
      obtain ⟨s0, s1⟩ := oks s (by simp)
      obtain ⟨n0, n1⟩ := okn n (by simp)
      obtain ⟨e3, h0, h1⟩ := hAt_of P s0 s1
      have he : 0 ≤ endOf most p.Damp ∧ endOf most p.Damp ≤ 20 := by unfold endOf; have := P.low; have := P.le; have := P.high; cases most <;> simp <;> omega
      have ht := term_in P most s0 s1 n0 n1
      have hc : ((j : Int) + 1) = ((j + 1 : Nat) : Int) := by omega
      unfold dryList dryTerm
      simp only [e1, e2, e3, Option.bind_some, hc, ih]
      show some (IntKind.i64.wrap (n * max 0 (IntKind.i64.wrap (hAt p s - endOf most p.Damp))) :: dryL most ps ss ns) = _
      rw [wr (n := hAt p s - endOf most p.Damp) (by omega) (by omega), wr (by omega) (by omega)]
      rfl

theorem pad4_drop0 (s : List Int) : (pad4 s).drop 0 = s ++ List.replicate (4 - s.length) 0 := rfl

/-- What dries: the code's answer of a right book. -/
theorem dryPure_eq {b : TunnelBook} (hb : BookOk b) {s : List Int} (hs : SetOk b.Parts.length s) {k : Nat} {f : TunnelFrame} (hf : b.Frames[k]? = some f) : dryPure b ⟨k, pad4 s⟩ = some (drySpan b s f) := by
  have F := hb.frame f (List.mem_of_getElem? hf)
  have h4 := hb.four
  have hl : ∀ most, dryList b (pad4 s) most 0 f.Stay = some (dryL most b.Parts s f.Stay) := fun most =>
    dryList_eq most f.Stay s b.Parts 0 _ rfl (pad4_drop0 s) F.len hs.len hb.part hs.in3 F.stay
  have hsum : ∀ most, sumW (dryL most b.Parts s f.Stay) = drySum most b.Parts s f.Stay := fun most =>
    sumW_eq (c := 400) (dryL_in most _ _ _ hb.part hs.in3 F.stay) (by have := dryL_len most b.Parts s f.Stay; rw [F.len] at this; omega)
  unfold dryPure
  have hne : decide ((⟨(k : Int), pad4 s⟩ : TunnelDrying) = none0) = false := by simp [none0]
  rw [hne]
  have hcap : decide (f.Stay.length ≤ capBound) = true := by simp [capBound, F.len]; omega
  simp only [cond_false, nth_nat, hf, Option.bind_some, hcap, cond_true, hl, hsum]
  rfl

def dryB (b : TunnelBook) (s : List Int) (f : TunnelFrame) : Bool := decide (f.Need.Low ≤ (drySpan b s f).Low) && decide ((drySpan b s f).High ≤ f.Need.High)
/-- The frames that surely are dry in time. -/
def goodL (b : TunnelBook) (s : List Int) : List Int := ((List.range b.Frames.length).filter fun k => ((b.Frames[k]?).map (dryB b s)).getD false).map fun (k : Nat) => (k : Int)

/-! ### The heat -/
def heatL : List TunnelPart → List Int → List Int
  | p :: ps, s :: ss => hAt p s :: heatL ps ss
  | _, _ => []
def heatS (b : TunnelBook) (s : List Int) : Int := (heatL b.Parts s).sum
theorem heatL_in : ∀ (ps : List TunnelPart) (ss : List Int), (∀ p ∈ ps, PartOk p) → (∀ x ∈ ss, 0 ≤ x ∧ x ≤ 3) → ∀ t ∈ heatL ps ss, 0 ≤ t ∧ t ≤ 20
  | [], _, _, _ => by simp [heatL]
  | _ :: _, [], _, _ => by simp [heatL]
  | p :: ps, s :: ss, hp, hs => by
    intro t ht
    simp only [heatL, List.mem_cons] at ht
    rcases ht with rfl | ht
    · exact (hAt_of (hp p (by simp)) (hs s (by simp)).1 (hs s (by simp)).2).2
    · exact heatL_in ps ss (fun q hq => hp q (by simp [hq])) (fun q hq => hs q (by simp [hq])) t ht
theorem heatL_len : ∀ (ps : List TunnelPart) (ss : List Int), (heatL ps ss).length ≤ ps.length
  | [], _ => by simp [heatL]
  | _ :: _, [] => by simp [heatL]
  | p :: ps, s :: ss => by simp [heatL]; exact heatL_len ps ss
theorem heatS_in {b : TunnelBook} (hb : BookOk b) {s : List Int} (hs : SetOk b.Parts.length s) : 0 ≤ heatS b s ∧ heatS b s ≤ 80 := by
  have h := sum_in _ (heatL_in b.Parts s hb.part hs.in3)
  have h1 := heatL_len b.Parts s
  have h4 := hb.four
  unfold heatS; omega
theorem drySum_in {b : TunnelBook} (hb : BookOk b) {s : List Int} (hs : SetOk b.Parts.length s) {f : TunnelFrame} (hf : f ∈ b.Frames) (most : Bool) : 0 ≤ drySum most b.Parts s f.Stay ∧ drySum most b.Parts s f.Stay ≤ 1600 := by
  have F := hb.frame f hf
  have h := sum_in _ (dryL_in most b.Parts s f.Stay hb.part hs.in3 F.stay)
  have h1 := dryL_len most b.Parts s f.Stay
  have h4 := hb.four
  have h5 := F.len
  unfold drySum; omega

/-! ### All settings -/
def sets : Nat → List (List Int)
  | 0 => [[]]
  | n + 1 => [0, 1, 2, 3].flatMap fun (a : Int) => (sets n).map (a :: ·)
theorem mem_sets : ∀ (n : Nat) (s : List Int), s ∈ sets n ↔ SetOk n s
  | 0, s => by
    constructor
    · intro h; simp [sets] at h; subst h; exact ⟨rfl, by simp⟩
    · rintro ⟨h, _⟩; simp [sets]; exact List.length_eq_zero_iff.1 h
  | n + 1, s => by
    simp only [sets, List.mem_flatMap, List.mem_map]
    constructor
    · rintro ⟨a, ha, t, ht, rfl⟩
      obtain ⟨h1, h2⟩ := (mem_sets n t).1 ht
      refine ⟨by simp [h1], fun x hx => ?_⟩
      rcases List.mem_cons.1 hx with rfl | hx
      · simp at ha; omega
      · exact h2 x hx
    · rintro ⟨h1, h2⟩
      cases s with
      | nil => simp at h1
      | cons a t =>
        refine ⟨a, ?_, t, (mem_sets n t).2 ⟨by simpa using h1, fun x hx => h2 x (by simp [hx])⟩, rfl⟩
        have := h2 a (by simp)
        simp; omega
end Go.Lu
