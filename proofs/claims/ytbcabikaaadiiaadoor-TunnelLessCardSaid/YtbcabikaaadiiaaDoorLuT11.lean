/-
  The law TunnelLess, in plain Lean: with a frame less, a wider Need, or a damp of which more is known, there is a best setting if there was one, of no more heat; by one setting no fewer frames surely are dry in time, but for the one that is missing.
-/
import Derived.Test.YtbcabikaaadiiaaDoorLuG11x1
import Derived.Test.YtbcabikaaadiiaaDoorLuPl12
import Derived.Test.YtbcabikaaadiiaaDoorLuPl10c
namespace Go.Lu
open Go
set_option linter.unusedVariables false
set_option linter.unusedSimpArgs false

theorem count_range (f : TunnelFrame → Bool) : ∀ l : List TunnelFrame, (List.range l.length).countP (fun j : Nat => ((nth l (j : Int)).map f).getD false) = l.countP f
  | [] => rfl
  | a :: l => by
    rw [List.length_cons, List.range_succ_eq_map, List.countP_cons, List.countP_map, List.countP_cons]
    have e : ((fun j : Nat => ((nth (a :: l) (j : Int)).map f).getD false) ∘ Nat.succ) = fun j : Nat => ((nth l (j : Int)).map f).getD false := funext fun j => by
      simp only [Function.comp, nth_nat]; simp
    rw [e, count_range f l]; rfl
theorem manyS_frames (b : TunnelBook) (s : List Int) : manyS b s = (b.Frames.countP (dryB b s) : Nat) := by
  rw [manyS_count]; congr 1; exact count_range (dryB b s) b.Frames
/-- x asks less than b. -/
structure Easier (b x : TunnelBook) (miss : Int) : Prop where
  ok : BookOk x
  len : x.Parts.length = b.Parts.length
  many : ∀ s, manyS b s - miss ≤ manyS x s
  all : ∀ s, manyS b s = b.Frames.length → manyS x s = x.Frames.length
  heat : ∀ s, heatS x s = heatS b s
theorem Easier.most {b x : TunnelBook} {miss : Int} (h : Easier b x miss) : manyS b (mostS b) - miss ≤ manyS x (mostS x) :=
  Int.le_trans (h.many (mostS b)) (mostS_many x (by rw [h.len]; exact mostS_ok b))
theorem Easier.best {b x : TunnelBook} {miss : Int} (h : Easier b x miss) (hb : manyS b (mostS b) = b.Frames.length) : manyS x (mostS x) = x.Frames.length ∧ heatS x (mostS x) ≤ heatS b (mostS b) := by
  have hs : SetOk x.Parts.length (mostS b) := by rw [h.len]; exact mostS_ok b
  have h1 := h.all _ hb
  have h2 := mostS_many x hs
  have h3 : manyS x (mostS x) ≤ x.Frames.length := by unfold manyS; have := good_len_le x (mostS x); omega
  have h4 := mostS_best x hs
  have e : manyS x (mostS x) = x.Frames.length := by omega
  refine ⟨e, ?_⟩
  rw [← h.heat]
  simp [betterS, h1, e] at h4
  omega
theorem heat_set (ps : List TunnelPart) : ∀ (i : Nat) (q : TunnelPart) (ss : List Int) (h : i < ps.length), q.Heat = ps[i].Heat → heatL (ps.set i q) ss = heatL ps ss := by
  induction ps with
  | nil => intro i q ss h; simp at h
  | cons p ps ih =>
    intro i q ss h e
    cases ss with
    | nil => cases i <;> rfl
    | cons s ss =>
      cases i with
      | zero => simp at e; simp [heatL, hAt, e]
      | succ i => simp only [List.set_cons_succ, heatL]; rw [ih i q ss (by simpa using h) (by simpa using e)]
theorem count_set {f : TunnelFrame → Bool} : ∀ (l : List TunnelFrame) (i : Nat) (g : TunnelFrame) (h : i < l.length), (f l[i] = true → f g = true) → l.countP f ≤ (l.set i g).countP f
  | a :: l, 0, g, _, h => by
    simp only [List.set_cons_zero, List.countP_cons, List.getElem_cons_zero] at h ⊢
    cases ha : f a
    · simp
    · simp [h ha]
  | a :: l, i + 1, g, hi, h => by
    simp only [List.set_cons_succ, List.countP_cons]
    have := count_set l i g (by simpa using hi) (by simpa using h)
    omega
theorem less0 {b : TunnelBook} (hb : BookOk b) {i : Nat} (hi : i < b.Frames.length) : Easier b ⟨b.Parts, b.Frames.take i ++ b.Frames.drop (i + 1)⟩ 1 := by
  have key : ∀ f : TunnelFrame → Bool, b.Frames.countP f = (b.Frames.take i ++ b.Frames.drop (i + 1)).countP f + (if f b.Frames[i] then 1 else 0) := fun f => by
    have e : b.Frames = b.Frames.take i ++ b.Frames[i] :: b.Frames.drop (i + 1) := by rw [← List.drop_eq_getElem_cons hi, List.take_append_drop]
    have e2 : b.Frames.countP f = (b.Frames.take i ++ b.Frames[i] :: b.Frames.drop (i + 1)).countP f := congrArg (List.countP f) e
    rw [e2, List.countP_append, List.countP_append, List.countP_cons]; omega
  have hl : (b.Frames.take i ++ b.Frames.drop (i + 1)).length + 1 = b.Frames.length := by simp; omega
  have hm : ∀ s, manyS ⟨b.Parts, b.Frames.take i ++ b.Frames.drop (i + 1)⟩ s = ((b.Frames.take i ++ b.Frames.drop (i + 1)).countP (dryB b s) : Nat) := fun s => manyS_frames _ s
  refine ⟨⟨hb.one, hb.four, by have := hb.five; show (b.Frames.take i ++ b.Frames.drop (i + 1)).length ≤ 5; omega, hb.part, fun f hf => ?_⟩, rfl, fun s => ?_, fun s h => ?_, fun s => rfl⟩
  · rcases List.mem_append.1 hf with h | h
    · exact hb.frame f (List.mem_of_mem_take h)
    · exact hb.frame f (List.mem_of_mem_drop h)
  · rw [manyS_frames b, hm]
    have := key (dryB b s)
    split at this <;> omega
  · rw [manyS_frames b] at h
    rw [hm]
    have k1 := key (dryB b s)
    have k2 := List.countP_le_length (p := dryB b s) (l := b.Frames.take i ++ b.Frames.drop (i + 1))
    show _ = ((b.Frames.take i ++ b.Frames.drop (i + 1)).length : Int)
    split at k1 <;> omega
theorem less1 {b : TunnelBook} (hb : BookOk b) {i : Nat} (hi : i < b.Frames.length) {g : TunnelFrame} (hst : g.Stay = b.Frames[i].Stay) (g0 : 0 ≤ g.Need.Low) (g1 : g.Need.Low ≤ b.Frames[i].Need.Low) (g2 : b.Frames[i].Need.High ≤ g.Need.High) (g3 : g.Need.High ≤ 999) : Easier b ⟨b.Parts, b.Frames.set i g⟩ 0 := by
  have F := hb.frame _ (List.getElem_mem hi)
  have hm : ∀ s, manyS ⟨b.Parts, b.Frames.set i g⟩ s = ((b.Frames.set i g).countP (dryB b s) : Nat) := fun s => manyS_frames _ s
  have hmono : ∀ s, b.Frames.countP (dryB b s) ≤ (b.Frames.set i g).countP (dryB b s) := fun s => count_set _ i g hi fun h => by
    have e : drySpan b s g = drySpan b s b.Frames[i] := by unfold drySpan; rw [hst]
    simp only [dryB, Bool.and_eq_true, decide_eq_true_eq] at h ⊢
    rw [e]
    exact ⟨Int.le_trans g1 h.1, Int.le_trans h.2 g2⟩
  refine ⟨⟨hb.one, hb.four, by simp; exact hb.five, hb.part, fun f hf => ?_⟩, rfl, fun s => ?_, fun s h => ?_, fun s => rfl⟩
  · rcases List.mem_or_eq_of_mem_set hf with h | h
    · exact hb.frame f h
    · subst h; exact ⟨by rw [hst]; exact F.len, by rw [hst]; exact F.stay, g0, Int.le_trans g1 (Int.le_trans F.le g2), g3⟩
  · rw [manyS_frames b, hm]; have := hmono s; omega
  · rw [manyS_frames b] at h
    rw [hm]
    have k1 := hmono s
    have k2 := List.countP_le_length (p := dryB b s) (l := b.Frames.set i g)
    rw [List.length_set] at k2
    show _ = ((b.Frames.set i g).length : Int)
    rw [List.length_set]; omega
theorem less2 {b : TunnelBook} (hb : BookOk b) {p : Nat} (hp : p < b.Parts.length) {lo hi : Int} (h0 : b.Parts[p].Damp.Low ≤ lo) (h1 : lo ≤ hi) (h2 : hi ≤ b.Parts[p].Damp.High) : Easier b ⟨b.Parts.set p ⟨b.Parts[p].Heat, ⟨lo, hi⟩⟩, b.Frames⟩ 0 := by
  have P := hb.part _ (List.getElem_mem hp)
  have := P.low; have := P.high; have := P.wide
  have K : Known b ⟨b.Parts.set p ⟨b.Parts[p].Heat, ⟨lo, hi⟩⟩, b.Frames⟩ := ⟨by simp, rfl, Drier.set false b.Parts p _ hp rfl h2, Drier.unset true b.Parts p _ hp rfl h0⟩
  refine ⟨⟨by simp; exact hb.one, by simp; exact hb.four, hb.five, fun q hq => ?_, fun f hf => by simp; exact hb.frame f hf⟩, by simp, fun s => by have := K.many hb s; omega, fun s h => ?_, fun s => ?_⟩
  · rcases List.mem_or_eq_of_mem_set hq with h | h
    · exact hb.part q h
    · subst h; exact ⟨P.len, P.heat, P.inc, by show 0 ≤ lo; omega, h1, by show hi ≤ 20; omega, by show hi - lo ≤ 3; omega⟩
  · have k1 := K.many hb s
    have k2 : manyS ⟨b.Parts.set p ⟨b.Parts[p].Heat, ⟨lo, hi⟩⟩, b.Frames⟩ s ≤ b.Frames.length := by
      unfold manyS; have := good_len_le ⟨b.Parts.set p ⟨b.Parts[p].Heat, ⟨lo, hi⟩⟩, b.Frames⟩ s; exact Int.ofNat_le.2 this
    show _ = (b.Frames.length : Int)
    omega
  · unfold heatS
    exact congrArg List.sum (heat_set b.Parts p _ s hp rfl)

theorem less_true (b : TunnelBook) (hf : Fits b) (n : List Int) (hn : n.length = 4) : ∃ k, law03_TunnelLess k b n = some true := by
  obtain ⟨k, hk, _⟩ := fuel_of b 0
  refine ⟨k, ?_⟩
  have hw := warmed_eq hk.low
  have tail : ∀ (x : TunnelBook) (miss : Int), 0 ≤ miss → miss ≤ 1 → Asks k b → Easier b x miss → ((tunnel_Best k b).bind fun x16_1 =>
      (tunnel_Best k x).bind fun x17_1 => (tunnel_Most k b).bind fun x18_1 => (tunnel_Most k x).bind fun x19_1 =>
      (bif x18_1.2.2 != 0 then some true else bif x19_1.2.2 != 0 then some true else bif decide ((x19_1.2.1.length : Int) < (IntKind.i64.wrap ((x18_1.2.1.length : Int) - miss))) then some true else
        bif x16_1.2 != 0 then bif x16_1.2 != 4 then some true else bif x17_1.2 != 0 then bif x17_1.2 != 4 then some true else some (x16_1.2 == 0) else some false
        else bif x17_1.2 != 0 then bif x17_1.2 != 4 then some true else some (x16_1.2 == 0) else some false).bind fun yj6_188 =>
      bif yj6_188 then some false else bif x16_1.2 != 0 then (law03_warmed k).bind fun x23_0 => some x23_0 else
      (tunnel_Heat k b x16_1.1).bind fun x24_2 => (tunnel_Heat k x x17_1.1).bind fun x25_2 =>
      (bif x24_2.2 == 0 then bif x25_2.2 == 0 then bif decide (x25_2.1 ≤ x24_2.1) then (law03_warmed k).bind fun x26_12 => some x26_12 else some false else some false else some false).bind fun yj9_4 => some yj9_4) = some true := by
    intro x miss m0 m1 A E
    have B := asks_of hk.low E.ok
    have gl := good_len_le b (mostS b)
    have h5 := A.ok.five
    have w : IntKind.i64.wrap (((goodL b (mostS b)).length : Int) - miss) = ((goodL b (mostS b)).length : Int) - miss := wr (by omega) (by omega)
    have c1 : decide (((goodL x (mostS x)).length : Int) < ((goodL b (mostS b)).length : Int) - miss) = false := by
      have := E.most; unfold manyS at this; exact decide_eq_false (by omega)
    rw [Best_ok A, Best_ok B, Most_ok A, Most_ok B]
    by_cases hb : manyS b (mostS b) = b.Frames.length
    · obtain ⟨hx, hh⟩ := E.best hb
      rw [if_pos hb, if_pos hx]
      have d1 := Heat_ok A (mostS_ok b)
      have d2 := Heat_ok B (mostS_ok x)
      simp only [bind_s, show ((0 : Int) != 0) = false from rfl, show ((0 : Int) == 0) = true from rfl, cond_false, cond_true, w, c1, d1, d2, decide_eq_true hh, hw]
    · rw [if_neg hb]
      by_cases hx : manyS x (mostS x) = x.Frames.length
      · rw [if_pos hx]
        simp only [bind_s, show ((0 : Int) != 0) = false from rfl, show ((4 : Int) != 0) = true from rfl, show ((4 : Int) != 4) = false from rfl, show ((4 : Int) == 0) = false from rfl, cond_false, cond_true, w, c1, hw]
      · rw [if_neg hx]
        simp only [bind_s, show ((0 : Int) != 0) = false from rfl, show ((4 : Int) != 0) = true from rfl, show ((4 : Int) != 4) = false from rfl, show ((4 : Int) == 0) = false from rfl, cond_false, cond_true, w, c1, hw]
  unfold law03_TunnelLess
  rw [sound_eq hf hk, bind_s]
  cases hB : bookB b
  · simp only [Bool.not_false, cond_true, bind_s, hw]
  have hb := (bookB_iff hf.heat).1 hB
  have A : Asks k b := ⟨hf, hk, hb⟩
  simp only [Bool.not_true, cond_false, bind_s]
  cases h0 : ((b.Frames.length : Int) == 0)
  · have hfr : 1 ≤ b.Frames.length := by simp at h0; cases h : b.Frames with | nil => exact absurd h h0 | cons => simp
    have h5 := hb.five
    have h4 := hb.four
    obtain ⟨i, hi, hil⟩ := spin_book (n := n[1]'(by omega)) hfr
    obtain ⟨p, hp, hpl⟩ := spin_book (n := n[1]'(by omega)) hb.one
    have en : ∀ j : Nat, (hj : j < 4) → nth n (j : Int) = some (n[j]'(by omega)) := fun j hj => by rw [nth_nat]; simp
    have e0 := en 0 (by decide); have e1 := en 1 (by decide); have e2 := en 2 (by decide); have e3 := en 3 (by decide)
    simp only [Int.natCast_zero] at e0
    have e1' : nth n (1 : Int) = some n[1] := e1
    have e2' : nth n (2 : Int) = some n[2] := e2
    have e3' : nth n (3 : Int) = some n[3] := e3
    have F := hb.frame _ (List.getElem_mem hil)
    have P := hb.part _ (List.getElem_mem hpl)
    have hlo := P.low; have hle := P.le; have hhi := P.high
    have a1 : app ([] : List TunnelFrame) b.Frames = some b.Frames := by rw [app_eq (by simp; omega)]; rfl
    have a2 : app ([] : List TunnelPart) b.Parts = some b.Parts := by rw [app_eq (by simp; omega)]; rfl
    have n1 : nth b.Frames (i : Int) = some b.Frames[i] := by rw [nth_nat, List.getElem?_eq_getElem hil]
    have n2 : nth b.Parts (p : Int) = some b.Parts[p] := by rw [nth_nat, List.getElem?_eq_getElem hpl]
    simp only [cond_false, e1', spin_eq k _ (show (b.Frames.length : Int) ≤ 9223372036854775807 by omega), spin_eq k _ (show (b.Parts.length : Int) ≤ 9223372036854775807 by omega), hi, hp, bind_s, a1, a2, e0, spin_eq k _ (show (3 : Int) ≤ 9223372036854775807 by decide)]
    have h3 := spinV_in (n := n[0]) (m := 3) (by decide)
    generalize spinV n[0] 3 = z at h3
    cases hz0 : (z == 0)
    · cases hz1 : (z == 1)
      · -- the damp
        have c8 := spinV_in (n := n[2]) (m := b.Parts[p].Damp.High - b.Parts[p].Damp.Low + 1) (by omega)
        have d8 := drawn_eq k hlo hle (by omega) n[2]
        generalize spinV n[2] (b.Parts[p].Damp.High - b.Parts[p].Damp.Low + 1) = u at *
        have c9 := spinV_in (n := n[3]) (m := b.Parts[p].Damp.High - (b.Parts[p].Damp.Low + u) + 1) (by omega)
        have d9 : ref00_Drawn k ⟨b.Parts[p].Damp.Low + u, b.Parts[p].Damp.High⟩ n[3] = _ := drawn_eq k (s := ⟨b.Parts[p].Damp.Low + u, b.Parts[p].Damp.High⟩) (by show 0 ≤ b.Parts[p].Damp.Low + u; omega) (by show b.Parts[p].Damp.Low + u ≤ b.Parts[p].Damp.High; omega) (by show b.Parts[p].Damp.High ≤ 1000; omega) n[3]
        simp only [cond_false, n2, bind_s, e2', d8, show ∀ a c : Int, ref00_Sp k a c = some ⟨a, c⟩ from fun _ _ => rfl, e3', d9, Int.toNat_natCast]
        exact tail _ 0 (by decide) (by decide) A (less2 hb hpl (by omega) (by omega) (by omega))
      · -- the need
        have c8 := spinV_in (n := n[2]) (m := 9) (by decide)
        have c9 := spinV_in (n := n[3]) (m := 9) (by decide)
        have f0 := F.low; have f1 := F.le; have f2 := F.high
        simp only [cond_false, cond_true, n1, bind_s, e2', e3', spin_eq k _ (show (9 : Int) ≤ 9223372036854775807 by decide), show ∀ a c : Int, ref00_Sp k a c = some ⟨a, c⟩ from fun _ _ => rfl, Int.toNat_natCast]
        rw [wr (n := b.Frames[i].Need.Low - spinV n[2] 9) (by omega) (by omega), wr (n := b.Frames[i].Need.High + spinV n[3] 9) (by omega) (by omega)]
        exact tail _ 0 (by decide) (by decide) A (less1 hb hil rfl (by show 0 ≤ max 0 _; omega) (by show max 0 _ ≤ _; omega) (by show _ ≤ min 999 _; omega) (by show min 999 _ ≤ 999; omega))
    · -- a frame less
      have cu1 : cut b.Frames 0 (i : Int) = some (b.Frames.take i) := by unfold cut; rw [if_pos (by omega)]; simp
      have w : IntKind.i64.wrap ((i : Int) + 1) = ((i + 1 : Nat) : Int) := wrN (by unfold maxLen; omega)
      have cu2 : cut b.Frames ((i + 1 : Nat) : Int) (b.Frames.length : Int) = some (b.Frames.drop (i + 1)) := by
        unfold cut; rw [if_pos (by omega), Int.toNat_natCast, Int.toNat_natCast, List.take_length]
      have ap1 : app ([] : List TunnelFrame) (b.Frames.take i) = some (b.Frames.take i) := by rw [app_eq (by simp; omega)]; rfl
      have ap2 : app (b.Frames.take i) (b.Frames.drop (i + 1)) = some (b.Frames.take i ++ b.Frames.drop (i + 1)) := app_eq (by simp; omega)
      simp only [cond_true, cu1, bind_s, ap1, w, cu2, ap2]
      exact tail _ 1 (by decide) (by decide) A (less0 hb hil)
  · simp only [cond_true, hw, bind_s]
end Go.Lu
