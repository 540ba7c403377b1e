/-
  Plain laws, seventh part: what Kind, Good, Best, Most, Lost answer.
-/
import Derived.Test.YtbcabikaaadiiaaDoorLuPl6
import Derived.Test.YtbcabikaaadiiaaDoorLuW3
namespace Go.Lu
open Go
set_option linter.unusedVariables false
set_option linter.unusedSimpArgs false

/-- A right question. -/
structure Asks (k : Nat) (b : TunnelBook) : Prop where
  fits : Fits b
  fuel : Fuel k b
  ok : BookOk b
theorem Asks.bookB {k : Nat} {b : TunnelBook} (h : Asks k b) : Lu.bookB b = true := (bookB_iff h.fits.heat).2 h.ok
theorem askE_ok {b : TunnelBook} (hb : bookB b = true) {s : List Int} (hs : SetOk b.Parts.length s) {r : Bool} (hr : r = true) : askE b s r = 0 := by
  unfold askE; rw [hb, setB_iff.2 hs, hr]; rfl
theorem frame_in {b : TunnelBook} {i : Nat} (h : i < b.Frames.length) : (decide (0 ≤ (i : Int)) && decide ((i : Int) ≤ (b.Frames.length : Int) - 1)) = true := by simp; omega

def kindV (f : TunnelFrame) (d : Span) : Int := (if d.Low < f.Need.Low then 1 else 0) + (if d.High > f.Need.High then 2 else 0)
theorem kindV_dry (b : TunnelBook) (s : List Int) (f : TunnelFrame) : (kindV f (drySpan b s f) == 0) = dryB b s f := by
  unfold kindV dryB
  by_cases h1 : (drySpan b s f).Low < f.Need.Low <;> by_cases h2 : (drySpan b s f).High > f.Need.High <;> simp [h1, h2] <;> omega

theorem Dries_ok {k : Nat} {b : TunnelBook} (h : Asks k b) {s : List Int} (hs : SetOk b.Parts.length s) {i : Nat} (hi : i < b.Frames.length) : tunnel_Dries k b s (i : Int) = some (drySpan b s b.Frames[i], 0) := by
  rw [Dries_eq h.fits h.fuel, askE_ok h.bookB hs (frame_in hi), nth_nat, List.getElem?_eq_getElem hi]; rfl
theorem Heat_ok {k : Nat} {b : TunnelBook} (h : Asks k b) {s : List Int} (hs : SetOk b.Parts.length s) : tunnel_Heat k b s = some (heatS b s, 0) := by
  rw [Heat_eq h.fits h.fuel, askE_ok h.bookB hs rfl]; rfl
theorem Kind_ok {k : Nat} {b : TunnelBook} (h : Asks k b) {s : List Int} (hs : SetOk b.Parts.length s) {i : Nat} (hi : i < b.Frames.length) : tunnel_Kind k b s (i : Int) = some (kindV b.Frames[i] (drySpan b s b.Frames[i]), 0) := by
  unfold tunnel_Kind
  rw [isFrame_eq k h.fits.frames, bind_s, frame_in hi, asked_eq h.fits h.fuel, bind_s, askE_ok h.bookB hs rfl]
  have hd := dryPure_eq h.ok hs (List.getElem?_eq_getElem hi)
  simp only [show ((0 : Int) == 0) = true from rfl, cond_true, show ((0 : Int) != 0) = false from rfl, cond_false, hd, bind_s, nth_nat, List.getElem?_eq_getElem hi]
  unfold kindV
  by_cases h1 : (drySpan b s b.Frames[i]).Low < b.Frames[i].Need.Low <;> by_cases h2 : (drySpan b s b.Frames[i]).High > b.Frames[i].Need.High <;> simp only [h1, h2, decide_true, decide_false, cond_true, cond_false, if_true, if_false] <;> rfl

theorem isDry_eq (k : Nat) {b : TunnelBook} (hb : BookOk b) {s : List Int} (hs : SetOk b.Parts.length s) {i : Nat} (hi : i < b.Frames.length) : tunnel_book_isDry k b ⟨(i : Int), pad4 s⟩ = some (dryK b s i) := by
  unfold tunnel_book_isDry
  have hd := dryPure_eq hb hs (List.getElem?_eq_getElem hi)
  have e : dryK b s (i : Int) = dryB b s b.Frames[i] := by unfold dryK; rw [nth_nat, List.getElem?_eq_getElem hi]; rfl
  simp only [hd, bind_s, nth_nat, List.getElem?_eq_getElem hi]
  rw [e]; unfold dryB
  cases decide (b.Frames[i].Need.Low ≤ (drySpan b s b.Frames[i]).Low) <;> rfl
theorem dryK_nat {b : TunnelBook} {s : List Int} {i : Nat} (hi : i < b.Frames.length) : dryK b s i = dryB b s b.Frames[i] := by unfold dryK; rw [nth_nat, List.getElem?_eq_getElem hi]; rfl

theorem cut_all {α : Type} (l : List α) : cut l 0 (l.length : Int) = some l := by
  unfold cut; rw [if_pos (by omega)]; simp
theorem range_filter_succ (f : Nat → Bool) (i : Nat) : (List.range (i + 1)).filter f = (List.range i).filter f ++ (if f i then [i] else []) := by
  rw [List.range_succ, List.filter_append]; cases h : f i <;> simp [h]
theorem good_lj2 {k : Nat} {b : TunnelBook} (hb : BookOk b) {s : List Int} (hs : SetOk b.Parts.length s) : ∀ (m i n : Nat), i + m = b.Frames.length → m < n →
    tunnel_book_good_lj2 k b (pad4 s) n (((List.range i).filter fun j => dryK b s (j : Nat)).map fun (j : Nat) => (j : Int)) (i : Int) = some (((List.range b.Frames.length).filter fun j => dryK b s (j : Nat)).map fun (j : Nat) => (j : Int))
  | 0, i, n + 1, h, _ => by
    obtain rfl : i = b.Frames.length := by omega
    have e : decide (((b.Frames.length : Nat) : Int) < (b.Frames.length : Int)) = false := by simp
    rw [tunnel_book_good_lj2.eq_2, e]; rfl
  | m + 1, i, n + 1, h, hn => by
    have hi : i < b.Frames.length := by omega
    have e : decide ((i : Int) < (b.Frames.length : Int)) = true := by simp; omega
    have h5 := hb.five
    have hl : (((List.range i).filter fun j => dryK b s (j : Nat)).map fun (j : Nat) => (j : Int)).length ≤ 5 := by
      rw [List.length_map]; have := List.length_filter_le (fun j => dryK b s (j : Nat)) (List.range i); simp at this; omega
    rw [tunnel_book_good_lj2.eq_2, e, cond_true, isDry_eq k hb hs hi, bind_s, wrN (by unfold maxLen; omega)]
    have ih := good_lj2 (k := k) hb hs m (i + 1) n (by omega) (by omega)
    rw [range_filter_succ] at ih
    cases hd : dryK b s (i : Nat)
    · rw [hd] at ih; simpa using ih
    · rw [hd] at ih
      simp only [if_true, List.map_append, List.map_cons, List.map_nil] at ih
      rw [cond_true, app_eq (by simp only [List.length_cons, List.length_nil]; omega), bind_s]; exact ih
theorem goodL_nat (b : TunnelBook) (s : List Int) : goodL b s = ((List.range b.Frames.length).filter fun j => dryK b s (j : Nat)).map fun (j : Nat) => (j : Int) := by
  unfold goodL; congr 1
theorem bgood_eq {k : Nat} {b : TunnelBook} (hb : BookOk b) (hk : 1000 ≤ k) {s : List Int} (hs : SetOk b.Parts.length s) : tunnel_book_good k b (pad4 s) = some (goodL b s) := by
  unfold tunnel_book_good
  have h5 := hb.five
  have := good_lj2 (k := k) hb hs b.Frames.length 0 k (by omega) (by omega)
  simp only [List.range_zero, List.filter_nil, List.map_nil, Int.natCast_zero] at this
  rw [this, bind_s, ← goodL_nat, cut_all]; rfl
theorem Good_ok {k : Nat} {b : TunnelBook} (h : Asks k b) {s : List Int} (hs : SetOk b.Parts.length s) : tunnel_Good k b s = some (goodL b s, 0) := by
  unfold tunnel_Good
  rw [asked_eq h.fits h.fuel, bind_s, askE_ok h.bookB hs rfl]
  simp only [show ((0 : Int) == 0) = true from rfl, cond_true, show ((0 : Int) != 0) = false from rfl, cond_false, bgood_eq h.ok h.fuel.low hs, bind_s]

theorem all_lj2 {k : Nat} {b : TunnelBook} (hb : BookOk b) : ∀ (m i n : Nat), i + m = b.Frames.length → m < n → tunnel_book_all_lj2 k b n ((List.range i).map fun (j : Nat) => (j : Int)) (i : Int) = some (allK b)
  | 0, i, n + 1, h, _ => by
    obtain rfl : i = b.Frames.length := by omega
    have e : decide (((b.Frames.length : Nat) : Int) < (b.Frames.length : Int)) = false := by simp
    rw [tunnel_book_all_lj2.eq_2, e]; rfl
  | m + 1, i, n + 1, h, hn => by
    have e : decide ((i : Int) < (b.Frames.length : Int)) = true := by simp; omega
    have h5 := hb.five
    rw [tunnel_book_all_lj2.eq_2, e, cond_true, app_eq (by simp; omega), bind_s, wrN (by unfold maxLen; omega)]
    have ih := all_lj2 (k := k) hb m (i + 1) n (by omega) (by omega)
    rw [List.range_succ, List.map_append] at ih
    exact ih
theorem all_eq {k : Nat} {b : TunnelBook} (hb : BookOk b) (hk : 1000 ≤ k) : tunnel_book_all k b = some (allK b) := by
  unfold tunnel_book_all
  have h5 := hb.five
  have := all_lj2 (k := k) hb b.Frames.length 0 k (by omega) (by omega)
  simp only [List.range_zero, List.map_nil, Int.natCast_zero] at this
  rw [this]; rfl

/-! ### All settings, one after the other -/
def foldO {σ α : Type} (step : σ → α → Option σ) : σ → List α → Option σ
  | s, [] => some s
  | s, a :: l => (step s a).bind fun t => foldO step t l
theorem foldO_append {σ α : Type} (step : σ → α → Option σ) : ∀ (l m : List α) (s : σ), foldO step s (l ++ m) = (foldO step s l).bind fun t => foldO step t m
  | [], m, s => rfl
  | a :: l, m, s => by
    show (step s a).bind (fun t => foldO step t (l ++ m)) = ((step s a).bind fun t => foldO step t l).bind fun t => foldO step t m
    cases step s a with
    | none => rfl
    | some t => exact foldO_append step l m t
theorem set_pre (pre : List Int) (c d : Int) (r : Nat) : (pre ++ c :: List.replicate r 0).set pre.length d = pre ++ d :: List.replicate r 0 := by
  rw [List.set_append_right _ _ (Nat.le_refl _)]; simp
theorem settings_fold {σ : Type} (step : σ → List Int → Option σ) (b : TunnelBook) : ∀ (m : Nat) (pre : List Int) (k : Nat) (s : σ), pre.length + m = b.Parts.length → b.Parts.length ≤ 4 → m + 10 ≤ k →
    tunnel_book_settings_1_1 step b k (pad4 pre) (pre.length : Int) s = foldO step s ((sets m).map fun t => pad4 (pre ++ t))
  | 0, pre, k + 1, s, h, h4, hk => by
    have e : ((pre.length : Int) == (b.Parts.length : Int)) = true := by simp; omega
    rw [tunnel_book_settings_1_1.eq_2, e, cond_true]
    simp only [sets, List.map_cons, List.map_nil, List.append_nil, foldO]
  | m + 1, pre, k + 1, s, h, h4, hk => by
    have e : ((pre.length : Int) == (b.Parts.length : Int)) = false := by simp; omega
    rw [tunnel_book_settings_1_1.eq_2, e, cond_false]
    have ih := fun (c : Int) (s : σ) => settings_fold step b m (pre ++ [c]) k s (by simp; omega) h4 (by omega)
    have hp : pad4 pre = pre ++ 0 :: List.replicate (3 - pre.length) 0 := by
      unfold pad4; rw [show 4 - pre.length = (3 - pre.length) + 1 by omega, List.replicate_succ]
    have hc : ∀ c : Int, pre ++ c :: List.replicate (3 - pre.length) 0 = pad4 (pre ++ [c]) := fun c => by
      have e : 4 - (pre ++ [c]).length = 3 - pre.length := by simp
      unfold pad4; rw [e]; simp
    have hn : ∀ c : Int, nth (pre ++ c :: List.replicate (3 - pre.length) 0) (pre.length : Int) = some c := fun c => by
      rw [nth_nat, List.getElem?_append_right (Nat.le_refl _)]; simp
    have hw : IntKind.i64.wrap ((pre.length : Int) + 1) = ((pre ++ [(0 : Int)]).length : Int) := by rw [wrN (by unfold maxLen; omega)]; simp
    have hl : ∀ (c : Int) (s : σ), tunnel_book_settings_1_1 step b k (pre ++ c :: List.replicate (3 - pre.length) 0) (IntKind.i64.wrap ((pre.length : Int) + 1)) s = foldO step s ((sets m).map fun t => pad4 (pre ++ c :: t)) := fun c s => by
      rw [hc, hw]
      have := ih c s
      simp only [List.length_append, List.length_cons, List.length_nil, List.append_assoc, List.cons_append, List.nil_append] at this ⊢
      exact this
    have loop : ∀ (rem c0 : Nat) (n : Nat) (old : Int) (s : σ), c0 + rem = 4 → rem < n → tunnel_book_settings_1_1_lj3 k (tunnel_book_settings_1_1 step b k) (pre.length : Int) n s (pre ++ old :: List.replicate (3 - pre.length) 0) (c0 : Int) =
        foldO step s ((((List.range rem).map fun (i : Nat) => ((c0 + i : Nat) : Int)).flatMap fun (a : Int) => (sets m).map fun t => pad4 (pre ++ a :: t))) := by
      intro rem
      induction rem with
      | zero =>
        intro c0 n old s h1 h2
        obtain ⟨n, rfl⟩ : ∃ n', n = n' + 1 := ⟨n - 1, by omega⟩
        have e : decide ((c0 : Int) < 4) = false := by simp; omega
        rw [tunnel_book_settings_1_1_lj3.eq_2, e]; rfl
      | succ rem ihr =>
        intro c0 n old s h1 h2
        obtain ⟨n, rfl⟩ : ∃ n', n = n' + 1 := ⟨n - 1, by omega⟩
        have e : decide ((c0 : Int) < 4) = true := by simp; omega
        rw [tunnel_book_settings_1_1_lj3.eq_2, e, cond_true, hn, bind_s, Int.toNat_natCast, set_pre, hl, wrN (by unfold maxLen; omega)]
        rw [List.range_succ_eq_map, List.map_cons, List.flatMap_cons, foldO_append, List.map_map]
        have e2 : ((fun (i : Nat) => ((c0 + i : Nat) : Int)) ∘ Nat.succ) = fun (i : Nat) => ((c0 + 1 + i : Nat) : Int) := funext fun i => by simp only [Function.comp]; congr 1; omega
        rw [e2]
        simp only [Nat.add_zero]
        congr 1
        funext t
        exact ihr (c0 + 1) n _ t (by omega) (by omega)
    have := loop 4 0 k 0 s (by omega) (by omega)
    rw [hp]
    simp only [Int.natCast_zero] at this
    rw [this]
    have e3 : ((List.range 4).map fun (i : Nat) => ((0 + i : Nat) : Int)) = [0, 1, 2, 3] := by decide
    rw [e3]
    have e4 : (sets (m + 1)).map (fun t => pad4 (pre ++ t)) = ([0, 1, 2, 3] : List Int).flatMap fun (a : Int) => (sets m).map fun t => pad4 (pre ++ a :: t) := by
      simp only [sets, List.map_flatMap, List.map_map]; rfl
    rw [e4]
    cases foldO step s (([0, 1, 2, 3] : List Int).flatMap fun (a : Int) => (sets m).map fun t => pad4 (pre ++ a :: t)) <;> rfl
theorem settings_eq {σ : Type} (step : σ → List Int → Option σ) {b : TunnelBook} (hb : BookOk b) {k : Nat} (hk : 1000 ≤ k) (s : σ) : tunnel_book_settings_1 step b k s = foldO step s ((sets b.Parts.length).map pad4) := by
  unfold tunnel_book_settings_1
  have h4 := hb.four
  have := settings_fold step b b.Parts.length [] k s (by simp) hb.four (by omega)
  rw [show tunnel_closed k = some [0, 0, 0, 0] from rfl, bind_s]
  have e : (pad4 []) = [0, 0, 0, 0] := rfl
  rw [e] at this
  simp only [List.length_nil, Int.natCast_zero, List.nil_append] at this
  rw [this]
  cases foldO step s ((sets b.Parts.length).map fun t => pad4 t) <;> rfl

/-! ### The best one -/
def choiceS (b : TunnelBook) (s : List Int) : TunnelChoice := ⟨pad4 s, manyS b s, heatS b s⟩
def stO (b : TunnelBook) : Option (List Int) → TunnelChoice × Bool
  | none => (⟨[0, 0, 0, 0], 0, 0⟩, false)
  | some s => (choiceS b s, true)
def allDry (b : TunnelBook) (ks : List Int) (s : List Int) : Bool := ks.all fun k => dryK b s k
theorem best_lj2 {k : Nat} {b : TunnelBook} (hb : BookOk b) {ks : List Int} (hks : ∀ x ∈ ks, ∃ i : Nat, x = i ∧ i < b.Frames.length) (hl : ks.length ≤ 100) {s : List Int} (hs : SetOk b.Parts.length s) (sc : TunnelChoice) (sf : Bool) : ∀ (m i n : Nat), i + m = ks.length → m < n →
    tunnel_book_best_lj2 k b ks sc sf (pad4 s) n (i : Int) = some (bif allDry b (ks.drop i) s then Sum.inr () else Sum.inl (sc, sf))
  | 0, i, n + 1, h, _ => by
    have e : decide ((i : Int) < (ks.length : Int)) = false := by simp; omega
    rw [tunnel_book_best_lj2.eq_2, e, List.drop_of_length_le (by omega)]; rfl
  | m + 1, i, n + 1, h, hn => by
    have hi : i < ks.length := by omega
    have e : decide ((i : Int) < (ks.length : Int)) = true := by simp; omega
    obtain ⟨j, hj, hjl⟩ := hks ks[i] (List.getElem_mem hi)
    rw [tunnel_book_best_lj2.eq_2, e, cond_true, nth_nat, List.getElem?_eq_getElem hi, bind_s, hj, isDry_eq k hb hs hjl, bind_s, wrN (by unfold maxLen; omega), best_lj2 hb hks hl hs sc sf m (i + 1) n (by omega) (by omega), List.drop_eq_getElem_cons hi]
    unfold allDry
    rw [List.all_cons, hj]
    cases dryK b s (j : Int) <;> rfl
theorem best_step {k : Nat} {b : TunnelBook} (hb : BookOk b) (hk : 1000 ≤ k) {ks : List Int} (hks : ∀ x ∈ ks, ∃ i : Nat, x = i ∧ i < b.Frames.length) (hl : ks.length ≤ 100) {s : List Int} (hs : SetOk b.Parts.length s) (o : Option (List Int)) :
    tunnel_book_best_step k b ks (stO b o).1 (stO b o).2 (pad4 s) = some (stO b (bif allDry b ks s then pick1 (betterS b) o s else o)) := by
  unfold tunnel_book_best_step
  have h := best_lj2 (k := k) hb hks hl hs (stO b o).1 (stO b o).2 ks.length 0 k (by omega) (by omega)
  simp only [Int.natCast_zero, List.drop_zero] at h
  rw [h, bind_s]
  cases allDry b ks s
  · rfl
  · simp only [cond_true]
    rw [bgood_eq hb hk hs, bind_s, bheat_eq hb hk hs, bind_s]
    have em : ((goodL b s).length : Int) = manyS b s := rfl
    cases o with
    | none => rfl
    | some t =>
      simp only [stO, Bool.not_true, cond_false, em]
      have e : tunnel_most_1 k ⟨pad4 s, manyS b s, heatS b s⟩ (choiceS b t) = some (betterS b s t) := by
        unfold tunnel_most_1 betterS choiceS
        dsimp only
        cases decide (manyS b s > manyS b t) <;> cases (manyS b s == manyS b t) <;> rfl
      rw [e, bind_s, bind_s]
      have hp : pick1 (betterS b) (some t) s = if betterS b s t then some s else some t := rfl
      rw [hp]
      cases betterS b s t <;> rfl
theorem best_fold {k : Nat} {b : TunnelBook} (hb : BookOk b) (hk : 1000 ≤ k) {ks : List Int} (hks : ∀ x ∈ ks, ∃ i : Nat, x = i ∧ i < b.Frames.length) (hl : ks.length ≤ 100) : ∀ (l : List (List Int)) (o : Option (List Int)), (∀ s ∈ l, SetOk b.Parts.length s) →
    foldO (fun (s : TunnelChoice × Bool) x => tunnel_book_best_step k b ks s.1 s.2 x) (stO b o) (l.map pad4) = some (stO b (pick (betterS b) o (l.filter (allDry b ks))))
  | [], o, _ => rfl
  | s :: l, o, h => by
    show (tunnel_book_best_step k b ks (stO b o).1 (stO b o).2 (pad4 s)).bind _ = _
    rw [best_step hb hk hks hl (h s (by simp)) o, bind_s, best_fold hb hk hks hl l _ fun t ht => h t (by simp [ht])]
    cases hd : allDry b ks s
    · rw [List.filter_cons_of_neg (by rw [hd]; decide)]; rfl
    · rw [List.filter_cons_of_pos hd]; rfl
theorem best_eq {k : Nat} {b : TunnelBook} (hb : BookOk b) (hk : 1000 ≤ k) {ks : List Int} (hks : ∀ x ∈ ks, ∃ i : Nat, x = i ∧ i < b.Frames.length) (hl : ks.length ≤ 100) : tunnel_book_best k b ks = some (stO b (bestS b ks)) := by
  unfold tunnel_book_best
  rw [settings_eq _ hb hk]
  have := best_fold (k := k) hb hk hks hl (sets b.Parts.length) none fun s hs => (mem_sets _ _).1 hs
  rw [show ((⟨[0, 0, 0, 0], 0, 0⟩ : TunnelChoice), false) = stO b none from rfl, this]
  rfl
theorem listed_eq {k : Nat} {b : TunnelBook} (hb : BookOk b) {s : List Int} (hs : SetOk b.Parts.length s) : tunnel_book_listed k b (pad4 s) = some s := by
  have h1 := hb.one; have h4 := hb.four
  unfold tunnel_book_listed
  rw [show tunnel_closed k = some [0, 0, 0, 0] from rfl, bind_s]
  have hlen : (pad4 s).length = 4 := by unfold pad4; rw [List.length_append, List.length_replicate, hs.len]; omega
  have htk : (pad4 s).take b.Parts.length = s := by unfold pad4; rw [← hs.len, List.take_left']; rfl
  by_cases h : pad4 s = [0, 0, 0, 0]
  · have e : s = List.replicate b.Parts.length 0 := by
      rw [← htk, h]
      apply List.ext_getElem
      · simp; omega
      · intro i a c
        have hi : i < 4 := by simp at a; omega
        simp only [List.getElem_take, List.getElem_replicate]
        match i, hi with
        | 0, _ => rfl
        | 1, _ => rfl
        | 2, _ => rfl
        | 3, _ => rfl
    rw [h]
    have hz : mkz (b.Parts.length : Int) (0 : Int) = some (List.replicate b.Parts.length 0) := by unfold mkz; rw [if_pos (by omega)]; simp
    simp only [decide_true, cond_true, hz, bind_s]
    rw [← e]
  · simp only [h, decide_false, cond_false]
    have hc : cut (pad4 s) 0 (b.Parts.length : Int) = some s := by
      unfold cut; rw [if_pos (by omega)]; simp [htk]
    rw [hc, bind_s, app_eq (by simp; rw [hs.len]; omega), bind_s, List.nil_append, cut_all]; rfl
theorem check_ok {k : Nat} {b : TunnelBook} (h : Asks k b) : tunnel_Check k b = some 0 := by rw [check_eq h.fits h.fuel, h.bookB]; rfl
theorem allK_in (b : TunnelBook) : ∀ x ∈ allK b, ∃ i : Nat, x = i ∧ i < b.Frames.length := fun x hx => by
  obtain ⟨j, hj, rfl⟩ := List.mem_map.1 hx; exact ⟨j, rfl, List.mem_range.1 hj⟩
theorem Best_ok {k : Nat} {b : TunnelBook} (h : Asks k b) : tunnel_Best k b = some (if manyS b (mostS b) = b.Frames.length then (mostS b, 0) else ([], 4)) := by
  unfold tunnel_Best
  have h5 := h.ok.five
  rw [check_ok h, bind_s, show ((0 : Int) != 0) = false from rfl, cond_false, all_eq h.ok h.fuel.low, bind_s, best_eq h.ok h.fuel.low (allK_in b) (by unfold allK; simp; omega), bind_s, bestS_all]
  by_cases e : manyS b (mostS b) = b.Frames.length
  · rw [if_pos e, if_pos e]
    simp only [stO, choiceS, Bool.not_true, cond_false]
    rw [listed_eq h.ok (mostS_ok b)]; rfl
  · rw [if_neg e, if_neg e]; rfl
theorem Most_ok {k : Nat} {b : TunnelBook} (h : Asks k b) : tunnel_Most k b = some (mostS b, goodL b (mostS b), 0) := by
  unfold tunnel_Most
  rw [check_ok h, bind_s, show ((0 : Int) != 0) = false from rfl, cond_false, best_eq h.ok h.fuel.low (by simp) (by simp), bind_s, bestS_nil]
  simp only [stO, choiceS]
  rw [listed_eq h.ok (mostS_ok b), bind_s, bgood_eq h.ok h.fuel.low (mostS_ok b)]; rfl
end Go.Lu
