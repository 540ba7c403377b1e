/-
  The law TunnelClash, in plain Lean: no setting surely dries both frames in time that are returned; no frame that is lost; each two frames of which the first one comes before, or which are not told, are dried by some setting together.
-/
import Derived.Test.YtbcabikaaadiiaaDoorLuG9x1
import Derived.Test.YtbcabikaaadiiaaDoorLuPl13
import Derived.Test.YtbcabikaaadiiaaDoorLuPl6s
import Derived.Test.YtbcabikaaadiiaaDoorLuPl10a
namespace Go.Lu
open Go
set_option linter.unusedVariables false
set_option linter.unusedSimpArgs false

theorem clash_lj5 {k : Nat} (hk : 1000 ≤ k) {b : TunnelBook} (hb : BookOk b) {s : List Int} (hs : SetOk b.Parts.length s) (e0 e1 : Int) : ∀ (m i n : Nat), i + m = (lostL b).length → m < n → law03_TunnelClash_lj5 k (lostL b, e0) (goodL b s, e1) n (i : Int) = some (Sum.inr ())
  | 0, i, n + 1, h, _ => by
    have e : decide ((i : Int) < (((lostL b, e0) : List Int × Int).1.length : Int)) = false := by simp; omega
    rw [law03_TunnelClash_lj5.eq_2, e]; rfl
  | m + 1, i, n + 1, h, hn => by
    have hi : i < (lostL b).length := by omega
    have h5 := hb.five
    have hl := lostL_len b
    have gl := good_len_le b s
    have e : decide ((i : Int) < (((lostL b, e0) : List Int × Int).1.length : Int)) = true := by simp; omega
    have n1 : nth ((lostL b, e0) : List Int × Int).1 (i : Int) = some (lostL b)[i] := by rw [nth_nat]; exact List.getElem?_eq_getElem hi
    obtain ⟨v, hv, hv'⟩ := index_eq (k := k) (l := goodL b s) (lostL b)[i] (by omega) (by unfold maxLen; omega)
    obtain ⟨j, hj, hjl, hnone⟩ := mem_lost (List.getElem_mem hi)
    have hno : decide ((lostL b)[i] ∈ goodL b s) = false := by
      refine decide_eq_false fun hm => ?_
      obtain ⟨x, hx, hd⟩ := bestS_none.1 hnone s hs
      simp at hx; subst hx
      rw [hj] at hm
      rw [mem_good.1 hm] at hd; cases hd
    rw [law03_TunnelClash_lj5.eq_2, e, cond_true, n1, bind_s, hv, bind_s, hv', hno, cond_false, wrN (by unfold maxLen; omega)]
    exact clash_lj5 hk hb hs e0 e1 m (i + 1) n (by omega) (by omega)

/-- Two frames alone. -/
theorem pair_many {b : TunnelBook} (f g : TunnelFrame) (t : List Int) : manyS ⟨b.Parts, [f, g]⟩ t = (if dryB b t f then 1 else 0) + (if dryB b t g then 1 else 0) := by
  have e0 : dryK ⟨b.Parts, [f, g]⟩ t (0 : Int) = dryB b t f := rfl
  have e1 : dryK ⟨b.Parts, [f, g]⟩ t (1 : Int) = dryB b t g := rfl
  unfold manyS
  rw [goodL_nat]
  show (((List.filter (fun j => dryK ⟨b.Parts, [f, g]⟩ t (j : Nat)) [0, 1]).map fun (j : Nat) => (j : Int)).length : Int) = _
  rw [List.length_map]
  cases h0 : dryB b t f <;> cases h1 : dryB b t g <;> simp [List.filter_cons, e0, e1, h0, h1]
theorem spin_near {n : Int} {m : Nat} (h2 : 2 ≤ m) (h5 : m ≤ 5) {p : Nat} (hp : p < m) {t : Int} (t0 : 0 ≤ t) (t1 : t < (m : Int) - 1) (hn : n = (p : Int) + 1 + t) : spinV n m ≠ p := by
  unfold spinV
  rw [if_neg (by omega), Int.tmod_eq_emod_of_nonneg (by omega)]
  have : m = 2 ∨ m = 3 ∨ m = 4 ∨ m = 5 := by omega
  rcases this with rfl | rfl | rfl | rfl <;> split <;> omega

theorem clash_true (b : TunnelBook) (hf : Fits b) (bits : List Int) (hl : bits.length ≤ maxLen) (n : List Int) (hn : n.length = 2) : ∃ k, law03_TunnelClash k b bits n = some true := by
  obtain ⟨k, hk, _⟩ := fuel_of b 0
  refine ⟨k, ?_⟩
  have hw := warmed_eq hk.low
  unfold law03_TunnelClash
  rw [sound_eq hf hk, bind_s]
  cases hB : bookB b
  · simp only [Bool.not_false, cond_true, bind_s, hw]
  have hb := (bookB_iff hf.heat).1 hB
  have A : Asks k b := ⟨hf, hk, hb⟩
  have h5 := hb.five
  have hlow := hk.low
  have hs := settingV_ok b bits
  have eset := setting_eq (k := k) (b := b) hb.four hk.low hl
  generalize settingV b bits = s at *
  have e1 := Lost_ok A
  have e2 := Good_ok A hs
  have gl := good_len_le b s
  have ll := lostL_len b
  have eg : ref00_Grows k (lostL b) (b.Frames.length : Int) = some true := grows_eq (by omega) (by omega) (by unfold maxLen; omega) (fun x hx => by obtain ⟨j, hj, h1, _⟩ := mem_lost hx; omega) (lostL_sorted b)
  have lp := clash_lj5 hlow hb hs 0 0 (lostL b).length 0 k (by omega) (by omega)
  rw [Int.natCast_zero] at lp
  have e0' : nth n (0 : Int) = some n[0] := by rw [show (0 : Int) = ((0 : Nat) : Int) from rfl, nth_nat]; simp
  have e1' : nth n (1 : Int) = some n[1] := by rw [show (1 : Int) = ((1 : Nat) : Int) from rfl, nth_nat]; simp
  have w1 : IntKind.i64.wrap ((b.Frames.length : Int) - 1) = (b.Frames.length : Int) - 1 := wr (by omega) (by omega)
  simp only [Bool.not_true, cond_false, e1, eset, e2, bind_s, show ((0 : Int) != 0) = false from rfl, eg]
  rcases Clash_ok A with ⟨hlost, hC⟩ | ⟨hlost, hC⟩
  · have c1 : decide (((lostL b).length : Int) > 0) = true := by
      have : (lostL b).length ≠ 0 := fun h => hlost (List.length_eq_zero_iff.1 h)
      simp; omega
    simp only [hC, bind_s, c1, show ((32 : Int) == 32) = true from rfl, show ((32 : Int) != 0) = true from rfl, show ((32 : Int) != 32) = false from rfl, show ((32 : Int) == 0) = false from rfl, bne_self_eq_false, cond_true, cond_false, show ((0 : Int) != 0) = false from rfl, lp]
    cases decide ((b.Frames.length : Int) < 2) <;> simp only [cond_true, cond_false, bind_s, hw]
  · have c1 : decide (((lostL b).length : Int) > 0) = false := by rw [hlost]; rfl
    -- the two frames that numbers choose
    have pairs : 2 ≤ b.Frames.length → ∃ p q : Nat, p < q ∧ q < b.Frames.length ∧ ∃ x y : Int,
        ref00_Spin k n[0] (b.Frames.length : Int) = some x ∧ ref00_Spin k n[1] ((b.Frames.length : Int) - 1) = some y ∧ ∃ z : Int, ref00_Spin k (IntKind.i64.wrap (IntKind.i64.wrap (x + 1) + y)) (b.Frames.length : Int) = some z ∧ min x z = p ∧ max x z = q := by
      intro h2
      have hx := spinV_in (n := n[0]) (m := (b.Frames.length : Int)) (by omega)
      have hy := spinV_in (n := n[1]) (m := (b.Frames.length : Int) - 1) (by omega)
      have hw1 : IntKind.i64.wrap (IntKind.i64.wrap (spinV n[0] (b.Frames.length : Int) + 1) + spinV n[1] ((b.Frames.length : Int) - 1)) = spinV n[0] (b.Frames.length : Int) + 1 + spinV n[1] ((b.Frames.length : Int) - 1) := by
        rw [wr (n := spinV n[0] (b.Frames.length : Int) + 1) (by omega) (by omega), wr (by omega) (by omega)]; rfl
      have hz := spinV_in (n := spinV n[0] (b.Frames.length : Int) + 1 + spinV n[1] ((b.Frames.length : Int) - 1)) (m := (b.Frames.length : Int)) (by omega)
      have hne := spin_near (n := spinV n[0] (b.Frames.length : Int) + 1 + spinV n[1] ((b.Frames.length : Int) - 1)) h2 h5 (p := (spinV n[0] (b.Frames.length : Int)).toNat) (by omega) hy.1 hy.2 (by omega)
      refine ⟨(min (spinV n[0] (b.Frames.length : Int)) (spinV (spinV n[0] (b.Frames.length : Int) + 1 + spinV n[1] ((b.Frames.length : Int) - 1)) (b.Frames.length : Int))).toNat, (max (spinV n[0] (b.Frames.length : Int)) (spinV (spinV n[0] (b.Frames.length : Int) + 1 + spinV n[1] ((b.Frames.length : Int) - 1)) (b.Frames.length : Int))).toNat, by omega, by omega, _, _, spin_eq k _ (by omega), spin_eq k _ (by omega), _, by rw [hw1]; exact spin_eq k _ (by omega), by omega, by omega⟩
    have most2 : ∀ (p q : Nat) (hpq : p < q) (hq : q < b.Frames.length), ∃ (c : Nat) (m0 l0 : List Int), nth b.Frames (p : Int) = some (b.Frames[p]'(Nat.lt_trans hpq hq)) ∧ nth b.Frames (q : Int) = some b.Frames[q] ∧ tunnel_Most k ⟨b.Parts, [b.Frames[p]'(Nat.lt_trans hpq hq), b.Frames[q]]⟩ = some (m0, l0, 0) ∧ l0.length = c ∧ (c = 1 ∨ c = 2) ∧ (c = 2 ↔ bestS b [(p : Int), (q : Int)] ≠ none) := by
      intro p q hpq hq
      have hp : p < b.Frames.length := by omega
      have bx : BookOk ⟨b.Parts, [b.Frames[p], b.Frames[q]]⟩ := ⟨hb.one, hb.four, by simp, hb.part, fun f hf => by
        simp at hf
        rcases hf with rfl | rfl
        · exact hb.frame _ (List.getElem_mem hp)
        · exact hb.frame _ (List.getElem_mem hq)⟩
      have hM := Most_ok (asks_of hlow bx)
      have hmk := mostS_ok ⟨b.Parts, [b.Frames[p], b.Frames[q]]⟩
      have hmb : ∀ t, SetOk b.Parts.length t → manyS ⟨b.Parts, [b.Frames[p], b.Frames[q]]⟩ t ≤ manyS ⟨b.Parts, [b.Frames[p], b.Frames[q]]⟩ (mostS ⟨b.Parts, [b.Frames[p], b.Frames[q]]⟩) := fun t ht => mostS_many _ ht
      generalize mostS ⟨b.Parts, [b.Frames[p], b.Frames[q]]⟩ = t0 at *
      have hc : manyS ⟨b.Parts, [b.Frames[p], b.Frames[q]]⟩ t0 = _ := pair_many (b := b) b.Frames[p] b.Frames[q] t0
      have dk : ∀ t (j : Nat) (hj : j < b.Frames.length), dryK b t (j : Int) = dryB b t b.Frames[j] := fun t j hj => dryK_nat hj
      refine ⟨(goodL ⟨b.Parts, [b.Frames[p], b.Frames[q]]⟩ t0).length, t0, _, by rw [nth_nat, List.getElem?_eq_getElem hp], by rw [nth_nat, List.getElem?_eq_getElem hq], hM, rfl, ?_, ?_⟩
      · obtain ⟨t, ht⟩ := not_lost hlost hp
        obtain ⟨h1, h2, _⟩ := bestS_some ht
        have := hmb t h1
        rw [pair_many] at this
        have hd := h2 p (by simp)
        rw [dk t p hp] at hd
        rw [hd] at this
        have hge : 1 ≤ manyS ⟨b.Parts, [b.Frames[p], b.Frames[q]]⟩ t0 := by
          refine Int.le_trans ?_ this
          cases dryB b t b.Frames[q] <;> decide
        have hle := good_len_le ⟨b.Parts, [b.Frames[p], b.Frames[q]]⟩ t0
        have hle' : (goodL ⟨b.Parts, [b.Frames[p], b.Frames[q]]⟩ t0).length ≤ 2 := hle
        unfold manyS at hge
        omega
      · constructor
        · intro hc2 hnone
          obtain ⟨x, hx, hd⟩ := bestS_none.1 hnone t0 hmk
          have hc' : manyS ⟨b.Parts, [b.Frames[p], b.Frames[q]]⟩ t0 = 2 := by unfold manyS; omega
          rw [hc] at hc'
          simp at hx
          rcases hx with rfl | rfl
          · rw [dk t0 p hp] at hd; rw [hd] at hc'; cases h : dryB b t0 b.Frames[q] <;> rw [h] at hc' <;> exact absurd hc' (by decide)
          · rw [dk t0 q hq] at hd; rw [hd] at hc'; cases h : dryB b t0 b.Frames[p] <;> rw [h] at hc' <;> exact absurd hc' (by decide)
        · intro hsome
          cases e : bestS b [(p : Int), (q : Int)] with
          | none => exact absurd e hsome
          | some t =>
            obtain ⟨h1, h2, _⟩ := bestS_some e
            have := hmb t h1
            rw [pair_many] at this
            have d1 := h2 p (by simp)
            have d2 := h2 q (by simp)
            rw [dk t p hp] at d1
            rw [dk t q hq] at d2
            rw [d1, d2] at this
            have hle := good_len_le ⟨b.Parts, [b.Frames[p], b.Frames[q]]⟩ t0
            have hle' : (goodL ⟨b.Parts, [b.Frames[p], b.Frames[q]]⟩ t0).length ≤ 2 := hle
            have t2 : (2 : Int) ≤ manyS ⟨b.Parts, [b.Frames[p], b.Frames[q]]⟩ t0 := this
            unfold manyS at t2
            omega
    rcases hC with ⟨o, r, hC, hcl⟩ | ⟨hC, hall⟩
    · have hor := hcl.lt
      have hrl := hcl.in_
      have hlt2 : decide ((b.Frames.length : Int) < 2) = false := by simp; omega
      have w2 : IntKind.i64.wrap ((r : Int) - 1) = (r : Int) - 1 := wr (by omega) (by omega)
      have f1 : ref00_Fits k (r : Int) 1 ((b.Frames.length : Int) - 1) = some true := by rw [fits_eq]; congr 1; simp; omega
      have f2 : ref00_Fits k (o : Int) 0 ((r : Int) - 1) = some true := by rw [fits_eq]; congr 1; simp; omega
      obtain ⟨v1, hv1, hv1'⟩ := index_eq (k := k) (l := goodL b s) (o : Int) (by omega) (by unfold maxLen; omega)
      obtain ⟨v2, hv2, hv2'⟩ := index_eq (k := k) (l := goodL b s) (r : Int) (by omega) (by unfold maxLen; omega)
      have hnot : (bif decide ((o : Int) ∈ goodL b s) then some (decide ((r : Int) ∈ goodL b s)) else some false) = some false := by
        obtain ⟨x, hx, hd⟩ := bestS_none.1 hcl.no s hs
        simp at hx
        rcases hx with rfl | rfl
        · rw [decide_eq_false (fun hm => by rw [mem_good.1 hm] at hd; cases hd)]; rfl
        · rw [decide_eq_false (p := ((r : Int) ∈ goodL b s)) (fun hm => by rw [mem_good.1 hm] at hd; cases hd)]
          cases decide ((o : Int) ∈ goodL b s) <;> rfl
      obtain ⟨p, q, hpq, hq, x, y, hx, hy, z, hz, hmin, hmax⟩ := pairs (by omega)
      obtain ⟨c, m0, l0, n1, n2, hM, hlen, hc, hiff⟩ := most2 p q hpq hq
      simp only [hC, bind_s, c1, show ((0 : Int) == 32) = false from rfl, show ((0 : Int) != 0) = false from rfl, show ((0 : Int) == 0) = true from rfl, bne_self_eq_false, cond_true, cond_false, lp, w1, f1, Bool.not_true, w2, f2, hv1, hv1', hv2, hv2', hnot, hlt2, e0', e1', hx, hy, hz, hmin, hmax, n1, n2, hM, hlen]
      rcases hc with rfl | rfl
      · have hnone : bestS b [(p : Int), (q : Int)] = none := by
          cases e : bestS b [(p : Int), (q : Int)] with
          | none => rfl
          | some t => exact absurd (hiff.2 (by rw [e]; exact fun h => by cases h)) (by decide)
        simp only [show ((((1 : Nat) : Int)) == 0) = false from rfl, show ((((1 : Nat) : Int)) == 2) = false from rfl, cond_false]
        rcases hcl.first p q hpq hq hnone with h | ⟨h, h'⟩
        · have d1 : decide ((o : Int) < (p : Int)) = true := by simp; exact h
          simp only [d1, cond_true, hw, bind_s]
        · subst h
          have d1 : decide ((o : Int) < (o : Int)) = false := by simp
          have d2 : decide ((r : Int) ≤ (q : Int)) = true := by simp; exact h'
          simp only [d1, d2, cond_true, cond_false, beq_self_eq_true, hw, bind_s]
      · simp only [show ((((2 : Nat) : Int)) == 0) = false from rfl, show ((((2 : Nat) : Int)) == 2) = true from rfl, cond_false, cond_true]
        by_cases hop : p = o
        · by_cases hrq : q = r
          · subst hop hrq
            exact absurd hcl.no (hiff.1 rfl)
          · have g1 : (((p : Nat) : Int) != ((o : Nat) : Int)) = false := by simp [hop]
            have g2 : (((q : Nat) : Int) != ((r : Nat) : Int)) = true := by simp; omega
            simp only [g1, g2, cond_true, cond_false, hw, bind_s]
        · have g1 : (((p : Nat) : Int) != ((o : Nat) : Int)) = true := by simp; omega
          simp only [g1, cond_true, hw, bind_s]
    · simp only [hC, bind_s, c1, show ((4 : Int) == 32) = false from rfl, show ((4 : Int) != 0) = true from rfl, show ((4 : Int) != 32) = true from rfl, show ((4 : Int) != 4) = false from rfl, show ((4 : Int) == 0) = false from rfl, show ((0 : Int) != 0) = false from rfl, bne_self_eq_false, cond_true, cond_false, lp]
      by_cases h2 : b.Frames.length < 2
      · have hlt2 : decide ((b.Frames.length : Int) < 2) = true := by simp; omega
        simp only [hlt2, cond_true, hw, bind_s]
      · have hlt2 : decide ((b.Frames.length : Int) < 2) = false := by simp; omega
        obtain ⟨p, q, hpq, hq, x, y, hx, hy, z, hz, hmin, hmax⟩ := pairs (by omega)
        obtain ⟨c, m0, l0, n1, n2, hM, hlen, hc, hiff⟩ := most2 p q hpq hq
        obtain rfl : c = 2 := hiff.2 (hall p q hpq hq)
        simp only [hlt2, cond_false, e0', e1', w1, hx, hy, hz, hmin, hmax, n1, n2, hM, hlen, bind_s, show ((0 : Int) != 0) = false from rfl, show ((((2 : Nat) : Int)) == 0) = false from rfl, show ((((2 : Nat) : Int)) == 2) = true from rfl, cond_true, hw]
end Go.Lu
