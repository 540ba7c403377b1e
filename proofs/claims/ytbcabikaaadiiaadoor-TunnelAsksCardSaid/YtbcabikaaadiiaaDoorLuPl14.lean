/-
  Plain laws, fourteenth part: the reference: Check, what is asked, the heat, how dry, which are good.
-/
import Derived.Test.YtbcabikaaadiiaaDoorLuPl8
namespace Go.Lu
open Go
set_option linter.unusedVariables false
set_option linter.unusedSimpArgs false

theorem ref_lj8 (k : Nat) (p : TunnelPart) (hl : p.Heat.length = 4) (ok : Bool) {n : Nat} (hn : 5 ≤ n) : ref03_Check_lj8 k p n ok 0 = some (ok && heatB 0 p.Heat) := by
 obtain ⟨m, rfl⟩ : ∃ m, n = m + 5 := ⟨n - 5, by omega⟩
 obtain ⟨h, d⟩ := p
 simp only at hl
 match h, hl with
 | [a, b, c, e], _ =>
 have w1 : IntKind.i64.wrap ((0 : Int) + 1) = 1 := by decide
 have w2 : IntKind.i64.wrap ((1 : Int) + 1) = 2 := by decide
 have w3 : IntKind.i64.wrap ((2 : Int) + 1) = 3 := by decide
 have w4 : IntKind.i64.wrap ((3 : Int) + 1) = 4 := by decide
 have v1 : IntKind.i64.wrap ((1 : Int) - 1) = 0 := by decide
 have v2 : IntKind.i64.wrap ((2 : Int) - 1) = 1 := by decide
 have v3 : IntKind.i64.wrap ((3 : Int) - 1) = 2 := by decide
 have n0 : nth [a, b, c, e] (0 : Int) = some a := rfl
 have n1 : nth [a, b, c, e] (1 : Int) = some b := rfl
 have n2 : nth [a, b, c, e] (2 : Int) = some c := rfl
 have n3 : nth [a, b, c, e] (3 : Int) = some e := rfl
 have step : ∀ (q : Bool) (x : Bool) , (bif q then (some x : Option Bool) else some false) = some (q && x) := fun q x => by cases q <;> rfl
 rw [ref03_Check_lj8.eq_2]
 simp only [w1, w2, w3, w4, v1, v2, v3, n0, n1, n2, n3, fits_eq, bind_s, show decide ((0 : Int) < 4) = true from rfl, show decide ((1 : Int) < 4) = true from rfl, show decide ((2 : Int) < 4) = true from rfl, show decide ((3 : Int) < 4) = true from rfl, show decide ((4 : Int) < 4) = false from rfl,
   show ((0 : Int) == 0) = true from rfl, show ((1 : Int) == 0) = false from rfl, show ((2 : Int) == 0) = false from rfl, show ((3 : Int) == 0) = false from rfl, cond_true, cond_false, step]
 rw [ref03_Check_lj8.eq_2]
 simp only [w1, w2, w3, w4, v1, v2, v3, n0, n1, n2, n3, fits_eq, bind_s, show decide ((0 : Int) < 4) = true from rfl, show decide ((1 : Int) < 4) = true from rfl, show decide ((2 : Int) < 4) = true from rfl, show decide ((3 : Int) < 4) = true from rfl, show decide ((4 : Int) < 4) = false from rfl,
   show ((0 : Int) == 0) = true from rfl, show ((1 : Int) == 0) = false from rfl, show ((2 : Int) == 0) = false from rfl, show ((3 : Int) == 0) = false from rfl, cond_true, cond_false, step]
 rw [ref03_Check_lj8.eq_2]
 simp only [w1, w2, w3, w4, v1, v2, v3, n0, n1, n2, n3, fits_eq, bind_s, show decide ((0 : Int) < 4) = true from rfl, show decide ((1 : Int) < 4) = true from rfl, show decide ((2 : Int) < 4) = true from rfl, show decide ((3 : Int) < 4) = true from rfl, show decide ((4 : Int) < 4) = false from rfl,
   show ((0 : Int) == 0) = true from rfl, show ((1 : Int) == 0) = false from rfl, show ((2 : Int) == 0) = false from rfl, show ((3 : Int) == 0) = false from rfl, cond_true, cond_false, step]
 rw [ref03_Check_lj8.eq_2]
 simp only [w1, w2, w3, w4, v1, v2, v3, n0, n1, n2, n3, fits_eq, bind_s, show decide ((0 : Int) < 4) = true from rfl, show decide ((1 : Int) < 4) = true from rfl, show decide ((2 : Int) < 4) = true from rfl, show decide ((3 : Int) < 4) = true from rfl, show decide ((4 : Int) < 4) = false from rfl,
   show ((0 : Int) == 0) = true from rfl, show ((1 : Int) == 0) = false from rfl, show ((2 : Int) == 0) = false from rfl, show ((3 : Int) == 0) = false from rfl, cond_true, cond_false, step]
 rw [ref03_Check_lj8.eq_2]
 simp only [show decide ((4 : Int) < 4) = false from rfl, cond_false]
 congr 1
 rw [Bool.eq_iff_iff]
 simp only [heatB, Bool.and_eq_true, decide_eq_true_eq, and_true, ge_iff_le]
 constructor
 · rintro ⟨⟨⟨⟨h0, ⟨h1, h2⟩⟩, ⟨h3, h4⟩, h5⟩, ⟨h6, h7⟩, h8⟩, ⟨h9, h10⟩, h11⟩
   exact ⟨h0, ⟨h1, h2⟩, ⟨h5, h4⟩, ⟨h8, h7⟩, h11, h10⟩
 · rintro ⟨h0, ⟨h1, h2⟩, ⟨h5, h4⟩, ⟨h8, h7⟩, h11, h10⟩
   exact ⟨⟨⟨⟨h0, ⟨h1, h2⟩⟩, ⟨by omega, h4⟩, h5⟩, ⟨by omega, h7⟩, h8⟩, ⟨by omega, h10⟩, h11⟩
theorem ref_lj3_f (k : Nat) (b : TunnelBook) (n : Nat) (i : Int) : ref03_Check_lj3 k b (n + 1) false i = some false := by rw [ref03_Check_lj3.eq_2]; rfl
theorem ref_lj12_f (k : Nat) (b : TunnelBook) (n : Nat) (i : Int) : ref03_Check_lj12 k b (n + 1) false i = some false := by rw [ref03_Check_lj12.eq_2]; rfl
theorem ref_lj17_f (k : Nat) (f : TunnelFrame) (n : Nat) (i : Int) : ref03_Check_lj17 k f (n + 1) false i = some false := by rw [ref03_Check_lj17.eq_2]; rfl
theorem ref_lj3 {k : Nat} {b : TunnelBook} (hb : b.Parts.length ≤ maxLen) (hh : ∀ p ∈ b.Parts, p.Heat.length = 4) (hk : 5 ≤ k) : ∀ (m i n : Nat), i + m = b.Parts.length → m < n → ref03_Check_lj3 k b n true (i : Int) = some ((b.Parts.drop i).all partB)
 | 0, i, n + 1, h, _ => by
   rw [ref03_Check_lj3.eq_2, List.drop_of_length_le (by omega)]
   have e : decide ((i : Int) < (b.Parts.length : Int)) = false := by simp; omega
   rw [e]; rfl
 | m + 1, i, n + 2, h, hn => by
   have hi : i < b.Parts.length := by omega
   have e : decide ((i : Int) < (b.Parts.length : Int)) = true := by simp; omega
   have h8 := fun ok => ref_lj8 k b.Parts[i] (hh _ (List.getElem_mem hi)) ok hk
   have ih := ref_lj3 hb hh hk m (i + 1) (n + 1) (by omega) (by omega)
   rw [ref03_Check_lj3.eq_2, e, cond_true, bind_s, cond_true, nth_nat, List.getElem?_eq_getElem hi, bind_s, right_eq, bind_s, wrN (by omega), List.drop_eq_getElem_cons hi, List.all_cons]
   generalize b.Parts[i] = p at h8
   have key : (bif (decide (0 ≤ p.Damp.Low) && decide (p.Damp.Low ≤ p.Damp.High) && decide (p.Damp.High ≤ 20)) then some (decide (IntKind.i64.wrap (p.Damp.High - p.Damp.Low) ≤ 3)) else some false) =
       some (decide (0 ≤ p.Damp.Low) && decide (p.Damp.Low ≤ p.Damp.High) && decide (p.Damp.High ≤ 20) && decide (p.Damp.High - p.Damp.Low ≤ 3)) := by
     cases hd : (decide (0 ≤ p.Damp.Low) && decide (p.Damp.Low ≤ p.Damp.High) && decide (p.Damp.High ≤ 20))
     · rfl
     · simp at hd
       rw [wr (by omega) (by omega)]; rfl
   rw [key, bind_s, h8, bind_s]
   have ep : (decide (0 ≤ p.Damp.Low) && decide (p.Damp.Low ≤ p.Damp.High) && decide (p.Damp.High ≤ 20) && decide (p.Damp.High - p.Damp.Low ≤ 3) && heatB 0 p.Heat) = partB p := rfl
   rw [ep]
   cases partB p
   · rw [ref_lj3_f]; rfl
   · rw [ih]; rfl
theorem ref_lj17 {k : Nat} {f : TunnelFrame} (hb : f.Stay.length ≤ maxLen) : ∀ (m i n : Nat), i + m = f.Stay.length → m < n → ref03_Check_lj17 k f n true (i : Int) = some (stayB (f.Stay.drop i))
 | 0, i, n + 1, h, _ => by
   rw [ref03_Check_lj17.eq_2, List.drop_of_length_le (by omega)]
   have e : decide ((i : Int) < (f.Stay.length : Int)) = false := by simp; omega
   rw [e]; rfl
 | m + 1, i, n + 2, h, hn => by
   have hi : i < f.Stay.length := by omega
   have e : decide ((i : Int) < (f.Stay.length : Int)) = true := by simp; omega
   have ih := ref_lj17 (k := k) hb m (i + 1) (n + 1) (by omega) (by omega)
   rw [ref03_Check_lj17.eq_2, e, cond_true, bind_s, cond_true, nth_nat, List.getElem?_eq_getElem hi, bind_s, fits_eq, bind_s, wrN (by omega), List.drop_eq_getElem_cons hi]
   simp only [stayB, List.all_cons]
   cases (decide (0 ≤ f.Stay[i]) && decide (f.Stay[i] ≤ 20))
   · rw [ref_lj17_f]; rfl
   · rw [ih]; rfl
theorem ref_lj12 {k : Nat} {b : TunnelBook} (hb : b.Frames.length ≤ maxLen) (hs : ∀ f ∈ b.Frames, f.Stay.length ≤ maxLen ∧ f.Stay.length < k) : ∀ (m i n : Nat), i + m = b.Frames.length → m < n → ref03_Check_lj12 k b n true (i : Int) = some ((b.Frames.drop i).all (frameB b.Parts.length))
 | 0, i, n + 1, h, _ => by
   rw [ref03_Check_lj12.eq_2, List.drop_of_length_le (by omega)]
   have e : decide ((i : Int) < (b.Frames.length : Int)) = false := by simp; omega
   rw [e]; rfl
 | m + 1, i, n + 2, h, hn => by
   have hi : i < b.Frames.length := by omega
   have e : decide ((i : Int) < (b.Frames.length : Int)) = true := by simp; omega
   obtain ⟨s1, s2⟩ := hs b.Frames[i] (List.getElem_mem hi)
   have h17 := ref_lj17 (k := k) s1 _ 0 k (Nat.zero_add _) s2
   have ih := ref_lj12 hb hs m (i + 1) (n + 1) (by omega) (by omega)
   obtain ⟨k', rfl⟩ : ∃ k', k = k' + 1 := ⟨k - 1, by omega⟩
   rw [ref03_Check_lj12.eq_2, e, cond_true, bind_s, cond_true, nth_nat, List.getElem?_eq_getElem hi, bind_s, right_eq, wrN (by omega), List.drop_eq_getElem_cons hi, List.all_cons]
   generalize b.Frames[i] = f at h17
   have key : (bif (f.Stay.length : Int) == (b.Parts.length : Int) then (some (decide (0 ≤ f.Need.Low) && decide (f.Need.Low ≤ f.Need.High) && decide (f.Need.High ≤ 999))).bind fun x => some x else some false) =
       some ((f.Stay.length : Int) == (b.Parts.length : Int) && (decide (0 ≤ f.Need.Low) && decide (f.Need.Low ≤ f.Need.High) && decide (f.Need.High ≤ 999))) := by
     cases ((f.Stay.length : Int) == (b.Parts.length : Int)) <;> rfl
   rw [key, bind_s]
   have ef : frameB b.Parts.length f = ((f.Stay.length : Int) == (b.Parts.length : Int) && (decide (0 ≤ f.Need.Low) && decide (f.Need.Low ≤ f.Need.High) && decide (f.Need.High ≤ 999)) && stayB f.Stay) := rfl
   rw [ef]
   cases ((f.Stay.length : Int) == (b.Parts.length : Int) && (decide (0 ≤ f.Need.Low) && decide (f.Need.Low ≤ f.Need.High) && decide (f.Need.High ≤ 999)))
   · rw [ref_lj17_f, bind_s, ref_lj12_f]; rfl
   · simp only [Int.natCast_zero, List.drop_zero] at h17
     rw [h17, bind_s]
     cases stayB f.Stay
     · rw [ref_lj12_f]; rfl
     · rw [ih]; rfl
theorem ref_check {k : Nat} {b : TunnelBook} (hf : Fits b) (hk : Fuel k b) : ref03_Check k b = some (bif bookB b then 0 else 30) := by
 unfold ref03_Check
 have h1 : (bif (decide (1 ≤ (b.Parts.length : Int)) && decide ((b.Parts.length : Int) ≤ 4)) then some (decide ((b.Frames.length : Int) ≤ 5)) else some false) = some ((decide (1 ≤ (b.Parts.length : Int)) && decide ((b.Parts.length : Int) ≤ 4)) && decide ((b.Frames.length : Int) ≤ 5)) := by
   cases (decide (1 ≤ (b.Parts.length : Int)) && decide ((b.Parts.length : Int) ≤ 4)) <;> rfl
 have h3 := ref_lj3 (k := k) hf.parts hf.heat (by have := hk.low; omega) b.Parts.length 0 k (by omega) hk.parts
 have h12 := ref_lj12 (k := k) hf.frames (fun f hm => ⟨hf.stay f hm, hk.stay f hm⟩) b.Frames.length 0 k (by omega) hk.frames
 simp only [Int.natCast_zero, List.drop_zero] at h3 h12
 obtain ⟨k', rfl⟩ : ∃ k', k = k' + 1 := ⟨k - 1, by have := hk.low; omega⟩
 rw [fits_eq, bind_s, h1, bind_s]
 unfold bookB
 cases ((decide (1 ≤ (b.Parts.length : Int)) && decide ((b.Parts.length : Int) ≤ 4)) && decide ((b.Frames.length : Int) ≤ 5))
 · rw [ref_lj3_f, bind_s, ref_lj12_f]; rfl
 · rw [h3, bind_s]
   cases b.Parts.all partB
   · rw [ref_lj12_f]; rfl
   · rw [h12, bind_s]
     cases b.Frames.all (frameB b.Parts.length) <;> rfl
theorem ref_heat_loop {k : Nat} {b : TunnelBook} (hb : BookOk b) {s : List Int} (hs : SetOk b.Parts.length s) : ∀ (m i n : Nat) (a : Int), i + m = s.length → m < n → 0 ≤ a → a ≤ 1000 * i → ref03_heat_lj2 k b s n a (i : Int) = some (a + ((heatL b.Parts s).drop i).sum)
 | 0, i, n + 1, a, h, _, _, _ => by
   have e : decide ((i : Int) < (s.length : Int)) = false := by simp; omega
   rw [ref03_heat_lj2.eq_2, e, List.drop_of_length_le (by have := heatL_len b.Parts s; have := hs.len; omega)]; simp
 | m + 1, i, n + 1, a, h, hn, h0, h1 => by
   have hj : i < s.length := by omega
   have hi : i < b.Parts.length := by have := hs.len; omega
   have e : decide ((i : Int) < (s.length : Int)) = true := by simp; omega
   have h4 := hb.four
   have hl := heatL_length b.Parts s hs.len
   obtain ⟨s0, s1⟩ := hs.in3 s[i] (List.getElem_mem hj)
   obtain ⟨hh, g0, g1⟩ := hAt_of (hb.part _ (List.getElem_mem hi)) s0 s1
   rw [ref03_heat_lj2.eq_2, e, cond_true, nth_nat, List.getElem?_eq_getElem hj, bind_s, nth_nat, List.getElem?_eq_getElem hi, bind_s, hh, bind_s, wrN (by unfold maxLen; omega), wr (by omega) (by omega), ref_heat_loop hb hs m (i + 1) n _ (by omega) (by omega) (by omega) (by omega), List.drop_eq_getElem_cons (l := heatL b.Parts s) (i := i) (by omega), List.sum_cons, heatL_get b.Parts s i hi hj (by omega)]
   congr 1; omega
theorem ref_heat {k : Nat} (hk : 1000 ≤ k) {b : TunnelBook} (hb : BookOk b) {s : List Int} (hs : SetOk b.Parts.length s) : ref03_heat k b s = some (heatS b s) := by
 unfold ref03_heat
 have h4 := hb.four
 have := ref_heat_loop (k := k) hb hs s.length 0 k 0 (by omega) (by have := hs.len; omega) (by omega) (by omega)
 simp only [Int.natCast_zero, List.drop_zero, Int.zero_add] at this
 rw [this]; rfl
theorem rdryL_length (m : Bool) : ∀ (ps : List TunnelPart) (ss ns : List Int), ss.length = ps.length → ns.length = ps.length → (dryL m ps ss ns).length = ps.length
 | [], _, _, _, _ => by simp [dryL]
 | _ :: _, [], _, h, _ => by simp at h
 | _ :: _, _ :: _, [], _, h => by simp at h
 | p :: ps, s :: ss, n :: ns, h, h' => by simp [dryL]; exact rdryL_length m ps ss ns (by simpa using h) (by simpa using h')
theorem rdryL_get (m : Bool) : ∀ (ps : List TunnelPart) (ss ns : List Int) (i : Nat) (h1 : i < ps.length) (h2 : i < ss.length) (h3 : i < ns.length) (h4 : i < (dryL m ps ss ns).length), (dryL m ps ss ns)[i] = ns[i] * max 0 (hAt ps[i] ss[i] - endOf m ps[i].Damp)
 | p :: ps, s :: ss, n :: ns, 0, _, _, _, _ => rfl
 | p :: ps, s :: ss, n :: ns, i + 1, h1, h2, h3, h4 => by simpa [dryL] using rdryL_get m ps ss ns i (by simpa using h1) (by simpa using h2) (by simpa using h3) (by simpa [dryL] using h4)
theorem ref_dries_loop {k : Nat} {b : TunnelBook} (hb : BookOk b) {s : List Int} (hs : SetOk b.Parts.length s) {f : TunnelFrame} (hf : FrameOk b.Parts.length f) : ∀ (m i n : Nat) (a c : Int), i + m = s.length → m < n → 0 ≤ a → a ≤ 1000 * i → 0 ≤ c → c ≤ 1000 * i →
   ref03_dries_lj2 k b s f n a c (i : Int) = some (a + ((dryL false b.Parts s f.Stay).drop i).sum, c + ((dryL true b.Parts s f.Stay).drop i).sum)
 | 0, i, n + 1, a, c, h, _, _, _, _, _ => by
   have e : decide ((i : Int) < (s.length : Int)) = false := by simp; omega
   have l1 := dryL_len false b.Parts s f.Stay
   have l2 := dryL_len true b.Parts s f.Stay
   have hl := hs.len; have hfl := hf.len
   rw [ref03_dries_lj2.eq_2, e, List.drop_of_length_le (by omega), List.drop_of_length_le (by omega)]; simp
 | m + 1, i, n + 1, a, c, h, hn, a0, a1, c0, c1 => by
   have hj : i < s.length := by omega
   have hi : i < b.Parts.length := by have := hs.len; omega
   have hq : i < f.Stay.length := by have := hf.len; omega
   have e : decide ((i : Int) < (s.length : Int)) = true := by simp; omega
   have h4 := hb.four
   have l1 := rdryL_length false b.Parts s f.Stay hs.len hf.len
   have l2 := rdryL_length true b.Parts s f.Stay hs.len hf.len
   obtain ⟨s0, s1⟩ := hs.in3 s[i] (List.getElem_mem hj)
   have P := hb.part _ (List.getElem_mem hi)
   obtain ⟨hh, g0, g1⟩ := hAt_of P s0 s1
   obtain ⟨q0, q1⟩ := hf.stay _ (List.getElem_mem hq)
   have t1 := term_in P false s0 s1 q0 q1
   have t2 := term_in P true s0 s1 q0 q1
   have hlow := P.low; have hle := P.le; have hhigh := P.high
   have n3 : nth f.Stay (i : Int) = some f.Stay[i] := by rw [nth_nat, List.getElem?_eq_getElem hq]
   have x1 : IntKind.i64.wrap (f.Stay[i] * max 0 (IntKind.i64.wrap (hAt b.Parts[i] s[i] - b.Parts[i].Damp.High))) = f.Stay[i] * max 0 (hAt b.Parts[i] s[i] - endOf false b.Parts[i].Damp) := by
     rw [wr (n := hAt b.Parts[i] s[i] - b.Parts[i].Damp.High) (by omega) (by omega)]
     exact wr (by have : endOf false b.Parts[i].Damp = b.Parts[i].Damp.High := rfl; rw [this] at t1; omega) (by have : endOf false b.Parts[i].Damp = b.Parts[i].Damp.High := rfl; rw [this] at t1; omega)
   have x2 : IntKind.i64.wrap (f.Stay[i] * max 0 (IntKind.i64.wrap (hAt b.Parts[i] s[i] - b.Parts[i].Damp.Low))) = f.Stay[i] * max 0 (hAt b.Parts[i] s[i] - endOf true b.Parts[i].Damp) := by
     rw [wr (n := hAt b.Parts[i] s[i] - b.Parts[i].Damp.Low) (by omega) (by omega)]
     exact wr (by have : endOf true b.Parts[i].Damp = b.Parts[i].Damp.Low := rfl; rw [this] at t2; omega) (by have : endOf true b.Parts[i].Damp = b.Parts[i].Damp.Low := rfl; rw [this] at t2; omega)
   rw [ref03_dries_lj2.eq_2, e, cond_true, nth_nat, List.getElem?_eq_getElem hj, bind_s, nth_nat, List.getElem?_eq_getElem hi, bind_s, hh, bind_s, bind_s, n3, bind_s, bind_s, x1, x2, wrN (by unfold maxLen; omega), wr (n := a + _) (by omega) (by omega), wr (n := c + _) (by omega) (by omega), ref_dries_loop hb hs hf m (i + 1) n _ _ (by omega) (by omega) (by omega) (by omega) (by omega) (by omega), List.drop_eq_getElem_cons (l := dryL false b.Parts s f.Stay) (i := i) (by omega), List.drop_eq_getElem_cons (l := dryL true b.Parts s f.Stay) (i := i) (by omega), List.sum_cons, List.sum_cons, rdryL_get false b.Parts s f.Stay i hi hj hq (by omega), rdryL_get true b.Parts s f.Stay i hi hj hq (by omega), Int.add_assoc, Int.add_assoc]
theorem ref_dries {k : Nat} (hk : 1000 ≤ k) {b : TunnelBook} (hb : BookOk b) {s : List Int} (hs : SetOk b.Parts.length s) {f : TunnelFrame} (hf : FrameOk b.Parts.length f) : ref03_dries k b s f = some (drySpan b s f) := by
 unfold ref03_dries
 have h4 := hb.four
 have := ref_dries_loop (k := k) hb hs hf s.length 0 k 0 0 (by omega) (by have := hs.len; omega) (by omega) (by omega) (by omega) (by omega)
 simp only [Int.natCast_zero, List.drop_zero, Int.zero_add] at this
 rw [show ref00_Only k 0 = some ⟨0, 0⟩ from rfl, bind_s, this]; rfl
theorem ref_dry {k : Nat} (hk : 1000 ≤ k) {b : TunnelBook} (hb : BookOk b) {s : List Int} (hs : SetOk b.Parts.length s) {f : TunnelFrame} (hf : FrameOk b.Parts.length f) : ref03_dry k b s f = some (dryB b s f) := by
 unfold ref03_dry
 rw [ref_dries hk hb hs hf, bind_s]
 unfold ref00_Wraps dryB
 cases decide (f.Need.Low ≤ (drySpan b s f).Low) <;> rfl
theorem ref_good_loop {k : Nat} (hk : 1000 ≤ k) {b : TunnelBook} (hb : BookOk b) {s : List Int} (hs : SetOk b.Parts.length s) : ∀ (m i n : Nat), i + m = b.Frames.length → m < n →
   ref03_good_lj2 k b s n (((List.range i).filter fun j => dryK b s (j : Nat)).map fun (j : Nat) => (j : Int)) (i : Int) = some (goodL b s)
 | 0, i, n + 1, h, _ => by
   obtain rfl : i = b.Frames.length := by omega
   have e : decide (((b.Frames.length : Nat) : Int) < (b.Frames.length : Int)) = false := by simp
   rw [ref03_good_lj2.eq_2, e, goodL_nat]; rfl
 | m + 1, i, n + 1, h, hn => by
   have hi : i < b.Frames.length := by omega
   have e : decide ((i : Int) < (b.Frames.length : Int)) = true := by simp; omega
   have h5 := hb.five
   have hl : (((List.range i).filter fun j => dryK b s (j : Nat)).map fun (j : Nat) => (j : Int)).length ≤ 5 := by
     rw [List.length_map]; have := List.length_filter_le (fun j => dryK b s (j : Nat)) (List.range i); simp at this; omega
   rw [ref03_good_lj2.eq_2, e, cond_true, nth_nat, List.getElem?_eq_getElem hi, bind_s, ref_dry hk hb hs (hb.frame _ (List.getElem_mem hi)), bind_s, ← dryK_nat hi, wrN (by unfold maxLen; omega)]
   have ih := ref_good_loop hk hb hs m (i + 1) n (by omega) (by omega)
   rw [range_filter_succ] at ih
   cases hd : dryK b s (i : Nat)
   · rw [hd] at ih; simpa using ih
   · rw [hd] at ih
     simp only [if_true, List.map_append, List.map_cons, List.map_nil] at ih
     rw [cond_true, app_eq (by simp only [List.length_cons, List.length_nil]; omega), bind_s]; exact ih
theorem ref_good {k : Nat} (hk : 1000 ≤ k) {b : TunnelBook} (hb : BookOk b) {s : List Int} (hs : SetOk b.Parts.length s) : ref03_good k b s = some (goodL b s) := by
 unfold ref03_good
 have h5 := hb.five
 have := ref_good_loop hk hb hs b.Frames.length 0 k (by omega) (by omega)
 simp only [List.range_zero, List.filter_nil, List.map_nil, Int.natCast_zero] at this
 rw [this]; rfl
end Go.Lu
