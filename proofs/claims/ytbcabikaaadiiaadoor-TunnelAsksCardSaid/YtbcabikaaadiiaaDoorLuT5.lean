/-
  The law TunnelAsks, in plain Lean: Longer and Ask return what the reference says, for any book, setting and numbers (frame, part).
-/
import Derived.Test.YtbcabikaaadiiaaDoorLuG5x1
import Derived.Test.YtbcabikaaadiiaaDoorLuPl16
namespace Go.Lu
open Go
set_option linter.unusedVariables false
set_option linter.unusedSimpArgs false

theorem askE_zero {b : TunnelBook} {s : List Int} {r : Bool} (h : (askE b s r == 0) = true) : bookB b = true ∧ setB b.Parts.length s = true ∧ r = true := by
 unfold askE at h
 cases h1 : bookB b <;> cases h2 : setB b.Parts.length s <;> cases r <;> simp [h1, h2] at h ⊢
theorem ref_isPart (k : Nat) {b : TunnelBook} (hf : b.Parts.length ≤ maxLen) (n : Int) : ref03_isPart k b n = some (decide (0 ≤ n) && decide (n ≤ (b.Parts.length : Int) - 1)) := by
 have hm : maxLen = 9223372036854775807 := by unfold maxLen; omega
 unfold ref03_isPart; rw [fits_eq, bind_s, wr_max (by omega) (by omega)]
theorem ref_longer_asked {k : Nat} {b : TunnelBook} (hf : Fits b) (hk : Fuel k b) {s : List Int} (q u : Bool) : (bif setB b.Parts.length s then bif q then (ref03_asked k b u).bind fun x => some x else (ref03_asked k b false).bind fun x => some x else (ref03_asked k b false).bind fun x => some x) = some (askE b s (q && u)) := by
 rw [ref_asked hf hk, ref_asked hf hk]; unfold askE
 cases bookB b <;> cases setB b.Parts.length s <;> cases q <;> cases u <;> rfl
theorem longer_both {k : Nat} {b : TunnelBook} (hf : Fits b) (hk : Fuel k b) {s : List Int} (hs : s.length < k) (hl : s.length ≤ maxLen) (n m : Int) : ∃ r, tunnel_Longer k b s n m = some r ∧ ref03_Longer k b s n m = some r := by
 obtain ⟨q, hq⟩ : ∃ q, (decide (0 ≤ n) && decide (n ≤ (b.Frames.length : Int) - 1)) = q := ⟨_, rfl⟩
 obtain ⟨u, hu⟩ : ∃ u, (decide (0 ≤ m) && decide (m ≤ (b.Parts.length : Int) - 1)) = u := ⟨_, rfl⟩
 cases e : (askE b s (q && u) == 0)
 · have c : (askE b s (q && u) != 0) = true := by unfold bne; rw [e]; rfl
   refine ⟨(0, askE b s (q && u)), ?_, ?_⟩
   · unfold tunnel_Longer
     rw [isFrame_eq k hf.frames, bind_s, hq]
     cases q
     · rw [Bool.false_and] at e c
       simp only [cond_false, asked_eq hf hk, bind_s, e, c, cond_true, Bool.false_and]
     · rw [Bool.true_and] at e c
       rw [cond_true, isPart_eq k hf.parts, bind_s, hu]
       simp only [asked_eq hf hk, bind_s, e, cond_false, c, cond_true, Bool.true_and]
   · unfold ref03_Longer
     rw [isSet_eq hs hl, ref_isFrame k hf.frames, ref_isPart k hf.parts, hq, hu]
     simp only [bind_s]
     rw [ref_longer_asked hf hk, bind_s, c]; rfl
 · obtain ⟨h1, h2, h3⟩ := askE_zero e
   have c : (askE b s (q && u) != 0) = false := by unfold bne; rw [e]; rfl
   have hb := (bookB_iff hf.heat).1 h1
   have A : Asks k b := ⟨hf, hk, hb⟩
   have hset := setB_iff.1 h2
   have href : ref03_Longer k b s n m = (nth b.Frames n).bind fun x4_3 => (ref03_dry k b s x4_3).bind fun x5_3 => bif !x5_3 then some (0, 4) else (ref03_Longer_lj5 k b s m x4_3 k 0 1).bind fun yj4_12 => some (yj4_12, 0) := by
     unfold ref03_Longer
     rw [isSet_eq hs hl, ref_isFrame k hf.frames, ref_isPart k hf.parts, hq, hu]
     simp only [bind_s]
     rw [ref_longer_asked hf hk, bind_s, c]; rfl
   rw [Bool.and_eq_true] at h3
   rw [h3.1] at hq
   rw [h3.2] at hu
   simp at hq hu
   obtain ⟨i, rfl⟩ : ∃ i : Nat, n = i := ⟨n.toNat, by omega⟩
   obtain ⟨p, rfl⟩ : ∃ p : Nat, m = p := ⟨m.toNat, by omega⟩
   have hi : i < b.Frames.length := by omega
   have hpl : p < b.Parts.length := by omega
   have F := hb.frame _ (List.getElem_mem hi)
   have hp : p < b.Frames[i].Stay.length := by rw [F.len]; exact hpl
   have hx := F.stay _ (List.getElem_mem hp)
   have n1 : nth b.Frames (i : Int) = some b.Frames[i] := by rw [nth_nat, List.getElem?_eq_getElem hi]
   have hd := ref_dry hk.low hb hset F
   rw [href, n1, bind_s, hd, bind_s]
   rcases Longer_ok A hset hi hp with ⟨hdr, hL⟩ | ⟨hdr, r, hr, hL, g2, g3⟩
   · rw [hL, hdr]; exact ⟨_, rfl, rfl⟩
   · rw [hL, hdr]
     have hk' := hk.low
     obtain ⟨r', j1, j2, j3, j4⟩ := rlonger_lj5 hk.low hb hset F hp (20 - b.Frames[i].Stay[p]).toNat 1 k 0 (by omega) (by omega) (by omega) (by omega) (.inl rfl) (fun i i1 i2 => by omega)
     have er : r' = r := by
       rcases Nat.lt_trichotomy r' r with hlt | h | hlt
       · have := j4 r hlt hr; rw [g2] at this; cases this
       · exact h
       · have := g3 r' hlt j2
         rcases j3 with h0 | h0
         · omega
         · rw [h0] at this; cases this
     have j1' : ref03_Longer_lj5 k b s (p : Int) b.Frames[i] k 0 1 = some (r' : Int) := j1
     rw [Bool.not_true, cond_false, j1', er]
     exact ⟨_, rfl, rfl⟩
theorem ask_both {k : Nat} {b : TunnelBook} (hf : Fits b) (hk : Fuel k b) : ∃ r, tunnel_Ask k b = some r ∧ ref03_Ask k b = some r := by
 have hck := check_eq hf hk
 have hrk := ref_check hf hk
 cases hB : bookB b
 · rw [hB] at hck hrk
   have hck' : tunnel_Check k b = some 30 := hck
   have hrk' : ref03_Check k b = some 30 := hrk
   exact ⟨(0, 30), by unfold tunnel_Ask; rw [hck']; rfl, by unfold ref03_Ask; rw [hrk']; rfl⟩
 · rw [hB] at hrk
   have hrk' : ref03_Check k b = some 0 := hrk
   have hb := (bookB_iff hf.heat).1 hB
   have A : Asks k b := ⟨hf, hk, hb⟩
   obtain ⟨a, h1, h2⟩ := Ask_ok A
   obtain ⟨c, h3, h4⟩ := rask_lj3 hk.low hb b.Parts.length 0 k (-1) (-1) (by omega) hk.parts hb.one (.inl ⟨rfl, rfl, rfl⟩)
   obtain rfl := h2.unique h4
   rw [Int.natCast_zero] at h3
   exact ⟨_, h1, by unfold ref03_Ask; rw [hrk', bind_s, show ((0 : Int) != 0) = false from rfl, cond_false, h3]; rfl⟩

theorem asks_true (b : TunnelBook) (hf : Fits b) (s : List Int) (hl : s.length ≤ maxLen) (n : List Int) (hn : n.length = 2) : ∃ k, law03_TunnelAsks k b s n = some true := by
 obtain ⟨k, hk, hs⟩ := fuel_of b s.length
 refine ⟨k, ?_⟩
 have hw := warmed_eq hk.low
 have e0 : nth n (0 : Int) = some n[0] := by rw [show (0 : Int) = ((0 : Nat) : Int) from rfl, nth_nat]; simp
 have e1 : nth n (1 : Int) = some n[1] := by rw [show (1 : Int) = ((1 : Nat) : Int) from rfl, nth_nat]; simp
 obtain ⟨r1, a1, a2⟩ := longer_both hf hk hs hl n[0] n[1]
 obtain ⟨r2, b1, b2⟩ := ask_both hf hk
 unfold law03_TunnelAsks
 simp only [e0, e1, a1, a2, b1, b2, bind_s, bne_self_eq_false, cond_false, beq_self_eq_true, cond_true, hw]
end Go.Lu
