/-
  The law TunnelBests, in plain Lean: Best, Most, Lost and Clash return what the reference says, for any book.
-/
import Derived.Test.YtbcabikaaadiiaaDoorLuG4x1
import Derived.Test.YtbcabikaaadiiaaDoorLuPl15
namespace Go.Lu
open Go
set_option linter.unusedVariables false
set_option linter.unusedSimpArgs false

/-- A book that is refused: each of the functions says so. -/
theorem bests_true (b : TunnelBook) (hf : Fits b) : ∃ k, law03_TunnelBests k b = some true := by
  obtain ⟨k, hk, _⟩ := fuel_of b 0
  refine ⟨k, ?_⟩
  have hw := warmed_eq hk.low
  have hck := check_eq hf hk
  have hrk := ref_check hf hk
  have hal0 : ref00_Alike k [] [] = some true := alike_self (by have := hk.low; simp; omega) (by simp)
  cases hB : bookB b
  · rw [hB] at hck hrk
    have hck' : tunnel_Check k b = some 30 := hck
    have hrk' : ref03_Check k b = some 30 := hrk
    have b1 : tunnel_Best k b = some ([], 30) := by unfold tunnel_Best; rw [hck']; rfl
    have b2 : ref03_Best k b = some ([], 30) := by unfold ref03_Best; rw [hrk']; rfl
    have m1 : tunnel_Most k b = some ([], [], 30) := by unfold tunnel_Most; rw [hck']; rfl
    have m2 : ref03_Most k b = some ([], [], 30) := by unfold ref03_Most; rw [hrk']; rfl
    have l1 : tunnel_Lost k b = some ([], 30) := by unfold tunnel_Lost; rw [hck']; rfl
    have l2 : ref03_Lost k b = some ([], 30) := by unfold ref03_Lost; rw [hrk']; rfl
    have c1 : tunnel_Clash k b = some (0, 0, 30) := by unfold tunnel_Clash; rw [hck']; rfl
    have c2 : ref03_Clash k b = some (0, 0, 30) := by unfold ref03_Clash; rw [hrk']; rfl
    unfold law03_TunnelBests
    simp only [b1, b2, m1, m2, l1, l2, c1, c2, bind_s, hal0, Bool.not_true, cond_false, cond_true, bne_self_eq_false, beq_self_eq_true, hw]
  · rw [hB] at hck hrk
    have hck' : tunnel_Check k b = some 0 := hck
    have hrk' : ref03_Check k b = some 0 := hrk
    have hb := (bookB_iff hf.heat).1 hB
    have A : Asks k b := ⟨hf, hk, hb⟩
    have hlow := hk.low
    have h5 := hb.five
    have h4 := hb.four
    have hm := mostS_ok b
    have gl := good_len_le b (mostS b)
    have b2 : ref03_Best k b = tunnel_Best k b := by
      rw [Best_ok A]
      unfold ref03_Best
      rw [hrk', bind_s, show ((0 : Int) != 0) = false from rfl, cond_false, ref_most hlow hb, bind_s, ref_good hlow hb hm, bind_s]
      by_cases h : manyS b (mostS b) = b.Frames.length
      · rw [if_pos h]
        have e : decide (((goodL b (mostS b)).length : Int) < (b.Frames.length : Int)) = false := by unfold manyS at h; simp; omega
        rw [e]; rfl
      · rw [if_neg h]
        have e : decide (((goodL b (mostS b)).length : Int) < (b.Frames.length : Int)) = true := by unfold manyS at h; simp; omega
        rw [e]; rfl
    have m2 : ref03_Most k b = tunnel_Most k b := by
      rw [Most_ok A]
      unfold ref03_Most
      rw [hrk', bind_s, show ((0 : Int) != 0) = false from rfl, cond_false, ref_most hlow hb, bind_s, ref_good hlow hb hm]; rfl
    have rl : ref03_lost k b = some (lostL b) := by
      unfold ref03_lost
      have h1 := lost_same hlow hb k 0 []
      have h2 := lost_lj2 hlow hb b.Frames.length 0 k (by omega) hk.frames
      simp only [List.range_zero, List.filter_nil, List.map_nil, Int.natCast_zero] at h1 h2
      rw [h1, h2]; rfl
    have l2 : ref03_Lost k b = tunnel_Lost k b := by
      rw [Lost_ok A]
      unfold ref03_Lost
      rw [hrk', bind_s, show ((0 : Int) != 0) = false from rfl, cond_false, rl]; rfl
    have c2 : ref03_Clash k b = tunnel_Clash k b := by
      unfold ref03_Clash tunnel_Clash
      have h1 := clash4_same hlow hb k 0
      rw [Int.natCast_zero] at h1
      rw [hrk', hck', bind_s, bind_s, show ((0 : Int) != 0) = false from rfl, cond_false, cond_false, rl, blost_eq hlow hb, bind_s, bind_s, h1]
      cases decide (((lostL b).length : Int) > 0)
      · rw [cond_false, cond_false]
        cases tunnel_Clash_lj4 k b k 0 with
        | none => rfl
        | some o => cases o <;> rfl
      · rfl
    have a1 : ref00_Alike k (mostS b) (mostS b) = some true := alike_self (by have := hm.len; omega) (by have := hm.len; unfold maxLen; omega)
    have a2 : ref00_Alike k (goodL b (mostS b)) (goodL b (mostS b)) = some true := alike_self (by omega) (by unfold maxLen; omega)
    have a3 : ref00_Alike k (lostL b) (lostL b) = some true := alike_self (by have := lostL_len b; omega) (by have := lostL_len b; unfold maxLen; omega)
    have c1 : ∃ r, tunnel_Clash k b = some r := by
      rcases Clash_ok A with ⟨_, h⟩ | ⟨_, ⟨p, q, h, _⟩ | ⟨h, _⟩⟩ <;> exact ⟨_, h⟩
    obtain ⟨rc, c1⟩ := c1
    unfold law03_TunnelBests
    rw [b2, m2, l2, c2, Best_ok A, Most_ok A, Lost_ok A, c1]
    by_cases h : manyS b (mostS b) = b.Frames.length
    · rw [if_pos h]
      simp only [bind_s, a1, a2, a3, Bool.not_true, cond_false, cond_true, bne_self_eq_false, beq_self_eq_true, hw]
    · rw [if_neg h]
      simp only [bind_s, hal0, a1, a2, a3, Bool.not_true, cond_false, cond_true, bne_self_eq_false, beq_self_eq_true, hw]
end Go.Lu
