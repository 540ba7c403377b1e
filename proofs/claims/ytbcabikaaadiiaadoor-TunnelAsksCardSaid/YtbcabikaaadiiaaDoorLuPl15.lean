/-
  Plain laws, fifteenth part: the reference: all settings, the best one.
-/
import Derived.Test.YtbcabikaaadiiaaDoorLuPl14
namespace Go.Lu
open Go
set_option linter.unusedVariables false
set_option linter.unusedSimpArgs false

theorem plus_eq (k : Nat) {l : List Int} (hl : l.length ≤ 100) (n : Int) : ref00_Plus k l n = some (l ++ [n]) := by
 unfold ref00_Plus
 rw [app_eq (by simp; omega), bind_s, List.nil_append, app_eq (by simp; omega)]; rfl
theorem sets_len : ∀ n : Nat, (sets n).length = 4 ^ n
 | 0 => rfl
 | n + 1 => by simp [sets, sets_len n, Nat.pow_succ]; omega
theorem Sets_eq {b : TunnelBook} (h4 : b.Parts.length ≤ 4) : ∀ (m : Nat) (pre : List Int) (k : Nat), pre.length + m = b.Parts.length → m + 10 ≤ k → ref03_Sets k b pre = some ((sets m).map (pre ++ ·))
 | 0, pre, k + 1, h, hk => by
   have e : ((pre.length : Int) == (b.Parts.length : Int)) = true := by simp; omega
   rw [ref03_Sets.eq_2, e]; simp [sets]
 | m + 1, pre, k + 1, h, hk => by
   have e : ((pre.length : Int) == (b.Parts.length : Int)) = false := by simp; omega
   rw [ref03_Sets.eq_2, e, cond_false]
   have ih := fun c : Int => Sets_eq h4 m (pre ++ [c]) k (by simp; omega) (by omega)
   have hlen : (sets m).length ≤ 64 := by
     rw [sets_len]
     have : m = 0 ∨ m = 1 ∨ m = 2 ∨ m = 3 := by omega
     rcases this with rfl | rfl | rfl | rfl <;> decide
   have loop : ∀ (rem c0 n : Nat) (acc : List (List Int)), c0 + rem = 4 → rem < n → acc.length ≤ 64 * c0 → ref03_Sets_lj3 k (ref03_Sets k) b pre n acc (c0 : Int) =
       some (acc ++ (((List.range rem).map fun (i : Nat) => ((c0 + i : Nat) : Int)).flatMap fun (a : Int) => (sets m).map fun t => pre ++ a :: t)) := by
     intro rem
     induction rem with
     | zero =>
       intro c0 n acc h1 h2 h3
       obtain ⟨n, rfl⟩ : ∃ n', n = n' + 1 := ⟨n - 1, by omega⟩
       have e : decide ((c0 : Int) < 4) = false := by simp; omega
       rw [ref03_Sets_lj3.eq_2, e]; simp
     | succ rem ihr =>
       intro c0 n acc h1 h2 h3
       obtain ⟨n, rfl⟩ : ∃ n', n = n' + 1 := ⟨n - 1, by omega⟩
       have e : decide ((c0 : Int) < 4) = true := by simp; omega
       have e1 : (sets m).map (fun t => pre ++ [(c0 : Int)] ++ t) = (sets m).map fun t => pre ++ (c0 : Int) :: t := by simp
       rw [ref03_Sets_lj3.eq_2, e, cond_true, plus_eq k (by omega), bind_s, ih, bind_s, e1, app_eq (by simp; omega), bind_s, wrN (by unfold maxLen; omega), ihr (c0 + 1) n _ (by omega) (by omega) (by simp; omega), List.range_succ_eq_map, List.map_cons, List.flatMap_cons, List.map_map, List.append_assoc]
       have e2 : ((fun (i : Nat) => ((c0 + i : Nat) : Int)) ∘ Nat.succ) = fun (i : Nat) => ((c0 + 1 + i : Nat) : Int) := funext fun i => by simp only [Function.comp]; congr 1; omega
       rw [e2]; rfl
   have := loop 4 0 k [] (by omega) (by omega) (by simp)
   simp only [Int.natCast_zero, List.nil_append] at this
   rw [this, bind_s]
   have e3 : ((List.range 4).map fun (i : Nat) => ((0 + i : Nat) : Int)) = [0, 1, 2, 3] := by decide
   rw [e3]
   congr 1
   simp only [sets, List.map_flatMap, List.map_map]; rfl
theorem Sets_all {k : Nat} (hk : 1000 ≤ k) {b : TunnelBook} (hb : BookOk b) : ref03_Sets k b [] = some (sets b.Parts.length) := by
 have h4 := hb.four
 rw [Sets_eq h4 b.Parts.length [] k (by simp) (by omega)]; simp
theorem sets_le {b : TunnelBook} (hb : BookOk b) : (sets b.Parts.length).length ≤ 256 := by
 have h1 := hb.one; have h4 := hb.four
 rw [sets_len]
 have : b.Parts.length = 1 ∨ b.Parts.length = 2 ∨ b.Parts.length = 3 ∨ b.Parts.length = 4 := by omega
 rcases this with h | h | h | h <;> rw [h] <;> decide
theorem most_lj2 {k : Nat} (hk : 1000 ≤ k) {b : TunnelBook} (hb : BookOk b) {l : List (List Int)} (hl : l.length ≤ 256) (hs : ∀ s ∈ l, SetOk b.Parts.length s) : ∀ (m i n : Nat) (best : List Int), i + m = l.length → m < n → SetOk b.Parts.length best →
   ref03_most_lj2 k b l n best (i : Int) = pick (betterS b) (some best) (l.drop i)
 | 0, i, n + 1, best, h, _, _ => by
   have e : decide ((i : Int) < (l.length : Int)) = false := by simp; omega
   rw [ref03_most_lj2.eq_2, e, List.drop_of_length_le (by omega)]; rfl
 | m + 1, i, n + 1, best, h, hn, hbest => by
   have hi : i < l.length := by omega
   have e : decide ((i : Int) < (l.length : Int)) = true := by simp; omega
   have hsi := hs _ (List.getElem_mem hi)
   have n1 : nth l (i : Int) = some l[i] := by rw [nth_nat, List.getElem?_eq_getElem hi]
   have key : (bif decide (((goodL b l[i]).length : Int) > ((goodL b best).length : Int)) then some true else bif ((goodL b l[i]).length : Int) == ((goodL b best).length : Int) then (nth l (i : Int)).bind fun x7_11 => (ref03_heat k b x7_11).bind fun x7_13 => (ref03_heat k b best).bind fun x7_16 => some (decide (x7_13 < x7_16)) else some false) = some (betterS b l[i] best) := by
     rw [n1, bind_s, ref_heat hk hb hsi, bind_s, ref_heat hk hb hbest, bind_s]
     unfold betterS manyS
     cases decide (((goodL b l[i]).length : Int) > ((goodL b best).length : Int)) <;> cases (((goodL b l[i]).length : Int) == ((goodL b best).length : Int)) <;> rfl
   rw [ref03_most_lj2.eq_2, e, cond_true, n1, bind_s, ref_good hk hb hsi, bind_s, ref_good hk hb hbest, bind_s]
   rw [n1] at key
   rw [key, bind_s, wrN (by unfold maxLen; omega), bind_s, List.drop_eq_getElem_cons hi]
   show _ = pick (betterS b) (if betterS b l[i] best then some l[i] else some best) (l.drop (i + 1))
   cases betterS b l[i] best
   · exact most_lj2 hk hb hl hs m (i + 1) n best (by omega) (by omega) hbest
   · exact most_lj2 hk hb hl hs m (i + 1) n l[i] (by omega) (by omega) hsi
theorem ref_most {k : Nat} (hk : 1000 ≤ k) {b : TunnelBook} (hb : BookOk b) : ref03_most k b = some (mostS b) := by
 unfold ref03_most
 rw [Sets_all hk hb, bind_s]
 have hle := sets_le hb
 have hne := sets_ne b.Parts.length
 have hp := (mostS_pick b).1
 generalize hl : sets b.Parts.length = l at *
 cases l with
 | nil => exact absurd rfl hne
 | cons a t =>
   have hs : ∀ s ∈ a :: t, SetOk b.Parts.length s := fun s h => (mem_sets _ _).1 (by rw [hl]; exact h)
   have hlen : t.length + 1 ≤ 256 := by simpa using hle
   have := most_lj2 hk hb hle hs t.length 1 k a (by simp; omega) (by omega) (hs a (by simp))
   rw [show nth (a :: t) (0 : Int) = some a from rfl, bind_s]
   have this' : ref03_most_lj2 k b (a :: t) k a 1 = pick (betterS b) (some a) t := this
   have hp' : pick (betterS b) (some a) t = some (mostS b) := hp
   rw [this', hp']; rfl
end Go.Lu
