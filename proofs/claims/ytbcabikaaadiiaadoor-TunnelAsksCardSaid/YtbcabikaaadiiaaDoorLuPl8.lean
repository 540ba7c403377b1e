/-
  Plain laws, eighth part: what comes before, what is alike; the example; fuel.
-/
import Derived.Test.YtbcabikaaadiiaaDoorLuPl7
import Derived.Test.YtbcabikaaadiiaaDoorLuW3
namespace Go.Lu
open Go
set_option linter.unusedVariables false
set_option linter.unusedSimpArgs false

theorem warmed_ok (n : Nat) : law03_warmed (n + 60) = some true := by kernel_rfl
theorem warmed_eq {k : Nat} (h : 1000 ≤ k) : law03_warmed k = some true := by
  obtain ⟨n, rfl⟩ : ∃ n, k = n + 60 := ⟨k - 60, by omega⟩
  exact warmed_ok n
theorem le_sum : ∀ {l : List Nat} {x : Nat}, x ∈ l → x ≤ l.sum
  | a :: l, x, h => by
    rcases List.mem_cons.1 h with rfl | h
    · simp
    · have := le_sum h; simp; omega
theorem fuel_of (b : TunnelBook) (m : Nat) : ∃ k, Fuel k b ∧ m < k := by
  refine ⟨1000 + b.Parts.length + b.Frames.length + (b.Frames.map (·.Stay.length)).sum + m + 1, ⟨by omega, by omega, by omega, fun f hf => ?_⟩, by omega⟩
  have := le_sum (List.mem_map.2 ⟨f, hf, rfl⟩ : f.Stay.length ∈ b.Frames.map (·.Stay.length))
  omega
theorem alike_lj3 (k : Nat) (l : List Int) (hl : l.length ≤ maxLen) : ∀ (m i n : Nat), i + m = l.length → m < n → ref00_Alike_lj3 k l l n (i : Int) = some (Sum.inr ())
  | 0, i, n + 1, h, _ => by
    have e : decide ((i : Int) < (l.length : Int)) = false := by simp; omega
    rw [ref00_Alike_lj3.eq_2, e]; rfl
  | m + 1, i, n + 1, h, hn => by
    have hi : i < l.length := by omega
    have e : decide ((i : Int) < (l.length : Int)) = true := by simp; omega
    rw [ref00_Alike_lj3.eq_2, e, cond_true, nth_nat, List.getElem?_eq_getElem hi, bind_s, bind_s, wrN (by omega)]
    have e2 : (l[i] != l[i]) = false := by simp
    rw [e2, cond_false]
    exact alike_lj3 k l hl m (i + 1) n (by omega) (by omega)
theorem alike_self {k : Nat} {l : List Int} (hk : l.length < k) (hl : l.length ≤ maxLen) : ref00_Alike k l l = some true := by
  unfold ref00_Alike
  have e : ((l.length : Int) != (l.length : Int)) = false := by simp
  have := alike_lj3 k l hl l.length 0 k (by omega) hk
  simp only [Int.natCast_zero] at this
  rw [e, cond_false, this]; rfl

theorem asks_of {k : Nat} {b : TunnelBook} (hk : 1000 ≤ k) (hb : BookOk b) : Asks k b := by
  have h4 := hb.four; have h5 := hb.five
  exact ⟨⟨by unfold maxLen; omega, fun p hp => (hb.part p hp).len, by unfold maxLen; omega, fun f hf => by have := (hb.frame f hf).len; unfold maxLen; omega⟩, ⟨hk, by omega, by omega, fun f hf => by have := (hb.frame f hf).len; omega⟩, hb⟩
end Go.Lu
