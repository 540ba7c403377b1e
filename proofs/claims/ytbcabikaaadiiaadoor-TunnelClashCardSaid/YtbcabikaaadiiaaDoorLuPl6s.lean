/-
  Plain laws: a setting that numbers choose.
-/
import Derived.Test.YtbcabikaaadiiaaDoorLuPl6
namespace Go.Lu
open Go
set_option linter.unusedVariables false
set_option linter.unusedSimpArgs false

def itemV (l : List Int) (n : Int) : Int := if l.length = 0 then 0 else (nth l (spinV n l.length)).getD 0
theorem item_eq (k : Nat) {l : List Int} (hl : l.length ≤ maxLen) (n : Int) : ref00_Item k l n = some (itemV l n) := by
  have hm : maxLen = 9223372036854775807 := by unfold maxLen; omega
  unfold ref00_Item itemV
  by_cases h : l.length = 0
  · simp [h]
  · have e : ((l.length : Int) == 0) = false := by simpa using h
    have hle : (l.length : Int) ≤ 9223372036854775807 := by omega
    rw [e, cond_false, spin_eq k n hle, bind_s, if_neg h]
    have hpos : (1 : Int) ≤ (l.length : Int) := by omega
    obtain ⟨h1, h2⟩ := spinV_in (n := n) (m := (l.length : Int)) hpos
    obtain ⟨x, hx, _⟩ := nth_lt h1 h2
    rw [hx]; rfl

def settingV (b : TunnelBook) (bits : List Int) : List Int := (List.range b.Parts.length).map fun (p : Nat) => spinV (itemV bits p) 4
theorem settingV_ok (b : TunnelBook) (bits : List Int) : SetOk b.Parts.length (settingV b bits) := by
  refine ⟨by simp [settingV], fun x hx => ?_⟩
  obtain ⟨p, _, rfl⟩ := List.mem_map.1 hx
  have := spinV_in (n := itemV bits p) (m := 4) (by omega)
  omega
theorem setting_lj2 {k : Nat} {b : TunnelBook} {bits : List Int} (hb : b.Parts.length ≤ 4) (hl : bits.length ≤ maxLen) : ∀ (m i n : Nat), i + m = b.Parts.length → m < n →
    law03_setting_lj2 k b bits n (((List.range b.Parts.length).map fun (p : Nat) => spinV (itemV bits p) 4).take i) (i : Int) = some (settingV b bits)
  | 0, i, n + 1, h, _ => by
    have e : decide ((i : Int) < (b.Parts.length : Int)) = false := by simp; omega
    rw [law03_setting_lj2.eq_2, e, cond_false, List.take_of_length_le (by simp; omega)]; rfl
  | m + 1, i, n + 1, h, hn => by
    have e : decide ((i : Int) < (b.Parts.length : Int)) = true := by simp; omega
    rw [law03_setting_lj2.eq_2, e, cond_true, item_eq k hl, bind_s, spin_eq k _ (by omega), bind_s, app_eq (by simp; omega), bind_s, wrN (by unfold maxLen; omega)]
    have ih := setting_lj2 (k := k) hb hl m (i + 1) n (by omega) (by omega)
    rw [← ih]
    congr 1
    rw [List.take_succ_eq_append_getElem (by simp; omega)]
    simp
theorem setting_eq {k : Nat} {b : TunnelBook} {bits : List Int} (hb : b.Parts.length ≤ 4) (hk : 1000 ≤ k) (hl : bits.length ≤ maxLen) : law03_setting k b bits = some (settingV b bits) := by
  unfold law03_setting
  have := setting_lj2 (k := k) hb hl b.Parts.length 0 k (by omega) (by omega)
  simp only [List.take_zero, Int.natCast_zero] at this
  rw [this]; rfl

end Go.Lu
