/-
  The law TunnelHotter, in plain Lean.
-/
import Derived.Test.YtbcabikaaadiiaaDoorLuG14x5
import Derived.Test.YtbcabikaaadiiaaDoorLuPl6
namespace Go.Lu
open Go
theorem warmed_ok (n : Nat) : law03_warmed (n + 60) = some true := by kernel_rfl
theorem warmed_eq {k : Nat} (h : 1000 ≤ k) : law03_warmed k = some true := by
  obtain ⟨n, rfl⟩ : ∃ n, k = n + 60 := ⟨k - 60, by omega⟩
  exact warmed_ok n
theorem le_sum : ∀ {l : List Nat} {x : Nat}, x ∈ l → x ≤ l.sum
  | a :: l, x, h => by
    rcases List.mem_cons.1 h with rfl | h
    · simp
    · have := le_sum h; simp; omega
theorem fuel_of (b : TunnelBook) (m : Nat) : ∃ k, Fuel k b ∧ m < k := by
  refine ⟨1000 + b.Parts.length + b.Frames.length + (b.Frames.map (·.Stay.length)).sum + m + 1, ⟨by omega, by omega, by omega, fun f hf => ?_⟩, by omega⟩
  have := le_sum (List.mem_map.2 ⟨f, hf, rfl⟩ : f.Stay.length ∈ b.Frames.map (·.Stay.length))
  omega
theorem spin_book {n : Int} {m : Nat} (h : 1 ≤ m) : ∃ j : Nat, spinV n m = j ∧ j < m := by
  have := spinV_in (n := n) (m := (m : Int)) (by omega)
  exact ⟨(spinV n m).toNat, by omega, by omega⟩
theorem askE_ok {b : TunnelBook} (hb : bookB b = true) {s : List Int} (hs : SetOk b.Parts.length s) {r : Bool} (hr : r = true) : askE b s r = 0 := by
  unfold askE; rw [hb, setB_iff.2 hs, hr]; rfl

theorem hotter_true (b : TunnelBook) (hf : Fits b) (bits : List Int) (hl : bits.length ≤ maxLen) (n : List Int) (hn : n.length = 2) : ∃ k, law03_TunnelHotter k b bits n = some true := by
  obtain ⟨k, hk, _⟩ := fuel_of b 0
  refine ⟨k, ?_⟩
  have hw := warmed_eq hk.low
  unfold law03_TunnelHotter
  rw [sound_eq hf hk, bind_s]
  cases hB : bookB b
  · simp only [Bool.not_false, cond_true, bind_s, hw]
  have hb := (bookB_iff hf.heat).1 hB
  simp only [Bool.not_true, cond_false, bind_s]
  cases h0 : ((b.Frames.length : Int) == 0)
  · have hfr : 1 ≤ b.Frames.length := by simp at h0; cases h : b.Frames with | nil => exact absurd h h0 | cons => simp
    obtain ⟨i, hi, hil⟩ := spin_book (n := n[0]'(by omega)) hfr
    obtain ⟨p, hp, hpl⟩ := spin_book (n := n[1]'(by omega)) hb.one
    have hfl : (b.Frames.length : Int) ≤ 9223372036854775807 := by have := hb.five; omega
    have hpl' : (b.Parts.length : Int) ≤ 9223372036854775807 := by have := hb.four; omega
    have hs := settingV_ok b bits
    have e0 : nth n (0 : Int) = some n[0] := by rw [show (0 : Int) = ((0 : Nat) : Int) from rfl, nth_nat]; simp
    have e1 : nth n (1 : Int) = some n[1] := by rw [show (1 : Int) = ((1 : Nat) : Int) from rfl, nth_nat]; simp
    have hsl := hs.len
    have h4 := hb.four
    have hps : p < (settingV b bits).length := by omega
    have e2 : nth (settingV b bits) (p : Int) = some (settingV b bits)[p] := by rw [nth_nat]; simp
    have hx := hs.in3 _ (List.getElem_mem hps)
    generalize hset : settingV b bits = s at *
    have hmin : 0 ≤ min 3 (IntKind.i64.wrap (s[p] + 1)) ∧ min 3 (IntKind.i64.wrap (s[p] + 1)) ≤ 3 ∧ s[p] ≤ min 3 (IntKind.i64.wrap (s[p] + 1)) := by
      rw [wr (by omega) (by omega)]; omega
    generalize hy : min 3 (IntKind.i64.wrap (s[p] + 1)) = y at hmin
    have hs2 : SetOk b.Parts.length (s.set p y) := ⟨by simpa using hsl, fun x hx => by
      rcases List.mem_or_eq_of_mem_set hx with h | h
      · exact hs.in3 x h
      · omega⟩
    have hup : Upper s (s.set p y) := Upper.set (by simp) hmin.2.2
    have hfm := List.getElem_mem hil
    have hq : (decide (0 ≤ (i : Int)) && decide ((i : Int) ≤ (b.Frames.length : Int) - 1)) = true := by simp; omega
    have hst : ∀ n ∈ (b.Frames[i]).Stay, 0 ≤ n := fun n hn => ((hb.frame _ hfm).stay n hn).1
    have u0 := Upper.sum false (ns := b.Frames[i].Stay) hup hb.part (fun x hx => (hs.in3 x hx).1) (fun x hx => (hs2.in3 x hx).2) hst
    have u1 := Upper.sum true (ns := b.Frames[i].Stay) hup hb.part (fun x hx => (hs.in3 x hx).1) (fun x hx => (hs2.in3 x hx).2) hst
    have u2 := Upper.heat hup hb.part (fun x hx => (hs.in3 x hx).1) (fun x hx => (hs2.in3 x hx).2)
    have a1 := askE_ok hB hs hq
    have a2 := askE_ok hB hs2 hq
    have a3 := askE_ok hB hs (r := true) rfl
    have a4 := askE_ok hB hs2 (r := true) rfl
    have hfi : nth b.Frames (i : Int) = some b.Frames[i] := by rw [nth_nat]; simp
    have d1 : tunnel_Dries k b s (i : Int) = some (drySpan b s b.Frames[i], 0) := by rw [Dries_eq hf hk, a1, hfi]; rfl
    have d2 : tunnel_Dries k b (s.set p y) (i : Int) = some (drySpan b (s.set p y) b.Frames[i], 0) := by rw [Dries_eq hf hk, a2, hfi]; rfl
    have d3 : tunnel_Heat k b s = some (heatS b s, 0) := by rw [Heat_eq hf hk, a3]; rfl
    have d4 : tunnel_Heat k b (s.set p y) = some (heatS b (s.set p y), 0) := by rw [Heat_eq hf hk, a4]; rfl
    have c1 : decide ((drySpan b (s.set p y) b.Frames[i]).Low ≥ (drySpan b s b.Frames[i]).Low) = true := decide_eq_true u0
    have c2 : decide ((drySpan b (s.set p y) b.Frames[i]).High ≥ (drySpan b s b.Frames[i]).High) = true := decide_eq_true u1
    have c3 : decide (heatS b (s.set p y) ≥ heatS b s) = true := decide_eq_true u2
    have eset : law03_setting k b bits = some s := by rw [setting_eq h4 hk.low hl, hset]
    simp only [cond_false, eset, bind_s, e0, e1, spin_eq k _ hfl, spin_eq k _ hpl', hi, hp, app_eq (l := ([] : List Int)) (m := s) (by simp; omega), List.nil_append, e2, Int.toNat_natCast, hy, d1, d2, d3, d4, c1, c2, c3, cond_true, hw]
    rfl
  · simp only [cond_true, hw, bind_s]
end Go.Lu
