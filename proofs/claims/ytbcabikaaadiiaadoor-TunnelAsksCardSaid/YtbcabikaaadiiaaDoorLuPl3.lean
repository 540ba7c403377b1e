/-
  Plain laws, third part: the best setting.
-/
import Derived.Test.YtbcabikaaadiiaaDoorLuPl2
namespace Go.Lu
open Go
set_option linter.unusedVariables false

def dryK (b : TunnelBook) (s : List Int) (k : Int) : Bool := ((nth b.Frames k).map (dryB b s)).getD false
theorem goodL_eq (b : TunnelBook) (s : List Int) : goodL b s = ((List.range b.Frames.length).map fun (k : Nat) => (k : Int)).filter (dryK b s) := by
  unfold goodL
  rw [List.filter_map]
  congr 1
theorem mem_good {b : TunnelBook} {s : List Int} {k : Int} : k ∈ goodL b s ↔ dryK b s k = true := by
  rw [goodL_eq, List.mem_filter]
  constructor
  · exact fun h => h.2
  · intro h
    refine ⟨?_, h⟩
    unfold dryK nth at h
    split at h
    · cases e : b.Frames[k.toNat]? with
      | none => rw [e] at h; cases h
      | some f =>
        have := (List.getElem?_eq_some_iff.1 e).1
        exact List.mem_map.2 ⟨k.toNat, List.mem_range.2 this, by omega⟩
    · cases h
theorem good_len_le (b : TunnelBook) (s : List Int) : (goodL b s).length ≤ b.Frames.length := by
  unfold goodL; rw [List.length_map]
  have := List.length_filter_le (fun (k : Nat) => ((b.Frames[k]?).map (dryB b s)).getD false) (List.range b.Frames.length)
  simpa using this
theorem good_all_iff (b : TunnelBook) (s : List Int) : (goodL b s).length = b.Frames.length ↔ ∀ k : Nat, k < b.Frames.length → dryK b s k = true := by
  rw [goodL_eq]
  constructor
  · intro h k hk
    have h1 : (((List.range b.Frames.length).map fun (k : Nat) => (k : Int)).filter (dryK b s)).length = ((List.range b.Frames.length).map fun (k : Nat) => (k : Int)).length := by simpa using h
    have := List.length_filter_eq_length_iff.1 h1 (k : Int) (List.mem_map.2 ⟨k, List.mem_range.2 hk, rfl⟩)
    exact this
  · intro h
    have : ((List.range b.Frames.length).map fun (k : Nat) => (k : Int)).filter (dryK b s) = ((List.range b.Frames.length).map fun (k : Nat) => (k : Int)) := by
      refine List.filter_eq_self.2 fun k hk => ?_
      obtain ⟨j, hj, rfl⟩ := List.mem_map.1 hk
      exact h j (List.mem_range.1 hj)
    rw [this]; simp

def manyS (b : TunnelBook) (s : List Int) : Int := (goodL b s).length
def betterS (b : TunnelBook) (s t : List Int) : Bool := decide (manyS b s > manyS b t) || (manyS b s == manyS b t && decide (heatS b s < heatS b t))
theorem ordS (b : TunnelBook) : Ord (betterS b) := by
  refine ⟨fun a => ?_, fun a c d h k => ?_, fun a c d h k => ?_⟩
  · simp [betterS]
  · simp [betterS] at h k ⊢; omega
  · simp [betterS] at h k ⊢; omega
theorem sets_ne (n : Nat) : sets n ≠ [] := by
  intro h
  have : List.replicate n 0 ∈ sets n := (mem_sets n _).2 ⟨by simp, fun x hx => by have := List.eq_of_mem_replicate hx; omega⟩
  rw [h] at this; cases this
def mostS (b : TunnelBook) : List Int := (pick (betterS b) none (sets b.Parts.length)).getD []
theorem mostS_pick (b : TunnelBook) : pick (betterS b) none (sets b.Parts.length) = some (mostS b) ∧ First (betterS b) (sets b.Parts.length) (mostS b) := by
  rcases pick_none (ordS b) (sets b.Parts.length) with ⟨h, _⟩ | ⟨r, h, k⟩
  · exact absurd h (sets_ne _)
  · have : mostS b = r := by simp [mostS, h]
    rw [this]; exact ⟨h, k⟩
theorem mostS_ok (b : TunnelBook) : SetOk b.Parts.length (mostS b) := (mem_sets _ _).1 (mostS_pick b).2.mem
theorem mostS_best (b : TunnelBook) {s : List Int} (hs : SetOk b.Parts.length s) : betterS b s (mostS b) = false := (mostS_pick b).2.best (ordS b) s ((mem_sets _ _).2 hs)
theorem mostS_many (b : TunnelBook) {s : List Int} (hs : SetOk b.Parts.length s) : manyS b s ≤ manyS b (mostS b) := by
  have := mostS_best b hs; simp [betterS] at this; omega

/-- The best of the settings that dry some frames. -/
def bestS (b : TunnelBook) (ks : List Int) : Option (List Int) := pick (betterS b) none ((sets b.Parts.length).filter fun s => ks.all fun k => dryK b s k)
theorem bestS_nil (b : TunnelBook) : bestS b [] = some (mostS b) := by
  have : (sets b.Parts.length).filter (fun s => ([] : List Int).all fun k => dryK b s k) = sets b.Parts.length := List.filter_eq_self.2 fun _ _ => rfl
  unfold bestS; rw [this]; exact (mostS_pick b).1
theorem bestS_none {b : TunnelBook} {ks : List Int} : bestS b ks = none ↔ ∀ s, SetOk b.Parts.length s → ∃ k ∈ ks, dryK b s k = false := by
  unfold bestS
  rcases pick_none (ordS b) ((sets b.Parts.length).filter fun s => ks.all fun k => dryK b s k) with ⟨h, e⟩ | ⟨r, e, k⟩
  · rw [e]
    refine ⟨fun _ s hs => ?_, fun _ => rfl⟩
    have := List.filter_eq_nil_iff.1 h s ((mem_sets _ _).2 hs)
    simpa using this
  · rw [e]
    refine ⟨fun h => (by cases h), fun h => ?_⟩
    have hm := List.mem_filter.1 k.mem
    obtain ⟨x, hx, hd⟩ := h r ((mem_sets _ _).1 hm.1)
    have := List.all_eq_true.1 hm.2 x hx
    rw [hd] at this; cases this
theorem bestS_some {b : TunnelBook} {ks : List Int} {s : List Int} (h : bestS b ks = some s) : SetOk b.Parts.length s ∧ (∀ k ∈ ks, dryK b s k = true) ∧ First (betterS b) ((sets b.Parts.length).filter fun s => ks.all fun k => dryK b s k) s := by
  unfold bestS at h
  rcases pick_none (ordS b) ((sets b.Parts.length).filter fun s => ks.all fun k => dryK b s k) with ⟨_, e⟩ | ⟨r, e, k⟩
  · rw [e] at h; cases h
  · rw [e] at h; cases h
    have hm := List.mem_filter.1 k.mem
    exact ⟨(mem_sets _ _).1 hm.1, fun x hx => List.all_eq_true.1 hm.2 x hx, k⟩
def allK (b : TunnelBook) : List Int := (List.range b.Frames.length).map fun (k : Nat) => (k : Int)
theorem all_dry_iff (b : TunnelBook) (s : List Int) : (∀ k ∈ allK b, dryK b s k = true) ↔ manyS b s = b.Frames.length := by
  have h := good_all_iff b s
  unfold manyS
  constructor
  · intro hk
    have := h.2 fun k hk' => hk k (List.mem_map.2 ⟨k, List.mem_range.2 hk', rfl⟩)
    omega
  · intro e k hk
    obtain ⟨j, hj, rfl⟩ := List.mem_map.1 hk
    exact h.1 (by omega) j (List.mem_range.1 hj)
/-- The best setting for all frames is the best setting for the most, if that dries all. -/
theorem bestS_all (b : TunnelBook) : bestS b (allK b) = if manyS b (mostS b) = b.Frames.length then some (mostS b) else none := by
  by_cases h : manyS b (mostS b) = b.Frames.length
  · rw [if_pos h]
    cases e : bestS b (allK b) with
    | none =>
      obtain ⟨k, hk, hd⟩ := bestS_none.1 e _ (mostS_ok b)
      rw [(all_dry_iff b _).2 h k hk] at hd; cases hd
    | some s =>
      have h1 := (bestS_some e).2.2
      have h2 := (mostS_pick b).2.filter (f := fun s => (allK b).all fun k => dryK b s k) (List.all_eq_true.2 fun k hk => (all_dry_iff b _).2 h k hk)
      rw [h1.unique (ordS b) h2]
  · rw [if_neg h]
    refine bestS_none.2 fun s hs => ?_
    have h1 := mostS_many b hs
    have h2 : manyS b (mostS b) ≤ b.Frames.length := by unfold manyS; have := good_len_le b (mostS b); omega
    by_cases hk : ∀ k ∈ allK b, dryK b s k = true
    · have := (all_dry_iff b s).1 hk; omega
    · obtain ⟨k, hk1⟩ := Classical.not_forall.1 hk
      obtain ⟨hk1, hk2⟩ := Classical.not_imp.1 hk1
      exact ⟨k, hk1, by simpa using hk2⟩
end Go.Lu
