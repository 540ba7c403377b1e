/-
  Joining, first part: what the row says of an argument, opened as a datum in frozen memory.
-/
import Derived.Test.YtbcabikaaadiiaaDoorLuCore3
import Derived.ChangeArms
import Derived.OpenShut
import Derived.ProofKit
namespace Go.Lu
open Go
set_option linter.unusedVariables false

def hpOf (w : World) : Hp := fun r => w.heap[r]?
theorem sub_hpOf (w : World) : Sub (hpOf w) w := fun _ _ h => h

section
variable {X : Type} {P : Program}
/-- Each value that the row's walk finds at type T is a datum of α, that G holds of. -/
def Opn (P : Program) (T : TypeId) (α : Type) [Rp α] (G : α → Prop) : Prop :=
  ∀ ⦃X : Type⦄ ⦃enc : TypeId × Value → X⦄ ⦃w : World⦄ ⦃sp : Nat → Bool⦄ ⦃held : Bool⦄ ⦃fuel : Nat⦄ ⦃cs : List Value⦄ ⦃x : DataW X × List MemPlace⦄, DataW.trod enc P w 0 sp held fuel T cs = some x → ∃ a : α, Rp.rep (hpOf w) cs a ∧ G a

theorem opn_int {T : TypeId} (ht : P.underlying T = some (.int .i64)) : Opn P T Int (fun n => (Lit.int .i64 n).wf = true) := fun X enc w sp held fuel cs x h => by
  obtain ⟨n, rfl, _, hw⟩ := DataW.trod_int ht h
  exact ⟨n, rfl, hw⟩

theorem cells_at {w : World} {a : Addr} {n : Nat} {cs : List Value} (hn : 0 < n) (h : w.cells? 0 a n = some cs) : ∃ c T fr, a.spot = none ∧ w.heap[a.block]? = some (.cells c T fr) ∧ cs.length = n ∧ ∀ i, i < n → c[a.off + i]? = cs[i]? := by
  unfold World.cells? at h
  rw [if_pos (Nat.zero_le _)] at h
  have hl : cs.length = n := by simpa using mapM_some_length h
  have hg : ∀ i, i < n → w.cell? (a.add i) = cs[i]? := fun i hi => mapM_some_get h i i (by simp [hi])
  have h0 := hg 0 hn
  rw [show a.add 0 = a from rfl] at h0
  have hc : cs[0]? = some cs[0] := by simp
  rw [hc] at h0
  unfold World.cell? at h0
  split at h0
  · next c T fr hb =>
    split at h0
    · cases h0
    · next hs =>
      have hs' : a.spot = none := by simpa using hs
      refine ⟨c, T, fr, hs', hb, hl, fun i hi => ?_⟩
      have := hg i hi
      rw [addr_eta hs', add_plain'] at this
      unfold World.cell? at this
      simp only [hb] at this
      simpa using this
  · cases h0

theorem repL_of {α : Type} [Rp α] {w : World} {c : Array Value} {off : Nat} : ∀ (n : Nat) (css : List (List Value)) (l : List α), css.length = n → l.length = n → (∀ i (h1 : i < css.length) (h2 : i < l.length), Rp.rep (hpOf w) css[i] l[i]) → RepL (hpOf w) css.flatten l
  | 0, css, l, h1, h2, _ => by
    rw [List.length_eq_zero_iff.1 h1, List.length_eq_zero_iff.1 h2]; exact .nil
  | n + 1, c :: css, x :: l, h1, h2, h => by
    rw [List.flatten_cons]
    exact .cons (h 0 (by simp) (by simp)) (repL_of (c := #[]) (off := 0) n css l (by simpa using h1) (by simpa using h2) fun i a b => h (i + 1) (Nat.succ_lt_succ a) (Nat.succ_lt_succ b))

/-- Choice, for a list of a length. -/
theorem pickL {α : Type} {Q : Nat → α → Prop} : ∀ (n : Nat), (∀ i, i < n → ∃ a, Q i a) → ∃ l : List α, l.length = n ∧ ∀ i (h : i < l.length), Q i l[i]
  | 0, _ => ⟨[], rfl, fun i h => by simp at h⟩
  | n + 1, h => by
    obtain ⟨l, hl, hq⟩ := pickL n fun i hi => h i (by omega)
    obtain ⟨a, ha⟩ := h n (by omega)
    refine ⟨l ++ [a], by simp [hl], fun i hi => ?_⟩
    by_cases e : i < l.length
    · rw [List.getElem_append_left e]; exact hq i e
    · have : i = n := by simp at hi; omega
      subst this
      rw [List.getElem_append_right (by omega)]; simpa [hl] using ha

theorem opn_arr {n : Nat} {T e : TypeId} {α : Type} [Rp α] {G : α → Prop} (ht : P.underlying T = some (.array n e)) (hs : P.cellsOf e = Rp.sz α) (hT : P.cellsOf T = n * Rp.sz α) (ho : Opn P e α G) :
    Opn P T (Arr n α) (fun l => ∀ x ∈ (show List α from l), G x) := fun X enc w sp held fuel cs x h => by
  obtain ⟨xs, m, _, _, hl, hxl, hx⟩ := DataW.trod_array ht h
  have h1 : ∀ i, i < n → ∃ a : α, Rp.rep (hpOf w) ((cs.drop (i * Rp.sz α)).take (Rp.sz α)) a ∧ G a := fun i hi => by
    have := hx i hi
    rw [hs, List.getElem?_eq_getElem (by omega)] at this
    exact ho this
  obtain ⟨l, hll, hq⟩ := pickL n h1
  have e : cs = ((List.range n).map fun i => (cs.drop (i * Rp.sz α)).take (Rp.sz α)).flatten := by
    clear hq hll h1 hx hxl h
    rw [hT] at hl
    clear ht hs hT ho
    induction n generalizing cs with
    | zero => simp at hl; simp [hl]
    | succ n ih =>
      rw [List.range_succ_eq_map, List.map_cons, List.flatten_cons, List.map_map]
      have h2 := ih (cs := cs.drop (Rp.sz α)) (by rw [List.length_drop, hl, Nat.add_mul]; omega)
      have h3 : (fun i => ((cs.drop (Rp.sz α)).drop (i * Rp.sz α)).take (Rp.sz α)) = ((fun i => (cs.drop (i * Rp.sz α)).take (Rp.sz α)) ∘ Nat.succ) := funext fun i => by
        simp only [Function.comp, List.drop_drop]; congr 2; rw [Nat.succ_eq_add_one, Nat.add_mul]; omega
      rw [h3] at h2
      rw [← h2]; simp
  refine ⟨(show List α from l), ⟨?_, hll⟩, fun x hx' => ?_⟩
  · rw [e]
    refine repL_of (c := #[]) (off := 0) n _ _ (by simp) hll fun i a b => ?_
    simpa using (hq i b).1
  · obtain ⟨i, hi, rfl⟩ := List.getElem_of_mem hx'
    exact (hq i hi).2

theorem opn_slice {T e : TypeId} {α : Type} [Rp α] {G : α → Prop} (ht : P.underlying T = some (.slice e)) (hs : P.cellsOf e = Rp.sz α) (h0 : 0 < Rp.sz α) (ho : Opn P e α G) :
    Opn P T (List α) (fun l => l.length ≤ maxLen ∧ ∀ x ∈ l, G x) := fun X enc w sp held fuel cs x h => by
  rcases DataW.trod_slice ht h with ⟨rfl, _⟩ | ⟨a, len, cap, elems, rest, n, _, rfl, _, _, hlc, hcm, hel, hx, _, _⟩
  · exact ⟨([] : List α), ⟨_, rfl, .inl ⟨rfl, none, 0, rfl⟩⟩, by simp, by simp⟩
  by_cases hz : len = 0
  · subst hz
    exact ⟨([] : List α), ⟨_, rfl, .inl ⟨rfl, some a, cap, rfl⟩⟩, by simp, by simp⟩
  rw [hs] at hx
  have hcell : ∀ i, i < len → ∃ ds, w.cells? 0 (a.add (i * Rp.sz α)) (Rp.sz α) = some ds ∧ ∃ x : α, Rp.rep (hpOf w) ds x ∧ G x := fun i hi => by
    have := hx i hi
    rw [List.getElem?_eq_getElem (by omega)] at this
    obtain ⟨ds, h1, h2⟩ := Option.bind_eq_some_iff.1 this
    exact ⟨ds, h1, ho h2⟩
  obtain ⟨ds0, hd0, _⟩ := hcell 0 (by omega)
  rw [Nat.zero_mul, show a.add 0 = a from rfl] at hd0
  obtain ⟨c, T', fr, hsp, hb, _, _⟩ := cells_at h0 hd0
  obtain ⟨css, hcl, hcq⟩ := pickL len hcell
  obtain ⟨l, hll, hq⟩ := pickL (Q := fun i (x : α) => ∃ h : i < css.length, Rp.rep (hpOf w) css[i] x ∧ G x) len fun i hi => by
    obtain ⟨_, x, h1, h2⟩ := hcq i (by omega)
    exact ⟨x, by omega, h1, h2⟩
  have hat : ∀ i (hi : i < css.length), css[i].length = Rp.sz α ∧ ∀ j, j < Rp.sz α → c[a.off + i * Rp.sz α + j]? = css[i][j]? := fun i hi => by
    obtain ⟨h1, _⟩ := hcq i hi
    rw [addr_eta hsp, add_plain'] at h1
    obtain ⟨c', T2, fr2, _, hb', hl', hj⟩ := cells_at h0 h1
    simp only at hb' hj
    rw [hb] at hb'; cases hb'
    exact ⟨hl', hj⟩
  have hfl : ∀ (k : Nat) (ys : List (List Value)), ys.length = k → (∀ i (hi : i < ys.length), ys[i].length = Rp.sz α) → ys.flatten.length = k * Rp.sz α ∧ ∀ i (hi : i < ys.length) j, j < Rp.sz α → ys.flatten[i * Rp.sz α + j]? = ys[i][j]? := by
    intro k
    induction k with
    | zero => intro ys h1 h2; rw [List.length_eq_zero_iff.1 h1]; exact ⟨by simp, fun i hi => by simp at hi⟩
    | succ k ih =>
      intro ys h1 h2
      cases ys with
      | nil => simp at h1
      | cons y ys =>
        obtain ⟨h3, h4⟩ := ih ys (by simpa using h1) fun i hi => h2 (i + 1) (Nat.succ_lt_succ hi)
        have hy : y.length = Rp.sz α := h2 0 (Nat.zero_lt_succ _)
        refine ⟨by simp [h3, hy, Nat.add_mul]; omega, fun i hi j hj => ?_⟩
        rw [List.flatten_cons]
        cases i with
        | zero => rw [Nat.zero_mul, Nat.zero_add, List.getElem?_append_left (by omega)]; rfl
        | succ i =>
          have e1 : (i + 1) * Rp.sz α + j = y.length + (i * Rp.sz α + j) := by rw [Nat.add_mul, hy]; omega
          rw [e1, List.getElem?_append_right (by omega), Nat.add_sub_cancel_left]
          simpa using h4 i (by simpa using hi) j hj
  obtain ⟨hfl1, hfl2⟩ := hfl len css hcl fun i hi => (hat i hi).1
  have hget : ∀ t, t < len * Rp.sz α → c[a.off + t]? = css.flatten[t]? := fun t ht' => by
    have hd : t / Rp.sz α < len := Nat.div_lt_of_lt_mul (by rw [Nat.mul_comm]; exact ht')
    have hm : t % Rp.sz α < Rp.sz α := Nat.mod_lt _ h0
    have e1 : t / Rp.sz α * Rp.sz α + t % Rp.sz α = t := by rw [Nat.mul_comm]; exact Nat.div_add_mod _ _
    have h1 := hfl2 (t / Rp.sz α) (by omega) _ hm
    have h2 := (hat (t / Rp.sz α) (by omega)).2 _ hm
    rw [e1] at h1
    rw [h1, ← h2, Nat.add_assoc, e1]
  have hpos : 0 < len * Rp.sz α := Nat.mul_pos (by omega) h0
  have hsize : a.off + len * Rp.sz α ≤ c.size := by
    have := hget (len * Rp.sz α - 1) (by omega)
    rw [List.getElem?_eq_getElem (by omega)] at this
    have := (Array.getElem?_eq_some_iff.1 this).1
    omega
  have hc : c = (c.toList.take a.off ++ css.flatten ++ c.toList.drop (a.off + len * Rp.sz α)).toArray := by
    apply Array.ext'
    show c.toList = c.toList.take a.off ++ css.flatten ++ c.toList.drop (a.off + len * Rp.sz α)
    apply List.ext_getElem?
    intro t
    have hls : c.toList.length = c.size := by simp
    by_cases h1 : t < a.off
    · rw [List.append_assoc, List.getElem?_append_left (by simp; omega), List.getElem?_take_of_lt h1]
    by_cases h2 : t < a.off + len * Rp.sz α
    · have h3 := hget (t - a.off) (by omega)
      rw [List.getElem?_append_left (by simp [hfl1]; omega), List.getElem?_append_right (by simp; omega)]
      have e : (c.toList.take a.off).length = a.off := by simp; omega
      rw [e, ← h3, show a.off + (t - a.off) = t by omega]; simp
    · have e : (c.toList.take a.off ++ css.flatten).length = a.off + len * Rp.sz α := by simp [hfl1]; omega
      rw [List.getElem?_append_right (by omega), e, List.getElem?_drop, show a.off + len * Rp.sz α + (t - (a.off + len * Rp.sz α)) = t by omega]
  refine ⟨l, ⟨_, rfl, .inr ⟨a.block, cap, c.toList.take a.off, css.flatten, c.toList.drop (a.off + len * Rp.sz α), T', fr, ?_, by omega, ?_, ?_⟩⟩, by rw [hll]; omega, fun x hx' => ?_⟩
  · have e : (c.toList.take a.off).length = a.off := by simp; omega
    rw [e, hll, ← addr_eta hsp]
  · show w.heap[a.block]? = _
    rw [hb, ← hc]
  · exact repL_of (c := #[]) (off := 0) len css l hcl hll fun i h1 h2 => (hq i h2).2.1
  · obtain ⟨i, hi, rfl⟩ := List.getElem_of_mem hx'
    exact (hq i hi).2.2

theorem opn_pair {T t1 t2 : TypeId} {f0 f1 : Field} {α β : Type} [Rp α] [Rp β] {G : α → Prop} {G' : β → Prop} (ht : P.underlying T = some (.struct #[f0, f1])) (e0 : f0.type = t1) (e1 : f1.type = t2) (o0 : f0.offset = 0) (o1 : f1.offset = Rp.sz α)
    (s1 : P.cellsOf t1 = Rp.sz α) (s2 : P.cellsOf t2 = Rp.sz β) (hT : P.cellsOf T = Rp.sz α + Rp.sz β) (h1 : Opn P t1 α G) (h2 : Opn P t2 β G') : Opn P T (α × β) (fun x => G x.1 ∧ G' x.2) := fun X enc w sp held fuel cs x h => by
  subst e0; subst e1
  obtain ⟨xs, n, _, _, hl, hxl, hx⟩ := DataW.trod_struct ht h
  have a0 := hx 0 f0 rfl
  have a1 := hx 1 f1 rfl
  rw [o0, s1, List.getElem?_eq_getElem (by simp at hxl; omega)] at a0
  rw [o1, s2, List.getElem?_eq_getElem (by simp at hxl; omega)] at a1
  obtain ⟨a, ha, ga⟩ := h1 a0
  obtain ⟨b, hb, gb⟩ := h2 a1
  refine ⟨(a, b), ⟨(cs.drop 0).take (Rp.sz α), (cs.drop (Rp.sz α)).take (Rp.sz β), ?_, ha, hb⟩, ga, gb⟩
  rw [List.drop_zero, List.take_of_length_le (l := cs.drop (Rp.sz α)) (by simp; omega), List.take_append_drop]
end
end Go.Lu
