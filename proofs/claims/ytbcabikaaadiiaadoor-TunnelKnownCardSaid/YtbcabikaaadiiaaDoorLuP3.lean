/-
  Arrays in boxes, own rows written in place, a slice of an array, zeroed slices.
-/
import Derived.Test.YtbcabikaaadiiaaDoorLuP2
namespace Go.Lu
open Go Go.Proofs
set_option maxRecDepth 100000
set_option linter.unusedVariables false

def setNth {α : Type} (l : List α) (i : Int) (x : α) : Option (List α) := if 0 ≤ i ∧ i < (l.length : Int) then some (l.set i.toNat x) else none
theorem setNth_some {α : Type} {l m : List α} {i : Int} {x : α} (h : setNth l i x = some m) : 0 ≤ i ∧ i < (l.length : Int) ∧ m = l.set i.toNat x := by
  unfold setNth at h
  split at h
  · rename_i hi; cases h; exact ⟨hi.1, hi.2, rfl⟩
  · cases h

/-- A piece of n cells from fo on is written over: what was s is s'. -/
structure Put (α : Type) [Rp α] (H : Hp) (fo n : Nat) (ds : List Value) (s s' : α) : Prop where
  le : fo + n ≤ Rp.sz α
  len : ds.length = n
  put : ∀ ecs, Rp.rep H ecs s → Rp.rep H (ecs.take fo ++ ds ++ ecs.drop (fo + n)) s'

theorem Put.here {α : Type} [Rp α] {H : Hp} {ds : List Value} {s v : α} (h : Rp.rep H ds v) : Put α H 0 (Rp.sz α) ds s v :=
  ⟨by omega, Rp.len h, fun ecs he => by rw [List.take_zero, List.drop_of_length_le (by rw [Rp.len he]; omega)]; simpa using h⟩
theorem Put.fst {α β : Type} [Rp α] [Rp β] {H : Hp} {fo n : Nat} {ds : List Value} {a a' : α} {b : β} (h : Put α H fo n ds a a') : Put (α × β) H fo n ds (a, b) (a', b) :=
  ⟨Nat.le_trans h.le (Nat.le_add_right _ _), h.len, fun ecs ⟨c, d, e, hc, hd⟩ => by
    subst e
    have hl := Rp.len hc
    have hle := h.le
    refine ⟨_, d, ?_, h.put c hc, hd⟩
    rw [List.take_append_of_le_length (by omega), List.drop_append_of_le_length (by omega)]; simp⟩
theorem Put.snd {α β : Type} [Rp α] [Rp β] {H : Hp} {fo n : Nat} {ds : List Value} {a : α} {b b' : β} (h : Put β H fo n ds b b') : Put (α × β) H (Rp.sz α + fo) n ds (a, b) (a, b') :=
  ⟨by have := h.le; show _ ≤ Rp.sz α + Rp.sz β; omega, h.len, fun ecs ⟨c, d, e, hc, hd⟩ => by
    subst e
    have hl := Rp.len hc
    refine ⟨c, _, ?_, hc, h.put d hd⟩
    rw [← hl, List.take_length_add_append, Nat.add_assoc, List.drop_length_add_append]; simp⟩

theorem RepL.putN {α : Type} [Rp α] {H : Hp} {fo n : Nat} {ds : List Value} {e' : α} {cs : List Value} {l : List α} (h : RepL H cs l) : ∀ (i : Nat) (hi : i < l.length), Put α H fo n ds l[i] e' →
    RepL H (cs.take (i * Rp.sz α + fo) ++ ds ++ cs.drop (i * Rp.sz α + fo + n)) (l.set i e') := by
  induction h with
  | nil => intro i hi; simp at hi
  | @cons c cs x l hx t ih =>
    intro i hi hp
    have hl := Rp.len hx
    have hle := hp.le
    cases i with
    | zero =>
      rw [Nat.zero_mul, Nat.zero_add, List.take_append_of_le_length (by omega), List.drop_append_of_le_length (by omega), ← List.append_assoc]
      exact .cons (hp.put c hx) t
    | succ i =>
      have := ih i (by simpa using hi) hp
      rw [show (i + 1) * Rp.sz α + fo = c.length + (i * Rp.sz α + fo) by rw [hl, Nat.add_mul]; omega, List.take_length_add_append, Nat.add_assoc c.length, List.drop_length_add_append, List.append_assoc, List.append_assoc]
      rw [List.append_assoc] at this
      exact .cons hx this

/-- The same, of the elements of a row. -/
structure PutL (α : Type) [Rp α] (H : Hp) (fo n : Nat) (ds : List Value) (l l' : List α) : Prop where
  len : ds.length = n
  le : fo + n ≤ l.length * Rp.sz α
  put : ∀ cs, RepL H cs l → RepL H (cs.take fo ++ ds ++ cs.drop (fo + n)) l'
  same : l'.length = l.length

theorem PutL.at {α : Type} [Rp α] {H : Hp} {fo n : Nat} {ds : List Value} {l : List α} {i : Int} {e e' : α} (sz : Nat) (hz : Rp.sz α = sz) (hi : nth l i = some e) (h : Put α H fo n ds e e') : PutL α H (i.toNat * sz + fo) n ds l (l.set i.toNat e') := by
  subst hz
  obtain ⟨h0, h1, hlt, rfl⟩ := nth_some hi
  refine ⟨h.len, ?_, fun cs hc => hc.putN i.toNat hlt h, by simp⟩
  have := h.le
  have h2 : (i.toNat + 1) * Rp.sz α ≤ l.length * Rp.sz α := Nat.mul_le_mul_right _ hlt
  rw [Nat.add_mul, Nat.one_mul] at h2; omega

theorem Put.arr {α : Type} [Rp α] {k : Nat} {H : Hp} {fo n : Nat} {ds : List Value} {l : List α} {i : Int} {e e' : α} (sz : Nat) (hz : Rp.sz α = sz) (hl : l.length = k) (hi : nth l i = some e) (h : Put α H fo n ds e e') : Put (Arr k α) H (i.toNat * sz + fo) n ds l (l.set i.toNat e') := by
  have := PutL.at sz hz hi h
  exact ⟨by have := this.le; rw [hl] at this; exact this, this.len, fun ecs he => ⟨this.put ecs he.1, by rw [this.same]; exact hl⟩⟩

section
variable {P : Program} {r : Option Nat} {N : Nat} {D : List Deferred} {K : Kp} {E : Env} {H : Hp} {L : List Ass} {ops : Array Oper} {Q : Exit → Act → World → Prop} {C : Act → World → Prop}
variable {dst : Option Tmp} {ty : TypeId} {pos : String} {aft : Array Edge} {g : Option (Nat × Bool)} {dd : Nat} {G : World → Prop}

/-- A store into a box that holds a datum. -/
theorem e_storeIn {α : Type} [Rp α] {T T0 b o i : Nat} {d : TypeDesc} {sz bt : Nat} {z v : Value} {x y : Operand} {cs ds : List Value} {s s' : α} (hw : Wn ops E g) (ht : Ty P T d sz z bt) (hx : ev E x = some (.pointer (some ⟨b, o, none⟩))) (hy : ev E y = some v) (hi : L[i]? = some (.box b cs T0))
    (hv : v.cells.toList = ds) (h1 : ∀ v ∈ ds, cell1 v = true) (hr : Rp.rep H cs s) (hp : Put α H o sz ds s s')
    (k : ∀ cs', Rp.rep H cs' s' → At N D K E H (L.set i (.box b cs' T0)) C) : At N D K E H L (uOp P r ops Q ⟨none, .store T x y, ty, pos, aft, g⟩ C) :=
  e_store hw ht hx hy hi hv hp.len h1 (by rw [Rp.len hr]; exact hp.le) rfl (k _ (hp.put cs hr))

/-- A row that holds something lies in a block of its own, from its first cell on. -/
theorem a_rowplace {α : Type} [Rp α] {i T : Nat} {sz : Nat} {v : Value} {cs : List Value} {l : List α} {j : Int} {e : α} (hz : Rp.sz α = sz) (h0 : Nat.blt 0 sz = true) (hi : L[i]? = some (.row v cs T sz)) (hr : RepL H cs l) (hj : nth l j = some e)
    (k : ∀ b c, v = .slice (some ⟨b, 0, none⟩) l.length c → At N D K E H L C) : At N D K E H L C := fun a w ha hs => by
  subst hz
  have hz' : 0 < Rp.sz α := Nat.le_of_ble_eq_true h0
  obtain ⟨_, _, hlt, _⟩ := nth_some hj
  have hlen := hr.len
  rcases hs.ok _ (List.mem_of_getElem? hi) with ⟨x, rfl, rfl⟩ | ⟨b, n, cap, junk, rfl, hc0, hn, hl, hjk, hb⟩
  · exfalso
    have : l.length * Rp.sz α = 0 := by simpa using hlen.symm
    rcases Nat.mul_eq_zero.1 this with h | h <;> omega
  · have : n = l.length := by rw [hl] at hlen; exact Nat.eq_of_mul_eq_mul_right hz' hlen
    subst this
    exact k b cap rfl a w ha hs

/-- A store into an own row, as cells. -/
theorem e_storeRowRaw {T T0 b o i sz n c : Nat} {d : TypeDesc} {szT bt : Nat} {z u : Value} {x y : Operand} {cs ds : List Value} (hw : Wn ops E g) (ht : Ty P T d szT z bt) (hx : ev E x = some (.pointer (some ⟨b, o, none⟩))) (hy : ev E y = some u) (hi : L[i]? = some (.row (.slice (some ⟨b, 0, none⟩) n c) cs T0 sz))
    (hv : u.cells.toList = ds) (hds : ds.length = szT) (h1 : ∀ v ∈ ds, cell1 v = true) (hle : o + szT ≤ cs.length) (hpos : 0 < szT)
    (k : At N D K E H (L.set i (.row (.slice (some ⟨b, 0, none⟩) n c) (cs.take o ++ ds ++ cs.drop (o + szT)) T0 sz)) C) : At N D K E H L (uOp P r ops Q ⟨none, .store T x y, ty, pos, aft, g⟩ C) := by
  refine e_skip hw rfl fun a w ha hs => ?_
  have hmem := List.mem_of_getElem? hi
  rcases hs.ok _ hmem with ⟨x', e', rfl⟩ | ⟨b', n', cap, junk, e', hc0, hn, hl, hjk, hb⟩
  · exfalso; simp at hle; omega
  simp at e'
  obtain ⟨rfl, rfl, rfl⟩ := e'
  obtain ⟨w', hr, hb', hsz, hoth, hio⟩ := run_storeCells (P := P) (b := b) (o := o) (T := T0) ds 0 w (cs ++ junk) hb (by rw [List.length_append]; omega) h1
  refine ⟨w', ?_, k a w' ha ?_⟩
  · have hcell : u.cells.size = szT := by rw [← hds, ← hv]; simp
    have hst : (storeVar T ⟨b, o, none⟩ u).run P w = .ok () w' := by
      unfold storeVar
      rw [run_then (ht.run_sizeOf w)]
      simp only [hcell, ne_eq, not_true_eq_false, if_false]
      rw [hv]; exact hr
    simp only [execOp, ha.eval hx, ha.eval hy]
    have : (Instr.storeAt T (.pointer (some ⟨b, o, none⟩)) u).run P w = .ok () w' := by
      unfold Instr.storeAt; rw [run_then (show (Instr.sureAddr (.pointer (some ⟨b, o, none⟩))).run P w = .ok ⟨b, o, none⟩ w from rfl)]; exact hst
    rw [run_then this]; rfl
  · refine hs.turnAt (y := .row (.slice (some ⟨b, 0, none⟩) n c) (cs.take o ++ ds ++ cs.drop (o + szT)) T0 sz) hi ?_ (fun b hb => .inl hb) (fun b hb => hs.mine _ hmem b hb) (by omega) (fun r _ hne => hoth r (by simpa [Ass.foot, hc0] using hne)) hio
    refine .inr ⟨b, n, c, junk, rfl, hc0, hn, ?_, ?_, ?_⟩
    · rw [← hl]; simp; omega
    · rw [← hjk]; simp; omega
    · rw [hb', hds]
      simp only [Nat.add_zero, rowObj]
      rw [List.take_append_of_le_length (by omega), List.drop_append_of_le_length (by omega)]; simp

theorem e_storeRow {α : Type} [Rp α] {T T0 b o i sz n c : Nat} {d : TypeDesc} {szT bt : Nat} {z u : Value} {x y : Operand} {cs ds : List Value} {l l' : List α} (hw : Wn ops E g) (ht : Ty P T d szT z bt) (hz : Rp.sz α = sz) (hx : ev E x = some (.pointer (some ⟨b, o, none⟩))) (hy : ev E y = some u) (hi : L[i]? = some (.row (.slice (some ⟨b, 0, none⟩) n c) cs T0 sz))
    (hv : u.cells.toList = ds) (h1 : ∀ v ∈ ds, cell1 v = true) (hpos : Nat.blt 0 szT = true) (hr : RepL H cs l) (hp : PutL α H o szT ds l l')
    (k : ∀ cs', RepL H cs' l' → At N D K E H (L.set i (.row (.slice (some ⟨b, 0, none⟩) n c) cs' T0 sz)) C) : At N D K E H L (uOp P r ops Q ⟨none, .store T x y, ty, pos, aft, g⟩ C) :=
  e_storeRowRaw hw ht hx hy hi hv hp.len h1 (by rw [hr.len]; exact hp.le) (Nat.le_of_ble_eq_true hpos) (k _ (hp.put cs hr))

/-- An own row is looked at. -/
theorem y_load_row {T T0 b o i sz n c : Nat} {d : TypeDesc} {szT bt : Nat} {z u : Value} {x : Operand} {cs : List Value} (ht : Ty P T d szT z bt) (hd : aggD d = false) (hx : ev E x = some (.pointer (some ⟨b, o, none⟩))) (hi : L[i]? = some (.row (.slice (some ⟨b, 0, none⟩) n c) cs T0 sz)) (hu : cs[o]? = some u) :
    Yd P N D E (St K H L) ⟨dst, .load T x, ty, pos, aft, g⟩ u := fun a w ha hs => by
  rcases hs.ok _ (List.mem_of_getElem? hi) with ⟨x', e', rfl⟩ | ⟨b', n', cap, junk, e', hc0, hn, hl, hjk, hb⟩
  · simp at hu
  simp at e'
  obtain ⟨rfl, rfl, rfl⟩ := e'
  obtain ⟨hlt, he⟩ := List.getElem?_eq_some_iff.1 hu
  simp only [execOp, ha.eval hx]
  refine run_value (run_loadAt (run_loadVar_one ht hd ⟨cs.take o, cs.drop (o + 1) ++ junk, T0, (0, 0), ?_, by simp; omega⟩))
  rw [hb, rowObj]; congr 3
  rw [← he]; simp
  rw [← List.append_assoc, List.take_append_drop]

theorem repL_int_get {H : Hp} {cs : List Value} {l : List Int} {i : Int} {u : Int} (h : RepL H cs l) (hi : nth l i = some u) : cs[0 + i.toNat * 1]? = some (.int .i64 u) := by
  obtain ⟨_, _, hlt, he⟩ := nth_some hi
  rw [repL_int h]; simp [hlt, he]
end

theorem take_get {cs : List Value} {o : Nat} {v : Value} (h : o < cs.length) : (cs.take o ++ [v] ++ cs.drop (o + 1))[o]? = some v := by
  have e : (cs.take o).length = o := by simp; omega
  rw [List.append_assoc, List.getElem?_append_right (by omega), e]; simp

/-- A slice of a frozen array. -/
theorem PAt.arrSl {α : Type} [Rp α] {H : Hp} {n b o : Nat} {l u : List α} {hi : Int} (h : PAt (α := Arr n α) H b o l) (hc : cut l 0 hi = some u) (c : Nat) (hcap : hi.toNat ≤ c) : Sl H (.slice (some ⟨b, o, none⟩) hi.toNat c) u ∧ u.length = hi.toNat := by
  obtain ⟨pre, cs, post, T, fr, hb, rfl, hr, hl⟩ := h
  unfold cut at hc
  split at hc
  · rename_i hh
    cases hc
    have hle : hi.toNat ≤ l.length := by omega
    have hu : ((l.take hi.toNat).drop (0 : Int).toNat) = l.take hi.toNat := by simp
    have key : ∀ (k : Nat) (cs : List Value) (l : List α), RepL H cs l → k ≤ l.length → ∃ c1 c2, cs = c1 ++ c2 ∧ RepL H c1 (l.take k) := by
      intro k cs l hr
      induction hr generalizing k with
      | nil => intro hk; exact ⟨[], [], rfl, by simpa using RepL.nil⟩
      | @cons c cs x l hx t ih =>
        intro hk
        cases k with
        | zero => exact ⟨[], c ++ cs, rfl, by simpa using RepL.nil⟩
        | succ k =>
          obtain ⟨c1, c2, rfl, h1⟩ := ih k (by simpa using hk)
          exact ⟨c ++ c1, c2, by simp, by simpa using RepL.cons hx h1⟩
    obtain ⟨c1, c2, rfl, h1⟩ := key hi.toNat cs l hr hle
    rw [hu]
    have hlen : (l.take hi.toNat).length = hi.toNat := by simp; omega
    exact ⟨.inr ⟨b, c, pre, c1, c2 ++ post, T, fr, by rw [hlen], by omega, by rw [hb]; simp, h1⟩, hlen⟩
  · cases hc
end Go.Lu
