/-
  Data in memory, and the operations on it: rules for one operation at a time.
-/
import Derived.Test.YtbcabikaaadiiaaDoorLuCore2
namespace Go.Lu
open Go

/-! ### Facts of types -/
structure Ty (P : Program) (T : TypeId) (d : TypeDesc) (sz : Nat) (z : Value) (bt : Nat) : Prop where
  u : P.underlying T = some d
  i : ∃ i, P.info? T = some i ∧ i.size = sz ∧ i.zero = some z ∧ i.bytes = bt

theorem Ty.mk' {P : Program} {T : TypeId} {d : TypeDesc} {sz : Nat} {z : Value} {bt : Nat} (hu : P.underlying T = some d) (h : (P.info? T).map (fun i => (i.size, i.zero, i.bytes)) = some (sz, some z, bt)) : Ty P T d sz z bt := by
  refine ⟨hu, ?_⟩
  cases hi : P.info? T with
  | none => rw [hi] at h; cases h
  | some i => rw [hi] at h; simp at h; exact ⟨i, rfl, h.1, h.2.1, h.2.2⟩

def aggD : TypeDesc → Bool
  | .struct _ | .array _ _ => true
  | _ => false

section runs
variable {P : Program} {T : TypeId} {d : TypeDesc} {sz bt : Nat} {z : Value}

theorem run_underlying (h : P.underlying T = some d) (w : World) : (underlying T).run P w = .ok d w := by
  simp only [underlying, program, Sem.run_bind, Sem.run, Result.andThen, h]
  rfl

theorem run_isAgg (h : P.underlying T = some d) (w : World) : (isAgg T).run P w = .ok (aggD d) w := by
  simp only [isAgg, Sem.run_bind, run_underlying h, Result.andThen]
  cases d <;> rfl

theorem run_typeInfo {i : TypeInfo} (h : P.info? T = some i) (w : World) : (typeInfo T).run P w = .ok i w := by
  simp only [typeInfo, program, Sem.run_bind, Sem.run, Result.andThen, h]
  rfl

theorem Ty.run_sizeOf (h : Ty P T d sz z bt) (w : World) : (sizeOf T).run P w = .ok sz w := by
  obtain ⟨i, hi, rfl, _, _⟩ := h.i
  simp only [sizeOf, Sem.run_bind, run_typeInfo hi, Result.andThen]
  rfl

theorem Ty.run_zeroValue (h : Ty P T d sz z bt) (w : World) : (zeroValue T).run P w = .ok z w := by
  obtain ⟨i, hi, _, hz, _⟩ := h.i
  simp only [zeroValue, Sem.run_bind, run_typeInfo hi, Result.andThen, hz]
  rfl
end runs

/-! ### Cells -/
def CellsAt (w : World) (b off : Nat) (cs : List Value) : Prop :=
  ∃ pre post T fr, w.heap[b]? = some (.cells (pre ++ cs ++ post).toArray T fr) ∧ pre.length = off

theorem add_plain' (b off n : Nat) : (Addr.add ⟨b, off, none⟩ n) = ⟨b, off + n, none⟩ := by
  unfold Addr.add; split
  · next h => subst h; rfl
  · rfl

theorem addr_eta {a : Addr} (h : a.spot = none) : a = ⟨a.block, a.off, none⟩ := by cases a; simp at h; subst h; rfl

theorem CellsAt.cell {w : World} {b off : Nat} {cs : List Value} (h : CellsAt w b off cs) {j : Nat} (hj : j < cs.length) : w.cell? ⟨b, off + j, none⟩ = some cs[j] := by
  obtain ⟨pre, post, T, fr, hb, rfl⟩ := h
  simp only [World.cell?, hb, Option.isSome_none, Bool.false_eq_true, if_false]
  rw [List.getElem?_toArray, List.append_assoc, List.getElem?_append_right (by omega), Nat.add_sub_cancel_left, List.getElem?_append_left hj, List.getElem?_eq_getElem hj]

theorem run_load {P : Program} {w : World} {a : Addr} {v : Value} (h : w.cell? a = some v) : (load a).run P w = .ok v w := by
  simp [load, Sem.run, h]

theorem run_loadCellsFrom {P : Program} {w : World} {b off : Nat} {cs : List Value} (h : CellsAt w b off cs) : ∀ (n i : Nat) (acc : Array Value), i + n = cs.length →
    (loadCellsFrom ⟨b, off, none⟩ i n acc).run P w = .ok (acc ++ (cs.drop i).toArray) w
  | 0, i, acc, hi => by
    rw [loadCellsFrom, List.drop_of_length_le (by omega)]; simp [pure]
  | n + 1, i, acc, hi => by
    have hlt : i < cs.length := by omega
    rw [loadCellsFrom, Sem.run_bind, add_plain', run_load (h.cell hlt)]
    simp only [Result.andThen]
    rw [run_loadCellsFrom h n (i + 1) _ (by omega), List.drop_eq_getElem_cons hlt]
    simp

theorem run_loadCells {P : Program} {w : World} {b off : Nat} {cs : List Value} (h : CellsAt w b off cs) : (loadCells ⟨b, off, none⟩ cs.length).run P w = .ok cs.toArray w := by
  rw [loadCells, run_loadCellsFrom h _ 0 #[] (by omega)]; simp

theorem run_loadVar_agg {P : Program} {T : TypeId} {d : TypeDesc} {sz bt : Nat} {z : Value} {w : World} {b off : Nat} {cs : List Value} (ht : Ty P T d sz z bt) (hd : aggD d = true) (h : CellsAt w b off cs) (hl : cs.length = sz) :
    (loadVar T ⟨b, off, none⟩).run P w = .ok (.agg cs.toArray) w := by
  subst hl
  simp only [loadVar, Sem.run_bind, run_isAgg ht.u, Result.andThen, hd, if_true, ht.run_sizeOf, run_loadCells h]
  rfl

theorem run_loadVar_one {P : Program} {T : TypeId} {d : TypeDesc} {sz bt : Nat} {z : Value} {w : World} {b off : Nat} {v : Value} (ht : Ty P T d sz z bt) (hd : aggD d = false) (h : CellsAt w b off [v]) :
    (loadVar T ⟨b, off, none⟩).run P w = .ok v w := by
  have := h.cell (j := 0) (by simp)
  simp only [loadVar, Sem.run_bind, run_isAgg ht.u, Result.andThen, hd, Bool.false_eq_true, if_false]
  exact run_load (by simpa using this)

/-! ### Data -/
/-- A value of one cell. -/
def cell1 : Value → Bool
  | .agg _ | .tuple _ => false
  | _ => true

class Rp (α : Type) where
  sz : Nat
  rep : Hp → List Value → α → Prop
  len : ∀ {H cs x}, rep H cs x → cs.length = sz
  one : ∀ {H cs x}, rep H cs x → ∀ v ∈ cs, cell1 v = true
  mono : ∀ {H H' cs x}, HLe H H' → rep H cs x → rep H' cs x

abbrev Rp.of {α β : Type} [Rp β] (f : α → β) : Rp α :=
  ⟨Rp.sz β, fun H cs x => Rp.rep H cs (f x), fun h => Rp.len h, fun h => Rp.one h, fun h k => Rp.mono h k⟩

instance : Rp Int := ⟨1, fun _ cs n => cs = [.int .i64 n], fun h => by subst h; rfl, fun h v hv => by subst h; simp at hv; subst hv; rfl, fun _ h => h⟩
instance : Rp Bool := ⟨1, fun _ cs b => cs = [.bool b], fun h => by subst h; rfl, fun h v hv => by subst h; simp at hv; subst hv; rfl, fun _ h => h⟩
instance {α β : Type} [Rp α] [Rp β] : Rp (α × β) :=
  ⟨Rp.sz α + Rp.sz β, fun H cs x => ∃ c d, cs = c ++ d ∧ Rp.rep H c x.1 ∧ Rp.rep H d x.2,
   fun ⟨c, d, e, h1, h2⟩ => by subst e; rw [List.length_append, Rp.len h1, Rp.len h2],
   fun ⟨c, d, e, h1, h2⟩ v hv => by subst e; rcases List.mem_append.1 hv with hv | hv; exact Rp.one h1 v hv; exact Rp.one h2 v hv,
   fun hl ⟨c, d, e, h1, h2⟩ => ⟨c, d, e, Rp.mono hl h1, Rp.mono hl h2⟩⟩

inductive RepL {α : Type} [Rp α] (H : Hp) : List Value → List α → Prop
  | nil : RepL H [] []
  | cons {c cs : List Value} {x : α} {l : List α} (h : Rp.rep H c x) (t : RepL H cs l) : RepL H (c ++ cs) (x :: l)

theorem RepL.len {α : Type} [Rp α] {H : Hp} {cs : List Value} {l : List α} (h : RepL H cs l) : cs.length = l.length * Rp.sz α := by
  induction h with
  | nil => simp
  | cons h t ih => rw [List.length_append, Rp.len h, ih, List.length_cons, Nat.add_mul, Nat.one_mul, Nat.add_comm]
theorem RepL.one {α : Type} [Rp α] {H : Hp} {cs : List Value} {l : List α} (h : RepL H cs l) : ∀ v ∈ cs, cell1 v = true := by
  induction h with
  | nil => intro v hv; cases hv
  | cons h t ih => intro v hv; rcases List.mem_append.1 hv with hv | hv; exact Rp.one h v hv; exact ih v hv
theorem RepL.mono {α : Type} [Rp α] {H H' : Hp} {cs : List Value} {l : List α} (hl : HLe H H') (h : RepL H cs l) : RepL H' cs l := by
  induction h with
  | nil => exact .nil
  | cons h t ih => exact .cons (Rp.mono hl h) ih
theorem RepL.append {α : Type} [Rp α] {H : Hp} {cs ds : List Value} {l m : List α} (h : RepL H cs l) (k : RepL H ds m) : RepL H (cs ++ ds) (l ++ m) := by
  induction h with
  | nil => simpa using k
  | cons h t ih => rw [List.append_assoc]; exact .cons h ih
theorem RepL.single {α : Type} [Rp α] {H : Hp} {c : List Value} {x : α} (h : Rp.rep H c x) : RepL H c [x] := by
  have := RepL.cons h (.nil (α := α)); simpa using this

def nth {α : Type} (l : List α) (i : Int) : Option α := if 0 ≤ i then l[i.toNat]? else none

theorem nth_some {α : Type} {l : List α} {i : Int} {x : α} (h : nth l i = some x) : 0 ≤ i ∧ i < l.length ∧ ∃ hlt : i.toNat < l.length, l[i.toNat] = x := by
  unfold nth at h
  split at h
  · obtain ⟨hlt, he⟩ := List.getElem?_eq_some_iff.1 h
    exact ⟨by assumption, by omega, hlt, he⟩
  · cases h

theorem RepL.split {α : Type} [Rp α] {H : Hp} {cs : List Value} {l : List α} (h : RepL H cs l) : ∀ i (hi : i < l.length),
    ∃ pre c post, cs = pre ++ c ++ post ∧ pre.length = i * Rp.sz α ∧ Rp.rep H c l[i] := by
  induction h with
  | nil => intro i hi; simp at hi
  | @cons c cs x l hx t ih =>
    intro i hi
    cases i with
    | zero => exact ⟨[], c, cs, by simp, by simp, hx⟩
    | succ i =>
      obtain ⟨pre, d, post, e, hl, hd⟩ := ih i (by simpa using hi)
      exact ⟨c ++ pre, d, post, by rw [e]; simp, by rw [List.length_append, Rp.len hx, hl, Nat.add_mul, Nat.one_mul, Nat.add_comm], by simpa using hd⟩

theorem RepL.nth {α : Type} [Rp α] {H : Hp} {cs : List Value} {l : List α} (h : RepL H cs l) {i : Int} {x : α} (hx : Lu.nth l i = some x) :
    ∃ pre c post, cs = pre ++ c ++ post ∧ pre.length = i.toNat * Rp.sz α ∧ Rp.rep H c x := by
  obtain ⟨_, _, hlt, he⟩ := nth_some hx
  obtain ⟨pre, c, post, e, hl, hc⟩ := h.split i.toNat hlt
  exact ⟨pre, c, post, e, hl, he ▸ hc⟩

/-- An array: a list of a known length. -/
def Arr (_n : Nat) (α : Type) : Type := List α

instance {α : Type} [Rp α] {n : Nat} : Rp (Arr n α) :=
  ⟨n * Rp.sz α, fun H cs l => RepL H cs (show List α from l) ∧ (show List α from l).length = n, fun ⟨h, e⟩ => by rw [h.len, e], fun h => h.1.one, fun hl h => ⟨h.1.mono hl, h.2⟩⟩

/-- A slice in frozen memory. -/
def Sl {α : Type} [Rp α] (H : Hp) (v : Value) (l : List α) : Prop :=
  (l = [] ∧ ∃ x c, v = .slice x 0 c) ∨
  ∃ b cap pre cs post T fr, v = .slice (some ⟨b, pre.length, none⟩) l.length cap ∧ l.length ≤ cap ∧ H b = some (.cells (pre ++ cs ++ post).toArray T fr) ∧ RepL H cs l

theorem Sl.mono {α : Type} [Rp α] {H H' : Hp} {v : Value} {l : List α} (hl : HLe H H') (h : Sl H v l) : Sl H' v l := by
  rcases h with h | ⟨b, cap, pre, cs, post, T, fr, e, h1, h2, h3⟩
  · exact .inl h
  · exact .inr ⟨b, cap, pre, cs, post, T, fr, e, h1, hl _ _ h2, h3.mono hl⟩

theorem Sl.shape {α : Type} [Rp α] {H : Hp} {v : Value} {l : List α} (h : Sl H v l) : ∃ x c, v = .slice x l.length c ∧ l.length ≤ c := by
  rcases h with ⟨rfl, x, c, rfl⟩ | ⟨b, cap, pre, cs, post, T, fr, e, h1, h2, h3⟩
  · exact ⟨x, c, rfl, Nat.zero_le _⟩
  · exact ⟨_, cap, e, h1⟩

instance {α : Type} [Rp α] : Rp (List α) :=
  ⟨1, fun H cs l => ∃ v, cs = [v] ∧ Sl H v l, fun ⟨v, e, _⟩ => by subst e; rfl,
   fun ⟨v, e, h⟩ u hu => by subst e; simp at hu; subst hu; obtain ⟨x, c, e, _⟩ := h.shape; subst e; rfl,
   fun hl ⟨v, e, h⟩ => ⟨v, e, h.mono hl⟩⟩

/-- At a place in frozen memory there lies x. -/
def PAt {α : Type} [Rp α] (H : Hp) (b off : Nat) (x : α) : Prop :=
  ∃ pre cs post T fr, H b = some (.cells (pre ++ cs ++ post).toArray T fr) ∧ pre.length = off ∧ Rp.rep H cs x

theorem PAt.mono {α : Type} [Rp α] {H H' : Hp} {b off : Nat} {x : α} (hl : HLe H H') (h : PAt H b off x) : PAt H' b off x := by
  obtain ⟨pre, cs, post, T, fr, h1, h2, h3⟩ := h
  exact ⟨pre, cs, post, T, fr, hl _ _ h1, h2, Rp.mono hl h3⟩

theorem PAt.fst {α β : Type} [Rp α] [Rp β] {H : Hp} {b off : Nat} {x : α × β} (h : PAt H b off x) : PAt H b off x.1 := by
  obtain ⟨pre, cs, post, T, fr, h1, h2, c, d, rfl, hc, hd⟩ := h
  exact ⟨pre, c, d ++ post, T, fr, by rw [h1]; simp, h2, hc⟩

theorem PAt.snd {α β : Type} [Rp α] [Rp β] {H : Hp} {b off : Nat} {x : α × β} (h : PAt H b off x) : PAt H b (off + Rp.sz α) x.2 := by
  obtain ⟨pre, cs, post, T, fr, h1, h2, c, d, rfl, hc, hd⟩ := h
  exact ⟨pre ++ c, d, post, T, fr, by rw [h1]; simp, by rw [List.length_append, h2, Rp.len hc], hd⟩

theorem PAt.arr {α : Type} [Rp α] {n : Nat} {H : Hp} {b off : Nat} {l : List α} (h : PAt H b off (show Arr n α from l)) {i : Int} {x : α} (hx : nth l i = some x) : PAt H b (off + i.toNat * Rp.sz α) x := by
  obtain ⟨pre, cs, post, T, fr, h1, h2, h3, _⟩ := h
  obtain ⟨p, c, q, rfl, hl, hc⟩ := RepL.nth (α := α) h3 hx
  exact ⟨pre ++ p, c, q ++ post, T, fr, by rw [h1]; simp, by rw [List.length_append, h2, hl], hc⟩

theorem PAt.arrLen {α : Type} [Rp α] {n : Nat} {H : Hp} {b off : Nat} {l : List α} (h : PAt H b off (show Arr n α from l)) : l.length = n := by
  obtain ⟨pre, cs, post, T, fr, h1, h2, h3, h4⟩ := h; exact h4

theorem PAt.cells {α : Type} [Rp α] {H : Hp} {b off : Nat} {x : α} (h : PAt H b off x) : ∃ cs, Rp.rep H cs x ∧ ∀ w, Sub H w → CellsAt w b off cs := by
  obtain ⟨pre, cs, post, T, fr, h1, h2, h3⟩ := h
  exact ⟨cs, h3, fun w hs => ⟨pre, post, T, fr, hs _ _ h1, h2⟩⟩

theorem Sl.elem {α : Type} [Rp α] {H : Hp} {v : Value} {l : List α} (h : Sl H v l) {i : Int} {x : α} (hx : nth l i = some x) :
    ∃ b off cap, v = .slice (some ⟨b, off, none⟩) l.length cap ∧ PAt H b (off + i.toNat * Rp.sz α) x := by
  rcases h with ⟨rfl, _⟩ | ⟨b, cap, pre, cs, post, T, fr, e, h1, h2, h3⟩
  · simp [nth] at hx
  · obtain ⟨p, c, q, rfl, hl, hc⟩ := h3.nth hx
    exact ⟨b, pre.length, cap, e, pre ++ p, c, q ++ post, T, fr, by rw [h2]; simp, by rw [List.length_append, hl], hc⟩

theorem repL_int {H : Hp} {cs : List Value} {l : List Int} (h : RepL H cs l) : cs = l.map (Value.int .i64) := by
  induction h with
  | nil => rfl
  | cons h t ih => rw [ih, show _ = [Value.int .i64 _] from h]; rfl
theorem repL_int_mk (H : Hp) (l : List Int) : RepL H (l.map (Value.int .i64)) l := by
  induction l with
  | nil => exact .nil
  | cons x l ih => exact RepL.cons (c := [.int .i64 x]) rfl ih

end Go.Lu
