/-
  What the written walks use, second part: joins, elements, appends with their words.
-/
import Derived.Test.YtbcabikaaadiiaaDoorLuCore8
namespace Go.Lu
open Go

/-- A meeting point: what comes normally to this place meets J. -/
def cutQ (J : Act → World → Prop) (Q : Exit → Act → World → Prop) : Exit → Act → World → Prop
  | .normal => J
  | e => Q e

section
variable {P : Program} {r : Option Nat} {N : Nat} {D : List Deferred} {K : Kp} {E : Env} {H : Hp} {L : List Ass} {ops : Array Oper} {Q : Exit → Act → World → Prop} {C J : Act → World → Prop}
variable {dst : Option Tmp} {ty : TypeId} {pos : String} {aft : Array Edge} {g : Option (Nat × Bool)} {dd : Nat} {G : World → Prop}

theorem a_join (J : Act → World → Prop) {c : Code} (h : At N D K E H L (Cx P r c (cutQ J Q))) (k : ∀ a w, J a w → Q .normal a w) : At N D K E H L (Cx P r c Q) := fun a w ha hs =>
  wpIn_mono (h a w ha hs) fun e a' w' hq => by cases e <;> first | exact k _ _ hq | exact hq
theorem a_cut (h : At N D K E H L J) : At N D K E H L (cutQ J Q .normal) := h
theorem a_cut_ret (h : At N D K E H L (Q .ret)) : At N D K E H L (cutQ J Q .ret) := h
theorem a_cut_exit {id : Nat} (h : At N D K E H L (Q (.exit id))) : At N D K E H L (cutQ J Q (.exit id)) := h
theorem noP_cut (h : ∀ c a w, ¬ Q (.panic c) a w) : ∀ c a w, ¬ cutQ J Q (.panic c) a w := h

theorem Sl.elemZ {α : Type} [Rp α] {v : Value} {l : List α} (sz : Nat) (hz : Rp.sz α = sz) (h : Sl H v l) {i : Int} {x : α} (hx : nth l i = some x) :
    ∃ b off cap, v = .slice (some ⟨b, off, none⟩) l.length cap ∧ PAt H b (off + i.toNat * sz) x := by subst hz; exact h.elem hx
theorem PAt.arrZ {α : Type} [Rp α] {n : Nat} {b off : Nat} {l : List α} (sz : Nat) (hz : Rp.sz α = sz) (h : PAt (α := Arr n α) H b off l) {i : Int} {x : α} (hx : nth l i = some x) : PAt H b (off + i.toNat * sz) x := by subst hz; exact h.arr hx
theorem PAt.arrIn {α : Type} [Rp α] {n : Nat} {b off : Nat} {l : List α} (h : PAt (α := Arr n α) H b off l) {i : Int} {x : α} (hx : nth l i = some x) : 0 ≤ i ∧ i < (n : Int) := by
  have := h.arrLen; have := nth_in hx; omega

theorem y_index_arrp {n T e : Nat} {d : TypeDesc} {sz bt : Nat} {z : Value} {k : IntKind} {i : Int} {x y : Operand} {b o : Nat} (hT : P.underlying T = some (.array n e)) (he : Ty P e d sz z bt)
    (hx : ev E x = some (.pointer (some ⟨b, o, none⟩))) (hy : ev E y = some (.int k i)) (h01 : 0 ≤ i ∧ i < (n : Int)) :
    Yd P N D E G ⟨dst, .indexAddr T x y, ty, pos, aft, g⟩ (.pointer (some ⟨b, o + i.toNat * sz, none⟩)) := y_index_box hT he hx hy h01.1 h01.2

theorem y_rem_some {x y : Operand} {T T' : TypeId} {k : IntKind} {p q u : Int} (hx : ev E x = some (.int k p)) (hy : ev E y = some (.int k q)) (h : rem p q = some u) : Yd P N D E G ⟨dst, .binOp .rem T x y T', ty, pos, aft, g⟩ (.int k u) := by
  obtain ⟨h0, rfl⟩ := rem_some h; exact y_rem hx hy h0
theorem y_quo_some {x y : Operand} {T T' : TypeId} {p q u : Int} (hx : ev E x = some (.int .i64 p)) (hy : ev E y = some (.int .i64 q)) (h : quo p q = some u) : Yd P N D E G ⟨dst, .binOp .quo T x y T', ty, pos, aft, g⟩ (.int .i64 u) := by
  obtain ⟨h0, rfl⟩ := quo_some h; exact y_quo hx hy h0

/-- A store that fills its box. -/
theorem e_storeWhole {T T0 b i : Nat} {d : TypeDesc} {sz bt : Nat} {z v : Value} {x y : Operand} {cs ds : List Value} (hw : Wn ops E g) (ht : Ty P T d sz z bt) (hx : ev E x = some (.pointer (some ⟨b, 0, none⟩))) (hy : ev E y = some v) (hi : L[i]? = some (.box b cs T0))
    (hv : v.cells.toList = ds) (hl : ds.length = sz) (h1 : ∀ v ∈ ds, cell1 v = true) (hlt : cs.length = sz)
    (k : At N D K E H (L.set i (.box b ds T0)) C) : At N D K E H L (uOp P r ops Q ⟨none, .store T x y, ty, pos, aft, g⟩ C) :=
  e_store hw ht hx hy hi hv hl h1 (by omega) (by rw [List.take_zero, List.drop_of_length_le (by omega)]; simp) k

theorem e_app_sl {α : Type} [Rp α] {T T2 e e2 : Nat} {d : TypeDesc} {sz bt : Nat} {z : Value} {v u : Value} {x y : Operand} {cs : List Value} {l m n : List α} {i : Nat} (hw : Wn ops E g) (hd : Nat.blt dd N = true) (hT : P.underlying T = some (.slice e)) (hT2 : P.underlying T2 = some (.slice e2)) (he : Ty P e d sz z bt) (hsz : Rp.sz α = sz) (hz : z.cells.size = sz) (h0 : Nat.blt 0 sz = true) (hbt : Nat.blt 0 bt = true) (hbt2 : Nat.ble bt 1024 = true)
    (hx : ev E x = some v) (hy : ev E y = some u) (hi : L[i]? = some (.row v cs e sz)) (hc : RepL H cs l) (hu : Sl H u m) (hb : app l m = some n)
    (k : ∀ v' cs', RepL H cs' n → At N D K ((dd, v') :: E) H (L.set i (.row v' cs' e sz)) C) : At N D K E H L (uOp P r ops Q ⟨some dd, .call ⟨.builtin .append, #[x, y], #[T, T2]⟩, ty, pos, aft, g⟩ C) := by
  subst hsz; obtain ⟨h1, rfl⟩ := app_some hb
  exact e_append_sl hw hd hT hT2 he hz h0 hbt hbt2 hx hy hi hc hu h1 k

theorem e_app_row {α : Type} [Rp α] {T T2 e e2 : Nat} {d : TypeDesc} {sz bt : Nat} {z : Value} {v u : Value} {x y : Operand} {cs ds : List Value} {l m n : List α} {i j : Nat} (hw : Wn ops E g) (hd : Nat.blt dd N = true) (hT : P.underlying T = some (.slice e)) (hT2 : P.underlying T2 = some (.slice e2)) (he : Ty P e d sz z bt) (hsz : Rp.sz α = sz) (hz : z.cells.size = sz) (h0 : Nat.blt 0 sz = true) (hbt : Nat.blt 0 bt = true) (hbt2 : Nat.ble bt 1024 = true)
    (hx : ev E x = some v) (hy : ev E y = some u) (hi : L[i]? = some (.row v cs e sz)) (hc : RepL H cs l) {e' : Nat} (hj : L[j]? = some (.row u ds e' sz)) (hu : RepL H ds m) (hb : app l m = some n)
    (k : ∀ v' cs', RepL H cs' n → At N D K ((dd, v') :: E) H (L.set i (.row v' cs' e sz)) C) : At N D K E H L (uOp P r ops Q ⟨some dd, .call ⟨.builtin .append, #[x, y], #[T, T2]⟩, ty, pos, aft, g⟩ C) := by
  subst hsz; obtain ⟨h1, rfl⟩ := app_some hb
  exact e_append_row hw hd hT hT2 he hz h0 hbt hbt2 hx hy hi hc hj hu h1 k

theorem a_frow {α : Type} [Rp α] {i T sz : Nat} {v : Value} {cs : List Value} {l : List α} (hsz : Rp.sz α = sz) (hi : L[i]? = some (.row v cs T sz)) (hr : RepL H cs l) (h0 : Nat.blt 0 sz = true) (k : ∀ H', HLe H H' → Sl H' v l → At N D K E H' (L.set i .emp) C) : At N D K E H L C := by
  subst hsz; exact a_freezeRow hi hr (by have := Nat.le_of_ble_eq_true h0; omega) k

theorem y_len_rowZ {α : Type} [Rp α] {x : Operand} {v : Value} {cs : List Value} {l : List α} {i T T' e sz : Nat} (ht : P.underlying T = some (.slice e)) (hsz : Rp.sz α = sz) (hx : ev E x = some v) (hi : L[i]? = some (.row v cs T' sz)) (hc : RepL H cs l) (h0 : Nat.blt 0 sz = true) : Yd P N D E (St K H L) ⟨dst, .call ⟨.builtin .len, #[x], #[T]⟩, ty, pos, aft, g⟩ (.int .i64 (l.length : Int)) := by
  subst hsz; exact y_len_row ht hx hi hc h0

theorem sl_nil {α : Type} [Rp α] (H : Hp) (x : Option Addr) (c : Nat) : Sl H (.slice x 0 c) ([] : List α) := .inl ⟨rfl, x, c, rfl⟩

theorem cells_one_int (n : Int) : ∀ v ∈ [Value.int .i64 n], cell1 v = true := by simp [cell1]
theorem cells_one_bool (b : Bool) : ∀ v ∈ [Value.bool b], cell1 v = true := by simp [cell1]
theorem cells_one_sl {α : Type} [Rp α] {v : Value} {l : List α} (h : Sl H v l) : ∀ u ∈ [v], cell1 u = true := by
  obtain ⟨x, c, rfl, _⟩ := h.shape; simp [cell1]
end
end Go.Lu
