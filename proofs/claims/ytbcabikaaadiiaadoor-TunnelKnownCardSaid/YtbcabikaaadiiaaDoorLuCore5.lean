/-
  Addresses, loads, slices: pure operations that speak of memory.
-/
import Derived.Test.YtbcabikaaadiiaaDoorLuCore4
namespace Go.Lu
open Go

def FldOff (P : Program) (T : TypeId) (f off : Nat) : Prop :=
  ∃ fields fld i, P.underlying T = some (.struct fields) ∧ fields[f]? = some fld ∧ fld.offset = off ∧ P.info? fld.type = some i ∧ i.size ≠ 0

section
variable {P : Program} {N : Nat} {D : List Deferred} {K : Kp} {E : Env} {H : Hp} {L : List Ass}
variable {G : World → Prop} {dst : Option Tmp} {ty : TypeId} {pos : String} {aft : Array Edge} {g : Option (Nat × Bool)}

theorem run_pure {α : Type} (x : α) (w : World) : (pure x : Sem α).run P w = .ok x w := rfl

theorem run_then {α β : Type} {s : Sem α} {f : α → Sem β} {x : α} {w w' : World} (h : s.run P w = .ok x w') : (s >>= f).run P w = (f x).run P w' := by
  rw [Sem.run_bind, h]; rfl

theorem run_value {s : Sem Value} {v : Value} {w w' : World} (h : s.run P w = .ok v w') : (s >>= fun v => (pure (Next.value v) : Sem Next)).run P w = .ok (.value v) w' := by
  rw [run_then h]; rfl

theorem run_fieldAt {T : TypeId} {f off b o : Nat} (h : FldOff P T f off) (w : World) : (Instr.fieldAt T (.pointer (some ⟨b, o, none⟩)) f).run P w = .ok (.pointer (some ⟨b, o + off, none⟩)) w := by
  obtain ⟨fields, fld, i, hu, hf, rfl, hi, hs⟩ := h
  have hsz : (sizeOf fld.type).run P w = .ok i.size w := by
    unfold sizeOf; rw [run_then (run_typeInfo hi w)]; rfl
  unfold Instr.fieldAt
  rw [run_then (run_underlying hu w)]
  simp only [hf]
  show ((fieldPlace ⟨b, o, none⟩ fld) >>= fun a => (pure (Value.pointer (some a)) : Sem Value)).run P w = _
  have : (fieldPlace ⟨b, o, none⟩ fld).run P w = .ok ⟨b, o + fld.offset, none⟩ w := by
    unfold fieldPlace; rw [run_then hsz]; simp only [hs, if_false, add_plain']; rfl
  rw [run_then this]; rfl

theorem y_fieldAddr {T : TypeId} {f off b o : Nat} {x : Operand} (h : FldOff P T f off) (hx : ev E x = some (.pointer (some ⟨b, o, none⟩))) : Yd P N D E G ⟨dst, .fieldAddr T x f, ty, pos, aft, g⟩ (.pointer (some ⟨b, o + off, none⟩)) := fun a w ha _ => by
  simp only [execOp, ha.eval hx]; exact run_value (run_fieldAt h w)

theorem run_indexAt_arr {T e n : Nat} {d : TypeDesc} {sz bt : Nat} {z : Value} {k : IntKind} {i : Int} {b o : Nat} (hT : P.underlying T = some (.array n e)) (he : Ty P e d sz z bt) (h0 : 0 ≤ i) (h1 : i < n) (w : World) :
    (Instr.indexAt T (.pointer (some ⟨b, o, none⟩)) (.int k i)).run P w = .ok (.pointer (some ⟨b, o + i.toNat * sz, none⟩)) w := by
  unfold Instr.indexAt
  rw [run_then (show (asIntOf (.int k i)).run P w = .ok (k, i) w from rfl)]
  simp only []
  rw [run_then (run_underlying hT w)]
  simp only []
  rw [run_then (show (Instr.sureAddr (.pointer (some ⟨b, o, none⟩))).run P w = .ok ⟨b, o, none⟩ w from rfl)]
  rw [run_then (run_pure _ w), run_then (run_underlying hT w)]
  simp only [h0, h1, and_self, if_true]
  rw [run_then (he.run_sizeOf w), add_plain']; rfl

theorem run_indexAt_sl {T e : Nat} {d : TypeDesc} {sz bt : Nat} {z : Value} {k : IntKind} {i : Int} {b o n c : Nat} (hT : P.underlying T = some (.slice e)) (he : Ty P e d sz z bt) (h0 : 0 ≤ i) (h1 : i < n) (w : World) :
    (Instr.indexAt T (.slice (some ⟨b, o, none⟩) n c) (.int k i)).run P w = .ok (.pointer (some ⟨b, o + i.toNat * sz, none⟩)) w := by
  unfold Instr.indexAt
  rw [run_then (show (asIntOf (.int k i)).run P w = .ok (k, i) w from rfl)]
  simp only []
  rw [run_then (run_underlying hT w)]
  simp only []
  rw [run_then (run_pure _ w), run_then (run_underlying hT w)]
  simp only [h0, h1, and_self, if_true]
  rw [run_then (he.run_sizeOf w), add_plain']; rfl

/-- An element of a frozen slice. -/
theorem y_index_sl {α : Type} [Rp α] {T e : Nat} {d : TypeDesc} {bt : Nat} {z : Value} {k : IntKind} {i : Int} {x y : Operand} {v : Value} {l : List α} {u : α} (hT : P.underlying T = some (.slice e)) (he : Ty P e d (Rp.sz α) z bt)
    (hx : ev E x = some v) (hv : Sl H v l) (hy : ev E y = some (.int k i)) (hn : nth l i = some u) :
    ∃ b o, Yd P N D E G ⟨dst, .indexAddr T x y, ty, pos, aft, g⟩ (.pointer (some ⟨b, o, none⟩)) ∧ PAt H b o u := by
  obtain ⟨b, o, c, rfl, hp⟩ := hv.elem hn
  obtain ⟨h0, h1, _⟩ := nth_some hn
  refine ⟨b, _, fun a w ha _ => ?_, hp⟩
  simp only [execOp, ha.eval hx, ha.eval hy]
  exact run_value (run_indexAt_sl hT he h0 h1 w)

/-- An element of an array in frozen memory. -/
theorem y_index_arr {α : Type} [Rp α] {n T e : Nat} {d : TypeDesc} {bt : Nat} {z : Value} {k : IntKind} {i : Int} {x y : Operand} {b o : Nat} {l : List α} {u : α} (hT : P.underlying T = some (.array n e)) (he : Ty P e d (Rp.sz α) z bt)
    (hx : ev E x = some (.pointer (some ⟨b, o, none⟩))) (hp : PAt H b o (show Arr n α from l)) (hy : ev E y = some (.int k i)) (hn : nth l i = some u) :
    Yd P N D E G ⟨dst, .indexAddr T x y, ty, pos, aft, g⟩ (.pointer (some ⟨b, o + i.toNat * Rp.sz α, none⟩)) ∧ PAt H b (o + i.toNat * Rp.sz α) u := by
  obtain ⟨h0, h1, _⟩ := nth_some hn
  have hl := hp.arrLen
  refine ⟨fun a w ha _ => ?_, hp.arr hn⟩
  simp only [execOp, ha.eval hx, ha.eval hy]
  exact run_value (run_indexAt_arr hT he h0 (by omega) w)

/-- An element of an array in a box of one's own (an address). -/
theorem y_index_box {n T e : Nat} {d : TypeDesc} {sz bt : Nat} {z : Value} {k : IntKind} {i : Int} {x y : Operand} {b o : Nat} (hT : P.underlying T = some (.array n e)) (he : Ty P e d sz z bt)
    (hx : ev E x = some (.pointer (some ⟨b, o, none⟩))) (hy : ev E y = some (.int k i)) (h0 : 0 ≤ i) (h1 : i < n) :
    Yd P N D E G ⟨dst, .indexAddr T x y, ty, pos, aft, g⟩ (.pointer (some ⟨b, o + i.toNat * sz, none⟩)) := fun a w ha _ => by
  simp only [execOp, ha.eval hx, ha.eval hy]
  exact run_value (run_indexAt_arr hT he h0 h1 w)

/-! ### Loads -/
theorem run_loadAt {T b o : Nat} {v : Value} {w : World} (h : (loadVar T ⟨b, o, none⟩).run P w = .ok v w) : (Instr.loadAt T (.pointer (some ⟨b, o, none⟩))).run P w = .ok v w := by
  unfold Instr.loadAt; rw [run_then (show (Instr.sureAddr (.pointer (some ⟨b, o, none⟩))).run P w = .ok ⟨b, o, none⟩ w from rfl)]; exact h

theorem y_load_int {T b o : Nat} {d : TypeDesc} {sz bt : Nat} {z : Value} {n : Int} {x : Operand} (ht : Ty P T d sz z bt) (hd : aggD d = false) (hG : ∀ w, G w → Sub H w) (hx : ev E x = some (.pointer (some ⟨b, o, none⟩))) (hp : PAt H b o n) :
    Yd P N D E G ⟨dst, .load T x, ty, pos, aft, g⟩ (.int .i64 n) := fun a w ha hw => by
  obtain ⟨cs, hc, hcs⟩ := hp.cells
  rw [show cs = [.int .i64 n] from hc] at hcs
  simp only [execOp, ha.eval hx]
  exact run_value (run_loadAt (run_loadVar_one ht hd (hcs w (hG w hw))))

theorem y_load_bool {T b o : Nat} {d : TypeDesc} {sz bt : Nat} {z : Value} {n : Bool} {x : Operand} (ht : Ty P T d sz z bt) (hd : aggD d = false) (hG : ∀ w, G w → Sub H w) (hx : ev E x = some (.pointer (some ⟨b, o, none⟩))) (hp : PAt H b o n) :
    Yd P N D E G ⟨dst, .load T x, ty, pos, aft, g⟩ (.bool n) := fun a w ha hw => by
  obtain ⟨cs, hc, hcs⟩ := hp.cells
  rw [show cs = [.bool n] from hc] at hcs
  simp only [execOp, ha.eval hx]
  exact run_value (run_loadAt (run_loadVar_one ht hd (hcs w (hG w hw))))

theorem y_load_sl {α : Type} [Rp α] {T b o : Nat} {d : TypeDesc} {sz bt : Nat} {z : Value} {l : List α} {x : Operand} (ht : Ty P T d sz z bt) (hd : aggD d = false) (hG : ∀ w, G w → Sub H w) (hx : ev E x = some (.pointer (some ⟨b, o, none⟩))) (hp : PAt H b o l) :
    ∃ v, Yd P N D E G ⟨dst, .load T x, ty, pos, aft, g⟩ v ∧ Sl H v l := by
  obtain ⟨cs, ⟨v, rfl, hv⟩, hcs⟩ := hp.cells
  refine ⟨v, fun a w ha hw => ?_, hv⟩
  simp only [execOp, ha.eval hx]
  exact run_value (run_loadAt (run_loadVar_one ht hd (hcs w (hG w hw))))

theorem y_load_agg {α : Type} [Rp α] {T b o : Nat} {d : TypeDesc} {bt : Nat} {z : Value} {s : α} {x : Operand} (ht : Ty P T d (Rp.sz α) z bt) (hd : aggD d = true) (hG : ∀ w, G w → Sub H w) (hx : ev E x = some (.pointer (some ⟨b, o, none⟩))) (hp : PAt H b o s) :
    ∃ cs, Yd P N D E G ⟨dst, .load T x, ty, pos, aft, g⟩ (.agg cs.toArray) ∧ Rp.rep H cs s := by
  obtain ⟨cs, hc, hcs⟩ := hp.cells
  refine ⟨cs, fun a w ha hw => ?_, hc⟩
  simp only [execOp, ha.eval hx]
  exact run_value (run_loadAt (run_loadVar_agg ht hd (hcs w (hG w hw)) (Rp.len hc)))

/-- G knows a box. -/
def Knows (G : World → Prop) (b : Nat) (cs : List Value) : Prop := ∃ T fr, ∀ w, G w → w.heap[b]? = some (.cells cs.toArray T fr)

theorem knows_box {i b T : Nat} {cs : List Value} (h : L[i]? = some (.box b cs T)) : Knows (St K H L) b cs :=
  ⟨T, (0, 0), fun _ hs => hs.ok _ (List.mem_of_getElem? h)⟩

theorem y_load_box {T b o : Nat} {d : TypeDesc} {sz bt : Nat} {z v : Value} {cs : List Value} {x : Operand} (ht : Ty P T d sz z bt) (hd : aggD d = false) (hG : Knows G b cs) (hx : ev E x = some (.pointer (some ⟨b, o, none⟩))) (hv : cs[o]? = some v) :
    Yd P N D E G ⟨dst, .load T x, ty, pos, aft, g⟩ v := fun a w ha hw => by
  obtain ⟨T0, fr, hb⟩ := hG
  obtain ⟨hlt, he⟩ := List.getElem?_eq_some_iff.1 hv
  simp only [execOp, ha.eval hx]
  refine run_value (run_loadAt (run_loadVar_one ht hd ⟨cs.take o, cs.drop (o + 1), T0, fr, ?_, by simp; omega⟩))
  rw [hb w hw]
  have : cs = cs.take o ++ [v] ++ cs.drop (o + 1) := by
    rw [← he, List.append_assoc, List.singleton_append, List.getElem_cons_drop, List.take_append_drop]
  rw [← this]

theorem y_load_boxagg {T b o : Nat} {d : TypeDesc} {sz bt : Nat} {z : Value} {cs ds : List Value} {x : Operand} (ht : Ty P T d sz z bt) (hd : aggD d = true) (hG : Knows G b cs) (hx : ev E x = some (.pointer (some ⟨b, o, none⟩))) (hv : (cs.drop o).take sz = ds) (hl : ds.length = sz) :
    Yd P N D E G ⟨dst, .load T x, ty, pos, aft, g⟩ (.agg ds.toArray) := fun a w ha hw => by
  obtain ⟨T0, fr, hb⟩ := hG
  simp only [execOp, ha.eval hx]
  have hlen : o + sz ≤ cs.length ∨ sz = 0 := by
    rw [← hv, List.length_take, List.length_drop] at hl; omega
  by_cases h0 : sz = 0
  · subst h0
    have hds : ds = [] := by simpa using hl
    subst hds
    have : (loadVar T ⟨b, o, none⟩).run P w = .ok (.agg #[]) w := by
      simp only [loadVar, Sem.run_bind, run_isAgg ht.u, Result.andThen, hd, if_true, ht.run_sizeOf]; rfl
    exact run_value (run_loadAt this)
  · refine run_value (run_loadAt (run_loadVar_agg ht hd ⟨cs.take o, (cs.drop o).drop sz, T0, fr, ?_, by simp; omega⟩ hl))
    rw [hb w hw, ← hv, List.append_assoc, List.take_append_drop, List.take_append_drop]

end
end Go.Lu
