/-
  Operations that make memory or write one's own: alloc, box, store, slices built and appended to; calls; what is frozen; the return.
-/
import Derived.Test.YtbcabikaaadiiaaDoorLuCore5
namespace Go.Lu
open Go

section
variable {P : Program} {r : Option Nat} {N : Nat} {D : List Deferred} {K : Kp} {E : Env} {H : Hp} {L : List Ass} {ops : Array Oper} {Q : Exit → Act → World → Prop} {C : Act → World → Prop}
variable {dst : Option Tmp} {ty : TypeId} {pos : String} {aft : Array Edge} {g : Option (Nat × Bool)} {dd : Nat}

theorem run_newVar {T : TypeId} {v : Value} (w : World) : (newVar T v).run P w = .ok ⟨w.heap.size, 0, none⟩ (w.alloc (.cells v.cells T)) := rfl

/-- A value comes out, in a world that is told. -/
theorem e_value {o : Oper} {d : Nat} (hw : Wn ops E o.guard) (hdst : o.dst = some d) (hd : Nat.blt d N = true)
    (h : ∀ a w, Ag N D E a → St K H L w → ∃ v w', (execOp a.eval o).run P w = .ok (.value v) w' ∧ ∀ a', Ag N D ((d, v) :: E) a' → C a' w') : At N D K E H L (uOp P r ops Q o C) := fun a w ha hs => by
  obtain ⟨v, w', hr, hc⟩ := h a w ha hs
  unfold uOp
  simp only [hw.wanted ha, if_true, hr, Oper.uponIn]
  rw [hdst]; exact hc _ (ha.put v hd)

theorem e_skip {o : Oper} (hw : Wn ops E o.guard) (hdst : o.dst = none)
    (h : ∀ a w, Ag N D E a → St K H L w → ∃ w', (execOp a.eval o).run P w = .ok .skip w' ∧ C a w') : At N D K E H L (uOp P r ops Q o C) := fun a w ha hs => by
  obtain ⟨w', hr, hc⟩ := h a w ha hs
  unfold uOp
  simp only [hw.wanted ha, if_true, hr, Oper.uponIn]
  rw [hdst]; exact hc

theorem e_alloc {T : TypeId} {d : TypeDesc} {sz bt : Nat} {z : Value} {cs : List Value} (hw : Wn ops E g) (hd : Nat.blt dd N = true) (ht : Ty P T d sz z bt) (hz : z.cells.toList = cs)
    (k : ∀ b, At N D K ((dd, .pointer (some ⟨b, 0, none⟩)) :: E) H (.box b cs T :: L) C) : At N D K E H L (uOp P r ops Q ⟨some dd, .alloc T, ty, pos, aft, g⟩ C) := by
  refine e_value hw rfl hd fun a w ha hs => ⟨.pointer (some ⟨w.heap.size, 0, none⟩), w.alloc (.cells z.cells T), ?_, fun a' ha' => ?_⟩
  · simp only [execOp]
    refine run_value ?_
    unfold Instr.alloc
    rw [run_then (ht.run_zeroValue w)]
    simp only []
    rw [run_then (run_newVar w)]; rfl
  · subst hz
    have := hs.box z.cells.toList T
    exact k _ a' _ ha' (by simpa using this)

theorem e_box {T : TypeId} {x : Operand} {v : Value} {cs : List Value} (hw : Wn ops E g) (hd : Nat.blt dd N = true) (hx : ev E x = some v) (hz : v.cells.toList = cs)
    (k : ∀ b, At N D K ((dd, .pointer (some ⟨b, 0, none⟩)) :: E) H (.box b cs T :: L) C) : At N D K E H L (uOp P r ops Q ⟨some dd, .box T x, ty, pos, aft, g⟩ C) := by
  refine e_value hw rfl hd fun a w ha hs => ⟨.pointer (some ⟨w.heap.size, 0, none⟩), w.alloc (.cells v.cells T), ?_, fun a' ha' => ?_⟩
  · simp only [execOp, ha.eval hx]
    refine run_value ?_
    unfold Instr.box
    rw [run_then (run_newVar w)]; rfl
  · subst hz
    have := hs.box v.cells.toList T
    exact k _ a' _ ha' (by simpa using this)

/-! ### Stores -/
theorem heap_setCell_self {w : World} {b o T : Nat} {cs : List Value} {v : Value} {fr : Nat × Nat} (h : w.heap[b]? = some (.cells cs.toArray T fr)) : (w.setCell ⟨b, o, none⟩ v).heap[b]? = some (.cells (cs.set o v).toArray T fr) := by
  obtain ⟨hlt, he⟩ := Array.getElem?_eq_some_iff.1 h
  show (w.heap.modify b _)[b]? = _
  rw [Array.getElem?_eq_getElem (by rw [Array.size_modify]; exact hlt), Array.getElem_modify_self, he]
  simp
theorem heap_setCell_other {w : World} {b o r : Nat} {v : Value} (h : r ≠ b) : (w.setCell ⟨b, o, none⟩ v).heap[r]? = w.heap[r]? := by
  show (w.heap.modify b _)[r]? = _
  rw [Array.getElem?_modify, if_neg (fun e => h e.symm)]
theorem size_setCell (w : World) (a : Addr) (v : Value) : (w.setCell a v).heap.size = w.heap.size := by
  show (w.heap.modify _ _).size = _; rw [Array.size_modify]

theorem run_store {w : World} {b o T : Nat} {cs : List Value} {v : Value} (h : w.heap[b]? = some (.cells cs.toArray T (0, 0))) (hlt : o < cs.length) (h1 : cell1 v = true) :
    (store ⟨b, o, none⟩ v).run P w = .ok () (w.setCell ⟨b, o, none⟩ v) := by
  have hc : w.cell? ⟨b, o, none⟩ = some cs[o] := by
    simp [World.cell?, h, hlt]
  have hf : w.frozen? ⟨b, o, none⟩ = false := by simp [World.frozen?, h]
  cases v <;> first | (simp [cell1] at h1; done) | (simp [store, Sem.run, hc, hf]; done)

theorem run_storeCells {b o T : Nat} : ∀ (ds : List Value) (i : Nat) (w : World) (cs : List Value), w.heap[b]? = some (.cells cs.toArray T (0, 0)) → o + i + ds.length ≤ cs.length → (∀ v ∈ ds, cell1 v = true) →
    ∃ w', (storeCells ⟨b, o, none⟩ ds i).run P w = .ok () w' ∧ w'.heap[b]? = some (.cells (cs.take (o + i) ++ ds ++ cs.drop (o + i + ds.length)).toArray T (0, 0)) ∧ w'.heap.size = w.heap.size ∧ (∀ r, r ≠ b → w'.heap[r]? = w.heap[r]?) ∧ Io w w'
  | [], i, w, cs, h, _, _ => ⟨w, rfl, by simpa using h, rfl, fun _ _ => rfl, rfl, rfl⟩
  | v :: ds, i, w, cs, h, hl, h1 => by
    simp only [List.length_cons] at hl
    have hs := run_store (P := P) h (show o + i < cs.length by omega) (h1 v (by simp))
    have hself := heap_setCell_self (o := o + i) (v := v) h
    obtain ⟨w', hr, hb, hsz, hoth, hio⟩ := run_storeCells (b := b) (o := o) (T := T) ds (i + 1) (w.setCell ⟨b, o + i, none⟩ v) (cs.set (o + i) v) hself (by simp; omega) (fun u hu => h1 u (by simp [hu]))
    refine ⟨w', ?_, ?_, by rw [hsz, size_setCell], fun r hne => by rw [hoth r hne, heap_setCell_other hne], hio.1, hio.2⟩
    · rw [storeCells, add_plain', run_then hs]; exact hr
    · rw [hb]
      have e1 : (cs.set (o + i) v).take (o + (i + 1)) = cs.take (o + i) ++ [v] := by
        rw [show o + (i + 1) = (o + i) + 1 by omega, List.take_succ_eq_append_getElem (by simp; omega)]
        rw [List.take_set_of_le (Nat.le_refl _)]; simp
      have e2 : (cs.set (o + i) v).drop (o + (i + 1) + ds.length) = cs.drop (o + i + (v :: ds).length) := by
        rw [List.drop_set_of_lt (by omega)]; congr 1; simp; omega
      rw [e1, e2]; simp

theorem list_split {L : List Ass} {i : Nat} {x : Ass} (h : L[i]? = some x) : L = L.take i ++ x :: L.drop (i + 1) ∧ ∀ y, L.set i y = L.take i ++ y :: L.drop (i + 1) := by
  obtain ⟨hlt, he⟩ := List.getElem?_eq_some_iff.1 h
  refine ⟨?_, fun y => ?_⟩
  · rw [← he, List.getElem_cons_drop, List.take_append_drop]
  · rw [List.set_eq_take_append_cons_drop, if_pos hlt]

theorem St.turnAt {x y : Ass} {i : Nat} {w w' : World} (h : St K H L w) (hi : L[i]? = some x) (hy : y.ok w') (hf : ∀ b ∈ y.foot, b ∈ x.foot ∨ w.heap.size ≤ b) (hm : y.mine K.w0.heap.size K.X)
    (hsz : w.heap.size ≤ w'.heap.size) (hs : ∀ r, r < w.heap.size → r ∉ x.foot → w'.heap[r]? = w.heap[r]?) (hio : Io w w' := by exact ⟨rfl, rfl⟩) : St K H (L.set i y) w' := by
  obtain ⟨e1, e2⟩ := list_split hi
  rw [e2]; rw [e1] at h
  exact h.turn hy hf hm hsz hs hio

/-- A store into a box of one's own. -/
theorem e_store {T T0 b o i : Nat} {d : TypeDesc} {sz bt : Nat} {z v : Value} {x y : Operand} {cs ds cs' : List Value} (hw : Wn ops E g) (ht : Ty P T d sz z bt) (hx : ev E x = some (.pointer (some ⟨b, o, none⟩))) (hy : ev E y = some v) (hi : L[i]? = some (.box b cs T0))
    (hv : v.cells.toList = ds) (hl : ds.length = sz) (h1 : ∀ v ∈ ds, cell1 v = true) (hlt : o + sz ≤ cs.length) (hcs : cs.take o ++ ds ++ cs.drop (o + sz) = cs')
    (k : At N D K E H (L.set i (.box b cs' T0)) C) : At N D K E H L (uOp P r ops Q ⟨none, .store T x y, ty, pos, aft, g⟩ C) := by
  refine e_skip hw rfl fun a w ha hs => ?_
  have hb : w.heap[b]? = some (.cells cs.toArray T0 (0, 0)) := hs.ok _ (List.mem_of_getElem? hi)
  obtain ⟨w', hr, hb', hsz, hoth, hio⟩ := run_storeCells (P := P) (b := b) (o := o) (T := T0) ds 0 w cs hb (by omega) h1
  refine ⟨w', ?_, k a w' ha ?_⟩
  · have hcell : v.cells.size = sz := by rw [← hl, ← hv]; simp
    have hst : (storeVar T ⟨b, o, none⟩ v).run P w = .ok () w' := by
      unfold storeVar
      rw [run_then (ht.run_sizeOf w)]
      simp only [hcell, ne_eq, not_true_eq_false, if_false]
      rw [hv]; exact hr
    simp only [execOp, ha.eval hx, ha.eval hy]
    have : (Instr.storeAt T (.pointer (some ⟨b, o, none⟩)) v).run P w = .ok () w' := by
      unfold Instr.storeAt; rw [run_then (show (Instr.sureAddr (.pointer (some ⟨b, o, none⟩))).run P w = .ok ⟨b, o, none⟩ w from rfl)]; exact hst
    rw [run_then this]; rfl
  · refine hs.turnAt (y := .box b cs' T0) hi ?_ (fun b hb => .inl hb) (hs.mine (.box b cs T0) (List.mem_of_getElem? hi)) (by omega) (fun r _ hne => hoth r (by simpa [Ass.foot] using hne)) hio
    show w'.heap[b]? = _
    rw [hb', ← hcs, ← hl]; simp

/-! ### Freezing -/
theorem a_freeze {α : Type} [Rp α] {i b T : Nat} {cs : List Value} {x : α} (hi : L[i]? = some (.box b cs T)) (hr : Rp.rep H cs x) (k : ∀ H', HLe H H' → PAt H' b 0 x → At N D K E H' (L.set i .emp) C) : At N D K E H L C := fun a w ha hs => by
  have hm := hs.mine (.box b cs T) (List.mem_of_getElem? hi)
  have hb : w.heap[b]? = some (.cells cs.toArray T (0, 0)) := hs.ok _ (List.mem_of_getElem? hi)
  obtain ⟨e1, e2⟩ := list_split hi
  have hs' := hs; rw [e1] at hs'
  obtain ⟨H', hle, hb', hs''⟩ := hs'.freeze (b := b) rfl hb hm
  rw [← e2] at hs''
  exact k H' hle ⟨[], cs, [], T, (0, 0), by simpa using hb', rfl, Rp.mono hle hr⟩ a w ha hs''

theorem a_freezeRow {α : Type} [Rp α] {i T : Nat} {v : Value} {cs : List Value} {l : List α} (hi : L[i]? = some (.row v cs T (Rp.sz α))) (hr : RepL H cs l) (h0 : Rp.sz α ≠ 0) (k : ∀ H', HLe H H' → Sl H' v l → At N D K E H' (L.set i .emp) C) : At N D K E H L C := fun a w ha hs => by
  have hmem := List.mem_of_getElem? hi
  have hm := hs.mine _ hmem
  obtain ⟨e1, e2⟩ := list_split hi
  have hlen := hr.len
  rcases hs.ok _ hmem with ⟨x, rfl, rfl⟩ | ⟨b, n, cap, junk, rfl, hc0, hn, hl, hj, hb⟩
  · refine k H (HLe.refl _) (.inl ⟨?_, x, 0, rfl⟩) a w ha ?_
    · have : l.length = 0 := by
        have h' : l.length * Rp.sz α = 0 := by simpa using hlen.symm
        rcases Nat.mul_eq_zero.1 h' with h | h
        · exact h
        · exact absurd h h0
      exact List.length_eq_zero_iff.1 this
    · exact hs.turnAt (y := .emp) hi trivial (fun b hb => by cases hb) trivial (Nat.le_refl _) (fun _ _ _ => rfl)
  · have hnl : n = l.length := by
      rw [hl] at hlen; exact Nat.eq_of_mul_eq_mul_right (by omega) hlen
    have hs' := hs; rw [e1] at hs'
    obtain ⟨H', hle, hb', hs''⟩ := hs'.freeze (b := b) (by simp [Ass.foot, hc0]) hb (hm b (by simp [Ass.foot, hc0]))
    rw [← e2] at hs''
    refine k H' hle (.inr ⟨b, cap, [], cs, junk, T, (0, 0), by rw [hnl]; rfl, by omega, ?_, hr.mono hle⟩) a w ha hs''
    rw [hb']; simp [rowObj]

/-- A nil slice of one's own, to be appended to. -/
theorem a_nilrow {x : Option Addr} {T sz : Nat} (k : At N D K E H (.row (.slice x 0 0) [] T sz :: L) C) : At N D K E H L C := fun a w ha hs => k a w ha (hs.nilrow x T sz)

/-! ### Calls -/
theorem run_callFunc {f : FuncId} {fn : Func} {args : Array Value} (hf : P.funcs[f]? = some fn) (hb : fn.body.isNone = false) (hn : (fn.name == "runtime.NumGoroutine") = false) (w : World) : (callFunc f args).run P w = .ok (.enter f args) w := by
  unfold callFunc
  rw [run_then (show (program).run P w = .ok P w from rfl)]
  simp only [hf, hn, hb, Bool.false_eq_true, if_false]; rfl

theorem e_call {f : FuncId} {fn : Func} {x : Operand} {xs : Array Operand} {ts : Array TypeId} {vs : List Value} {fs cap : Array Value} {all : List Value} {X : Nat → Prop} {R : Value → Hp → World → Prop}
    (hw : Wn ops E g) (hd : Nat.blt dd N = true) (hf : P.funcs[f]? = some fn) (hb : fn.body.isNone = false) (hn : (fn.name == "runtime.NumGoroutine") = false)
    (hx : ev E x = some (.func (.func f) fs cap)) (hxs : xs.toList.mapM (ev E) = some vs) (hall : fs.toList ++ vs ++ cap.toList = all)
    (hc : ∀ w, St K H L w → Calls P f all.toArray w (Post w H X R))
    (k : ∀ v H' w w', St K H L w → Left w H X H' w' → R v H' w' → ∀ a, Ag N D ((dd, v) :: E) a → C a w') : At N D K E H L (uOp P r ops Q ⟨some dd, .call ⟨.value x, xs, ts⟩, ty, pos, aft, g⟩ C) := fun a w ha hs => by
  have key : ∀ (l : List Operand) (vs : List Value), l.mapM (ev E) = some vs → l.map a.eval = vs := by
    intro l
    induction l with
    | nil => intro vs h; simp at h; subst h; rfl
    | cons x l ih =>
      intro vs h
      simp only [List.mapM_cons, Option.bind_eq_bind, Option.bind_eq_some_iff] at h
      obtain ⟨v, hv, us, hus, h⟩ := h
      cases h
      simp [ha.eval hv, ih us hus]
  have e1 : xs.map a.eval = vs.toArray := by rw [← key _ _ hxs]; cases xs; simp
  have hr : (execOp a.eval ⟨some dd, .call ⟨.value x, xs, ts⟩, ty, pos, aft, g⟩).run P w = .ok (.enter f all.toArray) w := by
    simp only [execOp, resolve, e1, ha.eval hx]
    show ((Deferred.ofValue (.func (.func f) fs cap) vs.toArray) >>= fun d => invoke d.target d.args).run P w = _
    rw [run_then (show (Deferred.ofValue (.func (.func f) fs cap) vs.toArray).run P w = .ok ⟨.fn (.func f) cap, fs ++ vs.toArray⟩ w from rfl)]
    show (callFunc f (fs ++ vs.toArray ++ cap)).run P w = _
    rw [show fs ++ vs.toArray ++ cap = all.toArray from by rw [← hall]; apply Array.ext'; simp]; exact run_callFunc hf hb hn w
  unfold uOp
  simp only [hw.wanted (o := ⟨some dd, .call ⟨.value x, xs, ts⟩, ty, pos, aft, g⟩) ha, if_true, hr, Oper.uponIn]
  refine ⟨fun h => by simp [FW] at h, CallsIn.mono (calls_in r (hc w hs)) fun e w' he => ?_⟩
  obtain ⟨v, H', rfl, hl, hR⟩ := he
  exact k v H' w w' hs hl hR _ (ha.put v hd)

/-- A contract whose result is plain: numbers, truth values. -/
def PostV (w : World) (H : Hp) (v : Value) : Ending → World → Prop := Post w H noX fun u _ _ => u = v

theorem Left.down {w w' : World} {H H' : Hp} {X : Nat → Prop} (h : Left w H X H' w') : Left w H X H w' :=
  ⟨HLe.refl _, fun _ _ => rfl, h.sub.of_le h.le, h.size, h.keep, h.io⟩

theorem e_callV {f : FuncId} {fn : Func} {x : Operand} {xs : Array Operand} {ts : Array TypeId} {vs : List Value} {fs cap : Array Value} {all : List Value} {v : Value}
    (hw : Wn ops E g) (hd : Nat.blt dd N = true) (hf : P.funcs[f]? = some fn) (hb : fn.body.isNone = false) (hn : (fn.name == "runtime.NumGoroutine") = false)
    (hx : ev E x = some (.func (.func f) fs cap)) (hxs : xs.toList.mapM (ev E) = some vs) (hall : fs.toList ++ vs ++ cap.toList = all)
    (hc : ∀ w, Sub H w → Calls P f all.toArray w (PostV w H v))
    (k : At N D K ((dd, v) :: E) H L C) : At N D K E H L (uOp P r ops Q ⟨some dd, .call ⟨.value x, xs, ts⟩, ty, pos, aft, g⟩ C) :=
  e_call hw hd hf hb hn hx hxs hall (fun w hs => hc w hs.sub) fun u H' w w' hs hl hu a ha => by subst hu; exact k a w' ha (hs.called hl.down)

/-- A contract whose result leads into new frozen memory. -/
def PostH (w : World) (H : Hp) (R : Value → Hp → Prop) : Ending → World → Prop := Post w H noX fun u H' _ => R u H'

theorem e_callH {f : FuncId} {fn : Func} {x : Operand} {xs : Array Operand} {ts : Array TypeId} {vs : List Value} {fs cap : Array Value} {all : List Value} {R : Value → Hp → Prop}
    (hw : Wn ops E g) (hd : Nat.blt dd N = true) (hf : P.funcs[f]? = some fn) (hb : fn.body.isNone = false) (hn : (fn.name == "runtime.NumGoroutine") = false)
    (hx : ev E x = some (.func (.func f) fs cap)) (hxs : xs.toList.mapM (ev E) = some vs) (hall : fs.toList ++ vs ++ cap.toList = all)
    (hc : ∀ w, Sub H w → Calls P f all.toArray w (PostH w H R))
    (k : ∀ v H', HLe H H' → R v H' → At N D K ((dd, v) :: E) H' L C) : At N D K E H L (uOp P r ops Q ⟨some dd, .call ⟨.value x, xs, ts⟩, ty, pos, aft, g⟩ C) :=
  e_call hw hd hf hb hn hx hxs hall (fun w hs => hc w hs.sub) fun u H' w w' hs hl hu a ha => k u H' hl.le hu a w' ha (hs.called hl)

/-! ### The whole function -/
theorem start {f : FuncId} {fn : Func} {c : Code} {args : List Value} {w : World} {X : Nat → Prop} {R : Value → Hp → World → Prop} {n : Nat}
    (hf : P.funcs[f]? = some fn) (hb : fn.body = some c) (hn : fn.ntmps = n) (hE : Sublist E (args.zipIdx.map fun p => (p.2, p.1))) (hl : Nat.ble args.length n = true) (hsub : Sub H w)
    (h : At n [] ⟨w, H, X⟩ E H [] (Cx P none c (bodyPost P fn (Post w H X R)))) : Calls P f args.toArray w (Post w H X R) := by
  refine calls_out (callsIn_of_wp hf hb trivial (h _ _ ?_ (St.init w H X hsub)))
  subst hn
  have hl' : args.length ≤ fn.ntmps := Nat.le_of_ble_eq_true hl
  have base : Ag fn.ntmps [] (args.zipIdx.map fun p => (p.2, p.1)) { tmps := args.toArray ++ Array.replicate (fn.ntmps - args.toArray.size) undef, defers := [] } := by
    refine ⟨by simp; omega, rfl, fun t v hv => ?_⟩
    have key : ∀ (l : List Value) (k t : Nat) (v : Value), look ((l.zipIdx k).map fun p => (p.2, p.1)) t = some v → k ≤ t ∧ l[t - k]? = some v := by
      intro l
      induction l with
      | nil => intro k t v h; simp [look] at h
      | cons x l ih =>
        intro k t v h
        simp only [List.zipIdx_cons, List.map_cons] at h
        by_cases e : k = t
        · subst e; rw [look_cons_eq] at h; cases h; simp
        · rw [look_cons_ne _ _ e] at h
          obtain ⟨h1, h2⟩ := ih (k + 1) t v h
          refine ⟨by omega, ?_⟩
          rw [show t - k = (t - (k + 1)) + 1 by omega]; simpa using h2
    obtain ⟨_, h2⟩ := key args 0 t v hv
    simp at h2
    obtain ⟨hlt, he⟩ := List.getElem?_eq_some_iff.1 h2
    refine ⟨by omega, ?_⟩
    rw [Array.getD_eq_getD_getElem?, Array.getElem?_append_left (by simpa using hlt)]
    simp [h2]
  exact base.weaken hE

theorem a_done {fn : Func} {w0 : World} {H0 : Hp} {X : Nat → Prop} {R : Value → Hp → World → Prop} {v : Value} {e : Exit} (he : e = .ret ∨ e = .normal) (hD : D = [])
    (hres : ∀ a w, Ag N D E a → St ⟨w0, H0, X⟩ H L w → (results fn a.tmps).run P w = .ok v w) (hR : ∀ w, St ⟨w0, H0, X⟩ H L w → R v H w) : At N D ⟨w0, H0, X⟩ E H L (bodyPost P fn (Post w0 H0 X R) e) := fun a w ha hs => by
  have : a.defers = [] ∧ ∃ v, (results fn a.tmps).run P w = .ok v w ∧ Post w0 H0 X R (.returned v) w := ⟨ha.defs.trans hD, v, hres a w ha hs, v, H, rfl, hs.left, hR w hs⟩
  rcases he with rfl | rfl <;> exact this

inductive All2 {α β : Type} (R : α → β → Prop) : List α → List β → Prop
  | nil : All2 R [] []
  | cons {x : α} {y : β} {l : List α} {m : List β} (h : R x y) (t : All2 R l m) : All2 R (x :: l) (y :: m)

theorem run_mapM {α β : Type} {f : α → Sem β} {w : World} : ∀ {l : List α} {vs : List β}, All2 (fun x v => (f x).run P w = .ok v w) l vs → (l.mapM f).run P w = .ok vs w
  | [], _, .nil => rfl
  | x :: l, _, .cons h t => by
    rw [List.mapM_cons, run_then h, run_then (run_mapM t)]; rfl

def resVar (tmps : Array Value) : ResultVar → Sem Value
  | .tmp t => pure (tmps.getD t undef)
  | .cell a t => do loadVar t (← asAddr (tmps.getD a undef))

/-- What the function hands back. -/
theorem run_results {fn : Func} {rs : List ResultVar} {vs : List Value} {tmps : Array Value} {w : World} (h : fn.results = rs.toArray) (hv : All2 (fun x v => (resVar tmps x).run P w = .ok v w) rs vs) :
    (results fn tmps).run P w = .ok (match vs with | [v] => v | _ => .tuple vs.toArray) w := by
  have hm : (fn.results.mapM (resVar tmps)).run P w = .ok vs.toArray w := by
    rw [h, List.mapM_toArray]
    show ((rs.mapM (resVar tmps)) >>= fun l => (pure l.toArray : Sem (Array Value))).run P w = _
    rw [run_then (run_mapM hv)]; rfl
  show ((fn.results.mapM (resVar tmps)) >>= fun vs => (pure (if h : vs.size = 1 then vs[0] else Value.tuple vs) : Sem Value)).run P w = _
  rw [run_then hm]
  rcases vs with _ | ⟨v, _ | ⟨u, vs⟩⟩ <;> simp [pure, Sem.run]

theorem rv_tmp {t : Nat} {v : Value} {a : Act} {w : World} (ha : Ag N D E a) (hv : look E t = some v) : (resVar a.tmps (.tmp t)).run P w = .ok v w := by
  rw [← (ha.get t v hv).2]; rfl
theorem rv_cell {t T b o : Nat} {v : Value} {a : Act} {w : World} (ha : Ag N D E a) (hv : look E t = some (.pointer (some ⟨b, o, none⟩))) (hl : (loadVar T ⟨b, o, none⟩).run P w = .ok v w) : (resVar a.tmps (.cell t T)).run P w = .ok v w := by
  show ((asAddr (a.tmps.getD t undef)) >>= fun x => loadVar T x).run P w = _
  rw [(ha.get t _ hv).2, run_then (show (asAddr (.pointer (some ⟨b, o, none⟩))).run P w = .ok ⟨b, o, none⟩ w from rfl)]; exact hl

theorem run_loadBox {T b T0 : Nat} {fr : Nat × Nat} {d : TypeDesc} {sz bt : Nat} {z : Value} {cs : List Value} {w : World} (ht : Ty P T d sz z bt) (hd : aggD d = true) (hb : w.heap[b]? = some (.cells cs.toArray T0 fr)) (hl : cs.length = sz) :
    (loadVar T ⟨b, 0, none⟩).run P w = .ok (.agg cs.toArray) w :=
  run_loadVar_agg ht hd ⟨[], [], T0, fr, by simpa using hb, rfl⟩ hl
theorem run_loadPAt {α : Type} [Rp α] {T b o : Nat} {d : TypeDesc} {bt : Nat} {z : Value} {x : α} {w : World} (ht : Ty P T d (Rp.sz α) z bt) (hd : aggD d = true) (hp : PAt H b o x) (hs : Sub H w) :
    ∃ cs, (loadVar T ⟨b, o, none⟩).run P w = .ok (.agg cs.toArray) w ∧ Rp.rep H cs x := by
  obtain ⟨cs, hc, hcs⟩ := hp.cells
  exact ⟨cs, run_loadVar_agg ht hd (hcs w hs) (Rp.len hc), hc⟩
end
end Go.Lu
