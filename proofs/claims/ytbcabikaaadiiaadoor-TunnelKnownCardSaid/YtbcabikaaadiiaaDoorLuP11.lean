/-
  Rows of told cells; arrays within a row's elements.
-/
import Derived.Test.YtbcabikaaadiiaaDoorLuP10
namespace Go.Lu
open Go Go.Proofs
set_option maxRecDepth 100000
set_option linter.unusedVariables false

section
variable {P : Program} {r : Option Nat} {N : Nat} {D : List Deferred} {K : Kp} {E : Env} {H : Hp} {L A B : List Ass} {ops : Array Oper} {Q : Exit → Act → World → Prop} {C : Act → World → Prop}
variable {dst : Option Tmp} {ty : TypeId} {pos : String} {aft : Array Edge} {g : Option (Nat × Bool)} {dd : Nat} {w : World} {G : World → Prop}

/-- A row's value is stored into a row of told cells. -/
theorem e_storeRowC {T T0 b o i j sz n c T2 sz2 : Nat} {d : TypeDesc} {bt : Nat} {z u : Value} {x y : Operand} {cs cs2 cs' : List Value} (hw : Wn ops E g) (ht : Ty P T d 1 z bt) (hx : ev E x = some (.pointer (some ⟨b, o, none⟩))) (hy : ev E y = some u) (hi : L[i]? = some (.row (.slice (some ⟨b, 0, none⟩) n c) cs T0 sz)) (hj : L[j]? = some (.row u cs2 T2 sz2))
    (hle : Nat.ble (o + 1) cs.length = true) (hcs : cs.take o ++ [u] ++ cs.drop (o + 1) = cs')
    (k : At N D K E H (L.set i (.row (.slice (some ⟨b, 0, none⟩) n c) cs' T0 sz)) C) : At N D K E H L (uOp P r ops Q ⟨none, .store T x y, ty, pos, aft, g⟩ C) :=
  e_storeRowP hw ht hx hy hi hj (.inr trivial) (Nat.le_of_ble_eq_true hle) fun cs1 e => by rw [e, hcs]; exact k

theorem Put.arrHeat {H : Hp} {cs ds : List Value} {l : List TunnelPart} {j i : Int} {e : TunnelPart} {u v : Int} (hr : RepL H cs l) (hj : nth l j = some e) (hi : nth e.Heat i = some u) (h : Rp.rep H ds v) : Put (Arr 4 Int) H (i.toNat * 1) 1 ds e.Heat (e.Heat.set i.toNat v) := by
  have hl : e.Heat.length = 4 := by
    obtain ⟨c, h1, h2⟩ : ∃ c, Rp.rep H c e ∧ True := by
      obtain ⟨h0, h1, hlt, rfl⟩ := nth_some hj
      obtain ⟨a, c, b, _, h3, _⟩ := hr.split _ hlt
      exact ⟨c, by assumption, trivial⟩
    obtain ⟨c1, c2, _, ⟨_, h4⟩, _⟩ := h1
    exact h4
  exact Put.arr (fo := 0) 1 rfl hl hi (Put.here h)

/-! ### Parts of a function's code -/
def cL : Code → Code | .seq a _ => a | c => c
def cR : Code → Code | .seq _ b => b | c => c
def fbody (f : Func) : Code := f.body.getD .skip

/-! ### What is carried out only if a truth value is so -/
theorem sft {x : Operand} {c : Bool} {v : Value} (h : ev E x = some (bif c then v else undef)) (hc : c = true) : ev E x = some v := by subst hc; exact h
theorem sff {x : Operand} {c : Bool} {v : Value} (h : ev E x = some (bif c then undef else v)) (hc : c = false) : ev E x = some v := by subst hc; exact h
theorem lkt {t : Nat} {c : Bool} {v : Value} (h : look E t = some (bif c then v else undef)) (hc : c = true) : look E t = some v := by subst hc; exact h
theorem lkf {t : Nat} {c : Bool} {v : Value} (h : look E t = some (bif c then undef else v)) (hc : c = false) : look E t = some v := by subst hc; exact h
theorem lknt {t : Nat} {c : Bool} {v : Value} (h : look E t = some (bif c then v else undef)) (hc : c = false) : look E t = some undef := by subst hc; exact h
theorem lknf {t : Nat} {c : Bool} {v : Value} (h : look E t = some (bif c then undef else v)) (hc : c = true) : look E t = some undef := by subst hc; exact h
theorem y_pick_gen {c x y : Operand} {b : Bool} {v : Value} (hc : ev E c = some (.bool b)) (hx : b = true → ev E x = some v) (hy : b = false → ev E y = some v) : Yd P N D E G ⟨dst, .pick c x y, ty, pos, aft, g⟩ v := by
  cases hb : b
  · exact y_pick_f hc hb (hy hb)
  · exact y_pick_t hc hb (hx hb)
theorem y_pick_and {c x y : Operand} {b p : Bool} (hc : ev E c = some (.bool b)) (hx : b = true → ev E x = some (.bool p)) (hy : ev E y = some (.bool b)) : Yd P N D E G ⟨dst, .pick c x y, ty, pos, aft, g⟩ (.bool (b && p)) :=
  y_pick_gen hc (fun h => by rw [hx h, h]; rfl) (fun h => by rw [hy, h]; rfl)
theorem y_pick_or {c x y : Operand} {b p : Bool} (hc : ev E c = some (.bool b)) (hx : ev E x = some (.bool b)) (hy : b = false → ev E y = some (.bool p)) : Yd P N D E G ⟨dst, .pick c x y, ty, pos, aft, g⟩ (.bool (b || p)) :=
  y_pick_gen hc (fun h => by rw [hx, h]; rfl) (fun h => by rw [hy h, h]; rfl)
theorem y_pick_bb {c x y : Operand} {b p q : Bool} (hc : ev E c = some (.bool b)) (hx : b = true → ev E x = some (.bool p)) (hy : b = false → ev E y = some (.bool q)) : Yd P N D E G ⟨dst, .pick c x y, ty, pos, aft, g⟩ (.bool (bif b then p else q)) :=
  y_pick_gen hc (fun h => by rw [hx h, h]; rfl) (fun h => by rw [hy h, h]; rfl)
theorem y_pick_ii {c x y : Operand} {b : Bool} {p q : Int} {k : IntKind} (hc : ev E c = some (.bool b)) (hx : b = true → ev E x = some (.int k p)) (hy : b = false → ev E y = some (.int k q)) : Yd P N D E G ⟨dst, .pick c x y, ty, pos, aft, g⟩ (.int k (bif b then p else q)) :=
  y_pick_gen hc (fun h => by rw [hx h, h]; rfl) (fun h => by rw [hy h, h]; rfl)

theorem agt {d j dj : Nat} {c : Bool} {v : Value} {op : Op} {rest : List Oper} (h1 : (ops[j]?).bind (·.dst) = some dj) (h2 : look E dj = some (.bool c)) (hy : c = true → Yd P N D E (St K H L) ⟨some d, op, ty, pos, aft, some (j, true)⟩ v)
    (k : At N D K ((d, bif c then v else undef) :: E) H L (uList P r ops Q rest)) (hd : Nat.blt d N = true := by rfl) : At N D K E H L (uList P r ops Q (⟨some d, op, ty, pos, aft, some (j, true)⟩ :: rest)) := by
  cases hc : c
  · rw [hc] at h2 k; exact as1 ⟨dj, h1, .inl ⟨false, h2, rfl⟩⟩ k hd
  · rw [hc] at h2 k; exact a_cons (p_pure ⟨dj, true, h1, h2, rfl⟩ rfl hd (hy hc) k)
theorem agf {d j dj : Nat} {c : Bool} {v : Value} {op : Op} {rest : List Oper} (h1 : (ops[j]?).bind (·.dst) = some dj) (h2 : look E dj = some (.bool c)) (hy : c = false → Yd P N D E (St K H L) ⟨some d, op, ty, pos, aft, some (j, false)⟩ v)
    (k : At N D K ((d, bif c then undef else v) :: E) H L (uList P r ops Q rest)) (hd : Nat.blt d N = true := by rfl) : At N D K E H L (uList P r ops Q (⟨some d, op, ty, pos, aft, some (j, false)⟩ :: rest)) := by
  cases hc : c
  · rw [hc] at h2 k; exact a_cons (p_pure ⟨dj, false, h1, h2, rfl⟩ rfl hd (hy hc) k)
  · rw [hc] at h2 k; exact as1 ⟨dj, h1, .inl ⟨true, h2, rfl⟩⟩ k hd
theorem dtt {S : World → Prop} {d n m fuel j dj : Nat} {c : Bool} {v : Value} {op : Op} (i m' : Nat) (hi : ops[i]? = some ⟨some d, op, ty, pos, aft, some (j, true)⟩) (h1 : (ops[j]?).bind (·.dst) = some dj) (h2 : look E dj = some (.bool c)) (hy : c = true → Yd P N D E S ⟨some d, op, ty, pos, aft, some (j, true)⟩ v) (hS : ∀ w, St K H L w → S w) [hQ : NoP Q]
    (k : At N D K ((d, bif c then v else undef) :: E) H L (uAny P r ops Q S fuel (bits n m'))) (hm : mayTake ops (bits n m) i = true := by kernel_rfl) (hl : (bits n m).setIfInBounds i true = bits n m' := by kernel_rfl) (hd : Nat.blt d N = true := by rfl) : At N D K E H L (uAny P r ops Q S (fuel + 1) (bits n m)) := by
  cases hc : c
  · rw [hc] at h2 k; exact d_skip hi hm hQ.no hl rfl hd ⟨dj, h1, .inl ⟨false, h2, rfl⟩⟩ hS k
  · rw [hc] at h2 k; exact d_take hi hm hQ.no hl rfl hd ⟨dj, true, h1, h2, rfl⟩ (hy hc) hS k
theorem dtf {S : World → Prop} {d n m fuel j dj : Nat} {c : Bool} {v : Value} {op : Op} (i m' : Nat) (hi : ops[i]? = some ⟨some d, op, ty, pos, aft, some (j, false)⟩) (h1 : (ops[j]?).bind (·.dst) = some dj) (h2 : look E dj = some (.bool c)) (hy : c = false → Yd P N D E S ⟨some d, op, ty, pos, aft, some (j, false)⟩ v) (hS : ∀ w, St K H L w → S w) [hQ : NoP Q]
    (k : At N D K ((d, bif c then undef else v) :: E) H L (uAny P r ops Q S fuel (bits n m'))) (hm : mayTake ops (bits n m) i = true := by kernel_rfl) (hl : (bits n m).setIfInBounds i true = bits n m' := by kernel_rfl) (hd : Nat.blt d N = true := by rfl) : At N D K E H L (uAny P r ops Q S (fuel + 1) (bits n m)) := by
  cases hc : c
  · rw [hc] at h2 k; exact d_take hi hm hQ.no hl rfl hd ⟨dj, false, h1, h2, rfl⟩ (hy hc) hS k
  · rw [hc] at h2 k; exact d_skip hi hm hQ.no hl rfl hd ⟨dj, h1, .inl ⟨true, h2, rfl⟩⟩ hS k
/-- The same out of takes' order: within one step. -/
theorem p_gt {d j dj : Nat} {c : Bool} {v : Value} {op : Op} (h1 : (ops[j]?).bind (·.dst) = some dj) (h2 : look E dj = some (.bool c)) (hd : Nat.blt d N = true) (hy : c = true → Yd P N D E (St K H L) ⟨some d, op, ty, pos, aft, some (j, true)⟩ v)
    (k : At N D K ((d, bif c then v else undef) :: E) H L C) : At N D K E H L (uOp P r ops Q ⟨some d, op, ty, pos, aft, some (j, true)⟩ C) := by
  cases hc : c
  · rw [hc] at h2 k; exact p_skip ⟨dj, h1, .inl ⟨false, h2, rfl⟩⟩ rfl hd k
  · rw [hc] at h2 k; exact p_pure ⟨dj, true, h1, h2, rfl⟩ rfl hd (hy hc) k
theorem p_gf {d j dj : Nat} {c : Bool} {v : Value} {op : Op} (h1 : (ops[j]?).bind (·.dst) = some dj) (h2 : look E dj = some (.bool c)) (hd : Nat.blt d N = true) (hy : c = false → Yd P N D E (St K H L) ⟨some d, op, ty, pos, aft, some (j, false)⟩ v)
    (k : At N D K ((d, bif c then undef else v) :: E) H L C) : At N D K E H L (uOp P r ops Q ⟨some d, op, ty, pos, aft, some (j, false)⟩ C) := by
  cases hc : c
  · rw [hc] at h2 k; exact p_pure ⟨dj, false, h1, h2, rfl⟩ rfl hd (hy hc) k
  · rw [hc] at h2 k; exact p_skip ⟨dj, h1, .inl ⟨true, h2, rfl⟩⟩ rfl hd k
theorem mpn {E : Env} : ([] : List Operand).mapM (ev E) = some [] := rfl
theorem mpc {x : Operand} {xs : List Operand} {v : Value} {vs : List Value} (h : ev E x = some v) (k : xs.mapM (ev E) = some vs) : (x :: xs).mapM (ev E) = some (v :: vs) := by simp [List.mapM_cons, h, k]
/-- A call that only yields a value, carried out only if a truth value is so. -/
theorem e_callVt {f : FuncId} {fn : Func} {x : Operand} {xs : Array Operand} {ts : Array TypeId} {vs : List Value} {fs cap : Array Value} {all : List Value} {v : Value} {j dj : Nat} {c : Bool}
    (h1 : (ops[j]?).bind (·.dst) = some dj) (h2 : look E dj = some (.bool c)) (hd : Nat.blt dd N = true) (hf : P.funcs[f]? = some fn) (hb : fn.body.isNone = false) (hn : (fn.name == "runtime.NumGoroutine") = false)
    (hx : ev E x = some (.func (.func f) fs cap)) (hxs : c = true → xs.toList.mapM (ev E) = some vs) (hall : fs.toList ++ vs ++ cap.toList = all) (hc : ∀ w, Sub H w → Calls P f all.toArray w (PostV w H v))
    (k : At N D K ((dd, bif c then v else undef) :: E) H L C) : At N D K E H L (uOp P r ops Q ⟨some dd, .call ⟨.value x, xs, ts⟩, ty, pos, aft, some (j, true)⟩ C) := by
  cases hc' : c
  · rw [hc'] at h2 k; exact p_skip ⟨dj, h1, .inl ⟨false, h2, rfl⟩⟩ rfl hd k
  · rw [hc'] at h2 k; exact e_callV ⟨dj, true, h1, h2, rfl⟩ hd hf hb hn hx (hxs hc') hall hc k
theorem e_callVf {f : FuncId} {fn : Func} {x : Operand} {xs : Array Operand} {ts : Array TypeId} {vs : List Value} {fs cap : Array Value} {all : List Value} {v : Value} {j dj : Nat} {c : Bool}
    (h1 : (ops[j]?).bind (·.dst) = some dj) (h2 : look E dj = some (.bool c)) (hd : Nat.blt dd N = true) (hf : P.funcs[f]? = some fn) (hb : fn.body.isNone = false) (hn : (fn.name == "runtime.NumGoroutine") = false)
    (hx : ev E x = some (.func (.func f) fs cap)) (hxs : c = false → xs.toList.mapM (ev E) = some vs) (hall : fs.toList ++ vs ++ cap.toList = all) (hc : ∀ w, Sub H w → Calls P f all.toArray w (PostV w H v))
    (k : At N D K ((dd, bif c then undef else v) :: E) H L C) : At N D K E H L (uOp P r ops Q ⟨some dd, .call ⟨.value x, xs, ts⟩, ty, pos, aft, some (j, false)⟩ C) := by
  cases hc' : c
  · rw [hc'] at h2 k; exact e_callV ⟨dj, false, h1, h2, rfl⟩ hd hf hb hn hx (hxs hc') hall hc k
  · rw [hc'] at h2 k; exact p_skip ⟨dj, h1, .inl ⟨true, h2, rfl⟩⟩ rfl hd k

theorem y_load_rowW {T T0 b o i sz n c : Nat} {d : TypeDesc} {szT bt : Nat} {z u : Value} {x : Operand} {cs : List Value} (ht : Ty P T d szT z bt) (hd : aggD d = false) (hx : ev E x = some (.pointer (some ⟨b, o, none⟩))) (hi : L[i]? = some (.row (.slice (some ⟨b, 0, none⟩) n c) cs T0 sz)) (hu : cs[o]? = some u) :
    Yd P N D E (Sw H L) ⟨dst, .load T x, ty, pos, aft, g⟩ u := fun a w ha hs => by
  rcases hs.2 _ (List.mem_of_getElem? hi) with ⟨x, h1, h2⟩ | ⟨b', n', cap, junk, e', hc0, hn, hl, hjk, hb⟩
  · exfalso; subst h2; simp at hu
  cases e'
  have hlt : o < cs.length := (List.getElem?_eq_some_iff.1 hu).1
  have hcell : w.cell? ⟨b, o, none⟩ = some u := by
    have hh : (cs ++ junk)[o]? = some u := by rw [List.getElem?_append_left hlt]; exact hu
    simp only [rowObj] at hb
    simp only [World.cell?, hb]
    simpa using hh
  simp only [execOp, ha.eval hx]
  refine run_value (run_loadAt ?_)
  unfold loadVar
  rw [run_then (run_isAgg ht.u w), hd]
  exact run_load hcell
end
end Go.Lu
