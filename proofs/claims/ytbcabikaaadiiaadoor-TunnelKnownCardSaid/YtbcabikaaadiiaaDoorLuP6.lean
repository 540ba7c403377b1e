/-
  States whose last own blocks are a family's; a function that holds a range over a function.
-/
import Derived.Test.YtbcabikaaadiiaaDoorLuP5
import Derived.Scope
namespace Go.Lu
open Go Go.Proofs
set_option maxRecDepth 100000
set_option linter.unusedVariables false

section
variable {P : Program} {F : Fence} {n : Nat} {Q : Exit → Act → World → Prop} {a : Act} {w : World} {b : Frame} {k : List Item} {cs : List Frame}
theorem stepR_scope {c : Code} : step P (lone (b.atR a (.code (.scope c) :: k)) cs w) = .next (lone (b.atR a (.code c :: .inScope c :: k)) cs w) :=
  step_lone_go (by simp [stepG, stepG.exec, Frame.atR])
theorem stepR_inScope {c : Code} : step P (lone (b.atR a (.inScope c :: k)) cs w) = .next (lone (b.atR a k) cs w) :=
  step_lone_go (by simp [stepG, stepG.exec, Frame.atR])
theorem wpIn_scope {c : Code} (h : c.wpIn F n P (Exit.noGoto Q) a w) : (Code.scope c).wpIn F n P Q a w := by
  intro b k cs hro hb hr
  have h0 : (lone (b.atR a (.code (.scope c) :: k)) cs w).fenced P F := fenced_calm hb hr rfl
  obtain ⟨e, a₁, w₁, hq, harr⟩ := h b (.inScope c :: k) cs hro hb hr
  cases e with
  | normal => exact ⟨.normal, a₁, w₁, hq, .head h0 stepR_scope (StepsIn.trans harr (.one (fenced_calm hb hr rfl) stepR_inScope))⟩
  | exit id' =>
    have hx : exitTo id' (.inScope c :: k) = exitTo id' k := by simp [exitTo]
    exact ⟨.exit id', a₁, w₁, hq, fun k' hk => .head h0 stepR_scope (harr.1 k' (by rw [hx]; exact hk)),
      fun hr' hk => let ⟨k₁, h1, h2⟩ := harr.2 hr' (by rw [hx]; exact hk); ⟨k₁, h1, .head h0 stepR_scope h2⟩⟩
  | goto l => exact hq.elim
  | ret => exact ⟨_, a₁, w₁, hq, .of_steps (.one h0 stepR_scope) harr⟩
  | panic ch => exact ⟨_, a₁, w₁, hq, .of_steps (.one h0 stepR_scope) harr⟩
  | outgrown => exact ⟨_, a₁, w₁, hq, .of_steps (.one h0 stepR_scope) harr⟩
end

section
variable {P : Program} {r : Option Nat} {N : Nat} {D : List Deferred} {K : Kp} {E : Env} {H : Hp} {L : List Ass} {Q : Exit → Act → World → Prop}
theorem a_scoped {c : Code} (h : At N D K E H L (Cx P r c (Exit.noGoto Q))) : At N D K E H L (Cx P r (.scope c) Q) := fun a w ha hs => wpIn_scope (h a w ha hs)
theorem a_ng_normal (h : At N D K E H L (Q .normal)) : At N D K E H L (Exit.noGoto Q .normal) := h
theorem a_ng_ret (h : At N D K E H L (Q .ret)) : At N D K E H L (Exit.noGoto Q .ret) := h
theorem a_ng_exit {id : Nat} (h : At N D K E H L (Q (.exit id))) : At N D K E H L (Exit.noGoto Q (.exit id)) := h
end

section
variable {P : Program} {r : Option Nat} {N : Nat} {D : List Deferred} {K : Kp} {E : Env} {H : Hp} {L A B : List Ass} {ops : Array Oper} {Q : Exit → Act → World → Prop} {C : Act → World → Prop}
variable {dst : Option Tmp} {ty : TypeId} {pos : String} {aft : Array Edge} {g : Option (Nat × Bool)} {dd : Nat} {w : World}

theorem St.perm {L' : List Ass} (h : St K H L w) (hp : L.Perm L') : St K H L' w :=
  ⟨h.sub, h.le, fun x hx => h.ok x (hp.mem_iff.2 hx), (hp.pairwise_iff (fun h b hb hb' => h b hb' hb)).1 h.dis, fun x hx => h.sep x (hp.mem_iff.2 hx), fun x hx => h.mine x (hp.mem_iff.2 hx), h.size, h.keep, h.hpre, h.io⟩
theorem St.reixS (h : St K H (A ++ B) w) (is : List Nat) (hn : is.Nodup) : St K H (is.filterMap (A[·]?) ++ B) w := by
  have hA := (h.pick (List.sublist_append_left A B)).reix is hn
  have hm : ∀ x ∈ is.filterMap (A[·]?), x ∈ A := fun x hx => by
    obtain ⟨i, _, hi⟩ := List.mem_filterMap.1 hx; exact List.mem_of_getElem? hi
  have hm' : ∀ x ∈ is.filterMap (A[·]?) ++ B, x ∈ A ++ B := fun x hx => by
    rcases List.mem_append.1 hx with hx | hx
    · exact List.mem_append.2 (.inl (hm x hx))
    · exact List.mem_append.2 (.inr hx)
  obtain ⟨_, h2, h3⟩ := List.pairwise_append.1 h.dis
  exact ⟨h.sub, h.le, fun x hx => h.ok x (hm' x hx), List.pairwise_append.2 ⟨hA.dis, h2, fun x hx y hy => h3 x (hm x hx) y hy⟩, fun x hx => h.sep x (hm' x hx), fun x hx => h.mine x (hm' x hx), h.size, h.keep, h.hpre, h.io⟩
theorem a_ownS {A' : List Ass} (is : List Nat) (hn : is.Nodup) (hL : is.filterMap (A[·]?) = A') (h : At N D K E H (A' ++ B) C) : At N D K E H (A ++ B) C := fun a w ha hw => h a w ha (hL ▸ hw.reixS is hn)
theorem a_perm {L' : List Ass} (hp : L.Perm L') (h : At N D K E H L' C) : At N D K E H L C := fun a w ha hw => h a w ha (hw.perm hp)

variable {σ α : Type} [Rp α] {Bs : Blks σ} {s s' : σ} {step : σ → α → Option σ}

theorem startX {f : FuncId} {fn : Func} {c : Code} {args : List Value} {n : Nat} {R : Value → Hp → World → Prop}
    (hf : P.funcs[f]? = some fn) (hb : fn.body = some c) (hn : fn.ntmps = n) (hE : Sublist E (args.zipIdx.map fun p => (p.2, p.1))) (hl : Nat.ble args.length n = true) (hsub : Sub H w) (hX : HX Bs s H w)
    (h : At n [] ⟨w, H, Xs Bs⟩ E H ([] ++ LXs Bs s) (Cx P none c (bodyPost P fn (Post w H (Xs Bs) R)))) : Calls P f args.toArray w (Post w H (Xs Bs) R) :=
  calls_out (callsIn_of_wp hf hb trivial (h _ _ (args_ag hn hE hl) (St.initX hsub hX)))

theorem a_doneX {fn : Func} {w0 : World} {H0 : Hp} {v v' : Value} {e : Exit} (he : e = .ret ∨ e = .normal) (hD : D = []) (hv : v = v')
    (hres : ∀ a w, Ag N D E a → St ⟨w0, H0, Xs Bs⟩ H (A ++ LXs Bs s) w → (results fn a.tmps).run P w = .ok v w) : At N D ⟨w0, H0, Xs Bs⟩ E H (A ++ LXs Bs s) (bodyPost P fn (Post w0 H0 (Xs Bs) fun u _ w' => u = v' ∧ Oks Bs s w') e) :=
  a_done he hD hres fun w hs => ⟨hv, (St.hx (L := A) (hs.perm List.perm_append_comm)).ok⟩

theorem e_yieldS {x a0 : Operand} {y : Value} {ts : Array TypeId} {cs : List Value} {u : α} (hw : Wn ops E g) (hd : Nat.blt dd N = true) (hx : ev E x = some y) (ha0 : ev E a0 = some (.agg cs.toArray)) (hu : Rp.rep H cs u) (hy : Yields P y Bs step H) (hs : step s u = some s')
    (k : ∀ H', HLe H H' → At N D K ((dd, .bool true) :: E) H' (A ++ LXs Bs s') C) : At N D K E H (A ++ LXs Bs s) (uOp P none ops Q ⟨some dd, .call ⟨.value x, #[a0], ts⟩, ty, pos, aft, g⟩ C) :=
  a_perm List.perm_append_comm (e_yield hw hd hx ha0 hu hy hs fun H' hl => a_perm List.perm_append_comm (k H' hl))

theorem e_callX {f : FuncId} {fn : Func} {x : Operand} {xs : Array Operand} {ts : Array TypeId} {vs : List Value} {fs cap : Array Value} {all : List Value} {v : Value}
    (hw : Wn ops E g) (hd : Nat.blt dd N = true) (hf : P.funcs[f]? = some fn) (hb : fn.body.isNone = false) (hn : (fn.name == "runtime.NumGoroutine") = false)
    (hx : ev E x = some (.func (.func f) fs cap)) (hxs : xs.toList.mapM (ev E) = some vs) (hall : fs.toList ++ vs ++ cap.toList = all)
    (hc : ∀ w, Sub H w → HX Bs s H w → Calls P f all.toArray w (Post w H (Xs Bs) fun u _ w' => u = v ∧ Oks Bs s' w'))
    (k : ∀ H', HLe H H' → At N D K ((dd, v) :: E) H' (A ++ LXs Bs s') C) : At N D K E H (A ++ LXs Bs s) (uOp P r ops Q ⟨some dd, .call ⟨.value x, xs, ts⟩, ty, pos, aft, g⟩ C) :=
  a_perm List.perm_append_comm (e_call hw hd hf hb hn hx hxs hall (fun w hs => hc w hs.sub hs.hx) fun u H' w w' hs hl hu a ha => by
    obtain ⟨rfl, hok⟩ := hu
    exact k H' hl.le a w' ha ((hs.calledX hl hok).perm List.perm_append_comm))

/-! ### A function that holds a range over a function -/
theorem startMm {f : FuncId} {fn : Func} {c : Code} {args : List Value} {M : Nat} {p : Obj → Prop} {R : Value → Hp → Prop} {n : Nat}
    (hf : P.funcs[f]? = some fn) (hb : fn.body = some c) (hn : fn.ntmps = n) (hE : Sublist E (args.zipIdx.map fun p => (p.2, p.1))) (hl : Nat.ble args.length n = true) (hsub : Sub H w)
    (ho : ∃ o, w.heap[M]? = some o ∧ p o) (hM : H M = none)
    (h : At n [] ⟨w, H, (· = M)⟩ E H [.blk M p] (Cx P none c (bodyPostM (FW none) 0 P fn (PostM w H M p R)))) : Calls P f args.toArray w (PostM w H M p R) :=
  calls_out (callsIn_of_wp_marks hf hb trivial (h _ _ (args_ag hn hE hl) (St.initM w H M p hsub ho hM)))

theorem a_doneMm {fn : Func} {w0 : World} {H0 : Hp} {M d i j : Nat} {p : Obj → Prop} {R : Value → Hp → Prop} {v : Value} {e : Exit} (he : e = .ret ∨ e = .normal) (hD : D = [{ target := .collected d, args := #[] }])
    (hi : L[i]? = some (.blk M p)) (hj : L[j]? = some (.blk d (fun o => o = .deferred (some [])))) (hij : i ≠ j)
    (hres : ∀ a w, Ag N D E a → St ⟨w0, H0, (· = M)⟩ H (L.set j (.blk d (fun _ => True))) w → (results fn a.tmps).run P w = .ok v w) (hR : R v H) : At N D ⟨w0, H0, (· = M)⟩ E H L (bodyPostM (FW none) 0 P fn (PostM w0 H0 M p R) e) := fun a w ha hs => by
  obtain ⟨o, ho, rfl⟩ := hs.ok _ (List.mem_of_getElem? hj)
  have h2 := hs.put (o' := .deferred none) (q := fun _ => True) hj trivial
  have hi2 : (L.set j (.blk d (fun _ => True)))[i]? = some (.blk M p) := by rw [List.getElem?_set_ne (Ne.symm hij)]; exact hi
  have hfin : LeavesInM (FW none) 0 P fn a.tmps (PostM w0 H0 M p R) a.defers .returning w := by
    rw [ha.defs, hD]
    refine ⟨by simp, .inl ⟨d, _, rfl, run_takeDeferred ho, v, hres a _ ha h2, v, H, rfl, h2.left, hR, h2.ok _ (List.mem_of_getElem? hi2)⟩⟩
  rcases he with rfl | rfl <;> exact hfin
end
end Go.Lu
