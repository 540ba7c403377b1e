/-
  More rules: maps that remember, calls that turn a block or hand over new ones, arrays in boxes, own rows written.
-/
import Derived.Test.YtbcabikaaadiiaaDoorLuP1
namespace Go.Lu
open Go Go.Proofs
set_option maxRecDepth 100000
set_option linter.unusedVariables false

section
variable {P : Program} {r : Option Nat} {N : Nat} {D : List Deferred} {K : Kp} {E : Env} {H : Hp} {L : List Ass} {ops : Array Oper} {Q : Exit → Act → World → Prop} {C : Act → World → Prop}
variable {dst : Option Tmp} {ty : TypeId} {pos : String} {aft : Array Edge} {g : Option (Nat × Bool)} {dd : Nat} {G : World → Prop}

theorem args_ag {fn : Func} {args : List Value} {n : Nat} (hn : fn.ntmps = n) (hE : Sublist E (args.zipIdx.map fun p => (p.2, p.1))) (hl : Nat.ble args.length n = true) :
    Ag n [] E { tmps := args.toArray ++ Array.replicate (fn.ntmps - args.toArray.size) undef, defers := [] } := by
  subst hn
  have hl' : args.length ≤ fn.ntmps := Nat.le_of_ble_eq_true hl
  have base : Ag fn.ntmps [] (args.zipIdx.map fun p => (p.2, p.1)) { tmps := args.toArray ++ Array.replicate (fn.ntmps - args.toArray.size) undef, defers := [] } := by
    refine ⟨by simp; omega, rfl, fun t v hv => ?_⟩
    have key : ∀ (l : List Value) (k t : Nat) (v : Value), look ((l.zipIdx k).map fun p => (p.2, p.1)) t = some v → k ≤ t ∧ l[t - k]? = some v := by
      intro l
      induction l with
      | nil => intro k t v h; simp [look] at h
      | cons x l ih =>
        intro k t v h
        simp only [List.zipIdx_cons, List.map_cons] at h
        by_cases e : k = t
        · subst e; rw [look_cons_eq] at h; cases h; simp
        · rw [look_cons_ne _ _ e] at h
          obtain ⟨h1, h2⟩ := ih (k + 1) t v h
          refine ⟨by omega, ?_⟩
          rw [show t - k = (t - (k + 1)) + 1 by omega]; simpa using h2
    obtain ⟨_, h2⟩ := key args 0 t v hv
    simp at h2
    obtain ⟨hlt, he⟩ := List.getElem?_eq_some_iff.1 h2
    refine ⟨by omega, ?_⟩
    rw [Array.getD_eq_getD_getElem?, Array.getElem?_append_left (by simpa using hlt)]
    simp [h2]
  exact base.weaken hE

/-! ### Calls that turn one block -/
def PostM (w : World) (H : Hp) (M : Nat) (p : Obj → Prop) (R : Value → Hp → Prop) : Ending → World → Prop := Post w H (· = M) fun u H' w' => R u H' ∧ ∃ o, w'.heap[M]? = some o ∧ p o

theorem St.initM (w : World) (H : Hp) (M : Nat) (p : Obj → Prop) (h : Sub H w) (ho : ∃ o, w.heap[M]? = some o ∧ p o) (hn : H M = none) : St ⟨w, H, (· = M)⟩ H [.blk M p] w :=
  ⟨h, HLe.refl _, fun x hx => (by simp at hx; subst hx; exact ho), List.pairwise_singleton _ _, fun x hx b hb => (by simp at hx; subst hx; simp [Ass.foot] at hb; subst hb; exact hn), fun x hx => (by simp at hx; subst hx; exact fun _ => rfl), Nat.le_refl _, fun _ _ _ => rfl, fun _ _ => rfl, rfl, rfl⟩

theorem startM {f : FuncId} {fn : Func} {c : Code} {args : List Value} {w : World} {M : Nat} {p : Obj → Prop} {R : Value → Hp → Prop} {n : Nat}
    (hf : P.funcs[f]? = some fn) (hb : fn.body = some c) (hn : fn.ntmps = n) (hE : Sublist E (args.zipIdx.map fun p => (p.2, p.1))) (hl : Nat.ble args.length n = true) (hsub : Sub H w)
    (ho : ∃ o, w.heap[M]? = some o ∧ p o) (hM : H M = none)
    (h : At n [] ⟨w, H, (· = M)⟩ E H [.blk M p] (Cx P none c (bodyPost P fn (PostM w H M p R)))) : Calls P f args.toArray w (PostM w H M p R) :=
  calls_out (callsIn_of_wp hf hb trivial (h _ _ (args_ag hn hE hl) (St.initM w H M p hsub ho hM)))

theorem a_doneM {fn : Func} {w0 : World} {H0 : Hp} {M i : Nat} {p : Obj → Prop} {R : Value → Hp → Prop} {v : Value} {e : Exit} (he : e = .ret ∨ e = .normal) (hD : D = [])
    (hi : L[i]? = some (.blk M p)) (hres : ∀ a w, Ag N D E a → St ⟨w0, H0, (· = M)⟩ H L w → (results fn a.tmps).run P w = .ok v w) (hR : R v H) : At N D ⟨w0, H0, (· = M)⟩ E H L (bodyPost P fn (PostM w0 H0 M p R) e) :=
  a_done he hD hres fun w hs => ⟨hR, hs.ok _ (List.mem_of_getElem? hi)⟩

theorem e_callM {f : FuncId} {fn : Func} {x : Operand} {xs : Array Operand} {ts : Array TypeId} {vs : List Value} {fs cap : Array Value} {all : List Value} {M i : Nat} {p : Obj → Prop} {R : Value → Hp → Prop}
    (hw : Wn ops E g) (hd : Nat.blt dd N = true) (hf : P.funcs[f]? = some fn) (hb : fn.body.isNone = false) (hn : (fn.name == "runtime.NumGoroutine") = false)
    (hx : ev E x = some (.func (.func f) fs cap)) (hxs : xs.toList.mapM (ev E) = some vs) (hall : fs.toList ++ vs ++ cap.toList = all) (hi : L[i]? = some (.blk M p))
    (hc : ∀ w, Sub H w → (∃ o, w.heap[M]? = some o ∧ p o) → H M = none → Calls P f all.toArray w (PostM w H M p R))
    (k : ∀ v H', HLe H H' → R v H' → At N D K ((dd, v) :: E) H' L C) : At N D K E H L (uOp P r ops Q ⟨some dd, .call ⟨.value x, xs, ts⟩, ty, pos, aft, g⟩ C) := by
  have hmem := List.mem_of_getElem? hi
  refine e_call hw hd hf hb hn hx hxs hall (fun w hs => hc w hs.sub (hs.ok _ hmem) (hs.sep _ hmem M (by simp [Ass.foot]))) fun u H' w w' hs hl hu a ha => ?_
  obtain ⟨hu, ho⟩ := hu
  refine k u H' hl.le hu a w' ha ?_
  obtain ⟨e1, _⟩ := list_split hi
  rw [e1] at hs ⊢
  exact hs.calledM hl ho

/-! ### Calls that hand over new blocks -/
structure Own (n0 : Nat) (H' : Hp) (Ls : List Ass) (w' : World) : Prop where
  ok : ∀ x ∈ Ls, x.ok w'
  dis : Ls.Pairwise (fun x y => ∀ b ∈ x.foot, b ∉ y.foot)
  new : ∀ x ∈ Ls, ∀ b ∈ x.foot, n0 ≤ b ∧ H' b = none

def PostO (w : World) (H : Hp) (R : Value → Hp → List Ass → Prop) : Ending → World → Prop := Post w H noX fun u H' w' => ∃ Ls, R u H' Ls ∧ Own w.heap.size H' Ls w'

theorem Ass.mine_new {x : Ass} {n0 n : Nat} {X : Nat → Prop} (h : ∀ b ∈ x.foot, n ≤ b) (hle : n0 ≤ n) : x.mine n0 X := by
  cases x with
  | emp => trivial
  | box b cs T => exact Nat.le_trans hle (h b (by simp [Ass.foot]))
  | row v cs T sz => exact fun b hb => Nat.le_trans hle (h b hb)
  | blk b p => intro hlt; have := h b (by simp [Ass.foot]); omega

theorem St.calledO {H' : Hp} {Ls : List Ass} {w w' : World} (h : St K H L w) (hl : Left w H noX H' w') (ho : Own w.heap.size H' Ls w') : St K H' (Ls ++ L) w' := by
  have h1 := h.called hl
  have hlt : ∀ y ∈ L, ∀ b ∈ y.foot, b < w.heap.size := fun y hy => Ass.ok_lt (h.ok y hy)
  refine ⟨h1.sub, h1.le, ?_, ?_, ?_, ?_, h1.size, h1.keep, h1.hpre, h1.io⟩
  · intro x hx; rcases List.mem_append.1 hx with hx | hx; exact ho.ok x hx; exact h1.ok x hx
  · exact List.pairwise_append.2 ⟨ho.dis, h1.dis, fun x hx y hy b hb hb' => by have := (ho.new x hx b hb).1; have := hlt y hy b hb'; omega⟩
  · intro x hx b hb; rcases List.mem_append.1 hx with hx | hx; exact (ho.new x hx b hb).2; exact h1.sep x hx b hb
  · intro x hx; rcases List.mem_append.1 hx with hx | hx
    · exact Ass.mine_new (fun b hb => (ho.new x hx b hb).1) h.size
    · exact h1.mine x hx

theorem e_callW {f : FuncId} {fn : Func} {x : Operand} {xs : Array Operand} {ts : Array TypeId} {vs : List Value} {fs cap : Array Value} {all : List Value} {X : Nat → Prop} {R : World → Value → Hp → World → Prop}
    (hw : Wn ops E g) (hd : Nat.blt dd N = true) (hf : P.funcs[f]? = some fn) (hb : fn.body.isNone = false) (hn : (fn.name == "runtime.NumGoroutine") = false)
    (hx : ev E x = some (.func (.func f) fs cap)) (hxs : xs.toList.mapM (ev E) = some vs) (hall : fs.toList ++ vs ++ cap.toList = all)
    (hc : ∀ w, St K H L w → Calls P f all.toArray w (Post w H X (R w)))
    (k : ∀ v H' w w', St K H L w → Left w H X H' w' → R w v H' w' → ∀ a, Ag N D ((dd, v) :: E) a → C a w') : At N D K E H L (uOp P r ops Q ⟨some dd, .call ⟨.value x, xs, ts⟩, ty, pos, aft, g⟩ C) := fun a w ha hs => by
  have key : ∀ (l : List Operand) (vs : List Value), l.mapM (ev E) = some vs → l.map a.eval = vs := by
    intro l
    induction l with
    | nil => intro vs h; simp at h; subst h; rfl
    | cons x l ih =>
      intro vs h
      simp only [List.mapM_cons, Option.bind_eq_bind, Option.bind_eq_some_iff] at h
      obtain ⟨v, hv, us, hus, h⟩ := h
      cases h
      simp [ha.eval hv, ih us hus]
  have e1 : xs.map a.eval = vs.toArray := by rw [← key _ _ hxs]; cases xs; simp
  have hr : (execOp a.eval ⟨some dd, .call ⟨.value x, xs, ts⟩, ty, pos, aft, g⟩).run P w = .ok (.enter f all.toArray) w := by
    simp only [execOp, resolve, e1, ha.eval hx]
    show ((Deferred.ofValue (.func (.func f) fs cap) vs.toArray) >>= fun d => invoke d.target d.args).run P w = _
    rw [run_then (show (Deferred.ofValue (.func (.func f) fs cap) vs.toArray).run P w = .ok ⟨.fn (.func f) cap, fs ++ vs.toArray⟩ w from rfl)]
    show (callFunc f (fs ++ vs.toArray ++ cap)).run P w = _
    rw [show fs ++ vs.toArray ++ cap = all.toArray from by rw [← hall]; apply Array.ext'; simp]; exact run_callFunc hf hb hn w
  unfold uOp
  simp only [hw.wanted (o := ⟨some dd, .call ⟨.value x, xs, ts⟩, ty, pos, aft, g⟩) ha, if_true, hr, Oper.uponIn]
  refine ⟨fun h => by simp [FW] at h, CallsIn.mono (calls_in r (hc w hs)) fun e w' he => ?_⟩
  obtain ⟨v, H', rfl, hl, hR⟩ := he
  exact k v H' w w' hs hl hR _ (ha.put v hd)


theorem e_callO {f : FuncId} {fn : Func} {x : Operand} {xs : Array Operand} {ts : Array TypeId} {vs : List Value} {fs cap : Array Value} {all : List Value} {R : Value → Hp → List Ass → Prop}
    (hw : Wn ops E g) (hd : Nat.blt dd N = true) (hf : P.funcs[f]? = some fn) (hb : fn.body.isNone = false) (hn : (fn.name == "runtime.NumGoroutine") = false)
    (hx : ev E x = some (.func (.func f) fs cap)) (hxs : xs.toList.mapM (ev E) = some vs) (hall : fs.toList ++ vs ++ cap.toList = all)
    (hc : ∀ w, Sub H w → Calls P f all.toArray w (PostO w H R))
    (k : ∀ v H' Ls, HLe H H' → R v H' Ls → At N D K ((dd, v) :: E) H' (Ls ++ L) C) : At N D K E H L (uOp P r ops Q ⟨some dd, .call ⟨.value x, xs, ts⟩, ty, pos, aft, g⟩ C) :=
  e_callW (X := noX) (R := fun w u H' w' => ∃ Ls, R u H' Ls ∧ Own w.heap.size H' Ls w') hw hd hf hb hn hx hxs hall (fun w hs => hc w hs.sub) fun u H' w w' hs hl hu a ha => by
    obtain ⟨Ls, hR, ho⟩ := hu
    exact k u H' Ls hl.le hR a w' ha (hs.calledO hl ho)

/-- What a call's own blocks are at its end, as it hands them over. -/
theorem St.own {w0 w : World} {H0 : Hp} {Ls : List Ass} (h : St ⟨w0, H0, noX⟩ H L w) (is : List Nat) (hn : is.Nodup) (hL : is.filterMap (L[·]?) = Ls) : Own w0.heap.size H Ls w := by
  have h' := h.reix is hn
  rw [hL] at h'
  refine ⟨h'.ok, h'.dis, fun x hx b hb => ⟨?_, h'.sep x hx b hb⟩⟩
  have hm := h'.mine x hx
  cases x with
  | emp => cases hb
  | box c cs T => simp [Ass.foot] at hb; subst hb; exact hm
  | row v cs T sz => exact hm b hb
  | blk c p =>
    simp [Ass.foot] at hb; subst hb
    by_cases hlt : b < w0.heap.size
    · exact (hm hlt).elim
    · omega

theorem a_doneO {fn : Func} {w0 : World} {H0 : Hp} {R : Value → Hp → List Ass → Prop} {v : Value} {e : Exit} (he : e = .ret ∨ e = .normal) (hD : D = []) (is : List Nat) (hn : is.Nodup) {Ls : List Ass} (hL : is.filterMap (L[·]?) = Ls)
    (hres : ∀ a w, Ag N D E a → St ⟨w0, H0, noX⟩ H L w → (results fn a.tmps).run P w = .ok v w) (hR : R v H Ls) : At N D ⟨w0, H0, noX⟩ E H L (bodyPost P fn (PostO w0 H0 R) e) :=
  a_done he hD hres fun w hs => ⟨Ls, hR, hs.own is hn hL⟩

/-! ### Maps -/
theorem e_makeMap {T : TypeId} (p : Obj → Prop) (hp : p (.map #[] 0)) (hw : Wn ops E g) (hd : Nat.blt dd N = true)
    (k : ∀ M, At N D K ((dd, .map (some M)) :: E) H (.blk M p :: L) C) : At N D K E H L (uOp P r ops Q ⟨some dd, .makeMap T none, ty, pos, aft, g⟩ C) := by
  refine e_value hw rfl hd fun a w ha hs => ⟨.map (some w.heap.size), w.alloc (.map #[] 0), rfl, fun a' ha' => k _ a' _ ha' ?_⟩
  refine hs.alloc (x := .blk w.heap.size p) ⟨_, heap_alloc_new _ _, hp⟩ (fun b hb => by simpa [Ass.foot] using hb) (fun hlt => absurd hs.size (by omega))
end

section
variable {r : Option Nat} {N : Nat} {D : List Deferred} {K : Kp} {E : Env} {H : Hp} {L : List Ass} {ops : Array Oper} {Q : Exit → Act → World → Prop} {C : Act → World → Prop}
variable {dst : Option Tmp} {ty : TypeId} {pos : String} {aft : Array Edge} {g : Option (Nat × Bool)} {dd : Nat} {G : World → Prop} {good : Int → List Int → Int → Int → Prop}
theorem e_lookup108 {M i : Nat} {x y : Operand} {f a b c d : Int} (hw : Wn ops E g) (hd : Nat.blt dd N = true) (hi : L[i]? = some (.blk M (MemoO good))) (hx : ev E x = some (.map (some M))) (hy : ev E y = some (.agg [.int .i64 f, .int .i64 a, .int .i64 b, .int .i64 c, .int .i64 d].toArray))
    (k : ∀ found p q, (found = true → good f [a, b, c, d] p q) → At N D K ((dd, .tuple #[V2 p q, .bool found]) :: E) H L C) : At N D K E H L (uOp Tryd.prog r ops Q ⟨some dd, .lookup 108 x y true, ty, pos, aft, g⟩ C) := fun a' w ha hs => by
  obtain ⟨o, ho, hm⟩ := hs.ok _ (List.mem_of_getElem? hi)
  obtain ⟨found, p, q, hg, hr⟩ := lookup108 f a b c d ho hm
  unfold uOp
  have he : (execOp a'.eval ⟨some dd, .lookup 108 x y true, ty, pos, aft, g⟩).run Tryd.prog w = .ok (.value (.tuple #[V2 p q, .bool found])) w := by
    simp only [execOp, ha.eval hx, ha.eval hy]
    exact run_value hr
  simp only [hw.wanted (o := ⟨some dd, .lookup 108 x y true, ty, pos, aft, g⟩) ha, if_true, he, Oper.uponIn]
  exact k found p q hg _ w (ha.put _ hd) hs

theorem e_update108 {M i : Nat} {x y z : Operand} {f a b c d p q : Int} (hw : Wn ops E g) (hi : L[i]? = some (.blk M (MemoO good))) (hx : ev E x = some (.map (some M))) (hy : ev E y = some (.agg [.int .i64 f, .int .i64 a, .int .i64 b, .int .i64 c, .int .i64 d].toArray)) (hz : ev E z = some (.agg [.int .i64 p, .int .i64 q].toArray))
    (hg : good f [a, b, c, d] p q) (k : At N D K E H L C) : At N D K E H L (uOp Tryd.prog r ops Q ⟨none, .mapUpdate 108 x y z, ty, pos, aft, g⟩ C) := by
  refine e_skip hw rfl fun a' w ha hs => ?_
  obtain ⟨o, ho, hm⟩ := hs.ok _ (List.mem_of_getElem? hi)
  obtain ⟨o', w', hr, hm', hh, hio⟩ := update108 ho hm hg
  refine ⟨w', ?_, k a' w' ha ?_⟩
  · simp only [execOp, ha.eval hx, ha.eval hy, ha.eval hz]
    exact run_then (f := fun _ => (pure Next.skip : Sem Next)) hr
  · have hlt := (Array.getElem?_eq_some_iff.1 ho).1
    have e := hs.turnAt (y := .blk M (MemoO good)) (w' := w') hi ⟨o', by rw [hh]; simp [hlt], hm'⟩ (fun b hb => .inl hb) (hs.mine _ (List.mem_of_getElem? hi)) (by rw [hh]; simp) (fun r _ hne => by
      rw [hh]; simp [Ass.foot] at hne; exact Array.getElem?_setIfInBounds_ne (Ne.symm hne)) hio
    have : L.set i (.blk M (MemoO good)) = L := by
      obtain ⟨h1, h2⟩ := List.getElem?_eq_some_iff.1 hi
      rw [← h2]; exact List.set_getElem_self h1
    rwa [this] at e
end
end Go.Lu
