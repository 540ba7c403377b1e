/-
  The rules: one operation at a time, over an environment, a frozen heap, own blocks.
-/
import Derived.Test.YtbcabikaaadiiaaDoorLuCore3
namespace Go.Lu
open Go

/-- In every state that the environment and the own blocks describe. -/
def At (N : Nat) (D : List Deferred) (K : Kp) (E : Env) (H : Hp) (L : List Ass) (Φ : Act → World → Prop) : Prop := ∀ a w, Ag N D E a → St K H L w → Φ a w

def Wn (ops : Array Oper) (E : Env) : Option (Nat × Bool) → Prop
  | none => True
  | some (j, want) => ∃ d b, (ops[j]?).bind (·.dst) = some d ∧ look E d = some (.bool b) ∧ b = want

def Sk (ops : Array Oper) (E : Env) : Option (Nat × Bool) → Prop
  | none => False
  | some (j, want) => ∃ d, (ops[j]?).bind (·.dst) = some d ∧ ((∃ b, look E d = some (.bool b) ∧ b = !want) ∨ look E d = some undef)

/-- A pure operation: in each world that meets G it yields v and does nothing else. -/
def Yd (P : Program) (N : Nat) (D : List Deferred) (E : Env) (G : World → Prop) (o : Oper) (v : Value) : Prop :=
  ∀ a w, Ag N D E a → G w → (execOp a.eval o).run P w = .ok (.value v) w

section
variable {P : Program} {r : Option Nat} {N : Nat} {D : List Deferred} {K : Kp} {E : Env} {H : Hp} {L : List Ass} {ops : Array Oper} {Q : Exit → Act → World → Prop} {o : Oper} {rest : List Oper} {C : Act → World → Prop}

theorem getD_some {a : Array Value} {d : Nat} {v : Value} (hd : d < a.size) (h : a.getD d undef = v) : a[d]? = some v := by
  rw [Array.getD_eq_getD_getElem?] at h
  simp [hd] at h ⊢; exact h

theorem Wn.wanted {a : Act} (h : Wn ops E o.guard) (ha : Ag N D E a) : Region.wanted o (yielded ops a.tmps) = true := by
  unfold Region.wanted
  cases hg : o.guard with
  | none => rfl
  | some p =>
    obtain ⟨j, want⟩ := p
    rw [hg] at h
    obtain ⟨d, b, hd, hl, rfl⟩ := h
    obtain ⟨h1, h2⟩ := ha.get d _ hl
    simp [yielded, hd, getD_some (by rw [ha.size]; exact h1) h2]

theorem Sk.unwanted {a : Act} (h : Sk ops E o.guard) (ha : Ag N D E a) : Region.wanted o (yielded ops a.tmps) = false := by
  unfold Region.wanted
  cases hg : o.guard with
  | none => rw [hg] at h; exact h.elim
  | some p =>
    obtain ⟨j, want⟩ := p
    rw [hg] at h
    obtain ⟨d, hd, hl⟩ := h
    rcases hl with ⟨b, hl, rfl⟩ | hl
    · obtain ⟨h1, h2⟩ := ha.get d _ hl
      simp [yielded, hd, getD_some (by rw [ha.size]; exact h1) h2]
    · obtain ⟨h1, h2⟩ := ha.get d _ hl
      simp [yielded, hd, getD_some (by rw [ha.size]; exact h1) h2, undef]

/-! ### From code to operations -/
theorem a_seq {x y : Code} (h : At N D K E H L (Cx P r x (Exit.then (Cx P r y Q) Q))) : At N D K E H L (Cx P r (.seq x y) Q) := fun a w ha hs => wpIn_seq (h a w ha hs)
theorem a_skip (h : At N D K E H L (Q .normal)) : At N D K E H L (Cx P r .skip Q) := fun a w ha hs => wpIn_skip (h a w ha hs)
theorem a_label {l : Nat} (h : At N D K E H L (Q .normal)) : At N D K E H L (Cx P r (.label l) Q) := fun a w ha hs => wpIn_label (h a w ha hs)
theorem a_exit {id : Nat} (h : At N D K E H L (Q (.exit id))) : At N D K E H L (Cx P r (.exit id) Q) := fun a w ha hs => wpIn_exit (h a w ha hs)
theorem a_ret (h : At N D K E H L (Q .ret)) : At N D K E H L (Cx P r .ret Q) := fun a w ha hs => wpIn_ret (h a w ha hs)
theorem a_block {id : Nat} {c : Code} (h : At N D K E H L (Cx P r c (Exit.inBlock id Q))) : At N D K E H L (Cx P r (.block id c) Q) := fun a w ha hs => wpIn_block (h a w ha hs)
theorem a_cond {c : Operand} {x y : Code} {t : Bool} (hc : ev E c = some (.bool t)) (ht : t = true → At N D K E H L (Cx P r x Q)) (hf : t = false → At N D K E H L (Cx P r y Q)) : At N D K E H L (Cx P r (.cond c x y) Q) :=
  fun a w ha hs => wpIn_cond_split (ha.eval hc) (fun h => ht h a w ha hs) (fun h => hf h a w ha hs)
theorem a_scope {c : Code} (h : At N D K E H L (Cx P r c Q)) : At N D K E H L (Cx P r c Q) := h
theorem a_then (h : At N D K E H L C) : At N D K E H L (Exit.then C Q .normal) := h
theorem a_then_exit {id : Nat} (h : At N D K E H L (Q (.exit id))) : At N D K E H L (Exit.then C Q (.exit id)) := h
theorem a_then_ret (h : At N D K E H L (Q .ret)) : At N D K E H L (Exit.then C Q .ret) := h
theorem a_block_ret {id : Nat} (h : At N D K E H L (Q .ret)) : At N D K E H L (Exit.inBlock id Q .ret) := h
theorem a_block_normal {id : Nat} (h : At N D K E H L (Q .normal)) : At N D K E H L (Exit.inBlock id Q .normal) := h
theorem a_block_hit {id : Nat} (h : At N D K E H L (Q .normal)) : At N D K E H L (Exit.inBlock id Q (.exit id)) := fun a w ha hs => by
  simp only [Exit.inBlock, if_true]; exact h a w ha hs
theorem a_block_miss {id id' : Nat} (hn : Nat.beq id' id = false) (h : At N D K E H L (Q (.exit id'))) : At N D K E H L (Exit.inBlock id Q (.exit id')) := fun a w ha hs => by
  have : id' ≠ id := fun e => by subst e; simp at hn
  simp only [Exit.inBlock, this, if_false]; exact h a w ha hs
theorem a_region {id : Nat} {l : List Oper} (hd : plainOps l = true) (h : At N D K E H L (uList P r l.toArray Q l)) : At N D K E H L (Cx P r (.region id l.toArray false) Q) := fun a w ha hs => region_list hd (h a w ha hs)
theorem a_nil (h : At N D K E H L (Q .normal)) : At N D K E H L (uList P r ops Q []) := h
theorem a_cons (h : At N D K E H L (uOp P r ops Q o (uList P r ops Q rest))) : At N D K E H L (uList P r ops Q (o :: rest)) := h

theorem a_env {E' : Env} (hs : Sublist E' E) (h : At N D K E' H L C) : At N D K E H L C := fun a w ha hw => h a w (ha.weaken hs) hw
theorem St.reix {w : World} (h : St K H L w) (is : List Nat) (hn : is.Nodup) : St K H (is.filterMap (L[·]?)) w := by
  have hm : ∀ x ∈ is.filterMap (L[·]?), x ∈ L := fun x hx => by
    obtain ⟨i, _, hi⟩ := List.mem_filterMap.1 hx; exact List.mem_of_getElem? hi
  refine ⟨h.sub, h.le, fun x hx => h.ok x (hm x hx), ?_, fun x hx => h.sep x (hm x hx), fun x hx => h.mine x (hm x hx), h.size, h.keep, h.hpre, h.io⟩
  rw [List.pairwise_filterMap]
  have hd := List.pairwise_iff_getElem.1 h.dis
  refine List.Pairwise.imp ?_ hn
  intro i j hij x hx y hy b hb hb'
  obtain ⟨hi, ei⟩ := List.getElem?_eq_some_iff.1 hx
  obtain ⟨hj, ej⟩ := List.getElem?_eq_some_iff.1 hy
  rcases Nat.lt_or_gt_of_ne hij with hlt | hlt
  · exact hd i j hi hj hlt b (ei ▸ hb) (ej ▸ hb')
  · exact hd j i hj hi hlt b (ej ▸ hb') (ei ▸ hb)

/-- Own blocks put aside, or in another order. -/
theorem a_own {L' : List Ass} (is : List Nat) (hn : is.Nodup) (hL : is.filterMap (L[·]?) = L') (h : At N D K E H L' C) : At N D K E H L C := fun a w ha hw => h a w ha (hL ▸ hw.reix is hn)
theorem a_start {a : Act} {w : World} (ha : Ag N D E a) (hs : St K H L w) (h : At N D K E H L C) : C a w := h a w ha hs

/-! ### Pure operations -/
theorem p_pure {d : Nat} {v : Value} (hw : Wn ops E o.guard) (hdst : o.dst = some d) (hd : Nat.blt d N = true) (hy : Yd P N D E (St K H L) o v) (k : At N D K ((d, v) :: E) H L C) : At N D K E H L (uOp P r ops Q o C) := fun a w ha hs => by
  unfold uOp
  simp only [hw.wanted ha, if_true, hy a w ha hs, Oper.uponIn]
  rw [hdst]; exact k _ w (ha.put v hd) hs

theorem p_skip {d : Nat} (hw : Sk ops E o.guard) (hdst : o.dst = some d) (hd : Nat.blt d N = true) (k : At N D K ((d, undef) :: E) H L C) : At N D K E H L (uOp P r ops Q o C) := fun a w ha hs => by
  unfold uOp
  simp only [hw.unwanted ha, Bool.false_eq_true, if_false]
  rw [hdst]; exact k _ w (ha.put undef hd) hs

theorem p_skip_none (hw : Sk ops E o.guard) (hdst : o.dst = none) (k : At N D K E H L C) : At N D K E H L (uOp P r ops Q o C) := fun a w ha hs => by
  unfold uOp
  simp only [hw.unwanted ha, Bool.false_eq_true, if_false]
  rw [hdst]; exact k _ w ha hs

theorem noP_then (h : ∀ c a w, ¬ Q (.panic c) a w) : ∀ c a w, ¬ Exit.then C Q (.panic c) a w := h
theorem noP_block {id : Nat} (h : ∀ c a w, ¬ Q (.panic c) a w) : ∀ c a w, ¬ Exit.inBlock id Q (.panic c) a w := h
theorem noP_post {fn : Func} {w : World} {X : Nat → Prop} {R : Value → Hp → World → Prop} : ∀ c a w', ¬ bodyPost P fn (Post w H X R) (.panic c) a w' :=
  fun c a w' h => by obtain ⟨_, v, H', e, _⟩ := h; cases e

/-! ### Regions that draw -/
theorem d_region {S : World → Prop} {id : Nat} {l : List Oper} {n : Nat} {listed : Array Bool} (hm : P.follows .mixedOrders = true) (hd : l.toArray.toList.all plainOp = true) (hn : l.toArray.size = n) (hl : Array.replicate n false = listed)
    (h : At N D K E H L (uAny P r l.toArray Q S n listed)) : At N D K E H L (Cx P r (.region id l.toArray true) Q) := fun a w ha hs =>
  region_any hm hd (by rw [hn, hl]; exact h a _ ha (hs.of_heap rfl))

theorem d_take {S : World → Prop} {i d fuel : Nat} {v : Value} {listed listed' : Array Bool} (hi : ops[i]? = some o) (hm : mayTake ops listed i = true) (hQ : ∀ c a w, ¬ Q (.panic c) a w) (hl : listed.setIfInBounds i true = listed')
    (hdst : o.dst = some d) (hd : Nat.blt d N = true) (hw : Wn ops E o.guard) (hy : Yd P N D E S o v) (hS : ∀ w, St K H L w → S w)
    (k : At N D K ((d, v) :: E) H L (uAny P r ops Q S fuel listed')) : At N D K E H L (uAny P r ops Q S (fuel + 1) listed) := fun a w ha hs => by
  subst hl
  refine uAny_take hi hm hQ (v := v) (.inl ⟨hw.wanted ha, fun w' hw' => hy a w' ha hw'⟩) (hS w hs) ?_
  rw [hdst]; exact k _ w (ha.put v hd) hs

theorem d_skip {S : World → Prop} {i d fuel : Nat} {listed listed' : Array Bool} (hi : ops[i]? = some o) (hm : mayTake ops listed i = true) (hQ : ∀ c a w, ¬ Q (.panic c) a w) (hl : listed.setIfInBounds i true = listed')
    (hdst : o.dst = some d) (hd : Nat.blt d N = true) (hw : Sk ops E o.guard) (hS : ∀ w, St K H L w → S w)
    (k : At N D K ((d, undef) :: E) H L (uAny P r ops Q S fuel listed')) : At N D K E H L (uAny P r ops Q S (fuel + 1) listed) := fun a w ha hs => by
  subst hl
  refine uAny_take hi hm hQ (v := undef) (.inr ⟨hw.unwanted ha, rfl⟩) (hS w hs) ?_
  rw [hdst]; exact k _ w (ha.put undef hd) hs

theorem d_weaken {S S' : World → Prop} {fuel : Nat} {listed : Array Bool} (hS : ∀ w, S' w → S w) (k : At N D K E H L (uAny P r ops Q S' fuel listed)) : At N D K E H L (uAny P r ops Q S fuel listed) := fun a w ha hs =>
  uAny_weaken hS _ _ a w (k a w ha hs)

theorem d_done {S : World → Prop} {fuel : Nat} {listed : Array Bool} (hr : Region.ready .any ops listed = []) (k : At N D K E H L (Q .normal)) : At N D K E H L (uAny P r ops Q S fuel listed) := fun a w ha hs =>
  uAny_done hr (k a w ha hs) _

/-- What comes behind an operation of a drawn region. -/
abbrev Nx (P : Program) (r : Option Nat) (ops : Array Oper) (Q : Exit → Act → World → Prop) (S : World → Prop) (fuel : Nat) (listed : Array Bool) : Act → World → Prop := fun a w => S w ∧ uAny P r ops Q S fuel listed a w

theorem d_next {S : World → Prop} {fuel : Nat} {listed listed' : Array Bool} (hl : listed = listed') (hS : ∀ w, St K H L w → S w) (k : At N D K E H L (uAny P r ops Q S fuel listed')) : At N D K E H L (Nx P r ops Q S fuel listed) := fun a w ha hs => by
  subst hl; exact ⟨hS w hs, k a w ha hs⟩

theorem d_one {S : World → Prop} {i fuel : Nat} {listed : Array Bool} (hr : Region.ready .any ops listed = [i]) (hi : ops[i]? = some o) (h : At N D K E H L (uOp P r ops Q o (Nx P r ops Q S fuel (listed.setIfInBounds i true)))) :
    At N D K E H L (uAny P r ops Q S (fuel + 1) listed) := fun a w ha hs => uAny_all hr (by simp) ⟨fun o' ho' => by rw [hi] at ho'; cases ho'; exact h a w ha hs, trivial⟩

def AllAt (P : Program) (r : Option Nat) (N : Nat) (D : List Deferred) (K : Kp) (E : Env) (H : Hp) (L : List Ass) (ops : Array Oper) (Q : Exit → Act → World → Prop) (S : World → Prop) (fuel : Nat) (listed : Array Bool) : List Nat → Prop
  | [] => True
  | i :: is => (∃ o, ops[i]? = some o ∧ At N D K E H L (uOp P r ops Q o (Nx P r ops Q S fuel (listed.setIfInBounds i true)))) ∧ AllAt P r N D K E H L ops Q S fuel listed is

theorem AllAt.ready {S : World → Prop} {fuel : Nat} {listed : Array Bool} {a : Act} {w : World} (ha : Ag N D E a) (hs : St K H L w) : ∀ {is : List Nat}, AllAt P r N D K E H L ops Q S fuel listed is → AllReady P r ops Q S fuel listed a w is
  | [], _ => trivial
  | _ :: _, ⟨⟨o, ho, h⟩, t⟩ => ⟨fun o' ho' => by rw [ho] at ho'; cases ho'; exact h a w ha hs, t.ready ha hs⟩

theorem d_all {S : World → Prop} {rs : List Nat} {fuel : Nat} {listed : Array Bool} (hr : Region.ready .any ops listed = rs) (hne : rs.isEmpty = false) (h : AllAt P r N D K E H L ops Q S fuel listed rs) :
    At N D K E H L (uAny P r ops Q S (fuel + 1) listed) := fun a w ha hs => uAny_all hr (by cases rs; simp at hne; simp) (h.ready ha hs)

/-! ### What pure operations yield -/
variable {G : World → Prop} {dst : Option Tmp} {ty : TypeId} {pos : String} {aft : Array Edge} {g : Option (Nat × Bool)}

theorem y_move {x : Operand} {v : Value} (hx : ev E x = some v) : Yd P N D E G ⟨dst, .move x, ty, pos, aft, g⟩ v := fun a w ha _ => by simp [execOp, ha.eval hx, pure, Sem.run]
theorem y_assign {x : Operand} {v : Value} (hx : ev E x = some v) : Yd P N D E G ⟨dst, .assign x, ty, pos, aft, g⟩ v := fun a w ha _ => by simp [execOp, ha.eval hx, pure, Sem.run]

theorem y_pick_bool {c x y : Operand} {b p q : Bool} (hc : ev E c = some (.bool b)) (hx : ev E x = some (.bool p)) (hy : ev E y = some (.bool q)) : Yd P N D E G ⟨dst, .pick c x y, ty, pos, aft, g⟩ (.bool (bif b then p else q)) := fun a w ha _ => by
  simp only [execOp, ha.eval hc, ha.eval hx, ha.eval hy]; cases b <;> rfl
theorem y_pick_t {c x y : Operand} {b : Bool} {v : Value} (hc : ev E c = some (.bool b)) (hb : b = true) (hx : ev E x = some v) : Yd P N D E G ⟨dst, .pick c x y, ty, pos, aft, g⟩ v := fun a w ha _ => by
  subst hb; simp only [execOp, ha.eval hc, ha.eval hx]; rfl
theorem y_pick_f {c x y : Operand} {b : Bool} {v : Value} (hc : ev E c = some (.bool b)) (hb : b = false) (hy : ev E y = some v) : Yd P N D E G ⟨dst, .pick c x y, ty, pos, aft, g⟩ v := fun a w ha _ => by
  subst hb; simp only [execOp, ha.eval hc, ha.eval hy]; rfl

section ints
variable {T T' : TypeId} {x y : Operand} {k : IntKind} {p q : Int}
theorem y_add (hx : ev E x = some (.int k p)) (hy : ev E y = some (.int k q)) : Yd P N D E G ⟨dst, .binOp .add T x y T', ty, pos, aft, g⟩ (.int k (k.wrap (p + q))) := fun a w ha _ => by
  simp only [execOp, ha.eval hx, ha.eval hy, binOp, ne_eq, not_true_eq_false, if_false]; rfl
theorem y_sub (hx : ev E x = some (.int k p)) (hy : ev E y = some (.int k q)) : Yd P N D E G ⟨dst, .binOp .sub T x y T', ty, pos, aft, g⟩ (.int k (k.wrap (p - q))) := fun a w ha _ => by
  simp only [execOp, ha.eval hx, ha.eval hy, binOp, ne_eq, not_true_eq_false, if_false]; rfl
theorem y_mul (hx : ev E x = some (.int k p)) (hy : ev E y = some (.int k q)) : Yd P N D E G ⟨dst, .binOp .mul T x y T', ty, pos, aft, g⟩ (.int k (k.wrap (p * q))) := fun a w ha _ => by
  simp only [execOp, ha.eval hx, ha.eval hy, binOp, ne_eq, not_true_eq_false, if_false]; rfl
theorem y_eql (hx : ev E x = some (.int k p)) (hy : ev E y = some (.int k q)) : Yd P N D E G ⟨dst, .binOp .eql T x y T', ty, pos, aft, g⟩ (.bool (p == q)) := fun a w ha _ => by
  simp only [execOp, ha.eval hx, ha.eval hy, binOp, eqGuard, ne_eq, not_true_eq_false, if_false]; rfl
theorem y_neq (hx : ev E x = some (.int k p)) (hy : ev E y = some (.int k q)) : Yd P N D E G ⟨dst, .binOp .neq T x y T', ty, pos, aft, g⟩ (.bool (p != q)) := fun a w ha _ => by
  simp only [execOp, ha.eval hx, ha.eval hy, binOp, eqGuard, ne_eq, not_true_eq_false, if_false]; rfl
theorem y_lss (hx : ev E x = some (.int k p)) (hy : ev E y = some (.int k q)) : Yd P N D E G ⟨dst, .binOp .lss T x y T', ty, pos, aft, g⟩ (.bool (decide (p < q))) := fun a w ha _ => by
  simp only [execOp, ha.eval hx, ha.eval hy, binOp, ne_eq, not_true_eq_false, if_false]; rfl
theorem y_leq (hx : ev E x = some (.int k p)) (hy : ev E y = some (.int k q)) : Yd P N D E G ⟨dst, .binOp .leq T x y T', ty, pos, aft, g⟩ (.bool (decide (p ≤ q))) := fun a w ha _ => by
  simp only [execOp, ha.eval hx, ha.eval hy, binOp, ne_eq, not_true_eq_false, if_false]; rfl
theorem y_gtr (hx : ev E x = some (.int k p)) (hy : ev E y = some (.int k q)) : Yd P N D E G ⟨dst, .binOp .gtr T x y T', ty, pos, aft, g⟩ (.bool (decide (p > q))) := fun a w ha _ => by
  simp only [execOp, ha.eval hx, ha.eval hy, binOp, ne_eq, not_true_eq_false, if_false]; rfl
theorem y_geq (hx : ev E x = some (.int k p)) (hy : ev E y = some (.int k q)) : Yd P N D E G ⟨dst, .binOp .geq T x y T', ty, pos, aft, g⟩ (.bool (decide (p ≥ q))) := fun a w ha _ => by
  simp only [execOp, ha.eval hx, ha.eval hy, binOp, ne_eq, not_true_eq_false, if_false]; rfl
theorem y_rem (hx : ev E x = some (.int k p)) (hy : ev E y = some (.int k q)) (hq : q ≠ 0) : Yd P N D E G ⟨dst, .binOp .rem T x y T', ty, pos, aft, g⟩ (.int k (p.tmod q)) := fun a w ha _ => by
  simp only [execOp, ha.eval hx, ha.eval hy, binOp, Op.intDiv, hq, ne_eq, not_true_eq_false, if_false]; rfl
theorem y_quo (hx : ev E x = some (.int k p)) (hy : ev E y = some (.int k q)) (hq : q ≠ 0) : Yd P N D E G ⟨dst, .binOp .quo T x y T', ty, pos, aft, g⟩ (.int k (k.wrap (p.tdiv q))) := fun a w ha _ => by
  simp only [execOp, ha.eval hx, ha.eval hy, binOp, Op.intDiv, hq, ne_eq, not_true_eq_false, if_false]; rfl
theorem y_neg (hx : ev E x = some (.int k p)) : Yd P N D E G ⟨dst, .unOp .neg T x, ty, pos, aft, g⟩ (.int k (k.wrap (0 - p))) := fun a w ha _ => by
  simp only [execOp, ha.eval hx]; rfl
theorem y_not {b : Bool} (hx : ev E x = some (.bool b)) : Yd P N D E G ⟨dst, .unOp .not T x, ty, pos, aft, g⟩ (.bool (!b)) := fun a w ha _ => by
  simp only [execOp, ha.eval hx]; rfl
end ints

theorem y_extract {x : Operand} {vs : Array Value} {i : Nat} {v : Value} (hx : ev E x = some (.tuple vs)) (hi : vs[i]? = some v) : Yd P N D E G ⟨dst, .extract x i, ty, pos, aft, g⟩ v := fun a w ha _ => by
  simp only [execOp, ha.eval hx, Instr.extract, hi]; rfl

theorem y_makeFunc {fn : Fn} {fs cs : Array Operand} {vs us : List Value} (h1 : fs.toList.mapM (ev E) = some vs) (h2 : cs.toList.mapM (ev E) = some us) : Yd P N D E G ⟨dst, .makeFunc fn fs cs, ty, pos, aft, g⟩ (.func fn vs.toArray us.toArray) := by
  have key : ∀ (a : Act), Ag N D E a → ∀ (l : List Operand) (vs : List Value), l.mapM (ev E) = some vs → l.map a.eval = vs := by
    intro a ha l
    induction l with
    | nil => intro vs h; simp at h; subst h; rfl
    | cons x l ih =>
      intro vs h
      simp only [List.mapM_cons, Option.bind_eq_bind, Option.bind_eq_some_iff] at h
      obtain ⟨v, hv, us, hus, h⟩ := h
      cases h
      simp [ha.eval hv, ih us hus]
  intro a w ha _
  have e1 : fs.map a.eval = vs.toArray := by rw [← key a ha _ _ h1]; cases fs; simp
  have e2 : cs.map a.eval = us.toArray := by rw [← key a ha _ _ h2]; cases cs; simp
  simp only [execOp, e1, e2]; rfl

theorem run_len {p : Option Addr} {n c : Nat} {T e ty : TypeId} (ht : P.underlying T = some (.slice e)) (w : World) : (Builtin.len_ #[T] ty #[.slice p n c]).run P w = .ok (.int .i64 (n : Int)) w := by
  unfold Builtin.len_
  show ((underlying T).bind _).run P w = _
  rw [show ∀ (f : TypeDesc → Sem Value), ((underlying T).bind f).run P w = ((underlying T >>= f)).run P w from fun _ => rfl, Sem.run_bind, run_underlying ht]
  rfl

theorem y_len {x : Operand} {p : Option Addr} {n c : Nat} {T e : TypeId} (ht : P.underlying T = some (.slice e)) (hx : ev E x = some (.slice p n c)) : Yd P N D E G ⟨dst, .call ⟨.builtin .len, #[x], #[T]⟩, ty, pos, aft, g⟩ (.int .i64 (n : Int)) := fun a w ha _ => by
  have hm : #[x].map a.eval = #[.slice p n c] := by simp [ha.eval hx]
  simp only [execOp, resolve, hm]
  show ((Builtin.len_ #[T] ty #[.slice p n c]) >>= fun v => (pure (Next.value v) : Sem Next)).run P w = _
  rw [Sem.run_bind, run_len ht]; rfl
end
end Go.Lu
