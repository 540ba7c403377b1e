/-
  The ground of the walks: slots as a list of pairs, a frozen ghost heap, own blocks beside it.
-/
import Derived.CallsIn
import Derived.OrdersIn
import Derived.TacticsIn
import Derived.RangeFuncCalls
import Derived.Laws.World
import Derived.KernelRfl
namespace Go.Lu
open Go

def FW (r : Option Nat) : Fence := { fn := fun _ => True, depth := none, alive := false, round := r }

theorem calls_in {P : Program} {f : FuncId} {args : Array Value} {w : World} {R : Ending → World → Prop} (r : Option Nat) (h : Calls P f args w R) : CallsIn (FW r) 0 P f args w R :=
  show CallsIn Fence.wide 0 P f args w R from callsIn_wide.2 h

theorem calls_out {P : Program} {f : FuncId} {args : Array Value} {w : World} {R : Ending → World → Prop} (h : CallsIn (FW none) 0 P f args w R) : Calls P f args w R :=
  callsIn_wide.1 (show CallsIn Fence.wide 0 P f args w R from h)

/-! ### Slots -/
abbrev Env := List (Nat × Value)

def look : Env → Nat → Option Value
  | [], _ => none
  | (k, v) :: E, t => bif Nat.beq k t then some v else look E t

structure Ag (N : Nat) (D : List Deferred) (E : Env) (a : Act) : Prop where
  size : a.tmps.size = N
  defs : a.defers = D
  get : ∀ t v, look E t = some v → t < N ∧ a.tmps.getD t undef = v

def ev (E : Env) : Operand → Option Value
  | .tmp t => look E t
  | .const v => some v
  | .global g => some (.pointer (some ⟨g, 0, none⟩))
  | .func f => some (.func (.func f) #[] #[])

theorem Ag.eval {N : Nat} {D : List Deferred} {E : Env} {a : Act} (h : Ag N D E a) {x : Operand} {v : Value} (hx : ev E x = some v) : a.eval x = v := by
  cases x with
  | tmp t => exact (h.get t v hx).2
  | const u => simpa [ev, Act.eval] using hx
  | global g => simpa [ev, Act.eval] using hx
  | func f => simpa [ev, Act.eval] using hx

theorem look_cons_eq (E : Env) (d : Nat) (v : Value) : look ((d, v) :: E) d = some v := by simp [look]
theorem look_cons_ne (E : Env) {d t : Nat} (v : Value) (h : d ≠ t) : look ((d, v) :: E) t = look E t := by
  have : Nat.beq d t = false := by cases e : Nat.beq d t with
    | false => rfl
    | true => exact absurd (Nat.eq_of_beq_eq_true e) h
  simp [look, this]

theorem Ag.put {N : Nat} {D : List Deferred} {E : Env} {a : Act} (h : Ag N D E a) {d : Nat} (v : Value) (hd : Nat.blt d N = true) : Ag N D ((d, v) :: E) (a.put (some d) v) := by
  have hd' : d < N := by have := Nat.le_of_ble_eq_true hd; omega
  refine ⟨by simp [Act.put, h.size], h.defs, fun t u hu => ?_⟩
  by_cases e : d = t
  · subst e
    rw [look_cons_eq] at hu; cases hu
    refine ⟨hd', ?_⟩
    have : d < a.tmps.size := by rw [h.size]; exact hd'
    simp [Act.put, Array.getD_eq_getD_getElem?, this]
  · rw [look_cons_ne _ _ e] at hu
    obtain ⟨h1, h2⟩ := h.get t u hu
    refine ⟨h1, ?_⟩
    rw [← h2]
    simp [Act.put, Array.getD_eq_getD_getElem?, Array.getElem?_setIfInBounds_ne e]

theorem Ag.put_none {N : Nat} {D : List Deferred} {E : Env} {a : Act} (h : Ag N D E a) (v : Value) : Ag N D E (a.put none v) := h

def Sublist : Env → Env → Prop
  | [], _ => True
  | (t, v) :: E', E => look E t = some v ∧ Sublist E' E

theorem Ag.weaken {N : Nat} {D : List Deferred} {E : Env} {a : Act} (h : Ag N D E a) : ∀ {E' : Env}, Sublist E' E → Ag N D E' a
  | [], _ => ⟨h.size, h.defs, fun t v hv => by cases hv⟩
  | (t, v) :: E', hs => by
    have ih := Ag.weaken h hs.2
    refine ⟨h.size, h.defs, fun s u hu => ?_⟩
    by_cases e : t = s
    · subst e
      rw [look_cons_eq] at hu; cases hu
      exact h.get t v hs.1
    · rw [look_cons_ne _ _ e] at hu
      exact ih.get s u hu

/-! ### The frozen heap, and what a function owns -/
abbrev Hp := Nat → Option Obj

def Sub (H : Hp) (w : World) : Prop := ∀ r o, H r = some o → w.heap[r]? = some o
def HLe (H H' : Hp) : Prop := ∀ r o, H r = some o → H' r = some o
theorem HLe.refl (H : Hp) : HLe H H := fun _ _ h => h
theorem HLe.trans {A B C : Hp} (h : HLe A B) (k : HLe B C) : HLe A C := fun r o e => k r o (h r o e)
theorem Sub.of_le {H H' : Hp} {w : World} (h : Sub H' w) (k : HLe H H') : Sub H w := fun r o e => h r o (k r o e)

inductive Ass where
  | emp
  | box (b : Nat) (cs : List Value) (T : TypeId)
  | row (v : Value) (cs : List Value) (T sz : Nat)
  | blk (b : Nat) (p : Obj → Prop)

def Ass.foot : Ass → List Nat
  | .emp => []
  | .box b _ _ => [b]
  | .row (.slice (some a) _ cap) _ _ _ => if cap = 0 then [] else [a.block]
  | .row _ _ _ _ => []
  | .blk b _ => [b]

def rowObj (cs junk : List Value) (T : TypeId) : Obj := .cells (cs ++ junk).toArray T (0, 0)

def Ass.ok (w : World) : Ass → Prop
  | .emp => True
  | .box b cs T => w.heap[b]? = some (.cells cs.toArray T (0, 0))
  | .row v cs T sz => (∃ x, v = .slice x 0 0 ∧ cs = []) ∨
      ∃ b n cap junk, v = .slice (some ⟨b, 0, none⟩) n cap ∧ cap ≠ 0 ∧ n ≤ cap ∧ cs.length = n * sz ∧ (cs ++ junk).length = cap * sz ∧ w.heap[b]? = some (rowObj cs junk T)
  | .blk b p => ∃ o, w.heap[b]? = some o ∧ p o

/-- Boxes and rows are the call's own; a plain block may be a caller's, if it is one of X. -/
def Ass.mine (n0 : Nat) (X : Nat → Prop) : Ass → Prop
  | .emp => True
  | .box b _ _ => n0 ≤ b
  | .row v cs T sz => ∀ b ∈ (Ass.row v cs T sz).foot, n0 ≤ b
  | .blk b _ => b < n0 → X b

/-- The streams are as they were. -/
def Io (w w' : World) : Prop := w'.os = w.os ∧ w'.output = w.output
theorem Io.trans {a b c : World} (h : Io a b) (k : Io b c) : Io a c := ⟨k.1.trans h.1, k.2.trans h.2⟩

structure Kp where
  w0 : World
  H0 : Hp
  X : Nat → Prop

structure St (K : Kp) (H : Hp) (L : List Ass) (w : World) : Prop where
  sub : Sub H w
  le : HLe K.H0 H
  ok : ∀ x ∈ L, x.ok w
  dis : L.Pairwise (fun x y => ∀ b ∈ x.foot, b ∉ y.foot)
  sep : ∀ x ∈ L, ∀ b ∈ x.foot, H b = none
  mine : ∀ x ∈ L, x.mine K.w0.heap.size K.X
  size : K.w0.heap.size ≤ w.heap.size
  keep : ∀ r, r < K.w0.heap.size → ¬ K.X r → w.heap[r]? = K.w0.heap[r]?
  hpre : ∀ r, r < K.w0.heap.size → H r = K.H0 r
  io : Io K.w0 w

theorem Sub.lt {H : Hp} {w : World} (h : Sub H w) {r : Nat} (hr : w.heap.size ≤ r) : H r = none := by
  cases e : H r with
  | none => rfl
  | some o => have := h r o e; rw [Array.getElem?_eq_none hr] at this; cases this

theorem Ass.ok_lt {w : World} {x : Ass} (h : x.ok w) : ∀ b ∈ x.foot, b < w.heap.size := by
  intro b hb
  cases x with
  | emp => cases hb
  | box c cs T => simp [Ass.foot] at hb; subst hb; exact (Array.getElem?_eq_some_iff.1 h).1
  | blk c p => simp [Ass.foot] at hb; subst hb; obtain ⟨o, ho, _⟩ := h; exact (Array.getElem?_eq_some_iff.1 ho).1
  | row v cs T sz =>
    rcases h with ⟨x, rfl, rfl⟩ | ⟨c, n, cap, junk, rfl, h0, _, _, _, ho⟩
    · cases x <;> simp [Ass.foot] at hb
    · simp [Ass.foot, h0] at hb; subst hb; exact (Array.getElem?_eq_some_iff.1 ho).1

/-- An assertion speaks of its own blocks alone. -/
theorem Ass.ok_of_same {w w' : World} {x : Ass} (h : x.ok w) (hs : ∀ b ∈ x.foot, w'.heap[b]? = w.heap[b]?) : x.ok w' := by
  cases x with
  | emp => trivial
  | box c cs T => exact (hs c (by simp [Ass.foot])).trans h
  | blk c p => obtain ⟨o, ho, hp⟩ := h; exact ⟨o, (hs c (by simp [Ass.foot])).trans ho, hp⟩
  | row v cs T sz =>
    rcases h with h | ⟨c, n, cap, junk, rfl, h0, h1, h2, h3, ho⟩
    · exact .inl h
    · exact .inr ⟨c, n, cap, junk, rfl, h0, h1, h2, h3, (hs c (by simp [Ass.foot, h0])).trans ho⟩

theorem St.init (w : World) (H : Hp) (X : Nat → Prop) (h : Sub H w) : St ⟨w, H, X⟩ H [] w :=
  ⟨h, HLe.refl _, fun x hx => (by cases hx), List.Pairwise.nil, fun x hx => (by cases hx), fun x hx => (by cases hx), Nat.le_refl _, fun _ _ _ => rfl, fun _ _ => rfl, rfl, rfl⟩

theorem St.of_heap {K : Kp} {H : Hp} {L : List Ass} {w w' : World} (h : St K H L w) (e : w'.heap = w.heap) (hio : Io w w' := by exact ⟨rfl, rfl⟩) : St K H L w' :=
  ⟨fun r o hr => by rw [e]; exact h.sub r o hr, h.le, fun x hx => Ass.ok_of_same (h.ok x hx) fun b _ => by rw [e], h.dis, h.sep, h.mine, by rw [e]; exact h.size, fun r a b => by rw [e]; exact h.keep r a b, h.hpre, h.io.trans hio⟩

theorem heap_alloc_lt (w : World) (o : Obj) {r : Nat} (h : r < w.heap.size) : (w.alloc o).heap[r]? = w.heap[r]? := by
  simp only [World.alloc, Array.getElem?_push]; rw [if_neg (by omega)]
theorem heap_alloc_new (w : World) (o : Obj) : (w.alloc o).heap[w.heap.size]? = some o := by show (w.heap.push o)[w.heap.size]? = some o; simp

/-- A new block, owned as it pleases. -/
theorem St.alloc {K : Kp} {H : Hp} {L : List Ass} {w : World} (h : St K H L w) {o : Obj} {x : Ass} (hx : x.ok (w.alloc o)) (hf : ∀ b ∈ x.foot, b = w.heap.size) (hm : x.mine K.w0.heap.size K.X) : St K H (x :: L) (w.alloc o) := by
  have hlt : ∀ y ∈ L, ∀ b ∈ y.foot, b < w.heap.size := fun y hy => Ass.ok_lt (h.ok y hy)
  refine ⟨fun r o' hr => ?_, h.le, ?_, ?_, ?_, ?_, ?_, ?_, h.hpre, h.io⟩
  · have := h.sub r o' hr
    rw [heap_alloc_lt _ _ (Array.getElem?_eq_some_iff.1 this).1]; exact this
  · intro y hy
    rcases List.mem_cons.1 hy with rfl | hy
    · exact hx
    · exact Ass.ok_of_same (h.ok y hy) fun b hb => heap_alloc_lt _ _ (hlt y hy b hb)
  · refine List.pairwise_cons.2 ⟨fun y hy b hb hb' => ?_, h.dis⟩
    have := hlt y hy b hb'; rw [hf b hb] at this; omega
  · intro y hy b hb
    rcases List.mem_cons.1 hy with rfl | hy
    · rw [hf b hb]; exact h.sub.lt (Nat.le_refl _)
    · exact h.sep y hy b hb
  · intro y hy
    rcases List.mem_cons.1 hy with rfl | hy
    · exact hm
    · exact h.mine y hy
  · have := h.size; show _ ≤ (w.heap.push o).size; simp; omega
  · intro r hr hX; rw [heap_alloc_lt _ _ (by have := h.size; omega)]; exact h.keep r hr hX

theorem St.box {K : Kp} {H : Hp} {L : List Ass} {w : World} (h : St K H L w) (cs : List Value) (T : TypeId) : St K H (.box w.heap.size cs T :: L) (w.alloc (.cells cs.toArray T)) :=
  h.alloc (x := .box w.heap.size cs T) (heap_alloc_new _ _) (fun b hb => by simpa [Ass.foot] using hb) h.size

theorem St.mkrow {K : Kp} {H : Hp} {L : List Ass} {w : World} (h : St K H L w) (cs junk : List Value) (T sz n cap : Nat) (h1 : n ≤ cap) (h2 : cs.length = n * sz) (h3 : (cs ++ junk).length = cap * sz) :
    St K H (.row (.slice (some ⟨w.heap.size, 0, none⟩) n cap) cs T sz :: L) (w.alloc (rowObj cs junk T)) := by
  by_cases h0 : cap = 0
  · subst h0
    obtain rfl : n = 0 := by omega
    have hc : cs = [] := by simpa using h2
    refine h.alloc (.inl ⟨_, rfl, hc⟩) (fun b hb => by simp [Ass.foot] at hb) (fun b hb => by simp [Ass.foot] at hb)
  · refine h.alloc (.inr ⟨_, n, cap, junk, rfl, h0, h1, h2, h3, heap_alloc_new _ _⟩) (fun b hb => by simpa [Ass.foot, h0] using hb) (fun b hb => ?_)
    simp [Ass.foot, h0] at hb; rw [hb]; exact h.size

/-- Items put aside, and in another order or number: what stands in L' stands in L at different places. -/
theorem St.pick {K : Kp} {H : Hp} {L L' : List Ass} {w : World} (h : St K H L w) (hs : L'.Sublist L) : St K H L' w :=
  ⟨h.sub, h.le, fun x hx => h.ok x (hs.subset hx), h.dis.sublist hs, fun x hx => h.sep x (hs.subset hx), fun x hx => h.mine x (hs.subset hx), h.size, h.keep, h.hpre, h.io⟩

theorem St.cons_emp {K : Kp} {H : Hp} {L : List Ass} {w : World} (h : St K H L w) : St K H (.emp :: L) w :=
  ⟨h.sub, h.le, fun x hx => (by rcases List.mem_cons.1 hx with rfl | hx; exact trivial; exact h.ok x hx), List.pairwise_cons.2 ⟨fun y _ b hb => (by cases hb), h.dis⟩,
   fun x hx b hb => (by rcases List.mem_cons.1 hx with rfl | hx; cases hb; exact h.sep x hx b hb),
   fun x hx => (by rcases List.mem_cons.1 hx with rfl | hx; exact trivial; exact h.mine x hx), h.size, h.keep, h.hpre, h.io⟩

theorem St.nilrow {K : Kp} {H : Hp} {L : List Ass} {w : World} (h : St K H L w) (x : Option Addr) (T sz : Nat) : St K H (.row (.slice x 0 0) [] T sz :: L) w := by
  have hf : (Ass.row (.slice x 0 0) [] T sz).foot = [] := by cases x <;> simp [Ass.foot]
  exact ⟨h.sub, h.le, fun y hy => (by rcases List.mem_cons.1 hy with rfl | hy; exact .inl ⟨_, rfl, rfl⟩; exact h.ok y hy),
   List.pairwise_cons.2 ⟨fun y _ b hb => (by rw [hf] at hb; cases hb), h.dis⟩,
   fun y hy b hb => (by rcases List.mem_cons.1 hy with rfl | hy; (rw [hf] at hb; cases hb); exact h.sep y hy b hb),
   fun y hy => (by rcases List.mem_cons.1 hy with rfl | hy; (intro b hb; rw [hf] at hb; cases hb); exact h.mine y hy), h.size, h.keep, h.hpre, h.io⟩

/-- The general turn of one item: blocks outside the item's old and new feet are as they were. -/
theorem St.turn {K : Kp} {H : Hp} {A B : List Ass} {x y : Ass} {w w' : World} (h : St K H (A ++ x :: B) w)
    (hy : y.ok w') (hf : ∀ b ∈ y.foot, b ∈ x.foot ∨ w.heap.size ≤ b) (hm : y.mine K.w0.heap.size K.X)
    (hsz : w.heap.size ≤ w'.heap.size) (hs : ∀ r, r < w.heap.size → r ∉ x.foot → w'.heap[r]? = w.heap[r]?) (hio : Io w w' := by exact ⟨rfl, rfl⟩) : St K H (A ++ y :: B) w' := by
  have hmem : x ∈ A ++ x :: B := by simp
  have hxX : ∀ b ∈ x.foot, b < K.w0.heap.size → K.X b := by
    intro b hb hlt
    have := h.mine x hmem
    cases x with
    | emp => cases hb
    | box c cs T => simp [Ass.foot] at hb; subst hb; exact absurd hlt (by simp [Ass.mine] at this; omega)
    | blk c p => simp [Ass.foot] at hb; subst hb; exact this hlt
    | row v cs T sz => exact absurd hlt (by have := this b hb; omega)
  have hp := h.dis
  rw [List.pairwise_append] at hp
  obtain ⟨hpA, hpB, hpAB⟩ := hp
  rw [List.pairwise_cons] at hpB
  have hin : ∀ z, z ∈ A ∨ z ∈ B → z ∈ A ++ x :: B := fun z hz => by rcases hz with hz | hz <;> simp [hz]
  have hother : ∀ z, z ∈ A ∨ z ∈ B → ∀ b ∈ z.foot, b ∉ x.foot ∧ b < w.heap.size := by
    intro z hz b hb
    refine ⟨fun hbx => ?_, Ass.ok_lt (h.ok z (hin z hz)) b hb⟩
    rcases hz with hz | hz
    · exact hpAB z hz x (by simp) b hb hbx
    · exact hpB.1 z hz b hbx hb
  have hyo : ∀ z, z ∈ A ∨ z ∈ B → ∀ b ∈ z.foot, b ∉ y.foot := by
    intro z hz b hb hby
    obtain ⟨h1, h2⟩ := hother z hz b hb
    rcases hf b hby with hx | hx
    · exact h1 hx
    · omega
  have hsplit : ∀ z, z ∈ A ++ y :: B → z = y ∨ (z ∈ A ∨ z ∈ B) := fun z hz => by
    simp at hz; rcases hz with hz | hz | hz <;> simp [hz]
  refine ⟨?_, h.le, ?_, ?_, ?_, ?_, Nat.le_trans h.size hsz, ?_, h.hpre, h.io.trans hio⟩
  · intro r o hr
    have h1 := h.sub r o hr
    have hlt := (Array.getElem?_eq_some_iff.1 h1).1
    rw [hs r hlt (fun hx => by have := h.sep x hmem r hx; rw [hr] at this; cases this)]; exact h1
  · intro z hz
    rcases hsplit z hz with rfl | hz
    · exact hy
    · exact Ass.ok_of_same (h.ok z (hin z hz)) fun b hb => hs b (hother z hz b hb).2 (hother z hz b hb).1
  · rw [List.pairwise_append]
    refine ⟨hpA, List.pairwise_cons.2 ⟨fun z hz b hb hb' => hyo z (.inr hz) b hb' hb, hpB.2⟩, fun z hz u hu b hb hb' => ?_⟩
    rcases List.mem_cons.1 hu with rfl | hu
    · exact hyo z (.inl hz) b hb hb'
    · exact hpAB z hz u (by simp [hu]) b hb hb'
  · intro z hz b hb
    rcases hsplit z hz with rfl | hz
    · rcases hf b hb with hx | hx
      · exact h.sep x hmem b hx
      · exact h.sub.lt hx
    · exact h.sep z (hin z hz) b hb
  · intro z hz
    rcases hsplit z hz with rfl | hz
    · exact hm
    · exact h.mine z (hin z hz)
  · intro r hr hX
    rw [hs r (by have := h.size; omega) (fun hx => hX (hxX r hx hr))]; exact h.keep r hr hX

/-- One item is frozen: its block is known for good. -/
theorem St.freeze {K : Kp} {H : Hp} {A B : List Ass} {x : Ass} {w : World} (h : St K H (A ++ x :: B) w) {b : Nat} {o : Obj} (hb : x.foot = [b]) (ho : w.heap[b]? = some o) (hm : K.w0.heap.size ≤ b) :
    ∃ H', HLe H H' ∧ H' b = some o ∧ St K H' (A ++ .emp :: B) w := by
  have hmem : x ∈ A ++ x :: B := by simp
  have hn : H b = none := h.sep x hmem b (by simp [hb])
  refine ⟨fun r => if r = b then some o else H r, fun r o' hr => ?_, by simp, ?_⟩
  · by_cases e : r = b
    · subst e; rw [hn] at hr; cases hr
    · simpa [e] using hr
  have hp := h.dis
  rw [List.pairwise_append] at hp
  obtain ⟨hpA, hpB, hpAB⟩ := hp
  rw [List.pairwise_cons] at hpB
  have hin : ∀ z, z ∈ A ∨ z ∈ B → z ∈ A ++ x :: B := fun z hz => by rcases hz with hz | hz <;> simp [hz]
  have hsplit : ∀ z, z ∈ A ++ Ass.emp :: B → z = .emp ∨ (z ∈ A ∨ z ∈ B) := fun z hz => by
    simp at hz; rcases hz with hz | hz | hz <;> simp [hz]
  have hnb : ∀ z, z ∈ A ∨ z ∈ B → b ∉ z.foot := by
    intro z hz hbz
    rcases hz with hz | hz
    · exact hpAB z hz x (by simp) b hbz (by simp [hb])
    · exact hpB.1 z hz b (by simp [hb]) hbz
  refine ⟨?_, ?_, ?_, ?_, ?_, ?_, h.size, h.keep, ?_, h.io⟩
  · intro r o' hr
    by_cases e : r = b
    · subst e; simp at hr; subst hr; exact ho
    · simp [e] at hr; exact h.sub r o' hr
  · intro r o' hr
    by_cases e : r = b
    · subst e; have := h.le r o' hr; rw [hn] at this; cases this
    · simpa [e] using h.le r o' hr
  · intro z hz
    rcases hsplit z hz with rfl | hz
    · trivial
    · exact h.ok z (hin z hz)
  · rw [List.pairwise_append]
    refine ⟨hpA, List.pairwise_cons.2 ⟨fun z hz b' hb' => (by cases hb'), hpB.2⟩, fun z hz u hu b' hb1 hb2 => ?_⟩
    rcases List.mem_cons.1 hu with rfl | hu
    · cases hb2
    · exact hpAB z hz u (by simp [hu]) b' hb1 hb2
  · intro z hz c hc
    rcases hsplit z hz with rfl | hz
    · cases hc
    · have : c ≠ b := fun e => hnb z hz (e ▸ hc)
      simp only [this, if_false]; exact h.sep z (hin z hz) c hc
  · intro z hz
    rcases hsplit z hz with rfl | hz
    · trivial
    · exact h.mine z (hin z hz)
  · intro r hr
    have : r ≠ b := by omega
    simp only [this, if_false]; exact h.hpre r hr

/-! ### What a call leaves -/
/-- The call came back with v; what it left of memory: new blocks, and turns in X alone; H' knows H and new blocks. -/
structure Left (w : World) (H : Hp) (X : Nat → Prop) (H' : Hp) (w' : World) : Prop where
  le : HLe H H'
  old : ∀ r, r < w.heap.size → H' r = H r
  sub : Sub H' w'
  size : w.heap.size ≤ w'.heap.size
  keep : ∀ r, r < w.heap.size → ¬ X r → w'.heap[r]? = w.heap[r]?
  io : Io w w'

def Post (w : World) (H : Hp) (X : Nat → Prop) (R : Value → Hp → World → Prop) (e : Ending) (w' : World) : Prop :=
  ∃ v H', e = .returned v ∧ Left w H X H' w' ∧ R v H' w'

def noX : Nat → Prop := fun _ => False

theorem St.left {K : Kp} {H : Hp} {L : List Ass} {w : World} (h : St K H L w) : Left K.w0 K.H0 K.X H w :=
  ⟨h.le, h.hpre, h.sub, h.size, h.keep, h.io⟩

theorem St.called {K : Kp} {H H' : Hp} {L : List Ass} {w w' : World} (h : St K H L w) (hl : Left w H noX H' w') : St K H' L w' := by
  have hlt : ∀ y ∈ L, ∀ b ∈ y.foot, b < w.heap.size := fun y hy => Ass.ok_lt (h.ok y hy)
  refine ⟨hl.sub, h.le.trans hl.le, fun x hx => Ass.ok_of_same (h.ok x hx) fun b hb => hl.keep b (hlt x hx b hb) id, h.dis, fun x hx b hb => ?_, h.mine, Nat.le_trans h.size hl.size, fun r hr hX => ?_, fun r hr => ?_, h.io.trans hl.io⟩
  · rw [hl.old b (hlt x hx b hb)]; exact h.sep x hx b hb
  · rw [hl.keep r (by have := h.size; omega) id]; exact h.keep r hr hX
  · rw [hl.old r (by have := h.size; omega)]; exact h.hpre r hr

/-- A call that may turn one block of the caller's, known by a word alone. -/
theorem St.calledM {K : Kp} {H H' : Hp} {A B : List Ass} {M : Nat} {p : Obj → Prop} {w w' : World} (h : St K H (A ++ .blk M p :: B) w) (hl : Left w H (· = M) H' w') (hM : ∃ o, w'.heap[M]? = some o ∧ p o) : St K H' (A ++ .blk M p :: B) w' := by
  have h1 : St K H (A ++ .blk M p :: B) w' := by
    refine St.turn h (x := .blk M p) (y := .blk M p) hM (fun b hb => .inl hb) (h.mine (.blk M p) (by simp)) hl.size (fun r hr hx => ?_) hl.io
    exact hl.keep r hr (fun e => hx (by simp [Ass.foot, e]))
  have hlt : ∀ y ∈ (A ++ .blk M p :: B), ∀ b ∈ y.foot, b < w.heap.size := fun y hy => Ass.ok_lt (h.ok y hy)
  refine ⟨hl.sub, h.le.trans hl.le, h1.ok, h1.dis, fun x hx b hb => ?_, h1.mine, h1.size, h1.keep, fun r hr => ?_, h1.io⟩
  · rw [hl.old b (hlt x hx b hb)]; exact h.sep x hx b hb
  · rw [hl.old r (by have := h.size; omega)]; exact h.hpre r hr

/-- A call that hands over a new block of its own. -/
theorem St.calledN {K : Kp} {H H' : Hp} {L : List Ass} {M : Nat} {p : Obj → Prop} {w w' : World} (h : St K H L w) (hl : Left w H noX H' w') (hM : ∃ o, w'.heap[M]? = some o ∧ p o) (hn : w.heap.size ≤ M) (hH : H' M = none) : St K H' (.blk M p :: L) w' := by
  have h1 := h.called hl
  have hlt : ∀ y ∈ L, ∀ b ∈ y.foot, b < w.heap.size := fun y hy => Ass.ok_lt (h.ok y hy)
  refine ⟨h1.sub, h1.le, ?_, ?_, ?_, ?_, h1.size, h1.keep, h1.hpre, h1.io⟩
  · intro x hx; rcases List.mem_cons.1 hx with rfl | hx; exact hM; exact h1.ok x hx
  · refine List.pairwise_cons.2 ⟨fun y hy b hb hb' => ?_, h1.dis⟩
    simp [Ass.foot] at hb; subst hb; have := hlt y hy b hb'; omega
  · intro x hx b hb; rcases List.mem_cons.1 hx with rfl | hx
    · simp [Ass.foot] at hb; subst hb; exact hH
    · exact h1.sep x hx b hb
  · intro x hx; rcases List.mem_cons.1 hx with rfl | hx
    · intro hlt'; have := h.size; omega
    · exact h1.mine x hx

end Go.Lu
