/-
  More small words for the walks.
-/
import Derived.Test.YtbcabikaaadiiaaDoorLuP8
namespace Go.Lu
open Go Go.Proofs
set_option maxRecDepth 100000
set_option linter.unusedVariables false

theorem arr_in {α : Type} [Rp α] {n : Nat} {H : Hp} {cs : List Value} {l : List α} {i : Int} {x : α} (h : Rp.rep (α := Arr n α) H cs l) (hi : nth l i = some x) : 0 ≤ i ∧ i < (n : Int) := by
  obtain ⟨h0, h1, _⟩ := nth_some hi
  have : l.length = n := h.2
  omega
theorem arr_get {n : Nat} {H : Hp} {cs : List Value} {l : List Int} {i u : Int} (h : Rp.rep (α := Arr n Int) H cs l) (hi : nth l i = some u) : cs[0 + i.toNat * 1]? = some (.int .i64 u) := repL_int_get h.1 hi

theorem PutL.at0 {α : Type} [Rp α] {H : Hp} {fo n : Nat} {ds : List Value} {l : List α} {i : Int} {e e' : α} (sz : Nat) (hz : Rp.sz α = sz) (hi : nth l i = some e) (h : Put α H fo n ds e e') : PutL α H (0 + i.toNat * sz + fo) n ds l (l.set i.toNat e') := by
  rw [Nat.zero_add]; exact PutL.at sz hz hi h
theorem PutL.at00 {α : Type} [Rp α] {H : Hp} {ds : List Value} {l : List α} {i : Int} {e e' : α} (sz : Nat) (hz : Rp.sz α = sz) (hi : nth l i = some e) (h : Rp.rep H ds e') : PutL α H (0 + i.toNat * sz) sz ds l (l.set i.toNat e') := by
  subst hz; exact PutL.at0 (fo := 0) _ rfl hi (Put.here h)
theorem put_arr0 {α : Type} [Rp α] {k : Nat} {H : Hp} {cs ds : List Value} {l : List α} {i : Int} {e e' : α} (sz : Nat) (hz : Rp.sz α = sz) (hr : Rp.rep (α := Arr k α) H cs l) (hi : nth l i = some e) (h : Rp.rep H ds e') : Put (Arr k α) H (0 + i.toNat * sz) sz ds l (l.set i.toNat e') := by
  subst hz
  rw [Nat.zero_add]
  exact Put.arr (fo := 0) _ rfl hr.2 hi (Put.here h)
theorem take_get' {cs cs' : List Value} {o : Nat} {v : Value} (hc : cs' = cs.take o ++ [v] ++ cs.drop (o + 1)) (h : o + 1 ≤ cs.length) : cs'[o]? = some v := by subst hc; exact take_get (by omega)

/-- Values of one cell each, told by themselves or by the rows that are held. -/
def One1 (L : List Ass) : List Value → Prop
  | [] => True
  | v :: vs => (cell1 v = true ∨ ∃ cs T sz, Ass.row v cs T sz ∈ L) ∧ One1 L vs

/-- The operations of a region that are carried out, as the bits of a number. -/
def bits (n m : Nat) : Array Bool := ((List.range n).map fun i => m.testBit i).toArray

section
variable {P : Program} {r : Option Nat} {N : Nat} {D : List Deferred} {K : Kp} {E : Env} {H : Hp} {L A B : List Ass} {ops : Array Oper} {Q : Exit → Act → World → Prop} {C : Act → World → Prop}
variable {dst : Option Tmp} {ty : TypeId} {pos : String} {aft : Array Edge} {g : Option (Nat × Bool)} {dd : Nat} {w : World} {G : World → Prop}

theorem One1.all (hs : St K H L w) : ∀ {vs : List Value}, One1 L vs → ∀ v ∈ vs, cell1 v = true
  | [], _ => fun v hv => by cases hv
  | u :: vs, ⟨h1, h2⟩ => fun v hv => by
    rcases List.mem_cons.1 hv with rfl | hv
    · rcases h1 with h1 | ⟨cs, T, sz, hm⟩
      · exact h1
      · rcases hs.ok _ hm with ⟨x, rfl, _⟩ | ⟨b, n, cap, junk, rfl, _⟩ <;> rfl
    · exact h2.all hs v hv

theorem e_storeL {T T0 b o i : Nat} {d : TypeDesc} {sz bt : Nat} {z v : Value} {x y : Operand} {cs ds cs' : List Value} (hw : Wn ops E g) (ht : Ty P T d sz z bt) (hx : ev E x = some (.pointer (some ⟨b, o, none⟩))) (hy : ev E y = some v) (hi : L[i]? = some (.box b cs T0))
    (hv : v.cells.toList = ds) (hl : ds.length = sz) (h1 : One1 L ds) (hlt : o + sz ≤ cs.length) (hcs : cs.take o ++ ds ++ cs.drop (o + sz) = cs')
    (k : At N D K E H (L.set i (.box b cs' T0)) C) : At N D K E H L (uOp P r ops Q ⟨none, .store T x y, ty, pos, aft, g⟩ C) := fun a w ha hs =>
  e_store hw ht hx hy hi hv hl (h1.all hs) hlt hcs k a w ha hs
theorem e_storeWholeL {T T0 b i : Nat} {d : TypeDesc} {sz bt : Nat} {z v : Value} {x y : Operand} {cs ds : List Value} (hw : Wn ops E g) (ht : Ty P T d sz z bt) (hx : ev E x = some (.pointer (some ⟨b, 0, none⟩))) (hy : ev E y = some v) (hi : L[i]? = some (.box b cs T0))
    (hv : v.cells.toList = ds) (hl : ds.length = sz) (h1 : One1 L ds) (hc : cs.length = sz) (k : At N D K E H (L.set i (.box b ds T0)) C) : At N D K E H L (uOp P r ops Q ⟨none, .store T x y, ty, pos, aft, g⟩ C) := fun a w ha hs =>
  e_storeWhole hw ht hx hy hi hv hl (h1.all hs) hc k a w ha hs

/-- An own row's value is put into another own row, which is written on later. -/
theorem a_rowshape {i T sz : Nat} {v : Value} {cs : List Value} (hi : L[i]? = some (.row v cs T sz)) (k : ∀ x n c, v = .slice x n c → At N D K E H L C) : At N D K E H L C := fun a w ha hs => by
  rcases hs.ok _ (List.mem_of_getElem? hi) with ⟨x, rfl, _⟩ | ⟨b, n, cap, junk, rfl, _⟩
  · exact k _ _ _ rfl a w ha hs
  · exact k _ _ _ rfl a w ha hs
theorem e_storeRowP {T T0 b o i j sz n c T2 sz2 : Nat} {d : TypeDesc} {bt : Nat} {z u : Value} {x y : Operand} {cs cs2 : List Value} (hw : Wn ops E g) (ht : Ty P T d 1 z bt) (hx : ev E x = some (.pointer (some ⟨b, o, none⟩))) (hy : ev E y = some u) (hi : L[i]? = some (.row (.slice (some ⟨b, 0, none⟩) n c) cs T0 sz)) (hj : L[j]? = some (.row u cs2 T2 sz2))
    (hc1 : u.cells.toList = [u] ∨ True) (hle : o + 1 ≤ cs.length)
    (k : ∀ cs', cs' = cs.take o ++ [u] ++ cs.drop (o + 1) → At N D K E H (L.set i (.row (.slice (some ⟨b, 0, none⟩) n c) cs' T0 sz)) C) : At N D K E H L (uOp P r ops Q ⟨none, .store T x y, ty, pos, aft, g⟩ C) := fun a w ha hs => by
  have hu : ∃ p m q, u = .slice p m q := by
    rcases hs.ok _ (List.mem_of_getElem? hj) with ⟨x, rfl, _⟩ | ⟨b, n, cap, junk, rfl, _⟩
    · exact ⟨_, _, _, rfl⟩
    · exact ⟨_, _, _, rfl⟩
  obtain ⟨p, m, q, rfl⟩ := hu
  exact e_storeRowRaw hw ht hx hy hi rfl rfl (ds := [.slice p m q]) (fun v hv => by rcases List.mem_singleton.1 hv with rfl; rfl) hle (by omega) (k _ rfl) a w ha hs

/-- An array of numbers, built whole. -/
theorem y_build_arr {T e n : Nat} {d : TypeDesc} {sz bt bt' : Nat} {z z' : Value} {parts : Array (Nat × Operand)} {xs : List (Nat × Operand)} {vs : List Value} {cs : List Value} (ht : Ty P T (.array n e) sz z bt) (he : Ty P e d 1 z' bt')
    (hp : parts = xs.toArray) (hv : xs.mapM (fun p => ev E p.2) = some vs) (hi : xs.map (·.1) = List.range n) (hf : Instr.fill (fun i => some (i * 1, 1)) z.cells ((xs.map (·.1)).zip vs) = some cs.toArray) :
    Yd P N D E G ⟨dst, .build T parts, ty, pos, aft, g⟩ (.agg cs.toArray) := fun a w ha _ => by
  subst hp
  have key : ∀ (l : List (Nat × Operand)) (vs : List Value), l.mapM (fun p => ev E p.2) = some vs → l.map (fun p => (p.1, a.eval p.2)) = (l.map (·.1)).zip vs := by
    intro l
    induction l with
    | nil => intro vs h; simp at h; subst h; rfl
    | cons x l ih =>
      intro vs h
      simp only [List.mapM_cons, Option.bind_eq_bind, Option.bind_eq_some_iff] at h
      obtain ⟨v, hv, us, hus, h⟩ := h
      cases h
      simp [ha.eval hv, ih us hus]
  simp only [execOp]
  refine run_value ?_
  unfold Instr.build
  rw [run_then (ht.run_zeroValue w), run_then (run_underlying ht.u w)]
  simp only []
  rw [run_then (he.run_sizeOf w)]
  have e1 : (xs.toArray.map fun p => (p.1, a.eval p.2)).toList = (xs.map (·.1)).zip vs := by rw [← key _ _ hv]; simp
  simp only [e1, hf]; rfl

/-! ### Zeros -/
theorem z111 (H : Hp) : Rp.rep (α := Arr 4 Int) H [.int .i64 0, .int .i64 0, .int .i64 0, .int .i64 0] [0, 0, 0, 0] := ⟨(RepL.cons (c := [_]) rfl (RepL.cons (c := [_]) rfl (RepL.cons (c := [_]) rfl (RepL.cons (c := [_]) rfl RepL.nil)))), rfl⟩
theorem z125 (H : Hp) : Rp.rep (α := TunnelChoice) H [.int .i64 0, .int .i64 0, .int .i64 0, .int .i64 0, .int .i64 0, .int .i64 0] (⟨[0, 0, 0, 0], 0, 0⟩ : TunnelChoice) := ⟨_, _, rfl, ⟨(RepL.cons (c := [_]) rfl (RepL.cons (c := [_]) rfl (RepL.cons (c := [_]) rfl (RepL.cons (c := [_]) rfl RepL.nil)))), rfl⟩, ⟨_, _, rfl, rfl, rfl⟩⟩
theorem z110 (H : Hp) : Rp.rep (α := Bk none) H [.slice none 0 0, .slice none 0 0, .map none] (⟨[], []⟩ : TunnelBook) := ⟨[_, _], rfl, ⟨_, _, rfl, ⟨_, rfl, sl_nil _ none 0⟩, ⟨_, rfl, sl_nil _ none 0⟩⟩⟩

/-! ### Short forms -/
theorem ap {d : Nat} {v : Value} {op : Op} {rest : List Oper} (hy : Yd P N D E (St K H L) ⟨some d, op, ty, pos, aft, none⟩ v) (k : At N D K ((d, v) :: E) H L (uList P r ops Q rest)) (hd : Nat.blt d N = true := by rfl) : At N D K E H L (uList P r ops Q (⟨some d, op, ty, pos, aft, none⟩ :: rest)) :=
  a_cons (p_pure trivial rfl hd hy k)
theorem ag {d : Nat} {v : Value} {op : Op} {rest : List Oper} (hw : Wn ops E g) (hy : Yd P N D E (St K H L) ⟨some d, op, ty, pos, aft, g⟩ v) (k : At N D K ((d, v) :: E) H L (uList P r ops Q rest)) (hd : Nat.blt d N = true := by rfl) : At N D K E H L (uList P r ops Q (⟨some d, op, ty, pos, aft, g⟩ :: rest)) :=
  a_cons (p_pure hw rfl hd hy k)
theorem sk1 {j d : Nat} {want b : Bool} (h1 : (ops[j]?).bind (·.dst) = some d) (h2 : look E d = some (.bool b)) (h3 : b = !want) : Sk ops E (some (j, want)) := ⟨d, h1, .inl ⟨b, h2, h3⟩⟩
theorem sku {j d : Nat} {want : Bool} (h1 : (ops[j]?).bind (·.dst) = some d) (h2 : look E d = some undef) : Sk ops E (some (j, want)) := ⟨d, h1, .inr h2⟩
theorem as1 {d : Nat} {op : Op} {rest : List Oper} (hw : Sk ops E g) (k : At N D K ((d, undef) :: E) H L (uList P r ops Q rest)) (hd : Nat.blt d N = true := by rfl) : At N D K E H L (uList P r ops Q (⟨some d, op, ty, pos, aft, g⟩ :: rest)) :=
  a_cons (p_skip hw rfl hd k)
theorem as0 {op : Op} {rest : List Oper} (hw : Sk ops E g) (k : At N D K E H L (uList P r ops Q rest)) : At N D K E H L (uList P r ops Q (⟨none, op, ty, pos, aft, g⟩ :: rest)) :=
  a_cons (p_skip_none hw rfl k)
class NoP (Q : Exit → Act → World → Prop) : Prop where
  no : ∀ c a w, ¬ Q (.panic c) a w
instance [h : NoP Q] : NoP (Exit.then C Q) := ⟨noP_then h.no⟩
instance [h : NoP Q] {id : Nat} : NoP (Exit.inBlock id Q) := ⟨noP_block h.no⟩
instance {J : Act → World → Prop} [h : NoP Q] : NoP (cutQ J Q) := ⟨noP_cut h.no⟩
instance {fn : Func} {w : World} {X : Nat → Prop} {R : Value → Hp → World → Prop} : NoP (bodyPost P fn (Post w H X R)) := ⟨noP_post⟩
instance {fn : Func} {w : World} {v : Value} : NoP (bodyPost P fn (PostV w H v)) := ⟨noP_post⟩
instance {fn : Func} {w : World} {R : Value → Hp → Prop} : NoP (bodyPost P fn (PostH w H R)) := ⟨noP_post⟩
instance {fn : Func} {w : World} {M : Nat} {p : Obj → Prop} {R : Value → Hp → Prop} : NoP (bodyPost P fn (PostM w H M p R)) := ⟨noP_post⟩
instance {fn : Func} {w : World} {R : Value → Hp → List Ass → Prop} : NoP (bodyPost P fn (PostO w H R)) := ⟨noP_post⟩
theorem dt {S : World → Prop} {d n m fuel : Nat} {v : Value} {op : Op} (i m' : Nat) (hi : ops[i]? = some ⟨some d, op, ty, pos, aft, g⟩) (hw : Wn ops E g) (hy : Yd P N D E S ⟨some d, op, ty, pos, aft, g⟩ v) (hS : ∀ w, St K H L w → S w) [hQ : NoP Q]
    (k : At N D K ((d, v) :: E) H L (uAny P r ops Q S fuel (bits n m'))) (hm : mayTake ops (bits n m) i = true := by kernel_rfl) (hl : (bits n m).setIfInBounds i true = bits n m' := by kernel_rfl) (hd : Nat.blt d N = true := by rfl) : At N D K E H L (uAny P r ops Q S (fuel + 1) (bits n m)) :=
  d_take hi hm hQ.no hl rfl hd hw hy hS k
theorem dk {S : World → Prop} {d n m fuel : Nat} {op : Op} (i m' : Nat) (hi : ops[i]? = some ⟨some d, op, ty, pos, aft, g⟩) (hw : Sk ops E g) (hS : ∀ w, St K H L w → S w) [hQ : NoP Q]
    (k : At N D K ((d, undef) :: E) H L (uAny P r ops Q S fuel (bits n m'))) (hm : mayTake ops (bits n m) i = true := by kernel_rfl) (hl : (bits n m).setIfInBounds i true = bits n m' := by kernel_rfl) (hd : Nat.blt d N = true := by rfl) : At N D K E H L (uAny P r ops Q S (fuel + 1) (bits n m)) :=
  d_skip hi hm hQ.no hl rfl hd hw hS k
theorem d1 {S : World → Prop} {o : Oper} {fuel n m : Nat} (i : Nat) (hi : ops[i]? = some o) (h : At N D K E H L (uOp P r ops Q o (Nx P r ops Q S fuel ((bits n m).setIfInBounds i true)))) (hr : Region.ready .any ops (bits n m) = [i] := by kernel_rfl) :
    At N D K E H L (uAny P r ops Q S (fuel + 1) (bits n m)) := d_one hr hi h
theorem dn {S : World → Prop} {fuel n m i : Nat} (m' : Nat) (hS : ∀ w, St K H L w → S w) (k : At N D K E H L (uAny P r ops Q S fuel (bits n m'))) (hl : (bits n m).setIfInBounds i true = bits n m' := by kernel_rfl) : At N D K E H L (Nx P r ops Q S fuel ((bits n m).setIfInBounds i true)) :=
  d_next hl hS k
theorem sw0 {H : Hp} {L L' : List Ass} (is : List Nat) (hL : is.filterMap (L'[·]?) = L := by rfl) : ∀ w, St K H L' w → Sw H L w := sw_st (HLe.refl _) is hL
theorem swl {H H' : Hp} {L L' : List Ass} (hle : HLe H H') (is : List Nat) (hL : is.filterMap (L'[·]?) = L := by rfl) : ∀ w, St K H' L' w → Sw H L w := sw_st hle is hL
theorem a_en (E' : Env) (h : At N D K E' H L C) (hs : Sublist E' E := by repeat first | exact trivial | refine ⟨rfl, ?_⟩) : At N D K E H L C := a_env hs h

/-- The rest of a drawn region under a name. -/
theorem d_abs {S : World → Prop} {n : Nat} {listed : Array Bool} (h : ∀ U, U = uAny P r ops Q → At N D K E H L (U S n listed)) : At N D K E H L (uAny P r ops Q S n listed) := h _ rfl
theorem d_fwd {S : World → Prop} {n : Nat} {listed : Array Bool} {U : (World → Prop) → Nat → Array Bool → Act → World → Prop} (e : U = uAny P r ops Q) (h : At N D K E H L (uAny P r ops Q S n listed)) : At N D K E H L (U S n listed) := e ▸ h
theorem d_edge {S S' : World → Prop} {n : Nat} {listed : Array Bool} {U : (World → Prop) → Nat → Array Bool → Act → World → Prop} {E' : Env} {L' : List Ass} (e : U = uAny P r ops Q) (h : At N D K E' H L' (U S' n listed)) (hE : Sublist E' E) (is : List Nat) (hn : is.Nodup) (hL : is.filterMap (L[·]?) = L') (hS : ∀ w, S' w → S w) : At N D K E H L (uAny P r ops Q S n listed) :=
  a_env hE (a_own is hn hL (d_weaken hS (e ▸ h)))
theorem d_back {S : World → Prop} {n : Nat} {listed : Array Bool} {U : (World → Prop) → Nat → Array Bool → Act → World → Prop} (e : U = uAny P r ops Q) (h : At N D K E H L (U S n listed)) : At N D K E H L (uAny P r ops Q S n listed) := e ▸ h

theorem Sl.cells1 {α : Type} [Rp α] {v : Value} {l : List α} (h : Sl H v l) : v.cells = #[v] := by
  obtain ⟨x, c, rfl, _⟩ := h.shape; rfl
theorem Sl.csize {α : Type} [Rp α] {v : Value} {l : List α} (h : Sl H v l) : v.cells.size = 1 := by rw [h.cells1]; rfl

/-- An own row's value is stored into a box. -/
theorem e_storeLR {T T0 b o i j T2 sz2 : Nat} {d : TypeDesc} {bt : Nat} {z v : Value} {x y : Operand} {cs cs2 cs' : List Value} (hw : Wn ops E g) (ht : Ty P T d 1 z bt) (hx : ev E x = some (.pointer (some ⟨b, o, none⟩))) (hy : ev E y = some v) (hi : L[i]? = some (.box b cs T0)) (hj : L[j]? = some (.row v cs2 T2 sz2))
    (hlt : o + 1 ≤ cs.length) (hcs : cs.take o ++ [v] ++ cs.drop (o + 1) = cs')
    (k : At N D K E H (L.set i (.box b cs' T0)) C) : At N D K E H L (uOp P r ops Q ⟨none, .store T x y, ty, pos, aft, g⟩ C) := fun a w ha hs => by
  have hu : ∃ p m q, v = .slice p m q := by
    rcases hs.ok _ (List.mem_of_getElem? hj) with ⟨x, rfl, _⟩ | ⟨b, n, cap, junk, rfl, _⟩
    · exact ⟨_, _, _, rfl⟩
    · exact ⟨_, _, _, rfl⟩
  obtain ⟨p, m, q, rfl⟩ := hu
  exact e_store (ds := [.slice p m q]) hw ht hx hy hi rfl rfl (fun v hv => by rcases List.mem_singleton.1 hv with rfl; rfl) hlt hcs k a w ha hs
end
end Go.Lu
