/-
  This program's own: books in a calculation, functions in cells, the two variables, what the map remembers.
-/
import Derived.Test.YtbcabikaaadiiaaDoorLuT
namespace Go.Lu
open Go Go.Proofs
set_option maxRecDepth 100000
set_option linter.unusedVariables false

/-- A function value in a cell. -/
structure Fv where
  v : Value
  one : cell1 v = true
instance : Rp Fv := ⟨1, fun _ cs f => cs = [f.v], fun h => by subst h; rfl, fun {H cs x} h v hv => by subst h; simp at hv; subst hv; exact x.one, fun _ h => h⟩
theorem PAt.fv {H : Hp} {b o : Nat} {f : Fv} (h : PAt H b o f) : ∀ w, Sub H w → CellsAt w b o [f.v] := by
  obtain ⟨cs, hc, hw⟩ := h.cells
  cases (show cs = [f.v] from hc); exact hw

/-- A book in the calculation: its map is m. -/
def Bk (_m : Option Nat) : Type := TunnelBook
instance {m : Option Nat} : Rp (Bk m) :=
  ⟨3, fun H cs b => ∃ c, cs = c ++ [.map m] ∧ Rp.rep H c (show TunnelBook from b), fun ⟨c, e, h⟩ => by subst e; rw [List.length_append, Rp.len h]; rfl,
   fun ⟨c, e, h⟩ v hv => by subst e; rcases List.mem_append.1 hv with hv | hv; exact Rp.one h v hv; simp at hv; subst hv; rfl, fun hl ⟨c, e, h⟩ => ⟨c, e, Rp.mono hl h⟩⟩
theorem Bk.at_b {m : Option Nat} {H : Hp} {b o : Nat} {x : TunnelBook} (h : PAt (α := Bk m) H b o x) : PAt (α := TunnelBook) H b (o + 0) x := by
  obtain ⟨pre, cs, post, T, fr, h1, h2, c, rfl, h3⟩ := h
  exact ⟨pre, c, .map m :: post, T, fr, by rw [h1]; simp, h2, h3⟩
theorem Bk.at_m {m : Option Nat} {H : Hp} {b o : Nat} {x : TunnelBook} (h : PAt (α := Bk m) H b o x) : ∀ w, Sub H w → CellsAt w b (o + 2) [.map m] := by
  obtain ⟨pre, cs, post, T, fr, h1, h2, c, rfl, h3⟩ := h
  exact fun w hs => ⟨pre ++ c, post, T, fr, by rw [hs _ _ h1]; simp, by rw [List.length_append, Rp.len h3, h2]; rfl⟩

def F263 : Value := .func (.func 263) #[] #[]
def F251 : Value := .func (.func 251) #[] #[]
def none0 : TunnelDrying := ⟨-1, [0, 0, 0, 0]⟩
/-- The two variables of the package. -/
structure Glob (H : Hp) : Prop where
  none : PAt H 1 0 none0
  ends : ∀ w, Sub H w → CellsAt w 2 0 [F263, F251]
theorem Glob.mono {H H' : Hp} (hl : HLe H H') (h : Glob H) : Glob H' := ⟨h.none.mono hl, fun w hs => h.ends w (hs.of_le hl)⟩

/-! ### How dry a frame is -/
def dryTerm (b : TunnelBook) (set : List Int) (most : Bool) (j : Int) (n : Int) : Option Int :=
  (nth b.Parts j).bind fun p => (nth set j).bind fun s => (nth p.Heat s).bind fun h =>
    some (IntKind.i64.wrap (n * max 0 (IntKind.i64.wrap (h - bif most then p.Damp.Low else p.Damp.High))))
def dryList (b : TunnelBook) (set : List Int) (most : Bool) : Int → List Int → Option (List Int)
  | _, [] => some []
  | j, n :: l => (dryTerm b set most j n).bind fun t => (dryList b set most (j + 1) l).bind fun r => some (t :: r)
def sumW (l : List Int) : Int := l.foldl (fun a n => IntKind.i64.wrap (a + n)) 0
def dryPure (b : TunnelBook) (x : TunnelDrying) : Option Span :=
  bif decide (x = none0) then some ⟨0, 0⟩ else
  (nth b.Frames x.frame).bind fun f => bif decide (f.Stay.length ≤ capBound) then
    (dryList b x.set_ false 0 f.Stay).bind fun l => (dryList b x.set_ true 0 f.Stay).bind fun m => some ⟨sumW l, sumW m⟩ else none
def goodOf (b : TunnelBook) (f : Int) (set : List Int) (x y : Int) : Prop := dryPure b ⟨f, set⟩ = some ⟨x, y⟩
abbrev Memo (b : TunnelBook) : Obj → Prop := MemoO (goodOf b)

theorem arr4 {H : Hp} {cs : List Value} {l : List Int} (h : Rp.rep (α := Arr 4 Int) H cs l) : ∃ a b c d, l = [a, b, c, d] ∧ cs = [.int .i64 a, .int .i64 b, .int .i64 c, .int .i64 d] := by
  obtain ⟨h1, h2⟩ := h
  have h3 := repL_int h1
  match l, h2 with
  | [a, b, c, d], _ => exact ⟨a, b, c, d, rfl, h3⟩
theorem drying_cells {H : Hp} {cs : List Value} {x : TunnelDrying} (h : Rp.rep H cs x) : ∃ f a b c d, x = ⟨f, [a, b, c, d]⟩ ∧ cs = [.int .i64 f, .int .i64 a, .int .i64 b, .int .i64 c, .int .i64 d] := by
  obtain ⟨c1, c2, rfl, h1, h2⟩ := h
  obtain ⟨f, set⟩ := x
  obtain ⟨a, b, c, d, e1, rfl⟩ := arr4 h2
  cases (show c1 = [.int .i64 f] from h1)
  simp at e1; subst e1
  exact ⟨f, a, b, c, d, rfl, rfl⟩

section
variable {r : Option Nat} {N : Nat} {D : List Deferred} {K : Kp} {E : Env} {H : Hp} {L : List Ass} {ops : Array Oper} {Q : Exit → Act → World → Prop} {C : Act → World → Prop}
variable {dst : Option Tmp} {ty : TypeId} {pos : String} {aft : Array Edge} {g : Option (Nat × Bool)} {dd : Nat} {G : World → Prop}

theorem e_lookupD {M i : Nat} {b : TunnelBook} {x y : Operand} {cs : List Value} {key : TunnelDrying} (hw : Wn ops E g) (hd : Nat.blt dd N = true) (hi : L[i]? = some (.blk M (Memo b))) (hx : ev E x = some (.map (some M))) (hy : ev E y = some (.agg cs.toArray)) (hr : Rp.rep H cs key)
    (k : ∀ (s : Span) (found : Bool), (found = true → dryPure b key = some s) → At N D K ((dd, .tuple #[.agg s.cells.toArray, .bool found]) :: E) H L C) : At N D K E H L (uOp Tryd.prog r ops Q ⟨some dd, .lookup 108 x y true, ty, pos, aft, g⟩ C) := by
  obtain ⟨f, a, b', c, d, rfl, rfl⟩ := drying_cells hr
  exact e_lookup108 hw hd hi hx hy fun found p q hg => k ⟨p, q⟩ found hg

theorem e_updateD {M i : Nat} {b : TunnelBook} {x y z : Operand} {cs ds : List Value} {key : TunnelDrying} {s : Span} (hw : Wn ops E g) (hi : L[i]? = some (.blk M (Memo b))) (hx : ev E x = some (.map (some M))) (hy : ev E y = some (.agg cs.toArray)) (hr : Rp.rep H cs key) (hz : ev E z = some (.agg ds.toArray)) (hs : Rp.rep H ds s)
    (hg : dryPure b key = some s) (k : At N D K E H L C) : At N D K E H L (uOp Tryd.prog r ops Q ⟨none, .mapUpdate 108 x y z, ty, pos, aft, g⟩ C) := by
  obtain ⟨f, a, b', c, d, rfl, rfl⟩ := drying_cells hr
  cases Span.rep_eq hs
  exact e_update108 hw hi hx hy hz hg k

/-! ### Equality -/
theorem run_eq {T T' : TypeId} {x y : Operand} {cs ds : List Value} {q : Bool} (hm : Tryd.prog.eqGuardType Tryd.prog.depth T = false) (hq : ∀ w, (Op.equalIn 10000 T (.agg cs.toArray) (.agg ds.toArray)).run Tryd.prog w = .ok q w) (hx : ev E x = some (.agg cs.toArray)) (hy : ev E y = some (.agg ds.toArray)) :
    Yd Tryd.prog N D E G ⟨dst, .binOp .eql T x y T', ty, pos, aft, g⟩ (.bool q) ∧ Yd Tryd.prog N D E G ⟨dst, .binOp .neq T x y T', ty, pos, aft, g⟩ (.bool (!q)) := by
  constructor
  · intro a w ha _
    simp only [execOp, ha.eval hx, ha.eval hy]
    exact run_value (by rw [run_then (run_eqGuard_agg (hm := hm) ..), run_eql_struct, hq]; rfl)
  · intro a w ha _
    simp only [execOp, ha.eval hx, ha.eval hy]
    exact run_value (by rw [run_then (run_eqGuard_agg (hm := hm) ..), run_neq_struct, hq]; rfl)

theorem eq32' {H : Hp} {cs ds : List Value} {p q : Span} (hp : Rp.rep H cs p) (hq : Rp.rep H ds q) (w : World) : (Op.equalIn 10000 32 (.agg cs.toArray) (.agg ds.toArray)).run Tryd.prog w = .ok (decide (p = q)) w := by
  cases Span.rep_eq hp; cases Span.rep_eq hq
  obtain ⟨a, b⟩ := p; obtain ⟨c, d⟩ := q
  show (Op.equalIn 10000 32 (.agg #[.int .i64 a, .int .i64 b]) (.agg #[.int .i64 c, .int .i64 d])).run Tryd.prog w = _
  rw [eq32]; congr 1
  rw [Bool.eq_iff_iff]; simp
theorem eq111' {H : Hp} {cs ds : List Value} {p q : List Int} (hp : Rp.rep (α := Arr 4 Int) H cs p) (hq : Rp.rep (α := Arr 4 Int) H ds q) (w : World) : (Op.equalIn 10000 111 (.agg cs.toArray) (.agg ds.toArray)).run Tryd.prog w = .ok (decide (p = q)) w := by
  obtain ⟨a, b, c, d, rfl, rfl⟩ := arr4 hp; obtain ⟨a', b', c', d', rfl, rfl⟩ := arr4 hq
  show (Op.equalIn (9998 + 2) 111 (.agg #[_, _, _, _]) (.agg #[_, _, _, _])).run Tryd.prog w = _
  rw [eqA111]; congr 1
  rw [Bool.eq_iff_iff]; simp [and_assoc]
theorem eq120' {H : Hp} {cs ds : List Value} {p q : TunnelDrying} (hp : Rp.rep H cs p) (hq : Rp.rep H ds q) (w : World) : (Op.equalIn 10000 120 (.agg cs.toArray) (.agg ds.toArray)).run Tryd.prog w = .ok (decide (p = q)) w := by
  obtain ⟨f, a, b, c, d, rfl, rfl⟩ := drying_cells hp; obtain ⟨f', a', b', c', d', rfl, rfl⟩ := drying_cells hq
  show (Op.equalIn 10000 120 (.agg #[_, _, _, _, _]) (.agg #[_, _, _, _, _])).run Tryd.prog w = _
  rw [eq120]; congr 1
  rw [Bool.eq_iff_iff]; simp [and_assoc]

variable {T' : TypeId} {x y : Operand} {cs ds : List Value}
theorem y_eq32_eql {p q : Span} (hx : ev E x = some (.agg cs.toArray)) (hy : ev E y = some (.agg ds.toArray)) (hp : Rp.rep H cs p) (hq : Rp.rep H ds q) : Yd Tryd.prog N D E G ⟨dst, .binOp .eql 32 x y T', ty, pos, aft, g⟩ (.bool (decide (p = q))) := (run_eq (by kernel_rfl) (eq32' hp hq) hx hy).1
theorem y_eq32_neq {p q : Span} (hx : ev E x = some (.agg cs.toArray)) (hy : ev E y = some (.agg ds.toArray)) (hp : Rp.rep H cs p) (hq : Rp.rep H ds q) : Yd Tryd.prog N D E G ⟨dst, .binOp .neq 32 x y T', ty, pos, aft, g⟩ (.bool (!decide (p = q))) := (run_eq (by kernel_rfl) (eq32' hp hq) hx hy).2
theorem y_eq111_eql {p q : List Int} (hx : ev E x = some (.agg cs.toArray)) (hy : ev E y = some (.agg ds.toArray)) (hp : Rp.rep (α := Arr 4 Int) H cs p) (hq : Rp.rep (α := Arr 4 Int) H ds q) : Yd Tryd.prog N D E G ⟨dst, .binOp .eql 111 x y T', ty, pos, aft, g⟩ (.bool (decide (p = q))) := (run_eq (by kernel_rfl) (eq111' hp hq) hx hy).1
theorem y_eq120_eql {p q : TunnelDrying} (hx : ev E x = some (.agg cs.toArray)) (hy : ev E y = some (.agg ds.toArray)) (hp : Rp.rep H cs p) (hq : Rp.rep H ds q) : Yd Tryd.prog N D E G ⟨dst, .binOp .eql 120 x y T', ty, pos, aft, g⟩ (.bool (decide (p = q))) := (run_eq (by kernel_rfl) (eq120' hp hq) hx hy).1
end

/-! ### A map, and the books that hold it -/
/-- What a call hands over with a book: a new map that remembers nothing wrong, if any. -/
structure OwnB (n0 : Nat) (H' : Hp) (w' : World) (M : Nat) (b : TunnelBook) : Prop where
  new : n0 ≤ M
  sep : H' M = none
  ok : ∃ o, w'.heap[M]? = some o ∧ Memo b o
end Go.Lu
