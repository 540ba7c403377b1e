/-
  What the written walks use: the state of a drawn region, facts that come out of data, more pure operations.
-/
import Derived.Test.YtbcabikaaadiiaaDoorLuCore7
namespace Go.Lu
open Go

/-- What a drawn region keeps: the frozen heap, some own blocks. -/
def Sw (H : Hp) (L : List Ass) (w : World) : Prop := Sub H w ∧ ∀ x ∈ L, x.ok w

theorem sw_st {K : Kp} {H H' : Hp} {L L' : List Ass} (hle : HLe H H') (is : List Nat) (hL : is.filterMap (L'[·]?) = L) : ∀ w, St K H' L' w → Sw H L w := fun w h =>
  ⟨h.sub.of_le hle, fun x hx => h.ok x (by rw [← hL] at hx; obtain ⟨i, _, hi⟩ := List.mem_filterMap.1 hx; exact List.mem_of_getElem? hi)⟩
theorem sw_sw {H H' : Hp} {L L' : List Ass} (hle : HLe H H') (is : List Nat) (hL : is.filterMap (L'[·]?) = L) : ∀ w, Sw H' L' w → Sw H L w := fun w h =>
  ⟨h.1.of_le hle, fun x hx => h.2 x (by rw [← hL] at hx; obtain ⟨i, _, hi⟩ := List.mem_filterMap.1 hx; exact List.mem_of_getElem? hi)⟩
theorem knows_sw {H : Hp} {L : List Ass} {i b T : Nat} {cs : List Value} (h : L[i]? = some (.box b cs T)) : Knows (Sw H L) b cs :=
  ⟨T, (0, 0), fun _ hs => hs.2 _ (List.mem_of_getElem? h)⟩

theorem cond_t {α : Type} {c : Bool} {a b : α} {r : α} (h : c = true) (hm : (bif c then a else b) = r) : a = r := by subst h; exact hm
theorem cond_f {α : Type} {c : Bool} {a b : α} {r : α} (h : c = false) (hm : (bif c then a else b) = r) : b = r := by subst h; exact hm
theorem bind_some {α β : Type} {o : Option α} {f : α → Option β} {r : β} (h : o.bind f = some r) : ∃ a, o = some a ∧ f a = some r := Option.bind_eq_some_iff.1 h

/-- Two lists together, if that is not too much for any memory. -/
def app {α : Type} (l m : List α) : Option (List α) := if l.length + m.length ≤ capBound then some (l ++ m) else none
theorem app_some {α : Type} {l m u : List α} (h : app l m = some u) : l.length + m.length ≤ capBound ∧ u = l ++ m := by
  unfold app at h; split at h
  · cases h; exact ⟨by assumption, rfl⟩
  · cases h

def rem (a b : Int) : Option Int := if b ≠ 0 then some (a.tmod b) else none
theorem rem_some {a b c : Int} (h : rem a b = some c) : b ≠ 0 ∧ c = a.tmod b := by
  unfold rem at h; split at h
  · cases h; exact ⟨by assumption, rfl⟩
  · cases h
def quo (a b : Int) : Option Int := if b ≠ 0 then some (IntKind.i64.wrap (a.tdiv b)) else none
theorem quo_some {a b c : Int} (h : quo a b = some c) : b ≠ 0 ∧ c = IntKind.i64.wrap (a.tdiv b) := by
  unfold quo at h; split at h
  · cases h; exact ⟨by assumption, rfl⟩
  · cases h

section
variable {P : Program} {r : Option Nat} {N : Nat} {D : List Deferred} {K : Kp} {E : Env} {H : Hp} {L : List Ass} {ops : Array Oper} {Q : Exit → Act → World → Prop} {C : Act → World → Prop}
variable {dst : Option Tmp} {ty : TypeId} {pos : String} {aft : Array Edge} {g : Option (Nat × Bool)} {dd : Nat} {G : World → Prop}

theorem PAt.one {α : Type} [Rp α] {b o : Nat} {x : α} (h : PAt H b o x) : ∃ cs, Rp.rep H cs x ∧ ∀ w, Sub H w → CellsAt w b o cs := h.cells
theorem PAt.sl {α : Type} [Rp α] {b o : Nat} {l : List α} (h : PAt H b o l) : ∃ v, Sl H v l ∧ ∀ w, Sub H w → CellsAt w b o [v] := by
  obtain ⟨cs, ⟨v, rfl, hv⟩, hcs⟩ := h.cells
  exact ⟨v, hv, hcs⟩

theorem y_index {T e : Nat} {d : TypeDesc} {sz bt : Nat} {z : Value} {k : IntKind} {i : Int} {x y : Operand} {v : Value} {b o n c : Nat} (hT : P.underlying T = some (.slice e)) (he : Ty P e d sz z bt)
    (hx : ev E x = some v) (hv : v = .slice (some ⟨b, o, none⟩) n c) (hy : ev E y = some (.int k i)) (h01 : 0 ≤ i ∧ i < n) :
    Yd P N D E G ⟨dst, .indexAddr T x y, ty, pos, aft, g⟩ (.pointer (some ⟨b, o + i.toNat * sz, none⟩)) := fun a w ha _ => by
  subst hv
  simp only [execOp, ha.eval hx, ha.eval hy]
  exact run_value (run_indexAt_sl hT he h01.1 h01.2 w)

theorem nth_in {α : Type} {l : List α} {i : Int} {x : α} (h : nth l i = some x) : 0 ≤ i ∧ i < (l.length : Int) := ⟨(nth_some h).1, (nth_some h).2.1⟩

theorem y_load_one {T b o : Nat} {d : TypeDesc} {sz bt : Nat} {z v : Value} {x : Operand} (ht : Ty P T d sz z bt) (hd : aggD d = false) (hG : ∀ w, G w → Sub H w) (hx : ev E x = some (.pointer (some ⟨b, o, none⟩))) (hc : ∀ w, Sub H w → CellsAt w b o [v]) :
    Yd P N D E G ⟨dst, .load T x, ty, pos, aft, g⟩ v := fun a w ha hw => by
  simp only [execOp, ha.eval hx]
  exact run_value (run_loadAt (run_loadVar_one ht hd (hc w (hG w hw))))

theorem y_load_cells {T b o : Nat} {d : TypeDesc} {sz bt : Nat} {z : Value} {cs : List Value} {x : Operand} (ht : Ty P T d sz z bt) (hd : aggD d = true) (hG : ∀ w, G w → Sub H w) (hx : ev E x = some (.pointer (some ⟨b, o, none⟩))) (hc : ∀ w, Sub H w → CellsAt w b o cs) (hl : cs.length = sz) :
    Yd P N D E G ⟨dst, .load T x, ty, pos, aft, g⟩ (.agg cs.toArray) := fun a w ha hw => by
  simp only [execOp, ha.eval hx]
  exact run_value (run_loadAt (run_loadVar_agg ht hd (hc w (hG w hw)) hl))

theorem y_load_whole {T b : Nat} {d : TypeDesc} {sz bt : Nat} {z : Value} {cs : List Value} {x : Operand} (ht : Ty P T d sz z bt) (hd : aggD d = true) (hG : Knows G b cs) (hx : ev E x = some (.pointer (some ⟨b, 0, none⟩))) (hl : cs.length = sz) :
    Yd P N D E G ⟨dst, .load T x, ty, pos, aft, g⟩ (.agg cs.toArray) :=
  y_load_boxagg ht hd hG hx (by rw [List.drop_zero, ← hl, List.take_length]) hl

section two
variable {x y : Operand} {T : TypeId} {k : IntKind} {p q : Int} {ts : Array TypeId}
theorem y_max (hx : ev E x = some (.int k p)) (hy : ev E y = some (.int k q)) : Yd P N D E G ⟨dst, .call ⟨.builtin .max, #[x, y], ts⟩, ty, pos, aft, g⟩ (.int k (max p q)) := fun a w ha _ => by
  have hm : #[x, y].map a.eval = #[.int k p, .int k q] := by simp [ha.eval hx, ha.eval hy]
  simp only [execOp, resolve, hm]
  have : (Value.int k (if q > p then q else p)) = .int k (max p q) := by congr 1; split <;> omega
  rw [← this]; rfl
theorem y_min (hx : ev E x = some (.int k p)) (hy : ev E y = some (.int k q)) : Yd P N D E G ⟨dst, .call ⟨.builtin .min, #[x, y], ts⟩, ty, pos, aft, g⟩ (.int k (min p q)) := fun a w ha _ => by
  have hm : #[x, y].map a.eval = #[.int k p, .int k q] := by simp [ha.eval hx, ha.eval hy]
  simp only [execOp, resolve, hm]
  have : (Value.int k (if q < p then q else p)) = .int k (min p q) := by congr 1; split <;> omega
  rw [← this]; rfl
end two

theorem y_eql_bool {x y : Operand} {T T' : TypeId} {p q : Bool} (hT : P.underlying T = some .bool) (hx : ev E x = some (.bool p)) (hy : ev E y = some (.bool q)) : Yd P N D E G ⟨dst, .binOp .eql T x y T', ty, pos, aft, g⟩ (.bool (p == q)) := fun a w ha _ => by
  simp only [execOp, ha.eval hx, ha.eval hy]
  have h : (Op.equal T (.bool p) (.bool q)).run P w = .ok (p == q) w := by
    show (Op.equalIn Op.maxDepth T (.bool p) (.bool q)).run P w = _
    unfold Op.maxDepth Op.equalIn
    rw [run_then (run_underlying hT w)]; rfl
  refine run_value ?_
  show ((Op.equal T (.bool p) (.bool q)) >>= fun b => (pure (Value.bool b) : Sem Value)).run P w = _
  rw [run_then h]; rfl
theorem y_neq_bool {x y : Operand} {T T' : TypeId} {p q : Bool} (hT : P.underlying T = some .bool) (hx : ev E x = some (.bool p)) (hy : ev E y = some (.bool q)) : Yd P N D E G ⟨dst, .binOp .neq T x y T', ty, pos, aft, g⟩ (.bool (p != q)) := fun a w ha _ => by
  simp only [execOp, ha.eval hx, ha.eval hy]
  have h : (Op.equal T (.bool p) (.bool q)).run P w = .ok (p == q) w := by
    show (Op.equalIn Op.maxDepth T (.bool p) (.bool q)).run P w = _
    unfold Op.maxDepth Op.equalIn
    rw [run_then (run_underlying hT w)]; rfl
  refine run_value ?_
  show ((Op.equal T (.bool p) (.bool q)) >>= fun b => (pure (Value.bool (!b)) : Sem Value)).run P w = _
  rw [run_then h]; rfl

/-! ### A slice cut -/
theorem run_slice3 {T e : Nat} {d : TypeDesc} {sz bt : Nat} {z : Value} {a : Option Addr} {n c l h m : Nat} {lo hi mx : Option Value} (hT : P.underlying T = some (.slice e)) (he : Ty P e d sz z bt) (w : World)
    (hb : (Instr.sliceBounds true n c lo hi mx).run P w = .ok (l, h, m) w) :
    (Instr.sliceAt T (.slice a n c) lo hi mx).run P w = .ok (.slice (if m = l then a else a.map (·.add (l * sz))) (h - l) (m - l)) w := by
  unfold Instr.sliceAt
  rw [run_then (run_underlying hT w)]
  show (Instr.slice T (.slice a n c) lo hi mx).run P w = _
  unfold Instr.slice
  rw [run_then (run_underlying hT w)]
  simp only []
  rw [run_then hb, run_then (he.run_sizeOf w)]; rfl

def optInt (n : Int) : Option Int → Int
  | none => n
  | some i => i

theorem run_bounds {n c : Nat} {k : IntKind} {lo hi mx : Option Int} (hm : mx.isSome = true → hi.isSome = true) (h1 : 0 ≤ optInt 0 lo) (h2 : optInt 0 lo ≤ optInt n hi) (h3 : optInt n hi ≤ optInt c mx) (h4 : optInt c mx ≤ c) (hn : n ≤ c) (w : World) :
    (Instr.sliceBounds true n c (lo.map (Value.int k)) (hi.map (Value.int k)) (mx.map (Value.int k))).run P w = .ok ((optInt 0 lo).toNat, (optInt n hi).toNat, (optInt c mx).toNat) w := by
  unfold Instr.sliceBounds
  cases mx with
  | none =>
    cases hi with
    | none =>
      simp only [Option.map_none, optInt] at *
      rw [run_then (run_pure _ w), run_then (run_pure _ w)]
      cases lo with
      | none => simp [run_pure, optInt]
      | some l => simp only [Option.map_some, optInt] at *; rw [run_then (run_sliceBound (by omega) (by omega) w)]; simp [run_pure]
    | some h =>
      simp only [Option.map_none, Option.map_some, optInt] at *
      rw [run_then (run_pure _ w), run_then (run_sliceBound (by omega) (by omega) w)]
      cases lo with
      | none => simp only [optInt, Option.map_none] at *; rw [run_then (run_pure _ w)]; simp [run_pure]
      | some l => simp only [Option.map_some, optInt] at *; rw [run_then (run_sliceBound (by omega) (by omega) w)]; simp [run_pure]
  | some m =>
    cases hi with
    | none => simp at hm
    | some h =>
      simp only [Option.map_some, optInt] at *
      rw [run_then (run_sliceBound (by omega) (by omega) w), run_then (run_sliceBound (by omega) (by omega) w)]
      cases lo with
      | none => simp only [optInt, Option.map_none] at *; rw [run_then (run_pure _ w)]; simp [run_pure]
      | some l => simp only [Option.map_some, optInt] at *; rw [run_then (run_sliceBound (by omega) (by omega) w)]; simp [run_pure]

/-- A frozen slice cut: the operands that are there are numbers. -/
theorem Sl.cut {α : Type} [Rp α] {v : Value} {l u : List α} {T e : Nat} {d : TypeDesc} {bt : Nat} {z : Value} {k : IntKind} {lo hi mx : Option Int} (hv : Sl H v l) (hT : P.underlying T = some (.slice e)) (he : Ty P e d (Rp.sz α) z bt)
    (hm : mx.isSome = true → hi.isSome = true) (hu : Lu.cut l (optInt 0 lo) (optInt l.length hi) = some u) (h3 : ∀ m, mx = some m → optInt l.length hi ≤ m ∧ m ≤ l.length) :
    ∃ v', Sl H v' u ∧ ∀ w, (Instr.sliceAt T v (lo.map (Value.int k)) (hi.map (Value.int k)) (mx.map (Value.int k))).run P w = .ok v' w := by
  unfold Lu.cut at hu
  split at hu
  · next hcut =>
    cases hu
    obtain ⟨g1, g2, g3⟩ := hcut
    obtain ⟨x, c, rfl, hc⟩ := hv.shape
    have hb := fun w => run_bounds (P := P) (n := l.length) (c := c) (k := k) (lo := lo) (hi := hi) (mx := mx) hm g1 g2 (by
      cases hmx : mx with
      | none => show optInt _ hi ≤ (c : Int); omega
      | some m => exact (h3 m hmx).1) (by
      cases hmx : mx with
      | none => simp only [optInt]; omega
      | some m => have := (h3 m hmx).2; simp only [optInt]; omega) hc w
    refine ⟨_, ?_, fun w => run_slice3 hT he w (hb w)⟩
    have hlen : ((l.take (optInt l.length hi).toNat).drop (optInt 0 lo).toNat).length = (optInt l.length hi).toNat - (optInt 0 lo).toNat := by
      rw [List.length_drop, List.length_take]; omega
    have hm3 : (optInt l.length hi).toNat ≤ (optInt c mx).toNat := by
      cases hmx : mx with
      | none => show _ ≤ ((c : Int)).toNat; omega
      | some m => have := (h3 m hmx).1; show _ ≤ m.toNat; omega
    by_cases hz : (optInt l.length hi).toNat - (optInt 0 lo).toNat = 0
    · refine .inl ⟨?_, _, _, by rw [hz]⟩
      exact List.length_eq_zero_iff.1 (by rw [hlen, hz])
    · rcases hv with ⟨rfl, _⟩ | ⟨b, cap, pre, cs, post, T', fr, e', j1, j2, j3⟩
      · exfalso; simp only [List.length_nil] at g3 hz; omega
      · simp only [Value.slice.injEq] at e'
        obtain ⟨rfl, _, rfl⟩ := e'
        obtain ⟨c1, c2, rfl, k1, k2⟩ := j3.cut (optInt l.length hi).toNat (by omega)
        obtain ⟨c3, c4, rfl, k3, k4⟩ := k1.cut (optInt 0 lo).toNat (by rw [List.length_take]; omega)
        have hk3 := k3.len
        rw [List.length_take, List.length_take] at hk3
        have hne : (optInt c mx).toNat ≠ (optInt 0 lo).toNat := by omega
        refine .inr ⟨b, (optInt c mx).toNat - (optInt 0 lo).toNat, pre ++ c3, c4, c2 ++ post, T', fr, ?_, ?_, by rw [j2]; simp, k4⟩
        · rw [if_neg hne, hlen]
          simp only [Option.map_some, add_plain', List.length_append]
          rw [hk3, show min (optInt 0 lo).toNat (min (optInt l.length hi).toNat l.length) = (optInt 0 lo).toNat by omega]
        · rw [hlen]; omega
  · cases hu

theorem y_slice {x : Operand} {v v' : Value} {T : Nat} {lo hi mx : Option Operand} {vlo vhi vmx : Option Value} (hx : ev E x = some v) (h1 : lo.map (ev E) = vlo.map some) (h2 : hi.map (ev E) = vhi.map some) (h3 : mx.map (ev E) = vmx.map some)
    (hr : ∀ w, (Instr.sliceAt T v vlo vhi vmx).run P w = .ok v' w) : Yd P N D E G ⟨dst, .slice T x lo hi mx, ty, pos, aft, g⟩ v' := fun a w ha _ => by
  have key : ∀ (o : Option Operand) (u : Option Value), o.map (ev E) = u.map some → o.map a.eval = u := by
    intro o u h
    cases o with
    | none => cases u; rfl; cases h
    | some o => cases u with
      | none => cases h
      | some u => simp at h; simp [ha.eval h]
  simp only [execOp, ha.eval hx, key _ _ h1, key _ _ h2, key _ _ h3]
  exact run_value (hr w)
end
end Go.Lu
