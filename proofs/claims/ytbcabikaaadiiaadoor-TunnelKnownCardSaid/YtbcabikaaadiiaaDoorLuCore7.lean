/-
  Slices that are built, appended to, cut; max and min; loops.
-/
import Derived.Test.YtbcabikaaadiiaaDoorLuCore6
namespace Go.Lu
open Go

section
variable {P : Program} {r : Option Nat} {N : Nat} {D : List Deferred} {K : Kp} {E : Env} {H : Hp} {L : List Ass} {ops : Array Oper} {Q : Exit → Act → World → Prop} {C : Act → World → Prop}
variable {dst : Option Tmp} {ty : TypeId} {pos : String} {aft : Array Edge} {g : Option (Nat × Bool)} {dd : Nat} {G : World → Prop}

theorem mapM_eval {a : Act} (ha : Ag N D E a) : ∀ {l : List Operand} {vs : List Value}, l.mapM (ev E) = some vs → l.map a.eval = vs
  | [], vs, h => by simp at h; subst h; rfl
  | x :: l, vs, h => by
    simp only [List.mapM_cons, Option.bind_eq_bind, Option.bind_eq_some_iff] at h
    obtain ⟨v, hv, us, hus, h⟩ := h
    cases h
    simp [ha.eval hv, mapM_eval ha hus]

theorem foldl_set (off : Nat) : ∀ (vs : List Value) (k : Nat) (A : Array Value), off + k + vs.length ≤ A.size →
    ((vs.zipIdx k).foldl (fun cs (c, j) => cs.setIfInBounds (off + j) c) A).toList = A.toList.take (off + k) ++ vs ++ A.toList.drop (off + k + vs.length)
  | [], k, A, _ => by simp
  | v :: vs, k, A, h => by
    simp only [List.length_cons] at h
    rw [List.zipIdx_cons, List.foldl_cons, foldl_set off vs (k + 1) _ (by simp; omega)]
    have hA : (A.setIfInBounds (off + k) v).toList = A.toList.set (off + k) v := by simp
    rw [hA]
    have e1 : (A.toList.set (off + k) v).take (off + (k + 1)) = A.toList.take (off + k) ++ [v] := by
      rw [show off + (k + 1) = (off + k) + 1 by omega, List.take_succ_eq_append_getElem (by simp; omega)]
      rw [List.take_set_of_le (Nat.le_refl _)]; simp
    have e2 : (A.toList.set (off + k) v).drop (off + (k + 1) + vs.length) = A.toList.drop (off + k + (v :: vs).length) := by
      rw [List.drop_set_of_lt (by omega)]; congr 1; simp; omega
    rw [e1, e2]; simp

theorem fill_all {sz : Nat} : ∀ (vs : List Value) (k : Nat) (A : Array Value), (∀ v ∈ vs, v.cells.size = sz) → A.size = (k + vs.length) * sz →
    ∃ A', Instr.fill (fun i => some (i * sz, sz)) A ((vs.zipIdx k).map fun p => (p.2, p.1)) = some A' ∧ A'.toList = A.toList.take (k * sz) ++ vs.flatMap (·.cells.toList)
  | [], k, A, _, h => ⟨A, rfl, by rw [List.take_of_length_le (by simp at h; simp [h])]; simp⟩
  | v :: vs, k, A, hv, h => by
    have h1 : v.cells.size = sz := hv v (by simp)
    have hsz : A.size = k * sz + sz + vs.length * sz := by rw [h]; simp only [List.length_cons]; rw [Nat.add_mul, Nat.add_mul]; omega
    have hle : ¬ (v.cells.size ≠ sz ∨ k * sz + v.cells.size > A.size) := by
      intro hh; rcases hh with hh | hh
      · exact hh h1
      · omega
    have hf := foldl_set (k * sz) v.cells.toList 0 A (by simp [h1]; omega)
    have hsz' : (Array.foldl (fun cs (x : Value × Nat) => cs.setIfInBounds (k * sz + x.2) x.1) A v.cells.zipIdx) = (v.cells.toList.zipIdx 0).foldl (fun cs (c, j) => cs.setIfInBounds (k * sz + j) c) A := by
      rw [← Array.foldl_toList]; simp
    obtain ⟨A', hA', ht⟩ := fill_all (sz := sz) vs (k + 1) (Array.foldl (fun cs (x : Value × Nat) => cs.setIfInBounds (k * sz + x.2) x.1) A v.cells.zipIdx) (fun u hu => hv u (by simp [hu])) (by
      rw [hsz', ← Array.length_toList, hf]; simp [h1, Nat.add_mul, List.length_append]; rw [hsz]; omega)
    refine ⟨A', ?_, ?_⟩
    · rw [List.zipIdx_cons, List.map_cons, Instr.fill]
      simp only []
      rw [if_neg (by simpa using hle)]; exact hA'
    · rw [ht, hsz', hf, List.flatMap_cons]
      have : (A.toList.take (k * sz + 0) ++ v.cells.toList ++ A.toList.drop (k * sz + 0 + v.cells.toList.length)).take ((k + 1) * sz) = A.toList.take (k * sz) ++ v.cells.toList := by
        rw [List.take_append_of_le_length (by simp [h1, Nat.add_mul]; omega), List.take_of_length_le (by simp [h1, Nat.add_mul]; omega)]
        simp
      rw [this, List.append_assoc]

theorem e_buildSlice {T e n : Nat} {d : TypeDesc} {sz bt : Nat} {z : Value} {parts : Array (Nat × Operand)} {xs : List Operand} {vs : List Value} {cs : List Value} (hw : Wn ops E g) (hd : Nat.blt dd N = true) (hT : P.underlying T = some (.slice e)) (he : Ty P e d sz z bt)
    (hp : parts = ((xs.zipIdx).map fun p => (p.2, p.1)).toArray) (hxs : xs.mapM (ev E) = some vs) (hn : vs.length = n) (hsz : ∀ v ∈ vs, v.cells.size = sz) (hb : Nat.ble (n * sz) (2 ^ 24) = true) (hcs : vs.flatMap (·.cells.toList) = cs)
    (k : ∀ v, At N D K ((dd, v) :: E) H (.row v cs e sz :: L) C) : At N D K E H L (uOp P r ops Q ⟨some dd, .buildSlice T n parts, ty, pos, aft, g⟩ C) := by
  subst hn
  refine e_value hw rfl hd fun a w ha hs => ?_
  have hm := mapM_eval ha hxs
  have hpm : (parts.map fun (i, x) => (i, a.eval x)).toList = (vs.zipIdx).map fun p => (p.2, p.1) := by
    rw [hp, ← hm, List.zipIdx_map]
    simp [Function.comp_def]
  have hlen : cs.length = vs.length * sz := by
    rw [← hcs]; clear hcs hxs hm hpm hb
    induction vs with
    | nil => simp
    | cons v vs ih => rw [List.flatMap_cons, List.length_append, ih (fun u hu => hsz u (by simp [hu]))]; simp [hsz v (by simp), Nat.add_mul]; omega
  have key : ∀ A : Array Value, A.size = vs.length * sz → ∃ A', Instr.fill (fun i => some (i * sz, sz)) A ((parts.map fun (i, x) => (i, a.eval x)).toList) = some A' ∧ A'.toList = cs := by
    intro A hA
    obtain ⟨A', h1, h2⟩ := fill_all (sz := sz) vs 0 A hsz (by simpa using hA)
    exact ⟨A', by rw [hpm]; exact h1, by rw [h2, hcs]; simp⟩
  have hz : ∃ zero : Array Value, ((if vs.length * sz = 0 then pure #[] else do pure (← zeroValue e).cells : Sem (Array Value))).run P w = .ok zero w := by
    by_cases h0 : vs.length * sz = 0
    · exact ⟨#[], by rw [if_pos h0]; rfl⟩
    · exact ⟨z.cells, by rw [if_neg h0, run_then (he.run_zeroValue w)]; rfl⟩
  obtain ⟨zero, hzero⟩ := hz
  obtain ⟨A', hf, hA'⟩ := key ((Array.range (vs.length * sz)).map (zero[· % zero.size]!)) (by simp)
  have hb' : ¬ vs.length * sz > 2 ^ 24 := by have := Nat.le_of_ble_eq_true hb; omega
  refine ⟨.slice (some ⟨w.heap.size, 0, none⟩) vs.length vs.length, w.alloc (.cells A' e), ?_, fun a' ha' => ?_⟩
  · simp only [execOp]
    refine run_value ?_
    unfold Instr.buildSlice
    rw [run_then (run_underlying hT w)]
    simp only []
    rw [run_then (he.run_sizeOf w), if_neg hb']
    have hrow : (newRow e A').run P w = .ok ⟨w.heap.size, 0, none⟩ (w.alloc (.cells A' e)) := rfl
    by_cases h0 : vs.length * sz = 0
    · rw [if_pos h0, run_then (run_pure _ w)]
      have hz0 : zero = #[] := by rw [if_pos h0] at hzero; cases hzero; rfl
      subst hz0
      simp only [hf]
      rw [run_then hrow]; rfl
    · rw [if_neg h0, run_then (he.run_zeroValue w), run_then (run_pure _ w)]
      have hz0 : zero = z.cells := by rw [if_neg h0, run_then (he.run_zeroValue w)] at hzero; cases hzero; rfl
      subst hz0
      simp only [hf]
      rw [run_then hrow]; rfl
  · have hA'' : A' = cs.toArray := by rw [← hA']
    have := hs.mkrow cs [] e sz vs.length vs.length (Nat.le_refl _) hlen (by simpa using hlen)
    have e1 : rowObj cs [] e = .cells A' e := by simp [rowObj, hA'']
    rw [e1] at this
    exact k _ a' _ ha' this

/-! ### append -/
def capBound : Nat := 1048576

theorem growBy_le (m : Nat) : ∀ (k c : Nat), Builtin.growBy m k c ≤ 2 ^ k * (c + 192)
  | 0, c => by simp [Builtin.growBy]
  | k + 1, c => by
    rw [Builtin.growBy]
    split
    · have : 1 ≤ 2 ^ (k + 1) := Nat.one_le_two_pow
      calc c ≤ 1 * (c + 192) := by omega
        _ ≤ 2 ^ (k + 1) * (c + 192) := Nat.mul_le_mul_right _ this
    · refine Nat.le_trans (growBy_le m k _) ?_
      rw [Nat.pow_succ, Nat.mul_assoc]
      exact Nat.mul_le_mul_left _ (by omega)

theorem nextslicecap_le {n c : Nat} (h : c < n) (hn : n ≤ capBound) : Builtin.nextslicecap n c ≤ 2 ^ 25 := by
  unfold capBound at hn
  unfold Builtin.nextslicecap
  split
  · omega
  · split
    · omega
    · have := growBy_le n 4 c; omega

theorem run_askRoom (n : Nat) (w : World) : (askRoom n).run P w = .ok () w := by
  unfold askRoom; split <;> rfl

theorem zeroCells_size (z : Array Value) (n : Nat) : (Builtin.zeroCells z n).size = n * z.size := by simp [Builtin.zeroCells]

/-- Where a row's cells come from: in any world with this heap they are read. -/
def Reads (P : Program) (sz : Nat) (w : World) (x : Value) (ds : List Value) : Prop :=
  ∃ m, (∀ w' : World, (Builtin.lenOf x).run P w' = .ok m w') ∧ ds.length = m * sz ∧ ∀ w' : World, w'.heap = w.heap → (Builtin.firstCells sz m x).run P w' = .ok ds.toArray w'

theorem reads_slice {sz : Nat} {w : World} {x : Option Addr} {n c : Nat} {ds : List Value} (hl : ds.length = n * sz) (h : ds = [] ∨ ∃ b o, x = some ⟨b, o, none⟩ ∧ CellsAt w b o ds) : Reads P sz w (.slice x n c) ds := by
  refine ⟨n, fun w' => rfl, hl, fun w' hw' => ?_⟩
  rcases h with rfl | ⟨b, o, rfl, hc⟩
  · have h0 : n * sz = 0 := by simpa using hl.symm
    cases x with
    | none => rfl
    | some a => unfold Builtin.firstCells; simp only [h0]; rfl
  · unfold Builtin.firstCells
    rw [← hl]
    refine run_loadCells ?_
    obtain ⟨pre, post, T, fr, hb, e⟩ := hc
    exact ⟨pre, post, T, fr, by rw [hw']; exact hb, e⟩

theorem Sl.reads {α : Type} [Rp α] {v : Value} {l : List α} (h : Sl H v l) : ∃ ds, RepL H ds l ∧ ∀ w, Sub H w → Reads P (Rp.sz α) w v ds := by
  rcases h with ⟨rfl, x, c, rfl⟩ | ⟨b, cap, pre, cs, post, T, fr, rfl, h1, h2, h3⟩
  · exact ⟨[], .nil, fun w _ => reads_slice (by simp) (.inl rfl)⟩
  · exact ⟨cs, h3, fun w hs => reads_slice h3.len (.inr ⟨b, _, rfl, pre, post, T, fr, hs _ _ h2, rfl⟩)⟩

theorem row_reads {v : Value} {cs : List Value} {T sz : Nat} {w : World} (h : (Ass.row v cs T sz).ok w) : Reads P sz w v cs := by
  rcases h with ⟨x, rfl, rfl⟩ | ⟨b, n, cap, junk, rfl, h0, h1, h2, h3, ho⟩
  · exact reads_slice (by simp) (.inl rfl)
  · exact reads_slice h2 (.inr ⟨b, 0, rfl, [], junk, T, (0, 0), by simpa [rowObj] using ho, rfl⟩)

theorem run_append {T T2 e e2 : Nat} {d : TypeDesc} {sz bt : Nat} {z : Value} {v x : Value} {cs ds : List Value} {w : World} {i : Nat} (hT : P.underlying T = some (.slice e)) (hT2 : P.underlying T2 = some (.slice e2)) (he : Ty P e d sz z bt) (hz : z.cells.size = sz) (h0 : sz ≠ 0) (hbt : bt ≠ 0) (hbt2 : bt ≤ 1024)
    (hs : St K H L w) (hi : L[i]? = some (.row v cs e sz)) (hx : Reads P sz w x ds) (h1 : ∀ u ∈ ds, cell1 u = true) (hb : cs.length + ds.length ≤ capBound * sz) :
    ∃ v' w', (Builtin.append_ #[T, T2] ty #[v, x]).run P w = .ok v' w' ∧ St K H (L.set i (.row v' (cs ++ ds) e sz)) w' := by
  have hmem := List.mem_of_getElem? hi
  have hok := hs.ok _ hmem
  have hm := hs.mine _ hmem
  obtain ⟨m, hlen, hdl, hfirst⟩ := hx
  obtain ⟨inf, hinf, hisz, hiz, hibt⟩ := he.i
  -- the shape of the row
  obtain ⟨base, n, cap, rfl, hcl, hncap, hfirst0⟩ : ∃ base n cap, v = .slice base n cap ∧ cs.length = n * sz ∧ n ≤ cap ∧ (∀ w' : World, w'.heap = w.heap → (Builtin.firstCells sz n (.slice base n cap)).run P w' = .ok cs.toArray w') := by
    obtain ⟨m', hl', hd', hf'⟩ := row_reads (P := P) hok
    rcases hok with ⟨x, rfl, rfl⟩ | ⟨b, n, cap, junk, rfl, g0, g1, g2, g3, go⟩
    · have : m' = 0 := by have := hl' w; cases this; rfl
      subst this
      exact ⟨x, 0, 0, rfl, by simp, Nat.le_refl _, hf'⟩
    · have : m' = n := by have := hl' w; cases this; rfl
      subst this
      exact ⟨_, _, cap, rfl, g2, g1, hf'⟩
  have hnm : n + m ≤ capBound := by
    rw [hcl, hdl, ← Nat.add_mul] at hb
    exact Nat.le_of_mul_le_mul_right hb (by omega)
  have hsz1 : ∀ w, (sizeOf e).run P w = .ok sz w := he.run_sizeOf
  unfold Builtin.append_
  simp only [List.getElem?_toArray, List.getElem?_cons_zero, List.getElem?_cons_succ]
  rw [run_then (run_underlying hT w)]
  simp only []
  rw [run_then (hsz1 w), run_then (run_underlying hT2 w), run_then (run_pure _ w)]
  simp only [Bool.false_eq_true, if_false, Bool.not_false, if_true]
  rw [run_then (hlen w)]
  by_cases hroom : n + m ≤ cap
  · rw [if_pos hroom, run_then (hfirst w rfl)]
    have hok' := hok
    rcases hok with ⟨x, hv, rfl⟩ | ⟨b, n', cap', junk, hv, g0, g1, g2, g3, go⟩
    · simp only [Value.slice.injEq] at hv
      obtain ⟨rfl, rfl, rfl⟩ := hv
      have hm0 : m = 0 := by omega
      subst hm0
      have hd0 : ds = [] := by simpa using hdl
      subst hd0
      refine ⟨.slice base 0 0, w, ?_, ?_⟩
      · cases base <;> rfl
      · exact hs.turnAt hi (.inl ⟨base, rfl, rfl⟩) (fun b hb => by cases base <;> simp [Ass.foot] at hb) (fun b hb => by cases base <;> simp [Ass.foot] at hb) (Nat.le_refl _) (fun _ _ _ => rfl)
    · simp only [Value.slice.injEq] at hv
      obtain ⟨rfl, rfl, rfl⟩ := hv
      have hmul : (n + m) * sz ≤ cap * sz := Nat.mul_le_mul_right _ hroom
      rw [Nat.add_mul] at hmul
      obtain ⟨w', hr, hb', hsz', hoth, hio⟩ := run_storeCells (P := P) (b := b) (o := n * sz) (T := e) ds 0 w (cs ++ junk) go (by rw [g3]; omega) h1
      refine ⟨.slice (some ⟨b, 0, none⟩) (n + m) cap, w', ?_, ?_⟩
      · simp only [add_plain', Nat.zero_add]
        rw [run_then hr]; rfl
      · refine hs.turnAt hi (.inr ⟨b, n + m, cap, junk.drop ds.length, rfl, g0, hroom, ?_, ?_, ?_⟩) (fun b' hb => .inl (by simpa [Ass.foot, g0] using hb)) (fun b' hb => hm b' (by simpa [Ass.foot, g0] using hb)) (by omega) (fun r _ hne => hoth r (by simpa [Ass.foot, g0] using hne)) hio
        · rw [List.length_append, hcl, hdl, Nat.add_mul]
        · rw [List.length_append] at g3
          simp only [List.length_append, List.length_drop]
          omega
        · rw [hb']
          have e1 : (cs ++ junk).take (n * sz + 0) = cs := by rw [Nat.add_zero, ← g2, List.take_left']; rfl
          have e2 : (cs ++ junk).drop (n * sz + 0 + ds.length) = junk.drop ds.length := by
            rw [Nat.add_zero, List.drop_append, List.drop_of_length_le (by omega)]
            simp [g2]
          rw [e1, e2]; rfl
  · rw [if_neg hroom]
    have hmax : ¬ ((((n + m : Nat) : Int) > IntKind.i64.max) ∧ (False ∨ inf.bytes = 0)) := by
      rintro ⟨_, h | h⟩
      · exact h
      · omega
    have hcapb : ¬ (Builtin.nextslicecap (n + m) cap * inf.bytes > 2 ^ 48) := by
      have h2 := nextslicecap_le (n := n + m) (c := cap) (by omega) hnm
      have h3 : Builtin.nextslicecap (n + m) cap * inf.bytes ≤ 2 ^ 25 * 1024 := Nat.mul_le_mul h2 (by omega)
      omega
    rw [run_then (run_typeInfo hinf w), if_neg hmax, run_then (run_typeInfo hinf w), if_neg hcapb]
    obtain ⟨w1, nc, hch, ⟨hw1, hio⟩, hnc⟩ : ∃ w1 nc, (choose (.appendCap (n + m) cap e)).run P w = .ok nc w1 ∧ (w1.heap = w.heap ∧ Io w w1) ∧ n + m ≤ nc :=
      ⟨{ w with drawn := w.drawn + 1 }, _, rfl, ⟨rfl, rfl, rfl⟩, by simp only [Question.cut]; omega⟩
    rw [run_then hch, run_then (run_typeInfo hinf w1), run_then (run_askRoom _ w1), run_then (hfirst0 w1 hw1), run_then (hfirst w1 hw1), run_then (he.run_zeroValue w1)]
    have hzl : (Builtin.zeroCells z.cells (nc - (n + m))).size = (nc - (n + m)) * sz := by rw [zeroCells_size, hz]
    have hrow : rowObj (cs ++ ds) (Builtin.zeroCells z.cells (nc - (n + m))).toList e = .cells (cs.toArray ++ ds.toArray ++ Builtin.zeroCells z.cells (nc - (n + m))) e := by
      unfold rowObj; congr 1; apply Array.ext'; simp
    have hs1 : St K H L w1 := hs.of_heap hw1 hio
    refine ⟨.slice (some ⟨w1.heap.size, 0, none⟩) (n + m) nc, w1.alloc (.cells (cs.toArray ++ ds.toArray ++ Builtin.zeroCells z.cells (nc - (n + m))) e), ?_, ?_⟩
    · rw [run_then (show (newRow e (cs.toArray ++ ds.toArray ++ Builtin.zeroCells z.cells (nc - (n + m)))).run P w1 = .ok ⟨w1.heap.size, 0, none⟩ (w1.alloc (.cells (cs.toArray ++ ds.toArray ++ Builtin.zeroCells z.cells (nc - (n + m))) e)) from rfl)]; rfl
    · have hnc0 : nc ≠ 0 := by omega
      refine hs1.turnAt hi (.inr ⟨w1.heap.size, n + m, nc, (Builtin.zeroCells z.cells (nc - (n + m))).toList, rfl, hnc0, hnc, ?_, ?_, ?_⟩) (fun b hb => .inr (by simp [Ass.foot, hnc0] at hb; omega)) (fun b hb => by simp [Ass.foot, hnc0] at hb; rw [hb]; exact hs1.size) ?_ (fun r hr _ => heap_alloc_lt _ _ hr)
      · rw [List.length_append, hcl, hdl, Nat.add_mul]
      · rw [List.length_append, List.length_append, hcl, hdl, Array.length_toList, hzl, ← Nat.add_mul, ← Nat.add_mul]
        congr 1; omega
      · rw [hrow]; exact heap_alloc_new _ _
      · show _ ≤ (w1.heap.push _).size; simp

theorem e_append {T T2 e e2 : Nat} {d : TypeDesc} {sz bt : Nat} {z : Value} {v u : Value} {x y : Operand} {cs : List Value} {i : Nat} (hw : Wn ops E g) (hd : Nat.blt dd N = true) (hT : P.underlying T = some (.slice e)) (hT2 : P.underlying T2 = some (.slice e2)) (he : Ty P e d sz z bt) (hz : z.cells.size = sz) (h0 : Nat.blt 0 sz = true) (hbt : Nat.blt 0 bt = true) (hbt2 : Nat.ble bt 1024 = true)
    (hx : ev E x = some v) (hy : ev E y = some u) (hi : L[i]? = some (.row v cs e sz)) {ds : List Value} (hr : ∀ w, St K H L w → Reads P sz w u ds) (h1 : ∀ u ∈ ds, cell1 u = true) (hb : cs.length + ds.length ≤ capBound * sz)
    (k : ∀ v', At N D K ((dd, v') :: E) H (L.set i (.row v' (cs ++ ds) e sz)) C) : At N D K E H L (uOp P r ops Q ⟨some dd, .call ⟨.builtin .append, #[x, y], #[T, T2]⟩, ty, pos, aft, g⟩ C) := by
  refine e_value hw rfl hd fun a w ha hs => ?_
  have lt0 : ∀ {n : Nat}, Nat.blt 0 n = true → n ≠ 0 := fun h => by have := Nat.le_of_ble_eq_true h; omega
  obtain ⟨v', w', hrun, hs'⟩ := run_append (ty := ty) hT hT2 he hz (lt0 h0) (lt0 hbt) (Nat.le_of_ble_eq_true hbt2) hs hi (hr w hs) h1 hb
  refine ⟨v', w', ?_, fun a' ha' => k v' a' w' ha' hs'⟩
  have hm : #[x, y].map a.eval = #[v, u] := by simp [ha.eval hx, ha.eval hy]
  simp only [execOp, resolve, hm]
  exact run_value hrun

/-- Appended: what lies in a frozen slice. -/
theorem e_append_sl {α : Type} [Rp α] {T T2 e e2 : Nat} {d : TypeDesc} {bt : Nat} {z : Value} {v u : Value} {x y : Operand} {cs : List Value} {l m : List α} {i : Nat} (hw : Wn ops E g) (hd : Nat.blt dd N = true) (hT : P.underlying T = some (.slice e)) (hT2 : P.underlying T2 = some (.slice e2)) (he : Ty P e d (Rp.sz α) z bt) (hz : z.cells.size = Rp.sz α) (h0 : Nat.blt 0 (Rp.sz α) = true) (hbt : Nat.blt 0 bt = true) (hbt2 : Nat.ble bt 1024 = true)
    (hx : ev E x = some v) (hy : ev E y = some u) (hi : L[i]? = some (.row v cs e (Rp.sz α))) (hc : RepL H cs l) (hu : Sl H u m) (hb : l.length + m.length ≤ capBound)
    (k : ∀ v' cs', RepL H cs' (l ++ m) → At N D K ((dd, v') :: E) H (L.set i (.row v' cs' e (Rp.sz α))) C) : At N D K E H L (uOp P r ops Q ⟨some dd, .call ⟨.builtin .append, #[x, y], #[T, T2]⟩, ty, pos, aft, g⟩ C) := by
  obtain ⟨ds, hd', hr⟩ := hu.reads (P := P)
  refine e_append hw hd hT hT2 he hz h0 hbt hbt2 hx hy hi (fun w hs => hr w hs.sub) hd'.one ?_ (fun v' => k v' _ (hc.append hd'))
  rw [hc.len, hd'.len, ← Nat.add_mul]; exact Nat.mul_le_mul_right _ hb

/-- Appended: what lies in a row of one's own. -/
theorem e_append_row {α : Type} [Rp α] {T T2 e e2 : Nat} {d : TypeDesc} {bt : Nat} {z : Value} {v u : Value} {x y : Operand} {cs ds : List Value} {l m : List α} {i j : Nat} (hw : Wn ops E g) (hd : Nat.blt dd N = true) (hT : P.underlying T = some (.slice e)) (hT2 : P.underlying T2 = some (.slice e2)) (he : Ty P e d (Rp.sz α) z bt) (hz : z.cells.size = Rp.sz α) (h0 : Nat.blt 0 (Rp.sz α) = true) (hbt : Nat.blt 0 bt = true) (hbt2 : Nat.ble bt 1024 = true)
    (hx : ev E x = some v) (hy : ev E y = some u) (hi : L[i]? = some (.row v cs e (Rp.sz α))) (hc : RepL H cs l) {e' : Nat} (hj : L[j]? = some (.row u ds e' (Rp.sz α))) (hu : RepL H ds m) (hb : l.length + m.length ≤ capBound)
    (k : ∀ v' cs', RepL H cs' (l ++ m) → At N D K ((dd, v') :: E) H (L.set i (.row v' cs' e (Rp.sz α))) C) : At N D K E H L (uOp P r ops Q ⟨some dd, .call ⟨.builtin .append, #[x, y], #[T, T2]⟩, ty, pos, aft, g⟩ C) := by
  refine e_append hw hd hT hT2 he hz h0 hbt hbt2 hx hy hi (fun w hs => row_reads (hs.ok _ (List.mem_of_getElem? hj))) hu.one ?_ (fun v' => k v' _ (hc.append hu))
  rw [hc.len, hu.len, ← Nat.add_mul]; exact Nat.mul_le_mul_right _ hb

/-! ### The length of a slice -/
theorem y_len_sl {α : Type} [Rp α] {x : Operand} {v : Value} {l : List α} {T e : TypeId} (ht : P.underlying T = some (.slice e)) (hx : ev E x = some v) (hv : Sl H v l) : Yd P N D E G ⟨dst, .call ⟨.builtin .len, #[x], #[T]⟩, ty, pos, aft, g⟩ (.int .i64 (l.length : Int)) := by
  obtain ⟨p, c, rfl, _⟩ := hv.shape
  exact y_len ht hx

theorem y_len_row {α : Type} [Rp α] {x : Operand} {v : Value} {cs : List Value} {l : List α} {i T T' e : Nat} (ht : P.underlying T = some (.slice e)) (hx : ev E x = some v) (hi : L[i]? = some (.row v cs T' (Rp.sz α))) (hc : RepL H cs l) (h0 : Nat.blt 0 (Rp.sz α) = true) : Yd P N D E (St K H L) ⟨dst, .call ⟨.builtin .len, #[x], #[T]⟩, ty, pos, aft, g⟩ (.int .i64 (l.length : Int)) := fun a w ha hs => by
  have hz : Rp.sz α ≠ 0 := by have := Nat.le_of_ble_eq_true h0; omega
  have hl := hc.len
  rcases hs.ok _ (List.mem_of_getElem? hi) with ⟨y, rfl, rfl⟩ | ⟨b, n, cap, junk, rfl, g0, g1, g2, g3, go⟩
  · have : l.length = 0 := by
      have h' : l.length * Rp.sz α = 0 := by simpa using hl.symm
      rcases Nat.mul_eq_zero.1 h' with h | h
      · exact h
      · exact absurd h hz
    rw [this]; exact y_len ht hx a w ha hs
  · have : n = l.length := Nat.eq_of_mul_eq_mul_right (by omega) (g2.symm.trans hl)
    rw [← this]; exact y_len ht hx a w ha hs

/-! ### Loops -/
theorem a_loop {c : Code} (I : Nat → Act → World → Prop) (k : Nat) (h0 : At N D K E H L (I k))
    (round : ∀ k a w, I k a w → Cx P r c (Exit.then (fun a' w' => ∃ k', k' < k ∧ I k' a' w') Q) a w) : At N D K E H L (Cx P r (.loop c) Q) := fun a w ha hs =>
  loop_rule I k (h0 a w ha hs) round

/-! ### Slices cut -/
theorem run_sliceBound {k : IntKind} {i : Int} {n : Nat} {code : BoundsCode} (h0 : 0 ≤ i) (h1 : i ≤ n) (w : World) : (Instr.sliceBound (.int k i) n code).run P w = .ok i.toNat w := by
  unfold Instr.sliceBound
  rw [run_then (show (asIntOf (.int k i)).run P w = .ok (k, i) w from rfl)]
  simp only [h0, h1, and_self, if_true]; rfl

def cut {α : Type} (l : List α) (lo hi : Int) : Option (List α) := if 0 ≤ lo ∧ lo ≤ hi ∧ hi ≤ l.length then some ((l.take hi.toNat).drop lo.toNat) else none

theorem RepL.cut {α : Type} [Rp α] {H : Hp} {cs : List Value} {l : List α} (h : RepL H cs l) : ∀ n, n ≤ l.length → ∃ a b, cs = a ++ b ∧ RepL H a (l.take n) ∧ RepL H b (l.drop n) := by
  induction h with
  | nil => intro n _; exact ⟨[], [], rfl, by simpa using RepL.nil, by simpa using RepL.nil⟩
  | @cons c cs x l hx t ih =>
    intro n hn
    cases n with
    | zero => exact ⟨[], c ++ cs, rfl, .nil, .cons hx t⟩
    | succ n =>
      obtain ⟨a, b, e, ha, hb⟩ := ih n (by simpa using hn)
      exact ⟨c ++ a, b, by rw [e]; simp, .cons hx ha, hb⟩

end
end Go.Lu
