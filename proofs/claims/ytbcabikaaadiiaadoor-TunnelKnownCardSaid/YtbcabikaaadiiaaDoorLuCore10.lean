/-
  Structs and arrays built; arrays indexed as values.
-/
import Derived.Test.YtbcabikaaadiiaaDoorLuCore9
namespace Go.Lu
open Go

def Contig (pl : List (Nat × Nat)) : Nat → Nat → List Value → Prop
  | _, _, [] => True
  | k, off, v :: vs => ∃ s, v.cells.size = s ∧ pl[k]? = some (off, s) ∧ Contig pl (k + 1) (off + s) vs

def sizes (vs : List Value) : Nat := (vs.flatMap (·.cells.toList)).length

theorem fill_struct {pl : List (Nat × Nat)} : ∀ (vs : List Value) (k off : Nat) (A : Array Value), Contig pl k off vs → A.size = off + sizes vs →
    ∃ A', Instr.fill (fun i => pl[i]?) A ((vs.zipIdx k).map fun p => (p.2, p.1)) = some A' ∧ A'.toList = A.toList.take off ++ vs.flatMap (·.cells.toList)
  | [], k, off, A, _, h => ⟨A, rfl, by rw [List.take_of_length_le (by simp [sizes] at h; simp [h])]; simp⟩
  | v :: vs, k, off, A, ⟨s, h1, hp, hc⟩, h => by
    have hsz : A.size = off + s + sizes vs := by rw [h]; simp [sizes, List.flatMap_cons, ← h1]; omega
    have hle : ¬ (v.cells.size ≠ s ∨ off + v.cells.size > A.size) := by
      intro hh; rcases hh with hh | hh
      · exact hh h1
      · omega
    have hf := foldl_set off v.cells.toList 0 A (by simp [h1]; omega)
    have hsz' : (Array.foldl (fun cs (x : Value × Nat) => cs.setIfInBounds (off + x.2) x.1) A v.cells.zipIdx) = (v.cells.toList.zipIdx 0).foldl (fun cs (c, j) => cs.setIfInBounds (off + j) c) A := by
      rw [← Array.foldl_toList]; simp
    obtain ⟨A', hA', ht⟩ := fill_struct (pl := pl) vs (k + 1) (off + s) (Array.foldl (fun cs (x : Value × Nat) => cs.setIfInBounds (off + x.2) x.1) A v.cells.zipIdx) hc (by
      rw [hsz', ← Array.length_toList, hf]; simp [h1, List.length_append]; rw [hsz]; omega)
    refine ⟨A', ?_, ?_⟩
    · rw [List.zipIdx_cons, List.map_cons, Instr.fill]
      simp only [hp]
      rw [if_neg (by simpa using hle)]; exact hA'
    · rw [ht, hsz', hf, List.flatMap_cons]
      have : (A.toList.take (off + 0) ++ v.cells.toList ++ A.toList.drop (off + 0 + v.cells.toList.length)).take (off + s) = A.toList.take off ++ v.cells.toList := by
        rw [List.take_append_of_le_length (by simp [h1]; omega), List.take_of_length_le (by simp [h1]; omega)]
        simp
      rw [this, List.append_assoc]

section
variable {P : Program} {r : Option Nat} {N : Nat} {D : List Deferred} {K : Kp} {E : Env} {H : Hp} {L : List Ass} {ops : Array Oper} {Q : Exit → Act → World → Prop} {C J : Act → World → Prop}
variable {dst : Option Tmp} {ty : TypeId} {pos : String} {aft : Array Edge} {g : Option (Nat × Bool)} {dd : Nat} {G : World → Prop}

def SzOf (P : Program) (T n : Nat) : Prop := ∀ w : World, (sizeOf T).run P w = .ok n w
theorem Ty.szOf {T : TypeId} {d : TypeDesc} {sz bt : Nat} {z : Value} (h : Ty P T d sz z bt) : SzOf P T sz := h.run_sizeOf

theorem run_places {fields : Array Field} {pl : List (Nat × Nat)} (h : All2 (fun (f : Field) p => f.offset = p.1 ∧ SzOf P f.type p.2) fields.toList pl) (w : World) :
    (fields.mapM fun f => do pure (f.offset, ← sizeOf f.type) : Sem (Array (Nat × Nat))).run P w = .ok pl.toArray w := by
  have hm : (fields.toList.mapM (fun f => do pure (f.offset, ← sizeOf f.type) : Field → Sem (Nat × Nat))).run P w = .ok pl w := by
    apply run_mapM
    generalize fields.toList = fl at h
    induction h with
    | nil => exact .nil
    | cons hx t ih =>
      refine .cons ?_ ih
      rw [run_then (hx.2 w), hx.1]; rfl
  have : fields = fields.toList.toArray := by simp
  rw [this, List.mapM_toArray]
  show ((fields.toList.mapM _) >>= fun l => (pure l.toArray : Sem (Array (Nat × Nat)))).run P w = _
  rw [run_then hm]; rfl

theorem y_build {T : Nat} {fields : Array Field} {sz bt : Nat} {z : Value} {parts : Array (Nat × Operand)} {pl : List (Nat × Nat)} {xs : List Operand} {vs cs : List Value} (ht : Ty P T (.struct fields) sz z bt) (hp : All2 (fun (f : Field) p => f.offset = p.1 ∧ SzOf P f.type p.2) fields.toList pl)
    (hparts : parts = ((xs.zipIdx).map fun p => (p.2, p.1)).toArray) (hxs : xs.mapM (ev E) = some vs) (hc : Contig pl 0 0 vs) (hz : z.cells.size = cs.length) (hcs : vs.flatMap (·.cells.toList) = cs) :
    Yd P N D E G ⟨dst, .build T parts, ty, pos, aft, g⟩ (.agg cs.toArray) := fun a w ha _ => by
  have hm := mapM_eval ha hxs
  have hpm : (parts.map fun (i, x) => (i, a.eval x)).toList = (vs.zipIdx).map fun p => (p.2, p.1) := by
    rw [hparts, ← hm, List.zipIdx_map]
    simp [Function.comp_def]
  obtain ⟨A', h1, h2⟩ := fill_struct (pl := pl) vs 0 0 z.cells hc (by rw [hz, ← hcs]; simp [sizes])
  simp only [execOp]
  refine run_value ?_
  unfold Instr.build
  rw [run_then (ht.run_zeroValue w)]
  simp only []
  rw [run_then (run_underlying ht.u w)]
  simp only []
  rw [run_then (run_places hp w), hpm]
  have e1 : (fun i : Nat => pl.toArray[i]?) = fun i : Nat => pl[i]? := by funext i; simp
  simp only [e1, h1]
  have : A' = cs.toArray := by rw [← hcs]; apply Array.ext'; rw [h2]; simp
  rw [this]; rfl

/-- A struct built in part: the rest is zero; all is written out. -/
theorem y_build_lit {T : Nat} {fields : Array Field} {sz bt : Nat} {z : Value} {parts : Array (Nat × Operand)} {pl : List (Nat × Nat)} {xs : List (Nat × Operand)} {vs : List Value} {cs : Array Value} (ht : Ty P T (.struct fields) sz z bt) (hp : All2 (fun (f : Field) p => f.offset = p.1 ∧ SzOf P f.type p.2) fields.toList pl)
    (hparts : parts = xs.toArray) (hxs : (xs.map (·.2)).mapM (ev E) = some vs) (hf : Instr.fill (fun i => pl[i]?) z.cells ((xs.map (·.1)).zip vs) = some cs) :
    Yd P N D E G ⟨dst, .build T parts, ty, pos, aft, g⟩ (.agg cs) := fun a w ha _ => by
  have hm := mapM_eval ha hxs
  have hpm : (parts.map fun (i, x) => (i, a.eval x)).toList = (xs.map (·.1)).zip vs := by
    rw [hparts, ← hm]
    clear hparts hxs hf hm
    induction xs with
    | nil => simp
    | cons x xs ih => simp at ih; simp [ih]
  simp only [execOp]
  refine run_value ?_
  unfold Instr.build
  rw [run_then (ht.run_zeroValue w)]
  simp only []
  rw [run_then (run_underlying ht.u w)]
  simp only []
  rw [run_then (run_places hp w), hpm]
  have e1 : (fun i : Nat => pl.toArray[i]?) = fun i : Nat => pl[i]? := by funext i; simp
  simp only [e1, hf]
  rfl

theorem cut_le {α : Type} {l u : List α} {lo hi : Int} (h : cut l lo hi = some u) : hi ≤ (l.length : Int) := by
  unfold cut at h; split at h
  · next g => exact g.2.2
  · cases h

theorem y_index_agg_int {n T e : Nat} {d : TypeDesc} {bt : Nat} {z : Value} {x y : Operand} {cs : List Value} {l : List Int} {i u : Int} (hT : P.underlying T = some (.array n e)) (he : Ty P e d 1 z bt) (hd : aggD d = false := by rfl)
    (hx : ev E x = some (.agg cs.toArray)) (hy : ev E y = some (.int .i64 i)) (hr : Rp.rep (α := Arr n Int) H cs l) (hn : nth l i = some u) : Yd P N D E G ⟨dst, .index T x y, ty, pos, aft, g⟩ (.int .i64 u) := fun a w ha _ => by
  obtain ⟨h1, h2⟩ := hr
  have hc := repL_int h1
  obtain ⟨h0, hlt, hlt', hu⟩ := nth_some hn
  have hn' : i < (n : Int) := by have : (show List Int from l).length = n := h2; have : l.length = n := h2; omega
  simp only [execOp, ha.eval hx, ha.eval hy]
  refine run_value ?_
  unfold Instr.index
  rw [run_then (show (asIntOf (.int .i64 i)).run P w = .ok (.i64, i) w from rfl)]
  simp only []
  rw [run_then (run_underlying hT w)]
  simp only [h0, hn', and_self, if_true]
  rw [run_then (he.run_sizeOf w)]
  unfold part
  rw [run_then (run_isAgg he.u w)]
  simp only [hd, Bool.false_eq_true, if_false, Nat.mul_one]
  rw [hc]
  simp only [List.getElem?_toArray, List.getElem?_map]
  rw [List.getElem?_eq_getElem hlt', hu]; rfl
theorem run_loadSt {K : Kp} {H : Hp} {L : List Ass} {T b T0 i : Nat} {d : TypeDesc} {sz bt : Nat} {z : Value} {cs : List Value} {w : World} (ht : Ty P T d sz z bt) (hd : aggD d = true) (hs : St K H L w) (hi : L[i]? = some (.box b cs T0)) (hl : cs.length = sz) :
    (loadVar T ⟨b, 0, none⟩).run P w = .ok (.agg cs.toArray) w :=
  run_loadBox ht hd (hs.ok _ (List.mem_of_getElem? hi)) hl
end
end Go.Lu
