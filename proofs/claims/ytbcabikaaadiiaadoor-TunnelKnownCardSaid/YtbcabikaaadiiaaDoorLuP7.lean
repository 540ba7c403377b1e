/-
  Slices made, slices of arrays, slices.Clone; functions of the package that hand over memory.
-/
import Derived.Test.YtbcabikaaadiiaaDoorLuP6
import Derived.Laws.MakeOwn
import Derived.Laws.Cover3
namespace Go.Lu
open Go Go.Proofs
set_option maxRecDepth 100000
set_option linter.unusedVariables false

def mkz {α : Type} (n : Int) (z : α) : Option (List α) := if 0 ≤ n ∧ n ≤ 1048576 then some (List.replicate n.toNat z) else none

section
variable {P : Program} {r : Option Nat} {N : Nat} {D : List Deferred} {K : Kp} {E : Env} {H : Hp} {L A B : List Ass} {ops : Array Oper} {Q : Exit → Act → World → Prop} {C : Act → World → Prop}
variable {dst : Option Tmp} {ty : TypeId} {pos : String} {aft : Array Edge} {g : Option (Nat × Bool)} {dd : Nat} {w : World} {G : World → Prop}

theorem repL_replicate {α : Type} [Rp α] {H : Hp} {zc : List Value} {z : α} (h : Rp.rep H zc z) : ∀ n, RepL H (List.replicate n zc).flatten (List.replicate n z)
  | 0 => .nil
  | n + 1 => by rw [List.replicate_succ, List.flatten_cons, List.replicate_succ]; exact .cons h (repL_replicate h n)

theorem made_eq {zc : List Value} (hz : zc ≠ []) : ∀ n, (madeCells zc.toArray (n * zc.length)).toList = (List.replicate n zc).flatten := by
  intro n
  apply List.ext_getElem
  · simp [madeCells]
  · intro i h1 h2
    simp only [madeCells, Array.toList_map, Array.toList_range, List.getElem_map, List.getElem_range, List.size_toArray]
    have hp : 0 < zc.length := List.length_pos_iff.2 hz
    have hlt : i % zc.length < zc.length := Nat.mod_lt _ hp
    have key : ∀ (n i : Nat) (h : i < ((List.replicate n zc).flatten).length), ((List.replicate n zc).flatten)[i] = zc[i % zc.length]'(Nat.mod_lt _ hp) := by
      intro n
      induction n with
      | zero => intro i h; simp at h
      | succ n ih =>
        intro i h
        simp only [List.replicate_succ, List.flatten_cons]
        by_cases hi : i < zc.length
        · rw [List.getElem_append_left hi]; congr 1; rw [Nat.mod_eq_of_lt hi]
        · rw [List.getElem_append_right (by omega), ih (i - zc.length) (by simp [List.replicate_succ] at h; simp; omega)]
          congr 1
          rw [Nat.mod_eq_sub_mod (by omega : zc.length ≤ i)]
    rw [key n i h2]
    simp [hlt]

theorem e_makeSlice {α : Type} [Rp α] {T e : Nat} {d : TypeDesc} {sz bt : Nat} {z : Value} {x y : Operand} {zc : List Value} {u : α} {n : Int} {l : List α} (hw : Wn ops E g) (hd : Nat.blt dd N = true) (hT : P.underlying T = some (.slice e)) (he : Ty P e d sz z bt) (hz : z.cells.toList = zc) (h0 : zc.isEmpty = false) (hb : Nat.ble bt 1024 = true) (hsz : Rp.sz α = sz)
    (hx : ev E x = some (.int .i64 n)) (hy : ev E y = some (.int .i64 n)) (hu : Rp.rep H zc u) (hm : mkz n u = some l)
    (k : ∀ v cs, RepL H cs l → At N D K ((dd, v) :: E) H (.row v cs e sz :: L) C) : At N D K E H L (uOp P r ops Q ⟨some dd, .makeSlice T x y, ty, pos, aft, g⟩ C) := by
  unfold mkz at hm
  split at hm
  case isFalse => cases hm
  rename_i hn
  cases hm
  subst hz
  obtain ⟨i, hi, hs, hzz, hbt⟩ := he.i
  have hb' : bt ≤ 1024 := Nat.le_of_ble_eq_true hb
  refine e_value hw rfl hd fun a w ha hs' => ⟨.slice (some ⟨w.heap.size, 0, none⟩) n.toNat n.toNat, w.alloc (.cells (madeCells z.cells (n.toNat * i.size)) e), ?_, fun a' ha' => ?_⟩
  · simp only [execOp, ha.eval hx, ha.eval hy]
    refine run_value (run_make w T e i z hT hi hzz .i64 .i64 n n hn.1 (Int.le_refl _) ?_ (by omega))
    have h1 : (i.bytes : Int) ≤ 1024 := by omega
    have : (i.bytes : Int) * n ≤ 1024 * 1048576 := Int.mul_le_mul h1 hn.2 hn.1 (by omega)
    omega
  · have hne : z.cells.toList ≠ [] := by intro e; simp [e] at h0
    have hl : z.cells.toList.length = sz := by rw [← hsz]; exact Rp.len hu
    have e1 : madeCells z.cells (n.toNat * i.size) = ((List.replicate n.toNat z.cells.toList).flatten).toArray := by
      apply Array.ext'
      have := made_eq hne n.toNat
      rw [hl] at this
      rw [hs]; simpa using this
    have hr := repL_replicate hu n.toNat
    rw [e1]
    have h2 := hs'.mkrow ((List.replicate n.toNat z.cells.toList).flatten) [] e sz n.toNat n.toNat (Nat.le_refl _) (by rw [← hsz, hr.len]; simp) (by rw [List.append_nil, ← hsz, hr.len]; simp)
    simp only [rowObj, List.append_nil] at h2
    exact k _ _ hr a' _ ha' h2

theorem y_slice_arr {T e n : Nat} {d : TypeDesc} {sz bt : Nat} {z : Value} {x y : Operand} {b o : Nat} {hi : Int} (hT : P.underlying T = some (.array n e)) (he : Ty P e d sz z bt) (hx : ev E x = some (.pointer (some ⟨b, o, none⟩))) (hy : ev E y = some (.int .i64 hi)) (h0 : 0 ≤ hi) (h1 : hi ≤ (n : Int)) :
    Yd P N D E G ⟨dst, .slice T x none (some y) none, ty, pos, aft, g⟩ (.slice (some ⟨b, o, none⟩) hi.toNat n) := fun a w ha _ => by
  simp only [execOp, ha.eval hx, Option.map_some, Option.map_none, ha.eval hy]
  refine run_value ?_
  unfold Instr.sliceAt
  rw [run_then (run_underlying hT w)]
  simp only []
  rw [run_then (show (Instr.sureAddr (.pointer (some ⟨b, o, none⟩))).run P w = .ok ⟨b, o, none⟩ w from rfl)]
  have hb : (Instr.sliceBounds false n n none (some (.int .i64 hi)) none).run P w = .ok (0, hi.toNat, n) w := by
    unfold Instr.sliceBounds
    simp only []
    rw [run_then (run_pure n w), run_then (run_sliceBound h0 h1 w), run_then (run_pure 0 w)]; rfl
  rw [run_then hb, run_then (he.run_sizeOf w)]
  simp only [Nat.zero_mul, add_plain', Nat.add_zero, Nat.sub_zero, ite_self]; rfl

theorem cut_in {α : Type} {l u : List α} {hi : Int} (h : cut l 0 hi = some u) : 0 ≤ hi ∧ hi ≤ (l.length : Int) := by
  unfold cut at h
  split at h
  · rename_i hh; omega
  · cases h

theorem y_eql_nil {T e T' : Nat} {x : Operand} {p : Option Addr} {n c : Nat} (hT : P.underlying T = some (.slice e)) (hx : ev E x = some (.slice p n c)) : Yd P N D E G ⟨dst, .binOp .eql T x (.const (.slice none 0 0)) T', ty, pos, aft, g⟩ (.bool p.isNone) := fun a w ha _ => by
  simp only [execOp, ha.eval hx]
  refine run_value ?_
  rw [run_then (show (eqGuard .eql T x (.const (.slice none 0 0)) (.slice p n c) (a.eval (.const (.slice none 0 0)))).run P w = .ok () w from rfl)]
  show (binOp .eql T (.slice p n c) (.slice none 0 0)).run P w = _
  have := run_equal_slice_nil (P := P) w T e p n c hT
  unfold binOp
  simp only []
  rw [run_then this]; rfl
end

theorem Sl.of_none {α : Type} [Rp α] {H : Hp} {n c : Nat} {l : List α} (h : Sl H (.slice none n c) l) : l = [] := by
  rcases h with ⟨rfl, _⟩ | ⟨b, cap, pre, cs, post, T, fr, e, _⟩
  · rfl
  · cases e

section
variable {H : Hp} {w : World}
theorem ok_106 {v0 : Value} {p0 r : List Int} (hsub : Sub H w) (h0 : Sl (α := Int) H v0 p0) (hm : app [] p0 = some r) : Calls Tryd.prog 106 [v0].toArray w (PostO w H fun v H' Ls => ∃ cs, Ls = [.row v cs 3 1] ∧ RepL (α := Int) H' cs r) := by
  obtain ⟨p, c, rfl, hc⟩ := h0.shape
  refine start (n := 8) (E := [(0, .slice p p0.length c)]) Tryd.func106 rfl rfl ⟨rfl, trivial⟩ rfl hsub ?_
  refine a_seq (a_region rfl (a_cons (p_pure trivial rfl rfl (y_assign rfl) (a_nil (a_then ?_)))))
  refine a_seq (a_seq (a_region rfl (a_cons (p_pure trivial rfl rfl (y_move rfl) (a_cons (p_pure trivial rfl rfl (y_eql_nil Tryd.underlying26 rfl) (a_nil (a_then ?_))))))))
  refine a_cond rfl (fun k1 => ?_) (fun k1 => ?_)
  · refine a_seq (a_region rfl (a_cons (p_pure trivial rfl rfl (y_assign rfl) (a_nil (a_then (a_ret (a_then_ret ?_)))))))
    have hp : p = none := by cases p <;> simp_all
    subst hp
    have hl := h0.of_none
    rw [hl] at hm; cases hm
    refine a_nilrow (x := none) (T := 3) (sz := 1) ?_
    refine a_doneO (Ls := [.row (.slice none 0 0) [] 3 1]) (v := .slice none 0 0) (.inl rfl) rfl [0] (by decide) rfl (fun a w ha hs => run_results (P := Tryd.prog) (fn := Tryd.f106) (rs := [.tmp 2]) (vs := [.slice none 0 0]) rfl (.cons (rv_tmp ha rfl) All2.nil)) ?_
    exact ⟨[], rfl, RepL.nil⟩
  · refine a_skip (a_then ?_)
    refine a_seq (a_region rfl ?_)
    refine a_cons (e_buildSlice (xs := []) (cs := []) trivial rfl Tryd.underlying26 ty3 rfl rfl rfl (by simp [Value.cells]) rfl rfl ?_)
    intro v
    refine a_cons (p_pure trivial rfl rfl (y_move rfl) ?_)
    have h6 : RepL (α := Int) H [] [] := RepL.nil
    refine a_cons (e_app_sl (α := Int) (i := 0) trivial rfl Tryd.underlying26 Tryd.underlying26 ty3 rfl rfl rfl rfl rfl rfl rfl rfl h6 h0 hm ?_)
    intro v' cs hr
    refine a_cons (p_pure trivial rfl rfl (y_assign rfl) (a_nil (a_then (a_ret ?_))))
    exact a_doneO (Ls := [.row v' cs 3 1]) (v := v') (.inl rfl) rfl [0] (by decide) rfl (fun a w ha hs => run_results (P := Tryd.prog) (fn := Tryd.f106) (rs := [.tmp 2]) (vs := [v']) rfl (.cons (rv_tmp ha rfl) All2.nil)) ⟨cs, rfl, hr⟩
theorem ok_105 {v0 : Value} {p0 r : List TunnelFrame} (hsub : Sub H w) (h0 : Sl (α := TunnelFrame) H v0 p0) (hm : app [] p0 = some r) : Calls Tryd.prog 105 [v0].toArray w (PostO w H fun v H' Ls => ∃ cs, Ls = [.row v cs 55 3] ∧ RepL (α := TunnelFrame) H' cs r) := by
  obtain ⟨p, c, rfl, hc⟩ := h0.shape
  refine start (n := 8) (E := [(0, .slice p p0.length c)]) Tryd.func105 rfl rfl ⟨rfl, trivial⟩ rfl hsub ?_
  refine a_seq (a_region rfl (a_cons (p_pure trivial rfl rfl (y_assign rfl) (a_nil (a_then ?_)))))
  refine a_seq (a_seq (a_region rfl (a_cons (p_pure trivial rfl rfl (y_move rfl) (a_cons (p_pure trivial rfl rfl (y_eql_nil Tryd.underlying23 rfl) (a_nil (a_then ?_))))))))
  refine a_cond rfl (fun k1 => ?_) (fun k1 => ?_)
  · refine a_seq (a_region rfl (a_cons (p_pure trivial rfl rfl (y_assign rfl) (a_nil (a_then (a_ret (a_then_ret ?_)))))))
    have hp : p = none := by cases p <;> simp_all
    subst hp
    have hl := h0.of_none
    rw [hl] at hm; cases hm
    refine a_nilrow (x := none) (T := 55) (sz := 3) ?_
    refine a_doneO (Ls := [.row (.slice none 0 0) [] 55 3]) (v := .slice none 0 0) (.inl rfl) rfl [0] (by decide) rfl (fun a w ha hs => run_results (P := Tryd.prog) (fn := Tryd.f105) (rs := [.tmp 2]) (vs := [.slice none 0 0]) rfl (.cons (rv_tmp ha rfl) All2.nil)) ?_
    exact ⟨[], rfl, RepL.nil⟩
  · refine a_skip (a_then ?_)
    refine a_seq (a_region rfl ?_)
    refine a_cons (e_buildSlice (xs := []) (cs := []) trivial rfl Tryd.underlying23 ty55 rfl rfl rfl (by simp [Value.cells]) rfl rfl ?_)
    intro v
    refine a_cons (p_pure trivial rfl rfl (y_move rfl) ?_)
    have h6 : RepL (α := TunnelFrame) H [] [] := RepL.nil
    refine a_cons (e_app_sl (α := TunnelFrame) (i := 0) trivial rfl Tryd.underlying23 Tryd.underlying23 ty55 rfl rfl rfl rfl rfl rfl rfl rfl h6 h0 hm ?_)
    intro v' cs hr
    refine a_cons (p_pure trivial rfl rfl (y_assign rfl) (a_nil (a_then (a_ret ?_))))
    exact a_doneO (Ls := [.row v' cs 55 3]) (v := v') (.inl rfl) rfl [0] (by decide) rfl (fun a w ha hs => run_results (P := Tryd.prog) (fn := Tryd.f105) (rs := [.tmp 2]) (vs := [v']) rfl (.cons (rv_tmp ha rfl) All2.nil)) ⟨cs, rfl, hr⟩
theorem ok_110 {v0 : Value} {p0 r : List TunnelPart} (hsub : Sub H w) (h0 : Sl (α := TunnelPart) H v0 p0) (hm : app [] p0 = some r) : Calls Tryd.prog 110 [v0].toArray w (PostO w H fun v H' Ls => ∃ cs, Ls = [.row v cs 64 6] ∧ RepL (α := TunnelPart) H' cs r) := by
  obtain ⟨p, c, rfl, hc⟩ := h0.shape
  refine start (n := 8) (E := [(0, .slice p p0.length c)]) Tryd.func110 rfl rfl ⟨rfl, trivial⟩ rfl hsub ?_
  refine a_seq (a_region rfl (a_cons (p_pure trivial rfl rfl (y_assign rfl) (a_nil (a_then ?_)))))
  refine a_seq (a_seq (a_region rfl (a_cons (p_pure trivial rfl rfl (y_move rfl) (a_cons (p_pure trivial rfl rfl (y_eql_nil Tryd.underlying22 rfl) (a_nil (a_then ?_))))))))
  refine a_cond rfl (fun k1 => ?_) (fun k1 => ?_)
  · refine a_seq (a_region rfl (a_cons (p_pure trivial rfl rfl (y_assign rfl) (a_nil (a_then (a_ret (a_then_ret ?_)))))))
    have hp : p = none := by cases p <;> simp_all
    subst hp
    have hl := h0.of_none
    rw [hl] at hm; cases hm
    refine a_nilrow (x := none) (T := 64) (sz := 6) ?_
    refine a_doneO (Ls := [.row (.slice none 0 0) [] 64 6]) (v := .slice none 0 0) (.inl rfl) rfl [0] (by decide) rfl (fun a w ha hs => run_results (P := Tryd.prog) (fn := Tryd.f110) (rs := [.tmp 2]) (vs := [.slice none 0 0]) rfl (.cons (rv_tmp ha rfl) All2.nil)) ?_
    exact ⟨[], rfl, RepL.nil⟩
  · refine a_skip (a_then ?_)
    refine a_seq (a_region rfl ?_)
    refine a_cons (e_buildSlice (xs := []) (cs := []) trivial rfl Tryd.underlying22 ty64 rfl rfl rfl (by simp [Value.cells]) rfl rfl ?_)
    intro v
    refine a_cons (p_pure trivial rfl rfl (y_move rfl) ?_)
    have h6 : RepL (α := TunnelPart) H [] [] := RepL.nil
    refine a_cons (e_app_sl (α := TunnelPart) (i := 0) trivial rfl Tryd.underlying22 Tryd.underlying22 ty64 rfl rfl rfl rfl rfl rfl rfl rfl h6 h0 hm ?_)
    intro v' cs hr
    refine a_cons (p_pure trivial rfl rfl (y_assign rfl) (a_nil (a_then (a_ret ?_))))
    exact a_doneO (Ls := [.row v' cs 64 6]) (v := v') (.inl rfl) rfl [0] (by decide) rfl (fun a w ha hs => run_results (P := Tryd.prog) (fn := Tryd.f110) (rs := [.tmp 2]) (vs := [v']) rfl (.cons (rv_tmp ha rfl) All2.nil)) ⟨cs, rfl, hr⟩

theorem ok_95 {c0 : List Value} {p0 : TunnelBook} (hsub : Sub H w) (h0 : Rp.rep (α := TunnelBook) H c0 p0) : Calls Tryd.prog 95 [.agg c0.toArray].toArray w (PostO w H fun v H' Ls => ∃ M, v = .agg (c0 ++ [Value.map (some M)]).toArray ∧ Ls = [.blk M (Memo p0)]) := by
  refine start (n := 6) (E := [(0, .agg c0.toArray)]) Tryd.func95 rfl rfl ⟨rfl, trivial⟩ rfl hsub ?_
  have hl := Rp.len h0
  refine a_seq (a_region rfl ?_)
  refine a_cons (e_box (cs := c0) trivial rfl rfl rfl ?_)
  intro b0
  refine a_cons (e_alloc (cs := [.slice none 0 0, .slice none 0 0, .map none]) trivial rfl ty110 rfl ?_)
  intro b1
  refine a_nil (a_then ?_)
  refine a_seq (a_region rfl ?_)
  refine a_cons (p_pure trivial rfl rfl (y_load_whole ty25 rfl (knows_box (i := 1) rfl) rfl hl) ?_)
  refine a_cons (e_makeMap (Memo p0) memo_new trivial rfl ?_)
  intro M
  have hb : Rp.rep (α := Bk (some M)) H (c0 ++ [Value.map (some M)]) p0 := ⟨c0, rfl, h0⟩
  refine a_cons (p_pure trivial rfl rfl (y_build (pl := [(0, 2), (2, 1)]) (xs := [.tmp 3, .tmp 4]) (vs := [.agg c0.toArray, .map (some M)]) (cs := c0 ++ [Value.map (some M)]) ty110 (.cons ⟨rfl, ty25.szOf⟩ (.cons ⟨rfl, ty108.szOf⟩ All2.nil)) rfl rfl ⟨_, by show List.length _ = _; exact hl, rfl, ⟨_, rfl, rfl, trivial⟩⟩ (by show 3 = _; exact (Rp.len hb).symm) (by simp [Value.cells])) ?_)
  refine a_cons (e_storeWhole (i := 1) (ds := c0 ++ [Value.map (some M)]) trivial ty110 rfl rfl rfl rfl (Rp.len hb) (Rp.one hb) rfl ?_)
  refine a_nil (a_then (a_ret ?_))
  refine a_doneO (Ls := [.blk M (Memo p0)]) (v := .agg (c0 ++ [Value.map (some M)]).toArray) (.inl rfl) rfl [0] (by decide) rfl (fun a w ha hs => run_results (P := Tryd.prog) (fn := Tryd.f95) (rs := [.cell 2 110]) (vs := [.agg (c0 ++ [Value.map (some M)]).toArray]) rfl (.cons (rv_cell ha rfl (run_loadSt (i := 1) ty110 rfl hs rfl (Rp.len hb))) All2.nil)) ⟨M, rfl, rfl⟩
theorem ok_154 (hsub : Sub H w) : Calls Tryd.prog 154 [].toArray w (PostV w H (.agg #[.func (.func 196) #[] #[]])) := by
  refine start (n := 2) (E := []) Tryd.func154 rfl rfl trivial rfl hsub ?_
  refine a_seq (a_region rfl ?_)
  refine a_cons (e_alloc (cs := [.nilFunc]) trivial rfl ty215 rfl ?_)
  intro b1
  refine a_nil (a_then ?_)
  refine a_seq (a_region rfl ?_)
  refine a_cons (p_pure trivial rfl rfl (y_build_lit (pl := [(0, 1)]) (xs := [(0, .func 196)]) (vs := [.func (.func 196) #[] #[]]) (cs := #[.func (.func 196) #[] #[]]) ty215 (.cons ⟨rfl, ty213.szOf⟩ All2.nil) rfl rfl rfl) ?_)
  refine a_cons (e_storeWhole (i := 0) (ds := [.func (.func 196) #[] #[]]) trivial ty215 rfl rfl rfl rfl rfl (by simp [cell1]) rfl ?_)
  refine a_nil (a_then (a_ret ?_))
  refine a_done (v := .agg #[.func (.func 196) #[] #[]]) (.inl rfl) rfl (fun a w ha hs => run_results (P := Tryd.prog) (fn := Tryd.f154) (rs := [.cell 0 215]) (vs := [.agg #[.func (.func 196) #[] #[]]]) rfl (.cons (rv_cell ha rfl (run_loadSt (i := 0) ty215 rfl hs rfl rfl)) All2.nil)) ?_
  intro _ _; rfl
theorem ok_155 {c0 : List Value} {p0 : TunnelBook} {m0 : Option Nat} (hsub : Sub H w) (h0 : Rp.rep (α := Bk m0) H c0 p0) : Calls Tryd.prog 155 [.agg c0.toArray].toArray w (PostH w H fun v H' => ∃ bb, v = .func (.func 197) #[] #[.pointer (some ⟨bb, 0, none⟩)] ∧ PAt (α := Bk m0) H' bb 0 p0) := by
  refine start (n := 4) (E := [(0, .agg c0.toArray)]) Tryd.func155 rfl rfl ⟨rfl, trivial⟩ rfl hsub ?_
  refine a_seq (a_region rfl ?_)
  refine a_cons (e_box (cs := c0) trivial rfl rfl rfl ?_)
  intro b0
  refine a_cons (p_pure trivial rfl rfl (y_assign rfl) ?_)
  refine a_nil (a_then ?_)
  refine a_freeze (α := Bk m0) (x := p0) (i := 0) rfl h0 ?_
  intro H1 l1 hb
  refine a_seq (a_region rfl ?_)
  refine a_cons (p_pure trivial rfl rfl (y_makeFunc (vs := []) (us := [.pointer (some ⟨b0, 0, none⟩)]) rfl rfl) ?_)
  refine a_cons (p_pure trivial rfl rfl (y_assign rfl) ?_)
  refine a_nil (a_then (a_ret ?_))
  refine a_done (v := .func (.func 197) #[] #[.pointer (some ⟨b0, 0, none⟩)]) (.inl rfl) rfl (fun a w ha hs => run_results (P := Tryd.prog) (fn := Tryd.f155) (rs := [.tmp 2]) (vs := [.func (.func 197) #[] #[.pointer (some ⟨b0, 0, none⟩)]]) rfl (.cons (rv_tmp ha rfl) All2.nil)) ?_
  intro _ _; exact ⟨b0, rfl, hb⟩
end
end Go.Lu
