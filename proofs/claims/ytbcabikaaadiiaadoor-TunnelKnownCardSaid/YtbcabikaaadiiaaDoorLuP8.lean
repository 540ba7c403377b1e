/-
  Boxes that a family of blocks holds; calls that hand over a book or a row; small words for the walks.
-/
import Derived.Test.YtbcabikaaadiiaaDoorLuP7
namespace Go.Lu
open Go Go.Proofs
set_option maxRecDepth 100000
set_option linter.unusedVariables false

section
variable {P : Program} {r : Option Nat} {N : Nat} {D : List Deferred} {K : Kp} {E : Env} {H : Hp} {L A B : List Ass} {ops : Array Oper} {Q : Exit → Act → World → Prop} {C : Act → World → Prop}
variable {dst : Option Tmp} {ty : TypeId} {pos : String} {aft : Array Edge} {g : Option (Nat × Bool)} {dd : Nat} {w : World} {G : World → Prop}

theorem Yields.mono' {σ α : Type} [Rp α] {y : Value} {Bs : Blks σ} {step : σ → α → Option σ} {H H' : Hp} (hl : HLe H H') (h : Yields P y Bs step H) : Yields P y Bs step H' := h.mono hl

def BoxB (b : Nat) (cs : List Value) (T : Nat) : Ass := .blk b (fun o => o = .cells cs.toArray T (0, 0))
def BoxE (b : Nat) (q : List Value → Prop) (T : Nat) : Ass := .blk b (fun o => ∃ cs, o = .cells cs.toArray T (0, 0) ∧ q cs)

theorem knows_bb {i b T : Nat} {cs : List Value} (h : L[i]? = some (BoxB b cs T)) : Knows (St K H L) b cs :=
  ⟨T, (0, 0), fun w hw => by obtain ⟨o, ho, rfl⟩ := hw.ok _ (List.mem_of_getElem? h); exact ho⟩
theorem knows_swb {i b T : Nat} {cs : List Value} (h : L[i]? = some (BoxB b cs T)) : Knows (Sw H L) b cs :=
  ⟨T, (0, 0), fun w hw => by obtain ⟨o, ho, rfl⟩ := hw.2 _ (List.mem_of_getElem? h); exact ho⟩

theorem a_toE {i b T : Nat} {cs : List Value} {q : List Value → Prop} (hi : L[i]? = some (.box b cs T)) (hq : q cs) (k : At N D K E H (L.set i (BoxE b q T)) C) : At N D K E H L C := fun a w ha hs => by
  have hmem := List.mem_of_getElem? hi
  refine k a w ha (hs.turnAt (y := BoxE b q T) hi ⟨_, hs.ok _ hmem, cs, rfl, hq⟩ (fun b hb => .inl hb) (fun hlt => ?_) (Nat.le_refl _) (fun _ _ _ => rfl))
  have := hs.mine _ hmem
  exact absurd hlt (by simp [Ass.mine] at this; omega)
theorem a_openE {i b T : Nat} {q : List Value → Prop} (hi : L[i]? = some (BoxE b q T)) (k : ∀ cs, q cs → At N D K E H (L.set i (BoxB b cs T)) C) : At N D K E H L C := fun a w ha hs => by
  have hmem := List.mem_of_getElem? hi
  obtain ⟨o, ho, cs, rfl, hq⟩ := hs.ok _ hmem
  exact k cs hq a w ha (hs.turnAt (y := BoxB b cs T) hi ⟨_, ho, rfl⟩ (fun b hb => .inl hb) (fun hlt => hs.mine _ hmem hlt) (Nat.le_refl _) (fun _ _ _ => rfl))
theorem a_shutE {i b T : Nat} {cs : List Value} {q : List Value → Prop} (hi : L[i]? = some (BoxB b cs T)) (hq : q cs) (k : At N D K E H (L.set i (BoxE b q T)) C) : At N D K E H L C := fun a w ha hs => by
  have hmem := List.mem_of_getElem? hi
  obtain ⟨o, ho, rfl⟩ := hs.ok _ hmem
  exact k a w ha (hs.turnAt (y := BoxE b q T) hi ⟨_, ho, cs, rfl, hq⟩ (fun b hb => .inl hb) (fun hlt => hs.mine _ hmem hlt) (Nat.le_refl _) (fun _ _ _ => rfl))

/-- A store over the whole of such a box. -/
theorem e_storeBB {T T0 b i : Nat} {d : TypeDesc} {sz bt : Nat} {z v : Value} {x y : Operand} {cs ds : List Value} (hw : Wn ops E g) (ht : Ty P T d sz z bt) (hx : ev E x = some (.pointer (some ⟨b, 0, none⟩))) (hy : ev E y = some v) (hi : L[i]? = some (BoxB b cs T0))
    (hv : v.cells.toList = ds) (hl : ds.length = sz) (h1 : ∀ v ∈ ds, cell1 v = true) (hc : cs.length = sz)
    (k : At N D K E H (L.set i (BoxB b ds T0)) C) : At N D K E H L (uOp P r ops Q ⟨none, .store T x y, ty, pos, aft, g⟩ C) := by
  refine e_skip hw rfl fun a w ha hs => ?_
  obtain ⟨o, hb, rfl⟩ := hs.ok _ (List.mem_of_getElem? hi)
  obtain ⟨w', hr, hb', hsz, hoth, hio⟩ := run_storeCells (P := P) (b := b) (o := 0) (T := T0) ds 0 w cs hb (by omega) h1
  refine ⟨w', ?_, k a w' ha ?_⟩
  · have hcell : v.cells.size = sz := by rw [← hl, ← hv]; simp
    have hst : (storeVar T ⟨b, 0, none⟩ v).run P w = .ok () w' := by
      unfold storeVar
      rw [run_then (ht.run_sizeOf w)]
      simp only [hcell, ne_eq, not_true_eq_false, if_false]
      rw [hv]; exact hr
    simp only [execOp, ha.eval hx, ha.eval hy]
    have : (Instr.storeAt T (.pointer (some ⟨b, 0, none⟩)) v).run P w = .ok () w' := by
      unfold Instr.storeAt; rw [run_then (show (Instr.sureAddr (.pointer (some ⟨b, 0, none⟩))).run P w = .ok ⟨b, 0, none⟩ w from rfl)]; exact hst
    rw [run_then this]; rfl
  · refine hs.turnAt (y := BoxB b ds T0) hi ⟨_, hb', ?_⟩ (fun b hb => .inl hb) (fun hlt => hs.mine _ (List.mem_of_getElem? hi) hlt) (by omega) (fun r _ hne => hoth r (by simpa [Ass.foot, BoxB] using hne)) hio
    have e0 : cs.drop (0 + 0 + ds.length) = [] := List.drop_of_length_le (by omega)
    rw [e0]; simp
end

theorem choice_any {H H' : Hp} {cs : List Value} {x : TunnelChoice} (h : Rp.rep H cs x) : Rp.rep H' cs x := by
  obtain ⟨c1, c2, rfl, ⟨h1, h2⟩, c3, c4, rfl, h3, h4⟩ := h
  refine ⟨c1, _, rfl, ⟨?_, h2⟩, c3, c4, rfl, h3, h4⟩
  rw [repL_int h1]; exact repL_int_mk _ _

theorem ends_nth {k : Int} {x : Int} (h : nth [(0 : Int), 1] k = some x) : 0 ≤ k ∧ k < 2 ∧ x = k := by
  obtain ⟨h0, h1, hlt, he⟩ := nth_some h
  simp at h1
  have : k = 0 ∨ k = 1 := by omega
  rcases this with rfl | rfl <;> simp at he <;> simp [← he]

/-- The other of two functions, by its number. -/
theorem y_index_fns {N : Nat} {D : List Deferred} {E : Env} {G : World → Prop} {dst : Option Tmp} {ty : TypeId} {pos : String} {aft : Array Edge} {g : Option (Nat × Bool)} {x y : Operand} {k u : Int} {q : Bool} {v : Value} (hx : ev E x = some (.agg #[F263, F251])) (hy : ev E y = some (.int .i64 k)) (hk : nth [(0 : Int), 1] k = some u) (hq : (u == 0) = q) (hv : v = bif q then F263 else F251) :
    Yd Tryd.prog N D E G ⟨dst, .index 212 x y, ty, pos, aft, g⟩ v := fun a w ha _ => by
  obtain ⟨h0, h1, rfl⟩ := ends_nth hk
  have h3 : u = 0 ∨ u = 1 := by omega
  simp only [execOp, ha.eval hx, ha.eval hy]
  refine run_value ?_
  subst hv; subst hq
  rcases h3 with rfl | rfl <;>
  · unfold Instr.index
    rw [run_then (show (asIntOf (.int .i64 _)).run Tryd.prog w = .ok (.i64, _) w from rfl)]
    simp only []
    rw [run_then (run_underlying ty212.u w)]
    simp only [h0, show (_ : Int) < ((2 : Nat) : Int) from h1, and_self, if_true]
    rw [run_then (ty211.run_sizeOf w)]
    unfold part
    rw [run_then (run_isAgg ty211.u w)]
    rfl
end Go.Lu
