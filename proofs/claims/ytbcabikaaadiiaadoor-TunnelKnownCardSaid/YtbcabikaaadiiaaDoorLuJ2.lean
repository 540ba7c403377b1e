/-
  Joining, second part: this program's data, its two variables, what is left behind a call.
-/
import Derived.Test.YtbcabikaaadiiaaDoorLuJ1
import Derived.Test.YtbcabikaaadiiaaDoorLuFP3
import Derived.Test.YtbcabikaaadiiaaDoorLuPl2
import Derived.LaidMore
import Derived.LaidHandle
import Derived.Carry
import Derived.ChangeSame
import Derived.WideShapes
import Derived.Deep.DeepHandedRow
import Derived.Test.YtbcabikaaadiiaaDoorTie
import Derived.Test.YtbcabikaaadiiaaDoorCards
namespace Go.Lu
open Go Go.Proofs Go.ChangeShapes Go.WideShapes Go.ChangeAt Go.WideElems Go.RowKit
set_option maxRecDepth 100000
set_option linter.unusedVariables false

theorem opn_of {P : Program} {T : TypeId} {S β : Type} [Rp β] {G : β → Prop} (f : S → β) (g : β → S) (hfg : ∀ b, f (g b) = b) (h : Opn P T β G) : @Opn P T S (Rp.of f) (fun s => G (f s)) := fun X enc w sp held fuel cs x hx => by
  obtain ⟨b, hb, gb⟩ := h hx
  refine ⟨g b, ?_, by show G (f (g b)); rw [hfg]; exact gb⟩
  show Rp.rep (hpOf w) cs (f (g b))
  rw [hfg]; exact hb
theorem Opn.imp {P : Program} {T : TypeId} {α : Type} [Rp α] {G G' : α → Prop} (h : Opn P T α G) (hi : ∀ a, G a → G' a) : Opn P T α G' := fun X enc w sp held fuel cs x hx => by
  obtain ⟨a, ha, ga⟩ := h hx; exact ⟨a, ha, hi a ga⟩

theorem opn3 : Opn Tryd.prog 3 Int (fun n => (Lit.int .i64 n).wf = true) := opn_int Tryd.underlying3
theorem opn26 : Opn Tryd.prog 26 (List Int) (fun l => l.length ≤ maxLen) := (opn_slice Tryd.underlying26 (by kernel_rfl) (by decide) opn3).imp fun _ h => h.1
theorem opn32 : Opn Tryd.prog 32 Span (fun _ => True) :=
  (opn_of (fun s : Span => (s.Low, s.High)) (fun b => ⟨b.1, b.2⟩) (fun _ => rfl) (opn_pair Tryd.underlying32 rfl rfl rfl rfl (by kernel_rfl) (by kernel_rfl) (by kernel_rfl) opn3 opn3)).imp fun _ _ => trivial
theorem opn62 : Opn Tryd.prog 62 (Arr 4 Int) (fun _ => True) := (opn_arr Tryd.underlying62 (by kernel_rfl) (by kernel_rfl) opn3).imp fun _ _ => trivial
theorem opn47 : Opn Tryd.prog 47 (Arr 2 Int) (fun _ => True) := (opn_arr Tryd.underlying47 (by kernel_rfl) (by kernel_rfl) opn3).imp fun _ _ => trivial
theorem opn64 : Opn Tryd.prog 64 TunnelPart (fun p => p.Heat.length = 4) := fun X enc w sp held fuel cs x hx => by
  obtain ⟨a, ha, _⟩ := (opn_of (fun s : TunnelPart => ((s.Heat, s.Damp) : Arr 4 Int × Span)) (fun b => ⟨b.1, b.2⟩) (fun _ => rfl) (opn_pair Tryd.underlying64 rfl rfl rfl rfl (by kernel_rfl) (by kernel_rfl) (by kernel_rfl) opn62 opn32)) hx
  refine ⟨a, ha, ?_⟩
  obtain ⟨_, _, _, h, _⟩ := ha
  exact h.2
theorem opn55 : Opn Tryd.prog 55 TunnelFrame (fun f => f.Stay.length ≤ maxLen) :=
  (opn_of (fun s : TunnelFrame => (s.Stay, s.Need)) (fun b => ⟨b.1, b.2⟩) (fun _ => rfl) (opn_pair Tryd.underlying55 rfl rfl rfl rfl (by kernel_rfl) (by kernel_rfl) (by kernel_rfl) opn26 opn32)).imp fun _ h => h.1
theorem opn25 : Opn Tryd.prog 25 TunnelBook Fits :=
  (opn_of (fun s : TunnelBook => (s.Parts, s.Frames)) (fun b => ⟨b.1, b.2⟩) (fun _ => rfl) (opn_pair Tryd.underlying25 rfl rfl rfl rfl (by kernel_rfl) (by kernel_rfl) (by kernel_rfl)
    (opn_slice Tryd.underlying22 (by kernel_rfl) (by decide) opn64) (opn_slice Tryd.underlying23 (by kernel_rfl) (by decide) opn55))).imp fun _ h => ⟨h.1.1, h.1.2, h.2.1, h.2.2⟩

/-! ### An argument -/
section
variable {X : Type} {enc : TypeId × Value → X} {W : World} {base : Nat} {v : Value} {d : DataW X} {p : List MemPlace}
theorem arg_book (hv : Value.okWide Tryd.prog W .any base 25 v) (h : DataW.Trod enc Tryd.prog W 0 (fun _ => true) true 25 v d p) : ∃ cs b, v = .agg (List.toArray cs) ∧ Rp.rep (α := TunnelBook) (hpOf W) cs b ∧ Fits b := by
  obtain ⟨cs, rfl, _⟩ := okWide_struct Tryd.underlying25 hv
  obtain ⟨fuel, hf⟩ := h
  obtain ⟨b, hb, hg⟩ := opn25 hf
  exact ⟨cs.toList, b, by simp, by simpa [Value.cells] using hb, hg⟩
theorem arg_slice (hv : Value.okWide Tryd.prog W .any base 26 v) (h : DataW.Trod enc Tryd.prog W 0 (fun _ => true) true 26 v d p) : ∃ l : List Int, Sl (hpOf W) v l ∧ l.length ≤ maxLen := by
  obtain ⟨a, n, c, rfl⟩ := okWide_slice Tryd.underlying26 hv
  obtain ⟨fuel, hf⟩ := h
  obtain ⟨b, ⟨u, hu, hs⟩, hg⟩ := opn26 hf
  simp [Value.cells] at hu
  subst hu
  exact ⟨b, hs, hg⟩
theorem arg_int (hv : Value.okWide Tryd.prog W .any base 3 v) (h : DataW.Trod enc Tryd.prog W 0 (fun _ => true) true 3 v d p) : ∃ n, v = .int .i64 n := by
  obtain ⟨n, rfl, _⟩ := open_int Tryd.underlying3 hv h
  exact ⟨n, rfl⟩
theorem okWide_arr {P : Program} {w : World} {r : Reach} {t e : TypeId} {n : Nat} (ht : P.underlying t = some (.array n e)) (h : Value.okWide P w r base t v) : ∃ cs, v = .agg cs := by
  simp only [Value.okWide, ht] at h
  obtain ⟨cs, h1, _⟩ := h
  exact ⟨cs, h1⟩
theorem arg_two (hv : Value.okWide Tryd.prog W .any base 47 v) (h : DataW.Trod enc Tryd.prog W 0 (fun _ => true) true 47 v d p) : ∃ cs l, v = .agg (List.toArray cs) ∧ Rp.rep (α := Arr 2 Int) (hpOf W) cs l := by
  obtain ⟨cs, rfl⟩ := okWide_arr Tryd.underlying47 hv
  obtain ⟨fuel, hf⟩ := h
  obtain ⟨b, hb, hg⟩ := opn47 hf
  exact ⟨cs.toList, b, by simp, by simpa [Value.cells] using hb⟩
theorem arg_four (hv : Value.okWide Tryd.prog W .any base 62 v) (h : DataW.Trod enc Tryd.prog W 0 (fun _ => true) true 62 v d p) : ∃ cs l, v = .agg (List.toArray cs) ∧ Rp.rep (α := Arr 4 Int) (hpOf W) cs l := by
  obtain ⟨cs, rfl⟩ := okWide_arr Tryd.underlying62 hv
  obtain ⟨fuel, hf⟩ := h
  obtain ⟨b, hb, hg⟩ := opn62 hf
  exact ⟨cs.toList, b, by simp, by simpa [Value.cells] using hb⟩
end

/-! ### The two variables -/
theorem gNone : Tryd.prog.globalNamed "lucifer/tunnel.none" = some 1 := by kernel_rfl
theorem gEnds : Tryd.prog.globalNamed "lucifer/tunnel.ends" = some 2 := by kernel_rfl
theorem tNone : (Tryd.prog.globals[1]?).map (·.type) = some 120 := by kernel_rfl
theorem tEnds : (Tryd.prog.globals[2]?).map (·.type) = some 212 := by kernel_rfl
theorem var_block {w : World} {n : String} {g : Nat} {cs : Array Value} (hg : Tryd.prog.globalNamed n = some g) (h : w.var? Tryd.prog n = some cs) : ∃ T fr, w.heap[g]? = some (.cells cs T fr) := by
  unfold World.var? at h
  rw [hg] at h
  simp only [Option.bind_some] at h
  split at h
  · next c T fr e => cases h; exact ⟨T, fr, e⟩
  · cases h
theorem trod_lit {X : Type} {enc : TypeId × Value → X} {w : World} {sp : Nat → Bool} {held : Bool} {fuel : Nat} {cs : List Value} {x : DataW X × List MemPlace} {n : Int} (h : DataW.trod enc Tryd.prog w 0 sp held fuel 3 cs = some x) (hx : x.1 = .lit (.int .i64 n)) : cs = [.int .i64 n] := by
  obtain ⟨m, rfl, rfl, _⟩ := DataW.trod_int Tryd.underlying3 h
  simp at hx; rw [hx]
theorem none_cells {w : World} {fuel : Nat} {cs : List Value} {p : List MemPlace} (h : DataW.trod (fun _ => ()) Tryd.prog w 0 (fun _ => true) false fuel 120 cs = some (Proofs.YtbcabikaaadiiaaDoor.Rows.laid_lucifer_tunnel_none, p)) :
    cs = [.int .i64 (-1), .int .i64 0, .int .i64 0, .int .i64 0, .int .i64 0] := by
  obtain ⟨xs, n, _, hx, hl, hxl, hxi⟩ := DataW.trod_struct Tryd.underlying120 h
  have a0 := hxi 0 _ rfl
  have a1 := hxi 1 _ rfl
  have c120 : Tryd.prog.cellsOf 120 = 5 := by kernel_rfl
  have c3 : Tryd.prog.cellsOf 3 = 1 := by kernel_rfl
  have c111 : Tryd.prog.cellsOf 111 = 4 := by kernel_rfl
  rw [c120] at hl
  match xs, hxl with
  | [x0, x1], _ =>
  simp only [Proofs.YtbcabikaaadiiaaDoor.Rows.laid_lucifer_tunnel_none, List.map_cons, List.map_nil, Prod.mk.injEq, DataW.agg.injEq, List.cons.injEq, and_true] at hx
  obtain ⟨⟨e0, e1⟩, _⟩ := hx
  match cs, hl with
  | [v0, v1, v2, v3, v4], _ =>
  have b0 := trod_lit (n := -1) (by simpa [c3] using a0) e0.symm
  obtain ⟨ys, m, _, hy, _, hyl, hyi⟩ := DataW.trod_array Tryd.underlying111 (by simpa [c111] using a1)
  match ys, hyl with
  | [y0, y1, y2, y3], _ =>
  rw [hy] at e1
  simp only [List.map_cons, List.map_nil, DataW.agg.injEq, List.cons.injEq, and_true] at e1
  obtain ⟨f0, f1, f2, f3⟩ := e1
  have d0 := trod_lit (n := 0) (by simpa [c3] using hyi 0 (by decide)) f0.symm
  have d1 := trod_lit (n := 0) (by simpa [c3] using hyi 1 (by decide)) f1.symm
  have d2 := trod_lit (n := 0) (by simpa [c3] using hyi 2 (by decide)) f2.symm
  have d3 := trod_lit (n := 0) (by simpa [c3] using hyi 3 (by decide)) f3.symm
  simp at b0 d0 d1 d2 d3
  subst b0 d0 d1 d2 d3
  rfl

theorem glob_of {W : World} (h : laidMetH Tryd.prog [("lucifer/tunnel.none", Proofs.YtbcabikaaadiiaaDoor.Rows.laid_lucifer_tunnel_none), ("lucifer/tunnel.ends", Proofs.YtbcabikaaadiiaaDoor.Rows.laid_lucifer_tunnel_ends)] W) : Glob (hpOf W) := by
  have hf := laidMetH.funcs h (n := "lucifer/tunnel.ends") (List.mem_cons_of_mem _ (List.mem_cons_self ..))
  obtain ⟨⟨ps, ⟨g, t, cs, fuel, p, q, hg, ht, hv, hd, _, _⟩, _⟩, _⟩ := (show laidMet Tryd.prog [("lucifer/tunnel.none", Proofs.YtbcabikaaadiiaaDoor.Rows.laid_lucifer_tunnel_none)] W ∧ _ from h)
  obtain rfl := Option.some.inj (gNone.symm.trans hg)
  obtain rfl := Option.some.inj (tNone.symm.trans ht)
  obtain ⟨T, fr, hb⟩ := var_block gNone hv
  have hc := none_cells hd
  constructor
  · refine ⟨[], cs.toList, [], T, fr, ?_, rfl, ?_⟩
    · show W.heap[1]? = _
      rw [hb]; simp
    · rw [hc]
      exact ⟨[_], _, rfl, rfl, RepL.cons (c := [_]) rfl (RepL.cons (c := [_]) rfl (RepL.cons (c := [_]) rfl (RepL.cons (c := [_]) rfl RepL.nil))), rfl⟩
  · obtain ⟨g2, t2, cs2, fuel2, p2, hg2, ht2, hv2, hd2⟩ := hf
    obtain rfl := Option.some.inj (gEnds.symm.trans hg2)
    obtain rfl := Option.some.inj (tEnds.symm.trans ht2)
    obtain ⟨T2, fr2, hb2⟩ := var_block gEnds hv2
    obtain ⟨xs, m, _, hx, hl, hxl, hxi⟩ := DataW.trod_array Tryd.underlying212 hd2
    have c212 : Tryd.prog.cellsOf 212 = 2 := by kernel_rfl
    have c211 : Tryd.prog.cellsOf 211 = 1 := by kernel_rfl
    rw [c212] at hl
    obtain ⟨l2⟩ := cs2
    match l2, hl, hb2, hxi with
    | [u0, u1], _, hb2, hxi =>
    match xs, hxl with
    | [x0, x1], _ =>
    have a0 := hxi 0 (by decide)
    have a1 := hxi 1 (by decide)
    simp only [c211] at a0 a1
    simp only [DataW.funcsOut, DataW.funcsOutAll, List.map_cons, List.map_nil, Prod.mk.injEq] at hx
    have hx1 : x0.1 = .held [40, 108, 117, 99, 105, 102, 101, 114, 47, 116, 117, 110, 110, 101, 108, 46, 98, 111, 111, 107, 41, 46, 119, 101, 116] ∧ x1.1 = .held [40, 108, 117, 99, 105, 102, 101, 114, 47, 116, 117, 110, 110, 101, 108, 46, 98, 111, 111, 107, 41, 46, 100, 114, 121] := by
      have := hx.1
      simp only [DataW.agg.injEq, List.cons.injEq, and_true] at this
      exact ⟨this.1.symm, this.2.symm⟩
    obtain ⟨y0, q0⟩ := x0
    obtain ⟨y1, q1⟩ := x1
    obtain ⟨rfl, rfl⟩ := hx1
    have e0 : u0 = F263 := func_of_trod (f0 := 263) Tryd.underlying211 (by kernel_rfl) (by simpa using a0)
    have e1 : u1 = F251 := func_of_trod (f0 := 251) Tryd.underlying211 (by kernel_rfl) (by simpa using a1)
    subst e0 e1
    intro w hs
    exact ⟨[], [], T2, fr2, by rw [hs 2 _ hb2]; simp, rfl⟩

/-! ### What is left -/
theorem Left.same {W W' : World} {H' : Hp} (h : Left W (hpOf W) noX H' W') {p : MemPlace} (hp : p.block < W.heap.size) : W.sameAt W' p := by
  cases p with
  | cell b o => exact World.cell?_of_block (w := W) (h.keep b hp id)
  | map b => exact h.keep b hp id
theorem Left.kept {W W' : World} {H' : Hp} (h : Left W (hpOf W) noX H' W') (may : MemPlace → Prop) : W.keptBut W' may := by
  refine ⟨h.io.1, h.io.2, fun i hi => ?_⟩
  rw [h.keep i hi id]
  split <;> simp_all

theorem trodAll_stays {X : Type} {enc : TypeId × Value → X} {W W' : World} {sp : Nat → Bool} (ts : List TypeId) : ∀ {vs : List Value} {ds : List (DataW X)} {ps : List MemPlace}, (ts.all fun t => Tryd.prog.readableRec t && decide (t < Tryd.prog.types.size)) = true →
    DataW.TrodAll enc Tryd.prog W 0 (fun _ => true) true ts vs ds ps → (∀ p ∈ ps, W.sameAt W' p) → (∀ p ∈ ps, sp p.block = true) → DataW.TrodAll enc Tryd.prog W' 0 sp true ts vs ds ps := by
  induction ts with
  | nil =>
    intro vs ds ps _ h _ _
    obtain ⟨rfl, rfl, rfl⟩ := trodAll_nil h
    rfl
  | cons t ts ih =>
    intro vs ds ps hr h hs hk
    obtain ⟨v, vs, d, ds, p, q, rfl, rfl, rfl, h1, h2⟩ := trodAll_cons h
    rw [List.all_cons, Bool.and_eq_true, Bool.and_eq_true] at hr
    exact trodAll_cons_mk (WideElems.Trod_stays p_laidOut hr.1.1 (of_decide_eq_true hr.1.2) h1 (fun x hx => hs x (List.mem_append.2 (.inl hx))) (fun x hx => hk x (List.mem_append.2 (.inl hx))))
      (ih hr.2 h2 (fun x hx => hs x (List.mem_append.2 (.inr hx))) (fun x hx => hk x (List.mem_append.2 (.inr hx))))

/-- A law that answers true and turns nothing: the row's word. -/
theorem law_post {X : Type} {enc : TypeId × Value → X} {f : Func} {s : ChangeSpec} {W W' : World} {H' : Hp} {args : Array Value} {ds gs : List (DataW X)} {before : List MemPlace} (hv : s.vars = []) (hr : f.resultTypes = #[4])
    (ht : (f.params.toList.all fun t => Tryd.prog.readableRec t && decide (t < Tryd.prog.types.size)) = true) (hW : DataW.Whole enc Tryd.prog f.params.toList s.vars false W args.toList ds gs before)
    (hs : (s.fn X (ds ++ [])).results = [.lit (.bool true)] ∧ (s.fn X (ds ++ [])).args = ds ∧ (s.fn X (ds ++ [])).vars = []) (hl : Left W (hpOf W) noX H' W') : s.post enc Tryd.prog f false true false false W args (.bool true) W' := by
  have hlt := hW.lt
  have hW' := hW
  obtain ⟨p, q, hA, hV, rfl, _, _⟩ := hW'
  rw [hv] at hV
  obtain ⟨rfl, rfl⟩ := trodVars_none hV
  refine ⟨ds, [], p ++ [], [], p, [], hW, ?_, ?_, ?_, hl.kept _, fun h => by cases h⟩
  · rw [hs.1, hr]
    exact trodAll_cons_mk (shut_bool Tryd.underlying4 _) trodAll_mk0
  · rw [hs.2.1]
    exact trodAll_stays _ ht hA (fun x hx => hl.same (hlt x (by simp [hx]))) (fun x hx => by simpa using hlt x (by simp [hx]))
  · rw [hv, hs.2.2]; rfl
end Go.Lu
