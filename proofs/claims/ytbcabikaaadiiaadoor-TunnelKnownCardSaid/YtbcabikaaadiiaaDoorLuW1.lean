/- Of each function that the example reaches, part 1: what it computes (a plain function: none where the code would panic, or fuel is used up), and the walk that shows it. -/
import Derived.Test.YtbcabikaaadiiaaDoorLuP11
namespace Go.Lu
open Go Go.Proofs
set_option linter.unusedVariables false
set_option maxRecDepth 100000
set_option maxHeartbeats 8000000
def ref00_Sp (k : Nat) (p0 : Int) (p1 : Int) : Option Span :=
 some ((⟨p0, p1⟩ : Span))
theorem ok_53 {k : Nat} {H : Hp} {w : World} {p0 : Int} {p1 : Int} {r : Span} (hsub : Sub H w)  (hm : ref00_Sp k p0 p1 = some r) : Calls Tryd.prog 53 [.int .i64 p0, .int .i64 p1].toArray w (PostV w H (.agg r.cells.toArray)) := by
  unfold ref00_Sp at hm
  refine start (n := 8) (E := [(0, .int .i64 p0), (1, .int .i64 p1)]) Tryd.func53 rfl rfl ⟨rfl, rfl, trivial⟩ rfl hsub ?_
  refine a_seq (a_region rfl ?_)
  refine a_cons (e_alloc (cs := [.int .i64 0, .int .i64 0]) trivial rfl ty32 rfl ?_)
  intro b0_0
  refine a_nil (a_then (a_seq (a_region rfl ?_)))
  refine ap (y_move rfl) ?_
  refine ap (y_move rfl) ?_
  have m1_2 : Rp.rep H [.int .i64 p0, .int .i64 p1] (⟨p0, p1⟩ : Span) := ⟨_, _, rfl, rfl, rfl⟩
  refine ap (y_build_lit (pl := [(0, 1), (1, 1)]) (xs := [(0, .tmp 5), (1, .tmp 6)]) (cs := [.int .i64 p0, .int .i64 p1].toArray) ty32 (.cons ⟨rfl, ty3.szOf⟩ (.cons ⟨rfl, ty3.szOf⟩ (All2.nil))) rfl rfl rfl) ?_
  refine a_cons (e_storeWhole (i := 0) (ds := [.int .i64 p0, .int .i64 p1]) trivial ty32 rfl rfl rfl rfl rfl ((Rp.one m1_2)) rfl ?_)
  refine a_nil ?_
  refine a_freeze (α := Span) (x := (⟨p0, p1⟩ : Span)) (i := 0) rfl m1_2 ?_
  intro Hb0_0 lb0_0 hb0_0
  have m1_2 := Rp.mono lb0_0 m1_2
  refine a_en [(4, .pointer (some ⟨b0_0, 0, none⟩))] ?_
  refine a_own [] (by decide) (L' := []) rfl ?_
  refine a_then (a_ret ?_)
  obtain ⟨ce4, re4, le4⟩ := PAt.one hb0_0
  refine a_done (v := .agg ce4.toArray) (.inl rfl) rfl ?_ ?_
  · intro a_ w_ ha_ hs_; exact run_results (P := Tryd.prog) (fn := Tryd.f53) (rs := [.cell 4 32]) (vs := [.agg ce4.toArray]) rfl (.cons (rv_cell ha_ rfl (run_loadVar_agg ty32 rfl (le4 _ hs_.sub) (Rp.len re4))) (All2.nil))
  · intro _ _; obtain rfl := Option.some.inj hm
    rw [Span.rep_eq re4]

def law03_part (k : Nat) (p0 : Int) (p1 : Int) (p2 : Int) (p3 : Int) (p4 : Int) (p5 : Int) : Option TunnelPart :=
 (ref00_Sp k p4 p5).bind fun x1_7 =>
 some ((⟨[p0, p1, p2, p3], x1_7⟩ : TunnelPart))
theorem ok_138 {k : Nat} {H : Hp} {w : World} {p0 : Int} {p1 : Int} {p2 : Int} {p3 : Int} {p4 : Int} {p5 : Int} {r : TunnelPart} (hsub : Sub H w)  (hm : law03_part k p0 p1 p2 p3 p4 p5 = some r) : Calls Tryd.prog 138 [.int .i64 p0, .int .i64 p1, .int .i64 p2, .int .i64 p3, .int .i64 p4, .int .i64 p5].toArray w (PostH w H fun v H' => ∃ c0, v = .agg c0.toArray ∧ Rp.rep (α := TunnelPart) H' c0 r) := by
  unfold law03_part at hm
  refine start (n := 22) (E := [(0, .int .i64 p0), (1, .int .i64 p1), (2, .int .i64 p2), (3, .int .i64 p3), (4, .int .i64 p4), (5, .int .i64 p5)]) Tryd.func138 rfl rfl ⟨rfl, rfl, rfl, rfl, rfl, rfl, trivial⟩ rfl hsub ?_
  refine a_seq (a_region rfl ?_)
  refine a_cons (e_alloc (cs := [.int .i64 0, .int .i64 0, .int .i64 0, .int .i64 0, .int .i64 0, .int .i64 0]) trivial rfl ty64 rfl ?_)
  intro b0_0
  have mz0_0 : Rp.rep (α := TunnelPart) H [.int .i64 0, .int .i64 0, .int .i64 0, .int .i64 0, .int .i64 0, .int .i64 0] (⟨[0, 0, 0, 0], ⟨0, 0⟩⟩ : TunnelPart) := ⟨_, _, rfl, ⟨(RepL.cons (c := [_]) rfl (RepL.cons (c := [_]) rfl (RepL.cons (c := [_]) rfl (RepL.cons (c := [_]) rfl RepL.nil)))), rfl⟩, ⟨_, _, rfl, rfl, rfl⟩⟩
  refine a_nil (a_then (a_seq (a_region rfl ?_)))
  refine ap (y_move rfl) ?_
  refine ap (y_move rfl) ?_
  refine ap (y_move rfl) ?_
  refine ap (y_move rfl) ?_
  have m1_4 : Rp.rep (α := Arr 4 Int) H [.int .i64 p0, .int .i64 p1, .int .i64 p2, .int .i64 p3] [p0, p1, p2, p3] := ⟨(RepL.cons (c := [_]) rfl (RepL.cons (c := [_]) rfl (RepL.cons (c := [_]) rfl (RepL.cons (c := [_]) rfl RepL.nil)))), rfl⟩
  refine ap (y_build_arr (xs := [(0, .tmp 13), (1, .tmp 14), (2, .tmp 15), (3, .tmp 16)]) (cs := [.int .i64 p0, .int .i64 p1, .int .i64 p2, .int .i64 p3]) ty62 ty3 rfl rfl rfl rfl) ?_
  refine ap (y_move rfl) ?_
  refine ap (y_move rfl) ?_
  obtain ⟨x1_7, q1_7, hm⟩ := bind_some hm
  refine a_cons (e_callV (all := [.int .i64 p4, .int .i64 p5]) (v := .agg x1_7.cells.toArray) trivial rfl Tryd.func53 rfl rfl rfl rfl rfl (fun w hw => ok_53 hw q1_7) ?_)
  have m1_8 : Rp.rep H ([Value.int .i64 p0, .int .i64 p1, .int .i64 p2, .int .i64 p3] ++ (x1_7.cells)) (⟨[p0, p1, p2, p3], x1_7⟩ : TunnelPart) := ⟨_, _, rfl, m1_4, (Span.rep_mk _ x1_7)⟩
  refine ap (y_build (pl := [(0, 4), (4, 2)]) (xs := [.tmp 17, .tmp 20]) (cs := [Value.int .i64 p0, .int .i64 p1, .int .i64 p2, .int .i64 p3] ++ (x1_7.cells)) ty64 (.cons ⟨rfl, ty62.szOf⟩ (.cons ⟨rfl, ty32.szOf⟩ (All2.nil))) rfl rfl ⟨_, rfl, rfl, ⟨_, rfl, rfl, trivial⟩⟩ (by rw [Rp.len m1_8]; rfl) (by simp [Value.cells])) ?_
  refine a_cons (e_storeWhole (i := 0) (ds := [Value.int .i64 p0, .int .i64 p1, .int .i64 p2, .int .i64 p3] ++ (x1_7.cells)) trivial ty64 rfl rfl rfl rfl rfl ((Rp.one m1_8)) rfl ?_)
  refine a_nil ?_
  refine a_freeze (α := TunnelPart) (x := (⟨[p0, p1, p2, p3], x1_7⟩ : TunnelPart)) (i := 0) rfl m1_8 ?_
  intro Hb0_0 lb0_0 hb0_0
  have m1_4 := Rp.mono lb0_0 m1_4
  have m1_8 := Rp.mono lb0_0 m1_8
  refine a_en [(12, .pointer (some ⟨b0_0, 0, none⟩))] ?_
  refine a_own [] (by decide) (L' := []) rfl ?_
  refine a_then (a_ret ?_)
  obtain ⟨ce12, re12, le12⟩ := PAt.one hb0_0
  refine a_done (v := .agg ce12.toArray) (.inl rfl) rfl ?_ ?_
  · intro a_ w_ ha_ hs_; exact run_results (P := Tryd.prog) (fn := Tryd.f138) (rs := [.cell 12 64]) (vs := [.agg ce12.toArray]) rfl (.cons (rv_cell ha_ rfl (run_loadVar_agg ty64 rfl (le12 _ hs_.sub) (Rp.len re12))) (All2.nil))
  · intro _ _; obtain rfl := Option.some.inj hm; exact ⟨ce12, rfl, re12⟩

def law03_frame (k : Nat) (p0 : Int) (p1 : Int) (p2 : Int) (p3 : Int) : Option TunnelFrame :=
 (ref00_Sp k p2 p3).bind fun x1_5 =>
 some ((⟨[p0, p1], x1_5⟩ : TunnelFrame))
theorem ok_139 {k : Nat} {H : Hp} {w : World} {p0 : Int} {p1 : Int} {p2 : Int} {p3 : Int} {r : TunnelFrame} (hsub : Sub H w)  (hm : law03_frame k p0 p1 p2 p3 = some r) : Calls Tryd.prog 139 [.int .i64 p0, .int .i64 p1, .int .i64 p2, .int .i64 p3].toArray w (PostH w H fun v H' => ∃ c0, v = .agg c0.toArray ∧ Rp.rep (α := TunnelFrame) H' c0 r) := by
  unfold law03_frame at hm
  refine start (n := 16) (E := [(0, .int .i64 p0), (1, .int .i64 p1), (2, .int .i64 p2), (3, .int .i64 p3)]) Tryd.func139 rfl rfl ⟨rfl, rfl, rfl, rfl, trivial⟩ rfl hsub ?_
  refine a_seq (a_region rfl ?_)
  refine a_cons (e_alloc (cs := [.slice none 0 0, .int .i64 0, .int .i64 0]) trivial rfl ty55 rfl ?_)
  intro b0_0
  refine a_nil (a_then (a_seq (a_region rfl ?_)))
  refine ap (y_move rfl) ?_
  refine ap (y_move rfl) ?_
  refine a_cons (e_buildSlice (xs := [.tmp 9, .tmp 10]) (cs := [.int .i64 p0, .int .i64 p1]) trivial rfl Tryd.underlying26 ty3 rfl rfl rfl (by simp [Value.cells]) rfl (rfl) ?_)
  intro v1_2
  have h1_2 : RepL (α := Int) H ([.int .i64 p0, .int .i64 p1]) [p0, p1] := (RepL.cons (α := Int) (c := [.int .i64 p0]) rfl (RepL.cons (α := Int) (c := [.int .i64 p1]) rfl (RepL.nil (α := Int))))
  refine ap (y_move rfl) ?_
  refine ap (y_move rfl) ?_
  obtain ⟨x1_5, q1_5, hm⟩ := bind_some hm
  refine a_cons (e_callV (all := [.int .i64 p2, .int .i64 p3]) (v := .agg x1_5.cells.toArray) trivial rfl Tryd.func53 rfl rfl rfl rfl rfl (fun w hw => ok_53 hw q1_5) ?_)
  refine a_frow (i := 0) rfl rfl h1_2 rfl ?_
  intro H1_6f0f l1_6f0f h1_6f0f
  have m1_6 : Rp.rep H1_6f0f ([v1_2] ++ (x1_5.cells)) (⟨[p0, p1], x1_5⟩ : TunnelFrame) := ⟨_, _, rfl, ⟨_, rfl, h1_6f0f⟩, (Span.rep_mk _ x1_5)⟩
  refine ap (y_build (pl := [(0, 1), (1, 2)]) (xs := [.tmp 11, .tmp 14]) (cs := [v1_2] ++ (x1_5.cells)) ty55 (.cons ⟨rfl, ty26.szOf⟩ (.cons ⟨rfl, ty32.szOf⟩ (All2.nil))) rfl rfl ⟨1, Sl.csize h1_6f0f, rfl, ⟨_, rfl, rfl, trivial⟩⟩ (by rw [Rp.len m1_6]; rfl) (by simp [Sl.cells1 h1_6f0f]; try simp [Value.cells])) ?_
  refine a_cons (e_storeWhole (i := 1) (ds := [v1_2] ++ (x1_5.cells)) trivial ty55 rfl rfl rfl rfl rfl ((Rp.one m1_6)) rfl ?_)
  refine a_nil ?_
  refine a_freeze (α := TunnelFrame) (x := (⟨[p0, p1], x1_5⟩ : TunnelFrame)) (i := 1) rfl m1_6 ?_
  intro Hb0_0 lb0_0 hb0_0
  have h1_6f0f := Sl.mono lb0_0 h1_6f0f
  have m1_6 := Rp.mono lb0_0 m1_6
  refine a_en [(8, .pointer (some ⟨b0_0, 0, none⟩))] ?_
  refine a_own [] (by decide) (L' := []) rfl ?_
  refine a_then (a_ret ?_)
  obtain ⟨ce8, re8, le8⟩ := PAt.one hb0_0
  refine a_done (v := .agg ce8.toArray) (.inl rfl) rfl ?_ ?_
  · intro a_ w_ ha_ hs_; exact run_results (P := Tryd.prog) (fn := Tryd.f139) (rs := [.cell 8 55]) (vs := [.agg ce8.toArray]) rfl (.cons (rv_cell ha_ rfl (run_loadVar_agg ty55 rfl (le8 _ hs_.sub) (Rp.len re8))) (All2.nil))
  · intro _ _; obtain rfl := Option.some.inj hm; exact ⟨ce8, rfl, re8⟩

def law03_book (k : Nat) : Option TunnelBook :=
 (law03_part k 1 3 5 8 0 1).bind fun x1_0 =>
 (law03_part k 0 2 6 9 1 2).bind fun x1_1 =>
 (law03_frame k 5 4 20 45).bind fun x1_3 =>
 (law03_frame k 3 6 18 50).bind fun x1_4 =>
 (law03_frame k 10 2 30 60).bind fun x1_5 =>
 some ((⟨[x1_0, x1_1], [x1_3, x1_4, x1_5]⟩))
theorem ok_69 {k : Nat} {H : Hp} {w : World} {r : TunnelBook} (hsub : Sub H w)  (hm : law03_book k = some r) : Calls Tryd.prog 69 [].toArray w (PostO w H fun v H' Ls => ∃ vp vf cp cf, v = .agg #[vp, vf] ∧ Ls = [.row vp cp 64 6, .row vf cf 55 3] ∧ RepL (α := TunnelPart) H' cp r.Parts ∧ RepL (α := TunnelFrame) H' cf r.Frames) := by
  unfold law03_book at hm
  refine start (n := 9) (E := []) Tryd.func69 rfl rfl trivial rfl hsub ?_
  refine a_seq (a_region rfl ?_)
  refine a_cons (e_alloc (cs := [.slice none 0 0, .slice none 0 0]) trivial rfl ty25 rfl ?_)
  intro b0_0
  refine a_nil (a_then (a_seq (a_region rfl ?_)))
  obtain ⟨x1_0, q1_0, hm⟩ := bind_some hm
  refine a_cons (e_callH (all := [.int .i64 1, .int .i64 3, .int .i64 5, .int .i64 8, .int .i64 0, .int .i64 1]) trivial rfl Tryd.func138 rfl rfl rfl rfl rfl (fun w hw => ok_138 hw q1_0) ?_)
  rintro _ H1_0 l1_0 ⟨c1_0r0, rfl, h1_0r0⟩
  obtain ⟨x1_1, q1_1, hm⟩ := bind_some hm
  refine a_cons (e_callH (all := [.int .i64 0, .int .i64 2, .int .i64 6, .int .i64 9, .int .i64 1, .int .i64 2]) trivial rfl Tryd.func138 rfl rfl rfl rfl rfl (fun w hw => ok_138 hw q1_1) ?_)
  rintro _ H1_1 l1_1 ⟨c1_1r0, rfl, h1_1r0⟩
  have h1_0r0 := Rp.mono l1_1 h1_0r0
  refine a_cons (e_buildSlice (xs := [.tmp 1, .tmp 2]) (cs := c1_0r0 ++ (c1_1r0 ++ ([]))) trivial rfl Tryd.underlying22 ty64 rfl rfl rfl (by simp [Value.cells, Rp.len h1_0r0, Rp.len h1_1r0, Rp.sz]) rfl (rfl) ?_)
  intro v1_2
  have h1_2 : RepL (α := TunnelPart) H1_1 (c1_0r0 ++ (c1_1r0 ++ ([]))) [x1_0, x1_1] := (RepL.cons (α := TunnelPart) (c := c1_0r0) h1_0r0 (RepL.cons (α := TunnelPart) (c := c1_1r0) h1_1r0 (RepL.nil (α := TunnelPart))))
  obtain ⟨x1_3, q1_3, hm⟩ := bind_some hm
  refine a_cons (e_callH (all := [.int .i64 5, .int .i64 4, .int .i64 20, .int .i64 45]) trivial rfl Tryd.func139 rfl rfl rfl rfl rfl (fun w hw => ok_139 hw q1_3) ?_)
  rintro _ H1_3 l1_3 ⟨c1_3r0, rfl, h1_3r0⟩
  have h1_0r0 := Rp.mono l1_3 h1_0r0
  have h1_1r0 := Rp.mono l1_3 h1_1r0
  have h1_2 := RepL.mono l1_3 h1_2
  obtain ⟨x1_4, q1_4, hm⟩ := bind_some hm
  refine a_cons (e_callH (all := [.int .i64 3, .int .i64 6, .int .i64 18, .int .i64 50]) trivial rfl Tryd.func139 rfl rfl rfl rfl rfl (fun w hw => ok_139 hw q1_4) ?_)
  rintro _ H1_4 l1_4 ⟨c1_4r0, rfl, h1_4r0⟩
  have h1_0r0 := Rp.mono l1_4 h1_0r0
  have h1_1r0 := Rp.mono l1_4 h1_1r0
  have h1_3r0 := Rp.mono l1_4 h1_3r0
  have h1_2 := RepL.mono l1_4 h1_2
  obtain ⟨x1_5, q1_5, hm⟩ := bind_some hm
  refine a_cons (e_callH (all := [.int .i64 10, .int .i64 2, .int .i64 30, .int .i64 60]) trivial rfl Tryd.func139 rfl rfl rfl rfl rfl (fun w hw => ok_139 hw q1_5) ?_)
  rintro _ H1_5 l1_5 ⟨c1_5r0, rfl, h1_5r0⟩
  have h1_0r0 := Rp.mono l1_5 h1_0r0
  have h1_1r0 := Rp.mono l1_5 h1_1r0
  have h1_3r0 := Rp.mono l1_5 h1_3r0
  have h1_4r0 := Rp.mono l1_5 h1_4r0
  have h1_2 := RepL.mono l1_5 h1_2
  refine a_cons (e_buildSlice (xs := [.tmp 4, .tmp 5, .tmp 6]) (cs := c1_3r0 ++ (c1_4r0 ++ (c1_5r0 ++ ([])))) trivial rfl Tryd.underlying23 ty55 rfl rfl rfl (by simp [Value.cells, Rp.len h1_3r0, Rp.len h1_4r0, Rp.len h1_5r0, Rp.sz]) rfl (rfl) ?_)
  intro v1_6
  have h1_6 : RepL (α := TunnelFrame) H1_5 (c1_3r0 ++ (c1_4r0 ++ (c1_5r0 ++ ([])))) [x1_3, x1_4, x1_5] := (RepL.cons (α := TunnelFrame) (c := c1_3r0) h1_3r0 (RepL.cons (α := TunnelFrame) (c := c1_4r0) h1_4r0 (RepL.cons (α := TunnelFrame) (c := c1_5r0) h1_5r0 (RepL.nil (α := TunnelFrame)))))
  refine a_rowshape (i := 1) rfl fun xs1_7_0 ns1_7_0 cp1_7_0 e_ => ?_
  subst e_
  refine a_rowshape (i := 0) rfl fun xs1_7_1 ns1_7_1 cp1_7_1 e_ => ?_
  subst e_
  refine ap (y_build_lit (pl := [(0, 1), (1, 1)]) (xs := [(0, .tmp 3), (1, .tmp 7)]) (cs := #[.slice xs1_7_0 ns1_7_0 cp1_7_0, .slice xs1_7_1 ns1_7_1 cp1_7_1]) ty25 (.cons ⟨rfl, ty22.szOf⟩ (.cons ⟨rfl, ty23.szOf⟩ (All2.nil))) rfl rfl rfl) ?_
  refine a_cons (e_storeWholeL (i := 2) (ds := [.slice xs1_7_0 ns1_7_0 cp1_7_0, .slice xs1_7_1 ns1_7_1 cp1_7_1]) trivial ty25 rfl rfl rfl rfl rfl ⟨.inr ⟨_, _, _, List.mem_of_getElem? (i := 1) rfl⟩, ⟨.inr ⟨_, _, _, List.mem_of_getElem? (i := 0) rfl⟩, trivial⟩⟩ rfl ?_)
  refine a_nil ?_
  refine a_en [(0, .pointer (some ⟨b0_0, 0, none⟩))] ?_
  refine a_then (a_ret ?_)
  obtain rfl := Option.some.inj hm
  exact a_doneO (Ls := [.row (.slice xs1_7_0 ns1_7_0 cp1_7_0) (c1_0r0 ++ (c1_1r0 ++ ([]))) 64 6, .row (.slice xs1_7_1 ns1_7_1 cp1_7_1) (c1_3r0 ++ (c1_4r0 ++ (c1_5r0 ++ ([])))) 55 3]) (v := .agg #[.slice xs1_7_0 ns1_7_0 cp1_7_0, .slice xs1_7_1 ns1_7_1 cp1_7_1]) (.inl rfl) rfl [1, 0] (by decide) rfl (fun a_ w_ ha_ hs_ => run_results (P := Tryd.prog) (fn := Tryd.f69) (rs := [.cell 0 25]) (vs := [.agg #[.slice xs1_7_0 ns1_7_0 cp1_7_0, .slice xs1_7_1 ns1_7_1 cp1_7_1]]) rfl (.cons (rv_cell ha_ rfl (run_loadSt (i := 2) ty25 rfl hs_ rfl rfl)) (All2.nil))) ⟨_, _, _, _, rfl, rfl, h1_2, h1_6⟩

def tunnel_in (k : Nat) (p0 : Int) (p1 : Int) (p2 : Int) : Option Bool :=
 (bif decide (p1 ≤ p0) then
 some ((decide (p0 ≤ p2)))
 else
 some (false)).bind fun yj1_6 =>
 some (yj1_6)
theorem ok_85 {k : Nat} {H : Hp} {w : World} {p0 : Int} {p1 : Int} {p2 : Int} {r : Bool} (hsub : Sub H w)  (hm : tunnel_in k p0 p1 p2 = some r) : Calls Tryd.prog 85 [.int .i64 p0, .int .i64 p1, .int .i64 p2].toArray w (PostV w H (.bool r)) := by
  unfold tunnel_in at hm
  refine start (n := 15) (E := [(0, .int .i64 p0), (1, .int .i64 p1), (2, .int .i64 p2)]) Tryd.func85 rfl rfl ⟨rfl, rfl, rfl, trivial⟩ rfl hsub ?_
  refine a_seq (a_region rfl ?_)
  refine ap (y_assign rfl) ?_
  refine a_nil ?_
  refine a_en [(0, .int .i64 p0), (1, .int .i64 p1), (2, .int .i64 p2)] ?_
  refine a_then (a_seq ?_)
  obtain ⟨s_j1, hs_j1, hm_j1⟩ := bind_some hm
  refine a_join (fun a_ w_ => ∃ (yj1_6 : Bool), yj1_6 = s_j1 ∧ Ag 15 [] [(6, .bool yj1_6)] a_ ∧ St (Kp.mk w H noX) H [] w_) ?_ ?_
  · have hm := hs_j1
    refine a_region rfl ?_
    refine ap (y_move rfl) ?_
    refine ap (y_move rfl) ?_
    refine ap (y_leq rfl rfl) ?_
    refine ap (y_move rfl) ?_
    rcases Bool.eq_false_or_eq_true (decide (p1 ≤ p0)) with k1_4 | k1_4
    · have hm := cond_t k1_4 hm
      refine ag ⟨_, _, rfl, rfl, k1_4⟩ (y_move rfl) ?_
      refine ag ⟨_, _, rfl, rfl, k1_4⟩ (y_move rfl) ?_
      refine ag ⟨_, _, rfl, rfl, k1_4⟩ (y_leq rfl rfl) ?_
      refine ap (y_pick_t rfl k1_4 rfl) ?_
      refine ap (y_assign rfl) ?_
      refine a_nil ?_
      refine a_en [(6, .bool (decide (p0 ≤ p2)))] ?_
      refine a_cut ?_
      intro a_ w_ ha_ hs_
      exact ⟨decide (p0 ≤ p2), Option.some.inj hm, ha_.weaken ⟨rfl, trivial⟩, hs_.reix [] (by decide)⟩
    have hm := cond_f k1_4 hm
    refine as1 (sk1 rfl rfl k1_4) ?_
    refine as1 (sk1 rfl rfl k1_4) ?_
    refine as1 (sk1 rfl rfl k1_4) ?_
    refine ap (y_pick_f rfl k1_4 rfl) ?_
    refine ap (y_assign rfl) ?_
    refine a_nil ?_
    refine a_en [(6, .bool false)] ?_
    refine a_cut ?_
    intro a_ w_ ha_ hs_
    exact ⟨false, Option.some.inj hm, ha_.weaken ⟨rfl, trivial⟩, hs_.reix [] (by decide)⟩
  have hm := hm_j1
  rintro a_ w_ ⟨yj1_6, rfl, ha_, hs_⟩
  try dsimp only at hm
  refine a_start ha_ hs_ ?_
  refine a_then (a_ret ?_)
  refine a_done (v := .bool yj1_6) (.inl rfl) rfl ?_ ?_
  · intro a_ w_ ha_ hs_; exact run_results (P := Tryd.prog) (fn := Tryd.f85) (rs := [.tmp 6]) (vs := [.bool yj1_6]) rfl (.cons (rv_tmp ha_ rfl) (All2.nil))
  · intro _ _; obtain rfl := Option.some.inj hm
    rfl

def tunnel_isFrame (k : Nat) (p0 : TunnelBook) (p1 : Int) : Option Bool :=
 (tunnel_in k p1 0 (IntKind.i64.wrap ((p0.Frames.length : Int) - 1))).bind fun x1_5 =>
 some (x1_5)
theorem ok_88 {k : Nat} {H : Hp} {w : World} {p0 : TunnelBook} {p1 : Int} {c0 : List Value} {r : Bool} (hsub : Sub H w) (h0 : Rp.rep (α := TunnelBook) H c0 p0) (hm : tunnel_isFrame k p0 p1 = some r) : Calls Tryd.prog 88 [.agg c0.toArray, .int .i64 p1].toArray w (PostV w H (.bool r)) := by
  unfold tunnel_isFrame at hm
  refine start (n := 11) (E := [(0, .agg c0.toArray), (1, .int .i64 p1)]) Tryd.func88 rfl rfl ⟨rfl, rfl, trivial⟩ rfl hsub ?_
  refine a_seq (a_region rfl ?_)
  refine a_cons (e_box (cs := c0) trivial rfl rfl rfl ?_)
  intro b0_0
  refine ap (y_assign rfl) ?_
  refine a_nil ?_
  refine a_freeze (α := TunnelBook) (x := p0) (i := 0) rfl h0 ?_
  intro Hb0_0 lb0_0 hb0_0
  have h0 := Rp.mono lb0_0 h0
  refine a_en [(1, .int .i64 p1), (2, .pointer (some ⟨b0_0, 0, none⟩))] ?_
  refine a_own [] (by decide) (L' := []) rfl ?_
  refine a_then (a_seq (a_region rfl ?_))
  refine ap (y_move rfl) ?_
  have h1_1 := TunnelBook.at_Frames hb0_0
  refine ap (y_fieldAddr fo25_1 rfl) ?_
  obtain ⟨v1_2, h1_2, c1_2⟩ := PAt.sl h1_1
  refine ap (y_load_one ty23 rfl (fun _ h => h.sub) rfl c1_2) ?_
  refine ap (y_len_sl Tryd.underlying23 rfl h1_2) ?_
  refine ap (y_sub rfl rfl) ?_
  obtain ⟨x1_5, q1_5, hm⟩ := bind_some hm
  refine a_cons (e_callV (all := [.int .i64 p1, .int .i64 0, .int .i64 (IntKind.i64.wrap ((p0.Frames.length : Int) - 1))]) (v := .bool x1_5) trivial rfl Tryd.func85 rfl rfl rfl rfl rfl (fun w hw => ok_85 hw q1_5) ?_)
  refine ap (y_assign rfl) ?_
  refine a_nil ?_
  refine a_en [(4, .bool x1_5)] ?_
  refine a_then (a_ret ?_)
  refine a_done (v := .bool x1_5) (.inl rfl) rfl ?_ ?_
  · intro a_ w_ ha_ hs_; exact run_results (P := Tryd.prog) (fn := Tryd.f88) (rs := [.tmp 4]) (vs := [.bool x1_5]) rfl (.cons (rv_tmp ha_ rfl) (All2.nil))
  · intro _ _; obtain rfl := Option.some.inj hm
    rfl

def tunnel_spans (k : Nat) (p0 : Span) (p1 : Int) : Option Bool :=
 ((tunnel_in k p0.Low 0 p0.High).bind fun x1_4 =>
 bif x1_4 then
 some ((decide (p0.High ≤ p1)))
 else
 some (false)).bind fun yj1_4 =>
 some (yj1_4)
theorem ok_86 {k : Nat} {H : Hp} {w : World} {p0 : Span} {p1 : Int} {c0 : List Value} {r : Bool} (hsub : Sub H w) (h0 : Rp.rep (α := Span) H c0 p0) (hm : tunnel_spans k p0 p1 = some r) : Calls Tryd.prog 86 [.agg c0.toArray, .int .i64 p1].toArray w (PostV w H (.bool r)) := by
  unfold tunnel_spans at hm
  refine start (n := 16) (E := [(0, .agg c0.toArray), (1, .int .i64 p1)]) Tryd.func86 rfl rfl ⟨rfl, rfl, trivial⟩ rfl hsub ?_
  refine a_seq (a_region rfl ?_)
  refine a_cons (e_box (cs := c0) trivial rfl rfl rfl ?_)
  intro b0_0
  refine ap (y_assign rfl) ?_
  refine a_nil ?_
  refine a_freeze (α := Span) (x := p0) (i := 0) rfl h0 ?_
  intro Hb0_0 lb0_0 hb0_0
  have h0 := Rp.mono lb0_0 h0
  refine a_en [(1, .int .i64 p1), (2, .pointer (some ⟨b0_0, 0, none⟩))] ?_
  refine a_own [] (by decide) (L' := []) rfl ?_
  refine a_then (a_seq ?_)
  obtain ⟨s_j1, hs_j1, hm_j1⟩ := bind_some hm
  refine a_join (fun a_ w_ => ∃ (yj1_4 : Bool), yj1_4 = s_j1 ∧ Ag 16 [] [(4, .bool yj1_4)] a_ ∧ St (Kp.mk w H noX) Hb0_0 [] w_) ?_ ?_
  · have hm := hs_j1
    refine a_region rfl ?_
    have h1_0 := Span.at_Low hb0_0
    refine ap (y_fieldAddr fo32_0 rfl) ?_
    refine ap (y_load_int ty3 rfl (fun _ h => h.sub) rfl h1_0) ?_
    have h1_2 := Span.at_High hb0_0
    refine ap (y_fieldAddr fo32_1 rfl) ?_
    refine ap (y_load_int ty3 rfl (fun _ h => h.sub) rfl h1_2) ?_
    obtain ⟨x1_4, q1_4, hm⟩ := bind_some hm
    refine a_cons (e_callV (all := [.int .i64 p0.Low, .int .i64 0, .int .i64 p0.High]) (v := .bool x1_4) trivial rfl Tryd.func85 rfl rfl rfl rfl rfl (fun w hw => ok_85 hw q1_4) ?_)
    refine ap (y_move rfl) ?_
    rcases Bool.eq_false_or_eq_true (x1_4) with k1_6 | k1_6
    · have hm := cond_t k1_6 hm
      have h1_6 := Span.at_High hb0_0
      refine ag ⟨_, _, rfl, rfl, k1_6⟩ (y_fieldAddr fo32_1 rfl) ?_
      refine ag ⟨_, _, rfl, rfl, k1_6⟩ (y_load_int ty3 rfl (fun _ h => h.sub) rfl h1_6) ?_
      refine ag ⟨_, _, rfl, rfl, k1_6⟩ (y_move rfl) ?_
      refine ag ⟨_, _, rfl, rfl, k1_6⟩ (y_leq rfl rfl) ?_
      refine ap (y_pick_t rfl k1_6 rfl) ?_
      refine ap (y_assign rfl) ?_
      refine a_nil ?_
      refine a_en [(4, .bool (decide (p0.High ≤ p1)))] ?_
      refine a_cut ?_
      intro a_ w_ ha_ hs_
      exact ⟨decide (p0.High ≤ p1), Option.some.inj hm, ha_.weaken ⟨rfl, trivial⟩, hs_.reix [] (by decide)⟩
    have hm := cond_f k1_6 hm
    refine as1 (sk1 rfl rfl k1_6) ?_
    refine as1 (sk1 rfl rfl k1_6) ?_
    refine as1 (sk1 rfl rfl k1_6) ?_
    refine as1 (sk1 rfl rfl k1_6) ?_
    refine ap (y_pick_f rfl k1_6 rfl) ?_
    refine ap (y_assign rfl) ?_
    refine a_nil ?_
    refine a_en [(4, .bool false)] ?_
    refine a_cut ?_
    intro a_ w_ ha_ hs_
    exact ⟨false, Option.some.inj hm, ha_.weaken ⟨rfl, trivial⟩, hs_.reix [] (by decide)⟩
  have hm := hm_j1
  rintro a_ w_ ⟨yj1_4, rfl, ha_, hs_⟩
  try dsimp only at hm
  refine a_start ha_ hs_ ?_
  refine a_then (a_ret ?_)
  refine a_done (v := .bool yj1_4) (.inl rfl) rfl ?_ ?_
  · intro a_ w_ ha_ hs_; exact run_results (P := Tryd.prog) (fn := Tryd.f86) (rs := [.tmp 4]) (vs := [.bool yj1_4]) rfl (.cons (rv_tmp ha_ rfl) (All2.nil))
  · intro _ _; obtain rfl := Option.some.inj hm
    rfl

def tunnel_Check_lj7 (k : Nat) (x4_0 : TunnelPart) : Nat → Bool → Int → Int → Option Bool
 | 0, _, _, _ => none
 | n_j7 + 1, yj7_3, yj7_6, yj7_48 =>
 bif decide (yj7_48 < 4) then
 (nth x4_0.Heat yj7_48).bind fun x9_0 =>
 (bif yj7_3 then
 (tunnel_in k x9_0 yj7_6 20).bind fun x10_4 =>
 some (x10_4)
 else
 some (false)).bind fun yj9_3 =>
 tunnel_Check_lj7 k x4_0 n_j7 yj9_3 x9_0 (IntKind.i64.wrap (yj7_48 + 1))
 else
 some (yj7_3)
def tunnel_Check_lj3 (k : Nat) (p0 : TunnelBook) : Nat → Bool → Int → Option Bool
 | 0, _, _ => none
 | n_j3 + 1, yj3_3, yj3_26 =>
 bif decide (yj3_26 < (p0.Parts.length : Int)) then
 (nth p0.Parts yj3_26).bind fun x4_0 =>
 (bif yj3_3 then
 (tunnel_spans k x4_0.Damp 20).bind fun x5_4 =>
 bif x5_4 then
 some ((decide ((IntKind.i64.wrap (x4_0.Damp.High - x4_0.Damp.Low)) ≤ 3)))
 else
 some (false)
 else
 some (false)).bind fun yj5_3 =>
 (tunnel_Check_lj7 k x4_0 k yj5_3 0 0).bind fun yj6_3 =>
 tunnel_Check_lj3 k p0 n_j3 yj6_3 (IntKind.i64.wrap (yj3_26 + 1))
 else
 some (yj3_3)
def tunnel_Check_lj15 (k : Nat) (x16_0 : TunnelFrame) : Nat → Bool → Int → Option Bool
 | 0, _, _ => none
 | n_j15 + 1, yj15_3, yj15_85 =>
 bif decide (yj15_85 < (x16_0.Stay.length : Int)) then
 (nth x16_0.Stay yj15_85).bind fun x20_0 =>
 (bif yj15_3 then
 (tunnel_in k x20_0 0 20).bind fun x21_3 =>
 some (x21_3)
 else
 some (false)).bind fun yj17_3 =>
 tunnel_Check_lj15 k x16_0 n_j15 yj17_3 (IntKind.i64.wrap (yj15_85 + 1))
 else
 some (yj15_3)
def tunnel_Check_lj11 (k : Nat) (p0 : TunnelBook) : Nat → Bool → Int → Option Bool
 | 0, _, _ => none
 | n_j11 + 1, yj11_3, yj11_63 =>
 bif decide (yj11_63 < (p0.Frames.length : Int)) then
 (nth p0.Frames yj11_63).bind fun x16_0 =>
 (bif yj11_3 then
 bif (x16_0.Stay.length : Int) == (p0.Parts.length : Int) then
 (tunnel_spans k x16_0.Need 999).bind fun x17_13 =>
 some (x17_13)
 else
 some (false)
 else
 some (false)).bind fun yj13_3 =>
 (tunnel_Check_lj15 k x16_0 k yj13_3 0).bind fun yj14_3 =>
 tunnel_Check_lj11 k p0 n_j11 yj14_3 (IntKind.i64.wrap (yj11_63 + 1))
 else
 some (yj11_3)
def tunnel_Check (k : Nat) (p0 : TunnelBook) : Option Int :=
 ((tunnel_in k (p0.Parts.length : Int) 1 4).bind fun x1_3 =>
 bif x1_3 then
 some ((decide ((p0.Frames.length : Int) ≤ 5)))
 else
 some (false)).bind fun yj1_3 =>
 (tunnel_Check_lj3 k p0 k yj1_3 0).bind fun yj2_3 =>
 (tunnel_Check_lj11 k p0 k yj2_3 0).bind fun yj10_3 =>
 bif !yj10_3 then
 some (30)
 else
 some (0)
theorem ok_21 {k : Nat} {H : Hp} {w : World} {p0 : TunnelBook} {c0 : List Value} {r : Int} (hsub : Sub H w) (h0 : Rp.rep (α := TunnelBook) H c0 p0) (hm : tunnel_Check k p0 = some r) : Calls Tryd.prog 21 [.agg c0.toArray].toArray w (PostV w H (.int .i64 r)) := by
  unfold tunnel_Check at hm
  refine start (n := 98) (E := [(0, .agg c0.toArray)]) Tryd.func21 rfl rfl ⟨rfl, trivial⟩ rfl hsub ?_
  refine a_seq (a_region rfl ?_)
  refine a_cons (e_box (cs := c0) trivial rfl rfl rfl ?_)
  intro b0_0
  refine ap (y_assign rfl) ?_
  refine a_nil ?_
  refine a_freeze (α := TunnelBook) (x := p0) (i := 0) rfl h0 ?_
  intro Hb0_0 lb0_0 hb0_0
  have h0 := Rp.mono lb0_0 h0
  refine a_en [(1, .pointer (some ⟨b0_0, 0, none⟩))] ?_
  refine a_own [] (by decide) (L' := []) rfl ?_
  refine a_then (a_seq ?_)
  obtain ⟨s_j1, hs_j1, hm_j1⟩ := bind_some hm
  refine a_join (fun a_ w_ => ∃ (yj1_3 : Bool), yj1_3 = s_j1 ∧ Ag 98 [] [(1, .pointer (some ⟨b0_0, 0, none⟩)), (3, .bool yj1_3)] a_ ∧ St (Kp.mk w H noX) Hb0_0 [] w_) ?_ ?_
  · have hm := hs_j1
    refine a_region rfl ?_
    have h1_0 := TunnelBook.at_Parts hb0_0
    refine ap (y_fieldAddr fo25_0 rfl) ?_
    obtain ⟨v1_1, h1_1, c1_1⟩ := PAt.sl h1_0
    refine ap (y_load_one ty22 rfl (fun _ h => h.sub) rfl c1_1) ?_
    refine ap (y_len_sl Tryd.underlying22 rfl h1_1) ?_
    obtain ⟨x1_3, q1_3, hm⟩ := bind_some hm
    refine a_cons (e_callV (all := [.int .i64 (p0.Parts.length : Int), .int .i64 1, .int .i64 4]) (v := .bool x1_3) trivial rfl Tryd.func85 rfl rfl rfl rfl rfl (fun w hw => ok_85 hw q1_3) ?_)
    refine ap (y_move rfl) ?_
    rcases Bool.eq_false_or_eq_true (x1_3) with k1_5 | k1_5
    · have hm := cond_t k1_5 hm
      have h1_5 := TunnelBook.at_Frames hb0_0
      refine ag ⟨_, _, rfl, rfl, k1_5⟩ (y_fieldAddr fo25_1 rfl) ?_
      obtain ⟨v1_6, h1_6, c1_6⟩ := PAt.sl h1_5
      refine ag ⟨_, _, rfl, rfl, k1_5⟩ (y_load_one ty23 rfl (fun _ h => h.sub) rfl c1_6) ?_
      refine ag ⟨_, _, rfl, rfl, k1_5⟩ (y_len_sl Tryd.underlying23 rfl h1_6) ?_
      refine ag ⟨_, _, rfl, rfl, k1_5⟩ (y_leq rfl rfl) ?_
      refine ap (y_pick_t rfl k1_5 rfl) ?_
      refine ap (y_assign rfl) ?_
      refine a_nil ?_
      refine a_en [(1, .pointer (some ⟨b0_0, 0, none⟩)), (3, .bool (decide ((p0.Frames.length : Int) ≤ 5)))] ?_
      refine a_cut ?_
      intro a_ w_ ha_ hs_
      exact ⟨decide ((p0.Frames.length : Int) ≤ 5), Option.some.inj hm, ha_.weaken ⟨rfl, rfl, trivial⟩, hs_.reix [] (by decide)⟩
    have hm := cond_f k1_5 hm
    refine as1 (sk1 rfl rfl k1_5) ?_
    refine as1 (sk1 rfl rfl k1_5) ?_
    refine as1 (sk1 rfl rfl k1_5) ?_
    refine as1 (sk1 rfl rfl k1_5) ?_
    refine ap (y_pick_f rfl k1_5 rfl) ?_
    refine ap (y_assign rfl) ?_
    refine a_nil ?_
    refine a_en [(1, .pointer (some ⟨b0_0, 0, none⟩)), (3, .bool false)] ?_
    refine a_cut ?_
    intro a_ w_ ha_ hs_
    exact ⟨false, Option.some.inj hm, ha_.weaken ⟨rfl, rfl, trivial⟩, hs_.reix [] (by decide)⟩
  have hm := hm_j1
  rintro a_ w_ ⟨yj1_3, rfl, ha_, hs_⟩
  try dsimp only at hm
  refine a_start ha_ hs_ ?_
  refine a_then (a_seq (a_seq (a_region rfl ?_)))
  have h2_0 := TunnelBook.at_Parts hb0_0
  refine ap (y_fieldAddr fo25_0 rfl) ?_
  obtain ⟨v2_1, h2_1, c2_1⟩ := PAt.sl h2_0
  refine ap (y_load_one ty22 rfl (fun _ h => h.sub) rfl c2_1) ?_
  refine ap (y_len_sl Tryd.underlying22 rfl h2_1) ?_
  refine ap (y_move rfl) ?_
  refine a_nil ?_
  refine a_en [(1, .pointer (some ⟨b0_0, 0, none⟩)), (3, .bool yj1_3), (24, v2_1), (25, .int .i64 (p0.Parts.length : Int)), (26, .int .i64 0)] ?_
  refine a_then ?_
  obtain ⟨s_j2, hs_j2, hm_j2⟩ := bind_some hm
  refine a_join (fun a_ w_ => ∃ (Hj2 : Hp), ∃ (_ : HLe Hb0_0 Hj2), ∃ (yj2_3 : Bool), yj2_3 = s_j2 ∧ Ag 98 [] [(1, .pointer (some ⟨b0_0, 0, none⟩)), (3, .bool yj2_3)] a_ ∧ St (Kp.mk w H noX) Hj2 [] w_) ?_ ?_
  · have hm := hs_j2
    refine a_block ?_
    refine a_loop (fun n_j3 a_ w_ => ∃ (Hj3 : Hp), ∃ (_ : HLe Hb0_0 Hj3), ∃ (yj3_3 : Bool), ∃ (yj3_26 : Int), tunnel_Check_lj3 k p0 n_j3 yj3_3 yj3_26 = some s_j2 ∧ Ag 98 [] [(1, .pointer (some ⟨b0_0, 0, none⟩)), (3, .bool yj3_3), (24, v2_1), (25, .int .i64 (p0.Parts.length : Int)), (26, .int .i64 yj3_26)] a_ ∧ St (Kp.mk w H noX) Hj3 [] w_) k ?_ ?_
    · intro a_ w_ ha_ hs_
      exact ⟨Hb0_0, (HLe.refl _), yj1_3, 0, hm, ha_.weaken ⟨rfl, rfl, rfl, rfl, rfl, trivial⟩, hs_.reix [] (by decide)⟩
    rintro (_ | n_j3) a_ w_ ⟨Hj3, lj3, yj3_3, yj3_26, hm, ha_, hs_⟩
    · rw [tunnel_Check_lj3.eq_1] at hm; cases hm
    rw [tunnel_Check_lj3.eq_2] at hm
    refine a_start ha_ hs_ ?_
    have hb0_0 := PAt.mono lj3 hb0_0
    have h2_1 := Sl.mono lj3 h2_1
    refine a_seq (a_region rfl ?_)
    refine ap (y_lss rfl rfl) ?_
    refine a_nil (a_then (a_seq ?_))
    refine a_cond rfl (fun k_4 => ?_) (fun k_4 => ?_)
    · have hm := cond_t k_4 hm
      refine a_skip (a_then (a_seq (a_block (a_seq (a_region rfl ?_)))))
      obtain ⟨x4_0, q4_0, hm⟩ := bind_some hm
      obtain ⟨b4_0, o4_0, c4_0, e4_0, h4_0⟩ := Sl.elemZ 6 rfl h2_1 q4_0
      refine ap (y_index Tryd.underlying22 ty64 rfl e4_0 rfl (nth_in q4_0)) ?_
      obtain ⟨u4_1, h4_1, c4_1⟩ := PAt.one h4_0
      refine ap (y_load_cells ty64 rfl (fun _ h => h.sub) rfl c4_1 (Rp.len h4_1)) ?_
      refine a_cons (e_alloc (cs := [.int .i64 0, .int .i64 0, .int .i64 0, .int .i64 0, .int .i64 0, .int .i64 0]) trivial rfl ty64 rfl ?_)
      intro b4_2
      have mz4_2 : Rp.rep (α := TunnelPart) Hj3 [.int .i64 0, .int .i64 0, .int .i64 0, .int .i64 0, .int .i64 0, .int .i64 0] (⟨[0, 0, 0, 0], ⟨0, 0⟩⟩ : TunnelPart) := ⟨_, _, rfl, ⟨(RepL.cons (c := [_]) rfl (RepL.cons (c := [_]) rfl (RepL.cons (c := [_]) rfl (RepL.cons (c := [_]) rfl RepL.nil)))), rfl⟩, ⟨_, _, rfl, rfl, rfl⟩⟩
      refine a_cons (e_storeWhole (i := 0) (ds := u4_1) trivial ty64 rfl rfl rfl rfl (Rp.len h4_1) ((Rp.one h4_1)) rfl ?_)
      refine a_nil ?_
      refine a_freeze (α := TunnelPart) (x := x4_0) (i := 0) rfl h4_1 ?_
      intro Hb4_2 lb4_2 hb4_2
      have hb0_0 := PAt.mono lb4_2 hb0_0
      have h2_1 := Sl.mono lb4_2 h2_1
      have h4_0 := PAt.mono lb4_2 h4_0
      have h4_1 := Rp.mono lb4_2 h4_1
      refine a_en [(1, .pointer (some ⟨b0_0, 0, none⟩)), (3, .bool yj3_3), (5, .pointer (some ⟨b4_2, 0, none⟩)), (24, v2_1), (25, .int .i64 (p0.Parts.length : Int)), (26, .int .i64 yj3_26)] ?_
      refine a_own [] (by decide) (L' := []) rfl ?_
      refine a_then (a_seq ?_)
      obtain ⟨s_j5, hs_j5, hm_j5⟩ := bind_some hm
      refine a_join (fun a_ w_ => ∃ (yj5_3 : Bool), yj5_3 = s_j5 ∧ Ag 98 [] [(1, .pointer (some ⟨b0_0, 0, none⟩)), (3, .bool yj5_3), (5, .pointer (some ⟨b4_2, 0, none⟩)), (24, v2_1), (25, .int .i64 (p0.Parts.length : Int)), (26, .int .i64 yj3_26)] a_ ∧ St (Kp.mk w H noX) Hb4_2 [] w_) ?_ ?_
      · have hm := hs_j5
        refine a_region rfl ?_
        refine ap (y_move rfl) ?_
        refine ap (y_move rfl) ?_
        rcases Bool.eq_false_or_eq_true (yj3_3) with k5_2 | k5_2
        · have hm := cond_t k5_2 hm
          have h5_2 := TunnelPart.at_Damp hb4_2
          refine ag ⟨_, _, rfl, rfl, k5_2⟩ (y_fieldAddr fo64_1 rfl) ?_
          obtain ⟨u5_3, h5_3, c5_3⟩ := PAt.one h5_2
          refine ag ⟨_, _, rfl, rfl, k5_2⟩ (y_load_cells ty32 rfl (fun _ h => h.sub) rfl c5_3 (Rp.len h5_3)) ?_
          obtain ⟨x5_4, q5_4, hm⟩ := bind_some hm
          refine a_cons (e_callV (all := [.agg u5_3.toArray, .int .i64 20]) (v := .bool x5_4) ⟨_, _, rfl, rfl, k5_2⟩ rfl Tryd.func86 rfl rfl rfl rfl rfl (fun w hw => ok_86 hw h5_3 q5_4) ?_)
          refine ap (y_pick_t rfl k5_2 rfl) ?_
          refine ap (y_move rfl) ?_
          rcases Bool.eq_false_or_eq_true (x5_4) with k5_7 | k5_7
          · have hm := cond_t k5_7 hm
            have h5_7 := TunnelPart.at_Damp hb4_2
            refine ag ⟨_, _, rfl, rfl, k5_7⟩ (y_fieldAddr fo64_1 rfl) ?_
            have h5_8 := Span.at_High h5_7
            refine ag ⟨_, _, rfl, rfl, k5_7⟩ (y_fieldAddr fo32_1 rfl) ?_
            refine ag ⟨_, _, rfl, rfl, k5_7⟩ (y_load_int ty3 rfl (fun _ h => h.sub) rfl h5_8) ?_
            have h5_10 := TunnelPart.at_Damp hb4_2
            refine ag ⟨_, _, rfl, rfl, k5_7⟩ (y_fieldAddr fo64_1 rfl) ?_
            have h5_11 := Span.at_Low h5_10
            refine ag ⟨_, _, rfl, rfl, k5_7⟩ (y_fieldAddr fo32_0 rfl) ?_
            refine ag ⟨_, _, rfl, rfl, k5_7⟩ (y_load_int ty3 rfl (fun _ h => h.sub) rfl h5_11) ?_
            refine ag ⟨_, _, rfl, rfl, k5_7⟩ (y_sub rfl rfl) ?_
            refine ag ⟨_, _, rfl, rfl, k5_7⟩ (y_leq rfl rfl) ?_
            refine ap (y_pick_t rfl k5_7 rfl) ?_
            refine ap (y_assign rfl) ?_
            refine a_nil ?_
            refine a_en [(1, .pointer (some ⟨b0_0, 0, none⟩)), (3, .bool (decide ((IntKind.i64.wrap (x4_0.Damp.High - x4_0.Damp.Low)) ≤ 3))), (5, .pointer (some ⟨b4_2, 0, none⟩)), (24, v2_1), (25, .int .i64 (p0.Parts.length : Int)), (26, .int .i64 yj3_26), (32, .pointer (some ⟨b4_2, 0 + 4, none⟩)), (33, .agg u5_3.toArray), (34, .bool x5_4), (37, .pointer (some ⟨b4_2, 0 + 4, none⟩)), (38, .pointer (some ⟨b4_2, 0 + 4 + 1, none⟩)), (39, .int .i64 x4_0.Damp.High), (40, .pointer (some ⟨b4_2, 0 + 4, none⟩)), (41, .pointer (some ⟨b4_2, 0 + 4 + 0, none⟩)), (42, .int .i64 x4_0.Damp.Low), (43, .int .i64 (IntKind.i64.wrap (x4_0.Damp.High - x4_0.Damp.Low))), (44, .bool (decide ((IntKind.i64.wrap (x4_0.Damp.High - x4_0.Damp.Low)) ≤ 3)))] ?_
            refine a_cut ?_
            intro a_ w_ ha_ hs_
            exact ⟨decide ((IntKind.i64.wrap (x4_0.Damp.High - x4_0.Damp.Low)) ≤ 3), Option.some.inj hm, ha_.weaken ⟨rfl, rfl, rfl, rfl, rfl, rfl, trivial⟩, hs_.reix [] (by decide)⟩
          have hm := cond_f k5_7 hm
          refine as1 (sk1 rfl rfl k5_7) ?_
          refine as1 (sk1 rfl rfl k5_7) ?_
          refine as1 (sk1 rfl rfl k5_7) ?_
          refine as1 (sk1 rfl rfl k5_7) ?_
          refine as1 (sk1 rfl rfl k5_7) ?_
          refine as1 (sk1 rfl rfl k5_7) ?_
          refine as1 (sk1 rfl rfl k5_7) ?_
          refine as1 (sk1 rfl rfl k5_7) ?_
          refine ap (y_pick_f rfl k5_7 rfl) ?_
          refine ap (y_assign rfl) ?_
          refine a_nil ?_
          refine a_en [(1, .pointer (some ⟨b0_0, 0, none⟩)), (3, .bool false), (5, .pointer (some ⟨b4_2, 0, none⟩)), (24, v2_1), (25, .int .i64 (p0.Parts.length : Int)), (26, .int .i64 yj3_26), (32, .pointer (some ⟨b4_2, 0 + 4, none⟩)), (33, .agg u5_3.toArray), (34, .bool x5_4), (37, undef), (38, undef), (39, undef), (40, undef), (41, undef), (42, undef), (43, undef), (44, undef)] ?_
          refine a_cut ?_
          intro a_ w_ ha_ hs_
          exact ⟨false, Option.some.inj hm, ha_.weaken ⟨rfl, rfl, rfl, rfl, rfl, rfl, trivial⟩, hs_.reix [] (by decide)⟩
        have hm := cond_f k5_2 hm
        refine as1 (sk1 rfl rfl k5_2) ?_
        refine as1 (sk1 rfl rfl k5_2) ?_
        refine as1 (sk1 rfl rfl k5_2) ?_
        refine ap (y_pick_f rfl k5_2 rfl) ?_
        refine ap (y_move rfl) ?_
        refine as1 (sk1 rfl rfl rfl) ?_
        refine as1 (sk1 rfl rfl rfl) ?_
        refine as1 (sk1 rfl rfl rfl) ?_
        refine as1 (sk1 rfl rfl rfl) ?_
        refine as1 (sk1 rfl rfl rfl) ?_
        refine as1 (sk1 rfl rfl rfl) ?_
        refine as1 (sk1 rfl rfl rfl) ?_
        refine as1 (sk1 rfl rfl rfl) ?_
        refine ap (y_pick_f rfl rfl rfl) ?_
        refine ap (y_assign rfl) ?_
        refine a_nil ?_
        refine a_en [(1, .pointer (some ⟨b0_0, 0, none⟩)), (3, .bool false), (5, .pointer (some ⟨b4_2, 0, none⟩)), (24, v2_1), (25, .int .i64 (p0.Parts.length : Int)), (26, .int .i64 yj3_26), (32, undef), (33, undef), (34, undef), (37, undef), (38, undef), (39, undef), (40, undef), (41, undef), (42, undef), (43, undef), (44, undef)] ?_
        refine a_cut ?_
        intro a_ w_ ha_ hs_
        exact ⟨false, Option.some.inj hm, ha_.weaken ⟨rfl, rfl, rfl, rfl, rfl, rfl, trivial⟩, hs_.reix [] (by decide)⟩
      have hm := hm_j5
      rintro a_ w_ ⟨yj5_3, rfl, ha_, hs_⟩
      try dsimp only at hm
      refine a_start ha_ hs_ ?_
      refine a_then (a_seq (a_region rfl ?_))
      refine ap (y_assign rfl) ?_
      refine a_nil (a_then (a_seq (a_region rfl ?_)))
      have h7_0 := TunnelPart.at_Heat hb4_2
      refine ap (y_fieldAddr fo64_0 rfl) ?_
      obtain ⟨u7_1, h7_1, c7_1⟩ := PAt.one h7_0
      refine ap (y_load_cells ty62 rfl (fun _ h => h.sub) rfl c7_1 (Rp.len h7_1)) ?_
      refine ap (y_move rfl) ?_
      refine a_nil ?_
      refine a_en [(1, .pointer (some ⟨b0_0, 0, none⟩)), (3, .bool yj5_3), (6, .int .i64 0), (24, v2_1), (25, .int .i64 (p0.Parts.length : Int)), (26, .int .i64 yj3_26), (47, .agg u7_1.toArray), (48, .int .i64 0)] ?_
      refine a_then ?_
      obtain ⟨s_j6, hs_j6, hm_j6⟩ := bind_some hm
      refine a_join (fun a_ w_ => ∃ (yj6_3 : Bool), yj6_3 = s_j6 ∧ Ag 98 [] [(1, .pointer (some ⟨b0_0, 0, none⟩)), (3, .bool yj6_3), (24, v2_1), (25, .int .i64 (p0.Parts.length : Int)), (26, .int .i64 yj3_26)] a_ ∧ St (Kp.mk w H noX) Hb4_2 [] w_) ?_ ?_
      · have hm := hs_j6
        refine a_block ?_
        refine a_loop (fun n_j7 a_ w_ => ∃ (yj7_3 : Bool), ∃ (yj7_6 : Int), ∃ (yj7_48 : Int), tunnel_Check_lj7 k x4_0 n_j7 yj7_3 yj7_6 yj7_48 = some s_j6 ∧ Ag 98 [] [(1, .pointer (some ⟨b0_0, 0, none⟩)), (3, .bool yj7_3), (6, .int .i64 yj7_6), (24, v2_1), (25, .int .i64 (p0.Parts.length : Int)), (26, .int .i64 yj3_26), (47, .agg u7_1.toArray), (48, .int .i64 yj7_48)] a_ ∧ St (Kp.mk w H noX) Hb4_2 [] w_) k ?_ ?_
        · intro a_ w_ ha_ hs_
          exact ⟨yj5_3, 0, 0, hm, ha_.weaken ⟨rfl, rfl, rfl, rfl, rfl, rfl, rfl, rfl, trivial⟩, hs_.reix [] (by decide)⟩
        rintro (_ | n_j7) a_ w_ ⟨yj7_3, yj7_6, yj7_48, hm, ha_, hs_⟩
        · rw [tunnel_Check_lj7.eq_1] at hm; cases hm
        rw [tunnel_Check_lj7.eq_2] at hm
        refine a_start ha_ hs_ ?_
        refine a_seq (a_region rfl ?_)
        refine ap (y_lss rfl rfl) ?_
        refine a_nil (a_then (a_seq ?_))
        refine a_cond rfl (fun k_8 => ?_) (fun k_8 => ?_)
        · have hm := cond_t k_8 hm
          refine a_skip (a_then (a_seq (a_block (a_seq (a_region rfl ?_)))))
          obtain ⟨x9_0, q9_0, hm⟩ := bind_some hm
          refine ap (y_index_agg_int Tryd.underlying62 ty3 rfl rfl rfl h7_1 q9_0) ?_
          refine ap (y_assign rfl) ?_
          refine a_nil ?_
          refine a_en [(1, .pointer (some ⟨b0_0, 0, none⟩)), (3, .bool yj7_3), (6, .int .i64 yj7_6), (8, .int .i64 x9_0), (24, v2_1), (25, .int .i64 (p0.Parts.length : Int)), (26, .int .i64 yj3_26), (47, .agg u7_1.toArray), (48, .int .i64 yj7_48)] ?_
          refine a_then (a_seq ?_)
          obtain ⟨s_j9, hs_j9, hm_j9⟩ := bind_some hm
          refine a_join (fun a_ w_ => ∃ (yj9_3 : Bool), yj9_3 = s_j9 ∧ Ag 98 [] [(1, .pointer (some ⟨b0_0, 0, none⟩)), (3, .bool yj9_3), (8, .int .i64 x9_0), (24, v2_1), (25, .int .i64 (p0.Parts.length : Int)), (26, .int .i64 yj3_26), (47, .agg u7_1.toArray), (48, .int .i64 yj7_48)] a_ ∧ St (Kp.mk w H noX) Hb4_2 [] w_) ?_ ?_
          · have hm := hs_j9
            refine a_region rfl ?_
            refine ap (y_move rfl) ?_
            refine ap (y_move rfl) ?_
            rcases Bool.eq_false_or_eq_true (yj7_3) with k10_2 | k10_2
            · have hm := cond_t k10_2 hm
              refine ag ⟨_, _, rfl, rfl, k10_2⟩ (y_move rfl) ?_
              refine ag ⟨_, _, rfl, rfl, k10_2⟩ (y_move rfl) ?_
              obtain ⟨x10_4, q10_4, hm⟩ := bind_some hm
              refine a_cons (e_callV (all := [.int .i64 x9_0, .int .i64 yj7_6, .int .i64 20]) (v := .bool x10_4) ⟨_, _, rfl, rfl, k10_2⟩ rfl Tryd.func85 rfl rfl rfl rfl rfl (fun w hw => ok_85 hw q10_4) ?_)
              refine ap (y_pick_t rfl k10_2 rfl) ?_
              refine ap (y_assign rfl) ?_
              refine a_nil ?_
              refine a_en [(1, .pointer (some ⟨b0_0, 0, none⟩)), (3, .bool x10_4), (8, .int .i64 x9_0), (24, v2_1), (25, .int .i64 (p0.Parts.length : Int)), (26, .int .i64 yj3_26), (47, .agg u7_1.toArray), (48, .int .i64 yj7_48), (53, .int .i64 x9_0), (54, .int .i64 yj7_6), (55, .bool x10_4)] ?_
              refine a_cut ?_
              intro a_ w_ ha_ hs_
              exact ⟨x10_4, Option.some.inj hm, ha_.weaken ⟨rfl, rfl, rfl, rfl, rfl, rfl, rfl, rfl, trivial⟩, hs_.reix [] (by decide)⟩
            have hm := cond_f k10_2 hm
            refine as1 (sk1 rfl rfl k10_2) ?_
            refine as1 (sk1 rfl rfl k10_2) ?_
            refine as1 (sk1 rfl rfl k10_2) ?_
            refine ap (y_pick_f rfl k10_2 rfl) ?_
            refine ap (y_assign rfl) ?_
            refine a_nil ?_
            refine a_en [(1, .pointer (some ⟨b0_0, 0, none⟩)), (3, .bool false), (8, .int .i64 x9_0), (24, v2_1), (25, .int .i64 (p0.Parts.length : Int)), (26, .int .i64 yj3_26), (47, .agg u7_1.toArray), (48, .int .i64 yj7_48), (53, undef), (54, undef), (55, undef)] ?_
            refine a_cut ?_
            intro a_ w_ ha_ hs_
            exact ⟨false, Option.some.inj hm, ha_.weaken ⟨rfl, rfl, rfl, rfl, rfl, rfl, rfl, rfl, trivial⟩, hs_.reix [] (by decide)⟩
          have hm := hm_j9
          rintro a_ w_ ⟨yj9_3, rfl, ha_, hs_⟩
          try dsimp only at hm
          refine a_start ha_ hs_ ?_
          refine a_then (a_region rfl ?_)
          refine ap (y_move rfl) ?_
          refine ap (y_assign rfl) ?_
          refine a_nil ?_
          refine a_en [(1, .pointer (some ⟨b0_0, 0, none⟩)), (3, .bool yj9_3), (6, .int .i64 x9_0), (24, v2_1), (25, .int .i64 (p0.Parts.length : Int)), (26, .int .i64 yj3_26), (47, .agg u7_1.toArray), (48, .int .i64 yj7_48)] ?_
          refine a_block_normal (a_then (a_region rfl ?_))
          refine ap (y_add rfl rfl) ?_
          refine ap (y_move rfl) ?_
          refine a_nil ?_
          refine a_en [(1, .pointer (some ⟨b0_0, 0, none⟩)), (3, .bool yj9_3), (6, .int .i64 x9_0), (24, v2_1), (25, .int .i64 (p0.Parts.length : Int)), (26, .int .i64 yj3_26), (47, .agg u7_1.toArray), (48, .int .i64 (IntKind.i64.wrap (yj7_48 + 1)))] ?_
          refine a_then ?_
          intro a_ w_ ha_ hs_
          exact ⟨n_j7, Nat.lt_succ_self _, yj9_3, x9_0, IntKind.i64.wrap (yj7_48 + 1), hm, ha_.weaken ⟨rfl, rfl, rfl, rfl, rfl, rfl, rfl, rfl, trivial⟩, hs_.reix [] (by decide)⟩
        have hm := cond_f k_8 hm
        refine a_exit (a_then_exit (a_then_exit (a_block_hit (a_cut ?_))))
        intro a_ w_ ha_ hs_
        exact ⟨yj7_3, Option.some.inj hm, ha_.weaken ⟨rfl, rfl, rfl, rfl, rfl, trivial⟩, hs_.reix [] (by decide)⟩
      have hm := hm_j6
      rintro a_ w_ ⟨yj6_3, rfl, ha_, hs_⟩
      try dsimp only at hm
      refine a_start ha_ hs_ ?_
      refine a_block_normal (a_then (a_region rfl ?_))
      refine ap (y_add rfl rfl) ?_
      refine ap (y_move rfl) ?_
      refine a_nil ?_
      refine a_en [(1, .pointer (some ⟨b0_0, 0, none⟩)), (3, .bool yj6_3), (24, v2_1), (25, .int .i64 (p0.Parts.length : Int)), (26, .int .i64 (IntKind.i64.wrap (yj3_26 + 1)))] ?_
      refine a_then ?_
      intro a_ w_ ha_ hs_
      exact ⟨n_j3, Nat.lt_succ_self _, Hb4_2, (lj3.trans lb4_2), yj6_3, IntKind.i64.wrap (yj3_26 + 1), hm, ha_.weaken ⟨rfl, rfl, rfl, rfl, rfl, trivial⟩, hs_.reix [] (by decide)⟩
    have hm := cond_f k_4 hm
    refine a_exit (a_then_exit (a_then_exit (a_block_hit (a_cut ?_))))
    intro a_ w_ ha_ hs_
    exact ⟨Hj3, lj3, yj3_3, Option.some.inj hm, ha_.weaken ⟨rfl, rfl, trivial⟩, hs_.reix [] (by decide)⟩
  have hm := hm_j2
  rintro a_ w_ ⟨Hj2, lj2, yj2_3, rfl, ha_, hs_⟩
  try dsimp only at hm
  refine a_start ha_ hs_ ?_
  have hb0_0 := PAt.mono lj2 hb0_0
  refine a_then (a_seq (a_seq (a_region rfl ?_)))
  have h14_0 := TunnelBook.at_Frames hb0_0
  refine ap (y_fieldAddr fo25_1 rfl) ?_
  obtain ⟨v14_1, h14_1, c14_1⟩ := PAt.sl h14_0
  refine ap (y_load_one ty23 rfl (fun _ h => h.sub) rfl c14_1) ?_
  refine ap (y_len_sl Tryd.underlying23 rfl h14_1) ?_
  refine ap (y_move rfl) ?_
  refine a_nil ?_
  refine a_en [(1, .pointer (some ⟨b0_0, 0, none⟩)), (3, .bool yj2_3), (61, v14_1), (62, .int .i64 (p0.Frames.length : Int)), (63, .int .i64 0)] ?_
  refine a_then ?_
  obtain ⟨s_j10, hs_j10, hm_j10⟩ := bind_some hm
  refine a_join (fun a_ w_ => ∃ (Hj10 : Hp), ∃ (_ : HLe Hj2 Hj10), ∃ (yj10_3 : Bool), yj10_3 = s_j10 ∧ Ag 98 [] [(3, .bool yj10_3)] a_ ∧ St (Kp.mk w H noX) Hj10 [] w_) ?_ ?_
  · have hm := hs_j10
    refine a_block ?_
    refine a_loop (fun n_j11 a_ w_ => ∃ (Hj11 : Hp), ∃ (_ : HLe Hj2 Hj11), ∃ (yj11_3 : Bool), ∃ (yj11_63 : Int), tunnel_Check_lj11 k p0 n_j11 yj11_3 yj11_63 = some s_j10 ∧ Ag 98 [] [(1, .pointer (some ⟨b0_0, 0, none⟩)), (3, .bool yj11_3), (61, v14_1), (62, .int .i64 (p0.Frames.length : Int)), (63, .int .i64 yj11_63)] a_ ∧ St (Kp.mk w H noX) Hj11 [] w_) k ?_ ?_
    · intro a_ w_ ha_ hs_
      exact ⟨Hj2, (HLe.refl _), yj2_3, 0, hm, ha_.weaken ⟨rfl, rfl, rfl, rfl, rfl, trivial⟩, hs_.reix [] (by decide)⟩
    rintro (_ | n_j11) a_ w_ ⟨Hj11, lj11, yj11_3, yj11_63, hm, ha_, hs_⟩
    · rw [tunnel_Check_lj11.eq_1] at hm; cases hm
    rw [tunnel_Check_lj11.eq_2] at hm
    refine a_start ha_ hs_ ?_
    have hb0_0 := PAt.mono lj11 hb0_0
    have h14_1 := Sl.mono lj11 h14_1
    refine a_seq (a_region rfl ?_)
    refine ap (y_lss rfl rfl) ?_
    refine a_nil (a_then (a_seq ?_))
    refine a_cond rfl (fun k_12 => ?_) (fun k_12 => ?_)
    · have hm := cond_t k_12 hm
      refine a_skip (a_then (a_seq (a_block (a_seq (a_region rfl ?_)))))
      obtain ⟨x16_0, q16_0, hm⟩ := bind_some hm
      obtain ⟨b16_0, o16_0, c16_0, e16_0, h16_0⟩ := Sl.elemZ 3 rfl h14_1 q16_0
      refine ap (y_index Tryd.underlying23 ty55 rfl e16_0 rfl (nth_in q16_0)) ?_
      obtain ⟨u16_1, h16_1, c16_1⟩ := PAt.one h16_0
      refine ap (y_load_cells ty55 rfl (fun _ h => h.sub) rfl c16_1 (Rp.len h16_1)) ?_
      refine a_cons (e_alloc (cs := [.slice none 0 0, .int .i64 0, .int .i64 0]) trivial rfl ty55 rfl ?_)
      intro b16_2
      refine a_cons (e_storeWhole (i := 0) (ds := u16_1) trivial ty55 rfl rfl rfl rfl (Rp.len h16_1) ((Rp.one h16_1)) rfl ?_)
      refine a_nil ?_
      refine a_freeze (α := TunnelFrame) (x := x16_0) (i := 0) rfl h16_1 ?_
      intro Hb16_2 lb16_2 hb16_2
      have hb0_0 := PAt.mono lb16_2 hb0_0
      have h14_1 := Sl.mono lb16_2 h14_1
      have h16_0 := PAt.mono lb16_2 h16_0
      have h16_1 := Rp.mono lb16_2 h16_1
      refine a_en [(1, .pointer (some ⟨b0_0, 0, none⟩)), (3, .bool yj11_3), (10, .pointer (some ⟨b16_2, 0, none⟩)), (61, v14_1), (62, .int .i64 (p0.Frames.length : Int)), (63, .int .i64 yj11_63)] ?_
      refine a_own [] (by decide) (L' := []) rfl ?_
      refine a_then (a_seq ?_)
      obtain ⟨s_j13, hs_j13, hm_j13⟩ := bind_some hm
      refine a_join (fun a_ w_ => ∃ (yj13_3 : Bool), yj13_3 = s_j13 ∧ Ag 98 [] [(1, .pointer (some ⟨b0_0, 0, none⟩)), (3, .bool yj13_3), (10, .pointer (some ⟨b16_2, 0, none⟩)), (61, v14_1), (62, .int .i64 (p0.Frames.length : Int)), (63, .int .i64 yj11_63)] a_ ∧ St (Kp.mk w H noX) Hb16_2 [] w_) ?_ ?_
      · have hm := hs_j13
        refine a_region rfl ?_
        refine ap (y_move rfl) ?_
        refine ap (y_move rfl) ?_
        rcases Bool.eq_false_or_eq_true (yj11_3) with k17_2 | k17_2
        · have hm := cond_t k17_2 hm
          have h17_2 := TunnelFrame.at_Stay hb16_2
          refine ag ⟨_, _, rfl, rfl, k17_2⟩ (y_fieldAddr fo55_0 rfl) ?_
          obtain ⟨v17_3, h17_3, c17_3⟩ := PAt.sl h17_2
          refine ag ⟨_, _, rfl, rfl, k17_2⟩ (y_load_one ty26 rfl (fun _ h => h.sub) rfl c17_3) ?_
          refine ag ⟨_, _, rfl, rfl, k17_2⟩ (y_len_sl Tryd.underlying26 rfl h17_3) ?_
          have h17_5 := TunnelBook.at_Parts hb0_0
          refine ag ⟨_, _, rfl, rfl, k17_2⟩ (y_fieldAddr fo25_0 rfl) ?_
          obtain ⟨v17_6, h17_6, c17_6⟩ := PAt.sl h17_5
          refine ag ⟨_, _, rfl, rfl, k17_2⟩ (y_load_one ty22 rfl (fun _ h => h.sub) rfl c17_6) ?_
          refine ag ⟨_, _, rfl, rfl, k17_2⟩ (y_len_sl Tryd.underlying22 rfl h17_6) ?_
          refine ag ⟨_, _, rfl, rfl, k17_2⟩ (y_eql rfl rfl) ?_
          refine ap (y_pick_t rfl k17_2 rfl) ?_
          refine ap (y_move rfl) ?_
          rcases Bool.eq_false_or_eq_true ((x16_0.Stay.length : Int) == (p0.Parts.length : Int)) with k17_11 | k17_11
          · have hm := cond_t k17_11 hm
            have h17_11 := TunnelFrame.at_Need hb16_2
            refine ag ⟨_, _, rfl, rfl, k17_11⟩ (y_fieldAddr fo55_1 rfl) ?_
            obtain ⟨u17_12, h17_12, c17_12⟩ := PAt.one h17_11
            refine ag ⟨_, _, rfl, rfl, k17_11⟩ (y_load_cells ty32 rfl (fun _ h => h.sub) rfl c17_12 (Rp.len h17_12)) ?_
            obtain ⟨x17_13, q17_13, hm⟩ := bind_some hm
            refine a_cons (e_callV (all := [.agg u17_12.toArray, .int .i64 999]) (v := .bool x17_13) ⟨_, _, rfl, rfl, k17_11⟩ rfl Tryd.func86 rfl rfl rfl rfl rfl (fun w hw => ok_86 hw h17_12 q17_13) ?_)
            refine ap (y_pick_t rfl k17_11 rfl) ?_
            refine ap (y_assign rfl) ?_
            refine a_nil ?_
            refine a_en [(1, .pointer (some ⟨b0_0, 0, none⟩)), (3, .bool x17_13), (10, .pointer (some ⟨b16_2, 0, none⟩)), (61, v14_1), (62, .int .i64 (p0.Frames.length : Int)), (63, .int .i64 yj11_63), (69, .pointer (some ⟨b16_2, 0 + 0, none⟩)), (70, v17_3), (71, .int .i64 (x16_0.Stay.length : Int)), (72, .pointer (some ⟨b0_0, 0 + 0, none⟩)), (73, v17_6), (74, .int .i64 (p0.Parts.length : Int)), (75, .bool ((x16_0.Stay.length : Int) == (p0.Parts.length : Int))), (78, .pointer (some ⟨b16_2, 0 + 1, none⟩)), (79, .agg u17_12.toArray), (80, .bool x17_13)] ?_
            refine a_cut ?_
            intro a_ w_ ha_ hs_
            exact ⟨x17_13, Option.some.inj hm, ha_.weaken ⟨rfl, rfl, rfl, rfl, rfl, rfl, trivial⟩, hs_.reix [] (by decide)⟩
          have hm := cond_f k17_11 hm
          refine as1 (sk1 rfl rfl k17_11) ?_
          refine as1 (sk1 rfl rfl k17_11) ?_
          refine as1 (sk1 rfl rfl k17_11) ?_
          refine ap (y_pick_f rfl k17_11 rfl) ?_
          refine ap (y_assign rfl) ?_
          refine a_nil ?_
          refine a_en [(1, .pointer (some ⟨b0_0, 0, none⟩)), (3, .bool false), (10, .pointer (some ⟨b16_2, 0, none⟩)), (61, v14_1), (62, .int .i64 (p0.Frames.length : Int)), (63, .int .i64 yj11_63), (69, .pointer (some ⟨b16_2, 0 + 0, none⟩)), (70, v17_3), (71, .int .i64 (x16_0.Stay.length : Int)), (72, .pointer (some ⟨b0_0, 0 + 0, none⟩)), (73, v17_6), (74, .int .i64 (p0.Parts.length : Int)), (75, .bool ((x16_0.Stay.length : Int) == (p0.Parts.length : Int))), (78, undef), (79, undef), (80, undef)] ?_
          refine a_cut ?_
          intro a_ w_ ha_ hs_
          exact ⟨false, Option.some.inj hm, ha_.weaken ⟨rfl, rfl, rfl, rfl, rfl, rfl, trivial⟩, hs_.reix [] (by decide)⟩
        have hm := cond_f k17_2 hm
        refine as1 (sk1 rfl rfl k17_2) ?_
        refine as1 (sk1 rfl rfl k17_2) ?_
        refine as1 (sk1 rfl rfl k17_2) ?_
        refine as1 (sk1 rfl rfl k17_2) ?_
        refine as1 (sk1 rfl rfl k17_2) ?_
        refine as1 (sk1 rfl rfl k17_2) ?_
        refine as1 (sk1 rfl rfl k17_2) ?_
        refine ap (y_pick_f rfl k17_2 rfl) ?_
        refine ap (y_move rfl) ?_
        refine as1 (sk1 rfl rfl rfl) ?_
        refine as1 (sk1 rfl rfl rfl) ?_
        refine as1 (sk1 rfl rfl rfl) ?_
        refine ap (y_pick_f rfl rfl rfl) ?_
        refine ap (y_assign rfl) ?_
        refine a_nil ?_
        refine a_en [(1, .pointer (some ⟨b0_0, 0, none⟩)), (3, .bool false), (10, .pointer (some ⟨b16_2, 0, none⟩)), (61, v14_1), (62, .int .i64 (p0.Frames.length : Int)), (63, .int .i64 yj11_63), (69, undef), (70, undef), (71, undef), (72, undef), (73, undef), (74, undef), (75, undef), (78, undef), (79, undef), (80, undef)] ?_
        refine a_cut ?_
        intro a_ w_ ha_ hs_
        exact ⟨false, Option.some.inj hm, ha_.weaken ⟨rfl, rfl, rfl, rfl, rfl, rfl, trivial⟩, hs_.reix [] (by decide)⟩
      have hm := hm_j13
      rintro a_ w_ ⟨yj13_3, rfl, ha_, hs_⟩
      try dsimp only at hm
      refine a_start ha_ hs_ ?_
      refine a_then (a_seq (a_region rfl ?_))
      have h18_0 := TunnelFrame.at_Stay hb16_2
      refine ap (y_fieldAddr fo55_0 rfl) ?_
      obtain ⟨v18_1, h18_1, c18_1⟩ := PAt.sl h18_0
      refine ap (y_load_one ty26 rfl (fun _ h => h.sub) rfl c18_1) ?_
      refine ap (y_len_sl Tryd.underlying26 rfl h18_1) ?_
      refine ap (y_move rfl) ?_
      refine a_nil ?_
      refine a_en [(1, .pointer (some ⟨b0_0, 0, none⟩)), (3, .bool yj13_3), (61, v14_1), (62, .int .i64 (p0.Frames.length : Int)), (63, .int .i64 yj11_63), (83, v18_1), (84, .int .i64 (x16_0.Stay.length : Int)), (85, .int .i64 0)] ?_
      refine a_then ?_
      obtain ⟨s_j14, hs_j14, hm_j14⟩ := bind_some hm
      refine a_join (fun a_ w_ => ∃ (yj14_3 : Bool), yj14_3 = s_j14 ∧ Ag 98 [] [(1, .pointer (some ⟨b0_0, 0, none⟩)), (3, .bool yj14_3), (61, v14_1), (62, .int .i64 (p0.Frames.length : Int)), (63, .int .i64 yj11_63)] a_ ∧ St (Kp.mk w H noX) Hb16_2 [] w_) ?_ ?_
      · have hm := hs_j14
        refine a_block ?_
        refine a_loop (fun n_j15 a_ w_ => ∃ (yj15_3 : Bool), ∃ (yj15_85 : Int), tunnel_Check_lj15 k x16_0 n_j15 yj15_3 yj15_85 = some s_j14 ∧ Ag 98 [] [(1, .pointer (some ⟨b0_0, 0, none⟩)), (3, .bool yj15_3), (61, v14_1), (62, .int .i64 (p0.Frames.length : Int)), (63, .int .i64 yj11_63), (83, v18_1), (84, .int .i64 (x16_0.Stay.length : Int)), (85, .int .i64 yj15_85)] a_ ∧ St (Kp.mk w H noX) Hb16_2 [] w_) k ?_ ?_
        · intro a_ w_ ha_ hs_
          exact ⟨yj13_3, 0, hm, ha_.weaken ⟨rfl, rfl, rfl, rfl, rfl, rfl, rfl, rfl, trivial⟩, hs_.reix [] (by decide)⟩
        rintro (_ | n_j15) a_ w_ ⟨yj15_3, yj15_85, hm, ha_, hs_⟩
        · rw [tunnel_Check_lj15.eq_1] at hm; cases hm
        rw [tunnel_Check_lj15.eq_2] at hm
        refine a_start ha_ hs_ ?_
        refine a_seq (a_region rfl ?_)
        refine ap (y_lss rfl rfl) ?_
        refine a_nil (a_then (a_seq ?_))
        refine a_cond rfl (fun k_16 => ?_) (fun k_16 => ?_)
        · have hm := cond_t k_16 hm
          refine a_skip (a_then (a_seq (a_block (a_seq (a_region rfl ?_)))))
          obtain ⟨x20_0, q20_0, hm⟩ := bind_some hm
          obtain ⟨b20_0, o20_0, c20_0, e20_0, h20_0⟩ := Sl.elemZ 1 rfl h18_1 q20_0
          refine ap (y_index Tryd.underlying26 ty3 rfl e20_0 rfl (nth_in q20_0)) ?_
          refine ap (y_load_int ty3 rfl (fun _ h => h.sub) rfl h20_0) ?_
          refine ap (y_assign rfl) ?_
          refine a_nil ?_
          refine a_en [(1, .pointer (some ⟨b0_0, 0, none⟩)), (3, .bool yj15_3), (12, .int .i64 x20_0), (61, v14_1), (62, .int .i64 (p0.Frames.length : Int)), (63, .int .i64 yj11_63), (83, v18_1), (84, .int .i64 (x16_0.Stay.length : Int)), (85, .int .i64 yj15_85)] ?_
          refine a_then ?_
          obtain ⟨s_j17, hs_j17, hm_j17⟩ := bind_some hm
          refine a_join (fun a_ w_ => ∃ (yj17_3 : Bool), yj17_3 = s_j17 ∧ Ag 98 [] [(1, .pointer (some ⟨b0_0, 0, none⟩)), (3, .bool yj17_3), (61, v14_1), (62, .int .i64 (p0.Frames.length : Int)), (63, .int .i64 yj11_63), (83, v18_1), (84, .int .i64 (x16_0.Stay.length : Int)), (85, .int .i64 yj15_85)] a_ ∧ St (Kp.mk w H noX) Hb16_2 [] w_) ?_ ?_
          · have hm := hs_j17
            refine a_region rfl ?_
            refine ap (y_move rfl) ?_
            refine ap (y_move rfl) ?_
            rcases Bool.eq_false_or_eq_true (yj15_3) with k21_2 | k21_2
            · have hm := cond_t k21_2 hm
              refine ag ⟨_, _, rfl, rfl, k21_2⟩ (y_move rfl) ?_
              obtain ⟨x21_3, q21_3, hm⟩ := bind_some hm
              refine a_cons (e_callV (all := [.int .i64 x20_0, .int .i64 0, .int .i64 20]) (v := .bool x21_3) ⟨_, _, rfl, rfl, k21_2⟩ rfl Tryd.func85 rfl rfl rfl rfl rfl (fun w hw => ok_85 hw q21_3) ?_)
              refine ap (y_pick_t rfl k21_2 rfl) ?_
              refine ap (y_assign rfl) ?_
              refine a_nil ?_
              refine a_en [(1, .pointer (some ⟨b0_0, 0, none⟩)), (3, .bool x21_3), (61, v14_1), (62, .int .i64 (p0.Frames.length : Int)), (63, .int .i64 yj11_63), (83, v18_1), (84, .int .i64 (x16_0.Stay.length : Int)), (85, .int .i64 yj15_85), (91, .int .i64 x20_0), (92, .bool x21_3)] ?_
              refine a_cut ?_
              intro a_ w_ ha_ hs_
              exact ⟨x21_3, Option.some.inj hm, ha_.weaken ⟨rfl, rfl, rfl, rfl, rfl, rfl, rfl, rfl, trivial⟩, hs_.reix [] (by decide)⟩
            have hm := cond_f k21_2 hm
            refine as1 (sk1 rfl rfl k21_2) ?_
            refine as1 (sk1 rfl rfl k21_2) ?_
            refine ap (y_pick_f rfl k21_2 rfl) ?_
            refine ap (y_assign rfl) ?_
            refine a_nil ?_
            refine a_en [(1, .pointer (some ⟨b0_0, 0, none⟩)), (3, .bool false), (61, v14_1), (62, .int .i64 (p0.Frames.length : Int)), (63, .int .i64 yj11_63), (83, v18_1), (84, .int .i64 (x16_0.Stay.length : Int)), (85, .int .i64 yj15_85), (91, undef), (92, undef)] ?_
            refine a_cut ?_
            intro a_ w_ ha_ hs_
            exact ⟨false, Option.some.inj hm, ha_.weaken ⟨rfl, rfl, rfl, rfl, rfl, rfl, rfl, rfl, trivial⟩, hs_.reix [] (by decide)⟩
          have hm := hm_j17
          rintro a_ w_ ⟨yj17_3, rfl, ha_, hs_⟩
          try dsimp only at hm
          refine a_start ha_ hs_ ?_
          refine a_block_normal (a_then (a_region rfl ?_))
          refine ap (y_add rfl rfl) ?_
          refine ap (y_move rfl) ?_
          refine a_nil ?_
          refine a_en [(1, .pointer (some ⟨b0_0, 0, none⟩)), (3, .bool yj17_3), (61, v14_1), (62, .int .i64 (p0.Frames.length : Int)), (63, .int .i64 yj11_63), (83, v18_1), (84, .int .i64 (x16_0.Stay.length : Int)), (85, .int .i64 (IntKind.i64.wrap (yj15_85 + 1)))] ?_
          refine a_then ?_
          intro a_ w_ ha_ hs_
          exact ⟨n_j15, Nat.lt_succ_self _, yj17_3, IntKind.i64.wrap (yj15_85 + 1), hm, ha_.weaken ⟨rfl, rfl, rfl, rfl, rfl, rfl, rfl, rfl, trivial⟩, hs_.reix [] (by decide)⟩
        have hm := cond_f k_16 hm
        refine a_exit (a_then_exit (a_then_exit (a_block_hit (a_cut ?_))))
        intro a_ w_ ha_ hs_
        exact ⟨yj15_3, Option.some.inj hm, ha_.weaken ⟨rfl, rfl, rfl, rfl, rfl, trivial⟩, hs_.reix [] (by decide)⟩
      have hm := hm_j14
      rintro a_ w_ ⟨yj14_3, rfl, ha_, hs_⟩
      try dsimp only at hm
      refine a_start ha_ hs_ ?_
      refine a_block_normal (a_then (a_region rfl ?_))
      refine ap (y_add rfl rfl) ?_
      refine ap (y_move rfl) ?_
      refine a_nil ?_
      refine a_en [(1, .pointer (some ⟨b0_0, 0, none⟩)), (3, .bool yj14_3), (61, v14_1), (62, .int .i64 (p0.Frames.length : Int)), (63, .int .i64 (IntKind.i64.wrap (yj11_63 + 1)))] ?_
      refine a_then ?_
      intro a_ w_ ha_ hs_
      exact ⟨n_j11, Nat.lt_succ_self _, Hb16_2, (lj11.trans lb16_2), yj14_3, IntKind.i64.wrap (yj11_63 + 1), hm, ha_.weaken ⟨rfl, rfl, rfl, rfl, rfl, trivial⟩, hs_.reix [] (by decide)⟩
    have hm := cond_f k_12 hm
    refine a_exit (a_then_exit (a_then_exit (a_block_hit (a_cut ?_))))
    intro a_ w_ ha_ hs_
    exact ⟨Hj11, lj11, yj11_3, Option.some.inj hm, ha_.weaken ⟨rfl, trivial⟩, hs_.reix [] (by decide)⟩
  have hm := hm_j10
  rintro a_ w_ ⟨Hj10, lj10, yj10_3, rfl, ha_, hs_⟩
  try dsimp only at hm
  refine a_start ha_ hs_ ?_
  refine a_then (a_seq (a_seq (a_region rfl ?_)))
  refine ap (y_move rfl) ?_
  refine ap (y_not rfl) ?_
  refine a_nil ?_
  refine a_en [(97, .bool (!yj10_3))] ?_
  refine a_then ?_
  refine a_cond rfl (fun k_18 => ?_) (fun k_18 => ?_)
  · have hm := cond_t k_18 hm
    refine a_seq (a_region rfl ?_)
    refine ap (y_assign rfl) ?_
    refine a_nil ?_
    refine a_en [(2, .int .i64 30)] ?_
    refine a_then (a_ret (a_then_ret ?_))
    refine a_done (v := .int .i64 30) (.inl rfl) rfl ?_ ?_
    · intro a_ w_ ha_ hs_; exact run_results (P := Tryd.prog) (fn := Tryd.f21) (rs := [.tmp 2]) (vs := [.int .i64 30]) rfl (.cons (rv_tmp ha_ rfl) (All2.nil))
    · intro _ _; obtain rfl := Option.some.inj hm
      rfl
  have hm := cond_f k_18 hm
  refine a_skip (a_then (a_seq (a_region rfl ?_)))
  refine ap (y_assign rfl) ?_
  refine a_nil ?_
  refine a_en [(2, .int .i64 0)] ?_
  refine a_then (a_ret ?_)
  refine a_done (v := .int .i64 0) (.inl rfl) rfl ?_ ?_
  · intro a_ w_ ha_ hs_; exact run_results (P := Tryd.prog) (fn := Tryd.f21) (rs := [.tmp 2]) (vs := [.int .i64 0]) rfl (.cons (rv_tmp ha_ rfl) (All2.nil))
  · intro _ _; obtain rfl := Option.some.inj hm
    rfl

def tunnel_closed (k : Nat) : Option (List Int) :=
 some ([0, 0, 0, 0])
theorem ok_151 {k : Nat} {H : Hp} {w : World} {r : List Int} (hsub : Sub H w)  (hm : tunnel_closed k = some r) : Calls Tryd.prog 151 [].toArray w (PostH w H fun v H' => ∃ c0, v = .agg c0.toArray ∧ Rp.rep (α := Arr 4 Int) H' c0 r) := by
  unfold tunnel_closed at hm
  refine start (n := 3) (E := []) Tryd.func151 rfl rfl trivial rfl hsub ?_
  refine a_seq (a_region rfl ?_)
  refine a_cons (e_alloc (cs := [.int .i64 0, .int .i64 0, .int .i64 0, .int .i64 0]) trivial rfl ty111 rfl ?_)
  intro b0_0
  have mz0_0 := z111 H
  refine a_nil (a_then (a_seq (a_region rfl ?_)))
  refine a_cons (e_alloc (cs := [.int .i64 0, .int .i64 0, .int .i64 0, .int .i64 0]) trivial rfl ty111 rfl ?_)
  intro b1_0
  have mz1_0 := z111 H
  refine a_nil (a_then (a_seq (a_region rfl ?_)))
  refine ap (y_load_whole ty111 rfl (knows_box (i := 0) rfl) rfl rfl) ?_
  refine a_cons (e_storeWhole (i := 1) (ds := [.int .i64 0, .int .i64 0, .int .i64 0, .int .i64 0]) trivial ty111 rfl rfl rfl rfl rfl ((Rp.one mz1_0)) rfl ?_)
  refine a_nil ?_
  refine a_freeze (α := Arr 4 Int) (x := [0, 0, 0, 0]) (i := 1) rfl mz1_0 ?_
  intro Hb0_0 lb0_0 hb0_0
  have mz1_0 := Rp.mono lb0_0 mz1_0
  refine a_en [(0, .pointer (some ⟨b0_0, 0, none⟩))] ?_
  refine a_own [] (by decide) (L' := []) rfl ?_
  refine a_then (a_ret ?_)
  obtain ⟨ce0, re0, le0⟩ := PAt.one hb0_0
  refine a_done (v := .agg ce0.toArray) (.inl rfl) rfl ?_ ?_
  · intro a_ w_ ha_ hs_; exact run_results (P := Tryd.prog) (fn := Tryd.f151) (rs := [.cell 0 111]) (vs := [.agg ce0.toArray]) rfl (.cons (rv_cell ha_ rfl (run_loadVar_agg ty111 rfl (le0 _ hs_.sub) (Rp.len re0))) (All2.nil))
  · intro _ _; obtain rfl := Option.some.inj hm; exact ⟨ce0, rfl, re0⟩

def tunnel_book_read_lj3 (k : Nat) (p1 : List Int) : Nat → (List Int) → Int → Option (Sum ((List Int) × Bool) (List Int))
 | 0, _, _ => none
 | n_j3 + 1, yj3_b1_1, yj3_20 =>
 bif decide (yj3_20 < (p1.length : Int)) then
 (nth p1 yj3_20).bind fun x6_1 =>
 (tunnel_in k x6_1 0 3).bind fun x7_1 =>
 bif !x7_1 then
 some (Sum.inl (yj3_b1_1, false))
 else
 (nth yj3_b1_1 yj3_20).bind fun x9_2 =>
 tunnel_book_read_lj3 k p1 n_j3 ((yj3_b1_1).set (yj3_20).toNat x6_1) (IntKind.i64.wrap (yj3_20 + 1))
 else
 some (Sum.inr yj3_b1_1)
def tunnel_book_read (k : Nat) (p0 : TunnelBook) (p1 : List Int) : Option ((List Int) × Bool) :=
 (tunnel_closed k).bind fun x1_0 =>
 bif (p1.length : Int) != (p0.Parts.length : Int) then
 some ((x1_0, false))
 else
 (tunnel_book_read_lj3 k p1 k x1_0 0).bind fun o => (match o with
 | .inl r => some r
 | .inr yj2_b1_1 =>
 some ((yj2_b1_1, true)))
theorem ok_152 {k : Nat} {H : Hp} {w : World} {p0 : TunnelBook} {p1 : List Int} {m0 : Option Nat} {c0 : List Value} {v1 : Value} {r : (List Int) × Bool} (hsub : Sub H w) (h0 : Rp.rep (α := Bk m0) H c0 p0) (h1 : Sl (α := Int) H v1 p1) (hm : tunnel_book_read k p0 p1 = some r) : Calls Tryd.prog 152 [.agg c0.toArray, v1].toArray w (PostH w H fun v H' => ∃ c0, v = .tuple #[.agg c0.toArray, .bool r.2] ∧ Rp.rep (α := Arr 4 Int) H' c0 r.1) := by
  unfold tunnel_book_read at hm
  refine start (n := 34) (E := [(0, .agg c0.toArray), (1, v1)]) Tryd.func152 rfl rfl ⟨rfl, rfl, trivial⟩ rfl hsub ?_
  refine a_seq (a_region rfl ?_)
  refine a_cons (e_box (cs := c0) trivial rfl rfl rfl ?_)
  intro b0_0
  refine a_cons (e_alloc (cs := [.int .i64 0, .int .i64 0, .int .i64 0, .int .i64 0]) trivial rfl ty111 rfl ?_)
  intro b0_1
  have mz0_1 := z111 H
  refine ap (y_assign rfl) ?_
  refine a_nil ?_
  refine a_freeze (α := Bk _) (x := p0) (i := 1) rfl h0 ?_
  intro Hb0_0 lb0_0 hb0_0
  have h0 := Rp.mono lb0_0 h0
  have h1 := Sl.mono lb0_0 h1
  have mz0_1 := Rp.mono lb0_0 mz0_1
  refine a_en [(1, v1), (2, .pointer (some ⟨b0_0, 0, none⟩)), (4, .pointer (some ⟨b0_1, 0, none⟩))] ?_
  refine a_own [0] (by decide) (L' := [.box b0_1 [.int .i64 0, .int .i64 0, .int .i64 0, .int .i64 0] 111]) rfl ?_
  refine a_then (a_seq (a_region rfl ?_))
  obtain ⟨x1_0, q1_0, hm⟩ := bind_some hm
  refine a_cons (e_callH (all := []) trivial rfl Tryd.func151 rfl rfl rfl rfl rfl (fun w hw => ok_151 hw q1_0) ?_)
  rintro _ H1_0 l1_0 ⟨c1_0r0, rfl, h1_0r0⟩
  have h1 := Sl.mono l1_0 h1
  have hb0_0 := PAt.mono l1_0 hb0_0
  have mz0_1 := Rp.mono l1_0 mz0_1
  refine a_cons (e_alloc (cs := [.int .i64 0, .int .i64 0, .int .i64 0, .int .i64 0]) trivial rfl ty111 rfl ?_)
  intro b1_1
  have mz1_1 := z111 H1_0
  refine a_cons (e_storeWhole (i := 0) (ds := c1_0r0) trivial ty111 rfl rfl rfl rfl (Rp.len h1_0r0) ((Rp.one h1_0r0)) rfl ?_)
  refine a_nil ?_
  refine a_en [(1, v1), (2, .pointer (some ⟨b0_0, 0, none⟩)), (4, .pointer (some ⟨b0_1, 0, none⟩)), (6, .pointer (some ⟨b1_1, 0, none⟩))] ?_
  refine a_then (a_seq (a_seq (a_region rfl ?_)))
  refine ap (y_move rfl) ?_
  refine ap (y_len_sl Tryd.underlying26 rfl h1) ?_
  have h2_2 := Bk.at_b hb0_0
  refine ap (y_fieldAddr fo110_0 rfl) ?_
  have h2_3 := TunnelBook.at_Parts h2_2
  refine ap (y_fieldAddr fo25_0 rfl) ?_
  obtain ⟨v2_4, h2_4, c2_4⟩ := PAt.sl h2_3
  refine ap (y_load_one ty22 rfl (fun _ h => h.sub) rfl c2_4) ?_
  refine ap (y_len_sl Tryd.underlying22 rfl h2_4) ?_
  refine ap (y_neq rfl rfl) ?_
  refine a_nil ?_
  refine a_en [(1, v1), (4, .pointer (some ⟨b0_1, 0, none⟩)), (6, .pointer (some ⟨b1_1, 0, none⟩)), (16, .bool ((p1.length : Int) != (p0.Parts.length : Int)))] ?_
  refine a_then ?_
  refine a_cond rfl (fun k_1 => ?_) (fun k_1 => ?_)
  · have hm := cond_t k_1 hm
    refine a_seq (a_region rfl ?_)
    refine ap (y_load_whole ty111 rfl (knows_box (i := 0) rfl) rfl (Rp.len h1_0r0)) ?_
    refine a_cons (e_storeWhole (i := 1) (ds := c1_0r0) trivial ty111 rfl rfl rfl rfl (Rp.len h1_0r0) ((Rp.one h1_0r0)) rfl ?_)
    refine ap (y_assign rfl) ?_
    refine a_nil ?_
    refine a_en [(4, .pointer (some ⟨b0_1, 0, none⟩)), (5, .bool false)] ?_
    refine a_own [1] (by decide) (L' := [.box b0_1 c1_0r0 111]) rfl ?_
    refine a_then (a_ret (a_then_ret ?_))
    refine a_done (v := .tuple #[.agg c1_0r0.toArray, .bool false]) (.inl rfl) rfl ?_ ?_
    · intro a_ w_ ha_ hs_; exact run_results (P := Tryd.prog) (fn := Tryd.f152) (rs := [.cell 4 111, .tmp 5]) (vs := [.agg c1_0r0.toArray, .bool false]) rfl (.cons (rv_cell ha_ rfl (run_loadSt (i := 0) ty111 rfl hs_ rfl (Rp.len h1_0r0))) (.cons (rv_tmp ha_ rfl) (All2.nil)))
    · intro _ _; obtain rfl := Option.some.inj hm; exact ⟨c1_0r0, rfl, h1_0r0⟩
  have hm := cond_f k_1 hm
  refine a_skip (a_then (a_seq (a_seq (a_region rfl ?_))))
  refine ap (y_move rfl) ?_
  refine ap (y_len_sl Tryd.underlying26 rfl h1) ?_
  refine ap (y_move rfl) ?_
  refine a_nil ?_
  refine a_en [(4, .pointer (some ⟨b0_1, 0, none⟩)), (6, .pointer (some ⟨b1_1, 0, none⟩)), (18, v1), (19, .int .i64 (p1.length : Int)), (20, .int .i64 0)] ?_
  refine a_then ?_
  obtain ⟨s_j2, hs_j2, hm_j2⟩ := bind_some hm
  refine a_join (fun a_ w_ => ∃ (yj2_b1_1 : List Int), ∃ (uj2_b1_1 : List Value), Sum.inr yj2_b1_1 = s_j2 ∧ Rp.rep (α := Arr 4 Int) H1_0 uj2_b1_1 yj2_b1_1 ∧ Ag 34 [] [(4, .pointer (some ⟨b0_1, 0, none⟩)), (6, .pointer (some ⟨b1_1, 0, none⟩))] a_ ∧ St (Kp.mk w H noX) H1_0 ([.box b0_1 [.int .i64 0, .int .i64 0, .int .i64 0, .int .i64 0] 111, .box b1_1 uj2_b1_1 111]) w_) ?_ ?_
  · have hm := hs_j2
    refine a_block ?_
    refine a_loop (fun n_j3 a_ w_ => ∃ (yj3_b1_1 : List Int), ∃ (yj3_20 : Int), ∃ (uj3_b1_1 : List Value), tunnel_book_read_lj3 k p1 n_j3 yj3_b1_1 yj3_20 = some s_j2 ∧ Rp.rep (α := Arr 4 Int) H1_0 uj3_b1_1 yj3_b1_1 ∧ Ag 34 [] [(4, .pointer (some ⟨b0_1, 0, none⟩)), (6, .pointer (some ⟨b1_1, 0, none⟩)), (18, v1), (19, .int .i64 (p1.length : Int)), (20, .int .i64 yj3_20)] a_ ∧ St (Kp.mk w H noX) H1_0 ([.box b0_1 [.int .i64 0, .int .i64 0, .int .i64 0, .int .i64 0] 111, .box b1_1 uj3_b1_1 111]) w_) k ?_ ?_
    · intro a_ w_ ha_ hs_
      exact ⟨x1_0, 0, c1_0r0, hm, h1_0r0, ha_.weaken ⟨rfl, rfl, rfl, rfl, rfl, trivial⟩, hs_.reix [1, 0] (by decide)⟩
    rintro (_ | n_j3) a_ w_ ⟨yj3_b1_1, yj3_20, uj3_b1_1, hm, hj3_b1_1, ha_, hs_⟩
    · rw [tunnel_book_read_lj3.eq_1] at hm; cases hm
    rw [tunnel_book_read_lj3.eq_2] at hm
    refine a_start ha_ hs_ ?_
    refine a_seq (a_region rfl ?_)
    refine ap (y_lss rfl rfl) ?_
    refine a_nil (a_then (a_seq ?_))
    refine a_cond rfl (fun k_4 => ?_) (fun k_4 => ?_)
    · have hm := cond_t k_4 hm
      refine a_skip (a_then (a_seq (a_block (a_seq (a_region rfl ?_)))))
      refine ap (y_move rfl) ?_
      obtain ⟨x6_1, q6_1, hm⟩ := bind_some hm
      obtain ⟨b6_1, o6_1, c6_1, e6_1, h6_1⟩ := Sl.elemZ 1 rfl h1 q6_1
      refine ap (y_index Tryd.underlying26 ty3 rfl e6_1 rfl (nth_in q6_1)) ?_
      refine ap (y_load_int ty3 rfl (fun _ h => h.sub) rfl h6_1) ?_
      refine ap (y_assign rfl) ?_
      refine ap (y_assign rfl) ?_
      refine a_nil ?_
      refine a_en [(4, .pointer (some ⟨b0_1, 0, none⟩)), (6, .pointer (some ⟨b1_1, 0, none⟩)), (7, .int .i64 yj3_20), (8, .int .i64 x6_1), (18, v1), (19, .int .i64 (p1.length : Int)), (20, .int .i64 yj3_20)] ?_
      refine a_then (a_seq (a_seq (a_region rfl ?_)))
      refine ap (y_move rfl) ?_
      obtain ⟨x7_1, q7_1, hm⟩ := bind_some hm
      refine a_cons (e_callV (all := [.int .i64 x6_1, .int .i64 0, .int .i64 3]) (v := .bool x7_1) trivial rfl Tryd.func85 rfl rfl rfl rfl rfl (fun w hw => ok_85 hw q7_1) ?_)
      refine ap (y_not rfl) ?_
      refine a_nil ?_
      refine a_en [(4, .pointer (some ⟨b0_1, 0, none⟩)), (6, .pointer (some ⟨b1_1, 0, none⟩)), (7, .int .i64 yj3_20), (8, .int .i64 x6_1), (18, v1), (19, .int .i64 (p1.length : Int)), (20, .int .i64 yj3_20), (27, .bool (!x7_1))] ?_
      refine a_then ?_
      refine a_cond rfl (fun k_5 => ?_) (fun k_5 => ?_)
      · have hm := cond_t k_5 hm
        refine a_seq (a_region rfl ?_)
        refine ap (y_load_whole ty111 rfl (knows_box (i := 1) rfl) rfl (Rp.len hj3_b1_1)) ?_
        refine a_cons (e_storeWhole (i := 0) (ds := uj3_b1_1) trivial ty111 rfl rfl rfl rfl (Rp.len hj3_b1_1) ((Rp.one hj3_b1_1)) rfl ?_)
        refine ap (y_assign rfl) ?_
        refine a_nil ?_
        refine a_en [(4, .pointer (some ⟨b0_1, 0, none⟩)), (5, .bool false)] ?_
        refine a_own [0] (by decide) (L' := [.box b0_1 uj3_b1_1 111]) rfl ?_
        refine a_then (a_ret (a_then_ret (a_block_ret (a_then_ret (a_then_ret (a_block_ret (a_cut_ret (a_then_ret ?_))))))))
        obtain rfl := Option.some.inj hm
        have hm := hm_j2
        try dsimp only at hm
        refine a_done (v := .tuple #[.agg uj3_b1_1.toArray, .bool false]) (.inl rfl) rfl ?_ ?_
        · intro a_ w_ ha_ hs_; exact run_results (P := Tryd.prog) (fn := Tryd.f152) (rs := [.cell 4 111, .tmp 5]) (vs := [.agg uj3_b1_1.toArray, .bool false]) rfl (.cons (rv_cell ha_ rfl (run_loadSt (i := 0) ty111 rfl hs_ rfl (Rp.len hj3_b1_1))) (.cons (rv_tmp ha_ rfl) (All2.nil)))
        · intro _ _; obtain rfl := Option.some.inj hm; exact ⟨uj3_b1_1, rfl, hj3_b1_1⟩
      have hm := cond_f k_5 hm
      refine a_skip (a_then (a_region rfl ?_))
      refine ap (y_move rfl) ?_
      refine ap (y_move rfl) ?_
      obtain ⟨x9_2, q9_2, hm⟩ := bind_some hm
      have k9_2 := arr_in hj3_b1_1 q9_2
      refine ap (y_index_arrp Tryd.underlying111 ty3 rfl rfl k9_2) ?_
      refine a_cons (e_storeIn (α := Arr 4 Int) (i := 1) (ds := [.int .i64 x6_1]) (s' := (yj3_b1_1).set (yj3_20).toNat x6_1) trivial ty3 rfl rfl rfl rfl (cells_one_int _) hj3_b1_1 (put_arr0 1 rfl hj3_b1_1 q9_2 rfl) ?_)
      intro u9_3 h9_3
      refine a_nil ?_
      refine a_en [(4, .pointer (some ⟨b0_1, 0, none⟩)), (6, .pointer (some ⟨b1_1, 0, none⟩)), (18, v1), (19, .int .i64 (p1.length : Int)), (20, .int .i64 yj3_20)] ?_
      refine a_block_normal (a_then (a_region rfl ?_))
      refine ap (y_add rfl rfl) ?_
      refine ap (y_move rfl) ?_
      refine a_nil ?_
      refine a_en [(4, .pointer (some ⟨b0_1, 0, none⟩)), (6, .pointer (some ⟨b1_1, 0, none⟩)), (18, v1), (19, .int .i64 (p1.length : Int)), (20, .int .i64 (IntKind.i64.wrap (yj3_20 + 1)))] ?_
      refine a_then ?_
      intro a_ w_ ha_ hs_
      exact ⟨n_j3, Nat.lt_succ_self _, (yj3_b1_1).set (yj3_20).toNat x6_1, IntKind.i64.wrap (yj3_20 + 1), u9_3, hm, h9_3, ha_.weaken ⟨rfl, rfl, rfl, rfl, rfl, trivial⟩, hs_.reix [0, 1] (by decide)⟩
    have hm := cond_f k_4 hm
    refine a_exit (a_then_exit (a_then_exit (a_block_hit (a_cut ?_))))
    intro a_ w_ ha_ hs_
    exact ⟨yj3_b1_1, uj3_b1_1, Option.some.inj hm, hj3_b1_1, ha_.weaken ⟨rfl, rfl, trivial⟩, hs_.reix [0, 1] (by decide)⟩
  have hm := hm_j2
  rintro a_ w_ ⟨yj2_b1_1, uj2_b1_1, rfl, hj2_b1_1, ha_, hs_⟩
  try dsimp only at hm
  refine a_start ha_ hs_ ?_
  refine a_then (a_seq (a_region rfl ?_))
  refine ap (y_load_whole ty111 rfl (knows_box (i := 1) rfl) rfl (Rp.len hj2_b1_1)) ?_
  refine a_cons (e_storeWhole (i := 0) (ds := uj2_b1_1) trivial ty111 rfl rfl rfl rfl (Rp.len hj2_b1_1) ((Rp.one hj2_b1_1)) rfl ?_)
  refine ap (y_assign rfl) ?_
  refine a_nil ?_
  refine a_en [(4, .pointer (some ⟨b0_1, 0, none⟩)), (5, .bool true)] ?_
  refine a_own [0] (by decide) (L' := [.box b0_1 uj2_b1_1 111]) rfl ?_
  refine a_then (a_ret ?_)
  refine a_done (v := .tuple #[.agg uj2_b1_1.toArray, .bool true]) (.inl rfl) rfl ?_ ?_
  · intro a_ w_ ha_ hs_; exact run_results (P := Tryd.prog) (fn := Tryd.f152) (rs := [.cell 4 111, .tmp 5]) (vs := [.agg uj2_b1_1.toArray, .bool true]) rfl (.cons (rv_cell ha_ rfl (run_loadSt (i := 0) ty111 rfl hs_ rfl (Rp.len hj2_b1_1))) (.cons (rv_tmp ha_ rfl) (All2.nil)))
  · intro _ _; obtain rfl := Option.some.inj hm; exact ⟨uj2_b1_1, rfl, hj2_b1_1⟩

def tunnel_asked (k : Nat) (p0 : TunnelBook) (p1 : List Int) (p2 : Bool) : Option (TunnelBook × (List Int) × Int) :=
 (tunnel_Check k p0).bind fun x1_1 =>
 bif x1_1 != 0 then
 (tunnel_closed k).bind fun x3_1 =>
 some (((⟨[], []⟩ : TunnelBook), x3_1, x1_1))
 else
 (tunnel_book_read k p0 p1).bind fun x5_2 =>
 (bif !x5_2.2 then
 some (true)
 else
 some ((!p2))).bind fun yj2_33 =>
 bif yj2_33 then
 (tunnel_closed k).bind fun x7_1 =>
 some (((⟨[], []⟩ : TunnelBook), x7_1, 31))
 else
 some ((p0, x5_2.1, 0))
theorem ok_80 {k : Nat} {H : Hp} {w : World} {p0 : TunnelBook} {p1 : List Int} {p2 : Bool} {c0 : List Value} {v1 : Value} {r : TunnelBook × (List Int) × Int} (hsub : Sub H w) (h0 : Rp.rep (α := TunnelBook) H c0 p0) (h1 : Sl (α := Int) H v1 p1) (hm : tunnel_asked k p0 p1 p2 = some r) : Calls Tryd.prog 80 [.agg c0.toArray, v1, .bool p2].toArray w (PostO w H fun v H' Ls => ∃ cb cs m, v = .tuple #[.agg cb.toArray, .agg cs.toArray, .int .i64 r.2.2] ∧ Rp.rep (α := Bk m) H' cb r.1 ∧ Rp.rep (α := Arr 4 Int) H' cs r.2.1 ∧ ((m = none ∧ r.2.2 ≠ 0 ∧ Ls = []) ∨ (∃ M, m = some M ∧ r.2.2 = 0 ∧ Ls = [.blk M (Memo r.1)]))) := by
  unfold tunnel_asked at hm
  refine start (n := 38) (E := [(0, .agg c0.toArray), (1, v1), (2, .bool p2)]) Tryd.func80 rfl rfl ⟨rfl, rfl, rfl, trivial⟩ rfl hsub ?_
  refine a_seq (a_region rfl ?_)
  refine a_cons (e_box (cs := c0) trivial rfl rfl rfl ?_)
  intro b0_0
  refine a_cons (e_alloc (cs := [.slice none 0 0, .slice none 0 0, .map none]) trivial rfl ty110 rfl ?_)
  intro b0_1
  refine a_cons (e_alloc (cs := [.int .i64 0, .int .i64 0, .int .i64 0, .int .i64 0]) trivial rfl ty111 rfl ?_)
  intro b0_2
  have mz0_2 := z111 H
  refine ap (y_assign rfl) ?_
  refine a_nil ?_
  refine a_freeze (α := TunnelBook) (x := p0) (i := 2) rfl h0 ?_
  intro Hb0_0 lb0_0 hb0_0
  have h0 := Rp.mono lb0_0 h0
  have h1 := Sl.mono lb0_0 h1
  have mz0_2 := Rp.mono lb0_0 mz0_2
  refine a_en [(1, v1), (2, .bool p2), (3, .pointer (some ⟨b0_0, 0, none⟩)), (6, .pointer (some ⟨b0_1, 0, none⟩)), (7, .pointer (some ⟨b0_2, 0, none⟩))] ?_
  refine a_own [0, 1] (by decide) (L' := [.box b0_2 [.int .i64 0, .int .i64 0, .int .i64 0, .int .i64 0] 111, .box b0_1 [.slice none 0 0, .slice none 0 0, .map none] 110]) rfl ?_
  refine a_then (a_seq (a_seq (a_region rfl ?_)))
  obtain ⟨u1_0, h1_0, c1_0⟩ := PAt.one hb0_0
  refine ap (y_load_cells ty25 rfl (fun _ h => h.sub) rfl c1_0 (Rp.len h1_0)) ?_
  obtain ⟨x1_1, q1_1, hm⟩ := bind_some hm
  refine a_cons (e_callV (all := [.agg u1_0.toArray]) (v := .int .i64 x1_1) trivial rfl Tryd.func21 rfl rfl rfl rfl rfl (fun w hw => ok_21 hw h1_0 q1_1) ?_)
  refine ap (y_assign rfl) ?_
  refine a_nil ?_
  refine a_en [(1, v1), (2, .bool p2), (3, .pointer (some ⟨b0_0, 0, none⟩)), (6, .pointer (some ⟨b0_1, 0, none⟩)), (7, .pointer (some ⟨b0_2, 0, none⟩)), (9, .int .i64 x1_1)] ?_
  refine a_then (a_seq (a_region rfl ?_))
  refine ap (y_move rfl) ?_
  refine ap (y_neq rfl rfl) ?_
  refine a_nil ?_
  refine a_en [(1, v1), (2, .bool p2), (3, .pointer (some ⟨b0_0, 0, none⟩)), (6, .pointer (some ⟨b0_1, 0, none⟩)), (7, .pointer (some ⟨b0_2, 0, none⟩)), (9, .int .i64 x1_1), (16, .bool (x1_1 != 0))] ?_
  refine a_then ?_
  refine a_cond rfl (fun k_1 => ?_) (fun k_1 => ?_)
  · have hm := cond_t k_1 hm
    refine a_seq (a_region rfl ?_)
    have m3_0 := z110 Hb0_0
    refine ap (y_build_lit (pl := [(0, 2), (2, 1)]) (xs := []) (cs := [.slice none 0 0, .slice none 0 0, .map none].toArray) ty110 (.cons ⟨rfl, ty25.szOf⟩ (.cons ⟨rfl, ty108.szOf⟩ All2.nil)) rfl rfl rfl) ?_
    obtain ⟨x3_1, q3_1, hm⟩ := bind_some hm
    refine a_cons (e_callH (all := []) trivial rfl Tryd.func151 rfl rfl rfl rfl rfl (fun w hw => ok_151 hw q3_1) ?_)
    rintro _ H3_1 l3_1 ⟨c3_1r0, rfl, h3_1r0⟩
    have h1 := Sl.mono l3_1 h1
    have hb0_0 := PAt.mono l3_1 hb0_0
    have m3_0 := Rp.mono l3_1 m3_0
    have mz0_2 := Rp.mono l3_1 mz0_2
    refine ap (y_move rfl) ?_
    refine a_cons (e_storeWhole (i := 1) (ds := [.slice none 0 0, .slice none 0 0, .map none]) trivial ty110 rfl rfl rfl rfl rfl ((Rp.one m3_0)) rfl ?_)
    refine a_cons (e_storeWhole (i := 0) (ds := c3_1r0) trivial ty111 rfl rfl rfl rfl (Rp.len h3_1r0) ((Rp.one h3_1r0)) rfl ?_)
    refine ap (y_assign rfl) ?_
    refine a_nil ?_
    refine a_en [(6, .pointer (some ⟨b0_1, 0, none⟩)), (7, .pointer (some ⟨b0_2, 0, none⟩)), (8, .int .i64 x1_1)] ?_
    refine a_then (a_ret (a_then_ret ?_))
    obtain rfl := Option.some.inj hm
    exact a_doneO (Ls := []) (v := .tuple #[.agg [.slice none 0 0, .slice none 0 0, .map none].toArray, .agg c3_1r0.toArray, .int .i64 x1_1]) (.inl rfl) rfl [] (by decide) rfl (fun a_ w_ ha_ hs_ => run_results (P := Tryd.prog) (fn := Tryd.f80) (rs := [.cell 6 110, .cell 7 111, .tmp 8]) (vs := [.agg [.slice none 0 0, .slice none 0 0, .map none].toArray, .agg c3_1r0.toArray, .int .i64 x1_1]) rfl (.cons (rv_cell ha_ rfl (run_loadSt (i := 1) ty110 rfl hs_ rfl rfl)) (.cons (rv_cell ha_ rfl (run_loadSt (i := 0) ty111 rfl hs_ rfl (Rp.len h3_1r0))) (.cons (rv_tmp ha_ rfl) (All2.nil))))) ⟨[.slice none 0 0, .slice none 0 0, .map none], c3_1r0, none, rfl, m3_0, h3_1r0, .inl ⟨rfl, by simpa using k_1, rfl⟩⟩
  have hm := cond_f k_1 hm
  refine a_skip (a_then (a_seq (a_region rfl ?_)))
  obtain ⟨u4_0, h4_0, c4_0⟩ := PAt.one hb0_0
  refine ap (y_load_cells ty25 rfl (fun _ h => h.sub) rfl c4_0 (Rp.len h4_0)) ?_
  refine a_cons (e_callO (all := [.agg u4_0.toArray]) trivial rfl Tryd.func95 rfl rfl rfl rfl rfl (fun w hw => ok_95 hw h4_0 ) ?_)
  rintro _ H4_1 _ l4_1 ⟨M4_1, rfl, rfl⟩
  have h1 := Sl.mono l4_1 h1
  have hb0_0 := PAt.mono l4_1 hb0_0
  have h4_0 := Rp.mono l4_1 h4_0
  have mz0_2 := Rp.mono l4_1 mz0_2
  have m4_1 : Rp.rep (α := Bk (some M4_1)) H4_1 (u4_0 ++ [Value.map (some M4_1)]) p0 := ⟨_, rfl, h4_0⟩
  refine a_cons (e_alloc (cs := [.slice none 0 0, .slice none 0 0, .map none]) trivial rfl ty110 rfl ?_)
  intro b4_2
  refine a_cons (e_storeWhole (i := 0) (ds := u4_0 ++ [Value.map (some M4_1)]) trivial ty110 rfl rfl rfl rfl (Rp.len m4_1) ((Rp.one m4_1)) rfl ?_)
  refine a_nil ?_
  refine a_freeze (α := Bk _) (x := p0) (i := 0) rfl m4_1 ?_
  intro Hb4_2 lb4_2 hb4_2
  have h1 := Sl.mono lb4_2 h1
  have hb0_0 := PAt.mono lb4_2 hb0_0
  have h4_0 := Rp.mono lb4_2 h4_0
  have m4_1 := Rp.mono lb4_2 m4_1
  have mz0_2 := Rp.mono lb4_2 mz0_2
  refine a_en [(1, v1), (2, .bool p2), (6, .pointer (some ⟨b0_1, 0, none⟩)), (7, .pointer (some ⟨b0_2, 0, none⟩)), (10, .pointer (some ⟨b4_2, 0, none⟩))] ?_
  refine a_own [1, 2, 3] (by decide) (L' := [.blk M4_1 (Memo p0), .box b0_2 [.int .i64 0, .int .i64 0, .int .i64 0, .int .i64 0] 111, .box b0_1 [.slice none 0 0, .slice none 0 0, .map none] 110]) rfl ?_
  refine a_then (a_seq (a_region rfl ?_))
  obtain ⟨u5_0, h5_0, c5_0⟩ := PAt.one hb4_2
  refine ap (y_load_cells ty110 rfl (fun _ h => h.sub) rfl c5_0 (Rp.len h5_0)) ?_
  refine ap (y_move rfl) ?_
  obtain ⟨x5_2, q5_2, hm⟩ := bind_some hm
  refine a_cons (e_callH (all := [.agg u5_0.toArray, v1]) trivial rfl Tryd.func152 rfl rfl rfl rfl rfl (fun w hw => ok_152 hw h5_0 h1 q5_2) ?_)
  rintro _ H5_2 l5_2 ⟨c5_2r0, rfl, h5_2r0⟩
  have h1 := Sl.mono l5_2 h1
  have hb4_2 := PAt.mono l5_2 hb4_2
  have h5_0 := Rp.mono l5_2 h5_0
  have mz0_2 := Rp.mono l5_2 mz0_2
  refine ap (y_move rfl) ?_
  refine ap (y_extract rfl rfl) ?_
  refine ap (y_extract rfl rfl) ?_
  refine a_cons (e_alloc (cs := [.int .i64 0, .int .i64 0, .int .i64 0, .int .i64 0]) trivial rfl ty111 rfl ?_)
  intro b5_6
  have mz5_6 := z111 H5_2
  refine a_cons (e_storeWhole (i := 0) (ds := c5_2r0) trivial ty111 rfl rfl rfl rfl (Rp.len h5_2r0) ((Rp.one h5_2r0)) rfl ?_)
  refine ap (y_assign rfl) ?_
  refine a_nil ?_
  refine a_freeze (α := Arr 4 Int) (x := x5_2.1) (i := 0) rfl h5_2r0 ?_
  intro Hb5_6 lb5_6 hb5_6
  have h1 := Sl.mono lb5_6 h1
  have hb4_2 := PAt.mono lb5_6 hb4_2
  have h5_0 := Rp.mono lb5_6 h5_0
  have h5_2r0 := Rp.mono lb5_6 h5_2r0
  have mz0_2 := Rp.mono lb5_6 mz0_2
  refine a_en [(2, .bool p2), (6, .pointer (some ⟨b0_1, 0, none⟩)), (7, .pointer (some ⟨b0_2, 0, none⟩)), (10, .pointer (some ⟨b4_2, 0, none⟩)), (11, .pointer (some ⟨b5_6, 0, none⟩)), (12, .bool x5_2.2)] ?_
  refine a_own [1, 2, 3] (by decide) (L' := [.blk M4_1 (Memo p0), .box b0_2 [.int .i64 0, .int .i64 0, .int .i64 0, .int .i64 0] 111, .box b0_1 [.slice none 0 0, .slice none 0 0, .map none] 110]) rfl ?_
  refine a_then (a_seq (a_seq ?_))
  obtain ⟨s_j2, hs_j2, hm_j2⟩ := bind_some hm
  refine a_join (fun a_ w_ => ∃ (yj2_33 : Bool), yj2_33 = s_j2 ∧ Ag 38 [] [(6, .pointer (some ⟨b0_1, 0, none⟩)), (7, .pointer (some ⟨b0_2, 0, none⟩)), (10, .pointer (some ⟨b4_2, 0, none⟩)), (11, .pointer (some ⟨b5_6, 0, none⟩)), (33, .bool yj2_33)] a_ ∧ St (Kp.mk w H noX) Hb5_6 ([.blk M4_1 (Memo p0), .box b0_1 [.slice none 0 0, .slice none 0 0, .map none] 110, .box b0_2 [.int .i64 0, .int .i64 0, .int .i64 0, .int .i64 0] 111]) w_) ?_ ?_
  · have hm := hs_j2
    refine a_region rfl ?_
    refine ap (y_move rfl) ?_
    refine ap (y_not rfl) ?_
    refine ap (y_move rfl) ?_
    rcases Bool.eq_false_or_eq_true (!x5_2.2) with k6_3 | k6_3
    · have hm := cond_t k6_3 hm
      refine as1 (sk1 rfl rfl k6_3) ?_
      refine as1 (sk1 rfl rfl k6_3) ?_
      refine ap (y_pick_t rfl k6_3 rfl) ?_
      refine a_nil ?_
      refine a_en [(6, .pointer (some ⟨b0_1, 0, none⟩)), (7, .pointer (some ⟨b0_2, 0, none⟩)), (10, .pointer (some ⟨b4_2, 0, none⟩)), (11, .pointer (some ⟨b5_6, 0, none⟩)), (33, .bool true)] ?_
      refine a_cut ?_
      intro a_ w_ ha_ hs_
      exact ⟨true, Option.some.inj hm, ha_.weaken ⟨rfl, rfl, rfl, rfl, rfl, trivial⟩, hs_.reix [0, 2, 1] (by decide)⟩
    have hm := cond_f k6_3 hm
    refine ag ⟨_, _, rfl, rfl, k6_3⟩ (y_move rfl) ?_
    refine ag ⟨_, _, rfl, rfl, k6_3⟩ (y_not rfl) ?_
    refine ap (y_pick_f rfl k6_3 rfl) ?_
    refine a_nil ?_
    refine a_en [(6, .pointer (some ⟨b0_1, 0, none⟩)), (7, .pointer (some ⟨b0_2, 0, none⟩)), (10, .pointer (some ⟨b4_2, 0, none⟩)), (11, .pointer (some ⟨b5_6, 0, none⟩)), (33, .bool (!p2))] ?_
    refine a_cut ?_
    intro a_ w_ ha_ hs_
    exact ⟨!p2, Option.some.inj hm, ha_.weaken ⟨rfl, rfl, rfl, rfl, rfl, trivial⟩, hs_.reix [0, 2, 1] (by decide)⟩
  have hm := hm_j2
  rintro a_ w_ ⟨yj2_33, rfl, ha_, hs_⟩
  try dsimp only at hm
  refine a_start ha_ hs_ ?_
  refine a_then ?_
  refine a_cond rfl (fun k_3 => ?_) (fun k_3 => ?_)
  · have hm := cond_t k_3 hm
    refine a_seq (a_region rfl ?_)
    have m7_0 := z110 Hb5_6
    refine ap (y_build_lit (pl := [(0, 2), (2, 1)]) (xs := []) (cs := [.slice none 0 0, .slice none 0 0, .map none].toArray) ty110 (.cons ⟨rfl, ty25.szOf⟩ (.cons ⟨rfl, ty108.szOf⟩ All2.nil)) rfl rfl rfl) ?_
    obtain ⟨x7_1, q7_1, hm⟩ := bind_some hm
    refine a_cons (e_callH (all := []) trivial rfl Tryd.func151 rfl rfl rfl rfl rfl (fun w hw => ok_151 hw q7_1) ?_)
    rintro _ H7_1 l7_1 ⟨c7_1r0, rfl, h7_1r0⟩
    have hb4_2 := PAt.mono l7_1 hb4_2
    have hb5_6 := PAt.mono l7_1 hb5_6
    have m7_0 := Rp.mono l7_1 m7_0
    have mz0_2 := Rp.mono l7_1 mz0_2
    refine a_cons (e_storeWhole (i := 1) (ds := [.slice none 0 0, .slice none 0 0, .map none]) trivial ty110 rfl rfl rfl rfl rfl ((Rp.one m7_0)) rfl ?_)
    refine a_cons (e_storeWhole (i := 2) (ds := c7_1r0) trivial ty111 rfl rfl rfl rfl (Rp.len h7_1r0) ((Rp.one h7_1r0)) rfl ?_)
    refine ap (y_assign rfl) ?_
    refine a_nil ?_
    refine a_en [(6, .pointer (some ⟨b0_1, 0, none⟩)), (7, .pointer (some ⟨b0_2, 0, none⟩)), (8, .int .i64 31)] ?_
    refine a_then (a_ret (a_then_ret ?_))
    obtain rfl := Option.some.inj hm
    exact a_doneO (Ls := []) (v := .tuple #[.agg [.slice none 0 0, .slice none 0 0, .map none].toArray, .agg c7_1r0.toArray, .int .i64 31]) (.inl rfl) rfl [] (by decide) rfl (fun a_ w_ ha_ hs_ => run_results (P := Tryd.prog) (fn := Tryd.f80) (rs := [.cell 6 110, .cell 7 111, .tmp 8]) (vs := [.agg [.slice none 0 0, .slice none 0 0, .map none].toArray, .agg c7_1r0.toArray, .int .i64 31]) rfl (.cons (rv_cell ha_ rfl (run_loadSt (i := 1) ty110 rfl hs_ rfl rfl)) (.cons (rv_cell ha_ rfl (run_loadSt (i := 2) ty111 rfl hs_ rfl (Rp.len h7_1r0))) (.cons (rv_tmp ha_ rfl) (All2.nil))))) ⟨[.slice none 0 0, .slice none 0 0, .map none], c7_1r0, none, rfl, m7_0, h7_1r0, .inl ⟨rfl, by simp, rfl⟩⟩
  have hm := cond_f k_3 hm
  refine a_skip (a_then (a_seq ?_))
  refine d_region (S := Sw Hb5_6 []) (n := 5) (listed := (bits 5 0)) mixed (by kernel_rfl) rfl (by kernel_rfl) ?_
  obtain ⟨u8_0, h8_0, c8_0⟩ := PAt.one hb4_2
  refine dt 0 1 rfl trivial (y_load_cells ty110 rfl (fun _ h => h.1) rfl c8_0 (Rp.len h8_0)) (sw0 []) ?_
  obtain ⟨u8_1, h8_1, c8_1⟩ := PAt.one hb5_6
  refine dt 1 3 rfl trivial (y_load_cells ty111 rfl (fun _ h => h.1) rfl c8_1 (Rp.len h8_1)) (sw0 []) ?_
  refine d1 2 rfl (e_storeWhole (i := 1) (ds := u8_0) trivial ty110 rfl rfl rfl rfl (Rp.len h8_0) ((Rp.one h8_0)) rfl ?_)
  refine dn 7 (sw0 []) ?_
  refine d1 3 rfl (e_storeWhole (i := 2) (ds := u8_1) trivial ty111 rfl rfl rfl rfl (Rp.len h8_1) ((Rp.one h8_1)) rfl ?_)
  refine dn 15 (sw0 []) ?_
  refine dt 4 31 rfl trivial (y_assign rfl) (sw0 []) ?_
  refine d_done (by kernel_rfl) ?_
  refine a_en [(6, .pointer (some ⟨b0_1, 0, none⟩)), (7, .pointer (some ⟨b0_2, 0, none⟩)), (8, .int .i64 0)] ?_
  refine a_then (a_ret ?_)
  obtain rfl := Option.some.inj hm
  exact a_doneO (Ls := [.blk M4_1 (Memo p0)]) (v := .tuple #[.agg u8_0.toArray, .agg u8_1.toArray, .int .i64 0]) (.inl rfl) rfl [0] (by decide) rfl (fun a_ w_ ha_ hs_ => run_results (P := Tryd.prog) (fn := Tryd.f80) (rs := [.cell 6 110, .cell 7 111, .tmp 8]) (vs := [.agg u8_0.toArray, .agg u8_1.toArray, .int .i64 0]) rfl (.cons (rv_cell ha_ rfl (run_loadSt (i := 1) ty110 rfl hs_ rfl (Rp.len h8_0))) (.cons (rv_cell ha_ rfl (run_loadSt (i := 2) ty111 rfl hs_ rfl (Rp.len h8_1))) (.cons (rv_tmp ha_ rfl) (All2.nil))))) ⟨u8_0, u8_1, some M4_1, rfl, h8_0, h8_1, .inr ⟨_, rfl, rfl, rfl⟩⟩

def tunnel_book_wet (k : Nat) (p0 : TunnelBook) (p1 : Int) : Option Int :=
 (nth p0.Parts p1).bind fun x1_4 =>
 some (x1_4.Damp.High)
theorem ok_263 {k : Nat} {H : Hp} {w : World} {p0 : TunnelBook} {p1 : Int} {m0 : Option Nat} {c0 : List Value} {r : Int} (hsub : Sub H w) (h0 : Rp.rep (α := Bk m0) H c0 p0) (hm : tunnel_book_wet k p0 p1 = some r) : Calls Tryd.prog 263 [.agg c0.toArray, .int .i64 p1].toArray w (PostV w H (.int .i64 r)) := by
  unfold tunnel_book_wet at hm
  refine start (n := 13) (E := [(0, .agg c0.toArray), (1, .int .i64 p1)]) Tryd.func263 rfl rfl ⟨rfl, rfl, trivial⟩ rfl hsub ?_
  refine a_seq (a_region rfl ?_)
  refine a_cons (e_box (cs := c0) trivial rfl rfl rfl ?_)
  intro b0_0
  refine ap (y_assign rfl) ?_
  refine a_nil ?_
  refine a_freeze (α := Bk _) (x := p0) (i := 0) rfl h0 ?_
  intro Hb0_0 lb0_0 hb0_0
  have h0 := Rp.mono lb0_0 h0
  refine a_en [(1, .int .i64 p1), (2, .pointer (some ⟨b0_0, 0, none⟩))] ?_
  refine a_own [] (by decide) (L' := []) rfl ?_
  refine a_then (a_seq (a_region rfl ?_))
  have h1_0 := Bk.at_b hb0_0
  refine ap (y_fieldAddr fo110_0 rfl) ?_
  have h1_1 := TunnelBook.at_Parts h1_0
  refine ap (y_fieldAddr fo25_0 rfl) ?_
  obtain ⟨v1_2, h1_2, c1_2⟩ := PAt.sl h1_1
  refine ap (y_load_one ty22 rfl (fun _ h => h.sub) rfl c1_2) ?_
  refine ap (y_move rfl) ?_
  obtain ⟨x1_4, q1_4, hm⟩ := bind_some hm
  obtain ⟨b1_4, o1_4, c1_4, e1_4, h1_4⟩ := Sl.elemZ 6 rfl h1_2 q1_4
  refine ap (y_index Tryd.underlying22 ty64 rfl e1_4 rfl (nth_in q1_4)) ?_
  have h1_5 := TunnelPart.at_Damp h1_4
  refine ap (y_fieldAddr fo64_1 rfl) ?_
  have h1_6 := Span.at_High h1_5
  refine ap (y_fieldAddr fo32_1 rfl) ?_
  refine ap (y_load_int ty3 rfl (fun _ h => h.sub) rfl h1_6) ?_
  refine ap (y_assign rfl) ?_
  refine a_nil ?_
  refine a_en [(4, .int .i64 x1_4.Damp.High)] ?_
  refine a_then (a_ret ?_)
  refine a_done (v := .int .i64 x1_4.Damp.High) (.inl rfl) rfl ?_ ?_
  · intro a_ w_ ha_ hs_; exact run_results (P := Tryd.prog) (fn := Tryd.f263) (rs := [.tmp 4]) (vs := [.int .i64 x1_4.Damp.High]) rfl (.cons (rv_tmp ha_ rfl) (All2.nil))
  · intro _ _; obtain rfl := Option.some.inj hm
    rfl

def tunnel_book_dry (k : Nat) (p0 : TunnelBook) (p1 : Int) : Option Int :=
 (nth p0.Parts p1).bind fun x1_4 =>
 some (x1_4.Damp.Low)
theorem ok_251 {k : Nat} {H : Hp} {w : World} {p0 : TunnelBook} {p1 : Int} {m0 : Option Nat} {c0 : List Value} {r : Int} (hsub : Sub H w) (h0 : Rp.rep (α := Bk m0) H c0 p0) (hm : tunnel_book_dry k p0 p1 = some r) : Calls Tryd.prog 251 [.agg c0.toArray, .int .i64 p1].toArray w (PostV w H (.int .i64 r)) := by
  unfold tunnel_book_dry at hm
  refine start (n := 13) (E := [(0, .agg c0.toArray), (1, .int .i64 p1)]) Tryd.func251 rfl rfl ⟨rfl, rfl, trivial⟩ rfl hsub ?_
  refine a_seq (a_region rfl ?_)
  refine a_cons (e_box (cs := c0) trivial rfl rfl rfl ?_)
  intro b0_0
  refine ap (y_assign rfl) ?_
  refine a_nil ?_
  refine a_freeze (α := Bk _) (x := p0) (i := 0) rfl h0 ?_
  intro Hb0_0 lb0_0 hb0_0
  have h0 := Rp.mono lb0_0 h0
  refine a_en [(1, .int .i64 p1), (2, .pointer (some ⟨b0_0, 0, none⟩))] ?_
  refine a_own [] (by decide) (L' := []) rfl ?_
  refine a_then (a_seq (a_region rfl ?_))
  have h1_0 := Bk.at_b hb0_0
  refine ap (y_fieldAddr fo110_0 rfl) ?_
  have h1_1 := TunnelBook.at_Parts h1_0
  refine ap (y_fieldAddr fo25_0 rfl) ?_
  obtain ⟨v1_2, h1_2, c1_2⟩ := PAt.sl h1_1
  refine ap (y_load_one ty22 rfl (fun _ h => h.sub) rfl c1_2) ?_
  refine ap (y_move rfl) ?_
  obtain ⟨x1_4, q1_4, hm⟩ := bind_some hm
  obtain ⟨b1_4, o1_4, c1_4, e1_4, h1_4⟩ := Sl.elemZ 6 rfl h1_2 q1_4
  refine ap (y_index Tryd.underlying22 ty64 rfl e1_4 rfl (nth_in q1_4)) ?_
  have h1_5 := TunnelPart.at_Damp h1_4
  refine ap (y_fieldAddr fo64_1 rfl) ?_
  have h1_6 := Span.at_Low h1_5
  refine ap (y_fieldAddr fo32_0 rfl) ?_
  refine ap (y_load_int ty3 rfl (fun _ h => h.sub) rfl h1_6) ?_
  refine ap (y_assign rfl) ?_
  refine a_nil ?_
  refine a_en [(4, .int .i64 x1_4.Damp.Low)] ?_
  refine a_then (a_ret ?_)
  refine a_done (v := .int .i64 x1_4.Damp.Low) (.inl rfl) rfl ?_ ?_
  · intro a_ w_ ha_ hs_; exact run_results (P := Tryd.prog) (fn := Tryd.f251) (rs := [.tmp 4]) (vs := [.int .i64 x1_4.Damp.Low]) rfl (.cons (rv_tmp ha_ rfl) (All2.nil))
  · intro _ _; obtain rfl := Option.some.inj hm
    rfl

def tunnel_sum_int_lj2 (k : Nat) (p0 : List Int) : Nat → Int → Int → Option Int
 | 0, _, _ => none
 | n_j2 + 1, yj2_3, yj2_8 =>
 bif decide (yj2_8 < (p0.length : Int)) then
 (nth p0 yj2_8).bind fun x4_0 =>
 tunnel_sum_int_lj2 k p0 n_j2 (IntKind.i64.wrap (yj2_3 + x4_0)) (IntKind.i64.wrap (yj2_8 + 1))
 else
 some (yj2_3)
def tunnel_sum_int (k : Nat) (p0 : List Int) : Option Int :=
 (tunnel_sum_int_lj2 k p0 k 0 0).bind fun yj1_3 =>
 some (yj1_3)
theorem ok_153 {k : Nat} {H : Hp} {w : World} {p0 : List Int} {v0 : Value} {r : Int} (hsub : Sub H w) (h0 : Sl (α := Int) H v0 p0) (hm : tunnel_sum_int k p0 = some r) : Calls Tryd.prog 153 [v0].toArray w (PostV w H (.int .i64 r)) := by
  unfold tunnel_sum_int at hm
  refine start (n := 17) (E := [(0, v0)]) Tryd.func153 rfl rfl ⟨rfl, trivial⟩ rfl hsub ?_
  refine a_seq (a_region rfl ?_)
  refine ap (y_assign rfl) ?_
  refine a_nil ?_
  refine a_en [(0, v0)] ?_
  refine a_then (a_seq (a_region rfl ?_))
  refine ap (y_assign rfl) ?_
  refine a_nil (a_then (a_seq (a_seq (a_region rfl ?_))))
  refine ap (y_move rfl) ?_
  refine ap (y_len_sl Tryd.underlying26 rfl h0) ?_
  refine ap (y_move rfl) ?_
  refine a_nil ?_
  refine a_en [(3, .int .i64 0), (6, v0), (7, .int .i64 (p0.length : Int)), (8, .int .i64 0)] ?_
  refine a_then ?_
  obtain ⟨s_j1, hs_j1, hm_j1⟩ := bind_some hm
  refine a_join (fun a_ w_ => ∃ (yj1_3 : Int), yj1_3 = s_j1 ∧ Ag 17 [] [(3, .int .i64 yj1_3)] a_ ∧ St (Kp.mk w H noX) H [] w_) ?_ ?_
  · have hm := hs_j1
    refine a_block ?_
    refine a_loop (fun n_j2 a_ w_ => ∃ (yj2_3 : Int), ∃ (yj2_8 : Int), tunnel_sum_int_lj2 k p0 n_j2 yj2_3 yj2_8 = some s_j1 ∧ Ag 17 [] [(3, .int .i64 yj2_3), (6, v0), (7, .int .i64 (p0.length : Int)), (8, .int .i64 yj2_8)] a_ ∧ St (Kp.mk w H noX) H [] w_) k ?_ ?_
    · intro a_ w_ ha_ hs_
      exact ⟨0, 0, hm, ha_.weaken ⟨rfl, rfl, rfl, rfl, trivial⟩, hs_.reix [] (by decide)⟩
    rintro (_ | n_j2) a_ w_ ⟨yj2_3, yj2_8, hm, ha_, hs_⟩
    · rw [tunnel_sum_int_lj2.eq_1] at hm; cases hm
    rw [tunnel_sum_int_lj2.eq_2] at hm
    refine a_start ha_ hs_ ?_
    refine a_seq (a_region rfl ?_)
    refine ap (y_lss rfl rfl) ?_
    refine a_nil (a_then (a_seq ?_))
    refine a_cond rfl (fun k_3 => ?_) (fun k_3 => ?_)
    · have hm := cond_t k_3 hm
      refine a_skip (a_then (a_seq (a_block (a_seq (a_region rfl ?_)))))
      obtain ⟨x4_0, q4_0, hm⟩ := bind_some hm
      obtain ⟨b4_0, o4_0, c4_0, e4_0, h4_0⟩ := Sl.elemZ 1 rfl h0 q4_0
      refine ap (y_index Tryd.underlying26 ty3 rfl e4_0 rfl (nth_in q4_0)) ?_
      refine ap (y_load_int ty3 rfl (fun _ h => h.sub) rfl h4_0) ?_
      refine ap (y_assign rfl) ?_
      refine a_nil ?_
      refine a_en [(3, .int .i64 yj2_3), (5, .int .i64 x4_0), (6, v0), (7, .int .i64 (p0.length : Int)), (8, .int .i64 yj2_8)] ?_
      refine a_then (a_region rfl ?_)
      refine ap (y_move rfl) ?_
      refine ap (y_move rfl) ?_
      refine ap (y_add rfl rfl) ?_
      refine ap (y_assign rfl) ?_
      refine a_nil ?_
      refine a_en [(3, .int .i64 (IntKind.i64.wrap (yj2_3 + x4_0))), (6, v0), (7, .int .i64 (p0.length : Int)), (8, .int .i64 yj2_8)] ?_
      refine a_block_normal (a_then (a_region rfl ?_))
      refine ap (y_add rfl rfl) ?_
      refine ap (y_move rfl) ?_
      refine a_nil ?_
      refine a_en [(3, .int .i64 (IntKind.i64.wrap (yj2_3 + x4_0))), (6, v0), (7, .int .i64 (p0.length : Int)), (8, .int .i64 (IntKind.i64.wrap (yj2_8 + 1)))] ?_
      refine a_then ?_
      intro a_ w_ ha_ hs_
      exact ⟨n_j2, Nat.lt_succ_self _, IntKind.i64.wrap (yj2_3 + x4_0), IntKind.i64.wrap (yj2_8 + 1), hm, ha_.weaken ⟨rfl, rfl, rfl, rfl, trivial⟩, hs_.reix [] (by decide)⟩
    have hm := cond_f k_3 hm
    refine a_exit (a_then_exit (a_then_exit (a_block_hit (a_cut ?_))))
    intro a_ w_ ha_ hs_
    exact ⟨yj2_3, Option.some.inj hm, ha_.weaken ⟨rfl, trivial⟩, hs_.reix [] (by decide)⟩
  have hm := hm_j1
  rintro a_ w_ ⟨yj1_3, rfl, ha_, hs_⟩
  try dsimp only at hm
  refine a_start ha_ hs_ ?_
  refine a_then (a_seq (a_region rfl ?_))
  refine ap (y_move rfl) ?_
  refine ap (y_assign rfl) ?_
  refine a_nil ?_
  refine a_en [(2, .int .i64 yj1_3)] ?_
  refine a_then (a_ret ?_)
  refine a_done (v := .int .i64 yj1_3) (.inl rfl) rfl ?_ ?_
  · intro a_ w_ ha_ hs_; exact run_results (P := Tryd.prog) (fn := Tryd.f153) (rs := [.tmp 2]) (vs := [.int .i64 yj1_3]) rfl (.cons (rv_tmp ha_ rfl) (All2.nil))
  · intro _ _; obtain rfl := Option.some.inj hm
    rfl

def tunnel_book_dries_lj7 (k : Nat) (p0 : TunnelBook) (p1 : TunnelDrying) (x11_5 : TunnelFrame) : Nat → (List Int) → Int → Option (List Int)
 | 0, _, _ => none
 | n_j7 + 1, yj7_10, yj7_41 =>
 bif decide (yj7_41 < (x11_5.Stay.length : Int)) then
 (nth x11_5.Stay yj7_41).bind fun x13_1 =>
 (nth p1.set_ yj7_41).bind fun x14_8 =>
 (nth p0.Parts yj7_41).bind fun x14_10 =>
 (nth x14_10.Heat x14_8).bind fun x14_12 =>
 (tunnel_book_wet k p0 yj7_41).bind fun x14_17 =>
 (app yj7_10 [IntKind.i64.wrap (x13_1 * (max 0 (IntKind.i64.wrap (x14_12 - x14_17))))]).bind fun x14_22 =>
 tunnel_book_dries_lj7 k p0 p1 x11_5 n_j7 x14_22 (IntKind.i64.wrap (yj7_41 + 1))
 else
 some (yj7_10)
def tunnel_book_dries_lj10 (k : Nat) (p0 : TunnelBook) (p1 : TunnelDrying) (x11_5 : TunnelFrame) : Nat → (List Int) → Int → Option (List Int)
 | 0, _, _ => none
 | n_j10 + 1, yj10_10, yj10_41 =>
 bif decide (yj10_41 < (x11_5.Stay.length : Int)) then
 (nth x11_5.Stay yj10_41).bind fun x13_1 =>
 (nth p1.set_ yj10_41).bind fun x14_8 =>
 (nth p0.Parts yj10_41).bind fun x14_10 =>
 (nth x14_10.Heat x14_8).bind fun x14_12 =>
 (tunnel_book_dry k p0 yj10_41).bind fun x14_17 =>
 (app yj10_10 [IntKind.i64.wrap (x13_1 * (max 0 (IntKind.i64.wrap (x14_12 - x14_17))))]).bind fun x14_22 =>
 tunnel_book_dries_lj10 k p0 p1 x11_5 n_j10 x14_22 (IntKind.i64.wrap (yj10_41 + 1))
 else
 some (yj10_10)
def tunnel_book_dries_lj4 (k : Nat) (p0 : TunnelBook) (p1 : TunnelDrying) : Nat → (List Int) → Int → Option (List Int)
 | 0, _, _ => none
 | n_j4 + 1, yj4_b6_0, yj4_28 =>
 bif decide (yj4_28 < 2) then
 (nth [(0 : Int), 1] yj4_28).bind fun x9_1 =>
 bif x9_1 == 0 then
 (nth p0.Frames p1.frame).bind fun x11_5 =>
 (tunnel_book_dries_lj7 k p0 p1 x11_5 k ([] : List Int) 0).bind fun yj6_10 =>
 (tunnel_sum_int k yj6_10).bind fun x16_2 =>
 (nth yj4_b6_0 yj4_28).bind fun x16_3 =>
 tunnel_book_dries_lj4 k p0 p1 n_j4 ((yj4_b6_0).set (yj4_28).toNat x16_2) (IntKind.i64.wrap (yj4_28 + 1))
 else
 (nth p0.Frames p1.frame).bind fun x11_5 =>
 (tunnel_book_dries_lj10 k p0 p1 x11_5 k ([] : List Int) 0).bind fun yj9_10 =>
 (tunnel_sum_int k yj9_10).bind fun x16_2 =>
 (nth yj4_b6_0 yj4_28).bind fun x16_3 =>
 tunnel_book_dries_lj4 k p0 p1 n_j4 ((yj4_b6_0).set (yj4_28).toNat x16_2) (IntKind.i64.wrap (yj4_28 + 1))
 else
 some (yj4_b6_0)
def tunnel_book_dries (k : Nat) (p0 : TunnelBook) (p1 : TunnelDrying) : Option Span :=
 bif decide (p1 = none0) then
 some ((⟨0, 0⟩ : Span))
 else
 (tunnel_book_dries_lj4 k p0 p1 k [0, 0] 0).bind fun yj3_b6_0 =>
 (nth yj3_b6_0 (0 : Int)).bind fun x18_0 =>
 (nth yj3_b6_0 (1 : Int)).bind fun x18_2 =>
 some ((⟨x18_0, x18_2⟩ : Span))
theorem wrapS {n : Int} (h0 : 0 ≤ n) (h1 : n ≤ 9223372036854775807) : IntKind.i64.wrap n = n := by rw [IntKind.wrap_i64]; omega
theorem nth_mid {α : Type} (pre : List α) (x : α) (l : List α) : nth (pre ++ x :: l) (pre.length : Int) = some x := by simp [nth]
theorem bindE {α β : Type} {o : Option α} {x : α} {f : α → Option β} (h : o = some x) : o.bind f = f x := by rw [h]; rfl
theorem dec_t {p : Prop} [Decidable p] {α : Type} {a b : α} (h : p) : (bif decide p then a else b) = a := by simp [h]
theorem dec_f {p : Prop} [Decidable p] {α : Type} {a b : α} (h : ¬ p) : (bif decide p then a else b) = b := by simp [h]
theorem sum_run (k : Nat) : ∀ (l pre : List Int) (acc : Int) (n : Nat), (pre ++ l).length ≤ capBound → l.length < n → tunnel_sum_int_lj2 k (pre ++ l) n acc pre.length = some (l.foldl (fun a n => IntKind.i64.wrap (a + n)) acc)
  | [], pre, acc, 0, _, h => by simp at h
  | [], pre, acc, n + 1, _, h => by rw [tunnel_sum_int_lj2, dec_f (by simp)]; rfl
  | x :: l, pre, acc, 0, _, h => by simp at h
  | x :: l, pre, acc, n + 1, hc, h => by
    rw [tunnel_sum_int_lj2, dec_t (by simp; omega), bindE (nth_mid pre x l)]
    have hc' : (pre ++ [x] ++ l).length ≤ capBound := by simpa using hc
    have hb : (pre.length : Int) + 1 ≤ 1048576 := by simp [capBound] at hc; omega
    rw [wrapS (n := (pre.length : Int) + 1) (by omega) (by omega)]
    have := sum_run k l (pre ++ [x]) (IntKind.i64.wrap (acc + x)) n hc' (by simpa using h)
    simp only [List.append_assoc, List.singleton_append, List.length_append, List.length_singleton, Int.natCast_add] at this
    exact this
theorem sum_ok (k : Nat) (l : List Int) (hc : l.length ≤ capBound) (h : l.length < k) : tunnel_sum_int k l = some (sumW l) := by
  have : tunnel_sum_int_lj2 k l k 0 0 = some (sumW l) := sum_run k l [] 0 k (by simpa using hc) h
  unfold tunnel_sum_int
  rw [bindE this]
theorem app_one {l : List Int} {x : Int} (h : l.length + 1 ≤ capBound) : app l [x] = some (l ++ [x]) := by simp [app, h]
theorem dryTerm_some {b : TunnelBook} {set : List Int} {most : Bool} {j n t : Int} (h : dryTerm b set most j n = some t) : ∃ p s h', nth b.Parts j = some p ∧ nth set j = some s ∧ nth p.Heat s = some h' ∧ t = IntKind.i64.wrap (n * max 0 (IntKind.i64.wrap (h' - bif most then p.Damp.Low else p.Damp.High))) := by
  unfold dryTerm at h
  obtain ⟨p, hp, h⟩ := bind_some h
  obtain ⟨s, hs, h⟩ := bind_some h
  obtain ⟨h', hh, h⟩ := bind_some h
  exact ⟨p, s, h', hp, hs, hh, (Option.some.inj h).symm⟩
theorem dries7 (k : Nat) (b : TunnelBook) (x : TunnelDrying) (fr : TunnelFrame) : ∀ (l pre acc r : List Int) (n : Nat), fr.Stay = pre ++ l → (pre ++ l).length ≤ capBound → acc.length = pre.length → l.length < n → dryList b x.set_ false pre.length l = some r →
    tunnel_book_dries_lj7 k b x fr n acc pre.length = some (acc ++ r)
  | [], pre, acc, r, 0, _, _, _, h, _ => by simp at h
  | [], pre, acc, r, n + 1, hs, _, _, h, hr => by
    rw [tunnel_book_dries_lj7, hs, dec_f (by simp)]
    simp [dryList] at hr; subst hr; simp
  | y :: l, pre, acc, r, 0, _, _, _, h, _ => by simp at h
  | y :: l, pre, acc, r, n + 1, hs, hc, ha, h, hr => by
    rw [dryList] at hr
    obtain ⟨t, ht, hr⟩ := bind_some hr
    obtain ⟨r', hr', hr⟩ := bind_some hr
    cases hr
    obtain ⟨p, s, h', hp, hs', hh, rfl⟩ := dryTerm_some ht
    have hb : (pre.length : Int) + 1 ≤ 1048576 := by simp [capBound] at hc; omega
    rw [tunnel_book_dries_lj7, hs, dec_t (by simp; omega), bindE (nth_mid pre y l), bindE hs', bindE hp, bindE hh]
    have hw : tunnel_book_wet k b pre.length = some p.Damp.High := by unfold tunnel_book_wet; rw [bindE hp]
    rw [bindE hw, bindE (app_one (by simp [capBound] at hc ⊢; omega)), wrapS (n := (pre.length : Int) + 1) (by omega) (by omega)]
    have := dries7 k b x fr l (pre ++ [y]) (acc ++ [IntKind.i64.wrap (y * max 0 (IntKind.i64.wrap (h' - bif false then p.Damp.Low else p.Damp.High)))]) r' n (by simpa using hs) (by simpa using hc) (by simp [ha]) (by simpa using h) (by simpa using hr')
    simp only [List.append_assoc, List.singleton_append, List.length_append, List.length_singleton, Int.natCast_add, cond_false] at this ⊢
    exact this
theorem dries10 (k : Nat) (b : TunnelBook) (x : TunnelDrying) (fr : TunnelFrame) : ∀ (l pre acc r : List Int) (n : Nat), fr.Stay = pre ++ l → (pre ++ l).length ≤ capBound → acc.length = pre.length → l.length < n → dryList b x.set_ true pre.length l = some r →
    tunnel_book_dries_lj10 k b x fr n acc pre.length = some (acc ++ r)
  | [], pre, acc, r, 0, _, _, _, h, _ => by simp at h
  | [], pre, acc, r, n + 1, hs, _, _, h, hr => by
    rw [tunnel_book_dries_lj10, hs, dec_f (by simp)]
    simp [dryList] at hr; subst hr; simp
  | y :: l, pre, acc, r, 0, _, _, _, h, _ => by simp at h
  | y :: l, pre, acc, r, n + 1, hs, hc, ha, h, hr => by
    rw [dryList] at hr
    obtain ⟨t, ht, hr⟩ := bind_some hr
    obtain ⟨r', hr', hr⟩ := bind_some hr
    cases hr
    obtain ⟨p, s, h', hp, hs', hh, rfl⟩ := dryTerm_some ht
    have hb : (pre.length : Int) + 1 ≤ 1048576 := by simp [capBound] at hc; omega
    rw [tunnel_book_dries_lj10, hs, dec_t (by simp; omega), bindE (nth_mid pre y l), bindE hs', bindE hp, bindE hh]
    have hw : tunnel_book_dry k b pre.length = some p.Damp.Low := by unfold tunnel_book_dry; rw [bindE hp]
    rw [bindE hw, bindE (app_one (by simp [capBound] at hc ⊢; omega)), wrapS (n := (pre.length : Int) + 1) (by omega) (by omega)]
    have := dries10 k b x fr l (pre ++ [y]) (acc ++ [IntKind.i64.wrap (y * max 0 (IntKind.i64.wrap (h' - bif true then p.Damp.Low else p.Damp.High)))]) r' n (by simpa using hs) (by simpa using hc) (by simp [ha]) (by simpa using h) (by simpa using hr')
    simp only [List.append_assoc, List.singleton_append, List.length_append, List.length_singleton, Int.natCast_add, cond_true] at this ⊢
    exact this
theorem dryList_len {b : TunnelBook} {set : List Int} {most : Bool} : ∀ {l r : List Int} {j : Int}, dryList b set most j l = some r → r.length = l.length
  | [], r, j, h => by simp [dryList] at h; subst h; rfl
  | x :: l, r, j, h => by
    rw [dryList] at h
    obtain ⟨t, _, h⟩ := bind_some h
    obtain ⟨r', hr', h⟩ := bind_some h
    cases h; simp [dryList_len hr']
theorem dries_raw {b : TunnelBook} {x : TunnelDrying} {r : Span} (h : dryPure b x = some r) : ∃ k, tunnel_book_dries k b x = some r := by
  unfold dryPure at h
  by_cases hx : x = none0
  · rw [dec_t hx] at h
    exact ⟨0, by unfold tunnel_book_dries; rw [dec_t hx]; exact h⟩
  · rw [dec_f hx] at h
    obtain ⟨f, hf, h⟩ := bind_some h
    by_cases hc : f.Stay.length ≤ capBound
    · rw [dec_t hc] at h
      obtain ⟨l, hl, h⟩ := bind_some h
      obtain ⟨m, hm, h⟩ := bind_some h
      cases h
      refine ⟨f.Stay.length + 3, ?_⟩
      have e7 : ∀ k, tunnel_book_dries_lj7 k b x f (f.Stay.length + 3) [] 0 = some l := fun k => dries7 k b x f f.Stay [] [] l (f.Stay.length + 3) rfl (by simpa using hc) rfl (by omega) hl
      have e10 : ∀ k, tunnel_book_dries_lj10 k b x f (f.Stay.length + 3) [] 0 = some m := fun k => dries10 k b x f f.Stay [] [] m (f.Stay.length + 3) rfl (by simpa using hc) rfl (by omega) hm
      have s1 := fun k (hk : l.length < k) => sum_ok k l (by rw [dryList_len hl]; exact hc) hk
      have s2 := fun k (hk : m.length < k) => sum_ok k m (by rw [dryList_len hm]; exact hc) hk
      have e0 : tunnel_book_dries_lj4 (f.Stay.length + 3) b x (f.Stay.length + 3) [0, 0] 0 = some [sumW l, sumW m] := by
        rw [tunnel_book_dries_lj4, dec_t (by decide), bindE (show nth [(0 : Int), 1] 0 = some 0 from rfl)]
        rw [show ((0 : Int) == 0) = true from rfl, cond_true, bindE hf, bindE (e7 _), bindE (s1 _ (by rw [dryList_len hl]; omega)), bindE (show nth [(0 : Int), 0] 0 = some 0 from rfl)]
        rw [show IntKind.i64.wrap (0 + 1) = 1 from rfl, tunnel_book_dries_lj4, dec_t (by decide), bindE (show nth [(0 : Int), 1] 1 = some 1 from rfl)]
        rw [show ((1 : Int) == 0) = false from rfl, cond_false, bindE hf, bindE (e10 _), bindE (s2 _ (by rw [dryList_len hm]; omega)), bindE (show nth ([(0 : Int), 0].set (0 : Int).toNat (sumW l)) 1 = some 0 from rfl)]
        rw [show IntKind.i64.wrap (1 + 1) = 2 from rfl, tunnel_book_dries_lj4, dec_f (by decide)]; rfl
      unfold tunnel_book_dries
      rw [dec_f hx, bindE e0]; rfl
    · rw [dec_f hc] at h; cases h

theorem ok_89 {H : Hp} {w : World} {p0 : TunnelBook} {p1 : TunnelDrying} {M0 : Nat} {c0 : List Value} {c1 : List Value} {r : Span} (hsub : Sub H w) (h0 : Rp.rep (α := Bk (some M0)) H c0 p0) (h1 : Rp.rep (α := TunnelDrying) H c1 p1) (hg : Glob H) (hM : ∃ o, w.heap[M0]? = some o ∧ Memo p0 o) (hMn : H M0 = none) (hm : dryPure p0 p1 = some r) : Calls Tryd.prog 89 [.agg c0.toArray, .agg c1.toArray].toArray w (PostM w H M0 (Memo p0) fun v H' => v = .agg r.cells.toArray) := by
  have hmp := hm
  obtain ⟨k, hm⟩ := dries_raw hm
  unfold tunnel_book_dries at hm
  refine startM (n := 85) (E := [(0, .agg c0.toArray), (1, .agg c1.toArray)]) Tryd.func89 rfl rfl ⟨rfl, rfl, trivial⟩ rfl hsub hM hMn ?_
  refine a_seq (a_region rfl ?_)
  refine a_cons (e_box (cs := c0) trivial rfl rfl rfl ?_)
  intro b0_0
  refine a_cons (e_box (cs := c1) trivial rfl rfl rfl ?_)
  intro b0_1
  refine a_cons (e_alloc (cs := [.int .i64 0, .int .i64 0]) trivial rfl ty32 rfl ?_)
  intro b0_2
  refine a_nil ?_
  refine a_freeze (α := TunnelDrying) (x := p1) (i := 1) rfl h1 ?_
  intro Hb0_1 lb0_1 hb0_1
  have h0 := Rp.mono lb0_1 h0
  have h1 := Rp.mono lb0_1 h1
  have hg := Glob.mono lb0_1 hg
  refine a_freeze (α := Bk _) (x := p0) (i := 2) rfl h0 ?_
  intro Hb0_0 lb0_0 hb0_0
  have h0 := Rp.mono lb0_0 h0
  have h1 := Rp.mono lb0_0 h1
  have hb0_1 := PAt.mono lb0_0 hb0_1
  have hg := Glob.mono lb0_0 hg
  refine a_en [(2, .pointer (some ⟨b0_0, 0, none⟩)), (3, .pointer (some ⟨b0_1, 0, none⟩)), (4, .pointer (some ⟨b0_2, 0, none⟩))] ?_
  refine a_own [0, 3] (by decide) (L' := [.box b0_2 [.int .i64 0, .int .i64 0] 32, .blk M0 (Memo p0)]) rfl ?_
  refine a_then (a_seq (a_seq (a_region rfl ?_)))
  obtain ⟨u1_0, h1_0, c1_0⟩ := PAt.one hb0_1
  refine ap (y_load_cells ty120 rfl (fun _ h => h.sub) rfl c1_0 (Rp.len h1_0)) ?_
  obtain ⟨u1_1, h1_1, c1_1⟩ := PAt.one hg.none
  refine ap (y_load_cells ty120 rfl (fun _ h => h.sub) rfl c1_1 (Rp.len h1_1)) ?_
  refine ap (y_eq120_eql rfl rfl h1_0 h1_1) ?_
  refine a_nil ?_
  refine a_en [(2, .pointer (some ⟨b0_0, 0, none⟩)), (3, .pointer (some ⟨b0_1, 0, none⟩)), (4, .pointer (some ⟨b0_2, 0, none⟩)), (16, .bool (decide (p1 = none0)))] ?_
  refine a_then ?_
  refine a_cond rfl (fun k_1 => ?_) (fun k_1 => ?_)
  · have hm := cond_t k_1 hm
    refine a_seq (a_region rfl ?_)
    have m2_0 : Rp.rep Hb0_0 [.int .i64 0, .int .i64 0] (⟨0, 0⟩ : Span) := ⟨_, _, rfl, rfl, rfl⟩
    refine ap (y_build_lit (pl := [(0, 1), (1, 1)]) (xs := []) (cs := [.int .i64 0, .int .i64 0].toArray) ty32 (.cons ⟨rfl, ty3.szOf⟩ (.cons ⟨rfl, ty3.szOf⟩ (All2.nil))) rfl rfl rfl) ?_
    refine a_cons (e_storeWhole (i := 0) (ds := [.int .i64 0, .int .i64 0]) trivial ty32 rfl rfl rfl rfl rfl ((Rp.one m2_0)) rfl ?_)
    refine a_nil ?_
    refine a_en [(4, .pointer (some ⟨b0_2, 0, none⟩))] ?_
    refine a_then (a_ret (a_then_ret ?_))
    obtain rfl := Option.some.inj hm
    exact a_doneM (i := 1) (v := .agg [.int .i64 0, .int .i64 0].toArray) (.inl rfl) rfl rfl (fun a_ w_ ha_ hs_ => run_results (P := Tryd.prog) (fn := Tryd.f89) (rs := [.cell 4 32]) (vs := [.agg [.int .i64 0, .int .i64 0].toArray]) rfl (.cons (rv_cell ha_ rfl (run_loadSt (i := 0) ty32 rfl hs_ rfl rfl)) (All2.nil))) (by rw [Span.rep_eq m2_0])
  have hm := cond_f k_1 hm
  refine a_skip (a_then (a_seq (a_seq (a_region rfl ?_))))
  refine ap (y_fieldAddr fo110_1 rfl) ?_
  refine ap (y_load_one ty108 rfl (fun _ h => h.sub) rfl (Bk.at_m hb0_0)) ?_
  obtain ⟨u3_2, h3_2, c3_2⟩ := PAt.one hb0_1
  refine ap (y_load_cells ty120 rfl (fun _ h => h.sub) rfl c3_2 (Rp.len h3_2)) ?_
  refine a_cons (e_lookupD (i := 1) trivial rfl rfl rfl rfl h3_2 ?_)
  intro s3_3 f3_3 hf3_3
  refine ap (y_move rfl) ?_
  refine ap (y_extract rfl rfl) ?_
  refine ap (y_extract rfl rfl) ?_
  refine a_cons (e_alloc (cs := [.int .i64 0, .int .i64 0]) trivial rfl ty32 rfl ?_)
  intro b3_7
  refine a_cons (e_storeWhole (i := 0) (ds := s3_3.cells) trivial ty32 rfl rfl rfl rfl rfl ((Rp.one (Span.rep_mk (fun _ => none) s3_3))) rfl ?_)
  refine ap (y_assign rfl) ?_
  refine a_nil ?_
  refine a_freeze (α := Span) (x := s3_3) (i := 0) rfl (Span.rep_mk _ s3_3) ?_
  intro Hb3_7 lb3_7 hb3_7
  have hb0_0 := PAt.mono lb3_7 hb0_0
  have hb0_1 := PAt.mono lb3_7 hb0_1
  have h3_2 := Rp.mono lb3_7 h3_2
  have hg := Glob.mono lb3_7 hg
  refine a_en [(2, .pointer (some ⟨b0_0, 0, none⟩)), (3, .pointer (some ⟨b0_1, 0, none⟩)), (4, .pointer (some ⟨b0_2, 0, none⟩)), (5, .pointer (some ⟨b3_7, 0, none⟩)), (6, .bool f3_3)] ?_
  refine a_own [1, 2] (by decide) (L' := [.box b0_2 [.int .i64 0, .int .i64 0] 32, .blk M0 (Memo p0)]) rfl ?_
  refine a_then (a_seq (a_region rfl ?_))
  refine ap (y_move rfl) ?_
  refine a_nil ?_
  refine a_en [(2, .pointer (some ⟨b0_0, 0, none⟩)), (3, .pointer (some ⟨b0_1, 0, none⟩)), (4, .pointer (some ⟨b0_2, 0, none⟩)), (5, .pointer (some ⟨b3_7, 0, none⟩)), (25, .bool f3_3)] ?_
  refine a_then ?_
  refine a_cond rfl (fun k_2 => ?_) (fun k_2 => ?_)
  · have hm := (hf3_3 k_2).symm.trans hmp
    refine a_seq (a_region rfl ?_)
    obtain ⟨u5_0, h5_0, c5_0⟩ := PAt.one hb3_7
    refine ap (y_load_cells ty32 rfl (fun _ h => h.sub) rfl c5_0 (Rp.len h5_0)) ?_
    refine a_cons (e_storeWhole (i := 0) (ds := u5_0) trivial ty32 rfl rfl rfl rfl (Rp.len h5_0) ((Rp.one h5_0)) rfl ?_)
    refine a_nil ?_
    refine a_en [(4, .pointer (some ⟨b0_2, 0, none⟩))] ?_
    refine a_then (a_ret (a_then_ret ?_))
    obtain rfl := Option.some.inj hm
    exact a_doneM (i := 1) (v := .agg u5_0.toArray) (.inl rfl) rfl rfl (fun a_ w_ ha_ hs_ => run_results (P := Tryd.prog) (fn := Tryd.f89) (rs := [.cell 4 32]) (vs := [.agg u5_0.toArray]) rfl (.cons (rv_cell ha_ rfl (run_loadSt (i := 0) ty32 rfl hs_ rfl (Rp.len h5_0))) (All2.nil))) (by rw [Span.rep_eq h5_0])
  refine a_skip (a_then (a_seq (a_region rfl ?_)))
  refine a_cons (e_alloc (cs := [.int .i64 0, .int .i64 0]) trivial rfl ty47 rfl ?_)
  intro b6_0
  have mz6_0 : Rp.rep (α := Arr 2 Int) Hb3_7 [.int .i64 0, .int .i64 0] [0, 0] := ⟨(RepL.cons (c := [_]) rfl (RepL.cons (c := [_]) rfl RepL.nil)), rfl⟩
  refine a_nil ?_
  refine a_en [(2, .pointer (some ⟨b0_0, 0, none⟩)), (3, .pointer (some ⟨b0_1, 0, none⟩)), (4, .pointer (some ⟨b0_2, 0, none⟩)), (7, .pointer (some ⟨b6_0, 0, none⟩))] ?_
  refine a_then (a_seq (a_seq (a_region rfl ?_)))
  refine ap (y_load_cells ty212 rfl (fun _ h => h.sub) rfl hg.ends rfl) ?_
  refine ap (y_move rfl) ?_
  refine a_nil (a_then ?_)
  obtain ⟨s_j3, hs_j3, hm_j3⟩ := bind_some hm
  refine a_join (fun a_ w_ => ∃ (Hj3 : Hp), ∃ (_ : HLe Hb3_7 Hj3), ∃ (yj3_b6_0 : List Int), ∃ (uj3_b6_0 : List Value), yj3_b6_0 = s_j3 ∧ Rp.rep (α := Arr 2 Int) Hj3 uj3_b6_0 yj3_b6_0 ∧ Ag 85 [] [(2, .pointer (some ⟨b0_0, 0, none⟩)), (3, .pointer (some ⟨b0_1, 0, none⟩)), (4, .pointer (some ⟨b0_2, 0, none⟩)), (7, .pointer (some ⟨b6_0, 0, none⟩))] a_ ∧ St (Kp.mk w H (· = M0)) Hj3 ([.blk M0 (Memo p0), .box b0_2 [.int .i64 0, .int .i64 0] 32, .box b6_0 uj3_b6_0 47]) w_) ?_ ?_
  · have hm := hs_j3
    refine a_block ?_
    refine a_loop (fun n_j4 a_ w_ => ∃ (Hj4 : Hp), ∃ (_ : HLe Hb3_7 Hj4), ∃ (yj4_b6_0 : List Int), ∃ (yj4_28 : Int), ∃ (uj4_b6_0 : List Value), tunnel_book_dries_lj4 k p0 p1 n_j4 yj4_b6_0 yj4_28 = some s_j3 ∧ Rp.rep (α := Arr 2 Int) Hj4 uj4_b6_0 yj4_b6_0 ∧ Ag 85 [] [(2, .pointer (some ⟨b0_0, 0, none⟩)), (3, .pointer (some ⟨b0_1, 0, none⟩)), (4, .pointer (some ⟨b0_2, 0, none⟩)), (7, .pointer (some ⟨b6_0, 0, none⟩)), (27, .agg #[.func (.func 263) #[] #[], .func (.func 251) #[] #[]]), (28, .int .i64 yj4_28)] a_ ∧ St (Kp.mk w H (· = M0)) Hj4 ([.blk M0 (Memo p0), .box b0_2 [.int .i64 0, .int .i64 0] 32, .box b6_0 uj4_b6_0 47]) w_) k ?_ ?_
    · intro a_ w_ ha_ hs_
      exact ⟨Hb3_7, (HLe.refl _), [0, 0], 0, [.int .i64 0, .int .i64 0], hm, mz6_0, ha_.weaken ⟨rfl, rfl, rfl, rfl, rfl, rfl, trivial⟩, hs_.reix [2, 1, 0] (by decide)⟩
    rintro (_ | n_j4) a_ w_ ⟨Hj4, lj4, yj4_b6_0, yj4_28, uj4_b6_0, hm, hj4_b6_0, ha_, hs_⟩
    · rw [tunnel_book_dries_lj4.eq_1] at hm; cases hm
    rw [tunnel_book_dries_lj4.eq_2] at hm
    refine a_start ha_ hs_ ?_
    have hb0_0 := PAt.mono lj4 hb0_0
    have hb0_1 := PAt.mono lj4 hb0_1
    have hg := Glob.mono lj4 hg
    refine a_seq (a_region rfl ?_)
    refine ap (y_lss rfl rfl) ?_
    refine a_nil (a_then (a_seq ?_))
    refine a_cond rfl (fun k_5 => ?_) (fun k_5 => ?_)
    · have hm := cond_t k_5 hm
      refine a_skip (a_then (a_seq (a_block (a_seq (a_region rfl ?_)))))
      refine ap (y_move rfl) ?_
      obtain ⟨x9_1, q9_1, hm⟩ := bind_some hm
      rcases Bool.eq_false_or_eq_true (x9_1 == 0) with k9_1 | k9_1
      · have hm := cond_t k9_1 hm
        refine ap (y_index_fns rfl rfl q9_1 k9_1 rfl) ?_
        refine ap (y_assign rfl) ?_
        refine ap (y_assign rfl) ?_
        refine a_nil ?_
        refine a_en [(2, .pointer (some ⟨b0_0, 0, none⟩)), (3, .pointer (some ⟨b0_1, 0, none⟩)), (4, .pointer (some ⟨b0_2, 0, none⟩)), (7, .pointer (some ⟨b6_0, 0, none⟩)), (8, .int .i64 yj4_28), (9, .func (.func 263) #[] #[]), (27, .agg #[.func (.func 263) #[] #[], .func (.func 251) #[] #[]]), (28, .int .i64 yj4_28)] ?_
        refine a_then (a_seq (a_region rfl ?_))
        refine ap (y_assign rfl) ?_
        refine a_nil (a_then (a_seq (a_seq (a_region rfl ?_))))
        have h11_0 := Bk.at_b hb0_0
        refine ap (y_fieldAddr fo110_0 rfl) ?_
        have h11_1 := TunnelBook.at_Frames h11_0
        refine ap (y_fieldAddr fo25_1 rfl) ?_
        obtain ⟨v11_2, h11_2, c11_2⟩ := PAt.sl h11_1
        refine ap (y_load_one ty23 rfl (fun _ h => h.sub) rfl c11_2) ?_
        have h11_3 := TunnelDrying.at_frame hb0_1
        refine ap (y_fieldAddr fo120_0 rfl) ?_
        refine ap (y_load_int ty3 rfl (fun _ h => h.sub) rfl h11_3) ?_
        obtain ⟨x11_5, q11_5, hm⟩ := bind_some hm
        obtain ⟨b11_5, o11_5, c11_5, e11_5, h11_5⟩ := Sl.elemZ 3 rfl h11_2 q11_5
        refine ap (y_index Tryd.underlying23 ty55 rfl e11_5 rfl (nth_in q11_5)) ?_
        have h11_6 := TunnelFrame.at_Stay h11_5
        refine ap (y_fieldAddr fo55_0 rfl) ?_
        obtain ⟨v11_7, h11_7, c11_7⟩ := PAt.sl h11_6
        refine ap (y_load_one ty26 rfl (fun _ h => h.sub) rfl c11_7) ?_
        refine ap (y_len_sl Tryd.underlying26 rfl h11_7) ?_
        refine ap (y_move rfl) ?_
        refine a_nil ?_
        refine a_en [(2, .pointer (some ⟨b0_0, 0, none⟩)), (3, .pointer (some ⟨b0_1, 0, none⟩)), (4, .pointer (some ⟨b0_2, 0, none⟩)), (7, .pointer (some ⟨b6_0, 0, none⟩)), (8, .int .i64 yj4_28), (9, .func (.func 263) #[] #[]), (10, .slice none 0 0), (27, .agg #[.func (.func 263) #[] #[], .func (.func 251) #[] #[]]), (28, .int .i64 yj4_28), (39, v11_7), (40, .int .i64 (x11_5.Stay.length : Int)), (41, .int .i64 0)] ?_
        refine a_then ?_
        obtain ⟨s_j6, hs_j6, hm_j6⟩ := bind_some hm
        refine a_join (fun a_ w_ => ∃ (yj6_10 : List Int), ∃ (vj6_10 : Value), ∃ (uj6_10 : List Value), yj6_10 = s_j6 ∧ RepL (α := Int) Hj4 uj6_10 yj6_10 ∧ Ag 85 [] [(2, .pointer (some ⟨b0_0, 0, none⟩)), (3, .pointer (some ⟨b0_1, 0, none⟩)), (4, .pointer (some ⟨b0_2, 0, none⟩)), (7, .pointer (some ⟨b6_0, 0, none⟩)), (8, .int .i64 yj4_28), (10, vj6_10), (27, .agg #[.func (.func 263) #[] #[], .func (.func 251) #[] #[]]), (28, .int .i64 yj4_28)] a_ ∧ St (Kp.mk w H (· = M0)) Hj4 ([.blk M0 (Memo p0), .box b0_2 [.int .i64 0, .int .i64 0] 32, .box b6_0 uj4_b6_0 47, .row vj6_10 uj6_10 3 1]) w_) ?_ ?_
        · have hm := hs_j6
          refine a_block ?_
          refine a_loop (fun n_j7 a_ w_ => ∃ (yj7_10 : List Int), ∃ (yj7_41 : Int), ∃ (vj7_10 : Value), ∃ (uj7_10 : List Value), tunnel_book_dries_lj7 k p0 p1 x11_5 n_j7 yj7_10 yj7_41 = some s_j6 ∧ RepL (α := Int) Hj4 uj7_10 yj7_10 ∧ Ag 85 [] [(2, .pointer (some ⟨b0_0, 0, none⟩)), (3, .pointer (some ⟨b0_1, 0, none⟩)), (4, .pointer (some ⟨b0_2, 0, none⟩)), (7, .pointer (some ⟨b6_0, 0, none⟩)), (8, .int .i64 yj4_28), (9, .func (.func 263) #[] #[]), (10, vj7_10), (27, .agg #[.func (.func 263) #[] #[], .func (.func 251) #[] #[]]), (28, .int .i64 yj4_28), (39, v11_7), (40, .int .i64 (x11_5.Stay.length : Int)), (41, .int .i64 yj7_41)] a_ ∧ St (Kp.mk w H (· = M0)) Hj4 ([.blk M0 (Memo p0), .box b0_2 [.int .i64 0, .int .i64 0] 32, .box b6_0 uj4_b6_0 47, .row vj7_10 uj7_10 3 1]) w_) k ?_ ?_
          · refine a_nilrow (x := none) (T := 3) (sz := 1) ?_
            have hzrj7_10 : RepL (α := Int) Hj4 [] [] := RepL.nil
            intro a_ w_ ha_ hs_
            exact ⟨([] : List Int), 0, .slice none 0 0, [], hm, hzrj7_10, ha_.weaken ⟨rfl, rfl, rfl, rfl, rfl, rfl, rfl, rfl, rfl, rfl, rfl, rfl, trivial⟩, hs_.reix [1, 2, 3, 0] (by decide)⟩
          rintro (_ | n_j7) a_ w_ ⟨yj7_10, yj7_41, vj7_10, uj7_10, hm, hj7_10, ha_, hs_⟩
          · rw [tunnel_book_dries_lj7.eq_1] at hm; cases hm
          rw [tunnel_book_dries_lj7.eq_2] at hm
          refine a_start ha_ hs_ ?_
          refine a_seq (a_region rfl ?_)
          refine ap (y_lss rfl rfl) ?_
          refine a_nil (a_then (a_seq ?_))
          refine a_cond rfl (fun k_8 => ?_) (fun k_8 => ?_)
          · have hm := cond_t k_8 hm
            refine a_skip (a_then (a_seq (a_block (a_seq (a_region rfl ?_)))))
            refine ap (y_move rfl) ?_
            obtain ⟨x13_1, q13_1, hm⟩ := bind_some hm
            obtain ⟨b13_1, o13_1, c13_1, e13_1, h13_1⟩ := Sl.elemZ 1 rfl h11_7 q13_1
            refine ap (y_index Tryd.underlying26 ty3 rfl e13_1 rfl (nth_in q13_1)) ?_
            refine ap (y_load_int ty3 rfl (fun _ h => h.sub) rfl h13_1) ?_
            refine ap (y_assign rfl) ?_
            refine ap (y_assign rfl) ?_
            refine a_nil ?_
            refine a_en [(2, .pointer (some ⟨b0_0, 0, none⟩)), (3, .pointer (some ⟨b0_1, 0, none⟩)), (4, .pointer (some ⟨b0_2, 0, none⟩)), (7, .pointer (some ⟨b6_0, 0, none⟩)), (8, .int .i64 yj4_28), (9, .func (.func 263) #[] #[]), (10, vj7_10), (11, .int .i64 yj7_41), (12, .int .i64 x13_1), (27, .agg #[.func (.func 263) #[] #[], .func (.func 251) #[] #[]]), (28, .int .i64 yj4_28), (39, v11_7), (40, .int .i64 (x11_5.Stay.length : Int)), (41, .int .i64 yj7_41)] ?_
            refine a_then ?_
            obtain ⟨x14_8, q14_8, hm⟩ := bind_some hm
            obtain ⟨x14_10, q14_10, hm⟩ := bind_some hm
            obtain ⟨x14_12, q14_12, hm⟩ := bind_some hm
            obtain ⟨x14_17, q14_17, hm⟩ := bind_some hm
            obtain ⟨x14_22, q14_22, hm⟩ := bind_some hm
            refine d_region (S := Sw Hj4 [.box b0_2 [.int .i64 0, .int .i64 0] 32, .box b6_0 uj4_b6_0 47]) (n := 24) (listed := (bits 24 0)) mixed (by kernel_rfl) rfl (by kernel_rfl) ?_
            refine dt 0 1 rfl trivial (y_move rfl) (sw0 [1, 2]) ?_
            refine dt 1 3 rfl trivial (y_move rfl) (sw0 [1, 2]) ?_
            have h14_2 := Bk.at_b hb0_0
            refine dt 2 7 rfl trivial (y_fieldAddr fo110_0 rfl) (sw0 [1, 2]) ?_
            have h14_3 := TunnelBook.at_Parts h14_2
            refine dt 3 15 rfl trivial (y_fieldAddr fo25_0 rfl) (sw0 [1, 2]) ?_
            obtain ⟨v14_4, h14_4, c14_4⟩ := PAt.sl h14_3
            refine dt 4 31 rfl trivial (y_load_one ty22 rfl (fun _ h => h.1) rfl c14_4) (sw0 [1, 2]) ?_
            refine dt 5 63 rfl trivial (y_move rfl) (sw0 [1, 2]) ?_
            refine dt 6 127 rfl trivial (y_move rfl) (sw0 [1, 2]) ?_
            have h14_7 := TunnelDrying.at_set_ hb0_1
            refine dt 7 255 rfl trivial (y_fieldAddr fo120_1 rfl) (sw0 [1, 2]) ?_
            have h14_8 := PAt.arrZ 1 rfl h14_7 q14_8
            have k14_8 := PAt.arrIn h14_7 q14_8
            refine dt 8 511 rfl trivial (y_index_arrp Tryd.underlying111 ty3 rfl rfl k14_8) (sw0 [1, 2]) ?_
            refine dt 9 1023 rfl trivial (y_load_int ty3 rfl (fun _ h => h.1) rfl h14_8) (sw0 [1, 2]) ?_
            obtain ⟨b14_10, o14_10, c14_10, e14_10, h14_10⟩ := Sl.elemZ 6 rfl h14_4 q14_10
            refine dt 10 2047 rfl trivial (y_index Tryd.underlying22 ty64 rfl e14_10 rfl (nth_in q14_10)) (sw0 [1, 2]) ?_
            have h14_11 := TunnelPart.at_Heat h14_10
            refine dt 11 4095 rfl trivial (y_fieldAddr fo64_0 rfl) (sw0 [1, 2]) ?_
            have h14_12 := PAt.arrZ 1 rfl h14_11 q14_12
            have k14_12 := PAt.arrIn h14_11 q14_12
            refine dt 12 8191 rfl trivial (y_index_arrp Tryd.underlying62 ty3 rfl rfl k14_12) (sw0 [1, 2]) ?_
            refine dt 13 16383 rfl trivial (y_load_int ty3 rfl (fun _ h => h.1) rfl h14_12) (sw0 [1, 2]) ?_
            refine dt 14 32767 rfl trivial (y_move rfl) (sw0 [1, 2]) ?_
            obtain ⟨u14_15, h14_15, c14_15⟩ := PAt.one hb0_0
            refine dt 15 65535 rfl trivial (y_load_cells ty110 rfl (fun _ h => h.1) rfl c14_15 (Rp.len h14_15)) (sw0 [1, 2]) ?_
            refine dt 16 131071 rfl trivial (y_move rfl) (sw0 [1, 2]) ?_
            refine d1 17 rfl (e_callV (all := [.agg u14_15.toArray, .int .i64 yj7_41]) (v := .int .i64 x14_17) trivial rfl Tryd.func263 rfl rfl rfl rfl rfl (fun w hw => ok_263 hw h14_15 q14_17) ?_)
            refine dn 262143 (sw0 [1, 2]) ?_
            refine dt 18 524287 rfl trivial (y_sub rfl rfl) (sw0 [1, 2]) ?_
            refine dt 19 1048575 rfl trivial (y_max rfl rfl) (sw0 [1, 2]) ?_
            refine dt 20 2097151 rfl trivial (y_mul rfl rfl) (sw0 [1, 2]) ?_
            refine d1 21 rfl (e_buildSlice (xs := [.tmp 66]) (cs := [.int .i64 (IntKind.i64.wrap (x13_1 * (max 0 (IntKind.i64.wrap (x14_12 - x14_17)))))]) trivial rfl Tryd.underlying26 ty3 rfl rfl rfl (by simp [Value.cells]) rfl (rfl) ?_)
            intro v14_21
            have h14_21 : RepL (α := Int) Hj4 ([.int .i64 (IntKind.i64.wrap (x13_1 * (max 0 (IntKind.i64.wrap (x14_12 - x14_17)))))]) [IntKind.i64.wrap (x13_1 * (max 0 (IntKind.i64.wrap (x14_12 - x14_17))))] := (RepL.cons (α := Int) (c := [.int .i64 (IntKind.i64.wrap (x13_1 * (max 0 (IntKind.i64.wrap (x14_12 - x14_17)))))]) rfl (RepL.nil (α := Int)))
            refine dn 4194303 (sw0 [2, 3]) ?_
            refine d1 22 rfl (e_app_row (i := 4) (j := 0) trivial rfl Tryd.underlying26 Tryd.underlying26 ty3 rfl rfl rfl rfl rfl rfl rfl rfl hj7_10 rfl h14_21 q14_22 ?_)
            intro v14_22 u14_22 h14_22
            refine dn 8388607 (sw0 [2, 3]) ?_
            refine dt 23 16777215 rfl trivial (y_assign rfl) (sw0 [2, 3]) ?_
            refine d_done (by kernel_rfl) ?_
            refine a_en [(2, .pointer (some ⟨b0_0, 0, none⟩)), (3, .pointer (some ⟨b0_1, 0, none⟩)), (4, .pointer (some ⟨b0_2, 0, none⟩)), (7, .pointer (some ⟨b6_0, 0, none⟩)), (8, .int .i64 yj4_28), (9, .func (.func 263) #[] #[]), (10, v14_22), (27, .agg #[.func (.func 263) #[] #[], .func (.func 251) #[] #[]]), (28, .int .i64 yj4_28), (39, v11_7), (40, .int .i64 (x11_5.Stay.length : Int)), (41, .int .i64 yj7_41)] ?_
            refine a_own [1, 2, 3, 4] (by decide) (L' := [.blk M0 (Memo p0), .box b0_2 [.int .i64 0, .int .i64 0] 32, .box b6_0 uj4_b6_0 47, .row v14_22 u14_22 3 1]) rfl ?_
            refine a_block_normal (a_then (a_region rfl ?_))
            refine ap (y_add rfl rfl) ?_
            refine ap (y_move rfl) ?_
            refine a_nil ?_
            refine a_en [(2, .pointer (some ⟨b0_0, 0, none⟩)), (3, .pointer (some ⟨b0_1, 0, none⟩)), (4, .pointer (some ⟨b0_2, 0, none⟩)), (7, .pointer (some ⟨b6_0, 0, none⟩)), (8, .int .i64 yj4_28), (9, .func (.func 263) #[] #[]), (10, v14_22), (27, .agg #[.func (.func 263) #[] #[], .func (.func 251) #[] #[]]), (28, .int .i64 yj4_28), (39, v11_7), (40, .int .i64 (x11_5.Stay.length : Int)), (41, .int .i64 (IntKind.i64.wrap (yj7_41 + 1)))] ?_
            refine a_then ?_
            intro a_ w_ ha_ hs_
            exact ⟨n_j7, Nat.lt_succ_self _, x14_22, IntKind.i64.wrap (yj7_41 + 1), v14_22, u14_22, hm, h14_22, ha_.weaken ⟨rfl, rfl, rfl, rfl, rfl, rfl, rfl, rfl, rfl, rfl, rfl, rfl, trivial⟩, hs_.reix [0, 1, 2, 3] (by decide)⟩
          have hm := cond_f k_8 hm
          refine a_exit (a_then_exit (a_then_exit (a_block_hit (a_cut ?_))))
          intro a_ w_ ha_ hs_
          exact ⟨yj7_10, vj7_10, uj7_10, Option.some.inj hm, hj7_10, ha_.weaken ⟨rfl, rfl, rfl, rfl, rfl, rfl, rfl, rfl, trivial⟩, hs_.reix [0, 1, 2, 3] (by decide)⟩
        have hm := hm_j6
        rintro a_ w_ ⟨yj6_10, vj6_10, uj6_10, rfl, hj6_10, ha_, hs_⟩
        try dsimp only at hm
        refine a_start ha_ hs_ ?_
        refine a_then (a_region rfl ?_)
        refine ap (y_move rfl) ?_
        refine ap (y_move rfl) ?_
        refine a_frow (i := 3) rfl rfl hj6_10 rfl ?_
        intro H16_2g0f l16_2g0f h16_2g0f
        have hb0_0 := PAt.mono l16_2g0f hb0_0
        have hb0_1 := PAt.mono l16_2g0f hb0_1
        have hj4_b6_0 := Rp.mono l16_2g0f hj4_b6_0
        have hg := Glob.mono l16_2g0f hg
        obtain ⟨x16_2, q16_2, hm⟩ := bind_some hm
        refine a_cons (e_callV (all := [vj6_10]) (v := .int .i64 x16_2) trivial rfl Tryd.func153 rfl rfl rfl rfl rfl (fun w hw => ok_153 hw h16_2g0f q16_2) ?_)
        obtain ⟨x16_3, q16_3, hm⟩ := bind_some hm
        have k16_3 := arr_in hj4_b6_0 q16_3
        refine ap (y_index_arrp Tryd.underlying47 ty3 rfl rfl k16_3) ?_
        refine a_cons (e_storeIn (α := Arr 2 Int) (i := 2) (ds := [.int .i64 x16_2]) (s' := (yj4_b6_0).set (yj4_28).toNat x16_2) trivial ty3 rfl rfl rfl rfl (cells_one_int _) hj4_b6_0 (put_arr0 1 rfl hj4_b6_0 q16_3 rfl) ?_)
        intro u16_4 h16_4
        refine a_nil ?_
        refine a_en [(2, .pointer (some ⟨b0_0, 0, none⟩)), (3, .pointer (some ⟨b0_1, 0, none⟩)), (4, .pointer (some ⟨b0_2, 0, none⟩)), (7, .pointer (some ⟨b6_0, 0, none⟩)), (27, .agg #[.func (.func 263) #[] #[], .func (.func 251) #[] #[]]), (28, .int .i64 yj4_28)] ?_
        refine a_own [0, 1, 2] (by decide) (L' := [.blk M0 (Memo p0), .box b0_2 [.int .i64 0, .int .i64 0] 32, .box b6_0 u16_4 47]) rfl ?_
        refine a_block_normal (a_then (a_region rfl ?_))
        refine ap (y_add rfl rfl) ?_
        refine ap (y_move rfl) ?_
        refine a_nil ?_
        refine a_en [(2, .pointer (some ⟨b0_0, 0, none⟩)), (3, .pointer (some ⟨b0_1, 0, none⟩)), (4, .pointer (some ⟨b0_2, 0, none⟩)), (7, .pointer (some ⟨b6_0, 0, none⟩)), (27, .agg #[.func (.func 263) #[] #[], .func (.func 251) #[] #[]]), (28, .int .i64 (IntKind.i64.wrap (yj4_28 + 1)))] ?_
        refine a_then ?_
        intro a_ w_ ha_ hs_
        exact ⟨n_j4, Nat.lt_succ_self _, H16_2g0f, (lj4.trans l16_2g0f), (yj4_b6_0).set (yj4_28).toNat x16_2, IntKind.i64.wrap (yj4_28 + 1), u16_4, hm, h16_4, ha_.weaken ⟨rfl, rfl, rfl, rfl, rfl, rfl, trivial⟩, hs_.reix [0, 1, 2] (by decide)⟩
      have hm := cond_f k9_1 hm
      refine ap (y_index_fns rfl rfl q9_1 k9_1 rfl) ?_
      refine ap (y_assign rfl) ?_
      refine ap (y_assign rfl) ?_
      refine a_nil ?_
      refine a_en [(2, .pointer (some ⟨b0_0, 0, none⟩)), (3, .pointer (some ⟨b0_1, 0, none⟩)), (4, .pointer (some ⟨b0_2, 0, none⟩)), (7, .pointer (some ⟨b6_0, 0, none⟩)), (8, .int .i64 yj4_28), (9, .func (.func 251) #[] #[]), (27, .agg #[.func (.func 263) #[] #[], .func (.func 251) #[] #[]]), (28, .int .i64 yj4_28)] ?_
      refine a_then (a_seq (a_region rfl ?_))
      refine ap (y_assign rfl) ?_
      refine a_nil (a_then (a_seq (a_seq (a_region rfl ?_))))
      have h11_0 := Bk.at_b hb0_0
      refine ap (y_fieldAddr fo110_0 rfl) ?_
      have h11_1 := TunnelBook.at_Frames h11_0
      refine ap (y_fieldAddr fo25_1 rfl) ?_
      obtain ⟨v11_2, h11_2, c11_2⟩ := PAt.sl h11_1
      refine ap (y_load_one ty23 rfl (fun _ h => h.sub) rfl c11_2) ?_
      have h11_3 := TunnelDrying.at_frame hb0_1
      refine ap (y_fieldAddr fo120_0 rfl) ?_
      refine ap (y_load_int ty3 rfl (fun _ h => h.sub) rfl h11_3) ?_
      obtain ⟨x11_5, q11_5, hm⟩ := bind_some hm
      obtain ⟨b11_5, o11_5, c11_5, e11_5, h11_5⟩ := Sl.elemZ 3 rfl h11_2 q11_5
      refine ap (y_index Tryd.underlying23 ty55 rfl e11_5 rfl (nth_in q11_5)) ?_
      have h11_6 := TunnelFrame.at_Stay h11_5
      refine ap (y_fieldAddr fo55_0 rfl) ?_
      obtain ⟨v11_7, h11_7, c11_7⟩ := PAt.sl h11_6
      refine ap (y_load_one ty26 rfl (fun _ h => h.sub) rfl c11_7) ?_
      refine ap (y_len_sl Tryd.underlying26 rfl h11_7) ?_
      refine ap (y_move rfl) ?_
      refine a_nil ?_
      refine a_en [(2, .pointer (some ⟨b0_0, 0, none⟩)), (3, .pointer (some ⟨b0_1, 0, none⟩)), (4, .pointer (some ⟨b0_2, 0, none⟩)), (7, .pointer (some ⟨b6_0, 0, none⟩)), (8, .int .i64 yj4_28), (9, .func (.func 251) #[] #[]), (10, .slice none 0 0), (27, .agg #[.func (.func 263) #[] #[], .func (.func 251) #[] #[]]), (28, .int .i64 yj4_28), (39, v11_7), (40, .int .i64 (x11_5.Stay.length : Int)), (41, .int .i64 0)] ?_
      refine a_then ?_
      obtain ⟨s_j9, hs_j9, hm_j9⟩ := bind_some hm
      refine a_join (fun a_ w_ => ∃ (yj9_10 : List Int), ∃ (vj9_10 : Value), ∃ (uj9_10 : List Value), yj9_10 = s_j9 ∧ RepL (α := Int) Hj4 uj9_10 yj9_10 ∧ Ag 85 [] [(2, .pointer (some ⟨b0_0, 0, none⟩)), (3, .pointer (some ⟨b0_1, 0, none⟩)), (4, .pointer (some ⟨b0_2, 0, none⟩)), (7, .pointer (some ⟨b6_0, 0, none⟩)), (8, .int .i64 yj4_28), (10, vj9_10), (27, .agg #[.func (.func 263) #[] #[], .func (.func 251) #[] #[]]), (28, .int .i64 yj4_28)] a_ ∧ St (Kp.mk w H (· = M0)) Hj4 ([.blk M0 (Memo p0), .box b0_2 [.int .i64 0, .int .i64 0] 32, .box b6_0 uj4_b6_0 47, .row vj9_10 uj9_10 3 1]) w_) ?_ ?_
      · have hm := hs_j9
        refine a_block ?_
        refine a_loop (fun n_j10 a_ w_ => ∃ (yj10_10 : List Int), ∃ (yj10_41 : Int), ∃ (vj10_10 : Value), ∃ (uj10_10 : List Value), tunnel_book_dries_lj10 k p0 p1 x11_5 n_j10 yj10_10 yj10_41 = some s_j9 ∧ RepL (α := Int) Hj4 uj10_10 yj10_10 ∧ Ag 85 [] [(2, .pointer (some ⟨b0_0, 0, none⟩)), (3, .pointer (some ⟨b0_1, 0, none⟩)), (4, .pointer (some ⟨b0_2, 0, none⟩)), (7, .pointer (some ⟨b6_0, 0, none⟩)), (8, .int .i64 yj4_28), (9, .func (.func 251) #[] #[]), (10, vj10_10), (27, .agg #[.func (.func 263) #[] #[], .func (.func 251) #[] #[]]), (28, .int .i64 yj4_28), (39, v11_7), (40, .int .i64 (x11_5.Stay.length : Int)), (41, .int .i64 yj10_41)] a_ ∧ St (Kp.mk w H (· = M0)) Hj4 ([.blk M0 (Memo p0), .box b0_2 [.int .i64 0, .int .i64 0] 32, .box b6_0 uj4_b6_0 47, .row vj10_10 uj10_10 3 1]) w_) k ?_ ?_
        · refine a_nilrow (x := none) (T := 3) (sz := 1) ?_
          have hzrj10_10 : RepL (α := Int) Hj4 [] [] := RepL.nil
          intro a_ w_ ha_ hs_
          exact ⟨([] : List Int), 0, .slice none 0 0, [], hm, hzrj10_10, ha_.weaken ⟨rfl, rfl, rfl, rfl, rfl, rfl, rfl, rfl, rfl, rfl, rfl, rfl, trivial⟩, hs_.reix [1, 2, 3, 0] (by decide)⟩
        rintro (_ | n_j10) a_ w_ ⟨yj10_10, yj10_41, vj10_10, uj10_10, hm, hj10_10, ha_, hs_⟩
        · rw [tunnel_book_dries_lj10.eq_1] at hm; cases hm
        rw [tunnel_book_dries_lj10.eq_2] at hm
        refine a_start ha_ hs_ ?_
        refine a_seq (a_region rfl ?_)
        refine ap (y_lss rfl rfl) ?_
        refine a_nil (a_then (a_seq ?_))
        refine a_cond rfl (fun k_11 => ?_) (fun k_11 => ?_)
        · have hm := cond_t k_11 hm
          refine a_skip (a_then (a_seq (a_block (a_seq (a_region rfl ?_)))))
          refine ap (y_move rfl) ?_
          obtain ⟨x13_1, q13_1, hm⟩ := bind_some hm
          obtain ⟨b13_1, o13_1, c13_1, e13_1, h13_1⟩ := Sl.elemZ 1 rfl h11_7 q13_1
          refine ap (y_index Tryd.underlying26 ty3 rfl e13_1 rfl (nth_in q13_1)) ?_
          refine ap (y_load_int ty3 rfl (fun _ h => h.sub) rfl h13_1) ?_
          refine ap (y_assign rfl) ?_
          refine ap (y_assign rfl) ?_
          refine a_nil ?_
          refine a_en [(2, .pointer (some ⟨b0_0, 0, none⟩)), (3, .pointer (some ⟨b0_1, 0, none⟩)), (4, .pointer (some ⟨b0_2, 0, none⟩)), (7, .pointer (some ⟨b6_0, 0, none⟩)), (8, .int .i64 yj4_28), (9, .func (.func 251) #[] #[]), (10, vj10_10), (11, .int .i64 yj10_41), (12, .int .i64 x13_1), (27, .agg #[.func (.func 263) #[] #[], .func (.func 251) #[] #[]]), (28, .int .i64 yj4_28), (39, v11_7), (40, .int .i64 (x11_5.Stay.length : Int)), (41, .int .i64 yj10_41)] ?_
          refine a_then ?_
          obtain ⟨x14_8, q14_8, hm⟩ := bind_some hm
          obtain ⟨x14_10, q14_10, hm⟩ := bind_some hm
          obtain ⟨x14_12, q14_12, hm⟩ := bind_some hm
          obtain ⟨x14_17, q14_17, hm⟩ := bind_some hm
          obtain ⟨x14_22, q14_22, hm⟩ := bind_some hm
          refine d_region (S := Sw Hj4 [.box b0_2 [.int .i64 0, .int .i64 0] 32, .box b6_0 uj4_b6_0 47]) (n := 24) (listed := (bits 24 0)) mixed (by kernel_rfl) rfl (by kernel_rfl) ?_
          refine dt 0 1 rfl trivial (y_move rfl) (sw0 [1, 2]) ?_
          refine dt 1 3 rfl trivial (y_move rfl) (sw0 [1, 2]) ?_
          have h14_2 := Bk.at_b hb0_0
          refine dt 2 7 rfl trivial (y_fieldAddr fo110_0 rfl) (sw0 [1, 2]) ?_
          have h14_3 := TunnelBook.at_Parts h14_2
          refine dt 3 15 rfl trivial (y_fieldAddr fo25_0 rfl) (sw0 [1, 2]) ?_
          obtain ⟨v14_4, h14_4, c14_4⟩ := PAt.sl h14_3
          refine dt 4 31 rfl trivial (y_load_one ty22 rfl (fun _ h => h.1) rfl c14_4) (sw0 [1, 2]) ?_
          refine dt 5 63 rfl trivial (y_move rfl) (sw0 [1, 2]) ?_
          refine dt 6 127 rfl trivial (y_move rfl) (sw0 [1, 2]) ?_
          have h14_7 := TunnelDrying.at_set_ hb0_1
          refine dt 7 255 rfl trivial (y_fieldAddr fo120_1 rfl) (sw0 [1, 2]) ?_
          have h14_8 := PAt.arrZ 1 rfl h14_7 q14_8
          have k14_8 := PAt.arrIn h14_7 q14_8
          refine dt 8 511 rfl trivial (y_index_arrp Tryd.underlying111 ty3 rfl rfl k14_8) (sw0 [1, 2]) ?_
          refine dt 9 1023 rfl trivial (y_load_int ty3 rfl (fun _ h => h.1) rfl h14_8) (sw0 [1, 2]) ?_
          obtain ⟨b14_10, o14_10, c14_10, e14_10, h14_10⟩ := Sl.elemZ 6 rfl h14_4 q14_10
          refine dt 10 2047 rfl trivial (y_index Tryd.underlying22 ty64 rfl e14_10 rfl (nth_in q14_10)) (sw0 [1, 2]) ?_
          have h14_11 := TunnelPart.at_Heat h14_10
          refine dt 11 4095 rfl trivial (y_fieldAddr fo64_0 rfl) (sw0 [1, 2]) ?_
          have h14_12 := PAt.arrZ 1 rfl h14_11 q14_12
          have k14_12 := PAt.arrIn h14_11 q14_12
          refine dt 12 8191 rfl trivial (y_index_arrp Tryd.underlying62 ty3 rfl rfl k14_12) (sw0 [1, 2]) ?_
          refine dt 13 16383 rfl trivial (y_load_int ty3 rfl (fun _ h => h.1) rfl h14_12) (sw0 [1, 2]) ?_
          refine dt 14 32767 rfl trivial (y_move rfl) (sw0 [1, 2]) ?_
          obtain ⟨u14_15, h14_15, c14_15⟩ := PAt.one hb0_0
          refine dt 15 65535 rfl trivial (y_load_cells ty110 rfl (fun _ h => h.1) rfl c14_15 (Rp.len h14_15)) (sw0 [1, 2]) ?_
          refine dt 16 131071 rfl trivial (y_move rfl) (sw0 [1, 2]) ?_
          refine d1 17 rfl (e_callV (all := [.agg u14_15.toArray, .int .i64 yj10_41]) (v := .int .i64 x14_17) trivial rfl Tryd.func251 rfl rfl rfl rfl rfl (fun w hw => ok_251 hw h14_15 q14_17) ?_)
          refine dn 262143 (sw0 [1, 2]) ?_
          refine dt 18 524287 rfl trivial (y_sub rfl rfl) (sw0 [1, 2]) ?_
          refine dt 19 1048575 rfl trivial (y_max rfl rfl) (sw0 [1, 2]) ?_
          refine dt 20 2097151 rfl trivial (y_mul rfl rfl) (sw0 [1, 2]) ?_
          refine d1 21 rfl (e_buildSlice (xs := [.tmp 66]) (cs := [.int .i64 (IntKind.i64.wrap (x13_1 * (max 0 (IntKind.i64.wrap (x14_12 - x14_17)))))]) trivial rfl Tryd.underlying26 ty3 rfl rfl rfl (by simp [Value.cells]) rfl (rfl) ?_)
          intro v14_21
          have h14_21 : RepL (α := Int) Hj4 ([.int .i64 (IntKind.i64.wrap (x13_1 * (max 0 (IntKind.i64.wrap (x14_12 - x14_17)))))]) [IntKind.i64.wrap (x13_1 * (max 0 (IntKind.i64.wrap (x14_12 - x14_17))))] := (RepL.cons (α := Int) (c := [.int .i64 (IntKind.i64.wrap (x13_1 * (max 0 (IntKind.i64.wrap (x14_12 - x14_17)))))]) rfl (RepL.nil (α := Int)))
          refine dn 4194303 (sw0 [2, 3]) ?_
          refine d1 22 rfl (e_app_row (i := 4) (j := 0) trivial rfl Tryd.underlying26 Tryd.underlying26 ty3 rfl rfl rfl rfl rfl rfl rfl rfl hj10_10 rfl h14_21 q14_22 ?_)
          intro v14_22 u14_22 h14_22
          refine dn 8388607 (sw0 [2, 3]) ?_
          refine dt 23 16777215 rfl trivial (y_assign rfl) (sw0 [2, 3]) ?_
          refine d_done (by kernel_rfl) ?_
          refine a_en [(2, .pointer (some ⟨b0_0, 0, none⟩)), (3, .pointer (some ⟨b0_1, 0, none⟩)), (4, .pointer (some ⟨b0_2, 0, none⟩)), (7, .pointer (some ⟨b6_0, 0, none⟩)), (8, .int .i64 yj4_28), (9, .func (.func 251) #[] #[]), (10, v14_22), (27, .agg #[.func (.func 263) #[] #[], .func (.func 251) #[] #[]]), (28, .int .i64 yj4_28), (39, v11_7), (40, .int .i64 (x11_5.Stay.length : Int)), (41, .int .i64 yj10_41)] ?_
          refine a_own [1, 2, 3, 4] (by decide) (L' := [.blk M0 (Memo p0), .box b0_2 [.int .i64 0, .int .i64 0] 32, .box b6_0 uj4_b6_0 47, .row v14_22 u14_22 3 1]) rfl ?_
          refine a_block_normal (a_then (a_region rfl ?_))
          refine ap (y_add rfl rfl) ?_
          refine ap (y_move rfl) ?_
          refine a_nil ?_
          refine a_en [(2, .pointer (some ⟨b0_0, 0, none⟩)), (3, .pointer (some ⟨b0_1, 0, none⟩)), (4, .pointer (some ⟨b0_2, 0, none⟩)), (7, .pointer (some ⟨b6_0, 0, none⟩)), (8, .int .i64 yj4_28), (9, .func (.func 251) #[] #[]), (10, v14_22), (27, .agg #[.func (.func 263) #[] #[], .func (.func 251) #[] #[]]), (28, .int .i64 yj4_28), (39, v11_7), (40, .int .i64 (x11_5.Stay.length : Int)), (41, .int .i64 (IntKind.i64.wrap (yj10_41 + 1)))] ?_
          refine a_then ?_
          intro a_ w_ ha_ hs_
          exact ⟨n_j10, Nat.lt_succ_self _, x14_22, IntKind.i64.wrap (yj10_41 + 1), v14_22, u14_22, hm, h14_22, ha_.weaken ⟨rfl, rfl, rfl, rfl, rfl, rfl, rfl, rfl, rfl, rfl, rfl, rfl, trivial⟩, hs_.reix [0, 1, 2, 3] (by decide)⟩
        have hm := cond_f k_11 hm
        refine a_exit (a_then_exit (a_then_exit (a_block_hit (a_cut ?_))))
        intro a_ w_ ha_ hs_
        exact ⟨yj10_10, vj10_10, uj10_10, Option.some.inj hm, hj10_10, ha_.weaken ⟨rfl, rfl, rfl, rfl, rfl, rfl, rfl, rfl, trivial⟩, hs_.reix [0, 1, 2, 3] (by decide)⟩
      have hm := hm_j9
      rintro a_ w_ ⟨yj9_10, vj9_10, uj9_10, rfl, hj9_10, ha_, hs_⟩
      try dsimp only at hm
      refine a_start ha_ hs_ ?_
      refine a_then (a_region rfl ?_)
      refine ap (y_move rfl) ?_
      refine ap (y_move rfl) ?_
      refine a_frow (i := 3) rfl rfl hj9_10 rfl ?_
      intro H16_2g0f l16_2g0f h16_2g0f
      have hb0_0 := PAt.mono l16_2g0f hb0_0
      have hb0_1 := PAt.mono l16_2g0f hb0_1
      have hj4_b6_0 := Rp.mono l16_2g0f hj4_b6_0
      have hg := Glob.mono l16_2g0f hg
      obtain ⟨x16_2, q16_2, hm⟩ := bind_some hm
      refine a_cons (e_callV (all := [vj9_10]) (v := .int .i64 x16_2) trivial rfl Tryd.func153 rfl rfl rfl rfl rfl (fun w hw => ok_153 hw h16_2g0f q16_2) ?_)
      obtain ⟨x16_3, q16_3, hm⟩ := bind_some hm
      have k16_3 := arr_in hj4_b6_0 q16_3
      refine ap (y_index_arrp Tryd.underlying47 ty3 rfl rfl k16_3) ?_
      refine a_cons (e_storeIn (α := Arr 2 Int) (i := 2) (ds := [.int .i64 x16_2]) (s' := (yj4_b6_0).set (yj4_28).toNat x16_2) trivial ty3 rfl rfl rfl rfl (cells_one_int _) hj4_b6_0 (put_arr0 1 rfl hj4_b6_0 q16_3 rfl) ?_)
      intro u16_4 h16_4
      refine a_nil ?_
      refine a_en [(2, .pointer (some ⟨b0_0, 0, none⟩)), (3, .pointer (some ⟨b0_1, 0, none⟩)), (4, .pointer (some ⟨b0_2, 0, none⟩)), (7, .pointer (some ⟨b6_0, 0, none⟩)), (27, .agg #[.func (.func 263) #[] #[], .func (.func 251) #[] #[]]), (28, .int .i64 yj4_28)] ?_
      refine a_own [0, 1, 2] (by decide) (L' := [.blk M0 (Memo p0), .box b0_2 [.int .i64 0, .int .i64 0] 32, .box b6_0 u16_4 47]) rfl ?_
      refine a_block_normal (a_then (a_region rfl ?_))
      refine ap (y_add rfl rfl) ?_
      refine ap (y_move rfl) ?_
      refine a_nil ?_
      refine a_en [(2, .pointer (some ⟨b0_0, 0, none⟩)), (3, .pointer (some ⟨b0_1, 0, none⟩)), (4, .pointer (some ⟨b0_2, 0, none⟩)), (7, .pointer (some ⟨b6_0, 0, none⟩)), (27, .agg #[.func (.func 263) #[] #[], .func (.func 251) #[] #[]]), (28, .int .i64 (IntKind.i64.wrap (yj4_28 + 1)))] ?_
      refine a_then ?_
      intro a_ w_ ha_ hs_
      exact ⟨n_j4, Nat.lt_succ_self _, H16_2g0f, (lj4.trans l16_2g0f), (yj4_b6_0).set (yj4_28).toNat x16_2, IntKind.i64.wrap (yj4_28 + 1), u16_4, hm, h16_4, ha_.weaken ⟨rfl, rfl, rfl, rfl, rfl, rfl, trivial⟩, hs_.reix [0, 1, 2] (by decide)⟩
    have hm := cond_f k_5 hm
    refine a_exit (a_then_exit (a_then_exit (a_block_hit (a_cut ?_))))
    intro a_ w_ ha_ hs_
    exact ⟨Hj4, lj4, yj4_b6_0, uj4_b6_0, Option.some.inj hm, hj4_b6_0, ha_.weaken ⟨rfl, rfl, rfl, rfl, trivial⟩, hs_.reix [0, 1, 2] (by decide)⟩
  have hm := hm_j3
  rintro a_ w_ ⟨Hj3, lj3, yj3_b6_0, uj3_b6_0, rfl, hj3_b6_0, ha_, hs_⟩
  try dsimp only at hm
  refine a_start ha_ hs_ ?_
  have hb0_0 := PAt.mono lj3 hb0_0
  have hb0_1 := PAt.mono lj3 hb0_1
  have hg := Glob.mono lj3 hg
  refine a_then (a_seq (a_region rfl ?_))
  obtain ⟨x18_0, q18_0, hm⟩ := bind_some hm
  have k18_0 := arr_in hj3_b6_0 q18_0
  refine ap (y_index_arrp Tryd.underlying47 ty3 rfl rfl k18_0) ?_
  refine ap (y_load_box ty3 rfl (knows_box (i := 2) rfl) rfl (arr_get hj3_b6_0 q18_0)) ?_
  obtain ⟨x18_2, q18_2, hm⟩ := bind_some hm
  have k18_2 := arr_in hj3_b6_0 q18_2
  refine ap (y_index_arrp Tryd.underlying47 ty3 rfl rfl k18_2) ?_
  refine ap (y_load_box ty3 rfl (knows_box (i := 2) rfl) rfl (arr_get hj3_b6_0 q18_2)) ?_
  have m18_4 : Rp.rep Hj3 [.int .i64 x18_0, .int .i64 x18_2] (⟨x18_0, x18_2⟩ : Span) := ⟨_, _, rfl, rfl, rfl⟩
  refine ap (y_build_lit (pl := [(0, 1), (1, 1)]) (xs := [(0, .tmp 76), (1, .tmp 78)]) (cs := [.int .i64 x18_0, .int .i64 x18_2].toArray) ty32 (.cons ⟨rfl, ty3.szOf⟩ (.cons ⟨rfl, ty3.szOf⟩ (All2.nil))) rfl rfl rfl) ?_
  refine a_cons (e_alloc (cs := [.int .i64 0, .int .i64 0]) trivial rfl ty32 rfl ?_)
  intro b18_5
  refine a_cons (e_storeWhole (i := 0) (ds := [.int .i64 x18_0, .int .i64 x18_2]) trivial ty32 rfl rfl rfl rfl rfl ((Rp.one m18_4)) rfl ?_)
  refine a_nil ?_
  refine a_freeze (α := Span) (x := (⟨x18_0, x18_2⟩ : Span)) (i := 0) rfl m18_4 ?_
  intro Hb18_5 lb18_5 hb18_5
  have hb0_0 := PAt.mono lb18_5 hb0_0
  have hb0_1 := PAt.mono lb18_5 hb0_1
  have m18_4 := Rp.mono lb18_5 m18_4
  have hj3_b6_0 := Rp.mono lb18_5 hj3_b6_0
  have hg := Glob.mono lb18_5 hg
  refine a_en [(2, .pointer (some ⟨b0_0, 0, none⟩)), (3, .pointer (some ⟨b0_1, 0, none⟩)), (4, .pointer (some ⟨b0_2, 0, none⟩)), (13, .pointer (some ⟨b18_5, 0, none⟩))] ?_
  refine a_own [1, 2] (by decide) (L' := [.blk M0 (Memo p0), .box b0_2 [.int .i64 0, .int .i64 0] 32]) rfl ?_
  refine a_then (a_seq (a_region rfl ?_))
  refine ap (y_fieldAddr fo110_1 rfl) ?_
  refine ap (y_load_one ty108 rfl (fun _ h => h.sub) rfl (Bk.at_m hb0_0)) ?_
  obtain ⟨u19_2, h19_2, c19_2⟩ := PAt.one hb0_1
  refine ap (y_load_cells ty120 rfl (fun _ h => h.sub) rfl c19_2 (Rp.len h19_2)) ?_
  obtain ⟨u19_3, h19_3, c19_3⟩ := PAt.one hb18_5
  refine ap (y_load_cells ty32 rfl (fun _ h => h.sub) rfl c19_3 (Rp.len h19_3)) ?_
  refine a_cons (e_updateD (i := 0) trivial rfl rfl rfl h19_2 rfl h19_3 (hmp.trans hm.symm) ?_)
  refine a_nil ?_
  refine a_en [(4, .pointer (some ⟨b0_2, 0, none⟩)), (13, .pointer (some ⟨b18_5, 0, none⟩))] ?_
  refine a_then (a_seq (a_region rfl ?_))
  obtain ⟨u20_0, h20_0, c20_0⟩ := PAt.one hb18_5
  refine ap (y_load_cells ty32 rfl (fun _ h => h.sub) rfl c20_0 (Rp.len h20_0)) ?_
  refine a_cons (e_storeWhole (i := 1) (ds := u20_0) trivial ty32 rfl rfl rfl rfl (Rp.len h20_0) ((Rp.one h20_0)) rfl ?_)
  refine a_nil ?_
  refine a_en [(4, .pointer (some ⟨b0_2, 0, none⟩))] ?_
  refine a_then (a_ret ?_)
  obtain rfl := Option.some.inj hm
  exact a_doneM (i := 0) (v := .agg u20_0.toArray) (.inl rfl) rfl rfl (fun a_ w_ ha_ hs_ => run_results (P := Tryd.prog) (fn := Tryd.f89) (rs := [.cell 4 32]) (vs := [.agg u20_0.toArray]) rfl (.cons (rv_cell ha_ rfl (run_loadSt (i := 1) ty32 rfl hs_ rfl (Rp.len h20_0))) (All2.nil))) (by rw [Span.rep_eq h20_0])

def tunnel_Dries (k : Nat) (p0 : TunnelBook) (p1 : List Int) (p2 : Int) : Option (Span × Int) :=
 (tunnel_isFrame k p0 p2).bind fun x1_4 =>
 (tunnel_asked k p0 p1 x1_4).bind fun x1_5 =>
 bif x1_5.2.2 != 0 then
 some (((⟨0, 0⟩ : Span), x1_5.2.2))
 else
 (dryPure x1_5.1 (⟨p2, x1_5.2.1⟩ : TunnelDrying)).bind fun x4_4 =>
 some ((x4_4, 0))
theorem ok_23 {k : Nat} {H : Hp} {w : World} {p0 : TunnelBook} {p1 : List Int} {p2 : Int} {c0 : List Value} {v1 : Value} {r : Span × Int} (hsub : Sub H w) (h0 : Rp.rep (α := TunnelBook) H c0 p0) (h1 : Sl (α := Int) H v1 p1) (hg : Glob H) (hm : tunnel_Dries k p0 p1 p2 = some r) : Calls Tryd.prog 23 [.agg c0.toArray, v1, .int .i64 p2].toArray w (PostV w H (.tuple #[.agg r.1.cells.toArray, .int .i64 r.2])) := by
  unfold tunnel_Dries at hm
  refine start (n := 30) (E := [(0, .agg c0.toArray), (1, v1), (2, .int .i64 p2)]) Tryd.func23 rfl rfl ⟨rfl, rfl, rfl, trivial⟩ rfl hsub ?_
  refine a_seq (a_region rfl ?_)
  refine a_cons (e_box (cs := c0) trivial rfl rfl rfl ?_)
  intro b0_0
  refine a_cons (e_alloc (cs := [.int .i64 0, .int .i64 0]) trivial rfl ty32 rfl ?_)
  intro b0_1
  refine ap (y_assign rfl) ?_
  refine a_nil ?_
  refine a_freeze (α := TunnelBook) (x := p0) (i := 1) rfl h0 ?_
  intro Hb0_0 lb0_0 hb0_0
  have h0 := Rp.mono lb0_0 h0
  have h1 := Sl.mono lb0_0 h1
  have hg := Glob.mono lb0_0 hg
  refine a_en [(1, v1), (2, .int .i64 p2), (3, .pointer (some ⟨b0_0, 0, none⟩)), (6, .pointer (some ⟨b0_1, 0, none⟩))] ?_
  refine a_own [0] (by decide) (L' := [.box b0_1 [.int .i64 0, .int .i64 0] 32]) rfl ?_
  refine a_then (a_seq ?_)
  obtain ⟨x1_4, q1_4, hm⟩ := bind_some hm
  obtain ⟨x1_5, q1_5, hm⟩ := bind_some hm
  rcases Bool.eq_false_or_eq_true (x1_5.2.2 != 0) with k1_5 | k1_5
  · have hm := cond_t k1_5 hm
    refine d_region (S := Sw Hb0_0 [.box b0_1 [.int .i64 0, .int .i64 0] 32]) (n := 15) (listed := (bits 15 0)) mixed (by kernel_rfl) rfl (by kernel_rfl) ?_
    refine d_abs fun U1 hU1 => ?_
    have N1_0 (Hn1_9 : Hp) (ln1_9 : HLe Hb0_0 Hn1_9) (b1_10 : Nat) (b1_11 : Nat) (cb1_5 : List Value) (cs1_5 : List Value) (hb1_5 : Rp.rep (α := Bk none) Hn1_9 cb1_5 x1_5.1) (hc1_5 : Rp.rep (α := Arr 4 Int) Hn1_9 cs1_5 x1_5.2.1) : At 30 [] (Kp.mk w H noX) [(2, .int .i64 p2), (6, .pointer (some ⟨b0_1, 0, none⟩)), (8, .pointer (some ⟨b1_10, 0, none⟩)), (9, .pointer (some ⟨b1_11, 0, none⟩)), (20, .int .i64 x1_5.2.2)] Hn1_9 ([.box b0_1 [.int .i64 0, .int .i64 0] 32, .box b1_10 cb1_5 110, .box b1_11 cs1_5 111]) (U1 (Sw Hn1_9 [.box b0_1 [.int .i64 0, .int .i64 0] 32]) 1 (bits 15 16383)) := by
      refine d_fwd hU1 ?_
      have hg := Glob.mono ln1_9 hg
      refine dt 14 32767 rfl trivial (y_assign rfl) (sw0 [0]) ?_
      refine d_done (by kernel_rfl) ?_
      refine a_freeze (α := Bk _) (x := x1_5.1) (i := 1) rfl hb1_5 ?_
      intro Hb1_10 lb1_10 hb1_10
      have hc1_5 := Rp.mono lb1_10 hc1_5
      have hg := Glob.mono lb1_10 hg
      refine a_freeze (α := Arr 4 Int) (x := x1_5.2.1) (i := 2) rfl hc1_5 ?_
      intro Hb1_11 lb1_11 hb1_11
      have hb1_10 := PAt.mono lb1_11 hb1_10
      have hg := Glob.mono lb1_11 hg
      refine a_en [(2, .int .i64 p2), (6, .pointer (some ⟨b0_1, 0, none⟩)), (8, .pointer (some ⟨b1_10, 0, none⟩)), (9, .pointer (some ⟨b1_11, 0, none⟩)), (10, .int .i64 x1_5.2.2)] ?_
      refine a_own [0] (by decide) (L' := [.box b0_1 [.int .i64 0, .int .i64 0] 32]) rfl ?_
      refine a_then (a_seq (a_seq (a_region rfl ?_)))
      refine ap (y_move rfl) ?_
      refine ap (y_neq rfl rfl) ?_
      refine a_nil ?_
      refine a_en [(2, .int .i64 p2), (6, .pointer (some ⟨b0_1, 0, none⟩)), (8, .pointer (some ⟨b1_10, 0, none⟩)), (9, .pointer (some ⟨b1_11, 0, none⟩)), (10, .int .i64 x1_5.2.2), (22, .bool (x1_5.2.2 != 0))] ?_
      refine a_then ?_
      refine a_cond rfl (fun _ => ?_) (fun h_ => absurd (h_.symm.trans k1_5) (by decide))
      refine a_seq (a_region rfl ?_)
      have m3_0 : Rp.rep Hb1_11 [.int .i64 0, .int .i64 0] (⟨0, 0⟩ : Span) := ⟨_, _, rfl, rfl, rfl⟩
      refine ap (y_build_lit (pl := [(0, 1), (1, 1)]) (xs := []) (cs := [.int .i64 0, .int .i64 0].toArray) ty32 (.cons ⟨rfl, ty3.szOf⟩ (.cons ⟨rfl, ty3.szOf⟩ (All2.nil))) rfl rfl rfl) ?_
      refine ap (y_move rfl) ?_
      refine a_cons (e_storeWhole (i := 0) (ds := [.int .i64 0, .int .i64 0]) trivial ty32 rfl rfl rfl rfl rfl ((Rp.one m3_0)) rfl ?_)
      refine ap (y_assign rfl) ?_
      refine a_nil ?_
      refine a_en [(6, .pointer (some ⟨b0_1, 0, none⟩)), (7, .int .i64 x1_5.2.2)] ?_
      refine a_then (a_ret (a_then_ret ?_))
      refine a_done (v := .tuple #[.agg [.int .i64 0, .int .i64 0].toArray, .int .i64 x1_5.2.2]) (.inl rfl) rfl ?_ ?_
      · intro a_ w_ ha_ hs_; exact run_results (P := Tryd.prog) (fn := Tryd.f23) (rs := [.cell 6 32, .tmp 7]) (vs := [.agg [.int .i64 0, .int .i64 0].toArray, .int .i64 x1_5.2.2]) rfl (.cons (rv_cell ha_ rfl (run_loadSt (i := 0) ty32 rfl hs_ rfl rfl)) (.cons (rv_tmp ha_ rfl) (All2.nil)))
      · intro _ _; obtain rfl := Option.some.inj hm
        rw [Span.rep_eq m3_0]
    have N1_1 (Hn1_8 : Hp) (ln1_8 : HLe Hb0_0 Hn1_8) (b1_10 : Nat) (b1_11 : Nat) (cs1_5 : List Value) (cb1_5 : List Value) (hc1_5 : Rp.rep (α := Arr 4 Int) Hn1_8 cs1_5 x1_5.2.1) (hb1_5 : Rp.rep (α := Bk none) Hn1_8 cb1_5 x1_5.1) (mz1_11 : Rp.rep (α := Arr 4 Int) Hn1_8 [.int .i64 0, .int .i64 0, .int .i64 0, .int .i64 0] [0, 0, 0, 0]) : At 30 [] (Kp.mk w H noX) [(2, .int .i64 p2), (6, .pointer (some ⟨b0_1, 0, none⟩)), (8, .pointer (some ⟨b1_10, 0, none⟩)), (9, .pointer (some ⟨b1_11, 0, none⟩)), (19, .agg cs1_5.toArray), (20, .int .i64 x1_5.2.2)] Hn1_8 ([.box b0_1 [.int .i64 0, .int .i64 0] 32, .box b1_10 cb1_5 110, .box b1_11 [.int .i64 0, .int .i64 0, .int .i64 0, .int .i64 0] 111]) (U1 (Sw Hn1_8 [.box b0_1 [.int .i64 0, .int .i64 0] 32]) 2 (bits 15 8191)) := by
      refine d_fwd hU1 ?_
      have hg := Glob.mono ln1_8 hg
      refine d1 13 rfl (e_storeWhole (i := 2) (ds := cs1_5) trivial ty111 rfl rfl rfl rfl (Rp.len hc1_5) ((Rp.one hc1_5)) rfl ?_)
      refine dn 16383 (sw0 [0]) ?_
      exact d_edge hU1 (N1_0 Hn1_8 ln1_8 b1_10 b1_11 cb1_5 cs1_5 hb1_5 hc1_5) ⟨rfl, rfl, rfl, rfl, rfl, trivial⟩ [0, 1, 2] (by decide) rfl (fun _ h => h)
    have N1_2 (Hn1_11 : Hp) (ln1_11 : HLe Hb0_0 Hn1_11) (b1_10 : Nat) (b1_11 : Nat) (cb1_5 : List Value) (cs1_5 : List Value) (hb1_5 : Rp.rep (α := Bk none) Hn1_11 cb1_5 x1_5.1) (hc1_5 : Rp.rep (α := Arr 4 Int) Hn1_11 cs1_5 x1_5.2.1) (mz1_11 : Rp.rep (α := Arr 4 Int) Hn1_11 [.int .i64 0, .int .i64 0, .int .i64 0, .int .i64 0] [0, 0, 0, 0]) : At 30 [] (Kp.mk w H noX) [(2, .int .i64 p2), (6, .pointer (some ⟨b0_1, 0, none⟩)), (8, .pointer (some ⟨b1_10, 0, none⟩)), (9, .pointer (some ⟨b1_11, 0, none⟩)), (18, .agg cb1_5.toArray), (19, .agg cs1_5.toArray), (20, .int .i64 x1_5.2.2)] Hn1_11 ([.box b0_1 [.int .i64 0, .int .i64 0] 32, .box b1_10 [.slice none 0 0, .slice none 0 0, .map none] 110, .box b1_11 [.int .i64 0, .int .i64 0, .int .i64 0, .int .i64 0] 111]) (U1 (Sw Hn1_11 [.box b0_1 [.int .i64 0, .int .i64 0] 32]) 3 (bits 15 4095)) := by
      refine d_fwd hU1 ?_
      have hg := Glob.mono ln1_11 hg
      refine d1 12 rfl (e_storeWhole (i := 1) (ds := cb1_5) trivial ty110 rfl rfl rfl rfl (Rp.len hb1_5) ((Rp.one hb1_5)) rfl ?_)
      refine dn 8191 (sw0 [0]) ?_
      exact d_edge hU1 (N1_1 Hn1_11 ln1_11 b1_10 b1_11 cs1_5 cb1_5 hc1_5 hb1_5 mz1_11) ⟨rfl, rfl, rfl, rfl, rfl, rfl, trivial⟩ [0, 1, 2] (by decide) rfl (fun _ h => h)
    have N1_3 (Hn1_15 : Hp) (ln1_15 : HLe Hb0_0 Hn1_15) (b1_10 : Nat) (cb1_5 : List Value) (cs1_5 : List Value) (hb1_5 : Rp.rep (α := Bk none) Hn1_15 cb1_5 x1_5.1) (hc1_5 : Rp.rep (α := Arr 4 Int) Hn1_15 cs1_5 x1_5.2.1) : At 30 [] (Kp.mk w H noX) [(2, .int .i64 p2), (6, .pointer (some ⟨b0_1, 0, none⟩)), (8, .pointer (some ⟨b1_10, 0, none⟩)), (18, .agg cb1_5.toArray), (19, .agg cs1_5.toArray), (20, .int .i64 x1_5.2.2)] Hn1_15 ([.box b0_1 [.int .i64 0, .int .i64 0] 32, .box b1_10 [.slice none 0 0, .slice none 0 0, .map none] 110]) (U1 (Sw Hn1_15 [.box b0_1 [.int .i64 0, .int .i64 0] 32]) 4 (bits 15 2047)) := by
      refine d_fwd hU1 ?_
      have hg := Glob.mono ln1_15 hg
      refine d1 11 rfl (e_alloc (cs := [.int .i64 0, .int .i64 0, .int .i64 0, .int .i64 0]) trivial rfl ty111 rfl ?_)
      intro b1_11
      have mz1_11 := z111 Hn1_15
      refine dn 4095 (sw0 [1]) ?_
      exact d_edge hU1 (N1_2 Hn1_15 ln1_15 b1_10 b1_11 cb1_5 cs1_5 hb1_5 hc1_5 mz1_11) ⟨rfl, rfl, rfl, rfl, rfl, rfl, rfl, trivial⟩ [1, 2, 0] (by decide) rfl (fun _ h => h)
    have N1_4 (Hn1_16 : Hp) (ln1_16 : HLe Hb0_0 Hn1_16) (b1_11 : Nat) (cb1_5 : List Value) (cs1_5 : List Value) (hb1_5 : Rp.rep (α := Bk none) Hn1_16 cb1_5 x1_5.1) (hc1_5 : Rp.rep (α := Arr 4 Int) Hn1_16 cs1_5 x1_5.2.1) (mz1_11 : Rp.rep (α := Arr 4 Int) Hn1_16 [.int .i64 0, .int .i64 0, .int .i64 0, .int .i64 0] [0, 0, 0, 0]) : At 30 [] (Kp.mk w H noX) [(2, .int .i64 p2), (6, .pointer (some ⟨b0_1, 0, none⟩)), (9, .pointer (some ⟨b1_11, 0, none⟩)), (18, .agg cb1_5.toArray), (19, .agg cs1_5.toArray), (20, .int .i64 x1_5.2.2)] Hn1_16 ([.box b0_1 [.int .i64 0, .int .i64 0] 32, .box b1_11 [.int .i64 0, .int .i64 0, .int .i64 0, .int .i64 0] 111]) (U1 (Sw Hn1_16 [.box b0_1 [.int .i64 0, .int .i64 0] 32]) 4 (bits 15 3071)) := by
      refine d_fwd hU1 ?_
      have hg := Glob.mono ln1_16 hg
      refine d1 10 rfl (e_alloc (cs := [.slice none 0 0, .slice none 0 0, .map none]) trivial rfl ty110 rfl ?_)
      intro b1_10
      refine dn 4095 (sw0 [1]) ?_
      exact d_edge hU1 (N1_2 Hn1_16 ln1_16 b1_10 b1_11 cb1_5 cs1_5 hb1_5 hc1_5 mz1_11) ⟨rfl, rfl, rfl, rfl, rfl, rfl, rfl, trivial⟩ [1, 0, 2] (by decide) rfl (fun _ h => h)
    have N1_5 (Hn1_7 : Hp) (ln1_7 : HLe Hb0_0 Hn1_7) (b1_10 : Nat) (b1_11 : Nat) (cb1_5 : List Value) (cs1_5 : List Value) (hb1_5 : Rp.rep (α := Bk none) Hn1_7 cb1_5 x1_5.1) (hc1_5 : Rp.rep (α := Arr 4 Int) Hn1_7 cs1_5 x1_5.2.1) (mz1_11 : Rp.rep (α := Arr 4 Int) Hn1_7 [.int .i64 0, .int .i64 0, .int .i64 0, .int .i64 0] [0, 0, 0, 0]) : At 30 [] (Kp.mk w H noX) [(2, .int .i64 p2), (6, .pointer (some ⟨b0_1, 0, none⟩)), (8, .pointer (some ⟨b1_10, 0, none⟩)), (9, .pointer (some ⟨b1_11, 0, none⟩)), (17, .tuple #[.agg cb1_5.toArray, .agg cs1_5.toArray, .int .i64 x1_5.2.2])] Hn1_7 ([.box b0_1 [.int .i64 0, .int .i64 0] 32, .box b1_10 [.slice none 0 0, .slice none 0 0, .map none] 110, .box b1_11 [.int .i64 0, .int .i64 0, .int .i64 0, .int .i64 0] 111]) (U1 (Sw Hn1_7 [.box b0_1 [.int .i64 0, .int .i64 0] 32]) 7 (bits 15 3135)) := by
      refine d_fwd hU1 ?_
      have hg := Glob.mono ln1_7 hg
      refine dt 6 3199 rfl trivial (y_move rfl) (sw0 [0]) ?_
      refine dt 7 3327 rfl trivial (y_extract rfl rfl) (sw0 [0]) ?_
      refine dt 8 3583 rfl trivial (y_extract rfl rfl) (sw0 [0]) ?_
      refine dt 9 4095 rfl trivial (y_extract rfl rfl) (sw0 [0]) ?_
      refine d1 12 rfl (e_storeWhole (i := 1) (ds := cb1_5) trivial ty110 rfl rfl rfl rfl (Rp.len hb1_5) ((Rp.one hb1_5)) rfl ?_)
      refine dn 8191 (sw0 [0]) ?_
      exact d_edge hU1 (N1_1 Hn1_7 ln1_7 b1_10 b1_11 cs1_5 cb1_5 hc1_5 hb1_5 mz1_11) ⟨rfl, rfl, rfl, rfl, rfl, rfl, trivial⟩ [0, 1, 2] (by decide) rfl (fun _ h => h)
    have N1_6 (Hn1_13 : Hp) (ln1_13 : HLe Hb0_0 Hn1_13) (b1_10 : Nat) (cb1_5 : List Value) (cs1_5 : List Value) (hb1_5 : Rp.rep (α := Bk none) Hn1_13 cb1_5 x1_5.1) (hc1_5 : Rp.rep (α := Arr 4 Int) Hn1_13 cs1_5 x1_5.2.1) : At 30 [] (Kp.mk w H noX) [(2, .int .i64 p2), (6, .pointer (some ⟨b0_1, 0, none⟩)), (8, .pointer (some ⟨b1_10, 0, none⟩)), (17, .tuple #[.agg cb1_5.toArray, .agg cs1_5.toArray, .int .i64 x1_5.2.2])] Hn1_13 ([.box b0_1 [.int .i64 0, .int .i64 0] 32, .box b1_10 [.slice none 0 0, .slice none 0 0, .map none] 110]) (U1 (Sw Hn1_13 [.box b0_1 [.int .i64 0, .int .i64 0] 32]) 8 (bits 15 1087)) := by
      refine d_fwd hU1 ?_
      have hg := Glob.mono ln1_13 hg
      refine dt 6 1151 rfl trivial (y_move rfl) (sw0 [0]) ?_
      refine dt 7 1279 rfl trivial (y_extract rfl rfl) (sw0 [0]) ?_
      refine dt 8 1535 rfl trivial (y_extract rfl rfl) (sw0 [0]) ?_
      refine dt 9 2047 rfl trivial (y_extract rfl rfl) (sw0 [0]) ?_
      refine d1 11 rfl (e_alloc (cs := [.int .i64 0, .int .i64 0, .int .i64 0, .int .i64 0]) trivial rfl ty111 rfl ?_)
      intro b1_11
      have mz1_11 := z111 Hn1_13
      refine dn 4095 (sw0 [1]) ?_
      exact d_edge hU1 (N1_2 Hn1_13 ln1_13 b1_10 b1_11 cb1_5 cs1_5 hb1_5 hc1_5 mz1_11) ⟨rfl, rfl, rfl, rfl, rfl, rfl, rfl, trivial⟩ [1, 2, 0] (by decide) rfl (fun _ h => h)
    have N1_7 (Hn1_10 : Hp) (ln1_10 : HLe Hb0_0 Hn1_10) (b1_11 : Nat) (cb1_5 : List Value) (cs1_5 : List Value) (hb1_5 : Rp.rep (α := Bk none) Hn1_10 cb1_5 x1_5.1) (hc1_5 : Rp.rep (α := Arr 4 Int) Hn1_10 cs1_5 x1_5.2.1) (mz1_11 : Rp.rep (α := Arr 4 Int) Hn1_10 [.int .i64 0, .int .i64 0, .int .i64 0, .int .i64 0] [0, 0, 0, 0]) : At 30 [] (Kp.mk w H noX) [(2, .int .i64 p2), (6, .pointer (some ⟨b0_1, 0, none⟩)), (9, .pointer (some ⟨b1_11, 0, none⟩)), (17, .tuple #[.agg cb1_5.toArray, .agg cs1_5.toArray, .int .i64 x1_5.2.2])] Hn1_10 ([.box b0_1 [.int .i64 0, .int .i64 0] 32, .box b1_11 [.int .i64 0, .int .i64 0, .int .i64 0, .int .i64 0] 111]) (U1 (Sw Hn1_10 [.box b0_1 [.int .i64 0, .int .i64 0] 32]) 8 (bits 15 2111)) := by
      refine d_fwd hU1 ?_
      have hg := Glob.mono ln1_10 hg
      refine dt 6 2175 rfl trivial (y_move rfl) (sw0 [0]) ?_
      refine dt 7 2303 rfl trivial (y_extract rfl rfl) (sw0 [0]) ?_
      refine dt 8 2559 rfl trivial (y_extract rfl rfl) (sw0 [0]) ?_
      refine dt 9 3071 rfl trivial (y_extract rfl rfl) (sw0 [0]) ?_
      refine d1 10 rfl (e_alloc (cs := [.slice none 0 0, .slice none 0 0, .map none]) trivial rfl ty110 rfl ?_)
      intro b1_10
      refine dn 4095 (sw0 [1]) ?_
      exact d_edge hU1 (N1_2 Hn1_10 ln1_10 b1_10 b1_11 cb1_5 cs1_5 hb1_5 hc1_5 mz1_11) ⟨rfl, rfl, rfl, rfl, rfl, rfl, rfl, trivial⟩ [1, 0, 2] (by decide) rfl (fun _ h => h)
    have N1_8 (Hn1_6 : Hp) (ln1_6 : HLe Hb0_0 Hn1_6) (b1_10 : Nat) (b1_11 : Nat) (u1_0 : List Value) (h1_0 : Rp.rep (α := TunnelBook) Hn1_6 u1_0 p0) (mz1_11 : Rp.rep (α := Arr 4 Int) Hn1_6 [.int .i64 0, .int .i64 0, .int .i64 0, .int .i64 0] [0, 0, 0, 0]) : At 30 [] (Kp.mk w H noX) [(2, .int .i64 p2), (6, .pointer (some ⟨b0_1, 0, none⟩)), (8, .pointer (some ⟨b1_10, 0, none⟩)), (9, .pointer (some ⟨b1_11, 0, none⟩)), (12, .agg u1_0.toArray), (13, v1), (16, .bool x1_4)] Hn1_6 ([.box b0_1 [.int .i64 0, .int .i64 0] 32, .box b1_10 [.slice none 0 0, .slice none 0 0, .map none] 110, .box b1_11 [.int .i64 0, .int .i64 0, .int .i64 0, .int .i64 0] 111]) (U1 (Sw Hn1_6 [.box b0_1 [.int .i64 0, .int .i64 0] 32]) 8 (bits 15 3103)) := by
      refine d_fwd hU1 ?_
      have h1 := Sl.mono ln1_6 h1
      have hg := Glob.mono ln1_6 hg
      refine d1 5 rfl (e_callO (all := [.agg u1_0.toArray, v1, .bool x1_4]) trivial rfl Tryd.func80 rfl rfl rfl rfl rfl (fun w hw => ok_80 hw h1_0 h1 q1_5) ?_)
      rintro _ H1_5 _ l1_5 ⟨cb1_5, cs1_5, mm1_5, rfl, hb1_5, hc1_5, hd1_5⟩
      rcases hd1_5 with ⟨rfl, he1_5, rfl⟩ | ⟨M1_5, rfl, he1_5, rfl⟩
      rotate_left
      · exact absurd k1_5 (by simp [he1_5])
      have h1_0 := Rp.mono l1_5 h1_0
      have h1 := Sl.mono l1_5 h1
      have mz1_11 := Rp.mono l1_5 mz1_11
      have hg := Glob.mono l1_5 hg
      refine dn 3135 (swl l1_5 [0]) ?_
      exact d_edge hU1 (N1_5 H1_5 (ln1_6.trans l1_5) b1_10 b1_11 cb1_5 cs1_5 hb1_5 hc1_5 mz1_11) ⟨rfl, rfl, rfl, rfl, rfl, trivial⟩ [0, 1, 2] (by decide) rfl (sw_sw l1_5 [0] rfl)
    have N1_9 (Hn1_14 : Hp) (ln1_14 : HLe Hb0_0 Hn1_14) (cb1_5 : List Value) (cs1_5 : List Value) (hb1_5 : Rp.rep (α := Bk none) Hn1_14 cb1_5 x1_5.1) (hc1_5 : Rp.rep (α := Arr 4 Int) Hn1_14 cs1_5 x1_5.2.1) : At 30 [] (Kp.mk w H noX) [(2, .int .i64 p2), (6, .pointer (some ⟨b0_1, 0, none⟩)), (17, .tuple #[.agg cb1_5.toArray, .agg cs1_5.toArray, .int .i64 x1_5.2.2])] Hn1_14 ([.box b0_1 [.int .i64 0, .int .i64 0] 32]) (U1 (Sw Hn1_14 [.box b0_1 [.int .i64 0, .int .i64 0] 32]) 9 (bits 15 63)) := by
      refine d_fwd hU1 ?_
      have hg := Glob.mono ln1_14 hg
      refine dt 6 127 rfl trivial (y_move rfl) (sw0 [0]) ?_
      refine dt 7 255 rfl trivial (y_extract rfl rfl) (sw0 [0]) ?_
      refine dt 8 511 rfl trivial (y_extract rfl rfl) (sw0 [0]) ?_
      refine dt 9 1023 rfl trivial (y_extract rfl rfl) (sw0 [0]) ?_
      refine d_all (rs := [10, 11]) (by kernel_rfl) rfl ⟨⟨_, rfl, ?_⟩, ⟨_, rfl, ?_⟩, trivial⟩
      · refine e_alloc (cs := [.slice none 0 0, .slice none 0 0, .map none]) trivial rfl ty110 rfl ?_
        intro b1_10
        refine dn 2047 (sw0 [1]) ?_
        exact d_edge hU1 (N1_3 Hn1_14 ln1_14 b1_10 cb1_5 cs1_5 hb1_5 hc1_5) ⟨rfl, rfl, rfl, rfl, rfl, rfl, trivial⟩ [1, 0] (by decide) rfl (fun _ h => h)
      refine e_alloc (cs := [.int .i64 0, .int .i64 0, .int .i64 0, .int .i64 0]) trivial rfl ty111 rfl ?_
      intro b1_11
      have mz1_11 := z111 Hn1_14
      refine dn 3071 (sw0 [1]) ?_
      exact d_edge hU1 (N1_4 Hn1_14 ln1_14 b1_11 cb1_5 cs1_5 hb1_5 hc1_5 mz1_11) ⟨rfl, rfl, rfl, rfl, rfl, rfl, trivial⟩ [1, 0] (by decide) rfl (fun _ h => h)
    have N1_10 (Hn1_12 : Hp) (ln1_12 : HLe Hb0_0 Hn1_12) (b1_10 : Nat) (u1_0 : List Value) (h1_0 : Rp.rep (α := TunnelBook) Hn1_12 u1_0 p0) : At 30 [] (Kp.mk w H noX) [(2, .int .i64 p2), (6, .pointer (some ⟨b0_1, 0, none⟩)), (8, .pointer (some ⟨b1_10, 0, none⟩)), (12, .agg u1_0.toArray), (13, v1), (16, .bool x1_4)] Hn1_12 ([.box b0_1 [.int .i64 0, .int .i64 0] 32, .box b1_10 [.slice none 0 0, .slice none 0 0, .map none] 110]) (U1 (Sw Hn1_12 [.box b0_1 [.int .i64 0, .int .i64 0] 32]) 9 (bits 15 1055)) := by
      refine d_fwd hU1 ?_
      have h1 := Sl.mono ln1_12 h1
      have hg := Glob.mono ln1_12 hg
      refine d_all (rs := [5, 11]) (by kernel_rfl) rfl ⟨⟨_, rfl, ?_⟩, ⟨_, rfl, ?_⟩, trivial⟩
      · refine e_callO (all := [.agg u1_0.toArray, v1, .bool x1_4]) trivial rfl Tryd.func80 rfl rfl rfl rfl rfl (fun w hw => ok_80 hw h1_0 h1 q1_5) ?_
        rintro _ H1_5 _ l1_5 ⟨cb1_5, cs1_5, mm1_5, rfl, hb1_5, hc1_5, hd1_5⟩
        rcases hd1_5 with ⟨rfl, he1_5, rfl⟩ | ⟨M1_5, rfl, he1_5, rfl⟩
        rotate_left
        · exact absurd k1_5 (by simp [he1_5])
        have h1_0 := Rp.mono l1_5 h1_0
        have h1 := Sl.mono l1_5 h1
        have hg := Glob.mono l1_5 hg
        refine dn 1087 (swl l1_5 [0]) ?_
        exact d_edge hU1 (N1_6 H1_5 (ln1_12.trans l1_5) b1_10 cb1_5 cs1_5 hb1_5 hc1_5) ⟨rfl, rfl, rfl, rfl, trivial⟩ [0, 1] (by decide) rfl (sw_sw l1_5 [0] rfl)
      refine e_alloc (cs := [.int .i64 0, .int .i64 0, .int .i64 0, .int .i64 0]) trivial rfl ty111 rfl ?_
      intro b1_11
      have mz1_11 := z111 Hn1_12
      refine dn 3103 (sw0 [1]) ?_
      exact d_edge hU1 (N1_8 Hn1_12 ln1_12 b1_10 b1_11 u1_0 h1_0 mz1_11) ⟨rfl, rfl, rfl, rfl, rfl, rfl, rfl, trivial⟩ [1, 2, 0] (by decide) rfl (fun _ h => h)
    have N1_11 (Hn1_4 : Hp) (ln1_4 : HLe Hb0_0 Hn1_4) (b1_11 : Nat) (u1_0 : List Value) (h1_0 : Rp.rep (α := TunnelBook) Hn1_4 u1_0 p0) (mz1_11 : Rp.rep (α := Arr 4 Int) Hn1_4 [.int .i64 0, .int .i64 0, .int .i64 0, .int .i64 0] [0, 0, 0, 0]) : At 30 [] (Kp.mk w H noX) [(2, .int .i64 p2), (6, .pointer (some ⟨b0_1, 0, none⟩)), (9, .pointer (some ⟨b1_11, 0, none⟩)), (12, .agg u1_0.toArray), (13, v1), (16, .bool x1_4)] Hn1_4 ([.box b0_1 [.int .i64 0, .int .i64 0] 32, .box b1_11 [.int .i64 0, .int .i64 0, .int .i64 0, .int .i64 0] 111]) (U1 (Sw Hn1_4 [.box b0_1 [.int .i64 0, .int .i64 0] 32]) 9 (bits 15 2079)) := by
      refine d_fwd hU1 ?_
      have h1 := Sl.mono ln1_4 h1
      have hg := Glob.mono ln1_4 hg
      refine d_all (rs := [5, 10]) (by kernel_rfl) rfl ⟨⟨_, rfl, ?_⟩, ⟨_, rfl, ?_⟩, trivial⟩
      · refine e_callO (all := [.agg u1_0.toArray, v1, .bool x1_4]) trivial rfl Tryd.func80 rfl rfl rfl rfl rfl (fun w hw => ok_80 hw h1_0 h1 q1_5) ?_
        rintro _ H1_5 _ l1_5 ⟨cb1_5, cs1_5, mm1_5, rfl, hb1_5, hc1_5, hd1_5⟩
        rcases hd1_5 with ⟨rfl, he1_5, rfl⟩ | ⟨M1_5, rfl, he1_5, rfl⟩
        rotate_left
        · exact absurd k1_5 (by simp [he1_5])
        have h1_0 := Rp.mono l1_5 h1_0
        have h1 := Sl.mono l1_5 h1
        have mz1_11 := Rp.mono l1_5 mz1_11
        have hg := Glob.mono l1_5 hg
        refine dn 2111 (swl l1_5 [0]) ?_
        exact d_edge hU1 (N1_7 H1_5 (ln1_4.trans l1_5) b1_11 cb1_5 cs1_5 hb1_5 hc1_5 mz1_11) ⟨rfl, rfl, rfl, rfl, trivial⟩ [0, 1] (by decide) rfl (sw_sw l1_5 [0] rfl)
      refine e_alloc (cs := [.slice none 0 0, .slice none 0 0, .map none]) trivial rfl ty110 rfl ?_
      intro b1_10
      refine dn 3103 (sw0 [1]) ?_
      exact d_edge hU1 (N1_8 Hn1_4 ln1_4 b1_10 b1_11 u1_0 h1_0 mz1_11) ⟨rfl, rfl, rfl, rfl, rfl, rfl, rfl, trivial⟩ [1, 0, 2] (by decide) rfl (fun _ h => h)
    have N1_12 (Hn1_5 : Hp) (ln1_5 : HLe Hb0_0 Hn1_5) (b1_10 : Nat) (b1_11 : Nat) (u1_0 : List Value) (u1_2 : List Value) (h1_0 : Rp.rep (α := TunnelBook) Hn1_5 u1_0 p0) (h1_2 : Rp.rep (α := TunnelBook) Hn1_5 u1_2 p0) (mz1_11 : Rp.rep (α := Arr 4 Int) Hn1_5 [.int .i64 0, .int .i64 0, .int .i64 0, .int .i64 0] [0, 0, 0, 0]) : At 30 [] (Kp.mk w H noX) [(2, .int .i64 p2), (6, .pointer (some ⟨b0_1, 0, none⟩)), (8, .pointer (some ⟨b1_10, 0, none⟩)), (9, .pointer (some ⟨b1_11, 0, none⟩)), (12, .agg u1_0.toArray), (13, v1), (14, .agg u1_2.toArray), (15, .int .i64 p2)] Hn1_5 ([.box b0_1 [.int .i64 0, .int .i64 0] 32, .box b1_10 [.slice none 0 0, .slice none 0 0, .map none] 110, .box b1_11 [.int .i64 0, .int .i64 0, .int .i64 0, .int .i64 0] 111]) (U1 (Sw Hn1_5 [.box b0_1 [.int .i64 0, .int .i64 0] 32]) 9 (bits 15 3087)) := by
      refine d_fwd hU1 ?_
      have h1 := Sl.mono ln1_5 h1
      have hg := Glob.mono ln1_5 hg
      refine d1 4 rfl (e_callV (all := [.agg u1_2.toArray, .int .i64 p2]) (v := .bool x1_4) trivial rfl Tryd.func88 rfl rfl rfl rfl rfl (fun w hw => ok_88 hw h1_2 q1_4) ?_)
      refine dn 3103 (sw0 [0]) ?_
      exact d_edge hU1 (N1_8 Hn1_5 ln1_5 b1_10 b1_11 u1_0 h1_0 mz1_11) ⟨rfl, rfl, rfl, rfl, rfl, rfl, rfl, trivial⟩ [0, 1, 2] (by decide) rfl (fun _ h => h)
    have N1_13 (Hn1_1 : Hp) (ln1_1 : HLe Hb0_0 Hn1_1) (u1_0 : List Value) (h1_0 : Rp.rep (α := TunnelBook) Hn1_1 u1_0 p0) : At 30 [] (Kp.mk w H noX) [(2, .int .i64 p2), (6, .pointer (some ⟨b0_1, 0, none⟩)), (12, .agg u1_0.toArray), (13, v1), (16, .bool x1_4)] Hn1_1 ([.box b0_1 [.int .i64 0, .int .i64 0] 32]) (U1 (Sw Hn1_1 [.box b0_1 [.int .i64 0, .int .i64 0] 32]) 10 (bits 15 31)) := by
      refine d_fwd hU1 ?_
      have h1 := Sl.mono ln1_1 h1
      have hg := Glob.mono ln1_1 hg
      refine d_all (rs := [5, 10, 11]) (by kernel_rfl) rfl ⟨⟨_, rfl, ?_⟩, ⟨_, rfl, ?_⟩, ⟨_, rfl, ?_⟩, trivial⟩
      · refine e_callO (all := [.agg u1_0.toArray, v1, .bool x1_4]) trivial rfl Tryd.func80 rfl rfl rfl rfl rfl (fun w hw => ok_80 hw h1_0 h1 q1_5) ?_
        rintro _ H1_5 _ l1_5 ⟨cb1_5, cs1_5, mm1_5, rfl, hb1_5, hc1_5, hd1_5⟩
        rcases hd1_5 with ⟨rfl, he1_5, rfl⟩ | ⟨M1_5, rfl, he1_5, rfl⟩
        rotate_left
        · exact absurd k1_5 (by simp [he1_5])
        have h1_0 := Rp.mono l1_5 h1_0
        have h1 := Sl.mono l1_5 h1
        have hg := Glob.mono l1_5 hg
        refine dn 63 (swl l1_5 [0]) ?_
        exact d_edge hU1 (N1_9 H1_5 (ln1_1.trans l1_5) cb1_5 cs1_5 hb1_5 hc1_5) ⟨rfl, rfl, rfl, trivial⟩ [0] (by decide) rfl (sw_sw l1_5 [0] rfl)
      · refine e_alloc (cs := [.slice none 0 0, .slice none 0 0, .map none]) trivial rfl ty110 rfl ?_
        intro b1_10
        refine dn 1055 (sw0 [1]) ?_
        exact d_edge hU1 (N1_10 Hn1_1 ln1_1 b1_10 u1_0 h1_0) ⟨rfl, rfl, rfl, rfl, rfl, rfl, trivial⟩ [1, 0] (by decide) rfl (fun _ h => h)
      refine e_alloc (cs := [.int .i64 0, .int .i64 0, .int .i64 0, .int .i64 0]) trivial rfl ty111 rfl ?_
      intro b1_11
      have mz1_11 := z111 Hn1_1
      refine dn 2079 (sw0 [1]) ?_
      exact d_edge hU1 (N1_11 Hn1_1 ln1_1 b1_11 u1_0 h1_0 mz1_11) ⟨rfl, rfl, rfl, rfl, rfl, rfl, trivial⟩ [1, 0] (by decide) rfl (fun _ h => h)
    have N1_14 (Hn1_2 : Hp) (ln1_2 : HLe Hb0_0 Hn1_2) (b1_10 : Nat) (u1_0 : List Value) (u1_2 : List Value) (h1_0 : Rp.rep (α := TunnelBook) Hn1_2 u1_0 p0) (h1_2 : Rp.rep (α := TunnelBook) Hn1_2 u1_2 p0) : At 30 [] (Kp.mk w H noX) [(2, .int .i64 p2), (6, .pointer (some ⟨b0_1, 0, none⟩)), (8, .pointer (some ⟨b1_10, 0, none⟩)), (12, .agg u1_0.toArray), (13, v1), (14, .agg u1_2.toArray), (15, .int .i64 p2)] Hn1_2 ([.box b0_1 [.int .i64 0, .int .i64 0] 32, .box b1_10 [.slice none 0 0, .slice none 0 0, .map none] 110]) (U1 (Sw Hn1_2 [.box b0_1 [.int .i64 0, .int .i64 0] 32]) 10 (bits 15 1039)) := by
      refine d_fwd hU1 ?_
      have h1 := Sl.mono ln1_2 h1
      have hg := Glob.mono ln1_2 hg
      refine d_all (rs := [4, 11]) (by kernel_rfl) rfl ⟨⟨_, rfl, ?_⟩, ⟨_, rfl, ?_⟩, trivial⟩
      · refine e_callV (all := [.agg u1_2.toArray, .int .i64 p2]) (v := .bool x1_4) trivial rfl Tryd.func88 rfl rfl rfl rfl rfl (fun w hw => ok_88 hw h1_2 q1_4) ?_
        refine dn 1055 (sw0 [0]) ?_
        exact d_edge hU1 (N1_10 Hn1_2 ln1_2 b1_10 u1_0 h1_0) ⟨rfl, rfl, rfl, rfl, rfl, rfl, trivial⟩ [0, 1] (by decide) rfl (fun _ h => h)
      refine e_alloc (cs := [.int .i64 0, .int .i64 0, .int .i64 0, .int .i64 0]) trivial rfl ty111 rfl ?_
      intro b1_11
      have mz1_11 := z111 Hn1_2
      refine dn 3087 (sw0 [1]) ?_
      exact d_edge hU1 (N1_12 Hn1_2 ln1_2 b1_10 b1_11 u1_0 u1_2 h1_0 h1_2 mz1_11) ⟨rfl, rfl, rfl, rfl, rfl, rfl, rfl, rfl, trivial⟩ [1, 2, 0] (by decide) rfl (fun _ h => h)
    have N1_15 (Hn1_3 : Hp) (ln1_3 : HLe Hb0_0 Hn1_3) (b1_11 : Nat) (u1_0 : List Value) (u1_2 : List Value) (h1_0 : Rp.rep (α := TunnelBook) Hn1_3 u1_0 p0) (h1_2 : Rp.rep (α := TunnelBook) Hn1_3 u1_2 p0) (mz1_11 : Rp.rep (α := Arr 4 Int) Hn1_3 [.int .i64 0, .int .i64 0, .int .i64 0, .int .i64 0] [0, 0, 0, 0]) : At 30 [] (Kp.mk w H noX) [(2, .int .i64 p2), (6, .pointer (some ⟨b0_1, 0, none⟩)), (9, .pointer (some ⟨b1_11, 0, none⟩)), (12, .agg u1_0.toArray), (13, v1), (14, .agg u1_2.toArray), (15, .int .i64 p2)] Hn1_3 ([.box b0_1 [.int .i64 0, .int .i64 0] 32, .box b1_11 [.int .i64 0, .int .i64 0, .int .i64 0, .int .i64 0] 111]) (U1 (Sw Hn1_3 [.box b0_1 [.int .i64 0, .int .i64 0] 32]) 10 (bits 15 2063)) := by
      refine d_fwd hU1 ?_
      have h1 := Sl.mono ln1_3 h1
      have hg := Glob.mono ln1_3 hg
      refine d_all (rs := [4, 10]) (by kernel_rfl) rfl ⟨⟨_, rfl, ?_⟩, ⟨_, rfl, ?_⟩, trivial⟩
      · refine e_callV (all := [.agg u1_2.toArray, .int .i64 p2]) (v := .bool x1_4) trivial rfl Tryd.func88 rfl rfl rfl rfl rfl (fun w hw => ok_88 hw h1_2 q1_4) ?_
        refine dn 2079 (sw0 [0]) ?_
        exact d_edge hU1 (N1_11 Hn1_3 ln1_3 b1_11 u1_0 h1_0 mz1_11) ⟨rfl, rfl, rfl, rfl, rfl, rfl, trivial⟩ [0, 1] (by decide) rfl (fun _ h => h)
      refine e_alloc (cs := [.slice none 0 0, .slice none 0 0, .map none]) trivial rfl ty110 rfl ?_
      intro b1_10
      refine dn 3087 (sw0 [1]) ?_
      exact d_edge hU1 (N1_12 Hn1_3 ln1_3 b1_10 b1_11 u1_0 u1_2 h1_0 h1_2 mz1_11) ⟨rfl, rfl, rfl, rfl, rfl, rfl, rfl, rfl, trivial⟩ [1, 0, 2] (by decide) rfl (fun _ h => h)
    refine d_fwd hU1 ?_
    obtain ⟨u1_0, h1_0, c1_0⟩ := PAt.one hb0_0
    refine dt 0 1 rfl trivial (y_load_cells ty25 rfl (fun _ h => h.1) rfl c1_0 (Rp.len h1_0)) (sw0 [0]) ?_
    refine dt 1 3 rfl trivial (y_move rfl) (sw0 [0]) ?_
    obtain ⟨u1_2, h1_2, c1_2⟩ := PAt.one hb0_0
    refine dt 2 7 rfl trivial (y_load_cells ty25 rfl (fun _ h => h.1) rfl c1_2 (Rp.len h1_2)) (sw0 [0]) ?_
    refine dt 3 15 rfl trivial (y_move rfl) (sw0 [0]) ?_
    refine d_all (rs := [4, 10, 11]) (by kernel_rfl) rfl ⟨⟨_, rfl, ?_⟩, ⟨_, rfl, ?_⟩, ⟨_, rfl, ?_⟩, trivial⟩
    · refine e_callV (all := [.agg u1_2.toArray, .int .i64 p2]) (v := .bool x1_4) trivial rfl Tryd.func88 rfl rfl rfl rfl rfl (fun w hw => ok_88 hw h1_2 q1_4) ?_
      refine dn 31 (sw0 [0]) ?_
      exact d_edge hU1 (N1_13 Hb0_0 (HLe.refl _) u1_0 h1_0) ⟨rfl, rfl, rfl, rfl, rfl, trivial⟩ [0] (by decide) rfl (fun _ h => h)
    · refine e_alloc (cs := [.slice none 0 0, .slice none 0 0, .map none]) trivial rfl ty110 rfl ?_
      intro b1_10
      refine dn 1039 (sw0 [1]) ?_
      exact d_edge hU1 (N1_14 Hb0_0 (HLe.refl _) b1_10 u1_0 u1_2 h1_0 h1_2) ⟨rfl, rfl, rfl, rfl, rfl, rfl, rfl, trivial⟩ [1, 0] (by decide) rfl (fun _ h => h)
    refine e_alloc (cs := [.int .i64 0, .int .i64 0, .int .i64 0, .int .i64 0]) trivial rfl ty111 rfl ?_
    intro b1_11
    have mz1_11 := z111 Hb0_0
    refine dn 2063 (sw0 [1]) ?_
    exact d_edge hU1 (N1_15 Hb0_0 (HLe.refl _) b1_11 u1_0 u1_2 h1_0 h1_2 mz1_11) ⟨rfl, rfl, rfl, rfl, rfl, rfl, rfl, trivial⟩ [1, 0] (by decide) rfl (fun _ h => h)
  have hm := cond_f k1_5 hm
  refine d_region (S := Sw Hb0_0 [.box b0_1 [.int .i64 0, .int .i64 0] 32]) (n := 15) (listed := (bits 15 0)) mixed (by kernel_rfl) rfl (by kernel_rfl) ?_
  refine d_abs fun U1 hU1 => ?_
  have N1_0 (Hn1_9 : Hp) (ln1_9 : HLe Hb0_0 Hn1_9) (b1_10 : Nat) (b1_11 : Nat) (M1_5 : Nat) (cb1_5 : List Value) (cs1_5 : List Value) (hb1_5 : Rp.rep (α := Bk (some M1_5)) Hn1_9 cb1_5 x1_5.1) (hc1_5 : Rp.rep (α := Arr 4 Int) Hn1_9 cs1_5 x1_5.2.1) : At 30 [] (Kp.mk w H noX) [(2, .int .i64 p2), (6, .pointer (some ⟨b0_1, 0, none⟩)), (8, .pointer (some ⟨b1_10, 0, none⟩)), (9, .pointer (some ⟨b1_11, 0, none⟩)), (20, .int .i64 x1_5.2.2)] Hn1_9 ([.blk M1_5 (Memo x1_5.1), .box b0_1 [.int .i64 0, .int .i64 0] 32, .box b1_10 cb1_5 110, .box b1_11 cs1_5 111]) (U1 (Sw Hn1_9 [.box b0_1 [.int .i64 0, .int .i64 0] 32]) 1 (bits 15 16383)) := by
    refine d_fwd hU1 ?_
    have hg := Glob.mono ln1_9 hg
    refine dt 14 32767 rfl trivial (y_assign rfl) (sw0 [1]) ?_
    refine d_done (by kernel_rfl) ?_
    refine a_freeze (α := Bk _) (x := x1_5.1) (i := 2) rfl hb1_5 ?_
    intro Hb1_10 lb1_10 hb1_10
    have hc1_5 := Rp.mono lb1_10 hc1_5
    have hg := Glob.mono lb1_10 hg
    refine a_freeze (α := Arr 4 Int) (x := x1_5.2.1) (i := 3) rfl hc1_5 ?_
    intro Hb1_11 lb1_11 hb1_11
    have hb1_10 := PAt.mono lb1_11 hb1_10
    have hg := Glob.mono lb1_11 hg
    refine a_en [(2, .int .i64 p2), (6, .pointer (some ⟨b0_1, 0, none⟩)), (8, .pointer (some ⟨b1_10, 0, none⟩)), (9, .pointer (some ⟨b1_11, 0, none⟩)), (10, .int .i64 x1_5.2.2)] ?_
    refine a_own [0, 1] (by decide) (L' := [.blk M1_5 (Memo x1_5.1), .box b0_1 [.int .i64 0, .int .i64 0] 32]) rfl ?_
    refine a_then (a_seq (a_seq (a_region rfl ?_)))
    refine ap (y_move rfl) ?_
    refine ap (y_neq rfl rfl) ?_
    refine a_nil ?_
    refine a_en [(2, .int .i64 p2), (6, .pointer (some ⟨b0_1, 0, none⟩)), (8, .pointer (some ⟨b1_10, 0, none⟩)), (9, .pointer (some ⟨b1_11, 0, none⟩)), (10, .int .i64 x1_5.2.2), (22, .bool (x1_5.2.2 != 0))] ?_
    refine a_then ?_
    refine a_cond rfl (fun h_ => absurd (h_.symm.trans k1_5) (by decide)) (fun _ => ?_)
    refine a_skip (a_then (a_seq (a_region rfl ?_)))
    obtain ⟨u4_0, h4_0, c4_0⟩ := PAt.one hb1_10
    refine ap (y_load_cells ty110 rfl (fun _ h => h.sub) rfl c4_0 (Rp.len h4_0)) ?_
    refine ap (y_move rfl) ?_
    obtain ⟨u4_2, h4_2, c4_2⟩ := PAt.one hb1_11
    refine ap (y_load_cells ty111 rfl (fun _ h => h.sub) rfl c4_2 (Rp.len h4_2)) ?_
    have m4_3 : Rp.rep Hb1_11 ([Value.int .i64 p2] ++ (u4_2)) (⟨p2, x1_5.2.1⟩ : TunnelDrying) := ⟨_, _, rfl, rfl, h4_2⟩
    refine ap (y_build (pl := [(0, 1), (1, 4)]) (xs := [.tmp 26, .tmp 27]) (cs := [Value.int .i64 p2] ++ (u4_2)) ty120 (.cons ⟨rfl, ty3.szOf⟩ (.cons ⟨rfl, ty111.szOf⟩ (All2.nil))) rfl rfl ⟨_, rfl, rfl, ⟨_, by show List.length _ = _; exact Rp.len h4_2, rfl, trivial⟩⟩ (by rw [Rp.len m4_3]; rfl) (by simp [Value.cells])) ?_
    obtain ⟨x4_4, q4_4, hm⟩ := bind_some hm
    refine a_cons (e_callM (i := 0) (all := [.agg u4_0.toArray, .agg ([Value.int .i64 p2] ++ (u4_2)).toArray]) trivial rfl Tryd.func89 rfl rfl rfl rfl rfl rfl (fun w hw ho hn => ok_89 hw h4_0 m4_3 hg ho hn q4_4) ?_)
    rintro _ H4_4 l4_4 ⟨rfl⟩
    have hb1_10 := PAt.mono l4_4 hb1_10
    have hb1_11 := PAt.mono l4_4 hb1_11
    have h4_0 := Rp.mono l4_4 h4_0
    have h4_2 := Rp.mono l4_4 h4_2
    have m4_3 := Rp.mono l4_4 m4_3
    have hg := Glob.mono l4_4 hg
    refine a_cons (e_storeWhole (i := 1) (ds := x4_4.cells) trivial ty32 rfl rfl rfl rfl rfl ((Rp.one (Span.rep_mk (fun _ => none) x4_4))) rfl ?_)
    refine ap (y_assign rfl) ?_
    refine a_nil ?_
    refine a_en [(6, .pointer (some ⟨b0_1, 0, none⟩)), (7, .int .i64 0)] ?_
    refine a_then (a_ret ?_)
    refine a_done (v := .tuple #[.agg x4_4.cells.toArray, .int .i64 0]) (.inl rfl) rfl ?_ ?_
    · intro a_ w_ ha_ hs_; exact run_results (P := Tryd.prog) (fn := Tryd.f23) (rs := [.cell 6 32, .tmp 7]) (vs := [.agg x4_4.cells.toArray, .int .i64 0]) rfl (.cons (rv_cell ha_ rfl (run_loadSt (i := 1) ty32 rfl hs_ rfl rfl)) (.cons (rv_tmp ha_ rfl) (All2.nil)))
    · intro _ _; obtain rfl := Option.some.inj hm
      rfl
  have N1_1 (Hn1_8 : Hp) (ln1_8 : HLe Hb0_0 Hn1_8) (b1_10 : Nat) (b1_11 : Nat) (cs1_5 : List Value) (M1_5 : Nat) (cb1_5 : List Value) (hc1_5 : Rp.rep (α := Arr 4 Int) Hn1_8 cs1_5 x1_5.2.1) (hb1_5 : Rp.rep (α := Bk (some M1_5)) Hn1_8 cb1_5 x1_5.1) (mz1_11 : Rp.rep (α := Arr 4 Int) Hn1_8 [.int .i64 0, .int .i64 0, .int .i64 0, .int .i64 0] [0, 0, 0, 0]) : At 30 [] (Kp.mk w H noX) [(2, .int .i64 p2), (6, .pointer (some ⟨b0_1, 0, none⟩)), (8, .pointer (some ⟨b1_10, 0, none⟩)), (9, .pointer (some ⟨b1_11, 0, none⟩)), (19, .agg cs1_5.toArray), (20, .int .i64 x1_5.2.2)] Hn1_8 ([.blk M1_5 (Memo x1_5.1), .box b0_1 [.int .i64 0, .int .i64 0] 32, .box b1_10 cb1_5 110, .box b1_11 [.int .i64 0, .int .i64 0, .int .i64 0, .int .i64 0] 111]) (U1 (Sw Hn1_8 [.box b0_1 [.int .i64 0, .int .i64 0] 32]) 2 (bits 15 8191)) := by
    refine d_fwd hU1 ?_
    have hg := Glob.mono ln1_8 hg
    refine d1 13 rfl (e_storeWhole (i := 3) (ds := cs1_5) trivial ty111 rfl rfl rfl rfl (Rp.len hc1_5) ((Rp.one hc1_5)) rfl ?_)
    refine dn 16383 (sw0 [1]) ?_
    exact d_edge hU1 (N1_0 Hn1_8 ln1_8 b1_10 b1_11 M1_5 cb1_5 cs1_5 hb1_5 hc1_5) ⟨rfl, rfl, rfl, rfl, rfl, trivial⟩ [0, 1, 2, 3] (by decide) rfl (fun _ h => h)
  have N1_2 (Hn1_11 : Hp) (ln1_11 : HLe Hb0_0 Hn1_11) (b1_10 : Nat) (b1_11 : Nat) (cb1_5 : List Value) (M1_5 : Nat) (cs1_5 : List Value) (hb1_5 : Rp.rep (α := Bk (some M1_5)) Hn1_11 cb1_5 x1_5.1) (hc1_5 : Rp.rep (α := Arr 4 Int) Hn1_11 cs1_5 x1_5.2.1) (mz1_11 : Rp.rep (α := Arr 4 Int) Hn1_11 [.int .i64 0, .int .i64 0, .int .i64 0, .int .i64 0] [0, 0, 0, 0]) : At 30 [] (Kp.mk w H noX) [(2, .int .i64 p2), (6, .pointer (some ⟨b0_1, 0, none⟩)), (8, .pointer (some ⟨b1_10, 0, none⟩)), (9, .pointer (some ⟨b1_11, 0, none⟩)), (18, .agg cb1_5.toArray), (19, .agg cs1_5.toArray), (20, .int .i64 x1_5.2.2)] Hn1_11 ([.blk M1_5 (Memo x1_5.1), .box b0_1 [.int .i64 0, .int .i64 0] 32, .box b1_10 [.slice none 0 0, .slice none 0 0, .map none] 110, .box b1_11 [.int .i64 0, .int .i64 0, .int .i64 0, .int .i64 0] 111]) (U1 (Sw Hn1_11 [.box b0_1 [.int .i64 0, .int .i64 0] 32]) 3 (bits 15 4095)) := by
    refine d_fwd hU1 ?_
    have hg := Glob.mono ln1_11 hg
    refine d1 12 rfl (e_storeWhole (i := 2) (ds := cb1_5) trivial ty110 rfl rfl rfl rfl (Rp.len hb1_5) ((Rp.one hb1_5)) rfl ?_)
    refine dn 8191 (sw0 [1]) ?_
    exact d_edge hU1 (N1_1 Hn1_11 ln1_11 b1_10 b1_11 cs1_5 M1_5 cb1_5 hc1_5 hb1_5 mz1_11) ⟨rfl, rfl, rfl, rfl, rfl, rfl, trivial⟩ [0, 1, 2, 3] (by decide) rfl (fun _ h => h)
  have N1_3 (Hn1_15 : Hp) (ln1_15 : HLe Hb0_0 Hn1_15) (b1_10 : Nat) (cb1_5 : List Value) (M1_5 : Nat) (cs1_5 : List Value) (hb1_5 : Rp.rep (α := Bk (some M1_5)) Hn1_15 cb1_5 x1_5.1) (hc1_5 : Rp.rep (α := Arr 4 Int) Hn1_15 cs1_5 x1_5.2.1) : At 30 [] (Kp.mk w H noX) [(2, .int .i64 p2), (6, .pointer (some ⟨b0_1, 0, none⟩)), (8, .pointer (some ⟨b1_10, 0, none⟩)), (18, .agg cb1_5.toArray), (19, .agg cs1_5.toArray), (20, .int .i64 x1_5.2.2)] Hn1_15 ([.blk M1_5 (Memo x1_5.1), .box b0_1 [.int .i64 0, .int .i64 0] 32, .box b1_10 [.slice none 0 0, .slice none 0 0, .map none] 110]) (U1 (Sw Hn1_15 [.box b0_1 [.int .i64 0, .int .i64 0] 32]) 4 (bits 15 2047)) := by
    refine d_fwd hU1 ?_
    have hg := Glob.mono ln1_15 hg
    refine d1 11 rfl (e_alloc (cs := [.int .i64 0, .int .i64 0, .int .i64 0, .int .i64 0]) trivial rfl ty111 rfl ?_)
    intro b1_11
    have mz1_11 := z111 Hn1_15
    refine dn 4095 (sw0 [2]) ?_
    exact d_edge hU1 (N1_2 Hn1_15 ln1_15 b1_10 b1_11 cb1_5 M1_5 cs1_5 hb1_5 hc1_5 mz1_11) ⟨rfl, rfl, rfl, rfl, rfl, rfl, rfl, trivial⟩ [1, 2, 3, 0] (by decide) rfl (fun _ h => h)
  have N1_4 (Hn1_16 : Hp) (ln1_16 : HLe Hb0_0 Hn1_16) (b1_11 : Nat) (cb1_5 : List Value) (M1_5 : Nat) (cs1_5 : List Value) (hb1_5 : Rp.rep (α := Bk (some M1_5)) Hn1_16 cb1_5 x1_5.1) (hc1_5 : Rp.rep (α := Arr 4 Int) Hn1_16 cs1_5 x1_5.2.1) (mz1_11 : Rp.rep (α := Arr 4 Int) Hn1_16 [.int .i64 0, .int .i64 0, .int .i64 0, .int .i64 0] [0, 0, 0, 0]) : At 30 [] (Kp.mk w H noX) [(2, .int .i64 p2), (6, .pointer (some ⟨b0_1, 0, none⟩)), (9, .pointer (some ⟨b1_11, 0, none⟩)), (18, .agg cb1_5.toArray), (19, .agg cs1_5.toArray), (20, .int .i64 x1_5.2.2)] Hn1_16 ([.blk M1_5 (Memo x1_5.1), .box b0_1 [.int .i64 0, .int .i64 0] 32, .box b1_11 [.int .i64 0, .int .i64 0, .int .i64 0, .int .i64 0] 111]) (U1 (Sw Hn1_16 [.box b0_1 [.int .i64 0, .int .i64 0] 32]) 4 (bits 15 3071)) := by
    refine d_fwd hU1 ?_
    have hg := Glob.mono ln1_16 hg
    refine d1 10 rfl (e_alloc (cs := [.slice none 0 0, .slice none 0 0, .map none]) trivial rfl ty110 rfl ?_)
    intro b1_10
    refine dn 4095 (sw0 [2]) ?_
    exact d_edge hU1 (N1_2 Hn1_16 ln1_16 b1_10 b1_11 cb1_5 M1_5 cs1_5 hb1_5 hc1_5 mz1_11) ⟨rfl, rfl, rfl, rfl, rfl, rfl, rfl, trivial⟩ [1, 2, 0, 3] (by decide) rfl (fun _ h => h)
  have N1_5 (Hn1_7 : Hp) (ln1_7 : HLe Hb0_0 Hn1_7) (b1_10 : Nat) (b1_11 : Nat) (cb1_5 : List Value) (M1_5 : Nat) (cs1_5 : List Value) (hb1_5 : Rp.rep (α := Bk (some M1_5)) Hn1_7 cb1_5 x1_5.1) (hc1_5 : Rp.rep (α := Arr 4 Int) Hn1_7 cs1_5 x1_5.2.1) (mz1_11 : Rp.rep (α := Arr 4 Int) Hn1_7 [.int .i64 0, .int .i64 0, .int .i64 0, .int .i64 0] [0, 0, 0, 0]) : At 30 [] (Kp.mk w H noX) [(2, .int .i64 p2), (6, .pointer (some ⟨b0_1, 0, none⟩)), (8, .pointer (some ⟨b1_10, 0, none⟩)), (9, .pointer (some ⟨b1_11, 0, none⟩)), (17, .tuple #[.agg cb1_5.toArray, .agg cs1_5.toArray, .int .i64 x1_5.2.2])] Hn1_7 ([.blk M1_5 (Memo x1_5.1), .box b0_1 [.int .i64 0, .int .i64 0] 32, .box b1_10 [.slice none 0 0, .slice none 0 0, .map none] 110, .box b1_11 [.int .i64 0, .int .i64 0, .int .i64 0, .int .i64 0] 111]) (U1 (Sw Hn1_7 [.box b0_1 [.int .i64 0, .int .i64 0] 32]) 7 (bits 15 3135)) := by
    refine d_fwd hU1 ?_
    have hg := Glob.mono ln1_7 hg
    refine dt 6 3199 rfl trivial (y_move rfl) (sw0 [1]) ?_
    refine dt 7 3327 rfl trivial (y_extract rfl rfl) (sw0 [1]) ?_
    refine dt 8 3583 rfl trivial (y_extract rfl rfl) (sw0 [1]) ?_
    refine dt 9 4095 rfl trivial (y_extract rfl rfl) (sw0 [1]) ?_
    refine d1 12 rfl (e_storeWhole (i := 2) (ds := cb1_5) trivial ty110 rfl rfl rfl rfl (Rp.len hb1_5) ((Rp.one hb1_5)) rfl ?_)
    refine dn 8191 (sw0 [1]) ?_
    exact d_edge hU1 (N1_1 Hn1_7 ln1_7 b1_10 b1_11 cs1_5 M1_5 cb1_5 hc1_5 hb1_5 mz1_11) ⟨rfl, rfl, rfl, rfl, rfl, rfl, trivial⟩ [0, 1, 2, 3] (by decide) rfl (fun _ h => h)
  have N1_6 (Hn1_13 : Hp) (ln1_13 : HLe Hb0_0 Hn1_13) (b1_10 : Nat) (cb1_5 : List Value) (M1_5 : Nat) (cs1_5 : List Value) (hb1_5 : Rp.rep (α := Bk (some M1_5)) Hn1_13 cb1_5 x1_5.1) (hc1_5 : Rp.rep (α := Arr 4 Int) Hn1_13 cs1_5 x1_5.2.1) : At 30 [] (Kp.mk w H noX) [(2, .int .i64 p2), (6, .pointer (some ⟨b0_1, 0, none⟩)), (8, .pointer (some ⟨b1_10, 0, none⟩)), (17, .tuple #[.agg cb1_5.toArray, .agg cs1_5.toArray, .int .i64 x1_5.2.2])] Hn1_13 ([.blk M1_5 (Memo x1_5.1), .box b0_1 [.int .i64 0, .int .i64 0] 32, .box b1_10 [.slice none 0 0, .slice none 0 0, .map none] 110]) (U1 (Sw Hn1_13 [.box b0_1 [.int .i64 0, .int .i64 0] 32]) 8 (bits 15 1087)) := by
    refine d_fwd hU1 ?_
    have hg := Glob.mono ln1_13 hg
    refine dt 6 1151 rfl trivial (y_move rfl) (sw0 [1]) ?_
    refine dt 7 1279 rfl trivial (y_extract rfl rfl) (sw0 [1]) ?_
    refine dt 8 1535 rfl trivial (y_extract rfl rfl) (sw0 [1]) ?_
    refine dt 9 2047 rfl trivial (y_extract rfl rfl) (sw0 [1]) ?_
    refine d1 11 rfl (e_alloc (cs := [.int .i64 0, .int .i64 0, .int .i64 0, .int .i64 0]) trivial rfl ty111 rfl ?_)
    intro b1_11
    have mz1_11 := z111 Hn1_13
    refine dn 4095 (sw0 [2]) ?_
    exact d_edge hU1 (N1_2 Hn1_13 ln1_13 b1_10 b1_11 cb1_5 M1_5 cs1_5 hb1_5 hc1_5 mz1_11) ⟨rfl, rfl, rfl, rfl, rfl, rfl, rfl, trivial⟩ [1, 2, 3, 0] (by decide) rfl (fun _ h => h)
  have N1_7 (Hn1_10 : Hp) (ln1_10 : HLe Hb0_0 Hn1_10) (b1_11 : Nat) (cb1_5 : List Value) (M1_5 : Nat) (cs1_5 : List Value) (hb1_5 : Rp.rep (α := Bk (some M1_5)) Hn1_10 cb1_5 x1_5.1) (hc1_5 : Rp.rep (α := Arr 4 Int) Hn1_10 cs1_5 x1_5.2.1) (mz1_11 : Rp.rep (α := Arr 4 Int) Hn1_10 [.int .i64 0, .int .i64 0, .int .i64 0, .int .i64 0] [0, 0, 0, 0]) : At 30 [] (Kp.mk w H noX) [(2, .int .i64 p2), (6, .pointer (some ⟨b0_1, 0, none⟩)), (9, .pointer (some ⟨b1_11, 0, none⟩)), (17, .tuple #[.agg cb1_5.toArray, .agg cs1_5.toArray, .int .i64 x1_5.2.2])] Hn1_10 ([.blk M1_5 (Memo x1_5.1), .box b0_1 [.int .i64 0, .int .i64 0] 32, .box b1_11 [.int .i64 0, .int .i64 0, .int .i64 0, .int .i64 0] 111]) (U1 (Sw Hn1_10 [.box b0_1 [.int .i64 0, .int .i64 0] 32]) 8 (bits 15 2111)) := by
    refine d_fwd hU1 ?_
    have hg := Glob.mono ln1_10 hg
    refine dt 6 2175 rfl trivial (y_move rfl) (sw0 [1]) ?_
    refine dt 7 2303 rfl trivial (y_extract rfl rfl) (sw0 [1]) ?_
    refine dt 8 2559 rfl trivial (y_extract rfl rfl) (sw0 [1]) ?_
    refine dt 9 3071 rfl trivial (y_extract rfl rfl) (sw0 [1]) ?_
    refine d1 10 rfl (e_alloc (cs := [.slice none 0 0, .slice none 0 0, .map none]) trivial rfl ty110 rfl ?_)
    intro b1_10
    refine dn 4095 (sw0 [2]) ?_
    exact d_edge hU1 (N1_2 Hn1_10 ln1_10 b1_10 b1_11 cb1_5 M1_5 cs1_5 hb1_5 hc1_5 mz1_11) ⟨rfl, rfl, rfl, rfl, rfl, rfl, rfl, trivial⟩ [1, 2, 0, 3] (by decide) rfl (fun _ h => h)
  have N1_8 (Hn1_6 : Hp) (ln1_6 : HLe Hb0_0 Hn1_6) (b1_10 : Nat) (b1_11 : Nat) (u1_0 : List Value) (h1_0 : Rp.rep (α := TunnelBook) Hn1_6 u1_0 p0) (mz1_11 : Rp.rep (α := Arr 4 Int) Hn1_6 [.int .i64 0, .int .i64 0, .int .i64 0, .int .i64 0] [0, 0, 0, 0]) : At 30 [] (Kp.mk w H noX) [(2, .int .i64 p2), (6, .pointer (some ⟨b0_1, 0, none⟩)), (8, .pointer (some ⟨b1_10, 0, none⟩)), (9, .pointer (some ⟨b1_11, 0, none⟩)), (12, .agg u1_0.toArray), (13, v1), (16, .bool x1_4)] Hn1_6 ([.box b0_1 [.int .i64 0, .int .i64 0] 32, .box b1_10 [.slice none 0 0, .slice none 0 0, .map none] 110, .box b1_11 [.int .i64 0, .int .i64 0, .int .i64 0, .int .i64 0] 111]) (U1 (Sw Hn1_6 [.box b0_1 [.int .i64 0, .int .i64 0] 32]) 8 (bits 15 3103)) := by
    refine d_fwd hU1 ?_
    have h1 := Sl.mono ln1_6 h1
    have hg := Glob.mono ln1_6 hg
    refine d1 5 rfl (e_callO (all := [.agg u1_0.toArray, v1, .bool x1_4]) trivial rfl Tryd.func80 rfl rfl rfl rfl rfl (fun w hw => ok_80 hw h1_0 h1 q1_5) ?_)
    rintro _ H1_5 _ l1_5 ⟨cb1_5, cs1_5, mm1_5, rfl, hb1_5, hc1_5, hd1_5⟩
    rcases hd1_5 with ⟨rfl, he1_5, rfl⟩ | ⟨M1_5, rfl, he1_5, rfl⟩
    · exact absurd k1_5 (by simp [he1_5])
    have h1_0 := Rp.mono l1_5 h1_0
    have h1 := Sl.mono l1_5 h1
    have mz1_11 := Rp.mono l1_5 mz1_11
    have hg := Glob.mono l1_5 hg
    refine dn 3135 (swl l1_5 [1]) ?_
    exact d_edge hU1 (N1_5 H1_5 (ln1_6.trans l1_5) b1_10 b1_11 cb1_5 M1_5 cs1_5 hb1_5 hc1_5 mz1_11) ⟨rfl, rfl, rfl, rfl, rfl, trivial⟩ [0, 1, 2, 3] (by decide) rfl (sw_sw l1_5 [0] rfl)
  have N1_9 (Hn1_14 : Hp) (ln1_14 : HLe Hb0_0 Hn1_14) (cb1_5 : List Value) (M1_5 : Nat) (cs1_5 : List Value) (hb1_5 : Rp.rep (α := Bk (some M1_5)) Hn1_14 cb1_5 x1_5.1) (hc1_5 : Rp.rep (α := Arr 4 Int) Hn1_14 cs1_5 x1_5.2.1) : At 30 [] (Kp.mk w H noX) [(2, .int .i64 p2), (6, .pointer (some ⟨b0_1, 0, none⟩)), (17, .tuple #[.agg cb1_5.toArray, .agg cs1_5.toArray, .int .i64 x1_5.2.2])] Hn1_14 ([.blk M1_5 (Memo x1_5.1), .box b0_1 [.int .i64 0, .int .i64 0] 32]) (U1 (Sw Hn1_14 [.box b0_1 [.int .i64 0, .int .i64 0] 32]) 9 (bits 15 63)) := by
    refine d_fwd hU1 ?_
    have hg := Glob.mono ln1_14 hg
    refine dt 6 127 rfl trivial (y_move rfl) (sw0 [1]) ?_
    refine dt 7 255 rfl trivial (y_extract rfl rfl) (sw0 [1]) ?_
    refine dt 8 511 rfl trivial (y_extract rfl rfl) (sw0 [1]) ?_
    refine dt 9 1023 rfl trivial (y_extract rfl rfl) (sw0 [1]) ?_
    refine d_all (rs := [10, 11]) (by kernel_rfl) rfl ⟨⟨_, rfl, ?_⟩, ⟨_, rfl, ?_⟩, trivial⟩
    · refine e_alloc (cs := [.slice none 0 0, .slice none 0 0, .map none]) trivial rfl ty110 rfl ?_
      intro b1_10
      refine dn 2047 (sw0 [2]) ?_
      exact d_edge hU1 (N1_3 Hn1_14 ln1_14 b1_10 cb1_5 M1_5 cs1_5 hb1_5 hc1_5) ⟨rfl, rfl, rfl, rfl, rfl, rfl, trivial⟩ [1, 2, 0] (by decide) rfl (fun _ h => h)
    refine e_alloc (cs := [.int .i64 0, .int .i64 0, .int .i64 0, .int .i64 0]) trivial rfl ty111 rfl ?_
    intro b1_11
    have mz1_11 := z111 Hn1_14
    refine dn 3071 (sw0 [2]) ?_
    exact d_edge hU1 (N1_4 Hn1_14 ln1_14 b1_11 cb1_5 M1_5 cs1_5 hb1_5 hc1_5 mz1_11) ⟨rfl, rfl, rfl, rfl, rfl, rfl, trivial⟩ [1, 2, 0] (by decide) rfl (fun _ h => h)
  have N1_10 (Hn1_12 : Hp) (ln1_12 : HLe Hb0_0 Hn1_12) (b1_10 : Nat) (u1_0 : List Value) (h1_0 : Rp.rep (α := TunnelBook) Hn1_12 u1_0 p0) : At 30 [] (Kp.mk w H noX) [(2, .int .i64 p2), (6, .pointer (some ⟨b0_1, 0, none⟩)), (8, .pointer (some ⟨b1_10, 0, none⟩)), (12, .agg u1_0.toArray), (13, v1), (16, .bool x1_4)] Hn1_12 ([.box b0_1 [.int .i64 0, .int .i64 0] 32, .box b1_10 [.slice none 0 0, .slice none 0 0, .map none] 110]) (U1 (Sw Hn1_12 [.box b0_1 [.int .i64 0, .int .i64 0] 32]) 9 (bits 15 1055)) := by
    refine d_fwd hU1 ?_
    have h1 := Sl.mono ln1_12 h1
    have hg := Glob.mono ln1_12 hg
    refine d_all (rs := [5, 11]) (by kernel_rfl) rfl ⟨⟨_, rfl, ?_⟩, ⟨_, rfl, ?_⟩, trivial⟩
    · refine e_callO (all := [.agg u1_0.toArray, v1, .bool x1_4]) trivial rfl Tryd.func80 rfl rfl rfl rfl rfl (fun w hw => ok_80 hw h1_0 h1 q1_5) ?_
      rintro _ H1_5 _ l1_5 ⟨cb1_5, cs1_5, mm1_5, rfl, hb1_5, hc1_5, hd1_5⟩
      rcases hd1_5 with ⟨rfl, he1_5, rfl⟩ | ⟨M1_5, rfl, he1_5, rfl⟩
      · exact absurd k1_5 (by simp [he1_5])
      have h1_0 := Rp.mono l1_5 h1_0
      have h1 := Sl.mono l1_5 h1
      have hg := Glob.mono l1_5 hg
      refine dn 1087 (swl l1_5 [1]) ?_
      exact d_edge hU1 (N1_6 H1_5 (ln1_12.trans l1_5) b1_10 cb1_5 M1_5 cs1_5 hb1_5 hc1_5) ⟨rfl, rfl, rfl, rfl, trivial⟩ [0, 1, 2] (by decide) rfl (sw_sw l1_5 [0] rfl)
    refine e_alloc (cs := [.int .i64 0, .int .i64 0, .int .i64 0, .int .i64 0]) trivial rfl ty111 rfl ?_
    intro b1_11
    have mz1_11 := z111 Hn1_12
    refine dn 3103 (sw0 [1]) ?_
    exact d_edge hU1 (N1_8 Hn1_12 ln1_12 b1_10 b1_11 u1_0 h1_0 mz1_11) ⟨rfl, rfl, rfl, rfl, rfl, rfl, rfl, trivial⟩ [1, 2, 0] (by decide) rfl (fun _ h => h)
  have N1_11 (Hn1_4 : Hp) (ln1_4 : HLe Hb0_0 Hn1_4) (b1_11 : Nat) (u1_0 : List Value) (h1_0 : Rp.rep (α := TunnelBook) Hn1_4 u1_0 p0) (mz1_11 : Rp.rep (α := Arr 4 Int) Hn1_4 [.int .i64 0, .int .i64 0, .int .i64 0, .int .i64 0] [0, 0, 0, 0]) : At 30 [] (Kp.mk w H noX) [(2, .int .i64 p2), (6, .pointer (some ⟨b0_1, 0, none⟩)), (9, .pointer (some ⟨b1_11, 0, none⟩)), (12, .agg u1_0.toArray), (13, v1), (16, .bool x1_4)] Hn1_4 ([.box b0_1 [.int .i64 0, .int .i64 0] 32, .box b1_11 [.int .i64 0, .int .i64 0, .int .i64 0, .int .i64 0] 111]) (U1 (Sw Hn1_4 [.box b0_1 [.int .i64 0, .int .i64 0] 32]) 9 (bits 15 2079)) := by
    refine d_fwd hU1 ?_
    have h1 := Sl.mono ln1_4 h1
    have hg := Glob.mono ln1_4 hg
    refine d_all (rs := [5, 10]) (by kernel_rfl) rfl ⟨⟨_, rfl, ?_⟩, ⟨_, rfl, ?_⟩, trivial⟩
    · refine e_callO (all := [.agg u1_0.toArray, v1, .bool x1_4]) trivial rfl Tryd.func80 rfl rfl rfl rfl rfl (fun w hw => ok_80 hw h1_0 h1 q1_5) ?_
      rintro _ H1_5 _ l1_5 ⟨cb1_5, cs1_5, mm1_5, rfl, hb1_5, hc1_5, hd1_5⟩
      rcases hd1_5 with ⟨rfl, he1_5, rfl⟩ | ⟨M1_5, rfl, he1_5, rfl⟩
      · exact absurd k1_5 (by simp [he1_5])
      have h1_0 := Rp.mono l1_5 h1_0
      have h1 := Sl.mono l1_5 h1
      have mz1_11 := Rp.mono l1_5 mz1_11
      have hg := Glob.mono l1_5 hg
      refine dn 2111 (swl l1_5 [1]) ?_
      exact d_edge hU1 (N1_7 H1_5 (ln1_4.trans l1_5) b1_11 cb1_5 M1_5 cs1_5 hb1_5 hc1_5 mz1_11) ⟨rfl, rfl, rfl, rfl, trivial⟩ [0, 1, 2] (by decide) rfl (sw_sw l1_5 [0] rfl)
    refine e_alloc (cs := [.slice none 0 0, .slice none 0 0, .map none]) trivial rfl ty110 rfl ?_
    intro b1_10
    refine dn 3103 (sw0 [1]) ?_
    exact d_edge hU1 (N1_8 Hn1_4 ln1_4 b1_10 b1_11 u1_0 h1_0 mz1_11) ⟨rfl, rfl, rfl, rfl, rfl, rfl, rfl, trivial⟩ [1, 0, 2] (by decide) rfl (fun _ h => h)
  have N1_12 (Hn1_5 : Hp) (ln1_5 : HLe Hb0_0 Hn1_5) (b1_10 : Nat) (b1_11 : Nat) (u1_0 : List Value) (u1_2 : List Value) (h1_0 : Rp.rep (α := TunnelBook) Hn1_5 u1_0 p0) (h1_2 : Rp.rep (α := TunnelBook) Hn1_5 u1_2 p0) (mz1_11 : Rp.rep (α := Arr 4 Int) Hn1_5 [.int .i64 0, .int .i64 0, .int .i64 0, .int .i64 0] [0, 0, 0, 0]) : At 30 [] (Kp.mk w H noX) [(2, .int .i64 p2), (6, .pointer (some ⟨b0_1, 0, none⟩)), (8, .pointer (some ⟨b1_10, 0, none⟩)), (9, .pointer (some ⟨b1_11, 0, none⟩)), (12, .agg u1_0.toArray), (13, v1), (14, .agg u1_2.toArray), (15, .int .i64 p2)] Hn1_5 ([.box b0_1 [.int .i64 0, .int .i64 0] 32, .box b1_10 [.slice none 0 0, .slice none 0 0, .map none] 110, .box b1_11 [.int .i64 0, .int .i64 0, .int .i64 0, .int .i64 0] 111]) (U1 (Sw Hn1_5 [.box b0_1 [.int .i64 0, .int .i64 0] 32]) 9 (bits 15 3087)) := by
    refine d_fwd hU1 ?_
    have h1 := Sl.mono ln1_5 h1
    have hg := Glob.mono ln1_5 hg
    refine d1 4 rfl (e_callV (all := [.agg u1_2.toArray, .int .i64 p2]) (v := .bool x1_4) trivial rfl Tryd.func88 rfl rfl rfl rfl rfl (fun w hw => ok_88 hw h1_2 q1_4) ?_)
    refine dn 3103 (sw0 [0]) ?_
    exact d_edge hU1 (N1_8 Hn1_5 ln1_5 b1_10 b1_11 u1_0 h1_0 mz1_11) ⟨rfl, rfl, rfl, rfl, rfl, rfl, rfl, trivial⟩ [0, 1, 2] (by decide) rfl (fun _ h => h)
  have N1_13 (Hn1_1 : Hp) (ln1_1 : HLe Hb0_0 Hn1_1) (u1_0 : List Value) (h1_0 : Rp.rep (α := TunnelBook) Hn1_1 u1_0 p0) : At 30 [] (Kp.mk w H noX) [(2, .int .i64 p2), (6, .pointer (some ⟨b0_1, 0, none⟩)), (12, .agg u1_0.toArray), (13, v1), (16, .bool x1_4)] Hn1_1 ([.box b0_1 [.int .i64 0, .int .i64 0] 32]) (U1 (Sw Hn1_1 [.box b0_1 [.int .i64 0, .int .i64 0] 32]) 10 (bits 15 31)) := by
    refine d_fwd hU1 ?_
    have h1 := Sl.mono ln1_1 h1
    have hg := Glob.mono ln1_1 hg
    refine d_all (rs := [5, 10, 11]) (by kernel_rfl) rfl ⟨⟨_, rfl, ?_⟩, ⟨_, rfl, ?_⟩, ⟨_, rfl, ?_⟩, trivial⟩
    · refine e_callO (all := [.agg u1_0.toArray, v1, .bool x1_4]) trivial rfl Tryd.func80 rfl rfl rfl rfl rfl (fun w hw => ok_80 hw h1_0 h1 q1_5) ?_
      rintro _ H1_5 _ l1_5 ⟨cb1_5, cs1_5, mm1_5, rfl, hb1_5, hc1_5, hd1_5⟩
      rcases hd1_5 with ⟨rfl, he1_5, rfl⟩ | ⟨M1_5, rfl, he1_5, rfl⟩
      · exact absurd k1_5 (by simp [he1_5])
      have h1_0 := Rp.mono l1_5 h1_0
      have h1 := Sl.mono l1_5 h1
      have hg := Glob.mono l1_5 hg
      refine dn 63 (swl l1_5 [1]) ?_
      exact d_edge hU1 (N1_9 H1_5 (ln1_1.trans l1_5) cb1_5 M1_5 cs1_5 hb1_5 hc1_5) ⟨rfl, rfl, rfl, trivial⟩ [0, 1] (by decide) rfl (sw_sw l1_5 [0] rfl)
    · refine e_alloc (cs := [.slice none 0 0, .slice none 0 0, .map none]) trivial rfl ty110 rfl ?_
      intro b1_10
      refine dn 1055 (sw0 [1]) ?_
      exact d_edge hU1 (N1_10 Hn1_1 ln1_1 b1_10 u1_0 h1_0) ⟨rfl, rfl, rfl, rfl, rfl, rfl, trivial⟩ [1, 0] (by decide) rfl (fun _ h => h)
    refine e_alloc (cs := [.int .i64 0, .int .i64 0, .int .i64 0, .int .i64 0]) trivial rfl ty111 rfl ?_
    intro b1_11
    have mz1_11 := z111 Hn1_1
    refine dn 2079 (sw0 [1]) ?_
    exact d_edge hU1 (N1_11 Hn1_1 ln1_1 b1_11 u1_0 h1_0 mz1_11) ⟨rfl, rfl, rfl, rfl, rfl, rfl, trivial⟩ [1, 0] (by decide) rfl (fun _ h => h)
  have N1_14 (Hn1_2 : Hp) (ln1_2 : HLe Hb0_0 Hn1_2) (b1_10 : Nat) (u1_0 : List Value) (u1_2 : List Value) (h1_0 : Rp.rep (α := TunnelBook) Hn1_2 u1_0 p0) (h1_2 : Rp.rep (α := TunnelBook) Hn1_2 u1_2 p0) : At 30 [] (Kp.mk w H noX) [(2, .int .i64 p2), (6, .pointer (some ⟨b0_1, 0, none⟩)), (8, .pointer (some ⟨b1_10, 0, none⟩)), (12, .agg u1_0.toArray), (13, v1), (14, .agg u1_2.toArray), (15, .int .i64 p2)] Hn1_2 ([.box b0_1 [.int .i64 0, .int .i64 0] 32, .box b1_10 [.slice none 0 0, .slice none 0 0, .map none] 110]) (U1 (Sw Hn1_2 [.box b0_1 [.int .i64 0, .int .i64 0] 32]) 10 (bits 15 1039)) := by
    refine d_fwd hU1 ?_
    have h1 := Sl.mono ln1_2 h1
    have hg := Glob.mono ln1_2 hg
    refine d_all (rs := [4, 11]) (by kernel_rfl) rfl ⟨⟨_, rfl, ?_⟩, ⟨_, rfl, ?_⟩, trivial⟩
    · refine e_callV (all := [.agg u1_2.toArray, .int .i64 p2]) (v := .bool x1_4) trivial rfl Tryd.func88 rfl rfl rfl rfl rfl (fun w hw => ok_88 hw h1_2 q1_4) ?_
      refine dn 1055 (sw0 [0]) ?_
      exact d_edge hU1 (N1_10 Hn1_2 ln1_2 b1_10 u1_0 h1_0) ⟨rfl, rfl, rfl, rfl, rfl, rfl, trivial⟩ [0, 1] (by decide) rfl (fun _ h => h)
    refine e_alloc (cs := [.int .i64 0, .int .i64 0, .int .i64 0, .int .i64 0]) trivial rfl ty111 rfl ?_
    intro b1_11
    have mz1_11 := z111 Hn1_2
    refine dn 3087 (sw0 [1]) ?_
    exact d_edge hU1 (N1_12 Hn1_2 ln1_2 b1_10 b1_11 u1_0 u1_2 h1_0 h1_2 mz1_11) ⟨rfl, rfl, rfl, rfl, rfl, rfl, rfl, rfl, trivial⟩ [1, 2, 0] (by decide) rfl (fun _ h => h)
  have N1_15 (Hn1_3 : Hp) (ln1_3 : HLe Hb0_0 Hn1_3) (b1_11 : Nat) (u1_0 : List Value) (u1_2 : List Value) (h1_0 : Rp.rep (α := TunnelBook) Hn1_3 u1_0 p0) (h1_2 : Rp.rep (α := TunnelBook) Hn1_3 u1_2 p0) (mz1_11 : Rp.rep (α := Arr 4 Int) Hn1_3 [.int .i64 0, .int .i64 0, .int .i64 0, .int .i64 0] [0, 0, 0, 0]) : At 30 [] (Kp.mk w H noX) [(2, .int .i64 p2), (6, .pointer (some ⟨b0_1, 0, none⟩)), (9, .pointer (some ⟨b1_11, 0, none⟩)), (12, .agg u1_0.toArray), (13, v1), (14, .agg u1_2.toArray), (15, .int .i64 p2)] Hn1_3 ([.box b0_1 [.int .i64 0, .int .i64 0] 32, .box b1_11 [.int .i64 0, .int .i64 0, .int .i64 0, .int .i64 0] 111]) (U1 (Sw Hn1_3 [.box b0_1 [.int .i64 0, .int .i64 0] 32]) 10 (bits 15 2063)) := by
    refine d_fwd hU1 ?_
    have h1 := Sl.mono ln1_3 h1
    have hg := Glob.mono ln1_3 hg
    refine d_all (rs := [4, 10]) (by kernel_rfl) rfl ⟨⟨_, rfl, ?_⟩, ⟨_, rfl, ?_⟩, trivial⟩
    · refine e_callV (all := [.agg u1_2.toArray, .int .i64 p2]) (v := .bool x1_4) trivial rfl Tryd.func88 rfl rfl rfl rfl rfl (fun w hw => ok_88 hw h1_2 q1_4) ?_
      refine dn 2079 (sw0 [0]) ?_
      exact d_edge hU1 (N1_11 Hn1_3 ln1_3 b1_11 u1_0 h1_0 mz1_11) ⟨rfl, rfl, rfl, rfl, rfl, rfl, trivial⟩ [0, 1] (by decide) rfl (fun _ h => h)
    refine e_alloc (cs := [.slice none 0 0, .slice none 0 0, .map none]) trivial rfl ty110 rfl ?_
    intro b1_10
    refine dn 3087 (sw0 [1]) ?_
    exact d_edge hU1 (N1_12 Hn1_3 ln1_3 b1_10 b1_11 u1_0 u1_2 h1_0 h1_2 mz1_11) ⟨rfl, rfl, rfl, rfl, rfl, rfl, rfl, rfl, trivial⟩ [1, 0, 2] (by decide) rfl (fun _ h => h)
  refine d_fwd hU1 ?_
  obtain ⟨u1_0, h1_0, c1_0⟩ := PAt.one hb0_0
  refine dt 0 1 rfl trivial (y_load_cells ty25 rfl (fun _ h => h.1) rfl c1_0 (Rp.len h1_0)) (sw0 [0]) ?_
  refine dt 1 3 rfl trivial (y_move rfl) (sw0 [0]) ?_
  obtain ⟨u1_2, h1_2, c1_2⟩ := PAt.one hb0_0
  refine dt 2 7 rfl trivial (y_load_cells ty25 rfl (fun _ h => h.1) rfl c1_2 (Rp.len h1_2)) (sw0 [0]) ?_
  refine dt 3 15 rfl trivial (y_move rfl) (sw0 [0]) ?_
  refine d_all (rs := [4, 10, 11]) (by kernel_rfl) rfl ⟨⟨_, rfl, ?_⟩, ⟨_, rfl, ?_⟩, ⟨_, rfl, ?_⟩, trivial⟩
  · refine e_callV (all := [.agg u1_2.toArray, .int .i64 p2]) (v := .bool x1_4) trivial rfl Tryd.func88 rfl rfl rfl rfl rfl (fun w hw => ok_88 hw h1_2 q1_4) ?_
    refine dn 31 (sw0 [0]) ?_
    exact d_edge hU1 (N1_13 Hb0_0 (HLe.refl _) u1_0 h1_0) ⟨rfl, rfl, rfl, rfl, rfl, trivial⟩ [0] (by decide) rfl (fun _ h => h)
  · refine e_alloc (cs := [.slice none 0 0, .slice none 0 0, .map none]) trivial rfl ty110 rfl ?_
    intro b1_10
    refine dn 1039 (sw0 [1]) ?_
    exact d_edge hU1 (N1_14 Hb0_0 (HLe.refl _) b1_10 u1_0 u1_2 h1_0 h1_2) ⟨rfl, rfl, rfl, rfl, rfl, rfl, rfl, trivial⟩ [1, 0] (by decide) rfl (fun _ h => h)
  refine e_alloc (cs := [.int .i64 0, .int .i64 0, .int .i64 0, .int .i64 0]) trivial rfl ty111 rfl ?_
  intro b1_11
  have mz1_11 := z111 Hb0_0
  refine dn 2063 (sw0 [1]) ?_
  exact d_edge hU1 (N1_15 Hb0_0 (HLe.refl _) b1_11 u1_0 u1_2 h1_0 h1_2 mz1_11) ⟨rfl, rfl, rfl, rfl, rfl, rfl, rfl, trivial⟩ [1, 0] (by decide) rfl (fun _ h => h)

def tunnel_book_all_lj2 (k : Nat) (p0 : TunnelBook) : Nat → (List Int) → Int → Option (List Int)
 | 0, _, _ => none
 | n_j2 + 1, yj2_3, yj2_9 =>
 bif decide (yj2_9 < (p0.Frames.length : Int)) then
 (app yj2_3 [yj2_9]).bind fun x5_3 =>
 tunnel_book_all_lj2 k p0 n_j2 x5_3 (IntKind.i64.wrap (yj2_9 + 1))
 else
 some (yj2_3)
def tunnel_book_all (k : Nat) (p0 : TunnelBook) : Option (List Int) :=
 (tunnel_book_all_lj2 k p0 k ([] : List Int) 0).bind fun yj1_3 =>
 some (yj1_3)
theorem ok_97 {k : Nat} {H : Hp} {w : World} {p0 : TunnelBook} {m0 : Option Nat} {c0 : List Value} {r : List Int} (hsub : Sub H w) (h0 : Rp.rep (α := Bk m0) H c0 p0) (hm : tunnel_book_all k p0 = some r) : Calls Tryd.prog 97 [.agg c0.toArray].toArray w (PostH w H fun v H' => ∃ v0, v = v0 ∧ Sl (α := Int) H' v0 r) := by
  unfold tunnel_book_all at hm
  refine start (n := 18) (E := [(0, .agg c0.toArray)]) Tryd.func97 rfl rfl ⟨rfl, trivial⟩ rfl hsub ?_
  refine a_seq (a_region rfl ?_)
  refine a_cons (e_box (cs := c0) trivial rfl rfl rfl ?_)
  intro b0_0
  refine ap (y_assign rfl) ?_
  refine a_nil ?_
  refine a_freeze (α := Bk _) (x := p0) (i := 0) rfl h0 ?_
  intro Hb0_0 lb0_0 hb0_0
  have h0 := Rp.mono lb0_0 h0
  refine a_en [(1, .pointer (some ⟨b0_0, 0, none⟩))] ?_
  refine a_own [] (by decide) (L' := []) rfl ?_
  refine a_then (a_seq (a_region rfl ?_))
  refine ap (y_assign rfl) ?_
  refine a_nil (a_then (a_seq (a_seq (a_region rfl ?_))))
  have h2_0 := Bk.at_b hb0_0
  refine ap (y_fieldAddr fo110_0 rfl) ?_
  have h2_1 := TunnelBook.at_Frames h2_0
  refine ap (y_fieldAddr fo25_1 rfl) ?_
  obtain ⟨v2_2, h2_2, c2_2⟩ := PAt.sl h2_1
  refine ap (y_load_one ty23 rfl (fun _ h => h.sub) rfl c2_2) ?_
  refine ap (y_len_sl Tryd.underlying23 rfl h2_2) ?_
  refine ap (y_move rfl) ?_
  refine a_nil ?_
  refine a_en [(3, .slice none 0 0), (8, .int .i64 (p0.Frames.length : Int)), (9, .int .i64 0)] ?_
  refine a_then ?_
  obtain ⟨s_j1, hs_j1, hm_j1⟩ := bind_some hm
  refine a_join (fun a_ w_ => ∃ (yj1_3 : List Int), ∃ (vj1_3 : Value), ∃ (uj1_3 : List Value), yj1_3 = s_j1 ∧ RepL (α := Int) Hb0_0 uj1_3 yj1_3 ∧ Ag 18 [] [(3, vj1_3)] a_ ∧ St (Kp.mk w H noX) Hb0_0 [.row vj1_3 uj1_3 3 1] w_) ?_ ?_
  · have hm := hs_j1
    refine a_block ?_
    refine a_loop (fun n_j2 a_ w_ => ∃ (yj2_3 : List Int), ∃ (yj2_9 : Int), ∃ (vj2_3 : Value), ∃ (uj2_3 : List Value), tunnel_book_all_lj2 k p0 n_j2 yj2_3 yj2_9 = some s_j1 ∧ RepL (α := Int) Hb0_0 uj2_3 yj2_3 ∧ Ag 18 [] [(3, vj2_3), (8, .int .i64 (p0.Frames.length : Int)), (9, .int .i64 yj2_9)] a_ ∧ St (Kp.mk w H noX) Hb0_0 [.row vj2_3 uj2_3 3 1] w_) k ?_ ?_
    · refine a_nilrow (x := none) (T := 3) (sz := 1) ?_
      have hzrj2_3 : RepL (α := Int) Hb0_0 [] [] := RepL.nil
      intro a_ w_ ha_ hs_
      exact ⟨([] : List Int), 0, .slice none 0 0, [], hm, hzrj2_3, ha_.weaken ⟨rfl, rfl, rfl, trivial⟩, hs_.reix [0] (by decide)⟩
    rintro (_ | n_j2) a_ w_ ⟨yj2_3, yj2_9, vj2_3, uj2_3, hm, hj2_3, ha_, hs_⟩
    · rw [tunnel_book_all_lj2.eq_1] at hm; cases hm
    rw [tunnel_book_all_lj2.eq_2] at hm
    refine a_start ha_ hs_ ?_
    refine a_seq (a_region rfl ?_)
    refine ap (y_lss rfl rfl) ?_
    refine a_nil (a_then (a_seq ?_))
    refine a_cond rfl (fun k_3 => ?_) (fun k_3 => ?_)
    · have hm := cond_t k_3 hm
      refine a_skip (a_then (a_seq (a_block (a_seq (a_region rfl ?_)))))
      refine ap (y_move rfl) ?_
      refine ap (y_assign rfl) ?_
      refine a_nil ?_
      refine a_en [(3, vj2_3), (4, .int .i64 yj2_9), (8, .int .i64 (p0.Frames.length : Int)), (9, .int .i64 yj2_9)] ?_
      refine a_then (a_region rfl ?_)
      refine ap (y_move rfl) ?_
      refine ap (y_move rfl) ?_
      refine a_cons (e_buildSlice (xs := [.tmp 13]) (cs := [.int .i64 yj2_9]) trivial rfl Tryd.underlying26 ty3 rfl rfl rfl (by simp [Value.cells]) rfl (rfl) ?_)
      intro v5_2
      have h5_2 : RepL (α := Int) Hb0_0 ([.int .i64 yj2_9]) [yj2_9] := (RepL.cons (α := Int) (c := [.int .i64 yj2_9]) rfl (RepL.nil (α := Int)))
      obtain ⟨x5_3, q5_3, hm⟩ := bind_some hm
      refine a_cons (e_app_row (i := 1) (j := 0) trivial rfl Tryd.underlying26 Tryd.underlying26 ty3 rfl rfl rfl rfl rfl rfl rfl rfl hj2_3 rfl h5_2 q5_3 ?_)
      intro v5_3 u5_3 h5_3
      refine ap (y_assign rfl) ?_
      refine a_nil ?_
      refine a_en [(3, v5_3), (8, .int .i64 (p0.Frames.length : Int)), (9, .int .i64 yj2_9)] ?_
      refine a_own [1] (by decide) (L' := [.row v5_3 u5_3 3 1]) rfl ?_
      refine a_block_normal (a_then (a_region rfl ?_))
      refine ap (y_add rfl rfl) ?_
      refine ap (y_move rfl) ?_
      refine a_nil ?_
      refine a_en [(3, v5_3), (8, .int .i64 (p0.Frames.length : Int)), (9, .int .i64 (IntKind.i64.wrap (yj2_9 + 1)))] ?_
      refine a_then ?_
      intro a_ w_ ha_ hs_
      exact ⟨n_j2, Nat.lt_succ_self _, x5_3, IntKind.i64.wrap (yj2_9 + 1), v5_3, u5_3, hm, h5_3, ha_.weaken ⟨rfl, rfl, rfl, trivial⟩, hs_.reix [0] (by decide)⟩
    have hm := cond_f k_3 hm
    refine a_exit (a_then_exit (a_then_exit (a_block_hit (a_cut ?_))))
    intro a_ w_ ha_ hs_
    exact ⟨yj2_3, vj2_3, uj2_3, Option.some.inj hm, hj2_3, ha_.weaken ⟨rfl, trivial⟩, hs_.reix [0] (by decide)⟩
  have hm := hm_j1
  rintro a_ w_ ⟨yj1_3, vj1_3, uj1_3, rfl, hj1_3, ha_, hs_⟩
  try dsimp only at hm
  refine a_start ha_ hs_ ?_
  refine a_then (a_seq (a_region rfl ?_))
  refine ap (y_move rfl) ?_
  refine ap (y_assign rfl) ?_
  refine a_nil ?_
  refine a_en [(2, vj1_3)] ?_
  refine a_then (a_ret ?_)
  refine a_frow (i := 0) rfl rfl hj1_3 rfl ?_
  intro Hef lef hef
  refine a_done (v := vj1_3) (.inl rfl) rfl ?_ ?_
  · intro a_ w_ ha_ hs_; exact run_results (P := Tryd.prog) (fn := Tryd.f97) (rs := [.tmp 2]) (vs := [vj1_3]) rfl (.cons (rv_tmp ha_ rfl) (All2.nil))
  · intro _ _; obtain rfl := Option.some.inj hm; exact ⟨vj1_3, rfl, hef⟩

def tunnel_most_1 (k : Nat) (p0 : TunnelChoice) (p1 : TunnelChoice) : Option Bool :=
 (bif decide (p0.many > p1.many) then
 some (true)
 else
 bif p0.many == p1.many then
 some ((decide (p0.heat < p1.heat)))
 else
 some (false)).bind fun yj1_4 =>
 some (yj1_4)
theorem ok_196 {k : Nat} {H : Hp} {w : World} {p0 : TunnelChoice} {p1 : TunnelChoice} {c0 : List Value} {c1 : List Value} {r : Bool} (hsub : Sub H w) (h0 : Rp.rep (α := TunnelChoice) H c0 p0) (h1 : Rp.rep (α := TunnelChoice) H c1 p1) (hm : tunnel_most_1 k p0 p1 = some r) : Calls Tryd.prog 196 [.agg c0.toArray, .agg c1.toArray].toArray w (PostV w H (.bool r)) := by
  unfold tunnel_most_1 at hm
  refine start (n := 24) (E := [(0, .agg c0.toArray), (1, .agg c1.toArray)]) Tryd.func196 rfl rfl ⟨rfl, rfl, trivial⟩ rfl hsub ?_
  refine a_seq (a_region rfl ?_)
  refine a_cons (e_box (cs := c0) trivial rfl rfl rfl ?_)
  intro b0_0
  refine a_cons (e_box (cs := c1) trivial rfl rfl rfl ?_)
  intro b0_1
  refine ap (y_assign rfl) ?_
  refine a_nil ?_
  refine a_freeze (α := TunnelChoice) (x := p1) (i := 0) rfl h1 ?_
  intro Hb0_1 lb0_1 hb0_1
  have h0 := Rp.mono lb0_1 h0
  have h1 := Rp.mono lb0_1 h1
  refine a_freeze (α := TunnelChoice) (x := p0) (i := 1) rfl h0 ?_
  intro Hb0_0 lb0_0 hb0_0
  have h0 := Rp.mono lb0_0 h0
  have h1 := Rp.mono lb0_0 h1
  have hb0_1 := PAt.mono lb0_0 hb0_1
  refine a_en [(2, .pointer (some ⟨b0_0, 0, none⟩)), (3, .pointer (some ⟨b0_1, 0, none⟩))] ?_
  refine a_own [] (by decide) (L' := []) rfl ?_
  refine a_then (a_seq ?_)
  obtain ⟨s_j1, hs_j1, hm_j1⟩ := bind_some hm
  refine a_join (fun a_ w_ => ∃ (yj1_4 : Bool), yj1_4 = s_j1 ∧ Ag 24 [] [(4, .bool yj1_4)] a_ ∧ St (Kp.mk w H noX) Hb0_0 [] w_) ?_ ?_
  · have hm := hs_j1
    refine a_region rfl ?_
    have h1_0 := TunnelChoice.at_many hb0_0
    refine ap (y_fieldAddr fo125_1 rfl) ?_
    refine ap (y_load_int ty3 rfl (fun _ h => h.sub) rfl h1_0) ?_
    have h1_2 := TunnelChoice.at_many hb0_1
    refine ap (y_fieldAddr fo125_1 rfl) ?_
    refine ap (y_load_int ty3 rfl (fun _ h => h.sub) rfl h1_2) ?_
    refine ap (y_gtr rfl rfl) ?_
    refine ap (y_move rfl) ?_
    rcases Bool.eq_false_or_eq_true (decide (p0.many > p1.many)) with k1_6 | k1_6
    · have hm := cond_t k1_6 hm
      refine as1 (sk1 rfl rfl k1_6) ?_
      refine as1 (sk1 rfl rfl k1_6) ?_
      refine as1 (sk1 rfl rfl k1_6) ?_
      refine as1 (sk1 rfl rfl k1_6) ?_
      refine as1 (sk1 rfl rfl k1_6) ?_
      refine as1 (sk1 rfl rfl k1_6) ?_
      refine as1 (sku rfl rfl) ?_
      refine as1 (sku rfl rfl) ?_
      refine as1 (sku rfl rfl) ?_
      refine as1 (sku rfl rfl) ?_
      refine as1 (sku rfl rfl) ?_
      refine as1 (sk1 rfl rfl k1_6) ?_
      refine ap (y_pick_t rfl k1_6 rfl) ?_
      refine ap (y_assign rfl) ?_
      refine a_nil ?_
      refine a_en [(4, .bool true)] ?_
      refine a_cut ?_
      intro a_ w_ ha_ hs_
      exact ⟨true, Option.some.inj hm, ha_.weaken ⟨rfl, trivial⟩, hs_.reix [] (by decide)⟩
    have hm := cond_f k1_6 hm
    have h1_6 := TunnelChoice.at_many hb0_0
    refine ag ⟨_, _, rfl, rfl, k1_6⟩ (y_fieldAddr fo125_1 rfl) ?_
    refine ag ⟨_, _, rfl, rfl, k1_6⟩ (y_load_int ty3 rfl (fun _ h => h.sub) rfl h1_6) ?_
    have h1_8 := TunnelChoice.at_many hb0_1
    refine ag ⟨_, _, rfl, rfl, k1_6⟩ (y_fieldAddr fo125_1 rfl) ?_
    refine ag ⟨_, _, rfl, rfl, k1_6⟩ (y_load_int ty3 rfl (fun _ h => h.sub) rfl h1_8) ?_
    refine ag ⟨_, _, rfl, rfl, k1_6⟩ (y_eql rfl rfl) ?_
    refine ag ⟨_, _, rfl, rfl, k1_6⟩ (y_move rfl) ?_
    rcases Bool.eq_false_or_eq_true (p0.many == p1.many) with k1_12 | k1_12
    · have hm := cond_t k1_12 hm
      have h1_12 := TunnelChoice.at_heat hb0_0
      refine ag ⟨_, _, rfl, rfl, k1_12⟩ (y_fieldAddr fo125_2 rfl) ?_
      refine ag ⟨_, _, rfl, rfl, k1_12⟩ (y_load_int ty3 rfl (fun _ h => h.sub) rfl h1_12) ?_
      have h1_14 := TunnelChoice.at_heat hb0_1
      refine ag ⟨_, _, rfl, rfl, k1_12⟩ (y_fieldAddr fo125_2 rfl) ?_
      refine ag ⟨_, _, rfl, rfl, k1_12⟩ (y_load_int ty3 rfl (fun _ h => h.sub) rfl h1_14) ?_
      refine ag ⟨_, _, rfl, rfl, k1_12⟩ (y_lss rfl rfl) ?_
      refine ag ⟨_, _, rfl, rfl, k1_6⟩ (y_pick_t rfl k1_12 rfl) ?_
      refine ap (y_pick_f rfl k1_6 rfl) ?_
      refine ap (y_assign rfl) ?_
      refine a_nil ?_
      refine a_en [(4, .bool (decide (p0.heat < p1.heat)))] ?_
      refine a_cut ?_
      intro a_ w_ ha_ hs_
      exact ⟨decide (p0.heat < p1.heat), Option.some.inj hm, ha_.weaken ⟨rfl, trivial⟩, hs_.reix [] (by decide)⟩
    have hm := cond_f k1_12 hm
    refine as1 (sk1 rfl rfl k1_12) ?_
    refine as1 (sk1 rfl rfl k1_12) ?_
    refine as1 (sk1 rfl rfl k1_12) ?_
    refine as1 (sk1 rfl rfl k1_12) ?_
    refine as1 (sk1 rfl rfl k1_12) ?_
    refine ag ⟨_, _, rfl, rfl, k1_6⟩ (y_pick_f rfl k1_12 rfl) ?_
    refine ap (y_pick_f rfl k1_6 rfl) ?_
    refine ap (y_assign rfl) ?_
    refine a_nil ?_
    refine a_en [(4, .bool false)] ?_
    refine a_cut ?_
    intro a_ w_ ha_ hs_
    exact ⟨false, Option.some.inj hm, ha_.weaken ⟨rfl, trivial⟩, hs_.reix [] (by decide)⟩
  have hm := hm_j1
  rintro a_ w_ ⟨yj1_4, rfl, ha_, hs_⟩
  try dsimp only at hm
  refine a_start ha_ hs_ ?_
  refine a_then (a_ret ?_)
  refine a_done (v := .bool yj1_4) (.inl rfl) rfl ?_ ?_
  · intro a_ w_ ha_ hs_; exact run_results (P := Tryd.prog) (fn := Tryd.f196) (rs := [.tmp 4]) (vs := [.bool yj1_4]) rfl (.cons (rv_tmp ha_ rfl) (All2.nil))
  · intro _ _; obtain rfl := Option.some.inj hm
    rfl

def tunnel_book_settings_1_1_lj3 {σ : Type} (k : Nat) (rc : List Int → Int → σ → Option σ) (p1 : Int) : Nat → σ → (List Int) → Int → Option σ
 | 0, _, _, _ => none
 | n_j3 + 1, yj3_sig, yj3_b0_0, yj3_18 =>
 bif decide (yj3_18 < 4) then
 (nth yj3_b0_0 p1).bind fun x6_2 =>
 (rc ((yj3_b0_0).set (p1).toNat yj3_18) (IntKind.i64.wrap (p1 + 1)) yj3_sig).bind fun x7_4 =>
 tunnel_book_settings_1_1_lj3 k rc p1 n_j3 x7_4 ((yj3_b0_0).set (p1).toNat yj3_18) (IntKind.i64.wrap (yj3_18 + 1))
 else
 some (yj3_sig)
def tunnel_book_settings_1_1 {σ : Type} (step : σ → List Int → Option σ) (pb : TunnelBook) : Nat → List Int → Int → σ → Option σ
 | 0, _, _, _ => none
 | k + 1, p0, p1, s0 =>
 bif p1 == (pb.Parts.length : Int) then
 (step s0 p0).bind fun x2_2 =>
 some (x2_2)
 else
 (tunnel_book_settings_1_1_lj3 k (tunnel_book_settings_1_1 step pb k) p1 k s0 p0 0).bind fun yj2_sig =>
 some (yj2_sig)
theorem ok_198 {σ : Type} {Bs : Blks σ} {step : σ → List Int → Option σ} {pb : TunnelBook} {y : Value} : ∀ {k : Nat} {H : Hp} {w : World} {p0 : List Int} {p1 : Int} {s0 : σ} {c0 : List Value} {m0 : Option Nat} {bb : Nat} {by_ : Nat} {bo : Nat} {fy : Fv} {fo : Fv} {r : σ} (hsub : Sub H w) (hX : HX Bs s0 H w) (hy : Yields Tryd.prog y Bs (fun s (x : Arr 4 Int) => step s x) H) (h0 : Rp.rep (α := Arr 4 Int) H c0 p0) (hb : PAt (α := Bk m0) H bb 0 pb) (hyy : PAt H by_ 0 fy) (hon : PAt H bo 0 fo) (hfy : fy.v = y) (hfo : fo.v = .func (.func 198) #[] #[.pointer (some ⟨bb, 0, none⟩), .pointer (some ⟨by_, 0, none⟩), .pointer (some ⟨bo, 0, none⟩)]) (hm : tunnel_book_settings_1_1 step pb k p0 p1 s0 = some r), Calls Tryd.prog 198 [.agg c0.toArray, .int .i64 p1, .pointer (some ⟨bb, 0, none⟩), .pointer (some ⟨by_, 0, none⟩), .pointer (some ⟨bo, 0, none⟩)].toArray w (Post w H (Xs Bs) fun v _ w' => v = .bool true ∧ Oks Bs r w') := by
  intro k
  induction k with
  | zero => intros; rename_i hm; rw [tunnel_book_settings_1_1] at hm; cases hm
  | succ k ih =>
    intro H w p0 p1 s0 c0 m0 bb by_ bo fy fo r hsub hX hy h0 hb hyy hon hfy hfo hm
    rw [tunnel_book_settings_1_1] at hm
    subst hfy
    refine startX (n := 31) (E := [(0, .agg c0.toArray), (1, .int .i64 p1), (2, .pointer (some ⟨bb, 0, none⟩)), (3, .pointer (some ⟨by_, 0, none⟩)), (4, .pointer (some ⟨bo, 0, none⟩))]) Tryd.func198 rfl rfl ⟨rfl, rfl, rfl, rfl, rfl, trivial⟩ rfl hsub hX ?_
    refine a_seq (a_region rfl ?_)
    refine a_cons (e_box (cs := c0) trivial rfl rfl rfl ?_)
    intro b0_0
    refine ap (y_assign rfl) ?_
    refine a_nil ?_
    refine a_en [(1, .int .i64 p1), (2, .pointer (some ⟨bb, 0, none⟩)), (3, .pointer (some ⟨by_, 0, none⟩)), (4, .pointer (some ⟨bo, 0, none⟩)), (5, .pointer (some ⟨b0_0, 0, none⟩))] ?_
    refine a_then (a_seq (a_seq (a_region rfl ?_)))
    refine ap (y_move rfl) ?_
    have h1_1 := Bk.at_b hb
    refine ap (y_fieldAddr fo110_0 rfl) ?_
    have h1_2 := TunnelBook.at_Parts h1_1
    refine ap (y_fieldAddr fo25_0 rfl) ?_
    obtain ⟨v1_3, h1_3, c1_3⟩ := PAt.sl h1_2
    refine ap (y_load_one ty22 rfl (fun _ h => h.sub) rfl c1_3) ?_
    refine ap (y_len_sl Tryd.underlying22 rfl h1_3) ?_
    refine ap (y_eql rfl rfl) ?_
    refine a_nil ?_
    refine a_en [(1, .int .i64 p1), (3, .pointer (some ⟨by_, 0, none⟩)), (4, .pointer (some ⟨bo, 0, none⟩)), (5, .pointer (some ⟨b0_0, 0, none⟩)), (14, .bool (p1 == (pb.Parts.length : Int)))] ?_
    refine a_then ?_
    refine a_cond rfl (fun k_1 => ?_) (fun k_1 => ?_)
    · have hm := cond_t k_1 hm
      refine a_seq (a_region rfl ?_)
      refine ap (y_load_one ty266 rfl (fun _ h => h.sub) rfl (PAt.fv hyy)) ?_
      refine ap (y_load_whole ty111 rfl (knows_box (i := 0) rfl) rfl (Rp.len h0)) ?_
      obtain ⟨x2_2, q2_2, hm⟩ := bind_some hm
      refine a_cons (e_yieldS (A := [.box b0_0 c0 111]) (s := s0) trivial rfl rfl rfl h0 hy q2_2 ?_)
      intro H2_2 l2_2
      have hyy := PAt.mono l2_2 hyy
      have hon := PAt.mono l2_2 hon
      have h0 := Rp.mono l2_2 h0
      have hy := Yields.mono' l2_2 hy
      have hb := PAt.mono l2_2 hb
      refine ap (y_assign rfl) ?_
      refine a_nil ?_
      refine a_en [(7, .bool true)] ?_
      refine a_ownS (A := [.box b0_0 c0 111]) (A' := []) (B := LXs Bs x2_2) [] (by decide) rfl ?_
      refine a_then (a_ret (a_then_ret ?_))
      obtain rfl := Option.some.inj hm
      exact a_doneX (A := []) (s := x2_2) (v := .bool true) (.inl rfl) rfl rfl (fun a_ w_ ha_ hs_ => run_results (P := Tryd.prog) (fn := Tryd.f198) (rs := [.tmp 7]) (vs := [.bool true]) rfl (.cons (rv_tmp ha_ rfl) (All2.nil)))
    have hm := cond_f k_1 hm
    refine a_skip (a_then (a_seq (a_seq (a_region rfl ?_))))
    refine ap (y_move rfl) ?_
    refine a_nil ?_
    refine a_en [(1, .int .i64 p1), (4, .pointer (some ⟨bo, 0, none⟩)), (5, .pointer (some ⟨b0_0, 0, none⟩)), (18, .int .i64 0)] ?_
    refine a_then ?_
    obtain ⟨s_j2, hs_j2, hm_j2⟩ := bind_some hm
    refine a_join (fun a_ w_ => ∃ (Hj2 : Hp), ∃ (_ : HLe H Hj2), ∃ (yj2_sig : σ), yj2_sig = s_j2 ∧ Ag 31 [] [] a_ ∧ St (Kp.mk w H (Xs Bs)) Hj2 ([] ++ LXs Bs yj2_sig) w_) ?_ ?_
    · have hm := hs_j2
      refine a_block ?_
      refine a_loop (fun n_j3 a_ w_ => ∃ (Hj3 : Hp), ∃ (_ : HLe H Hj3), ∃ (yj3_sig : σ), ∃ (yj3_b0_0 : List Int), ∃ (yj3_18 : Int), ∃ (uj3_b0_0 : List Value), tunnel_book_settings_1_1_lj3 k (tunnel_book_settings_1_1 step pb k) p1 n_j3 yj3_sig yj3_b0_0 yj3_18 = some s_j2 ∧ Rp.rep (α := Arr 4 Int) Hj3 uj3_b0_0 yj3_b0_0 ∧ Ag 31 [] [(1, .int .i64 p1), (4, .pointer (some ⟨bo, 0, none⟩)), (5, .pointer (some ⟨b0_0, 0, none⟩)), (18, .int .i64 yj3_18)] a_ ∧ St (Kp.mk w H (Xs Bs)) Hj3 ([.box b0_0 uj3_b0_0 111] ++ LXs Bs yj3_sig) w_) k ?_ ?_
      · intro a_ w_ ha_ hs_
        exact ⟨H, (HLe.refl _), s0, p0, 0, c0, hm, h0, ha_.weaken ⟨rfl, rfl, rfl, rfl, trivial⟩, St.reixS (A := [.box b0_0 c0 111]) (B := LXs Bs s0) hs_ [0] (by decide)⟩
      rintro (_ | n_j3) a_ w_ ⟨Hj3, lj3, yj3_sig, yj3_b0_0, yj3_18, uj3_b0_0, hm, hj3_b0_0, ha_, hs_⟩
      · rw [tunnel_book_settings_1_1_lj3.eq_1] at hm; cases hm
      rw [tunnel_book_settings_1_1_lj3.eq_2] at hm
      refine a_start ha_ hs_ ?_
      have hon := PAt.mono lj3 hon
      have hy := Yields.mono' lj3 hy
      have hb := PAt.mono lj3 hb
      have hyy := PAt.mono lj3 hyy
      refine a_seq (a_region rfl ?_)
      refine ap (y_lss rfl rfl) ?_
      refine a_nil (a_then (a_seq ?_))
      refine a_cond rfl (fun k_4 => ?_) (fun k_4 => ?_)
      · have hm := cond_t k_4 hm
        refine a_skip (a_then (a_seq (a_block (a_seq (a_region rfl ?_)))))
        refine ap (y_move rfl) ?_
        refine ap (y_assign rfl) ?_
        refine a_nil ?_
        refine a_en [(1, .int .i64 p1), (4, .pointer (some ⟨bo, 0, none⟩)), (5, .pointer (some ⟨b0_0, 0, none⟩)), (8, .int .i64 yj3_18), (18, .int .i64 yj3_18)] ?_
        refine a_then (a_seq (a_region rfl ?_))
        refine ap (y_move rfl) ?_
        refine ap (y_move rfl) ?_
        obtain ⟨x6_2, q6_2, hm⟩ := bind_some hm
        have k6_2 := arr_in hj3_b0_0 q6_2
        refine ap (y_index_arrp Tryd.underlying111 ty3 rfl rfl k6_2) ?_
        refine a_cons (e_storeIn (α := Arr 4 Int) (i := 0) (ds := [.int .i64 yj3_18]) (s' := (yj3_b0_0).set (p1).toNat yj3_18) trivial ty3 rfl rfl rfl rfl (cells_one_int _) hj3_b0_0 (put_arr0 1 rfl hj3_b0_0 q6_2 rfl) ?_)
        intro u6_3 h6_3
        refine a_nil ?_
        refine a_en [(1, .int .i64 p1), (4, .pointer (some ⟨bo, 0, none⟩)), (5, .pointer (some ⟨b0_0, 0, none⟩)), (18, .int .i64 yj3_18)] ?_
        refine a_then (a_seq (a_region rfl ?_))
        refine ap (y_load_one ty267 rfl (fun _ h => h.sub) rfl (by have h_ := PAt.fv hon; rw [hfo] at h_; exact h_)) ?_
        refine ap (y_load_whole ty111 rfl (knows_box (i := 0) rfl) rfl (Rp.len h6_3)) ?_
        refine ap (y_move rfl) ?_
        refine ap (y_add rfl rfl) ?_
        obtain ⟨x7_4, q7_4, hm⟩ := bind_some hm
        refine a_cons (e_callX (A := [.box b0_0 u6_3 111]) (s := yj3_sig) (all := [.agg u6_3.toArray, .int .i64 (IntKind.i64.wrap (p1 + 1)), .pointer (some ⟨bb, 0, none⟩), .pointer (some ⟨by_, 0, none⟩), .pointer (some ⟨bo, 0, none⟩)]) (v := .bool true) trivial rfl Tryd.func198 rfl rfl rfl rfl rfl (fun w hw hX_ => ih hw hX_ hy h6_3 hb hyy hon rfl hfo q7_4) ?_)
        intro H7_4 l7_4
        have hon := PAt.mono l7_4 hon
        have hb := PAt.mono l7_4 hb
        have hyy := PAt.mono l7_4 hyy
        have h6_3 := Rp.mono l7_4 h6_3
        have hy := Yields.mono' l7_4 hy
        refine ap (y_not rfl) ?_
        refine a_nil ?_
        refine a_en [(1, .int .i64 p1), (4, .pointer (some ⟨bo, 0, none⟩)), (5, .pointer (some ⟨b0_0, 0, none⟩)), (18, .int .i64 yj3_18), (29, .bool false)] ?_
        refine a_then ?_
        refine a_cond rfl (fun h => nomatch h) (fun _ => ?_)
        refine a_skip (a_block_normal (a_then (a_region rfl ?_)))
        refine ap (y_add rfl rfl) ?_
        refine ap (y_move rfl) ?_
        refine a_nil ?_
        refine a_en [(1, .int .i64 p1), (4, .pointer (some ⟨bo, 0, none⟩)), (5, .pointer (some ⟨b0_0, 0, none⟩)), (18, .int .i64 (IntKind.i64.wrap (yj3_18 + 1)))] ?_
        refine a_then ?_
        intro a_ w_ ha_ hs_
        exact ⟨n_j3, Nat.lt_succ_self _, H7_4, (lj3.trans l7_4), x7_4, (yj3_b0_0).set (p1).toNat yj3_18, IntKind.i64.wrap (yj3_18 + 1), u6_3, hm, h6_3, ha_.weaken ⟨rfl, rfl, rfl, rfl, trivial⟩, St.reixS (A := [.box b0_0 u6_3 111]) (B := LXs Bs x7_4) hs_ [0] (by decide)⟩
      have hm := cond_f k_4 hm
      refine a_exit (a_then_exit (a_then_exit (a_block_hit (a_cut ?_))))
      intro a_ w_ ha_ hs_
      exact ⟨Hj3, lj3, yj3_sig, Option.some.inj hm, ha_.weaken trivial, St.reixS (A := [.box b0_0 uj3_b0_0 111]) (B := LXs Bs yj3_sig) hs_ [] (by decide)⟩
    have hm := hm_j2
    rintro a_ w_ ⟨Hj2, lj2, yj2_sig, rfl, ha_, hs_⟩
    try dsimp only at hm
    refine a_start ha_ hs_ ?_
    have hy := Yields.mono' lj2 hy
    have hb := PAt.mono lj2 hb
    have hyy := PAt.mono lj2 hyy
    have hon := PAt.mono lj2 hon
    refine a_then (a_seq (a_region rfl ?_))
    refine ap (y_assign rfl) ?_
    refine a_nil (a_then (a_ret ?_))
    obtain rfl := Option.some.inj hm
    exact a_doneX (A := []) (s := yj2_sig) (v := .bool true) (.inl rfl) rfl rfl (fun a_ w_ ha_ hs_ => run_results (P := Tryd.prog) (fn := Tryd.f198) (rs := [.tmp 7]) (vs := [.bool true]) rfl (.cons (rv_tmp ha_ rfl) (All2.nil)))

def tunnel_book_settings_1 {σ : Type} (step : σ → List Int → Option σ) (pb : TunnelBook) (k : Nat) (s0 : σ) : Option σ :=
 (tunnel_closed k).bind fun x3_1 =>
 (tunnel_book_settings_1_1 step pb k x3_1 0 s0).bind fun x3_2 =>
 some (x3_2)
theorem ok_197 {σ : Type} {Bs : Blks σ} {step : σ → List Int → Option σ} {pb : TunnelBook} {ly : Nat} {k : Nat} {H : Hp} {w : World} {s0 : σ} {m0 : Option Nat} {bb : Nat} {r : σ} (hsub : Sub H w) (hX : HX Bs s0 H w) (hy : Yields Tryd.prog (.func (.yield ly) #[] #[]) Bs (fun s (x : Arr 4 Int) => step s x) H) (hb : PAt (α := Bk m0) H bb 0 pb) (hm : tunnel_book_settings_1 step pb k s0 = some r) : Calls Tryd.prog 197 [.func (.yield ly) #[] #[], .pointer (some ⟨bb, 0, none⟩)].toArray w (Post w H (Xs Bs) fun v _ w' => v = .tuple #[] ∧ Oks Bs r w') := by
  unfold tunnel_book_settings_1 at hm
  refine startX (n := 8) (E := [(0, .func (.yield ly) #[] #[]), (1, .pointer (some ⟨bb, 0, none⟩))]) Tryd.func197 rfl rfl ⟨rfl, rfl, trivial⟩ rfl hsub hX ?_
  refine a_seq (a_region rfl ?_)
  refine a_cons (e_box (cs := [.func (.yield ly) #[] #[]]) trivial rfl rfl rfl ?_)
  intro b0_0
  refine a_nil ?_
  refine a_freeze (α := Fv) (x := (⟨.func (.yield ly) #[] #[], rfl⟩ : Fv)) (i := 0) rfl rfl ?_
  intro Hb0_0 lb0_0 hb0_0
  have hb := PAt.mono lb0_0 hb
  have hy := Yields.mono' lb0_0 hy
  refine a_en [(1, .pointer (some ⟨bb, 0, none⟩)), (2, .pointer (some ⟨b0_0, 0, none⟩))] ?_
  refine a_ownS (A := [.emp]) (A' := []) (B := LXs Bs s0) [] (by decide) rfl ?_
  refine a_then (a_seq (a_region rfl ?_))
  refine a_cons (e_alloc (cs := [.nilFunc]) trivial rfl ty267 rfl ?_)
  intro b1_0
  refine a_nil (a_then (a_seq (a_region rfl ?_)))
  refine ap (y_makeFunc rfl rfl) ?_
  refine a_cons (e_storeWhole (i := 0) (ds := [.func (.func 198) #[] #[.pointer (some ⟨bb, 0, none⟩), .pointer (some ⟨b0_0, 0, none⟩), .pointer (some ⟨b1_0, 0, none⟩)]]) trivial ty267 rfl rfl rfl rfl rfl (by simp [cell1]) rfl ?_)
  refine a_nil ?_
  refine a_freeze (α := Fv) (x := (⟨.func (.func 198) #[] #[.pointer (some ⟨bb, 0, none⟩), .pointer (some ⟨b0_0, 0, none⟩), .pointer (some ⟨b1_0, 0, none⟩)], rfl⟩ : Fv)) (i := 0) rfl rfl ?_
  intro Hb1_0 lb1_0 hb1_0
  have hb := PAt.mono lb1_0 hb
  have hb0_0 := PAt.mono lb1_0 hb0_0
  have hy := Yields.mono' lb1_0 hy
  refine a_en [(3, .pointer (some ⟨b1_0, 0, none⟩))] ?_
  refine a_ownS (A := [.emp]) (A' := []) (B := LXs Bs s0) [] (by decide) rfl ?_
  refine a_then ?_
  obtain ⟨x3_1, q3_1, hm⟩ := bind_some hm
  obtain ⟨x3_2, q3_2, hm⟩ := bind_some hm
  refine d_region (S := Sw Hb1_0 []) (n := 3) (listed := (bits 3 0)) mixed (by kernel_rfl) rfl (by kernel_rfl) ?_
  refine d_take (i := 0) (listed' := (bits 3 1)) rfl (by kernel_rfl) noP_post (by kernel_rfl) rfl rfl trivial (y_load_one ty267 rfl (fun _ h => h.1) rfl (PAt.fv hb1_0)) (sw0 []) ?_
  refine d1 1 rfl (e_callH (all := []) trivial rfl Tryd.func151 rfl rfl rfl rfl rfl (fun w hw => ok_151 hw q3_1) ?_)
  rintro _ H3_1 l3_1 ⟨c3_1r0, rfl, h3_1r0⟩
  have hb1_0 := PAt.mono l3_1 hb1_0
  have hb := PAt.mono l3_1 hb
  have hb0_0 := PAt.mono l3_1 hb0_0
  have hy := Yields.mono' l3_1 hy
  refine dn 3 (swl l3_1 []) ?_
  refine d1 2 rfl (e_callX (A := []) (s := s0) (all := [.agg c3_1r0.toArray, .int .i64 0, .pointer (some ⟨bb, 0, none⟩), .pointer (some ⟨b0_0, 0, none⟩), .pointer (some ⟨b1_0, 0, none⟩)]) (v := .bool true) trivial rfl Tryd.func198 rfl rfl rfl rfl rfl (fun w hw hX_ => ok_198 hw hX_ hy h3_1r0 hb hb0_0 hb1_0 rfl rfl q3_2) ?_)
  intro H3_2 l3_2
  have hb1_0 := PAt.mono l3_2 hb1_0
  have hb := PAt.mono l3_2 hb
  have hb0_0 := PAt.mono l3_2 hb0_0
  have h3_1r0 := Rp.mono l3_2 h3_1r0
  have hy := Yields.mono' l3_2 hy
  refine dn 7 (swl (l3_1.trans l3_2) []) ?_
  refine d_done (by kernel_rfl) ?_
  refine a_en [] ?_
  obtain rfl := Option.some.inj hm
  exact a_doneX (A := []) (s := x3_2) (v := .tuple #[]) (.inr rfl) rfl rfl (fun a_ w_ ha_ hs_ => run_results (P := Tryd.prog) (fn := Tryd.f197) (rs := []) (vs := []) rfl (All2.nil))

def tunnel_book_isDry (k : Nat) (p0 : TunnelBook) (p1 : TunnelDrying) : Option Bool :=
 (dryPure p0 p1).bind fun x1_2 =>
 (nth p0.Frames p1.frame).bind fun x1_8 =>
 (bif decide (x1_8.Need.Low ≤ x1_2.Low) then
 some ((decide (x1_2.High ≤ x1_8.Need.High)))
 else
 some (false)).bind fun yj1_4 =>
 some (yj1_4)
theorem ok_104 {k : Nat} {H : Hp} {w : World} {p0 : TunnelBook} {p1 : TunnelDrying} {M0 : Nat} {c0 : List Value} {c1 : List Value} {r : Bool} (hsub : Sub H w) (h0 : Rp.rep (α := Bk (some M0)) H c0 p0) (h1 : Rp.rep (α := TunnelDrying) H c1 p1) (hg : Glob H) (hM : ∃ o, w.heap[M0]? = some o ∧ Memo p0 o) (hMn : H M0 = none) (hm : tunnel_book_isDry k p0 p1 = some r) : Calls Tryd.prog 104 [.agg c0.toArray, .agg c1.toArray].toArray w (PostM w H M0 (Memo p0) fun v H' => v = .bool r) := by
  unfold tunnel_book_isDry at hm
  refine startM (n := 30) (E := [(0, .agg c0.toArray), (1, .agg c1.toArray)]) Tryd.func104 rfl rfl ⟨rfl, rfl, trivial⟩ rfl hsub hM hMn ?_
  refine a_seq (a_region rfl ?_)
  refine a_cons (e_box (cs := c0) trivial rfl rfl rfl ?_)
  intro b0_0
  refine a_cons (e_box (cs := c1) trivial rfl rfl rfl ?_)
  intro b0_1
  refine ap (y_assign rfl) ?_
  refine a_nil ?_
  refine a_freeze (α := TunnelDrying) (x := p1) (i := 0) rfl h1 ?_
  intro Hb0_1 lb0_1 hb0_1
  have h0 := Rp.mono lb0_1 h0
  have h1 := Rp.mono lb0_1 h1
  have hg := Glob.mono lb0_1 hg
  refine a_freeze (α := Bk _) (x := p0) (i := 1) rfl h0 ?_
  intro Hb0_0 lb0_0 hb0_0
  have h0 := Rp.mono lb0_0 h0
  have h1 := Rp.mono lb0_0 h1
  have hb0_1 := PAt.mono lb0_0 hb0_1
  have hg := Glob.mono lb0_0 hg
  refine a_en [(2, .pointer (some ⟨b0_0, 0, none⟩)), (3, .pointer (some ⟨b0_1, 0, none⟩))] ?_
  refine a_own [2] (by decide) (L' := [.blk M0 (Memo p0)]) rfl ?_
  refine a_then (a_seq ?_)
  obtain ⟨x1_2, q1_2, hm⟩ := bind_some hm
  obtain ⟨x1_8, q1_8, hm⟩ := bind_some hm
  refine d_region (S := Sw Hb0_0 []) (n := 15) (listed := (bits 15 0)) mixed (by kernel_rfl) rfl (by kernel_rfl) ?_
  refine d_abs fun U1 hU1 => ?_
  have N1_0 (Hn1_8 : Hp) (ln1_8 : HLe Hb0_0 Hn1_8) (b1_11 : Nat) (b1_12 : Nat) (u1_10 : List Value) (h1_10 : Rp.rep (α := Span) Hn1_8 u1_10 x1_8.Need) : At 30 [] (Kp.mk w H (· = M0)) [(5, .pointer (some ⟨b1_11, 0, none⟩)), (6, .pointer (some ⟨b1_12, 0, none⟩))] Hn1_8 [.blk M0 (Memo p0), .box b1_11 x1_2.cells 32, .box b1_12 u1_10 32] (U1 (Sw Hn1_8 []) 0 (bits 15 32767)) := by
    refine d_fwd hU1 ?_
    have hg := Glob.mono ln1_8 hg
    refine d_done (by kernel_rfl) ?_
    refine a_freeze (α := Span) (x := x1_2) (i := 1) rfl (Span.rep_mk _ x1_2) ?_
    intro Hb1_11 lb1_11 hb1_11
    have h1_10 := Rp.mono lb1_11 h1_10
    have hg := Glob.mono lb1_11 hg
    refine a_freeze (α := Span) (x := x1_8.Need) (i := 2) rfl h1_10 ?_
    intro Hb1_12 lb1_12 hb1_12
    have hb1_11 := PAt.mono lb1_12 hb1_11
    have hg := Glob.mono lb1_12 hg
    refine a_own [0] (by decide) (L' := [.blk M0 (Memo p0)]) rfl ?_
    refine a_then (a_seq ?_)
    obtain ⟨s_j1, hs_j1, hm_j1⟩ := bind_some hm
    refine a_join (fun a_ w_ => ∃ (yj1_4 : Bool), yj1_4 = s_j1 ∧ Ag 30 [] [(4, .bool yj1_4)] a_ ∧ St (Kp.mk w H (· = M0)) Hb1_12 [.blk M0 (Memo p0)] w_) ?_ ?_
    · have hm := hs_j1
      refine a_region rfl ?_
      have h2_0 := Span.at_Low hb1_12
      refine ap (y_fieldAddr fo32_0 rfl) ?_
      refine ap (y_load_int ty3 rfl (fun _ h => h.sub) rfl h2_0) ?_
      have h2_2 := Span.at_Low hb1_11
      refine ap (y_fieldAddr fo32_0 rfl) ?_
      refine ap (y_load_int ty3 rfl (fun _ h => h.sub) rfl h2_2) ?_
      refine ap (y_leq rfl rfl) ?_
      refine ap (y_move rfl) ?_
      rcases Bool.eq_false_or_eq_true (decide (x1_8.Need.Low ≤ x1_2.Low)) with k2_6 | k2_6
      · have hm := cond_t k2_6 hm
        have h2_6 := Span.at_High hb1_11
        refine ag ⟨_, _, rfl, rfl, k2_6⟩ (y_fieldAddr fo32_1 rfl) ?_
        refine ag ⟨_, _, rfl, rfl, k2_6⟩ (y_load_int ty3 rfl (fun _ h => h.sub) rfl h2_6) ?_
        have h2_8 := Span.at_High hb1_12
        refine ag ⟨_, _, rfl, rfl, k2_6⟩ (y_fieldAddr fo32_1 rfl) ?_
        refine ag ⟨_, _, rfl, rfl, k2_6⟩ (y_load_int ty3 rfl (fun _ h => h.sub) rfl h2_8) ?_
        refine ag ⟨_, _, rfl, rfl, k2_6⟩ (y_leq rfl rfl) ?_
        refine ap (y_pick_t rfl k2_6 rfl) ?_
        refine ap (y_assign rfl) ?_
        refine a_nil ?_
        refine a_en [(4, .bool (decide (x1_2.High ≤ x1_8.Need.High)))] ?_
        refine a_cut ?_
        intro a_ w_ ha_ hs_
        exact ⟨decide (x1_2.High ≤ x1_8.Need.High), Option.some.inj hm, ha_.weaken ⟨rfl, trivial⟩, hs_.reix [0] (by decide)⟩
      have hm := cond_f k2_6 hm
      refine as1 (sk1 rfl rfl k2_6) ?_
      refine as1 (sk1 rfl rfl k2_6) ?_
      refine as1 (sk1 rfl rfl k2_6) ?_
      refine as1 (sk1 rfl rfl k2_6) ?_
      refine as1 (sk1 rfl rfl k2_6) ?_
      refine ap (y_pick_f rfl k2_6 rfl) ?_
      refine ap (y_assign rfl) ?_
      refine a_nil ?_
      refine a_en [(4, .bool false)] ?_
      refine a_cut ?_
      intro a_ w_ ha_ hs_
      exact ⟨false, Option.some.inj hm, ha_.weaken ⟨rfl, trivial⟩, hs_.reix [0] (by decide)⟩
    have hm := hm_j1
    rintro a_ w_ ⟨yj1_4, rfl, ha_, hs_⟩
    try dsimp only at hm
    refine a_start ha_ hs_ ?_
    refine a_then (a_ret ?_)
    obtain rfl := Option.some.inj hm
    exact a_doneM (i := 0) (v := .bool yj1_4) (.inl rfl) rfl rfl (fun a_ w_ ha_ hs_ => run_results (P := Tryd.prog) (fn := Tryd.f104) (rs := [.tmp 4]) (vs := [.bool yj1_4]) rfl (.cons (rv_tmp ha_ rfl) (All2.nil))) rfl
  have N1_1 (Hn1_7 : Hp) (ln1_7 : HLe Hb0_0 Hn1_7) (b1_11 : Nat) (b1_12 : Nat) (u1_10 : List Value) (h1_10 : Rp.rep (α := Span) Hn1_7 u1_10 x1_8.Need) : At 30 [] (Kp.mk w H (· = M0)) [(5, .pointer (some ⟨b1_11, 0, none⟩)), (6, .pointer (some ⟨b1_12, 0, none⟩)), (17, .agg u1_10.toArray)] Hn1_7 ([.blk M0 (Memo p0), .box b1_11 x1_2.cells 32, .box b1_12 [.int .i64 0, .int .i64 0] 32]) (U1 (Sw Hn1_7 []) 1 (bits 15 16383)) := by
    refine d_fwd hU1 ?_
    have hg := Glob.mono ln1_7 hg
    refine d1 14 rfl (e_storeWhole (i := 2) (ds := u1_10) trivial ty32 rfl rfl rfl rfl (Rp.len h1_10) ((Rp.one h1_10)) rfl ?_)
    refine dn 32767 (sw0 []) ?_
    exact d_edge hU1 (N1_0 Hn1_7 ln1_7 b1_11 b1_12 u1_10 h1_10) ⟨rfl, rfl, trivial⟩ [0, 1, 2] (by decide) rfl (fun _ h => h)
  have N1_2 (Hn1_6 : Hp) (ln1_6 : HLe Hb0_0 Hn1_6) (b1_11 : Nat) (b1_12 : Nat) (u1_10 : List Value) (h1_10 : Rp.rep (α := Span) Hn1_6 u1_10 x1_8.Need) : At 30 [] (Kp.mk w H (· = M0)) [(5, .pointer (some ⟨b1_11, 0, none⟩)), (6, .pointer (some ⟨b1_12, 0, none⟩)), (9, .agg x1_2.cells.toArray), (17, .agg u1_10.toArray)] Hn1_6 ([.blk M0 (Memo p0), .box b1_11 [.int .i64 0, .int .i64 0] 32, .box b1_12 [.int .i64 0, .int .i64 0] 32]) (U1 (Sw Hn1_6 []) 2 (bits 15 8191)) := by
    refine d_fwd hU1 ?_
    have hg := Glob.mono ln1_6 hg
    refine d1 13 rfl (e_storeWhole (i := 1) (ds := x1_2.cells) trivial ty32 rfl rfl rfl rfl rfl ((Rp.one (Span.rep_mk (fun _ => none) x1_2))) rfl ?_)
    refine dn 16383 (sw0 []) ?_
    exact d_edge hU1 (N1_1 Hn1_6 ln1_6 b1_11 b1_12 u1_10 h1_10) ⟨rfl, rfl, rfl, trivial⟩ [0, 1, 2] (by decide) rfl (fun _ h => h)
  have N1_3 (Hn1_9 : Hp) (ln1_9 : HLe Hb0_0 Hn1_9) (b1_11 : Nat) (u1_10 : List Value) (h1_10 : Rp.rep (α := Span) Hn1_9 u1_10 x1_8.Need) : At 30 [] (Kp.mk w H (· = M0)) [(5, .pointer (some ⟨b1_11, 0, none⟩)), (9, .agg x1_2.cells.toArray), (17, .agg u1_10.toArray)] Hn1_9 ([.blk M0 (Memo p0), .box b1_11 [.int .i64 0, .int .i64 0] 32]) (U1 (Sw Hn1_9 []) 3 (bits 15 4095)) := by
    refine d_fwd hU1 ?_
    have hg := Glob.mono ln1_9 hg
    refine d1 12 rfl (e_alloc (cs := [.int .i64 0, .int .i64 0]) trivial rfl ty32 rfl ?_)
    intro b1_12
    refine dn 8191 (sw0 []) ?_
    exact d_edge hU1 (N1_2 Hn1_9 ln1_9 b1_11 b1_12 u1_10 h1_10) ⟨rfl, rfl, rfl, rfl, trivial⟩ [1, 2, 0] (by decide) rfl (fun _ h => h)
  have N1_4 (Hn1_4 : Hp) (ln1_4 : HLe Hb0_0 Hn1_4) (b1_12 : Nat) (u1_10 : List Value) (h1_10 : Rp.rep (α := Span) Hn1_4 u1_10 x1_8.Need) : At 30 [] (Kp.mk w H (· = M0)) [(6, .pointer (some ⟨b1_12, 0, none⟩)), (9, .agg x1_2.cells.toArray), (17, .agg u1_10.toArray)] Hn1_4 ([.blk M0 (Memo p0), .box b1_12 [.int .i64 0, .int .i64 0] 32]) (U1 (Sw Hn1_4 []) 3 (bits 15 6143)) := by
    refine d_fwd hU1 ?_
    have hg := Glob.mono ln1_4 hg
    refine d1 11 rfl (e_alloc (cs := [.int .i64 0, .int .i64 0]) trivial rfl ty32 rfl ?_)
    intro b1_11
    refine dn 8191 (sw0 []) ?_
    exact d_edge hU1 (N1_2 Hn1_4 ln1_4 b1_11 b1_12 u1_10 h1_10) ⟨rfl, rfl, rfl, rfl, trivial⟩ [1, 0, 2] (by decide) rfl (fun _ h => h)
  have N1_5 (Hn1_5 : Hp) (ln1_5 : HLe Hb0_0 Hn1_5) (b1_11 : Nat) (b1_12 : Nat) (u1_0 : List Value) (u1_1 : List Value) (u1_10 : List Value) (h1_0 : Rp.rep (α := Bk (some M0)) Hn1_5 u1_0 p0) (h1_1 : Rp.rep (α := TunnelDrying) Hn1_5 u1_1 p1) (h1_10 : Rp.rep (α := Span) Hn1_5 u1_10 x1_8.Need) : At 30 [] (Kp.mk w H (· = M0)) [(5, .pointer (some ⟨b1_11, 0, none⟩)), (6, .pointer (some ⟨b1_12, 0, none⟩)), (7, .agg u1_0.toArray), (8, .agg u1_1.toArray), (17, .agg u1_10.toArray)] Hn1_5 ([.blk M0 (Memo p0), .box b1_11 [.int .i64 0, .int .i64 0] 32, .box b1_12 [.int .i64 0, .int .i64 0] 32]) (U1 (Sw Hn1_5 []) 3 (bits 15 8187)) := by
    refine d_fwd hU1 ?_
    have hg := Glob.mono ln1_5 hg
    refine d1 2 rfl (e_callM (i := 0) (all := [.agg u1_0.toArray, .agg u1_1.toArray]) trivial rfl Tryd.func89 rfl rfl rfl rfl rfl rfl (fun w hw ho hn => ok_89 hw h1_0 h1_1 hg ho hn q1_2) ?_)
    rintro _ H1_2 l1_2 ⟨rfl⟩
    have h1_0 := Rp.mono l1_2 h1_0
    have h1_1 := Rp.mono l1_2 h1_1
    have h1_10 := Rp.mono l1_2 h1_10
    have hg := Glob.mono l1_2 hg
    refine dn 8191 (swl l1_2 []) ?_
    exact d_edge hU1 (N1_2 H1_2 (ln1_5.trans l1_2) b1_11 b1_12 u1_10 h1_10) ⟨rfl, rfl, rfl, rfl, trivial⟩ [0, 1, 2] (by decide) rfl (sw_sw l1_2 [] rfl)
  have N1_6 (Hn1_1 : Hp) (ln1_1 : HLe Hb0_0 Hn1_1) (u1_10 : List Value) (h1_10 : Rp.rep (α := Span) Hn1_1 u1_10 x1_8.Need) : At 30 [] (Kp.mk w H (· = M0)) [(9, .agg x1_2.cells.toArray), (17, .agg u1_10.toArray)] Hn1_1 [.blk M0 (Memo p0)] (U1 (Sw Hn1_1 []) 4 (bits 15 2047)) := by
    refine d_fwd hU1 ?_
    have hg := Glob.mono ln1_1 hg
    refine d_all (rs := [11, 12]) (by kernel_rfl) rfl ⟨⟨_, rfl, ?_⟩, ⟨_, rfl, ?_⟩, trivial⟩
    · refine e_alloc (cs := [.int .i64 0, .int .i64 0]) trivial rfl ty32 rfl ?_
      intro b1_11
      refine dn 4095 (sw0 []) ?_
      exact d_edge hU1 (N1_3 Hn1_1 ln1_1 b1_11 u1_10 h1_10) ⟨rfl, rfl, rfl, trivial⟩ [1, 0] (by decide) rfl (fun _ h => h)
    refine e_alloc (cs := [.int .i64 0, .int .i64 0]) trivial rfl ty32 rfl ?_
    intro b1_12
    refine dn 6143 (sw0 []) ?_
    exact d_edge hU1 (N1_4 Hn1_1 ln1_1 b1_12 u1_10 h1_10) ⟨rfl, rfl, rfl, trivial⟩ [1, 0] (by decide) rfl (fun _ h => h)
  have N1_7 (Hn1_2 : Hp) (ln1_2 : HLe Hb0_0 Hn1_2) (b1_11 : Nat) (u1_0 : List Value) (u1_1 : List Value) (u1_10 : List Value) (h1_0 : Rp.rep (α := Bk (some M0)) Hn1_2 u1_0 p0) (h1_1 : Rp.rep (α := TunnelDrying) Hn1_2 u1_1 p1) (h1_10 : Rp.rep (α := Span) Hn1_2 u1_10 x1_8.Need) : At 30 [] (Kp.mk w H (· = M0)) [(5, .pointer (some ⟨b1_11, 0, none⟩)), (7, .agg u1_0.toArray), (8, .agg u1_1.toArray), (17, .agg u1_10.toArray)] Hn1_2 ([.blk M0 (Memo p0), .box b1_11 [.int .i64 0, .int .i64 0] 32]) (U1 (Sw Hn1_2 []) 4 (bits 15 4091)) := by
    refine d_fwd hU1 ?_
    have hg := Glob.mono ln1_2 hg
    refine d_all (rs := [2, 12]) (by kernel_rfl) rfl ⟨⟨_, rfl, ?_⟩, ⟨_, rfl, ?_⟩, trivial⟩
    · refine e_callM (i := 0) (all := [.agg u1_0.toArray, .agg u1_1.toArray]) trivial rfl Tryd.func89 rfl rfl rfl rfl rfl rfl (fun w hw ho hn => ok_89 hw h1_0 h1_1 hg ho hn q1_2) ?_
      rintro _ H1_2 l1_2 ⟨rfl⟩
      have h1_0 := Rp.mono l1_2 h1_0
      have h1_1 := Rp.mono l1_2 h1_1
      have h1_10 := Rp.mono l1_2 h1_10
      have hg := Glob.mono l1_2 hg
      refine dn 4095 (swl l1_2 []) ?_
      exact d_edge hU1 (N1_3 H1_2 (ln1_2.trans l1_2) b1_11 u1_10 h1_10) ⟨rfl, rfl, rfl, trivial⟩ [0, 1] (by decide) rfl (sw_sw l1_2 [] rfl)
    refine e_alloc (cs := [.int .i64 0, .int .i64 0]) trivial rfl ty32 rfl ?_
    intro b1_12
    refine dn 8187 (sw0 []) ?_
    exact d_edge hU1 (N1_5 Hn1_2 ln1_2 b1_11 b1_12 u1_0 u1_1 u1_10 h1_0 h1_1 h1_10) ⟨rfl, rfl, rfl, rfl, rfl, trivial⟩ [1, 2, 0] (by decide) rfl (fun _ h => h)
  have N1_8 (Hn1_3 : Hp) (ln1_3 : HLe Hb0_0 Hn1_3) (b1_12 : Nat) (u1_0 : List Value) (u1_1 : List Value) (u1_10 : List Value) (h1_0 : Rp.rep (α := Bk (some M0)) Hn1_3 u1_0 p0) (h1_1 : Rp.rep (α := TunnelDrying) Hn1_3 u1_1 p1) (h1_10 : Rp.rep (α := Span) Hn1_3 u1_10 x1_8.Need) : At 30 [] (Kp.mk w H (· = M0)) [(6, .pointer (some ⟨b1_12, 0, none⟩)), (7, .agg u1_0.toArray), (8, .agg u1_1.toArray), (17, .agg u1_10.toArray)] Hn1_3 ([.blk M0 (Memo p0), .box b1_12 [.int .i64 0, .int .i64 0] 32]) (U1 (Sw Hn1_3 []) 4 (bits 15 6139)) := by
    refine d_fwd hU1 ?_
    have hg := Glob.mono ln1_3 hg
    refine d_all (rs := [2, 11]) (by kernel_rfl) rfl ⟨⟨_, rfl, ?_⟩, ⟨_, rfl, ?_⟩, trivial⟩
    · refine e_callM (i := 0) (all := [.agg u1_0.toArray, .agg u1_1.toArray]) trivial rfl Tryd.func89 rfl rfl rfl rfl rfl rfl (fun w hw ho hn => ok_89 hw h1_0 h1_1 hg ho hn q1_2) ?_
      rintro _ H1_2 l1_2 ⟨rfl⟩
      have h1_0 := Rp.mono l1_2 h1_0
      have h1_1 := Rp.mono l1_2 h1_1
      have h1_10 := Rp.mono l1_2 h1_10
      have hg := Glob.mono l1_2 hg
      refine dn 6143 (swl l1_2 []) ?_
      exact d_edge hU1 (N1_4 H1_2 (ln1_3.trans l1_2) b1_12 u1_10 h1_10) ⟨rfl, rfl, rfl, trivial⟩ [0, 1] (by decide) rfl (sw_sw l1_2 [] rfl)
    refine e_alloc (cs := [.int .i64 0, .int .i64 0]) trivial rfl ty32 rfl ?_
    intro b1_11
    refine dn 8187 (sw0 []) ?_
    exact d_edge hU1 (N1_5 Hn1_3 ln1_3 b1_11 b1_12 u1_0 u1_1 u1_10 h1_0 h1_1 h1_10) ⟨rfl, rfl, rfl, rfl, rfl, trivial⟩ [1, 0, 2] (by decide) rfl (fun _ h => h)
  refine d_fwd hU1 ?_
  obtain ⟨u1_0, h1_0, c1_0⟩ := PAt.one hb0_0
  refine dt 0 1 rfl trivial (y_load_cells ty110 rfl (fun _ h => h.1) rfl c1_0 (Rp.len h1_0)) (sw0 []) ?_
  obtain ⟨u1_1, h1_1, c1_1⟩ := PAt.one hb0_1
  refine dt 1 3 rfl trivial (y_load_cells ty120 rfl (fun _ h => h.1) rfl c1_1 (Rp.len h1_1)) (sw0 []) ?_
  have h1_3 := Bk.at_b hb0_0
  refine dt 3 11 rfl trivial (y_fieldAddr fo110_0 rfl) (sw0 []) ?_
  have h1_4 := TunnelBook.at_Frames h1_3
  refine dt 4 27 rfl trivial (y_fieldAddr fo25_1 rfl) (sw0 []) ?_
  obtain ⟨v1_5, h1_5, c1_5⟩ := PAt.sl h1_4
  refine dt 5 59 rfl trivial (y_load_one ty23 rfl (fun _ h => h.1) rfl c1_5) (sw0 []) ?_
  have h1_6 := TunnelDrying.at_frame hb0_1
  refine dt 6 123 rfl trivial (y_fieldAddr fo120_0 rfl) (sw0 []) ?_
  refine dt 7 251 rfl trivial (y_load_int ty3 rfl (fun _ h => h.1) rfl h1_6) (sw0 []) ?_
  obtain ⟨b1_8, o1_8, c1_8, e1_8, h1_8⟩ := Sl.elemZ 3 rfl h1_5 q1_8
  refine dt 8 507 rfl trivial (y_index Tryd.underlying23 ty55 rfl e1_8 rfl (nth_in q1_8)) (sw0 []) ?_
  have h1_9 := TunnelFrame.at_Need h1_8
  refine dt 9 1019 rfl trivial (y_fieldAddr fo55_1 rfl) (sw0 []) ?_
  obtain ⟨u1_10, h1_10, c1_10⟩ := PAt.one h1_9
  refine dt 10 2043 rfl trivial (y_load_cells ty32 rfl (fun _ h => h.1) rfl c1_10 (Rp.len h1_10)) (sw0 []) ?_
  refine d_all (rs := [2, 11, 12]) (by kernel_rfl) rfl ⟨⟨_, rfl, ?_⟩, ⟨_, rfl, ?_⟩, ⟨_, rfl, ?_⟩, trivial⟩
  · refine e_callM (i := 0) (all := [.agg u1_0.toArray, .agg u1_1.toArray]) trivial rfl Tryd.func89 rfl rfl rfl rfl rfl rfl (fun w hw ho hn => ok_89 hw h1_0 h1_1 hg ho hn q1_2) ?_
    rintro _ H1_2 l1_2 ⟨rfl⟩
    have hb0_0 := PAt.mono l1_2 hb0_0
    have hb0_1 := PAt.mono l1_2 hb0_1
    have h1_0 := Rp.mono l1_2 h1_0
    have h1_1 := Rp.mono l1_2 h1_1
    have h1_3 := PAt.mono l1_2 h1_3
    have h1_4 := PAt.mono l1_2 h1_4
    have h1_5 := Sl.mono l1_2 h1_5
    have h1_6 := PAt.mono l1_2 h1_6
    have h1_8 := PAt.mono l1_2 h1_8
    have h1_9 := PAt.mono l1_2 h1_9
    have h1_10 := Rp.mono l1_2 h1_10
    have hg := Glob.mono l1_2 hg
    refine dn 2047 (swl l1_2 []) ?_
    exact d_edge hU1 (N1_6 H1_2 l1_2 u1_10 h1_10) ⟨rfl, rfl, trivial⟩ [0] (by decide) rfl (sw_sw l1_2 [] rfl)
  · refine e_alloc (cs := [.int .i64 0, .int .i64 0]) trivial rfl ty32 rfl ?_
    intro b1_11
    refine dn 4091 (sw0 []) ?_
    exact d_edge hU1 (N1_7 Hb0_0 (HLe.refl _) b1_11 u1_0 u1_1 u1_10 h1_0 h1_1 h1_10) ⟨rfl, rfl, rfl, rfl, trivial⟩ [1, 0] (by decide) rfl (fun _ h => h)
  refine e_alloc (cs := [.int .i64 0, .int .i64 0]) trivial rfl ty32 rfl ?_
  intro b1_12
  refine dn 6139 (sw0 []) ?_
  exact d_edge hU1 (N1_8 Hb0_0 (HLe.refl _) b1_12 u1_0 u1_1 u1_10 h1_0 h1_1 h1_10) ⟨rfl, rfl, rfl, rfl, trivial⟩ [1, 0] (by decide) rfl (fun _ h => h)

def tunnel_book_good_lj2 (k : Nat) (p0 : TunnelBook) (p1 : List Int) : Nat → (List Int) → Int → Option (List Int)
 | 0, _, _ => none
 | n_j2 + 1, yj2_5, yj2_14 =>
 bif decide (yj2_14 < (p0.Frames.length : Int)) then
 (tunnel_book_isDry k p0 (⟨yj2_14, p1⟩ : TunnelDrying)).bind fun x6_4 =>
 bif x6_4 then
 (app yj2_5 [yj2_14]).bind fun x7_3 =>
 tunnel_book_good_lj2 k p0 p1 n_j2 x7_3 (IntKind.i64.wrap (yj2_14 + 1))
 else
 tunnel_book_good_lj2 k p0 p1 n_j2 yj2_5 (IntKind.i64.wrap (yj2_14 + 1))
 else
 some (yj2_5)
def tunnel_book_good (k : Nat) (p0 : TunnelBook) (p1 : List Int) : Option (List Int) :=
 (tunnel_book_good_lj2 k p0 p1 k ([] : List Int) 0).bind fun yj1_5 =>
 (cut yj1_5 0 (yj1_5.length : Int)).bind fun x9_5 =>
 some (x9_5)
theorem ok_92 {k : Nat} {H : Hp} {w : World} {p0 : TunnelBook} {p1 : List Int} {M0 : Nat} {c0 : List Value} {c1 : List Value} {r : List Int} (hsub : Sub H w) (h0 : Rp.rep (α := Bk (some M0)) H c0 p0) (h1 : Rp.rep (α := Arr 4 Int) H c1 p1) (hg : Glob H) (hM : ∃ o, w.heap[M0]? = some o ∧ Memo p0 o) (hMn : H M0 = none) (hm : tunnel_book_good k p0 p1 = some r) : Calls Tryd.prog 92 [.agg c0.toArray, .agg c1.toArray].toArray w (PostM w H M0 (Memo p0) fun v H' => ∃ v0, v = v0 ∧ Sl (α := Int) H' v0 r) := by
  unfold tunnel_book_good at hm
  refine startM (n := 33) (E := [(0, .agg c0.toArray), (1, .agg c1.toArray)]) Tryd.func92 rfl rfl ⟨rfl, rfl, trivial⟩ rfl hsub hM hMn ?_
  refine a_seq (a_region rfl ?_)
  refine a_cons (e_box (cs := c0) trivial rfl rfl rfl ?_)
  intro b0_0
  refine a_cons (e_box (cs := c1) trivial rfl rfl rfl ?_)
  intro b0_1
  refine ap (y_assign rfl) ?_
  refine a_nil ?_
  refine a_freeze (α := Arr 4 Int) (x := p1) (i := 0) rfl h1 ?_
  intro Hb0_1 lb0_1 hb0_1
  have h0 := Rp.mono lb0_1 h0
  have h1 := Rp.mono lb0_1 h1
  have hg := Glob.mono lb0_1 hg
  refine a_freeze (α := Bk _) (x := p0) (i := 1) rfl h0 ?_
  intro Hb0_0 lb0_0 hb0_0
  have h0 := Rp.mono lb0_0 h0
  have h1 := Rp.mono lb0_0 h1
  have hb0_1 := PAt.mono lb0_0 hb0_1
  have hg := Glob.mono lb0_0 hg
  refine a_en [(2, .pointer (some ⟨b0_0, 0, none⟩)), (3, .pointer (some ⟨b0_1, 0, none⟩))] ?_
  refine a_own [2] (by decide) (L' := [.blk M0 (Memo p0)]) rfl ?_
  refine a_then (a_seq (a_region rfl ?_))
  refine ap (y_assign rfl) ?_
  refine a_nil (a_then (a_seq (a_region rfl ?_)))
  obtain ⟨u2_0, h2_0, c2_0⟩ := PAt.one hb0_0
  refine ap (y_load_cells ty110 rfl (fun _ h => h.sub) rfl c2_0 (Rp.len h2_0)) ?_
  refine ap (y_makeFunc rfl rfl) ?_
  refine ap (y_assign rfl) ?_
  refine a_nil ?_
  refine a_en [(2, .pointer (some ⟨b0_0, 0, none⟩)), (3, .pointer (some ⟨b0_1, 0, none⟩)), (5, .slice none 0 0), (6, .func (.func 104) #[.agg u2_0.toArray] #[])] ?_
  refine a_then (a_seq (a_seq (a_region rfl ?_)))
  have h3_0 := Bk.at_b hb0_0
  refine ap (y_fieldAddr fo110_0 rfl) ?_
  have h3_1 := TunnelBook.at_Frames h3_0
  refine ap (y_fieldAddr fo25_1 rfl) ?_
  obtain ⟨v3_2, h3_2, c3_2⟩ := PAt.sl h3_1
  refine ap (y_load_one ty23 rfl (fun _ h => h.sub) rfl c3_2) ?_
  refine ap (y_len_sl Tryd.underlying23 rfl h3_2) ?_
  refine ap (y_move rfl) ?_
  refine a_nil ?_
  refine a_en [(3, .pointer (some ⟨b0_1, 0, none⟩)), (5, .slice none 0 0), (6, .func (.func 104) #[.agg u2_0.toArray] #[]), (13, .int .i64 (p0.Frames.length : Int)), (14, .int .i64 0)] ?_
  refine a_then ?_
  obtain ⟨s_j1, hs_j1, hm_j1⟩ := bind_some hm
  refine a_join (fun a_ w_ => ∃ (Hj1 : Hp), ∃ (_ : HLe Hb0_0 Hj1), ∃ (yj1_5 : List Int), ∃ (vj1_5 : Value), ∃ (uj1_5 : List Value), yj1_5 = s_j1 ∧ RepL (α := Int) Hj1 uj1_5 yj1_5 ∧ Ag 33 [] [(5, vj1_5)] a_ ∧ St (Kp.mk w H (· = M0)) Hj1 [.blk M0 (Memo p0), .row vj1_5 uj1_5 3 1] w_) ?_ ?_
  · have hm := hs_j1
    refine a_block ?_
    refine a_loop (fun n_j2 a_ w_ => ∃ (Hj2 : Hp), ∃ (_ : HLe Hb0_0 Hj2), ∃ (yj2_5 : List Int), ∃ (yj2_14 : Int), ∃ (vj2_5 : Value), ∃ (uj2_5 : List Value), tunnel_book_good_lj2 k p0 p1 n_j2 yj2_5 yj2_14 = some s_j1 ∧ RepL (α := Int) Hj2 uj2_5 yj2_5 ∧ Ag 33 [] [(3, .pointer (some ⟨b0_1, 0, none⟩)), (5, vj2_5), (6, .func (.func 104) #[.agg u2_0.toArray] #[]), (13, .int .i64 (p0.Frames.length : Int)), (14, .int .i64 yj2_14)] a_ ∧ St (Kp.mk w H (· = M0)) Hj2 [.blk M0 (Memo p0), .row vj2_5 uj2_5 3 1] w_) k ?_ ?_
    · refine a_nilrow (x := none) (T := 3) (sz := 1) ?_
      have hzrj2_5 : RepL (α := Int) Hb0_0 [] [] := RepL.nil
      intro a_ w_ ha_ hs_
      exact ⟨Hb0_0, (HLe.refl _), ([] : List Int), 0, .slice none 0 0, [], hm, hzrj2_5, ha_.weaken ⟨rfl, rfl, rfl, rfl, rfl, trivial⟩, hs_.reix [1, 0] (by decide)⟩
    rintro (_ | n_j2) a_ w_ ⟨Hj2, lj2, yj2_5, yj2_14, vj2_5, uj2_5, hm, hj2_5, ha_, hs_⟩
    · rw [tunnel_book_good_lj2.eq_1] at hm; cases hm
    rw [tunnel_book_good_lj2.eq_2] at hm
    refine a_start ha_ hs_ ?_
    have hb0_1 := PAt.mono lj2 hb0_1
    have h2_0 := Rp.mono lj2 h2_0
    have hg := Glob.mono lj2 hg
    refine a_seq (a_region rfl ?_)
    refine ap (y_lss rfl rfl) ?_
    refine a_nil (a_then (a_seq ?_))
    refine a_cond rfl (fun k_3 => ?_) (fun k_3 => ?_)
    · have hm := cond_t k_3 hm
      refine a_skip (a_then (a_seq (a_block (a_seq (a_region rfl ?_)))))
      refine ap (y_move rfl) ?_
      refine ap (y_assign rfl) ?_
      refine a_nil ?_
      refine a_en [(3, .pointer (some ⟨b0_1, 0, none⟩)), (5, vj2_5), (6, .func (.func 104) #[.agg u2_0.toArray] #[]), (7, .int .i64 yj2_14), (13, .int .i64 (p0.Frames.length : Int)), (14, .int .i64 yj2_14)] ?_
      refine a_then (a_seq (a_region rfl ?_))
      refine ap (y_move rfl) ?_
      refine ap (y_move rfl) ?_
      obtain ⟨u6_2, h6_2, c6_2⟩ := PAt.one hb0_1
      refine ap (y_load_cells ty111 rfl (fun _ h => h.sub) rfl c6_2 (Rp.len h6_2)) ?_
      have m6_3 : Rp.rep Hj2 ([Value.int .i64 yj2_14] ++ (u6_2)) (⟨yj2_14, p1⟩ : TunnelDrying) := ⟨_, _, rfl, rfl, h6_2⟩
      refine ap (y_build (pl := [(0, 1), (1, 4)]) (xs := [.tmp 18, .tmp 19]) (cs := [Value.int .i64 yj2_14] ++ (u6_2)) ty120 (.cons ⟨rfl, ty3.szOf⟩ (.cons ⟨rfl, ty111.szOf⟩ (All2.nil))) rfl rfl ⟨_, rfl, rfl, ⟨_, by show List.length _ = _; exact Rp.len h6_2, rfl, trivial⟩⟩ (by rw [Rp.len m6_3]; rfl) (by simp [Value.cells])) ?_
      obtain ⟨x6_4, q6_4, hm⟩ := bind_some hm
      refine a_cons (e_callM (i := 0) (all := [.agg u2_0.toArray, .agg ([Value.int .i64 yj2_14] ++ (u6_2)).toArray]) trivial rfl Tryd.func104 rfl rfl rfl rfl rfl rfl (fun w hw ho hn => ok_104 hw h2_0 m6_3 hg ho hn q6_4) ?_)
      rintro _ H6_4 l6_4 ⟨rfl⟩
      have hb0_1 := PAt.mono l6_4 hb0_1
      have h2_0 := Rp.mono l6_4 h2_0
      have h6_2 := Rp.mono l6_4 h6_2
      have m6_3 := Rp.mono l6_4 m6_3
      have hj2_5 := RepL.mono l6_4 hj2_5
      have hg := Glob.mono l6_4 hg
      refine a_nil ?_
      refine a_en [(3, .pointer (some ⟨b0_1, 0, none⟩)), (5, vj2_5), (6, .func (.func 104) #[.agg u2_0.toArray] #[]), (7, .int .i64 yj2_14), (13, .int .i64 (p0.Frames.length : Int)), (14, .int .i64 yj2_14), (21, .bool x6_4)] ?_
      refine a_then ?_
      refine a_cond rfl (fun k_4 => ?_) (fun k_4 => ?_)
      · have hm := cond_t k_4 hm
        refine a_region rfl ?_
        refine ap (y_move rfl) ?_
        refine ap (y_move rfl) ?_
        refine a_cons (e_buildSlice (xs := [.tmp 23]) (cs := [.int .i64 yj2_14]) trivial rfl Tryd.underlying26 ty3 rfl rfl rfl (by simp [Value.cells]) rfl (rfl) ?_)
        intro v7_2
        have h7_2 : RepL (α := Int) H6_4 ([.int .i64 yj2_14]) [yj2_14] := (RepL.cons (α := Int) (c := [.int .i64 yj2_14]) rfl (RepL.nil (α := Int)))
        obtain ⟨x7_3, q7_3, hm⟩ := bind_some hm
        refine a_cons (e_app_row (i := 2) (j := 0) trivial rfl Tryd.underlying26 Tryd.underlying26 ty3 rfl rfl rfl rfl rfl rfl rfl rfl hj2_5 rfl h7_2 q7_3 ?_)
        intro v7_3 u7_3 h7_3
        refine ap (y_assign rfl) ?_
        refine a_nil ?_
        refine a_en [(3, .pointer (some ⟨b0_1, 0, none⟩)), (5, v7_3), (6, .func (.func 104) #[.agg u2_0.toArray] #[]), (13, .int .i64 (p0.Frames.length : Int)), (14, .int .i64 yj2_14)] ?_
        refine a_own [1, 2] (by decide) (L' := [.blk M0 (Memo p0), .row v7_3 u7_3 3 1]) rfl ?_
        refine a_block_normal (a_then (a_region rfl ?_))
        refine ap (y_add rfl rfl) ?_
        refine ap (y_move rfl) ?_
        refine a_nil ?_
        refine a_en [(3, .pointer (some ⟨b0_1, 0, none⟩)), (5, v7_3), (6, .func (.func 104) #[.agg u2_0.toArray] #[]), (13, .int .i64 (p0.Frames.length : Int)), (14, .int .i64 (IntKind.i64.wrap (yj2_14 + 1)))] ?_
        refine a_then ?_
        intro a_ w_ ha_ hs_
        exact ⟨n_j2, Nat.lt_succ_self _, H6_4, (lj2.trans l6_4), x7_3, IntKind.i64.wrap (yj2_14 + 1), v7_3, u7_3, hm, h7_3, ha_.weaken ⟨rfl, rfl, rfl, rfl, rfl, trivial⟩, hs_.reix [0, 1] (by decide)⟩
      have hm := cond_f k_4 hm
      refine a_skip (a_block_normal (a_then (a_region rfl ?_)))
      refine ap (y_add rfl rfl) ?_
      refine ap (y_move rfl) ?_
      refine a_nil ?_
      refine a_en [(3, .pointer (some ⟨b0_1, 0, none⟩)), (5, vj2_5), (6, .func (.func 104) #[.agg u2_0.toArray] #[]), (13, .int .i64 (p0.Frames.length : Int)), (14, .int .i64 (IntKind.i64.wrap (yj2_14 + 1)))] ?_
      refine a_then ?_
      intro a_ w_ ha_ hs_
      exact ⟨n_j2, Nat.lt_succ_self _, H6_4, (lj2.trans l6_4), yj2_5, IntKind.i64.wrap (yj2_14 + 1), vj2_5, uj2_5, hm, hj2_5, ha_.weaken ⟨rfl, rfl, rfl, rfl, rfl, trivial⟩, hs_.reix [0, 1] (by decide)⟩
    have hm := cond_f k_3 hm
    refine a_exit (a_then_exit (a_then_exit (a_block_hit (a_cut ?_))))
    intro a_ w_ ha_ hs_
    exact ⟨Hj2, lj2, yj2_5, vj2_5, uj2_5, Option.some.inj hm, hj2_5, ha_.weaken ⟨rfl, trivial⟩, hs_.reix [0, 1] (by decide)⟩
  have hm := hm_j1
  rintro a_ w_ ⟨Hj1, lj1, yj1_5, vj1_5, uj1_5, rfl, hj1_5, ha_, hs_⟩
  try dsimp only at hm
  refine a_start ha_ hs_ ?_
  have hg := Glob.mono lj1 hg
  refine a_then (a_seq (a_region rfl ?_))
  refine ap (y_move rfl) ?_
  refine ap (y_move rfl) ?_
  refine ap (y_len_rowZ (i := 1) Tryd.underlying26 rfl rfl rfl hj1_5 rfl) ?_
  refine ap (y_move rfl) ?_
  refine ap (y_len_rowZ (i := 1) Tryd.underlying26 rfl rfl rfl hj1_5 rfl) ?_
  refine a_frow (i := 1) rfl rfl hj1_5 rfl ?_
  intro H9_5f l9_5f h9_5f
  have hg := Glob.mono l9_5f hg
  obtain ⟨x9_5, q9_5, hm⟩ := bind_some hm
  obtain ⟨v9_5, h9_5, r9_5⟩ := Sl.cut (k := .i64) (lo := none) (hi := (some (yj1_5.length : Int))) (mx := (some (yj1_5.length : Int))) h9_5f Tryd.underlying26 ty3 (fun _ => rfl) q9_5 (fun _ h => by cases h; exact ⟨Int.le_refl _, Int.le_refl _⟩)
  refine ap (y_slice (vlo := none) (vhi := (some (.int .i64 (yj1_5.length : Int)))) (vmx := (some (.int .i64 (yj1_5.length : Int)))) rfl rfl rfl rfl r9_5) ?_
  refine ap (y_assign rfl) ?_
  refine a_nil ?_
  refine a_en [(4, v9_5)] ?_
  refine a_own [0] (by decide) (L' := [.blk M0 (Memo p0)]) rfl ?_
  refine a_then (a_ret ?_)
  obtain rfl := Option.some.inj hm
  exact a_doneM (i := 0) (v := v9_5) (.inl rfl) rfl rfl (fun a_ w_ ha_ hs_ => run_results (P := Tryd.prog) (fn := Tryd.f92) (rs := [.tmp 4]) (vs := [v9_5]) rfl (.cons (rv_tmp ha_ rfl) (All2.nil))) ⟨v9_5, rfl, h9_5⟩

def tunnel_book_heat_lj2 (k : Nat) (p0 : TunnelBook) (p1 : List Int) : Nat → (List Int) → Int → Option (List Int)
 | 0, _, _ => none
 | n_j2 + 1, yj2_5, yj2_12 =>
 bif decide (yj2_12 < (p0.Parts.length : Int)) then
 (nth p0.Parts yj2_12).bind fun x4_1 =>
 (nth p1 yj2_12).bind fun x5_2 =>
 (nth x4_1.Heat x5_2).bind fun x5_5 =>
 (app yj2_5 [x5_5]).bind fun x5_8 =>
 tunnel_book_heat_lj2 k p0 p1 n_j2 x5_8 (IntKind.i64.wrap (yj2_12 + 1))
 else
 some (yj2_5)
def tunnel_book_heat (k : Nat) (p0 : TunnelBook) (p1 : List Int) : Option Int :=
 (tunnel_book_heat_lj2 k p0 p1 k ([] : List Int) 0).bind fun yj1_5 =>
 (tunnel_sum_int k yj1_5).bind fun x7_1 =>
 some (x7_1)
theorem ok_81 {k : Nat} {H : Hp} {w : World} {p0 : TunnelBook} {p1 : List Int} {m0 : Option Nat} {c0 : List Value} {c1 : List Value} {r : Int} (hsub : Sub H w) (h0 : Rp.rep (α := Bk m0) H c0 p0) (h1 : Rp.rep (α := Arr 4 Int) H c1 p1) (hm : tunnel_book_heat k p0 p1 = some r) : Calls Tryd.prog 81 [.agg c0.toArray, .agg c1.toArray].toArray w (PostV w H (.int .i64 r)) := by
  unfold tunnel_book_heat at hm
  refine start (n := 29) (E := [(0, .agg c0.toArray), (1, .agg c1.toArray)]) Tryd.func81 rfl rfl ⟨rfl, rfl, trivial⟩ rfl hsub ?_
  refine a_seq (a_region rfl ?_)
  refine a_cons (e_box (cs := c0) trivial rfl rfl rfl ?_)
  intro b0_0
  refine a_cons (e_box (cs := c1) trivial rfl rfl rfl ?_)
  intro b0_1
  refine ap (y_assign rfl) ?_
  refine a_nil ?_
  refine a_freeze (α := Arr 4 Int) (x := p1) (i := 0) rfl h1 ?_
  intro Hb0_1 lb0_1 hb0_1
  have h0 := Rp.mono lb0_1 h0
  have h1 := Rp.mono lb0_1 h1
  refine a_freeze (α := Bk _) (x := p0) (i := 1) rfl h0 ?_
  intro Hb0_0 lb0_0 hb0_0
  have h0 := Rp.mono lb0_0 h0
  have h1 := Rp.mono lb0_0 h1
  have hb0_1 := PAt.mono lb0_0 hb0_1
  refine a_en [(2, .pointer (some ⟨b0_0, 0, none⟩)), (3, .pointer (some ⟨b0_1, 0, none⟩))] ?_
  refine a_own [] (by decide) (L' := []) rfl ?_
  refine a_then (a_seq (a_region rfl ?_))
  refine ap (y_assign rfl) ?_
  refine a_nil (a_then (a_seq (a_seq (a_region rfl ?_))))
  have h2_0 := Bk.at_b hb0_0
  refine ap (y_fieldAddr fo110_0 rfl) ?_
  have h2_1 := TunnelBook.at_Parts h2_0
  refine ap (y_fieldAddr fo25_0 rfl) ?_
  obtain ⟨v2_2, h2_2, c2_2⟩ := PAt.sl h2_1
  refine ap (y_load_one ty22 rfl (fun _ h => h.sub) rfl c2_2) ?_
  refine ap (y_len_sl Tryd.underlying22 rfl h2_2) ?_
  refine ap (y_move rfl) ?_
  refine a_nil ?_
  refine a_en [(3, .pointer (some ⟨b0_1, 0, none⟩)), (5, .slice none 0 0), (10, v2_2), (11, .int .i64 (p0.Parts.length : Int)), (12, .int .i64 0)] ?_
  refine a_then ?_
  obtain ⟨s_j1, hs_j1, hm_j1⟩ := bind_some hm
  refine a_join (fun a_ w_ => ∃ (Hj1 : Hp), ∃ (_ : HLe Hb0_0 Hj1), ∃ (yj1_5 : List Int), ∃ (vj1_5 : Value), ∃ (uj1_5 : List Value), yj1_5 = s_j1 ∧ RepL (α := Int) Hj1 uj1_5 yj1_5 ∧ Ag 29 [] [(5, vj1_5)] a_ ∧ St (Kp.mk w H noX) Hj1 [.row vj1_5 uj1_5 3 1] w_) ?_ ?_
  · have hm := hs_j1
    refine a_block ?_
    refine a_loop (fun n_j2 a_ w_ => ∃ (Hj2 : Hp), ∃ (_ : HLe Hb0_0 Hj2), ∃ (yj2_5 : List Int), ∃ (yj2_12 : Int), ∃ (vj2_5 : Value), ∃ (uj2_5 : List Value), tunnel_book_heat_lj2 k p0 p1 n_j2 yj2_5 yj2_12 = some s_j1 ∧ RepL (α := Int) Hj2 uj2_5 yj2_5 ∧ Ag 29 [] [(3, .pointer (some ⟨b0_1, 0, none⟩)), (5, vj2_5), (10, v2_2), (11, .int .i64 (p0.Parts.length : Int)), (12, .int .i64 yj2_12)] a_ ∧ St (Kp.mk w H noX) Hj2 [.row vj2_5 uj2_5 3 1] w_) k ?_ ?_
    · refine a_nilrow (x := none) (T := 3) (sz := 1) ?_
      have hzrj2_5 : RepL (α := Int) Hb0_0 [] [] := RepL.nil
      intro a_ w_ ha_ hs_
      exact ⟨Hb0_0, (HLe.refl _), ([] : List Int), 0, .slice none 0 0, [], hm, hzrj2_5, ha_.weaken ⟨rfl, rfl, rfl, rfl, rfl, trivial⟩, hs_.reix [0] (by decide)⟩
    rintro (_ | n_j2) a_ w_ ⟨Hj2, lj2, yj2_5, yj2_12, vj2_5, uj2_5, hm, hj2_5, ha_, hs_⟩
    · rw [tunnel_book_heat_lj2.eq_1] at hm; cases hm
    rw [tunnel_book_heat_lj2.eq_2] at hm
    refine a_start ha_ hs_ ?_
    have hb0_1 := PAt.mono lj2 hb0_1
    have h2_2 := Sl.mono lj2 h2_2
    refine a_seq (a_region rfl ?_)
    refine ap (y_lss rfl rfl) ?_
    refine a_nil (a_then (a_seq ?_))
    refine a_cond rfl (fun k_3 => ?_) (fun k_3 => ?_)
    · have hm := cond_t k_3 hm
      refine a_skip (a_then (a_seq (a_block (a_seq (a_region rfl ?_)))))
      refine ap (y_move rfl) ?_
      obtain ⟨x4_1, q4_1, hm⟩ := bind_some hm
      obtain ⟨b4_1, o4_1, c4_1, e4_1, h4_1⟩ := Sl.elemZ 6 rfl h2_2 q4_1
      refine ap (y_index Tryd.underlying22 ty64 rfl e4_1 rfl (nth_in q4_1)) ?_
      obtain ⟨u4_2, h4_2, c4_2⟩ := PAt.one h4_1
      refine ap (y_load_cells ty64 rfl (fun _ h => h.sub) rfl c4_2 (Rp.len h4_2)) ?_
      refine a_cons (e_alloc (cs := [.int .i64 0, .int .i64 0, .int .i64 0, .int .i64 0, .int .i64 0, .int .i64 0]) trivial rfl ty64 rfl ?_)
      intro b4_3
      have mz4_3 : Rp.rep (α := TunnelPart) Hj2 [.int .i64 0, .int .i64 0, .int .i64 0, .int .i64 0, .int .i64 0, .int .i64 0] (⟨[0, 0, 0, 0], ⟨0, 0⟩⟩ : TunnelPart) := ⟨_, _, rfl, ⟨(RepL.cons (c := [_]) rfl (RepL.cons (c := [_]) rfl (RepL.cons (c := [_]) rfl (RepL.cons (c := [_]) rfl RepL.nil)))), rfl⟩, ⟨_, _, rfl, rfl, rfl⟩⟩
      refine ap (y_assign rfl) ?_
      refine a_cons (e_storeWhole (i := 0) (ds := u4_2) trivial ty64 rfl rfl rfl rfl (Rp.len h4_2) ((Rp.one h4_2)) rfl ?_)
      refine a_nil ?_
      refine a_freeze (α := TunnelPart) (x := x4_1) (i := 0) rfl h4_2 ?_
      intro Hb4_3 lb4_3 hb4_3
      have hb0_1 := PAt.mono lb4_3 hb0_1
      have h2_2 := Sl.mono lb4_3 h2_2
      have h4_1 := PAt.mono lb4_3 h4_1
      have h4_2 := Rp.mono lb4_3 h4_2
      have hj2_5 := RepL.mono lb4_3 hj2_5
      refine a_en [(3, .pointer (some ⟨b0_1, 0, none⟩)), (5, vj2_5), (6, .int .i64 yj2_12), (7, .pointer (some ⟨b4_3, 0, none⟩)), (10, v2_2), (11, .int .i64 (p0.Parts.length : Int)), (12, .int .i64 yj2_12)] ?_
      refine a_own [1] (by decide) (L' := [.row vj2_5 uj2_5 3 1]) rfl ?_
      refine a_then (a_region rfl ?_)
      refine ap (y_move rfl) ?_
      refine ap (y_move rfl) ?_
      obtain ⟨x5_2, q5_2, hm⟩ := bind_some hm
      have h5_2 := PAt.arrZ 1 rfl hb0_1 q5_2
      have k5_2 := PAt.arrIn hb0_1 q5_2
      refine ap (y_index_arrp Tryd.underlying111 ty3 rfl rfl k5_2) ?_
      refine ap (y_load_int ty3 rfl (fun _ h => h.sub) rfl h5_2) ?_
      have h5_4 := TunnelPart.at_Heat hb4_3
      refine ap (y_fieldAddr fo64_0 rfl) ?_
      obtain ⟨x5_5, q5_5, hm⟩ := bind_some hm
      have h5_5 := PAt.arrZ 1 rfl h5_4 q5_5
      have k5_5 := PAt.arrIn h5_4 q5_5
      refine ap (y_index_arrp Tryd.underlying62 ty3 rfl rfl k5_5) ?_
      refine ap (y_load_int ty3 rfl (fun _ h => h.sub) rfl h5_5) ?_
      refine a_cons (e_buildSlice (xs := [.tmp 23]) (cs := [.int .i64 x5_5]) trivial rfl Tryd.underlying26 ty3 rfl rfl rfl (by simp [Value.cells]) rfl (rfl) ?_)
      intro v5_7
      have h5_7 : RepL (α := Int) Hb4_3 ([.int .i64 x5_5]) [x5_5] := (RepL.cons (α := Int) (c := [.int .i64 x5_5]) rfl (RepL.nil (α := Int)))
      obtain ⟨x5_8, q5_8, hm⟩ := bind_some hm
      refine a_cons (e_app_row (i := 1) (j := 0) trivial rfl Tryd.underlying26 Tryd.underlying26 ty3 rfl rfl rfl rfl rfl rfl rfl rfl hj2_5 rfl h5_7 q5_8 ?_)
      intro v5_8 u5_8 h5_8
      refine ap (y_assign rfl) ?_
      refine a_nil ?_
      refine a_en [(3, .pointer (some ⟨b0_1, 0, none⟩)), (5, v5_8), (10, v2_2), (11, .int .i64 (p0.Parts.length : Int)), (12, .int .i64 yj2_12)] ?_
      refine a_own [1] (by decide) (L' := [.row v5_8 u5_8 3 1]) rfl ?_
      refine a_block_normal (a_then (a_region rfl ?_))
      refine ap (y_add rfl rfl) ?_
      refine ap (y_move rfl) ?_
      refine a_nil ?_
      refine a_en [(3, .pointer (some ⟨b0_1, 0, none⟩)), (5, v5_8), (10, v2_2), (11, .int .i64 (p0.Parts.length : Int)), (12, .int .i64 (IntKind.i64.wrap (yj2_12 + 1)))] ?_
      refine a_then ?_
      intro a_ w_ ha_ hs_
      exact ⟨n_j2, Nat.lt_succ_self _, Hb4_3, (lj2.trans lb4_3), x5_8, IntKind.i64.wrap (yj2_12 + 1), v5_8, u5_8, hm, h5_8, ha_.weaken ⟨rfl, rfl, rfl, rfl, rfl, trivial⟩, hs_.reix [0] (by decide)⟩
    have hm := cond_f k_3 hm
    refine a_exit (a_then_exit (a_then_exit (a_block_hit (a_cut ?_))))
    intro a_ w_ ha_ hs_
    exact ⟨Hj2, lj2, yj2_5, vj2_5, uj2_5, Option.some.inj hm, hj2_5, ha_.weaken ⟨rfl, trivial⟩, hs_.reix [0] (by decide)⟩
  have hm := hm_j1
  rintro a_ w_ ⟨Hj1, lj1, yj1_5, vj1_5, uj1_5, rfl, hj1_5, ha_, hs_⟩
  try dsimp only at hm
  refine a_start ha_ hs_ ?_
  refine a_then (a_seq (a_region rfl ?_))
  refine ap (y_move rfl) ?_
  refine a_frow (i := 0) rfl rfl hj1_5 rfl ?_
  intro H7_1g0f l7_1g0f h7_1g0f
  obtain ⟨x7_1, q7_1, hm⟩ := bind_some hm
  refine a_cons (e_callV (all := [vj1_5]) (v := .int .i64 x7_1) trivial rfl Tryd.func153 rfl rfl rfl rfl rfl (fun w hw => ok_153 hw h7_1g0f q7_1) ?_)
  refine ap (y_assign rfl) ?_
  refine a_nil ?_
  refine a_en [(4, .int .i64 x7_1)] ?_
  refine a_own [] (by decide) (L' := []) rfl ?_
  refine a_then (a_ret ?_)
  refine a_done (v := .int .i64 x7_1) (.inl rfl) rfl ?_ ?_
  · intro a_ w_ ha_ hs_; exact run_results (P := Tryd.prog) (fn := Tryd.f81) (rs := [.tmp 4]) (vs := [.int .i64 x7_1]) rfl (.cons (rv_tmp ha_ rfl) (All2.nil))
  · intro _ _; obtain rfl := Option.some.inj hm
    rfl
end Go.Lu
