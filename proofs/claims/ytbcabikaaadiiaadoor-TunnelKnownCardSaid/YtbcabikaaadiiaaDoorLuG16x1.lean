/- Of each further function that the law TunnelKnown reaches, part 1: what it computes, and the walk that shows it. -/
import Derived.Test.YtbcabikaaadiiaaDoorLuW3
namespace Go.Lu
open Go Go.Proofs
set_option linter.unusedVariables false
set_option maxRecDepth 100000
set_option maxHeartbeats 8000000
def law03_TunnelKnown_lj2 (k : Nat) (xf0_0y : List TunnelBook) : Nat → Int → Option (Sum Bool Unit)
 | 0, _ => none
 | n_j2 + 1, yj2_2 =>
 bif decide (yj2_2 < (xf0_0y.length : Int)) then
 (nth xf0_0y yj2_2).bind fun x15_2 =>
 (tunnel_Heat k x15_2 []).bind fun x15_4 =>
 (nth xf0_0y yj2_2).bind fun x16_2 =>
 (tunnel_Dries k x16_2 [] (-1)).bind fun x16_4 =>
 (nth xf0_0y yj2_2).bind fun x17_2 =>
 (tunnel_Kind k x17_2 [] (-1)).bind fun x17_4 =>
 (nth xf0_0y yj2_2).bind fun x18_2 =>
 (tunnel_Good k x18_2 []).bind fun x18_4 =>
 (nth xf0_0y yj2_2).bind fun x19_2 =>
 (tunnel_Best k x19_2).bind fun x19_4 =>
 (nth xf0_0y yj2_2).bind fun x20_2 =>
 (tunnel_Most k x20_2).bind fun x20_4 =>
 (nth xf0_0y yj2_2).bind fun x21_2 =>
 (tunnel_Lost k x21_2).bind fun x21_4 =>
 (nth xf0_0y yj2_2).bind fun x22_2 =>
 (tunnel_Clash k x22_2).bind fun x22_4 =>
 (nth xf0_0y yj2_2).bind fun x23_2 =>
 (tunnel_Longer k x23_2 [] (-1) (-1)).bind fun x23_4 =>
 (nth xf0_0y yj2_2).bind fun x24_2 =>
 (tunnel_Ask k x24_2).bind fun x24_4 =>
 (nth xf0_0y yj2_2).bind fun x25_2 =>
 (tunnel_Check k x25_2).bind fun x25_4 =>
 bif (bif (bif (bif (bif (bif (bif (bif (bif (bif (bif x25_4 != 30 then true else x15_4.2 != 30) then true else x16_4.2 != 30) then true else x17_4.2 != 30) then true else x18_4.2 != 30) then true else x19_4.2 != 30) then true else x20_4.2.2 != 30) then true else x21_4.2 != 30) then true else x22_4.2.2 != 30) then true else x23_4.2 != 30) then true else x24_4.2 != 30) then
 some (Sum.inl false)
 else
 law03_TunnelKnown_lj2 k xf0_0y n_j2 (IntKind.i64.wrap (yj2_2 + 1))
 else
 some (Sum.inr ())
def law03_TunnelKnown_lj6 (k : Nat)  : Nat → Int → Option (Sum Bool Unit)
 | 0, _ => none
 | n_j6 + 1, yj6_26 =>
 bif decide (yj6_26 < (((([[], [2], [2, 2, 2], [4, 0], [0, (-1)]] : List (List Int))).length : Int))) then
 (law03_book k).bind fun x31_0 =>
 (nth (([[], [2], [2, 2, 2], [4, 0], [0, (-1)]] : List (List Int))) yj6_26).bind fun x31_3 =>
 (tunnel_Heat k (⟨x31_0.Parts, x31_0.Frames⟩ : TunnelBook) x31_3).bind fun x31_5 =>
 (law03_book k).bind fun x32_0 =>
 (nth (([[], [2], [2, 2, 2], [4, 0], [0, (-1)]] : List (List Int))) yj6_26).bind fun x32_3 =>
 (tunnel_Dries k (⟨x32_0.Parts, x32_0.Frames⟩ : TunnelBook) x32_3 0).bind fun x32_5 =>
 (law03_book k).bind fun x33_0 =>
 (nth (([[], [2], [2, 2, 2], [4, 0], [0, (-1)]] : List (List Int))) yj6_26).bind fun x33_3 =>
 (tunnel_Kind k (⟨x33_0.Parts, x33_0.Frames⟩ : TunnelBook) x33_3 0).bind fun x33_5 =>
 (law03_book k).bind fun x34_0 =>
 (nth (([[], [2], [2, 2, 2], [4, 0], [0, (-1)]] : List (List Int))) yj6_26).bind fun x34_3 =>
 (tunnel_Good k (⟨x34_0.Parts, x34_0.Frames⟩ : TunnelBook) x34_3).bind fun x34_5 =>
 (law03_book k).bind fun x35_0 =>
 (nth (([[], [2], [2, 2, 2], [4, 0], [0, (-1)]] : List (List Int))) yj6_26).bind fun x35_3 =>
 (tunnel_Longer k (⟨x35_0.Parts, x35_0.Frames⟩ : TunnelBook) x35_3 0 0).bind fun x35_5 =>
 bif (bif (bif (bif (bif x31_5.2 != 31 then true else x32_5.2 != 31) then true else x33_5.2 != 31) then true else x34_5.2 != 31) then true else x35_5.2 != 31) then
 some (Sum.inl false)
 else
 law03_TunnelKnown_lj6 k n_j6 (IntKind.i64.wrap (yj6_26 + 1))
 else
 some (Sum.inr ())
def law03_TunnelKnown_p3 (k : Nat) (x39_2 : Span × Int) (x40_2 : Int × Int) (x41_2 : Int × Int) (x42_2 : Int × Int) (x43_2 : Int × Int) (x44_1 : (List Int) × Int) (x45_1 : (List Int) × Int) (x46_1 : Int × Int × Int) (x47_1 : Int × Int × Int) : Option Bool :=
 (law03_book k).bind fun x50_0 =>
 (tunnel_Dries k (⟨x50_0.Parts, x50_0.Frames⟩ : TunnelBook) [2, 2] 0).bind fun x50_2 =>
 (law03_book k).bind fun x51_0 =>
 (tunnel_Dries k (⟨x51_0.Parts, x51_0.Frames⟩ : TunnelBook) [2, 2] 1).bind fun x51_2 =>
 (law03_book k).bind fun x52_0 =>
 (tunnel_Kind k (⟨x52_0.Parts, x52_0.Frames⟩ : TunnelBook) [1, 2] 2).bind fun x52_2 =>
 (law03_book k).bind fun x53_0 =>
 (tunnel_Kind k (⟨x53_0.Parts, x53_0.Frames⟩ : TunnelBook) [2, 2] 0).bind fun x53_2 =>
 (law03_book k).bind fun x54_0 =>
 (tunnel_Good k (⟨x54_0.Parts, x54_0.Frames⟩ : TunnelBook) [2, 2]).bind fun x54_2 =>
 (law03_book k).bind fun x55_0 =>
 (tunnel_Most k (⟨x55_0.Parts, x55_0.Frames⟩ : TunnelBook)).bind fun x55_1 =>
 (law03_book k).bind fun x56_0 =>
 (tunnel_Longer k (⟨x56_0.Parts, x56_0.Frames⟩ : TunnelBook) [2, 2] 0 0).bind fun x56_2 =>
 (law03_book k).bind fun x57_0 =>
 (tunnel_Ask k (⟨x57_0.Parts, x57_0.Frames⟩ : TunnelBook)).bind fun x57_1 =>
 (law03_book k).bind fun x58_0 =>
 (tunnel_Lost k (⟨x58_0.Parts, x58_0.Frames⟩ : TunnelBook)).bind fun x58_1 =>
 ((ref00_Sp k 36 45).bind fun x59_4 =>
 (ref00_Sp k 36 45).bind fun x59_13 =>
 bif (bif (bif (bif (bif (bif (bif (bif (bif x50_2.2 == 0 then decide (x50_2.1 = x59_4) else false) then x51_2.2 == 0 else false) then decide (x51_2.1 = x59_13) else false) then x52_2.2 == 0 else false) then x52_2.1 == 1 else false) then x53_2.2 == 0 else false) then x53_2.1 == 0 else false) then x54_2.2 == 0 else false) then
 (ref00_Alike k x54_2.1 [0, 1, 2]).bind fun x59_39 =>
 bif (bif x59_39 then x55_1.2.2 == 0 else false) then
 (ref00_Alike k x55_1.1 [2, 2]).bind fun x59_48 =>
 bif x59_48 then
 (ref00_Alike k x55_1.2.1 [0, 1, 2]).bind fun x59_53 =>
 bif (bif (bif (bif (bif (bif x59_53 then x56_2.2 == 0 else false) then x56_2.1 == 0 else false) then x57_1.2 == 0 else false) then x57_1.1 == 0 else false) then x58_1.2 == 0 else false) then
 bif (bif (x58_1.1.length : Int) == 0 then true else false) then
 (law03_warmed k).bind fun x59_83 =>
 some (x59_83)
 else
 some (false)
 else
 some (false)
 else
 some (false)
 else
 some (false)
 else
 some (false)).bind fun yj10_0 =>
 some (yj10_0)
theorem ok_16_p3 {k : Nat} {H : Hp} {w : World} {r : Bool} {H47_0 : Hp} {x39_2 : Span × Int} {x40_2 : Int × Int} {x41_2 : Int × Int} {x42_2 : Int × Int} {x43_2 : Int × Int} {x44_1 : (List Int) × Int} {x45_1 : (List Int) × Int} {x46_1 : Int × Int × Int} {x47_1 : Int × Int × Int} {v38_0 : Value} (hle_ : HLe H H47_0) (hg : Glob H47_0) (h39_2q2f : Sl (α := Int) H47_0 v38_0 [2, 2]) (hm : law03_TunnelKnown_p3 k x39_2 x40_2 x41_2 x42_2 x43_2 x44_1 x45_1 x46_1 x47_1 = some r) : At 576 [] (Kp.mk w H noX) [(37, v38_0), (438, .bool (bif (bif (bif (bif (bif (bif (bif (bif x39_2.2 != 31 then true else x40_2.2 != 31) then true else x41_2.2 != 31) then true else x42_2.2 != 31) then true else x43_2.2 != 4) then true else x44_1.2 != 4) then true else x45_1.2 != 4) then true else x46_1.2.2 != 4) then true else x47_1.2.2 != 32))] H47_0 [] (Cx Tryd.prog none (cR (cR (cR (cR (cR (cR (cR (cR (cR (cR (cR (cR (cR (cR (cR (cR (cR (cR (cR (cR (cR (cR (cR (cR (cR (cR (fbody Tryd.f16))))))))))))))))))))))))))) (bodyPost Tryd.prog Tryd.f16 (PostV w H (.bool r)))) := by
  unfold law03_TunnelKnown_p3 at hm
  refine a_seq (a_region rfl ?_)
  obtain ⟨x50_0, q50_0, hm⟩ := bind_some hm
  refine a_cons (e_callO (all := []) trivial rfl Tryd.func69 rfl rfl rfl rfl rfl (fun w hw => ok_69 hw q50_0) ?_)
  rintro _ H50_0 _ l50_0 ⟨vp50_0, vf50_0, cp50_0, cf50_0, rfl, rfl, hp50_0, hf50_0⟩
  have h39_2q2f := Sl.mono l50_0 h39_2q2f
  have hg := Glob.mono l50_0 hg
  refine ap (y_move rfl) ?_
  refine a_frow (i := 0) rfl rfl hp50_0 rfl ?_
  intro H50_2q0f l50_2q0f h50_2q0f
  have h39_2q2f := Sl.mono l50_2q0f h39_2q2f
  have hf50_0 := RepL.mono l50_2q0f hf50_0
  have hg := Glob.mono l50_2q0f hg
  refine a_frow (i := 1) rfl rfl hf50_0 rfl ?_
  intro H50_2q1f l50_2q1f h50_2q1f
  have h39_2q2f := Sl.mono l50_2q1f h39_2q2f
  have h50_2q0f := Sl.mono l50_2q1f h50_2q0f
  have hg := Glob.mono l50_2q1f hg
  have m50_2g0l : Rp.rep H50_2q1f [vp50_0, vf50_0] (⟨x50_0.Parts, x50_0.Frames⟩ : TunnelBook) := ⟨_, _, rfl, ⟨_, rfl, h50_2q0f⟩, ⟨_, rfl, h50_2q1f⟩⟩
  obtain ⟨x50_2, q50_2, hm⟩ := bind_some hm
  refine a_cons (e_callV (all := [.agg [vp50_0, vf50_0].toArray, v38_0, .int .i64 0]) (v := .tuple #[.agg x50_2.1.cells.toArray, .int .i64 x50_2.2]) trivial rfl Tryd.func23 rfl rfl rfl rfl rfl (fun w hw => ok_23 hw m50_2g0l h39_2q2f hg q50_2) ?_)
  refine ap (y_move rfl) ?_
  refine ap (y_extract rfl rfl) ?_
  refine ap (y_extract rfl rfl) ?_
  refine a_cons (e_alloc (cs := [.int .i64 0, .int .i64 0]) trivial rfl ty32 rfl ?_)
  intro b50_6
  refine a_cons (e_storeWhole (i := 0) (ds := x50_2.1.cells) trivial ty32 rfl rfl rfl rfl rfl ((Rp.one (Span.rep_mk (fun _ => none) x50_2.1))) rfl ?_)
  refine ap (y_assign rfl) ?_
  refine a_nil ?_
  refine a_freeze (α := Span) (x := x50_2.1) (i := 0) rfl (Span.rep_mk _ x50_2.1) ?_
  intro Hb50_6 lb50_6 hb50_6
  have h39_2q2f := Sl.mono lb50_6 h39_2q2f
  have h50_2q0f := Sl.mono lb50_6 h50_2q0f
  have h50_2q1f := Sl.mono lb50_6 h50_2q1f
  have hg := Glob.mono lb50_6 hg
  refine a_en [(37, v38_0), (39, .int .i64 x50_2.2), (58, .pointer (some ⟨b50_6, 0, none⟩))] ?_
  refine a_own [] (by decide) (L' := []) rfl ?_
  refine a_then (a_seq (a_region rfl ?_))
  obtain ⟨x51_0, q51_0, hm⟩ := bind_some hm
  refine a_cons (e_callO (all := []) trivial rfl Tryd.func69 rfl rfl rfl rfl rfl (fun w hw => ok_69 hw q51_0) ?_)
  rintro _ H51_0 _ l51_0 ⟨vp51_0, vf51_0, cp51_0, cf51_0, rfl, rfl, hp51_0, hf51_0⟩
  have h39_2q2f := Sl.mono l51_0 h39_2q2f
  have hb50_6 := PAt.mono l51_0 hb50_6
  have hg := Glob.mono l51_0 hg
  refine ap (y_move rfl) ?_
  refine a_frow (i := 0) rfl rfl hp51_0 rfl ?_
  intro H51_2q0f l51_2q0f h51_2q0f
  have h39_2q2f := Sl.mono l51_2q0f h39_2q2f
  have hb50_6 := PAt.mono l51_2q0f hb50_6
  have hf51_0 := RepL.mono l51_2q0f hf51_0
  have hg := Glob.mono l51_2q0f hg
  refine a_frow (i := 1) rfl rfl hf51_0 rfl ?_
  intro H51_2q1f l51_2q1f h51_2q1f
  have h39_2q2f := Sl.mono l51_2q1f h39_2q2f
  have hb50_6 := PAt.mono l51_2q1f hb50_6
  have h51_2q0f := Sl.mono l51_2q1f h51_2q0f
  have hg := Glob.mono l51_2q1f hg
  have m51_2g0l : Rp.rep H51_2q1f [vp51_0, vf51_0] (⟨x51_0.Parts, x51_0.Frames⟩ : TunnelBook) := ⟨_, _, rfl, ⟨_, rfl, h51_2q0f⟩, ⟨_, rfl, h51_2q1f⟩⟩
  obtain ⟨x51_2, q51_2, hm⟩ := bind_some hm
  refine a_cons (e_callV (all := [.agg [vp51_0, vf51_0].toArray, v38_0, .int .i64 1]) (v := .tuple #[.agg x51_2.1.cells.toArray, .int .i64 x51_2.2]) trivial rfl Tryd.func23 rfl rfl rfl rfl rfl (fun w hw => ok_23 hw m51_2g0l h39_2q2f hg q51_2) ?_)
  refine ap (y_move rfl) ?_
  refine ap (y_extract rfl rfl) ?_
  refine ap (y_extract rfl rfl) ?_
  refine a_cons (e_alloc (cs := [.int .i64 0, .int .i64 0]) trivial rfl ty32 rfl ?_)
  intro b51_6
  refine a_cons (e_storeWhole (i := 0) (ds := x51_2.1.cells) trivial ty32 rfl rfl rfl rfl rfl ((Rp.one (Span.rep_mk (fun _ => none) x51_2.1))) rfl ?_)
  refine ap (y_assign rfl) ?_
  refine a_nil ?_
  refine a_freeze (α := Span) (x := x51_2.1) (i := 0) rfl (Span.rep_mk _ x51_2.1) ?_
  intro Hb51_6 lb51_6 hb51_6
  have h39_2q2f := Sl.mono lb51_6 h39_2q2f
  have hb50_6 := PAt.mono lb51_6 hb50_6
  have h51_2q0f := Sl.mono lb51_6 h51_2q0f
  have h51_2q1f := Sl.mono lb51_6 h51_2q1f
  have hg := Glob.mono lb51_6 hg
  refine a_en [(37, v38_0), (39, .int .i64 x50_2.2), (41, .int .i64 x51_2.2), (58, .pointer (some ⟨b50_6, 0, none⟩)), (59, .pointer (some ⟨b51_6, 0, none⟩))] ?_
  refine a_own [] (by decide) (L' := []) rfl ?_
  refine a_then (a_seq (a_region rfl ?_))
  obtain ⟨x52_0, q52_0, hm⟩ := bind_some hm
  refine a_cons (e_callO (all := []) trivial rfl Tryd.func69 rfl rfl rfl rfl rfl (fun w hw => ok_69 hw q52_0) ?_)
  rintro _ H52_0 _ l52_0 ⟨vp52_0, vf52_0, cp52_0, cf52_0, rfl, rfl, hp52_0, hf52_0⟩
  have h39_2q2f := Sl.mono l52_0 h39_2q2f
  have hb50_6 := PAt.mono l52_0 hb50_6
  have hb51_6 := PAt.mono l52_0 hb51_6
  have hg := Glob.mono l52_0 hg
  refine a_cons (e_buildSlice (xs := [.const (.int .i64 1), .const (.int .i64 2)]) (cs := [.int .i64 1, .int .i64 2]) trivial rfl Tryd.underlying26 ty3 rfl rfl rfl (by simp [Value.cells]) rfl (rfl) ?_)
  intro v52_1
  have h52_1 : RepL (α := Int) H52_0 ([.int .i64 1, .int .i64 2]) [1, 2] := (RepL.cons (α := Int) (c := [.int .i64 1]) rfl (RepL.cons (α := Int) (c := [.int .i64 2]) rfl (RepL.nil (α := Int))))
  refine a_frow (i := 1) rfl rfl hp52_0 rfl ?_
  intro H52_2q0f l52_2q0f h52_2q0f
  have h39_2q2f := Sl.mono l52_2q0f h39_2q2f
  have hb50_6 := PAt.mono l52_2q0f hb50_6
  have hb51_6 := PAt.mono l52_2q0f hb51_6
  have hf52_0 := RepL.mono l52_2q0f hf52_0
  have h52_1 := RepL.mono l52_2q0f h52_1
  have hg := Glob.mono l52_2q0f hg
  refine a_frow (i := 2) rfl rfl hf52_0 rfl ?_
  intro H52_2q1f l52_2q1f h52_2q1f
  have h39_2q2f := Sl.mono l52_2q1f h39_2q2f
  have hb50_6 := PAt.mono l52_2q1f hb50_6
  have hb51_6 := PAt.mono l52_2q1f hb51_6
  have h52_2q0f := Sl.mono l52_2q1f h52_2q0f
  have h52_1 := RepL.mono l52_2q1f h52_1
  have hg := Glob.mono l52_2q1f hg
  refine a_frow (i := 0) rfl rfl h52_1 rfl ?_
  intro H52_2q2f l52_2q2f h52_2q2f
  have h39_2q2f := Sl.mono l52_2q2f h39_2q2f
  have hb50_6 := PAt.mono l52_2q2f hb50_6
  have hb51_6 := PAt.mono l52_2q2f hb51_6
  have h52_2q0f := Sl.mono l52_2q2f h52_2q0f
  have h52_2q1f := Sl.mono l52_2q2f h52_2q1f
  have hg := Glob.mono l52_2q2f hg
  have m52_2g0l : Rp.rep H52_2q2f [vp52_0, vf52_0] (⟨x52_0.Parts, x52_0.Frames⟩ : TunnelBook) := ⟨_, _, rfl, ⟨_, rfl, h52_2q0f⟩, ⟨_, rfl, h52_2q1f⟩⟩
  obtain ⟨x52_2, q52_2, hm⟩ := bind_some hm
  refine a_cons (e_callV (all := [.agg [vp52_0, vf52_0].toArray, v52_1, .int .i64 2]) (v := .tuple #[.int .i64 x52_2.1, .int .i64 x52_2.2]) trivial rfl Tryd.func25 rfl rfl rfl rfl rfl (fun w hw => ok_25 hw m52_2g0l h52_2q2f hg q52_2) ?_)
  refine ap (y_move rfl) ?_
  refine ap (y_extract rfl rfl) ?_
  refine ap (y_extract rfl rfl) ?_
  refine ap (y_assign rfl) ?_
  refine ap (y_assign rfl) ?_
  refine a_nil ?_
  refine a_en [(37, v38_0), (39, .int .i64 x50_2.2), (41, .int .i64 x51_2.2), (43, .int .i64 x52_2.2), (58, .pointer (some ⟨b50_6, 0, none⟩)), (59, .pointer (some ⟨b51_6, 0, none⟩)), (60, .int .i64 x52_2.1)] ?_
  refine a_own [] (by decide) (L' := []) rfl ?_
  refine a_then (a_seq (a_region rfl ?_))
  obtain ⟨x53_0, q53_0, hm⟩ := bind_some hm
  refine a_cons (e_callO (all := []) trivial rfl Tryd.func69 rfl rfl rfl rfl rfl (fun w hw => ok_69 hw q53_0) ?_)
  rintro _ H53_0 _ l53_0 ⟨vp53_0, vf53_0, cp53_0, cf53_0, rfl, rfl, hp53_0, hf53_0⟩
  have h39_2q2f := Sl.mono l53_0 h39_2q2f
  have hb50_6 := PAt.mono l53_0 hb50_6
  have hb51_6 := PAt.mono l53_0 hb51_6
  have hg := Glob.mono l53_0 hg
  refine ap (y_move rfl) ?_
  refine a_frow (i := 0) rfl rfl hp53_0 rfl ?_
  intro H53_2q0f l53_2q0f h53_2q0f
  have h39_2q2f := Sl.mono l53_2q0f h39_2q2f
  have hb50_6 := PAt.mono l53_2q0f hb50_6
  have hb51_6 := PAt.mono l53_2q0f hb51_6
  have hf53_0 := RepL.mono l53_2q0f hf53_0
  have hg := Glob.mono l53_2q0f hg
  refine a_frow (i := 1) rfl rfl hf53_0 rfl ?_
  intro H53_2q1f l53_2q1f h53_2q1f
  have h39_2q2f := Sl.mono l53_2q1f h39_2q2f
  have hb50_6 := PAt.mono l53_2q1f hb50_6
  have hb51_6 := PAt.mono l53_2q1f hb51_6
  have h53_2q0f := Sl.mono l53_2q1f h53_2q0f
  have hg := Glob.mono l53_2q1f hg
  have m53_2g0l : Rp.rep H53_2q1f [vp53_0, vf53_0] (⟨x53_0.Parts, x53_0.Frames⟩ : TunnelBook) := ⟨_, _, rfl, ⟨_, rfl, h53_2q0f⟩, ⟨_, rfl, h53_2q1f⟩⟩
  obtain ⟨x53_2, q53_2, hm⟩ := bind_some hm
  refine a_cons (e_callV (all := [.agg [vp53_0, vf53_0].toArray, v38_0, .int .i64 0]) (v := .tuple #[.int .i64 x53_2.1, .int .i64 x53_2.2]) trivial rfl Tryd.func25 rfl rfl rfl rfl rfl (fun w hw => ok_25 hw m53_2g0l h39_2q2f hg q53_2) ?_)
  refine ap (y_move rfl) ?_
  refine ap (y_extract rfl rfl) ?_
  refine ap (y_extract rfl rfl) ?_
  refine ap (y_assign rfl) ?_
  refine ap (y_assign rfl) ?_
  refine a_nil ?_
  refine a_en [(37, v38_0), (39, .int .i64 x50_2.2), (41, .int .i64 x51_2.2), (43, .int .i64 x52_2.2), (45, .int .i64 x53_2.2), (58, .pointer (some ⟨b50_6, 0, none⟩)), (59, .pointer (some ⟨b51_6, 0, none⟩)), (60, .int .i64 x52_2.1), (61, .int .i64 x53_2.1)] ?_
  refine a_own [] (by decide) (L' := []) rfl ?_
  refine a_then (a_seq (a_region rfl ?_))
  obtain ⟨x54_0, q54_0, hm⟩ := bind_some hm
  refine a_cons (e_callO (all := []) trivial rfl Tryd.func69 rfl rfl rfl rfl rfl (fun w hw => ok_69 hw q54_0) ?_)
  rintro _ H54_0 _ l54_0 ⟨vp54_0, vf54_0, cp54_0, cf54_0, rfl, rfl, hp54_0, hf54_0⟩
  have h39_2q2f := Sl.mono l54_0 h39_2q2f
  have hb50_6 := PAt.mono l54_0 hb50_6
  have hb51_6 := PAt.mono l54_0 hb51_6
  have hg := Glob.mono l54_0 hg
  refine ap (y_move rfl) ?_
  refine a_frow (i := 0) rfl rfl hp54_0 rfl ?_
  intro H54_2q0f l54_2q0f h54_2q0f
  have h39_2q2f := Sl.mono l54_2q0f h39_2q2f
  have hb50_6 := PAt.mono l54_2q0f hb50_6
  have hb51_6 := PAt.mono l54_2q0f hb51_6
  have hf54_0 := RepL.mono l54_2q0f hf54_0
  have hg := Glob.mono l54_2q0f hg
  refine a_frow (i := 1) rfl rfl hf54_0 rfl ?_
  intro H54_2q1f l54_2q1f h54_2q1f
  have h39_2q2f := Sl.mono l54_2q1f h39_2q2f
  have hb50_6 := PAt.mono l54_2q1f hb50_6
  have hb51_6 := PAt.mono l54_2q1f hb51_6
  have h54_2q0f := Sl.mono l54_2q1f h54_2q0f
  have hg := Glob.mono l54_2q1f hg
  have m54_2g0l : Rp.rep H54_2q1f [vp54_0, vf54_0] (⟨x54_0.Parts, x54_0.Frames⟩ : TunnelBook) := ⟨_, _, rfl, ⟨_, rfl, h54_2q0f⟩, ⟨_, rfl, h54_2q1f⟩⟩
  obtain ⟨x54_2, q54_2, hm⟩ := bind_some hm
  refine a_cons (e_callH (all := [.agg [vp54_0, vf54_0].toArray, v38_0]) trivial rfl Tryd.func27 rfl rfl rfl rfl rfl (fun w hw => ok_27 hw m54_2g0l h39_2q2f hg q54_2) ?_)
  rintro _ H54_2 l54_2 ⟨v54_2r0, rfl, h54_2r0⟩
  have h39_2q2f := Sl.mono l54_2 h39_2q2f
  have hb50_6 := PAt.mono l54_2 hb50_6
  have hb51_6 := PAt.mono l54_2 hb51_6
  have h54_2q0f := Sl.mono l54_2 h54_2q0f
  have h54_2q1f := Sl.mono l54_2 h54_2q1f
  have hg := Glob.mono l54_2 hg
  refine ap (y_move rfl) ?_
  refine ap (y_extract rfl rfl) ?_
  refine ap (y_extract rfl rfl) ?_
  refine ap (y_assign rfl) ?_
  refine ap (y_assign rfl) ?_
  refine a_nil ?_
  refine a_en [(37, v38_0), (39, .int .i64 x50_2.2), (41, .int .i64 x51_2.2), (43, .int .i64 x52_2.2), (45, .int .i64 x53_2.2), (47, .int .i64 x54_2.2), (58, .pointer (some ⟨b50_6, 0, none⟩)), (59, .pointer (some ⟨b51_6, 0, none⟩)), (60, .int .i64 x52_2.1), (61, .int .i64 x53_2.1), (62, v54_2r0)] ?_
  refine a_own [] (by decide) (L' := []) rfl ?_
  refine a_then (a_seq (a_region rfl ?_))
  obtain ⟨x55_0, q55_0, hm⟩ := bind_some hm
  refine a_cons (e_callO (all := []) trivial rfl Tryd.func69 rfl rfl rfl rfl rfl (fun w hw => ok_69 hw q55_0) ?_)
  rintro _ H55_0 _ l55_0 ⟨vp55_0, vf55_0, cp55_0, cf55_0, rfl, rfl, hp55_0, hf55_0⟩
  have h39_2q2f := Sl.mono l55_0 h39_2q2f
  have hb50_6 := PAt.mono l55_0 hb50_6
  have hb51_6 := PAt.mono l55_0 hb51_6
  have h54_2r0 := Sl.mono l55_0 h54_2r0
  have hg := Glob.mono l55_0 hg
  refine a_frow (i := 0) rfl rfl hp55_0 rfl ?_
  intro H55_1q0f l55_1q0f h55_1q0f
  have h39_2q2f := Sl.mono l55_1q0f h39_2q2f
  have hb50_6 := PAt.mono l55_1q0f hb50_6
  have hb51_6 := PAt.mono l55_1q0f hb51_6
  have h54_2r0 := Sl.mono l55_1q0f h54_2r0
  have hf55_0 := RepL.mono l55_1q0f hf55_0
  have hg := Glob.mono l55_1q0f hg
  refine a_frow (i := 1) rfl rfl hf55_0 rfl ?_
  intro H55_1q1f l55_1q1f h55_1q1f
  have h39_2q2f := Sl.mono l55_1q1f h39_2q2f
  have hb50_6 := PAt.mono l55_1q1f hb50_6
  have hb51_6 := PAt.mono l55_1q1f hb51_6
  have h54_2r0 := Sl.mono l55_1q1f h54_2r0
  have h55_1q0f := Sl.mono l55_1q1f h55_1q0f
  have hg := Glob.mono l55_1q1f hg
  have m55_1g0l : Rp.rep H55_1q1f [vp55_0, vf55_0] (⟨x55_0.Parts, x55_0.Frames⟩ : TunnelBook) := ⟨_, _, rfl, ⟨_, rfl, h55_1q0f⟩, ⟨_, rfl, h55_1q1f⟩⟩
  obtain ⟨x55_1, q55_1, hm⟩ := bind_some hm
  refine a_cons (e_callH (all := [.agg [vp55_0, vf55_0].toArray]) trivial rfl Tryd.func33 rfl rfl rfl rfl rfl (fun w hw => ok_33 hw m55_1g0l hg q55_1) ?_)
  rintro _ H55_1 l55_1 ⟨v55_1r0, v55_1r1, rfl, h55_1r0, h55_1r1⟩
  have h39_2q2f := Sl.mono l55_1 h39_2q2f
  have hb50_6 := PAt.mono l55_1 hb50_6
  have hb51_6 := PAt.mono l55_1 hb51_6
  have h54_2r0 := Sl.mono l55_1 h54_2r0
  have h55_1q0f := Sl.mono l55_1 h55_1q0f
  have h55_1q1f := Sl.mono l55_1 h55_1q1f
  have hg := Glob.mono l55_1 hg
  refine ap (y_move rfl) ?_
  refine ap (y_extract rfl rfl) ?_
  refine ap (y_extract rfl rfl) ?_
  refine ap (y_extract rfl rfl) ?_
  refine ap (y_assign rfl) ?_
  refine ap (y_assign rfl) ?_
  refine ap (y_assign rfl) ?_
  refine a_nil ?_
  refine a_en [(37, v38_0), (39, .int .i64 x50_2.2), (41, .int .i64 x51_2.2), (43, .int .i64 x52_2.2), (45, .int .i64 x53_2.2), (47, .int .i64 x54_2.2), (49, .int .i64 x55_1.2.2), (58, .pointer (some ⟨b50_6, 0, none⟩)), (59, .pointer (some ⟨b51_6, 0, none⟩)), (60, .int .i64 x52_2.1), (61, .int .i64 x53_2.1), (62, v54_2r0), (63, v55_1r0), (64, v55_1r1)] ?_
  refine a_own [] (by decide) (L' := []) rfl ?_
  refine a_then (a_seq (a_region rfl ?_))
  obtain ⟨x56_0, q56_0, hm⟩ := bind_some hm
  refine a_cons (e_callO (all := []) trivial rfl Tryd.func69 rfl rfl rfl rfl rfl (fun w hw => ok_69 hw q56_0) ?_)
  rintro _ H56_0 _ l56_0 ⟨vp56_0, vf56_0, cp56_0, cf56_0, rfl, rfl, hp56_0, hf56_0⟩
  have h39_2q2f := Sl.mono l56_0 h39_2q2f
  have hb50_6 := PAt.mono l56_0 hb50_6
  have hb51_6 := PAt.mono l56_0 hb51_6
  have h54_2r0 := Sl.mono l56_0 h54_2r0
  have h55_1r0 := Sl.mono l56_0 h55_1r0
  have h55_1r1 := Sl.mono l56_0 h55_1r1
  have hg := Glob.mono l56_0 hg
  refine ap (y_move rfl) ?_
  refine a_frow (i := 0) rfl rfl hp56_0 rfl ?_
  intro H56_2q0f l56_2q0f h56_2q0f
  have h39_2q2f := Sl.mono l56_2q0f h39_2q2f
  have hb50_6 := PAt.mono l56_2q0f hb50_6
  have hb51_6 := PAt.mono l56_2q0f hb51_6
  have h54_2r0 := Sl.mono l56_2q0f h54_2r0
  have h55_1r0 := Sl.mono l56_2q0f h55_1r0
  have h55_1r1 := Sl.mono l56_2q0f h55_1r1
  have hf56_0 := RepL.mono l56_2q0f hf56_0
  have hg := Glob.mono l56_2q0f hg
  refine a_frow (i := 1) rfl rfl hf56_0 rfl ?_
  intro H56_2q1f l56_2q1f h56_2q1f
  have h39_2q2f := Sl.mono l56_2q1f h39_2q2f
  have hb50_6 := PAt.mono l56_2q1f hb50_6
  have hb51_6 := PAt.mono l56_2q1f hb51_6
  have h54_2r0 := Sl.mono l56_2q1f h54_2r0
  have h55_1r0 := Sl.mono l56_2q1f h55_1r0
  have h55_1r1 := Sl.mono l56_2q1f h55_1r1
  have h56_2q0f := Sl.mono l56_2q1f h56_2q0f
  have hg := Glob.mono l56_2q1f hg
  have m56_2g0l : Rp.rep H56_2q1f [vp56_0, vf56_0] (⟨x56_0.Parts, x56_0.Frames⟩ : TunnelBook) := ⟨_, _, rfl, ⟨_, rfl, h56_2q0f⟩, ⟨_, rfl, h56_2q1f⟩⟩
  obtain ⟨x56_2, q56_2, hm⟩ := bind_some hm
  refine a_cons (e_callV (all := [.agg [vp56_0, vf56_0].toArray, v38_0, .int .i64 0, .int .i64 0]) (v := .tuple #[.int .i64 x56_2.1, .int .i64 x56_2.2]) trivial rfl Tryd.func39 rfl rfl rfl rfl rfl (fun w hw => ok_39 hw m56_2g0l h39_2q2f hg q56_2) ?_)
  refine ap (y_move rfl) ?_
  refine ap (y_extract rfl rfl) ?_
  refine ap (y_extract rfl rfl) ?_
  refine ap (y_assign rfl) ?_
  refine ap (y_assign rfl) ?_
  refine a_nil ?_
  refine a_en [(37, v38_0), (39, .int .i64 x50_2.2), (41, .int .i64 x51_2.2), (43, .int .i64 x52_2.2), (45, .int .i64 x53_2.2), (47, .int .i64 x54_2.2), (49, .int .i64 x55_1.2.2), (51, .int .i64 x56_2.2), (58, .pointer (some ⟨b50_6, 0, none⟩)), (59, .pointer (some ⟨b51_6, 0, none⟩)), (60, .int .i64 x52_2.1), (61, .int .i64 x53_2.1), (62, v54_2r0), (63, v55_1r0), (64, v55_1r1), (65, .int .i64 x56_2.1)] ?_
  refine a_own [] (by decide) (L' := []) rfl ?_
  refine a_then (a_seq (a_region rfl ?_))
  obtain ⟨x57_0, q57_0, hm⟩ := bind_some hm
  refine a_cons (e_callO (all := []) trivial rfl Tryd.func69 rfl rfl rfl rfl rfl (fun w hw => ok_69 hw q57_0) ?_)
  rintro _ H57_0 _ l57_0 ⟨vp57_0, vf57_0, cp57_0, cf57_0, rfl, rfl, hp57_0, hf57_0⟩
  have h39_2q2f := Sl.mono l57_0 h39_2q2f
  have hb50_6 := PAt.mono l57_0 hb50_6
  have hb51_6 := PAt.mono l57_0 hb51_6
  have h54_2r0 := Sl.mono l57_0 h54_2r0
  have h55_1r0 := Sl.mono l57_0 h55_1r0
  have h55_1r1 := Sl.mono l57_0 h55_1r1
  have hg := Glob.mono l57_0 hg
  refine a_frow (i := 0) rfl rfl hp57_0 rfl ?_
  intro H57_1q0f l57_1q0f h57_1q0f
  have h39_2q2f := Sl.mono l57_1q0f h39_2q2f
  have hb50_6 := PAt.mono l57_1q0f hb50_6
  have hb51_6 := PAt.mono l57_1q0f hb51_6
  have h54_2r0 := Sl.mono l57_1q0f h54_2r0
  have h55_1r0 := Sl.mono l57_1q0f h55_1r0
  have h55_1r1 := Sl.mono l57_1q0f h55_1r1
  have hf57_0 := RepL.mono l57_1q0f hf57_0
  have hg := Glob.mono l57_1q0f hg
  refine a_frow (i := 1) rfl rfl hf57_0 rfl ?_
  intro H57_1q1f l57_1q1f h57_1q1f
  have h39_2q2f := Sl.mono l57_1q1f h39_2q2f
  have hb50_6 := PAt.mono l57_1q1f hb50_6
  have hb51_6 := PAt.mono l57_1q1f hb51_6
  have h54_2r0 := Sl.mono l57_1q1f h54_2r0
  have h55_1r0 := Sl.mono l57_1q1f h55_1r0
  have h55_1r1 := Sl.mono l57_1q1f h55_1r1
  have h57_1q0f := Sl.mono l57_1q1f h57_1q0f
  have hg := Glob.mono l57_1q1f hg
  have m57_1g0l : Rp.rep H57_1q1f [vp57_0, vf57_0] (⟨x57_0.Parts, x57_0.Frames⟩ : TunnelBook) := ⟨_, _, rfl, ⟨_, rfl, h57_1q0f⟩, ⟨_, rfl, h57_1q1f⟩⟩
  obtain ⟨x57_1, q57_1, hm⟩ := bind_some hm
  refine a_cons (e_callV (all := [.agg [vp57_0, vf57_0].toArray]) (v := .tuple #[.int .i64 x57_1.1, .int .i64 x57_1.2]) trivial rfl Tryd.func41 rfl rfl rfl rfl rfl (fun w hw => ok_41 hw m57_1g0l hg q57_1) ?_)
  refine ap (y_move rfl) ?_
  refine ap (y_extract rfl rfl) ?_
  refine ap (y_extract rfl rfl) ?_
  refine ap (y_assign rfl) ?_
  refine ap (y_assign rfl) ?_
  refine a_nil ?_
  refine a_en [(37, v38_0), (39, .int .i64 x50_2.2), (41, .int .i64 x51_2.2), (43, .int .i64 x52_2.2), (45, .int .i64 x53_2.2), (47, .int .i64 x54_2.2), (49, .int .i64 x55_1.2.2), (51, .int .i64 x56_2.2), (54, .int .i64 x57_1.2), (58, .pointer (some ⟨b50_6, 0, none⟩)), (59, .pointer (some ⟨b51_6, 0, none⟩)), (60, .int .i64 x52_2.1), (61, .int .i64 x53_2.1), (62, v54_2r0), (63, v55_1r0), (64, v55_1r1), (65, .int .i64 x56_2.1), (66, .int .i64 x57_1.1)] ?_
  refine a_own [] (by decide) (L' := []) rfl ?_
  refine a_then (a_seq (a_region rfl ?_))
  obtain ⟨x58_0, q58_0, hm⟩ := bind_some hm
  refine a_cons (e_callO (all := []) trivial rfl Tryd.func69 rfl rfl rfl rfl rfl (fun w hw => ok_69 hw q58_0) ?_)
  rintro _ H58_0 _ l58_0 ⟨vp58_0, vf58_0, cp58_0, cf58_0, rfl, rfl, hp58_0, hf58_0⟩
  have h39_2q2f := Sl.mono l58_0 h39_2q2f
  have hb50_6 := PAt.mono l58_0 hb50_6
  have hb51_6 := PAt.mono l58_0 hb51_6
  have h54_2r0 := Sl.mono l58_0 h54_2r0
  have h55_1r0 := Sl.mono l58_0 h55_1r0
  have h55_1r1 := Sl.mono l58_0 h55_1r1
  have hg := Glob.mono l58_0 hg
  refine a_frow (i := 0) rfl rfl hp58_0 rfl ?_
  intro H58_1q0f l58_1q0f h58_1q0f
  have h39_2q2f := Sl.mono l58_1q0f h39_2q2f
  have hb50_6 := PAt.mono l58_1q0f hb50_6
  have hb51_6 := PAt.mono l58_1q0f hb51_6
  have h54_2r0 := Sl.mono l58_1q0f h54_2r0
  have h55_1r0 := Sl.mono l58_1q0f h55_1r0
  have h55_1r1 := Sl.mono l58_1q0f h55_1r1
  have hf58_0 := RepL.mono l58_1q0f hf58_0
  have hg := Glob.mono l58_1q0f hg
  refine a_frow (i := 1) rfl rfl hf58_0 rfl ?_
  intro H58_1q1f l58_1q1f h58_1q1f
  have h39_2q2f := Sl.mono l58_1q1f h39_2q2f
  have hb50_6 := PAt.mono l58_1q1f hb50_6
  have hb51_6 := PAt.mono l58_1q1f hb51_6
  have h54_2r0 := Sl.mono l58_1q1f h54_2r0
  have h55_1r0 := Sl.mono l58_1q1f h55_1r0
  have h55_1r1 := Sl.mono l58_1q1f h55_1r1
  have h58_1q0f := Sl.mono l58_1q1f h58_1q0f
  have hg := Glob.mono l58_1q1f hg
  have m58_1g0l : Rp.rep H58_1q1f [vp58_0, vf58_0] (⟨x58_0.Parts, x58_0.Frames⟩ : TunnelBook) := ⟨_, _, rfl, ⟨_, rfl, h58_1q0f⟩, ⟨_, rfl, h58_1q1f⟩⟩
  obtain ⟨x58_1, q58_1, hm⟩ := bind_some hm
  refine a_cons (e_callH (all := [.agg [vp58_0, vf58_0].toArray]) trivial rfl Tryd.func35 rfl rfl rfl rfl rfl (fun w hw => ok_35 hw m58_1g0l hg q58_1) ?_)
  rintro _ H58_1 l58_1 ⟨v58_1r0, rfl, h58_1r0⟩
  have h39_2q2f := Sl.mono l58_1 h39_2q2f
  have hb50_6 := PAt.mono l58_1 hb50_6
  have hb51_6 := PAt.mono l58_1 hb51_6
  have h54_2r0 := Sl.mono l58_1 h54_2r0
  have h55_1r0 := Sl.mono l58_1 h55_1r0
  have h55_1r1 := Sl.mono l58_1 h55_1r1
  have h58_1q0f := Sl.mono l58_1 h58_1q0f
  have h58_1q1f := Sl.mono l58_1 h58_1q1f
  have hg := Glob.mono l58_1 hg
  refine ap (y_move rfl) ?_
  refine ap (y_extract rfl rfl) ?_
  refine ap (y_extract rfl rfl) ?_
  refine ap (y_assign rfl) ?_
  refine ap (y_assign rfl) ?_
  refine a_nil ?_
  refine a_en [(37, v38_0), (39, .int .i64 x50_2.2), (41, .int .i64 x51_2.2), (43, .int .i64 x52_2.2), (45, .int .i64 x53_2.2), (47, .int .i64 x54_2.2), (49, .int .i64 x55_1.2.2), (51, .int .i64 x56_2.2), (54, .int .i64 x57_1.2), (57, .int .i64 x58_1.2), (58, .pointer (some ⟨b50_6, 0, none⟩)), (59, .pointer (some ⟨b51_6, 0, none⟩)), (60, .int .i64 x52_2.1), (61, .int .i64 x53_2.1), (62, v54_2r0), (63, v55_1r0), (64, v55_1r1), (65, .int .i64 x56_2.1), (66, .int .i64 x57_1.1), (67, v58_1r0)] ?_
  refine a_own [] (by decide) (L' := []) rfl ?_
  refine a_then (a_seq ?_)
  obtain ⟨s_j10, hs_j10, hm_j10⟩ := bind_some hm
  refine a_join (fun a_ w_ => ∃ (Hj10 : Hp), ∃ (_ : HLe H58_1 Hj10), ∃ (yj10_0 : Bool), yj10_0 = s_j10 ∧ Ag 576 [] [(0, .bool yj10_0)] a_ ∧ St (Kp.mk w H noX) Hj10 [] w_) ?_ ?_
  · have hm := hs_j10
    obtain ⟨x59_4, q59_4, hm⟩ := bind_some hm
    obtain ⟨x59_13, q59_13, hm⟩ := bind_some hm
    rcases Bool.eq_false_or_eq_true ((bif (bif (bif (bif (bif (bif (bif (bif x50_2.2 == 0 then decide (x50_2.1 = x59_4) else false) then x51_2.2 == 0 else false) then decide (x51_2.1 = x59_13) else false) then x52_2.2 == 0 else false) then x52_2.1 == 1 else false) then x53_2.2 == 0 else false) then x53_2.1 == 0 else false) then x54_2.2 == 0 else false)) with k59_38 | k59_38
    · have hm := cond_t k59_38 hm
      obtain ⟨x59_39, q59_39, hm⟩ := bind_some hm
      rcases Bool.eq_false_or_eq_true ((bif x59_39 then x55_1.2.2 == 0 else false)) with k59_48 | k59_48
      · have hm := cond_t k59_48 hm
        obtain ⟨x59_48, q59_48, hm⟩ := bind_some hm
        rcases Bool.eq_false_or_eq_true (x59_48) with k59_52 | k59_52
        · have hm := cond_t k59_52 hm
          obtain ⟨x59_53, q59_53, hm⟩ := bind_some hm
          rcases Bool.eq_false_or_eq_true ((bif (bif (bif (bif (bif x59_53 then x56_2.2 == 0 else false) then x56_2.1 == 0 else false) then x57_1.2 == 0 else false) then x57_1.1 == 0 else false) then x58_1.2 == 0 else false)) with k59_77 | k59_77
          · have hm := cond_t k59_77 hm
            rcases Bool.eq_false_or_eq_true ((bif (x58_1.1.length : Int) == 0 then true else false)) with k59_83 | k59_83
            · have hm := cond_t k59_83 hm
              obtain ⟨x59_83, q59_83, hm⟩ := bind_some hm
              refine d_region (S := Sw H58_1 []) (n := 86) (listed := (bits 86 0)) mixed (by kernel_rfl) rfl (by kernel_rfl) ?_
              refine dt 0 1 rfl trivial (y_move rfl) (sw0 []) ?_
              refine dt 1 3 rfl trivial (y_eql rfl rfl) (sw0 []) ?_
              refine dt 2 7 rfl trivial (y_move rfl) (sw0 []) ?_
              obtain ⟨u59_3, h59_3, c59_3⟩ := PAt.one hb50_6
              refine dtt 3 15 rfl rfl rfl (fun hc_ => y_load_cells ty32 rfl (fun _ h => h.1) rfl c59_3 (Rp.len h59_3)) (sw0 []) ?_
              refine d1 4 rfl (e_callVt (all := [.int .i64 36, .int .i64 45]) (v := .agg x59_4.cells.toArray) rfl rfl rfl Tryd.func53 rfl rfl rfl (fun hc_ => (mpc rfl (mpc rfl mpn))) rfl (fun w hw => ok_53 hw q59_4) ?_)
              refine dn 31 (sw0 []) ?_
              refine dtt 5 63 rfl rfl rfl (fun hc_ => y_eq32_eql (sft rfl hc_) (sft rfl hc_) h59_3 (Span.rep_mk H58_1 x59_4)) (sw0 []) ?_
              refine dt 6 127 rfl trivial (y_pick_bb rfl (fun h_ => sft rfl h_) (fun _ => rfl)) (sw0 []) ?_
              refine dt 7 255 rfl trivial (y_move rfl) (sw0 []) ?_
              refine dtt 8 511 rfl rfl rfl (fun hc_ => y_move rfl) (sw0 []) ?_
              refine dtt 9 1023 rfl rfl rfl (fun hc_ => y_eql (sft rfl hc_) rfl) (sw0 []) ?_
              refine dt 10 2047 rfl trivial (y_pick_bb rfl (fun h_ => sft rfl h_) (fun _ => rfl)) (sw0 []) ?_
              refine dt 11 4095 rfl trivial (y_move rfl) (sw0 []) ?_
              obtain ⟨u59_12, h59_12, c59_12⟩ := PAt.one hb51_6
              refine dtt 12 8191 rfl rfl rfl (fun hc_ => y_load_cells ty32 rfl (fun _ h => h.1) rfl c59_12 (Rp.len h59_12)) (sw0 []) ?_
              refine d1 13 rfl (e_callVt (all := [.int .i64 36, .int .i64 45]) (v := .agg x59_13.cells.toArray) rfl rfl rfl Tryd.func53 rfl rfl rfl (fun hc_ => (mpc rfl (mpc rfl mpn))) rfl (fun w hw => ok_53 hw q59_13) ?_)
              refine dn 16383 (sw0 []) ?_
              refine dtt 14 32767 rfl rfl rfl (fun hc_ => y_eq32_eql (sft rfl hc_) (sft rfl hc_) h59_12 (Span.rep_mk H58_1 x59_13)) (sw0 []) ?_
              refine dt 15 65535 rfl trivial (y_pick_bb rfl (fun h_ => sft rfl h_) (fun _ => rfl)) (sw0 []) ?_
              refine dt 16 131071 rfl trivial (y_move rfl) (sw0 []) ?_
              refine dtt 17 262143 rfl rfl rfl (fun hc_ => y_move rfl) (sw0 []) ?_
              refine dtt 18 524287 rfl rfl rfl (fun hc_ => y_eql (sft rfl hc_) rfl) (sw0 []) ?_
              refine dt 19 1048575 rfl trivial (y_pick_bb rfl (fun h_ => sft rfl h_) (fun _ => rfl)) (sw0 []) ?_
              refine dt 20 2097151 rfl trivial (y_move rfl) (sw0 []) ?_
              refine dtt 21 4194303 rfl rfl rfl (fun hc_ => y_move rfl) (sw0 []) ?_
              refine dtt 22 8388607 rfl rfl rfl (fun hc_ => y_eql (sft rfl hc_) rfl) (sw0 []) ?_
              refine dt 23 16777215 rfl trivial (y_pick_bb rfl (fun h_ => sft rfl h_) (fun _ => rfl)) (sw0 []) ?_
              refine dt 24 33554431 rfl trivial (y_move rfl) (sw0 []) ?_
              refine dtt 25 67108863 rfl rfl rfl (fun hc_ => y_move rfl) (sw0 []) ?_
              refine dtt 26 134217727 rfl rfl rfl (fun hc_ => y_eql (sft rfl hc_) rfl) (sw0 []) ?_
              refine dt 27 268435455 rfl trivial (y_pick_bb rfl (fun h_ => sft rfl h_) (fun _ => rfl)) (sw0 []) ?_
              refine dt 28 536870911 rfl trivial (y_move rfl) (sw0 []) ?_
              refine dtt 29 1073741823 rfl rfl rfl (fun hc_ => y_move rfl) (sw0 []) ?_
              refine dtt 30 2147483647 rfl rfl rfl (fun hc_ => y_eql (sft rfl hc_) rfl) (sw0 []) ?_
              refine dt 31 4294967295 rfl trivial (y_pick_bb rfl (fun h_ => sft rfl h_) (fun _ => rfl)) (sw0 []) ?_
              refine dt 32 8589934591 rfl trivial (y_move rfl) (sw0 []) ?_
              refine dtt 33 17179869183 rfl rfl rfl (fun hc_ => y_move rfl) (sw0 []) ?_
              refine dtt 34 34359738367 rfl rfl rfl (fun hc_ => y_eql (sft rfl hc_) rfl) (sw0 []) ?_
              refine dt 35 68719476735 rfl trivial (y_pick_bb rfl (fun h_ => sft rfl h_) (fun _ => rfl)) (sw0 []) ?_
              refine dt 36 137438953471 rfl trivial (y_move rfl) (sw0 []) ?_
              refine dt 37 274877906943 rfl ⟨_, _, rfl, rfl, k59_38⟩ (y_move rfl) (sw0 []) ?_
              refine d1 38 rfl (e_buildSlice (xs := [.const (.int .i64 0), .const (.int .i64 1), .const (.int .i64 2)]) (cs := [.int .i64 0, .int .i64 1, .int .i64 2]) ⟨_, _, rfl, rfl, k59_38⟩ rfl Tryd.underlying26 ty3 rfl rfl rfl (by simp [Value.cells]) rfl (rfl) ?_)
              intro v59_38
              have h59_38 : RepL (α := Int) H58_1 ([.int .i64 0, .int .i64 1, .int .i64 2]) [0, 1, 2] := (RepL.cons (α := Int) (c := [.int .i64 0]) rfl (RepL.cons (α := Int) (c := [.int .i64 1]) rfl (RepL.cons (α := Int) (c := [.int .i64 2]) rfl (RepL.nil (α := Int)))))
              refine dn 549755813887 (sw0 []) ?_
              refine a_frow (i := 0) rfl rfl h59_38 rfl ?_
              intro H59_39g1f l59_39g1f h59_39g1f
              have h39_2q2f := Sl.mono l59_39g1f h39_2q2f
              have hb50_6 := PAt.mono l59_39g1f hb50_6
              have hb51_6 := PAt.mono l59_39g1f hb51_6
              have h54_2r0 := Sl.mono l59_39g1f h54_2r0
              have h55_1r0 := Sl.mono l59_39g1f h55_1r0
              have h55_1r1 := Sl.mono l59_39g1f h55_1r1
              have h58_1r0 := Sl.mono l59_39g1f h58_1r0
              have h59_3 := Rp.mono l59_39g1f h59_3
              have h59_12 := Rp.mono l59_39g1f h59_12
              have hg := Glob.mono l59_39g1f hg
              refine d1 39 rfl (e_callV (all := [v54_2r0, v59_38]) (v := .bool x59_39) ⟨_, _, rfl, rfl, k59_38⟩ rfl Tryd.func29 rfl rfl rfl rfl rfl (fun w hw => ok_29 hw h54_2r0 h59_39g1f q59_39) ?_)
              refine dn 1099511627775 (swl l59_39g1f []) ?_
              refine d_weaken (S' := Sw H59_39g1f []) (sw_sw l59_39g1f [] rfl) ?_
              refine dt 40 2199023255551 rfl trivial (y_pick_t rfl k59_38 rfl) (sw0 []) ?_
              refine dt 41 4398046511103 rfl trivial (y_move rfl) (sw0 []) ?_
              refine dtt 42 8796093022207 rfl rfl rfl (fun hc_ => y_move rfl) (sw0 []) ?_
              refine dtt 43 17592186044415 rfl rfl rfl (fun hc_ => y_eql (sft rfl hc_) rfl) (sw0 []) ?_
              refine dt 44 35184372088831 rfl trivial (y_pick_bb rfl (fun h_ => sft rfl h_) (fun _ => rfl)) (sw0 []) ?_
              refine dt 45 70368744177663 rfl trivial (y_move rfl) (sw0 []) ?_
              refine dt 46 140737488355327 rfl ⟨_, _, rfl, rfl, k59_48⟩ (y_move rfl) (sw0 []) ?_
              refine dt 47 281474976710655 rfl ⟨_, _, rfl, rfl, k59_48⟩ (y_move rfl) (sw0 []) ?_
              refine d1 48 rfl (e_callV (all := [v55_1r0, v38_0]) (v := .bool x59_48) ⟨_, _, rfl, rfl, k59_48⟩ rfl Tryd.func29 rfl rfl rfl rfl rfl (fun w hw => ok_29 hw h55_1r0 h39_2q2f q59_48) ?_)
              refine dn 562949953421311 (sw0 []) ?_
              refine dt 49 1125899906842623 rfl trivial (y_pick_t rfl k59_48 rfl) (sw0 []) ?_
              refine dt 50 2251799813685247 rfl trivial (y_move rfl) (sw0 []) ?_
              refine dt 51 4503599627370495 rfl ⟨_, _, rfl, rfl, k59_52⟩ (y_move rfl) (sw0 []) ?_
              refine d1 52 rfl (e_buildSlice (xs := [.const (.int .i64 0), .const (.int .i64 1), .const (.int .i64 2)]) (cs := [.int .i64 0, .int .i64 1, .int .i64 2]) ⟨_, _, rfl, rfl, k59_52⟩ rfl Tryd.underlying26 ty3 rfl rfl rfl (by simp [Value.cells]) rfl (rfl) ?_)
              intro v59_52
              have h59_52 : RepL (α := Int) H59_39g1f ([.int .i64 0, .int .i64 1, .int .i64 2]) [0, 1, 2] := (RepL.cons (α := Int) (c := [.int .i64 0]) rfl (RepL.cons (α := Int) (c := [.int .i64 1]) rfl (RepL.cons (α := Int) (c := [.int .i64 2]) rfl (RepL.nil (α := Int)))))
              refine dn 9007199254740991 (sw0 []) ?_
              refine a_frow (i := 0) rfl rfl h59_52 rfl ?_
              intro H59_53g1f l59_53g1f h59_53g1f
              have h39_2q2f := Sl.mono l59_53g1f h39_2q2f
              have hb50_6 := PAt.mono l59_53g1f hb50_6
              have hb51_6 := PAt.mono l59_53g1f hb51_6
              have h54_2r0 := Sl.mono l59_53g1f h54_2r0
              have h55_1r0 := Sl.mono l59_53g1f h55_1r0
              have h55_1r1 := Sl.mono l59_53g1f h55_1r1
              have h58_1r0 := Sl.mono l59_53g1f h58_1r0
              have h59_3 := Rp.mono l59_53g1f h59_3
              have h59_12 := Rp.mono l59_53g1f h59_12
              have h59_39g1f := Sl.mono l59_53g1f h59_39g1f
              have hg := Glob.mono l59_53g1f hg
              refine d1 53 rfl (e_callV (all := [v55_1r1, v59_52]) (v := .bool x59_53) ⟨_, _, rfl, rfl, k59_52⟩ rfl Tryd.func29 rfl rfl rfl rfl rfl (fun w hw => ok_29 hw h55_1r1 h59_53g1f q59_53) ?_)
              refine dn 18014398509481983 (swl l59_53g1f []) ?_
              refine d_weaken (S' := Sw H59_53g1f []) (sw_sw l59_53g1f [] rfl) ?_
              refine dt 54 36028797018963967 rfl trivial (y_pick_t rfl k59_52 rfl) (sw0 []) ?_
              refine dt 55 72057594037927935 rfl trivial (y_move rfl) (sw0 []) ?_
              refine dtt 56 144115188075855871 rfl rfl rfl (fun hc_ => y_move rfl) (sw0 []) ?_
              refine dtt 57 288230376151711743 rfl rfl rfl (fun hc_ => y_eql (sft rfl hc_) rfl) (sw0 []) ?_
              refine dt 58 576460752303423487 rfl trivial (y_pick_bb rfl (fun h_ => sft rfl h_) (fun _ => rfl)) (sw0 []) ?_
              refine dt 59 1152921504606846975 rfl trivial (y_move rfl) (sw0 []) ?_
              refine dtt 60 2305843009213693951 rfl rfl rfl (fun hc_ => y_move rfl) (sw0 []) ?_
              refine dtt 61 4611686018427387903 rfl rfl rfl (fun hc_ => y_eql (sft rfl hc_) rfl) (sw0 []) ?_
              refine dt 62 9223372036854775807 rfl trivial (y_pick_bb rfl (fun h_ => sft rfl h_) (fun _ => rfl)) (sw0 []) ?_
              refine dt 63 18446744073709551615 rfl trivial (y_move rfl) (sw0 []) ?_
              refine dtt 64 36893488147419103231 rfl rfl rfl (fun hc_ => y_move rfl) (sw0 []) ?_
              refine dtt 65 73786976294838206463 rfl rfl rfl (fun hc_ => y_eql (sft rfl hc_) rfl) (sw0 []) ?_
              refine dt 66 147573952589676412927 rfl trivial (y_pick_bb rfl (fun h_ => sft rfl h_) (fun _ => rfl)) (sw0 []) ?_
              refine dt 67 295147905179352825855 rfl trivial (y_move rfl) (sw0 []) ?_
              refine dtt 68 590295810358705651711 rfl rfl rfl (fun hc_ => y_move rfl) (sw0 []) ?_
              refine dtt 69 1180591620717411303423 rfl rfl rfl (fun hc_ => y_eql (sft rfl hc_) rfl) (sw0 []) ?_
              refine dt 70 2361183241434822606847 rfl trivial (y_pick_bb rfl (fun h_ => sft rfl h_) (fun _ => rfl)) (sw0 []) ?_
              refine dt 71 4722366482869645213695 rfl trivial (y_move rfl) (sw0 []) ?_
              refine dtt 72 9444732965739290427391 rfl rfl rfl (fun hc_ => y_move rfl) (sw0 []) ?_
              refine dtt 73 18889465931478580854783 rfl rfl rfl (fun hc_ => y_eql (sft rfl hc_) rfl) (sw0 []) ?_
              refine dt 74 37778931862957161709567 rfl trivial (y_pick_bb rfl (fun h_ => sft rfl h_) (fun _ => rfl)) (sw0 []) ?_
              refine dt 75 75557863725914323419135 rfl trivial (y_move rfl) (sw0 []) ?_
              refine dt 76 151115727451828646838271 rfl ⟨_, _, rfl, rfl, k59_77⟩ (y_move rfl) (sw0 []) ?_
              refine dt 77 302231454903657293676543 rfl ⟨_, _, rfl, rfl, k59_77⟩ (y_len_sl Tryd.underlying26 rfl h58_1r0) (sw0 []) ?_
              refine dt 78 604462909807314587353087 rfl ⟨_, _, rfl, rfl, k59_77⟩ (y_eql rfl rfl) (sw0 []) ?_
              refine dt 79 1208925819614629174706175 rfl trivial (y_pick_t rfl k59_77 rfl) (sw0 []) ?_
              refine dt 80 2417851639229258349412351 rfl trivial (y_move rfl) (sw0 []) ?_
              refine dt 81 4835703278458516698824703 rfl trivial (y_pick_bb rfl (fun _ => rfl) (fun _ => rfl)) (sw0 []) ?_
              refine dt 82 9671406556917033397649407 rfl trivial (y_move rfl) (sw0 []) ?_
              refine d1 83 rfl (e_callV (all := []) (v := .bool x59_83) ⟨_, _, rfl, rfl, k59_83⟩ rfl Tryd.func30 rfl rfl rfl rfl rfl (fun w hw => ok_30 hw hg q59_83) ?_)
              refine dn 19342813113834066795298815 (sw0 []) ?_
              refine dt 84 38685626227668133590597631 rfl trivial (y_pick_t rfl k59_83 rfl) (sw0 []) ?_
              refine dt 85 77371252455336267181195263 rfl trivial (y_assign rfl) (sw0 []) ?_
              refine d_done (by kernel_rfl) ?_
              refine a_en [(0, .bool x59_83)] ?_
              refine a_own [] (by decide) (L' := []) rfl ?_
              refine a_cut ?_
              intro a_ w_ ha_ hs_
              exact ⟨H59_53g1f, (l59_39g1f.trans l59_53g1f), x59_83, Option.some.inj hm, ha_.weaken ⟨rfl, trivial⟩, hs_.reix [] (by decide)⟩
            have hm := cond_f k59_83 hm
            refine d_region (S := Sw H58_1 []) (n := 86) (listed := (bits 86 0)) mixed (by kernel_rfl) rfl (by kernel_rfl) ?_
            refine dt 0 1 rfl trivial (y_move rfl) (sw0 []) ?_
            refine dt 1 3 rfl trivial (y_eql rfl rfl) (sw0 []) ?_
            refine dt 2 7 rfl trivial (y_move rfl) (sw0 []) ?_
            obtain ⟨u59_3, h59_3, c59_3⟩ := PAt.one hb50_6
            refine dtt 3 15 rfl rfl rfl (fun hc_ => y_load_cells ty32 rfl (fun _ h => h.1) rfl c59_3 (Rp.len h59_3)) (sw0 []) ?_
            refine d1 4 rfl (e_callVt (all := [.int .i64 36, .int .i64 45]) (v := .agg x59_4.cells.toArray) rfl rfl rfl Tryd.func53 rfl rfl rfl (fun hc_ => (mpc rfl (mpc rfl mpn))) rfl (fun w hw => ok_53 hw q59_4) ?_)
            refine dn 31 (sw0 []) ?_
            refine dtt 5 63 rfl rfl rfl (fun hc_ => y_eq32_eql (sft rfl hc_) (sft rfl hc_) h59_3 (Span.rep_mk H58_1 x59_4)) (sw0 []) ?_
            refine dt 6 127 rfl trivial (y_pick_bb rfl (fun h_ => sft rfl h_) (fun _ => rfl)) (sw0 []) ?_
            refine dt 7 255 rfl trivial (y_move rfl) (sw0 []) ?_
            refine dtt 8 511 rfl rfl rfl (fun hc_ => y_move rfl) (sw0 []) ?_
            refine dtt 9 1023 rfl rfl rfl (fun hc_ => y_eql (sft rfl hc_) rfl) (sw0 []) ?_
            refine dt 10 2047 rfl trivial (y_pick_bb rfl (fun h_ => sft rfl h_) (fun _ => rfl)) (sw0 []) ?_
            refine dt 11 4095 rfl trivial (y_move rfl) (sw0 []) ?_
            obtain ⟨u59_12, h59_12, c59_12⟩ := PAt.one hb51_6
            refine dtt 12 8191 rfl rfl rfl (fun hc_ => y_load_cells ty32 rfl (fun _ h => h.1) rfl c59_12 (Rp.len h59_12)) (sw0 []) ?_
            refine d1 13 rfl (e_callVt (all := [.int .i64 36, .int .i64 45]) (v := .agg x59_13.cells.toArray) rfl rfl rfl Tryd.func53 rfl rfl rfl (fun hc_ => (mpc rfl (mpc rfl mpn))) rfl (fun w hw => ok_53 hw q59_13) ?_)
            refine dn 16383 (sw0 []) ?_
            refine dtt 14 32767 rfl rfl rfl (fun hc_ => y_eq32_eql (sft rfl hc_) (sft rfl hc_) h59_12 (Span.rep_mk H58_1 x59_13)) (sw0 []) ?_
            refine dt 15 65535 rfl trivial (y_pick_bb rfl (fun h_ => sft rfl h_) (fun _ => rfl)) (sw0 []) ?_
            refine dt 16 131071 rfl trivial (y_move rfl) (sw0 []) ?_
            refine dtt 17 262143 rfl rfl rfl (fun hc_ => y_move rfl) (sw0 []) ?_
            refine dtt 18 524287 rfl rfl rfl (fun hc_ => y_eql (sft rfl hc_) rfl) (sw0 []) ?_
            refine dt 19 1048575 rfl trivial (y_pick_bb rfl (fun h_ => sft rfl h_) (fun _ => rfl)) (sw0 []) ?_
            refine dt 20 2097151 rfl trivial (y_move rfl) (sw0 []) ?_
            refine dtt 21 4194303 rfl rfl rfl (fun hc_ => y_move rfl) (sw0 []) ?_
            refine dtt 22 8388607 rfl rfl rfl (fun hc_ => y_eql (sft rfl hc_) rfl) (sw0 []) ?_
            refine dt 23 16777215 rfl trivial (y_pick_bb rfl (fun h_ => sft rfl h_) (fun _ => rfl)) (sw0 []) ?_
            refine dt 24 33554431 rfl trivial (y_move rfl) (sw0 []) ?_
            refine dtt 25 67108863 rfl rfl rfl (fun hc_ => y_move rfl) (sw0 []) ?_
            refine dtt 26 134217727 rfl rfl rfl (fun hc_ => y_eql (sft rfl hc_) rfl) (sw0 []) ?_
            refine dt 27 268435455 rfl trivial (y_pick_bb rfl (fun h_ => sft rfl h_) (fun _ => rfl)) (sw0 []) ?_
            refine dt 28 536870911 rfl trivial (y_move rfl) (sw0 []) ?_
            refine dtt 29 1073741823 rfl rfl rfl (fun hc_ => y_move rfl) (sw0 []) ?_
            refine dtt 30 2147483647 rfl rfl rfl (fun hc_ => y_eql (sft rfl hc_) rfl) (sw0 []) ?_
            refine dt 31 4294967295 rfl trivial (y_pick_bb rfl (fun h_ => sft rfl h_) (fun _ => rfl)) (sw0 []) ?_
            refine dt 32 8589934591 rfl trivial (y_move rfl) (sw0 []) ?_
            refine dtt 33 17179869183 rfl rfl rfl (fun hc_ => y_move rfl) (sw0 []) ?_
            refine dtt 34 34359738367 rfl rfl rfl (fun hc_ => y_eql (sft rfl hc_) rfl) (sw0 []) ?_
            refine dt 35 68719476735 rfl trivial (y_pick_bb rfl (fun h_ => sft rfl h_) (fun _ => rfl)) (sw0 []) ?_
            refine dt 36 137438953471 rfl trivial (y_move rfl) (sw0 []) ?_
            refine dt 37 274877906943 rfl ⟨_, _, rfl, rfl, k59_38⟩ (y_move rfl) (sw0 []) ?_
            refine d1 38 rfl (e_buildSlice (xs := [.const (.int .i64 0), .const (.int .i64 1), .const (.int .i64 2)]) (cs := [.int .i64 0, .int .i64 1, .int .i64 2]) ⟨_, _, rfl, rfl, k59_38⟩ rfl Tryd.underlying26 ty3 rfl rfl rfl (by simp [Value.cells]) rfl (rfl) ?_)
            intro v59_38
            have h59_38 : RepL (α := Int) H58_1 ([.int .i64 0, .int .i64 1, .int .i64 2]) [0, 1, 2] := (RepL.cons (α := Int) (c := [.int .i64 0]) rfl (RepL.cons (α := Int) (c := [.int .i64 1]) rfl (RepL.cons (α := Int) (c := [.int .i64 2]) rfl (RepL.nil (α := Int)))))
            refine dn 549755813887 (sw0 []) ?_
            refine a_frow (i := 0) rfl rfl h59_38 rfl ?_
            intro H59_39g1f l59_39g1f h59_39g1f
            have h39_2q2f := Sl.mono l59_39g1f h39_2q2f
            have hb50_6 := PAt.mono l59_39g1f hb50_6
            have hb51_6 := PAt.mono l59_39g1f hb51_6
            have h54_2r0 := Sl.mono l59_39g1f h54_2r0
            have h55_1r0 := Sl.mono l59_39g1f h55_1r0
            have h55_1r1 := Sl.mono l59_39g1f h55_1r1
            have h58_1r0 := Sl.mono l59_39g1f h58_1r0
            have h59_3 := Rp.mono l59_39g1f h59_3
            have h59_12 := Rp.mono l59_39g1f h59_12
            have hg := Glob.mono l59_39g1f hg
            refine d1 39 rfl (e_callV (all := [v54_2r0, v59_38]) (v := .bool x59_39) ⟨_, _, rfl, rfl, k59_38⟩ rfl Tryd.func29 rfl rfl rfl rfl rfl (fun w hw => ok_29 hw h54_2r0 h59_39g1f q59_39) ?_)
            refine dn 1099511627775 (swl l59_39g1f []) ?_
            refine d_weaken (S' := Sw H59_39g1f []) (sw_sw l59_39g1f [] rfl) ?_
            refine dt 40 2199023255551 rfl trivial (y_pick_t rfl k59_38 rfl) (sw0 []) ?_
            refine dt 41 4398046511103 rfl trivial (y_move rfl) (sw0 []) ?_
            refine dtt 42 8796093022207 rfl rfl rfl (fun hc_ => y_move rfl) (sw0 []) ?_
            refine dtt 43 17592186044415 rfl rfl rfl (fun hc_ => y_eql (sft rfl hc_) rfl) (sw0 []) ?_
            refine dt 44 35184372088831 rfl trivial (y_pick_bb rfl (fun h_ => sft rfl h_) (fun _ => rfl)) (sw0 []) ?_
            refine dt 45 70368744177663 rfl trivial (y_move rfl) (sw0 []) ?_
            refine dt 46 140737488355327 rfl ⟨_, _, rfl, rfl, k59_48⟩ (y_move rfl) (sw0 []) ?_
            refine dt 47 281474976710655 rfl ⟨_, _, rfl, rfl, k59_48⟩ (y_move rfl) (sw0 []) ?_
            refine d1 48 rfl (e_callV (all := [v55_1r0, v38_0]) (v := .bool x59_48) ⟨_, _, rfl, rfl, k59_48⟩ rfl Tryd.func29 rfl rfl rfl rfl rfl (fun w hw => ok_29 hw h55_1r0 h39_2q2f q59_48) ?_)
            refine dn 562949953421311 (sw0 []) ?_
            refine dt 49 1125899906842623 rfl trivial (y_pick_t rfl k59_48 rfl) (sw0 []) ?_
            refine dt 50 2251799813685247 rfl trivial (y_move rfl) (sw0 []) ?_
            refine dt 51 4503599627370495 rfl ⟨_, _, rfl, rfl, k59_52⟩ (y_move rfl) (sw0 []) ?_
            refine d1 52 rfl (e_buildSlice (xs := [.const (.int .i64 0), .const (.int .i64 1), .const (.int .i64 2)]) (cs := [.int .i64 0, .int .i64 1, .int .i64 2]) ⟨_, _, rfl, rfl, k59_52⟩ rfl Tryd.underlying26 ty3 rfl rfl rfl (by simp [Value.cells]) rfl (rfl) ?_)
            intro v59_52
            have h59_52 : RepL (α := Int) H59_39g1f ([.int .i64 0, .int .i64 1, .int .i64 2]) [0, 1, 2] := (RepL.cons (α := Int) (c := [.int .i64 0]) rfl (RepL.cons (α := Int) (c := [.int .i64 1]) rfl (RepL.cons (α := Int) (c := [.int .i64 2]) rfl (RepL.nil (α := Int)))))
            refine dn 9007199254740991 (sw0 []) ?_
            refine a_frow (i := 0) rfl rfl h59_52 rfl ?_
            intro H59_53g1f l59_53g1f h59_53g1f
            have h39_2q2f := Sl.mono l59_53g1f h39_2q2f
            have hb50_6 := PAt.mono l59_53g1f hb50_6
            have hb51_6 := PAt.mono l59_53g1f hb51_6
            have h54_2r0 := Sl.mono l59_53g1f h54_2r0
            have h55_1r0 := Sl.mono l59_53g1f h55_1r0
            have h55_1r1 := Sl.mono l59_53g1f h55_1r1
            have h58_1r0 := Sl.mono l59_53g1f h58_1r0
            have h59_3 := Rp.mono l59_53g1f h59_3
            have h59_12 := Rp.mono l59_53g1f h59_12
            have h59_39g1f := Sl.mono l59_53g1f h59_39g1f
            have hg := Glob.mono l59_53g1f hg
            refine d1 53 rfl (e_callV (all := [v55_1r1, v59_52]) (v := .bool x59_53) ⟨_, _, rfl, rfl, k59_52⟩ rfl Tryd.func29 rfl rfl rfl rfl rfl (fun w hw => ok_29 hw h55_1r1 h59_53g1f q59_53) ?_)
            refine dn 18014398509481983 (swl l59_53g1f []) ?_
            refine d_weaken (S' := Sw H59_53g1f []) (sw_sw l59_53g1f [] rfl) ?_
            refine dt 54 36028797018963967 rfl trivial (y_pick_t rfl k59_52 rfl) (sw0 []) ?_
            refine dt 55 72057594037927935 rfl trivial (y_move rfl) (sw0 []) ?_
            refine dtt 56 144115188075855871 rfl rfl rfl (fun hc_ => y_move rfl) (sw0 []) ?_
            refine dtt 57 288230376151711743 rfl rfl rfl (fun hc_ => y_eql (sft rfl hc_) rfl) (sw0 []) ?_
            refine dt 58 576460752303423487 rfl trivial (y_pick_bb rfl (fun h_ => sft rfl h_) (fun _ => rfl)) (sw0 []) ?_
            refine dt 59 1152921504606846975 rfl trivial (y_move rfl) (sw0 []) ?_
            refine dtt 60 2305843009213693951 rfl rfl rfl (fun hc_ => y_move rfl) (sw0 []) ?_
            refine dtt 61 4611686018427387903 rfl rfl rfl (fun hc_ => y_eql (sft rfl hc_) rfl) (sw0 []) ?_
            refine dt 62 9223372036854775807 rfl trivial (y_pick_bb rfl (fun h_ => sft rfl h_) (fun _ => rfl)) (sw0 []) ?_
            refine dt 63 18446744073709551615 rfl trivial (y_move rfl) (sw0 []) ?_
            refine dtt 64 36893488147419103231 rfl rfl rfl (fun hc_ => y_move rfl) (sw0 []) ?_
            refine dtt 65 73786976294838206463 rfl rfl rfl (fun hc_ => y_eql (sft rfl hc_) rfl) (sw0 []) ?_
            refine dt 66 147573952589676412927 rfl trivial (y_pick_bb rfl (fun h_ => sft rfl h_) (fun _ => rfl)) (sw0 []) ?_
            refine dt 67 295147905179352825855 rfl trivial (y_move rfl) (sw0 []) ?_
            refine dtt 68 590295810358705651711 rfl rfl rfl (fun hc_ => y_move rfl) (sw0 []) ?_
            refine dtt 69 1180591620717411303423 rfl rfl rfl (fun hc_ => y_eql (sft rfl hc_) rfl) (sw0 []) ?_
            refine dt 70 2361183241434822606847 rfl trivial (y_pick_bb rfl (fun h_ => sft rfl h_) (fun _ => rfl)) (sw0 []) ?_
            refine dt 71 4722366482869645213695 rfl trivial (y_move rfl) (sw0 []) ?_
            refine dtt 72 9444732965739290427391 rfl rfl rfl (fun hc_ => y_move rfl) (sw0 []) ?_
            refine dtt 73 18889465931478580854783 rfl rfl rfl (fun hc_ => y_eql (sft rfl hc_) rfl) (sw0 []) ?_
            refine dt 74 37778931862957161709567 rfl trivial (y_pick_bb rfl (fun h_ => sft rfl h_) (fun _ => rfl)) (sw0 []) ?_
            refine dt 75 75557863725914323419135 rfl trivial (y_move rfl) (sw0 []) ?_
            refine dt 76 151115727451828646838271 rfl ⟨_, _, rfl, rfl, k59_77⟩ (y_move rfl) (sw0 []) ?_
            refine dt 77 302231454903657293676543 rfl ⟨_, _, rfl, rfl, k59_77⟩ (y_len_sl Tryd.underlying26 rfl h58_1r0) (sw0 []) ?_
            refine dt 78 604462909807314587353087 rfl ⟨_, _, rfl, rfl, k59_77⟩ (y_eql rfl rfl) (sw0 []) ?_
            refine dt 79 1208925819614629174706175 rfl trivial (y_pick_t rfl k59_77 rfl) (sw0 []) ?_
            refine dt 80 2417851639229258349412351 rfl trivial (y_move rfl) (sw0 []) ?_
            refine dt 81 4835703278458516698824703 rfl trivial (y_pick_bb rfl (fun _ => rfl) (fun _ => rfl)) (sw0 []) ?_
            refine dt 82 9671406556917033397649407 rfl trivial (y_move rfl) (sw0 []) ?_
            refine d1 83 rfl (p_skip (sk1 rfl rfl k59_83) rfl rfl ?_)
            refine dn 19342813113834066795298815 (sw0 []) ?_
            refine dt 84 38685626227668133590597631 rfl trivial (y_pick_f rfl k59_83 rfl) (sw0 []) ?_
            refine dt 85 77371252455336267181195263 rfl trivial (y_assign rfl) (sw0 []) ?_
            refine d_done (by kernel_rfl) ?_
            refine a_en [(0, .bool false)] ?_
            refine a_own [] (by decide) (L' := []) rfl ?_
            refine a_cut ?_
            intro a_ w_ ha_ hs_
            exact ⟨H59_53g1f, (l59_39g1f.trans l59_53g1f), false, Option.some.inj hm, ha_.weaken ⟨rfl, trivial⟩, hs_.reix [] (by decide)⟩
          have hm := cond_f k59_77 hm
          refine d_region (S := Sw H58_1 []) (n := 86) (listed := (bits 86 0)) mixed (by kernel_rfl) rfl (by kernel_rfl) ?_
          refine dt 0 1 rfl trivial (y_move rfl) (sw0 []) ?_
          refine dt 1 3 rfl trivial (y_eql rfl rfl) (sw0 []) ?_
          refine dt 2 7 rfl trivial (y_move rfl) (sw0 []) ?_
          obtain ⟨u59_3, h59_3, c59_3⟩ := PAt.one hb50_6
          refine dtt 3 15 rfl rfl rfl (fun hc_ => y_load_cells ty32 rfl (fun _ h => h.1) rfl c59_3 (Rp.len h59_3)) (sw0 []) ?_
          refine d1 4 rfl (e_callVt (all := [.int .i64 36, .int .i64 45]) (v := .agg x59_4.cells.toArray) rfl rfl rfl Tryd.func53 rfl rfl rfl (fun hc_ => (mpc rfl (mpc rfl mpn))) rfl (fun w hw => ok_53 hw q59_4) ?_)
          refine dn 31 (sw0 []) ?_
          refine dtt 5 63 rfl rfl rfl (fun hc_ => y_eq32_eql (sft rfl hc_) (sft rfl hc_) h59_3 (Span.rep_mk H58_1 x59_4)) (sw0 []) ?_
          refine dt 6 127 rfl trivial (y_pick_bb rfl (fun h_ => sft rfl h_) (fun _ => rfl)) (sw0 []) ?_
          refine dt 7 255 rfl trivial (y_move rfl) (sw0 []) ?_
          refine dtt 8 511 rfl rfl rfl (fun hc_ => y_move rfl) (sw0 []) ?_
          refine dtt 9 1023 rfl rfl rfl (fun hc_ => y_eql (sft rfl hc_) rfl) (sw0 []) ?_
          refine dt 10 2047 rfl trivial (y_pick_bb rfl (fun h_ => sft rfl h_) (fun _ => rfl)) (sw0 []) ?_
          refine dt 11 4095 rfl trivial (y_move rfl) (sw0 []) ?_
          obtain ⟨u59_12, h59_12, c59_12⟩ := PAt.one hb51_6
          refine dtt 12 8191 rfl rfl rfl (fun hc_ => y_load_cells ty32 rfl (fun _ h => h.1) rfl c59_12 (Rp.len h59_12)) (sw0 []) ?_
          refine d1 13 rfl (e_callVt (all := [.int .i64 36, .int .i64 45]) (v := .agg x59_13.cells.toArray) rfl rfl rfl Tryd.func53 rfl rfl rfl (fun hc_ => (mpc rfl (mpc rfl mpn))) rfl (fun w hw => ok_53 hw q59_13) ?_)
          refine dn 16383 (sw0 []) ?_
          refine dtt 14 32767 rfl rfl rfl (fun hc_ => y_eq32_eql (sft rfl hc_) (sft rfl hc_) h59_12 (Span.rep_mk H58_1 x59_13)) (sw0 []) ?_
          refine dt 15 65535 rfl trivial (y_pick_bb rfl (fun h_ => sft rfl h_) (fun _ => rfl)) (sw0 []) ?_
          refine dt 16 131071 rfl trivial (y_move rfl) (sw0 []) ?_
          refine dtt 17 262143 rfl rfl rfl (fun hc_ => y_move rfl) (sw0 []) ?_
          refine dtt 18 524287 rfl rfl rfl (fun hc_ => y_eql (sft rfl hc_) rfl) (sw0 []) ?_
          refine dt 19 1048575 rfl trivial (y_pick_bb rfl (fun h_ => sft rfl h_) (fun _ => rfl)) (sw0 []) ?_
          refine dt 20 2097151 rfl trivial (y_move rfl) (sw0 []) ?_
          refine dtt 21 4194303 rfl rfl rfl (fun hc_ => y_move rfl) (sw0 []) ?_
          refine dtt 22 8388607 rfl rfl rfl (fun hc_ => y_eql (sft rfl hc_) rfl) (sw0 []) ?_
          refine dt 23 16777215 rfl trivial (y_pick_bb rfl (fun h_ => sft rfl h_) (fun _ => rfl)) (sw0 []) ?_
          refine dt 24 33554431 rfl trivial (y_move rfl) (sw0 []) ?_
          refine dtt 25 67108863 rfl rfl rfl (fun hc_ => y_move rfl) (sw0 []) ?_
          refine dtt 26 134217727 rfl rfl rfl (fun hc_ => y_eql (sft rfl hc_) rfl) (sw0 []) ?_
          refine dt 27 268435455 rfl trivial (y_pick_bb rfl (fun h_ => sft rfl h_) (fun _ => rfl)) (sw0 []) ?_
          refine dt 28 536870911 rfl trivial (y_move rfl) (sw0 []) ?_
          refine dtt 29 1073741823 rfl rfl rfl (fun hc_ => y_move rfl) (sw0 []) ?_
          refine dtt 30 2147483647 rfl rfl rfl (fun hc_ => y_eql (sft rfl hc_) rfl) (sw0 []) ?_
          refine dt 31 4294967295 rfl trivial (y_pick_bb rfl (fun h_ => sft rfl h_) (fun _ => rfl)) (sw0 []) ?_
          refine dt 32 8589934591 rfl trivial (y_move rfl) (sw0 []) ?_
          refine dtt 33 17179869183 rfl rfl rfl (fun hc_ => y_move rfl) (sw0 []) ?_
          refine dtt 34 34359738367 rfl rfl rfl (fun hc_ => y_eql (sft rfl hc_) rfl) (sw0 []) ?_
          refine dt 35 68719476735 rfl trivial (y_pick_bb rfl (fun h_ => sft rfl h_) (fun _ => rfl)) (sw0 []) ?_
          refine dt 36 137438953471 rfl trivial (y_move rfl) (sw0 []) ?_
          refine dt 37 274877906943 rfl ⟨_, _, rfl, rfl, k59_38⟩ (y_move rfl) (sw0 []) ?_
          refine d1 38 rfl (e_buildSlice (xs := [.const (.int .i64 0), .const (.int .i64 1), .const (.int .i64 2)]) (cs := [.int .i64 0, .int .i64 1, .int .i64 2]) ⟨_, _, rfl, rfl, k59_38⟩ rfl Tryd.underlying26 ty3 rfl rfl rfl (by simp [Value.cells]) rfl (rfl) ?_)
          intro v59_38
          have h59_38 : RepL (α := Int) H58_1 ([.int .i64 0, .int .i64 1, .int .i64 2]) [0, 1, 2] := (RepL.cons (α := Int) (c := [.int .i64 0]) rfl (RepL.cons (α := Int) (c := [.int .i64 1]) rfl (RepL.cons (α := Int) (c := [.int .i64 2]) rfl (RepL.nil (α := Int)))))
          refine dn 549755813887 (sw0 []) ?_
          refine a_frow (i := 0) rfl rfl h59_38 rfl ?_
          intro H59_39g1f l59_39g1f h59_39g1f
          have h39_2q2f := Sl.mono l59_39g1f h39_2q2f
          have hb50_6 := PAt.mono l59_39g1f hb50_6
          have hb51_6 := PAt.mono l59_39g1f hb51_6
          have h54_2r0 := Sl.mono l59_39g1f h54_2r0
          have h55_1r0 := Sl.mono l59_39g1f h55_1r0
          have h55_1r1 := Sl.mono l59_39g1f h55_1r1
          have h58_1r0 := Sl.mono l59_39g1f h58_1r0
          have h59_3 := Rp.mono l59_39g1f h59_3
          have h59_12 := Rp.mono l59_39g1f h59_12
          have hg := Glob.mono l59_39g1f hg
          refine d1 39 rfl (e_callV (all := [v54_2r0, v59_38]) (v := .bool x59_39) ⟨_, _, rfl, rfl, k59_38⟩ rfl Tryd.func29 rfl rfl rfl rfl rfl (fun w hw => ok_29 hw h54_2r0 h59_39g1f q59_39) ?_)
          refine dn 1099511627775 (swl l59_39g1f []) ?_
          refine d_weaken (S' := Sw H59_39g1f []) (sw_sw l59_39g1f [] rfl) ?_
          refine dt 40 2199023255551 rfl trivial (y_pick_t rfl k59_38 rfl) (sw0 []) ?_
          refine dt 41 4398046511103 rfl trivial (y_move rfl) (sw0 []) ?_
          refine dtt 42 8796093022207 rfl rfl rfl (fun hc_ => y_move rfl) (sw0 []) ?_
          refine dtt 43 17592186044415 rfl rfl rfl (fun hc_ => y_eql (sft rfl hc_) rfl) (sw0 []) ?_
          refine dt 44 35184372088831 rfl trivial (y_pick_bb rfl (fun h_ => sft rfl h_) (fun _ => rfl)) (sw0 []) ?_
          refine dt 45 70368744177663 rfl trivial (y_move rfl) (sw0 []) ?_
          refine dt 46 140737488355327 rfl ⟨_, _, rfl, rfl, k59_48⟩ (y_move rfl) (sw0 []) ?_
          refine dt 47 281474976710655 rfl ⟨_, _, rfl, rfl, k59_48⟩ (y_move rfl) (sw0 []) ?_
          refine d1 48 rfl (e_callV (all := [v55_1r0, v38_0]) (v := .bool x59_48) ⟨_, _, rfl, rfl, k59_48⟩ rfl Tryd.func29 rfl rfl rfl rfl rfl (fun w hw => ok_29 hw h55_1r0 h39_2q2f q59_48) ?_)
          refine dn 562949953421311 (sw0 []) ?_
          refine dt 49 1125899906842623 rfl trivial (y_pick_t rfl k59_48 rfl) (sw0 []) ?_
          refine dt 50 2251799813685247 rfl trivial (y_move rfl) (sw0 []) ?_
          refine dt 51 4503599627370495 rfl ⟨_, _, rfl, rfl, k59_52⟩ (y_move rfl) (sw0 []) ?_
          refine d1 52 rfl (e_buildSlice (xs := [.const (.int .i64 0), .const (.int .i64 1), .const (.int .i64 2)]) (cs := [.int .i64 0, .int .i64 1, .int .i64 2]) ⟨_, _, rfl, rfl, k59_52⟩ rfl Tryd.underlying26 ty3 rfl rfl rfl (by simp [Value.cells]) rfl (rfl) ?_)
          intro v59_52
          have h59_52 : RepL (α := Int) H59_39g1f ([.int .i64 0, .int .i64 1, .int .i64 2]) [0, 1, 2] := (RepL.cons (α := Int) (c := [.int .i64 0]) rfl (RepL.cons (α := Int) (c := [.int .i64 1]) rfl (RepL.cons (α := Int) (c := [.int .i64 2]) rfl (RepL.nil (α := Int)))))
          refine dn 9007199254740991 (sw0 []) ?_
          refine a_frow (i := 0) rfl rfl h59_52 rfl ?_
          intro H59_53g1f l59_53g1f h59_53g1f
          have h39_2q2f := Sl.mono l59_53g1f h39_2q2f
          have hb50_6 := PAt.mono l59_53g1f hb50_6
          have hb51_6 := PAt.mono l59_53g1f hb51_6
          have h54_2r0 := Sl.mono l59_53g1f h54_2r0
          have h55_1r0 := Sl.mono l59_53g1f h55_1r0
          have h55_1r1 := Sl.mono l59_53g1f h55_1r1
          have h58_1r0 := Sl.mono l59_53g1f h58_1r0
          have h59_3 := Rp.mono l59_53g1f h59_3
          have h59_12 := Rp.mono l59_53g1f h59_12
          have h59_39g1f := Sl.mono l59_53g1f h59_39g1f
          have hg := Glob.mono l59_53g1f hg
          refine d1 53 rfl (e_callV (all := [v55_1r1, v59_52]) (v := .bool x59_53) ⟨_, _, rfl, rfl, k59_52⟩ rfl Tryd.func29 rfl rfl rfl rfl rfl (fun w hw => ok_29 hw h55_1r1 h59_53g1f q59_53) ?_)
          refine dn 18014398509481983 (swl l59_53g1f []) ?_
          refine d_weaken (S' := Sw H59_53g1f []) (sw_sw l59_53g1f [] rfl) ?_
          refine dt 54 36028797018963967 rfl trivial (y_pick_t rfl k59_52 rfl) (sw0 []) ?_
          refine dt 55 72057594037927935 rfl trivial (y_move rfl) (sw0 []) ?_
          refine dtt 56 144115188075855871 rfl rfl rfl (fun hc_ => y_move rfl) (sw0 []) ?_
          refine dtt 57 288230376151711743 rfl rfl rfl (fun hc_ => y_eql (sft rfl hc_) rfl) (sw0 []) ?_
          refine dt 58 576460752303423487 rfl trivial (y_pick_bb rfl (fun h_ => sft rfl h_) (fun _ => rfl)) (sw0 []) ?_
          refine dt 59 1152921504606846975 rfl trivial (y_move rfl) (sw0 []) ?_
          refine dtt 60 2305843009213693951 rfl rfl rfl (fun hc_ => y_move rfl) (sw0 []) ?_
          refine dtt 61 4611686018427387903 rfl rfl rfl (fun hc_ => y_eql (sft rfl hc_) rfl) (sw0 []) ?_
          refine dt 62 9223372036854775807 rfl trivial (y_pick_bb rfl (fun h_ => sft rfl h_) (fun _ => rfl)) (sw0 []) ?_
          refine dt 63 18446744073709551615 rfl trivial (y_move rfl) (sw0 []) ?_
          refine dtt 64 36893488147419103231 rfl rfl rfl (fun hc_ => y_move rfl) (sw0 []) ?_
          refine dtt 65 73786976294838206463 rfl rfl rfl (fun hc_ => y_eql (sft rfl hc_) rfl) (sw0 []) ?_
          refine dt 66 147573952589676412927 rfl trivial (y_pick_bb rfl (fun h_ => sft rfl h_) (fun _ => rfl)) (sw0 []) ?_
          refine dt 67 295147905179352825855 rfl trivial (y_move rfl) (sw0 []) ?_
          refine dtt 68 590295810358705651711 rfl rfl rfl (fun hc_ => y_move rfl) (sw0 []) ?_
          refine dtt 69 1180591620717411303423 rfl rfl rfl (fun hc_ => y_eql (sft rfl hc_) rfl) (sw0 []) ?_
          refine dt 70 2361183241434822606847 rfl trivial (y_pick_bb rfl (fun h_ => sft rfl h_) (fun _ => rfl)) (sw0 []) ?_
          refine dt 71 4722366482869645213695 rfl trivial (y_move rfl) (sw0 []) ?_
          refine dtt 72 9444732965739290427391 rfl rfl rfl (fun hc_ => y_move rfl) (sw0 []) ?_
          refine dtt 73 18889465931478580854783 rfl rfl rfl (fun hc_ => y_eql (sft rfl hc_) rfl) (sw0 []) ?_
          refine dt 74 37778931862957161709567 rfl trivial (y_pick_bb rfl (fun h_ => sft rfl h_) (fun _ => rfl)) (sw0 []) ?_
          refine dt 75 75557863725914323419135 rfl trivial (y_move rfl) (sw0 []) ?_
          refine dk 76 151115727451828646838271 rfl (sk1 rfl rfl k59_77) (sw0 []) ?_
          refine dk 77 302231454903657293676543 rfl (sk1 rfl rfl k59_77) (sw0 []) ?_
          refine dk 78 604462909807314587353087 rfl (sk1 rfl rfl k59_77) (sw0 []) ?_
          refine dt 79 1208925819614629174706175 rfl trivial (y_pick_f rfl k59_77 rfl) (sw0 []) ?_
          refine dt 80 2417851639229258349412351 rfl trivial (y_move rfl) (sw0 []) ?_
          refine dt 81 4835703278458516698824703 rfl trivial (y_pick_f rfl rfl rfl) (sw0 []) ?_
          refine dt 82 9671406556917033397649407 rfl trivial (y_move rfl) (sw0 []) ?_
          refine d1 83 rfl (p_skip (sk1 rfl rfl rfl) rfl rfl ?_)
          refine dn 19342813113834066795298815 (sw0 []) ?_
          refine dt 84 38685626227668133590597631 rfl trivial (y_pick_f rfl rfl rfl) (sw0 []) ?_
          refine dt 85 77371252455336267181195263 rfl trivial (y_assign rfl) (sw0 []) ?_
          refine d_done (by kernel_rfl) ?_
          refine a_en [(0, .bool false)] ?_
          refine a_own [] (by decide) (L' := []) rfl ?_
          refine a_cut ?_
          intro a_ w_ ha_ hs_
          exact ⟨H59_53g1f, (l59_39g1f.trans l59_53g1f), false, Option.some.inj hm, ha_.weaken ⟨rfl, trivial⟩, hs_.reix [] (by decide)⟩
        have hm := cond_f k59_52 hm
        refine d_region (S := Sw H58_1 []) (n := 86) (listed := (bits 86 0)) mixed (by kernel_rfl) rfl (by kernel_rfl) ?_
        refine dt 0 1 rfl trivial (y_move rfl) (sw0 []) ?_
        refine dt 1 3 rfl trivial (y_eql rfl rfl) (sw0 []) ?_
        refine dt 2 7 rfl trivial (y_move rfl) (sw0 []) ?_
        obtain ⟨u59_3, h59_3, c59_3⟩ := PAt.one hb50_6
        refine dtt 3 15 rfl rfl rfl (fun hc_ => y_load_cells ty32 rfl (fun _ h => h.1) rfl c59_3 (Rp.len h59_3)) (sw0 []) ?_
        refine d1 4 rfl (e_callVt (all := [.int .i64 36, .int .i64 45]) (v := .agg x59_4.cells.toArray) rfl rfl rfl Tryd.func53 rfl rfl rfl (fun hc_ => (mpc rfl (mpc rfl mpn))) rfl (fun w hw => ok_53 hw q59_4) ?_)
        refine dn 31 (sw0 []) ?_
        refine dtt 5 63 rfl rfl rfl (fun hc_ => y_eq32_eql (sft rfl hc_) (sft rfl hc_) h59_3 (Span.rep_mk H58_1 x59_4)) (sw0 []) ?_
        refine dt 6 127 rfl trivial (y_pick_bb rfl (fun h_ => sft rfl h_) (fun _ => rfl)) (sw0 []) ?_
        refine dt 7 255 rfl trivial (y_move rfl) (sw0 []) ?_
        refine dtt 8 511 rfl rfl rfl (fun hc_ => y_move rfl) (sw0 []) ?_
        refine dtt 9 1023 rfl rfl rfl (fun hc_ => y_eql (sft rfl hc_) rfl) (sw0 []) ?_
        refine dt 10 2047 rfl trivial (y_pick_bb rfl (fun h_ => sft rfl h_) (fun _ => rfl)) (sw0 []) ?_
        refine dt 11 4095 rfl trivial (y_move rfl) (sw0 []) ?_
        obtain ⟨u59_12, h59_12, c59_12⟩ := PAt.one hb51_6
        refine dtt 12 8191 rfl rfl rfl (fun hc_ => y_load_cells ty32 rfl (fun _ h => h.1) rfl c59_12 (Rp.len h59_12)) (sw0 []) ?_
        refine d1 13 rfl (e_callVt (all := [.int .i64 36, .int .i64 45]) (v := .agg x59_13.cells.toArray) rfl rfl rfl Tryd.func53 rfl rfl rfl (fun hc_ => (mpc rfl (mpc rfl mpn))) rfl (fun w hw => ok_53 hw q59_13) ?_)
        refine dn 16383 (sw0 []) ?_
        refine dtt 14 32767 rfl rfl rfl (fun hc_ => y_eq32_eql (sft rfl hc_) (sft rfl hc_) h59_12 (Span.rep_mk H58_1 x59_13)) (sw0 []) ?_
        refine dt 15 65535 rfl trivial (y_pick_bb rfl (fun h_ => sft rfl h_) (fun _ => rfl)) (sw0 []) ?_
        refine dt 16 131071 rfl trivial (y_move rfl) (sw0 []) ?_
        refine dtt 17 262143 rfl rfl rfl (fun hc_ => y_move rfl) (sw0 []) ?_
        refine dtt 18 524287 rfl rfl rfl (fun hc_ => y_eql (sft rfl hc_) rfl) (sw0 []) ?_
        refine dt 19 1048575 rfl trivial (y_pick_bb rfl (fun h_ => sft rfl h_) (fun _ => rfl)) (sw0 []) ?_
        refine dt 20 2097151 rfl trivial (y_move rfl) (sw0 []) ?_
        refine dtt 21 4194303 rfl rfl rfl (fun hc_ => y_move rfl) (sw0 []) ?_
        refine dtt 22 8388607 rfl rfl rfl (fun hc_ => y_eql (sft rfl hc_) rfl) (sw0 []) ?_
        refine dt 23 16777215 rfl trivial (y_pick_bb rfl (fun h_ => sft rfl h_) (fun _ => rfl)) (sw0 []) ?_
        refine dt 24 33554431 rfl trivial (y_move rfl) (sw0 []) ?_
        refine dtt 25 67108863 rfl rfl rfl (fun hc_ => y_move rfl) (sw0 []) ?_
        refine dtt 26 134217727 rfl rfl rfl (fun hc_ => y_eql (sft rfl hc_) rfl) (sw0 []) ?_
        refine dt 27 268435455 rfl trivial (y_pick_bb rfl (fun h_ => sft rfl h_) (fun _ => rfl)) (sw0 []) ?_
        refine dt 28 536870911 rfl trivial (y_move rfl) (sw0 []) ?_
        refine dtt 29 1073741823 rfl rfl rfl (fun hc_ => y_move rfl) (sw0 []) ?_
        refine dtt 30 2147483647 rfl rfl rfl (fun hc_ => y_eql (sft rfl hc_) rfl) (sw0 []) ?_
        refine dt 31 4294967295 rfl trivial (y_pick_bb rfl (fun h_ => sft rfl h_) (fun _ => rfl)) (sw0 []) ?_
        refine dt 32 8589934591 rfl trivial (y_move rfl) (sw0 []) ?_
        refine dtt 33 17179869183 rfl rfl rfl (fun hc_ => y_move rfl) (sw0 []) ?_
        refine dtt 34 34359738367 rfl rfl rfl (fun hc_ => y_eql (sft rfl hc_) rfl) (sw0 []) ?_
        refine dt 35 68719476735 rfl trivial (y_pick_bb rfl (fun h_ => sft rfl h_) (fun _ => rfl)) (sw0 []) ?_
        refine dt 36 137438953471 rfl trivial (y_move rfl) (sw0 []) ?_
        refine dt 37 274877906943 rfl ⟨_, _, rfl, rfl, k59_38⟩ (y_move rfl) (sw0 []) ?_
        refine d1 38 rfl (e_buildSlice (xs := [.const (.int .i64 0), .const (.int .i64 1), .const (.int .i64 2)]) (cs := [.int .i64 0, .int .i64 1, .int .i64 2]) ⟨_, _, rfl, rfl, k59_38⟩ rfl Tryd.underlying26 ty3 rfl rfl rfl (by simp [Value.cells]) rfl (rfl) ?_)
        intro v59_38
        have h59_38 : RepL (α := Int) H58_1 ([.int .i64 0, .int .i64 1, .int .i64 2]) [0, 1, 2] := (RepL.cons (α := Int) (c := [.int .i64 0]) rfl (RepL.cons (α := Int) (c := [.int .i64 1]) rfl (RepL.cons (α := Int) (c := [.int .i64 2]) rfl (RepL.nil (α := Int)))))
        refine dn 549755813887 (sw0 []) ?_
        refine a_frow (i := 0) rfl rfl h59_38 rfl ?_
        intro H59_39g1f l59_39g1f h59_39g1f
        have h39_2q2f := Sl.mono l59_39g1f h39_2q2f
        have hb50_6 := PAt.mono l59_39g1f hb50_6
        have hb51_6 := PAt.mono l59_39g1f hb51_6
        have h54_2r0 := Sl.mono l59_39g1f h54_2r0
        have h55_1r0 := Sl.mono l59_39g1f h55_1r0
        have h55_1r1 := Sl.mono l59_39g1f h55_1r1
        have h58_1r0 := Sl.mono l59_39g1f h58_1r0
        have h59_3 := Rp.mono l59_39g1f h59_3
        have h59_12 := Rp.mono l59_39g1f h59_12
        have hg := Glob.mono l59_39g1f hg
        refine d1 39 rfl (e_callV (all := [v54_2r0, v59_38]) (v := .bool x59_39) ⟨_, _, rfl, rfl, k59_38⟩ rfl Tryd.func29 rfl rfl rfl rfl rfl (fun w hw => ok_29 hw h54_2r0 h59_39g1f q59_39) ?_)
        refine dn 1099511627775 (swl l59_39g1f []) ?_
        refine d_weaken (S' := Sw H59_39g1f []) (sw_sw l59_39g1f [] rfl) ?_
        refine dt 40 2199023255551 rfl trivial (y_pick_t rfl k59_38 rfl) (sw0 []) ?_
        refine dt 41 4398046511103 rfl trivial (y_move rfl) (sw0 []) ?_
        refine dtt 42 8796093022207 rfl rfl rfl (fun hc_ => y_move rfl) (sw0 []) ?_
        refine dtt 43 17592186044415 rfl rfl rfl (fun hc_ => y_eql (sft rfl hc_) rfl) (sw0 []) ?_
        refine dt 44 35184372088831 rfl trivial (y_pick_bb rfl (fun h_ => sft rfl h_) (fun _ => rfl)) (sw0 []) ?_
        refine dt 45 70368744177663 rfl trivial (y_move rfl) (sw0 []) ?_
        refine dt 46 140737488355327 rfl ⟨_, _, rfl, rfl, k59_48⟩ (y_move rfl) (sw0 []) ?_
        refine dt 47 281474976710655 rfl ⟨_, _, rfl, rfl, k59_48⟩ (y_move rfl) (sw0 []) ?_
        refine d1 48 rfl (e_callV (all := [v55_1r0, v38_0]) (v := .bool x59_48) ⟨_, _, rfl, rfl, k59_48⟩ rfl Tryd.func29 rfl rfl rfl rfl rfl (fun w hw => ok_29 hw h55_1r0 h39_2q2f q59_48) ?_)
        refine dn 562949953421311 (sw0 []) ?_
        refine dt 49 1125899906842623 rfl trivial (y_pick_t rfl k59_48 rfl) (sw0 []) ?_
        refine dt 50 2251799813685247 rfl trivial (y_move rfl) (sw0 []) ?_
        refine dk 51 4503599627370495 rfl (sk1 rfl rfl k59_52) (sw0 []) ?_
        refine d1 52 rfl (p_skip (sk1 rfl rfl k59_52) rfl rfl ?_)
        refine dn 9007199254740991 (sw0 []) ?_
        refine d1 53 rfl (p_skip (sk1 rfl rfl k59_52) rfl rfl ?_)
        refine dn 18014398509481983 (sw0 []) ?_
        refine dt 54 36028797018963967 rfl trivial (y_pick_f rfl k59_52 rfl) (sw0 []) ?_
        refine dt 55 72057594037927935 rfl trivial (y_move rfl) (sw0 []) ?_
        refine dk 56 144115188075855871 rfl (sk1 rfl rfl rfl) (sw0 []) ?_
        refine dk 57 288230376151711743 rfl (sk1 rfl rfl rfl) (sw0 []) ?_
        refine dt 58 576460752303423487 rfl trivial (y_pick_f rfl rfl rfl) (sw0 []) ?_
        refine dt 59 1152921504606846975 rfl trivial (y_move rfl) (sw0 []) ?_
        refine dk 60 2305843009213693951 rfl (sk1 rfl rfl rfl) (sw0 []) ?_
        refine dk 61 4611686018427387903 rfl (sk1 rfl rfl rfl) (sw0 []) ?_
        refine dt 62 9223372036854775807 rfl trivial (y_pick_f rfl rfl rfl) (sw0 []) ?_
        refine dt 63 18446744073709551615 rfl trivial (y_move rfl) (sw0 []) ?_
        refine dk 64 36893488147419103231 rfl (sk1 rfl rfl rfl) (sw0 []) ?_
        refine dk 65 73786976294838206463 rfl (sk1 rfl rfl rfl) (sw0 []) ?_
        refine dt 66 147573952589676412927 rfl trivial (y_pick_f rfl rfl rfl) (sw0 []) ?_
        refine dt 67 295147905179352825855 rfl trivial (y_move rfl) (sw0 []) ?_
        refine dk 68 590295810358705651711 rfl (sk1 rfl rfl rfl) (sw0 []) ?_
        refine dk 69 1180591620717411303423 rfl (sk1 rfl rfl rfl) (sw0 []) ?_
        refine dt 70 2361183241434822606847 rfl trivial (y_pick_f rfl rfl rfl) (sw0 []) ?_
        refine dt 71 4722366482869645213695 rfl trivial (y_move rfl) (sw0 []) ?_
        refine dk 72 9444732965739290427391 rfl (sk1 rfl rfl rfl) (sw0 []) ?_
        refine dk 73 18889465931478580854783 rfl (sk1 rfl rfl rfl) (sw0 []) ?_
        refine dt 74 37778931862957161709567 rfl trivial (y_pick_f rfl rfl rfl) (sw0 []) ?_
        refine dt 75 75557863725914323419135 rfl trivial (y_move rfl) (sw0 []) ?_
        refine dk 76 151115727451828646838271 rfl (sk1 rfl rfl rfl) (sw0 []) ?_
        refine dk 77 302231454903657293676543 rfl (sk1 rfl rfl rfl) (sw0 []) ?_
        refine dk 78 604462909807314587353087 rfl (sk1 rfl rfl rfl) (sw0 []) ?_
        refine dt 79 1208925819614629174706175 rfl trivial (y_pick_f rfl rfl rfl) (sw0 []) ?_
        refine dt 80 2417851639229258349412351 rfl trivial (y_move rfl) (sw0 []) ?_
        refine dt 81 4835703278458516698824703 rfl trivial (y_pick_f rfl rfl rfl) (sw0 []) ?_
        refine dt 82 9671406556917033397649407 rfl trivial (y_move rfl) (sw0 []) ?_
        refine d1 83 rfl (p_skip (sk1 rfl rfl rfl) rfl rfl ?_)
        refine dn 19342813113834066795298815 (sw0 []) ?_
        refine dt 84 38685626227668133590597631 rfl trivial (y_pick_f rfl rfl rfl) (sw0 []) ?_
        refine dt 85 77371252455336267181195263 rfl trivial (y_assign rfl) (sw0 []) ?_
        refine d_done (by kernel_rfl) ?_
        refine a_en [(0, .bool false)] ?_
        refine a_own [] (by decide) (L' := []) rfl ?_
        refine a_cut ?_
        intro a_ w_ ha_ hs_
        exact ⟨H59_39g1f, l59_39g1f, false, Option.some.inj hm, ha_.weaken ⟨rfl, trivial⟩, hs_.reix [] (by decide)⟩
      have hm := cond_f k59_48 hm
      refine d_region (S := Sw H58_1 []) (n := 86) (listed := (bits 86 0)) mixed (by kernel_rfl) rfl (by kernel_rfl) ?_
      refine dt 0 1 rfl trivial (y_move rfl) (sw0 []) ?_
      refine dt 1 3 rfl trivial (y_eql rfl rfl) (sw0 []) ?_
      refine dt 2 7 rfl trivial (y_move rfl) (sw0 []) ?_
      obtain ⟨u59_3, h59_3, c59_3⟩ := PAt.one hb50_6
      refine dtt 3 15 rfl rfl rfl (fun hc_ => y_load_cells ty32 rfl (fun _ h => h.1) rfl c59_3 (Rp.len h59_3)) (sw0 []) ?_
      refine d1 4 rfl (e_callVt (all := [.int .i64 36, .int .i64 45]) (v := .agg x59_4.cells.toArray) rfl rfl rfl Tryd.func53 rfl rfl rfl (fun hc_ => (mpc rfl (mpc rfl mpn))) rfl (fun w hw => ok_53 hw q59_4) ?_)
      refine dn 31 (sw0 []) ?_
      refine dtt 5 63 rfl rfl rfl (fun hc_ => y_eq32_eql (sft rfl hc_) (sft rfl hc_) h59_3 (Span.rep_mk H58_1 x59_4)) (sw0 []) ?_
      refine dt 6 127 rfl trivial (y_pick_bb rfl (fun h_ => sft rfl h_) (fun _ => rfl)) (sw0 []) ?_
      refine dt 7 255 rfl trivial (y_move rfl) (sw0 []) ?_
      refine dtt 8 511 rfl rfl rfl (fun hc_ => y_move rfl) (sw0 []) ?_
      refine dtt 9 1023 rfl rfl rfl (fun hc_ => y_eql (sft rfl hc_) rfl) (sw0 []) ?_
      refine dt 10 2047 rfl trivial (y_pick_bb rfl (fun h_ => sft rfl h_) (fun _ => rfl)) (sw0 []) ?_
      refine dt 11 4095 rfl trivial (y_move rfl) (sw0 []) ?_
      obtain ⟨u59_12, h59_12, c59_12⟩ := PAt.one hb51_6
      refine dtt 12 8191 rfl rfl rfl (fun hc_ => y_load_cells ty32 rfl (fun _ h => h.1) rfl c59_12 (Rp.len h59_12)) (sw0 []) ?_
      refine d1 13 rfl (e_callVt (all := [.int .i64 36, .int .i64 45]) (v := .agg x59_13.cells.toArray) rfl rfl rfl Tryd.func53 rfl rfl rfl (fun hc_ => (mpc rfl (mpc rfl mpn))) rfl (fun w hw => ok_53 hw q59_13) ?_)
      refine dn 16383 (sw0 []) ?_
      refine dtt 14 32767 rfl rfl rfl (fun hc_ => y_eq32_eql (sft rfl hc_) (sft rfl hc_) h59_12 (Span.rep_mk H58_1 x59_13)) (sw0 []) ?_
      refine dt 15 65535 rfl trivial (y_pick_bb rfl (fun h_ => sft rfl h_) (fun _ => rfl)) (sw0 []) ?_
      refine dt 16 131071 rfl trivial (y_move rfl) (sw0 []) ?_
      refine dtt 17 262143 rfl rfl rfl (fun hc_ => y_move rfl) (sw0 []) ?_
      refine dtt 18 524287 rfl rfl rfl (fun hc_ => y_eql (sft rfl hc_) rfl) (sw0 []) ?_
      refine dt 19 1048575 rfl trivial (y_pick_bb rfl (fun h_ => sft rfl h_) (fun _ => rfl)) (sw0 []) ?_
      refine dt 20 2097151 rfl trivial (y_move rfl) (sw0 []) ?_
      refine dtt 21 4194303 rfl rfl rfl (fun hc_ => y_move rfl) (sw0 []) ?_
      refine dtt 22 8388607 rfl rfl rfl (fun hc_ => y_eql (sft rfl hc_) rfl) (sw0 []) ?_
      refine dt 23 16777215 rfl trivial (y_pick_bb rfl (fun h_ => sft rfl h_) (fun _ => rfl)) (sw0 []) ?_
      refine dt 24 33554431 rfl trivial (y_move rfl) (sw0 []) ?_
      refine dtt 25 67108863 rfl rfl rfl (fun hc_ => y_move rfl) (sw0 []) ?_
      refine dtt 26 134217727 rfl rfl rfl (fun hc_ => y_eql (sft rfl hc_) rfl) (sw0 []) ?_
      refine dt 27 268435455 rfl trivial (y_pick_bb rfl (fun h_ => sft rfl h_) (fun _ => rfl)) (sw0 []) ?_
      refine dt 28 536870911 rfl trivial (y_move rfl) (sw0 []) ?_
      refine dtt 29 1073741823 rfl rfl rfl (fun hc_ => y_move rfl) (sw0 []) ?_
      refine dtt 30 2147483647 rfl rfl rfl (fun hc_ => y_eql (sft rfl hc_) rfl) (sw0 []) ?_
      refine dt 31 4294967295 rfl trivial (y_pick_bb rfl (fun h_ => sft rfl h_) (fun _ => rfl)) (sw0 []) ?_
      refine dt 32 8589934591 rfl trivial (y_move rfl) (sw0 []) ?_
      refine dtt 33 17179869183 rfl rfl rfl (fun hc_ => y_move rfl) (sw0 []) ?_
      refine dtt 34 34359738367 rfl rfl rfl (fun hc_ => y_eql (sft rfl hc_) rfl) (sw0 []) ?_
      refine dt 35 68719476735 rfl trivial (y_pick_bb rfl (fun h_ => sft rfl h_) (fun _ => rfl)) (sw0 []) ?_
      refine dt 36 137438953471 rfl trivial (y_move rfl) (sw0 []) ?_
      refine dt 37 274877906943 rfl ⟨_, _, rfl, rfl, k59_38⟩ (y_move rfl) (sw0 []) ?_
      refine d1 38 rfl (e_buildSlice (xs := [.const (.int .i64 0), .const (.int .i64 1), .const (.int .i64 2)]) (cs := [.int .i64 0, .int .i64 1, .int .i64 2]) ⟨_, _, rfl, rfl, k59_38⟩ rfl Tryd.underlying26 ty3 rfl rfl rfl (by simp [Value.cells]) rfl (rfl) ?_)
      intro v59_38
      have h59_38 : RepL (α := Int) H58_1 ([.int .i64 0, .int .i64 1, .int .i64 2]) [0, 1, 2] := (RepL.cons (α := Int) (c := [.int .i64 0]) rfl (RepL.cons (α := Int) (c := [.int .i64 1]) rfl (RepL.cons (α := Int) (c := [.int .i64 2]) rfl (RepL.nil (α := Int)))))
      refine dn 549755813887 (sw0 []) ?_
      refine a_frow (i := 0) rfl rfl h59_38 rfl ?_
      intro H59_39g1f l59_39g1f h59_39g1f
      have h39_2q2f := Sl.mono l59_39g1f h39_2q2f
      have hb50_6 := PAt.mono l59_39g1f hb50_6
      have hb51_6 := PAt.mono l59_39g1f hb51_6
      have h54_2r0 := Sl.mono l59_39g1f h54_2r0
      have h55_1r0 := Sl.mono l59_39g1f h55_1r0
      have h55_1r1 := Sl.mono l59_39g1f h55_1r1
      have h58_1r0 := Sl.mono l59_39g1f h58_1r0
      have h59_3 := Rp.mono l59_39g1f h59_3
      have h59_12 := Rp.mono l59_39g1f h59_12
      have hg := Glob.mono l59_39g1f hg
      refine d1 39 rfl (e_callV (all := [v54_2r0, v59_38]) (v := .bool x59_39) ⟨_, _, rfl, rfl, k59_38⟩ rfl Tryd.func29 rfl rfl rfl rfl rfl (fun w hw => ok_29 hw h54_2r0 h59_39g1f q59_39) ?_)
      refine dn 1099511627775 (swl l59_39g1f []) ?_
      refine d_weaken (S' := Sw H59_39g1f []) (sw_sw l59_39g1f [] rfl) ?_
      refine dt 40 2199023255551 rfl trivial (y_pick_t rfl k59_38 rfl) (sw0 []) ?_
      refine dt 41 4398046511103 rfl trivial (y_move rfl) (sw0 []) ?_
      refine dtt 42 8796093022207 rfl rfl rfl (fun hc_ => y_move rfl) (sw0 []) ?_
      refine dtt 43 17592186044415 rfl rfl rfl (fun hc_ => y_eql (sft rfl hc_) rfl) (sw0 []) ?_
      refine dt 44 35184372088831 rfl trivial (y_pick_bb rfl (fun h_ => sft rfl h_) (fun _ => rfl)) (sw0 []) ?_
      refine dt 45 70368744177663 rfl trivial (y_move rfl) (sw0 []) ?_
      refine dk 46 140737488355327 rfl (sk1 rfl rfl k59_48) (sw0 []) ?_
      refine dk 47 281474976710655 rfl (sk1 rfl rfl k59_48) (sw0 []) ?_
      refine d1 48 rfl (p_skip (sk1 rfl rfl k59_48) rfl rfl ?_)
      refine dn 562949953421311 (sw0 []) ?_
      refine dt 49 1125899906842623 rfl trivial (y_pick_f rfl k59_48 rfl) (sw0 []) ?_
      refine dt 50 2251799813685247 rfl trivial (y_move rfl) (sw0 []) ?_
      refine dk 51 4503599627370495 rfl (sk1 rfl rfl rfl) (sw0 []) ?_
      refine d1 52 rfl (p_skip (sk1 rfl rfl rfl) rfl rfl ?_)
      refine dn 9007199254740991 (sw0 []) ?_
      refine d1 53 rfl (p_skip (sk1 rfl rfl rfl) rfl rfl ?_)
      refine dn 18014398509481983 (sw0 []) ?_
      refine dt 54 36028797018963967 rfl trivial (y_pick_f rfl rfl rfl) (sw0 []) ?_
      refine dt 55 72057594037927935 rfl trivial (y_move rfl) (sw0 []) ?_
      refine dk 56 144115188075855871 rfl (sk1 rfl rfl rfl) (sw0 []) ?_
      refine dk 57 288230376151711743 rfl (sk1 rfl rfl rfl) (sw0 []) ?_
      refine dt 58 576460752303423487 rfl trivial (y_pick_f rfl rfl rfl) (sw0 []) ?_
      refine dt 59 1152921504606846975 rfl trivial (y_move rfl) (sw0 []) ?_
      refine dk 60 2305843009213693951 rfl (sk1 rfl rfl rfl) (sw0 []) ?_
      refine dk 61 4611686018427387903 rfl (sk1 rfl rfl rfl) (sw0 []) ?_
      refine dt 62 9223372036854775807 rfl trivial (y_pick_f rfl rfl rfl) (sw0 []) ?_
      refine dt 63 18446744073709551615 rfl trivial (y_move rfl) (sw0 []) ?_
      refine dk 64 36893488147419103231 rfl (sk1 rfl rfl rfl) (sw0 []) ?_
      refine dk 65 73786976294838206463 rfl (sk1 rfl rfl rfl) (sw0 []) ?_
      refine dt 66 147573952589676412927 rfl trivial (y_pick_f rfl rfl rfl) (sw0 []) ?_
      refine dt 67 295147905179352825855 rfl trivial (y_move rfl) (sw0 []) ?_
      refine dk 68 590295810358705651711 rfl (sk1 rfl rfl rfl) (sw0 []) ?_
      refine dk 69 1180591620717411303423 rfl (sk1 rfl rfl rfl) (sw0 []) ?_
      refine dt 70 2361183241434822606847 rfl trivial (y_pick_f rfl rfl rfl) (sw0 []) ?_
      refine dt 71 4722366482869645213695 rfl trivial (y_move rfl) (sw0 []) ?_
      refine dk 72 9444732965739290427391 rfl (sk1 rfl rfl rfl) (sw0 []) ?_
      refine dk 73 18889465931478580854783 rfl (sk1 rfl rfl rfl) (sw0 []) ?_
      refine dt 74 37778931862957161709567 rfl trivial (y_pick_f rfl rfl rfl) (sw0 []) ?_
      refine dt 75 75557863725914323419135 rfl trivial (y_move rfl) (sw0 []) ?_
      refine dk 76 151115727451828646838271 rfl (sk1 rfl rfl rfl) (sw0 []) ?_
      refine dk 77 302231454903657293676543 rfl (sk1 rfl rfl rfl) (sw0 []) ?_
      refine dk 78 604462909807314587353087 rfl (sk1 rfl rfl rfl) (sw0 []) ?_
      refine dt 79 1208925819614629174706175 rfl trivial (y_pick_f rfl rfl rfl) (sw0 []) ?_
      refine dt 80 2417851639229258349412351 rfl trivial (y_move rfl) (sw0 []) ?_
      refine dt 81 4835703278458516698824703 rfl trivial (y_pick_f rfl rfl rfl) (sw0 []) ?_
      refine dt 82 9671406556917033397649407 rfl trivial (y_move rfl) (sw0 []) ?_
      refine d1 83 rfl (p_skip (sk1 rfl rfl rfl) rfl rfl ?_)
      refine dn 19342813113834066795298815 (sw0 []) ?_
      refine dt 84 38685626227668133590597631 rfl trivial (y_pick_f rfl rfl rfl) (sw0 []) ?_
      refine dt 85 77371252455336267181195263 rfl trivial (y_assign rfl) (sw0 []) ?_
      refine d_done (by kernel_rfl) ?_
      refine a_en [(0, .bool false)] ?_
      refine a_own [] (by decide) (L' := []) rfl ?_
      refine a_cut ?_
      intro a_ w_ ha_ hs_
      exact ⟨H59_39g1f, l59_39g1f, false, Option.some.inj hm, ha_.weaken ⟨rfl, trivial⟩, hs_.reix [] (by decide)⟩
    have hm := cond_f k59_38 hm
    refine d_region (S := Sw H58_1 []) (n := 86) (listed := (bits 86 0)) mixed (by kernel_rfl) rfl (by kernel_rfl) ?_
    refine dt 0 1 rfl trivial (y_move rfl) (sw0 []) ?_
    refine dt 1 3 rfl trivial (y_eql rfl rfl) (sw0 []) ?_
    refine dt 2 7 rfl trivial (y_move rfl) (sw0 []) ?_
    obtain ⟨u59_3, h59_3, c59_3⟩ := PAt.one hb50_6
    refine dtt 3 15 rfl rfl rfl (fun hc_ => y_load_cells ty32 rfl (fun _ h => h.1) rfl c59_3 (Rp.len h59_3)) (sw0 []) ?_
    refine d1 4 rfl (e_callVt (all := [.int .i64 36, .int .i64 45]) (v := .agg x59_4.cells.toArray) rfl rfl rfl Tryd.func53 rfl rfl rfl (fun hc_ => (mpc rfl (mpc rfl mpn))) rfl (fun w hw => ok_53 hw q59_4) ?_)
    refine dn 31 (sw0 []) ?_
    refine dtt 5 63 rfl rfl rfl (fun hc_ => y_eq32_eql (sft rfl hc_) (sft rfl hc_) h59_3 (Span.rep_mk H58_1 x59_4)) (sw0 []) ?_
    refine dt 6 127 rfl trivial (y_pick_bb rfl (fun h_ => sft rfl h_) (fun _ => rfl)) (sw0 []) ?_
    refine dt 7 255 rfl trivial (y_move rfl) (sw0 []) ?_
    refine dtt 8 511 rfl rfl rfl (fun hc_ => y_move rfl) (sw0 []) ?_
    refine dtt 9 1023 rfl rfl rfl (fun hc_ => y_eql (sft rfl hc_) rfl) (sw0 []) ?_
    refine dt 10 2047 rfl trivial (y_pick_bb rfl (fun h_ => sft rfl h_) (fun _ => rfl)) (sw0 []) ?_
    refine dt 11 4095 rfl trivial (y_move rfl) (sw0 []) ?_
    obtain ⟨u59_12, h59_12, c59_12⟩ := PAt.one hb51_6
    refine dtt 12 8191 rfl rfl rfl (fun hc_ => y_load_cells ty32 rfl (fun _ h => h.1) rfl c59_12 (Rp.len h59_12)) (sw0 []) ?_
    refine d1 13 rfl (e_callVt (all := [.int .i64 36, .int .i64 45]) (v := .agg x59_13.cells.toArray) rfl rfl rfl Tryd.func53 rfl rfl rfl (fun hc_ => (mpc rfl (mpc rfl mpn))) rfl (fun w hw => ok_53 hw q59_13) ?_)
    refine dn 16383 (sw0 []) ?_
    refine dtt 14 32767 rfl rfl rfl (fun hc_ => y_eq32_eql (sft rfl hc_) (sft rfl hc_) h59_12 (Span.rep_mk H58_1 x59_13)) (sw0 []) ?_
    refine dt 15 65535 rfl trivial (y_pick_bb rfl (fun h_ => sft rfl h_) (fun _ => rfl)) (sw0 []) ?_
    refine dt 16 131071 rfl trivial (y_move rfl) (sw0 []) ?_
    refine dtt 17 262143 rfl rfl rfl (fun hc_ => y_move rfl) (sw0 []) ?_
    refine dtt 18 524287 rfl rfl rfl (fun hc_ => y_eql (sft rfl hc_) rfl) (sw0 []) ?_
    refine dt 19 1048575 rfl trivial (y_pick_bb rfl (fun h_ => sft rfl h_) (fun _ => rfl)) (sw0 []) ?_
    refine dt 20 2097151 rfl trivial (y_move rfl) (sw0 []) ?_
    refine dtt 21 4194303 rfl rfl rfl (fun hc_ => y_move rfl) (sw0 []) ?_
    refine dtt 22 8388607 rfl rfl rfl (fun hc_ => y_eql (sft rfl hc_) rfl) (sw0 []) ?_
    refine dt 23 16777215 rfl trivial (y_pick_bb rfl (fun h_ => sft rfl h_) (fun _ => rfl)) (sw0 []) ?_
    refine dt 24 33554431 rfl trivial (y_move rfl) (sw0 []) ?_
    refine dtt 25 67108863 rfl rfl rfl (fun hc_ => y_move rfl) (sw0 []) ?_
    refine dtt 26 134217727 rfl rfl rfl (fun hc_ => y_eql (sft rfl hc_) rfl) (sw0 []) ?_
    refine dt 27 268435455 rfl trivial (y_pick_bb rfl (fun h_ => sft rfl h_) (fun _ => rfl)) (sw0 []) ?_
    refine dt 28 536870911 rfl trivial (y_move rfl) (sw0 []) ?_
    refine dtt 29 1073741823 rfl rfl rfl (fun hc_ => y_move rfl) (sw0 []) ?_
    refine dtt 30 2147483647 rfl rfl rfl (fun hc_ => y_eql (sft rfl hc_) rfl) (sw0 []) ?_
    refine dt 31 4294967295 rfl trivial (y_pick_bb rfl (fun h_ => sft rfl h_) (fun _ => rfl)) (sw0 []) ?_
    refine dt 32 8589934591 rfl trivial (y_move rfl) (sw0 []) ?_
    refine dtt 33 17179869183 rfl rfl rfl (fun hc_ => y_move rfl) (sw0 []) ?_
    refine dtt 34 34359738367 rfl rfl rfl (fun hc_ => y_eql (sft rfl hc_) rfl) (sw0 []) ?_
    refine dt 35 68719476735 rfl trivial (y_pick_bb rfl (fun h_ => sft rfl h_) (fun _ => rfl)) (sw0 []) ?_
    refine dt 36 137438953471 rfl trivial (y_move rfl) (sw0 []) ?_
    refine dk 37 274877906943 rfl (sk1 rfl rfl k59_38) (sw0 []) ?_
    refine d1 38 rfl (p_skip (sk1 rfl rfl k59_38) rfl rfl ?_)
    refine dn 549755813887 (sw0 []) ?_
    refine d1 39 rfl (p_skip (sk1 rfl rfl k59_38) rfl rfl ?_)
    refine dn 1099511627775 (sw0 []) ?_
    refine dt 40 2199023255551 rfl trivial (y_pick_f rfl k59_38 rfl) (sw0 []) ?_
    refine dt 41 4398046511103 rfl trivial (y_move rfl) (sw0 []) ?_
    refine dk 42 8796093022207 rfl (sk1 rfl rfl rfl) (sw0 []) ?_
    refine dk 43 17592186044415 rfl (sk1 rfl rfl rfl) (sw0 []) ?_
    refine dt 44 35184372088831 rfl trivial (y_pick_f rfl rfl rfl) (sw0 []) ?_
    refine dt 45 70368744177663 rfl trivial (y_move rfl) (sw0 []) ?_
    refine dk 46 140737488355327 rfl (sk1 rfl rfl rfl) (sw0 []) ?_
    refine dk 47 281474976710655 rfl (sk1 rfl rfl rfl) (sw0 []) ?_
    refine d1 48 rfl (p_skip (sk1 rfl rfl rfl) rfl rfl ?_)
    refine dn 562949953421311 (sw0 []) ?_
    refine dt 49 1125899906842623 rfl trivial (y_pick_f rfl rfl rfl) (sw0 []) ?_
    refine dt 50 2251799813685247 rfl trivial (y_move rfl) (sw0 []) ?_
    refine dk 51 4503599627370495 rfl (sk1 rfl rfl rfl) (sw0 []) ?_
    refine d1 52 rfl (p_skip (sk1 rfl rfl rfl) rfl rfl ?_)
    refine dn 9007199254740991 (sw0 []) ?_
    refine d1 53 rfl (p_skip (sk1 rfl rfl rfl) rfl rfl ?_)
    refine dn 18014398509481983 (sw0 []) ?_
    refine dt 54 36028797018963967 rfl trivial (y_pick_f rfl rfl rfl) (sw0 []) ?_
    refine dt 55 72057594037927935 rfl trivial (y_move rfl) (sw0 []) ?_
    refine dk 56 144115188075855871 rfl (sk1 rfl rfl rfl) (sw0 []) ?_
    refine dk 57 288230376151711743 rfl (sk1 rfl rfl rfl) (sw0 []) ?_
    refine dt 58 576460752303423487 rfl trivial (y_pick_f rfl rfl rfl) (sw0 []) ?_
    refine dt 59 1152921504606846975 rfl trivial (y_move rfl) (sw0 []) ?_
    refine dk 60 2305843009213693951 rfl (sk1 rfl rfl rfl) (sw0 []) ?_
    refine dk 61 4611686018427387903 rfl (sk1 rfl rfl rfl) (sw0 []) ?_
    refine dt 62 9223372036854775807 rfl trivial (y_pick_f rfl rfl rfl) (sw0 []) ?_
    refine dt 63 18446744073709551615 rfl trivial (y_move rfl) (sw0 []) ?_
    refine dk 64 36893488147419103231 rfl (sk1 rfl rfl rfl) (sw0 []) ?_
    refine dk 65 73786976294838206463 rfl (sk1 rfl rfl rfl) (sw0 []) ?_
    refine dt 66 147573952589676412927 rfl trivial (y_pick_f rfl rfl rfl) (sw0 []) ?_
    refine dt 67 295147905179352825855 rfl trivial (y_move rfl) (sw0 []) ?_
    refine dk 68 590295810358705651711 rfl (sk1 rfl rfl rfl) (sw0 []) ?_
    refine dk 69 1180591620717411303423 rfl (sk1 rfl rfl rfl) (sw0 []) ?_
    refine dt 70 2361183241434822606847 rfl trivial (y_pick_f rfl rfl rfl) (sw0 []) ?_
    refine dt 71 4722366482869645213695 rfl trivial (y_move rfl) (sw0 []) ?_
    refine dk 72 9444732965739290427391 rfl (sk1 rfl rfl rfl) (sw0 []) ?_
    refine dk 73 18889465931478580854783 rfl (sk1 rfl rfl rfl) (sw0 []) ?_
    refine dt 74 37778931862957161709567 rfl trivial (y_pick_f rfl rfl rfl) (sw0 []) ?_
    refine dt 75 75557863725914323419135 rfl trivial (y_move rfl) (sw0 []) ?_
    refine dk 76 151115727451828646838271 rfl (sk1 rfl rfl rfl) (sw0 []) ?_
    refine dk 77 302231454903657293676543 rfl (sk1 rfl rfl rfl) (sw0 []) ?_
    refine dk 78 604462909807314587353087 rfl (sk1 rfl rfl rfl) (sw0 []) ?_
    refine dt 79 1208925819614629174706175 rfl trivial (y_pick_f rfl rfl rfl) (sw0 []) ?_
    refine dt 80 2417851639229258349412351 rfl trivial (y_move rfl) (sw0 []) ?_
    refine dt 81 4835703278458516698824703 rfl trivial (y_pick_f rfl rfl rfl) (sw0 []) ?_
    refine dt 82 9671406556917033397649407 rfl trivial (y_move rfl) (sw0 []) ?_
    refine d1 83 rfl (p_skip (sk1 rfl rfl rfl) rfl rfl ?_)
    refine dn 19342813113834066795298815 (sw0 []) ?_
    refine dt 84 38685626227668133590597631 rfl trivial (y_pick_f rfl rfl rfl) (sw0 []) ?_
    refine dt 85 77371252455336267181195263 rfl trivial (y_assign rfl) (sw0 []) ?_
    refine d_done (by kernel_rfl) ?_
    refine a_en [(0, .bool false)] ?_
    refine a_cut ?_
    intro a_ w_ ha_ hs_
    exact ⟨H58_1, (HLe.refl _), false, Option.some.inj hm, ha_.weaken ⟨rfl, trivial⟩, hs_.reix [] (by decide)⟩
  have hm := hm_j10
  rintro a_ w_ ⟨Hj10, lj10, yj10_0, rfl, ha_, hs_⟩
  try dsimp only at hm
  refine a_start ha_ hs_ ?_
  have hg := Glob.mono lj10 hg
  refine a_then (a_ret ?_)
  refine a_done (v := .bool yj10_0) (.inl rfl) rfl ?_ ?_
  · intro a_ w_ ha_ hs_; exact run_results (P := Tryd.prog) (fn := Tryd.f16) (rs := [.tmp 0]) (vs := [.bool yj10_0]) rfl (.cons (rv_tmp ha_ rfl) (All2.nil))
  · intro _ _; obtain rfl := Option.some.inj hm
    rfl
def law03_TunnelKnown_p2 (k : Nat) : Option Bool :=
 (law03_book k).bind fun x39_0 =>
 (tunnel_Dries k (⟨x39_0.Parts, x39_0.Frames⟩ : TunnelBook) [2, 2] 3).bind fun x39_2 =>
 (law03_book k).bind fun x40_0 =>
 (tunnel_Kind k (⟨x40_0.Parts, x40_0.Frames⟩ : TunnelBook) [2, 2] (-1)).bind fun x40_2 =>
 (law03_book k).bind fun x41_0 =>
 (tunnel_Longer k (⟨x41_0.Parts, x41_0.Frames⟩ : TunnelBook) [2, 2] 0 2).bind fun x41_2 =>
 (law03_book k).bind fun x42_0 =>
 (tunnel_Longer k (⟨x42_0.Parts, x42_0.Frames⟩ : TunnelBook) [2, 2] 3 0).bind fun x42_2 =>
 (law03_book k).bind fun x43_0 =>
 (tunnel_Longer k (⟨x43_0.Parts, x43_0.Frames⟩ : TunnelBook) [1, 2] 2 0).bind fun x43_2 =>
 (law03_torn k).bind fun x44_0 =>
 (tunnel_Best k x44_0).bind fun x44_1 =>
 (law03_lost k).bind fun x45_0 =>
 (tunnel_Best k x45_0).bind fun x45_1 =>
 (law03_book k).bind fun x46_0 =>
 (tunnel_Clash k (⟨x46_0.Parts, x46_0.Frames⟩ : TunnelBook)).bind fun x46_1 =>
 (law03_lost k).bind fun x47_0 =>
 (tunnel_Clash k x47_0).bind fun x47_1 =>
 bif (bif (bif (bif (bif (bif (bif (bif (bif x39_2.2 != 31 then true else x40_2.2 != 31) then true else x41_2.2 != 31) then true else x42_2.2 != 31) then true else x43_2.2 != 4) then true else x44_1.2 != 4) then true else x45_1.2 != 4) then true else x46_1.2.2 != 4) then true else x47_1.2.2 != 32) then
 some (false)
 else
 law03_TunnelKnown_p3 k x39_2 x40_2 x41_2 x42_2 x43_2 x44_1 x45_1 x46_1 x47_1
theorem ok_16_p2 {k : Nat} {H : Hp} {w : World} {r : Bool} {Hj5 : Hp} (hle_ : HLe H Hj5) (hg : Glob Hj5) (hm : law03_TunnelKnown_p2 k = some r) : At 576 [] (Kp.mk w H noX) [] Hj5 [] (Cx Tryd.prog none (cR (cR (cR (cR (cR (cR (cR (cR (cR (cR (cR (cR (cR (cR (cR (fbody Tryd.f16)))))))))))))))) (bodyPost Tryd.prog Tryd.f16 (PostV w H (.bool r)))) := by
  unfold law03_TunnelKnown_p2 at hm
  refine a_seq (a_region rfl ?_)
  refine a_cons (e_buildSlice (xs := [.const (.int .i64 2), .const (.int .i64 2)]) (cs := [.int .i64 2, .int .i64 2]) trivial rfl Tryd.underlying26 ty3 rfl rfl rfl (by simp [Value.cells]) rfl (rfl) ?_)
  intro v38_0
  have h38_0 : RepL (α := Int) Hj5 ([.int .i64 2, .int .i64 2]) [2, 2] := (RepL.cons (α := Int) (c := [.int .i64 2]) rfl (RepL.cons (α := Int) (c := [.int .i64 2]) rfl (RepL.nil (α := Int))))
  refine ap (y_assign rfl) ?_
  refine a_nil ?_
  refine a_en [(37, v38_0)] ?_
  refine a_then (a_seq (a_region rfl ?_))
  obtain ⟨x39_0, q39_0, hm⟩ := bind_some hm
  refine a_cons (e_callO (all := []) trivial rfl Tryd.func69 rfl rfl rfl rfl rfl (fun w hw => ok_69 hw q39_0) ?_)
  rintro _ H39_0 _ l39_0 ⟨vp39_0, vf39_0, cp39_0, cf39_0, rfl, rfl, hp39_0, hf39_0⟩
  have h38_0 := RepL.mono l39_0 h38_0
  have hg := Glob.mono l39_0 hg
  refine ap (y_move rfl) ?_
  refine a_frow (i := 0) rfl rfl hp39_0 rfl ?_
  intro H39_2q0f l39_2q0f h39_2q0f
  have h38_0 := RepL.mono l39_2q0f h38_0
  have hf39_0 := RepL.mono l39_2q0f hf39_0
  have hg := Glob.mono l39_2q0f hg
  refine a_frow (i := 1) rfl rfl hf39_0 rfl ?_
  intro H39_2q1f l39_2q1f h39_2q1f
  have h39_2q0f := Sl.mono l39_2q1f h39_2q0f
  have h38_0 := RepL.mono l39_2q1f h38_0
  have hg := Glob.mono l39_2q1f hg
  refine a_frow (i := 2) rfl rfl h38_0 rfl ?_
  intro H39_2q2f l39_2q2f h39_2q2f
  have h39_2q0f := Sl.mono l39_2q2f h39_2q0f
  have h39_2q1f := Sl.mono l39_2q2f h39_2q1f
  have hg := Glob.mono l39_2q2f hg
  have m39_2g0l : Rp.rep H39_2q2f [vp39_0, vf39_0] (⟨x39_0.Parts, x39_0.Frames⟩ : TunnelBook) := ⟨_, _, rfl, ⟨_, rfl, h39_2q0f⟩, ⟨_, rfl, h39_2q1f⟩⟩
  obtain ⟨x39_2, q39_2, hm⟩ := bind_some hm
  refine a_cons (e_callV (all := [.agg [vp39_0, vf39_0].toArray, v38_0, .int .i64 3]) (v := .tuple #[.agg x39_2.1.cells.toArray, .int .i64 x39_2.2]) trivial rfl Tryd.func23 rfl rfl rfl rfl rfl (fun w hw => ok_23 hw m39_2g0l h39_2q2f hg q39_2) ?_)
  refine ap (y_move rfl) ?_
  refine ap (y_extract rfl rfl) ?_
  refine ap (y_extract rfl rfl) ?_
  refine a_cons (e_alloc (cs := [.int .i64 0, .int .i64 0]) trivial rfl ty32 rfl ?_)
  intro b39_6
  refine a_cons (e_storeWhole (i := 0) (ds := x39_2.1.cells) trivial ty32 rfl rfl rfl rfl rfl ((Rp.one (Span.rep_mk (fun _ => none) x39_2.1))) rfl ?_)
  refine ap (y_assign rfl) ?_
  refine a_nil ?_
  refine a_freeze (α := Span) (x := x39_2.1) (i := 0) rfl (Span.rep_mk _ x39_2.1) ?_
  intro Hb39_6 lb39_6 hb39_6
  have h39_2q2f := Sl.mono lb39_6 h39_2q2f
  have h39_2q0f := Sl.mono lb39_6 h39_2q0f
  have h39_2q1f := Sl.mono lb39_6 h39_2q1f
  have hg := Glob.mono lb39_6 hg
  refine a_en [(37, v38_0), (39, .int .i64 x39_2.2)] ?_
  refine a_own [] (by decide) (L' := []) rfl ?_
  refine a_then (a_seq (a_region rfl ?_))
  obtain ⟨x40_0, q40_0, hm⟩ := bind_some hm
  refine a_cons (e_callO (all := []) trivial rfl Tryd.func69 rfl rfl rfl rfl rfl (fun w hw => ok_69 hw q40_0) ?_)
  rintro _ H40_0 _ l40_0 ⟨vp40_0, vf40_0, cp40_0, cf40_0, rfl, rfl, hp40_0, hf40_0⟩
  have h39_2q2f := Sl.mono l40_0 h39_2q2f
  have hg := Glob.mono l40_0 hg
  refine ap (y_move rfl) ?_
  refine a_frow (i := 0) rfl rfl hp40_0 rfl ?_
  intro H40_2q0f l40_2q0f h40_2q0f
  have h39_2q2f := Sl.mono l40_2q0f h39_2q2f
  have hf40_0 := RepL.mono l40_2q0f hf40_0
  have hg := Glob.mono l40_2q0f hg
  refine a_frow (i := 1) rfl rfl hf40_0 rfl ?_
  intro H40_2q1f l40_2q1f h40_2q1f
  have h39_2q2f := Sl.mono l40_2q1f h39_2q2f
  have h40_2q0f := Sl.mono l40_2q1f h40_2q0f
  have hg := Glob.mono l40_2q1f hg
  have m40_2g0l : Rp.rep H40_2q1f [vp40_0, vf40_0] (⟨x40_0.Parts, x40_0.Frames⟩ : TunnelBook) := ⟨_, _, rfl, ⟨_, rfl, h40_2q0f⟩, ⟨_, rfl, h40_2q1f⟩⟩
  obtain ⟨x40_2, q40_2, hm⟩ := bind_some hm
  refine a_cons (e_callV (all := [.agg [vp40_0, vf40_0].toArray, v38_0, .int .i64 (-1)]) (v := .tuple #[.int .i64 x40_2.1, .int .i64 x40_2.2]) trivial rfl Tryd.func25 rfl rfl rfl rfl rfl (fun w hw => ok_25 hw m40_2g0l h39_2q2f hg q40_2) ?_)
  refine ap (y_move rfl) ?_
  refine ap (y_extract rfl rfl) ?_
  refine ap (y_extract rfl rfl) ?_
  refine ap (y_assign rfl) ?_
  refine ap (y_assign rfl) ?_
  refine a_nil ?_
  refine a_en [(37, v38_0), (39, .int .i64 x39_2.2), (41, .int .i64 x40_2.2)] ?_
  refine a_own [] (by decide) (L' := []) rfl ?_
  refine a_then (a_seq (a_region rfl ?_))
  obtain ⟨x41_0, q41_0, hm⟩ := bind_some hm
  refine a_cons (e_callO (all := []) trivial rfl Tryd.func69 rfl rfl rfl rfl rfl (fun w hw => ok_69 hw q41_0) ?_)
  rintro _ H41_0 _ l41_0 ⟨vp41_0, vf41_0, cp41_0, cf41_0, rfl, rfl, hp41_0, hf41_0⟩
  have h39_2q2f := Sl.mono l41_0 h39_2q2f
  have hg := Glob.mono l41_0 hg
  refine ap (y_move rfl) ?_
  refine a_frow (i := 0) rfl rfl hp41_0 rfl ?_
  intro H41_2q0f l41_2q0f h41_2q0f
  have h39_2q2f := Sl.mono l41_2q0f h39_2q2f
  have hf41_0 := RepL.mono l41_2q0f hf41_0
  have hg := Glob.mono l41_2q0f hg
  refine a_frow (i := 1) rfl rfl hf41_0 rfl ?_
  intro H41_2q1f l41_2q1f h41_2q1f
  have h39_2q2f := Sl.mono l41_2q1f h39_2q2f
  have h41_2q0f := Sl.mono l41_2q1f h41_2q0f
  have hg := Glob.mono l41_2q1f hg
  have m41_2g0l : Rp.rep H41_2q1f [vp41_0, vf41_0] (⟨x41_0.Parts, x41_0.Frames⟩ : TunnelBook) := ⟨_, _, rfl, ⟨_, rfl, h41_2q0f⟩, ⟨_, rfl, h41_2q1f⟩⟩
  obtain ⟨x41_2, q41_2, hm⟩ := bind_some hm
  refine a_cons (e_callV (all := [.agg [vp41_0, vf41_0].toArray, v38_0, .int .i64 0, .int .i64 2]) (v := .tuple #[.int .i64 x41_2.1, .int .i64 x41_2.2]) trivial rfl Tryd.func39 rfl rfl rfl rfl rfl (fun w hw => ok_39 hw m41_2g0l h39_2q2f hg q41_2) ?_)
  refine ap (y_move rfl) ?_
  refine ap (y_extract rfl rfl) ?_
  refine ap (y_extract rfl rfl) ?_
  refine ap (y_assign rfl) ?_
  refine ap (y_assign rfl) ?_
  refine a_nil ?_
  refine a_en [(37, v38_0), (39, .int .i64 x39_2.2), (41, .int .i64 x40_2.2), (43, .int .i64 x41_2.2)] ?_
  refine a_own [] (by decide) (L' := []) rfl ?_
  refine a_then (a_seq (a_region rfl ?_))
  obtain ⟨x42_0, q42_0, hm⟩ := bind_some hm
  refine a_cons (e_callO (all := []) trivial rfl Tryd.func69 rfl rfl rfl rfl rfl (fun w hw => ok_69 hw q42_0) ?_)
  rintro _ H42_0 _ l42_0 ⟨vp42_0, vf42_0, cp42_0, cf42_0, rfl, rfl, hp42_0, hf42_0⟩
  have h39_2q2f := Sl.mono l42_0 h39_2q2f
  have hg := Glob.mono l42_0 hg
  refine ap (y_move rfl) ?_
  refine a_frow (i := 0) rfl rfl hp42_0 rfl ?_
  intro H42_2q0f l42_2q0f h42_2q0f
  have h39_2q2f := Sl.mono l42_2q0f h39_2q2f
  have hf42_0 := RepL.mono l42_2q0f hf42_0
  have hg := Glob.mono l42_2q0f hg
  refine a_frow (i := 1) rfl rfl hf42_0 rfl ?_
  intro H42_2q1f l42_2q1f h42_2q1f
  have h39_2q2f := Sl.mono l42_2q1f h39_2q2f
  have h42_2q0f := Sl.mono l42_2q1f h42_2q0f
  have hg := Glob.mono l42_2q1f hg
  have m42_2g0l : Rp.rep H42_2q1f [vp42_0, vf42_0] (⟨x42_0.Parts, x42_0.Frames⟩ : TunnelBook) := ⟨_, _, rfl, ⟨_, rfl, h42_2q0f⟩, ⟨_, rfl, h42_2q1f⟩⟩
  obtain ⟨x42_2, q42_2, hm⟩ := bind_some hm
  refine a_cons (e_callV (all := [.agg [vp42_0, vf42_0].toArray, v38_0, .int .i64 3, .int .i64 0]) (v := .tuple #[.int .i64 x42_2.1, .int .i64 x42_2.2]) trivial rfl Tryd.func39 rfl rfl rfl rfl rfl (fun w hw => ok_39 hw m42_2g0l h39_2q2f hg q42_2) ?_)
  refine ap (y_move rfl) ?_
  refine ap (y_extract rfl rfl) ?_
  refine ap (y_extract rfl rfl) ?_
  refine ap (y_assign rfl) ?_
  refine ap (y_assign rfl) ?_
  refine a_nil ?_
  refine a_en [(37, v38_0), (39, .int .i64 x39_2.2), (41, .int .i64 x40_2.2), (43, .int .i64 x41_2.2), (45, .int .i64 x42_2.2)] ?_
  refine a_own [] (by decide) (L' := []) rfl ?_
  refine a_then (a_seq (a_region rfl ?_))
  obtain ⟨x43_0, q43_0, hm⟩ := bind_some hm
  refine a_cons (e_callO (all := []) trivial rfl Tryd.func69 rfl rfl rfl rfl rfl (fun w hw => ok_69 hw q43_0) ?_)
  rintro _ H43_0 _ l43_0 ⟨vp43_0, vf43_0, cp43_0, cf43_0, rfl, rfl, hp43_0, hf43_0⟩
  have h39_2q2f := Sl.mono l43_0 h39_2q2f
  have hg := Glob.mono l43_0 hg
  refine a_cons (e_buildSlice (xs := [.const (.int .i64 1), .const (.int .i64 2)]) (cs := [.int .i64 1, .int .i64 2]) trivial rfl Tryd.underlying26 ty3 rfl rfl rfl (by simp [Value.cells]) rfl (rfl) ?_)
  intro v43_1
  have h43_1 : RepL (α := Int) H43_0 ([.int .i64 1, .int .i64 2]) [1, 2] := (RepL.cons (α := Int) (c := [.int .i64 1]) rfl (RepL.cons (α := Int) (c := [.int .i64 2]) rfl (RepL.nil (α := Int))))
  refine a_frow (i := 1) rfl rfl hp43_0 rfl ?_
  intro H43_2q0f l43_2q0f h43_2q0f
  have h39_2q2f := Sl.mono l43_2q0f h39_2q2f
  have hf43_0 := RepL.mono l43_2q0f hf43_0
  have h43_1 := RepL.mono l43_2q0f h43_1
  have hg := Glob.mono l43_2q0f hg
  refine a_frow (i := 2) rfl rfl hf43_0 rfl ?_
  intro H43_2q1f l43_2q1f h43_2q1f
  have h39_2q2f := Sl.mono l43_2q1f h39_2q2f
  have h43_2q0f := Sl.mono l43_2q1f h43_2q0f
  have h43_1 := RepL.mono l43_2q1f h43_1
  have hg := Glob.mono l43_2q1f hg
  refine a_frow (i := 0) rfl rfl h43_1 rfl ?_
  intro H43_2q2f l43_2q2f h43_2q2f
  have h39_2q2f := Sl.mono l43_2q2f h39_2q2f
  have h43_2q0f := Sl.mono l43_2q2f h43_2q0f
  have h43_2q1f := Sl.mono l43_2q2f h43_2q1f
  have hg := Glob.mono l43_2q2f hg
  have m43_2g0l : Rp.rep H43_2q2f [vp43_0, vf43_0] (⟨x43_0.Parts, x43_0.Frames⟩ : TunnelBook) := ⟨_, _, rfl, ⟨_, rfl, h43_2q0f⟩, ⟨_, rfl, h43_2q1f⟩⟩
  obtain ⟨x43_2, q43_2, hm⟩ := bind_some hm
  refine a_cons (e_callV (all := [.agg [vp43_0, vf43_0].toArray, v43_1, .int .i64 2, .int .i64 0]) (v := .tuple #[.int .i64 x43_2.1, .int .i64 x43_2.2]) trivial rfl Tryd.func39 rfl rfl rfl rfl rfl (fun w hw => ok_39 hw m43_2g0l h43_2q2f hg q43_2) ?_)
  refine ap (y_move rfl) ?_
  refine ap (y_extract rfl rfl) ?_
  refine ap (y_extract rfl rfl) ?_
  refine ap (y_assign rfl) ?_
  refine ap (y_assign rfl) ?_
  refine a_nil ?_
  refine a_en [(37, v38_0), (39, .int .i64 x39_2.2), (41, .int .i64 x40_2.2), (43, .int .i64 x41_2.2), (45, .int .i64 x42_2.2), (47, .int .i64 x43_2.2)] ?_
  refine a_own [] (by decide) (L' := []) rfl ?_
  refine a_then (a_seq (a_region rfl ?_))
  obtain ⟨x44_0, q44_0, hm⟩ := bind_some hm
  refine a_cons (e_callH (all := []) trivial rfl Tryd.func70 rfl rfl rfl rfl rfl (fun w hw => ok_70 hw q44_0) ?_)
  rintro _ H44_0 l44_0 ⟨c44_0r0, rfl, h44_0r0⟩
  have h39_2q2f := Sl.mono l44_0 h39_2q2f
  have hg := Glob.mono l44_0 hg
  obtain ⟨x44_1, q44_1, hm⟩ := bind_some hm
  refine a_cons (e_callH (all := [.agg c44_0r0.toArray]) trivial rfl Tryd.func31 rfl rfl rfl rfl rfl (fun w hw => ok_31 hw h44_0r0 hg q44_1) ?_)
  rintro _ H44_1 l44_1 ⟨v44_1r0, rfl, h44_1r0⟩
  have h39_2q2f := Sl.mono l44_1 h39_2q2f
  have h44_0r0 := Rp.mono l44_1 h44_0r0
  have hg := Glob.mono l44_1 hg
  refine ap (y_move rfl) ?_
  refine ap (y_extract rfl rfl) ?_
  refine ap (y_extract rfl rfl) ?_
  refine ap (y_assign rfl) ?_
  refine ap (y_assign rfl) ?_
  refine a_nil ?_
  refine a_en [(37, v38_0), (39, .int .i64 x39_2.2), (41, .int .i64 x40_2.2), (43, .int .i64 x41_2.2), (45, .int .i64 x42_2.2), (47, .int .i64 x43_2.2), (49, .int .i64 x44_1.2)] ?_
  refine a_then (a_seq (a_region rfl ?_))
  obtain ⟨x45_0, q45_0, hm⟩ := bind_some hm
  refine a_cons (e_callH (all := []) trivial rfl Tryd.func71 rfl rfl rfl rfl rfl (fun w hw => ok_71 hw q45_0) ?_)
  rintro _ H45_0 l45_0 ⟨c45_0r0, rfl, h45_0r0⟩
  have h39_2q2f := Sl.mono l45_0 h39_2q2f
  have hg := Glob.mono l45_0 hg
  obtain ⟨x45_1, q45_1, hm⟩ := bind_some hm
  refine a_cons (e_callH (all := [.agg c45_0r0.toArray]) trivial rfl Tryd.func31 rfl rfl rfl rfl rfl (fun w hw => ok_31 hw h45_0r0 hg q45_1) ?_)
  rintro _ H45_1 l45_1 ⟨v45_1r0, rfl, h45_1r0⟩
  have h39_2q2f := Sl.mono l45_1 h39_2q2f
  have h45_0r0 := Rp.mono l45_1 h45_0r0
  have hg := Glob.mono l45_1 hg
  refine ap (y_move rfl) ?_
  refine ap (y_extract rfl rfl) ?_
  refine ap (y_extract rfl rfl) ?_
  refine ap (y_assign rfl) ?_
  refine ap (y_assign rfl) ?_
  refine a_nil ?_
  refine a_en [(37, v38_0), (39, .int .i64 x39_2.2), (41, .int .i64 x40_2.2), (43, .int .i64 x41_2.2), (45, .int .i64 x42_2.2), (47, .int .i64 x43_2.2), (49, .int .i64 x44_1.2), (51, .int .i64 x45_1.2)] ?_
  refine a_then (a_seq (a_region rfl ?_))
  obtain ⟨x46_0, q46_0, hm⟩ := bind_some hm
  refine a_cons (e_callO (all := []) trivial rfl Tryd.func69 rfl rfl rfl rfl rfl (fun w hw => ok_69 hw q46_0) ?_)
  rintro _ H46_0 _ l46_0 ⟨vp46_0, vf46_0, cp46_0, cf46_0, rfl, rfl, hp46_0, hf46_0⟩
  have h39_2q2f := Sl.mono l46_0 h39_2q2f
  have hg := Glob.mono l46_0 hg
  refine a_frow (i := 0) rfl rfl hp46_0 rfl ?_
  intro H46_1q0f l46_1q0f h46_1q0f
  have h39_2q2f := Sl.mono l46_1q0f h39_2q2f
  have hf46_0 := RepL.mono l46_1q0f hf46_0
  have hg := Glob.mono l46_1q0f hg
  refine a_frow (i := 1) rfl rfl hf46_0 rfl ?_
  intro H46_1q1f l46_1q1f h46_1q1f
  have h39_2q2f := Sl.mono l46_1q1f h39_2q2f
  have h46_1q0f := Sl.mono l46_1q1f h46_1q0f
  have hg := Glob.mono l46_1q1f hg
  have m46_1g0l : Rp.rep H46_1q1f [vp46_0, vf46_0] (⟨x46_0.Parts, x46_0.Frames⟩ : TunnelBook) := ⟨_, _, rfl, ⟨_, rfl, h46_1q0f⟩, ⟨_, rfl, h46_1q1f⟩⟩
  obtain ⟨x46_1, q46_1, hm⟩ := bind_some hm
  refine a_cons (e_callV (all := [.agg [vp46_0, vf46_0].toArray]) (v := .tuple #[.int .i64 x46_1.1, .int .i64 x46_1.2.1, .int .i64 x46_1.2.2]) trivial rfl Tryd.func37 rfl rfl rfl rfl rfl (fun w hw => ok_37 hw m46_1g0l hg q46_1) ?_)
  refine ap (y_move rfl) ?_
  refine ap (y_extract rfl rfl) ?_
  refine ap (y_extract rfl rfl) ?_
  refine ap (y_extract rfl rfl) ?_
  refine ap (y_assign rfl) ?_
  refine ap (y_assign rfl) ?_
  refine ap (y_assign rfl) ?_
  refine a_nil ?_
  refine a_en [(37, v38_0), (39, .int .i64 x39_2.2), (41, .int .i64 x40_2.2), (43, .int .i64 x41_2.2), (45, .int .i64 x42_2.2), (47, .int .i64 x43_2.2), (49, .int .i64 x44_1.2), (51, .int .i64 x45_1.2), (54, .int .i64 x46_1.2.2)] ?_
  refine a_own [] (by decide) (L' := []) rfl ?_
  refine a_then (a_seq (a_region rfl ?_))
  obtain ⟨x47_0, q47_0, hm⟩ := bind_some hm
  refine a_cons (e_callH (all := []) trivial rfl Tryd.func71 rfl rfl rfl rfl rfl (fun w hw => ok_71 hw q47_0) ?_)
  rintro _ H47_0 l47_0 ⟨c47_0r0, rfl, h47_0r0⟩
  have h39_2q2f := Sl.mono l47_0 h39_2q2f
  have hg := Glob.mono l47_0 hg
  obtain ⟨x47_1, q47_1, hm⟩ := bind_some hm
  refine a_cons (e_callV (all := [.agg c47_0r0.toArray]) (v := .tuple #[.int .i64 x47_1.1, .int .i64 x47_1.2.1, .int .i64 x47_1.2.2]) trivial rfl Tryd.func37 rfl rfl rfl rfl rfl (fun w hw => ok_37 hw h47_0r0 hg q47_1) ?_)
  refine ap (y_move rfl) ?_
  refine ap (y_extract rfl rfl) ?_
  refine ap (y_extract rfl rfl) ?_
  refine ap (y_extract rfl rfl) ?_
  refine ap (y_assign rfl) ?_
  refine ap (y_assign rfl) ?_
  refine ap (y_assign rfl) ?_
  refine a_nil ?_
  refine a_en [(37, v38_0), (39, .int .i64 x39_2.2), (41, .int .i64 x40_2.2), (43, .int .i64 x41_2.2), (45, .int .i64 x42_2.2), (47, .int .i64 x43_2.2), (49, .int .i64 x44_1.2), (51, .int .i64 x45_1.2), (54, .int .i64 x46_1.2.2), (57, .int .i64 x47_1.2.2)] ?_
  refine a_then (a_seq (a_seq (a_region rfl ?_)))
  refine ap (y_move rfl) ?_
  refine ap (y_neq rfl rfl) ?_
  refine ap (y_move rfl) ?_
  refine agf rfl rfl (fun hc_ => y_move rfl) ?_
  refine agf rfl rfl (fun hc_ => y_neq (sff rfl hc_) rfl) ?_
  refine ap (y_pick_bb rfl (fun _ => rfl) (fun h_ => sff rfl h_)) ?_
  refine ap (y_move rfl) ?_
  refine agf rfl rfl (fun hc_ => y_move rfl) ?_
  refine agf rfl rfl (fun hc_ => y_neq (sff rfl hc_) rfl) ?_
  refine ap (y_pick_bb rfl (fun _ => rfl) (fun h_ => sff rfl h_)) ?_
  refine ap (y_move rfl) ?_
  refine agf rfl rfl (fun hc_ => y_move rfl) ?_
  refine agf rfl rfl (fun hc_ => y_neq (sff rfl hc_) rfl) ?_
  refine ap (y_pick_bb rfl (fun _ => rfl) (fun h_ => sff rfl h_)) ?_
  refine ap (y_move rfl) ?_
  refine agf rfl rfl (fun hc_ => y_move rfl) ?_
  refine agf rfl rfl (fun hc_ => y_neq (sff rfl hc_) rfl) ?_
  refine ap (y_pick_bb rfl (fun _ => rfl) (fun h_ => sff rfl h_)) ?_
  refine ap (y_move rfl) ?_
  refine agf rfl rfl (fun hc_ => y_move rfl) ?_
  refine agf rfl rfl (fun hc_ => y_neq (sff rfl hc_) rfl) ?_
  refine ap (y_pick_bb rfl (fun _ => rfl) (fun h_ => sff rfl h_)) ?_
  refine ap (y_move rfl) ?_
  refine agf rfl rfl (fun hc_ => y_move rfl) ?_
  refine agf rfl rfl (fun hc_ => y_neq (sff rfl hc_) rfl) ?_
  refine ap (y_pick_bb rfl (fun _ => rfl) (fun h_ => sff rfl h_)) ?_
  refine ap (y_move rfl) ?_
  refine agf rfl rfl (fun hc_ => y_move rfl) ?_
  refine agf rfl rfl (fun hc_ => y_neq (sff rfl hc_) rfl) ?_
  refine ap (y_pick_bb rfl (fun _ => rfl) (fun h_ => sff rfl h_)) ?_
  refine ap (y_move rfl) ?_
  refine agf rfl rfl (fun hc_ => y_move rfl) ?_
  refine agf rfl rfl (fun hc_ => y_neq (sff rfl hc_) rfl) ?_
  refine ap (y_pick_bb rfl (fun _ => rfl) (fun h_ => sff rfl h_)) ?_
  refine a_nil ?_
  refine a_en [(37, v38_0), (438, .bool (bif (bif (bif (bif (bif (bif (bif (bif x39_2.2 != 31 then true else x40_2.2 != 31) then true else x41_2.2 != 31) then true else x42_2.2 != 31) then true else x43_2.2 != 4) then true else x44_1.2 != 4) then true else x45_1.2 != 4) then true else x46_1.2.2 != 4) then true else x47_1.2.2 != 32))] ?_
  refine a_then ?_
  refine a_cond rfl (fun k_9 => ?_) (fun k_9 => ?_)
  · have hm := cond_t k_9 hm
    refine a_seq (a_region rfl ?_)
    refine ap (y_assign rfl) ?_
    refine a_nil ?_
    refine a_en [(0, .bool false)] ?_
    refine a_then (a_ret (a_then_ret ?_))
    refine a_done (v := .bool false) (.inl rfl) rfl ?_ ?_
    · intro a_ w_ ha_ hs_; exact run_results (P := Tryd.prog) (fn := Tryd.f16) (rs := [.tmp 0]) (vs := [.bool false]) rfl (.cons (rv_tmp ha_ rfl) (All2.nil))
    · intro _ _; obtain rfl := Option.some.inj hm
      rfl
  have hm := cond_f k_9 hm
  refine a_skip (a_then ?_)
  exact ok_16_p3 (hle_.trans (l39_0.trans (l39_2q0f.trans (l39_2q1f.trans (l39_2q2f.trans (lb39_6.trans (l40_0.trans (l40_2q0f.trans (l40_2q1f.trans (l41_0.trans (l41_2q0f.trans (l41_2q1f.trans (l42_0.trans (l42_2q0f.trans (l42_2q1f.trans (l43_0.trans (l43_2q0f.trans (l43_2q1f.trans (l43_2q2f.trans (l44_0.trans (l44_1.trans (l45_0.trans (l45_1.trans (l46_0.trans (l46_1q0f.trans (l46_1q1f.trans l47_0)))))))))))))))))))))))))) hg h39_2q2f hm
def law03_TunnelKnown_p1 (k : Nat) : Option Bool :=
 (law03_TunnelKnown_lj6 k k 0).bind fun o => (match o with
 | .inl r => some r
 | .inr _ =>
 law03_TunnelKnown_p2 k)
theorem ok_16_p1 {k : Nat} {H : Hp} {w : World} {r : Bool} {Hj1 : Hp} (hle_ : HLe H Hj1) (hg : Glob Hj1) (hm : law03_TunnelKnown_p1 k = some r) : At 576 [] (Kp.mk w H noX) [] Hj1 [] (Cx Tryd.prog none (cR (cR (cR (cR (cR (cR (cR (cR (cR (cR (cR (cR (cR (fbody Tryd.f16)))))))))))))) (bodyPost Tryd.prog Tryd.f16 (PostV w H (.bool r)))) := by
  unfold law03_TunnelKnown_p1 at hm
  refine a_seq (a_region rfl ?_)
  refine a_cons (e_buildSlice (xs := [.const (.int .i64 2)]) (cs := [.int .i64 2]) trivial rfl Tryd.underlying26 ty3 rfl rfl rfl (by simp [Value.cells]) rfl (rfl) ?_)
  intro v27_0
  have h27_0 : RepL (α := Int) Hj1 ([.int .i64 2]) [2] := (RepL.cons (α := Int) (c := [.int .i64 2]) rfl (RepL.nil (α := Int)))
  refine a_cons (e_buildSlice (xs := [.const (.int .i64 2), .const (.int .i64 2), .const (.int .i64 2)]) (cs := [.int .i64 2, .int .i64 2, .int .i64 2]) trivial rfl Tryd.underlying26 ty3 rfl rfl rfl (by simp [Value.cells]) rfl (rfl) ?_)
  intro v27_1
  have h27_1 : RepL (α := Int) Hj1 ([.int .i64 2, .int .i64 2, .int .i64 2]) [2, 2, 2] := (RepL.cons (α := Int) (c := [.int .i64 2]) rfl (RepL.cons (α := Int) (c := [.int .i64 2]) rfl (RepL.cons (α := Int) (c := [.int .i64 2]) rfl (RepL.nil (α := Int)))))
  refine a_cons (e_buildSlice (xs := [.const (.int .i64 4), .const (.int .i64 0)]) (cs := [.int .i64 4, .int .i64 0]) trivial rfl Tryd.underlying26 ty3 rfl rfl rfl (by simp [Value.cells]) rfl (rfl) ?_)
  intro v27_2
  have h27_2 : RepL (α := Int) Hj1 ([.int .i64 4, .int .i64 0]) [4, 0] := (RepL.cons (α := Int) (c := [.int .i64 4]) rfl (RepL.cons (α := Int) (c := [.int .i64 0]) rfl (RepL.nil (α := Int))))
  refine a_cons (e_buildSlice (xs := [.const (.int .i64 0), .const (.int .i64 (-1))]) (cs := [.int .i64 0, .int .i64 (-1)]) trivial rfl Tryd.underlying26 ty3 rfl rfl rfl (by simp [Value.cells]) rfl (rfl) ?_)
  intro v27_3
  have h27_3 : RepL (α := Int) Hj1 ([.int .i64 0, .int .i64 (-1)]) [0, (-1)] := (RepL.cons (α := Int) (c := [.int .i64 0]) rfl (RepL.cons (α := Int) (c := [.int .i64 (-1)]) rfl (RepL.nil (α := Int))))
  refine a_frow (i := 3) rfl rfl h27_0 rfl ?_
  intro H27_4e1f l27_4e1f h27_4e1f
  have h27_1 := RepL.mono l27_4e1f h27_1
  have h27_2 := RepL.mono l27_4e1f h27_2
  have h27_3 := RepL.mono l27_4e1f h27_3
  have hg := Glob.mono l27_4e1f hg
  refine a_frow (i := 2) rfl rfl h27_1 rfl ?_
  intro H27_4e2f l27_4e2f h27_4e2f
  have h27_4e1f := Sl.mono l27_4e2f h27_4e1f
  have h27_2 := RepL.mono l27_4e2f h27_2
  have h27_3 := RepL.mono l27_4e2f h27_3
  have hg := Glob.mono l27_4e2f hg
  refine a_frow (i := 1) rfl rfl h27_2 rfl ?_
  intro H27_4e3f l27_4e3f h27_4e3f
  have h27_4e1f := Sl.mono l27_4e3f h27_4e1f
  have h27_4e2f := Sl.mono l27_4e3f h27_4e2f
  have h27_3 := RepL.mono l27_4e3f h27_3
  have hg := Glob.mono l27_4e3f hg
  refine a_frow (i := 0) rfl rfl h27_3 rfl ?_
  intro H27_4e4f l27_4e4f h27_4e4f
  have h27_4e1f := Sl.mono l27_4e4f h27_4e1f
  have h27_4e2f := Sl.mono l27_4e4f h27_4e2f
  have h27_4e3f := Sl.mono l27_4e4f h27_4e3f
  have hg := Glob.mono l27_4e4f hg
  refine a_cons (e_buildSlice (xs := [.const (.slice none 0 0), .tmp 278, .tmp 279, .tmp 280, .tmp 281]) (cs := [.slice none 0 0, v27_0, v27_1, v27_2, v27_3]) trivial rfl Tryd.underlying97 ty26 rfl rfl rfl (by simp [Sl.cells1 h27_4e1f, Sl.cells1 h27_4e2f, Sl.cells1 h27_4e3f, Sl.cells1 h27_4e4f]; try simp [Value.cells]) rfl (by simp [Sl.cells1 h27_4e1f, Sl.cells1 h27_4e2f, Sl.cells1 h27_4e3f, Sl.cells1 h27_4e4f]; try simp [Value.cells]) ?_)
  intro v27_4
  have h27_4 : RepL (α := List Int) H27_4e4f ([.slice none 0 0, v27_0, v27_1, v27_2, v27_3]) [[], [2], [2, 2, 2], [4, 0], [0, (-1)]] := (RepL.cons (α := List Int) (c := [.slice none 0 0]) ⟨_, rfl, sl_nil _ none 0⟩ (RepL.cons (α := List Int) (c := [v27_0]) ⟨_, rfl, h27_4e1f⟩ (RepL.cons (α := List Int) (c := [v27_1]) ⟨_, rfl, h27_4e2f⟩ (RepL.cons (α := List Int) (c := [v27_2]) ⟨_, rfl, h27_4e3f⟩ (RepL.cons (α := List Int) (c := [v27_3]) ⟨_, rfl, h27_4e4f⟩ (RepL.nil (α := List Int)))))))
  refine ap (y_assign rfl) ?_
  refine a_nil ?_
  refine a_frow (i := 0) rfl rfl h27_4 rfl ?_
  intro H27wf l27wf h27wf
  have h27_4e1f := Sl.mono l27wf h27_4e1f
  have h27_4e2f := Sl.mono l27wf h27_4e2f
  have h27_4e3f := Sl.mono l27wf h27_4e3f
  have h27_4e4f := Sl.mono l27wf h27_4e4f
  have hg := Glob.mono l27wf hg
  refine a_en [(25, v27_4)] ?_
  refine a_own [] (by decide) (L' := []) rfl ?_
  refine a_then (a_seq (a_seq (a_region rfl ?_)))
  refine ap (y_assign rfl) ?_
  refine a_nil (a_then ?_)
  obtain ⟨s_j5, hs_j5, hm_j5⟩ := bind_some hm
  refine a_join (fun a_ w_ => ∃ (Hj5 : Hp), ∃ (_ : HLe H27wf Hj5), Sum.inr () = s_j5 ∧ Ag 576 [] [] a_ ∧ St (Kp.mk w H noX) Hj5 [] w_) ?_ ?_
  · have hm := hs_j5
    refine a_block ?_
    refine a_loop (fun n_j6 a_ w_ => ∃ (Hj6 : Hp), ∃ (_ : HLe H27wf Hj6), ∃ (yj6_26 : Int), law03_TunnelKnown_lj6 k n_j6 yj6_26 = some s_j5 ∧ Ag 576 [] [(25, v27_4), (26, .int .i64 yj6_26)] a_ ∧ St (Kp.mk w H noX) Hj6 [] w_) k ?_ ?_
    · intro a_ w_ ha_ hs_
      exact ⟨H27wf, (HLe.refl _), 0, hm, ha_.weaken ⟨rfl, rfl, trivial⟩, hs_.reix [] (by decide)⟩
    rintro (_ | n_j6) a_ w_ ⟨Hj6, lj6, yj6_26, hm, ha_, hs_⟩
    · rw [law03_TunnelKnown_lj6.eq_1] at hm; cases hm
    rw [law03_TunnelKnown_lj6.eq_2] at hm
    refine a_start ha_ hs_ ?_
    have h27wf := Sl.mono lj6 h27wf
    have hg := Glob.mono lj6 hg
    refine a_seq (a_seq (a_region rfl ?_))
    refine ap (y_move rfl) ?_
    refine ap (y_move rfl) ?_
    refine ap (y_len_sl Tryd.underlying97 rfl h27wf) ?_
    refine ap (y_lss rfl rfl) ?_
    refine a_nil ?_
    refine a_en [(25, v27_4), (26, .int .i64 yj6_26), (286, .bool (decide (yj6_26 < (((([[], [2], [2, 2, 2], [4, 0], [0, (-1)]] : List (List Int))).length : Int)))))] ?_
    refine a_then ?_
    refine a_cond rfl (fun k_7 => ?_) (fun k_7 => ?_)
    · have hm := cond_t k_7 hm
      refine a_skip (a_then (a_seq (a_block (a_seq ?_))))
      obtain ⟨x31_0, q31_0, hm⟩ := bind_some hm
      obtain ⟨x31_3, q31_3, hm⟩ := bind_some hm
      obtain ⟨x31_5, q31_5, hm⟩ := bind_some hm
      refine d_region (S := Sw Hj6 []) (n := 11) (listed := (bits 11 0)) mixed (by kernel_rfl) rfl (by kernel_rfl) ?_
      refine dt 1 2 rfl trivial (y_move rfl) (sw0 []) ?_
      refine dt 2 6 rfl trivial (y_move rfl) (sw0 []) ?_
      obtain ⟨b31_3, o31_3, c31_3, e31_3, h31_3⟩ := Sl.elemZ 1 rfl h27wf q31_3
      refine dt 3 14 rfl trivial (y_index Tryd.underlying97 ty26 rfl e31_3 rfl (nth_in q31_3)) (sw0 []) ?_
      obtain ⟨v31_4, h31_4, c31_4⟩ := PAt.sl h31_3
      refine dt 4 30 rfl trivial (y_load_one ty26 rfl (fun _ h => h.1) rfl c31_4) (sw0 []) ?_
      refine d1 0 rfl (e_callO (all := []) trivial rfl Tryd.func69 rfl rfl rfl rfl rfl (fun w hw => ok_69 hw q31_0) ?_)
      rintro _ H31_0 _ l31_0 ⟨vp31_0, vf31_0, cp31_0, cf31_0, rfl, rfl, hp31_0, hf31_0⟩
      have h27wf := Sl.mono l31_0 h27wf
      have h31_3 := PAt.mono l31_0 h31_3
      have h31_4 := Sl.mono l31_0 h31_4
      have hg := Glob.mono l31_0 hg
      refine dn 31 (swl l31_0 []) ?_
      refine a_frow (i := 0) rfl rfl hp31_0 rfl ?_
      intro H31_5q0f l31_5q0f h31_5q0f
      have h27wf := Sl.mono l31_5q0f h27wf
      have h31_3 := PAt.mono l31_5q0f h31_3
      have h31_4 := Sl.mono l31_5q0f h31_4
      have hf31_0 := RepL.mono l31_5q0f hf31_0
      have hg := Glob.mono l31_5q0f hg
      refine a_frow (i := 1) rfl rfl hf31_0 rfl ?_
      intro H31_5q1f l31_5q1f h31_5q1f
      have h27wf := Sl.mono l31_5q1f h27wf
      have h31_3 := PAt.mono l31_5q1f h31_3
      have h31_4 := Sl.mono l31_5q1f h31_4
      have h31_5q0f := Sl.mono l31_5q1f h31_5q0f
      have hg := Glob.mono l31_5q1f hg
      have m31_5g0l : Rp.rep H31_5q1f [vp31_0, vf31_0] (⟨x31_0.Parts, x31_0.Frames⟩ : TunnelBook) := ⟨_, _, rfl, ⟨_, rfl, h31_5q0f⟩, ⟨_, rfl, h31_5q1f⟩⟩
      refine d1 5 rfl (e_callV (all := [.agg [vp31_0, vf31_0].toArray, v31_4]) (v := .tuple #[.int .i64 x31_5.1, .int .i64 x31_5.2]) trivial rfl Tryd.func19 rfl rfl rfl rfl rfl (fun w hw => ok_19 hw m31_5g0l h31_4 q31_5) ?_)
      refine dn 63 (swl (l31_0.trans (l31_5q0f.trans l31_5q1f)) []) ?_
      refine d_weaken (S' := Sw H31_5q1f []) (sw_sw (l31_0.trans (l31_5q0f.trans l31_5q1f)) [] rfl) ?_
      refine dt 6 127 rfl trivial (y_move rfl) (sw0 []) ?_
      refine dt 7 255 rfl trivial (y_extract rfl rfl) (sw0 []) ?_
      refine dt 8 511 rfl trivial (y_extract rfl rfl) (sw0 []) ?_
      refine dt 9 1023 rfl trivial (y_assign rfl) (sw0 []) ?_
      refine dt 10 2047 rfl trivial (y_assign rfl) (sw0 []) ?_
      refine d_done (by kernel_rfl) ?_
      refine a_en [(25, v27_4), (26, .int .i64 yj6_26), (28, .int .i64 x31_5.2)] ?_
      refine a_own [] (by decide) (L' := []) rfl ?_
      refine a_then (a_seq ?_)
      obtain ⟨x32_0, q32_0, hm⟩ := bind_some hm
      obtain ⟨x32_3, q32_3, hm⟩ := bind_some hm
      obtain ⟨x32_5, q32_5, hm⟩ := bind_some hm
      refine d_region (S := Sw H31_5q1f []) (n := 12) (listed := (bits 12 0)) mixed (by kernel_rfl) rfl (by kernel_rfl) ?_
      refine d_abs fun U32 hU32 => ?_
      have N32_0 (Hn32_5 : Hp) (ln32_5 : HLe H31_5q1f Hn32_5) (b32_9 : Nat) : At 576 [] (Kp.mk w H noX) [(25, v27_4), (26, .int .i64 yj6_26), (28, .int .i64 x31_5.2), (306, .int .i64 x32_5.2)] Hn32_5 [.box b32_9 x32_5.1.cells 32] (U32 (Sw Hn32_5 []) 1 (bits 12 2047)) := by
        refine d_fwd hU32 ?_
        have h27wf := Sl.mono ln32_5 h27wf
        have hg := Glob.mono ln32_5 hg
        refine dt 11 4095 rfl trivial (y_assign rfl) (sw0 []) ?_
        refine d_done (by kernel_rfl) ?_
        refine a_freeze (α := Span) (x := x32_5.1) (i := 0) rfl (Span.rep_mk _ x32_5.1) ?_
        intro Hb32_9 lb32_9 hb32_9
        have h27wf := Sl.mono lb32_9 h27wf
        have hg := Glob.mono lb32_9 hg
        refine a_en [(25, v27_4), (26, .int .i64 yj6_26), (28, .int .i64 x31_5.2), (30, .int .i64 x32_5.2)] ?_
        refine a_own [] (by decide) (L' := []) rfl ?_
        refine a_then (a_seq ?_)
        obtain ⟨x33_0, q33_0, hm⟩ := bind_some hm
        obtain ⟨x33_3, q33_3, hm⟩ := bind_some hm
        obtain ⟨x33_5, q33_5, hm⟩ := bind_some hm
        refine d_region (S := Sw Hb32_9 []) (n := 11) (listed := (bits 11 0)) mixed (by kernel_rfl) rfl (by kernel_rfl) ?_
        refine dt 1 2 rfl trivial (y_move rfl) (sw0 []) ?_
        refine dt 2 6 rfl trivial (y_move rfl) (sw0 []) ?_
        obtain ⟨b33_3, o33_3, c33_3, e33_3, h33_3⟩ := Sl.elemZ 1 rfl h27wf q33_3
        refine dt 3 14 rfl trivial (y_index Tryd.underlying97 ty26 rfl e33_3 rfl (nth_in q33_3)) (sw0 []) ?_
        obtain ⟨v33_4, h33_4, c33_4⟩ := PAt.sl h33_3
        refine dt 4 30 rfl trivial (y_load_one ty26 rfl (fun _ h => h.1) rfl c33_4) (sw0 []) ?_
        refine d1 0 rfl (e_callO (all := []) trivial rfl Tryd.func69 rfl rfl rfl rfl rfl (fun w hw => ok_69 hw q33_0) ?_)
        rintro _ H33_0 _ l33_0 ⟨vp33_0, vf33_0, cp33_0, cf33_0, rfl, rfl, hp33_0, hf33_0⟩
        have h27wf := Sl.mono l33_0 h27wf
        have h33_3 := PAt.mono l33_0 h33_3
        have h33_4 := Sl.mono l33_0 h33_4
        have hg := Glob.mono l33_0 hg
        refine dn 31 (swl l33_0 []) ?_
        refine a_frow (i := 0) rfl rfl hp33_0 rfl ?_
        intro H33_5q0f l33_5q0f h33_5q0f
        have h27wf := Sl.mono l33_5q0f h27wf
        have h33_3 := PAt.mono l33_5q0f h33_3
        have h33_4 := Sl.mono l33_5q0f h33_4
        have hf33_0 := RepL.mono l33_5q0f hf33_0
        have hg := Glob.mono l33_5q0f hg
        refine a_frow (i := 1) rfl rfl hf33_0 rfl ?_
        intro H33_5q1f l33_5q1f h33_5q1f
        have h27wf := Sl.mono l33_5q1f h27wf
        have h33_3 := PAt.mono l33_5q1f h33_3
        have h33_4 := Sl.mono l33_5q1f h33_4
        have h33_5q0f := Sl.mono l33_5q1f h33_5q0f
        have hg := Glob.mono l33_5q1f hg
        have m33_5g0l : Rp.rep H33_5q1f [vp33_0, vf33_0] (⟨x33_0.Parts, x33_0.Frames⟩ : TunnelBook) := ⟨_, _, rfl, ⟨_, rfl, h33_5q0f⟩, ⟨_, rfl, h33_5q1f⟩⟩
        refine d1 5 rfl (e_callV (all := [.agg [vp33_0, vf33_0].toArray, v33_4, .int .i64 0]) (v := .tuple #[.int .i64 x33_5.1, .int .i64 x33_5.2]) trivial rfl Tryd.func25 rfl rfl rfl rfl rfl (fun w hw => ok_25 hw m33_5g0l h33_4 hg q33_5) ?_)
        refine dn 63 (swl (l33_0.trans (l33_5q0f.trans l33_5q1f)) []) ?_
        refine d_weaken (S' := Sw H33_5q1f []) (sw_sw (l33_0.trans (l33_5q0f.trans l33_5q1f)) [] rfl) ?_
        refine dt 6 127 rfl trivial (y_move rfl) (sw0 []) ?_
        refine dt 7 255 rfl trivial (y_extract rfl rfl) (sw0 []) ?_
        refine dt 8 511 rfl trivial (y_extract rfl rfl) (sw0 []) ?_
        refine dt 9 1023 rfl trivial (y_assign rfl) (sw0 []) ?_
        refine dt 10 2047 rfl trivial (y_assign rfl) (sw0 []) ?_
        refine d_done (by kernel_rfl) ?_
        refine a_en [(25, v27_4), (26, .int .i64 yj6_26), (28, .int .i64 x31_5.2), (30, .int .i64 x32_5.2), (32, .int .i64 x33_5.2)] ?_
        refine a_own [] (by decide) (L' := []) rfl ?_
        refine a_then (a_seq ?_)
        obtain ⟨x34_0, q34_0, hm⟩ := bind_some hm
        obtain ⟨x34_3, q34_3, hm⟩ := bind_some hm
        obtain ⟨x34_5, q34_5, hm⟩ := bind_some hm
        refine d_region (S := Sw H33_5q1f []) (n := 11) (listed := (bits 11 0)) mixed (by kernel_rfl) rfl (by kernel_rfl) ?_
        refine dt 1 2 rfl trivial (y_move rfl) (sw0 []) ?_
        refine dt 2 6 rfl trivial (y_move rfl) (sw0 []) ?_
        obtain ⟨b34_3, o34_3, c34_3, e34_3, h34_3⟩ := Sl.elemZ 1 rfl h27wf q34_3
        refine dt 3 14 rfl trivial (y_index Tryd.underlying97 ty26 rfl e34_3 rfl (nth_in q34_3)) (sw0 []) ?_
        obtain ⟨v34_4, h34_4, c34_4⟩ := PAt.sl h34_3
        refine dt 4 30 rfl trivial (y_load_one ty26 rfl (fun _ h => h.1) rfl c34_4) (sw0 []) ?_
        refine d1 0 rfl (e_callO (all := []) trivial rfl Tryd.func69 rfl rfl rfl rfl rfl (fun w hw => ok_69 hw q34_0) ?_)
        rintro _ H34_0 _ l34_0 ⟨vp34_0, vf34_0, cp34_0, cf34_0, rfl, rfl, hp34_0, hf34_0⟩
        have h27wf := Sl.mono l34_0 h27wf
        have h34_3 := PAt.mono l34_0 h34_3
        have h34_4 := Sl.mono l34_0 h34_4
        have hg := Glob.mono l34_0 hg
        refine dn 31 (swl l34_0 []) ?_
        refine a_frow (i := 0) rfl rfl hp34_0 rfl ?_
        intro H34_5q0f l34_5q0f h34_5q0f
        have h27wf := Sl.mono l34_5q0f h27wf
        have h34_3 := PAt.mono l34_5q0f h34_3
        have h34_4 := Sl.mono l34_5q0f h34_4
        have hf34_0 := RepL.mono l34_5q0f hf34_0
        have hg := Glob.mono l34_5q0f hg
        refine a_frow (i := 1) rfl rfl hf34_0 rfl ?_
        intro H34_5q1f l34_5q1f h34_5q1f
        have h27wf := Sl.mono l34_5q1f h27wf
        have h34_3 := PAt.mono l34_5q1f h34_3
        have h34_4 := Sl.mono l34_5q1f h34_4
        have h34_5q0f := Sl.mono l34_5q1f h34_5q0f
        have hg := Glob.mono l34_5q1f hg
        have m34_5g0l : Rp.rep H34_5q1f [vp34_0, vf34_0] (⟨x34_0.Parts, x34_0.Frames⟩ : TunnelBook) := ⟨_, _, rfl, ⟨_, rfl, h34_5q0f⟩, ⟨_, rfl, h34_5q1f⟩⟩
        refine d1 5 rfl (e_callH (all := [.agg [vp34_0, vf34_0].toArray, v34_4]) trivial rfl Tryd.func27 rfl rfl rfl rfl rfl (fun w hw => ok_27 hw m34_5g0l h34_4 hg q34_5) ?_)
        rintro _ H34_5 l34_5 ⟨v34_5r0, rfl, h34_5r0⟩
        have h27wf := Sl.mono l34_5 h27wf
        have h34_3 := PAt.mono l34_5 h34_3
        have h34_4 := Sl.mono l34_5 h34_4
        have h34_5q0f := Sl.mono l34_5 h34_5q0f
        have h34_5q1f := Sl.mono l34_5 h34_5q1f
        have hg := Glob.mono l34_5 hg
        refine dn 63 (swl (l34_0.trans (l34_5q0f.trans (l34_5q1f.trans l34_5))) []) ?_
        refine d_weaken (S' := Sw H34_5 []) (sw_sw (l34_0.trans (l34_5q0f.trans (l34_5q1f.trans l34_5))) [] rfl) ?_
        refine dt 6 127 rfl trivial (y_move rfl) (sw0 []) ?_
        refine dt 7 255 rfl trivial (y_extract rfl rfl) (sw0 []) ?_
        refine dt 8 511 rfl trivial (y_extract rfl rfl) (sw0 []) ?_
        refine dt 9 1023 rfl trivial (y_assign rfl) (sw0 []) ?_
        refine dt 10 2047 rfl trivial (y_assign rfl) (sw0 []) ?_
        refine d_done (by kernel_rfl) ?_
        refine a_en [(25, v27_4), (26, .int .i64 yj6_26), (28, .int .i64 x31_5.2), (30, .int .i64 x32_5.2), (32, .int .i64 x33_5.2), (34, .int .i64 x34_5.2)] ?_
        refine a_own [] (by decide) (L' := []) rfl ?_
        refine a_then (a_seq ?_)
        obtain ⟨x35_0, q35_0, hm⟩ := bind_some hm
        obtain ⟨x35_3, q35_3, hm⟩ := bind_some hm
        obtain ⟨x35_5, q35_5, hm⟩ := bind_some hm
        refine d_region (S := Sw H34_5 []) (n := 11) (listed := (bits 11 0)) mixed (by kernel_rfl) rfl (by kernel_rfl) ?_
        refine dt 1 2 rfl trivial (y_move rfl) (sw0 []) ?_
        refine dt 2 6 rfl trivial (y_move rfl) (sw0 []) ?_
        obtain ⟨b35_3, o35_3, c35_3, e35_3, h35_3⟩ := Sl.elemZ 1 rfl h27wf q35_3
        refine dt 3 14 rfl trivial (y_index Tryd.underlying97 ty26 rfl e35_3 rfl (nth_in q35_3)) (sw0 []) ?_
        obtain ⟨v35_4, h35_4, c35_4⟩ := PAt.sl h35_3
        refine dt 4 30 rfl trivial (y_load_one ty26 rfl (fun _ h => h.1) rfl c35_4) (sw0 []) ?_
        refine d1 0 rfl (e_callO (all := []) trivial rfl Tryd.func69 rfl rfl rfl rfl rfl (fun w hw => ok_69 hw q35_0) ?_)
        rintro _ H35_0 _ l35_0 ⟨vp35_0, vf35_0, cp35_0, cf35_0, rfl, rfl, hp35_0, hf35_0⟩
        have h27wf := Sl.mono l35_0 h27wf
        have h35_3 := PAt.mono l35_0 h35_3
        have h35_4 := Sl.mono l35_0 h35_4
        have hg := Glob.mono l35_0 hg
        refine dn 31 (swl l35_0 []) ?_
        refine a_frow (i := 0) rfl rfl hp35_0 rfl ?_
        intro H35_5q0f l35_5q0f h35_5q0f
        have h27wf := Sl.mono l35_5q0f h27wf
        have h35_3 := PAt.mono l35_5q0f h35_3
        have h35_4 := Sl.mono l35_5q0f h35_4
        have hf35_0 := RepL.mono l35_5q0f hf35_0
        have hg := Glob.mono l35_5q0f hg
        refine a_frow (i := 1) rfl rfl hf35_0 rfl ?_
        intro H35_5q1f l35_5q1f h35_5q1f
        have h27wf := Sl.mono l35_5q1f h27wf
        have h35_3 := PAt.mono l35_5q1f h35_3
        have h35_4 := Sl.mono l35_5q1f h35_4
        have h35_5q0f := Sl.mono l35_5q1f h35_5q0f
        have hg := Glob.mono l35_5q1f hg
        have m35_5g0l : Rp.rep H35_5q1f [vp35_0, vf35_0] (⟨x35_0.Parts, x35_0.Frames⟩ : TunnelBook) := ⟨_, _, rfl, ⟨_, rfl, h35_5q0f⟩, ⟨_, rfl, h35_5q1f⟩⟩
        refine d1 5 rfl (e_callV (all := [.agg [vp35_0, vf35_0].toArray, v35_4, .int .i64 0, .int .i64 0]) (v := .tuple #[.int .i64 x35_5.1, .int .i64 x35_5.2]) trivial rfl Tryd.func39 rfl rfl rfl rfl rfl (fun w hw => ok_39 hw m35_5g0l h35_4 hg q35_5) ?_)
        refine dn 63 (swl (l35_0.trans (l35_5q0f.trans l35_5q1f)) []) ?_
        refine d_weaken (S' := Sw H35_5q1f []) (sw_sw (l35_0.trans (l35_5q0f.trans l35_5q1f)) [] rfl) ?_
        refine dt 6 127 rfl trivial (y_move rfl) (sw0 []) ?_
        refine dt 7 255 rfl trivial (y_extract rfl rfl) (sw0 []) ?_
        refine dt 8 511 rfl trivial (y_extract rfl rfl) (sw0 []) ?_
        refine dt 9 1023 rfl trivial (y_assign rfl) (sw0 []) ?_
        refine dt 10 2047 rfl trivial (y_assign rfl) (sw0 []) ?_
        refine d_done (by kernel_rfl) ?_
        refine a_en [(25, v27_4), (26, .int .i64 yj6_26), (28, .int .i64 x31_5.2), (30, .int .i64 x32_5.2), (32, .int .i64 x33_5.2), (34, .int .i64 x34_5.2), (36, .int .i64 x35_5.2)] ?_
        refine a_own [] (by decide) (L' := []) rfl ?_
        refine a_then (a_seq (a_region rfl ?_))
        refine ap (y_move rfl) ?_
        refine ap (y_neq rfl rfl) ?_
        refine ap (y_move rfl) ?_
        refine agf rfl rfl (fun hc_ => y_move rfl) ?_
        refine agf rfl rfl (fun hc_ => y_neq (sff rfl hc_) rfl) ?_
        refine ap (y_pick_bb rfl (fun _ => rfl) (fun h_ => sff rfl h_)) ?_
        refine ap (y_move rfl) ?_
        refine agf rfl rfl (fun hc_ => y_move rfl) ?_
        refine agf rfl rfl (fun hc_ => y_neq (sff rfl hc_) rfl) ?_
        refine ap (y_pick_bb rfl (fun _ => rfl) (fun h_ => sff rfl h_)) ?_
        refine ap (y_move rfl) ?_
        refine agf rfl rfl (fun hc_ => y_move rfl) ?_
        refine agf rfl rfl (fun hc_ => y_neq (sff rfl hc_) rfl) ?_
        refine ap (y_pick_bb rfl (fun _ => rfl) (fun h_ => sff rfl h_)) ?_
        refine ap (y_move rfl) ?_
        refine agf rfl rfl (fun hc_ => y_move rfl) ?_
        refine agf rfl rfl (fun hc_ => y_neq (sff rfl hc_) rfl) ?_
        refine ap (y_pick_bb rfl (fun _ => rfl) (fun h_ => sff rfl h_)) ?_
        refine a_nil ?_
        refine a_en [(25, v27_4), (26, .int .i64 yj6_26), (337, bif x31_5.2 != 31 then undef else .int .i64 x32_5.2), (338, bif x31_5.2 != 31 then undef else .bool (x32_5.2 != 31)), (341, bif (bif x31_5.2 != 31 then true else x32_5.2 != 31) then undef else .int .i64 x33_5.2), (342, bif (bif x31_5.2 != 31 then true else x32_5.2 != 31) then undef else .bool (x33_5.2 != 31)), (345, bif (bif (bif x31_5.2 != 31 then true else x32_5.2 != 31) then true else x33_5.2 != 31) then undef else .int .i64 x34_5.2), (346, bif (bif (bif x31_5.2 != 31 then true else x32_5.2 != 31) then true else x33_5.2 != 31) then undef else .bool (x34_5.2 != 31)), (349, bif (bif (bif (bif x31_5.2 != 31 then true else x32_5.2 != 31) then true else x33_5.2 != 31) then true else x34_5.2 != 31) then undef else .int .i64 x35_5.2), (350, bif (bif (bif (bif x31_5.2 != 31 then true else x32_5.2 != 31) then true else x33_5.2 != 31) then true else x34_5.2 != 31) then undef else .bool (x35_5.2 != 31)), (351, .bool (bif (bif (bif (bif x31_5.2 != 31 then true else x32_5.2 != 31) then true else x33_5.2 != 31) then true else x34_5.2 != 31) then true else x35_5.2 != 31))] ?_
        refine a_then ?_
        refine a_cond rfl (fun k_8 => ?_) (fun k_8 => ?_)
        · have hm := cond_t k_8 hm
          refine a_seq (a_region rfl ?_)
          refine ap (y_assign rfl) ?_
          refine a_nil ?_
          refine a_en [(0, .bool false)] ?_
          refine a_then (a_ret (a_block_ret (a_then_ret (a_then_ret (a_block_ret (a_cut_ret (a_then_ret ?_)))))))
          obtain rfl := Option.some.inj hm
          have hm := hm_j5
          try dsimp only at hm
          refine a_done (v := .bool false) (.inl rfl) rfl ?_ ?_
          · intro a_ w_ ha_ hs_; exact run_results (P := Tryd.prog) (fn := Tryd.f16) (rs := [.tmp 0]) (vs := [.bool false]) rfl (.cons (rv_tmp ha_ rfl) (All2.nil))
          · intro _ _; obtain rfl := Option.some.inj hm
            rfl
        have hm := cond_f k_8 hm
        refine a_skip (a_block_normal (a_then (a_region rfl ?_)))
        refine ap (y_move rfl) ?_
        refine ap (y_add rfl rfl) ?_
        refine ap (y_assign rfl) ?_
        refine a_nil ?_
        refine a_en [(25, v27_4), (26, .int .i64 (IntKind.i64.wrap (yj6_26 + 1))), (337, bif x31_5.2 != 31 then undef else .int .i64 x32_5.2), (338, bif x31_5.2 != 31 then undef else .bool (x32_5.2 != 31)), (341, bif (bif x31_5.2 != 31 then true else x32_5.2 != 31) then undef else .int .i64 x33_5.2), (342, bif (bif x31_5.2 != 31 then true else x32_5.2 != 31) then undef else .bool (x33_5.2 != 31)), (345, bif (bif (bif x31_5.2 != 31 then true else x32_5.2 != 31) then true else x33_5.2 != 31) then undef else .int .i64 x34_5.2), (346, bif (bif (bif x31_5.2 != 31 then true else x32_5.2 != 31) then true else x33_5.2 != 31) then undef else .bool (x34_5.2 != 31)), (349, bif (bif (bif (bif x31_5.2 != 31 then true else x32_5.2 != 31) then true else x33_5.2 != 31) then true else x34_5.2 != 31) then undef else .int .i64 x35_5.2), (350, bif (bif (bif (bif x31_5.2 != 31 then true else x32_5.2 != 31) then true else x33_5.2 != 31) then true else x34_5.2 != 31) then undef else .bool (x35_5.2 != 31))] ?_
        refine a_then ?_
        intro a_ w_ ha_ hs_
        exact ⟨n_j6, Nat.lt_succ_self _, H35_5q1f, (lj6.trans (l31_0.trans (l31_5q0f.trans (l31_5q1f.trans (ln32_5.trans (lb32_9.trans (l33_0.trans (l33_5q0f.trans (l33_5q1f.trans (l34_0.trans (l34_5q0f.trans (l34_5q1f.trans (l34_5.trans (l35_0.trans (l35_5q0f.trans l35_5q1f))))))))))))))), IntKind.i64.wrap (yj6_26 + 1), hm, ha_.weaken ⟨rfl, rfl, trivial⟩, hs_.reix [] (by decide)⟩
      have N32_1 (Hn32_7 : Hp) (ln32_7 : HLe H31_5q1f Hn32_7) (b32_9 : Nat) : At 576 [] (Kp.mk w H noX) [(25, v27_4), (26, .int .i64 yj6_26), (28, .int .i64 x31_5.2), (29, .pointer (some ⟨b32_9, 0, none⟩)), (305, .agg x32_5.1.cells.toArray), (306, .int .i64 x32_5.2)] Hn32_7 ([.box b32_9 [.int .i64 0, .int .i64 0] 32]) (U32 (Sw Hn32_7 []) 2 (bits 12 1023)) := by
        refine d_fwd hU32 ?_
        have h27wf := Sl.mono ln32_7 h27wf
        have hg := Glob.mono ln32_7 hg
        refine d1 10 rfl (e_storeWhole (i := 0) (ds := x32_5.1.cells) trivial ty32 rfl rfl rfl rfl rfl ((Rp.one (Span.rep_mk (fun _ => none) x32_5.1))) rfl ?_)
        refine dn 2047 (sw0 []) ?_
        exact d_edge hU32 (N32_0 Hn32_7 ln32_7 b32_9) ⟨rfl, rfl, rfl, rfl, trivial⟩ [0] (by decide) rfl (fun _ h => h)
      have N32_2 (Hn32_4 : Hp) (ln32_4 : HLe H31_5q1f Hn32_4) (b32_9 : Nat) : At 576 [] (Kp.mk w H noX) [(25, v27_4), (26, .int .i64 yj6_26), (28, .int .i64 x31_5.2), (29, .pointer (some ⟨b32_9, 0, none⟩)), (304, .tuple #[.agg x32_5.1.cells.toArray, .int .i64 x32_5.2])] Hn32_4 ([.box b32_9 [.int .i64 0, .int .i64 0] 32]) (U32 (Sw Hn32_4 []) 5 (bits 12 575)) := by
        refine d_fwd hU32 ?_
        have h27wf := Sl.mono ln32_4 h27wf
        have hg := Glob.mono ln32_4 hg
        refine dt 6 639 rfl trivial (y_move rfl) (sw0 []) ?_
        refine dt 7 767 rfl trivial (y_extract rfl rfl) (sw0 []) ?_
        refine dt 8 1023 rfl trivial (y_extract rfl rfl) (sw0 []) ?_
        refine d1 10 rfl (e_storeWhole (i := 0) (ds := x32_5.1.cells) trivial ty32 rfl rfl rfl rfl rfl ((Rp.one (Span.rep_mk (fun _ => none) x32_5.1))) rfl ?_)
        refine dn 2047 (sw0 []) ?_
        exact d_edge hU32 (N32_0 Hn32_4 ln32_4 b32_9) ⟨rfl, rfl, rfl, rfl, trivial⟩ [0] (by decide) rfl (fun _ h => h)
      have N32_3 (Hn32_6 : Hp) (ln32_6 : HLe H31_5q1f Hn32_6) : At 576 [] (Kp.mk w H noX) [(25, v27_4), (26, .int .i64 yj6_26), (28, .int .i64 x31_5.2), (304, .tuple #[.agg x32_5.1.cells.toArray, .int .i64 x32_5.2])] Hn32_6 [] (U32 (Sw Hn32_6 []) 6 (bits 12 63)) := by
        refine d_fwd hU32 ?_
        have h27wf := Sl.mono ln32_6 h27wf
        have hg := Glob.mono ln32_6 hg
        refine dt 6 127 rfl trivial (y_move rfl) (sw0 []) ?_
        refine dt 7 255 rfl trivial (y_extract rfl rfl) (sw0 []) ?_
        refine dt 8 511 rfl trivial (y_extract rfl rfl) (sw0 []) ?_
        refine d1 9 rfl (e_alloc (cs := [.int .i64 0, .int .i64 0]) trivial rfl ty32 rfl ?_)
        intro b32_9
        refine dn 1023 (sw0 []) ?_
        exact d_edge hU32 (N32_1 Hn32_6 ln32_6 b32_9) ⟨rfl, rfl, rfl, rfl, rfl, rfl, trivial⟩ [0] (by decide) rfl (fun _ h => h)
      have N32_4 (Hn32_3 : Hp) (ln32_3 : HLe H31_5q1f Hn32_3) (b32_9 : Nat) (v32_4 : Value) (vf32_0 : Value) (cf32_0 : List Value) (vp32_0 : Value) (cp32_0 : List Value) (h32_4 : Sl (α := Int) Hn32_3 v32_4 x32_3) (hf32_0 : RepL (α := TunnelFrame) Hn32_3 cf32_0 x32_0.Frames) (hp32_0 : RepL (α := TunnelPart) Hn32_3 cp32_0 x32_0.Parts) : At 576 [] (Kp.mk w H noX) [(25, v27_4), (26, .int .i64 yj6_26), (28, .int .i64 x31_5.2), (29, .pointer (some ⟨b32_9, 0, none⟩)), (299, .agg #[vp32_0, vf32_0]), (303, v32_4)] Hn32_3 ([.box b32_9 [.int .i64 0, .int .i64 0] 32, .row vf32_0 cf32_0 55 3, .row vp32_0 cp32_0 64 6]) (U32 (Sw Hn32_3 []) 6 (bits 12 543)) := by
        refine d_fwd hU32 ?_
        have h27wf := Sl.mono ln32_3 h27wf
        have hg := Glob.mono ln32_3 hg
        refine a_frow (i := 2) rfl rfl hp32_0 rfl ?_
        intro H32_5q0f l32_5q0f h32_5q0f
        have h27wf := Sl.mono l32_5q0f h27wf
        have h32_4 := Sl.mono l32_5q0f h32_4
        have hf32_0 := RepL.mono l32_5q0f hf32_0
        have hg := Glob.mono l32_5q0f hg
        refine a_frow (i := 1) rfl rfl hf32_0 rfl ?_
        intro H32_5q1f l32_5q1f h32_5q1f
        have h27wf := Sl.mono l32_5q1f h27wf
        have h32_4 := Sl.mono l32_5q1f h32_4
        have h32_5q0f := Sl.mono l32_5q1f h32_5q0f
        have hg := Glob.mono l32_5q1f hg
        have m32_5g0l : Rp.rep H32_5q1f [vp32_0, vf32_0] (⟨x32_0.Parts, x32_0.Frames⟩ : TunnelBook) := ⟨_, _, rfl, ⟨_, rfl, h32_5q0f⟩, ⟨_, rfl, h32_5q1f⟩⟩
        refine d1 5 rfl (e_callV (all := [.agg [vp32_0, vf32_0].toArray, v32_4, .int .i64 0]) (v := .tuple #[.agg x32_5.1.cells.toArray, .int .i64 x32_5.2]) trivial rfl Tryd.func23 rfl rfl rfl rfl rfl (fun w hw => ok_23 hw m32_5g0l h32_4 hg q32_5) ?_)
        refine dn 575 (swl (l32_5q0f.trans l32_5q1f) []) ?_
        exact d_edge hU32 (N32_2 H32_5q1f (ln32_3.trans (l32_5q0f.trans l32_5q1f)) b32_9) ⟨rfl, rfl, rfl, rfl, rfl, trivial⟩ [0] (by decide) rfl (sw_sw (l32_5q0f.trans l32_5q1f) [] rfl)
      have N32_5 (Hn32_1 : Hp) (ln32_1 : HLe H31_5q1f Hn32_1) (v32_4 : Value) (vf32_0 : Value) (cf32_0 : List Value) (vp32_0 : Value) (cp32_0 : List Value) (h32_4 : Sl (α := Int) Hn32_1 v32_4 x32_3) (hf32_0 : RepL (α := TunnelFrame) Hn32_1 cf32_0 x32_0.Frames) (hp32_0 : RepL (α := TunnelPart) Hn32_1 cp32_0 x32_0.Parts) : At 576 [] (Kp.mk w H noX) [(25, v27_4), (26, .int .i64 yj6_26), (28, .int .i64 x31_5.2), (299, .agg #[vp32_0, vf32_0]), (303, v32_4)] Hn32_1 [.row vf32_0 cf32_0 55 3, .row vp32_0 cp32_0 64 6] (U32 (Sw Hn32_1 []) 7 (bits 12 31)) := by
        refine d_fwd hU32 ?_
        have h27wf := Sl.mono ln32_1 h27wf
        have hg := Glob.mono ln32_1 hg
        refine d_all (rs := [5, 9]) (by kernel_rfl) rfl ⟨⟨_, rfl, ?_⟩, ⟨_, rfl, ?_⟩, trivial⟩
        · refine a_frow (i := 1) rfl rfl hp32_0 rfl ?_
          intro H32_5q0f l32_5q0f h32_5q0f
          have h27wf := Sl.mono l32_5q0f h27wf
          have h32_4 := Sl.mono l32_5q0f h32_4
          have hf32_0 := RepL.mono l32_5q0f hf32_0
          have hg := Glob.mono l32_5q0f hg
          refine a_frow (i := 0) rfl rfl hf32_0 rfl ?_
          intro H32_5q1f l32_5q1f h32_5q1f
          have h27wf := Sl.mono l32_5q1f h27wf
          have h32_4 := Sl.mono l32_5q1f h32_4
          have h32_5q0f := Sl.mono l32_5q1f h32_5q0f
          have hg := Glob.mono l32_5q1f hg
          have m32_5g0l : Rp.rep H32_5q1f [vp32_0, vf32_0] (⟨x32_0.Parts, x32_0.Frames⟩ : TunnelBook) := ⟨_, _, rfl, ⟨_, rfl, h32_5q0f⟩, ⟨_, rfl, h32_5q1f⟩⟩
          refine e_callV (all := [.agg [vp32_0, vf32_0].toArray, v32_4, .int .i64 0]) (v := .tuple #[.agg x32_5.1.cells.toArray, .int .i64 x32_5.2]) trivial rfl Tryd.func23 rfl rfl rfl rfl rfl (fun w hw => ok_23 hw m32_5g0l h32_4 hg q32_5) ?_
          refine dn 63 (swl (l32_5q0f.trans l32_5q1f) []) ?_
          exact d_edge hU32 (N32_3 H32_5q1f (ln32_1.trans (l32_5q0f.trans l32_5q1f))) ⟨rfl, rfl, rfl, rfl, trivial⟩ [] (by decide) rfl (sw_sw (l32_5q0f.trans l32_5q1f) [] rfl)
        refine e_alloc (cs := [.int .i64 0, .int .i64 0]) trivial rfl ty32 rfl ?_
        intro b32_9
        refine dn 543 (sw0 []) ?_
        exact d_edge hU32 (N32_4 Hn32_1 ln32_1 b32_9 v32_4 vf32_0 cf32_0 vp32_0 cp32_0 h32_4 hf32_0 hp32_0) ⟨rfl, rfl, rfl, rfl, rfl, rfl, trivial⟩ [0, 1, 2] (by decide) rfl (fun _ h => h)
      have N32_6 (Hn32_2 : Hp) (ln32_2 : HLe H31_5q1f Hn32_2) (b32_9 : Nat) (v32_4 : Value) (h32_4 : Sl (α := Int) Hn32_2 v32_4 x32_3) : At 576 [] (Kp.mk w H noX) [(25, v27_4), (26, .int .i64 yj6_26), (28, .int .i64 x31_5.2), (29, .pointer (some ⟨b32_9, 0, none⟩)), (303, v32_4)] Hn32_2 ([.box b32_9 [.int .i64 0, .int .i64 0] 32]) (U32 (Sw Hn32_2 []) 7 (bits 12 542)) := by
        refine d_fwd hU32 ?_
        have h27wf := Sl.mono ln32_2 h27wf
        have hg := Glob.mono ln32_2 hg
        refine d1 0 rfl (e_callO (all := []) trivial rfl Tryd.func69 rfl rfl rfl rfl rfl (fun w hw => ok_69 hw q32_0) ?_)
        rintro _ H32_0 _ l32_0 ⟨vp32_0, vf32_0, cp32_0, cf32_0, rfl, rfl, hp32_0, hf32_0⟩
        have h27wf := Sl.mono l32_0 h27wf
        have h32_4 := Sl.mono l32_0 h32_4
        have hg := Glob.mono l32_0 hg
        refine dn 543 (swl l32_0 []) ?_
        exact d_edge hU32 (N32_4 H32_0 (ln32_2.trans l32_0) b32_9 v32_4 vf32_0 cf32_0 vp32_0 cp32_0 h32_4 hf32_0 hp32_0) ⟨rfl, rfl, rfl, rfl, rfl, rfl, trivial⟩ [2, 1, 0] (by decide) rfl (sw_sw l32_0 [] rfl)
      refine d_fwd hU32 ?_
      refine dt 1 2 rfl trivial (y_move rfl) (sw0 []) ?_
      refine dt 2 6 rfl trivial (y_move rfl) (sw0 []) ?_
      obtain ⟨b32_3, o32_3, c32_3, e32_3, h32_3⟩ := Sl.elemZ 1 rfl h27wf q32_3
      refine dt 3 14 rfl trivial (y_index Tryd.underlying97 ty26 rfl e32_3 rfl (nth_in q32_3)) (sw0 []) ?_
      obtain ⟨v32_4, h32_4, c32_4⟩ := PAt.sl h32_3
      refine dt 4 30 rfl trivial (y_load_one ty26 rfl (fun _ h => h.1) rfl c32_4) (sw0 []) ?_
      refine d_all (rs := [0, 9]) (by kernel_rfl) rfl ⟨⟨_, rfl, ?_⟩, ⟨_, rfl, ?_⟩, trivial⟩
      · refine e_callO (all := []) trivial rfl Tryd.func69 rfl rfl rfl rfl rfl (fun w hw => ok_69 hw q32_0) ?_
        rintro _ H32_0 _ l32_0 ⟨vp32_0, vf32_0, cp32_0, cf32_0, rfl, rfl, hp32_0, hf32_0⟩
        have h27wf := Sl.mono l32_0 h27wf
        have h32_3 := PAt.mono l32_0 h32_3
        have h32_4 := Sl.mono l32_0 h32_4
        have hg := Glob.mono l32_0 hg
        refine dn 31 (swl l32_0 []) ?_
        exact d_edge hU32 (N32_5 H32_0 l32_0 v32_4 vf32_0 cf32_0 vp32_0 cp32_0 h32_4 hf32_0 hp32_0) ⟨rfl, rfl, rfl, rfl, rfl, trivial⟩ [1, 0] (by decide) rfl (sw_sw l32_0 [] rfl)
      refine e_alloc (cs := [.int .i64 0, .int .i64 0]) trivial rfl ty32 rfl ?_
      intro b32_9
      refine dn 542 (sw0 []) ?_
      exact d_edge hU32 (N32_6 H31_5q1f (HLe.refl _) b32_9 v32_4 h32_4) ⟨rfl, rfl, rfl, rfl, rfl, trivial⟩ [0] (by decide) rfl (fun _ h => h)
    have hm := cond_f k_7 hm
    refine a_exit (a_then_exit (a_then_exit (a_block_hit (a_cut ?_))))
    intro a_ w_ ha_ hs_
    exact ⟨Hj6, lj6, Option.some.inj hm, ha_.weaken trivial, hs_.reix [] (by decide)⟩
  have hm := hm_j5
  rintro a_ w_ ⟨Hj5, lj5, rfl, ha_, hs_⟩
  try dsimp only at hm
  refine a_start ha_ hs_ ?_
  have hg := Glob.mono lj5 hg
  refine a_then ?_
  exact ok_16_p2 (hle_.trans (l27_4e1f.trans (l27_4e2f.trans (l27_4e3f.trans (l27_4e4f.trans (l27wf.trans lj5)))))) hg hm
def law03_TunnelKnown (k : Nat) : Option Bool :=
 (law03_book k).bind fun x1_1 =>
 (law03_book k).bind fun x1_2 =>
 (law03_book k).bind fun x1_3 =>
 (law03_book k).bind fun x1_4 =>
 (law03_book k).bind fun x1_5 =>
 (law03_book k).bind fun x1_6 =>
 (law03_book k).bind fun x1_7 =>
 (law03_book k).bind fun x1_8 =>
 (law03_book k).bind fun x1_9 =>
 (law03_book k).bind fun x1_10 =>
 (nth x1_1.Parts 0).bind fun x1_11_2 =>
 (nth x1_1.Frames 0).bind fun x1_11_3 =>
 (nth x1_2.Parts 0).bind fun x1_11_4 =>
 (nth x1_2.Frames 0).bind fun x1_11_5 =>
 (nth x1_3.Parts 0).bind fun x1_11_6 =>
 (nth x1_3.Frames 0).bind fun x1_11_7 =>
 (nth x1_4.Parts 0).bind fun x1_11_8 =>
 (nth x1_4.Frames 0).bind fun x1_11_9 =>
 (nth x1_5.Parts 0).bind fun x1_11_10 =>
 (nth x1_5.Frames 0).bind fun x1_11_11 =>
 (nth x1_6.Parts 0).bind fun x1_11_12 =>
 (nth x1_6.Frames 0).bind fun x1_11_13 =>
 (nth x1_7.Parts 0).bind fun x1_11_14 =>
 (nth x1_7.Frames 0).bind fun x1_11_15 =>
 (nth x1_8.Parts 0).bind fun x1_11_16 =>
 (nth x1_8.Frames 0).bind fun x1_11_17 =>
 (nth x1_9.Parts 0).bind fun x1_11_18 =>
 (nth x1_9.Frames 0).bind fun x1_11_19 =>
 (nth x1_10.Parts 0).bind fun x1_11_20 =>
 (nth x1_10.Frames 0).bind fun x1_11_21 =>
 (mkz 5 (⟨[0, 0, 0, 0], ⟨0, 0⟩⟩ : TunnelPart)).bind fun x2_1 =>
 (nth x1_2.Parts (0 : Int)).bind fun x3_4 =>
 (nth x3_4.Heat (1 : Int)).bind fun x3_6 =>
 (nth x1_3.Parts (1 : Int)).bind fun x4_4 =>
 (nth x4_4.Heat (3 : Int)).bind fun x4_6 =>
 (ref00_Sp k 0 4).bind fun x5_4 =>
 (nth x1_4.Parts (0 : Int)).bind fun x5_5 =>
 (ref00_Sp k 19 21).bind fun x6_4 =>
 (nth x1_5.Parts (0 : Int)).bind fun x6_5 =>
 (mkz 6 (⟨[], ⟨0, 0⟩⟩ : TunnelFrame)).bind fun x7_1 =>
 (nth x1_7.Frames (0 : Int)).bind fun x8_5 =>
 (nth x1_8.Frames (1 : Int)).bind fun x9_5 =>
 (ref00_Sp k 30 1000).bind fun x10_4 =>
 (nth x1_9.Frames (2 : Int)).bind fun x10_5 =>
 (ref00_Sp k 30 29).bind fun x11_4 =>
 (nth x1_10.Frames (2 : Int)).bind fun x11_5 =>
 (some ([⟨[], []⟩, ⟨x2_1, x1_1.Frames⟩, ⟨(x1_2.Parts).set ((0 : Int)).toNat ((⟨(x3_4.Heat).set ((1 : Int)).toNat 0, x3_4.Damp⟩ : TunnelPart)), x1_2.Frames⟩, ⟨(x1_3.Parts).set ((1 : Int)).toNat ((⟨(x4_4.Heat).set ((3 : Int)).toNat 21, x4_4.Damp⟩ : TunnelPart)), x1_3.Frames⟩, ⟨(x1_4.Parts).set ((0 : Int)).toNat (⟨x5_5.Heat, x5_4⟩ : TunnelPart), x1_4.Frames⟩, ⟨(x1_5.Parts).set ((0 : Int)).toNat (⟨x6_5.Heat, x6_4⟩ : TunnelPart), x1_5.Frames⟩, ⟨x1_6.Parts, x7_1⟩, ⟨x1_7.Parts, (x1_7.Frames).set ((0 : Int)).toNat (⟨[5], x8_5.Need⟩ : TunnelFrame)⟩, ⟨x1_8.Parts, (x1_8.Frames).set ((1 : Int)).toNat (⟨[5, 21], x9_5.Need⟩ : TunnelFrame)⟩, ⟨x1_9.Parts, (x1_9.Frames).set ((2 : Int)).toNat (⟨x10_5.Stay, x10_4⟩ : TunnelFrame)⟩, ⟨x1_10.Parts, (x1_10.Frames).set ((2 : Int)).toNat (⟨x11_5.Stay, x11_4⟩ : TunnelFrame)⟩] : List TunnelBook)).bind fun xf0_0y =>
 (law03_TunnelKnown_lj2 k xf0_0y k 0).bind fun o => (match o with
 | .inl r => some r
 | .inr _ =>
 law03_TunnelKnown_p1 k)
theorem ok_16 {k : Nat} {H : Hp} {w : World} {r : Bool} (hsub : Sub H w) (hg : Glob H) (hm : law03_TunnelKnown k = some r) : Calls Tryd.prog 16 [].toArray w (PostV w H (.bool r)) := by
  unfold law03_TunnelKnown at hm
  refine start (n := 576) (E := []) Tryd.func16 rfl rfl trivial rfl hsub ?_
  refine a_seq (a_region rfl ?_)
  refine ap (y_assign rfl) ?_
  refine a_nil ?_
  refine a_en [] ?_
  refine a_then (a_seq (a_region rfl ?_))
  have m1_0 : Rp.rep H [.slice none 0 0, .slice none 0 0] (⟨[], []⟩ : TunnelBook) := ⟨_, _, rfl, ⟨_, rfl, sl_nil _ none 0⟩, ⟨_, rfl, sl_nil _ none 0⟩⟩
  refine ap (y_build_lit (pl := [(0, 1), (1, 1)]) (xs := []) (cs := [.slice none 0 0, .slice none 0 0].toArray) ty25 (.cons ⟨rfl, ty22.szOf⟩ (.cons ⟨rfl, ty23.szOf⟩ (All2.nil))) rfl rfl rfl) ?_
  obtain ⟨x1_1, q1_1, hm⟩ := bind_some hm
  refine a_cons (e_callO (all := []) trivial rfl Tryd.func69 rfl rfl rfl rfl rfl (fun w hw => ok_69 hw q1_1) ?_)
  rintro _ H1_1 _ l1_1 ⟨vp1_1, vf1_1, cp1_1, cf1_1, rfl, rfl, hp1_1, hf1_1⟩
  have m1_0 := Rp.mono l1_1 m1_0
  have hg := Glob.mono l1_1 hg
  obtain ⟨x1_2, q1_2, hm⟩ := bind_some hm
  refine a_cons (e_callO (all := []) trivial rfl Tryd.func69 rfl rfl rfl rfl rfl (fun w hw => ok_69 hw q1_2) ?_)
  rintro _ H1_2 _ l1_2 ⟨vp1_2, vf1_2, cp1_2, cf1_2, rfl, rfl, hp1_2, hf1_2⟩
  have m1_0 := Rp.mono l1_2 m1_0
  have hp1_1 := RepL.mono l1_2 hp1_1
  have hf1_1 := RepL.mono l1_2 hf1_1
  have hg := Glob.mono l1_2 hg
  obtain ⟨x1_3, q1_3, hm⟩ := bind_some hm
  refine a_cons (e_callO (all := []) trivial rfl Tryd.func69 rfl rfl rfl rfl rfl (fun w hw => ok_69 hw q1_3) ?_)
  rintro _ H1_3 _ l1_3 ⟨vp1_3, vf1_3, cp1_3, cf1_3, rfl, rfl, hp1_3, hf1_3⟩
  have m1_0 := Rp.mono l1_3 m1_0
  have hp1_1 := RepL.mono l1_3 hp1_1
  have hf1_1 := RepL.mono l1_3 hf1_1
  have hp1_2 := RepL.mono l1_3 hp1_2
  have hf1_2 := RepL.mono l1_3 hf1_2
  have hg := Glob.mono l1_3 hg
  obtain ⟨x1_4, q1_4, hm⟩ := bind_some hm
  refine a_cons (e_callO (all := []) trivial rfl Tryd.func69 rfl rfl rfl rfl rfl (fun w hw => ok_69 hw q1_4) ?_)
  rintro _ H1_4 _ l1_4 ⟨vp1_4, vf1_4, cp1_4, cf1_4, rfl, rfl, hp1_4, hf1_4⟩
  have m1_0 := Rp.mono l1_4 m1_0
  have hp1_1 := RepL.mono l1_4 hp1_1
  have hf1_1 := RepL.mono l1_4 hf1_1
  have hp1_2 := RepL.mono l1_4 hp1_2
  have hf1_2 := RepL.mono l1_4 hf1_2
  have hp1_3 := RepL.mono l1_4 hp1_3
  have hf1_3 := RepL.mono l1_4 hf1_3
  have hg := Glob.mono l1_4 hg
  obtain ⟨x1_5, q1_5, hm⟩ := bind_some hm
  refine a_cons (e_callO (all := []) trivial rfl Tryd.func69 rfl rfl rfl rfl rfl (fun w hw => ok_69 hw q1_5) ?_)
  rintro _ H1_5 _ l1_5 ⟨vp1_5, vf1_5, cp1_5, cf1_5, rfl, rfl, hp1_5, hf1_5⟩
  have m1_0 := Rp.mono l1_5 m1_0
  have hp1_1 := RepL.mono l1_5 hp1_1
  have hf1_1 := RepL.mono l1_5 hf1_1
  have hp1_2 := RepL.mono l1_5 hp1_2
  have hf1_2 := RepL.mono l1_5 hf1_2
  have hp1_3 := RepL.mono l1_5 hp1_3
  have hf1_3 := RepL.mono l1_5 hf1_3
  have hp1_4 := RepL.mono l1_5 hp1_4
  have hf1_4 := RepL.mono l1_5 hf1_4
  have hg := Glob.mono l1_5 hg
  obtain ⟨x1_6, q1_6, hm⟩ := bind_some hm
  refine a_cons (e_callO (all := []) trivial rfl Tryd.func69 rfl rfl rfl rfl rfl (fun w hw => ok_69 hw q1_6) ?_)
  rintro _ H1_6 _ l1_6 ⟨vp1_6, vf1_6, cp1_6, cf1_6, rfl, rfl, hp1_6, hf1_6⟩
  have m1_0 := Rp.mono l1_6 m1_0
  have hp1_1 := RepL.mono l1_6 hp1_1
  have hf1_1 := RepL.mono l1_6 hf1_1
  have hp1_2 := RepL.mono l1_6 hp1_2
  have hf1_2 := RepL.mono l1_6 hf1_2
  have hp1_3 := RepL.mono l1_6 hp1_3
  have hf1_3 := RepL.mono l1_6 hf1_3
  have hp1_4 := RepL.mono l1_6 hp1_4
  have hf1_4 := RepL.mono l1_6 hf1_4
  have hp1_5 := RepL.mono l1_6 hp1_5
  have hf1_5 := RepL.mono l1_6 hf1_5
  have hg := Glob.mono l1_6 hg
  obtain ⟨x1_7, q1_7, hm⟩ := bind_some hm
  refine a_cons (e_callO (all := []) trivial rfl Tryd.func69 rfl rfl rfl rfl rfl (fun w hw => ok_69 hw q1_7) ?_)
  rintro _ H1_7 _ l1_7 ⟨vp1_7, vf1_7, cp1_7, cf1_7, rfl, rfl, hp1_7, hf1_7⟩
  have m1_0 := Rp.mono l1_7 m1_0
  have hp1_1 := RepL.mono l1_7 hp1_1
  have hf1_1 := RepL.mono l1_7 hf1_1
  have hp1_2 := RepL.mono l1_7 hp1_2
  have hf1_2 := RepL.mono l1_7 hf1_2
  have hp1_3 := RepL.mono l1_7 hp1_3
  have hf1_3 := RepL.mono l1_7 hf1_3
  have hp1_4 := RepL.mono l1_7 hp1_4
  have hf1_4 := RepL.mono l1_7 hf1_4
  have hp1_5 := RepL.mono l1_7 hp1_5
  have hf1_5 := RepL.mono l1_7 hf1_5
  have hp1_6 := RepL.mono l1_7 hp1_6
  have hf1_6 := RepL.mono l1_7 hf1_6
  have hg := Glob.mono l1_7 hg
  obtain ⟨x1_8, q1_8, hm⟩ := bind_some hm
  refine a_cons (e_callO (all := []) trivial rfl Tryd.func69 rfl rfl rfl rfl rfl (fun w hw => ok_69 hw q1_8) ?_)
  rintro _ H1_8 _ l1_8 ⟨vp1_8, vf1_8, cp1_8, cf1_8, rfl, rfl, hp1_8, hf1_8⟩
  have m1_0 := Rp.mono l1_8 m1_0
  have hp1_1 := RepL.mono l1_8 hp1_1
  have hf1_1 := RepL.mono l1_8 hf1_1
  have hp1_2 := RepL.mono l1_8 hp1_2
  have hf1_2 := RepL.mono l1_8 hf1_2
  have hp1_3 := RepL.mono l1_8 hp1_3
  have hf1_3 := RepL.mono l1_8 hf1_3
  have hp1_4 := RepL.mono l1_8 hp1_4
  have hf1_4 := RepL.mono l1_8 hf1_4
  have hp1_5 := RepL.mono l1_8 hp1_5
  have hf1_5 := RepL.mono l1_8 hf1_5
  have hp1_6 := RepL.mono l1_8 hp1_6
  have hf1_6 := RepL.mono l1_8 hf1_6
  have hp1_7 := RepL.mono l1_8 hp1_7
  have hf1_7 := RepL.mono l1_8 hf1_7
  have hg := Glob.mono l1_8 hg
  obtain ⟨x1_9, q1_9, hm⟩ := bind_some hm
  refine a_cons (e_callO (all := []) trivial rfl Tryd.func69 rfl rfl rfl rfl rfl (fun w hw => ok_69 hw q1_9) ?_)
  rintro _ H1_9 _ l1_9 ⟨vp1_9, vf1_9, cp1_9, cf1_9, rfl, rfl, hp1_9, hf1_9⟩
  have m1_0 := Rp.mono l1_9 m1_0
  have hp1_1 := RepL.mono l1_9 hp1_1
  have hf1_1 := RepL.mono l1_9 hf1_1
  have hp1_2 := RepL.mono l1_9 hp1_2
  have hf1_2 := RepL.mono l1_9 hf1_2
  have hp1_3 := RepL.mono l1_9 hp1_3
  have hf1_3 := RepL.mono l1_9 hf1_3
  have hp1_4 := RepL.mono l1_9 hp1_4
  have hf1_4 := RepL.mono l1_9 hf1_4
  have hp1_5 := RepL.mono l1_9 hp1_5
  have hf1_5 := RepL.mono l1_9 hf1_5
  have hp1_6 := RepL.mono l1_9 hp1_6
  have hf1_6 := RepL.mono l1_9 hf1_6
  have hp1_7 := RepL.mono l1_9 hp1_7
  have hf1_7 := RepL.mono l1_9 hf1_7
  have hp1_8 := RepL.mono l1_9 hp1_8
  have hf1_8 := RepL.mono l1_9 hf1_8
  have hg := Glob.mono l1_9 hg
  obtain ⟨x1_10, q1_10, hm⟩ := bind_some hm
  refine a_cons (e_callO (all := []) trivial rfl Tryd.func69 rfl rfl rfl rfl rfl (fun w hw => ok_69 hw q1_10) ?_)
  rintro _ H1_10 _ l1_10 ⟨vp1_10, vf1_10, cp1_10, cf1_10, rfl, rfl, hp1_10, hf1_10⟩
  have m1_0 := Rp.mono l1_10 m1_0
  have hp1_1 := RepL.mono l1_10 hp1_1
  have hf1_1 := RepL.mono l1_10 hf1_1
  have hp1_2 := RepL.mono l1_10 hp1_2
  have hf1_2 := RepL.mono l1_10 hf1_2
  have hp1_3 := RepL.mono l1_10 hp1_3
  have hf1_3 := RepL.mono l1_10 hf1_3
  have hp1_4 := RepL.mono l1_10 hp1_4
  have hf1_4 := RepL.mono l1_10 hf1_4
  have hp1_5 := RepL.mono l1_10 hp1_5
  have hf1_5 := RepL.mono l1_10 hf1_5
  have hp1_6 := RepL.mono l1_10 hp1_6
  have hf1_6 := RepL.mono l1_10 hf1_6
  have hp1_7 := RepL.mono l1_10 hp1_7
  have hf1_7 := RepL.mono l1_10 hf1_7
  have hp1_8 := RepL.mono l1_10 hp1_8
  have hf1_8 := RepL.mono l1_10 hf1_8
  have hp1_9 := RepL.mono l1_10 hp1_9
  have hf1_9 := RepL.mono l1_10 hf1_9
  have hg := Glob.mono l1_10 hg
  obtain ⟨x1_11_2, q1_11_2, hm⟩ := bind_some hm
  refine a_rowplace (i := 18) rfl rfl rfl hp1_1 q1_11_2 ?_
  rintro b1_11_2 c1_11_2 rfl
  obtain ⟨x1_11_3, q1_11_3, hm⟩ := bind_some hm
  refine a_rowplace (i := 19) rfl rfl rfl hf1_1 q1_11_3 ?_
  rintro b1_11_3 c1_11_3 rfl
  obtain ⟨x1_11_4, q1_11_4, hm⟩ := bind_some hm
  refine a_rowplace (i := 16) rfl rfl rfl hp1_2 q1_11_4 ?_
  rintro b1_11_4 c1_11_4 rfl
  obtain ⟨x1_11_5, q1_11_5, hm⟩ := bind_some hm
  refine a_rowplace (i := 17) rfl rfl rfl hf1_2 q1_11_5 ?_
  rintro b1_11_5 c1_11_5 rfl
  obtain ⟨x1_11_6, q1_11_6, hm⟩ := bind_some hm
  refine a_rowplace (i := 14) rfl rfl rfl hp1_3 q1_11_6 ?_
  rintro b1_11_6 c1_11_6 rfl
  obtain ⟨x1_11_7, q1_11_7, hm⟩ := bind_some hm
  refine a_rowplace (i := 15) rfl rfl rfl hf1_3 q1_11_7 ?_
  rintro b1_11_7 c1_11_7 rfl
  obtain ⟨x1_11_8, q1_11_8, hm⟩ := bind_some hm
  refine a_rowplace (i := 12) rfl rfl rfl hp1_4 q1_11_8 ?_
  rintro b1_11_8 c1_11_8 rfl
  obtain ⟨x1_11_9, q1_11_9, hm⟩ := bind_some hm
  refine a_rowplace (i := 13) rfl rfl rfl hf1_4 q1_11_9 ?_
  rintro b1_11_9 c1_11_9 rfl
  obtain ⟨x1_11_10, q1_11_10, hm⟩ := bind_some hm
  refine a_rowplace (i := 10) rfl rfl rfl hp1_5 q1_11_10 ?_
  rintro b1_11_10 c1_11_10 rfl
  obtain ⟨x1_11_11, q1_11_11, hm⟩ := bind_some hm
  refine a_rowplace (i := 11) rfl rfl rfl hf1_5 q1_11_11 ?_
  rintro b1_11_11 c1_11_11 rfl
  obtain ⟨x1_11_12, q1_11_12, hm⟩ := bind_some hm
  refine a_rowplace (i := 8) rfl rfl rfl hp1_6 q1_11_12 ?_
  rintro b1_11_12 c1_11_12 rfl
  obtain ⟨x1_11_13, q1_11_13, hm⟩ := bind_some hm
  refine a_rowplace (i := 9) rfl rfl rfl hf1_6 q1_11_13 ?_
  rintro b1_11_13 c1_11_13 rfl
  obtain ⟨x1_11_14, q1_11_14, hm⟩ := bind_some hm
  refine a_rowplace (i := 6) rfl rfl rfl hp1_7 q1_11_14 ?_
  rintro b1_11_14 c1_11_14 rfl
  obtain ⟨x1_11_15, q1_11_15, hm⟩ := bind_some hm
  refine a_rowplace (i := 7) rfl rfl rfl hf1_7 q1_11_15 ?_
  rintro b1_11_15 c1_11_15 rfl
  obtain ⟨x1_11_16, q1_11_16, hm⟩ := bind_some hm
  refine a_rowplace (i := 4) rfl rfl rfl hp1_8 q1_11_16 ?_
  rintro b1_11_16 c1_11_16 rfl
  obtain ⟨x1_11_17, q1_11_17, hm⟩ := bind_some hm
  refine a_rowplace (i := 5) rfl rfl rfl hf1_8 q1_11_17 ?_
  rintro b1_11_17 c1_11_17 rfl
  obtain ⟨x1_11_18, q1_11_18, hm⟩ := bind_some hm
  refine a_rowplace (i := 2) rfl rfl rfl hp1_9 q1_11_18 ?_
  rintro b1_11_18 c1_11_18 rfl
  obtain ⟨x1_11_19, q1_11_19, hm⟩ := bind_some hm
  refine a_rowplace (i := 3) rfl rfl rfl hf1_9 q1_11_19 ?_
  rintro b1_11_19 c1_11_19 rfl
  obtain ⟨x1_11_20, q1_11_20, hm⟩ := bind_some hm
  refine a_rowplace (i := 0) rfl rfl rfl hp1_10 q1_11_20 ?_
  rintro b1_11_20 c1_11_20 rfl
  obtain ⟨x1_11_21, q1_11_21, hm⟩ := bind_some hm
  refine a_rowplace (i := 1) rfl rfl rfl hf1_10 q1_11_21 ?_
  rintro b1_11_21 c1_11_21 rfl
  refine a_cons (e_buildSlice (xs := [.tmp 68, .tmp 69, .tmp 70, .tmp 71, .tmp 72, .tmp 73, .tmp 74, .tmp 75, .tmp 76, .tmp 77, .tmp 78]) (cs := [.slice none 0 0, .slice none 0 0, .slice (some ⟨b1_11_2, 0, none⟩) (x1_1.Parts).length c1_11_2, .slice (some ⟨b1_11_3, 0, none⟩) (x1_1.Frames).length c1_11_3, .slice (some ⟨b1_11_4, 0, none⟩) (x1_2.Parts).length c1_11_4, .slice (some ⟨b1_11_5, 0, none⟩) (x1_2.Frames).length c1_11_5, .slice (some ⟨b1_11_6, 0, none⟩) (x1_3.Parts).length c1_11_6, .slice (some ⟨b1_11_7, 0, none⟩) (x1_3.Frames).length c1_11_7, .slice (some ⟨b1_11_8, 0, none⟩) (x1_4.Parts).length c1_11_8, .slice (some ⟨b1_11_9, 0, none⟩) (x1_4.Frames).length c1_11_9, .slice (some ⟨b1_11_10, 0, none⟩) (x1_5.Parts).length c1_11_10, .slice (some ⟨b1_11_11, 0, none⟩) (x1_5.Frames).length c1_11_11, .slice (some ⟨b1_11_12, 0, none⟩) (x1_6.Parts).length c1_11_12, .slice (some ⟨b1_11_13, 0, none⟩) (x1_6.Frames).length c1_11_13, .slice (some ⟨b1_11_14, 0, none⟩) (x1_7.Parts).length c1_11_14, .slice (some ⟨b1_11_15, 0, none⟩) (x1_7.Frames).length c1_11_15, .slice (some ⟨b1_11_16, 0, none⟩) (x1_8.Parts).length c1_11_16, .slice (some ⟨b1_11_17, 0, none⟩) (x1_8.Frames).length c1_11_17, .slice (some ⟨b1_11_18, 0, none⟩) (x1_9.Parts).length c1_11_18, .slice (some ⟨b1_11_19, 0, none⟩) (x1_9.Frames).length c1_11_19, .slice (some ⟨b1_11_20, 0, none⟩) (x1_10.Parts).length c1_11_20, .slice (some ⟨b1_11_21, 0, none⟩) (x1_10.Frames).length c1_11_21]) trivial rfl Tryd.underlying96 ty25 rfl rfl rfl (by simp [Value.cells]) rfl (by simp [Value.cells]) ?_)
  intro v1_11
  refine ap (y_assign rfl) ?_
  refine a_nil ?_
  refine a_en [(1, v1_11)] ?_
  refine a_then (a_seq (a_region rfl ?_))
  refine ap (y_move rfl) ?_
  obtain ⟨x2_1, q2_1, hm⟩ := bind_some hm
  refine a_cons (e_makeSlice (α := TunnelPart) (zc := [.int .i64 0, .int .i64 0, .int .i64 0, .int .i64 0, .int .i64 0, .int .i64 0]) trivial rfl Tryd.underlying22 ty64 rfl rfl rfl rfl rfl rfl (⟨_, _, rfl, ⟨(RepL.cons (c := [_]) rfl (RepL.cons (c := [_]) rfl (RepL.cons (c := [_]) rfl (RepL.cons (c := [_]) rfl RepL.nil)))), rfl⟩, ⟨_, _, rfl, rfl, rfl⟩⟩ : Rp.rep (α := TunnelPart) H1_10 [.int .i64 0, .int .i64 0, .int .i64 0, .int .i64 0, .int .i64 0, .int .i64 0] (⟨[0, 0, 0, 0], ⟨0, 0⟩⟩ : TunnelPart)) q2_1 ?_)
  intro v2_1 u2_1 h2_1
  refine a_rowplaceC (i := 1) (n := 11) rfl rfl rfl rfl ?_
  rintro b2_2 c2_2 rfl
  refine ap (y_index Tryd.underlying96 ty25 rfl rfl rfl (by decide)) ?_
  refine ap (y_fieldAddr fo25_0 rfl) ?_
  refine a_cons (e_storeRowC (i := 1) (j := 0) (cs' := [.slice none 0 0, .slice none 0 0, v2_1, .slice (some ⟨b1_11_3, 0, none⟩) (x1_1.Frames).length c1_11_3, .slice (some ⟨b1_11_4, 0, none⟩) (x1_2.Parts).length c1_11_4, .slice (some ⟨b1_11_5, 0, none⟩) (x1_2.Frames).length c1_11_5, .slice (some ⟨b1_11_6, 0, none⟩) (x1_3.Parts).length c1_11_6, .slice (some ⟨b1_11_7, 0, none⟩) (x1_3.Frames).length c1_11_7, .slice (some ⟨b1_11_8, 0, none⟩) (x1_4.Parts).length c1_11_8, .slice (some ⟨b1_11_9, 0, none⟩) (x1_4.Frames).length c1_11_9, .slice (some ⟨b1_11_10, 0, none⟩) (x1_5.Parts).length c1_11_10, .slice (some ⟨b1_11_11, 0, none⟩) (x1_5.Frames).length c1_11_11, .slice (some ⟨b1_11_12, 0, none⟩) (x1_6.Parts).length c1_11_12, .slice (some ⟨b1_11_13, 0, none⟩) (x1_6.Frames).length c1_11_13, .slice (some ⟨b1_11_14, 0, none⟩) (x1_7.Parts).length c1_11_14, .slice (some ⟨b1_11_15, 0, none⟩) (x1_7.Frames).length c1_11_15, .slice (some ⟨b1_11_16, 0, none⟩) (x1_8.Parts).length c1_11_16, .slice (some ⟨b1_11_17, 0, none⟩) (x1_8.Frames).length c1_11_17, .slice (some ⟨b1_11_18, 0, none⟩) (x1_9.Parts).length c1_11_18, .slice (some ⟨b1_11_19, 0, none⟩) (x1_9.Frames).length c1_11_19, .slice (some ⟨b1_11_20, 0, none⟩) (x1_10.Parts).length c1_11_20, .slice (some ⟨b1_11_21, 0, none⟩) (x1_10.Frames).length c1_11_21]) trivial ty22 rfl rfl rfl rfl rfl rfl ?_)
  refine a_nil ?_
  refine a_en [(1, .slice (some ⟨b2_2, 0, none⟩) 11 c2_2)] ?_
  refine a_own [0, 1, 2, 3, 4, 5, 6, 7, 8, 9, 10, 11, 12, 13, 14, 15, 16, 17, 18, 19, 21] (by decide) (L' := [.row v2_1 u2_1 64 6, .row (.slice (some ⟨b2_2, 0, none⟩) 11 c2_2) [.slice none 0 0, .slice none 0 0, v2_1, .slice (some ⟨b1_11_3, 0, none⟩) (x1_1.Frames).length c1_11_3, .slice (some ⟨b1_11_4, 0, none⟩) (x1_2.Parts).length c1_11_4, .slice (some ⟨b1_11_5, 0, none⟩) (x1_2.Frames).length c1_11_5, .slice (some ⟨b1_11_6, 0, none⟩) (x1_3.Parts).length c1_11_6, .slice (some ⟨b1_11_7, 0, none⟩) (x1_3.Frames).length c1_11_7, .slice (some ⟨b1_11_8, 0, none⟩) (x1_4.Parts).length c1_11_8, .slice (some ⟨b1_11_9, 0, none⟩) (x1_4.Frames).length c1_11_9, .slice (some ⟨b1_11_10, 0, none⟩) (x1_5.Parts).length c1_11_10, .slice (some ⟨b1_11_11, 0, none⟩) (x1_5.Frames).length c1_11_11, .slice (some ⟨b1_11_12, 0, none⟩) (x1_6.Parts).length c1_11_12, .slice (some ⟨b1_11_13, 0, none⟩) (x1_6.Frames).length c1_11_13, .slice (some ⟨b1_11_14, 0, none⟩) (x1_7.Parts).length c1_11_14, .slice (some ⟨b1_11_15, 0, none⟩) (x1_7.Frames).length c1_11_15, .slice (some ⟨b1_11_16, 0, none⟩) (x1_8.Parts).length c1_11_16, .slice (some ⟨b1_11_17, 0, none⟩) (x1_8.Frames).length c1_11_17, .slice (some ⟨b1_11_18, 0, none⟩) (x1_9.Parts).length c1_11_18, .slice (some ⟨b1_11_19, 0, none⟩) (x1_9.Frames).length c1_11_19, .slice (some ⟨b1_11_20, 0, none⟩) (x1_10.Parts).length c1_11_20, .slice (some ⟨b1_11_21, 0, none⟩) (x1_10.Frames).length c1_11_21] 25 2, .row (.slice (some ⟨b1_11_20, 0, none⟩) (x1_10.Parts).length c1_11_20) cp1_10 64 6, .row (.slice (some ⟨b1_11_21, 0, none⟩) (x1_10.Frames).length c1_11_21) cf1_10 55 3, .row (.slice (some ⟨b1_11_18, 0, none⟩) (x1_9.Parts).length c1_11_18) cp1_9 64 6, .row (.slice (some ⟨b1_11_19, 0, none⟩) (x1_9.Frames).length c1_11_19) cf1_9 55 3, .row (.slice (some ⟨b1_11_16, 0, none⟩) (x1_8.Parts).length c1_11_16) cp1_8 64 6, .row (.slice (some ⟨b1_11_17, 0, none⟩) (x1_8.Frames).length c1_11_17) cf1_8 55 3, .row (.slice (some ⟨b1_11_14, 0, none⟩) (x1_7.Parts).length c1_11_14) cp1_7 64 6, .row (.slice (some ⟨b1_11_15, 0, none⟩) (x1_7.Frames).length c1_11_15) cf1_7 55 3, .row (.slice (some ⟨b1_11_12, 0, none⟩) (x1_6.Parts).length c1_11_12) cp1_6 64 6, .row (.slice (some ⟨b1_11_13, 0, none⟩) (x1_6.Frames).length c1_11_13) cf1_6 55 3, .row (.slice (some ⟨b1_11_10, 0, none⟩) (x1_5.Parts).length c1_11_10) cp1_5 64 6, .row (.slice (some ⟨b1_11_11, 0, none⟩) (x1_5.Frames).length c1_11_11) cf1_5 55 3, .row (.slice (some ⟨b1_11_8, 0, none⟩) (x1_4.Parts).length c1_11_8) cp1_4 64 6, .row (.slice (some ⟨b1_11_9, 0, none⟩) (x1_4.Frames).length c1_11_9) cf1_4 55 3, .row (.slice (some ⟨b1_11_6, 0, none⟩) (x1_3.Parts).length c1_11_6) cp1_3 64 6, .row (.slice (some ⟨b1_11_7, 0, none⟩) (x1_3.Frames).length c1_11_7) cf1_3 55 3, .row (.slice (some ⟨b1_11_4, 0, none⟩) (x1_2.Parts).length c1_11_4) cp1_2 64 6, .row (.slice (some ⟨b1_11_5, 0, none⟩) (x1_2.Frames).length c1_11_5) cf1_2 55 3, .row (.slice (some ⟨b1_11_3, 0, none⟩) (x1_1.Frames).length c1_11_3) cf1_1 55 3]) rfl ?_
  refine a_then (a_seq (a_region rfl ?_))
  refine ap (y_move rfl) ?_
  refine ap (y_index Tryd.underlying96 ty25 rfl rfl rfl (by decide)) ?_
  refine ap (y_fieldAddr fo25_0 rfl) ?_
  refine ap (y_load_row (i := 1) ty22 rfl rfl rfl rfl) ?_
  obtain ⟨x3_4, q3_4, hm⟩ := bind_some hm
  refine ap (y_index Tryd.underlying22 ty64 rfl rfl rfl (nth_in q3_4)) ?_
  refine ap (y_fieldAddr fo64_0 rfl) ?_
  obtain ⟨x3_6, q3_6, hm⟩ := bind_some hm
  refine ap (y_index_arrp Tryd.underlying62 ty3 rfl rfl (by decide)) ?_
  refine a_cons (e_storeRow (α := TunnelPart) (i := 18) (ds := [.int .i64 0]) (l' := (x1_2.Parts).set ((0 : Int)).toNat ((⟨(x3_4.Heat).set ((1 : Int)).toNat 0, x3_4.Damp⟩ : TunnelPart))) trivial ty3 rfl rfl rfl rfl rfl (cells_one_int _) rfl hp1_2 (PutL.at0 6 rfl q3_4 (TunnelPart.put_Heat (s := x3_4) (Put.arrHeat hp1_2 q3_4 q3_6 rfl))) ?_)
  intro u3_7 h3_7
  refine a_nil ?_
  refine a_en [(1, .slice (some ⟨b2_2, 0, none⟩) 11 c2_2)] ?_
  refine a_then (a_seq (a_region rfl ?_))
  refine ap (y_move rfl) ?_
  refine ap (y_index Tryd.underlying96 ty25 rfl rfl rfl (by decide)) ?_
  refine ap (y_fieldAddr fo25_0 rfl) ?_
  refine ap (y_load_row (i := 1) ty22 rfl rfl rfl rfl) ?_
  obtain ⟨x4_4, q4_4, hm⟩ := bind_some hm
  refine ap (y_index Tryd.underlying22 ty64 rfl rfl rfl (nth_in q4_4)) ?_
  refine ap (y_fieldAddr fo64_0 rfl) ?_
  obtain ⟨x4_6, q4_6, hm⟩ := bind_some hm
  refine ap (y_index_arrp Tryd.underlying62 ty3 rfl rfl (by decide)) ?_
  refine a_cons (e_storeRow (α := TunnelPart) (i := 16) (ds := [.int .i64 21]) (l' := (x1_3.Parts).set ((1 : Int)).toNat ((⟨(x4_4.Heat).set ((3 : Int)).toNat 21, x4_4.Damp⟩ : TunnelPart))) trivial ty3 rfl rfl rfl rfl rfl (cells_one_int _) rfl hp1_3 (PutL.at0 6 rfl q4_4 (TunnelPart.put_Heat (s := x4_4) (Put.arrHeat hp1_3 q4_4 q4_6 rfl))) ?_)
  intro u4_7 h4_7
  refine a_nil ?_
  refine a_en [(1, .slice (some ⟨b2_2, 0, none⟩) 11 c2_2)] ?_
  refine a_then (a_seq ?_)
  obtain ⟨x5_4, q5_4, hm⟩ := bind_some hm
  obtain ⟨x5_5, q5_5, hm⟩ := bind_some hm
  refine d_region (S := Sw H1_10 [.row (.slice (some ⟨b2_2, 0, none⟩) 11 c2_2) [.slice none 0 0, .slice none 0 0, v2_1, .slice (some ⟨b1_11_3, 0, none⟩) (x1_1.Frames).length c1_11_3, .slice (some ⟨b1_11_4, 0, none⟩) (x1_2.Parts).length c1_11_4, .slice (some ⟨b1_11_5, 0, none⟩) (x1_2.Frames).length c1_11_5, .slice (some ⟨b1_11_6, 0, none⟩) (x1_3.Parts).length c1_11_6, .slice (some ⟨b1_11_7, 0, none⟩) (x1_3.Frames).length c1_11_7, .slice (some ⟨b1_11_8, 0, none⟩) (x1_4.Parts).length c1_11_8, .slice (some ⟨b1_11_9, 0, none⟩) (x1_4.Frames).length c1_11_9, .slice (some ⟨b1_11_10, 0, none⟩) (x1_5.Parts).length c1_11_10, .slice (some ⟨b1_11_11, 0, none⟩) (x1_5.Frames).length c1_11_11, .slice (some ⟨b1_11_12, 0, none⟩) (x1_6.Parts).length c1_11_12, .slice (some ⟨b1_11_13, 0, none⟩) (x1_6.Frames).length c1_11_13, .slice (some ⟨b1_11_14, 0, none⟩) (x1_7.Parts).length c1_11_14, .slice (some ⟨b1_11_15, 0, none⟩) (x1_7.Frames).length c1_11_15, .slice (some ⟨b1_11_16, 0, none⟩) (x1_8.Parts).length c1_11_16, .slice (some ⟨b1_11_17, 0, none⟩) (x1_8.Frames).length c1_11_17, .slice (some ⟨b1_11_18, 0, none⟩) (x1_9.Parts).length c1_11_18, .slice (some ⟨b1_11_19, 0, none⟩) (x1_9.Frames).length c1_11_19, .slice (some ⟨b1_11_20, 0, none⟩) (x1_10.Parts).length c1_11_20, .slice (some ⟨b1_11_21, 0, none⟩) (x1_10.Frames).length c1_11_21] 25 2]) (n := 8) (listed := (bits 8 0)) mixed (by kernel_rfl) rfl (by kernel_rfl) ?_
  refine dt 0 1 rfl trivial (y_move rfl) (sw0 [1]) ?_
  refine dt 1 3 rfl trivial (y_index Tryd.underlying96 ty25 rfl rfl rfl (by decide)) (sw0 [1]) ?_
  refine dt 2 7 rfl trivial (y_fieldAddr fo25_0 rfl) (sw0 [1]) ?_
  refine dt 3 15 rfl trivial (y_load_rowW (i := 0) ty22 rfl rfl rfl rfl) (sw0 [1]) ?_
  refine d1 4 rfl (e_callV (all := [.int .i64 0, .int .i64 4]) (v := .agg x5_4.cells.toArray) trivial rfl Tryd.func53 rfl rfl rfl rfl rfl (fun w hw => ok_53 hw q5_4) ?_)
  refine dn 31 (sw0 [1]) ?_
  refine dt 5 63 rfl trivial (y_index Tryd.underlying22 ty64 rfl rfl rfl (nth_in q5_5)) (sw0 [1]) ?_
  refine dt 6 127 rfl trivial (y_fieldAddr fo64_1 rfl) (sw0 [1]) ?_
  refine d1 7 rfl (e_storeRow (α := TunnelPart) (i := 14) (ds := x5_4.cells) (l' := (x1_4.Parts).set ((0 : Int)).toNat (⟨x5_5.Heat, x5_4⟩ : TunnelPart)) trivial ty32 rfl rfl rfl rfl rfl ((Rp.one (Span.rep_mk (fun _ => none) x5_4))) rfl hp1_4 (PutL.at0 6 rfl q5_5 (TunnelPart.put_Damp (s := x5_5) (Put.here (Span.rep_mk _ x5_4)))) ?_)
  intro u5_7 h5_7
  refine dn 255 (sw0 [1]) ?_
  refine d_done (by kernel_rfl) ?_
  refine a_en [(1, .slice (some ⟨b2_2, 0, none⟩) 11 c2_2)] ?_
  refine a_then (a_seq ?_)
  obtain ⟨x6_4, q6_4, hm⟩ := bind_some hm
  obtain ⟨x6_5, q6_5, hm⟩ := bind_some hm
  refine d_region (S := Sw H1_10 [.row (.slice (some ⟨b2_2, 0, none⟩) 11 c2_2) [.slice none 0 0, .slice none 0 0, v2_1, .slice (some ⟨b1_11_3, 0, none⟩) (x1_1.Frames).length c1_11_3, .slice (some ⟨b1_11_4, 0, none⟩) (x1_2.Parts).length c1_11_4, .slice (some ⟨b1_11_5, 0, none⟩) (x1_2.Frames).length c1_11_5, .slice (some ⟨b1_11_6, 0, none⟩) (x1_3.Parts).length c1_11_6, .slice (some ⟨b1_11_7, 0, none⟩) (x1_3.Frames).length c1_11_7, .slice (some ⟨b1_11_8, 0, none⟩) (x1_4.Parts).length c1_11_8, .slice (some ⟨b1_11_9, 0, none⟩) (x1_4.Frames).length c1_11_9, .slice (some ⟨b1_11_10, 0, none⟩) (x1_5.Parts).length c1_11_10, .slice (some ⟨b1_11_11, 0, none⟩) (x1_5.Frames).length c1_11_11, .slice (some ⟨b1_11_12, 0, none⟩) (x1_6.Parts).length c1_11_12, .slice (some ⟨b1_11_13, 0, none⟩) (x1_6.Frames).length c1_11_13, .slice (some ⟨b1_11_14, 0, none⟩) (x1_7.Parts).length c1_11_14, .slice (some ⟨b1_11_15, 0, none⟩) (x1_7.Frames).length c1_11_15, .slice (some ⟨b1_11_16, 0, none⟩) (x1_8.Parts).length c1_11_16, .slice (some ⟨b1_11_17, 0, none⟩) (x1_8.Frames).length c1_11_17, .slice (some ⟨b1_11_18, 0, none⟩) (x1_9.Parts).length c1_11_18, .slice (some ⟨b1_11_19, 0, none⟩) (x1_9.Frames).length c1_11_19, .slice (some ⟨b1_11_20, 0, none⟩) (x1_10.Parts).length c1_11_20, .slice (some ⟨b1_11_21, 0, none⟩) (x1_10.Frames).length c1_11_21] 25 2]) (n := 8) (listed := (bits 8 0)) mixed (by kernel_rfl) rfl (by kernel_rfl) ?_
  refine dt 0 1 rfl trivial (y_move rfl) (sw0 [1]) ?_
  refine dt 1 3 rfl trivial (y_index Tryd.underlying96 ty25 rfl rfl rfl (by decide)) (sw0 [1]) ?_
  refine dt 2 7 rfl trivial (y_fieldAddr fo25_0 rfl) (sw0 [1]) ?_
  refine dt 3 15 rfl trivial (y_load_rowW (i := 0) ty22 rfl rfl rfl rfl) (sw0 [1]) ?_
  refine d1 4 rfl (e_callV (all := [.int .i64 19, .int .i64 21]) (v := .agg x6_4.cells.toArray) trivial rfl Tryd.func53 rfl rfl rfl rfl rfl (fun w hw => ok_53 hw q6_4) ?_)
  refine dn 31 (sw0 [1]) ?_
  refine dt 5 63 rfl trivial (y_index Tryd.underlying22 ty64 rfl rfl rfl (nth_in q6_5)) (sw0 [1]) ?_
  refine dt 6 127 rfl trivial (y_fieldAddr fo64_1 rfl) (sw0 [1]) ?_
  refine d1 7 rfl (e_storeRow (α := TunnelPart) (i := 12) (ds := x6_4.cells) (l' := (x1_5.Parts).set ((0 : Int)).toNat (⟨x6_5.Heat, x6_4⟩ : TunnelPart)) trivial ty32 rfl rfl rfl rfl rfl ((Rp.one (Span.rep_mk (fun _ => none) x6_4))) rfl hp1_5 (PutL.at0 6 rfl q6_5 (TunnelPart.put_Damp (s := x6_5) (Put.here (Span.rep_mk _ x6_4)))) ?_)
  intro u6_7 h6_7
  refine dn 255 (sw0 [1]) ?_
  refine d_done (by kernel_rfl) ?_
  refine a_en [(1, .slice (some ⟨b2_2, 0, none⟩) 11 c2_2)] ?_
  refine a_then (a_seq (a_region rfl ?_))
  refine ap (y_move rfl) ?_
  obtain ⟨x7_1, q7_1, hm⟩ := bind_some hm
  refine a_cons (e_makeSlice (α := TunnelFrame) (zc := [.slice none 0 0, .int .i64 0, .int .i64 0]) trivial rfl Tryd.underlying23 ty55 rfl rfl rfl rfl rfl rfl (⟨_, _, rfl, ⟨_, rfl, sl_nil _ none 0⟩, ⟨_, _, rfl, rfl, rfl⟩⟩ : Rp.rep (α := TunnelFrame) H1_10 [.slice none 0 0, .int .i64 0, .int .i64 0] (⟨[], ⟨0, 0⟩⟩ : TunnelFrame)) q7_1 ?_)
  intro v7_1 u7_1 h7_1
  refine ap (y_index Tryd.underlying96 ty25 rfl rfl rfl (by decide)) ?_
  refine ap (y_fieldAddr fo25_1 rfl) ?_
  refine a_cons (e_storeRowC (i := 2) (j := 0) (cs' := [.slice none 0 0, .slice none 0 0, v2_1, .slice (some ⟨b1_11_3, 0, none⟩) (x1_1.Frames).length c1_11_3, .slice (some ⟨b1_11_4, 0, none⟩) (x1_2.Parts).length c1_11_4, .slice (some ⟨b1_11_5, 0, none⟩) (x1_2.Frames).length c1_11_5, .slice (some ⟨b1_11_6, 0, none⟩) (x1_3.Parts).length c1_11_6, .slice (some ⟨b1_11_7, 0, none⟩) (x1_3.Frames).length c1_11_7, .slice (some ⟨b1_11_8, 0, none⟩) (x1_4.Parts).length c1_11_8, .slice (some ⟨b1_11_9, 0, none⟩) (x1_4.Frames).length c1_11_9, .slice (some ⟨b1_11_10, 0, none⟩) (x1_5.Parts).length c1_11_10, .slice (some ⟨b1_11_11, 0, none⟩) (x1_5.Frames).length c1_11_11, .slice (some ⟨b1_11_12, 0, none⟩) (x1_6.Parts).length c1_11_12, v7_1, .slice (some ⟨b1_11_14, 0, none⟩) (x1_7.Parts).length c1_11_14, .slice (some ⟨b1_11_15, 0, none⟩) (x1_7.Frames).length c1_11_15, .slice (some ⟨b1_11_16, 0, none⟩) (x1_8.Parts).length c1_11_16, .slice (some ⟨b1_11_17, 0, none⟩) (x1_8.Frames).length c1_11_17, .slice (some ⟨b1_11_18, 0, none⟩) (x1_9.Parts).length c1_11_18, .slice (some ⟨b1_11_19, 0, none⟩) (x1_9.Frames).length c1_11_19, .slice (some ⟨b1_11_20, 0, none⟩) (x1_10.Parts).length c1_11_20, .slice (some ⟨b1_11_21, 0, none⟩) (x1_10.Frames).length c1_11_21]) trivial ty23 rfl rfl rfl rfl rfl rfl ?_)
  refine a_nil ?_
  refine a_en [(1, .slice (some ⟨b2_2, 0, none⟩) 11 c2_2)] ?_
  refine a_own [0, 1, 2, 3, 4, 5, 6, 7, 8, 9, 10, 11, 13, 14, 15, 16, 17, 18, 19, 20, 21] (by decide) (L' := [.row v7_1 u7_1 55 3, .row v2_1 u2_1 64 6, .row (.slice (some ⟨b2_2, 0, none⟩) 11 c2_2) [.slice none 0 0, .slice none 0 0, v2_1, .slice (some ⟨b1_11_3, 0, none⟩) (x1_1.Frames).length c1_11_3, .slice (some ⟨b1_11_4, 0, none⟩) (x1_2.Parts).length c1_11_4, .slice (some ⟨b1_11_5, 0, none⟩) (x1_2.Frames).length c1_11_5, .slice (some ⟨b1_11_6, 0, none⟩) (x1_3.Parts).length c1_11_6, .slice (some ⟨b1_11_7, 0, none⟩) (x1_3.Frames).length c1_11_7, .slice (some ⟨b1_11_8, 0, none⟩) (x1_4.Parts).length c1_11_8, .slice (some ⟨b1_11_9, 0, none⟩) (x1_4.Frames).length c1_11_9, .slice (some ⟨b1_11_10, 0, none⟩) (x1_5.Parts).length c1_11_10, .slice (some ⟨b1_11_11, 0, none⟩) (x1_5.Frames).length c1_11_11, .slice (some ⟨b1_11_12, 0, none⟩) (x1_6.Parts).length c1_11_12, v7_1, .slice (some ⟨b1_11_14, 0, none⟩) (x1_7.Parts).length c1_11_14, .slice (some ⟨b1_11_15, 0, none⟩) (x1_7.Frames).length c1_11_15, .slice (some ⟨b1_11_16, 0, none⟩) (x1_8.Parts).length c1_11_16, .slice (some ⟨b1_11_17, 0, none⟩) (x1_8.Frames).length c1_11_17, .slice (some ⟨b1_11_18, 0, none⟩) (x1_9.Parts).length c1_11_18, .slice (some ⟨b1_11_19, 0, none⟩) (x1_9.Frames).length c1_11_19, .slice (some ⟨b1_11_20, 0, none⟩) (x1_10.Parts).length c1_11_20, .slice (some ⟨b1_11_21, 0, none⟩) (x1_10.Frames).length c1_11_21] 25 2, .row (.slice (some ⟨b1_11_20, 0, none⟩) (x1_10.Parts).length c1_11_20) cp1_10 64 6, .row (.slice (some ⟨b1_11_21, 0, none⟩) (x1_10.Frames).length c1_11_21) cf1_10 55 3, .row (.slice (some ⟨b1_11_18, 0, none⟩) (x1_9.Parts).length c1_11_18) cp1_9 64 6, .row (.slice (some ⟨b1_11_19, 0, none⟩) (x1_9.Frames).length c1_11_19) cf1_9 55 3, .row (.slice (some ⟨b1_11_16, 0, none⟩) (x1_8.Parts).length c1_11_16) cp1_8 64 6, .row (.slice (some ⟨b1_11_17, 0, none⟩) (x1_8.Frames).length c1_11_17) cf1_8 55 3, .row (.slice (some ⟨b1_11_14, 0, none⟩) (x1_7.Parts).length c1_11_14) cp1_7 64 6, .row (.slice (some ⟨b1_11_15, 0, none⟩) (x1_7.Frames).length c1_11_15) cf1_7 55 3, .row (.slice (some ⟨b1_11_12, 0, none⟩) (x1_6.Parts).length c1_11_12) cp1_6 64 6, .row (.slice (some ⟨b1_11_10, 0, none⟩) (x1_5.Parts).length c1_11_10) u6_7 64 6, .row (.slice (some ⟨b1_11_11, 0, none⟩) (x1_5.Frames).length c1_11_11) cf1_5 55 3, .row (.slice (some ⟨b1_11_8, 0, none⟩) (x1_4.Parts).length c1_11_8) u5_7 64 6, .row (.slice (some ⟨b1_11_9, 0, none⟩) (x1_4.Frames).length c1_11_9) cf1_4 55 3, .row (.slice (some ⟨b1_11_6, 0, none⟩) (x1_3.Parts).length c1_11_6) u4_7 64 6, .row (.slice (some ⟨b1_11_7, 0, none⟩) (x1_3.Frames).length c1_11_7) cf1_3 55 3, .row (.slice (some ⟨b1_11_4, 0, none⟩) (x1_2.Parts).length c1_11_4) u3_7 64 6, .row (.slice (some ⟨b1_11_5, 0, none⟩) (x1_2.Frames).length c1_11_5) cf1_2 55 3, .row (.slice (some ⟨b1_11_3, 0, none⟩) (x1_1.Frames).length c1_11_3) cf1_1 55 3]) rfl ?_
  refine a_then (a_seq (a_region rfl ?_))
  refine ap (y_move rfl) ?_
  refine ap (y_index Tryd.underlying96 ty25 rfl rfl rfl (by decide)) ?_
  refine ap (y_fieldAddr fo25_1 rfl) ?_
  refine ap (y_load_row (i := 2) ty23 rfl rfl rfl rfl) ?_
  refine a_cons (e_buildSlice (xs := [.const (.int .i64 5)]) (cs := [.int .i64 5]) trivial rfl Tryd.underlying26 ty3 rfl rfl rfl (by simp [Value.cells]) rfl (rfl) ?_)
  intro v8_4
  have h8_4 : RepL (α := Int) H1_10 ([.int .i64 5]) [5] := (RepL.cons (α := Int) (c := [.int .i64 5]) rfl (RepL.nil (α := Int)))
  obtain ⟨x8_5, q8_5, hm⟩ := bind_some hm
  refine ap (y_index Tryd.underlying23 ty55 rfl rfl rfl (nth_in q8_5)) ?_
  refine ap (y_fieldAddr fo55_0 rfl) ?_
  have hl8_7 : (0 + ((0 : Int)).toNat * 3 + 0) + 1 ≤ (cf1_7).length := by rw [RepL.len hf1_7]; exact (PutL.at0 3 rfl q8_5 (TunnelFrame.put_Stay (s := x8_5) (Put.here (α := List Int) (H := H1_10) (ds := [.slice none 0 0]) (v := []) ⟨_, rfl, sl_nil _ none 0⟩))).le
  refine a_cons (e_storeRowP (i := 11) (j := 0) trivial ty26 rfl rfl rfl rfl (.inr trivial) hl8_7 ?_)
  rintro u8_7 hc8_7
  refine a_nil ?_
  refine a_en [(1, .slice (some ⟨b2_2, 0, none⟩) 11 c2_2)] ?_
  refine a_then (a_seq (a_region rfl ?_))
  refine ap (y_move rfl) ?_
  refine ap (y_index Tryd.underlying96 ty25 rfl rfl rfl (by decide)) ?_
  refine ap (y_fieldAddr fo25_1 rfl) ?_
  refine ap (y_load_row (i := 3) ty23 rfl rfl rfl rfl) ?_
  refine a_cons (e_buildSlice (xs := [.const (.int .i64 5), .const (.int .i64 21)]) (cs := [.int .i64 5, .int .i64 21]) trivial rfl Tryd.underlying26 ty3 rfl rfl rfl (by simp [Value.cells]) rfl (rfl) ?_)
  intro v9_4
  have h9_4 : RepL (α := Int) H1_10 ([.int .i64 5, .int .i64 21]) [5, 21] := (RepL.cons (α := Int) (c := [.int .i64 5]) rfl (RepL.cons (α := Int) (c := [.int .i64 21]) rfl (RepL.nil (α := Int))))
  obtain ⟨x9_5, q9_5, hm⟩ := bind_some hm
  refine ap (y_index Tryd.underlying23 ty55 rfl rfl rfl (nth_in q9_5)) ?_
  refine ap (y_fieldAddr fo55_0 rfl) ?_
  have hl9_7 : (0 + ((1 : Int)).toNat * 3 + 0) + 1 ≤ (cf1_8).length := by rw [RepL.len hf1_8]; exact (PutL.at0 3 rfl q9_5 (TunnelFrame.put_Stay (s := x9_5) (Put.here (α := List Int) (H := H1_10) (ds := [.slice none 0 0]) (v := []) ⟨_, rfl, sl_nil _ none 0⟩))).le
  refine a_cons (e_storeRowP (i := 10) (j := 0) trivial ty26 rfl rfl rfl rfl (.inr trivial) hl9_7 ?_)
  rintro u9_7 hc9_7
  refine a_nil ?_
  refine a_en [(1, .slice (some ⟨b2_2, 0, none⟩) 11 c2_2)] ?_
  refine a_then (a_seq ?_)
  obtain ⟨x10_4, q10_4, hm⟩ := bind_some hm
  obtain ⟨x10_5, q10_5, hm⟩ := bind_some hm
  refine d_region (S := Sw H1_10 [.row (.slice (some ⟨b2_2, 0, none⟩) 11 c2_2) [.slice none 0 0, .slice none 0 0, v2_1, .slice (some ⟨b1_11_3, 0, none⟩) (x1_1.Frames).length c1_11_3, .slice (some ⟨b1_11_4, 0, none⟩) (x1_2.Parts).length c1_11_4, .slice (some ⟨b1_11_5, 0, none⟩) (x1_2.Frames).length c1_11_5, .slice (some ⟨b1_11_6, 0, none⟩) (x1_3.Parts).length c1_11_6, .slice (some ⟨b1_11_7, 0, none⟩) (x1_3.Frames).length c1_11_7, .slice (some ⟨b1_11_8, 0, none⟩) (x1_4.Parts).length c1_11_8, .slice (some ⟨b1_11_9, 0, none⟩) (x1_4.Frames).length c1_11_9, .slice (some ⟨b1_11_10, 0, none⟩) (x1_5.Parts).length c1_11_10, .slice (some ⟨b1_11_11, 0, none⟩) (x1_5.Frames).length c1_11_11, .slice (some ⟨b1_11_12, 0, none⟩) (x1_6.Parts).length c1_11_12, v7_1, .slice (some ⟨b1_11_14, 0, none⟩) (x1_7.Parts).length c1_11_14, .slice (some ⟨b1_11_15, 0, none⟩) (x1_7.Frames).length c1_11_15, .slice (some ⟨b1_11_16, 0, none⟩) (x1_8.Parts).length c1_11_16, .slice (some ⟨b1_11_17, 0, none⟩) (x1_8.Frames).length c1_11_17, .slice (some ⟨b1_11_18, 0, none⟩) (x1_9.Parts).length c1_11_18, .slice (some ⟨b1_11_19, 0, none⟩) (x1_9.Frames).length c1_11_19, .slice (some ⟨b1_11_20, 0, none⟩) (x1_10.Parts).length c1_11_20, .slice (some ⟨b1_11_21, 0, none⟩) (x1_10.Frames).length c1_11_21] 25 2]) (n := 8) (listed := (bits 8 0)) mixed (by kernel_rfl) rfl (by kernel_rfl) ?_
  refine dt 0 1 rfl trivial (y_move rfl) (sw0 [4]) ?_
  refine dt 1 3 rfl trivial (y_index Tryd.underlying96 ty25 rfl rfl rfl (by decide)) (sw0 [4]) ?_
  refine dt 2 7 rfl trivial (y_fieldAddr fo25_1 rfl) (sw0 [4]) ?_
  refine dt 3 15 rfl trivial (y_load_rowW (i := 0) ty23 rfl rfl rfl rfl) (sw0 [4]) ?_
  refine d1 4 rfl (e_callV (all := [.int .i64 30, .int .i64 1000]) (v := .agg x10_4.cells.toArray) trivial rfl Tryd.func53 rfl rfl rfl rfl rfl (fun w hw => ok_53 hw q10_4) ?_)
  refine dn 31 (sw0 [4]) ?_
  refine dt 5 63 rfl trivial (y_index Tryd.underlying23 ty55 rfl rfl rfl (nth_in q10_5)) (sw0 [4]) ?_
  refine dt 6 127 rfl trivial (y_fieldAddr fo55_1 rfl) (sw0 [4]) ?_
  refine d1 7 rfl (e_storeRow (α := TunnelFrame) (i := 8) (ds := x10_4.cells) (l' := (x1_9.Frames).set ((2 : Int)).toNat (⟨x10_5.Stay, x10_4⟩ : TunnelFrame)) trivial ty32 rfl rfl rfl rfl rfl ((Rp.one (Span.rep_mk (fun _ => none) x10_4))) rfl hf1_9 (PutL.at0 3 rfl q10_5 (TunnelFrame.put_Need (s := x10_5) (Put.here (Span.rep_mk _ x10_4)))) ?_)
  intro u10_7 h10_7
  refine dn 255 (sw0 [4]) ?_
  refine d_done (by kernel_rfl) ?_
  refine a_en [(1, .slice (some ⟨b2_2, 0, none⟩) 11 c2_2)] ?_
  refine a_then (a_seq ?_)
  obtain ⟨x11_4, q11_4, hm⟩ := bind_some hm
  obtain ⟨x11_5, q11_5, hm⟩ := bind_some hm
  refine d_region (S := Sw H1_10 [.row (.slice (some ⟨b2_2, 0, none⟩) 11 c2_2) [.slice none 0 0, .slice none 0 0, v2_1, .slice (some ⟨b1_11_3, 0, none⟩) (x1_1.Frames).length c1_11_3, .slice (some ⟨b1_11_4, 0, none⟩) (x1_2.Parts).length c1_11_4, .slice (some ⟨b1_11_5, 0, none⟩) (x1_2.Frames).length c1_11_5, .slice (some ⟨b1_11_6, 0, none⟩) (x1_3.Parts).length c1_11_6, .slice (some ⟨b1_11_7, 0, none⟩) (x1_3.Frames).length c1_11_7, .slice (some ⟨b1_11_8, 0, none⟩) (x1_4.Parts).length c1_11_8, .slice (some ⟨b1_11_9, 0, none⟩) (x1_4.Frames).length c1_11_9, .slice (some ⟨b1_11_10, 0, none⟩) (x1_5.Parts).length c1_11_10, .slice (some ⟨b1_11_11, 0, none⟩) (x1_5.Frames).length c1_11_11, .slice (some ⟨b1_11_12, 0, none⟩) (x1_6.Parts).length c1_11_12, v7_1, .slice (some ⟨b1_11_14, 0, none⟩) (x1_7.Parts).length c1_11_14, .slice (some ⟨b1_11_15, 0, none⟩) (x1_7.Frames).length c1_11_15, .slice (some ⟨b1_11_16, 0, none⟩) (x1_8.Parts).length c1_11_16, .slice (some ⟨b1_11_17, 0, none⟩) (x1_8.Frames).length c1_11_17, .slice (some ⟨b1_11_18, 0, none⟩) (x1_9.Parts).length c1_11_18, .slice (some ⟨b1_11_19, 0, none⟩) (x1_9.Frames).length c1_11_19, .slice (some ⟨b1_11_20, 0, none⟩) (x1_10.Parts).length c1_11_20, .slice (some ⟨b1_11_21, 0, none⟩) (x1_10.Frames).length c1_11_21] 25 2]) (n := 8) (listed := (bits 8 0)) mixed (by kernel_rfl) rfl (by kernel_rfl) ?_
  refine dt 0 1 rfl trivial (y_move rfl) (sw0 [4]) ?_
  refine dt 1 3 rfl trivial (y_index Tryd.underlying96 ty25 rfl rfl rfl (by decide)) (sw0 [4]) ?_
  refine dt 2 7 rfl trivial (y_fieldAddr fo25_1 rfl) (sw0 [4]) ?_
  refine dt 3 15 rfl trivial (y_load_rowW (i := 0) ty23 rfl rfl rfl rfl) (sw0 [4]) ?_
  refine d1 4 rfl (e_callV (all := [.int .i64 30, .int .i64 29]) (v := .agg x11_4.cells.toArray) trivial rfl Tryd.func53 rfl rfl rfl rfl rfl (fun w hw => ok_53 hw q11_4) ?_)
  refine dn 31 (sw0 [4]) ?_
  refine dt 5 63 rfl trivial (y_index Tryd.underlying23 ty55 rfl rfl rfl (nth_in q11_5)) (sw0 [4]) ?_
  refine dt 6 127 rfl trivial (y_fieldAddr fo55_1 rfl) (sw0 [4]) ?_
  refine d1 7 rfl (e_storeRow (α := TunnelFrame) (i := 6) (ds := x11_4.cells) (l' := (x1_10.Frames).set ((2 : Int)).toNat (⟨x11_5.Stay, x11_4⟩ : TunnelFrame)) trivial ty32 rfl rfl rfl rfl rfl ((Rp.one (Span.rep_mk (fun _ => none) x11_4))) rfl hf1_10 (PutL.at0 3 rfl q11_5 (TunnelFrame.put_Need (s := x11_5) (Put.here (Span.rep_mk _ x11_4)))) ?_)
  intro u11_7 h11_7
  refine dn 255 (sw0 [4]) ?_
  refine d_done (by kernel_rfl) ?_
  refine a_en [(1, .slice (some ⟨b2_2, 0, none⟩) 11 c2_2)] ?_
  refine a_then (a_seq (a_seq (a_region rfl ?_)))
  refine ap (y_assign rfl) ?_
  refine a_nil (a_then ?_)
  refine a_own [0, 1, 2, 3, 4, 5, 6, 7, 8, 9, 10, 11, 12, 13, 14, 15, 16, 17, 18, 19, 20, 21, 22] (by decide) (L' := [.row v9_4 [.int .i64 5, .int .i64 21] 3 1, .row v8_4 [.int .i64 5] 3 1, .row v7_1 u7_1 55 3, .row v2_1 u2_1 64 6, .row (.slice (some ⟨b2_2, 0, none⟩) 11 c2_2) [.slice none 0 0, .slice none 0 0, v2_1, .slice (some ⟨b1_11_3, 0, none⟩) (x1_1.Frames).length c1_11_3, .slice (some ⟨b1_11_4, 0, none⟩) (x1_2.Parts).length c1_11_4, .slice (some ⟨b1_11_5, 0, none⟩) (x1_2.Frames).length c1_11_5, .slice (some ⟨b1_11_6, 0, none⟩) (x1_3.Parts).length c1_11_6, .slice (some ⟨b1_11_7, 0, none⟩) (x1_3.Frames).length c1_11_7, .slice (some ⟨b1_11_8, 0, none⟩) (x1_4.Parts).length c1_11_8, .slice (some ⟨b1_11_9, 0, none⟩) (x1_4.Frames).length c1_11_9, .slice (some ⟨b1_11_10, 0, none⟩) (x1_5.Parts).length c1_11_10, .slice (some ⟨b1_11_11, 0, none⟩) (x1_5.Frames).length c1_11_11, .slice (some ⟨b1_11_12, 0, none⟩) (x1_6.Parts).length c1_11_12, v7_1, .slice (some ⟨b1_11_14, 0, none⟩) (x1_7.Parts).length c1_11_14, .slice (some ⟨b1_11_15, 0, none⟩) (x1_7.Frames).length c1_11_15, .slice (some ⟨b1_11_16, 0, none⟩) (x1_8.Parts).length c1_11_16, .slice (some ⟨b1_11_17, 0, none⟩) (x1_8.Frames).length c1_11_17, .slice (some ⟨b1_11_18, 0, none⟩) (x1_9.Parts).length c1_11_18, .slice (some ⟨b1_11_19, 0, none⟩) (x1_9.Frames).length c1_11_19, .slice (some ⟨b1_11_20, 0, none⟩) (x1_10.Parts).length c1_11_20, .slice (some ⟨b1_11_21, 0, none⟩) (x1_10.Frames).length c1_11_21] 25 2, .row (.slice (some ⟨b1_11_20, 0, none⟩) (x1_10.Parts).length c1_11_20) cp1_10 64 6, .row (.slice (some ⟨b1_11_21, 0, none⟩) (x1_10.Frames).length c1_11_21) u11_7 55 3, .row (.slice (some ⟨b1_11_18, 0, none⟩) (x1_9.Parts).length c1_11_18) cp1_9 64 6, .row (.slice (some ⟨b1_11_19, 0, none⟩) (x1_9.Frames).length c1_11_19) u10_7 55 3, .row (.slice (some ⟨b1_11_16, 0, none⟩) (x1_8.Parts).length c1_11_16) cp1_8 64 6, .row (.slice (some ⟨b1_11_17, 0, none⟩) (x1_8.Frames).length c1_11_17) u9_7 55 3, .row (.slice (some ⟨b1_11_14, 0, none⟩) (x1_7.Parts).length c1_11_14) cp1_7 64 6, .row (.slice (some ⟨b1_11_15, 0, none⟩) (x1_7.Frames).length c1_11_15) u8_7 55 3, .row (.slice (some ⟨b1_11_12, 0, none⟩) (x1_6.Parts).length c1_11_12) cp1_6 64 6, .row (.slice (some ⟨b1_11_10, 0, none⟩) (x1_5.Parts).length c1_11_10) u6_7 64 6, .row (.slice (some ⟨b1_11_11, 0, none⟩) (x1_5.Frames).length c1_11_11) cf1_5 55 3, .row (.slice (some ⟨b1_11_8, 0, none⟩) (x1_4.Parts).length c1_11_8) u5_7 64 6, .row (.slice (some ⟨b1_11_9, 0, none⟩) (x1_4.Frames).length c1_11_9) cf1_4 55 3, .row (.slice (some ⟨b1_11_6, 0, none⟩) (x1_3.Parts).length c1_11_6) u4_7 64 6, .row (.slice (some ⟨b1_11_7, 0, none⟩) (x1_3.Frames).length c1_11_7) cf1_3 55 3, .row (.slice (some ⟨b1_11_4, 0, none⟩) (x1_2.Parts).length c1_11_4) u3_7 64 6, .row (.slice (some ⟨b1_11_5, 0, none⟩) (x1_2.Frames).length c1_11_5) cf1_2 55 3, .row (.slice (some ⟨b1_11_3, 0, none⟩) (x1_1.Frames).length c1_11_3) cf1_1 55 3]) rfl ?_
  refine a_frow (i := 3) rfl rfl h2_1 rfl ?_
  intro Hf0_0y0f lf0_0y0f hf0_0y0f
  have hf1_1 := RepL.mono lf0_0y0f hf1_1
  have h3_7 := RepL.mono lf0_0y0f h3_7
  have hf1_2 := RepL.mono lf0_0y0f hf1_2
  have h4_7 := RepL.mono lf0_0y0f h4_7
  have hf1_3 := RepL.mono lf0_0y0f hf1_3
  have h5_7 := RepL.mono lf0_0y0f h5_7
  have hf1_4 := RepL.mono lf0_0y0f hf1_4
  have h6_7 := RepL.mono lf0_0y0f h6_7
  have hf1_5 := RepL.mono lf0_0y0f hf1_5
  have hp1_6 := RepL.mono lf0_0y0f hp1_6
  have hp1_7 := RepL.mono lf0_0y0f hp1_7
  have hf1_7 := RepL.mono lf0_0y0f hf1_7
  have hp1_8 := RepL.mono lf0_0y0f hp1_8
  have hf1_8 := RepL.mono lf0_0y0f hf1_8
  have hp1_9 := RepL.mono lf0_0y0f hp1_9
  have h10_7 := RepL.mono lf0_0y0f h10_7
  have hp1_10 := RepL.mono lf0_0y0f hp1_10
  have h11_7 := RepL.mono lf0_0y0f h11_7
  have h7_1 := RepL.mono lf0_0y0f h7_1
  have h8_4 := RepL.mono lf0_0y0f h8_4
  have h9_4 := RepL.mono lf0_0y0f h9_4
  have hg := Glob.mono lf0_0y0f hg
  refine a_frow (i := 22) rfl rfl hf1_1 rfl ?_
  intro Hf0_0y1f lf0_0y1f hf0_0y1f
  have h3_7 := RepL.mono lf0_0y1f h3_7
  have hf1_2 := RepL.mono lf0_0y1f hf1_2
  have h4_7 := RepL.mono lf0_0y1f h4_7
  have hf1_3 := RepL.mono lf0_0y1f hf1_3
  have h5_7 := RepL.mono lf0_0y1f h5_7
  have hf1_4 := RepL.mono lf0_0y1f hf1_4
  have h6_7 := RepL.mono lf0_0y1f h6_7
  have hf1_5 := RepL.mono lf0_0y1f hf1_5
  have hp1_6 := RepL.mono lf0_0y1f hp1_6
  have hp1_7 := RepL.mono lf0_0y1f hp1_7
  have hf1_7 := RepL.mono lf0_0y1f hf1_7
  have hp1_8 := RepL.mono lf0_0y1f hp1_8
  have hf1_8 := RepL.mono lf0_0y1f hf1_8
  have hp1_9 := RepL.mono lf0_0y1f hp1_9
  have h10_7 := RepL.mono lf0_0y1f h10_7
  have hp1_10 := RepL.mono lf0_0y1f hp1_10
  have h11_7 := RepL.mono lf0_0y1f h11_7
  have hf0_0y0f := Sl.mono lf0_0y1f hf0_0y0f
  have h7_1 := RepL.mono lf0_0y1f h7_1
  have h8_4 := RepL.mono lf0_0y1f h8_4
  have h9_4 := RepL.mono lf0_0y1f h9_4
  have hg := Glob.mono lf0_0y1f hg
  refine a_frow (i := 20) rfl rfl h3_7 rfl ?_
  intro Hf0_0y2f lf0_0y2f hf0_0y2f
  have hf1_2 := RepL.mono lf0_0y2f hf1_2
  have h4_7 := RepL.mono lf0_0y2f h4_7
  have hf1_3 := RepL.mono lf0_0y2f hf1_3
  have h5_7 := RepL.mono lf0_0y2f h5_7
  have hf1_4 := RepL.mono lf0_0y2f hf1_4
  have h6_7 := RepL.mono lf0_0y2f h6_7
  have hf1_5 := RepL.mono lf0_0y2f hf1_5
  have hp1_6 := RepL.mono lf0_0y2f hp1_6
  have hp1_7 := RepL.mono lf0_0y2f hp1_7
  have hf1_7 := RepL.mono lf0_0y2f hf1_7
  have hp1_8 := RepL.mono lf0_0y2f hp1_8
  have hf1_8 := RepL.mono lf0_0y2f hf1_8
  have hp1_9 := RepL.mono lf0_0y2f hp1_9
  have h10_7 := RepL.mono lf0_0y2f h10_7
  have hp1_10 := RepL.mono lf0_0y2f hp1_10
  have h11_7 := RepL.mono lf0_0y2f h11_7
  have hf0_0y0f := Sl.mono lf0_0y2f hf0_0y0f
  have hf0_0y1f := Sl.mono lf0_0y2f hf0_0y1f
  have h7_1 := RepL.mono lf0_0y2f h7_1
  have h8_4 := RepL.mono lf0_0y2f h8_4
  have h9_4 := RepL.mono lf0_0y2f h9_4
  have hg := Glob.mono lf0_0y2f hg
  refine a_frow (i := 21) rfl rfl hf1_2 rfl ?_
  intro Hf0_0y3f lf0_0y3f hf0_0y3f
  have h4_7 := RepL.mono lf0_0y3f h4_7
  have hf1_3 := RepL.mono lf0_0y3f hf1_3
  have h5_7 := RepL.mono lf0_0y3f h5_7
  have hf1_4 := RepL.mono lf0_0y3f hf1_4
  have h6_7 := RepL.mono lf0_0y3f h6_7
  have hf1_5 := RepL.mono lf0_0y3f hf1_5
  have hp1_6 := RepL.mono lf0_0y3f hp1_6
  have hp1_7 := RepL.mono lf0_0y3f hp1_7
  have hf1_7 := RepL.mono lf0_0y3f hf1_7
  have hp1_8 := RepL.mono lf0_0y3f hp1_8
  have hf1_8 := RepL.mono lf0_0y3f hf1_8
  have hp1_9 := RepL.mono lf0_0y3f hp1_9
  have h10_7 := RepL.mono lf0_0y3f h10_7
  have hp1_10 := RepL.mono lf0_0y3f hp1_10
  have h11_7 := RepL.mono lf0_0y3f h11_7
  have hf0_0y0f := Sl.mono lf0_0y3f hf0_0y0f
  have hf0_0y1f := Sl.mono lf0_0y3f hf0_0y1f
  have hf0_0y2f := Sl.mono lf0_0y3f hf0_0y2f
  have h7_1 := RepL.mono lf0_0y3f h7_1
  have h8_4 := RepL.mono lf0_0y3f h8_4
  have h9_4 := RepL.mono lf0_0y3f h9_4
  have hg := Glob.mono lf0_0y3f hg
  refine a_frow (i := 18) rfl rfl h4_7 rfl ?_
  intro Hf0_0y4f lf0_0y4f hf0_0y4f
  have hf1_3 := RepL.mono lf0_0y4f hf1_3
  have h5_7 := RepL.mono lf0_0y4f h5_7
  have hf1_4 := RepL.mono lf0_0y4f hf1_4
  have h6_7 := RepL.mono lf0_0y4f h6_7
  have hf1_5 := RepL.mono lf0_0y4f hf1_5
  have hp1_6 := RepL.mono lf0_0y4f hp1_6
  have hp1_7 := RepL.mono lf0_0y4f hp1_7
  have hf1_7 := RepL.mono lf0_0y4f hf1_7
  have hp1_8 := RepL.mono lf0_0y4f hp1_8
  have hf1_8 := RepL.mono lf0_0y4f hf1_8
  have hp1_9 := RepL.mono lf0_0y4f hp1_9
  have h10_7 := RepL.mono lf0_0y4f h10_7
  have hp1_10 := RepL.mono lf0_0y4f hp1_10
  have h11_7 := RepL.mono lf0_0y4f h11_7
  have hf0_0y0f := Sl.mono lf0_0y4f hf0_0y0f
  have hf0_0y1f := Sl.mono lf0_0y4f hf0_0y1f
  have hf0_0y2f := Sl.mono lf0_0y4f hf0_0y2f
  have hf0_0y3f := Sl.mono lf0_0y4f hf0_0y3f
  have h7_1 := RepL.mono lf0_0y4f h7_1
  have h8_4 := RepL.mono lf0_0y4f h8_4
  have h9_4 := RepL.mono lf0_0y4f h9_4
  have hg := Glob.mono lf0_0y4f hg
  refine a_own [0, 1, 2, 4, 5, 6, 7, 8, 9, 10, 11, 12, 13, 14, 15, 16, 17, 19] (by decide) (L' := [.row v9_4 [.int .i64 5, .int .i64 21] 3 1, .row v8_4 [.int .i64 5] 3 1, .row v7_1 u7_1 55 3, .row (.slice (some ⟨b2_2, 0, none⟩) 11 c2_2) [.slice none 0 0, .slice none 0 0, v2_1, .slice (some ⟨b1_11_3, 0, none⟩) (x1_1.Frames).length c1_11_3, .slice (some ⟨b1_11_4, 0, none⟩) (x1_2.Parts).length c1_11_4, .slice (some ⟨b1_11_5, 0, none⟩) (x1_2.Frames).length c1_11_5, .slice (some ⟨b1_11_6, 0, none⟩) (x1_3.Parts).length c1_11_6, .slice (some ⟨b1_11_7, 0, none⟩) (x1_3.Frames).length c1_11_7, .slice (some ⟨b1_11_8, 0, none⟩) (x1_4.Parts).length c1_11_8, .slice (some ⟨b1_11_9, 0, none⟩) (x1_4.Frames).length c1_11_9, .slice (some ⟨b1_11_10, 0, none⟩) (x1_5.Parts).length c1_11_10, .slice (some ⟨b1_11_11, 0, none⟩) (x1_5.Frames).length c1_11_11, .slice (some ⟨b1_11_12, 0, none⟩) (x1_6.Parts).length c1_11_12, v7_1, .slice (some ⟨b1_11_14, 0, none⟩) (x1_7.Parts).length c1_11_14, .slice (some ⟨b1_11_15, 0, none⟩) (x1_7.Frames).length c1_11_15, .slice (some ⟨b1_11_16, 0, none⟩) (x1_8.Parts).length c1_11_16, .slice (some ⟨b1_11_17, 0, none⟩) (x1_8.Frames).length c1_11_17, .slice (some ⟨b1_11_18, 0, none⟩) (x1_9.Parts).length c1_11_18, .slice (some ⟨b1_11_19, 0, none⟩) (x1_9.Frames).length c1_11_19, .slice (some ⟨b1_11_20, 0, none⟩) (x1_10.Parts).length c1_11_20, .slice (some ⟨b1_11_21, 0, none⟩) (x1_10.Frames).length c1_11_21] 25 2, .row (.slice (some ⟨b1_11_20, 0, none⟩) (x1_10.Parts).length c1_11_20) cp1_10 64 6, .row (.slice (some ⟨b1_11_21, 0, none⟩) (x1_10.Frames).length c1_11_21) u11_7 55 3, .row (.slice (some ⟨b1_11_18, 0, none⟩) (x1_9.Parts).length c1_11_18) cp1_9 64 6, .row (.slice (some ⟨b1_11_19, 0, none⟩) (x1_9.Frames).length c1_11_19) u10_7 55 3, .row (.slice (some ⟨b1_11_16, 0, none⟩) (x1_8.Parts).length c1_11_16) cp1_8 64 6, .row (.slice (some ⟨b1_11_17, 0, none⟩) (x1_8.Frames).length c1_11_17) u9_7 55 3, .row (.slice (some ⟨b1_11_14, 0, none⟩) (x1_7.Parts).length c1_11_14) cp1_7 64 6, .row (.slice (some ⟨b1_11_15, 0, none⟩) (x1_7.Frames).length c1_11_15) u8_7 55 3, .row (.slice (some ⟨b1_11_12, 0, none⟩) (x1_6.Parts).length c1_11_12) cp1_6 64 6, .row (.slice (some ⟨b1_11_10, 0, none⟩) (x1_5.Parts).length c1_11_10) u6_7 64 6, .row (.slice (some ⟨b1_11_11, 0, none⟩) (x1_5.Frames).length c1_11_11) cf1_5 55 3, .row (.slice (some ⟨b1_11_8, 0, none⟩) (x1_4.Parts).length c1_11_8) u5_7 64 6, .row (.slice (some ⟨b1_11_9, 0, none⟩) (x1_4.Frames).length c1_11_9) cf1_4 55 3, .row (.slice (some ⟨b1_11_7, 0, none⟩) (x1_3.Frames).length c1_11_7) cf1_3 55 3]) rfl ?_
  refine a_frow (i := 17) rfl rfl hf1_3 rfl ?_
  intro Hf0_0y5f lf0_0y5f hf0_0y5f
  have h5_7 := RepL.mono lf0_0y5f h5_7
  have hf1_4 := RepL.mono lf0_0y5f hf1_4
  have h6_7 := RepL.mono lf0_0y5f h6_7
  have hf1_5 := RepL.mono lf0_0y5f hf1_5
  have hp1_6 := RepL.mono lf0_0y5f hp1_6
  have hp1_7 := RepL.mono lf0_0y5f hp1_7
  have hf1_7 := RepL.mono lf0_0y5f hf1_7
  have hp1_8 := RepL.mono lf0_0y5f hp1_8
  have hf1_8 := RepL.mono lf0_0y5f hf1_8
  have hp1_9 := RepL.mono lf0_0y5f hp1_9
  have h10_7 := RepL.mono lf0_0y5f h10_7
  have hp1_10 := RepL.mono lf0_0y5f hp1_10
  have h11_7 := RepL.mono lf0_0y5f h11_7
  have hf0_0y0f := Sl.mono lf0_0y5f hf0_0y0f
  have hf0_0y1f := Sl.mono lf0_0y5f hf0_0y1f
  have hf0_0y2f := Sl.mono lf0_0y5f hf0_0y2f
  have hf0_0y3f := Sl.mono lf0_0y5f hf0_0y3f
  have hf0_0y4f := Sl.mono lf0_0y5f hf0_0y4f
  have h7_1 := RepL.mono lf0_0y5f h7_1
  have h8_4 := RepL.mono lf0_0y5f h8_4
  have h9_4 := RepL.mono lf0_0y5f h9_4
  have hg := Glob.mono lf0_0y5f hg
  refine a_frow (i := 15) rfl rfl h5_7 rfl ?_
  intro Hf0_0y6f lf0_0y6f hf0_0y6f
  have hf1_4 := RepL.mono lf0_0y6f hf1_4
  have h6_7 := RepL.mono lf0_0y6f h6_7
  have hf1_5 := RepL.mono lf0_0y6f hf1_5
  have hp1_6 := RepL.mono lf0_0y6f hp1_6
  have hp1_7 := RepL.mono lf0_0y6f hp1_7
  have hf1_7 := RepL.mono lf0_0y6f hf1_7
  have hp1_8 := RepL.mono lf0_0y6f hp1_8
  have hf1_8 := RepL.mono lf0_0y6f hf1_8
  have hp1_9 := RepL.mono lf0_0y6f hp1_9
  have h10_7 := RepL.mono lf0_0y6f h10_7
  have hp1_10 := RepL.mono lf0_0y6f hp1_10
  have h11_7 := RepL.mono lf0_0y6f h11_7
  have hf0_0y0f := Sl.mono lf0_0y6f hf0_0y0f
  have hf0_0y1f := Sl.mono lf0_0y6f hf0_0y1f
  have hf0_0y2f := Sl.mono lf0_0y6f hf0_0y2f
  have hf0_0y3f := Sl.mono lf0_0y6f hf0_0y3f
  have hf0_0y4f := Sl.mono lf0_0y6f hf0_0y4f
  have hf0_0y5f := Sl.mono lf0_0y6f hf0_0y5f
  have h7_1 := RepL.mono lf0_0y6f h7_1
  have h8_4 := RepL.mono lf0_0y6f h8_4
  have h9_4 := RepL.mono lf0_0y6f h9_4
  have hg := Glob.mono lf0_0y6f hg
  refine a_frow (i := 16) rfl rfl hf1_4 rfl ?_
  intro Hf0_0y7f lf0_0y7f hf0_0y7f
  have h6_7 := RepL.mono lf0_0y7f h6_7
  have hf1_5 := RepL.mono lf0_0y7f hf1_5
  have hp1_6 := RepL.mono lf0_0y7f hp1_6
  have hp1_7 := RepL.mono lf0_0y7f hp1_7
  have hf1_7 := RepL.mono lf0_0y7f hf1_7
  have hp1_8 := RepL.mono lf0_0y7f hp1_8
  have hf1_8 := RepL.mono lf0_0y7f hf1_8
  have hp1_9 := RepL.mono lf0_0y7f hp1_9
  have h10_7 := RepL.mono lf0_0y7f h10_7
  have hp1_10 := RepL.mono lf0_0y7f hp1_10
  have h11_7 := RepL.mono lf0_0y7f h11_7
  have hf0_0y0f := Sl.mono lf0_0y7f hf0_0y0f
  have hf0_0y1f := Sl.mono lf0_0y7f hf0_0y1f
  have hf0_0y2f := Sl.mono lf0_0y7f hf0_0y2f
  have hf0_0y3f := Sl.mono lf0_0y7f hf0_0y3f
  have hf0_0y4f := Sl.mono lf0_0y7f hf0_0y4f
  have hf0_0y5f := Sl.mono lf0_0y7f hf0_0y5f
  have hf0_0y6f := Sl.mono lf0_0y7f hf0_0y6f
  have h7_1 := RepL.mono lf0_0y7f h7_1
  have h8_4 := RepL.mono lf0_0y7f h8_4
  have h9_4 := RepL.mono lf0_0y7f h9_4
  have hg := Glob.mono lf0_0y7f hg
  refine a_frow (i := 13) rfl rfl h6_7 rfl ?_
  intro Hf0_0y8f lf0_0y8f hf0_0y8f
  have hf1_5 := RepL.mono lf0_0y8f hf1_5
  have hp1_6 := RepL.mono lf0_0y8f hp1_6
  have hp1_7 := RepL.mono lf0_0y8f hp1_7
  have hf1_7 := RepL.mono lf0_0y8f hf1_7
  have hp1_8 := RepL.mono lf0_0y8f hp1_8
  have hf1_8 := RepL.mono lf0_0y8f hf1_8
  have hp1_9 := RepL.mono lf0_0y8f hp1_9
  have h10_7 := RepL.mono lf0_0y8f h10_7
  have hp1_10 := RepL.mono lf0_0y8f hp1_10
  have h11_7 := RepL.mono lf0_0y8f h11_7
  have hf0_0y0f := Sl.mono lf0_0y8f hf0_0y0f
  have hf0_0y1f := Sl.mono lf0_0y8f hf0_0y1f
  have hf0_0y2f := Sl.mono lf0_0y8f hf0_0y2f
  have hf0_0y3f := Sl.mono lf0_0y8f hf0_0y3f
  have hf0_0y4f := Sl.mono lf0_0y8f hf0_0y4f
  have hf0_0y5f := Sl.mono lf0_0y8f hf0_0y5f
  have hf0_0y6f := Sl.mono lf0_0y8f hf0_0y6f
  have hf0_0y7f := Sl.mono lf0_0y8f hf0_0y7f
  have h7_1 := RepL.mono lf0_0y8f h7_1
  have h8_4 := RepL.mono lf0_0y8f h8_4
  have h9_4 := RepL.mono lf0_0y8f h9_4
  have hg := Glob.mono lf0_0y8f hg
  refine a_frow (i := 14) rfl rfl hf1_5 rfl ?_
  intro Hf0_0y9f lf0_0y9f hf0_0y9f
  have hp1_6 := RepL.mono lf0_0y9f hp1_6
  have hp1_7 := RepL.mono lf0_0y9f hp1_7
  have hf1_7 := RepL.mono lf0_0y9f hf1_7
  have hp1_8 := RepL.mono lf0_0y9f hp1_8
  have hf1_8 := RepL.mono lf0_0y9f hf1_8
  have hp1_9 := RepL.mono lf0_0y9f hp1_9
  have h10_7 := RepL.mono lf0_0y9f h10_7
  have hp1_10 := RepL.mono lf0_0y9f hp1_10
  have h11_7 := RepL.mono lf0_0y9f h11_7
  have hf0_0y0f := Sl.mono lf0_0y9f hf0_0y0f
  have hf0_0y1f := Sl.mono lf0_0y9f hf0_0y1f
  have hf0_0y2f := Sl.mono lf0_0y9f hf0_0y2f
  have hf0_0y3f := Sl.mono lf0_0y9f hf0_0y3f
  have hf0_0y4f := Sl.mono lf0_0y9f hf0_0y4f
  have hf0_0y5f := Sl.mono lf0_0y9f hf0_0y5f
  have hf0_0y6f := Sl.mono lf0_0y9f hf0_0y6f
  have hf0_0y7f := Sl.mono lf0_0y9f hf0_0y7f
  have hf0_0y8f := Sl.mono lf0_0y9f hf0_0y8f
  have h7_1 := RepL.mono lf0_0y9f h7_1
  have h8_4 := RepL.mono lf0_0y9f h8_4
  have h9_4 := RepL.mono lf0_0y9f h9_4
  have hg := Glob.mono lf0_0y9f hg
  refine a_own [0, 1, 2, 3, 4, 5, 6, 7, 8, 9, 10, 11, 12] (by decide) (L' := [.row v9_4 [.int .i64 5, .int .i64 21] 3 1, .row v8_4 [.int .i64 5] 3 1, .row v7_1 u7_1 55 3, .row (.slice (some ⟨b2_2, 0, none⟩) 11 c2_2) [.slice none 0 0, .slice none 0 0, v2_1, .slice (some ⟨b1_11_3, 0, none⟩) (x1_1.Frames).length c1_11_3, .slice (some ⟨b1_11_4, 0, none⟩) (x1_2.Parts).length c1_11_4, .slice (some ⟨b1_11_5, 0, none⟩) (x1_2.Frames).length c1_11_5, .slice (some ⟨b1_11_6, 0, none⟩) (x1_3.Parts).length c1_11_6, .slice (some ⟨b1_11_7, 0, none⟩) (x1_3.Frames).length c1_11_7, .slice (some ⟨b1_11_8, 0, none⟩) (x1_4.Parts).length c1_11_8, .slice (some ⟨b1_11_9, 0, none⟩) (x1_4.Frames).length c1_11_9, .slice (some ⟨b1_11_10, 0, none⟩) (x1_5.Parts).length c1_11_10, .slice (some ⟨b1_11_11, 0, none⟩) (x1_5.Frames).length c1_11_11, .slice (some ⟨b1_11_12, 0, none⟩) (x1_6.Parts).length c1_11_12, v7_1, .slice (some ⟨b1_11_14, 0, none⟩) (x1_7.Parts).length c1_11_14, .slice (some ⟨b1_11_15, 0, none⟩) (x1_7.Frames).length c1_11_15, .slice (some ⟨b1_11_16, 0, none⟩) (x1_8.Parts).length c1_11_16, .slice (some ⟨b1_11_17, 0, none⟩) (x1_8.Frames).length c1_11_17, .slice (some ⟨b1_11_18, 0, none⟩) (x1_9.Parts).length c1_11_18, .slice (some ⟨b1_11_19, 0, none⟩) (x1_9.Frames).length c1_11_19, .slice (some ⟨b1_11_20, 0, none⟩) (x1_10.Parts).length c1_11_20, .slice (some ⟨b1_11_21, 0, none⟩) (x1_10.Frames).length c1_11_21] 25 2, .row (.slice (some ⟨b1_11_20, 0, none⟩) (x1_10.Parts).length c1_11_20) cp1_10 64 6, .row (.slice (some ⟨b1_11_21, 0, none⟩) (x1_10.Frames).length c1_11_21) u11_7 55 3, .row (.slice (some ⟨b1_11_18, 0, none⟩) (x1_9.Parts).length c1_11_18) cp1_9 64 6, .row (.slice (some ⟨b1_11_19, 0, none⟩) (x1_9.Frames).length c1_11_19) u10_7 55 3, .row (.slice (some ⟨b1_11_16, 0, none⟩) (x1_8.Parts).length c1_11_16) cp1_8 64 6, .row (.slice (some ⟨b1_11_17, 0, none⟩) (x1_8.Frames).length c1_11_17) u9_7 55 3, .row (.slice (some ⟨b1_11_14, 0, none⟩) (x1_7.Parts).length c1_11_14) cp1_7 64 6, .row (.slice (some ⟨b1_11_15, 0, none⟩) (x1_7.Frames).length c1_11_15) u8_7 55 3, .row (.slice (some ⟨b1_11_12, 0, none⟩) (x1_6.Parts).length c1_11_12) cp1_6 64 6]) rfl ?_
  refine a_frow (i := 12) rfl rfl hp1_6 rfl ?_
  intro Hf0_0y10f lf0_0y10f hf0_0y10f
  have hp1_7 := RepL.mono lf0_0y10f hp1_7
  have hf1_7 := RepL.mono lf0_0y10f hf1_7
  have hp1_8 := RepL.mono lf0_0y10f hp1_8
  have hf1_8 := RepL.mono lf0_0y10f hf1_8
  have hp1_9 := RepL.mono lf0_0y10f hp1_9
  have h10_7 := RepL.mono lf0_0y10f h10_7
  have hp1_10 := RepL.mono lf0_0y10f hp1_10
  have h11_7 := RepL.mono lf0_0y10f h11_7
  have hf0_0y0f := Sl.mono lf0_0y10f hf0_0y0f
  have hf0_0y1f := Sl.mono lf0_0y10f hf0_0y1f
  have hf0_0y2f := Sl.mono lf0_0y10f hf0_0y2f
  have hf0_0y3f := Sl.mono lf0_0y10f hf0_0y3f
  have hf0_0y4f := Sl.mono lf0_0y10f hf0_0y4f
  have hf0_0y5f := Sl.mono lf0_0y10f hf0_0y5f
  have hf0_0y6f := Sl.mono lf0_0y10f hf0_0y6f
  have hf0_0y7f := Sl.mono lf0_0y10f hf0_0y7f
  have hf0_0y8f := Sl.mono lf0_0y10f hf0_0y8f
  have hf0_0y9f := Sl.mono lf0_0y10f hf0_0y9f
  have h7_1 := RepL.mono lf0_0y10f h7_1
  have h8_4 := RepL.mono lf0_0y10f h8_4
  have h9_4 := RepL.mono lf0_0y10f h9_4
  have hg := Glob.mono lf0_0y10f hg
  refine a_frow (i := 2) rfl rfl h7_1 rfl ?_
  intro Hf0_0y11f lf0_0y11f hf0_0y11f
  have hp1_7 := RepL.mono lf0_0y11f hp1_7
  have hf1_7 := RepL.mono lf0_0y11f hf1_7
  have hp1_8 := RepL.mono lf0_0y11f hp1_8
  have hf1_8 := RepL.mono lf0_0y11f hf1_8
  have hp1_9 := RepL.mono lf0_0y11f hp1_9
  have h10_7 := RepL.mono lf0_0y11f h10_7
  have hp1_10 := RepL.mono lf0_0y11f hp1_10
  have h11_7 := RepL.mono lf0_0y11f h11_7
  have hf0_0y0f := Sl.mono lf0_0y11f hf0_0y0f
  have hf0_0y1f := Sl.mono lf0_0y11f hf0_0y1f
  have hf0_0y2f := Sl.mono lf0_0y11f hf0_0y2f
  have hf0_0y3f := Sl.mono lf0_0y11f hf0_0y3f
  have hf0_0y4f := Sl.mono lf0_0y11f hf0_0y4f
  have hf0_0y5f := Sl.mono lf0_0y11f hf0_0y5f
  have hf0_0y6f := Sl.mono lf0_0y11f hf0_0y6f
  have hf0_0y7f := Sl.mono lf0_0y11f hf0_0y7f
  have hf0_0y8f := Sl.mono lf0_0y11f hf0_0y8f
  have hf0_0y9f := Sl.mono lf0_0y11f hf0_0y9f
  have hf0_0y10f := Sl.mono lf0_0y11f hf0_0y10f
  have h8_4 := RepL.mono lf0_0y11f h8_4
  have h9_4 := RepL.mono lf0_0y11f h9_4
  have hg := Glob.mono lf0_0y11f hg
  refine a_frow (i := 10) rfl rfl hp1_7 rfl ?_
  intro Hf0_0y12f lf0_0y12f hf0_0y12f
  have hf1_7 := RepL.mono lf0_0y12f hf1_7
  have hp1_8 := RepL.mono lf0_0y12f hp1_8
  have hf1_8 := RepL.mono lf0_0y12f hf1_8
  have hp1_9 := RepL.mono lf0_0y12f hp1_9
  have h10_7 := RepL.mono lf0_0y12f h10_7
  have hp1_10 := RepL.mono lf0_0y12f hp1_10
  have h11_7 := RepL.mono lf0_0y12f h11_7
  have hf0_0y0f := Sl.mono lf0_0y12f hf0_0y0f
  have hf0_0y1f := Sl.mono lf0_0y12f hf0_0y1f
  have hf0_0y2f := Sl.mono lf0_0y12f hf0_0y2f
  have hf0_0y3f := Sl.mono lf0_0y12f hf0_0y3f
  have hf0_0y4f := Sl.mono lf0_0y12f hf0_0y4f
  have hf0_0y5f := Sl.mono lf0_0y12f hf0_0y5f
  have hf0_0y6f := Sl.mono lf0_0y12f hf0_0y6f
  have hf0_0y7f := Sl.mono lf0_0y12f hf0_0y7f
  have hf0_0y8f := Sl.mono lf0_0y12f hf0_0y8f
  have hf0_0y9f := Sl.mono lf0_0y12f hf0_0y9f
  have hf0_0y10f := Sl.mono lf0_0y12f hf0_0y10f
  have hf0_0y11f := Sl.mono lf0_0y12f hf0_0y11f
  have h8_4 := RepL.mono lf0_0y12f h8_4
  have h9_4 := RepL.mono lf0_0y12f h9_4
  have hg := Glob.mono lf0_0y12f hg
  refine a_frow (i := 1) rfl rfl h8_4 rfl ?_
  intro Hf0_0y13pf lf0_0y13pf hf0_0y13pf
  have hf1_7 := RepL.mono lf0_0y13pf hf1_7
  have hp1_8 := RepL.mono lf0_0y13pf hp1_8
  have hf1_8 := RepL.mono lf0_0y13pf hf1_8
  have hp1_9 := RepL.mono lf0_0y13pf hp1_9
  have h10_7 := RepL.mono lf0_0y13pf h10_7
  have hp1_10 := RepL.mono lf0_0y13pf hp1_10
  have h11_7 := RepL.mono lf0_0y13pf h11_7
  have hf0_0y0f := Sl.mono lf0_0y13pf hf0_0y0f
  have hf0_0y1f := Sl.mono lf0_0y13pf hf0_0y1f
  have hf0_0y2f := Sl.mono lf0_0y13pf hf0_0y2f
  have hf0_0y3f := Sl.mono lf0_0y13pf hf0_0y3f
  have hf0_0y4f := Sl.mono lf0_0y13pf hf0_0y4f
  have hf0_0y5f := Sl.mono lf0_0y13pf hf0_0y5f
  have hf0_0y6f := Sl.mono lf0_0y13pf hf0_0y6f
  have hf0_0y7f := Sl.mono lf0_0y13pf hf0_0y7f
  have hf0_0y8f := Sl.mono lf0_0y13pf hf0_0y8f
  have hf0_0y9f := Sl.mono lf0_0y13pf hf0_0y9f
  have hf0_0y10f := Sl.mono lf0_0y13pf hf0_0y10f
  have hf0_0y11f := Sl.mono lf0_0y13pf hf0_0y11f
  have hf0_0y12f := Sl.mono lf0_0y13pf hf0_0y12f
  have h9_4 := RepL.mono lf0_0y13pf h9_4
  have hg := Glob.mono lf0_0y13pf hg
  have hsf0_0y13 : RepL (α := TunnelFrame) Hf0_0y13pf u8_7 ((x1_7.Frames).set ((0 : Int)).toNat (⟨[5], x8_5.Need⟩ : TunnelFrame)) := by rw [hc8_7]; exact (PutL.put (PutL.at0 3 rfl q8_5 (TunnelFrame.put_Stay (s := x8_5) (Put.here ⟨_, rfl, hf0_0y13pf⟩))) _ hf1_7)
  refine a_frow (i := 11) rfl rfl hsf0_0y13 rfl ?_
  intro Hf0_0y13f lf0_0y13f hf0_0y13f
  have hp1_8 := RepL.mono lf0_0y13f hp1_8
  have hf1_8 := RepL.mono lf0_0y13f hf1_8
  have hp1_9 := RepL.mono lf0_0y13f hp1_9
  have h10_7 := RepL.mono lf0_0y13f h10_7
  have hp1_10 := RepL.mono lf0_0y13f hp1_10
  have h11_7 := RepL.mono lf0_0y13f h11_7
  have hf0_0y0f := Sl.mono lf0_0y13f hf0_0y0f
  have hf0_0y1f := Sl.mono lf0_0y13f hf0_0y1f
  have hf0_0y2f := Sl.mono lf0_0y13f hf0_0y2f
  have hf0_0y3f := Sl.mono lf0_0y13f hf0_0y3f
  have hf0_0y4f := Sl.mono lf0_0y13f hf0_0y4f
  have hf0_0y5f := Sl.mono lf0_0y13f hf0_0y5f
  have hf0_0y6f := Sl.mono lf0_0y13f hf0_0y6f
  have hf0_0y7f := Sl.mono lf0_0y13f hf0_0y7f
  have hf0_0y8f := Sl.mono lf0_0y13f hf0_0y8f
  have hf0_0y9f := Sl.mono lf0_0y13f hf0_0y9f
  have hf0_0y10f := Sl.mono lf0_0y13f hf0_0y10f
  have hf0_0y11f := Sl.mono lf0_0y13f hf0_0y11f
  have hf0_0y12f := Sl.mono lf0_0y13f hf0_0y12f
  have h9_4 := RepL.mono lf0_0y13f h9_4
  have hg := Glob.mono lf0_0y13f hg
  refine a_frow (i := 8) rfl rfl hp1_8 rfl ?_
  intro Hf0_0y14f lf0_0y14f hf0_0y14f
  have hf1_8 := RepL.mono lf0_0y14f hf1_8
  have hp1_9 := RepL.mono lf0_0y14f hp1_9
  have h10_7 := RepL.mono lf0_0y14f h10_7
  have hp1_10 := RepL.mono lf0_0y14f hp1_10
  have h11_7 := RepL.mono lf0_0y14f h11_7
  have hf0_0y0f := Sl.mono lf0_0y14f hf0_0y0f
  have hf0_0y1f := Sl.mono lf0_0y14f hf0_0y1f
  have hf0_0y2f := Sl.mono lf0_0y14f hf0_0y2f
  have hf0_0y3f := Sl.mono lf0_0y14f hf0_0y3f
  have hf0_0y4f := Sl.mono lf0_0y14f hf0_0y4f
  have hf0_0y5f := Sl.mono lf0_0y14f hf0_0y5f
  have hf0_0y6f := Sl.mono lf0_0y14f hf0_0y6f
  have hf0_0y7f := Sl.mono lf0_0y14f hf0_0y7f
  have hf0_0y8f := Sl.mono lf0_0y14f hf0_0y8f
  have hf0_0y9f := Sl.mono lf0_0y14f hf0_0y9f
  have hf0_0y10f := Sl.mono lf0_0y14f hf0_0y10f
  have hf0_0y11f := Sl.mono lf0_0y14f hf0_0y11f
  have hf0_0y12f := Sl.mono lf0_0y14f hf0_0y12f
  have hf0_0y13f := Sl.mono lf0_0y14f hf0_0y13f
  have h9_4 := RepL.mono lf0_0y14f h9_4
  have hg := Glob.mono lf0_0y14f hg
  refine a_own [0, 3, 4, 5, 6, 7, 9] (by decide) (L' := [.row v9_4 [.int .i64 5, .int .i64 21] 3 1, .row (.slice (some ⟨b2_2, 0, none⟩) 11 c2_2) [.slice none 0 0, .slice none 0 0, v2_1, .slice (some ⟨b1_11_3, 0, none⟩) (x1_1.Frames).length c1_11_3, .slice (some ⟨b1_11_4, 0, none⟩) (x1_2.Parts).length c1_11_4, .slice (some ⟨b1_11_5, 0, none⟩) (x1_2.Frames).length c1_11_5, .slice (some ⟨b1_11_6, 0, none⟩) (x1_3.Parts).length c1_11_6, .slice (some ⟨b1_11_7, 0, none⟩) (x1_3.Frames).length c1_11_7, .slice (some ⟨b1_11_8, 0, none⟩) (x1_4.Parts).length c1_11_8, .slice (some ⟨b1_11_9, 0, none⟩) (x1_4.Frames).length c1_11_9, .slice (some ⟨b1_11_10, 0, none⟩) (x1_5.Parts).length c1_11_10, .slice (some ⟨b1_11_11, 0, none⟩) (x1_5.Frames).length c1_11_11, .slice (some ⟨b1_11_12, 0, none⟩) (x1_6.Parts).length c1_11_12, v7_1, .slice (some ⟨b1_11_14, 0, none⟩) (x1_7.Parts).length c1_11_14, .slice (some ⟨b1_11_15, 0, none⟩) (x1_7.Frames).length c1_11_15, .slice (some ⟨b1_11_16, 0, none⟩) (x1_8.Parts).length c1_11_16, .slice (some ⟨b1_11_17, 0, none⟩) (x1_8.Frames).length c1_11_17, .slice (some ⟨b1_11_18, 0, none⟩) (x1_9.Parts).length c1_11_18, .slice (some ⟨b1_11_19, 0, none⟩) (x1_9.Frames).length c1_11_19, .slice (some ⟨b1_11_20, 0, none⟩) (x1_10.Parts).length c1_11_20, .slice (some ⟨b1_11_21, 0, none⟩) (x1_10.Frames).length c1_11_21] 25 2, .row (.slice (some ⟨b1_11_20, 0, none⟩) (x1_10.Parts).length c1_11_20) cp1_10 64 6, .row (.slice (some ⟨b1_11_21, 0, none⟩) (x1_10.Frames).length c1_11_21) u11_7 55 3, .row (.slice (some ⟨b1_11_18, 0, none⟩) (x1_9.Parts).length c1_11_18) cp1_9 64 6, .row (.slice (some ⟨b1_11_19, 0, none⟩) (x1_9.Frames).length c1_11_19) u10_7 55 3, .row (.slice (some ⟨b1_11_17, 0, none⟩) (x1_8.Frames).length c1_11_17) u9_7 55 3]) rfl ?_
  refine a_frow (i := 0) rfl rfl h9_4 rfl ?_
  intro Hf0_0y15pf lf0_0y15pf hf0_0y15pf
  have hf1_8 := RepL.mono lf0_0y15pf hf1_8
  have hp1_9 := RepL.mono lf0_0y15pf hp1_9
  have h10_7 := RepL.mono lf0_0y15pf h10_7
  have hp1_10 := RepL.mono lf0_0y15pf hp1_10
  have h11_7 := RepL.mono lf0_0y15pf h11_7
  have hf0_0y0f := Sl.mono lf0_0y15pf hf0_0y0f
  have hf0_0y1f := Sl.mono lf0_0y15pf hf0_0y1f
  have hf0_0y2f := Sl.mono lf0_0y15pf hf0_0y2f
  have hf0_0y3f := Sl.mono lf0_0y15pf hf0_0y3f
  have hf0_0y4f := Sl.mono lf0_0y15pf hf0_0y4f
  have hf0_0y5f := Sl.mono lf0_0y15pf hf0_0y5f
  have hf0_0y6f := Sl.mono lf0_0y15pf hf0_0y6f
  have hf0_0y7f := Sl.mono lf0_0y15pf hf0_0y7f
  have hf0_0y8f := Sl.mono lf0_0y15pf hf0_0y8f
  have hf0_0y9f := Sl.mono lf0_0y15pf hf0_0y9f
  have hf0_0y10f := Sl.mono lf0_0y15pf hf0_0y10f
  have hf0_0y11f := Sl.mono lf0_0y15pf hf0_0y11f
  have hf0_0y12f := Sl.mono lf0_0y15pf hf0_0y12f
  have hf0_0y13f := Sl.mono lf0_0y15pf hf0_0y13f
  have hf0_0y14f := Sl.mono lf0_0y15pf hf0_0y14f
  have hg := Glob.mono lf0_0y15pf hg
  have hsf0_0y15 : RepL (α := TunnelFrame) Hf0_0y15pf u9_7 ((x1_8.Frames).set ((1 : Int)).toNat (⟨[5, 21], x9_5.Need⟩ : TunnelFrame)) := by rw [hc9_7]; exact (PutL.put (PutL.at0 3 rfl q9_5 (TunnelFrame.put_Stay (s := x9_5) (Put.here ⟨_, rfl, hf0_0y15pf⟩))) _ hf1_8)
  refine a_frow (i := 6) rfl rfl hsf0_0y15 rfl ?_
  intro Hf0_0y15f lf0_0y15f hf0_0y15f
  have hp1_9 := RepL.mono lf0_0y15f hp1_9
  have h10_7 := RepL.mono lf0_0y15f h10_7
  have hp1_10 := RepL.mono lf0_0y15f hp1_10
  have h11_7 := RepL.mono lf0_0y15f h11_7
  have hf0_0y0f := Sl.mono lf0_0y15f hf0_0y0f
  have hf0_0y1f := Sl.mono lf0_0y15f hf0_0y1f
  have hf0_0y2f := Sl.mono lf0_0y15f hf0_0y2f
  have hf0_0y3f := Sl.mono lf0_0y15f hf0_0y3f
  have hf0_0y4f := Sl.mono lf0_0y15f hf0_0y4f
  have hf0_0y5f := Sl.mono lf0_0y15f hf0_0y5f
  have hf0_0y6f := Sl.mono lf0_0y15f hf0_0y6f
  have hf0_0y7f := Sl.mono lf0_0y15f hf0_0y7f
  have hf0_0y8f := Sl.mono lf0_0y15f hf0_0y8f
  have hf0_0y9f := Sl.mono lf0_0y15f hf0_0y9f
  have hf0_0y10f := Sl.mono lf0_0y15f hf0_0y10f
  have hf0_0y11f := Sl.mono lf0_0y15f hf0_0y11f
  have hf0_0y12f := Sl.mono lf0_0y15f hf0_0y12f
  have hf0_0y13f := Sl.mono lf0_0y15f hf0_0y13f
  have hf0_0y14f := Sl.mono lf0_0y15f hf0_0y14f
  have hg := Glob.mono lf0_0y15f hg
  refine a_frow (i := 4) rfl rfl hp1_9 rfl ?_
  intro Hf0_0y16f lf0_0y16f hf0_0y16f
  have h10_7 := RepL.mono lf0_0y16f h10_7
  have hp1_10 := RepL.mono lf0_0y16f hp1_10
  have h11_7 := RepL.mono lf0_0y16f h11_7
  have hf0_0y0f := Sl.mono lf0_0y16f hf0_0y0f
  have hf0_0y1f := Sl.mono lf0_0y16f hf0_0y1f
  have hf0_0y2f := Sl.mono lf0_0y16f hf0_0y2f
  have hf0_0y3f := Sl.mono lf0_0y16f hf0_0y3f
  have hf0_0y4f := Sl.mono lf0_0y16f hf0_0y4f
  have hf0_0y5f := Sl.mono lf0_0y16f hf0_0y5f
  have hf0_0y6f := Sl.mono lf0_0y16f hf0_0y6f
  have hf0_0y7f := Sl.mono lf0_0y16f hf0_0y7f
  have hf0_0y8f := Sl.mono lf0_0y16f hf0_0y8f
  have hf0_0y9f := Sl.mono lf0_0y16f hf0_0y9f
  have hf0_0y10f := Sl.mono lf0_0y16f hf0_0y10f
  have hf0_0y11f := Sl.mono lf0_0y16f hf0_0y11f
  have hf0_0y12f := Sl.mono lf0_0y16f hf0_0y12f
  have hf0_0y13f := Sl.mono lf0_0y16f hf0_0y13f
  have hf0_0y14f := Sl.mono lf0_0y16f hf0_0y14f
  have hf0_0y15f := Sl.mono lf0_0y16f hf0_0y15f
  have hg := Glob.mono lf0_0y16f hg
  refine a_frow (i := 5) rfl rfl h10_7 rfl ?_
  intro Hf0_0y17f lf0_0y17f hf0_0y17f
  have hp1_10 := RepL.mono lf0_0y17f hp1_10
  have h11_7 := RepL.mono lf0_0y17f h11_7
  have hf0_0y0f := Sl.mono lf0_0y17f hf0_0y0f
  have hf0_0y1f := Sl.mono lf0_0y17f hf0_0y1f
  have hf0_0y2f := Sl.mono lf0_0y17f hf0_0y2f
  have hf0_0y3f := Sl.mono lf0_0y17f hf0_0y3f
  have hf0_0y4f := Sl.mono lf0_0y17f hf0_0y4f
  have hf0_0y5f := Sl.mono lf0_0y17f hf0_0y5f
  have hf0_0y6f := Sl.mono lf0_0y17f hf0_0y6f
  have hf0_0y7f := Sl.mono lf0_0y17f hf0_0y7f
  have hf0_0y8f := Sl.mono lf0_0y17f hf0_0y8f
  have hf0_0y9f := Sl.mono lf0_0y17f hf0_0y9f
  have hf0_0y10f := Sl.mono lf0_0y17f hf0_0y10f
  have hf0_0y11f := Sl.mono lf0_0y17f hf0_0y11f
  have hf0_0y12f := Sl.mono lf0_0y17f hf0_0y12f
  have hf0_0y13f := Sl.mono lf0_0y17f hf0_0y13f
  have hf0_0y14f := Sl.mono lf0_0y17f hf0_0y14f
  have hf0_0y15f := Sl.mono lf0_0y17f hf0_0y15f
  have hf0_0y16f := Sl.mono lf0_0y17f hf0_0y16f
  have hg := Glob.mono lf0_0y17f hg
  refine a_frow (i := 2) rfl rfl hp1_10 rfl ?_
  intro Hf0_0y18f lf0_0y18f hf0_0y18f
  have h11_7 := RepL.mono lf0_0y18f h11_7
  have hf0_0y0f := Sl.mono lf0_0y18f hf0_0y0f
  have hf0_0y1f := Sl.mono lf0_0y18f hf0_0y1f
  have hf0_0y2f := Sl.mono lf0_0y18f hf0_0y2f
  have hf0_0y3f := Sl.mono lf0_0y18f hf0_0y3f
  have hf0_0y4f := Sl.mono lf0_0y18f hf0_0y4f
  have hf0_0y5f := Sl.mono lf0_0y18f hf0_0y5f
  have hf0_0y6f := Sl.mono lf0_0y18f hf0_0y6f
  have hf0_0y7f := Sl.mono lf0_0y18f hf0_0y7f
  have hf0_0y8f := Sl.mono lf0_0y18f hf0_0y8f
  have hf0_0y9f := Sl.mono lf0_0y18f hf0_0y9f
  have hf0_0y10f := Sl.mono lf0_0y18f hf0_0y10f
  have hf0_0y11f := Sl.mono lf0_0y18f hf0_0y11f
  have hf0_0y12f := Sl.mono lf0_0y18f hf0_0y12f
  have hf0_0y13f := Sl.mono lf0_0y18f hf0_0y13f
  have hf0_0y14f := Sl.mono lf0_0y18f hf0_0y14f
  have hf0_0y15f := Sl.mono lf0_0y18f hf0_0y15f
  have hf0_0y16f := Sl.mono lf0_0y18f hf0_0y16f
  have hf0_0y17f := Sl.mono lf0_0y18f hf0_0y17f
  have hg := Glob.mono lf0_0y18f hg
  refine a_frow (i := 3) rfl rfl h11_7 rfl ?_
  intro Hf0_0y19f lf0_0y19f hf0_0y19f
  have hf0_0y0f := Sl.mono lf0_0y19f hf0_0y0f
  have hf0_0y1f := Sl.mono lf0_0y19f hf0_0y1f
  have hf0_0y2f := Sl.mono lf0_0y19f hf0_0y2f
  have hf0_0y3f := Sl.mono lf0_0y19f hf0_0y3f
  have hf0_0y4f := Sl.mono lf0_0y19f hf0_0y4f
  have hf0_0y5f := Sl.mono lf0_0y19f hf0_0y5f
  have hf0_0y6f := Sl.mono lf0_0y19f hf0_0y6f
  have hf0_0y7f := Sl.mono lf0_0y19f hf0_0y7f
  have hf0_0y8f := Sl.mono lf0_0y19f hf0_0y8f
  have hf0_0y9f := Sl.mono lf0_0y19f hf0_0y9f
  have hf0_0y10f := Sl.mono lf0_0y19f hf0_0y10f
  have hf0_0y11f := Sl.mono lf0_0y19f hf0_0y11f
  have hf0_0y12f := Sl.mono lf0_0y19f hf0_0y12f
  have hf0_0y13f := Sl.mono lf0_0y19f hf0_0y13f
  have hf0_0y14f := Sl.mono lf0_0y19f hf0_0y14f
  have hf0_0y15f := Sl.mono lf0_0y19f hf0_0y15f
  have hf0_0y16f := Sl.mono lf0_0y19f hf0_0y16f
  have hf0_0y17f := Sl.mono lf0_0y19f hf0_0y17f
  have hf0_0y18f := Sl.mono lf0_0y19f hf0_0y18f
  have hg := Glob.mono lf0_0y19f hg
  obtain ⟨xf0_0y, qf0_0y, hm⟩ := bind_some hm
  have hf0_0y : RepL (α := TunnelBook) Hf0_0y19f [.slice none 0 0, .slice none 0 0, v2_1, .slice (some ⟨b1_11_3, 0, none⟩) (x1_1.Frames).length c1_11_3, .slice (some ⟨b1_11_4, 0, none⟩) (x1_2.Parts).length c1_11_4, .slice (some ⟨b1_11_5, 0, none⟩) (x1_2.Frames).length c1_11_5, .slice (some ⟨b1_11_6, 0, none⟩) (x1_3.Parts).length c1_11_6, .slice (some ⟨b1_11_7, 0, none⟩) (x1_3.Frames).length c1_11_7, .slice (some ⟨b1_11_8, 0, none⟩) (x1_4.Parts).length c1_11_8, .slice (some ⟨b1_11_9, 0, none⟩) (x1_4.Frames).length c1_11_9, .slice (some ⟨b1_11_10, 0, none⟩) (x1_5.Parts).length c1_11_10, .slice (some ⟨b1_11_11, 0, none⟩) (x1_5.Frames).length c1_11_11, .slice (some ⟨b1_11_12, 0, none⟩) (x1_6.Parts).length c1_11_12, v7_1, .slice (some ⟨b1_11_14, 0, none⟩) (x1_7.Parts).length c1_11_14, .slice (some ⟨b1_11_15, 0, none⟩) (x1_7.Frames).length c1_11_15, .slice (some ⟨b1_11_16, 0, none⟩) (x1_8.Parts).length c1_11_16, .slice (some ⟨b1_11_17, 0, none⟩) (x1_8.Frames).length c1_11_17, .slice (some ⟨b1_11_18, 0, none⟩) (x1_9.Parts).length c1_11_18, .slice (some ⟨b1_11_19, 0, none⟩) (x1_9.Frames).length c1_11_19, .slice (some ⟨b1_11_20, 0, none⟩) (x1_10.Parts).length c1_11_20, .slice (some ⟨b1_11_21, 0, none⟩) (x1_10.Frames).length c1_11_21] xf0_0y := Option.some.inj qf0_0y ▸ (RepL.cons (α := TunnelBook) (c := [.slice none 0 0, .slice none 0 0]) ⟨_, _, rfl, ⟨_, rfl, sl_nil _ none 0⟩, ⟨_, rfl, sl_nil _ none 0⟩⟩ (RepL.cons (α := TunnelBook) (c := [v2_1, .slice (some ⟨b1_11_3, 0, none⟩) (x1_1.Frames).length c1_11_3]) ⟨_, _, rfl, ⟨_, rfl, hf0_0y0f⟩, ⟨_, rfl, hf0_0y1f⟩⟩ (RepL.cons (α := TunnelBook) (c := [.slice (some ⟨b1_11_4, 0, none⟩) (x1_2.Parts).length c1_11_4, .slice (some ⟨b1_11_5, 0, none⟩) (x1_2.Frames).length c1_11_5]) ⟨_, _, rfl, ⟨_, rfl, hf0_0y2f⟩, ⟨_, rfl, hf0_0y3f⟩⟩ (RepL.cons (α := TunnelBook) (c := [.slice (some ⟨b1_11_6, 0, none⟩) (x1_3.Parts).length c1_11_6, .slice (some ⟨b1_11_7, 0, none⟩) (x1_3.Frames).length c1_11_7]) ⟨_, _, rfl, ⟨_, rfl, hf0_0y4f⟩, ⟨_, rfl, hf0_0y5f⟩⟩ (RepL.cons (α := TunnelBook) (c := [.slice (some ⟨b1_11_8, 0, none⟩) (x1_4.Parts).length c1_11_8, .slice (some ⟨b1_11_9, 0, none⟩) (x1_4.Frames).length c1_11_9]) ⟨_, _, rfl, ⟨_, rfl, hf0_0y6f⟩, ⟨_, rfl, hf0_0y7f⟩⟩ (RepL.cons (α := TunnelBook) (c := [.slice (some ⟨b1_11_10, 0, none⟩) (x1_5.Parts).length c1_11_10, .slice (some ⟨b1_11_11, 0, none⟩) (x1_5.Frames).length c1_11_11]) ⟨_, _, rfl, ⟨_, rfl, hf0_0y8f⟩, ⟨_, rfl, hf0_0y9f⟩⟩ (RepL.cons (α := TunnelBook) (c := [.slice (some ⟨b1_11_12, 0, none⟩) (x1_6.Parts).length c1_11_12, v7_1]) ⟨_, _, rfl, ⟨_, rfl, hf0_0y10f⟩, ⟨_, rfl, hf0_0y11f⟩⟩ (RepL.cons (α := TunnelBook) (c := [.slice (some ⟨b1_11_14, 0, none⟩) (x1_7.Parts).length c1_11_14, .slice (some ⟨b1_11_15, 0, none⟩) (x1_7.Frames).length c1_11_15]) ⟨_, _, rfl, ⟨_, rfl, hf0_0y12f⟩, ⟨_, rfl, hf0_0y13f⟩⟩ (RepL.cons (α := TunnelBook) (c := [.slice (some ⟨b1_11_16, 0, none⟩) (x1_8.Parts).length c1_11_16, .slice (some ⟨b1_11_17, 0, none⟩) (x1_8.Frames).length c1_11_17]) ⟨_, _, rfl, ⟨_, rfl, hf0_0y14f⟩, ⟨_, rfl, hf0_0y15f⟩⟩ (RepL.cons (α := TunnelBook) (c := [.slice (some ⟨b1_11_18, 0, none⟩) (x1_9.Parts).length c1_11_18, .slice (some ⟨b1_11_19, 0, none⟩) (x1_9.Frames).length c1_11_19]) ⟨_, _, rfl, ⟨_, rfl, hf0_0y16f⟩, ⟨_, rfl, hf0_0y17f⟩⟩ (RepL.cons (α := TunnelBook) (c := [.slice (some ⟨b1_11_20, 0, none⟩) (x1_10.Parts).length c1_11_20, .slice (some ⟨b1_11_21, 0, none⟩) (x1_10.Frames).length c1_11_21]) ⟨_, _, rfl, ⟨_, rfl, hf0_0y18f⟩, ⟨_, rfl, hf0_0y19f⟩⟩ (RepL.nil (α := TunnelBook)))))))))))))
  refine a_frow (i := 1) rfl rfl hf0_0y rfl ?_
  intro Hf0_0zf lf0_0zf hf0_0zf
  have hg := Glob.mono lf0_0zf hg
  obtain ⟨s_j1, hs_j1, hm_j1⟩ := bind_some hm
  refine a_join (fun a_ w_ => ∃ (Hj1 : Hp), ∃ (_ : HLe Hf0_0zf Hj1), Sum.inr () = s_j1 ∧ Ag 576 [] [] a_ ∧ St (Kp.mk w H noX) Hj1 [] w_) ?_ ?_
  · have hm := hs_j1
    refine a_block ?_
    refine a_loop (fun n_j2 a_ w_ => ∃ (Hj2 : Hp), ∃ (_ : HLe Hf0_0zf Hj2), ∃ (yj2_2 : Int), law03_TunnelKnown_lj2 k xf0_0y n_j2 yj2_2 = some s_j1 ∧ Ag 576 [] [(1, .slice (some ⟨b2_2, 0, none⟩) 11 c2_2), (2, .int .i64 yj2_2)] a_ ∧ St (Kp.mk w H noX) Hj2 [] w_) k ?_ ?_
    · intro a_ w_ ha_ hs_
      exact ⟨Hf0_0zf, (HLe.refl _), 0, hm, ha_.weaken ⟨rfl, rfl, trivial⟩, hs_.reix [] (by decide)⟩
    rintro (_ | n_j2) a_ w_ ⟨Hj2, lj2, yj2_2, hm, ha_, hs_⟩
    · rw [law03_TunnelKnown_lj2.eq_1] at hm; cases hm
    rw [law03_TunnelKnown_lj2.eq_2] at hm
    refine a_start ha_ hs_ ?_
    have hf0_0zf := Sl.mono lj2 hf0_0zf
    have hg := Glob.mono lj2 hg
    refine a_seq (a_seq (a_region rfl ?_))
    refine ap (y_move rfl) ?_
    refine ap (y_move rfl) ?_
    refine ap (y_len_sl Tryd.underlying96 rfl hf0_0zf) ?_
    refine ap (y_lss rfl rfl) ?_
    refine a_nil ?_
    refine a_en [(1, .slice (some ⟨b2_2, 0, none⟩) 11 c2_2), (2, .int .i64 yj2_2), (147, .bool (decide (yj2_2 < (xf0_0y.length : Int))))] ?_
    refine a_then ?_
    refine a_cond rfl (fun k_3 => ?_) (fun k_3 => ?_)
    · have hm := cond_t k_3 hm
      refine a_skip (a_then (a_seq (a_block (a_seq (a_region rfl ?_)))))
      refine ap (y_move rfl) ?_
      refine ap (y_move rfl) ?_
      obtain ⟨x15_2, q15_2, hm⟩ := bind_some hm
      obtain ⟨b15_2, o15_2, c15_2, e15_2, h15_2⟩ := Sl.elemZ 2 rfl hf0_0zf q15_2
      refine ap (y_index Tryd.underlying96 ty25 rfl e15_2 rfl (nth_in q15_2)) ?_
      obtain ⟨u15_3, h15_3, c15_3⟩ := PAt.one h15_2
      refine ap (y_load_cells ty25 rfl (fun _ h => h.sub) rfl c15_3 (Rp.len h15_3)) ?_
      obtain ⟨x15_4, q15_4, hm⟩ := bind_some hm
      refine a_cons (e_callV (all := [.agg u15_3.toArray, .slice none 0 0]) (v := .tuple #[.int .i64 x15_4.1, .int .i64 x15_4.2]) trivial rfl Tryd.func19 rfl rfl rfl rfl rfl (fun w hw => ok_19 hw h15_3 (sl_nil _ none 0) q15_4) ?_)
      refine ap (y_move rfl) ?_
      refine ap (y_extract rfl rfl) ?_
      refine ap (y_extract rfl rfl) ?_
      refine ap (y_assign rfl) ?_
      refine ap (y_assign rfl) ?_
      refine a_nil ?_
      refine a_en [(1, .slice (some ⟨b2_2, 0, none⟩) 11 c2_2), (2, .int .i64 yj2_2), (4, .int .i64 x15_4.2)] ?_
      refine a_then (a_seq (a_region rfl ?_))
      refine ap (y_move rfl) ?_
      refine ap (y_move rfl) ?_
      obtain ⟨x16_2, q16_2, hm⟩ := bind_some hm
      obtain ⟨b16_2, o16_2, c16_2, e16_2, h16_2⟩ := Sl.elemZ 2 rfl hf0_0zf q16_2
      refine ap (y_index Tryd.underlying96 ty25 rfl e16_2 rfl (nth_in q16_2)) ?_
      obtain ⟨u16_3, h16_3, c16_3⟩ := PAt.one h16_2
      refine ap (y_load_cells ty25 rfl (fun _ h => h.sub) rfl c16_3 (Rp.len h16_3)) ?_
      obtain ⟨x16_4, q16_4, hm⟩ := bind_some hm
      refine a_cons (e_callV (all := [.agg u16_3.toArray, .slice none 0 0, .int .i64 (-1)]) (v := .tuple #[.agg x16_4.1.cells.toArray, .int .i64 x16_4.2]) trivial rfl Tryd.func23 rfl rfl rfl rfl rfl (fun w hw => ok_23 hw h16_3 (sl_nil _ none 0) hg q16_4) ?_)
      refine ap (y_move rfl) ?_
      refine ap (y_extract rfl rfl) ?_
      refine ap (y_extract rfl rfl) ?_
      refine a_cons (e_alloc (cs := [.int .i64 0, .int .i64 0]) trivial rfl ty32 rfl ?_)
      intro b16_8
      refine a_cons (e_storeWhole (i := 0) (ds := x16_4.1.cells) trivial ty32 rfl rfl rfl rfl rfl ((Rp.one (Span.rep_mk (fun _ => none) x16_4.1))) rfl ?_)
      refine ap (y_assign rfl) ?_
      refine a_nil ?_
      refine a_freeze (α := Span) (x := x16_4.1) (i := 0) rfl (Span.rep_mk _ x16_4.1) ?_
      intro Hb16_8 lb16_8 hb16_8
      have hf0_0zf := Sl.mono lb16_8 hf0_0zf
      have h16_2 := PAt.mono lb16_8 h16_2
      have h16_3 := Rp.mono lb16_8 h16_3
      have hg := Glob.mono lb16_8 hg
      refine a_en [(1, .slice (some ⟨b2_2, 0, none⟩) 11 c2_2), (2, .int .i64 yj2_2), (4, .int .i64 x15_4.2), (6, .int .i64 x16_4.2)] ?_
      refine a_own [] (by decide) (L' := []) rfl ?_
      refine a_then (a_seq (a_region rfl ?_))
      refine ap (y_move rfl) ?_
      refine ap (y_move rfl) ?_
      obtain ⟨x17_2, q17_2, hm⟩ := bind_some hm
      obtain ⟨b17_2, o17_2, c17_2, e17_2, h17_2⟩ := Sl.elemZ 2 rfl hf0_0zf q17_2
      refine ap (y_index Tryd.underlying96 ty25 rfl e17_2 rfl (nth_in q17_2)) ?_
      obtain ⟨u17_3, h17_3, c17_3⟩ := PAt.one h17_2
      refine ap (y_load_cells ty25 rfl (fun _ h => h.sub) rfl c17_3 (Rp.len h17_3)) ?_
      obtain ⟨x17_4, q17_4, hm⟩ := bind_some hm
      refine a_cons (e_callV (all := [.agg u17_3.toArray, .slice none 0 0, .int .i64 (-1)]) (v := .tuple #[.int .i64 x17_4.1, .int .i64 x17_4.2]) trivial rfl Tryd.func25 rfl rfl rfl rfl rfl (fun w hw => ok_25 hw h17_3 (sl_nil _ none 0) hg q17_4) ?_)
      refine ap (y_move rfl) ?_
      refine ap (y_extract rfl rfl) ?_
      refine ap (y_extract rfl rfl) ?_
      refine ap (y_assign rfl) ?_
      refine ap (y_assign rfl) ?_
      refine a_nil ?_
      refine a_en [(1, .slice (some ⟨b2_2, 0, none⟩) 11 c2_2), (2, .int .i64 yj2_2), (4, .int .i64 x15_4.2), (6, .int .i64 x16_4.2), (8, .int .i64 x17_4.2)] ?_
      refine a_then (a_seq (a_region rfl ?_))
      refine ap (y_move rfl) ?_
      refine ap (y_move rfl) ?_
      obtain ⟨x18_2, q18_2, hm⟩ := bind_some hm
      obtain ⟨b18_2, o18_2, c18_2, e18_2, h18_2⟩ := Sl.elemZ 2 rfl hf0_0zf q18_2
      refine ap (y_index Tryd.underlying96 ty25 rfl e18_2 rfl (nth_in q18_2)) ?_
      obtain ⟨u18_3, h18_3, c18_3⟩ := PAt.one h18_2
      refine ap (y_load_cells ty25 rfl (fun _ h => h.sub) rfl c18_3 (Rp.len h18_3)) ?_
      obtain ⟨x18_4, q18_4, hm⟩ := bind_some hm
      refine a_cons (e_callH (all := [.agg u18_3.toArray, .slice none 0 0]) trivial rfl Tryd.func27 rfl rfl rfl rfl rfl (fun w hw => ok_27 hw h18_3 (sl_nil _ none 0) hg q18_4) ?_)
      rintro _ H18_4 l18_4 ⟨v18_4r0, rfl, h18_4r0⟩
      have hf0_0zf := Sl.mono l18_4 hf0_0zf
      have h18_2 := PAt.mono l18_4 h18_2
      have h18_3 := Rp.mono l18_4 h18_3
      have hg := Glob.mono l18_4 hg
      refine ap (y_move rfl) ?_
      refine ap (y_extract rfl rfl) ?_
      refine ap (y_extract rfl rfl) ?_
      refine ap (y_assign rfl) ?_
      refine ap (y_assign rfl) ?_
      refine a_nil ?_
      refine a_en [(1, .slice (some ⟨b2_2, 0, none⟩) 11 c2_2), (2, .int .i64 yj2_2), (4, .int .i64 x15_4.2), (6, .int .i64 x16_4.2), (8, .int .i64 x17_4.2), (10, .int .i64 x18_4.2)] ?_
      refine a_then (a_seq (a_region rfl ?_))
      refine ap (y_move rfl) ?_
      refine ap (y_move rfl) ?_
      obtain ⟨x19_2, q19_2, hm⟩ := bind_some hm
      obtain ⟨b19_2, o19_2, c19_2, e19_2, h19_2⟩ := Sl.elemZ 2 rfl hf0_0zf q19_2
      refine ap (y_index Tryd.underlying96 ty25 rfl e19_2 rfl (nth_in q19_2)) ?_
      obtain ⟨u19_3, h19_3, c19_3⟩ := PAt.one h19_2
      refine ap (y_load_cells ty25 rfl (fun _ h => h.sub) rfl c19_3 (Rp.len h19_3)) ?_
      obtain ⟨x19_4, q19_4, hm⟩ := bind_some hm
      refine a_cons (e_callH (all := [.agg u19_3.toArray]) trivial rfl Tryd.func31 rfl rfl rfl rfl rfl (fun w hw => ok_31 hw h19_3 hg q19_4) ?_)
      rintro _ H19_4 l19_4 ⟨v19_4r0, rfl, h19_4r0⟩
      have hf0_0zf := Sl.mono l19_4 hf0_0zf
      have h19_2 := PAt.mono l19_4 h19_2
      have h19_3 := Rp.mono l19_4 h19_3
      have hg := Glob.mono l19_4 hg
      refine ap (y_move rfl) ?_
      refine ap (y_extract rfl rfl) ?_
      refine ap (y_extract rfl rfl) ?_
      refine ap (y_assign rfl) ?_
      refine ap (y_assign rfl) ?_
      refine a_nil ?_
      refine a_en [(1, .slice (some ⟨b2_2, 0, none⟩) 11 c2_2), (2, .int .i64 yj2_2), (4, .int .i64 x15_4.2), (6, .int .i64 x16_4.2), (8, .int .i64 x17_4.2), (10, .int .i64 x18_4.2), (12, .int .i64 x19_4.2)] ?_
      refine a_then (a_seq (a_region rfl ?_))
      refine ap (y_move rfl) ?_
      refine ap (y_move rfl) ?_
      obtain ⟨x20_2, q20_2, hm⟩ := bind_some hm
      obtain ⟨b20_2, o20_2, c20_2, e20_2, h20_2⟩ := Sl.elemZ 2 rfl hf0_0zf q20_2
      refine ap (y_index Tryd.underlying96 ty25 rfl e20_2 rfl (nth_in q20_2)) ?_
      obtain ⟨u20_3, h20_3, c20_3⟩ := PAt.one h20_2
      refine ap (y_load_cells ty25 rfl (fun _ h => h.sub) rfl c20_3 (Rp.len h20_3)) ?_
      obtain ⟨x20_4, q20_4, hm⟩ := bind_some hm
      refine a_cons (e_callH (all := [.agg u20_3.toArray]) trivial rfl Tryd.func33 rfl rfl rfl rfl rfl (fun w hw => ok_33 hw h20_3 hg q20_4) ?_)
      rintro _ H20_4 l20_4 ⟨v20_4r0, v20_4r1, rfl, h20_4r0, h20_4r1⟩
      have hf0_0zf := Sl.mono l20_4 hf0_0zf
      have h20_2 := PAt.mono l20_4 h20_2
      have h20_3 := Rp.mono l20_4 h20_3
      have hg := Glob.mono l20_4 hg
      refine ap (y_move rfl) ?_
      refine ap (y_extract rfl rfl) ?_
      refine ap (y_extract rfl rfl) ?_
      refine ap (y_extract rfl rfl) ?_
      refine ap (y_assign rfl) ?_
      refine ap (y_assign rfl) ?_
      refine ap (y_assign rfl) ?_
      refine a_nil ?_
      refine a_en [(1, .slice (some ⟨b2_2, 0, none⟩) 11 c2_2), (2, .int .i64 yj2_2), (4, .int .i64 x15_4.2), (6, .int .i64 x16_4.2), (8, .int .i64 x17_4.2), (10, .int .i64 x18_4.2), (12, .int .i64 x19_4.2), (15, .int .i64 x20_4.2.2)] ?_
      refine a_then (a_seq (a_region rfl ?_))
      refine ap (y_move rfl) ?_
      refine ap (y_move rfl) ?_
      obtain ⟨x21_2, q21_2, hm⟩ := bind_some hm
      obtain ⟨b21_2, o21_2, c21_2, e21_2, h21_2⟩ := Sl.elemZ 2 rfl hf0_0zf q21_2
      refine ap (y_index Tryd.underlying96 ty25 rfl e21_2 rfl (nth_in q21_2)) ?_
      obtain ⟨u21_3, h21_3, c21_3⟩ := PAt.one h21_2
      refine ap (y_load_cells ty25 rfl (fun _ h => h.sub) rfl c21_3 (Rp.len h21_3)) ?_
      obtain ⟨x21_4, q21_4, hm⟩ := bind_some hm
      refine a_cons (e_callH (all := [.agg u21_3.toArray]) trivial rfl Tryd.func35 rfl rfl rfl rfl rfl (fun w hw => ok_35 hw h21_3 hg q21_4) ?_)
      rintro _ H21_4 l21_4 ⟨v21_4r0, rfl, h21_4r0⟩
      have hf0_0zf := Sl.mono l21_4 hf0_0zf
      have h21_2 := PAt.mono l21_4 h21_2
      have h21_3 := Rp.mono l21_4 h21_3
      have hg := Glob.mono l21_4 hg
      refine ap (y_move rfl) ?_
      refine ap (y_extract rfl rfl) ?_
      refine ap (y_extract rfl rfl) ?_
      refine ap (y_assign rfl) ?_
      refine ap (y_assign rfl) ?_
      refine a_nil ?_
      refine a_en [(1, .slice (some ⟨b2_2, 0, none⟩) 11 c2_2), (2, .int .i64 yj2_2), (4, .int .i64 x15_4.2), (6, .int .i64 x16_4.2), (8, .int .i64 x17_4.2), (10, .int .i64 x18_4.2), (12, .int .i64 x19_4.2), (15, .int .i64 x20_4.2.2), (17, .int .i64 x21_4.2)] ?_
      refine a_then (a_seq (a_region rfl ?_))
      refine ap (y_move rfl) ?_
      refine ap (y_move rfl) ?_
      obtain ⟨x22_2, q22_2, hm⟩ := bind_some hm
      obtain ⟨b22_2, o22_2, c22_2, e22_2, h22_2⟩ := Sl.elemZ 2 rfl hf0_0zf q22_2
      refine ap (y_index Tryd.underlying96 ty25 rfl e22_2 rfl (nth_in q22_2)) ?_
      obtain ⟨u22_3, h22_3, c22_3⟩ := PAt.one h22_2
      refine ap (y_load_cells ty25 rfl (fun _ h => h.sub) rfl c22_3 (Rp.len h22_3)) ?_
      obtain ⟨x22_4, q22_4, hm⟩ := bind_some hm
      refine a_cons (e_callV (all := [.agg u22_3.toArray]) (v := .tuple #[.int .i64 x22_4.1, .int .i64 x22_4.2.1, .int .i64 x22_4.2.2]) trivial rfl Tryd.func37 rfl rfl rfl rfl rfl (fun w hw => ok_37 hw h22_3 hg q22_4) ?_)
      refine ap (y_move rfl) ?_
      refine ap (y_extract rfl rfl) ?_
      refine ap (y_extract rfl rfl) ?_
      refine ap (y_extract rfl rfl) ?_
      refine ap (y_assign rfl) ?_
      refine ap (y_assign rfl) ?_
      refine ap (y_assign rfl) ?_
      refine a_nil ?_
      refine a_en [(1, .slice (some ⟨b2_2, 0, none⟩) 11 c2_2), (2, .int .i64 yj2_2), (4, .int .i64 x15_4.2), (6, .int .i64 x16_4.2), (8, .int .i64 x17_4.2), (10, .int .i64 x18_4.2), (12, .int .i64 x19_4.2), (15, .int .i64 x20_4.2.2), (17, .int .i64 x21_4.2), (20, .int .i64 x22_4.2.2)] ?_
      refine a_then (a_seq (a_region rfl ?_))
      refine ap (y_move rfl) ?_
      refine ap (y_move rfl) ?_
      obtain ⟨x23_2, q23_2, hm⟩ := bind_some hm
      obtain ⟨b23_2, o23_2, c23_2, e23_2, h23_2⟩ := Sl.elemZ 2 rfl hf0_0zf q23_2
      refine ap (y_index Tryd.underlying96 ty25 rfl e23_2 rfl (nth_in q23_2)) ?_
      obtain ⟨u23_3, h23_3, c23_3⟩ := PAt.one h23_2
      refine ap (y_load_cells ty25 rfl (fun _ h => h.sub) rfl c23_3 (Rp.len h23_3)) ?_
      obtain ⟨x23_4, q23_4, hm⟩ := bind_some hm
      refine a_cons (e_callV (all := [.agg u23_3.toArray, .slice none 0 0, .int .i64 (-1), .int .i64 (-1)]) (v := .tuple #[.int .i64 x23_4.1, .int .i64 x23_4.2]) trivial rfl Tryd.func39 rfl rfl rfl rfl rfl (fun w hw => ok_39 hw h23_3 (sl_nil _ none 0) hg q23_4) ?_)
      refine ap (y_move rfl) ?_
      refine ap (y_extract rfl rfl) ?_
      refine ap (y_extract rfl rfl) ?_
      refine ap (y_assign rfl) ?_
      refine ap (y_assign rfl) ?_
      refine a_nil ?_
      refine a_en [(1, .slice (some ⟨b2_2, 0, none⟩) 11 c2_2), (2, .int .i64 yj2_2), (4, .int .i64 x15_4.2), (6, .int .i64 x16_4.2), (8, .int .i64 x17_4.2), (10, .int .i64 x18_4.2), (12, .int .i64 x19_4.2), (15, .int .i64 x20_4.2.2), (17, .int .i64 x21_4.2), (20, .int .i64 x22_4.2.2), (22, .int .i64 x23_4.2)] ?_
      refine a_then (a_seq (a_region rfl ?_))
      refine ap (y_move rfl) ?_
      refine ap (y_move rfl) ?_
      obtain ⟨x24_2, q24_2, hm⟩ := bind_some hm
      obtain ⟨b24_2, o24_2, c24_2, e24_2, h24_2⟩ := Sl.elemZ 2 rfl hf0_0zf q24_2
      refine ap (y_index Tryd.underlying96 ty25 rfl e24_2 rfl (nth_in q24_2)) ?_
      obtain ⟨u24_3, h24_3, c24_3⟩ := PAt.one h24_2
      refine ap (y_load_cells ty25 rfl (fun _ h => h.sub) rfl c24_3 (Rp.len h24_3)) ?_
      obtain ⟨x24_4, q24_4, hm⟩ := bind_some hm
      refine a_cons (e_callV (all := [.agg u24_3.toArray]) (v := .tuple #[.int .i64 x24_4.1, .int .i64 x24_4.2]) trivial rfl Tryd.func41 rfl rfl rfl rfl rfl (fun w hw => ok_41 hw h24_3 hg q24_4) ?_)
      refine ap (y_move rfl) ?_
      refine ap (y_extract rfl rfl) ?_
      refine ap (y_extract rfl rfl) ?_
      refine ap (y_assign rfl) ?_
      refine ap (y_assign rfl) ?_
      refine a_nil ?_
      refine a_en [(1, .slice (some ⟨b2_2, 0, none⟩) 11 c2_2), (2, .int .i64 yj2_2), (4, .int .i64 x15_4.2), (6, .int .i64 x16_4.2), (8, .int .i64 x17_4.2), (10, .int .i64 x18_4.2), (12, .int .i64 x19_4.2), (15, .int .i64 x20_4.2.2), (17, .int .i64 x21_4.2), (20, .int .i64 x22_4.2.2), (22, .int .i64 x23_4.2), (24, .int .i64 x24_4.2)] ?_
      refine a_then (a_seq (a_region rfl ?_))
      refine ap (y_move rfl) ?_
      refine ap (y_move rfl) ?_
      obtain ⟨x25_2, q25_2, hm⟩ := bind_some hm
      obtain ⟨b25_2, o25_2, c25_2, e25_2, h25_2⟩ := Sl.elemZ 2 rfl hf0_0zf q25_2
      refine ap (y_index Tryd.underlying96 ty25 rfl e25_2 rfl (nth_in q25_2)) ?_
      obtain ⟨u25_3, h25_3, c25_3⟩ := PAt.one h25_2
      refine ap (y_load_cells ty25 rfl (fun _ h => h.sub) rfl c25_3 (Rp.len h25_3)) ?_
      obtain ⟨x25_4, q25_4, hm⟩ := bind_some hm
      refine a_cons (e_callV (all := [.agg u25_3.toArray]) (v := .int .i64 x25_4) trivial rfl Tryd.func21 rfl rfl rfl rfl rfl (fun w hw => ok_21 hw h25_3 q25_4) ?_)
      refine ap (y_neq rfl rfl) ?_
      refine ap (y_move rfl) ?_
      refine agf rfl rfl (fun hc_ => y_move rfl) ?_
      refine agf rfl rfl (fun hc_ => y_neq (sff rfl hc_) rfl) ?_
      refine ap (y_pick_bb rfl (fun _ => rfl) (fun h_ => sff rfl h_)) ?_
      refine ap (y_move rfl) ?_
      refine agf rfl rfl (fun hc_ => y_move rfl) ?_
      refine agf rfl rfl (fun hc_ => y_neq (sff rfl hc_) rfl) ?_
      refine ap (y_pick_bb rfl (fun _ => rfl) (fun h_ => sff rfl h_)) ?_
      refine ap (y_move rfl) ?_
      refine agf rfl rfl (fun hc_ => y_move rfl) ?_
      refine agf rfl rfl (fun hc_ => y_neq (sff rfl hc_) rfl) ?_
      refine ap (y_pick_bb rfl (fun _ => rfl) (fun h_ => sff rfl h_)) ?_
      refine ap (y_move rfl) ?_
      refine agf rfl rfl (fun hc_ => y_move rfl) ?_
      refine agf rfl rfl (fun hc_ => y_neq (sff rfl hc_) rfl) ?_
      refine ap (y_pick_bb rfl (fun _ => rfl) (fun h_ => sff rfl h_)) ?_
      refine ap (y_move rfl) ?_
      refine agf rfl rfl (fun hc_ => y_move rfl) ?_
      refine agf rfl rfl (fun hc_ => y_neq (sff rfl hc_) rfl) ?_
      refine ap (y_pick_bb rfl (fun _ => rfl) (fun h_ => sff rfl h_)) ?_
      refine ap (y_move rfl) ?_
      refine agf rfl rfl (fun hc_ => y_move rfl) ?_
      refine agf rfl rfl (fun hc_ => y_neq (sff rfl hc_) rfl) ?_
      refine ap (y_pick_bb rfl (fun _ => rfl) (fun h_ => sff rfl h_)) ?_
      refine ap (y_move rfl) ?_
      refine agf rfl rfl (fun hc_ => y_move rfl) ?_
      refine agf rfl rfl (fun hc_ => y_neq (sff rfl hc_) rfl) ?_
      refine ap (y_pick_bb rfl (fun _ => rfl) (fun h_ => sff rfl h_)) ?_
      refine ap (y_move rfl) ?_
      refine agf rfl rfl (fun hc_ => y_move rfl) ?_
      refine agf rfl rfl (fun hc_ => y_neq (sff rfl hc_) rfl) ?_
      refine ap (y_pick_bb rfl (fun _ => rfl) (fun h_ => sff rfl h_)) ?_
      refine ap (y_move rfl) ?_
      refine agf rfl rfl (fun hc_ => y_move rfl) ?_
      refine agf rfl rfl (fun hc_ => y_neq (sff rfl hc_) rfl) ?_
      refine ap (y_pick_bb rfl (fun _ => rfl) (fun h_ => sff rfl h_)) ?_
      refine ap (y_move rfl) ?_
      refine agf rfl rfl (fun hc_ => y_move rfl) ?_
      refine agf rfl rfl (fun hc_ => y_neq (sff rfl hc_) rfl) ?_
      refine ap (y_pick_bb rfl (fun _ => rfl) (fun h_ => sff rfl h_)) ?_
      refine a_nil ?_
      refine a_en [(1, .slice (some ⟨b2_2, 0, none⟩) 11 c2_2), (2, .int .i64 yj2_2), (239, bif x25_4 != 30 then undef else .int .i64 x15_4.2), (240, bif x25_4 != 30 then undef else .bool (x15_4.2 != 30)), (243, bif (bif x25_4 != 30 then true else x15_4.2 != 30) then undef else .int .i64 x16_4.2), (244, bif (bif x25_4 != 30 then true else x15_4.2 != 30) then undef else .bool (x16_4.2 != 30)), (247, bif (bif (bif x25_4 != 30 then true else x15_4.2 != 30) then true else x16_4.2 != 30) then undef else .int .i64 x17_4.2), (248, bif (bif (bif x25_4 != 30 then true else x15_4.2 != 30) then true else x16_4.2 != 30) then undef else .bool (x17_4.2 != 30)), (251, bif (bif (bif (bif x25_4 != 30 then true else x15_4.2 != 30) then true else x16_4.2 != 30) then true else x17_4.2 != 30) then undef else .int .i64 x18_4.2), (252, bif (bif (bif (bif x25_4 != 30 then true else x15_4.2 != 30) then true else x16_4.2 != 30) then true else x17_4.2 != 30) then undef else .bool (x18_4.2 != 30)), (255, bif (bif (bif (bif (bif x25_4 != 30 then true else x15_4.2 != 30) then true else x16_4.2 != 30) then true else x17_4.2 != 30) then true else x18_4.2 != 30) then undef else .int .i64 x19_4.2), (256, bif (bif (bif (bif (bif x25_4 != 30 then true else x15_4.2 != 30) then true else x16_4.2 != 30) then true else x17_4.2 != 30) then true else x18_4.2 != 30) then undef else .bool (x19_4.2 != 30)), (259, bif (bif (bif (bif (bif (bif x25_4 != 30 then true else x15_4.2 != 30) then true else x16_4.2 != 30) then true else x17_4.2 != 30) then true else x18_4.2 != 30) then true else x19_4.2 != 30) then undef else .int .i64 x20_4.2.2), (260, bif (bif (bif (bif (bif (bif x25_4 != 30 then true else x15_4.2 != 30) then true else x16_4.2 != 30) then true else x17_4.2 != 30) then true else x18_4.2 != 30) then true else x19_4.2 != 30) then undef else .bool (x20_4.2.2 != 30)), (263, bif (bif (bif (bif (bif (bif (bif x25_4 != 30 then true else x15_4.2 != 30) then true else x16_4.2 != 30) then true else x17_4.2 != 30) then true else x18_4.2 != 30) then true else x19_4.2 != 30) then true else x20_4.2.2 != 30) then undef else .int .i64 x21_4.2), (264, bif (bif (bif (bif (bif (bif (bif x25_4 != 30 then true else x15_4.2 != 30) then true else x16_4.2 != 30) then true else x17_4.2 != 30) then true else x18_4.2 != 30) then true else x19_4.2 != 30) then true else x20_4.2.2 != 30) then undef else .bool (x21_4.2 != 30)), (267, bif (bif (bif (bif (bif (bif (bif (bif x25_4 != 30 then true else x15_4.2 != 30) then true else x16_4.2 != 30) then true else x17_4.2 != 30) then true else x18_4.2 != 30) then true else x19_4.2 != 30) then true else x20_4.2.2 != 30) then true else x21_4.2 != 30) then undef else .int .i64 x22_4.2.2), (268, bif (bif (bif (bif (bif (bif (bif (bif x25_4 != 30 then true else x15_4.2 != 30) then true else x16_4.2 != 30) then true else x17_4.2 != 30) then true else x18_4.2 != 30) then true else x19_4.2 != 30) then true else x20_4.2.2 != 30) then true else x21_4.2 != 30) then undef else .bool (x22_4.2.2 != 30)), (271, bif (bif (bif (bif (bif (bif (bif (bif (bif x25_4 != 30 then true else x15_4.2 != 30) then true else x16_4.2 != 30) then true else x17_4.2 != 30) then true else x18_4.2 != 30) then true else x19_4.2 != 30) then true else x20_4.2.2 != 30) then true else x21_4.2 != 30) then true else x22_4.2.2 != 30) then undef else .int .i64 x23_4.2), (272, bif (bif (bif (bif (bif (bif (bif (bif (bif x25_4 != 30 then true else x15_4.2 != 30) then true else x16_4.2 != 30) then true else x17_4.2 != 30) then true else x18_4.2 != 30) then true else x19_4.2 != 30) then true else x20_4.2.2 != 30) then true else x21_4.2 != 30) then true else x22_4.2.2 != 30) then undef else .bool (x23_4.2 != 30)), (275, bif (bif (bif (bif (bif (bif (bif (bif (bif (bif x25_4 != 30 then true else x15_4.2 != 30) then true else x16_4.2 != 30) then true else x17_4.2 != 30) then true else x18_4.2 != 30) then true else x19_4.2 != 30) then true else x20_4.2.2 != 30) then true else x21_4.2 != 30) then true else x22_4.2.2 != 30) then true else x23_4.2 != 30) then undef else .int .i64 x24_4.2), (276, bif (bif (bif (bif (bif (bif (bif (bif (bif (bif x25_4 != 30 then true else x15_4.2 != 30) then true else x16_4.2 != 30) then true else x17_4.2 != 30) then true else x18_4.2 != 30) then true else x19_4.2 != 30) then true else x20_4.2.2 != 30) then true else x21_4.2 != 30) then true else x22_4.2.2 != 30) then true else x23_4.2 != 30) then undef else .bool (x24_4.2 != 30)), (277, .bool (bif (bif (bif (bif (bif (bif (bif (bif (bif (bif x25_4 != 30 then true else x15_4.2 != 30) then true else x16_4.2 != 30) then true else x17_4.2 != 30) then true else x18_4.2 != 30) then true else x19_4.2 != 30) then true else x20_4.2.2 != 30) then true else x21_4.2 != 30) then true else x22_4.2.2 != 30) then true else x23_4.2 != 30) then true else x24_4.2 != 30))] ?_
      refine a_then ?_
      refine a_cond rfl (fun k_4 => ?_) (fun k_4 => ?_)
      · have hm := cond_t k_4 hm
        refine a_seq (a_region rfl ?_)
        refine ap (y_assign rfl) ?_
        refine a_nil ?_
        refine a_en [(0, .bool false)] ?_
        refine a_then (a_ret (a_block_ret (a_then_ret (a_then_ret (a_block_ret (a_cut_ret (a_then_ret ?_)))))))
        obtain rfl := Option.some.inj hm
        have hm := hm_j1
        try dsimp only at hm
        refine a_done (v := .bool false) (.inl rfl) rfl ?_ ?_
        · intro a_ w_ ha_ hs_; exact run_results (P := Tryd.prog) (fn := Tryd.f16) (rs := [.tmp 0]) (vs := [.bool false]) rfl (.cons (rv_tmp ha_ rfl) (All2.nil))
        · intro _ _; obtain rfl := Option.some.inj hm
          rfl
      have hm := cond_f k_4 hm
      refine a_skip (a_block_normal (a_then (a_region rfl ?_)))
      refine ap (y_move rfl) ?_
      refine ap (y_add rfl rfl) ?_
      refine ap (y_assign rfl) ?_
      refine a_nil ?_
      refine a_en [(1, .slice (some ⟨b2_2, 0, none⟩) 11 c2_2), (2, .int .i64 (IntKind.i64.wrap (yj2_2 + 1))), (239, bif x25_4 != 30 then undef else .int .i64 x15_4.2), (240, bif x25_4 != 30 then undef else .bool (x15_4.2 != 30)), (243, bif (bif x25_4 != 30 then true else x15_4.2 != 30) then undef else .int .i64 x16_4.2), (244, bif (bif x25_4 != 30 then true else x15_4.2 != 30) then undef else .bool (x16_4.2 != 30)), (247, bif (bif (bif x25_4 != 30 then true else x15_4.2 != 30) then true else x16_4.2 != 30) then undef else .int .i64 x17_4.2), (248, bif (bif (bif x25_4 != 30 then true else x15_4.2 != 30) then true else x16_4.2 != 30) then undef else .bool (x17_4.2 != 30)), (251, bif (bif (bif (bif x25_4 != 30 then true else x15_4.2 != 30) then true else x16_4.2 != 30) then true else x17_4.2 != 30) then undef else .int .i64 x18_4.2), (252, bif (bif (bif (bif x25_4 != 30 then true else x15_4.2 != 30) then true else x16_4.2 != 30) then true else x17_4.2 != 30) then undef else .bool (x18_4.2 != 30)), (255, bif (bif (bif (bif (bif x25_4 != 30 then true else x15_4.2 != 30) then true else x16_4.2 != 30) then true else x17_4.2 != 30) then true else x18_4.2 != 30) then undef else .int .i64 x19_4.2), (256, bif (bif (bif (bif (bif x25_4 != 30 then true else x15_4.2 != 30) then true else x16_4.2 != 30) then true else x17_4.2 != 30) then true else x18_4.2 != 30) then undef else .bool (x19_4.2 != 30)), (259, bif (bif (bif (bif (bif (bif x25_4 != 30 then true else x15_4.2 != 30) then true else x16_4.2 != 30) then true else x17_4.2 != 30) then true else x18_4.2 != 30) then true else x19_4.2 != 30) then undef else .int .i64 x20_4.2.2), (260, bif (bif (bif (bif (bif (bif x25_4 != 30 then true else x15_4.2 != 30) then true else x16_4.2 != 30) then true else x17_4.2 != 30) then true else x18_4.2 != 30) then true else x19_4.2 != 30) then undef else .bool (x20_4.2.2 != 30)), (263, bif (bif (bif (bif (bif (bif (bif x25_4 != 30 then true else x15_4.2 != 30) then true else x16_4.2 != 30) then true else x17_4.2 != 30) then true else x18_4.2 != 30) then true else x19_4.2 != 30) then true else x20_4.2.2 != 30) then undef else .int .i64 x21_4.2), (264, bif (bif (bif (bif (bif (bif (bif x25_4 != 30 then true else x15_4.2 != 30) then true else x16_4.2 != 30) then true else x17_4.2 != 30) then true else x18_4.2 != 30) then true else x19_4.2 != 30) then true else x20_4.2.2 != 30) then undef else .bool (x21_4.2 != 30)), (267, bif (bif (bif (bif (bif (bif (bif (bif x25_4 != 30 then true else x15_4.2 != 30) then true else x16_4.2 != 30) then true else x17_4.2 != 30) then true else x18_4.2 != 30) then true else x19_4.2 != 30) then true else x20_4.2.2 != 30) then true else x21_4.2 != 30) then undef else .int .i64 x22_4.2.2), (268, bif (bif (bif (bif (bif (bif (bif (bif x25_4 != 30 then true else x15_4.2 != 30) then true else x16_4.2 != 30) then true else x17_4.2 != 30) then true else x18_4.2 != 30) then true else x19_4.2 != 30) then true else x20_4.2.2 != 30) then true else x21_4.2 != 30) then undef else .bool (x22_4.2.2 != 30)), (271, bif (bif (bif (bif (bif (bif (bif (bif (bif x25_4 != 30 then true else x15_4.2 != 30) then true else x16_4.2 != 30) then true else x17_4.2 != 30) then true else x18_4.2 != 30) then true else x19_4.2 != 30) then true else x20_4.2.2 != 30) then true else x21_4.2 != 30) then true else x22_4.2.2 != 30) then undef else .int .i64 x23_4.2), (272, bif (bif (bif (bif (bif (bif (bif (bif (bif x25_4 != 30 then true else x15_4.2 != 30) then true else x16_4.2 != 30) then true else x17_4.2 != 30) then true else x18_4.2 != 30) then true else x19_4.2 != 30) then true else x20_4.2.2 != 30) then true else x21_4.2 != 30) then true else x22_4.2.2 != 30) then undef else .bool (x23_4.2 != 30)), (275, bif (bif (bif (bif (bif (bif (bif (bif (bif (bif x25_4 != 30 then true else x15_4.2 != 30) then true else x16_4.2 != 30) then true else x17_4.2 != 30) then true else x18_4.2 != 30) then true else x19_4.2 != 30) then true else x20_4.2.2 != 30) then true else x21_4.2 != 30) then true else x22_4.2.2 != 30) then true else x23_4.2 != 30) then undef else .int .i64 x24_4.2), (276, bif (bif (bif (bif (bif (bif (bif (bif (bif (bif x25_4 != 30 then true else x15_4.2 != 30) then true else x16_4.2 != 30) then true else x17_4.2 != 30) then true else x18_4.2 != 30) then true else x19_4.2 != 30) then true else x20_4.2.2 != 30) then true else x21_4.2 != 30) then true else x22_4.2.2 != 30) then true else x23_4.2 != 30) then undef else .bool (x24_4.2 != 30))] ?_
      refine a_then ?_
      intro a_ w_ ha_ hs_
      exact ⟨n_j2, Nat.lt_succ_self _, H21_4, (lj2.trans (lb16_8.trans (l18_4.trans (l19_4.trans (l20_4.trans l21_4))))), IntKind.i64.wrap (yj2_2 + 1), hm, ha_.weaken ⟨rfl, rfl, trivial⟩, hs_.reix [] (by decide)⟩
    have hm := cond_f k_3 hm
    refine a_exit (a_then_exit (a_then_exit (a_block_hit (a_cut ?_))))
    intro a_ w_ ha_ hs_
    exact ⟨Hj2, lj2, Option.some.inj hm, ha_.weaken trivial, hs_.reix [] (by decide)⟩
  have hm := hm_j1
  rintro a_ w_ ⟨Hj1, lj1, rfl, ha_, hs_⟩
  try dsimp only at hm
  refine a_start ha_ hs_ ?_
  have hg := Glob.mono lj1 hg
  refine a_then ?_
  exact ok_16_p1 (l1_1.trans (l1_2.trans (l1_3.trans (l1_4.trans (l1_5.trans (l1_6.trans (l1_7.trans (l1_8.trans (l1_9.trans (l1_10.trans (lf0_0y0f.trans (lf0_0y1f.trans (lf0_0y2f.trans (lf0_0y3f.trans (lf0_0y4f.trans (lf0_0y5f.trans (lf0_0y6f.trans (lf0_0y7f.trans (lf0_0y8f.trans (lf0_0y9f.trans (lf0_0y10f.trans (lf0_0y11f.trans (lf0_0y12f.trans (lf0_0y13pf.trans (lf0_0y13f.trans (lf0_0y14f.trans (lf0_0y15pf.trans (lf0_0y15f.trans (lf0_0y16f.trans (lf0_0y17f.trans (lf0_0y18f.trans (lf0_0y19f.trans (lf0_0zf.trans lj1))))))))))))))))))))))))))))))))) hg hm
end Go.Lu
