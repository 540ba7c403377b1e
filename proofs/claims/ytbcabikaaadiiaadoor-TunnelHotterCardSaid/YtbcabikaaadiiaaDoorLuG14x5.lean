/- Of each function that the law TunnelHotter reaches, part 5: what it computes (a plain function: none where the code would panic, or fuel is used up), and the walk that shows it. -/
import Derived.Test.YtbcabikaaadiiaaDoorLuG14x4
namespace Go.Lu
open Go Go.Proofs
set_option linter.unusedVariables false
set_option maxRecDepth 100000
set_option maxHeartbeats 8000000
def law03_TunnelHotter (k : Nat) (p0 : TunnelBook) (p1 : List Int) (p2 : List Int) : Option Bool :=
 ((law03_sound k p0).bind fun x1_1 =>
 bif !x1_1 then
 some (true)
 else
 some (((p0.Frames.length : Int) == 0))).bind fun yj1_27 =>
 bif yj1_27 then
 (law03_warmed k).bind fun x2_0 =>
 some (x2_0)
 else
 (law03_setting k p0 p1).bind fun x3_2 =>
 (nth p2 (0 : Int)).bind fun x3_3 =>
 (ref00_Spin k x3_3 (p0.Frames.length : Int)).bind fun x3_8 =>
 (nth p2 (1 : Int)).bind fun x3_9 =>
 (ref00_Spin k x3_9 (p0.Parts.length : Int)).bind fun x3_14 =>
 (app ([] : List Int) x3_2).bind fun x4_2 =>
 (nth x3_2 x3_14).bind fun x5_4 =>
 (nth x4_2 x3_14).bind fun x5_8 =>
 (tunnel_Dries k p0 x3_2 x3_8).bind fun x6_3 =>
 (tunnel_Dries k p0 ((x4_2).set (x3_14).toNat (min 3 (IntKind.i64.wrap (x5_4 + 1)))) x3_8).bind fun x7_3 =>
 (tunnel_Heat k p0 x3_2).bind fun x8_2 =>
 (tunnel_Heat k p0 ((x4_2).set (x3_14).toNat (min 3 (IntKind.i64.wrap (x5_4 + 1))))).bind fun x9_2 =>
 (bif x6_3.2 == 0 then
 bif x7_3.2 == 0 then
 bif x8_2.2 == 0 then
 bif x9_2.2 == 0 then
 bif decide (x7_3.1.Low ≥ x6_3.1.Low) then
 bif decide (x7_3.1.High ≥ x6_3.1.High) then
 bif decide (x9_2.1 ≥ x8_2.1) then
 (law03_warmed k).bind fun x10_34 =>
 some (x10_34)
 else
 some (false)
 else
 some (false)
 else
 some (false)
 else
 some (false)
 else
 some (false)
 else
 some (false)
 else
 some (false)).bind fun yj3_6 =>
 some (yj3_6)
theorem ok_14 {k : Nat} {H : Hp} {w : World} {p0 : TunnelBook} {p1 : List Int} {p2 : List Int} {c0 : List Value} {v1 : Value} {c2 : List Value} {r : Bool} (hsub : Sub H w) (h0 : Rp.rep (α := TunnelBook) H c0 p0) (h1 : Sl (α := Int) H v1 p1) (h2 : Rp.rep (α := Arr 2 Int) H c2 p2) (hg : Glob H) (hm : law03_TunnelHotter k p0 p1 p2 = some r) : Calls Tryd.prog 14 [.agg c0.toArray, v1, .agg c2.toArray].toArray w (PostV w H (.bool r)) := by
  unfold law03_TunnelHotter at hm
  refine start (n := 118) (E := [(0, .agg c0.toArray), (1, v1), (2, .agg c2.toArray)]) Tryd.func14 rfl rfl ⟨rfl, rfl, rfl, trivial⟩ rfl hsub ?_
  refine a_seq ?_
  refine a_region rfl ?_
  refine a_cons (e_box (cs := c0) trivial rfl rfl rfl ?_)
  intro b0_0
  refine a_cons (e_box (cs := c2) trivial rfl rfl rfl ?_)
  intro b0_1
  refine ap (y_assign rfl) ?_
  refine a_nil ?_
  refine a_freeze (α := Arr 2 Int) (x := p2) (i := 0) rfl h2 ?_
  intro Hb0_1 lb0_1 hb0_1
  have h0 := Rp.mono lb0_1 h0
  have h1 := Sl.mono lb0_1 h1
  have h2 := Rp.mono lb0_1 h2
  have hg := Glob.mono lb0_1 hg
  refine a_freeze (α := TunnelBook) (x := p0) (i := 1) rfl h0 ?_
  intro Hb0_0 lb0_0 hb0_0
  have h0 := Rp.mono lb0_0 h0
  have h1 := Sl.mono lb0_0 h1
  have h2 := Rp.mono lb0_0 h2
  have hb0_1 := PAt.mono lb0_0 hb0_1
  have hg := Glob.mono lb0_0 hg
  refine a_en [(1, v1), (3, .pointer (some ⟨b0_0, 0, none⟩)), (5, .pointer (some ⟨b0_1, 0, none⟩))] ?_
  refine a_own [] (by decide) (L' := []) rfl ?_
  refine a_then ?_
  refine a_seq ?_
  refine a_seq ?_
  obtain ⟨s_j1, hs_j1, hm_j1⟩ := bind_some hm
  refine a_join (fun a_ w_ => ∃ (yj1_27 : Bool), yj1_27 = s_j1 ∧ Ag 118 [] [(1, v1), (3, .pointer (some ⟨b0_0, 0, none⟩)), (5, .pointer (some ⟨b0_1, 0, none⟩)), (27, .bool yj1_27)] a_ ∧ St (Kp.mk w H noX) Hb0_0 [] w_) ?_ ?_
  · have hm := hs_j1
    refine a_region rfl ?_
    obtain ⟨u1_0, h1_0, c1_0⟩ := PAt.one hb0_0
    refine ap (y_load_cells ty25 rfl (fun _ h => h.sub) rfl c1_0 (Rp.len h1_0)) ?_
    obtain ⟨x1_1, q1_1, hm⟩ := bind_some hm
    refine a_cons (e_callV (all := [.agg u1_0.toArray]) (v := .bool x1_1) trivial rfl Tryd.func43 rfl rfl rfl rfl rfl (fun w hw => ok_43 hw h1_0 q1_1) ?_)
    refine ap (y_not rfl) ?_
    refine ap (y_move rfl) ?_
    rcases Bool.eq_false_or_eq_true (!x1_1) with k1_4 | k1_4
    · have hm := cond_t k1_4 hm
      refine as1 (sk1 rfl rfl k1_4) ?_
      refine as1 (sk1 rfl rfl k1_4) ?_
      refine as1 (sk1 rfl rfl k1_4) ?_
      refine as1 (sk1 rfl rfl k1_4) ?_
      refine ap (y_pick_t rfl k1_4 rfl) ?_
      refine a_nil ?_
      refine a_en [(1, v1), (3, .pointer (some ⟨b0_0, 0, none⟩)), (5, .pointer (some ⟨b0_1, 0, none⟩)), (27, .bool true)] ?_
      refine a_cut ?_
      intro a_ w_ ha_ hs_
      exact ⟨true, Option.some.inj hm, ha_.weaken ⟨rfl, rfl, rfl, rfl, trivial⟩, hs_.reix [] (by decide)⟩
    · have hm := cond_f k1_4 hm
      have h1_4 := TunnelBook.at_Frames hb0_0
      refine ag ⟨_, _, rfl, rfl, k1_4⟩ (y_fieldAddr fo25_1 rfl) ?_
      obtain ⟨v1_5, h1_5, c1_5⟩ := PAt.sl h1_4
      refine ag ⟨_, _, rfl, rfl, k1_4⟩ (y_load_one ty23 rfl (fun _ h => h.sub) rfl c1_5) ?_
      refine ag ⟨_, _, rfl, rfl, k1_4⟩ (y_len_sl Tryd.underlying23 rfl h1_5) ?_
      refine ag ⟨_, _, rfl, rfl, k1_4⟩ (y_eql rfl rfl) ?_
      refine ap (y_pick_f rfl k1_4 rfl) ?_
      refine a_nil ?_
      refine a_en [(1, v1), (3, .pointer (some ⟨b0_0, 0, none⟩)), (5, .pointer (some ⟨b0_1, 0, none⟩)), (27, .bool ((p0.Frames.length : Int) == 0))] ?_
      refine a_cut ?_
      intro a_ w_ ha_ hs_
      exact ⟨(p0.Frames.length : Int) == 0, Option.some.inj hm, ha_.weaken ⟨rfl, rfl, rfl, rfl, trivial⟩, hs_.reix [] (by decide)⟩
  · have hm := hm_j1
    rintro a_ w_ ⟨yj1_27, rfl, ha_, hs_⟩
    try dsimp only at hm
    refine a_start ha_ hs_ ?_
    refine a_then ?_
    refine a_cond rfl (fun k_2 => ?_) (fun k_2 => ?_)
    · have hm := cond_t k_2 hm
      refine a_seq ?_
      refine a_region rfl ?_
      obtain ⟨x2_0, q2_0, hm⟩ := bind_some hm
      refine a_cons (e_callV (all := []) (v := .bool x2_0) trivial rfl Tryd.func30 rfl rfl rfl rfl rfl (fun w hw => ok_30 hw hg q2_0) ?_)
      refine ap (y_assign rfl) ?_
      refine a_nil ?_
      refine a_en [(6, .bool x2_0)] ?_
      refine a_then ?_
      refine a_ret ?_
      refine a_then_ret ?_
      refine a_done (v := .bool x2_0) (.inl rfl) rfl ?_ ?_
      · intro a_ w_ ha_ hs_; exact run_results (P := Tryd.prog) (fn := Tryd.f14) (rs := [.tmp 6]) (vs := [.bool x2_0]) rfl (.cons (rv_tmp ha_ rfl) (All2.nil))
      · intro _ _; obtain rfl := Option.some.inj hm
        rfl
    · have hm := cond_f k_2 hm
      refine a_skip ?_
      refine a_then ?_
      refine a_seq ?_
      obtain ⟨x3_2, q3_2, hm⟩ := bind_some hm
      obtain ⟨x3_3, q3_3, hm⟩ := bind_some hm
      obtain ⟨x3_8, q3_8, hm⟩ := bind_some hm
      obtain ⟨x3_9, q3_9, hm⟩ := bind_some hm
      obtain ⟨x3_14, q3_14, hm⟩ := bind_some hm
      refine d_region (S := Sw Hb0_0 []) (n := 18) (listed := (bits 18 0)) mixed (by kernel_rfl) rfl (by kernel_rfl) ?_
      obtain ⟨u3_0, h3_0, c3_0⟩ := PAt.one hb0_0
      refine dt 0 1 rfl trivial (y_load_cells ty25 rfl (fun _ h => h.1) rfl c3_0 (Rp.len h3_0)) (sw0 []) ?_
      refine dt 1 3 rfl trivial (y_move rfl) (sw0 []) ?_
      have h3_3 := PAt.arrZ 1 rfl hb0_1 q3_3
      have k3_3 := PAt.arrIn hb0_1 q3_3
      refine dt 3 11 rfl trivial (y_index_arrp Tryd.underlying47 ty3 rfl rfl k3_3) (sw0 []) ?_
      refine dt 4 27 rfl trivial (y_load_int ty3 rfl (fun _ h => h.1) rfl h3_3) (sw0 []) ?_
      have h3_5 := TunnelBook.at_Frames hb0_0
      refine dt 5 59 rfl trivial (y_fieldAddr fo25_1 rfl) (sw0 []) ?_
      obtain ⟨v3_6, h3_6, c3_6⟩ := PAt.sl h3_5
      refine dt 6 123 rfl trivial (y_load_one ty23 rfl (fun _ h => h.1) rfl c3_6) (sw0 []) ?_
      refine dt 7 251 rfl trivial (y_len_sl Tryd.underlying23 rfl h3_6) (sw0 []) ?_
      have h3_9 := PAt.arrZ 1 rfl hb0_1 q3_9
      have k3_9 := PAt.arrIn hb0_1 q3_9
      refine dt 9 763 rfl trivial (y_index_arrp Tryd.underlying47 ty3 rfl rfl k3_9) (sw0 []) ?_
      refine dt 10 1787 rfl trivial (y_load_int ty3 rfl (fun _ h => h.1) rfl h3_9) (sw0 []) ?_
      have h3_11 := TunnelBook.at_Parts hb0_0
      refine dt 11 3835 rfl trivial (y_fieldAddr fo25_0 rfl) (sw0 []) ?_
      obtain ⟨v3_12, h3_12, c3_12⟩ := PAt.sl h3_11
      refine dt 12 7931 rfl trivial (y_load_one ty22 rfl (fun _ h => h.1) rfl c3_12) (sw0 []) ?_
      refine dt 13 16123 rfl trivial (y_len_sl Tryd.underlying22 rfl h3_12) (sw0 []) ?_
      refine d1 2 rfl (e_callH (all := [.agg u3_0.toArray, v1]) trivial rfl Tryd.func45 rfl rfl rfl rfl rfl (fun w hw => ok_45 hw h3_0 h1 q3_2) ?_)
      rintro v3_2r0 H3_2 l3_2 ⟨_, rfl, h3_2r0⟩
      have h1 := Sl.mono l3_2 h1
      have hb0_0 := PAt.mono l3_2 hb0_0
      have hb0_1 := PAt.mono l3_2 hb0_1
      have h3_0 := Rp.mono l3_2 h3_0
      have h3_3 := PAt.mono l3_2 h3_3
      have h3_5 := PAt.mono l3_2 h3_5
      have h3_6 := Sl.mono l3_2 h3_6
      have h3_9 := PAt.mono l3_2 h3_9
      have h3_11 := PAt.mono l3_2 h3_11
      have h3_12 := Sl.mono l3_2 h3_12
      have hg := Glob.mono l3_2 hg
      refine dn 16127 (swl l3_2 []) ?_
      refine d1 8 rfl (e_callV (all := [.int .i64 x3_3, .int .i64 (p0.Frames.length : Int)]) (v := .int .i64 x3_8) trivial rfl Tryd.func52 rfl rfl rfl rfl rfl (fun w hw => ok_52 hw q3_8) ?_)
      refine dn 16383 (swl l3_2 []) ?_
      refine d1 14 rfl (e_callV (all := [.int .i64 x3_9, .int .i64 (p0.Parts.length : Int)]) (v := .int .i64 x3_14) trivial rfl Tryd.func52 rfl rfl rfl rfl rfl (fun w hw => ok_52 hw q3_14) ?_)
      refine dn 32767 (swl l3_2 []) ?_
      refine d_weaken (S' := Sw H3_2 []) (sw_sw l3_2 [] rfl) ?_
      refine dt 15 65535 rfl trivial (y_assign rfl) (sw0 []) ?_
      refine dt 16 131071 rfl trivial (y_assign rfl) (sw0 []) ?_
      refine dt 17 262143 rfl trivial (y_assign rfl) (sw0 []) ?_
      refine d_done (by kernel_rfl) ?_
      refine a_en [(3, .pointer (some ⟨b0_0, 0, none⟩)), (7, v3_2r0), (8, .int .i64 x3_8), (9, .int .i64 x3_14)] ?_
      refine a_then ?_
      refine a_seq ?_
      refine a_region rfl ?_
      refine a_cons (e_buildSlice (xs := []) (cs := []) trivial rfl Tryd.underlying26 ty3 rfl rfl rfl (by simp [Value.cells]) rfl (rfl) ?_)
      intro v4_0
      have h4_0 : RepL (α := Int) H3_2 ([]) [] := (RepL.nil (α := Int))
      refine ap (y_move rfl) ?_
      obtain ⟨x4_2, q4_2, hm⟩ := bind_some hm
      refine a_cons (e_app_sl (i := 0) trivial rfl Tryd.underlying26 Tryd.underlying26 ty3 rfl rfl rfl rfl rfl rfl rfl rfl h4_0 h3_2r0 q4_2 ?_)
      intro v4_2 u4_2 h4_2
      refine ap (y_assign rfl) ?_
      refine a_nil ?_
      refine a_en [(3, .pointer (some ⟨b0_0, 0, none⟩)), (7, v3_2r0), (8, .int .i64 x3_8), (9, .int .i64 x3_14), (10, v4_2)] ?_
      refine a_then ?_
      refine a_seq ?_
      refine a_region rfl ?_
      refine ap (y_move rfl) ?_
      refine ap (y_move rfl) ?_
      refine ap (y_move rfl) ?_
      refine ap (y_move rfl) ?_
      obtain ⟨x5_4, q5_4, hm⟩ := bind_some hm
      obtain ⟨b5_4, o5_4, c5_4, e5_4, h5_4⟩ := Sl.elemZ 1 rfl h3_2r0 q5_4
      refine ap (y_index Tryd.underlying26 ty3 rfl e5_4 rfl (nth_in q5_4)) ?_
      refine ap (y_load_int ty3 rfl (fun _ h => h.sub) rfl h5_4) ?_
      refine ap (y_add rfl rfl) ?_
      refine ap (y_min rfl rfl) ?_
      obtain ⟨x5_8, q5_8, hm⟩ := bind_some hm
      refine a_rowplace (i := 0) rfl rfl rfl h4_2 q5_8 ?_
      rintro b5_8 c5_8 rfl
      refine ap (y_index Tryd.underlying26 ty3 rfl rfl rfl (nth_in q5_8)) ?_
      refine a_cons (e_storeRow (α := Int) (i := 0) (ds := [.int .i64 (min 3 (IntKind.i64.wrap (x5_4 + 1)))]) (l' := (x4_2).set (x3_14).toNat (min 3 (IntKind.i64.wrap (x5_4 + 1)))) trivial ty3 rfl rfl rfl rfl rfl (cells_one_int _) rfl h4_2 (PutL.at00 1 rfl q5_8 rfl) ?_)
      intro u5_9 h5_9
      refine a_nil ?_
      refine a_en [(3, .pointer (some ⟨b0_0, 0, none⟩)), (7, v3_2r0), (8, .int .i64 x3_8), (10, .slice (some ⟨b5_8, 0, none⟩) (x4_2).length c5_8)] ?_
      refine a_then ?_
      refine a_seq ?_
      refine a_region rfl ?_
      obtain ⟨u6_0, h6_0, c6_0⟩ := PAt.one hb0_0
      refine ap (y_load_cells ty25 rfl (fun _ h => h.sub) rfl c6_0 (Rp.len h6_0)) ?_
      refine ap (y_move rfl) ?_
      refine ap (y_move rfl) ?_
      obtain ⟨x6_3, q6_3, hm⟩ := bind_some hm
      refine a_cons (e_callV (all := [.agg u6_0.toArray, v3_2r0, .int .i64 x3_8]) (v := .tuple #[.agg x6_3.1.cells.toArray, .int .i64 x6_3.2]) trivial rfl Tryd.func23 rfl rfl rfl rfl rfl (fun w hw => ok_23 hw h6_0 h3_2r0 hg q6_3) ?_)
      refine ap (y_move rfl) ?_
      refine ap (y_extract rfl rfl) ?_
      refine ap (y_extract rfl rfl) ?_
      refine a_cons (e_alloc (cs := [.int .i64 0, .int .i64 0]) trivial rfl ty32 rfl ?_)
      intro b6_7
      refine a_cons (e_storeWhole (i := 0) (ds := x6_3.1.cells) trivial ty32 rfl rfl rfl rfl rfl ((Rp.one (Span.rep_mk (fun _ => none) x6_3.1))) rfl ?_)
      refine ap (y_assign rfl) ?_
      refine a_nil ?_
      refine a_freeze (α := Span) (x := x6_3.1) (i := 0) rfl (Span.rep_mk _ x6_3.1) ?_
      intro Hb6_7 lb6_7 hb6_7
      have hb0_0 := PAt.mono lb6_7 hb0_0
      have h3_2r0 := Sl.mono lb6_7 h3_2r0
      have h6_0 := Rp.mono lb6_7 h6_0
      have h5_9 := RepL.mono lb6_7 h5_9
      have hg := Glob.mono lb6_7 hg
      refine a_en [(3, .pointer (some ⟨b0_0, 0, none⟩)), (7, v3_2r0), (8, .int .i64 x3_8), (10, .slice (some ⟨b5_8, 0, none⟩) (x4_2).length c5_8), (11, .pointer (some ⟨b6_7, 0, none⟩)), (12, .int .i64 x6_3.2)] ?_
      refine a_own [1] (by decide) (L' := [.row (.slice (some ⟨b5_8, 0, none⟩) (x4_2).length c5_8) u5_9 3 1]) rfl ?_
      refine a_then ?_
      refine a_seq ?_
      refine a_region rfl ?_
      obtain ⟨u7_0, h7_0, c7_0⟩ := PAt.one hb0_0
      refine ap (y_load_cells ty25 rfl (fun _ h => h.sub) rfl c7_0 (Rp.len h7_0)) ?_
      refine ap (y_move rfl) ?_
      refine ap (y_move rfl) ?_
      refine a_frow (i := 0) rfl rfl h5_9 rfl ?_
      intro H7_3g1f l7_3g1f h7_3g1f
      have hb0_0 := PAt.mono l7_3g1f hb0_0
      have h3_2r0 := Sl.mono l7_3g1f h3_2r0
      have hb6_7 := PAt.mono l7_3g1f hb6_7
      have h7_0 := Rp.mono l7_3g1f h7_0
      have hg := Glob.mono l7_3g1f hg
      obtain ⟨x7_3, q7_3, hm⟩ := bind_some hm
      refine a_cons (e_callV (all := [.agg u7_0.toArray, .slice (some ⟨b5_8, 0, none⟩) (x4_2).length c5_8, .int .i64 x3_8]) (v := .tuple #[.agg x7_3.1.cells.toArray, .int .i64 x7_3.2]) trivial rfl Tryd.func23 rfl rfl rfl rfl rfl (fun w hw => ok_23 hw h7_0 h7_3g1f hg q7_3) ?_)
      refine ap (y_move rfl) ?_
      refine ap (y_extract rfl rfl) ?_
      refine ap (y_extract rfl rfl) ?_
      refine a_cons (e_alloc (cs := [.int .i64 0, .int .i64 0]) trivial rfl ty32 rfl ?_)
      intro b7_7
      refine a_cons (e_storeWhole (i := 0) (ds := x7_3.1.cells) trivial ty32 rfl rfl rfl rfl rfl ((Rp.one (Span.rep_mk (fun _ => none) x7_3.1))) rfl ?_)
      refine ap (y_assign rfl) ?_
      refine a_nil ?_
      refine a_freeze (α := Span) (x := x7_3.1) (i := 0) rfl (Span.rep_mk _ x7_3.1) ?_
      intro Hb7_7 lb7_7 hb7_7
      have hb0_0 := PAt.mono lb7_7 hb0_0
      have h3_2r0 := Sl.mono lb7_7 h3_2r0
      have h7_3g1f := Sl.mono lb7_7 h7_3g1f
      have hb6_7 := PAt.mono lb7_7 hb6_7
      have h7_0 := Rp.mono lb7_7 h7_0
      have hg := Glob.mono lb7_7 hg
      refine a_en [(3, .pointer (some ⟨b0_0, 0, none⟩)), (7, v3_2r0), (10, .slice (some ⟨b5_8, 0, none⟩) (x4_2).length c5_8), (11, .pointer (some ⟨b6_7, 0, none⟩)), (12, .int .i64 x6_3.2), (13, .pointer (some ⟨b7_7, 0, none⟩)), (14, .int .i64 x7_3.2)] ?_
      refine a_own [] (by decide) (L' := []) rfl ?_
      refine a_then ?_
      refine a_seq ?_
      refine a_region rfl ?_
      obtain ⟨u8_0, h8_0, c8_0⟩ := PAt.one hb0_0
      refine ap (y_load_cells ty25 rfl (fun _ h => h.sub) rfl c8_0 (Rp.len h8_0)) ?_
      refine ap (y_move rfl) ?_
      obtain ⟨x8_2, q8_2, hm⟩ := bind_some hm
      refine a_cons (e_callV (all := [.agg u8_0.toArray, v3_2r0]) (v := .tuple #[.int .i64 x8_2.1, .int .i64 x8_2.2]) trivial rfl Tryd.func19 rfl rfl rfl rfl rfl (fun w hw => ok_19 hw h8_0 h3_2r0 q8_2) ?_)
      refine ap (y_move rfl) ?_
      refine ap (y_extract rfl rfl) ?_
      refine ap (y_extract rfl rfl) ?_
      refine ap (y_assign rfl) ?_
      refine ap (y_assign rfl) ?_
      refine a_nil ?_
      refine a_en [(3, .pointer (some ⟨b0_0, 0, none⟩)), (10, .slice (some ⟨b5_8, 0, none⟩) (x4_2).length c5_8), (11, .pointer (some ⟨b6_7, 0, none⟩)), (12, .int .i64 x6_3.2), (13, .pointer (some ⟨b7_7, 0, none⟩)), (14, .int .i64 x7_3.2), (15, .int .i64 x8_2.1), (16, .int .i64 x8_2.2)] ?_
      refine a_then ?_
      refine a_seq ?_
      refine a_region rfl ?_
      obtain ⟨u9_0, h9_0, c9_0⟩ := PAt.one hb0_0
      refine ap (y_load_cells ty25 rfl (fun _ h => h.sub) rfl c9_0 (Rp.len h9_0)) ?_
      refine ap (y_move rfl) ?_
      obtain ⟨x9_2, q9_2, hm⟩ := bind_some hm
      refine a_cons (e_callV (all := [.agg u9_0.toArray, .slice (some ⟨b5_8, 0, none⟩) (x4_2).length c5_8]) (v := .tuple #[.int .i64 x9_2.1, .int .i64 x9_2.2]) trivial rfl Tryd.func19 rfl rfl rfl rfl rfl (fun w hw => ok_19 hw h9_0 h7_3g1f q9_2) ?_)
      refine ap (y_move rfl) ?_
      refine ap (y_extract rfl rfl) ?_
      refine ap (y_extract rfl rfl) ?_
      refine ap (y_assign rfl) ?_
      refine ap (y_assign rfl) ?_
      refine a_nil ?_
      refine a_en [(11, .pointer (some ⟨b6_7, 0, none⟩)), (12, .int .i64 x6_3.2), (13, .pointer (some ⟨b7_7, 0, none⟩)), (14, .int .i64 x7_3.2), (15, .int .i64 x8_2.1), (16, .int .i64 x8_2.2), (17, .int .i64 x9_2.1), (18, .int .i64 x9_2.2)] ?_
      refine a_then ?_
      refine a_seq ?_
      obtain ⟨s_j3, hs_j3, hm_j3⟩ := bind_some hm
      refine a_join (fun a_ w_ => ∃ (yj3_6 : Bool), yj3_6 = s_j3 ∧ Ag 118 [] [(6, .bool yj3_6)] a_ ∧ St (Kp.mk w H noX) Hb7_7 [] w_) ?_ ?_
      · have hm := hs_j3
        refine a_region rfl ?_
        refine ap (y_move rfl) ?_
        refine ap (y_eql rfl rfl) ?_
        refine ap (y_move rfl) ?_
        rcases Bool.eq_false_or_eq_true (x6_3.2 == 0) with k10_3 | k10_3
        · have hm := cond_t k10_3 hm
          refine ag ⟨_, _, rfl, rfl, k10_3⟩ (y_move rfl) ?_
          refine ag ⟨_, _, rfl, rfl, k10_3⟩ (y_eql rfl rfl) ?_
          refine ap (y_pick_t rfl k10_3 rfl) ?_
          refine ap (y_move rfl) ?_
          rcases Bool.eq_false_or_eq_true (x7_3.2 == 0) with k10_7 | k10_7
          · have hm := cond_t k10_7 hm
            refine ag ⟨_, _, rfl, rfl, k10_7⟩ (y_move rfl) ?_
            refine ag ⟨_, _, rfl, rfl, k10_7⟩ (y_eql rfl rfl) ?_
            refine ap (y_pick_t rfl k10_7 rfl) ?_
            refine ap (y_move rfl) ?_
            rcases Bool.eq_false_or_eq_true (x8_2.2 == 0) with k10_11 | k10_11
            · have hm := cond_t k10_11 hm
              refine ag ⟨_, _, rfl, rfl, k10_11⟩ (y_move rfl) ?_
              refine ag ⟨_, _, rfl, rfl, k10_11⟩ (y_eql rfl rfl) ?_
              refine ap (y_pick_t rfl k10_11 rfl) ?_
              refine ap (y_move rfl) ?_
              rcases Bool.eq_false_or_eq_true (x9_2.2 == 0) with k10_15 | k10_15
              · have hm := cond_t k10_15 hm
                have h10_15 := Span.at_Low hb7_7
                refine ag ⟨_, _, rfl, rfl, k10_15⟩ (y_fieldAddr fo32_0 rfl) ?_
                refine ag ⟨_, _, rfl, rfl, k10_15⟩ (y_load_int ty3 rfl (fun _ h => h.sub) rfl h10_15) ?_
                have h10_17 := Span.at_Low hb6_7
                refine ag ⟨_, _, rfl, rfl, k10_15⟩ (y_fieldAddr fo32_0 rfl) ?_
                refine ag ⟨_, _, rfl, rfl, k10_15⟩ (y_load_int ty3 rfl (fun _ h => h.sub) rfl h10_17) ?_
                refine ag ⟨_, _, rfl, rfl, k10_15⟩ (y_geq rfl rfl) ?_
                refine ap (y_pick_t rfl k10_15 rfl) ?_
                refine ap (y_move rfl) ?_
                rcases Bool.eq_false_or_eq_true (decide (x7_3.1.Low ≥ x6_3.1.Low)) with k10_22 | k10_22
                · have hm := cond_t k10_22 hm
                  have h10_22 := Span.at_High hb7_7
                  refine ag ⟨_, _, rfl, rfl, k10_22⟩ (y_fieldAddr fo32_1 rfl) ?_
                  refine ag ⟨_, _, rfl, rfl, k10_22⟩ (y_load_int ty3 rfl (fun _ h => h.sub) rfl h10_22) ?_
                  have h10_24 := Span.at_High hb6_7
                  refine ag ⟨_, _, rfl, rfl, k10_22⟩ (y_fieldAddr fo32_1 rfl) ?_
                  refine ag ⟨_, _, rfl, rfl, k10_22⟩ (y_load_int ty3 rfl (fun _ h => h.sub) rfl h10_24) ?_
                  refine ag ⟨_, _, rfl, rfl, k10_22⟩ (y_geq rfl rfl) ?_
                  refine ap (y_pick_t rfl k10_22 rfl) ?_
                  refine ap (y_move rfl) ?_
                  rcases Bool.eq_false_or_eq_true (decide (x7_3.1.High ≥ x6_3.1.High)) with k10_29 | k10_29
                  · have hm := cond_t k10_29 hm
                    refine ag ⟨_, _, rfl, rfl, k10_29⟩ (y_move rfl) ?_
                    refine ag ⟨_, _, rfl, rfl, k10_29⟩ (y_move rfl) ?_
                    refine ag ⟨_, _, rfl, rfl, k10_29⟩ (y_geq rfl rfl) ?_
                    refine ap (y_pick_t rfl k10_29 rfl) ?_
                    refine ap (y_move rfl) ?_
                    rcases Bool.eq_false_or_eq_true (decide (x9_2.1 ≥ x8_2.1)) with k10_34 | k10_34
                    · have hm := cond_t k10_34 hm
                      obtain ⟨x10_34, q10_34, hm⟩ := bind_some hm
                      refine a_cons (e_callV (all := []) (v := .bool x10_34) ⟨_, _, rfl, rfl, k10_34⟩ rfl Tryd.func30 rfl rfl rfl rfl rfl (fun w hw => ok_30 hw hg q10_34) ?_)
                      refine ap (y_pick_t rfl k10_34 rfl) ?_
                      refine ap (y_assign rfl) ?_
                      refine a_nil ?_
                      refine a_en [(6, .bool x10_34)] ?_
                      refine a_cut ?_
                      intro a_ w_ ha_ hs_
                      exact ⟨x10_34, Option.some.inj hm, ha_.weaken ⟨rfl, trivial⟩, hs_.reix [] (by decide)⟩
                    · have hm := cond_f k10_34 hm
                      refine as1 (sk1 rfl rfl k10_34) ?_
                      refine ap (y_pick_f rfl k10_34 rfl) ?_
                      refine ap (y_assign rfl) ?_
                      refine a_nil ?_
                      refine a_en [(6, .bool false)] ?_
                      refine a_cut ?_
                      intro a_ w_ ha_ hs_
                      exact ⟨false, Option.some.inj hm, ha_.weaken ⟨rfl, trivial⟩, hs_.reix [] (by decide)⟩
                  · have hm := cond_f k10_29 hm
                    refine as1 (sk1 rfl rfl k10_29) ?_
                    refine as1 (sk1 rfl rfl k10_29) ?_
                    refine as1 (sk1 rfl rfl k10_29) ?_
                    refine ap (y_pick_f rfl k10_29 rfl) ?_
                    refine ap (y_move rfl) ?_
                    refine as1 (sk1 rfl rfl rfl) ?_
                    refine ap (y_pick_f rfl rfl rfl) ?_
                    refine ap (y_assign rfl) ?_
                    refine a_nil ?_
                    refine a_en [(6, .bool false)] ?_
                    refine a_cut ?_
                    intro a_ w_ ha_ hs_
                    exact ⟨false, Option.some.inj hm, ha_.weaken ⟨rfl, trivial⟩, hs_.reix [] (by decide)⟩
                · have hm := cond_f k10_22 hm
                  refine as1 (sk1 rfl rfl k10_22) ?_
                  refine as1 (sk1 rfl rfl k10_22) ?_
                  refine as1 (sk1 rfl rfl k10_22) ?_
                  refine as1 (sk1 rfl rfl k10_22) ?_
                  refine as1 (sk1 rfl rfl k10_22) ?_
                  refine ap (y_pick_f rfl k10_22 rfl) ?_
                  refine ap (y_move rfl) ?_
                  refine as1 (sk1 rfl rfl rfl) ?_
                  refine as1 (sk1 rfl rfl rfl) ?_
                  refine as1 (sk1 rfl rfl rfl) ?_
                  refine ap (y_pick_f rfl rfl rfl) ?_
                  refine ap (y_move rfl) ?_
                  refine as1 (sk1 rfl rfl rfl) ?_
                  refine ap (y_pick_f rfl rfl rfl) ?_
                  refine ap (y_assign rfl) ?_
                  refine a_nil ?_
                  refine a_en [(6, .bool false)] ?_
                  refine a_cut ?_
                  intro a_ w_ ha_ hs_
                  exact ⟨false, Option.some.inj hm, ha_.weaken ⟨rfl, trivial⟩, hs_.reix [] (by decide)⟩
              · have hm := cond_f k10_15 hm
                refine as1 (sk1 rfl rfl k10_15) ?_
                refine as1 (sk1 rfl rfl k10_15) ?_
                refine as1 (sk1 rfl rfl k10_15) ?_
                refine as1 (sk1 rfl rfl k10_15) ?_
                refine as1 (sk1 rfl rfl k10_15) ?_
                refine ap (y_pick_f rfl k10_15 rfl) ?_
                refine ap (y_move rfl) ?_
                refine as1 (sk1 rfl rfl rfl) ?_
                refine as1 (sk1 rfl rfl rfl) ?_
                refine as1 (sk1 rfl rfl rfl) ?_
                refine as1 (sk1 rfl rfl rfl) ?_
                refine as1 (sk1 rfl rfl rfl) ?_
                refine ap (y_pick_f rfl rfl rfl) ?_
                refine ap (y_move rfl) ?_
                refine as1 (sk1 rfl rfl rfl) ?_
                refine as1 (sk1 rfl rfl rfl) ?_
                refine as1 (sk1 rfl rfl rfl) ?_
                refine ap (y_pick_f rfl rfl rfl) ?_
                refine ap (y_move rfl) ?_
                refine as1 (sk1 rfl rfl rfl) ?_
                refine ap (y_pick_f rfl rfl rfl) ?_
                refine ap (y_assign rfl) ?_
                refine a_nil ?_
                refine a_en [(6, .bool false)] ?_
                refine a_cut ?_
                intro a_ w_ ha_ hs_
                exact ⟨false, Option.some.inj hm, ha_.weaken ⟨rfl, trivial⟩, hs_.reix [] (by decide)⟩
            · have hm := cond_f k10_11 hm
              refine as1 (sk1 rfl rfl k10_11) ?_
              refine as1 (sk1 rfl rfl k10_11) ?_
              refine ap (y_pick_f rfl k10_11 rfl) ?_
              refine ap (y_move rfl) ?_
              refine as1 (sk1 rfl rfl rfl) ?_
              refine as1 (sk1 rfl rfl rfl) ?_
              refine as1 (sk1 rfl rfl rfl) ?_
              refine as1 (sk1 rfl rfl rfl) ?_
              refine as1 (sk1 rfl rfl rfl) ?_
              refine ap (y_pick_f rfl rfl rfl) ?_
              refine ap (y_move rfl) ?_
              refine as1 (sk1 rfl rfl rfl) ?_
              refine as1 (sk1 rfl rfl rfl) ?_
              refine as1 (sk1 rfl rfl rfl) ?_
              refine as1 (sk1 rfl rfl rfl) ?_
              refine as1 (sk1 rfl rfl rfl) ?_
              refine ap (y_pick_f rfl rfl rfl) ?_
              refine ap (y_move rfl) ?_
              refine as1 (sk1 rfl rfl rfl) ?_
              refine as1 (sk1 rfl rfl rfl) ?_
              refine as1 (sk1 rfl rfl rfl) ?_
              refine ap (y_pick_f rfl rfl rfl) ?_
              refine ap (y_move rfl) ?_
              refine as1 (sk1 rfl rfl rfl) ?_
              refine ap (y_pick_f rfl rfl rfl) ?_
              refine ap (y_assign rfl) ?_
              refine a_nil ?_
              refine a_en [(6, .bool false)] ?_
              refine a_cut ?_
              intro a_ w_ ha_ hs_
              exact ⟨false, Option.some.inj hm, ha_.weaken ⟨rfl, trivial⟩, hs_.reix [] (by decide)⟩
          · have hm := cond_f k10_7 hm
            refine as1 (sk1 rfl rfl k10_7) ?_
            refine as1 (sk1 rfl rfl k10_7) ?_
            refine ap (y_pick_f rfl k10_7 rfl) ?_
            refine ap (y_move rfl) ?_
            refine as1 (sk1 rfl rfl rfl) ?_
            refine as1 (sk1 rfl rfl rfl) ?_
            refine ap (y_pick_f rfl rfl rfl) ?_
            refine ap (y_move rfl) ?_
            refine as1 (sk1 rfl rfl rfl) ?_
            refine as1 (sk1 rfl rfl rfl) ?_
            refine as1 (sk1 rfl rfl rfl) ?_
            refine as1 (sk1 rfl rfl rfl) ?_
            refine as1 (sk1 rfl rfl rfl) ?_
            refine ap (y_pick_f rfl rfl rfl) ?_
            refine ap (y_move rfl) ?_
            refine as1 (sk1 rfl rfl rfl) ?_
            refine as1 (sk1 rfl rfl rfl) ?_
            refine as1 (sk1 rfl rfl rfl) ?_
            refine as1 (sk1 rfl rfl rfl) ?_
            refine as1 (sk1 rfl rfl rfl) ?_
            refine ap (y_pick_f rfl rfl rfl) ?_
            refine ap (y_move rfl) ?_
            refine as1 (sk1 rfl rfl rfl) ?_
            refine as1 (sk1 rfl rfl rfl) ?_
            refine as1 (sk1 rfl rfl rfl) ?_
            refine ap (y_pick_f rfl rfl rfl) ?_
            refine ap (y_move rfl) ?_
            refine as1 (sk1 rfl rfl rfl) ?_
            refine ap (y_pick_f rfl rfl rfl) ?_
            refine ap (y_assign rfl) ?_
            refine a_nil ?_
            refine a_en [(6, .bool false)] ?_
            refine a_cut ?_
            intro a_ w_ ha_ hs_
            exact ⟨false, Option.some.inj hm, ha_.weaken ⟨rfl, trivial⟩, hs_.reix [] (by decide)⟩
        · have hm := cond_f k10_3 hm
          refine as1 (sk1 rfl rfl k10_3) ?_
          refine as1 (sk1 rfl rfl k10_3) ?_
          refine ap (y_pick_f rfl k10_3 rfl) ?_
          refine ap (y_move rfl) ?_
          refine as1 (sk1 rfl rfl rfl) ?_
          refine as1 (sk1 rfl rfl rfl) ?_
          refine ap (y_pick_f rfl rfl rfl) ?_
          refine ap (y_move rfl) ?_
          refine as1 (sk1 rfl rfl rfl) ?_
          refine as1 (sk1 rfl rfl rfl) ?_
          refine ap (y_pick_f rfl rfl rfl) ?_
          refine ap (y_move rfl) ?_
          refine as1 (sk1 rfl rfl rfl) ?_
          refine as1 (sk1 rfl rfl rfl) ?_
          refine as1 (sk1 rfl rfl rfl) ?_
          refine as1 (sk1 rfl rfl rfl) ?_
          refine as1 (sk1 rfl rfl rfl) ?_
          refine ap (y_pick_f rfl rfl rfl) ?_
          refine ap (y_move rfl) ?_
          refine as1 (sk1 rfl rfl rfl) ?_
          refine as1 (sk1 rfl rfl rfl) ?_
          refine as1 (sk1 rfl rfl rfl) ?_
          refine as1 (sk1 rfl rfl rfl) ?_
          refine as1 (sk1 rfl rfl rfl) ?_
          refine ap (y_pick_f rfl rfl rfl) ?_
          refine ap (y_move rfl) ?_
          refine as1 (sk1 rfl rfl rfl) ?_
          refine as1 (sk1 rfl rfl rfl) ?_
          refine as1 (sk1 rfl rfl rfl) ?_
          refine ap (y_pick_f rfl rfl rfl) ?_
          refine ap (y_move rfl) ?_
          refine as1 (sk1 rfl rfl rfl) ?_
          refine ap (y_pick_f rfl rfl rfl) ?_
          refine ap (y_assign rfl) ?_
          refine a_nil ?_
          refine a_en [(6, .bool false)] ?_
          refine a_cut ?_
          intro a_ w_ ha_ hs_
          exact ⟨false, Option.some.inj hm, ha_.weaken ⟨rfl, trivial⟩, hs_.reix [] (by decide)⟩
      · have hm := hm_j3
        rintro a_ w_ ⟨yj3_6, rfl, ha_, hs_⟩
        try dsimp only at hm
        refine a_start ha_ hs_ ?_
        refine a_then ?_
        refine a_ret ?_
        refine a_done (v := .bool yj3_6) (.inl rfl) rfl ?_ ?_
        · intro a_ w_ ha_ hs_; exact run_results (P := Tryd.prog) (fn := Tryd.f14) (rs := [.tmp 6]) (vs := [.bool yj3_6]) rfl (.cons (rv_tmp ha_ rfl) (All2.nil))
        · intro _ _; obtain rfl := Option.some.inj hm
          rfl
end Go.Lu
