/- Of each function that the example reaches, part 3: what it computes (a plain function: none where the code would panic, or fuel is used up), and the walk that shows it. -/
import Derived.Test.YtbcabikaaadiiaaDoorLuW2
namespace Go.Lu
open Go Go.Proofs
set_option linter.unusedVariables false
set_option maxRecDepth 100000
set_option maxHeartbeats 8000000
def ref00_Alike_lj3 (k : Nat) (p0 : List Int) (p1 : List Int) : Nat → Int → Option (Sum Bool Unit)
 | 0, _ => none
 | n_j3 + 1, yj3_5 =>
 bif decide (yj3_5 < (p0.length : Int)) then
 (nth p0 yj3_5).bind fun x6_2 =>
 (nth p1 yj3_5).bind fun x6_6 =>
 bif x6_2 != x6_6 then
 some (Sum.inl false)
 else
 ref00_Alike_lj3 k p0 p1 n_j3 (IntKind.i64.wrap (yj3_5 + 1))
 else
 some (Sum.inr ())
def ref00_Alike (k : Nat) (p0 : List Int) (p1 : List Int) : Option Bool :=
 bif (p0.length : Int) != (p1.length : Int) then
 some (false)
 else
 (ref00_Alike_lj3 k p0 p1 k 0).bind fun o => (match o with
 | .inl r => some r
 | .inr _ =>
 some (true))
theorem ok_29 {k : Nat} {H : Hp} {w : World} {p0 : List Int} {p1 : List Int} {v0 : Value} {v1 : Value} {r : Bool} (hsub : Sub H w) (h0 : Sl (α := Int) H v0 p0) (h1 : Sl (α := Int) H v1 p1) (hm : ref00_Alike k p0 p1 = some r) : Calls Tryd.prog 29 [v0, v1].toArray w (PostV w H (.bool r)) := by
  unfold ref00_Alike at hm
  refine start (n := 26) (E := [(0, v0), (1, v1)]) Tryd.func29 rfl rfl ⟨rfl, rfl, trivial⟩ rfl hsub ?_
  refine a_seq (a_region rfl ?_)
  refine ap (y_assign rfl) ?_
  refine a_nil ?_
  refine a_en [(0, v0), (1, v1)] ?_
  refine a_then (a_seq (a_seq (a_region rfl ?_)))
  refine ap (y_move rfl) ?_
  refine ap (y_len_sl Tryd.underlying26 rfl h0) ?_
  refine ap (y_move rfl) ?_
  refine ap (y_len_sl Tryd.underlying26 rfl h1) ?_
  refine ap (y_neq rfl rfl) ?_
  refine a_nil ?_
  refine a_en [(0, v0), (1, v1), (10, .bool ((p0.length : Int) != (p1.length : Int)))] ?_
  refine a_then ?_
  refine a_cond rfl (fun k_1 => ?_) (fun k_1 => ?_)
  · have hm := cond_t k_1 hm
    refine a_seq (a_region rfl ?_)
    refine ap (y_assign rfl) ?_
    refine a_nil ?_
    refine a_en [(4, .bool false)] ?_
    refine a_then (a_ret (a_then_ret ?_))
    refine a_done (v := .bool false) (.inl rfl) rfl ?_ ?_
    · intro a_ w_ ha_ hs_; exact run_results (P := Tryd.prog) (fn := Tryd.f29) (rs := [.tmp 4]) (vs := [.bool false]) rfl (.cons (rv_tmp ha_ rfl) (All2.nil))
    · intro _ _; obtain rfl := Option.some.inj hm
      rfl
  have hm := cond_f k_1 hm
  refine a_skip (a_then (a_seq (a_seq (a_region rfl ?_))))
  refine ap (y_assign rfl) ?_
  refine a_nil ?_
  refine a_en [(0, v0), (1, v1), (5, .int .i64 0)] ?_
  refine a_then ?_
  obtain ⟨s_j2, hs_j2, hm_j2⟩ := bind_some hm
  refine a_join (fun a_ w_ => Sum.inr () = s_j2 ∧ Ag 26 [] [] a_ ∧ St (Kp.mk w H noX) H [] w_) ?_ ?_
  · have hm := hs_j2
    refine a_block ?_
    refine a_loop (fun n_j3 a_ w_ => ∃ (yj3_5 : Int), ref00_Alike_lj3 k p0 p1 n_j3 yj3_5 = some s_j2 ∧ Ag 26 [] [(0, v0), (1, v1), (5, .int .i64 yj3_5)] a_ ∧ St (Kp.mk w H noX) H [] w_) k ?_ ?_
    · intro a_ w_ ha_ hs_
      exact ⟨0, hm, ha_.weaken ⟨rfl, rfl, rfl, trivial⟩, hs_.reix [] (by decide)⟩
    rintro (_ | n_j3) a_ w_ ⟨yj3_5, hm, ha_, hs_⟩
    · rw [ref00_Alike_lj3.eq_1] at hm; cases hm
    rw [ref00_Alike_lj3.eq_2] at hm
    refine a_start ha_ hs_ ?_
    refine a_seq (a_seq (a_region rfl ?_))
    refine ap (y_move rfl) ?_
    refine ap (y_move rfl) ?_
    refine ap (y_len_sl Tryd.underlying26 rfl h0) ?_
    refine ap (y_lss rfl rfl) ?_
    refine a_nil ?_
    refine a_en [(0, v0), (1, v1), (5, .int .i64 yj3_5), (14, .bool (decide (yj3_5 < (p0.length : Int))))] ?_
    refine a_then ?_
    refine a_cond rfl (fun k_4 => ?_) (fun k_4 => ?_)
    · have hm := cond_t k_4 hm
      refine a_skip (a_then (a_seq (a_block (a_seq ?_))))
      obtain ⟨x6_2, q6_2, hm⟩ := bind_some hm
      obtain ⟨x6_6, q6_6, hm⟩ := bind_some hm
      refine d_region (S := Sw H []) (n := 9) (listed := (bits 9 0)) mixed (by kernel_rfl) rfl (by kernel_rfl) ?_
      refine dt 0 1 rfl trivial (y_move rfl) (sw0 []) ?_
      refine dt 1 3 rfl trivial (y_move rfl) (sw0 []) ?_
      obtain ⟨b6_2, o6_2, c6_2, e6_2, h6_2⟩ := Sl.elemZ 1 rfl h0 q6_2
      refine dt 2 7 rfl trivial (y_index Tryd.underlying26 ty3 rfl e6_2 rfl (nth_in q6_2)) (sw0 []) ?_
      refine dt 3 15 rfl trivial (y_load_int ty3 rfl (fun _ h => h.1) rfl h6_2) (sw0 []) ?_
      refine dt 4 31 rfl trivial (y_move rfl) (sw0 []) ?_
      refine dt 5 63 rfl trivial (y_move rfl) (sw0 []) ?_
      obtain ⟨b6_6, o6_6, c6_6, e6_6, h6_6⟩ := Sl.elemZ 1 rfl h1 q6_6
      refine dt 6 127 rfl trivial (y_index Tryd.underlying26 ty3 rfl e6_6 rfl (nth_in q6_6)) (sw0 []) ?_
      refine dt 7 255 rfl trivial (y_load_int ty3 rfl (fun _ h => h.1) rfl h6_6) (sw0 []) ?_
      refine dt 8 511 rfl trivial (y_neq rfl rfl) (sw0 []) ?_
      refine d_done (by kernel_rfl) ?_
      refine a_en [(0, v0), (1, v1), (5, .int .i64 yj3_5), (25, .bool (x6_2 != x6_6))] ?_
      refine a_then ?_
      refine a_cond rfl (fun k_5 => ?_) (fun k_5 => ?_)
      · have hm := cond_t k_5 hm
        refine a_seq (a_region rfl ?_)
        refine ap (y_assign rfl) ?_
        refine a_nil ?_
        refine a_en [(4, .bool false)] ?_
        refine a_then (a_ret (a_block_ret (a_then_ret (a_then_ret (a_block_ret (a_cut_ret (a_then_ret ?_)))))))
        obtain rfl := Option.some.inj hm
        have hm := hm_j2
        try dsimp only at hm
        refine a_done (v := .bool false) (.inl rfl) rfl ?_ ?_
        · intro a_ w_ ha_ hs_; exact run_results (P := Tryd.prog) (fn := Tryd.f29) (rs := [.tmp 4]) (vs := [.bool false]) rfl (.cons (rv_tmp ha_ rfl) (All2.nil))
        · intro _ _; obtain rfl := Option.some.inj hm
          rfl
      have hm := cond_f k_5 hm
      refine a_skip (a_block_normal (a_then (a_region rfl ?_)))
      refine ap (y_move rfl) ?_
      refine ap (y_add rfl rfl) ?_
      refine ap (y_assign rfl) ?_
      refine a_nil ?_
      refine a_en [(0, v0), (1, v1), (5, .int .i64 (IntKind.i64.wrap (yj3_5 + 1)))] ?_
      refine a_then ?_
      intro a_ w_ ha_ hs_
      exact ⟨n_j3, Nat.lt_succ_self _, IntKind.i64.wrap (yj3_5 + 1), hm, ha_.weaken ⟨rfl, rfl, rfl, trivial⟩, hs_.reix [] (by decide)⟩
    have hm := cond_f k_4 hm
    refine a_exit (a_then_exit (a_then_exit (a_block_hit (a_cut ?_))))
    intro a_ w_ ha_ hs_
    exact ⟨Option.some.inj hm, ha_.weaken trivial, hs_.reix [] (by decide)⟩
  have hm := hm_j2
  rintro a_ w_ ⟨rfl, ha_, hs_⟩
  try dsimp only at hm
  refine a_start ha_ hs_ ?_
  refine a_then (a_seq (a_region rfl ?_))
  refine ap (y_assign rfl) ?_
  refine a_nil (a_then (a_ret ?_))
  refine a_done (v := .bool true) (.inl rfl) rfl ?_ ?_
  · intro a_ w_ ha_ hs_; exact run_results (P := Tryd.prog) (fn := Tryd.f29) (rs := [.tmp 4]) (vs := [.bool true]) rfl (.cons (rv_tmp ha_ rfl) (All2.nil))
  · intro _ _; obtain rfl := Option.some.inj hm
    rfl

def tunnel_Kind (k : Nat) (p0 : TunnelBook) (p1 : List Int) (p2 : Int) : Option (Int × Int) :=
 (tunnel_isFrame k p0 p2).bind fun x1_4 =>
 (tunnel_asked k p0 p1 x1_4).bind fun x1_5 =>
 bif x1_5.2.2 != 0 then
 some ((0, x1_5.2.2))
 else
 (dryPure x1_5.1 (⟨p2, x1_5.2.1⟩ : TunnelDrying)).bind fun x4_4 =>
 (nth p0.Frames p2).bind fun x4_8 =>
 bif decide (x4_4.Low < x4_8.Need.Low) then
 bif decide (x4_4.High > x4_8.Need.High) then
 some ((IntKind.i64.wrap ((IntKind.i64.wrap (0 + 1)) + 2), 0))
 else
 some ((IntKind.i64.wrap (0 + 1), 0))
 else
 bif decide (x4_4.High > x4_8.Need.High) then
 some ((IntKind.i64.wrap (0 + 2), 0))
 else
 some ((0, 0))
theorem ok_25 {k : Nat} {H : Hp} {w : World} {p0 : TunnelBook} {p1 : List Int} {p2 : Int} {c0 : List Value} {v1 : Value} {r : Int × Int} (hsub : Sub H w) (h0 : Rp.rep (α := TunnelBook) H c0 p0) (h1 : Sl (α := Int) H v1 p1) (hg : Glob H) (hm : tunnel_Kind k p0 p1 p2 = some r) : Calls Tryd.prog 25 [.agg c0.toArray, v1, .int .i64 p2].toArray w (PostV w H (.tuple #[.int .i64 r.1, .int .i64 r.2])) := by
  unfold tunnel_Kind at hm
  refine start (n := 53) (E := [(0, .agg c0.toArray), (1, v1), (2, .int .i64 p2)]) Tryd.func25 rfl rfl ⟨rfl, rfl, rfl, trivial⟩ rfl hsub ?_
  refine a_seq (a_region rfl ?_)
  refine a_cons (e_box (cs := c0) trivial rfl rfl rfl ?_)
  intro b0_0
  refine ap (y_assign rfl) ?_
  refine ap (y_assign rfl) ?_
  refine a_nil ?_
  refine a_freeze (α := TunnelBook) (x := p0) (i := 0) rfl h0 ?_
  intro Hb0_0 lb0_0 hb0_0
  have h0 := Rp.mono lb0_0 h0
  have h1 := Sl.mono lb0_0 h1
  have hg := Glob.mono lb0_0 hg
  refine a_en [(1, v1), (2, .int .i64 p2), (3, .pointer (some ⟨b0_0, 0, none⟩))] ?_
  refine a_own [] (by decide) (L' := []) rfl ?_
  refine a_then (a_seq ?_)
  obtain ⟨x1_4, q1_4, hm⟩ := bind_some hm
  obtain ⟨x1_5, q1_5, hm⟩ := bind_some hm
  rcases Bool.eq_false_or_eq_true (x1_5.2.2 != 0) with k1_5 | k1_5
  · have hm := cond_t k1_5 hm
    refine d_region (S := Sw Hb0_0 []) (n := 15) (listed := (bits 15 0)) mixed (by kernel_rfl) rfl (by kernel_rfl) ?_
    refine d_abs fun U1 hU1 => ?_
    have N1_0 (Hn1_9 : Hp) (ln1_9 : HLe Hb0_0 Hn1_9) (b1_10 : Nat) (b1_11 : Nat) (cb1_5 : List Value) (cs1_5 : List Value) (hb1_5 : Rp.rep (α := Bk none) Hn1_9 cb1_5 x1_5.1) (hc1_5 : Rp.rep (α := Arr 4 Int) Hn1_9 cs1_5 x1_5.2.1) : At 53 [] (Kp.mk w H noX) [(2, .int .i64 p2), (3, .pointer (some ⟨b0_0, 0, none⟩)), (8, .pointer (some ⟨b1_10, 0, none⟩)), (9, .pointer (some ⟨b1_11, 0, none⟩)), (23, .int .i64 x1_5.2.2)] Hn1_9 [.box b1_10 cb1_5 110, .box b1_11 cs1_5 111] (U1 (Sw Hn1_9 []) 1 (bits 15 16383)) := by
      refine d_fwd hU1 ?_
      have hb0_0 := PAt.mono ln1_9 hb0_0
      have hg := Glob.mono ln1_9 hg
      refine dt 14 32767 rfl trivial (y_assign rfl) (sw0 []) ?_
      refine d_done (by kernel_rfl) ?_
      refine a_freeze (α := Bk _) (x := x1_5.1) (i := 0) rfl hb1_5 ?_
      intro Hb1_10 lb1_10 hb1_10
      have hb0_0 := PAt.mono lb1_10 hb0_0
      have hc1_5 := Rp.mono lb1_10 hc1_5
      have hg := Glob.mono lb1_10 hg
      refine a_freeze (α := Arr 4 Int) (x := x1_5.2.1) (i := 1) rfl hc1_5 ?_
      intro Hb1_11 lb1_11 hb1_11
      have hb0_0 := PAt.mono lb1_11 hb0_0
      have hb1_10 := PAt.mono lb1_11 hb1_10
      have hg := Glob.mono lb1_11 hg
      refine a_en [(2, .int .i64 p2), (3, .pointer (some ⟨b0_0, 0, none⟩)), (8, .pointer (some ⟨b1_10, 0, none⟩)), (9, .pointer (some ⟨b1_11, 0, none⟩)), (10, .int .i64 x1_5.2.2)] ?_
      refine a_own [] (by decide) (L' := []) rfl ?_
      refine a_then (a_seq (a_seq (a_region rfl ?_)))
      refine ap (y_move rfl) ?_
      refine ap (y_neq rfl rfl) ?_
      refine a_nil ?_
      refine a_en [(2, .int .i64 p2), (3, .pointer (some ⟨b0_0, 0, none⟩)), (8, .pointer (some ⟨b1_10, 0, none⟩)), (9, .pointer (some ⟨b1_11, 0, none⟩)), (10, .int .i64 x1_5.2.2), (25, .bool (x1_5.2.2 != 0))] ?_
      refine a_then ?_
      refine a_cond rfl (fun _ => ?_) (fun h_ => absurd (h_.symm.trans k1_5) (by decide))
      refine a_seq (a_region rfl ?_)
      refine ap (y_move rfl) ?_
      refine ap (y_assign rfl) ?_
      refine ap (y_assign rfl) ?_
      refine a_nil ?_
      refine a_en [(6, .int .i64 0), (7, .int .i64 x1_5.2.2)] ?_
      refine a_then (a_ret (a_then_ret ?_))
      refine a_done (v := .tuple #[.int .i64 0, .int .i64 x1_5.2.2]) (.inl rfl) rfl ?_ ?_
      · intro a_ w_ ha_ hs_; exact run_results (P := Tryd.prog) (fn := Tryd.f25) (rs := [.tmp 6, .tmp 7]) (vs := [.int .i64 0, .int .i64 x1_5.2.2]) rfl (.cons (rv_tmp ha_ rfl) (.cons (rv_tmp ha_ rfl) (All2.nil)))
      · intro _ _; obtain rfl := Option.some.inj hm
        rfl
    have N1_1 (Hn1_8 : Hp) (ln1_8 : HLe Hb0_0 Hn1_8) (b1_10 : Nat) (b1_11 : Nat) (cs1_5 : List Value) (cb1_5 : List Value) (hc1_5 : Rp.rep (α := Arr 4 Int) Hn1_8 cs1_5 x1_5.2.1) (hb1_5 : Rp.rep (α := Bk none) Hn1_8 cb1_5 x1_5.1) (mz1_11 : Rp.rep (α := Arr 4 Int) Hn1_8 [.int .i64 0, .int .i64 0, .int .i64 0, .int .i64 0] [0, 0, 0, 0]) : At 53 [] (Kp.mk w H noX) [(2, .int .i64 p2), (3, .pointer (some ⟨b0_0, 0, none⟩)), (8, .pointer (some ⟨b1_10, 0, none⟩)), (9, .pointer (some ⟨b1_11, 0, none⟩)), (22, .agg cs1_5.toArray), (23, .int .i64 x1_5.2.2)] Hn1_8 ([.box b1_10 cb1_5 110, .box b1_11 [.int .i64 0, .int .i64 0, .int .i64 0, .int .i64 0] 111]) (U1 (Sw Hn1_8 []) 2 (bits 15 8191)) := by
      refine d_fwd hU1 ?_
      have hb0_0 := PAt.mono ln1_8 hb0_0
      have hg := Glob.mono ln1_8 hg
      refine d1 13 rfl (e_storeWhole (i := 1) (ds := cs1_5) trivial ty111 rfl rfl rfl rfl (Rp.len hc1_5) ((Rp.one hc1_5)) rfl ?_)
      refine dn 16383 (sw0 []) ?_
      exact d_edge hU1 (N1_0 Hn1_8 ln1_8 b1_10 b1_11 cb1_5 cs1_5 hb1_5 hc1_5) ⟨rfl, rfl, rfl, rfl, rfl, trivial⟩ [0, 1] (by decide) rfl (fun _ h => h)
    have N1_2 (Hn1_11 : Hp) (ln1_11 : HLe Hb0_0 Hn1_11) (b1_10 : Nat) (b1_11 : Nat) (cb1_5 : List Value) (cs1_5 : List Value) (hb1_5 : Rp.rep (α := Bk none) Hn1_11 cb1_5 x1_5.1) (hc1_5 : Rp.rep (α := Arr 4 Int) Hn1_11 cs1_5 x1_5.2.1) (mz1_11 : Rp.rep (α := Arr 4 Int) Hn1_11 [.int .i64 0, .int .i64 0, .int .i64 0, .int .i64 0] [0, 0, 0, 0]) : At 53 [] (Kp.mk w H noX) [(2, .int .i64 p2), (3, .pointer (some ⟨b0_0, 0, none⟩)), (8, .pointer (some ⟨b1_10, 0, none⟩)), (9, .pointer (some ⟨b1_11, 0, none⟩)), (21, .agg cb1_5.toArray), (22, .agg cs1_5.toArray), (23, .int .i64 x1_5.2.2)] Hn1_11 ([.box b1_10 [.slice none 0 0, .slice none 0 0, .map none] 110, .box b1_11 [.int .i64 0, .int .i64 0, .int .i64 0, .int .i64 0] 111]) (U1 (Sw Hn1_11 []) 3 (bits 15 4095)) := by
      refine d_fwd hU1 ?_
      have hb0_0 := PAt.mono ln1_11 hb0_0
      have hg := Glob.mono ln1_11 hg
      refine d1 12 rfl (e_storeWhole (i := 0) (ds := cb1_5) trivial ty110 rfl rfl rfl rfl (Rp.len hb1_5) ((Rp.one hb1_5)) rfl ?_)
      refine dn 8191 (sw0 []) ?_
      exact d_edge hU1 (N1_1 Hn1_11 ln1_11 b1_10 b1_11 cs1_5 cb1_5 hc1_5 hb1_5 mz1_11) ⟨rfl, rfl, rfl, rfl, rfl, rfl, trivial⟩ [0, 1] (by decide) rfl (fun _ h => h)
    have N1_3 (Hn1_15 : Hp) (ln1_15 : HLe Hb0_0 Hn1_15) (b1_10 : Nat) (cb1_5 : List Value) (cs1_5 : List Value) (hb1_5 : Rp.rep (α := Bk none) Hn1_15 cb1_5 x1_5.1) (hc1_5 : Rp.rep (α := Arr 4 Int) Hn1_15 cs1_5 x1_5.2.1) : At 53 [] (Kp.mk w H noX) [(2, .int .i64 p2), (3, .pointer (some ⟨b0_0, 0, none⟩)), (8, .pointer (some ⟨b1_10, 0, none⟩)), (21, .agg cb1_5.toArray), (22, .agg cs1_5.toArray), (23, .int .i64 x1_5.2.2)] Hn1_15 ([.box b1_10 [.slice none 0 0, .slice none 0 0, .map none] 110]) (U1 (Sw Hn1_15 []) 4 (bits 15 2047)) := by
      refine d_fwd hU1 ?_
      have hb0_0 := PAt.mono ln1_15 hb0_0
      have hg := Glob.mono ln1_15 hg
      refine d1 11 rfl (e_alloc (cs := [.int .i64 0, .int .i64 0, .int .i64 0, .int .i64 0]) trivial rfl ty111 rfl ?_)
      intro b1_11
      have mz1_11 := z111 Hn1_15
      refine dn 4095 (sw0 []) ?_
      exact d_edge hU1 (N1_2 Hn1_15 ln1_15 b1_10 b1_11 cb1_5 cs1_5 hb1_5 hc1_5 mz1_11) ⟨rfl, rfl, rfl, rfl, rfl, rfl, rfl, trivial⟩ [1, 0] (by decide) rfl (fun _ h => h)
    have N1_4 (Hn1_16 : Hp) (ln1_16 : HLe Hb0_0 Hn1_16) (b1_11 : Nat) (cb1_5 : List Value) (cs1_5 : List Value) (hb1_5 : Rp.rep (α := Bk none) Hn1_16 cb1_5 x1_5.1) (hc1_5 : Rp.rep (α := Arr 4 Int) Hn1_16 cs1_5 x1_5.2.1) (mz1_11 : Rp.rep (α := Arr 4 Int) Hn1_16 [.int .i64 0, .int .i64 0, .int .i64 0, .int .i64 0] [0, 0, 0, 0]) : At 53 [] (Kp.mk w H noX) [(2, .int .i64 p2), (3, .pointer (some ⟨b0_0, 0, none⟩)), (9, .pointer (some ⟨b1_11, 0, none⟩)), (21, .agg cb1_5.toArray), (22, .agg cs1_5.toArray), (23, .int .i64 x1_5.2.2)] Hn1_16 ([.box b1_11 [.int .i64 0, .int .i64 0, .int .i64 0, .int .i64 0] 111]) (U1 (Sw Hn1_16 []) 4 (bits 15 3071)) := by
      refine d_fwd hU1 ?_
      have hb0_0 := PAt.mono ln1_16 hb0_0
      have hg := Glob.mono ln1_16 hg
      refine d1 10 rfl (e_alloc (cs := [.slice none 0 0, .slice none 0 0, .map none]) trivial rfl ty110 rfl ?_)
      intro b1_10
      refine dn 4095 (sw0 []) ?_
      exact d_edge hU1 (N1_2 Hn1_16 ln1_16 b1_10 b1_11 cb1_5 cs1_5 hb1_5 hc1_5 mz1_11) ⟨rfl, rfl, rfl, rfl, rfl, rfl, rfl, trivial⟩ [0, 1] (by decide) rfl (fun _ h => h)
    have N1_5 (Hn1_7 : Hp) (ln1_7 : HLe Hb0_0 Hn1_7) (b1_10 : Nat) (b1_11 : Nat) (cb1_5 : List Value) (cs1_5 : List Value) (hb1_5 : Rp.rep (α := Bk none) Hn1_7 cb1_5 x1_5.1) (hc1_5 : Rp.rep (α := Arr 4 Int) Hn1_7 cs1_5 x1_5.2.1) (mz1_11 : Rp.rep (α := Arr 4 Int) Hn1_7 [.int .i64 0, .int .i64 0, .int .i64 0, .int .i64 0] [0, 0, 0, 0]) : At 53 [] (Kp.mk w H noX) [(2, .int .i64 p2), (3, .pointer (some ⟨b0_0, 0, none⟩)), (8, .pointer (some ⟨b1_10, 0, none⟩)), (9, .pointer (some ⟨b1_11, 0, none⟩)), (20, .tuple #[.agg cb1_5.toArray, .agg cs1_5.toArray, .int .i64 x1_5.2.2])] Hn1_7 ([.box b1_10 [.slice none 0 0, .slice none 0 0, .map none] 110, .box b1_11 [.int .i64 0, .int .i64 0, .int .i64 0, .int .i64 0] 111]) (U1 (Sw Hn1_7 []) 7 (bits 15 3135)) := by
      refine d_fwd hU1 ?_
      have hb0_0 := PAt.mono ln1_7 hb0_0
      have hg := Glob.mono ln1_7 hg
      refine dt 6 3199 rfl trivial (y_move rfl) (sw0 []) ?_
      refine dt 7 3327 rfl trivial (y_extract rfl rfl) (sw0 []) ?_
      refine dt 8 3583 rfl trivial (y_extract rfl rfl) (sw0 []) ?_
      refine dt 9 4095 rfl trivial (y_extract rfl rfl) (sw0 []) ?_
      refine d1 12 rfl (e_storeWhole (i := 0) (ds := cb1_5) trivial ty110 rfl rfl rfl rfl (Rp.len hb1_5) ((Rp.one hb1_5)) rfl ?_)
      refine dn 8191 (sw0 []) ?_
      exact d_edge hU1 (N1_1 Hn1_7 ln1_7 b1_10 b1_11 cs1_5 cb1_5 hc1_5 hb1_5 mz1_11) ⟨rfl, rfl, rfl, rfl, rfl, rfl, trivial⟩ [0, 1] (by decide) rfl (fun _ h => h)
    have N1_6 (Hn1_13 : Hp) (ln1_13 : HLe Hb0_0 Hn1_13) (b1_10 : Nat) (cb1_5 : List Value) (cs1_5 : List Value) (hb1_5 : Rp.rep (α := Bk none) Hn1_13 cb1_5 x1_5.1) (hc1_5 : Rp.rep (α := Arr 4 Int) Hn1_13 cs1_5 x1_5.2.1) : At 53 [] (Kp.mk w H noX) [(2, .int .i64 p2), (3, .pointer (some ⟨b0_0, 0, none⟩)), (8, .pointer (some ⟨b1_10, 0, none⟩)), (20, .tuple #[.agg cb1_5.toArray, .agg cs1_5.toArray, .int .i64 x1_5.2.2])] Hn1_13 ([.box b1_10 [.slice none 0 0, .slice none 0 0, .map none] 110]) (U1 (Sw Hn1_13 []) 8 (bits 15 1087)) := by
      refine d_fwd hU1 ?_
      have hb0_0 := PAt.mono ln1_13 hb0_0
      have hg := Glob.mono ln1_13 hg
      refine dt 6 1151 rfl trivial (y_move rfl) (sw0 []) ?_
      refine dt 7 1279 rfl trivial (y_extract rfl rfl) (sw0 []) ?_
      refine dt 8 1535 rfl trivial (y_extract rfl rfl) (sw0 []) ?_
      refine dt 9 2047 rfl trivial (y_extract rfl rfl) (sw0 []) ?_
      refine d1 11 rfl (e_alloc (cs := [.int .i64 0, .int .i64 0, .int .i64 0, .int .i64 0]) trivial rfl ty111 rfl ?_)
      intro b1_11
      have mz1_11 := z111 Hn1_13
      refine dn 4095 (sw0 []) ?_
      exact d_edge hU1 (N1_2 Hn1_13 ln1_13 b1_10 b1_11 cb1_5 cs1_5 hb1_5 hc1_5 mz1_11) ⟨rfl, rfl, rfl, rfl, rfl, rfl, rfl, trivial⟩ [1, 0] (by decide) rfl (fun _ h => h)
    have N1_7 (Hn1_10 : Hp) (ln1_10 : HLe Hb0_0 Hn1_10) (b1_11 : Nat) (cb1_5 : List Value) (cs1_5 : List Value) (hb1_5 : Rp.rep (α := Bk none) Hn1_10 cb1_5 x1_5.1) (hc1_5 : Rp.rep (α := Arr 4 Int) Hn1_10 cs1_5 x1_5.2.1) (mz1_11 : Rp.rep (α := Arr 4 Int) Hn1_10 [.int .i64 0, .int .i64 0, .int .i64 0, .int .i64 0] [0, 0, 0, 0]) : At 53 [] (Kp.mk w H noX) [(2, .int .i64 p2), (3, .pointer (some ⟨b0_0, 0, none⟩)), (9, .pointer (some ⟨b1_11, 0, none⟩)), (20, .tuple #[.agg cb1_5.toArray, .agg cs1_5.toArray, .int .i64 x1_5.2.2])] Hn1_10 ([.box b1_11 [.int .i64 0, .int .i64 0, .int .i64 0, .int .i64 0] 111]) (U1 (Sw Hn1_10 []) 8 (bits 15 2111)) := by
      refine d_fwd hU1 ?_
      have hb0_0 := PAt.mono ln1_10 hb0_0
      have hg := Glob.mono ln1_10 hg
      refine dt 6 2175 rfl trivial (y_move rfl) (sw0 []) ?_
      refine dt 7 2303 rfl trivial (y_extract rfl rfl) (sw0 []) ?_
      refine dt 8 2559 rfl trivial (y_extract rfl rfl) (sw0 []) ?_
      refine dt 9 3071 rfl trivial (y_extract rfl rfl) (sw0 []) ?_
      refine d1 10 rfl (e_alloc (cs := [.slice none 0 0, .slice none 0 0, .map none]) trivial rfl ty110 rfl ?_)
      intro b1_10
      refine dn 4095 (sw0 []) ?_
      exact d_edge hU1 (N1_2 Hn1_10 ln1_10 b1_10 b1_11 cb1_5 cs1_5 hb1_5 hc1_5 mz1_11) ⟨rfl, rfl, rfl, rfl, rfl, rfl, rfl, trivial⟩ [0, 1] (by decide) rfl (fun _ h => h)
    have N1_8 (Hn1_6 : Hp) (ln1_6 : HLe Hb0_0 Hn1_6) (b1_10 : Nat) (b1_11 : Nat) (u1_0 : List Value) (h1_0 : Rp.rep (α := TunnelBook) Hn1_6 u1_0 p0) (mz1_11 : Rp.rep (α := Arr 4 Int) Hn1_6 [.int .i64 0, .int .i64 0, .int .i64 0, .int .i64 0] [0, 0, 0, 0]) : At 53 [] (Kp.mk w H noX) [(2, .int .i64 p2), (3, .pointer (some ⟨b0_0, 0, none⟩)), (8, .pointer (some ⟨b1_10, 0, none⟩)), (9, .pointer (some ⟨b1_11, 0, none⟩)), (15, .agg u1_0.toArray), (16, v1), (19, .bool x1_4)] Hn1_6 ([.box b1_10 [.slice none 0 0, .slice none 0 0, .map none] 110, .box b1_11 [.int .i64 0, .int .i64 0, .int .i64 0, .int .i64 0] 111]) (U1 (Sw Hn1_6 []) 8 (bits 15 3103)) := by
      refine d_fwd hU1 ?_
      have hb0_0 := PAt.mono ln1_6 hb0_0
      have h1 := Sl.mono ln1_6 h1
      have hg := Glob.mono ln1_6 hg
      refine d1 5 rfl (e_callO (all := [.agg u1_0.toArray, v1, .bool x1_4]) trivial rfl Tryd.func80 rfl rfl rfl rfl rfl (fun w hw => ok_80 hw h1_0 h1 q1_5) ?_)
      rintro _ H1_5 _ l1_5 ⟨cb1_5, cs1_5, mm1_5, rfl, hb1_5, hc1_5, hd1_5⟩
      rcases hd1_5 with ⟨rfl, he1_5, rfl⟩ | ⟨M1_5, rfl, he1_5, rfl⟩
      rotate_left
      · exact absurd k1_5 (by simp [he1_5])
      have hb0_0 := PAt.mono l1_5 hb0_0
      have h1_0 := Rp.mono l1_5 h1_0
      have h1 := Sl.mono l1_5 h1
      have mz1_11 := Rp.mono l1_5 mz1_11
      have hg := Glob.mono l1_5 hg
      refine dn 3135 (swl l1_5 []) ?_
      exact d_edge hU1 (N1_5 H1_5 (ln1_6.trans l1_5) b1_10 b1_11 cb1_5 cs1_5 hb1_5 hc1_5 mz1_11) ⟨rfl, rfl, rfl, rfl, rfl, trivial⟩ [0, 1] (by decide) rfl (sw_sw l1_5 [] rfl)
    have N1_9 (Hn1_14 : Hp) (ln1_14 : HLe Hb0_0 Hn1_14) (cb1_5 : List Value) (cs1_5 : List Value) (hb1_5 : Rp.rep (α := Bk none) Hn1_14 cb1_5 x1_5.1) (hc1_5 : Rp.rep (α := Arr 4 Int) Hn1_14 cs1_5 x1_5.2.1) : At 53 [] (Kp.mk w H noX) [(2, .int .i64 p2), (3, .pointer (some ⟨b0_0, 0, none⟩)), (20, .tuple #[.agg cb1_5.toArray, .agg cs1_5.toArray, .int .i64 x1_5.2.2])] Hn1_14 [] (U1 (Sw Hn1_14 []) 9 (bits 15 63)) := by
      refine d_fwd hU1 ?_
      have hb0_0 := PAt.mono ln1_14 hb0_0
      have hg := Glob.mono ln1_14 hg
      refine dt 6 127 rfl trivial (y_move rfl) (sw0 []) ?_
      refine dt 7 255 rfl trivial (y_extract rfl rfl) (sw0 []) ?_
      refine dt 8 511 rfl trivial (y_extract rfl rfl) (sw0 []) ?_
      refine dt 9 1023 rfl trivial (y_extract rfl rfl) (sw0 []) ?_
      refine d_all (rs := [10, 11]) (by kernel_rfl) rfl ⟨⟨_, rfl, ?_⟩, ⟨_, rfl, ?_⟩, trivial⟩
      · refine e_alloc (cs := [.slice none 0 0, .slice none 0 0, .map none]) trivial rfl ty110 rfl ?_
        intro b1_10
        refine dn 2047 (sw0 []) ?_
        exact d_edge hU1 (N1_3 Hn1_14 ln1_14 b1_10 cb1_5 cs1_5 hb1_5 hc1_5) ⟨rfl, rfl, rfl, rfl, rfl, rfl, trivial⟩ [0] (by decide) rfl (fun _ h => h)
      refine e_alloc (cs := [.int .i64 0, .int .i64 0, .int .i64 0, .int .i64 0]) trivial rfl ty111 rfl ?_
      intro b1_11
      have mz1_11 := z111 Hn1_14
      refine dn 3071 (sw0 []) ?_
      exact d_edge hU1 (N1_4 Hn1_14 ln1_14 b1_11 cb1_5 cs1_5 hb1_5 hc1_5 mz1_11) ⟨rfl, rfl, rfl, rfl, rfl, rfl, trivial⟩ [0] (by decide) rfl (fun _ h => h)
    have N1_10 (Hn1_12 : Hp) (ln1_12 : HLe Hb0_0 Hn1_12) (b1_10 : Nat) (u1_0 : List Value) (h1_0 : Rp.rep (α := TunnelBook) Hn1_12 u1_0 p0) : At 53 [] (Kp.mk w H noX) [(2, .int .i64 p2), (3, .pointer (some ⟨b0_0, 0, none⟩)), (8, .pointer (some ⟨b1_10, 0, none⟩)), (15, .agg u1_0.toArray), (16, v1), (19, .bool x1_4)] Hn1_12 ([.box b1_10 [.slice none 0 0, .slice none 0 0, .map none] 110]) (U1 (Sw Hn1_12 []) 9 (bits 15 1055)) := by
      refine d_fwd hU1 ?_
      have hb0_0 := PAt.mono ln1_12 hb0_0
      have h1 := Sl.mono ln1_12 h1
      have hg := Glob.mono ln1_12 hg
      refine d_all (rs := [5, 11]) (by kernel_rfl) rfl ⟨⟨_, rfl, ?_⟩, ⟨_, rfl, ?_⟩, trivial⟩
      · refine e_callO (all := [.agg u1_0.toArray, v1, .bool x1_4]) trivial rfl Tryd.func80 rfl rfl rfl rfl rfl (fun w hw => ok_80 hw h1_0 h1 q1_5) ?_
        rintro _ H1_5 _ l1_5 ⟨cb1_5, cs1_5, mm1_5, rfl, hb1_5, hc1_5, hd1_5⟩
        rcases hd1_5 with ⟨rfl, he1_5, rfl⟩ | ⟨M1_5, rfl, he1_5, rfl⟩
        rotate_left
        · exact absurd k1_5 (by simp [he1_5])
        have hb0_0 := PAt.mono l1_5 hb0_0
        have h1_0 := Rp.mono l1_5 h1_0
        have h1 := Sl.mono l1_5 h1
        have hg := Glob.mono l1_5 hg
        refine dn 1087 (swl l1_5 []) ?_
        exact d_edge hU1 (N1_6 H1_5 (ln1_12.trans l1_5) b1_10 cb1_5 cs1_5 hb1_5 hc1_5) ⟨rfl, rfl, rfl, rfl, trivial⟩ [0] (by decide) rfl (sw_sw l1_5 [] rfl)
      refine e_alloc (cs := [.int .i64 0, .int .i64 0, .int .i64 0, .int .i64 0]) trivial rfl ty111 rfl ?_
      intro b1_11
      have mz1_11 := z111 Hn1_12
      refine dn 3103 (sw0 []) ?_
      exact d_edge hU1 (N1_8 Hn1_12 ln1_12 b1_10 b1_11 u1_0 h1_0 mz1_11) ⟨rfl, rfl, rfl, rfl, rfl, rfl, rfl, trivial⟩ [1, 0] (by decide) rfl (fun _ h => h)
    have N1_11 (Hn1_4 : Hp) (ln1_4 : HLe Hb0_0 Hn1_4) (b1_11 : Nat) (u1_0 : List Value) (h1_0 : Rp.rep (α := TunnelBook) Hn1_4 u1_0 p0) (mz1_11 : Rp.rep (α := Arr 4 Int) Hn1_4 [.int .i64 0, .int .i64 0, .int .i64 0, .int .i64 0] [0, 0, 0, 0]) : At 53 [] (Kp.mk w H noX) [(2, .int .i64 p2), (3, .pointer (some ⟨b0_0, 0, none⟩)), (9, .pointer (some ⟨b1_11, 0, none⟩)), (15, .agg u1_0.toArray), (16, v1), (19, .bool x1_4)] Hn1_4 ([.box b1_11 [.int .i64 0, .int .i64 0, .int .i64 0, .int .i64 0] 111]) (U1 (Sw Hn1_4 []) 9 (bits 15 2079)) := by
      refine d_fwd hU1 ?_
      have hb0_0 := PAt.mono ln1_4 hb0_0
      have h1 := Sl.mono ln1_4 h1
      have hg := Glob.mono ln1_4 hg
      refine d_all (rs := [5, 10]) (by kernel_rfl) rfl ⟨⟨_, rfl, ?_⟩, ⟨_, rfl, ?_⟩, trivial⟩
      · refine e_callO (all := [.agg u1_0.toArray, v1, .bool x1_4]) trivial rfl Tryd.func80 rfl rfl rfl rfl rfl (fun w hw => ok_80 hw h1_0 h1 q1_5) ?_
        rintro _ H1_5 _ l1_5 ⟨cb1_5, cs1_5, mm1_5, rfl, hb1_5, hc1_5, hd1_5⟩
        rcases hd1_5 with ⟨rfl, he1_5, rfl⟩ | ⟨M1_5, rfl, he1_5, rfl⟩
        rotate_left
        · exact absurd k1_5 (by simp [he1_5])
        have hb0_0 := PAt.mono l1_5 hb0_0
        have h1_0 := Rp.mono l1_5 h1_0
        have h1 := Sl.mono l1_5 h1
        have mz1_11 := Rp.mono l1_5 mz1_11
        have hg := Glob.mono l1_5 hg
        refine dn 2111 (swl l1_5 []) ?_
        exact d_edge hU1 (N1_7 H1_5 (ln1_4.trans l1_5) b1_11 cb1_5 cs1_5 hb1_5 hc1_5 mz1_11) ⟨rfl, rfl, rfl, rfl, trivial⟩ [0] (by decide) rfl (sw_sw l1_5 [] rfl)
      refine e_alloc (cs := [.slice none 0 0, .slice none 0 0, .map none]) trivial rfl ty110 rfl ?_
      intro b1_10
      refine dn 3103 (sw0 []) ?_
      exact d_edge hU1 (N1_8 Hn1_4 ln1_4 b1_10 b1_11 u1_0 h1_0 mz1_11) ⟨rfl, rfl, rfl, rfl, rfl, rfl, rfl, trivial⟩ [0, 1] (by decide) rfl (fun _ h => h)
    have N1_12 (Hn1_5 : Hp) (ln1_5 : HLe Hb0_0 Hn1_5) (b1_10 : Nat) (b1_11 : Nat) (u1_0 : List Value) (u1_2 : List Value) (h1_0 : Rp.rep (α := TunnelBook) Hn1_5 u1_0 p0) (h1_2 : Rp.rep (α := TunnelBook) Hn1_5 u1_2 p0) (mz1_11 : Rp.rep (α := Arr 4 Int) Hn1_5 [.int .i64 0, .int .i64 0, .int .i64 0, .int .i64 0] [0, 0, 0, 0]) : At 53 [] (Kp.mk w H noX) [(2, .int .i64 p2), (3, .pointer (some ⟨b0_0, 0, none⟩)), (8, .pointer (some ⟨b1_10, 0, none⟩)), (9, .pointer (some ⟨b1_11, 0, none⟩)), (15, .agg u1_0.toArray), (16, v1), (17, .agg u1_2.toArray), (18, .int .i64 p2)] Hn1_5 ([.box b1_10 [.slice none 0 0, .slice none 0 0, .map none] 110, .box b1_11 [.int .i64 0, .int .i64 0, .int .i64 0, .int .i64 0] 111]) (U1 (Sw Hn1_5 []) 9 (bits 15 3087)) := by
      refine d_fwd hU1 ?_
      have hb0_0 := PAt.mono ln1_5 hb0_0
      have h1 := Sl.mono ln1_5 h1
      have hg := Glob.mono ln1_5 hg
      refine d1 4 rfl (e_callV (all := [.agg u1_2.toArray, .int .i64 p2]) (v := .bool x1_4) trivial rfl Tryd.func88 rfl rfl rfl rfl rfl (fun w hw => ok_88 hw h1_2 q1_4) ?_)
      refine dn 3103 (sw0 []) ?_
      exact d_edge hU1 (N1_8 Hn1_5 ln1_5 b1_10 b1_11 u1_0 h1_0 mz1_11) ⟨rfl, rfl, rfl, rfl, rfl, rfl, rfl, trivial⟩ [0, 1] (by decide) rfl (fun _ h => h)
    have N1_13 (Hn1_1 : Hp) (ln1_1 : HLe Hb0_0 Hn1_1) (u1_0 : List Value) (h1_0 : Rp.rep (α := TunnelBook) Hn1_1 u1_0 p0) : At 53 [] (Kp.mk w H noX) [(2, .int .i64 p2), (3, .pointer (some ⟨b0_0, 0, none⟩)), (15, .agg u1_0.toArray), (16, v1), (19, .bool x1_4)] Hn1_1 [] (U1 (Sw Hn1_1 []) 10 (bits 15 31)) := by
      refine d_fwd hU1 ?_
      have hb0_0 := PAt.mono ln1_1 hb0_0
      have h1 := Sl.mono ln1_1 h1
      have hg := Glob.mono ln1_1 hg
      refine d_all (rs := [5, 10, 11]) (by kernel_rfl) rfl ⟨⟨_, rfl, ?_⟩, ⟨_, rfl, ?_⟩, ⟨_, rfl, ?_⟩, trivial⟩
      · refine e_callO (all := [.agg u1_0.toArray, v1, .bool x1_4]) trivial rfl Tryd.func80 rfl rfl rfl rfl rfl (fun w hw => ok_80 hw h1_0 h1 q1_5) ?_
        rintro _ H1_5 _ l1_5 ⟨cb1_5, cs1_5, mm1_5, rfl, hb1_5, hc1_5, hd1_5⟩
        rcases hd1_5 with ⟨rfl, he1_5, rfl⟩ | ⟨M1_5, rfl, he1_5, rfl⟩
        rotate_left
        · exact absurd k1_5 (by simp [he1_5])
        have hb0_0 := PAt.mono l1_5 hb0_0
        have h1_0 := Rp.mono l1_5 h1_0
        have h1 := Sl.mono l1_5 h1
        have hg := Glob.mono l1_5 hg
        refine dn 63 (swl l1_5 []) ?_
        exact d_edge hU1 (N1_9 H1_5 (ln1_1.trans l1_5) cb1_5 cs1_5 hb1_5 hc1_5) ⟨rfl, rfl, rfl, trivial⟩ [] (by decide) rfl (sw_sw l1_5 [] rfl)
      · refine e_alloc (cs := [.slice none 0 0, .slice none 0 0, .map none]) trivial rfl ty110 rfl ?_
        intro b1_10
        refine dn 1055 (sw0 []) ?_
        exact d_edge hU1 (N1_10 Hn1_1 ln1_1 b1_10 u1_0 h1_0) ⟨rfl, rfl, rfl, rfl, rfl, rfl, trivial⟩ [0] (by decide) rfl (fun _ h => h)
      refine e_alloc (cs := [.int .i64 0, .int .i64 0, .int .i64 0, .int .i64 0]) trivial rfl ty111 rfl ?_
      intro b1_11
      have mz1_11 := z111 Hn1_1
      refine dn 2079 (sw0 []) ?_
      exact d_edge hU1 (N1_11 Hn1_1 ln1_1 b1_11 u1_0 h1_0 mz1_11) ⟨rfl, rfl, rfl, rfl, rfl, rfl, trivial⟩ [0] (by decide) rfl (fun _ h => h)
    have N1_14 (Hn1_2 : Hp) (ln1_2 : HLe Hb0_0 Hn1_2) (b1_10 : Nat) (u1_0 : List Value) (u1_2 : List Value) (h1_0 : Rp.rep (α := TunnelBook) Hn1_2 u1_0 p0) (h1_2 : Rp.rep (α := TunnelBook) Hn1_2 u1_2 p0) : At 53 [] (Kp.mk w H noX) [(2, .int .i64 p2), (3, .pointer (some ⟨b0_0, 0, none⟩)), (8, .pointer (some ⟨b1_10, 0, none⟩)), (15, .agg u1_0.toArray), (16, v1), (17, .agg u1_2.toArray), (18, .int .i64 p2)] Hn1_2 ([.box b1_10 [.slice none 0 0, .slice none 0 0, .map none] 110]) (U1 (Sw Hn1_2 []) 10 (bits 15 1039)) := by
      refine d_fwd hU1 ?_
      have hb0_0 := PAt.mono ln1_2 hb0_0
      have h1 := Sl.mono ln1_2 h1
      have hg := Glob.mono ln1_2 hg
      refine d_all (rs := [4, 11]) (by kernel_rfl) rfl ⟨⟨_, rfl, ?_⟩, ⟨_, rfl, ?_⟩, trivial⟩
      · refine e_callV (all := [.agg u1_2.toArray, .int .i64 p2]) (v := .bool x1_4) trivial rfl Tryd.func88 rfl rfl rfl rfl rfl (fun w hw => ok_88 hw h1_2 q1_4) ?_
        refine dn 1055 (sw0 []) ?_
        exact d_edge hU1 (N1_10 Hn1_2 ln1_2 b1_10 u1_0 h1_0) ⟨rfl, rfl, rfl, rfl, rfl, rfl, trivial⟩ [0] (by decide) rfl (fun _ h => h)
      refine e_alloc (cs := [.int .i64 0, .int .i64 0, .int .i64 0, .int .i64 0]) trivial rfl ty111 rfl ?_
      intro b1_11
      have mz1_11 := z111 Hn1_2
      refine dn 3087 (sw0 []) ?_
      exact d_edge hU1 (N1_12 Hn1_2 ln1_2 b1_10 b1_11 u1_0 u1_2 h1_0 h1_2 mz1_11) ⟨rfl, rfl, rfl, rfl, rfl, rfl, rfl, rfl, trivial⟩ [1, 0] (by decide) rfl (fun _ h => h)
    have N1_15 (Hn1_3 : Hp) (ln1_3 : HLe Hb0_0 Hn1_3) (b1_11 : Nat) (u1_0 : List Value) (u1_2 : List Value) (h1_0 : Rp.rep (α := TunnelBook) Hn1_3 u1_0 p0) (h1_2 : Rp.rep (α := TunnelBook) Hn1_3 u1_2 p0) (mz1_11 : Rp.rep (α := Arr 4 Int) Hn1_3 [.int .i64 0, .int .i64 0, .int .i64 0, .int .i64 0] [0, 0, 0, 0]) : At 53 [] (Kp.mk w H noX) [(2, .int .i64 p2), (3, .pointer (some ⟨b0_0, 0, none⟩)), (9, .pointer (some ⟨b1_11, 0, none⟩)), (15, .agg u1_0.toArray), (16, v1), (17, .agg u1_2.toArray), (18, .int .i64 p2)] Hn1_3 ([.box b1_11 [.int .i64 0, .int .i64 0, .int .i64 0, .int .i64 0] 111]) (U1 (Sw Hn1_3 []) 10 (bits 15 2063)) := by
      refine d_fwd hU1 ?_
      have hb0_0 := PAt.mono ln1_3 hb0_0
      have h1 := Sl.mono ln1_3 h1
      have hg := Glob.mono ln1_3 hg
      refine d_all (rs := [4, 10]) (by kernel_rfl) rfl ⟨⟨_, rfl, ?_⟩, ⟨_, rfl, ?_⟩, trivial⟩
      · refine e_callV (all := [.agg u1_2.toArray, .int .i64 p2]) (v := .bool x1_4) trivial rfl Tryd.func88 rfl rfl rfl rfl rfl (fun w hw => ok_88 hw h1_2 q1_4) ?_
        refine dn 2079 (sw0 []) ?_
        exact d_edge hU1 (N1_11 Hn1_3 ln1_3 b1_11 u1_0 h1_0 mz1_11) ⟨rfl, rfl, rfl, rfl, rfl, rfl, trivial⟩ [0] (by decide) rfl (fun _ h => h)
      refine e_alloc (cs := [.slice none 0 0, .slice none 0 0, .map none]) trivial rfl ty110 rfl ?_
      intro b1_10
      refine dn 3087 (sw0 []) ?_
      exact d_edge hU1 (N1_12 Hn1_3 ln1_3 b1_10 b1_11 u1_0 u1_2 h1_0 h1_2 mz1_11) ⟨rfl, rfl, rfl, rfl, rfl, rfl, rfl, rfl, trivial⟩ [0, 1] (by decide) rfl (fun _ h => h)
    refine d_fwd hU1 ?_
    obtain ⟨u1_0, h1_0, c1_0⟩ := PAt.one hb0_0
    refine dt 0 1 rfl trivial (y_load_cells ty25 rfl (fun _ h => h.1) rfl c1_0 (Rp.len h1_0)) (sw0 []) ?_
    refine dt 1 3 rfl trivial (y_move rfl) (sw0 []) ?_
    obtain ⟨u1_2, h1_2, c1_2⟩ := PAt.one hb0_0
    refine dt 2 7 rfl trivial (y_load_cells ty25 rfl (fun _ h => h.1) rfl c1_2 (Rp.len h1_2)) (sw0 []) ?_
    refine dt 3 15 rfl trivial (y_move rfl) (sw0 []) ?_
    refine d_all (rs := [4, 10, 11]) (by kernel_rfl) rfl ⟨⟨_, rfl, ?_⟩, ⟨_, rfl, ?_⟩, ⟨_, rfl, ?_⟩, trivial⟩
    · refine e_callV (all := [.agg u1_2.toArray, .int .i64 p2]) (v := .bool x1_4) trivial rfl Tryd.func88 rfl rfl rfl rfl rfl (fun w hw => ok_88 hw h1_2 q1_4) ?_
      refine dn 31 (sw0 []) ?_
      exact d_edge hU1 (N1_13 Hb0_0 (HLe.refl _) u1_0 h1_0) ⟨rfl, rfl, rfl, rfl, rfl, trivial⟩ [] (by decide) rfl (fun _ h => h)
    · refine e_alloc (cs := [.slice none 0 0, .slice none 0 0, .map none]) trivial rfl ty110 rfl ?_
      intro b1_10
      refine dn 1039 (sw0 []) ?_
      exact d_edge hU1 (N1_14 Hb0_0 (HLe.refl _) b1_10 u1_0 u1_2 h1_0 h1_2) ⟨rfl, rfl, rfl, rfl, rfl, rfl, rfl, trivial⟩ [0] (by decide) rfl (fun _ h => h)
    refine e_alloc (cs := [.int .i64 0, .int .i64 0, .int .i64 0, .int .i64 0]) trivial rfl ty111 rfl ?_
    intro b1_11
    have mz1_11 := z111 Hb0_0
    refine dn 2063 (sw0 []) ?_
    exact d_edge hU1 (N1_15 Hb0_0 (HLe.refl _) b1_11 u1_0 u1_2 h1_0 h1_2 mz1_11) ⟨rfl, rfl, rfl, rfl, rfl, rfl, rfl, trivial⟩ [0] (by decide) rfl (fun _ h => h)
  have hm := cond_f k1_5 hm
  refine d_region (S := Sw Hb0_0 []) (n := 15) (listed := (bits 15 0)) mixed (by kernel_rfl) rfl (by kernel_rfl) ?_
  refine d_abs fun U1 hU1 => ?_
  have N1_0 (Hn1_9 : Hp) (ln1_9 : HLe Hb0_0 Hn1_9) (b1_10 : Nat) (b1_11 : Nat) (M1_5 : Nat) (cb1_5 : List Value) (cs1_5 : List Value) (hb1_5 : Rp.rep (α := Bk (some M1_5)) Hn1_9 cb1_5 x1_5.1) (hc1_5 : Rp.rep (α := Arr 4 Int) Hn1_9 cs1_5 x1_5.2.1) : At 53 [] (Kp.mk w H noX) [(2, .int .i64 p2), (3, .pointer (some ⟨b0_0, 0, none⟩)), (8, .pointer (some ⟨b1_10, 0, none⟩)), (9, .pointer (some ⟨b1_11, 0, none⟩)), (23, .int .i64 x1_5.2.2)] Hn1_9 [.blk M1_5 (Memo x1_5.1), .box b1_10 cb1_5 110, .box b1_11 cs1_5 111] (U1 (Sw Hn1_9 []) 1 (bits 15 16383)) := by
    refine d_fwd hU1 ?_
    have hb0_0 := PAt.mono ln1_9 hb0_0
    have hg := Glob.mono ln1_9 hg
    refine dt 14 32767 rfl trivial (y_assign rfl) (sw0 []) ?_
    refine d_done (by kernel_rfl) ?_
    refine a_freeze (α := Bk _) (x := x1_5.1) (i := 1) rfl hb1_5 ?_
    intro Hb1_10 lb1_10 hb1_10
    have hb0_0 := PAt.mono lb1_10 hb0_0
    have hc1_5 := Rp.mono lb1_10 hc1_5
    have hg := Glob.mono lb1_10 hg
    refine a_freeze (α := Arr 4 Int) (x := x1_5.2.1) (i := 2) rfl hc1_5 ?_
    intro Hb1_11 lb1_11 hb1_11
    have hb0_0 := PAt.mono lb1_11 hb0_0
    have hb1_10 := PAt.mono lb1_11 hb1_10
    have hg := Glob.mono lb1_11 hg
    refine a_en [(2, .int .i64 p2), (3, .pointer (some ⟨b0_0, 0, none⟩)), (8, .pointer (some ⟨b1_10, 0, none⟩)), (9, .pointer (some ⟨b1_11, 0, none⟩)), (10, .int .i64 x1_5.2.2)] ?_
    refine a_own [0] (by decide) (L' := [.blk M1_5 (Memo x1_5.1)]) rfl ?_
    refine a_then (a_seq (a_seq (a_region rfl ?_)))
    refine ap (y_move rfl) ?_
    refine ap (y_neq rfl rfl) ?_
    refine a_nil ?_
    refine a_en [(2, .int .i64 p2), (3, .pointer (some ⟨b0_0, 0, none⟩)), (8, .pointer (some ⟨b1_10, 0, none⟩)), (9, .pointer (some ⟨b1_11, 0, none⟩)), (10, .int .i64 x1_5.2.2), (25, .bool (x1_5.2.2 != 0))] ?_
    refine a_then ?_
    refine a_cond rfl (fun h_ => absurd (h_.symm.trans k1_5) (by decide)) (fun _ => ?_)
    refine a_skip (a_then (a_seq ?_))
    obtain ⟨x4_4, q4_4, hm⟩ := bind_some hm
    obtain ⟨x4_8, q4_8, hm⟩ := bind_some hm
    refine d_region (S := Sw Hb1_11 []) (n := 15) (listed := (bits 15 0)) mixed (by kernel_rfl) rfl (by kernel_rfl) ?_
    refine d_abs fun U4 hU4 => ?_
    have N4_0 (Hn4_8 : Hp) (ln4_8 : HLe Hb1_11 Hn4_8) (b4_11 : Nat) (b4_12 : Nat) (u4_10 : List Value) (h4_10 : Rp.rep (α := Span) Hn4_8 u4_10 x4_8.Need) : At 53 [] (Kp.mk w H noX) [(11, .pointer (some ⟨b4_11, 0, none⟩)), (12, .pointer (some ⟨b4_12, 0, none⟩))] Hn4_8 [.blk M1_5 (Memo x1_5.1), .box b4_11 x4_4.cells 32, .box b4_12 u4_10 32] (U4 (Sw Hn4_8 []) 0 (bits 15 32767)) := by
      refine d_fwd hU4 ?_
      have hg := Glob.mono ln4_8 hg
      refine d_done (by kernel_rfl) ?_
      refine a_freeze (α := Span) (x := x4_4) (i := 1) rfl (Span.rep_mk _ x4_4) ?_
      intro Hb4_11 lb4_11 hb4_11
      have h4_10 := Rp.mono lb4_11 h4_10
      have hg := Glob.mono lb4_11 hg
      refine a_freeze (α := Span) (x := x4_8.Need) (i := 2) rfl h4_10 ?_
      intro Hb4_12 lb4_12 hb4_12
      have hb4_11 := PAt.mono lb4_12 hb4_11
      have hg := Glob.mono lb4_12 hg
      refine a_own [0] (by decide) (L' := [.blk M1_5 (Memo x1_5.1)]) rfl ?_
      refine a_then (a_seq (a_region rfl ?_))
      refine ap (y_assign rfl) ?_
      refine a_nil (a_then (a_seq (a_seq (a_region rfl ?_))))
      have h6_0 := Span.at_Low hb4_11
      refine ap (y_fieldAddr fo32_0 rfl) ?_
      refine ap (y_load_int ty3 rfl (fun _ h => h.sub) rfl h6_0) ?_
      have h6_2 := Span.at_Low hb4_12
      refine ap (y_fieldAddr fo32_0 rfl) ?_
      refine ap (y_load_int ty3 rfl (fun _ h => h.sub) rfl h6_2) ?_
      refine ap (y_lss rfl rfl) ?_
      refine a_nil ?_
      refine a_en [(11, .pointer (some ⟨b4_11, 0, none⟩)), (12, .pointer (some ⟨b4_12, 0, none⟩)), (13, .int .i64 0), (42, .bool (decide (x4_4.Low < x4_8.Need.Low)))] ?_
      refine a_then ?_
      refine a_cond rfl (fun k_1 => ?_) (fun k_1 => ?_)
      · have hm := cond_t k_1 hm
        refine a_region rfl ?_
        refine ap (y_move rfl) ?_
        refine ap (y_add rfl rfl) ?_
        refine ap (y_assign rfl) ?_
        refine a_nil ?_
        refine a_en [(11, .pointer (some ⟨b4_11, 0, none⟩)), (12, .pointer (some ⟨b4_12, 0, none⟩)), (13, .int .i64 (IntKind.i64.wrap (0 + 1)))] ?_
        refine a_then (a_seq (a_seq (a_region rfl ?_)))
        have h8_0 := Span.at_High hb4_11
        refine ap (y_fieldAddr fo32_1 rfl) ?_
        refine ap (y_load_int ty3 rfl (fun _ h => h.sub) rfl h8_0) ?_
        have h8_2 := Span.at_High hb4_12
        refine ap (y_fieldAddr fo32_1 rfl) ?_
        refine ap (y_load_int ty3 rfl (fun _ h => h.sub) rfl h8_2) ?_
        refine ap (y_gtr rfl rfl) ?_
        refine a_nil ?_
        refine a_en [(13, .int .i64 (IntKind.i64.wrap (0 + 1))), (49, .bool (decide (x4_4.High > x4_8.Need.High)))] ?_
        refine a_then ?_
        refine a_cond rfl (fun k_2 => ?_) (fun k_2 => ?_)
        · have hm := cond_t k_2 hm
          refine a_region rfl ?_
          refine ap (y_move rfl) ?_
          refine ap (y_add rfl rfl) ?_
          refine ap (y_assign rfl) ?_
          refine a_nil ?_
          refine a_en [(13, .int .i64 (IntKind.i64.wrap ((IntKind.i64.wrap (0 + 1)) + 2)))] ?_
          refine a_then (a_seq (a_region rfl ?_))
          refine ap (y_move rfl) ?_
          refine ap (y_assign rfl) ?_
          refine ap (y_assign rfl) ?_
          refine a_nil ?_
          refine a_en [(6, .int .i64 (IntKind.i64.wrap ((IntKind.i64.wrap (0 + 1)) + 2))), (7, .int .i64 0)] ?_
          refine a_then (a_ret ?_)
          refine a_done (v := .tuple #[.int .i64 (IntKind.i64.wrap ((IntKind.i64.wrap (0 + 1)) + 2)), .int .i64 0]) (.inl rfl) rfl ?_ ?_
          · intro a_ w_ ha_ hs_; exact run_results (P := Tryd.prog) (fn := Tryd.f25) (rs := [.tmp 6, .tmp 7]) (vs := [.int .i64 (IntKind.i64.wrap ((IntKind.i64.wrap (0 + 1)) + 2)), .int .i64 0]) rfl (.cons (rv_tmp ha_ rfl) (.cons (rv_tmp ha_ rfl) (All2.nil)))
          · intro _ _; obtain rfl := Option.some.inj hm
            rfl
        have hm := cond_f k_2 hm
        refine a_skip (a_then (a_seq (a_region rfl ?_)))
        refine ap (y_move rfl) ?_
        refine ap (y_assign rfl) ?_
        refine ap (y_assign rfl) ?_
        refine a_nil ?_
        refine a_en [(6, .int .i64 (IntKind.i64.wrap (0 + 1))), (7, .int .i64 0)] ?_
        refine a_then (a_ret ?_)
        refine a_done (v := .tuple #[.int .i64 (IntKind.i64.wrap (0 + 1)), .int .i64 0]) (.inl rfl) rfl ?_ ?_
        · intro a_ w_ ha_ hs_; exact run_results (P := Tryd.prog) (fn := Tryd.f25) (rs := [.tmp 6, .tmp 7]) (vs := [.int .i64 (IntKind.i64.wrap (0 + 1)), .int .i64 0]) rfl (.cons (rv_tmp ha_ rfl) (.cons (rv_tmp ha_ rfl) (All2.nil)))
        · intro _ _; obtain rfl := Option.some.inj hm
          rfl
      have hm := cond_f k_1 hm
      refine a_skip (a_then (a_seq (a_seq (a_region rfl ?_))))
      have h8_0 := Span.at_High hb4_11
      refine ap (y_fieldAddr fo32_1 rfl) ?_
      refine ap (y_load_int ty3 rfl (fun _ h => h.sub) rfl h8_0) ?_
      have h8_2 := Span.at_High hb4_12
      refine ap (y_fieldAddr fo32_1 rfl) ?_
      refine ap (y_load_int ty3 rfl (fun _ h => h.sub) rfl h8_2) ?_
      refine ap (y_gtr rfl rfl) ?_
      refine a_nil ?_
      refine a_en [(13, .int .i64 0), (49, .bool (decide (x4_4.High > x4_8.Need.High)))] ?_
      refine a_then ?_
      refine a_cond rfl (fun k_3 => ?_) (fun k_3 => ?_)
      · have hm := cond_t k_3 hm
        refine a_region rfl ?_
        refine ap (y_move rfl) ?_
        refine ap (y_add rfl rfl) ?_
        refine ap (y_assign rfl) ?_
        refine a_nil ?_
        refine a_en [(13, .int .i64 (IntKind.i64.wrap (0 + 2)))] ?_
        refine a_then (a_seq (a_region rfl ?_))
        refine ap (y_move rfl) ?_
        refine ap (y_assign rfl) ?_
        refine ap (y_assign rfl) ?_
        refine a_nil ?_
        refine a_en [(6, .int .i64 (IntKind.i64.wrap (0 + 2))), (7, .int .i64 0)] ?_
        refine a_then (a_ret ?_)
        refine a_done (v := .tuple #[.int .i64 (IntKind.i64.wrap (0 + 2)), .int .i64 0]) (.inl rfl) rfl ?_ ?_
        · intro a_ w_ ha_ hs_; exact run_results (P := Tryd.prog) (fn := Tryd.f25) (rs := [.tmp 6, .tmp 7]) (vs := [.int .i64 (IntKind.i64.wrap (0 + 2)), .int .i64 0]) rfl (.cons (rv_tmp ha_ rfl) (.cons (rv_tmp ha_ rfl) (All2.nil)))
        · intro _ _; obtain rfl := Option.some.inj hm
          rfl
      have hm := cond_f k_3 hm
      refine a_skip (a_then (a_seq (a_region rfl ?_)))
      refine ap (y_move rfl) ?_
      refine ap (y_assign rfl) ?_
      refine ap (y_assign rfl) ?_
      refine a_nil ?_
      refine a_en [(6, .int .i64 0), (7, .int .i64 0)] ?_
      refine a_then (a_ret ?_)
      refine a_done (v := .tuple #[.int .i64 0, .int .i64 0]) (.inl rfl) rfl ?_ ?_
      · intro a_ w_ ha_ hs_; exact run_results (P := Tryd.prog) (fn := Tryd.f25) (rs := [.tmp 6, .tmp 7]) (vs := [.int .i64 0, .int .i64 0]) rfl (.cons (rv_tmp ha_ rfl) (.cons (rv_tmp ha_ rfl) (All2.nil)))
      · intro _ _; obtain rfl := Option.some.inj hm
        rfl
    have N4_1 (Hn4_7 : Hp) (ln4_7 : HLe Hb1_11 Hn4_7) (b4_11 : Nat) (b4_12 : Nat) (u4_10 : List Value) (h4_10 : Rp.rep (α := Span) Hn4_7 u4_10 x4_8.Need) : At 53 [] (Kp.mk w H noX) [(11, .pointer (some ⟨b4_11, 0, none⟩)), (12, .pointer (some ⟨b4_12, 0, none⟩)), (37, .agg u4_10.toArray)] Hn4_7 ([.blk M1_5 (Memo x1_5.1), .box b4_11 x4_4.cells 32, .box b4_12 [.int .i64 0, .int .i64 0] 32]) (U4 (Sw Hn4_7 []) 1 (bits 15 16383)) := by
      refine d_fwd hU4 ?_
      have hg := Glob.mono ln4_7 hg
      refine d1 14 rfl (e_storeWhole (i := 2) (ds := u4_10) trivial ty32 rfl rfl rfl rfl (Rp.len h4_10) ((Rp.one h4_10)) rfl ?_)
      refine dn 32767 (sw0 []) ?_
      exact d_edge hU4 (N4_0 Hn4_7 ln4_7 b4_11 b4_12 u4_10 h4_10) ⟨rfl, rfl, trivial⟩ [0, 1, 2] (by decide) rfl (fun _ h => h)
    have N4_2 (Hn4_6 : Hp) (ln4_6 : HLe Hb1_11 Hn4_6) (b4_11 : Nat) (b4_12 : Nat) (u4_10 : List Value) (h4_10 : Rp.rep (α := Span) Hn4_6 u4_10 x4_8.Need) : At 53 [] (Kp.mk w H noX) [(11, .pointer (some ⟨b4_11, 0, none⟩)), (12, .pointer (some ⟨b4_12, 0, none⟩)), (31, .agg x4_4.cells.toArray), (37, .agg u4_10.toArray)] Hn4_6 ([.blk M1_5 (Memo x1_5.1), .box b4_11 [.int .i64 0, .int .i64 0] 32, .box b4_12 [.int .i64 0, .int .i64 0] 32]) (U4 (Sw Hn4_6 []) 2 (bits 15 8191)) := by
      refine d_fwd hU4 ?_
      have hg := Glob.mono ln4_6 hg
      refine d1 13 rfl (e_storeWhole (i := 1) (ds := x4_4.cells) trivial ty32 rfl rfl rfl rfl rfl ((Rp.one (Span.rep_mk (fun _ => none) x4_4))) rfl ?_)
      refine dn 16383 (sw0 []) ?_
      exact d_edge hU4 (N4_1 Hn4_6 ln4_6 b4_11 b4_12 u4_10 h4_10) ⟨rfl, rfl, rfl, trivial⟩ [0, 1, 2] (by decide) rfl (fun _ h => h)
    have N4_3 (Hn4_9 : Hp) (ln4_9 : HLe Hb1_11 Hn4_9) (b4_11 : Nat) (u4_10 : List Value) (h4_10 : Rp.rep (α := Span) Hn4_9 u4_10 x4_8.Need) : At 53 [] (Kp.mk w H noX) [(11, .pointer (some ⟨b4_11, 0, none⟩)), (31, .agg x4_4.cells.toArray), (37, .agg u4_10.toArray)] Hn4_9 ([.blk M1_5 (Memo x1_5.1), .box b4_11 [.int .i64 0, .int .i64 0] 32]) (U4 (Sw Hn4_9 []) 3 (bits 15 4095)) := by
      refine d_fwd hU4 ?_
      have hg := Glob.mono ln4_9 hg
      refine d1 12 rfl (e_alloc (cs := [.int .i64 0, .int .i64 0]) trivial rfl ty32 rfl ?_)
      intro b4_12
      refine dn 8191 (sw0 []) ?_
      exact d_edge hU4 (N4_2 Hn4_9 ln4_9 b4_11 b4_12 u4_10 h4_10) ⟨rfl, rfl, rfl, rfl, trivial⟩ [1, 2, 0] (by decide) rfl (fun _ h => h)
    have N4_4 (Hn4_4 : Hp) (ln4_4 : HLe Hb1_11 Hn4_4) (b4_12 : Nat) (u4_10 : List Value) (h4_10 : Rp.rep (α := Span) Hn4_4 u4_10 x4_8.Need) : At 53 [] (Kp.mk w H noX) [(12, .pointer (some ⟨b4_12, 0, none⟩)), (31, .agg x4_4.cells.toArray), (37, .agg u4_10.toArray)] Hn4_4 ([.blk M1_5 (Memo x1_5.1), .box b4_12 [.int .i64 0, .int .i64 0] 32]) (U4 (Sw Hn4_4 []) 3 (bits 15 6143)) := by
      refine d_fwd hU4 ?_
      have hg := Glob.mono ln4_4 hg
      refine d1 11 rfl (e_alloc (cs := [.int .i64 0, .int .i64 0]) trivial rfl ty32 rfl ?_)
      intro b4_11
      refine dn 8191 (sw0 []) ?_
      exact d_edge hU4 (N4_2 Hn4_4 ln4_4 b4_11 b4_12 u4_10 h4_10) ⟨rfl, rfl, rfl, rfl, trivial⟩ [1, 0, 2] (by decide) rfl (fun _ h => h)
    have N4_5 (Hn4_5 : Hp) (ln4_5 : HLe Hb1_11 Hn4_5) (b4_11 : Nat) (b4_12 : Nat) (u4_0 : List Value) (u4_2 : List Value) (u4_10 : List Value) (h4_0 : Rp.rep (α := Bk (some M1_5)) Hn4_5 u4_0 x1_5.1) (m4_3 : Rp.rep (α := TunnelDrying) Hn4_5 ([Value.int .i64 p2] ++ (u4_2)) (⟨p2, x1_5.2.1⟩ : TunnelDrying)) (h4_10 : Rp.rep (α := Span) Hn4_5 u4_10 x4_8.Need) : At 53 [] (Kp.mk w H noX) [(11, .pointer (some ⟨b4_11, 0, none⟩)), (12, .pointer (some ⟨b4_12, 0, none⟩)), (27, .agg u4_0.toArray), (30, .agg ([Value.int .i64 p2] ++ (u4_2)).toArray), (37, .agg u4_10.toArray)] Hn4_5 ([.blk M1_5 (Memo x1_5.1), .box b4_11 [.int .i64 0, .int .i64 0] 32, .box b4_12 [.int .i64 0, .int .i64 0] 32]) (U4 (Sw Hn4_5 []) 3 (bits 15 8175)) := by
      refine d_fwd hU4 ?_
      have hg := Glob.mono ln4_5 hg
      refine d1 4 rfl (e_callM (i := 0) (all := [.agg u4_0.toArray, .agg ([Value.int .i64 p2] ++ (u4_2)).toArray]) trivial rfl Tryd.func89 rfl rfl rfl rfl rfl rfl (fun w hw ho hn => ok_89 hw h4_0 m4_3 hg ho hn q4_4) ?_)
      rintro _ H4_4 l4_4 ⟨rfl⟩
      have h4_0 := Rp.mono l4_4 h4_0
      have m4_3 := Rp.mono l4_4 m4_3
      have h4_10 := Rp.mono l4_4 h4_10
      have hg := Glob.mono l4_4 hg
      refine dn 8191 (swl l4_4 []) ?_
      exact d_edge hU4 (N4_2 H4_4 (ln4_5.trans l4_4) b4_11 b4_12 u4_10 h4_10) ⟨rfl, rfl, rfl, rfl, trivial⟩ [0, 1, 2] (by decide) rfl (sw_sw l4_4 [] rfl)
    have N4_6 (Hn4_1 : Hp) (ln4_1 : HLe Hb1_11 Hn4_1) (u4_10 : List Value) (h4_10 : Rp.rep (α := Span) Hn4_1 u4_10 x4_8.Need) : At 53 [] (Kp.mk w H noX) [(31, .agg x4_4.cells.toArray), (37, .agg u4_10.toArray)] Hn4_1 [.blk M1_5 (Memo x1_5.1)] (U4 (Sw Hn4_1 []) 4 (bits 15 2047)) := by
      refine d_fwd hU4 ?_
      have hg := Glob.mono ln4_1 hg
      refine d_all (rs := [11, 12]) (by kernel_rfl) rfl ⟨⟨_, rfl, ?_⟩, ⟨_, rfl, ?_⟩, trivial⟩
      · refine e_alloc (cs := [.int .i64 0, .int .i64 0]) trivial rfl ty32 rfl ?_
        intro b4_11
        refine dn 4095 (sw0 []) ?_
        exact d_edge hU4 (N4_3 Hn4_1 ln4_1 b4_11 u4_10 h4_10) ⟨rfl, rfl, rfl, trivial⟩ [1, 0] (by decide) rfl (fun _ h => h)
      refine e_alloc (cs := [.int .i64 0, .int .i64 0]) trivial rfl ty32 rfl ?_
      intro b4_12
      refine dn 6143 (sw0 []) ?_
      exact d_edge hU4 (N4_4 Hn4_1 ln4_1 b4_12 u4_10 h4_10) ⟨rfl, rfl, rfl, trivial⟩ [1, 0] (by decide) rfl (fun _ h => h)
    have N4_7 (Hn4_2 : Hp) (ln4_2 : HLe Hb1_11 Hn4_2) (b4_11 : Nat) (u4_0 : List Value) (u4_2 : List Value) (u4_10 : List Value) (h4_0 : Rp.rep (α := Bk (some M1_5)) Hn4_2 u4_0 x1_5.1) (m4_3 : Rp.rep (α := TunnelDrying) Hn4_2 ([Value.int .i64 p2] ++ (u4_2)) (⟨p2, x1_5.2.1⟩ : TunnelDrying)) (h4_10 : Rp.rep (α := Span) Hn4_2 u4_10 x4_8.Need) : At 53 [] (Kp.mk w H noX) [(11, .pointer (some ⟨b4_11, 0, none⟩)), (27, .agg u4_0.toArray), (30, .agg ([Value.int .i64 p2] ++ (u4_2)).toArray), (37, .agg u4_10.toArray)] Hn4_2 ([.blk M1_5 (Memo x1_5.1), .box b4_11 [.int .i64 0, .int .i64 0] 32]) (U4 (Sw Hn4_2 []) 4 (bits 15 4079)) := by
      refine d_fwd hU4 ?_
      have hg := Glob.mono ln4_2 hg
      refine d_all (rs := [4, 12]) (by kernel_rfl) rfl ⟨⟨_, rfl, ?_⟩, ⟨_, rfl, ?_⟩, trivial⟩
      · refine e_callM (i := 0) (all := [.agg u4_0.toArray, .agg ([Value.int .i64 p2] ++ (u4_2)).toArray]) trivial rfl Tryd.func89 rfl rfl rfl rfl rfl rfl (fun w hw ho hn => ok_89 hw h4_0 m4_3 hg ho hn q4_4) ?_
        rintro _ H4_4 l4_4 ⟨rfl⟩
        have h4_0 := Rp.mono l4_4 h4_0
        have m4_3 := Rp.mono l4_4 m4_3
        have h4_10 := Rp.mono l4_4 h4_10
        have hg := Glob.mono l4_4 hg
        refine dn 4095 (swl l4_4 []) ?_
        exact d_edge hU4 (N4_3 H4_4 (ln4_2.trans l4_4) b4_11 u4_10 h4_10) ⟨rfl, rfl, rfl, trivial⟩ [0, 1] (by decide) rfl (sw_sw l4_4 [] rfl)
      refine e_alloc (cs := [.int .i64 0, .int .i64 0]) trivial rfl ty32 rfl ?_
      intro b4_12
      refine dn 8175 (sw0 []) ?_
      exact d_edge hU4 (N4_5 Hn4_2 ln4_2 b4_11 b4_12 u4_0 u4_2 u4_10 h4_0 m4_3 h4_10) ⟨rfl, rfl, rfl, rfl, rfl, trivial⟩ [1, 2, 0] (by decide) rfl (fun _ h => h)
    have N4_8 (Hn4_3 : Hp) (ln4_3 : HLe Hb1_11 Hn4_3) (b4_12 : Nat) (u4_0 : List Value) (u4_2 : List Value) (u4_10 : List Value) (h4_0 : Rp.rep (α := Bk (some M1_5)) Hn4_3 u4_0 x1_5.1) (m4_3 : Rp.rep (α := TunnelDrying) Hn4_3 ([Value.int .i64 p2] ++ (u4_2)) (⟨p2, x1_5.2.1⟩ : TunnelDrying)) (h4_10 : Rp.rep (α := Span) Hn4_3 u4_10 x4_8.Need) : At 53 [] (Kp.mk w H noX) [(12, .pointer (some ⟨b4_12, 0, none⟩)), (27, .agg u4_0.toArray), (30, .agg ([Value.int .i64 p2] ++ (u4_2)).toArray), (37, .agg u4_10.toArray)] Hn4_3 ([.blk M1_5 (Memo x1_5.1), .box b4_12 [.int .i64 0, .int .i64 0] 32]) (U4 (Sw Hn4_3 []) 4 (bits 15 6127)) := by
      refine d_fwd hU4 ?_
      have hg := Glob.mono ln4_3 hg
      refine d_all (rs := [4, 11]) (by kernel_rfl) rfl ⟨⟨_, rfl, ?_⟩, ⟨_, rfl, ?_⟩, trivial⟩
      · refine e_callM (i := 0) (all := [.agg u4_0.toArray, .agg ([Value.int .i64 p2] ++ (u4_2)).toArray]) trivial rfl Tryd.func89 rfl rfl rfl rfl rfl rfl (fun w hw ho hn => ok_89 hw h4_0 m4_3 hg ho hn q4_4) ?_
        rintro _ H4_4 l4_4 ⟨rfl⟩
        have h4_0 := Rp.mono l4_4 h4_0
        have m4_3 := Rp.mono l4_4 m4_3
        have h4_10 := Rp.mono l4_4 h4_10
        have hg := Glob.mono l4_4 hg
        refine dn 6143 (swl l4_4 []) ?_
        exact d_edge hU4 (N4_4 H4_4 (ln4_3.trans l4_4) b4_12 u4_10 h4_10) ⟨rfl, rfl, rfl, trivial⟩ [0, 1] (by decide) rfl (sw_sw l4_4 [] rfl)
      refine e_alloc (cs := [.int .i64 0, .int .i64 0]) trivial rfl ty32 rfl ?_
      intro b4_11
      refine dn 8175 (sw0 []) ?_
      exact d_edge hU4 (N4_5 Hn4_3 ln4_3 b4_11 b4_12 u4_0 u4_2 u4_10 h4_0 m4_3 h4_10) ⟨rfl, rfl, rfl, rfl, rfl, trivial⟩ [1, 0, 2] (by decide) rfl (fun _ h => h)
    refine d_fwd hU4 ?_
    obtain ⟨u4_0, h4_0, c4_0⟩ := PAt.one hb1_10
    refine dt 0 1 rfl trivial (y_load_cells ty110 rfl (fun _ h => h.1) rfl c4_0 (Rp.len h4_0)) (sw0 []) ?_
    refine dt 1 3 rfl trivial (y_move rfl) (sw0 []) ?_
    obtain ⟨u4_2, h4_2, c4_2⟩ := PAt.one hb1_11
    refine dt 2 7 rfl trivial (y_load_cells ty111 rfl (fun _ h => h.1) rfl c4_2 (Rp.len h4_2)) (sw0 []) ?_
    have m4_3 : Rp.rep Hb1_11 ([Value.int .i64 p2] ++ (u4_2)) (⟨p2, x1_5.2.1⟩ : TunnelDrying) := ⟨_, _, rfl, rfl, h4_2⟩
    refine dt 3 15 rfl trivial (y_build (pl := [(0, 1), (1, 4)]) (xs := [.tmp 28, .tmp 29]) (cs := [Value.int .i64 p2] ++ (u4_2)) ty120 (.cons ⟨rfl, ty3.szOf⟩ (.cons ⟨rfl, ty111.szOf⟩ (All2.nil))) rfl rfl ⟨_, rfl, rfl, ⟨_, by show List.length _ = _; exact Rp.len h4_2, rfl, trivial⟩⟩ (by rw [Rp.len m4_3]; rfl) (by simp [Value.cells])) (sw0 []) ?_
    have h4_5 := TunnelBook.at_Frames hb0_0
    refine dt 5 47 rfl trivial (y_fieldAddr fo25_1 rfl) (sw0 []) ?_
    obtain ⟨v4_6, h4_6, c4_6⟩ := PAt.sl h4_5
    refine dt 6 111 rfl trivial (y_load_one ty23 rfl (fun _ h => h.1) rfl c4_6) (sw0 []) ?_
    refine dt 7 239 rfl trivial (y_move rfl) (sw0 []) ?_
    obtain ⟨b4_8, o4_8, c4_8, e4_8, h4_8⟩ := Sl.elemZ 3 rfl h4_6 q4_8
    refine dt 8 495 rfl trivial (y_index Tryd.underlying23 ty55 rfl e4_8 rfl (nth_in q4_8)) (sw0 []) ?_
    have h4_9 := TunnelFrame.at_Need h4_8
    refine dt 9 1007 rfl trivial (y_fieldAddr fo55_1 rfl) (sw0 []) ?_
    obtain ⟨u4_10, h4_10, c4_10⟩ := PAt.one h4_9
    refine dt 10 2031 rfl trivial (y_load_cells ty32 rfl (fun _ h => h.1) rfl c4_10 (Rp.len h4_10)) (sw0 []) ?_
    refine d_all (rs := [4, 11, 12]) (by kernel_rfl) rfl ⟨⟨_, rfl, ?_⟩, ⟨_, rfl, ?_⟩, ⟨_, rfl, ?_⟩, trivial⟩
    · refine e_callM (i := 0) (all := [.agg u4_0.toArray, .agg ([Value.int .i64 p2] ++ (u4_2)).toArray]) trivial rfl Tryd.func89 rfl rfl rfl rfl rfl rfl (fun w hw ho hn => ok_89 hw h4_0 m4_3 hg ho hn q4_4) ?_
      rintro _ H4_4 l4_4 ⟨rfl⟩
      have hb0_0 := PAt.mono l4_4 hb0_0
      have hb1_10 := PAt.mono l4_4 hb1_10
      have hb1_11 := PAt.mono l4_4 hb1_11
      have h4_0 := Rp.mono l4_4 h4_0
      have h4_2 := Rp.mono l4_4 h4_2
      have m4_3 := Rp.mono l4_4 m4_3
      have h4_5 := PAt.mono l4_4 h4_5
      have h4_6 := Sl.mono l4_4 h4_6
      have h4_8 := PAt.mono l4_4 h4_8
      have h4_9 := PAt.mono l4_4 h4_9
      have h4_10 := Rp.mono l4_4 h4_10
      have hg := Glob.mono l4_4 hg
      refine dn 2047 (swl l4_4 []) ?_
      exact d_edge hU4 (N4_6 H4_4 l4_4 u4_10 h4_10) ⟨rfl, rfl, trivial⟩ [0] (by decide) rfl (sw_sw l4_4 [] rfl)
    · refine e_alloc (cs := [.int .i64 0, .int .i64 0]) trivial rfl ty32 rfl ?_
      intro b4_11
      refine dn 4079 (sw0 []) ?_
      exact d_edge hU4 (N4_7 Hb1_11 (HLe.refl _) b4_11 u4_0 u4_2 u4_10 h4_0 m4_3 h4_10) ⟨rfl, rfl, rfl, rfl, trivial⟩ [1, 0] (by decide) rfl (fun _ h => h)
    refine e_alloc (cs := [.int .i64 0, .int .i64 0]) trivial rfl ty32 rfl ?_
    intro b4_12
    refine dn 6127 (sw0 []) ?_
    exact d_edge hU4 (N4_8 Hb1_11 (HLe.refl _) b4_12 u4_0 u4_2 u4_10 h4_0 m4_3 h4_10) ⟨rfl, rfl, rfl, rfl, trivial⟩ [1, 0] (by decide) rfl (fun _ h => h)
  have N1_1 (Hn1_8 : Hp) (ln1_8 : HLe Hb0_0 Hn1_8) (b1_10 : Nat) (b1_11 : Nat) (cs1_5 : List Value) (M1_5 : Nat) (cb1_5 : List Value) (hc1_5 : Rp.rep (α := Arr 4 Int) Hn1_8 cs1_5 x1_5.2.1) (hb1_5 : Rp.rep (α := Bk (some M1_5)) Hn1_8 cb1_5 x1_5.1) (mz1_11 : Rp.rep (α := Arr 4 Int) Hn1_8 [.int .i64 0, .int .i64 0, .int .i64 0, .int .i64 0] [0, 0, 0, 0]) : At 53 [] (Kp.mk w H noX) [(2, .int .i64 p2), (3, .pointer (some ⟨b0_0, 0, none⟩)), (8, .pointer (some ⟨b1_10, 0, none⟩)), (9, .pointer (some ⟨b1_11, 0, none⟩)), (22, .agg cs1_5.toArray), (23, .int .i64 x1_5.2.2)] Hn1_8 ([.blk M1_5 (Memo x1_5.1), .box b1_10 cb1_5 110, .box b1_11 [.int .i64 0, .int .i64 0, .int .i64 0, .int .i64 0] 111]) (U1 (Sw Hn1_8 []) 2 (bits 15 8191)) := by
    refine d_fwd hU1 ?_
    have hb0_0 := PAt.mono ln1_8 hb0_0
    have hg := Glob.mono ln1_8 hg
    refine d1 13 rfl (e_storeWhole (i := 2) (ds := cs1_5) trivial ty111 rfl rfl rfl rfl (Rp.len hc1_5) ((Rp.one hc1_5)) rfl ?_)
    refine dn 16383 (sw0 []) ?_
    exact d_edge hU1 (N1_0 Hn1_8 ln1_8 b1_10 b1_11 M1_5 cb1_5 cs1_5 hb1_5 hc1_5) ⟨rfl, rfl, rfl, rfl, rfl, trivial⟩ [0, 1, 2] (by decide) rfl (fun _ h => h)
  have N1_2 (Hn1_11 : Hp) (ln1_11 : HLe Hb0_0 Hn1_11) (b1_10 : Nat) (b1_11 : Nat) (cb1_5 : List Value) (M1_5 : Nat) (cs1_5 : List Value) (hb1_5 : Rp.rep (α := Bk (some M1_5)) Hn1_11 cb1_5 x1_5.1) (hc1_5 : Rp.rep (α := Arr 4 Int) Hn1_11 cs1_5 x1_5.2.1) (mz1_11 : Rp.rep (α := Arr 4 Int) Hn1_11 [.int .i64 0, .int .i64 0, .int .i64 0, .int .i64 0] [0, 0, 0, 0]) : At 53 [] (Kp.mk w H noX) [(2, .int .i64 p2), (3, .pointer (some ⟨b0_0, 0, none⟩)), (8, .pointer (some ⟨b1_10, 0, none⟩)), (9, .pointer (some ⟨b1_11, 0, none⟩)), (21, .agg cb1_5.toArray), (22, .agg cs1_5.toArray), (23, .int .i64 x1_5.2.2)] Hn1_11 ([.blk M1_5 (Memo x1_5.1), .box b1_10 [.slice none 0 0, .slice none 0 0, .map none] 110, .box b1_11 [.int .i64 0, .int .i64 0, .int .i64 0, .int .i64 0] 111]) (U1 (Sw Hn1_11 []) 3 (bits 15 4095)) := by
    refine d_fwd hU1 ?_
    have hb0_0 := PAt.mono ln1_11 hb0_0
    have hg := Glob.mono ln1_11 hg
    refine d1 12 rfl (e_storeWhole (i := 1) (ds := cb1_5) trivial ty110 rfl rfl rfl rfl (Rp.len hb1_5) ((Rp.one hb1_5)) rfl ?_)
    refine dn 8191 (sw0 []) ?_
    exact d_edge hU1 (N1_1 Hn1_11 ln1_11 b1_10 b1_11 cs1_5 M1_5 cb1_5 hc1_5 hb1_5 mz1_11) ⟨rfl, rfl, rfl, rfl, rfl, rfl, trivial⟩ [0, 1, 2] (by decide) rfl (fun _ h => h)
  have N1_3 (Hn1_15 : Hp) (ln1_15 : HLe Hb0_0 Hn1_15) (b1_10 : Nat) (cb1_5 : List Value) (M1_5 : Nat) (cs1_5 : List Value) (hb1_5 : Rp.rep (α := Bk (some M1_5)) Hn1_15 cb1_5 x1_5.1) (hc1_5 : Rp.rep (α := Arr 4 Int) Hn1_15 cs1_5 x1_5.2.1) : At 53 [] (Kp.mk w H noX) [(2, .int .i64 p2), (3, .pointer (some ⟨b0_0, 0, none⟩)), (8, .pointer (some ⟨b1_10, 0, none⟩)), (21, .agg cb1_5.toArray), (22, .agg cs1_5.toArray), (23, .int .i64 x1_5.2.2)] Hn1_15 ([.blk M1_5 (Memo x1_5.1), .box b1_10 [.slice none 0 0, .slice none 0 0, .map none] 110]) (U1 (Sw Hn1_15 []) 4 (bits 15 2047)) := by
    refine d_fwd hU1 ?_
    have hb0_0 := PAt.mono ln1_15 hb0_0
    have hg := Glob.mono ln1_15 hg
    refine d1 11 rfl (e_alloc (cs := [.int .i64 0, .int .i64 0, .int .i64 0, .int .i64 0]) trivial rfl ty111 rfl ?_)
    intro b1_11
    have mz1_11 := z111 Hn1_15
    refine dn 4095 (sw0 []) ?_
    exact d_edge hU1 (N1_2 Hn1_15 ln1_15 b1_10 b1_11 cb1_5 M1_5 cs1_5 hb1_5 hc1_5 mz1_11) ⟨rfl, rfl, rfl, rfl, rfl, rfl, rfl, trivial⟩ [1, 2, 0] (by decide) rfl (fun _ h => h)
  have N1_4 (Hn1_16 : Hp) (ln1_16 : HLe Hb0_0 Hn1_16) (b1_11 : Nat) (cb1_5 : List Value) (M1_5 : Nat) (cs1_5 : List Value) (hb1_5 : Rp.rep (α := Bk (some M1_5)) Hn1_16 cb1_5 x1_5.1) (hc1_5 : Rp.rep (α := Arr 4 Int) Hn1_16 cs1_5 x1_5.2.1) (mz1_11 : Rp.rep (α := Arr 4 Int) Hn1_16 [.int .i64 0, .int .i64 0, .int .i64 0, .int .i64 0] [0, 0, 0, 0]) : At 53 [] (Kp.mk w H noX) [(2, .int .i64 p2), (3, .pointer (some ⟨b0_0, 0, none⟩)), (9, .pointer (some ⟨b1_11, 0, none⟩)), (21, .agg cb1_5.toArray), (22, .agg cs1_5.toArray), (23, .int .i64 x1_5.2.2)] Hn1_16 ([.blk M1_5 (Memo x1_5.1), .box b1_11 [.int .i64 0, .int .i64 0, .int .i64 0, .int .i64 0] 111]) (U1 (Sw Hn1_16 []) 4 (bits 15 3071)) := by
    refine d_fwd hU1 ?_
    have hb0_0 := PAt.mono ln1_16 hb0_0
    have hg := Glob.mono ln1_16 hg
    refine d1 10 rfl (e_alloc (cs := [.slice none 0 0, .slice none 0 0, .map none]) trivial rfl ty110 rfl ?_)
    intro b1_10
    refine dn 4095 (sw0 []) ?_
    exact d_edge hU1 (N1_2 Hn1_16 ln1_16 b1_10 b1_11 cb1_5 M1_5 cs1_5 hb1_5 hc1_5 mz1_11) ⟨rfl, rfl, rfl, rfl, rfl, rfl, rfl, trivial⟩ [1, 0, 2] (by decide) rfl (fun _ h => h)
  have N1_5 (Hn1_7 : Hp) (ln1_7 : HLe Hb0_0 Hn1_7) (b1_10 : Nat) (b1_11 : Nat) (cb1_5 : List Value) (M1_5 : Nat) (cs1_5 : List Value) (hb1_5 : Rp.rep (α := Bk (some M1_5)) Hn1_7 cb1_5 x1_5.1) (hc1_5 : Rp.rep (α := Arr 4 Int) Hn1_7 cs1_5 x1_5.2.1) (mz1_11 : Rp.rep (α := Arr 4 Int) Hn1_7 [.int .i64 0, .int .i64 0, .int .i64 0, .int .i64 0] [0, 0, 0, 0]) : At 53 [] (Kp.mk w H noX) [(2, .int .i64 p2), (3, .pointer (some ⟨b0_0, 0, none⟩)), (8, .pointer (some ⟨b1_10, 0, none⟩)), (9, .pointer (some ⟨b1_11, 0, none⟩)), (20, .tuple #[.agg cb1_5.toArray, .agg cs1_5.toArray, .int .i64 x1_5.2.2])] Hn1_7 ([.blk M1_5 (Memo x1_5.1), .box b1_10 [.slice none 0 0, .slice none 0 0, .map none] 110, .box b1_11 [.int .i64 0, .int .i64 0, .int .i64 0, .int .i64 0] 111]) (U1 (Sw Hn1_7 []) 7 (bits 15 3135)) := by
    refine d_fwd hU1 ?_
    have hb0_0 := PAt.mono ln1_7 hb0_0
    have hg := Glob.mono ln1_7 hg
    refine dt 6 3199 rfl trivial (y_move rfl) (sw0 []) ?_
    refine dt 7 3327 rfl trivial (y_extract rfl rfl) (sw0 []) ?_
    refine dt 8 3583 rfl trivial (y_extract rfl rfl) (sw0 []) ?_
    refine dt 9 4095 rfl trivial (y_extract rfl rfl) (sw0 []) ?_
    refine d1 12 rfl (e_storeWhole (i := 1) (ds := cb1_5) trivial ty110 rfl rfl rfl rfl (Rp.len hb1_5) ((Rp.one hb1_5)) rfl ?_)
    refine dn 8191 (sw0 []) ?_
    exact d_edge hU1 (N1_1 Hn1_7 ln1_7 b1_10 b1_11 cs1_5 M1_5 cb1_5 hc1_5 hb1_5 mz1_11) ⟨rfl, rfl, rfl, rfl, rfl, rfl, trivial⟩ [0, 1, 2] (by decide) rfl (fun _ h => h)
  have N1_6 (Hn1_13 : Hp) (ln1_13 : HLe Hb0_0 Hn1_13) (b1_10 : Nat) (cb1_5 : List Value) (M1_5 : Nat) (cs1_5 : List Value) (hb1_5 : Rp.rep (α := Bk (some M1_5)) Hn1_13 cb1_5 x1_5.1) (hc1_5 : Rp.rep (α := Arr 4 Int) Hn1_13 cs1_5 x1_5.2.1) : At 53 [] (Kp.mk w H noX) [(2, .int .i64 p2), (3, .pointer (some ⟨b0_0, 0, none⟩)), (8, .pointer (some ⟨b1_10, 0, none⟩)), (20, .tuple #[.agg cb1_5.toArray, .agg cs1_5.toArray, .int .i64 x1_5.2.2])] Hn1_13 ([.blk M1_5 (Memo x1_5.1), .box b1_10 [.slice none 0 0, .slice none 0 0, .map none] 110]) (U1 (Sw Hn1_13 []) 8 (bits 15 1087)) := by
    refine d_fwd hU1 ?_
    have hb0_0 := PAt.mono ln1_13 hb0_0
    have hg := Glob.mono ln1_13 hg
    refine dt 6 1151 rfl trivial (y_move rfl) (sw0 []) ?_
    refine dt 7 1279 rfl trivial (y_extract rfl rfl) (sw0 []) ?_
    refine dt 8 1535 rfl trivial (y_extract rfl rfl) (sw0 []) ?_
    refine dt 9 2047 rfl trivial (y_extract rfl rfl) (sw0 []) ?_
    refine d1 11 rfl (e_alloc (cs := [.int .i64 0, .int .i64 0, .int .i64 0, .int .i64 0]) trivial rfl ty111 rfl ?_)
    intro b1_11
    have mz1_11 := z111 Hn1_13
    refine dn 4095 (sw0 []) ?_
    exact d_edge hU1 (N1_2 Hn1_13 ln1_13 b1_10 b1_11 cb1_5 M1_5 cs1_5 hb1_5 hc1_5 mz1_11) ⟨rfl, rfl, rfl, rfl, rfl, rfl, rfl, trivial⟩ [1, 2, 0] (by decide) rfl (fun _ h => h)
  have N1_7 (Hn1_10 : Hp) (ln1_10 : HLe Hb0_0 Hn1_10) (b1_11 : Nat) (cb1_5 : List Value) (M1_5 : Nat) (cs1_5 : List Value) (hb1_5 : Rp.rep (α := Bk (some M1_5)) Hn1_10 cb1_5 x1_5.1) (hc1_5 : Rp.rep (α := Arr 4 Int) Hn1_10 cs1_5 x1_5.2.1) (mz1_11 : Rp.rep (α := Arr 4 Int) Hn1_10 [.int .i64 0, .int .i64 0, .int .i64 0, .int .i64 0] [0, 0, 0, 0]) : At 53 [] (Kp.mk w H noX) [(2, .int .i64 p2), (3, .pointer (some ⟨b0_0, 0, none⟩)), (9, .pointer (some ⟨b1_11, 0, none⟩)), (20, .tuple #[.agg cb1_5.toArray, .agg cs1_5.toArray, .int .i64 x1_5.2.2])] Hn1_10 ([.blk M1_5 (Memo x1_5.1), .box b1_11 [.int .i64 0, .int .i64 0, .int .i64 0, .int .i64 0] 111]) (U1 (Sw Hn1_10 []) 8 (bits 15 2111)) := by
    refine d_fwd hU1 ?_
    have hb0_0 := PAt.mono ln1_10 hb0_0
    have hg := Glob.mono ln1_10 hg
    refine dt 6 2175 rfl trivial (y_move rfl) (sw0 []) ?_
    refine dt 7 2303 rfl trivial (y_extract rfl rfl) (sw0 []) ?_
    refine dt 8 2559 rfl trivial (y_extract rfl rfl) (sw0 []) ?_
    refine dt 9 3071 rfl trivial (y_extract rfl rfl) (sw0 []) ?_
    refine d1 10 rfl (e_alloc (cs := [.slice none 0 0, .slice none 0 0, .map none]) trivial rfl ty110 rfl ?_)
    intro b1_10
    refine dn 4095 (sw0 []) ?_
    exact d_edge hU1 (N1_2 Hn1_10 ln1_10 b1_10 b1_11 cb1_5 M1_5 cs1_5 hb1_5 hc1_5 mz1_11) ⟨rfl, rfl, rfl, rfl, rfl, rfl, rfl, trivial⟩ [1, 0, 2] (by decide) rfl (fun _ h => h)
  have N1_8 (Hn1_6 : Hp) (ln1_6 : HLe Hb0_0 Hn1_6) (b1_10 : Nat) (b1_11 : Nat) (u1_0 : List Value) (h1_0 : Rp.rep (α := TunnelBook) Hn1_6 u1_0 p0) (mz1_11 : Rp.rep (α := Arr 4 Int) Hn1_6 [.int .i64 0, .int .i64 0, .int .i64 0, .int .i64 0] [0, 0, 0, 0]) : At 53 [] (Kp.mk w H noX) [(2, .int .i64 p2), (3, .pointer (some ⟨b0_0, 0, none⟩)), (8, .pointer (some ⟨b1_10, 0, none⟩)), (9, .pointer (some ⟨b1_11, 0, none⟩)), (15, .agg u1_0.toArray), (16, v1), (19, .bool x1_4)] Hn1_6 ([.box b1_10 [.slice none 0 0, .slice none 0 0, .map none] 110, .box b1_11 [.int .i64 0, .int .i64 0, .int .i64 0, .int .i64 0] 111]) (U1 (Sw Hn1_6 []) 8 (bits 15 3103)) := by
    refine d_fwd hU1 ?_
    have hb0_0 := PAt.mono ln1_6 hb0_0
    have h1 := Sl.mono ln1_6 h1
    have hg := Glob.mono ln1_6 hg
    refine d1 5 rfl (e_callO (all := [.agg u1_0.toArray, v1, .bool x1_4]) trivial rfl Tryd.func80 rfl rfl rfl rfl rfl (fun w hw => ok_80 hw h1_0 h1 q1_5) ?_)
    rintro _ H1_5 _ l1_5 ⟨cb1_5, cs1_5, mm1_5, rfl, hb1_5, hc1_5, hd1_5⟩
    rcases hd1_5 with ⟨rfl, he1_5, rfl⟩ | ⟨M1_5, rfl, he1_5, rfl⟩
    · exact absurd k1_5 (by simp [he1_5])
    have hb0_0 := PAt.mono l1_5 hb0_0
    have h1_0 := Rp.mono l1_5 h1_0
    have h1 := Sl.mono l1_5 h1
    have mz1_11 := Rp.mono l1_5 mz1_11
    have hg := Glob.mono l1_5 hg
    refine dn 3135 (swl l1_5 []) ?_
    exact d_edge hU1 (N1_5 H1_5 (ln1_6.trans l1_5) b1_10 b1_11 cb1_5 M1_5 cs1_5 hb1_5 hc1_5 mz1_11) ⟨rfl, rfl, rfl, rfl, rfl, trivial⟩ [0, 1, 2] (by decide) rfl (sw_sw l1_5 [] rfl)
  have N1_9 (Hn1_14 : Hp) (ln1_14 : HLe Hb0_0 Hn1_14) (cb1_5 : List Value) (M1_5 : Nat) (cs1_5 : List Value) (hb1_5 : Rp.rep (α := Bk (some M1_5)) Hn1_14 cb1_5 x1_5.1) (hc1_5 : Rp.rep (α := Arr 4 Int) Hn1_14 cs1_5 x1_5.2.1) : At 53 [] (Kp.mk w H noX) [(2, .int .i64 p2), (3, .pointer (some ⟨b0_0, 0, none⟩)), (20, .tuple #[.agg cb1_5.toArray, .agg cs1_5.toArray, .int .i64 x1_5.2.2])] Hn1_14 [.blk M1_5 (Memo x1_5.1)] (U1 (Sw Hn1_14 []) 9 (bits 15 63)) := by
    refine d_fwd hU1 ?_
    have hb0_0 := PAt.mono ln1_14 hb0_0
    have hg := Glob.mono ln1_14 hg
    refine dt 6 127 rfl trivial (y_move rfl) (sw0 []) ?_
    refine dt 7 255 rfl trivial (y_extract rfl rfl) (sw0 []) ?_
    refine dt 8 511 rfl trivial (y_extract rfl rfl) (sw0 []) ?_
    refine dt 9 1023 rfl trivial (y_extract rfl rfl) (sw0 []) ?_
    refine d_all (rs := [10, 11]) (by kernel_rfl) rfl ⟨⟨_, rfl, ?_⟩, ⟨_, rfl, ?_⟩, trivial⟩
    · refine e_alloc (cs := [.slice none 0 0, .slice none 0 0, .map none]) trivial rfl ty110 rfl ?_
      intro b1_10
      refine dn 2047 (sw0 []) ?_
      exact d_edge hU1 (N1_3 Hn1_14 ln1_14 b1_10 cb1_5 M1_5 cs1_5 hb1_5 hc1_5) ⟨rfl, rfl, rfl, rfl, rfl, rfl, trivial⟩ [1, 0] (by decide) rfl (fun _ h => h)
    refine e_alloc (cs := [.int .i64 0, .int .i64 0, .int .i64 0, .int .i64 0]) trivial rfl ty111 rfl ?_
    intro b1_11
    have mz1_11 := z111 Hn1_14
    refine dn 3071 (sw0 []) ?_
    exact d_edge hU1 (N1_4 Hn1_14 ln1_14 b1_11 cb1_5 M1_5 cs1_5 hb1_5 hc1_5 mz1_11) ⟨rfl, rfl, rfl, rfl, rfl, rfl, trivial⟩ [1, 0] (by decide) rfl (fun _ h => h)
  have N1_10 (Hn1_12 : Hp) (ln1_12 : HLe Hb0_0 Hn1_12) (b1_10 : Nat) (u1_0 : List Value) (h1_0 : Rp.rep (α := TunnelBook) Hn1_12 u1_0 p0) : At 53 [] (Kp.mk w H noX) [(2, .int .i64 p2), (3, .pointer (some ⟨b0_0, 0, none⟩)), (8, .pointer (some ⟨b1_10, 0, none⟩)), (15, .agg u1_0.toArray), (16, v1), (19, .bool x1_4)] Hn1_12 ([.box b1_10 [.slice none 0 0, .slice none 0 0, .map none] 110]) (U1 (Sw Hn1_12 []) 9 (bits 15 1055)) := by
    refine d_fwd hU1 ?_
    have hb0_0 := PAt.mono ln1_12 hb0_0
    have h1 := Sl.mono ln1_12 h1
    have hg := Glob.mono ln1_12 hg
    refine d_all (rs := [5, 11]) (by kernel_rfl) rfl ⟨⟨_, rfl, ?_⟩, ⟨_, rfl, ?_⟩, trivial⟩
    · refine e_callO (all := [.agg u1_0.toArray, v1, .bool x1_4]) trivial rfl Tryd.func80 rfl rfl rfl rfl rfl (fun w hw => ok_80 hw h1_0 h1 q1_5) ?_
      rintro _ H1_5 _ l1_5 ⟨cb1_5, cs1_5, mm1_5, rfl, hb1_5, hc1_5, hd1_5⟩
      rcases hd1_5 with ⟨rfl, he1_5, rfl⟩ | ⟨M1_5, rfl, he1_5, rfl⟩
      · exact absurd k1_5 (by simp [he1_5])
      have hb0_0 := PAt.mono l1_5 hb0_0
      have h1_0 := Rp.mono l1_5 h1_0
      have h1 := Sl.mono l1_5 h1
      have hg := Glob.mono l1_5 hg
      refine dn 1087 (swl l1_5 []) ?_
      exact d_edge hU1 (N1_6 H1_5 (ln1_12.trans l1_5) b1_10 cb1_5 M1_5 cs1_5 hb1_5 hc1_5) ⟨rfl, rfl, rfl, rfl, trivial⟩ [0, 1] (by decide) rfl (sw_sw l1_5 [] rfl)
    refine e_alloc (cs := [.int .i64 0, .int .i64 0, .int .i64 0, .int .i64 0]) trivial rfl ty111 rfl ?_
    intro b1_11
    have mz1_11 := z111 Hn1_12
    refine dn 3103 (sw0 []) ?_
    exact d_edge hU1 (N1_8 Hn1_12 ln1_12 b1_10 b1_11 u1_0 h1_0 mz1_11) ⟨rfl, rfl, rfl, rfl, rfl, rfl, rfl, trivial⟩ [1, 0] (by decide) rfl (fun _ h => h)
  have N1_11 (Hn1_4 : Hp) (ln1_4 : HLe Hb0_0 Hn1_4) (b1_11 : Nat) (u1_0 : List Value) (h1_0 : Rp.rep (α := TunnelBook) Hn1_4 u1_0 p0) (mz1_11 : Rp.rep (α := Arr 4 Int) Hn1_4 [.int .i64 0, .int .i64 0, .int .i64 0, .int .i64 0] [0, 0, 0, 0]) : At 53 [] (Kp.mk w H noX) [(2, .int .i64 p2), (3, .pointer (some ⟨b0_0, 0, none⟩)), (9, .pointer (some ⟨b1_11, 0, none⟩)), (15, .agg u1_0.toArray), (16, v1), (19, .bool x1_4)] Hn1_4 ([.box b1_11 [.int .i64 0, .int .i64 0, .int .i64 0, .int .i64 0] 111]) (U1 (Sw Hn1_4 []) 9 (bits 15 2079)) := by
    refine d_fwd hU1 ?_
    have hb0_0 := PAt.mono ln1_4 hb0_0
    have h1 := Sl.mono ln1_4 h1
    have hg := Glob.mono ln1_4 hg
    refine d_all (rs := [5, 10]) (by kernel_rfl) rfl ⟨⟨_, rfl, ?_⟩, ⟨_, rfl, ?_⟩, trivial⟩
    · refine e_callO (all := [.agg u1_0.toArray, v1, .bool x1_4]) trivial rfl Tryd.func80 rfl rfl rfl rfl rfl (fun w hw => ok_80 hw h1_0 h1 q1_5) ?_
      rintro _ H1_5 _ l1_5 ⟨cb1_5, cs1_5, mm1_5, rfl, hb1_5, hc1_5, hd1_5⟩
      rcases hd1_5 with ⟨rfl, he1_5, rfl⟩ | ⟨M1_5, rfl, he1_5, rfl⟩
      · exact absurd k1_5 (by simp [he1_5])
      have hb0_0 := PAt.mono l1_5 hb0_0
      have h1_0 := Rp.mono l1_5 h1_0
      have h1 := Sl.mono l1_5 h1
      have mz1_11 := Rp.mono l1_5 mz1_11
      have hg := Glob.mono l1_5 hg
      refine dn 2111 (swl l1_5 []) ?_
      exact d_edge hU1 (N1_7 H1_5 (ln1_4.trans l1_5) b1_11 cb1_5 M1_5 cs1_5 hb1_5 hc1_5 mz1_11) ⟨rfl, rfl, rfl, rfl, trivial⟩ [0, 1] (by decide) rfl (sw_sw l1_5 [] rfl)
    refine e_alloc (cs := [.slice none 0 0, .slice none 0 0, .map none]) trivial rfl ty110 rfl ?_
    intro b1_10
    refine dn 3103 (sw0 []) ?_
    exact d_edge hU1 (N1_8 Hn1_4 ln1_4 b1_10 b1_11 u1_0 h1_0 mz1_11) ⟨rfl, rfl, rfl, rfl, rfl, rfl, rfl, trivial⟩ [0, 1] (by decide) rfl (fun _ h => h)
  have N1_12 (Hn1_5 : Hp) (ln1_5 : HLe Hb0_0 Hn1_5) (b1_10 : Nat) (b1_11 : Nat) (u1_0 : List Value) (u1_2 : List Value) (h1_0 : Rp.rep (α := TunnelBook) Hn1_5 u1_0 p0) (h1_2 : Rp.rep (α := TunnelBook) Hn1_5 u1_2 p0) (mz1_11 : Rp.rep (α := Arr 4 Int) Hn1_5 [.int .i64 0, .int .i64 0, .int .i64 0, .int .i64 0] [0, 0, 0, 0]) : At 53 [] (Kp.mk w H noX) [(2, .int .i64 p2), (3, .pointer (some ⟨b0_0, 0, none⟩)), (8, .pointer (some ⟨b1_10, 0, none⟩)), (9, .pointer (some ⟨b1_11, 0, none⟩)), (15, .agg u1_0.toArray), (16, v1), (17, .agg u1_2.toArray), (18, .int .i64 p2)] Hn1_5 ([.box b1_10 [.slice none 0 0, .slice none 0 0, .map none] 110, .box b1_11 [.int .i64 0, .int .i64 0, .int .i64 0, .int .i64 0] 111]) (U1 (Sw Hn1_5 []) 9 (bits 15 3087)) := by
    refine d_fwd hU1 ?_
    have hb0_0 := PAt.mono ln1_5 hb0_0
    have h1 := Sl.mono ln1_5 h1
    have hg := Glob.mono ln1_5 hg
    refine d1 4 rfl (e_callV (all := [.agg u1_2.toArray, .int .i64 p2]) (v := .bool x1_4) trivial rfl Tryd.func88 rfl rfl rfl rfl rfl (fun w hw => ok_88 hw h1_2 q1_4) ?_)
    refine dn 3103 (sw0 []) ?_
    exact d_edge hU1 (N1_8 Hn1_5 ln1_5 b1_10 b1_11 u1_0 h1_0 mz1_11) ⟨rfl, rfl, rfl, rfl, rfl, rfl, rfl, trivial⟩ [0, 1] (by decide) rfl (fun _ h => h)
  have N1_13 (Hn1_1 : Hp) (ln1_1 : HLe Hb0_0 Hn1_1) (u1_0 : List Value) (h1_0 : Rp.rep (α := TunnelBook) Hn1_1 u1_0 p0) : At 53 [] (Kp.mk w H noX) [(2, .int .i64 p2), (3, .pointer (some ⟨b0_0, 0, none⟩)), (15, .agg u1_0.toArray), (16, v1), (19, .bool x1_4)] Hn1_1 [] (U1 (Sw Hn1_1 []) 10 (bits 15 31)) := by
    refine d_fwd hU1 ?_
    have hb0_0 := PAt.mono ln1_1 hb0_0
    have h1 := Sl.mono ln1_1 h1
    have hg := Glob.mono ln1_1 hg
    refine d_all (rs := [5, 10, 11]) (by kernel_rfl) rfl ⟨⟨_, rfl, ?_⟩, ⟨_, rfl, ?_⟩, ⟨_, rfl, ?_⟩, trivial⟩
    · refine e_callO (all := [.agg u1_0.toArray, v1, .bool x1_4]) trivial rfl Tryd.func80 rfl rfl rfl rfl rfl (fun w hw => ok_80 hw h1_0 h1 q1_5) ?_
      rintro _ H1_5 _ l1_5 ⟨cb1_5, cs1_5, mm1_5, rfl, hb1_5, hc1_5, hd1_5⟩
      rcases hd1_5 with ⟨rfl, he1_5, rfl⟩ | ⟨M1_5, rfl, he1_5, rfl⟩
      · exact absurd k1_5 (by simp [he1_5])
      have hb0_0 := PAt.mono l1_5 hb0_0
      have h1_0 := Rp.mono l1_5 h1_0
      have h1 := Sl.mono l1_5 h1
      have hg := Glob.mono l1_5 hg
      refine dn 63 (swl l1_5 []) ?_
      exact d_edge hU1 (N1_9 H1_5 (ln1_1.trans l1_5) cb1_5 M1_5 cs1_5 hb1_5 hc1_5) ⟨rfl, rfl, rfl, trivial⟩ [0] (by decide) rfl (sw_sw l1_5 [] rfl)
    · refine e_alloc (cs := [.slice none 0 0, .slice none 0 0, .map none]) trivial rfl ty110 rfl ?_
      intro b1_10
      refine dn 1055 (sw0 []) ?_
      exact d_edge hU1 (N1_10 Hn1_1 ln1_1 b1_10 u1_0 h1_0) ⟨rfl, rfl, rfl, rfl, rfl, rfl, trivial⟩ [0] (by decide) rfl (fun _ h => h)
    refine e_alloc (cs := [.int .i64 0, .int .i64 0, .int .i64 0, .int .i64 0]) trivial rfl ty111 rfl ?_
    intro b1_11
    have mz1_11 := z111 Hn1_1
    refine dn 2079 (sw0 []) ?_
    exact d_edge hU1 (N1_11 Hn1_1 ln1_1 b1_11 u1_0 h1_0 mz1_11) ⟨rfl, rfl, rfl, rfl, rfl, rfl, trivial⟩ [0] (by decide) rfl (fun _ h => h)
  have N1_14 (Hn1_2 : Hp) (ln1_2 : HLe Hb0_0 Hn1_2) (b1_10 : Nat) (u1_0 : List Value) (u1_2 : List Value) (h1_0 : Rp.rep (α := TunnelBook) Hn1_2 u1_0 p0) (h1_2 : Rp.rep (α := TunnelBook) Hn1_2 u1_2 p0) : At 53 [] (Kp.mk w H noX) [(2, .int .i64 p2), (3, .pointer (some ⟨b0_0, 0, none⟩)), (8, .pointer (some ⟨b1_10, 0, none⟩)), (15, .agg u1_0.toArray), (16, v1), (17, .agg u1_2.toArray), (18, .int .i64 p2)] Hn1_2 ([.box b1_10 [.slice none 0 0, .slice none 0 0, .map none] 110]) (U1 (Sw Hn1_2 []) 10 (bits 15 1039)) := by
    refine d_fwd hU1 ?_
    have hb0_0 := PAt.mono ln1_2 hb0_0
    have h1 := Sl.mono ln1_2 h1
    have hg := Glob.mono ln1_2 hg
    refine d_all (rs := [4, 11]) (by kernel_rfl) rfl ⟨⟨_, rfl, ?_⟩, ⟨_, rfl, ?_⟩, trivial⟩
    · refine e_callV (all := [.agg u1_2.toArray, .int .i64 p2]) (v := .bool x1_4) trivial rfl Tryd.func88 rfl rfl rfl rfl rfl (fun w hw => ok_88 hw h1_2 q1_4) ?_
      refine dn 1055 (sw0 []) ?_
      exact d_edge hU1 (N1_10 Hn1_2 ln1_2 b1_10 u1_0 h1_0) ⟨rfl, rfl, rfl, rfl, rfl, rfl, trivial⟩ [0] (by decide) rfl (fun _ h => h)
    refine e_alloc (cs := [.int .i64 0, .int .i64 0, .int .i64 0, .int .i64 0]) trivial rfl ty111 rfl ?_
    intro b1_11
    have mz1_11 := z111 Hn1_2
    refine dn 3087 (sw0 []) ?_
    exact d_edge hU1 (N1_12 Hn1_2 ln1_2 b1_10 b1_11 u1_0 u1_2 h1_0 h1_2 mz1_11) ⟨rfl, rfl, rfl, rfl, rfl, rfl, rfl, rfl, trivial⟩ [1, 0] (by decide) rfl (fun _ h => h)
  have N1_15 (Hn1_3 : Hp) (ln1_3 : HLe Hb0_0 Hn1_3) (b1_11 : Nat) (u1_0 : List Value) (u1_2 : List Value) (h1_0 : Rp.rep (α := TunnelBook) Hn1_3 u1_0 p0) (h1_2 : Rp.rep (α := TunnelBook) Hn1_3 u1_2 p0) (mz1_11 : Rp.rep (α := Arr 4 Int) Hn1_3 [.int .i64 0, .int .i64 0, .int .i64 0, .int .i64 0] [0, 0, 0, 0]) : At 53 [] (Kp.mk w H noX) [(2, .int .i64 p2), (3, .pointer (some ⟨b0_0, 0, none⟩)), (9, .pointer (some ⟨b1_11, 0, none⟩)), (15, .agg u1_0.toArray), (16, v1), (17, .agg u1_2.toArray), (18, .int .i64 p2)] Hn1_3 ([.box b1_11 [.int .i64 0, .int .i64 0, .int .i64 0, .int .i64 0] 111]) (U1 (Sw Hn1_3 []) 10 (bits 15 2063)) := by
    refine d_fwd hU1 ?_
    have hb0_0 := PAt.mono ln1_3 hb0_0
    have h1 := Sl.mono ln1_3 h1
    have hg := Glob.mono ln1_3 hg
    refine d_all (rs := [4, 10]) (by kernel_rfl) rfl ⟨⟨_, rfl, ?_⟩, ⟨_, rfl, ?_⟩, trivial⟩
    · refine e_callV (all := [.agg u1_2.toArray, .int .i64 p2]) (v := .bool x1_4) trivial rfl Tryd.func88 rfl rfl rfl rfl rfl (fun w hw => ok_88 hw h1_2 q1_4) ?_
      refine dn 2079 (sw0 []) ?_
      exact d_edge hU1 (N1_11 Hn1_3 ln1_3 b1_11 u1_0 h1_0 mz1_11) ⟨rfl, rfl, rfl, rfl, rfl, rfl, trivial⟩ [0] (by decide) rfl (fun _ h => h)
    refine e_alloc (cs := [.slice none 0 0, .slice none 0 0, .map none]) trivial rfl ty110 rfl ?_
    intro b1_10
    refine dn 3087 (sw0 []) ?_
    exact d_edge hU1 (N1_12 Hn1_3 ln1_3 b1_10 b1_11 u1_0 u1_2 h1_0 h1_2 mz1_11) ⟨rfl, rfl, rfl, rfl, rfl, rfl, rfl, rfl, trivial⟩ [0, 1] (by decide) rfl (fun _ h => h)
  refine d_fwd hU1 ?_
  obtain ⟨u1_0, h1_0, c1_0⟩ := PAt.one hb0_0
  refine dt 0 1 rfl trivial (y_load_cells ty25 rfl (fun _ h => h.1) rfl c1_0 (Rp.len h1_0)) (sw0 []) ?_
  refine dt 1 3 rfl trivial (y_move rfl) (sw0 []) ?_
  obtain ⟨u1_2, h1_2, c1_2⟩ := PAt.one hb0_0
  refine dt 2 7 rfl trivial (y_load_cells ty25 rfl (fun _ h => h.1) rfl c1_2 (Rp.len h1_2)) (sw0 []) ?_
  refine dt 3 15 rfl trivial (y_move rfl) (sw0 []) ?_
  refine d_all (rs := [4, 10, 11]) (by kernel_rfl) rfl ⟨⟨_, rfl, ?_⟩, ⟨_, rfl, ?_⟩, ⟨_, rfl, ?_⟩, trivial⟩
  · refine e_callV (all := [.agg u1_2.toArray, .int .i64 p2]) (v := .bool x1_4) trivial rfl Tryd.func88 rfl rfl rfl rfl rfl (fun w hw => ok_88 hw h1_2 q1_4) ?_
    refine dn 31 (sw0 []) ?_
    exact d_edge hU1 (N1_13 Hb0_0 (HLe.refl _) u1_0 h1_0) ⟨rfl, rfl, rfl, rfl, rfl, trivial⟩ [] (by decide) rfl (fun _ h => h)
  · refine e_alloc (cs := [.slice none 0 0, .slice none 0 0, .map none]) trivial rfl ty110 rfl ?_
    intro b1_10
    refine dn 1039 (sw0 []) ?_
    exact d_edge hU1 (N1_14 Hb0_0 (HLe.refl _) b1_10 u1_0 u1_2 h1_0 h1_2) ⟨rfl, rfl, rfl, rfl, rfl, rfl, rfl, trivial⟩ [0] (by decide) rfl (fun _ h => h)
  refine e_alloc (cs := [.int .i64 0, .int .i64 0, .int .i64 0, .int .i64 0]) trivial rfl ty111 rfl ?_
  intro b1_11
  have mz1_11 := z111 Hb0_0
  refine dn 2063 (sw0 []) ?_
  exact d_edge hU1 (N1_15 Hb0_0 (HLe.refl _) b1_11 u1_0 u1_2 h1_0 h1_2 mz1_11) ⟨rfl, rfl, rfl, rfl, rfl, rfl, rfl, trivial⟩ [0] (by decide) rfl (fun _ h => h)

def law03_small (k : Nat) : Option TunnelBook :=
 (law03_part k 0 1 2 3 0 0).bind fun x1_0 =>
 (law03_part k 0 1 2 3 0 1).bind fun x1_1 =>
 (law03_frame k 1 10 10 10).bind fun x1_3 =>
 some ((⟨[x1_0, x1_1], [x1_3]⟩ : TunnelBook))
theorem ok_94 {k : Nat} {H : Hp} {w : World} {r : TunnelBook} (hsub : Sub H w)  (hm : law03_small k = some r) : Calls Tryd.prog 94 [].toArray w (PostH w H fun v H' => ∃ c0, v = .agg c0.toArray ∧ Rp.rep (α := TunnelBook) H' c0 r) := by
  unfold law03_small at hm
  refine start (n := 7) (E := []) Tryd.func94 rfl rfl trivial rfl hsub ?_
  refine a_seq (a_region rfl ?_)
  refine a_cons (e_alloc (cs := [.slice none 0 0, .slice none 0 0]) trivial rfl ty25 rfl ?_)
  intro b0_0
  refine a_nil (a_then (a_seq (a_region rfl ?_)))
  obtain ⟨x1_0, q1_0, hm⟩ := bind_some hm
  refine a_cons (e_callH (all := [.int .i64 0, .int .i64 1, .int .i64 2, .int .i64 3, .int .i64 0, .int .i64 0]) trivial rfl Tryd.func138 rfl rfl rfl rfl rfl (fun w hw => ok_138 hw q1_0) ?_)
  rintro _ H1_0 l1_0 ⟨c1_0r0, rfl, h1_0r0⟩
  obtain ⟨x1_1, q1_1, hm⟩ := bind_some hm
  refine a_cons (e_callH (all := [.int .i64 0, .int .i64 1, .int .i64 2, .int .i64 3, .int .i64 0, .int .i64 1]) trivial rfl Tryd.func138 rfl rfl rfl rfl rfl (fun w hw => ok_138 hw q1_1) ?_)
  rintro _ H1_1 l1_1 ⟨c1_1r0, rfl, h1_1r0⟩
  have h1_0r0 := Rp.mono l1_1 h1_0r0
  refine a_cons (e_buildSlice (xs := [.tmp 1, .tmp 2]) (cs := c1_0r0 ++ (c1_1r0 ++ ([]))) trivial rfl Tryd.underlying22 ty64 rfl rfl rfl (by simp [Value.cells, Rp.len h1_0r0, Rp.len h1_1r0, Rp.sz]) rfl (rfl) ?_)
  intro v1_2
  have h1_2 : RepL (α := TunnelPart) H1_1 (c1_0r0 ++ (c1_1r0 ++ ([]))) [x1_0, x1_1] := (RepL.cons (α := TunnelPart) (c := c1_0r0) h1_0r0 (RepL.cons (α := TunnelPart) (c := c1_1r0) h1_1r0 (RepL.nil (α := TunnelPart))))
  obtain ⟨x1_3, q1_3, hm⟩ := bind_some hm
  refine a_cons (e_callH (all := [.int .i64 1, .int .i64 10, .int .i64 10, .int .i64 10]) trivial rfl Tryd.func139 rfl rfl rfl rfl rfl (fun w hw => ok_139 hw q1_3) ?_)
  rintro _ H1_3 l1_3 ⟨c1_3r0, rfl, h1_3r0⟩
  have h1_0r0 := Rp.mono l1_3 h1_0r0
  have h1_1r0 := Rp.mono l1_3 h1_1r0
  have h1_2 := RepL.mono l1_3 h1_2
  refine a_cons (e_buildSlice (xs := [.tmp 4]) (cs := c1_3r0 ++ ([])) trivial rfl Tryd.underlying23 ty55 rfl rfl rfl (by simp [Value.cells, Rp.len h1_3r0, Rp.sz]) rfl (rfl) ?_)
  intro v1_4
  have h1_4 : RepL (α := TunnelFrame) H1_3 (c1_3r0 ++ ([])) [x1_3] := (RepL.cons (α := TunnelFrame) (c := c1_3r0) h1_3r0 (RepL.nil (α := TunnelFrame)))
  refine a_frow (i := 1) rfl rfl h1_2 rfl ?_
  intro H1_5f0f l1_5f0f h1_5f0f
  have h1_0r0 := Rp.mono l1_5f0f h1_0r0
  have h1_1r0 := Rp.mono l1_5f0f h1_1r0
  have h1_3r0 := Rp.mono l1_5f0f h1_3r0
  have h1_4 := RepL.mono l1_5f0f h1_4
  refine a_frow (i := 0) rfl rfl h1_4 rfl ?_
  intro H1_5f1f l1_5f1f h1_5f1f
  have h1_0r0 := Rp.mono l1_5f1f h1_0r0
  have h1_1r0 := Rp.mono l1_5f1f h1_1r0
  have h1_5f0f := Sl.mono l1_5f1f h1_5f0f
  have h1_3r0 := Rp.mono l1_5f1f h1_3r0
  have m1_5 : Rp.rep H1_5f1f ([v1_2] ++ ([v1_4])) (⟨[x1_0, x1_1], [x1_3]⟩ : TunnelBook) := ⟨_, _, rfl, ⟨_, rfl, h1_5f0f⟩, ⟨_, rfl, h1_5f1f⟩⟩
  refine ap (y_build (pl := [(0, 1), (1, 1)]) (xs := [.tmp 3, .tmp 5]) (cs := [v1_2] ++ ([v1_4])) ty25 (.cons ⟨rfl, ty22.szOf⟩ (.cons ⟨rfl, ty23.szOf⟩ (All2.nil))) rfl rfl ⟨1, Sl.csize h1_5f0f, rfl, ⟨1, Sl.csize h1_5f1f, rfl, trivial⟩⟩ (by rw [Rp.len m1_5]; rfl) (by simp [Sl.cells1 h1_5f0f, Sl.cells1 h1_5f1f]; try simp [Value.cells])) ?_
  refine a_cons (e_storeWhole (i := 2) (ds := [v1_2] ++ ([v1_4])) trivial ty25 rfl rfl rfl rfl rfl ((Rp.one m1_5)) rfl ?_)
  refine a_nil ?_
  refine a_freeze (α := TunnelBook) (x := (⟨[x1_0, x1_1], [x1_3]⟩ : TunnelBook)) (i := 2) rfl m1_5 ?_
  intro Hb0_0 lb0_0 hb0_0
  have h1_0r0 := Rp.mono lb0_0 h1_0r0
  have h1_1r0 := Rp.mono lb0_0 h1_1r0
  have h1_5f0f := Sl.mono lb0_0 h1_5f0f
  have h1_3r0 := Rp.mono lb0_0 h1_3r0
  have h1_5f1f := Sl.mono lb0_0 h1_5f1f
  have m1_5 := Rp.mono lb0_0 m1_5
  refine a_en [(0, .pointer (some ⟨b0_0, 0, none⟩))] ?_
  refine a_own [] (by decide) (L' := []) rfl ?_
  refine a_then (a_ret ?_)
  obtain ⟨ce0, re0, le0⟩ := PAt.one hb0_0
  refine a_done (v := .agg ce0.toArray) (.inl rfl) rfl ?_ ?_
  · intro a_ w_ ha_ hs_; exact run_results (P := Tryd.prog) (fn := Tryd.f94) (rs := [.cell 0 25]) (vs := [.agg ce0.toArray]) rfl (.cons (rv_cell ha_ rfl (run_loadVar_agg ty25 rfl (le0 _ hs_.sub) (Rp.len re0))) (All2.nil))
  · intro _ _; obtain rfl := Option.some.inj hm; exact ⟨ce0, rfl, re0⟩

def tunnel_Ask_lj6 (k : Nat) (p0 : TunnelBook) (yj3_22 : Int) (x7_1 : TunnelPart) : Nat → Int → Int → Option Int
 | 0, _, _ => none
 | n_j6 + 1, yj6_9, yj6_38 =>
 bif decide (yj6_38 < (IntKind.i64.wrap ((IntKind.i64.wrap (x7_1.Damp.High - x7_1.Damp.Low)) + 1))) then
 (app [] p0.Parts).bind fun x13_2 =>
 (nth x13_2 yj3_22).bind fun x14_14 =>
 (tunnel_book_best k ((⟨(x13_2).set (yj3_22).toNat ((⟨x14_14.Heat, (⟨IntKind.i64.wrap (x7_1.Damp.Low + yj6_38), IntKind.i64.wrap (x7_1.Damp.Low + yj6_38)⟩ : Span)⟩ : TunnelPart)), p0.Frames⟩ : TunnelBook)) []).bind fun x15_2 =>
 tunnel_Ask_lj6 k p0 yj3_22 x7_1 n_j6 (min yj6_9 x15_2.1.many) (IntKind.i64.wrap (yj6_38 + 1))
 else
 some (yj6_9)
def tunnel_Ask_lj3 (k : Nat) (p0 : TunnelBook) : Nat → Int → Int → Int → Option Int
 | 0, _, _, _ => none
 | n_j3 + 1, yj3_5, yj3_6, yj3_22 =>
 bif decide (yj3_22 < (p0.Parts.length : Int)) then
 (nth p0.Parts yj3_22).bind fun x7_1 =>
 (tunnel_Ask_lj6 k p0 yj3_22 x7_1 k (p0.Frames.length : Int) 0).bind fun yj5_9 =>
 (bif decide (yj3_5 < 0) then
 some (true)
 else
 some ((decide (yj5_9 > yj3_6)))).bind fun yj8_79 =>
 bif yj8_79 then
 tunnel_Ask_lj3 k p0 n_j3 yj3_22 yj5_9 (IntKind.i64.wrap (yj3_22 + 1))
 else
 tunnel_Ask_lj3 k p0 n_j3 yj3_5 yj3_6 (IntKind.i64.wrap (yj3_22 + 1))
 else
 some (yj3_5)
def tunnel_Ask (k : Nat) (p0 : TunnelBook) : Option (Int × Int) :=
 (tunnel_Check k p0).bind fun x1_1 =>
 bif x1_1 != 0 then
 some ((0, x1_1))
 else
 (tunnel_Ask_lj3 k p0 k (-1) 0 0).bind fun yj2_5 =>
 some ((yj2_5, 0))
theorem ok_41 {k : Nat} {H : Hp} {w : World} {p0 : TunnelBook} {c0 : List Value} {r : Int × Int} (hsub : Sub H w) (h0 : Rp.rep (α := TunnelBook) H c0 p0) (hg : Glob H) (hm : tunnel_Ask k p0 = some r) : Calls Tryd.prog 41 [.agg c0.toArray].toArray w (PostV w H (.tuple #[.int .i64 r.1, .int .i64 r.2])) := by
  unfold tunnel_Ask at hm
  refine start (n := 84) (E := [(0, .agg c0.toArray)]) Tryd.func41 rfl rfl ⟨rfl, trivial⟩ rfl hsub ?_
  refine a_seq (a_region rfl ?_)
  refine a_cons (e_box (cs := c0) trivial rfl rfl rfl ?_)
  intro b0_0
  refine ap (y_assign rfl) ?_
  refine ap (y_assign rfl) ?_
  refine a_nil ?_
  refine a_freeze (α := TunnelBook) (x := p0) (i := 0) rfl h0 ?_
  intro Hb0_0 lb0_0 hb0_0
  have h0 := Rp.mono lb0_0 h0
  have hg := Glob.mono lb0_0 hg
  refine a_en [(1, .pointer (some ⟨b0_0, 0, none⟩))] ?_
  refine a_own [] (by decide) (L' := []) rfl ?_
  refine a_then (a_seq (a_seq (a_region rfl ?_)))
  obtain ⟨u1_0, h1_0, c1_0⟩ := PAt.one hb0_0
  refine ap (y_load_cells ty25 rfl (fun _ h => h.sub) rfl c1_0 (Rp.len h1_0)) ?_
  obtain ⟨x1_1, q1_1, hm⟩ := bind_some hm
  refine a_cons (e_callV (all := [.agg u1_0.toArray]) (v := .int .i64 x1_1) trivial rfl Tryd.func21 rfl rfl rfl rfl rfl (fun w hw => ok_21 hw h1_0 q1_1) ?_)
  refine ap (y_assign rfl) ?_
  refine a_nil ?_
  refine a_en [(1, .pointer (some ⟨b0_0, 0, none⟩)), (4, .int .i64 x1_1)] ?_
  refine a_then (a_seq (a_region rfl ?_))
  refine ap (y_move rfl) ?_
  refine ap (y_neq rfl rfl) ?_
  refine a_nil ?_
  refine a_en [(1, .pointer (some ⟨b0_0, 0, none⟩)), (4, .int .i64 x1_1), (17, .bool (x1_1 != 0))] ?_
  refine a_then ?_
  refine a_cond rfl (fun k_1 => ?_) (fun k_1 => ?_)
  · have hm := cond_t k_1 hm
    refine a_seq (a_region rfl ?_)
    refine ap (y_move rfl) ?_
    refine ap (y_assign rfl) ?_
    refine ap (y_assign rfl) ?_
    refine a_nil ?_
    refine a_en [(2, .int .i64 0), (3, .int .i64 x1_1)] ?_
    refine a_then (a_ret (a_then_ret ?_))
    refine a_done (v := .tuple #[.int .i64 0, .int .i64 x1_1]) (.inl rfl) rfl ?_ ?_
    · intro a_ w_ ha_ hs_; exact run_results (P := Tryd.prog) (fn := Tryd.f41) (rs := [.tmp 2, .tmp 3]) (vs := [.int .i64 0, .int .i64 x1_1]) rfl (.cons (rv_tmp ha_ rfl) (.cons (rv_tmp ha_ rfl) (All2.nil)))
    · intro _ _; obtain rfl := Option.some.inj hm
      rfl
  have hm := cond_f k_1 hm
  refine a_skip (a_then (a_seq (a_region rfl ?_)))
  refine ap (y_assign rfl) ?_
  refine ap (y_assign rfl) ?_
  refine a_nil ?_
  refine a_en [(1, .pointer (some ⟨b0_0, 0, none⟩)), (5, .int .i64 (-1)), (6, .int .i64 0)] ?_
  refine a_then (a_seq (a_seq (a_region rfl ?_)))
  have h5_0 := TunnelBook.at_Parts hb0_0
  refine ap (y_fieldAddr fo25_0 rfl) ?_
  obtain ⟨v5_1, h5_1, c5_1⟩ := PAt.sl h5_0
  refine ap (y_load_one ty22 rfl (fun _ h => h.sub) rfl c5_1) ?_
  refine ap (y_len_sl Tryd.underlying22 rfl h5_1) ?_
  refine ap (y_move rfl) ?_
  refine a_nil ?_
  refine a_en [(1, .pointer (some ⟨b0_0, 0, none⟩)), (5, .int .i64 (-1)), (6, .int .i64 0), (20, v5_1), (21, .int .i64 (p0.Parts.length : Int)), (22, .int .i64 0)] ?_
  refine a_then ?_
  obtain ⟨s_j2, hs_j2, hm_j2⟩ := bind_some hm
  refine a_join (fun a_ w_ => ∃ (Hj2 : Hp), ∃ (_ : HLe Hb0_0 Hj2), ∃ (yj2_5 : Int), yj2_5 = s_j2 ∧ Ag 84 [] [(5, .int .i64 yj2_5)] a_ ∧ St (Kp.mk w H noX) Hj2 [] w_) ?_ ?_
  · have hm := hs_j2
    refine a_block ?_
    refine a_loop (fun n_j3 a_ w_ => ∃ (Hj3 : Hp), ∃ (_ : HLe Hb0_0 Hj3), ∃ (yj3_5 : Int), ∃ (yj3_6 : Int), ∃ (yj3_22 : Int), tunnel_Ask_lj3 k p0 n_j3 yj3_5 yj3_6 yj3_22 = some s_j2 ∧ Ag 84 [] [(1, .pointer (some ⟨b0_0, 0, none⟩)), (5, .int .i64 yj3_5), (6, .int .i64 yj3_6), (20, v5_1), (21, .int .i64 (p0.Parts.length : Int)), (22, .int .i64 yj3_22)] a_ ∧ St (Kp.mk w H noX) Hj3 [] w_) k ?_ ?_
    · intro a_ w_ ha_ hs_
      exact ⟨Hb0_0, (HLe.refl _), (-1), 0, 0, hm, ha_.weaken ⟨rfl, rfl, rfl, rfl, rfl, rfl, trivial⟩, hs_.reix [] (by decide)⟩
    rintro (_ | n_j3) a_ w_ ⟨Hj3, lj3, yj3_5, yj3_6, yj3_22, hm, ha_, hs_⟩
    · rw [tunnel_Ask_lj3.eq_1] at hm; cases hm
    rw [tunnel_Ask_lj3.eq_2] at hm
    refine a_start ha_ hs_ ?_
    have hb0_0 := PAt.mono lj3 hb0_0
    have h5_1 := Sl.mono lj3 h5_1
    have hg := Glob.mono lj3 hg
    refine a_seq (a_region rfl ?_)
    refine ap (y_lss rfl rfl) ?_
    refine a_nil (a_then (a_seq ?_))
    refine a_cond rfl (fun k_4 => ?_) (fun k_4 => ?_)
    · have hm := cond_t k_4 hm
      refine a_skip (a_then (a_seq (a_block (a_seq (a_region rfl ?_)))))
      refine ap (y_move rfl) ?_
      obtain ⟨x7_1, q7_1, hm⟩ := bind_some hm
      obtain ⟨b7_1, o7_1, c7_1, e7_1, h7_1⟩ := Sl.elemZ 6 rfl h5_1 q7_1
      refine ap (y_index Tryd.underlying22 ty64 rfl e7_1 rfl (nth_in q7_1)) ?_
      obtain ⟨u7_2, h7_2, c7_2⟩ := PAt.one h7_1
      refine ap (y_load_cells ty64 rfl (fun _ h => h.sub) rfl c7_2 (Rp.len h7_2)) ?_
      refine a_cons (e_alloc (cs := [.int .i64 0, .int .i64 0, .int .i64 0, .int .i64 0, .int .i64 0, .int .i64 0]) trivial rfl ty64 rfl ?_)
      intro b7_3
      have mz7_3 : Rp.rep (α := TunnelPart) Hj3 [.int .i64 0, .int .i64 0, .int .i64 0, .int .i64 0, .int .i64 0, .int .i64 0] (⟨[0, 0, 0, 0], ⟨0, 0⟩⟩ : TunnelPart) := ⟨_, _, rfl, ⟨(RepL.cons (c := [_]) rfl (RepL.cons (c := [_]) rfl (RepL.cons (c := [_]) rfl (RepL.cons (c := [_]) rfl RepL.nil)))), rfl⟩, ⟨_, _, rfl, rfl, rfl⟩⟩
      refine ap (y_assign rfl) ?_
      refine a_cons (e_storeWhole (i := 0) (ds := u7_2) trivial ty64 rfl rfl rfl rfl (Rp.len h7_2) ((Rp.one h7_2)) rfl ?_)
      refine a_nil ?_
      refine a_freeze (α := TunnelPart) (x := x7_1) (i := 0) rfl h7_2 ?_
      intro Hb7_3 lb7_3 hb7_3
      have hb0_0 := PAt.mono lb7_3 hb0_0
      have h5_1 := Sl.mono lb7_3 h5_1
      have h7_1 := PAt.mono lb7_3 h7_1
      have h7_2 := Rp.mono lb7_3 h7_2
      have hg := Glob.mono lb7_3 hg
      refine a_en [(1, .pointer (some ⟨b0_0, 0, none⟩)), (5, .int .i64 yj3_5), (6, .int .i64 yj3_6), (7, .int .i64 yj3_22), (8, .pointer (some ⟨b7_3, 0, none⟩)), (20, v5_1), (21, .int .i64 (p0.Parts.length : Int)), (22, .int .i64 yj3_22)] ?_
      refine a_own [] (by decide) (L' := []) rfl ?_
      refine a_then (a_seq (a_region rfl ?_))
      have h8_0 := TunnelBook.at_Frames hb0_0
      refine ap (y_fieldAddr fo25_1 rfl) ?_
      obtain ⟨v8_1, h8_1, c8_1⟩ := PAt.sl h8_0
      refine ap (y_load_one ty23 rfl (fun _ h => h.sub) rfl c8_1) ?_
      refine ap (y_len_sl Tryd.underlying23 rfl h8_1) ?_
      refine ap (y_assign rfl) ?_
      refine a_nil ?_
      refine a_en [(1, .pointer (some ⟨b0_0, 0, none⟩)), (5, .int .i64 yj3_5), (6, .int .i64 yj3_6), (7, .int .i64 yj3_22), (8, .pointer (some ⟨b7_3, 0, none⟩)), (9, .int .i64 (p0.Frames.length : Int)), (20, v5_1), (21, .int .i64 (p0.Parts.length : Int)), (22, .int .i64 yj3_22)] ?_
      refine a_then (a_seq (a_seq (a_region rfl ?_)))
      have h9_0 := TunnelPart.at_Damp hb7_3
      refine ap (y_fieldAddr fo64_1 rfl) ?_
      have h9_1 := Span.at_High h9_0
      refine ap (y_fieldAddr fo32_1 rfl) ?_
      refine ap (y_load_int ty3 rfl (fun _ h => h.sub) rfl h9_1) ?_
      have h9_3 := TunnelPart.at_Damp hb7_3
      refine ap (y_fieldAddr fo64_1 rfl) ?_
      have h9_4 := Span.at_Low h9_3
      refine ap (y_fieldAddr fo32_0 rfl) ?_
      refine ap (y_load_int ty3 rfl (fun _ h => h.sub) rfl h9_4) ?_
      refine ap (y_sub rfl rfl) ?_
      refine ap (y_add rfl rfl) ?_
      refine ap (y_move rfl) ?_
      refine a_nil ?_
      refine a_en [(1, .pointer (some ⟨b0_0, 0, none⟩)), (5, .int .i64 yj3_5), (6, .int .i64 yj3_6), (7, .int .i64 yj3_22), (8, .pointer (some ⟨b7_3, 0, none⟩)), (9, .int .i64 (p0.Frames.length : Int)), (20, v5_1), (21, .int .i64 (p0.Parts.length : Int)), (22, .int .i64 yj3_22), (37, .int .i64 (IntKind.i64.wrap ((IntKind.i64.wrap (x7_1.Damp.High - x7_1.Damp.Low)) + 1))), (38, .int .i64 0)] ?_
      refine a_then ?_
      obtain ⟨s_j5, hs_j5, hm_j5⟩ := bind_some hm
      refine a_join (fun a_ w_ => ∃ (Hj5 : Hp), ∃ (_ : HLe Hb7_3 Hj5), ∃ (yj5_9 : Int), yj5_9 = s_j5 ∧ Ag 84 [] [(1, .pointer (some ⟨b0_0, 0, none⟩)), (5, .int .i64 yj3_5), (6, .int .i64 yj3_6), (7, .int .i64 yj3_22), (9, .int .i64 yj5_9), (20, v5_1), (21, .int .i64 (p0.Parts.length : Int)), (22, .int .i64 yj3_22)] a_ ∧ St (Kp.mk w H noX) Hj5 [] w_) ?_ ?_
      · have hm := hs_j5
        refine a_block ?_
        refine a_loop (fun n_j6 a_ w_ => ∃ (Hj6 : Hp), ∃ (_ : HLe Hb7_3 Hj6), ∃ (yj6_9 : Int), ∃ (yj6_38 : Int), tunnel_Ask_lj6 k p0 yj3_22 x7_1 n_j6 yj6_9 yj6_38 = some s_j5 ∧ Ag 84 [] [(1, .pointer (some ⟨b0_0, 0, none⟩)), (5, .int .i64 yj3_5), (6, .int .i64 yj3_6), (7, .int .i64 yj3_22), (8, .pointer (some ⟨b7_3, 0, none⟩)), (9, .int .i64 yj6_9), (20, v5_1), (21, .int .i64 (p0.Parts.length : Int)), (22, .int .i64 yj3_22), (37, .int .i64 (IntKind.i64.wrap ((IntKind.i64.wrap (x7_1.Damp.High - x7_1.Damp.Low)) + 1))), (38, .int .i64 yj6_38)] a_ ∧ St (Kp.mk w H noX) Hj6 [] w_) k ?_ ?_
        · intro a_ w_ ha_ hs_
          exact ⟨Hb7_3, (HLe.refl _), (p0.Frames.length : Int), 0, hm, ha_.weaken ⟨rfl, rfl, rfl, rfl, rfl, rfl, rfl, rfl, rfl, rfl, rfl, trivial⟩, hs_.reix [] (by decide)⟩
        rintro (_ | n_j6) a_ w_ ⟨Hj6, lj6, yj6_9, yj6_38, hm, ha_, hs_⟩
        · rw [tunnel_Ask_lj6.eq_1] at hm; cases hm
        rw [tunnel_Ask_lj6.eq_2] at hm
        refine a_start ha_ hs_ ?_
        have hb0_0 := PAt.mono lj6 hb0_0
        have hb7_3 := PAt.mono lj6 hb7_3
        have h5_1 := Sl.mono lj6 h5_1
        have hg := Glob.mono lj6 hg
        refine a_seq (a_region rfl ?_)
        refine ap (y_lss rfl rfl) ?_
        refine a_nil (a_then (a_seq ?_))
        refine a_cond rfl (fun k_7 => ?_) (fun k_7 => ?_)
        · have hm := cond_t k_7 hm
          refine a_skip (a_then (a_seq (a_block (a_seq (a_region rfl ?_)))))
          refine ap (y_move rfl) ?_
          refine ap (y_assign rfl) ?_
          refine a_nil ?_
          refine a_en [(1, .pointer (some ⟨b0_0, 0, none⟩)), (5, .int .i64 yj3_5), (6, .int .i64 yj3_6), (7, .int .i64 yj3_22), (8, .pointer (some ⟨b7_3, 0, none⟩)), (9, .int .i64 yj6_9), (10, .int .i64 yj6_38), (20, v5_1), (21, .int .i64 (p0.Parts.length : Int)), (22, .int .i64 yj3_22), (37, .int .i64 (IntKind.i64.wrap ((IntKind.i64.wrap (x7_1.Damp.High - x7_1.Damp.Low)) + 1))), (38, .int .i64 yj6_38)] ?_
          refine a_then (a_seq (a_region rfl ?_))
          obtain ⟨u12_0, h12_0, c12_0⟩ := PAt.one hb0_0
          refine ap (y_load_cells ty25 rfl (fun _ h => h.sub) rfl c12_0 (Rp.len h12_0)) ?_
          refine a_cons (e_alloc (cs := [.slice none 0 0, .slice none 0 0]) trivial rfl ty25 rfl ?_)
          intro b12_1
          refine a_cons (e_storeWhole (i := 0) (ds := u12_0) trivial ty25 rfl rfl rfl rfl (Rp.len h12_0) ((Rp.one h12_0)) rfl ?_)
          refine a_nil ?_
          obtain ⟨v12o12_1_0, v12o12_1_1, rfl, h12o12_1_0, h12o12_1_1⟩ := TunnelBook.opened h12_0
          refine a_en [(1, .pointer (some ⟨b0_0, 0, none⟩)), (5, .int .i64 yj3_5), (6, .int .i64 yj3_6), (7, .int .i64 yj3_22), (8, .pointer (some ⟨b7_3, 0, none⟩)), (9, .int .i64 yj6_9), (10, .int .i64 yj6_38), (11, .pointer (some ⟨b12_1, 0, none⟩)), (20, v5_1), (21, .int .i64 (p0.Parts.length : Int)), (22, .int .i64 yj3_22), (37, .int .i64 (IntKind.i64.wrap ((IntKind.i64.wrap (x7_1.Damp.High - x7_1.Damp.Low)) + 1))), (38, .int .i64 yj6_38)] ?_
          refine a_then (a_seq (a_region rfl ?_))
          have h13_0 := TunnelBook.at_Parts hb0_0
          refine ap (y_fieldAddr fo25_0 rfl) ?_
          obtain ⟨v13_1, h13_1, c13_1⟩ := PAt.sl h13_0
          refine ap (y_load_one ty22 rfl (fun _ h => h.sub) rfl c13_1) ?_
          obtain ⟨x13_2, q13_2, hm⟩ := bind_some hm
          refine a_cons (e_callO (all := [v13_1]) trivial rfl Tryd.func110 rfl rfl rfl rfl rfl (fun w hw => ok_110 hw h13_1 q13_2) ?_)
          rintro v13_2 H13_2 _ l13_2 ⟨u13_2, rfl, h13_2⟩
          have hb0_0 := PAt.mono l13_2 hb0_0
          have hb7_3 := PAt.mono l13_2 hb7_3
          have h5_1 := Sl.mono l13_2 h5_1
          have h13_0 := PAt.mono l13_2 h13_0
          have h13_1 := Sl.mono l13_2 h13_1
          have h12o12_1_0 := Sl.mono l13_2 h12o12_1_0
          have h12o12_1_1 := Sl.mono l13_2 h12o12_1_1
          have hg := Glob.mono l13_2 hg
          refine ap (y_fieldAddr fo25_0 rfl) ?_
          refine a_cons (e_storeLR (i := 1) (j := 0) (cs' := [v13_2, v12o12_1_1]) trivial ty22 rfl rfl rfl rfl (Nat.le_of_ble_eq_true rfl) rfl ?_)
          refine a_nil ?_
          refine a_en [(1, .pointer (some ⟨b0_0, 0, none⟩)), (5, .int .i64 yj3_5), (6, .int .i64 yj3_6), (7, .int .i64 yj3_22), (8, .pointer (some ⟨b7_3, 0, none⟩)), (9, .int .i64 yj6_9), (10, .int .i64 yj6_38), (11, .pointer (some ⟨b12_1, 0, none⟩)), (20, v5_1), (21, .int .i64 (p0.Parts.length : Int)), (22, .int .i64 yj3_22), (37, .int .i64 (IntKind.i64.wrap ((IntKind.i64.wrap (x7_1.Damp.High - x7_1.Damp.Low)) + 1))), (38, .int .i64 yj6_38)] ?_
          refine a_then (a_seq (a_region rfl ?_))
          refine ap (y_fieldAddr fo25_0 rfl) ?_
          refine ap (y_load_box ty22 rfl (knows_box (i := 1) rfl) rfl rfl) ?_
          refine ap (y_move rfl) ?_
          have h14_3 := TunnelPart.at_Damp hb7_3
          refine ap (y_fieldAddr fo64_1 rfl) ?_
          have h14_4 := Span.at_Low h14_3
          refine ap (y_fieldAddr fo32_0 rfl) ?_
          refine ap (y_load_int ty3 rfl (fun _ h => h.sub) rfl h14_4) ?_
          refine ap (y_move rfl) ?_
          refine ap (y_add rfl rfl) ?_
          have h14_8 := TunnelPart.at_Damp hb7_3
          refine ap (y_fieldAddr fo64_1 rfl) ?_
          have h14_9 := Span.at_Low h14_8
          refine ap (y_fieldAddr fo32_0 rfl) ?_
          refine ap (y_load_int ty3 rfl (fun _ h => h.sub) rfl h14_9) ?_
          refine ap (y_move rfl) ?_
          refine ap (y_add rfl rfl) ?_
          have m14_13 : Rp.rep H13_2 [.int .i64 (IntKind.i64.wrap (x7_1.Damp.Low + yj6_38)), .int .i64 (IntKind.i64.wrap (x7_1.Damp.Low + yj6_38))] (⟨IntKind.i64.wrap (x7_1.Damp.Low + yj6_38), IntKind.i64.wrap (x7_1.Damp.Low + yj6_38)⟩ : Span) := ⟨_, _, rfl, rfl, rfl⟩
          refine ap (y_build_lit (pl := [(0, 1), (1, 1)]) (xs := [(0, .tmp 53), (1, .tmp 58)]) (cs := [.int .i64 (IntKind.i64.wrap (x7_1.Damp.Low + yj6_38)), .int .i64 (IntKind.i64.wrap (x7_1.Damp.Low + yj6_38))].toArray) ty32 (.cons ⟨rfl, ty3.szOf⟩ (.cons ⟨rfl, ty3.szOf⟩ (All2.nil))) rfl rfl rfl) ?_
          obtain ⟨x14_14, q14_14, hm⟩ := bind_some hm
          refine a_rowplace (i := 0) rfl rfl rfl h13_2 q14_14 ?_
          rintro b14_14 c14_14 rfl
          refine ap (y_index Tryd.underlying22 ty64 rfl rfl rfl (nth_in q14_14)) ?_
          refine ap (y_fieldAddr fo64_1 rfl) ?_
          refine a_cons (e_storeRow (α := TunnelPart) (i := 0) (ds := [.int .i64 (IntKind.i64.wrap (x7_1.Damp.Low + yj6_38)), .int .i64 (IntKind.i64.wrap (x7_1.Damp.Low + yj6_38))]) (l' := (x13_2).set (yj3_22).toNat ((⟨x14_14.Heat, (⟨IntKind.i64.wrap (x7_1.Damp.Low + yj6_38), IntKind.i64.wrap (x7_1.Damp.Low + yj6_38)⟩ : Span)⟩ : TunnelPart))) trivial ty32 rfl rfl rfl rfl rfl ((Rp.one m14_13)) rfl h13_2 (PutL.at0 6 rfl q14_14 (TunnelPart.put_Damp (s := x14_14) (Put.here m14_13))) ?_)
          intro u14_16 h14_16
          refine a_nil ?_
          refine a_en [(1, .pointer (some ⟨b0_0, 0, none⟩)), (5, .int .i64 yj3_5), (6, .int .i64 yj3_6), (7, .int .i64 yj3_22), (8, .pointer (some ⟨b7_3, 0, none⟩)), (9, .int .i64 yj6_9), (11, .pointer (some ⟨b12_1, 0, none⟩)), (20, v5_1), (21, .int .i64 (p0.Parts.length : Int)), (22, .int .i64 yj3_22), (37, .int .i64 (IntKind.i64.wrap ((IntKind.i64.wrap (x7_1.Damp.High - x7_1.Damp.Low)) + 1))), (38, .int .i64 yj6_38)] ?_
          refine a_then (a_seq (a_region rfl ?_))
          refine ap (y_load_boxagg ty25 rfl (knows_box (i := 1) rfl) rfl rfl rfl) ?_
          refine a_frow (i := 0) rfl rfl h14_16 rfl ?_
          intro H15_1q0f l15_1q0f h15_1q0f
          have hb0_0 := PAt.mono l15_1q0f hb0_0
          have hb7_3 := PAt.mono l15_1q0f hb7_3
          have h5_1 := Sl.mono l15_1q0f h5_1
          have h12o12_1_1 := Sl.mono l15_1q0f h12o12_1_1
          have hg := Glob.mono l15_1q0f hg
          have m15_1g0l : Rp.rep H15_1q0f [.slice (some ⟨b14_14, 0, none⟩) (x13_2).length c14_14, v12o12_1_1] (⟨(x13_2).set (yj3_22).toNat ((⟨x14_14.Heat, (⟨IntKind.i64.wrap (x7_1.Damp.Low + yj6_38), IntKind.i64.wrap (x7_1.Damp.Low + yj6_38)⟩ : Span)⟩ : TunnelPart)), p0.Frames⟩ : TunnelBook) := ⟨_, _, rfl, ⟨_, rfl, h15_1q0f⟩, ⟨_, rfl, h12o12_1_1⟩⟩
          refine a_cons (e_callO (all := [.agg [.slice (some ⟨b14_14, 0, none⟩) (x13_2).length c14_14, v12o12_1_1].toArray]) trivial rfl Tryd.func95 rfl rfl rfl rfl rfl (fun w hw => ok_95 hw m15_1g0l ) ?_)
          rintro _ H15_1 _ l15_1 ⟨M15_1, rfl, rfl⟩
          have hb0_0 := PAt.mono l15_1 hb0_0
          have hb7_3 := PAt.mono l15_1 hb7_3
          have h5_1 := Sl.mono l15_1 h5_1
          have h15_1q0f := Sl.mono l15_1 h15_1q0f
          have h12o12_1_1 := Sl.mono l15_1 h12o12_1_1
          have hg := Glob.mono l15_1 hg
          have m15_1g0l := Rp.mono l15_1 m15_1g0l
          have m15_1 : Rp.rep (α := Bk (some M15_1)) H15_1 ([.slice (some ⟨b14_14, 0, none⟩) (x13_2).length c14_14, v12o12_1_1] ++ [Value.map (some M15_1)]) ((⟨(x13_2).set (yj3_22).toNat ((⟨x14_14.Heat, (⟨IntKind.i64.wrap (x7_1.Damp.Low + yj6_38), IntKind.i64.wrap (x7_1.Damp.Low + yj6_38)⟩ : Span)⟩ : TunnelPart)), p0.Frames⟩ : TunnelBook)) := ⟨_, rfl, m15_1g0l⟩
          obtain ⟨x15_2, q15_2, hm⟩ := bind_some hm
          refine a_cons (e_callM (i := 0) (all := [.agg ([.slice (some ⟨b14_14, 0, none⟩) (x13_2).length c14_14, v12o12_1_1] ++ [Value.map (some M15_1)]).toArray, .slice none 0 0]) trivial rfl Tryd.func96 rfl rfl rfl rfl rfl rfl (fun w hw ho hn => ok_96 hw m15_1 (sl_nil _ none 0) hg ho hn q15_2) ?_)
          rintro _ H15_2 l15_2 ⟨c15_2r0, rfl, h15_2r0⟩
          have hb0_0 := PAt.mono l15_2 hb0_0
          have hb7_3 := PAt.mono l15_2 hb7_3
          have h5_1 := Sl.mono l15_2 h5_1
          have h15_1q0f := Sl.mono l15_2 h15_1q0f
          have h12o12_1_1 := Sl.mono l15_2 h12o12_1_1
          have m15_1 := Rp.mono l15_2 m15_1
          have hg := Glob.mono l15_2 hg
          refine ap (y_move rfl) ?_
          refine ap (y_extract rfl rfl) ?_
          refine ap (y_extract rfl rfl) ?_
          refine a_cons (e_alloc (cs := [.int .i64 0, .int .i64 0, .int .i64 0, .int .i64 0, .int .i64 0, .int .i64 0]) trivial rfl ty125 rfl ?_)
          intro b15_6
          have mz15_6 := z125 H15_2
          refine a_cons (e_storeWhole (i := 0) (ds := c15_2r0) trivial ty125 rfl rfl rfl rfl (Rp.len h15_2r0) ((Rp.one h15_2r0)) rfl ?_)
          refine ap (y_assign rfl) ?_
          refine a_nil ?_
          refine a_freeze (α := TunnelChoice) (x := x15_2.1) (i := 0) rfl h15_2r0 ?_
          intro Hb15_6 lb15_6 hb15_6
          have hb0_0 := PAt.mono lb15_6 hb0_0
          have hb7_3 := PAt.mono lb15_6 hb7_3
          have h5_1 := Sl.mono lb15_6 h5_1
          have h15_1q0f := Sl.mono lb15_6 h15_1q0f
          have h12o12_1_1 := Sl.mono lb15_6 h12o12_1_1
          have m15_1 := Rp.mono lb15_6 m15_1
          have h15_2r0 := Rp.mono lb15_6 h15_2r0
          have hg := Glob.mono lb15_6 hg
          refine a_en [(1, .pointer (some ⟨b0_0, 0, none⟩)), (5, .int .i64 yj3_5), (6, .int .i64 yj3_6), (7, .int .i64 yj3_22), (8, .pointer (some ⟨b7_3, 0, none⟩)), (9, .int .i64 yj6_9), (12, .pointer (some ⟨b15_6, 0, none⟩)), (20, v5_1), (21, .int .i64 (p0.Parts.length : Int)), (22, .int .i64 yj3_22), (37, .int .i64 (IntKind.i64.wrap ((IntKind.i64.wrap (x7_1.Damp.High - x7_1.Damp.Low)) + 1))), (38, .int .i64 yj6_38)] ?_
          refine a_own [1] (by decide) (L' := [.blk M15_1 (Memo ((⟨(x13_2).set (yj3_22).toNat ((⟨x14_14.Heat, (⟨IntKind.i64.wrap (x7_1.Damp.Low + yj6_38), IntKind.i64.wrap (x7_1.Damp.Low + yj6_38)⟩ : Span)⟩ : TunnelPart)), p0.Frames⟩ : TunnelBook)))]) rfl ?_
          refine a_then (a_region rfl ?_)
          refine ap (y_move rfl) ?_
          have h16_1 := TunnelChoice.at_many hb15_6
          refine ap (y_fieldAddr fo125_1 rfl) ?_
          refine ap (y_load_int ty3 rfl (fun _ h => h.sub) rfl h16_1) ?_
          refine ap (y_min rfl rfl) ?_
          refine ap (y_assign rfl) ?_
          refine a_nil ?_
          refine a_en [(1, .pointer (some ⟨b0_0, 0, none⟩)), (5, .int .i64 yj3_5), (6, .int .i64 yj3_6), (7, .int .i64 yj3_22), (8, .pointer (some ⟨b7_3, 0, none⟩)), (9, .int .i64 (min yj6_9 x15_2.1.many)), (20, v5_1), (21, .int .i64 (p0.Parts.length : Int)), (22, .int .i64 yj3_22), (37, .int .i64 (IntKind.i64.wrap ((IntKind.i64.wrap (x7_1.Damp.High - x7_1.Damp.Low)) + 1))), (38, .int .i64 yj6_38)] ?_
          refine a_block_normal (a_then (a_region rfl ?_))
          refine ap (y_add rfl rfl) ?_
          refine ap (y_move rfl) ?_
          refine a_nil ?_
          refine a_en [(1, .pointer (some ⟨b0_0, 0, none⟩)), (5, .int .i64 yj3_5), (6, .int .i64 yj3_6), (7, .int .i64 yj3_22), (8, .pointer (some ⟨b7_3, 0, none⟩)), (9, .int .i64 (min yj6_9 x15_2.1.many)), (20, v5_1), (21, .int .i64 (p0.Parts.length : Int)), (22, .int .i64 yj3_22), (37, .int .i64 (IntKind.i64.wrap ((IntKind.i64.wrap (x7_1.Damp.High - x7_1.Damp.Low)) + 1))), (38, .int .i64 (IntKind.i64.wrap (yj6_38 + 1)))] ?_
          refine a_then ?_
          intro a_ w_ ha_ hs_
          exact ⟨n_j6, Nat.lt_succ_self _, Hb15_6, (lj6.trans (l13_2.trans (l15_1q0f.trans (l15_1.trans (l15_2.trans lb15_6))))), min yj6_9 x15_2.1.many, IntKind.i64.wrap (yj6_38 + 1), hm, ha_.weaken ⟨rfl, rfl, rfl, rfl, rfl, rfl, rfl, rfl, rfl, rfl, rfl, trivial⟩, hs_.reix [] (by decide)⟩
        have hm := cond_f k_7 hm
        refine a_exit (a_then_exit (a_then_exit (a_block_hit (a_cut ?_))))
        intro a_ w_ ha_ hs_
        exact ⟨Hj6, lj6, yj6_9, Option.some.inj hm, ha_.weaken ⟨rfl, rfl, rfl, rfl, rfl, rfl, rfl, rfl, trivial⟩, hs_.reix [] (by decide)⟩
      have hm := hm_j5
      rintro a_ w_ ⟨Hj5, lj5, yj5_9, rfl, ha_, hs_⟩
      try dsimp only at hm
      refine a_start ha_ hs_ ?_
      have hb0_0 := PAt.mono lj5 hb0_0
      have h5_1 := Sl.mono lj5 h5_1
      have hg := Glob.mono lj5 hg
      refine a_then (a_seq ?_)
      obtain ⟨s_j8, hs_j8, hm_j8⟩ := bind_some hm
      refine a_join (fun a_ w_ => ∃ (yj8_79 : Bool), yj8_79 = s_j8 ∧ Ag 84 [] [(1, .pointer (some ⟨b0_0, 0, none⟩)), (5, .int .i64 yj3_5), (6, .int .i64 yj3_6), (7, .int .i64 yj3_22), (9, .int .i64 yj5_9), (20, v5_1), (21, .int .i64 (p0.Parts.length : Int)), (22, .int .i64 yj3_22), (79, .bool yj8_79)] a_ ∧ St (Kp.mk w H noX) Hj5 [] w_) ?_ ?_
      · have hm := hs_j8
        refine a_region rfl ?_
        refine ap (y_move rfl) ?_
        refine ap (y_lss rfl rfl) ?_
        refine ap (y_move rfl) ?_
        rcases Bool.eq_false_or_eq_true (decide (yj3_5 < 0)) with k18_3 | k18_3
        · have hm := cond_t k18_3 hm
          refine as1 (sk1 rfl rfl k18_3) ?_
          refine as1 (sk1 rfl rfl k18_3) ?_
          refine as1 (sk1 rfl rfl k18_3) ?_
          refine ap (y_pick_t rfl k18_3 rfl) ?_
          refine a_nil ?_
          refine a_en [(1, .pointer (some ⟨b0_0, 0, none⟩)), (5, .int .i64 yj3_5), (6, .int .i64 yj3_6), (7, .int .i64 yj3_22), (9, .int .i64 yj5_9), (20, v5_1), (21, .int .i64 (p0.Parts.length : Int)), (22, .int .i64 yj3_22), (76, undef), (77, undef), (78, undef), (79, .bool true)] ?_
          refine a_cut ?_
          intro a_ w_ ha_ hs_
          exact ⟨true, Option.some.inj hm, ha_.weaken ⟨rfl, rfl, rfl, rfl, rfl, rfl, rfl, rfl, rfl, trivial⟩, hs_.reix [] (by decide)⟩
        have hm := cond_f k18_3 hm
        refine ag ⟨_, _, rfl, rfl, k18_3⟩ (y_move rfl) ?_
        refine ag ⟨_, _, rfl, rfl, k18_3⟩ (y_move rfl) ?_
        refine ag ⟨_, _, rfl, rfl, k18_3⟩ (y_gtr rfl rfl) ?_
        refine ap (y_pick_f rfl k18_3 rfl) ?_
        refine a_nil ?_
        refine a_en [(1, .pointer (some ⟨b0_0, 0, none⟩)), (5, .int .i64 yj3_5), (6, .int .i64 yj3_6), (7, .int .i64 yj3_22), (9, .int .i64 yj5_9), (20, v5_1), (21, .int .i64 (p0.Parts.length : Int)), (22, .int .i64 yj3_22), (76, .int .i64 yj5_9), (77, .int .i64 yj3_6), (78, .bool (decide (yj5_9 > yj3_6))), (79, .bool (decide (yj5_9 > yj3_6)))] ?_
        refine a_cut ?_
        intro a_ w_ ha_ hs_
        exact ⟨decide (yj5_9 > yj3_6), Option.some.inj hm, ha_.weaken ⟨rfl, rfl, rfl, rfl, rfl, rfl, rfl, rfl, rfl, trivial⟩, hs_.reix [] (by decide)⟩
      have hm := hm_j8
      rintro a_ w_ ⟨yj8_79, rfl, ha_, hs_⟩
      try dsimp only at hm
      refine a_start ha_ hs_ ?_
      refine a_then ?_
      refine a_cond rfl (fun k_9 => ?_) (fun k_9 => ?_)
      · have hm := cond_t k_9 hm
        refine a_region rfl ?_
        refine ap (y_move rfl) ?_
        refine ap (y_move rfl) ?_
        refine ap (y_assign rfl) ?_
        refine ap (y_assign rfl) ?_
        refine a_nil ?_
        refine a_en [(1, .pointer (some ⟨b0_0, 0, none⟩)), (5, .int .i64 yj3_22), (6, .int .i64 yj5_9), (20, v5_1), (21, .int .i64 (p0.Parts.length : Int)), (22, .int .i64 yj3_22)] ?_
        refine a_block_normal (a_then (a_region rfl ?_))
        refine ap (y_add rfl rfl) ?_
        refine ap (y_move rfl) ?_
        refine a_nil ?_
        refine a_en [(1, .pointer (some ⟨b0_0, 0, none⟩)), (5, .int .i64 yj3_22), (6, .int .i64 yj5_9), (20, v5_1), (21, .int .i64 (p0.Parts.length : Int)), (22, .int .i64 (IntKind.i64.wrap (yj3_22 + 1)))] ?_
        refine a_then ?_
        intro a_ w_ ha_ hs_
        exact ⟨n_j3, Nat.lt_succ_self _, Hj5, (lj3.trans (lb7_3.trans lj5)), yj3_22, yj5_9, IntKind.i64.wrap (yj3_22 + 1), hm, ha_.weaken ⟨rfl, rfl, rfl, rfl, rfl, rfl, trivial⟩, hs_.reix [] (by decide)⟩
      have hm := cond_f k_9 hm
      refine a_skip (a_block_normal (a_then (a_region rfl ?_)))
      refine ap (y_add rfl rfl) ?_
      refine ap (y_move rfl) ?_
      refine a_nil ?_
      refine a_en [(1, .pointer (some ⟨b0_0, 0, none⟩)), (5, .int .i64 yj3_5), (6, .int .i64 yj3_6), (20, v5_1), (21, .int .i64 (p0.Parts.length : Int)), (22, .int .i64 (IntKind.i64.wrap (yj3_22 + 1)))] ?_
      refine a_then ?_
      intro a_ w_ ha_ hs_
      exact ⟨n_j3, Nat.lt_succ_self _, Hj5, (lj3.trans (lb7_3.trans lj5)), yj3_5, yj3_6, IntKind.i64.wrap (yj3_22 + 1), hm, ha_.weaken ⟨rfl, rfl, rfl, rfl, rfl, rfl, trivial⟩, hs_.reix [] (by decide)⟩
    have hm := cond_f k_4 hm
    refine a_exit (a_then_exit (a_then_exit (a_block_hit (a_cut ?_))))
    intro a_ w_ ha_ hs_
    exact ⟨Hj3, lj3, yj3_5, Option.some.inj hm, ha_.weaken ⟨rfl, trivial⟩, hs_.reix [] (by decide)⟩
  have hm := hm_j2
  rintro a_ w_ ⟨Hj2, lj2, yj2_5, rfl, ha_, hs_⟩
  try dsimp only at hm
  refine a_start ha_ hs_ ?_
  have hg := Glob.mono lj2 hg
  refine a_then (a_seq (a_region rfl ?_))
  refine ap (y_move rfl) ?_
  refine ap (y_assign rfl) ?_
  refine ap (y_assign rfl) ?_
  refine a_nil ?_
  refine a_en [(2, .int .i64 yj2_5), (3, .int .i64 0)] ?_
  refine a_then (a_ret ?_)
  refine a_done (v := .tuple #[.int .i64 yj2_5, .int .i64 0]) (.inl rfl) rfl ?_ ?_
  · intro a_ w_ ha_ hs_; exact run_results (P := Tryd.prog) (fn := Tryd.f41) (rs := [.tmp 2, .tmp 3]) (vs := [.int .i64 yj2_5, .int .i64 0]) rfl (.cons (rv_tmp ha_ rfl) (.cons (rv_tmp ha_ rfl) (All2.nil)))
  · intro _ _; obtain rfl := Option.some.inj hm
    rfl

def tunnel_Most (k : Nat) (p0 : TunnelBook) : Option ((List Int) × (List Int) × Int) :=
 (tunnel_Check k p0).bind fun x1_1 =>
 bif x1_1 != 0 then
 some (([], [], x1_1))
 else
 (tunnel_book_best k p0 []).bind fun x5_1 =>
 (tunnel_book_listed k p0 x5_1.1.set_).bind fun x6_3 =>
 (tunnel_book_good k p0 x5_1.1.set_).bind fun x6_7 =>
 some ((x6_3, x6_7, 0))
theorem ok_33 {k : Nat} {H : Hp} {w : World} {p0 : TunnelBook} {c0 : List Value} {r : (List Int) × (List Int) × Int} (hsub : Sub H w) (h0 : Rp.rep (α := TunnelBook) H c0 p0) (hg : Glob H) (hm : tunnel_Most k p0 = some r) : Calls Tryd.prog 33 [.agg c0.toArray].toArray w (PostH w H fun v H' => ∃ v0, ∃ v1, v = .tuple #[v0, v1, .int .i64 r.2.2] ∧ Sl (α := Int) H' v0 r.1 ∧ Sl (α := Int) H' v1 r.2.1) := by
  unfold tunnel_Most at hm
  refine start (n := 29) (E := [(0, .agg c0.toArray)]) Tryd.func33 rfl rfl ⟨rfl, trivial⟩ rfl hsub ?_
  refine a_seq (a_region rfl ?_)
  refine a_cons (e_box (cs := c0) trivial rfl rfl rfl ?_)
  intro b0_0
  refine ap (y_assign rfl) ?_
  refine ap (y_assign rfl) ?_
  refine ap (y_assign rfl) ?_
  refine a_nil ?_
  refine a_freeze (α := TunnelBook) (x := p0) (i := 0) rfl h0 ?_
  intro Hb0_0 lb0_0 hb0_0
  have h0 := Rp.mono lb0_0 h0
  have hg := Glob.mono lb0_0 hg
  refine a_en [(1, .pointer (some ⟨b0_0, 0, none⟩))] ?_
  refine a_own [] (by decide) (L' := []) rfl ?_
  refine a_then (a_seq (a_seq (a_region rfl ?_)))
  obtain ⟨u1_0, h1_0, c1_0⟩ := PAt.one hb0_0
  refine ap (y_load_cells ty25 rfl (fun _ h => h.sub) rfl c1_0 (Rp.len h1_0)) ?_
  obtain ⟨x1_1, q1_1, hm⟩ := bind_some hm
  refine a_cons (e_callV (all := [.agg u1_0.toArray]) (v := .int .i64 x1_1) trivial rfl Tryd.func21 rfl rfl rfl rfl rfl (fun w hw => ok_21 hw h1_0 q1_1) ?_)
  refine ap (y_assign rfl) ?_
  refine a_nil ?_
  refine a_en [(1, .pointer (some ⟨b0_0, 0, none⟩)), (5, .int .i64 x1_1)] ?_
  refine a_then (a_seq (a_region rfl ?_))
  refine ap (y_move rfl) ?_
  refine ap (y_neq rfl rfl) ?_
  refine a_nil ?_
  refine a_en [(1, .pointer (some ⟨b0_0, 0, none⟩)), (5, .int .i64 x1_1), (12, .bool (x1_1 != 0))] ?_
  refine a_then ?_
  refine a_cond rfl (fun k_1 => ?_) (fun k_1 => ?_)
  · have hm := cond_t k_1 hm
    refine a_seq (a_region rfl ?_)
    refine ap (y_move rfl) ?_
    refine ap (y_assign rfl) ?_
    refine ap (y_assign rfl) ?_
    refine ap (y_assign rfl) ?_
    refine a_nil ?_
    refine a_en [(2, .slice none 0 0), (3, .slice none 0 0), (4, .int .i64 x1_1)] ?_
    refine a_then (a_ret (a_then_ret ?_))
    refine a_done (v := .tuple #[.slice none 0 0, .slice none 0 0, .int .i64 x1_1]) (.inl rfl) rfl ?_ ?_
    · intro a_ w_ ha_ hs_; exact run_results (P := Tryd.prog) (fn := Tryd.f33) (rs := [.tmp 2, .tmp 3, .tmp 4]) (vs := [.slice none 0 0, .slice none 0 0, .int .i64 x1_1]) rfl (.cons (rv_tmp ha_ rfl) (.cons (rv_tmp ha_ rfl) (.cons (rv_tmp ha_ rfl) (All2.nil))))
    · intro _ _; obtain rfl := Option.some.inj hm; exact ⟨.slice none 0 0, .slice none 0 0, rfl, (sl_nil _ none 0), (sl_nil _ none 0)⟩
  have hm := cond_f k_1 hm
  refine a_skip (a_then (a_seq (a_region rfl ?_)))
  obtain ⟨u4_0, h4_0, c4_0⟩ := PAt.one hb0_0
  refine ap (y_load_cells ty25 rfl (fun _ h => h.sub) rfl c4_0 (Rp.len h4_0)) ?_
  refine a_cons (e_callO (all := [.agg u4_0.toArray]) trivial rfl Tryd.func95 rfl rfl rfl rfl rfl (fun w hw => ok_95 hw h4_0 ) ?_)
  rintro _ H4_1 _ l4_1 ⟨M4_1, rfl, rfl⟩
  have hb0_0 := PAt.mono l4_1 hb0_0
  have h4_0 := Rp.mono l4_1 h4_0
  have hg := Glob.mono l4_1 hg
  have m4_1 : Rp.rep (α := Bk (some M4_1)) H4_1 (u4_0 ++ [Value.map (some M4_1)]) p0 := ⟨_, rfl, h4_0⟩
  refine a_cons (e_alloc (cs := [.slice none 0 0, .slice none 0 0, .map none]) trivial rfl ty110 rfl ?_)
  intro b4_2
  refine a_cons (e_storeWhole (i := 0) (ds := u4_0 ++ [Value.map (some M4_1)]) trivial ty110 rfl rfl rfl rfl (Rp.len m4_1) ((Rp.one m4_1)) rfl ?_)
  refine a_nil ?_
  refine a_freeze (α := Bk _) (x := p0) (i := 0) rfl m4_1 ?_
  intro Hb4_2 lb4_2 hb4_2
  have hb0_0 := PAt.mono lb4_2 hb0_0
  have h4_0 := Rp.mono lb4_2 h4_0
  have m4_1 := Rp.mono lb4_2 m4_1
  have hg := Glob.mono lb4_2 hg
  refine a_en [(6, .pointer (some ⟨b4_2, 0, none⟩))] ?_
  refine a_own [1] (by decide) (L' := [.blk M4_1 (Memo p0)]) rfl ?_
  refine a_then (a_seq (a_region rfl ?_))
  obtain ⟨u5_0, h5_0, c5_0⟩ := PAt.one hb4_2
  refine ap (y_load_cells ty110 rfl (fun _ h => h.sub) rfl c5_0 (Rp.len h5_0)) ?_
  obtain ⟨x5_1, q5_1, hm⟩ := bind_some hm
  refine a_cons (e_callM (i := 0) (all := [.agg u5_0.toArray, .slice none 0 0]) trivial rfl Tryd.func96 rfl rfl rfl rfl rfl rfl (fun w hw ho hn => ok_96 hw h5_0 (sl_nil _ none 0) hg ho hn q5_1) ?_)
  rintro _ H5_1 l5_1 ⟨c5_1r0, rfl, h5_1r0⟩
  have hb4_2 := PAt.mono l5_1 hb4_2
  have h5_0 := Rp.mono l5_1 h5_0
  have hg := Glob.mono l5_1 hg
  refine ap (y_move rfl) ?_
  refine ap (y_extract rfl rfl) ?_
  refine ap (y_extract rfl rfl) ?_
  refine a_cons (e_alloc (cs := [.int .i64 0, .int .i64 0, .int .i64 0, .int .i64 0, .int .i64 0, .int .i64 0]) trivial rfl ty125 rfl ?_)
  intro b5_5
  have mz5_5 := z125 H5_1
  refine a_cons (e_storeWhole (i := 0) (ds := c5_1r0) trivial ty125 rfl rfl rfl rfl (Rp.len h5_1r0) ((Rp.one h5_1r0)) rfl ?_)
  refine ap (y_assign rfl) ?_
  refine a_nil ?_
  refine a_freeze (α := TunnelChoice) (x := x5_1.1) (i := 0) rfl h5_1r0 ?_
  intro Hb5_5 lb5_5 hb5_5
  have hb4_2 := PAt.mono lb5_5 hb4_2
  have h5_0 := Rp.mono lb5_5 h5_0
  have h5_1r0 := Rp.mono lb5_5 h5_1r0
  have hg := Glob.mono lb5_5 hg
  refine a_en [(6, .pointer (some ⟨b4_2, 0, none⟩)), (7, .pointer (some ⟨b5_5, 0, none⟩))] ?_
  refine a_own [1] (by decide) (L' := [.blk M4_1 (Memo p0)]) rfl ?_
  refine a_then (a_seq ?_)
  obtain ⟨x6_3, q6_3, hm⟩ := bind_some hm
  obtain ⟨x6_7, q6_7, hm⟩ := bind_some hm
  refine d_region (S := Sw Hb5_5 []) (n := 11) (listed := (bits 11 0)) mixed (by kernel_rfl) rfl (by kernel_rfl) ?_
  obtain ⟨u6_0, h6_0, c6_0⟩ := PAt.one hb4_2
  refine dt 0 1 rfl trivial (y_load_cells ty110 rfl (fun _ h => h.1) rfl c6_0 (Rp.len h6_0)) (sw0 []) ?_
  have h6_1 := TunnelChoice.at_set_ hb5_5
  refine dt 1 3 rfl trivial (y_fieldAddr fo125_0 rfl) (sw0 []) ?_
  obtain ⟨u6_2, h6_2, c6_2⟩ := PAt.one h6_1
  refine dt 2 7 rfl trivial (y_load_cells ty111 rfl (fun _ h => h.1) rfl c6_2 (Rp.len h6_2)) (sw0 []) ?_
  obtain ⟨u6_4, h6_4, c6_4⟩ := PAt.one hb4_2
  refine dt 4 23 rfl trivial (y_load_cells ty110 rfl (fun _ h => h.1) rfl c6_4 (Rp.len h6_4)) (sw0 []) ?_
  have h6_5 := TunnelChoice.at_set_ hb5_5
  refine dt 5 55 rfl trivial (y_fieldAddr fo125_0 rfl) (sw0 []) ?_
  obtain ⟨u6_6, h6_6, c6_6⟩ := PAt.one h6_5
  refine dt 6 119 rfl trivial (y_load_cells ty111 rfl (fun _ h => h.1) rfl c6_6 (Rp.len h6_6)) (sw0 []) ?_
  refine d1 3 rfl (e_callH (all := [.agg u6_0.toArray, .agg u6_2.toArray]) trivial rfl Tryd.func98 rfl rfl rfl rfl rfl (fun w hw => ok_98 hw h6_0 h6_2 q6_3) ?_)
  rintro v6_3r0 H6_3 l6_3 ⟨_, rfl, h6_3r0⟩
  have hb4_2 := PAt.mono l6_3 hb4_2
  have hb5_5 := PAt.mono l6_3 hb5_5
  have h6_0 := Rp.mono l6_3 h6_0
  have h6_1 := PAt.mono l6_3 h6_1
  have h6_2 := Rp.mono l6_3 h6_2
  have h6_4 := Rp.mono l6_3 h6_4
  have h6_5 := PAt.mono l6_3 h6_5
  have h6_6 := Rp.mono l6_3 h6_6
  have hg := Glob.mono l6_3 hg
  refine dn 127 (swl l6_3 []) ?_
  refine d1 7 rfl (e_callM (i := 0) (all := [.agg u6_4.toArray, .agg u6_6.toArray]) trivial rfl Tryd.func92 rfl rfl rfl rfl rfl rfl (fun w hw ho hn => ok_92 hw h6_4 h6_6 hg ho hn q6_7) ?_)
  rintro v6_7r0 H6_7 l6_7 ⟨_, rfl, h6_7r0⟩
  have hb4_2 := PAt.mono l6_7 hb4_2
  have hb5_5 := PAt.mono l6_7 hb5_5
  have h6_0 := Rp.mono l6_7 h6_0
  have h6_1 := PAt.mono l6_7 h6_1
  have h6_2 := Rp.mono l6_7 h6_2
  have h6_4 := Rp.mono l6_7 h6_4
  have h6_5 := PAt.mono l6_7 h6_5
  have h6_6 := Rp.mono l6_7 h6_6
  have h6_3r0 := Sl.mono l6_7 h6_3r0
  have hg := Glob.mono l6_7 hg
  refine dn 255 (swl (l6_3.trans l6_7) []) ?_
  refine d_weaken (S' := Sw H6_7 []) (sw_sw (l6_3.trans l6_7) [] rfl) ?_
  refine dt 8 511 rfl trivial (y_assign rfl) (sw0 []) ?_
  refine dt 9 1023 rfl trivial (y_assign rfl) (sw0 []) ?_
  refine dt 10 2047 rfl trivial (y_assign rfl) (sw0 []) ?_
  refine d_done (by kernel_rfl) ?_
  refine a_en [(2, v6_3r0), (3, v6_7r0), (4, .int .i64 0)] ?_
  refine a_then (a_ret ?_)
  refine a_done (v := .tuple #[v6_3r0, v6_7r0, .int .i64 0]) (.inl rfl) rfl ?_ ?_
  · intro a_ w_ ha_ hs_; exact run_results (P := Tryd.prog) (fn := Tryd.f33) (rs := [.tmp 2, .tmp 3, .tmp 4]) (vs := [v6_3r0, v6_7r0, .int .i64 0]) rfl (.cons (rv_tmp ha_ rfl) (.cons (rv_tmp ha_ rfl) (.cons (rv_tmp ha_ rfl) (All2.nil))))
  · intro _ _; obtain rfl := Option.some.inj hm; exact ⟨v6_3r0, v6_7r0, rfl, h6_3r0, h6_7r0⟩

def tunnel_Heat (k : Nat) (p0 : TunnelBook) (p1 : List Int) : Option (Int × Int) :=
 (tunnel_asked k p0 p1 true).bind fun x1_2 =>
 bif x1_2.2.2 != 0 then
 some ((0, x1_2.2.2))
 else
 (tunnel_book_heat k x1_2.1 x1_2.2.1).bind fun x4_2 =>
 some ((x4_2, 0))
theorem ok_19 {k : Nat} {H : Hp} {w : World} {p0 : TunnelBook} {p1 : List Int} {c0 : List Value} {v1 : Value} {r : Int × Int} (hsub : Sub H w) (h0 : Rp.rep (α := TunnelBook) H c0 p0) (h1 : Sl (α := Int) H v1 p1) (hm : tunnel_Heat k p0 p1 = some r) : Calls Tryd.prog 19 [.agg c0.toArray, v1].toArray w (PostV w H (.tuple #[.int .i64 r.1, .int .i64 r.2])) := by
  unfold tunnel_Heat at hm
  refine start (n := 22) (E := [(0, .agg c0.toArray), (1, v1)]) Tryd.func19 rfl rfl ⟨rfl, rfl, trivial⟩ rfl hsub ?_
  refine a_seq (a_region rfl ?_)
  refine a_cons (e_box (cs := c0) trivial rfl rfl rfl ?_)
  intro b0_0
  refine ap (y_assign rfl) ?_
  refine ap (y_assign rfl) ?_
  refine a_nil ?_
  refine a_freeze (α := TunnelBook) (x := p0) (i := 0) rfl h0 ?_
  intro Hb0_0 lb0_0 hb0_0
  have h0 := Rp.mono lb0_0 h0
  have h1 := Sl.mono lb0_0 h1
  refine a_en [(1, v1), (2, .pointer (some ⟨b0_0, 0, none⟩))] ?_
  refine a_own [] (by decide) (L' := []) rfl ?_
  refine a_then (a_seq (a_region rfl ?_))
  obtain ⟨u1_0, h1_0, c1_0⟩ := PAt.one hb0_0
  refine ap (y_load_cells ty25 rfl (fun _ h => h.sub) rfl c1_0 (Rp.len h1_0)) ?_
  refine ap (y_move rfl) ?_
  obtain ⟨x1_2, q1_2, hm⟩ := bind_some hm
  rcases Bool.eq_false_or_eq_true (x1_2.2.2 != 0) with k1_2 | k1_2
  · have hm := cond_t k1_2 hm
    refine a_cons (e_callO (all := [.agg u1_0.toArray, v1, .bool true]) trivial rfl Tryd.func80 rfl rfl rfl rfl rfl (fun w hw => ok_80 hw h1_0 h1 q1_2) ?_)
    rintro _ H1_2 _ l1_2 ⟨cb1_2, cs1_2, mm1_2, rfl, hb1_2, hc1_2, hd1_2⟩
    rcases hd1_2 with ⟨rfl, he1_2, rfl⟩ | ⟨M1_2, rfl, he1_2, rfl⟩
    rotate_left
    · exact absurd k1_2 (by simp [he1_2])
    have h1 := Sl.mono l1_2 h1
    have hb0_0 := PAt.mono l1_2 hb0_0
    have h1_0 := Rp.mono l1_2 h1_0
    refine ap (y_move rfl) ?_
    refine ap (y_extract rfl rfl) ?_
    refine ap (y_extract rfl rfl) ?_
    refine ap (y_extract rfl rfl) ?_
    refine a_cons (e_alloc (cs := [.slice none 0 0, .slice none 0 0, .map none]) trivial rfl ty110 rfl ?_)
    intro b1_7
    refine a_cons (e_alloc (cs := [.int .i64 0, .int .i64 0, .int .i64 0, .int .i64 0]) trivial rfl ty111 rfl ?_)
    intro b1_8
    have mz1_8 := z111 H1_2
    refine a_cons (e_storeWhole (i := 1) (ds := cb1_2) trivial ty110 rfl rfl rfl rfl (Rp.len hb1_2) ((Rp.one hb1_2)) rfl ?_)
    refine a_cons (e_storeWhole (i := 0) (ds := cs1_2) trivial ty111 rfl rfl rfl rfl (Rp.len hc1_2) ((Rp.one hc1_2)) rfl ?_)
    refine ap (y_assign rfl) ?_
    refine a_nil ?_
    refine a_freeze (α := Arr 4 Int) (x := x1_2.2.1) (i := 0) rfl hc1_2 ?_
    intro Hb1_8 lb1_8 hb1_8
    have h1 := Sl.mono lb1_8 h1
    have hb0_0 := PAt.mono lb1_8 hb0_0
    have h1_0 := Rp.mono lb1_8 h1_0
    have hb1_2 := Rp.mono lb1_8 hb1_2
    have hc1_2 := Rp.mono lb1_8 hc1_2
    refine a_freeze (α := Bk _) (x := x1_2.1) (i := 1) rfl hb1_2 ?_
    intro Hb1_7 lb1_7 hb1_7
    have h1 := Sl.mono lb1_7 h1
    have hb0_0 := PAt.mono lb1_7 hb0_0
    have h1_0 := Rp.mono lb1_7 h1_0
    have hb1_2 := Rp.mono lb1_7 hb1_2
    have hc1_2 := Rp.mono lb1_7 hc1_2
    have hb1_8 := PAt.mono lb1_7 hb1_8
    refine a_en [(6, .pointer (some ⟨b1_7, 0, none⟩)), (7, .pointer (some ⟨b1_8, 0, none⟩)), (8, .int .i64 x1_2.2.2)] ?_
    refine a_own [] (by decide) (L' := []) rfl ?_
    refine a_then (a_seq (a_seq (a_region rfl ?_)))
    refine ap (y_move rfl) ?_
    refine ap (y_neq rfl rfl) ?_
    refine a_nil ?_
    refine a_en [(6, .pointer (some ⟨b1_7, 0, none⟩)), (7, .pointer (some ⟨b1_8, 0, none⟩)), (8, .int .i64 x1_2.2.2), (17, .bool (x1_2.2.2 != 0))] ?_
    refine a_then ?_
    refine a_cond rfl (fun _ => ?_) (fun h_ => absurd (h_.symm.trans k1_2) (by decide))
    refine a_seq (a_region rfl ?_)
    refine ap (y_move rfl) ?_
    refine ap (y_assign rfl) ?_
    refine ap (y_assign rfl) ?_
    refine a_nil ?_
    refine a_en [(4, .int .i64 0), (5, .int .i64 x1_2.2.2)] ?_
    refine a_then (a_ret (a_then_ret ?_))
    refine a_done (v := .tuple #[.int .i64 0, .int .i64 x1_2.2.2]) (.inl rfl) rfl ?_ ?_
    · intro a_ w_ ha_ hs_; exact run_results (P := Tryd.prog) (fn := Tryd.f19) (rs := [.tmp 4, .tmp 5]) (vs := [.int .i64 0, .int .i64 x1_2.2.2]) rfl (.cons (rv_tmp ha_ rfl) (.cons (rv_tmp ha_ rfl) (All2.nil)))
    · intro _ _; obtain rfl := Option.some.inj hm
      rfl
  have hm := cond_f k1_2 hm
  refine a_cons (e_callO (all := [.agg u1_0.toArray, v1, .bool true]) trivial rfl Tryd.func80 rfl rfl rfl rfl rfl (fun w hw => ok_80 hw h1_0 h1 q1_2) ?_)
  rintro _ H1_2 _ l1_2 ⟨cb1_2, cs1_2, mm1_2, rfl, hb1_2, hc1_2, hd1_2⟩
  rcases hd1_2 with ⟨rfl, he1_2, rfl⟩ | ⟨M1_2, rfl, he1_2, rfl⟩
  · exact absurd k1_2 (by simp [he1_2])
  have h1 := Sl.mono l1_2 h1
  have hb0_0 := PAt.mono l1_2 hb0_0
  have h1_0 := Rp.mono l1_2 h1_0
  refine ap (y_move rfl) ?_
  refine ap (y_extract rfl rfl) ?_
  refine ap (y_extract rfl rfl) ?_
  refine ap (y_extract rfl rfl) ?_
  refine a_cons (e_alloc (cs := [.slice none 0 0, .slice none 0 0, .map none]) trivial rfl ty110 rfl ?_)
  intro b1_7
  refine a_cons (e_alloc (cs := [.int .i64 0, .int .i64 0, .int .i64 0, .int .i64 0]) trivial rfl ty111 rfl ?_)
  intro b1_8
  have mz1_8 := z111 H1_2
  refine a_cons (e_storeWhole (i := 1) (ds := cb1_2) trivial ty110 rfl rfl rfl rfl (Rp.len hb1_2) ((Rp.one hb1_2)) rfl ?_)
  refine a_cons (e_storeWhole (i := 0) (ds := cs1_2) trivial ty111 rfl rfl rfl rfl (Rp.len hc1_2) ((Rp.one hc1_2)) rfl ?_)
  refine ap (y_assign rfl) ?_
  refine a_nil ?_
  refine a_freeze (α := Arr 4 Int) (x := x1_2.2.1) (i := 0) rfl hc1_2 ?_
  intro Hb1_8 lb1_8 hb1_8
  have h1 := Sl.mono lb1_8 h1
  have hb0_0 := PAt.mono lb1_8 hb0_0
  have h1_0 := Rp.mono lb1_8 h1_0
  have hb1_2 := Rp.mono lb1_8 hb1_2
  have hc1_2 := Rp.mono lb1_8 hc1_2
  refine a_freeze (α := Bk _) (x := x1_2.1) (i := 1) rfl hb1_2 ?_
  intro Hb1_7 lb1_7 hb1_7
  have h1 := Sl.mono lb1_7 h1
  have hb0_0 := PAt.mono lb1_7 hb0_0
  have h1_0 := Rp.mono lb1_7 h1_0
  have hb1_2 := Rp.mono lb1_7 hb1_2
  have hc1_2 := Rp.mono lb1_7 hc1_2
  have hb1_8 := PAt.mono lb1_7 hb1_8
  refine a_en [(6, .pointer (some ⟨b1_7, 0, none⟩)), (7, .pointer (some ⟨b1_8, 0, none⟩)), (8, .int .i64 x1_2.2.2)] ?_
  refine a_own [2] (by decide) (L' := [.blk M1_2 (Memo x1_2.1)]) rfl ?_
  refine a_then (a_seq (a_seq (a_region rfl ?_)))
  refine ap (y_move rfl) ?_
  refine ap (y_neq rfl rfl) ?_
  refine a_nil ?_
  refine a_en [(6, .pointer (some ⟨b1_7, 0, none⟩)), (7, .pointer (some ⟨b1_8, 0, none⟩)), (8, .int .i64 x1_2.2.2), (17, .bool (x1_2.2.2 != 0))] ?_
  refine a_then ?_
  refine a_cond rfl (fun h_ => absurd (h_.symm.trans k1_2) (by decide)) (fun _ => ?_)
  refine a_skip (a_then (a_seq (a_region rfl ?_)))
  obtain ⟨u4_0, h4_0, c4_0⟩ := PAt.one hb1_7
  refine ap (y_load_cells ty110 rfl (fun _ h => h.sub) rfl c4_0 (Rp.len h4_0)) ?_
  obtain ⟨u4_1, h4_1, c4_1⟩ := PAt.one hb1_8
  refine ap (y_load_cells ty111 rfl (fun _ h => h.sub) rfl c4_1 (Rp.len h4_1)) ?_
  obtain ⟨x4_2, q4_2, hm⟩ := bind_some hm
  refine a_cons (e_callV (all := [.agg u4_0.toArray, .agg u4_1.toArray]) (v := .int .i64 x4_2) trivial rfl Tryd.func81 rfl rfl rfl rfl rfl (fun w hw => ok_81 hw h4_0 h4_1 q4_2) ?_)
  refine ap (y_assign rfl) ?_
  refine ap (y_assign rfl) ?_
  refine a_nil ?_
  refine a_en [(4, .int .i64 x4_2), (5, .int .i64 0)] ?_
  refine a_then (a_ret ?_)
  refine a_done (v := .tuple #[.int .i64 x4_2, .int .i64 0]) (.inl rfl) rfl ?_ ?_
  · intro a_ w_ ha_ hs_; exact run_results (P := Tryd.prog) (fn := Tryd.f19) (rs := [.tmp 4, .tmp 5]) (vs := [.int .i64 x4_2, .int .i64 0]) rfl (.cons (rv_tmp ha_ rfl) (.cons (rv_tmp ha_ rfl) (All2.nil)))
  · intro _ _; obtain rfl := Option.some.inj hm
    rfl

def tunnel_Good (k : Nat) (p0 : TunnelBook) (p1 : List Int) : Option ((List Int) × Int) :=
 (tunnel_asked k p0 p1 true).bind fun x1_2 =>
 bif x1_2.2.2 != 0 then
 some (([], x1_2.2.2))
 else
 (tunnel_book_good k x1_2.1 x1_2.2.1).bind fun x4_2 =>
 some ((x4_2, 0))
theorem ok_27 {k : Nat} {H : Hp} {w : World} {p0 : TunnelBook} {p1 : List Int} {c0 : List Value} {v1 : Value} {r : (List Int) × Int} (hsub : Sub H w) (h0 : Rp.rep (α := TunnelBook) H c0 p0) (h1 : Sl (α := Int) H v1 p1) (hg : Glob H) (hm : tunnel_Good k p0 p1 = some r) : Calls Tryd.prog 27 [.agg c0.toArray, v1].toArray w (PostH w H fun v H' => ∃ v0, v = .tuple #[v0, .int .i64 r.2] ∧ Sl (α := Int) H' v0 r.1) := by
  unfold tunnel_Good at hm
  refine start (n := 22) (E := [(0, .agg c0.toArray), (1, v1)]) Tryd.func27 rfl rfl ⟨rfl, rfl, trivial⟩ rfl hsub ?_
  refine a_seq (a_region rfl ?_)
  refine a_cons (e_box (cs := c0) trivial rfl rfl rfl ?_)
  intro b0_0
  refine ap (y_assign rfl) ?_
  refine ap (y_assign rfl) ?_
  refine a_nil ?_
  refine a_freeze (α := TunnelBook) (x := p0) (i := 0) rfl h0 ?_
  intro Hb0_0 lb0_0 hb0_0
  have h0 := Rp.mono lb0_0 h0
  have h1 := Sl.mono lb0_0 h1
  have hg := Glob.mono lb0_0 hg
  refine a_en [(1, v1), (2, .pointer (some ⟨b0_0, 0, none⟩))] ?_
  refine a_own [] (by decide) (L' := []) rfl ?_
  refine a_then (a_seq (a_region rfl ?_))
  obtain ⟨u1_0, h1_0, c1_0⟩ := PAt.one hb0_0
  refine ap (y_load_cells ty25 rfl (fun _ h => h.sub) rfl c1_0 (Rp.len h1_0)) ?_
  refine ap (y_move rfl) ?_
  obtain ⟨x1_2, q1_2, hm⟩ := bind_some hm
  rcases Bool.eq_false_or_eq_true (x1_2.2.2 != 0) with k1_2 | k1_2
  · have hm := cond_t k1_2 hm
    refine a_cons (e_callO (all := [.agg u1_0.toArray, v1, .bool true]) trivial rfl Tryd.func80 rfl rfl rfl rfl rfl (fun w hw => ok_80 hw h1_0 h1 q1_2) ?_)
    rintro _ H1_2 _ l1_2 ⟨cb1_2, cs1_2, mm1_2, rfl, hb1_2, hc1_2, hd1_2⟩
    rcases hd1_2 with ⟨rfl, he1_2, rfl⟩ | ⟨M1_2, rfl, he1_2, rfl⟩
    rotate_left
    · exact absurd k1_2 (by simp [he1_2])
    have h1 := Sl.mono l1_2 h1
    have hb0_0 := PAt.mono l1_2 hb0_0
    have h1_0 := Rp.mono l1_2 h1_0
    have hg := Glob.mono l1_2 hg
    refine ap (y_move rfl) ?_
    refine ap (y_extract rfl rfl) ?_
    refine ap (y_extract rfl rfl) ?_
    refine ap (y_extract rfl rfl) ?_
    refine a_cons (e_alloc (cs := [.slice none 0 0, .slice none 0 0, .map none]) trivial rfl ty110 rfl ?_)
    intro b1_7
    refine a_cons (e_alloc (cs := [.int .i64 0, .int .i64 0, .int .i64 0, .int .i64 0]) trivial rfl ty111 rfl ?_)
    intro b1_8
    have mz1_8 := z111 H1_2
    refine a_cons (e_storeWhole (i := 1) (ds := cb1_2) trivial ty110 rfl rfl rfl rfl (Rp.len hb1_2) ((Rp.one hb1_2)) rfl ?_)
    refine a_cons (e_storeWhole (i := 0) (ds := cs1_2) trivial ty111 rfl rfl rfl rfl (Rp.len hc1_2) ((Rp.one hc1_2)) rfl ?_)
    refine ap (y_assign rfl) ?_
    refine a_nil ?_
    refine a_freeze (α := Arr 4 Int) (x := x1_2.2.1) (i := 0) rfl hc1_2 ?_
    intro Hb1_8 lb1_8 hb1_8
    have h1 := Sl.mono lb1_8 h1
    have hb0_0 := PAt.mono lb1_8 hb0_0
    have h1_0 := Rp.mono lb1_8 h1_0
    have hb1_2 := Rp.mono lb1_8 hb1_2
    have hc1_2 := Rp.mono lb1_8 hc1_2
    have hg := Glob.mono lb1_8 hg
    refine a_freeze (α := Bk _) (x := x1_2.1) (i := 1) rfl hb1_2 ?_
    intro Hb1_7 lb1_7 hb1_7
    have h1 := Sl.mono lb1_7 h1
    have hb0_0 := PAt.mono lb1_7 hb0_0
    have h1_0 := Rp.mono lb1_7 h1_0
    have hb1_2 := Rp.mono lb1_7 hb1_2
    have hc1_2 := Rp.mono lb1_7 hc1_2
    have hb1_8 := PAt.mono lb1_7 hb1_8
    have hg := Glob.mono lb1_7 hg
    refine a_en [(6, .pointer (some ⟨b1_7, 0, none⟩)), (7, .pointer (some ⟨b1_8, 0, none⟩)), (8, .int .i64 x1_2.2.2)] ?_
    refine a_own [] (by decide) (L' := []) rfl ?_
    refine a_then (a_seq (a_seq (a_region rfl ?_)))
    refine ap (y_move rfl) ?_
    refine ap (y_neq rfl rfl) ?_
    refine a_nil ?_
    refine a_en [(6, .pointer (some ⟨b1_7, 0, none⟩)), (7, .pointer (some ⟨b1_8, 0, none⟩)), (8, .int .i64 x1_2.2.2), (17, .bool (x1_2.2.2 != 0))] ?_
    refine a_then ?_
    refine a_cond rfl (fun _ => ?_) (fun h_ => absurd (h_.symm.trans k1_2) (by decide))
    refine a_seq (a_region rfl ?_)
    refine ap (y_move rfl) ?_
    refine ap (y_assign rfl) ?_
    refine ap (y_assign rfl) ?_
    refine a_nil ?_
    refine a_en [(4, .slice none 0 0), (5, .int .i64 x1_2.2.2)] ?_
    refine a_then (a_ret (a_then_ret ?_))
    refine a_done (v := .tuple #[.slice none 0 0, .int .i64 x1_2.2.2]) (.inl rfl) rfl ?_ ?_
    · intro a_ w_ ha_ hs_; exact run_results (P := Tryd.prog) (fn := Tryd.f27) (rs := [.tmp 4, .tmp 5]) (vs := [.slice none 0 0, .int .i64 x1_2.2.2]) rfl (.cons (rv_tmp ha_ rfl) (.cons (rv_tmp ha_ rfl) (All2.nil)))
    · intro _ _; obtain rfl := Option.some.inj hm; exact ⟨.slice none 0 0, rfl, (sl_nil _ none 0)⟩
  have hm := cond_f k1_2 hm
  refine a_cons (e_callO (all := [.agg u1_0.toArray, v1, .bool true]) trivial rfl Tryd.func80 rfl rfl rfl rfl rfl (fun w hw => ok_80 hw h1_0 h1 q1_2) ?_)
  rintro _ H1_2 _ l1_2 ⟨cb1_2, cs1_2, mm1_2, rfl, hb1_2, hc1_2, hd1_2⟩
  rcases hd1_2 with ⟨rfl, he1_2, rfl⟩ | ⟨M1_2, rfl, he1_2, rfl⟩
  · exact absurd k1_2 (by simp [he1_2])
  have h1 := Sl.mono l1_2 h1
  have hb0_0 := PAt.mono l1_2 hb0_0
  have h1_0 := Rp.mono l1_2 h1_0
  have hg := Glob.mono l1_2 hg
  refine ap (y_move rfl) ?_
  refine ap (y_extract rfl rfl) ?_
  refine ap (y_extract rfl rfl) ?_
  refine ap (y_extract rfl rfl) ?_
  refine a_cons (e_alloc (cs := [.slice none 0 0, .slice none 0 0, .map none]) trivial rfl ty110 rfl ?_)
  intro b1_7
  refine a_cons (e_alloc (cs := [.int .i64 0, .int .i64 0, .int .i64 0, .int .i64 0]) trivial rfl ty111 rfl ?_)
  intro b1_8
  have mz1_8 := z111 H1_2
  refine a_cons (e_storeWhole (i := 1) (ds := cb1_2) trivial ty110 rfl rfl rfl rfl (Rp.len hb1_2) ((Rp.one hb1_2)) rfl ?_)
  refine a_cons (e_storeWhole (i := 0) (ds := cs1_2) trivial ty111 rfl rfl rfl rfl (Rp.len hc1_2) ((Rp.one hc1_2)) rfl ?_)
  refine ap (y_assign rfl) ?_
  refine a_nil ?_
  refine a_freeze (α := Arr 4 Int) (x := x1_2.2.1) (i := 0) rfl hc1_2 ?_
  intro Hb1_8 lb1_8 hb1_8
  have h1 := Sl.mono lb1_8 h1
  have hb0_0 := PAt.mono lb1_8 hb0_0
  have h1_0 := Rp.mono lb1_8 h1_0
  have hb1_2 := Rp.mono lb1_8 hb1_2
  have hc1_2 := Rp.mono lb1_8 hc1_2
  have hg := Glob.mono lb1_8 hg
  refine a_freeze (α := Bk _) (x := x1_2.1) (i := 1) rfl hb1_2 ?_
  intro Hb1_7 lb1_7 hb1_7
  have h1 := Sl.mono lb1_7 h1
  have hb0_0 := PAt.mono lb1_7 hb0_0
  have h1_0 := Rp.mono lb1_7 h1_0
  have hb1_2 := Rp.mono lb1_7 hb1_2
  have hc1_2 := Rp.mono lb1_7 hc1_2
  have hb1_8 := PAt.mono lb1_7 hb1_8
  have hg := Glob.mono lb1_7 hg
  refine a_en [(6, .pointer (some ⟨b1_7, 0, none⟩)), (7, .pointer (some ⟨b1_8, 0, none⟩)), (8, .int .i64 x1_2.2.2)] ?_
  refine a_own [2] (by decide) (L' := [.blk M1_2 (Memo x1_2.1)]) rfl ?_
  refine a_then (a_seq (a_seq (a_region rfl ?_)))
  refine ap (y_move rfl) ?_
  refine ap (y_neq rfl rfl) ?_
  refine a_nil ?_
  refine a_en [(6, .pointer (some ⟨b1_7, 0, none⟩)), (7, .pointer (some ⟨b1_8, 0, none⟩)), (8, .int .i64 x1_2.2.2), (17, .bool (x1_2.2.2 != 0))] ?_
  refine a_then ?_
  refine a_cond rfl (fun h_ => absurd (h_.symm.trans k1_2) (by decide)) (fun _ => ?_)
  refine a_skip (a_then (a_seq (a_region rfl ?_)))
  obtain ⟨u4_0, h4_0, c4_0⟩ := PAt.one hb1_7
  refine ap (y_load_cells ty110 rfl (fun _ h => h.sub) rfl c4_0 (Rp.len h4_0)) ?_
  obtain ⟨u4_1, h4_1, c4_1⟩ := PAt.one hb1_8
  refine ap (y_load_cells ty111 rfl (fun _ h => h.sub) rfl c4_1 (Rp.len h4_1)) ?_
  obtain ⟨x4_2, q4_2, hm⟩ := bind_some hm
  refine a_cons (e_callM (i := 0) (all := [.agg u4_0.toArray, .agg u4_1.toArray]) trivial rfl Tryd.func92 rfl rfl rfl rfl rfl rfl (fun w hw ho hn => ok_92 hw h4_0 h4_1 hg ho hn q4_2) ?_)
  rintro v4_2r0 H4_2 l4_2 ⟨_, rfl, h4_2r0⟩
  have hb1_7 := PAt.mono l4_2 hb1_7
  have hb1_8 := PAt.mono l4_2 hb1_8
  have h4_0 := Rp.mono l4_2 h4_0
  have h4_1 := Rp.mono l4_2 h4_1
  have hg := Glob.mono l4_2 hg
  refine ap (y_assign rfl) ?_
  refine ap (y_assign rfl) ?_
  refine a_nil ?_
  refine a_en [(4, v4_2r0), (5, .int .i64 0)] ?_
  refine a_then (a_ret ?_)
  refine a_done (v := .tuple #[v4_2r0, .int .i64 0]) (.inl rfl) rfl ?_ ?_
  · intro a_ w_ ha_ hs_; exact run_results (P := Tryd.prog) (fn := Tryd.f27) (rs := [.tmp 4, .tmp 5]) (vs := [v4_2r0, .int .i64 0]) rfl (.cons (rv_tmp ha_ rfl) (.cons (rv_tmp ha_ rfl) (All2.nil)))
  · intro _ _; obtain rfl := Option.some.inj hm; exact ⟨v4_2r0, rfl, h4_2r0⟩

def law03_warmed (k : Nat) : Option Bool :=
 (law03_book k).bind fun x1_0 =>
 (tunnel_Dries k (⟨x1_0.Parts, x1_0.Frames⟩ : TunnelBook) [2, 2] 2).bind fun x1_2 =>
 (law03_book k).bind fun x2_0 =>
 (tunnel_Best k (⟨x2_0.Parts, x2_0.Frames⟩ : TunnelBook)).bind fun x2_1 =>
 (law03_torn k).bind fun x3_0 =>
 (tunnel_Clash k x3_0).bind fun x3_1 =>
 (law03_book k).bind fun x4_0 =>
 (tunnel_Longer k (⟨x4_0.Parts, x4_0.Frames⟩ : TunnelBook) [2, 2] 1 1).bind fun x4_2 =>
 (law03_lost k).bind fun x5_0 =>
 (tunnel_Lost k x5_0).bind fun x5_1 =>
 (bif x1_2.2 != 0 then
 some (true)
 else
 bif x2_1.2 != 0 then
 some (true)
 else
 bif x3_1.2.2 != 0 then
 some (true)
 else
 bif x4_2.2 != 0 then
 some (true)
 else
 bif x5_1.2 != 0 then
 some (true)
 else
 (ref00_Sp k 48 60).bind fun x6_20 =>
 bif !decide (x1_2.1 = x6_20) then
 some (true)
 else
 (ref00_Alike k x2_1.1 [2, 2]).bind fun x6_26 =>
 bif !x6_26 then
 some (true)
 else
 bif x3_1.1 != 1 then
 some (true)
 else
 bif x3_1.2.1 != 2 then
 some (true)
 else
 bif x4_2.1 != 1 then
 some (true)
 else
 (ref00_Alike k x5_1.1 [3]).bind fun x6_44 =>
 some ((!x6_44))).bind fun yj1_92 =>
 bif yj1_92 then
 some (false)
 else
 (law03_book k).bind fun x8_0 =>
 (tunnel_Kind k (⟨x8_0.Parts, x8_0.Frames⟩ : TunnelBook) [1, 3] 0).bind fun x8_2 =>
 (law03_small k).bind fun x9_0 =>
 (tunnel_Ask k x9_0).bind fun x9_1 =>
 (law03_torn k).bind fun x10_0 =>
 (tunnel_Most k x10_0).bind fun x10_1 =>
 (law03_book k).bind fun x11_0 =>
 (tunnel_Heat k (⟨x11_0.Parts, x11_0.Frames⟩ : TunnelBook) [2, 2]).bind fun x11_2 =>
 (law03_book k).bind fun x12_0 =>
 (tunnel_Good k (⟨x12_0.Parts, x12_0.Frames⟩ : TunnelBook) [3, 0]).bind fun x12_2 =>
 (bif x8_2.2 == 0 then
 bif x9_1.2 == 0 then
 bif x10_1.2.2 == 0 then
 bif x11_2.2 == 0 then
 bif x12_2.2 == 0 then
 bif x8_2.1 == 2 then
 bif x9_1.1 == 1 then
 (ref00_Alike k x10_1.1 [2, 0]).bind fun x13_29 =>
 bif x13_29 then
 (ref00_Alike k x10_1.2.1 [0, 2]).bind fun x13_34 =>
 bif x13_34 then
 bif x11_2.1 == 11 then
 (ref00_Alike k x12_2.1 [0, 1]).bind fun x13_43 =>
 some (x13_43)
 else
 some (false)
 else
 some (false)
 else
 some (false)
 else
 some (false)
 else
 some (false)
 else
 some (false)
 else
 some (false)
 else
 some (false)
 else
 some (false)
 else
 some (false)).bind fun yj3_0 =>
 some (yj3_0)
theorem ok_30 {k : Nat} {H : Hp} {w : World} {r : Bool} (hsub : Sub H w) (hg : Glob H) (hm : law03_warmed k = some r) : Calls Tryd.prog 30 [].toArray w (PostV w H (.bool r)) := by
  unfold law03_warmed at hm
  refine start (n := 167) (E := []) Tryd.func30 rfl rfl trivial rfl hsub ?_
  refine a_seq (a_region rfl ?_)
  refine ap (y_assign rfl) ?_
  refine a_nil ?_
  refine a_en [] ?_
  refine a_then (a_seq (a_region rfl ?_))
  obtain ⟨x1_0, q1_0, hm⟩ := bind_some hm
  refine a_cons (e_callO (all := []) trivial rfl Tryd.func69 rfl rfl rfl rfl rfl (fun w hw => ok_69 hw q1_0) ?_)
  rintro _ H1_0 _ l1_0 ⟨vp1_0, vf1_0, cp1_0, cf1_0, rfl, rfl, hp1_0, hf1_0⟩
  have hg := Glob.mono l1_0 hg
  refine a_cons (e_buildSlice (xs := [.const (.int .i64 2), .const (.int .i64 2)]) (cs := [.int .i64 2, .int .i64 2]) trivial rfl Tryd.underlying26 ty3 rfl rfl rfl (by simp [Value.cells]) rfl (rfl) ?_)
  intro v1_1
  have h1_1 : RepL (α := Int) H1_0 ([.int .i64 2, .int .i64 2]) [2, 2] := (RepL.cons (α := Int) (c := [.int .i64 2]) rfl (RepL.cons (α := Int) (c := [.int .i64 2]) rfl (RepL.nil (α := Int))))
  refine a_frow (i := 1) rfl rfl hp1_0 rfl ?_
  intro H1_2q0f l1_2q0f h1_2q0f
  have hf1_0 := RepL.mono l1_2q0f hf1_0
  have h1_1 := RepL.mono l1_2q0f h1_1
  have hg := Glob.mono l1_2q0f hg
  refine a_frow (i := 2) rfl rfl hf1_0 rfl ?_
  intro H1_2q1f l1_2q1f h1_2q1f
  have h1_2q0f := Sl.mono l1_2q1f h1_2q0f
  have h1_1 := RepL.mono l1_2q1f h1_1
  have hg := Glob.mono l1_2q1f hg
  refine a_frow (i := 0) rfl rfl h1_1 rfl ?_
  intro H1_2q2f l1_2q2f h1_2q2f
  have h1_2q0f := Sl.mono l1_2q2f h1_2q0f
  have h1_2q1f := Sl.mono l1_2q2f h1_2q1f
  have hg := Glob.mono l1_2q2f hg
  have m1_2g0l : Rp.rep H1_2q2f [vp1_0, vf1_0] (⟨x1_0.Parts, x1_0.Frames⟩ : TunnelBook) := ⟨_, _, rfl, ⟨_, rfl, h1_2q0f⟩, ⟨_, rfl, h1_2q1f⟩⟩
  obtain ⟨x1_2, q1_2, hm⟩ := bind_some hm
  refine a_cons (e_callV (all := [.agg [vp1_0, vf1_0].toArray, v1_1, .int .i64 2]) (v := .tuple #[.agg x1_2.1.cells.toArray, .int .i64 x1_2.2]) trivial rfl Tryd.func23 rfl rfl rfl rfl rfl (fun w hw => ok_23 hw m1_2g0l h1_2q2f hg q1_2) ?_)
  refine ap (y_move rfl) ?_
  refine ap (y_extract rfl rfl) ?_
  refine ap (y_extract rfl rfl) ?_
  refine a_cons (e_alloc (cs := [.int .i64 0, .int .i64 0]) trivial rfl ty32 rfl ?_)
  intro b1_6
  refine a_cons (e_storeWhole (i := 0) (ds := x1_2.1.cells) trivial ty32 rfl rfl rfl rfl rfl ((Rp.one (Span.rep_mk (fun _ => none) x1_2.1))) rfl ?_)
  refine ap (y_assign rfl) ?_
  refine a_nil ?_
  refine a_freeze (α := Span) (x := x1_2.1) (i := 0) rfl (Span.rep_mk _ x1_2.1) ?_
  intro Hb1_6 lb1_6 hb1_6
  have h1_2q0f := Sl.mono lb1_6 h1_2q0f
  have h1_2q1f := Sl.mono lb1_6 h1_2q1f
  have h1_2q2f := Sl.mono lb1_6 h1_2q2f
  have hg := Glob.mono lb1_6 hg
  refine a_en [(1, .pointer (some ⟨b1_6, 0, none⟩)), (2, .int .i64 x1_2.2)] ?_
  refine a_own [] (by decide) (L' := []) rfl ?_
  refine a_then (a_seq (a_region rfl ?_))
  obtain ⟨x2_0, q2_0, hm⟩ := bind_some hm
  refine a_cons (e_callO (all := []) trivial rfl Tryd.func69 rfl rfl rfl rfl rfl (fun w hw => ok_69 hw q2_0) ?_)
  rintro _ H2_0 _ l2_0 ⟨vp2_0, vf2_0, cp2_0, cf2_0, rfl, rfl, hp2_0, hf2_0⟩
  have hb1_6 := PAt.mono l2_0 hb1_6
  have hg := Glob.mono l2_0 hg
  refine a_frow (i := 0) rfl rfl hp2_0 rfl ?_
  intro H2_1q0f l2_1q0f h2_1q0f
  have hb1_6 := PAt.mono l2_1q0f hb1_6
  have hf2_0 := RepL.mono l2_1q0f hf2_0
  have hg := Glob.mono l2_1q0f hg
  refine a_frow (i := 1) rfl rfl hf2_0 rfl ?_
  intro H2_1q1f l2_1q1f h2_1q1f
  have hb1_6 := PAt.mono l2_1q1f hb1_6
  have h2_1q0f := Sl.mono l2_1q1f h2_1q0f
  have hg := Glob.mono l2_1q1f hg
  have m2_1g0l : Rp.rep H2_1q1f [vp2_0, vf2_0] (⟨x2_0.Parts, x2_0.Frames⟩ : TunnelBook) := ⟨_, _, rfl, ⟨_, rfl, h2_1q0f⟩, ⟨_, rfl, h2_1q1f⟩⟩
  obtain ⟨x2_1, q2_1, hm⟩ := bind_some hm
  refine a_cons (e_callH (all := [.agg [vp2_0, vf2_0].toArray]) trivial rfl Tryd.func31 rfl rfl rfl rfl rfl (fun w hw => ok_31 hw m2_1g0l hg q2_1) ?_)
  rintro _ H2_1 l2_1 ⟨v2_1r0, rfl, h2_1r0⟩
  have hb1_6 := PAt.mono l2_1 hb1_6
  have h2_1q0f := Sl.mono l2_1 h2_1q0f
  have h2_1q1f := Sl.mono l2_1 h2_1q1f
  have hg := Glob.mono l2_1 hg
  refine ap (y_move rfl) ?_
  refine ap (y_extract rfl rfl) ?_
  refine ap (y_extract rfl rfl) ?_
  refine ap (y_assign rfl) ?_
  refine ap (y_assign rfl) ?_
  refine a_nil ?_
  refine a_en [(1, .pointer (some ⟨b1_6, 0, none⟩)), (2, .int .i64 x1_2.2), (3, v2_1r0), (4, .int .i64 x2_1.2)] ?_
  refine a_own [] (by decide) (L' := []) rfl ?_
  refine a_then (a_seq (a_region rfl ?_))
  obtain ⟨x3_0, q3_0, hm⟩ := bind_some hm
  refine a_cons (e_callH (all := []) trivial rfl Tryd.func70 rfl rfl rfl rfl rfl (fun w hw => ok_70 hw q3_0) ?_)
  rintro _ H3_0 l3_0 ⟨c3_0r0, rfl, h3_0r0⟩
  have hb1_6 := PAt.mono l3_0 hb1_6
  have h2_1r0 := Sl.mono l3_0 h2_1r0
  have hg := Glob.mono l3_0 hg
  obtain ⟨x3_1, q3_1, hm⟩ := bind_some hm
  refine a_cons (e_callV (all := [.agg c3_0r0.toArray]) (v := .tuple #[.int .i64 x3_1.1, .int .i64 x3_1.2.1, .int .i64 x3_1.2.2]) trivial rfl Tryd.func37 rfl rfl rfl rfl rfl (fun w hw => ok_37 hw h3_0r0 hg q3_1) ?_)
  refine ap (y_move rfl) ?_
  refine ap (y_extract rfl rfl) ?_
  refine ap (y_extract rfl rfl) ?_
  refine ap (y_extract rfl rfl) ?_
  refine ap (y_assign rfl) ?_
  refine ap (y_assign rfl) ?_
  refine ap (y_assign rfl) ?_
  refine a_nil ?_
  refine a_en [(1, .pointer (some ⟨b1_6, 0, none⟩)), (2, .int .i64 x1_2.2), (3, v2_1r0), (4, .int .i64 x2_1.2), (5, .int .i64 x3_1.1), (6, .int .i64 x3_1.2.1), (7, .int .i64 x3_1.2.2)] ?_
  refine a_then (a_seq (a_region rfl ?_))
  obtain ⟨x4_0, q4_0, hm⟩ := bind_some hm
  refine a_cons (e_callO (all := []) trivial rfl Tryd.func69 rfl rfl rfl rfl rfl (fun w hw => ok_69 hw q4_0) ?_)
  rintro _ H4_0 _ l4_0 ⟨vp4_0, vf4_0, cp4_0, cf4_0, rfl, rfl, hp4_0, hf4_0⟩
  have hb1_6 := PAt.mono l4_0 hb1_6
  have h2_1r0 := Sl.mono l4_0 h2_1r0
  have hg := Glob.mono l4_0 hg
  refine a_cons (e_buildSlice (xs := [.const (.int .i64 2), .const (.int .i64 2)]) (cs := [.int .i64 2, .int .i64 2]) trivial rfl Tryd.underlying26 ty3 rfl rfl rfl (by simp [Value.cells]) rfl (rfl) ?_)
  intro v4_1
  have h4_1 : RepL (α := Int) H4_0 ([.int .i64 2, .int .i64 2]) [2, 2] := (RepL.cons (α := Int) (c := [.int .i64 2]) rfl (RepL.cons (α := Int) (c := [.int .i64 2]) rfl (RepL.nil (α := Int))))
  refine a_frow (i := 1) rfl rfl hp4_0 rfl ?_
  intro H4_2q0f l4_2q0f h4_2q0f
  have hb1_6 := PAt.mono l4_2q0f hb1_6
  have h2_1r0 := Sl.mono l4_2q0f h2_1r0
  have hf4_0 := RepL.mono l4_2q0f hf4_0
  have h4_1 := RepL.mono l4_2q0f h4_1
  have hg := Glob.mono l4_2q0f hg
  refine a_frow (i := 2) rfl rfl hf4_0 rfl ?_
  intro H4_2q1f l4_2q1f h4_2q1f
  have hb1_6 := PAt.mono l4_2q1f hb1_6
  have h2_1r0 := Sl.mono l4_2q1f h2_1r0
  have h4_2q0f := Sl.mono l4_2q1f h4_2q0f
  have h4_1 := RepL.mono l4_2q1f h4_1
  have hg := Glob.mono l4_2q1f hg
  refine a_frow (i := 0) rfl rfl h4_1 rfl ?_
  intro H4_2q2f l4_2q2f h4_2q2f
  have hb1_6 := PAt.mono l4_2q2f hb1_6
  have h2_1r0 := Sl.mono l4_2q2f h2_1r0
  have h4_2q0f := Sl.mono l4_2q2f h4_2q0f
  have h4_2q1f := Sl.mono l4_2q2f h4_2q1f
  have hg := Glob.mono l4_2q2f hg
  have m4_2g0l : Rp.rep H4_2q2f [vp4_0, vf4_0] (⟨x4_0.Parts, x4_0.Frames⟩ : TunnelBook) := ⟨_, _, rfl, ⟨_, rfl, h4_2q0f⟩, ⟨_, rfl, h4_2q1f⟩⟩
  obtain ⟨x4_2, q4_2, hm⟩ := bind_some hm
  refine a_cons (e_callV (all := [.agg [vp4_0, vf4_0].toArray, v4_1, .int .i64 1, .int .i64 1]) (v := .tuple #[.int .i64 x4_2.1, .int .i64 x4_2.2]) trivial rfl Tryd.func39 rfl rfl rfl rfl rfl (fun w hw => ok_39 hw m4_2g0l h4_2q2f hg q4_2) ?_)
  refine ap (y_move rfl) ?_
  refine ap (y_extract rfl rfl) ?_
  refine ap (y_extract rfl rfl) ?_
  refine ap (y_assign rfl) ?_
  refine ap (y_assign rfl) ?_
  refine a_nil ?_
  refine a_en [(1, .pointer (some ⟨b1_6, 0, none⟩)), (2, .int .i64 x1_2.2), (3, v2_1r0), (4, .int .i64 x2_1.2), (5, .int .i64 x3_1.1), (6, .int .i64 x3_1.2.1), (7, .int .i64 x3_1.2.2), (8, .int .i64 x4_2.1), (9, .int .i64 x4_2.2)] ?_
  refine a_own [] (by decide) (L' := []) rfl ?_
  refine a_then (a_seq (a_region rfl ?_))
  obtain ⟨x5_0, q5_0, hm⟩ := bind_some hm
  refine a_cons (e_callH (all := []) trivial rfl Tryd.func71 rfl rfl rfl rfl rfl (fun w hw => ok_71 hw q5_0) ?_)
  rintro _ H5_0 l5_0 ⟨c5_0r0, rfl, h5_0r0⟩
  have hb1_6 := PAt.mono l5_0 hb1_6
  have h2_1r0 := Sl.mono l5_0 h2_1r0
  have hg := Glob.mono l5_0 hg
  obtain ⟨x5_1, q5_1, hm⟩ := bind_some hm
  refine a_cons (e_callH (all := [.agg c5_0r0.toArray]) trivial rfl Tryd.func35 rfl rfl rfl rfl rfl (fun w hw => ok_35 hw h5_0r0 hg q5_1) ?_)
  rintro _ H5_1 l5_1 ⟨v5_1r0, rfl, h5_1r0⟩
  have hb1_6 := PAt.mono l5_1 hb1_6
  have h2_1r0 := Sl.mono l5_1 h2_1r0
  have h5_0r0 := Rp.mono l5_1 h5_0r0
  have hg := Glob.mono l5_1 hg
  refine ap (y_move rfl) ?_
  refine ap (y_extract rfl rfl) ?_
  refine ap (y_extract rfl rfl) ?_
  refine ap (y_assign rfl) ?_
  refine ap (y_assign rfl) ?_
  refine a_nil ?_
  refine a_en [(1, .pointer (some ⟨b1_6, 0, none⟩)), (2, .int .i64 x1_2.2), (3, v2_1r0), (4, .int .i64 x2_1.2), (5, .int .i64 x3_1.1), (6, .int .i64 x3_1.2.1), (7, .int .i64 x3_1.2.2), (8, .int .i64 x4_2.1), (9, .int .i64 x4_2.2), (10, v5_1r0), (11, .int .i64 x5_1.2)] ?_
  refine a_then (a_seq (a_seq ?_))
  obtain ⟨s_j1, hs_j1, hm_j1⟩ := bind_some hm
  refine a_join (fun a_ w_ => ∃ (Hj1 : Hp), ∃ (_ : HLe H5_1 Hj1), ∃ (yj1_92 : Bool), yj1_92 = s_j1 ∧ Ag 167 [] [(92, .bool yj1_92)] a_ ∧ St (Kp.mk w H noX) Hj1 [] w_) ?_ ?_
  · have hm := hs_j1
    rcases Bool.eq_false_or_eq_true (x1_2.2 != 0) with k6_3 | k6_3
    · have hm := cond_t k6_3 hm
      refine d_region (S := Sw H5_1 []) (n := 47) (listed := (bits 47 0)) mixed (by kernel_rfl) rfl (by kernel_rfl) ?_
      refine dt 0 1 rfl trivial (y_move rfl) (sw0 []) ?_
      refine dt 1 3 rfl trivial (y_neq rfl rfl) (sw0 []) ?_
      refine dt 2 7 rfl trivial (y_move rfl) (sw0 []) ?_
      refine dk 3 15 rfl (sk1 rfl rfl k6_3) (sw0 []) ?_
      refine dk 4 31 rfl (sk1 rfl rfl k6_3) (sw0 []) ?_
      refine dt 5 63 rfl trivial (y_pick_t rfl k6_3 rfl) (sw0 []) ?_
      refine dt 6 127 rfl trivial (y_move rfl) (sw0 []) ?_
      refine dk 7 255 rfl (sk1 rfl rfl rfl) (sw0 []) ?_
      refine dk 8 511 rfl (sk1 rfl rfl rfl) (sw0 []) ?_
      refine dt 9 1023 rfl trivial (y_pick_t rfl rfl rfl) (sw0 []) ?_
      refine dt 10 2047 rfl trivial (y_move rfl) (sw0 []) ?_
      refine dk 11 4095 rfl (sk1 rfl rfl rfl) (sw0 []) ?_
      refine dk 12 8191 rfl (sk1 rfl rfl rfl) (sw0 []) ?_
      refine dt 13 16383 rfl trivial (y_pick_t rfl rfl rfl) (sw0 []) ?_
      refine dt 14 32767 rfl trivial (y_move rfl) (sw0 []) ?_
      refine dk 15 65535 rfl (sk1 rfl rfl rfl) (sw0 []) ?_
      refine dk 16 131071 rfl (sk1 rfl rfl rfl) (sw0 []) ?_
      refine dt 17 262143 rfl trivial (y_pick_t rfl rfl rfl) (sw0 []) ?_
      refine dt 18 524287 rfl trivial (y_move rfl) (sw0 []) ?_
      refine dk 19 1048575 rfl (sk1 rfl rfl rfl) (sw0 []) ?_
      refine d1 20 rfl (p_skip (sk1 rfl rfl rfl) rfl rfl ?_)
      refine dn 2097151 (sw0 []) ?_
      refine dk 21 4194303 rfl (sk1 rfl rfl rfl) (sw0 []) ?_
      refine dt 22 8388607 rfl trivial (y_pick_t rfl rfl rfl) (sw0 []) ?_
      refine dt 23 16777215 rfl trivial (y_move rfl) (sw0 []) ?_
      refine dk 24 33554431 rfl (sk1 rfl rfl rfl) (sw0 []) ?_
      refine d1 25 rfl (p_skip (sk1 rfl rfl rfl) rfl rfl ?_)
      refine dn 67108863 (sw0 []) ?_
      refine d1 26 rfl (p_skip (sk1 rfl rfl rfl) rfl rfl ?_)
      refine dn 134217727 (sw0 []) ?_
      refine dk 27 268435455 rfl (sk1 rfl rfl rfl) (sw0 []) ?_
      refine dt 28 536870911 rfl trivial (y_pick_t rfl rfl rfl) (sw0 []) ?_
      refine dt 29 1073741823 rfl trivial (y_move rfl) (sw0 []) ?_
      refine dk 30 2147483647 rfl (sk1 rfl rfl rfl) (sw0 []) ?_
      refine dk 31 4294967295 rfl (sk1 rfl rfl rfl) (sw0 []) ?_
      refine dt 32 8589934591 rfl trivial (y_pick_t rfl rfl rfl) (sw0 []) ?_
      refine dt 33 17179869183 rfl trivial (y_move rfl) (sw0 []) ?_
      refine dk 34 34359738367 rfl (sk1 rfl rfl rfl) (sw0 []) ?_
      refine dk 35 68719476735 rfl (sk1 rfl rfl rfl) (sw0 []) ?_
      refine dt 36 137438953471 rfl trivial (y_pick_t rfl rfl rfl) (sw0 []) ?_
      refine dt 37 274877906943 rfl trivial (y_move rfl) (sw0 []) ?_
      refine dk 38 549755813887 rfl (sk1 rfl rfl rfl) (sw0 []) ?_
      refine dk 39 1099511627775 rfl (sk1 rfl rfl rfl) (sw0 []) ?_
      refine dt 40 2199023255551 rfl trivial (y_pick_t rfl rfl rfl) (sw0 []) ?_
      refine dt 41 4398046511103 rfl trivial (y_move rfl) (sw0 []) ?_
      refine dk 42 8796093022207 rfl (sk1 rfl rfl rfl) (sw0 []) ?_
      refine d1 43 rfl (p_skip (sk1 rfl rfl rfl) rfl rfl ?_)
      refine dn 17592186044415 (sw0 []) ?_
      refine d1 44 rfl (p_skip (sk1 rfl rfl rfl) rfl rfl ?_)
      refine dn 35184372088831 (sw0 []) ?_
      refine dk 45 70368744177663 rfl (sk1 rfl rfl rfl) (sw0 []) ?_
      refine dt 46 140737488355327 rfl trivial (y_pick_t rfl rfl rfl) (sw0 []) ?_
      refine d_done (by kernel_rfl) ?_
      refine a_en [(92, .bool true)] ?_
      refine a_cut ?_
      intro a_ w_ ha_ hs_
      exact ⟨H5_1, (HLe.refl _), true, Option.some.inj hm, ha_.weaken ⟨rfl, trivial⟩, hs_.reix [] (by decide)⟩
    have hm := cond_f k6_3 hm
    rcases Bool.eq_false_or_eq_true (x2_1.2 != 0) with k6_7 | k6_7
    · have hm := cond_t k6_7 hm
      refine d_region (S := Sw H5_1 []) (n := 47) (listed := (bits 47 0)) mixed (by kernel_rfl) rfl (by kernel_rfl) ?_
      refine dt 0 1 rfl trivial (y_move rfl) (sw0 []) ?_
      refine dt 1 3 rfl trivial (y_neq rfl rfl) (sw0 []) ?_
      refine dt 2 7 rfl trivial (y_move rfl) (sw0 []) ?_
      refine dt 3 15 rfl ⟨_, _, rfl, rfl, k6_3⟩ (y_move rfl) (sw0 []) ?_
      refine dt 4 31 rfl ⟨_, _, rfl, rfl, k6_3⟩ (y_neq rfl rfl) (sw0 []) ?_
      refine dt 5 63 rfl trivial (y_pick_f rfl k6_3 rfl) (sw0 []) ?_
      refine dt 6 127 rfl trivial (y_move rfl) (sw0 []) ?_
      refine dk 7 255 rfl (sk1 rfl rfl k6_7) (sw0 []) ?_
      refine dk 8 511 rfl (sk1 rfl rfl k6_7) (sw0 []) ?_
      refine dt 9 1023 rfl trivial (y_pick_t rfl k6_7 rfl) (sw0 []) ?_
      refine dt 10 2047 rfl trivial (y_move rfl) (sw0 []) ?_
      refine dk 11 4095 rfl (sk1 rfl rfl rfl) (sw0 []) ?_
      refine dk 12 8191 rfl (sk1 rfl rfl rfl) (sw0 []) ?_
      refine dt 13 16383 rfl trivial (y_pick_t rfl rfl rfl) (sw0 []) ?_
      refine dt 14 32767 rfl trivial (y_move rfl) (sw0 []) ?_
      refine dk 15 65535 rfl (sk1 rfl rfl rfl) (sw0 []) ?_
      refine dk 16 131071 rfl (sk1 rfl rfl rfl) (sw0 []) ?_
      refine dt 17 262143 rfl trivial (y_pick_t rfl rfl rfl) (sw0 []) ?_
      refine dt 18 524287 rfl trivial (y_move rfl) (sw0 []) ?_
      refine dk 19 1048575 rfl (sk1 rfl rfl rfl) (sw0 []) ?_
      refine d1 20 rfl (p_skip (sk1 rfl rfl rfl) rfl rfl ?_)
      refine dn 2097151 (sw0 []) ?_
      refine dk 21 4194303 rfl (sk1 rfl rfl rfl) (sw0 []) ?_
      refine dt 22 8388607 rfl trivial (y_pick_t rfl rfl rfl) (sw0 []) ?_
      refine dt 23 16777215 rfl trivial (y_move rfl) (sw0 []) ?_
      refine dk 24 33554431 rfl (sk1 rfl rfl rfl) (sw0 []) ?_
      refine d1 25 rfl (p_skip (sk1 rfl rfl rfl) rfl rfl ?_)
      refine dn 67108863 (sw0 []) ?_
      refine d1 26 rfl (p_skip (sk1 rfl rfl rfl) rfl rfl ?_)
      refine dn 134217727 (sw0 []) ?_
      refine dk 27 268435455 rfl (sk1 rfl rfl rfl) (sw0 []) ?_
      refine dt 28 536870911 rfl trivial (y_pick_t rfl rfl rfl) (sw0 []) ?_
      refine dt 29 1073741823 rfl trivial (y_move rfl) (sw0 []) ?_
      refine dk 30 2147483647 rfl (sk1 rfl rfl rfl) (sw0 []) ?_
      refine dk 31 4294967295 rfl (sk1 rfl rfl rfl) (sw0 []) ?_
      refine dt 32 8589934591 rfl trivial (y_pick_t rfl rfl rfl) (sw0 []) ?_
      refine dt 33 17179869183 rfl trivial (y_move rfl) (sw0 []) ?_
      refine dk 34 34359738367 rfl (sk1 rfl rfl rfl) (sw0 []) ?_
      refine dk 35 68719476735 rfl (sk1 rfl rfl rfl) (sw0 []) ?_
      refine dt 36 137438953471 rfl trivial (y_pick_t rfl rfl rfl) (sw0 []) ?_
      refine dt 37 274877906943 rfl trivial (y_move rfl) (sw0 []) ?_
      refine dk 38 549755813887 rfl (sk1 rfl rfl rfl) (sw0 []) ?_
      refine dk 39 1099511627775 rfl (sk1 rfl rfl rfl) (sw0 []) ?_
      refine dt 40 2199023255551 rfl trivial (y_pick_t rfl rfl rfl) (sw0 []) ?_
      refine dt 41 4398046511103 rfl trivial (y_move rfl) (sw0 []) ?_
      refine dk 42 8796093022207 rfl (sk1 rfl rfl rfl) (sw0 []) ?_
      refine d1 43 rfl (p_skip (sk1 rfl rfl rfl) rfl rfl ?_)
      refine dn 17592186044415 (sw0 []) ?_
      refine d1 44 rfl (p_skip (sk1 rfl rfl rfl) rfl rfl ?_)
      refine dn 35184372088831 (sw0 []) ?_
      refine dk 45 70368744177663 rfl (sk1 rfl rfl rfl) (sw0 []) ?_
      refine dt 46 140737488355327 rfl trivial (y_pick_t rfl rfl rfl) (sw0 []) ?_
      refine d_done (by kernel_rfl) ?_
      refine a_en [(92, .bool true)] ?_
      refine a_cut ?_
      intro a_ w_ ha_ hs_
      exact ⟨H5_1, (HLe.refl _), true, Option.some.inj hm, ha_.weaken ⟨rfl, trivial⟩, hs_.reix [] (by decide)⟩
    have hm := cond_f k6_7 hm
    rcases Bool.eq_false_or_eq_true (x3_1.2.2 != 0) with k6_11 | k6_11
    · have hm := cond_t k6_11 hm
      refine d_region (S := Sw H5_1 []) (n := 47) (listed := (bits 47 0)) mixed (by kernel_rfl) rfl (by kernel_rfl) ?_
      refine dt 0 1 rfl trivial (y_move rfl) (sw0 []) ?_
      refine dt 1 3 rfl trivial (y_neq rfl rfl) (sw0 []) ?_
      refine dt 2 7 rfl trivial (y_move rfl) (sw0 []) ?_
      refine dt 3 15 rfl ⟨_, _, rfl, rfl, k6_3⟩ (y_move rfl) (sw0 []) ?_
      refine dt 4 31 rfl ⟨_, _, rfl, rfl, k6_3⟩ (y_neq rfl rfl) (sw0 []) ?_
      refine dt 5 63 rfl trivial (y_pick_f rfl k6_3 rfl) (sw0 []) ?_
      refine dt 6 127 rfl trivial (y_move rfl) (sw0 []) ?_
      refine dt 7 255 rfl ⟨_, _, rfl, rfl, k6_7⟩ (y_move rfl) (sw0 []) ?_
      refine dt 8 511 rfl ⟨_, _, rfl, rfl, k6_7⟩ (y_neq rfl rfl) (sw0 []) ?_
      refine dt 9 1023 rfl trivial (y_pick_f rfl k6_7 rfl) (sw0 []) ?_
      refine dt 10 2047 rfl trivial (y_move rfl) (sw0 []) ?_
      refine dk 11 4095 rfl (sk1 rfl rfl k6_11) (sw0 []) ?_
      refine dk 12 8191 rfl (sk1 rfl rfl k6_11) (sw0 []) ?_
      refine dt 13 16383 rfl trivial (y_pick_t rfl k6_11 rfl) (sw0 []) ?_
      refine dt 14 32767 rfl trivial (y_move rfl) (sw0 []) ?_
      refine dk 15 65535 rfl (sk1 rfl rfl rfl) (sw0 []) ?_
      refine dk 16 131071 rfl (sk1 rfl rfl rfl) (sw0 []) ?_
      refine dt 17 262143 rfl trivial (y_pick_t rfl rfl rfl) (sw0 []) ?_
      refine dt 18 524287 rfl trivial (y_move rfl) (sw0 []) ?_
      refine dk 19 1048575 rfl (sk1 rfl rfl rfl) (sw0 []) ?_
      refine d1 20 rfl (p_skip (sk1 rfl rfl rfl) rfl rfl ?_)
      refine dn 2097151 (sw0 []) ?_
      refine dk 21 4194303 rfl (sk1 rfl rfl rfl) (sw0 []) ?_
      refine dt 22 8388607 rfl trivial (y_pick_t rfl rfl rfl) (sw0 []) ?_
      refine dt 23 16777215 rfl trivial (y_move rfl) (sw0 []) ?_
      refine dk 24 33554431 rfl (sk1 rfl rfl rfl) (sw0 []) ?_
      refine d1 25 rfl (p_skip (sk1 rfl rfl rfl) rfl rfl ?_)
      refine dn 67108863 (sw0 []) ?_
      refine d1 26 rfl (p_skip (sk1 rfl rfl rfl) rfl rfl ?_)
      refine dn 134217727 (sw0 []) ?_
      refine dk 27 268435455 rfl (sk1 rfl rfl rfl) (sw0 []) ?_
      refine dt 28 536870911 rfl trivial (y_pick_t rfl rfl rfl) (sw0 []) ?_
      refine dt 29 1073741823 rfl trivial (y_move rfl) (sw0 []) ?_
      refine dk 30 2147483647 rfl (sk1 rfl rfl rfl) (sw0 []) ?_
      refine dk 31 4294967295 rfl (sk1 rfl rfl rfl) (sw0 []) ?_
      refine dt 32 8589934591 rfl trivial (y_pick_t rfl rfl rfl) (sw0 []) ?_
      refine dt 33 17179869183 rfl trivial (y_move rfl) (sw0 []) ?_
      refine dk 34 34359738367 rfl (sk1 rfl rfl rfl) (sw0 []) ?_
      refine dk 35 68719476735 rfl (sk1 rfl rfl rfl) (sw0 []) ?_
      refine dt 36 137438953471 rfl trivial (y_pick_t rfl rfl rfl) (sw0 []) ?_
      refine dt 37 274877906943 rfl trivial (y_move rfl) (sw0 []) ?_
      refine dk 38 549755813887 rfl (sk1 rfl rfl rfl) (sw0 []) ?_
      refine dk 39 1099511627775 rfl (sk1 rfl rfl rfl) (sw0 []) ?_
      refine dt 40 2199023255551 rfl trivial (y_pick_t rfl rfl rfl) (sw0 []) ?_
      refine dt 41 4398046511103 rfl trivial (y_move rfl) (sw0 []) ?_
      refine dk 42 8796093022207 rfl (sk1 rfl rfl rfl) (sw0 []) ?_
      refine d1 43 rfl (p_skip (sk1 rfl rfl rfl) rfl rfl ?_)
      refine dn 17592186044415 (sw0 []) ?_
      refine d1 44 rfl (p_skip (sk1 rfl rfl rfl) rfl rfl ?_)
      refine dn 35184372088831 (sw0 []) ?_
      refine dk 45 70368744177663 rfl (sk1 rfl rfl rfl) (sw0 []) ?_
      refine dt 46 140737488355327 rfl trivial (y_pick_t rfl rfl rfl) (sw0 []) ?_
      refine d_done (by kernel_rfl) ?_
      refine a_en [(92, .bool true)] ?_
      refine a_cut ?_
      intro a_ w_ ha_ hs_
      exact ⟨H5_1, (HLe.refl _), true, Option.some.inj hm, ha_.weaken ⟨rfl, trivial⟩, hs_.reix [] (by decide)⟩
    have hm := cond_f k6_11 hm
    rcases Bool.eq_false_or_eq_true (x4_2.2 != 0) with k6_15 | k6_15
    · have hm := cond_t k6_15 hm
      refine d_region (S := Sw H5_1 []) (n := 47) (listed := (bits 47 0)) mixed (by kernel_rfl) rfl (by kernel_rfl) ?_
      refine dt 0 1 rfl trivial (y_move rfl) (sw0 []) ?_
      refine dt 1 3 rfl trivial (y_neq rfl rfl) (sw0 []) ?_
      refine dt 2 7 rfl trivial (y_move rfl) (sw0 []) ?_
      refine dt 3 15 rfl ⟨_, _, rfl, rfl, k6_3⟩ (y_move rfl) (sw0 []) ?_
      refine dt 4 31 rfl ⟨_, _, rfl, rfl, k6_3⟩ (y_neq rfl rfl) (sw0 []) ?_
      refine dt 5 63 rfl trivial (y_pick_f rfl k6_3 rfl) (sw0 []) ?_
      refine dt 6 127 rfl trivial (y_move rfl) (sw0 []) ?_
      refine dt 7 255 rfl ⟨_, _, rfl, rfl, k6_7⟩ (y_move rfl) (sw0 []) ?_
      refine dt 8 511 rfl ⟨_, _, rfl, rfl, k6_7⟩ (y_neq rfl rfl) (sw0 []) ?_
      refine dt 9 1023 rfl trivial (y_pick_f rfl k6_7 rfl) (sw0 []) ?_
      refine dt 10 2047 rfl trivial (y_move rfl) (sw0 []) ?_
      refine dt 11 4095 rfl ⟨_, _, rfl, rfl, k6_11⟩ (y_move rfl) (sw0 []) ?_
      refine dt 12 8191 rfl ⟨_, _, rfl, rfl, k6_11⟩ (y_neq rfl rfl) (sw0 []) ?_
      refine dt 13 16383 rfl trivial (y_pick_f rfl k6_11 rfl) (sw0 []) ?_
      refine dt 14 32767 rfl trivial (y_move rfl) (sw0 []) ?_
      refine dk 15 65535 rfl (sk1 rfl rfl k6_15) (sw0 []) ?_
      refine dk 16 131071 rfl (sk1 rfl rfl k6_15) (sw0 []) ?_
      refine dt 17 262143 rfl trivial (y_pick_t rfl k6_15 rfl) (sw0 []) ?_
      refine dt 18 524287 rfl trivial (y_move rfl) (sw0 []) ?_
      refine dk 19 1048575 rfl (sk1 rfl rfl rfl) (sw0 []) ?_
      refine d1 20 rfl (p_skip (sk1 rfl rfl rfl) rfl rfl ?_)
      refine dn 2097151 (sw0 []) ?_
      refine dk 21 4194303 rfl (sk1 rfl rfl rfl) (sw0 []) ?_
      refine dt 22 8388607 rfl trivial (y_pick_t rfl rfl rfl) (sw0 []) ?_
      refine dt 23 16777215 rfl trivial (y_move rfl) (sw0 []) ?_
      refine dk 24 33554431 rfl (sk1 rfl rfl rfl) (sw0 []) ?_
      refine d1 25 rfl (p_skip (sk1 rfl rfl rfl) rfl rfl ?_)
      refine dn 67108863 (sw0 []) ?_
      refine d1 26 rfl (p_skip (sk1 rfl rfl rfl) rfl rfl ?_)
      refine dn 134217727 (sw0 []) ?_
      refine dk 27 268435455 rfl (sk1 rfl rfl rfl) (sw0 []) ?_
      refine dt 28 536870911 rfl trivial (y_pick_t rfl rfl rfl) (sw0 []) ?_
      refine dt 29 1073741823 rfl trivial (y_move rfl) (sw0 []) ?_
      refine dk 30 2147483647 rfl (sk1 rfl rfl rfl) (sw0 []) ?_
      refine dk 31 4294967295 rfl (sk1 rfl rfl rfl) (sw0 []) ?_
      refine dt 32 8589934591 rfl trivial (y_pick_t rfl rfl rfl) (sw0 []) ?_
      refine dt 33 17179869183 rfl trivial (y_move rfl) (sw0 []) ?_
      refine dk 34 34359738367 rfl (sk1 rfl rfl rfl) (sw0 []) ?_
      refine dk 35 68719476735 rfl (sk1 rfl rfl rfl) (sw0 []) ?_
      refine dt 36 137438953471 rfl trivial (y_pick_t rfl rfl rfl) (sw0 []) ?_
      refine dt 37 274877906943 rfl trivial (y_move rfl) (sw0 []) ?_
      refine dk 38 549755813887 rfl (sk1 rfl rfl rfl) (sw0 []) ?_
      refine dk 39 1099511627775 rfl (sk1 rfl rfl rfl) (sw0 []) ?_
      refine dt 40 2199023255551 rfl trivial (y_pick_t rfl rfl rfl) (sw0 []) ?_
      refine dt 41 4398046511103 rfl trivial (y_move rfl) (sw0 []) ?_
      refine dk 42 8796093022207 rfl (sk1 rfl rfl rfl) (sw0 []) ?_
      refine d1 43 rfl (p_skip (sk1 rfl rfl rfl) rfl rfl ?_)
      refine dn 17592186044415 (sw0 []) ?_
      refine d1 44 rfl (p_skip (sk1 rfl rfl rfl) rfl rfl ?_)
      refine dn 35184372088831 (sw0 []) ?_
      refine dk 45 70368744177663 rfl (sk1 rfl rfl rfl) (sw0 []) ?_
      refine dt 46 140737488355327 rfl trivial (y_pick_t rfl rfl rfl) (sw0 []) ?_
      refine d_done (by kernel_rfl) ?_
      refine a_en [(92, .bool true)] ?_
      refine a_cut ?_
      intro a_ w_ ha_ hs_
      exact ⟨H5_1, (HLe.refl _), true, Option.some.inj hm, ha_.weaken ⟨rfl, trivial⟩, hs_.reix [] (by decide)⟩
    have hm := cond_f k6_15 hm
    rcases Bool.eq_false_or_eq_true (x5_1.2 != 0) with k6_19 | k6_19
    · have hm := cond_t k6_19 hm
      refine d_region (S := Sw H5_1 []) (n := 47) (listed := (bits 47 0)) mixed (by kernel_rfl) rfl (by kernel_rfl) ?_
      refine dt 0 1 rfl trivial (y_move rfl) (sw0 []) ?_
      refine dt 1 3 rfl trivial (y_neq rfl rfl) (sw0 []) ?_
      refine dt 2 7 rfl trivial (y_move rfl) (sw0 []) ?_
      refine dt 3 15 rfl ⟨_, _, rfl, rfl, k6_3⟩ (y_move rfl) (sw0 []) ?_
      refine dt 4 31 rfl ⟨_, _, rfl, rfl, k6_3⟩ (y_neq rfl rfl) (sw0 []) ?_
      refine dt 5 63 rfl trivial (y_pick_f rfl k6_3 rfl) (sw0 []) ?_
      refine dt 6 127 rfl trivial (y_move rfl) (sw0 []) ?_
      refine dt 7 255 rfl ⟨_, _, rfl, rfl, k6_7⟩ (y_move rfl) (sw0 []) ?_
      refine dt 8 511 rfl ⟨_, _, rfl, rfl, k6_7⟩ (y_neq rfl rfl) (sw0 []) ?_
      refine dt 9 1023 rfl trivial (y_pick_f rfl k6_7 rfl) (sw0 []) ?_
      refine dt 10 2047 rfl trivial (y_move rfl) (sw0 []) ?_
      refine dt 11 4095 rfl ⟨_, _, rfl, rfl, k6_11⟩ (y_move rfl) (sw0 []) ?_
      refine dt 12 8191 rfl ⟨_, _, rfl, rfl, k6_11⟩ (y_neq rfl rfl) (sw0 []) ?_
      refine dt 13 16383 rfl trivial (y_pick_f rfl k6_11 rfl) (sw0 []) ?_
      refine dt 14 32767 rfl trivial (y_move rfl) (sw0 []) ?_
      refine dt 15 65535 rfl ⟨_, _, rfl, rfl, k6_15⟩ (y_move rfl) (sw0 []) ?_
      refine dt 16 131071 rfl ⟨_, _, rfl, rfl, k6_15⟩ (y_neq rfl rfl) (sw0 []) ?_
      refine dt 17 262143 rfl trivial (y_pick_f rfl k6_15 rfl) (sw0 []) ?_
      refine dt 18 524287 rfl trivial (y_move rfl) (sw0 []) ?_
      refine dk 19 1048575 rfl (sk1 rfl rfl k6_19) (sw0 []) ?_
      refine d1 20 rfl (p_skip (sk1 rfl rfl k6_19) rfl rfl ?_)
      refine dn 2097151 (sw0 []) ?_
      refine dk 21 4194303 rfl (sk1 rfl rfl k6_19) (sw0 []) ?_
      refine dt 22 8388607 rfl trivial (y_pick_t rfl k6_19 rfl) (sw0 []) ?_
      refine dt 23 16777215 rfl trivial (y_move rfl) (sw0 []) ?_
      refine dk 24 33554431 rfl (sk1 rfl rfl rfl) (sw0 []) ?_
      refine d1 25 rfl (p_skip (sk1 rfl rfl rfl) rfl rfl ?_)
      refine dn 67108863 (sw0 []) ?_
      refine d1 26 rfl (p_skip (sk1 rfl rfl rfl) rfl rfl ?_)
      refine dn 134217727 (sw0 []) ?_
      refine dk 27 268435455 rfl (sk1 rfl rfl rfl) (sw0 []) ?_
      refine dt 28 536870911 rfl trivial (y_pick_t rfl rfl rfl) (sw0 []) ?_
      refine dt 29 1073741823 rfl trivial (y_move rfl) (sw0 []) ?_
      refine dk 30 2147483647 rfl (sk1 rfl rfl rfl) (sw0 []) ?_
      refine dk 31 4294967295 rfl (sk1 rfl rfl rfl) (sw0 []) ?_
      refine dt 32 8589934591 rfl trivial (y_pick_t rfl rfl rfl) (sw0 []) ?_
      refine dt 33 17179869183 rfl trivial (y_move rfl) (sw0 []) ?_
      refine dk 34 34359738367 rfl (sk1 rfl rfl rfl) (sw0 []) ?_
      refine dk 35 68719476735 rfl (sk1 rfl rfl rfl) (sw0 []) ?_
      refine dt 36 137438953471 rfl trivial (y_pick_t rfl rfl rfl) (sw0 []) ?_
      refine dt 37 274877906943 rfl trivial (y_move rfl) (sw0 []) ?_
      refine dk 38 549755813887 rfl (sk1 rfl rfl rfl) (sw0 []) ?_
      refine dk 39 1099511627775 rfl (sk1 rfl rfl rfl) (sw0 []) ?_
      refine dt 40 2199023255551 rfl trivial (y_pick_t rfl rfl rfl) (sw0 []) ?_
      refine dt 41 4398046511103 rfl trivial (y_move rfl) (sw0 []) ?_
      refine dk 42 8796093022207 rfl (sk1 rfl rfl rfl) (sw0 []) ?_
      refine d1 43 rfl (p_skip (sk1 rfl rfl rfl) rfl rfl ?_)
      refine dn 17592186044415 (sw0 []) ?_
      refine d1 44 rfl (p_skip (sk1 rfl rfl rfl) rfl rfl ?_)
      refine dn 35184372088831 (sw0 []) ?_
      refine dk 45 70368744177663 rfl (sk1 rfl rfl rfl) (sw0 []) ?_
      refine dt 46 140737488355327 rfl trivial (y_pick_t rfl rfl rfl) (sw0 []) ?_
      refine d_done (by kernel_rfl) ?_
      refine a_en [(92, .bool true)] ?_
      refine a_cut ?_
      intro a_ w_ ha_ hs_
      exact ⟨H5_1, (HLe.refl _), true, Option.some.inj hm, ha_.weaken ⟨rfl, trivial⟩, hs_.reix [] (by decide)⟩
    have hm := cond_f k6_19 hm
    obtain ⟨x6_20, q6_20, hm⟩ := bind_some hm
    rcases Bool.eq_false_or_eq_true (!decide (x1_2.1 = x6_20)) with k6_24 | k6_24
    · have hm := cond_t k6_24 hm
      refine d_region (S := Sw H5_1 []) (n := 47) (listed := (bits 47 0)) mixed (by kernel_rfl) rfl (by kernel_rfl) ?_
      refine dt 0 1 rfl trivial (y_move rfl) (sw0 []) ?_
      refine dt 1 3 rfl trivial (y_neq rfl rfl) (sw0 []) ?_
      refine dt 2 7 rfl trivial (y_move rfl) (sw0 []) ?_
      refine dt 3 15 rfl ⟨_, _, rfl, rfl, k6_3⟩ (y_move rfl) (sw0 []) ?_
      refine dt 4 31 rfl ⟨_, _, rfl, rfl, k6_3⟩ (y_neq rfl rfl) (sw0 []) ?_
      refine dt 5 63 rfl trivial (y_pick_f rfl k6_3 rfl) (sw0 []) ?_
      refine dt 6 127 rfl trivial (y_move rfl) (sw0 []) ?_
      refine dt 7 255 rfl ⟨_, _, rfl, rfl, k6_7⟩ (y_move rfl) (sw0 []) ?_
      refine dt 8 511 rfl ⟨_, _, rfl, rfl, k6_7⟩ (y_neq rfl rfl) (sw0 []) ?_
      refine dt 9 1023 rfl trivial (y_pick_f rfl k6_7 rfl) (sw0 []) ?_
      refine dt 10 2047 rfl trivial (y_move rfl) (sw0 []) ?_
      refine dt 11 4095 rfl ⟨_, _, rfl, rfl, k6_11⟩ (y_move rfl) (sw0 []) ?_
      refine dt 12 8191 rfl ⟨_, _, rfl, rfl, k6_11⟩ (y_neq rfl rfl) (sw0 []) ?_
      refine dt 13 16383 rfl trivial (y_pick_f rfl k6_11 rfl) (sw0 []) ?_
      refine dt 14 32767 rfl trivial (y_move rfl) (sw0 []) ?_
      refine dt 15 65535 rfl ⟨_, _, rfl, rfl, k6_15⟩ (y_move rfl) (sw0 []) ?_
      refine dt 16 131071 rfl ⟨_, _, rfl, rfl, k6_15⟩ (y_neq rfl rfl) (sw0 []) ?_
      refine dt 17 262143 rfl trivial (y_pick_f rfl k6_15 rfl) (sw0 []) ?_
      refine dt 18 524287 rfl trivial (y_move rfl) (sw0 []) ?_
      obtain ⟨u6_19, h6_19, c6_19⟩ := PAt.one hb1_6
      refine dt 19 1048575 rfl ⟨_, _, rfl, rfl, k6_19⟩ (y_load_cells ty32 rfl (fun _ h => h.1) rfl c6_19 (Rp.len h6_19)) (sw0 []) ?_
      refine d1 20 rfl (e_callV (all := [.int .i64 48, .int .i64 60]) (v := .agg x6_20.cells.toArray) ⟨_, _, rfl, rfl, k6_19⟩ rfl Tryd.func53 rfl rfl rfl rfl rfl (fun w hw => ok_53 hw q6_20) ?_)
      refine dn 2097151 (sw0 []) ?_
      refine dt 21 4194303 rfl ⟨_, _, rfl, rfl, k6_19⟩ (y_eq32_neq rfl rfl h6_19 (Span.rep_mk H5_1 x6_20)) (sw0 []) ?_
      refine dt 22 8388607 rfl trivial (y_pick_f rfl k6_19 rfl) (sw0 []) ?_
      refine dt 23 16777215 rfl trivial (y_move rfl) (sw0 []) ?_
      refine dk 24 33554431 rfl (sk1 rfl rfl k6_24) (sw0 []) ?_
      refine d1 25 rfl (p_skip (sk1 rfl rfl k6_24) rfl rfl ?_)
      refine dn 67108863 (sw0 []) ?_
      refine d1 26 rfl (p_skip (sk1 rfl rfl k6_24) rfl rfl ?_)
      refine dn 134217727 (sw0 []) ?_
      refine dk 27 268435455 rfl (sk1 rfl rfl k6_24) (sw0 []) ?_
      refine dt 28 536870911 rfl trivial (y_pick_t rfl k6_24 rfl) (sw0 []) ?_
      refine dt 29 1073741823 rfl trivial (y_move rfl) (sw0 []) ?_
      refine dk 30 2147483647 rfl (sk1 rfl rfl rfl) (sw0 []) ?_
      refine dk 31 4294967295 rfl (sk1 rfl rfl rfl) (sw0 []) ?_
      refine dt 32 8589934591 rfl trivial (y_pick_t rfl rfl rfl) (sw0 []) ?_
      refine dt 33 17179869183 rfl trivial (y_move rfl) (sw0 []) ?_
      refine dk 34 34359738367 rfl (sk1 rfl rfl rfl) (sw0 []) ?_
      refine dk 35 68719476735 rfl (sk1 rfl rfl rfl) (sw0 []) ?_
      refine dt 36 137438953471 rfl trivial (y_pick_t rfl rfl rfl) (sw0 []) ?_
      refine dt 37 274877906943 rfl trivial (y_move rfl) (sw0 []) ?_
      refine dk 38 549755813887 rfl (sk1 rfl rfl rfl) (sw0 []) ?_
      refine dk 39 1099511627775 rfl (sk1 rfl rfl rfl) (sw0 []) ?_
      refine dt 40 2199023255551 rfl trivial (y_pick_t rfl rfl rfl) (sw0 []) ?_
      refine dt 41 4398046511103 rfl trivial (y_move rfl) (sw0 []) ?_
      refine dk 42 8796093022207 rfl (sk1 rfl rfl rfl) (sw0 []) ?_
      refine d1 43 rfl (p_skip (sk1 rfl rfl rfl) rfl rfl ?_)
      refine dn 17592186044415 (sw0 []) ?_
      refine d1 44 rfl (p_skip (sk1 rfl rfl rfl) rfl rfl ?_)
      refine dn 35184372088831 (sw0 []) ?_
      refine dk 45 70368744177663 rfl (sk1 rfl rfl rfl) (sw0 []) ?_
      refine dt 46 140737488355327 rfl trivial (y_pick_t rfl rfl rfl) (sw0 []) ?_
      refine d_done (by kernel_rfl) ?_
      refine a_en [(92, .bool true)] ?_
      refine a_cut ?_
      intro a_ w_ ha_ hs_
      exact ⟨H5_1, (HLe.refl _), true, Option.some.inj hm, ha_.weaken ⟨rfl, trivial⟩, hs_.reix [] (by decide)⟩
    have hm := cond_f k6_24 hm
    obtain ⟨x6_26, q6_26, hm⟩ := bind_some hm
    rcases Bool.eq_false_or_eq_true (!x6_26) with k6_30 | k6_30
    · have hm := cond_t k6_30 hm
      refine d_region (S := Sw H5_1 []) (n := 47) (listed := (bits 47 0)) mixed (by kernel_rfl) rfl (by kernel_rfl) ?_
      refine dt 0 1 rfl trivial (y_move rfl) (sw0 []) ?_
      refine dt 1 3 rfl trivial (y_neq rfl rfl) (sw0 []) ?_
      refine dt 2 7 rfl trivial (y_move rfl) (sw0 []) ?_
      refine dt 3 15 rfl ⟨_, _, rfl, rfl, k6_3⟩ (y_move rfl) (sw0 []) ?_
      refine dt 4 31 rfl ⟨_, _, rfl, rfl, k6_3⟩ (y_neq rfl rfl) (sw0 []) ?_
      refine dt 5 63 rfl trivial (y_pick_f rfl k6_3 rfl) (sw0 []) ?_
      refine dt 6 127 rfl trivial (y_move rfl) (sw0 []) ?_
      refine dt 7 255 rfl ⟨_, _, rfl, rfl, k6_7⟩ (y_move rfl) (sw0 []) ?_
      refine dt 8 511 rfl ⟨_, _, rfl, rfl, k6_7⟩ (y_neq rfl rfl) (sw0 []) ?_
      refine dt 9 1023 rfl trivial (y_pick_f rfl k6_7 rfl) (sw0 []) ?_
      refine dt 10 2047 rfl trivial (y_move rfl) (sw0 []) ?_
      refine dt 11 4095 rfl ⟨_, _, rfl, rfl, k6_11⟩ (y_move rfl) (sw0 []) ?_
      refine dt 12 8191 rfl ⟨_, _, rfl, rfl, k6_11⟩ (y_neq rfl rfl) (sw0 []) ?_
      refine dt 13 16383 rfl trivial (y_pick_f rfl k6_11 rfl) (sw0 []) ?_
      refine dt 14 32767 rfl trivial (y_move rfl) (sw0 []) ?_
      refine dt 15 65535 rfl ⟨_, _, rfl, rfl, k6_15⟩ (y_move rfl) (sw0 []) ?_
      refine dt 16 131071 rfl ⟨_, _, rfl, rfl, k6_15⟩ (y_neq rfl rfl) (sw0 []) ?_
      refine dt 17 262143 rfl trivial (y_pick_f rfl k6_15 rfl) (sw0 []) ?_
      refine dt 18 524287 rfl trivial (y_move rfl) (sw0 []) ?_
      obtain ⟨u6_19, h6_19, c6_19⟩ := PAt.one hb1_6
      refine dt 19 1048575 rfl ⟨_, _, rfl, rfl, k6_19⟩ (y_load_cells ty32 rfl (fun _ h => h.1) rfl c6_19 (Rp.len h6_19)) (sw0 []) ?_
      refine d1 20 rfl (e_callV (all := [.int .i64 48, .int .i64 60]) (v := .agg x6_20.cells.toArray) ⟨_, _, rfl, rfl, k6_19⟩ rfl Tryd.func53 rfl rfl rfl rfl rfl (fun w hw => ok_53 hw q6_20) ?_)
      refine dn 2097151 (sw0 []) ?_
      refine dt 21 4194303 rfl ⟨_, _, rfl, rfl, k6_19⟩ (y_eq32_neq rfl rfl h6_19 (Span.rep_mk H5_1 x6_20)) (sw0 []) ?_
      refine dt 22 8388607 rfl trivial (y_pick_f rfl k6_19 rfl) (sw0 []) ?_
      refine dt 23 16777215 rfl trivial (y_move rfl) (sw0 []) ?_
      refine dt 24 33554431 rfl ⟨_, _, rfl, rfl, k6_24⟩ (y_move rfl) (sw0 []) ?_
      refine d1 25 rfl (e_buildSlice (xs := [.const (.int .i64 2), .const (.int .i64 2)]) (cs := [.int .i64 2, .int .i64 2]) ⟨_, _, rfl, rfl, k6_24⟩ rfl Tryd.underlying26 ty3 rfl rfl rfl (by simp [Value.cells]) rfl (rfl) ?_)
      intro v6_25
      have h6_25 : RepL (α := Int) H5_1 ([.int .i64 2, .int .i64 2]) [2, 2] := (RepL.cons (α := Int) (c := [.int .i64 2]) rfl (RepL.cons (α := Int) (c := [.int .i64 2]) rfl (RepL.nil (α := Int))))
      refine dn 67108863 (sw0 []) ?_
      refine a_frow (i := 0) rfl rfl h6_25 rfl ?_
      intro H6_26g1f l6_26g1f h6_26g1f
      have hb1_6 := PAt.mono l6_26g1f hb1_6
      have h2_1r0 := Sl.mono l6_26g1f h2_1r0
      have h5_1r0 := Sl.mono l6_26g1f h5_1r0
      have h6_19 := Rp.mono l6_26g1f h6_19
      have hg := Glob.mono l6_26g1f hg
      refine d1 26 rfl (e_callV (all := [v2_1r0, v6_25]) (v := .bool x6_26) ⟨_, _, rfl, rfl, k6_24⟩ rfl Tryd.func29 rfl rfl rfl rfl rfl (fun w hw => ok_29 hw h2_1r0 h6_26g1f q6_26) ?_)
      refine dn 134217727 (swl l6_26g1f []) ?_
      refine d_weaken (S' := Sw H6_26g1f []) (sw_sw l6_26g1f [] rfl) ?_
      refine dt 27 268435455 rfl ⟨_, _, rfl, rfl, k6_24⟩ (y_not rfl) (sw0 []) ?_
      refine dt 28 536870911 rfl trivial (y_pick_f rfl k6_24 rfl) (sw0 []) ?_
      refine dt 29 1073741823 rfl trivial (y_move rfl) (sw0 []) ?_
      refine dk 30 2147483647 rfl (sk1 rfl rfl k6_30) (sw0 []) ?_
      refine dk 31 4294967295 rfl (sk1 rfl rfl k6_30) (sw0 []) ?_
      refine dt 32 8589934591 rfl trivial (y_pick_t rfl k6_30 rfl) (sw0 []) ?_
      refine dt 33 17179869183 rfl trivial (y_move rfl) (sw0 []) ?_
      refine dk 34 34359738367 rfl (sk1 rfl rfl rfl) (sw0 []) ?_
      refine dk 35 68719476735 rfl (sk1 rfl rfl rfl) (sw0 []) ?_
      refine dt 36 137438953471 rfl trivial (y_pick_t rfl rfl rfl) (sw0 []) ?_
      refine dt 37 274877906943 rfl trivial (y_move rfl) (sw0 []) ?_
      refine dk 38 549755813887 rfl (sk1 rfl rfl rfl) (sw0 []) ?_
      refine dk 39 1099511627775 rfl (sk1 rfl rfl rfl) (sw0 []) ?_
      refine dt 40 2199023255551 rfl trivial (y_pick_t rfl rfl rfl) (sw0 []) ?_
      refine dt 41 4398046511103 rfl trivial (y_move rfl) (sw0 []) ?_
      refine dk 42 8796093022207 rfl (sk1 rfl rfl rfl) (sw0 []) ?_
      refine d1 43 rfl (p_skip (sk1 rfl rfl rfl) rfl rfl ?_)
      refine dn 17592186044415 (sw0 []) ?_
      refine d1 44 rfl (p_skip (sk1 rfl rfl rfl) rfl rfl ?_)
      refine dn 35184372088831 (sw0 []) ?_
      refine dk 45 70368744177663 rfl (sk1 rfl rfl rfl) (sw0 []) ?_
      refine dt 46 140737488355327 rfl trivial (y_pick_t rfl rfl rfl) (sw0 []) ?_
      refine d_done (by kernel_rfl) ?_
      refine a_en [(92, .bool true)] ?_
      refine a_own [] (by decide) (L' := []) rfl ?_
      refine a_cut ?_
      intro a_ w_ ha_ hs_
      exact ⟨H6_26g1f, l6_26g1f, true, Option.some.inj hm, ha_.weaken ⟨rfl, trivial⟩, hs_.reix [] (by decide)⟩
    have hm := cond_f k6_30 hm
    rcases Bool.eq_false_or_eq_true (x3_1.1 != 1) with k6_34 | k6_34
    · have hm := cond_t k6_34 hm
      refine d_region (S := Sw H5_1 []) (n := 47) (listed := (bits 47 0)) mixed (by kernel_rfl) rfl (by kernel_rfl) ?_
      refine dt 0 1 rfl trivial (y_move rfl) (sw0 []) ?_
      refine dt 1 3 rfl trivial (y_neq rfl rfl) (sw0 []) ?_
      refine dt 2 7 rfl trivial (y_move rfl) (sw0 []) ?_
      refine dt 3 15 rfl ⟨_, _, rfl, rfl, k6_3⟩ (y_move rfl) (sw0 []) ?_
      refine dt 4 31 rfl ⟨_, _, rfl, rfl, k6_3⟩ (y_neq rfl rfl) (sw0 []) ?_
      refine dt 5 63 rfl trivial (y_pick_f rfl k6_3 rfl) (sw0 []) ?_
      refine dt 6 127 rfl trivial (y_move rfl) (sw0 []) ?_
      refine dt 7 255 rfl ⟨_, _, rfl, rfl, k6_7⟩ (y_move rfl) (sw0 []) ?_
      refine dt 8 511 rfl ⟨_, _, rfl, rfl, k6_7⟩ (y_neq rfl rfl) (sw0 []) ?_
      refine dt 9 1023 rfl trivial (y_pick_f rfl k6_7 rfl) (sw0 []) ?_
      refine dt 10 2047 rfl trivial (y_move rfl) (sw0 []) ?_
      refine dt 11 4095 rfl ⟨_, _, rfl, rfl, k6_11⟩ (y_move rfl) (sw0 []) ?_
      refine dt 12 8191 rfl ⟨_, _, rfl, rfl, k6_11⟩ (y_neq rfl rfl) (sw0 []) ?_
      refine dt 13 16383 rfl trivial (y_pick_f rfl k6_11 rfl) (sw0 []) ?_
      refine dt 14 32767 rfl trivial (y_move rfl) (sw0 []) ?_
      refine dt 15 65535 rfl ⟨_, _, rfl, rfl, k6_15⟩ (y_move rfl) (sw0 []) ?_
      refine dt 16 131071 rfl ⟨_, _, rfl, rfl, k6_15⟩ (y_neq rfl rfl) (sw0 []) ?_
      refine dt 17 262143 rfl trivial (y_pick_f rfl k6_15 rfl) (sw0 []) ?_
      refine dt 18 524287 rfl trivial (y_move rfl) (sw0 []) ?_
      obtain ⟨u6_19, h6_19, c6_19⟩ := PAt.one hb1_6
      refine dt 19 1048575 rfl ⟨_, _, rfl, rfl, k6_19⟩ (y_load_cells ty32 rfl (fun _ h => h.1) rfl c6_19 (Rp.len h6_19)) (sw0 []) ?_
      refine d1 20 rfl (e_callV (all := [.int .i64 48, .int .i64 60]) (v := .agg x6_20.cells.toArray) ⟨_, _, rfl, rfl, k6_19⟩ rfl Tryd.func53 rfl rfl rfl rfl rfl (fun w hw => ok_53 hw q6_20) ?_)
      refine dn 2097151 (sw0 []) ?_
      refine dt 21 4194303 rfl ⟨_, _, rfl, rfl, k6_19⟩ (y_eq32_neq rfl rfl h6_19 (Span.rep_mk H5_1 x6_20)) (sw0 []) ?_
      refine dt 22 8388607 rfl trivial (y_pick_f rfl k6_19 rfl) (sw0 []) ?_
      refine dt 23 16777215 rfl trivial (y_move rfl) (sw0 []) ?_
      refine dt 24 33554431 rfl ⟨_, _, rfl, rfl, k6_24⟩ (y_move rfl) (sw0 []) ?_
      refine d1 25 rfl (e_buildSlice (xs := [.const (.int .i64 2), .const (.int .i64 2)]) (cs := [.int .i64 2, .int .i64 2]) ⟨_, _, rfl, rfl, k6_24⟩ rfl Tryd.underlying26 ty3 rfl rfl rfl (by simp [Value.cells]) rfl (rfl) ?_)
      intro v6_25
      have h6_25 : RepL (α := Int) H5_1 ([.int .i64 2, .int .i64 2]) [2, 2] := (RepL.cons (α := Int) (c := [.int .i64 2]) rfl (RepL.cons (α := Int) (c := [.int .i64 2]) rfl (RepL.nil (α := Int))))
      refine dn 67108863 (sw0 []) ?_
      refine a_frow (i := 0) rfl rfl h6_25 rfl ?_
      intro H6_26g1f l6_26g1f h6_26g1f
      have hb1_6 := PAt.mono l6_26g1f hb1_6
      have h2_1r0 := Sl.mono l6_26g1f h2_1r0
      have h5_1r0 := Sl.mono l6_26g1f h5_1r0
      have h6_19 := Rp.mono l6_26g1f h6_19
      have hg := Glob.mono l6_26g1f hg
      refine d1 26 rfl (e_callV (all := [v2_1r0, v6_25]) (v := .bool x6_26) ⟨_, _, rfl, rfl, k6_24⟩ rfl Tryd.func29 rfl rfl rfl rfl rfl (fun w hw => ok_29 hw h2_1r0 h6_26g1f q6_26) ?_)
      refine dn 134217727 (swl l6_26g1f []) ?_
      refine d_weaken (S' := Sw H6_26g1f []) (sw_sw l6_26g1f [] rfl) ?_
      refine dt 27 268435455 rfl ⟨_, _, rfl, rfl, k6_24⟩ (y_not rfl) (sw0 []) ?_
      refine dt 28 536870911 rfl trivial (y_pick_f rfl k6_24 rfl) (sw0 []) ?_
      refine dt 29 1073741823 rfl trivial (y_move rfl) (sw0 []) ?_
      refine dt 30 2147483647 rfl ⟨_, _, rfl, rfl, k6_30⟩ (y_move rfl) (sw0 []) ?_
      refine dt 31 4294967295 rfl ⟨_, _, rfl, rfl, k6_30⟩ (y_neq rfl rfl) (sw0 []) ?_
      refine dt 32 8589934591 rfl trivial (y_pick_f rfl k6_30 rfl) (sw0 []) ?_
      refine dt 33 17179869183 rfl trivial (y_move rfl) (sw0 []) ?_
      refine dk 34 34359738367 rfl (sk1 rfl rfl k6_34) (sw0 []) ?_
      refine dk 35 68719476735 rfl (sk1 rfl rfl k6_34) (sw0 []) ?_
      refine dt 36 137438953471 rfl trivial (y_pick_t rfl k6_34 rfl) (sw0 []) ?_
      refine dt 37 274877906943 rfl trivial (y_move rfl) (sw0 []) ?_
      refine dk 38 549755813887 rfl (sk1 rfl rfl rfl) (sw0 []) ?_
      refine dk 39 1099511627775 rfl (sk1 rfl rfl rfl) (sw0 []) ?_
      refine dt 40 2199023255551 rfl trivial (y_pick_t rfl rfl rfl) (sw0 []) ?_
      refine dt 41 4398046511103 rfl trivial (y_move rfl) (sw0 []) ?_
      refine dk 42 8796093022207 rfl (sk1 rfl rfl rfl) (sw0 []) ?_
      refine d1 43 rfl (p_skip (sk1 rfl rfl rfl) rfl rfl ?_)
      refine dn 17592186044415 (sw0 []) ?_
      refine d1 44 rfl (p_skip (sk1 rfl rfl rfl) rfl rfl ?_)
      refine dn 35184372088831 (sw0 []) ?_
      refine dk 45 70368744177663 rfl (sk1 rfl rfl rfl) (sw0 []) ?_
      refine dt 46 140737488355327 rfl trivial (y_pick_t rfl rfl rfl) (sw0 []) ?_
      refine d_done (by kernel_rfl) ?_
      refine a_en [(92, .bool true)] ?_
      refine a_own [] (by decide) (L' := []) rfl ?_
      refine a_cut ?_
      intro a_ w_ ha_ hs_
      exact ⟨H6_26g1f, l6_26g1f, true, Option.some.inj hm, ha_.weaken ⟨rfl, trivial⟩, hs_.reix [] (by decide)⟩
    have hm := cond_f k6_34 hm
    rcases Bool.eq_false_or_eq_true (x3_1.2.1 != 2) with k6_38 | k6_38
    · have hm := cond_t k6_38 hm
      refine d_region (S := Sw H5_1 []) (n := 47) (listed := (bits 47 0)) mixed (by kernel_rfl) rfl (by kernel_rfl) ?_
      refine dt 0 1 rfl trivial (y_move rfl) (sw0 []) ?_
      refine dt 1 3 rfl trivial (y_neq rfl rfl) (sw0 []) ?_
      refine dt 2 7 rfl trivial (y_move rfl) (sw0 []) ?_
      refine dt 3 15 rfl ⟨_, _, rfl, rfl, k6_3⟩ (y_move rfl) (sw0 []) ?_
      refine dt 4 31 rfl ⟨_, _, rfl, rfl, k6_3⟩ (y_neq rfl rfl) (sw0 []) ?_
      refine dt 5 63 rfl trivial (y_pick_f rfl k6_3 rfl) (sw0 []) ?_
      refine dt 6 127 rfl trivial (y_move rfl) (sw0 []) ?_
      refine dt 7 255 rfl ⟨_, _, rfl, rfl, k6_7⟩ (y_move rfl) (sw0 []) ?_
      refine dt 8 511 rfl ⟨_, _, rfl, rfl, k6_7⟩ (y_neq rfl rfl) (sw0 []) ?_
      refine dt 9 1023 rfl trivial (y_pick_f rfl k6_7 rfl) (sw0 []) ?_
      refine dt 10 2047 rfl trivial (y_move rfl) (sw0 []) ?_
      refine dt 11 4095 rfl ⟨_, _, rfl, rfl, k6_11⟩ (y_move rfl) (sw0 []) ?_
      refine dt 12 8191 rfl ⟨_, _, rfl, rfl, k6_11⟩ (y_neq rfl rfl) (sw0 []) ?_
      refine dt 13 16383 rfl trivial (y_pick_f rfl k6_11 rfl) (sw0 []) ?_
      refine dt 14 32767 rfl trivial (y_move rfl) (sw0 []) ?_
      refine dt 15 65535 rfl ⟨_, _, rfl, rfl, k6_15⟩ (y_move rfl) (sw0 []) ?_
      refine dt 16 131071 rfl ⟨_, _, rfl, rfl, k6_15⟩ (y_neq rfl rfl) (sw0 []) ?_
      refine dt 17 262143 rfl trivial (y_pick_f rfl k6_15 rfl) (sw0 []) ?_
      refine dt 18 524287 rfl trivial (y_move rfl) (sw0 []) ?_
      obtain ⟨u6_19, h6_19, c6_19⟩ := PAt.one hb1_6
      refine dt 19 1048575 rfl ⟨_, _, rfl, rfl, k6_19⟩ (y_load_cells ty32 rfl (fun _ h => h.1) rfl c6_19 (Rp.len h6_19)) (sw0 []) ?_
      refine d1 20 rfl (e_callV (all := [.int .i64 48, .int .i64 60]) (v := .agg x6_20.cells.toArray) ⟨_, _, rfl, rfl, k6_19⟩ rfl Tryd.func53 rfl rfl rfl rfl rfl (fun w hw => ok_53 hw q6_20) ?_)
      refine dn 2097151 (sw0 []) ?_
      refine dt 21 4194303 rfl ⟨_, _, rfl, rfl, k6_19⟩ (y_eq32_neq rfl rfl h6_19 (Span.rep_mk H5_1 x6_20)) (sw0 []) ?_
      refine dt 22 8388607 rfl trivial (y_pick_f rfl k6_19 rfl) (sw0 []) ?_
      refine dt 23 16777215 rfl trivial (y_move rfl) (sw0 []) ?_
      refine dt 24 33554431 rfl ⟨_, _, rfl, rfl, k6_24⟩ (y_move rfl) (sw0 []) ?_
      refine d1 25 rfl (e_buildSlice (xs := [.const (.int .i64 2), .const (.int .i64 2)]) (cs := [.int .i64 2, .int .i64 2]) ⟨_, _, rfl, rfl, k6_24⟩ rfl Tryd.underlying26 ty3 rfl rfl rfl (by simp [Value.cells]) rfl (rfl) ?_)
      intro v6_25
      have h6_25 : RepL (α := Int) H5_1 ([.int .i64 2, .int .i64 2]) [2, 2] := (RepL.cons (α := Int) (c := [.int .i64 2]) rfl (RepL.cons (α := Int) (c := [.int .i64 2]) rfl (RepL.nil (α := Int))))
      refine dn 67108863 (sw0 []) ?_
      refine a_frow (i := 0) rfl rfl h6_25 rfl ?_
      intro H6_26g1f l6_26g1f h6_26g1f
      have hb1_6 := PAt.mono l6_26g1f hb1_6
      have h2_1r0 := Sl.mono l6_26g1f h2_1r0
      have h5_1r0 := Sl.mono l6_26g1f h5_1r0
      have h6_19 := Rp.mono l6_26g1f h6_19
      have hg := Glob.mono l6_26g1f hg
      refine d1 26 rfl (e_callV (all := [v2_1r0, v6_25]) (v := .bool x6_26) ⟨_, _, rfl, rfl, k6_24⟩ rfl Tryd.func29 rfl rfl rfl rfl rfl (fun w hw => ok_29 hw h2_1r0 h6_26g1f q6_26) ?_)
      refine dn 134217727 (swl l6_26g1f []) ?_
      refine d_weaken (S' := Sw H6_26g1f []) (sw_sw l6_26g1f [] rfl) ?_
      refine dt 27 268435455 rfl ⟨_, _, rfl, rfl, k6_24⟩ (y_not rfl) (sw0 []) ?_
      refine dt 28 536870911 rfl trivial (y_pick_f rfl k6_24 rfl) (sw0 []) ?_
      refine dt 29 1073741823 rfl trivial (y_move rfl) (sw0 []) ?_
      refine dt 30 2147483647 rfl ⟨_, _, rfl, rfl, k6_30⟩ (y_move rfl) (sw0 []) ?_
      refine dt 31 4294967295 rfl ⟨_, _, rfl, rfl, k6_30⟩ (y_neq rfl rfl) (sw0 []) ?_
      refine dt 32 8589934591 rfl trivial (y_pick_f rfl k6_30 rfl) (sw0 []) ?_
      refine dt 33 17179869183 rfl trivial (y_move rfl) (sw0 []) ?_
      refine dt 34 34359738367 rfl ⟨_, _, rfl, rfl, k6_34⟩ (y_move rfl) (sw0 []) ?_
      refine dt 35 68719476735 rfl ⟨_, _, rfl, rfl, k6_34⟩ (y_neq rfl rfl) (sw0 []) ?_
      refine dt 36 137438953471 rfl trivial (y_pick_f rfl k6_34 rfl) (sw0 []) ?_
      refine dt 37 274877906943 rfl trivial (y_move rfl) (sw0 []) ?_
      refine dk 38 549755813887 rfl (sk1 rfl rfl k6_38) (sw0 []) ?_
      refine dk 39 1099511627775 rfl (sk1 rfl rfl k6_38) (sw0 []) ?_
      refine dt 40 2199023255551 rfl trivial (y_pick_t rfl k6_38 rfl) (sw0 []) ?_
      refine dt 41 4398046511103 rfl trivial (y_move rfl) (sw0 []) ?_
      refine dk 42 8796093022207 rfl (sk1 rfl rfl rfl) (sw0 []) ?_
      refine d1 43 rfl (p_skip (sk1 rfl rfl rfl) rfl rfl ?_)
      refine dn 17592186044415 (sw0 []) ?_
      refine d1 44 rfl (p_skip (sk1 rfl rfl rfl) rfl rfl ?_)
      refine dn 35184372088831 (sw0 []) ?_
      refine dk 45 70368744177663 rfl (sk1 rfl rfl rfl) (sw0 []) ?_
      refine dt 46 140737488355327 rfl trivial (y_pick_t rfl rfl rfl) (sw0 []) ?_
      refine d_done (by kernel_rfl) ?_
      refine a_en [(92, .bool true)] ?_
      refine a_own [] (by decide) (L' := []) rfl ?_
      refine a_cut ?_
      intro a_ w_ ha_ hs_
      exact ⟨H6_26g1f, l6_26g1f, true, Option.some.inj hm, ha_.weaken ⟨rfl, trivial⟩, hs_.reix [] (by decide)⟩
    have hm := cond_f k6_38 hm
    rcases Bool.eq_false_or_eq_true (x4_2.1 != 1) with k6_42 | k6_42
    · have hm := cond_t k6_42 hm
      refine d_region (S := Sw H5_1 []) (n := 47) (listed := (bits 47 0)) mixed (by kernel_rfl) rfl (by kernel_rfl) ?_
      refine dt 0 1 rfl trivial (y_move rfl) (sw0 []) ?_
      refine dt 1 3 rfl trivial (y_neq rfl rfl) (sw0 []) ?_
      refine dt 2 7 rfl trivial (y_move rfl) (sw0 []) ?_
      refine dt 3 15 rfl ⟨_, _, rfl, rfl, k6_3⟩ (y_move rfl) (sw0 []) ?_
      refine dt 4 31 rfl ⟨_, _, rfl, rfl, k6_3⟩ (y_neq rfl rfl) (sw0 []) ?_
      refine dt 5 63 rfl trivial (y_pick_f rfl k6_3 rfl) (sw0 []) ?_
      refine dt 6 127 rfl trivial (y_move rfl) (sw0 []) ?_
      refine dt 7 255 rfl ⟨_, _, rfl, rfl, k6_7⟩ (y_move rfl) (sw0 []) ?_
      refine dt 8 511 rfl ⟨_, _, rfl, rfl, k6_7⟩ (y_neq rfl rfl) (sw0 []) ?_
      refine dt 9 1023 rfl trivial (y_pick_f rfl k6_7 rfl) (sw0 []) ?_
      refine dt 10 2047 rfl trivial (y_move rfl) (sw0 []) ?_
      refine dt 11 4095 rfl ⟨_, _, rfl, rfl, k6_11⟩ (y_move rfl) (sw0 []) ?_
      refine dt 12 8191 rfl ⟨_, _, rfl, rfl, k6_11⟩ (y_neq rfl rfl) (sw0 []) ?_
      refine dt 13 16383 rfl trivial (y_pick_f rfl k6_11 rfl) (sw0 []) ?_
      refine dt 14 32767 rfl trivial (y_move rfl) (sw0 []) ?_
      refine dt 15 65535 rfl ⟨_, _, rfl, rfl, k6_15⟩ (y_move rfl) (sw0 []) ?_
      refine dt 16 131071 rfl ⟨_, _, rfl, rfl, k6_15⟩ (y_neq rfl rfl) (sw0 []) ?_
      refine dt 17 262143 rfl trivial (y_pick_f rfl k6_15 rfl) (sw0 []) ?_
      refine dt 18 524287 rfl trivial (y_move rfl) (sw0 []) ?_
      obtain ⟨u6_19, h6_19, c6_19⟩ := PAt.one hb1_6
      refine dt 19 1048575 rfl ⟨_, _, rfl, rfl, k6_19⟩ (y_load_cells ty32 rfl (fun _ h => h.1) rfl c6_19 (Rp.len h6_19)) (sw0 []) ?_
      refine d1 20 rfl (e_callV (all := [.int .i64 48, .int .i64 60]) (v := .agg x6_20.cells.toArray) ⟨_, _, rfl, rfl, k6_19⟩ rfl Tryd.func53 rfl rfl rfl rfl rfl (fun w hw => ok_53 hw q6_20) ?_)
      refine dn 2097151 (sw0 []) ?_
      refine dt 21 4194303 rfl ⟨_, _, rfl, rfl, k6_19⟩ (y_eq32_neq rfl rfl h6_19 (Span.rep_mk H5_1 x6_20)) (sw0 []) ?_
      refine dt 22 8388607 rfl trivial (y_pick_f rfl k6_19 rfl) (sw0 []) ?_
      refine dt 23 16777215 rfl trivial (y_move rfl) (sw0 []) ?_
      refine dt 24 33554431 rfl ⟨_, _, rfl, rfl, k6_24⟩ (y_move rfl) (sw0 []) ?_
      refine d1 25 rfl (e_buildSlice (xs := [.const (.int .i64 2), .const (.int .i64 2)]) (cs := [.int .i64 2, .int .i64 2]) ⟨_, _, rfl, rfl, k6_24⟩ rfl Tryd.underlying26 ty3 rfl rfl rfl (by simp [Value.cells]) rfl (rfl) ?_)
      intro v6_25
      have h6_25 : RepL (α := Int) H5_1 ([.int .i64 2, .int .i64 2]) [2, 2] := (RepL.cons (α := Int) (c := [.int .i64 2]) rfl (RepL.cons (α := Int) (c := [.int .i64 2]) rfl (RepL.nil (α := Int))))
      refine dn 67108863 (sw0 []) ?_
      refine a_frow (i := 0) rfl rfl h6_25 rfl ?_
      intro H6_26g1f l6_26g1f h6_26g1f
      have hb1_6 := PAt.mono l6_26g1f hb1_6
      have h2_1r0 := Sl.mono l6_26g1f h2_1r0
      have h5_1r0 := Sl.mono l6_26g1f h5_1r0
      have h6_19 := Rp.mono l6_26g1f h6_19
      have hg := Glob.mono l6_26g1f hg
      refine d1 26 rfl (e_callV (all := [v2_1r0, v6_25]) (v := .bool x6_26) ⟨_, _, rfl, rfl, k6_24⟩ rfl Tryd.func29 rfl rfl rfl rfl rfl (fun w hw => ok_29 hw h2_1r0 h6_26g1f q6_26) ?_)
      refine dn 134217727 (swl l6_26g1f []) ?_
      refine d_weaken (S' := Sw H6_26g1f []) (sw_sw l6_26g1f [] rfl) ?_
      refine dt 27 268435455 rfl ⟨_, _, rfl, rfl, k6_24⟩ (y_not rfl) (sw0 []) ?_
      refine dt 28 536870911 rfl trivial (y_pick_f rfl k6_24 rfl) (sw0 []) ?_
      refine dt 29 1073741823 rfl trivial (y_move rfl) (sw0 []) ?_
      refine dt 30 2147483647 rfl ⟨_, _, rfl, rfl, k6_30⟩ (y_move rfl) (sw0 []) ?_
      refine dt 31 4294967295 rfl ⟨_, _, rfl, rfl, k6_30⟩ (y_neq rfl rfl) (sw0 []) ?_
      refine dt 32 8589934591 rfl trivial (y_pick_f rfl k6_30 rfl) (sw0 []) ?_
      refine dt 33 17179869183 rfl trivial (y_move rfl) (sw0 []) ?_
      refine dt 34 34359738367 rfl ⟨_, _, rfl, rfl, k6_34⟩ (y_move rfl) (sw0 []) ?_
      refine dt 35 68719476735 rfl ⟨_, _, rfl, rfl, k6_34⟩ (y_neq rfl rfl) (sw0 []) ?_
      refine dt 36 137438953471 rfl trivial (y_pick_f rfl k6_34 rfl) (sw0 []) ?_
      refine dt 37 274877906943 rfl trivial (y_move rfl) (sw0 []) ?_
      refine dt 38 549755813887 rfl ⟨_, _, rfl, rfl, k6_38⟩ (y_move rfl) (sw0 []) ?_
      refine dt 39 1099511627775 rfl ⟨_, _, rfl, rfl, k6_38⟩ (y_neq rfl rfl) (sw0 []) ?_
      refine dt 40 2199023255551 rfl trivial (y_pick_f rfl k6_38 rfl) (sw0 []) ?_
      refine dt 41 4398046511103 rfl trivial (y_move rfl) (sw0 []) ?_
      refine dk 42 8796093022207 rfl (sk1 rfl rfl k6_42) (sw0 []) ?_
      refine d1 43 rfl (p_skip (sk1 rfl rfl k6_42) rfl rfl ?_)
      refine dn 17592186044415 (sw0 []) ?_
      refine d1 44 rfl (p_skip (sk1 rfl rfl k6_42) rfl rfl ?_)
      refine dn 35184372088831 (sw0 []) ?_
      refine dk 45 70368744177663 rfl (sk1 rfl rfl k6_42) (sw0 []) ?_
      refine dt 46 140737488355327 rfl trivial (y_pick_t rfl k6_42 rfl) (sw0 []) ?_
      refine d_done (by kernel_rfl) ?_
      refine a_en [(92, .bool true)] ?_
      refine a_own [] (by decide) (L' := []) rfl ?_
      refine a_cut ?_
      intro a_ w_ ha_ hs_
      exact ⟨H6_26g1f, l6_26g1f, true, Option.some.inj hm, ha_.weaken ⟨rfl, trivial⟩, hs_.reix [] (by decide)⟩
    have hm := cond_f k6_42 hm
    obtain ⟨x6_44, q6_44, hm⟩ := bind_some hm
    refine d_region (S := Sw H5_1 []) (n := 47) (listed := (bits 47 0)) mixed (by kernel_rfl) rfl (by kernel_rfl) ?_
    refine dt 0 1 rfl trivial (y_move rfl) (sw0 []) ?_
    refine dt 1 3 rfl trivial (y_neq rfl rfl) (sw0 []) ?_
    refine dt 2 7 rfl trivial (y_move rfl) (sw0 []) ?_
    refine dt 3 15 rfl ⟨_, _, rfl, rfl, k6_3⟩ (y_move rfl) (sw0 []) ?_
    refine dt 4 31 rfl ⟨_, _, rfl, rfl, k6_3⟩ (y_neq rfl rfl) (sw0 []) ?_
    refine dt 5 63 rfl trivial (y_pick_f rfl k6_3 rfl) (sw0 []) ?_
    refine dt 6 127 rfl trivial (y_move rfl) (sw0 []) ?_
    refine dt 7 255 rfl ⟨_, _, rfl, rfl, k6_7⟩ (y_move rfl) (sw0 []) ?_
    refine dt 8 511 rfl ⟨_, _, rfl, rfl, k6_7⟩ (y_neq rfl rfl) (sw0 []) ?_
    refine dt 9 1023 rfl trivial (y_pick_f rfl k6_7 rfl) (sw0 []) ?_
    refine dt 10 2047 rfl trivial (y_move rfl) (sw0 []) ?_
    refine dt 11 4095 rfl ⟨_, _, rfl, rfl, k6_11⟩ (y_move rfl) (sw0 []) ?_
    refine dt 12 8191 rfl ⟨_, _, rfl, rfl, k6_11⟩ (y_neq rfl rfl) (sw0 []) ?_
    refine dt 13 16383 rfl trivial (y_pick_f rfl k6_11 rfl) (sw0 []) ?_
    refine dt 14 32767 rfl trivial (y_move rfl) (sw0 []) ?_
    refine dt 15 65535 rfl ⟨_, _, rfl, rfl, k6_15⟩ (y_move rfl) (sw0 []) ?_
    refine dt 16 131071 rfl ⟨_, _, rfl, rfl, k6_15⟩ (y_neq rfl rfl) (sw0 []) ?_
    refine dt 17 262143 rfl trivial (y_pick_f rfl k6_15 rfl) (sw0 []) ?_
    refine dt 18 524287 rfl trivial (y_move rfl) (sw0 []) ?_
    obtain ⟨u6_19, h6_19, c6_19⟩ := PAt.one hb1_6
    refine dt 19 1048575 rfl ⟨_, _, rfl, rfl, k6_19⟩ (y_load_cells ty32 rfl (fun _ h => h.1) rfl c6_19 (Rp.len h6_19)) (sw0 []) ?_
    refine d1 20 rfl (e_callV (all := [.int .i64 48, .int .i64 60]) (v := .agg x6_20.cells.toArray) ⟨_, _, rfl, rfl, k6_19⟩ rfl Tryd.func53 rfl rfl rfl rfl rfl (fun w hw => ok_53 hw q6_20) ?_)
    refine dn 2097151 (sw0 []) ?_
    refine dt 21 4194303 rfl ⟨_, _, rfl, rfl, k6_19⟩ (y_eq32_neq rfl rfl h6_19 (Span.rep_mk H5_1 x6_20)) (sw0 []) ?_
    refine dt 22 8388607 rfl trivial (y_pick_f rfl k6_19 rfl) (sw0 []) ?_
    refine dt 23 16777215 rfl trivial (y_move rfl) (sw0 []) ?_
    refine dt 24 33554431 rfl ⟨_, _, rfl, rfl, k6_24⟩ (y_move rfl) (sw0 []) ?_
    refine d1 25 rfl (e_buildSlice (xs := [.const (.int .i64 2), .const (.int .i64 2)]) (cs := [.int .i64 2, .int .i64 2]) ⟨_, _, rfl, rfl, k6_24⟩ rfl Tryd.underlying26 ty3 rfl rfl rfl (by simp [Value.cells]) rfl (rfl) ?_)
    intro v6_25
    have h6_25 : RepL (α := Int) H5_1 ([.int .i64 2, .int .i64 2]) [2, 2] := (RepL.cons (α := Int) (c := [.int .i64 2]) rfl (RepL.cons (α := Int) (c := [.int .i64 2]) rfl (RepL.nil (α := Int))))
    refine dn 67108863 (sw0 []) ?_
    refine a_frow (i := 0) rfl rfl h6_25 rfl ?_
    intro H6_26g1f l6_26g1f h6_26g1f
    have hb1_6 := PAt.mono l6_26g1f hb1_6
    have h2_1r0 := Sl.mono l6_26g1f h2_1r0
    have h5_1r0 := Sl.mono l6_26g1f h5_1r0
    have h6_19 := Rp.mono l6_26g1f h6_19
    have hg := Glob.mono l6_26g1f hg
    refine d1 26 rfl (e_callV (all := [v2_1r0, v6_25]) (v := .bool x6_26) ⟨_, _, rfl, rfl, k6_24⟩ rfl Tryd.func29 rfl rfl rfl rfl rfl (fun w hw => ok_29 hw h2_1r0 h6_26g1f q6_26) ?_)
    refine dn 134217727 (swl l6_26g1f []) ?_
    refine d_weaken (S' := Sw H6_26g1f []) (sw_sw l6_26g1f [] rfl) ?_
    refine dt 27 268435455 rfl ⟨_, _, rfl, rfl, k6_24⟩ (y_not rfl) (sw0 []) ?_
    refine dt 28 536870911 rfl trivial (y_pick_f rfl k6_24 rfl) (sw0 []) ?_
    refine dt 29 1073741823 rfl trivial (y_move rfl) (sw0 []) ?_
    refine dt 30 2147483647 rfl ⟨_, _, rfl, rfl, k6_30⟩ (y_move rfl) (sw0 []) ?_
    refine dt 31 4294967295 rfl ⟨_, _, rfl, rfl, k6_30⟩ (y_neq rfl rfl) (sw0 []) ?_
    refine dt 32 8589934591 rfl trivial (y_pick_f rfl k6_30 rfl) (sw0 []) ?_
    refine dt 33 17179869183 rfl trivial (y_move rfl) (sw0 []) ?_
    refine dt 34 34359738367 rfl ⟨_, _, rfl, rfl, k6_34⟩ (y_move rfl) (sw0 []) ?_
    refine dt 35 68719476735 rfl ⟨_, _, rfl, rfl, k6_34⟩ (y_neq rfl rfl) (sw0 []) ?_
    refine dt 36 137438953471 rfl trivial (y_pick_f rfl k6_34 rfl) (sw0 []) ?_
    refine dt 37 274877906943 rfl trivial (y_move rfl) (sw0 []) ?_
    refine dt 38 549755813887 rfl ⟨_, _, rfl, rfl, k6_38⟩ (y_move rfl) (sw0 []) ?_
    refine dt 39 1099511627775 rfl ⟨_, _, rfl, rfl, k6_38⟩ (y_neq rfl rfl) (sw0 []) ?_
    refine dt 40 2199023255551 rfl trivial (y_pick_f rfl k6_38 rfl) (sw0 []) ?_
    refine dt 41 4398046511103 rfl trivial (y_move rfl) (sw0 []) ?_
    refine dt 42 8796093022207 rfl ⟨_, _, rfl, rfl, k6_42⟩ (y_move rfl) (sw0 []) ?_
    refine d1 43 rfl (e_buildSlice (xs := [.const (.int .i64 3)]) (cs := [.int .i64 3]) ⟨_, _, rfl, rfl, k6_42⟩ rfl Tryd.underlying26 ty3 rfl rfl rfl (by simp [Value.cells]) rfl (rfl) ?_)
    intro v6_43
    have h6_43 : RepL (α := Int) H6_26g1f ([.int .i64 3]) [3] := (RepL.cons (α := Int) (c := [.int .i64 3]) rfl (RepL.nil (α := Int)))
    refine dn 17592186044415 (sw0 []) ?_
    refine a_frow (i := 0) rfl rfl h6_43 rfl ?_
    intro H6_44g1f l6_44g1f h6_44g1f
    have hb1_6 := PAt.mono l6_44g1f hb1_6
    have h2_1r0 := Sl.mono l6_44g1f h2_1r0
    have h5_1r0 := Sl.mono l6_44g1f h5_1r0
    have h6_19 := Rp.mono l6_44g1f h6_19
    have h6_26g1f := Sl.mono l6_44g1f h6_26g1f
    have hg := Glob.mono l6_44g1f hg
    refine d1 44 rfl (e_callV (all := [v5_1r0, v6_43]) (v := .bool x6_44) ⟨_, _, rfl, rfl, k6_42⟩ rfl Tryd.func29 rfl rfl rfl rfl rfl (fun w hw => ok_29 hw h5_1r0 h6_44g1f q6_44) ?_)
    refine dn 35184372088831 (swl l6_44g1f []) ?_
    refine d_weaken (S' := Sw H6_44g1f []) (sw_sw l6_44g1f [] rfl) ?_
    refine dt 45 70368744177663 rfl ⟨_, _, rfl, rfl, k6_42⟩ (y_not rfl) (sw0 []) ?_
    refine dt 46 140737488355327 rfl trivial (y_pick_f rfl k6_42 rfl) (sw0 []) ?_
    refine d_done (by kernel_rfl) ?_
    refine a_en [(92, .bool (!x6_44))] ?_
    refine a_own [] (by decide) (L' := []) rfl ?_
    refine a_cut ?_
    intro a_ w_ ha_ hs_
    exact ⟨H6_44g1f, (l6_26g1f.trans l6_44g1f), !x6_44, Option.some.inj hm, ha_.weaken ⟨rfl, trivial⟩, hs_.reix [] (by decide)⟩
  have hm := hm_j1
  rintro a_ w_ ⟨Hj1, lj1, yj1_92, rfl, ha_, hs_⟩
  try dsimp only at hm
  refine a_start ha_ hs_ ?_
  have hg := Glob.mono lj1 hg
  refine a_then ?_
  refine a_cond rfl (fun k_2 => ?_) (fun k_2 => ?_)
  · have hm := cond_t k_2 hm
    refine a_seq (a_region rfl ?_)
    refine ap (y_assign rfl) ?_
    refine a_nil ?_
    refine a_en [(0, .bool false)] ?_
    refine a_then (a_ret (a_then_ret ?_))
    refine a_done (v := .bool false) (.inl rfl) rfl ?_ ?_
    · intro a_ w_ ha_ hs_; exact run_results (P := Tryd.prog) (fn := Tryd.f30) (rs := [.tmp 0]) (vs := [.bool false]) rfl (.cons (rv_tmp ha_ rfl) (All2.nil))
    · intro _ _; obtain rfl := Option.some.inj hm
      rfl
  have hm := cond_f k_2 hm
  refine a_skip (a_then (a_seq (a_region rfl ?_)))
  obtain ⟨x8_0, q8_0, hm⟩ := bind_some hm
  refine a_cons (e_callO (all := []) trivial rfl Tryd.func69 rfl rfl rfl rfl rfl (fun w hw => ok_69 hw q8_0) ?_)
  rintro _ H8_0 _ l8_0 ⟨vp8_0, vf8_0, cp8_0, cf8_0, rfl, rfl, hp8_0, hf8_0⟩
  have hg := Glob.mono l8_0 hg
  refine a_cons (e_buildSlice (xs := [.const (.int .i64 1), .const (.int .i64 3)]) (cs := [.int .i64 1, .int .i64 3]) trivial rfl Tryd.underlying26 ty3 rfl rfl rfl (by simp [Value.cells]) rfl (rfl) ?_)
  intro v8_1
  have h8_1 : RepL (α := Int) H8_0 ([.int .i64 1, .int .i64 3]) [1, 3] := (RepL.cons (α := Int) (c := [.int .i64 1]) rfl (RepL.cons (α := Int) (c := [.int .i64 3]) rfl (RepL.nil (α := Int))))
  refine a_frow (i := 1) rfl rfl hp8_0 rfl ?_
  intro H8_2q0f l8_2q0f h8_2q0f
  have hf8_0 := RepL.mono l8_2q0f hf8_0
  have h8_1 := RepL.mono l8_2q0f h8_1
  have hg := Glob.mono l8_2q0f hg
  refine a_frow (i := 2) rfl rfl hf8_0 rfl ?_
  intro H8_2q1f l8_2q1f h8_2q1f
  have h8_2q0f := Sl.mono l8_2q1f h8_2q0f
  have h8_1 := RepL.mono l8_2q1f h8_1
  have hg := Glob.mono l8_2q1f hg
  refine a_frow (i := 0) rfl rfl h8_1 rfl ?_
  intro H8_2q2f l8_2q2f h8_2q2f
  have h8_2q0f := Sl.mono l8_2q2f h8_2q0f
  have h8_2q1f := Sl.mono l8_2q2f h8_2q1f
  have hg := Glob.mono l8_2q2f hg
  have m8_2g0l : Rp.rep H8_2q2f [vp8_0, vf8_0] (⟨x8_0.Parts, x8_0.Frames⟩ : TunnelBook) := ⟨_, _, rfl, ⟨_, rfl, h8_2q0f⟩, ⟨_, rfl, h8_2q1f⟩⟩
  obtain ⟨x8_2, q8_2, hm⟩ := bind_some hm
  refine a_cons (e_callV (all := [.agg [vp8_0, vf8_0].toArray, v8_1, .int .i64 0]) (v := .tuple #[.int .i64 x8_2.1, .int .i64 x8_2.2]) trivial rfl Tryd.func25 rfl rfl rfl rfl rfl (fun w hw => ok_25 hw m8_2g0l h8_2q2f hg q8_2) ?_)
  refine ap (y_move rfl) ?_
  refine ap (y_extract rfl rfl) ?_
  refine ap (y_extract rfl rfl) ?_
  refine ap (y_assign rfl) ?_
  refine ap (y_assign rfl) ?_
  refine a_nil ?_
  refine a_en [(2, .int .i64 x8_2.2), (12, .int .i64 x8_2.1)] ?_
  refine a_own [] (by decide) (L' := []) rfl ?_
  refine a_then (a_seq (a_region rfl ?_))
  obtain ⟨x9_0, q9_0, hm⟩ := bind_some hm
  refine a_cons (e_callH (all := []) trivial rfl Tryd.func94 rfl rfl rfl rfl rfl (fun w hw => ok_94 hw q9_0) ?_)
  rintro _ H9_0 l9_0 ⟨c9_0r0, rfl, h9_0r0⟩
  have hg := Glob.mono l9_0 hg
  obtain ⟨x9_1, q9_1, hm⟩ := bind_some hm
  refine a_cons (e_callV (all := [.agg c9_0r0.toArray]) (v := .tuple #[.int .i64 x9_1.1, .int .i64 x9_1.2]) trivial rfl Tryd.func41 rfl rfl rfl rfl rfl (fun w hw => ok_41 hw h9_0r0 hg q9_1) ?_)
  refine ap (y_move rfl) ?_
  refine ap (y_extract rfl rfl) ?_
  refine ap (y_extract rfl rfl) ?_
  refine ap (y_assign rfl) ?_
  refine ap (y_assign rfl) ?_
  refine a_nil ?_
  refine a_en [(2, .int .i64 x8_2.2), (4, .int .i64 x9_1.2), (12, .int .i64 x8_2.1), (13, .int .i64 x9_1.1)] ?_
  refine a_then (a_seq (a_region rfl ?_))
  obtain ⟨x10_0, q10_0, hm⟩ := bind_some hm
  refine a_cons (e_callH (all := []) trivial rfl Tryd.func70 rfl rfl rfl rfl rfl (fun w hw => ok_70 hw q10_0) ?_)
  rintro _ H10_0 l10_0 ⟨c10_0r0, rfl, h10_0r0⟩
  have hg := Glob.mono l10_0 hg
  obtain ⟨x10_1, q10_1, hm⟩ := bind_some hm
  refine a_cons (e_callH (all := [.agg c10_0r0.toArray]) trivial rfl Tryd.func33 rfl rfl rfl rfl rfl (fun w hw => ok_33 hw h10_0r0 hg q10_1) ?_)
  rintro _ H10_1 l10_1 ⟨v10_1r0, v10_1r1, rfl, h10_1r0, h10_1r1⟩
  have h10_0r0 := Rp.mono l10_1 h10_0r0
  have hg := Glob.mono l10_1 hg
  refine ap (y_move rfl) ?_
  refine ap (y_extract rfl rfl) ?_
  refine ap (y_extract rfl rfl) ?_
  refine ap (y_extract rfl rfl) ?_
  refine ap (y_assign rfl) ?_
  refine ap (y_assign rfl) ?_
  refine ap (y_assign rfl) ?_
  refine a_nil ?_
  refine a_en [(2, .int .i64 x8_2.2), (4, .int .i64 x9_1.2), (7, .int .i64 x10_1.2.2), (12, .int .i64 x8_2.1), (13, .int .i64 x9_1.1), (14, v10_1r0), (15, v10_1r1)] ?_
  refine a_then (a_seq (a_region rfl ?_))
  obtain ⟨x11_0, q11_0, hm⟩ := bind_some hm
  refine a_cons (e_callO (all := []) trivial rfl Tryd.func69 rfl rfl rfl rfl rfl (fun w hw => ok_69 hw q11_0) ?_)
  rintro _ H11_0 _ l11_0 ⟨vp11_0, vf11_0, cp11_0, cf11_0, rfl, rfl, hp11_0, hf11_0⟩
  have h10_1r0 := Sl.mono l11_0 h10_1r0
  have h10_1r1 := Sl.mono l11_0 h10_1r1
  have hg := Glob.mono l11_0 hg
  refine a_cons (e_buildSlice (xs := [.const (.int .i64 2), .const (.int .i64 2)]) (cs := [.int .i64 2, .int .i64 2]) trivial rfl Tryd.underlying26 ty3 rfl rfl rfl (by simp [Value.cells]) rfl (rfl) ?_)
  intro v11_1
  have h11_1 : RepL (α := Int) H11_0 ([.int .i64 2, .int .i64 2]) [2, 2] := (RepL.cons (α := Int) (c := [.int .i64 2]) rfl (RepL.cons (α := Int) (c := [.int .i64 2]) rfl (RepL.nil (α := Int))))
  refine a_frow (i := 1) rfl rfl hp11_0 rfl ?_
  intro H11_2q0f l11_2q0f h11_2q0f
  have h10_1r0 := Sl.mono l11_2q0f h10_1r0
  have h10_1r1 := Sl.mono l11_2q0f h10_1r1
  have hf11_0 := RepL.mono l11_2q0f hf11_0
  have h11_1 := RepL.mono l11_2q0f h11_1
  have hg := Glob.mono l11_2q0f hg
  refine a_frow (i := 2) rfl rfl hf11_0 rfl ?_
  intro H11_2q1f l11_2q1f h11_2q1f
  have h10_1r0 := Sl.mono l11_2q1f h10_1r0
  have h10_1r1 := Sl.mono l11_2q1f h10_1r1
  have h11_2q0f := Sl.mono l11_2q1f h11_2q0f
  have h11_1 := RepL.mono l11_2q1f h11_1
  have hg := Glob.mono l11_2q1f hg
  refine a_frow (i := 0) rfl rfl h11_1 rfl ?_
  intro H11_2q2f l11_2q2f h11_2q2f
  have h10_1r0 := Sl.mono l11_2q2f h10_1r0
  have h10_1r1 := Sl.mono l11_2q2f h10_1r1
  have h11_2q0f := Sl.mono l11_2q2f h11_2q0f
  have h11_2q1f := Sl.mono l11_2q2f h11_2q1f
  have hg := Glob.mono l11_2q2f hg
  have m11_2g0l : Rp.rep H11_2q2f [vp11_0, vf11_0] (⟨x11_0.Parts, x11_0.Frames⟩ : TunnelBook) := ⟨_, _, rfl, ⟨_, rfl, h11_2q0f⟩, ⟨_, rfl, h11_2q1f⟩⟩
  obtain ⟨x11_2, q11_2, hm⟩ := bind_some hm
  refine a_cons (e_callV (all := [.agg [vp11_0, vf11_0].toArray, v11_1]) (v := .tuple #[.int .i64 x11_2.1, .int .i64 x11_2.2]) trivial rfl Tryd.func19 rfl rfl rfl rfl rfl (fun w hw => ok_19 hw m11_2g0l h11_2q2f q11_2) ?_)
  refine ap (y_move rfl) ?_
  refine ap (y_extract rfl rfl) ?_
  refine ap (y_extract rfl rfl) ?_
  refine ap (y_assign rfl) ?_
  refine ap (y_assign rfl) ?_
  refine a_nil ?_
  refine a_en [(2, .int .i64 x8_2.2), (4, .int .i64 x9_1.2), (7, .int .i64 x10_1.2.2), (9, .int .i64 x11_2.2), (12, .int .i64 x8_2.1), (13, .int .i64 x9_1.1), (14, v10_1r0), (15, v10_1r1), (16, .int .i64 x11_2.1)] ?_
  refine a_own [] (by decide) (L' := []) rfl ?_
  refine a_then (a_seq (a_region rfl ?_))
  obtain ⟨x12_0, q12_0, hm⟩ := bind_some hm
  refine a_cons (e_callO (all := []) trivial rfl Tryd.func69 rfl rfl rfl rfl rfl (fun w hw => ok_69 hw q12_0) ?_)
  rintro _ H12_0 _ l12_0 ⟨vp12_0, vf12_0, cp12_0, cf12_0, rfl, rfl, hp12_0, hf12_0⟩
  have h10_1r0 := Sl.mono l12_0 h10_1r0
  have h10_1r1 := Sl.mono l12_0 h10_1r1
  have hg := Glob.mono l12_0 hg
  refine a_cons (e_buildSlice (xs := [.const (.int .i64 3), .const (.int .i64 0)]) (cs := [.int .i64 3, .int .i64 0]) trivial rfl Tryd.underlying26 ty3 rfl rfl rfl (by simp [Value.cells]) rfl (rfl) ?_)
  intro v12_1
  have h12_1 : RepL (α := Int) H12_0 ([.int .i64 3, .int .i64 0]) [3, 0] := (RepL.cons (α := Int) (c := [.int .i64 3]) rfl (RepL.cons (α := Int) (c := [.int .i64 0]) rfl (RepL.nil (α := Int))))
  refine a_frow (i := 1) rfl rfl hp12_0 rfl ?_
  intro H12_2q0f l12_2q0f h12_2q0f
  have h10_1r0 := Sl.mono l12_2q0f h10_1r0
  have h10_1r1 := Sl.mono l12_2q0f h10_1r1
  have hf12_0 := RepL.mono l12_2q0f hf12_0
  have h12_1 := RepL.mono l12_2q0f h12_1
  have hg := Glob.mono l12_2q0f hg
  refine a_frow (i := 2) rfl rfl hf12_0 rfl ?_
  intro H12_2q1f l12_2q1f h12_2q1f
  have h10_1r0 := Sl.mono l12_2q1f h10_1r0
  have h10_1r1 := Sl.mono l12_2q1f h10_1r1
  have h12_2q0f := Sl.mono l12_2q1f h12_2q0f
  have h12_1 := RepL.mono l12_2q1f h12_1
  have hg := Glob.mono l12_2q1f hg
  refine a_frow (i := 0) rfl rfl h12_1 rfl ?_
  intro H12_2q2f l12_2q2f h12_2q2f
  have h10_1r0 := Sl.mono l12_2q2f h10_1r0
  have h10_1r1 := Sl.mono l12_2q2f h10_1r1
  have h12_2q0f := Sl.mono l12_2q2f h12_2q0f
  have h12_2q1f := Sl.mono l12_2q2f h12_2q1f
  have hg := Glob.mono l12_2q2f hg
  have m12_2g0l : Rp.rep H12_2q2f [vp12_0, vf12_0] (⟨x12_0.Parts, x12_0.Frames⟩ : TunnelBook) := ⟨_, _, rfl, ⟨_, rfl, h12_2q0f⟩, ⟨_, rfl, h12_2q1f⟩⟩
  obtain ⟨x12_2, q12_2, hm⟩ := bind_some hm
  refine a_cons (e_callH (all := [.agg [vp12_0, vf12_0].toArray, v12_1]) trivial rfl Tryd.func27 rfl rfl rfl rfl rfl (fun w hw => ok_27 hw m12_2g0l h12_2q2f hg q12_2) ?_)
  rintro _ H12_2 l12_2 ⟨v12_2r0, rfl, h12_2r0⟩
  have h10_1r0 := Sl.mono l12_2 h10_1r0
  have h10_1r1 := Sl.mono l12_2 h10_1r1
  have h12_2q0f := Sl.mono l12_2 h12_2q0f
  have h12_2q1f := Sl.mono l12_2 h12_2q1f
  have h12_2q2f := Sl.mono l12_2 h12_2q2f
  have hg := Glob.mono l12_2 hg
  refine ap (y_move rfl) ?_
  refine ap (y_extract rfl rfl) ?_
  refine ap (y_extract rfl rfl) ?_
  refine ap (y_assign rfl) ?_
  refine ap (y_assign rfl) ?_
  refine a_nil ?_
  refine a_en [(2, .int .i64 x8_2.2), (4, .int .i64 x9_1.2), (7, .int .i64 x10_1.2.2), (9, .int .i64 x11_2.2), (11, .int .i64 x12_2.2), (12, .int .i64 x8_2.1), (13, .int .i64 x9_1.1), (14, v10_1r0), (15, v10_1r1), (16, .int .i64 x11_2.1), (17, v12_2r0)] ?_
  refine a_own [] (by decide) (L' := []) rfl ?_
  refine a_then (a_seq ?_)
  obtain ⟨s_j3, hs_j3, hm_j3⟩ := bind_some hm
  refine a_join (fun a_ w_ => ∃ (Hj3 : Hp), ∃ (_ : HLe H12_2 Hj3), ∃ (yj3_0 : Bool), yj3_0 = s_j3 ∧ Ag 167 [] [(0, .bool yj3_0)] a_ ∧ St (Kp.mk w H noX) Hj3 [] w_) ?_ ?_
  · have hm := hs_j3
    refine a_region rfl ?_
    refine ap (y_move rfl) ?_
    refine ap (y_eql rfl rfl) ?_
    refine ap (y_move rfl) ?_
    rcases Bool.eq_false_or_eq_true (x8_2.2 == 0) with k13_3 | k13_3
    · have hm := cond_t k13_3 hm
      refine ag ⟨_, _, rfl, rfl, k13_3⟩ (y_move rfl) ?_
      refine ag ⟨_, _, rfl, rfl, k13_3⟩ (y_eql rfl rfl) ?_
      refine ap (y_pick_t rfl k13_3 rfl) ?_
      refine ap (y_move rfl) ?_
      rcases Bool.eq_false_or_eq_true (x9_1.2 == 0) with k13_7 | k13_7
      · have hm := cond_t k13_7 hm
        refine ag ⟨_, _, rfl, rfl, k13_7⟩ (y_move rfl) ?_
        refine ag ⟨_, _, rfl, rfl, k13_7⟩ (y_eql rfl rfl) ?_
        refine ap (y_pick_t rfl k13_7 rfl) ?_
        refine ap (y_move rfl) ?_
        rcases Bool.eq_false_or_eq_true (x10_1.2.2 == 0) with k13_11 | k13_11
        · have hm := cond_t k13_11 hm
          refine ag ⟨_, _, rfl, rfl, k13_11⟩ (y_move rfl) ?_
          refine ag ⟨_, _, rfl, rfl, k13_11⟩ (y_eql rfl rfl) ?_
          refine ap (y_pick_t rfl k13_11 rfl) ?_
          refine ap (y_move rfl) ?_
          rcases Bool.eq_false_or_eq_true (x11_2.2 == 0) with k13_15 | k13_15
          · have hm := cond_t k13_15 hm
            refine ag ⟨_, _, rfl, rfl, k13_15⟩ (y_move rfl) ?_
            refine ag ⟨_, _, rfl, rfl, k13_15⟩ (y_eql rfl rfl) ?_
            refine ap (y_pick_t rfl k13_15 rfl) ?_
            refine ap (y_move rfl) ?_
            rcases Bool.eq_false_or_eq_true (x12_2.2 == 0) with k13_19 | k13_19
            · have hm := cond_t k13_19 hm
              refine ag ⟨_, _, rfl, rfl, k13_19⟩ (y_move rfl) ?_
              refine ag ⟨_, _, rfl, rfl, k13_19⟩ (y_eql rfl rfl) ?_
              refine ap (y_pick_t rfl k13_19 rfl) ?_
              refine ap (y_move rfl) ?_
              rcases Bool.eq_false_or_eq_true (x8_2.1 == 2) with k13_23 | k13_23
              · have hm := cond_t k13_23 hm
                refine ag ⟨_, _, rfl, rfl, k13_23⟩ (y_move rfl) ?_
                refine ag ⟨_, _, rfl, rfl, k13_23⟩ (y_eql rfl rfl) ?_
                refine ap (y_pick_t rfl k13_23 rfl) ?_
                refine ap (y_move rfl) ?_
                rcases Bool.eq_false_or_eq_true (x9_1.1 == 1) with k13_27 | k13_27
                · have hm := cond_t k13_27 hm
                  refine ag ⟨_, _, rfl, rfl, k13_27⟩ (y_move rfl) ?_
                  refine a_cons (e_buildSlice (xs := [.const (.int .i64 2), .const (.int .i64 0)]) (cs := [.int .i64 2, .int .i64 0]) ⟨_, _, rfl, rfl, k13_27⟩ rfl Tryd.underlying26 ty3 rfl rfl rfl (by simp [Value.cells]) rfl (rfl) ?_)
                  intro v13_28
                  have h13_28 : RepL (α := Int) H12_2 ([.int .i64 2, .int .i64 0]) [2, 0] := (RepL.cons (α := Int) (c := [.int .i64 2]) rfl (RepL.cons (α := Int) (c := [.int .i64 0]) rfl (RepL.nil (α := Int))))
                  refine a_frow (i := 0) rfl rfl h13_28 rfl ?_
                  intro H13_29g1f l13_29g1f h13_29g1f
                  have h10_1r0 := Sl.mono l13_29g1f h10_1r0
                  have h10_1r1 := Sl.mono l13_29g1f h10_1r1
                  have h12_2r0 := Sl.mono l13_29g1f h12_2r0
                  have hg := Glob.mono l13_29g1f hg
                  obtain ⟨x13_29, q13_29, hm⟩ := bind_some hm
                  refine a_cons (e_callV (all := [v10_1r0, v13_28]) (v := .bool x13_29) ⟨_, _, rfl, rfl, k13_27⟩ rfl Tryd.func29 rfl rfl rfl rfl rfl (fun w hw => ok_29 hw h10_1r0 h13_29g1f q13_29) ?_)
                  refine ap (y_pick_t rfl k13_27 rfl) ?_
                  refine ap (y_move rfl) ?_
                  rcases Bool.eq_false_or_eq_true (x13_29) with k13_32 | k13_32
                  · have hm := cond_t k13_32 hm
                    refine ag ⟨_, _, rfl, rfl, k13_32⟩ (y_move rfl) ?_
                    refine a_cons (e_buildSlice (xs := [.const (.int .i64 0), .const (.int .i64 2)]) (cs := [.int .i64 0, .int .i64 2]) ⟨_, _, rfl, rfl, k13_32⟩ rfl Tryd.underlying26 ty3 rfl rfl rfl (by simp [Value.cells]) rfl (rfl) ?_)
                    intro v13_33
                    have h13_33 : RepL (α := Int) H13_29g1f ([.int .i64 0, .int .i64 2]) [0, 2] := (RepL.cons (α := Int) (c := [.int .i64 0]) rfl (RepL.cons (α := Int) (c := [.int .i64 2]) rfl (RepL.nil (α := Int))))
                    refine a_frow (i := 0) rfl rfl h13_33 rfl ?_
                    intro H13_34g1f l13_34g1f h13_34g1f
                    have h10_1r0 := Sl.mono l13_34g1f h10_1r0
                    have h10_1r1 := Sl.mono l13_34g1f h10_1r1
                    have h12_2r0 := Sl.mono l13_34g1f h12_2r0
                    have h13_29g1f := Sl.mono l13_34g1f h13_29g1f
                    have hg := Glob.mono l13_34g1f hg
                    obtain ⟨x13_34, q13_34, hm⟩ := bind_some hm
                    refine a_cons (e_callV (all := [v10_1r1, v13_33]) (v := .bool x13_34) ⟨_, _, rfl, rfl, k13_32⟩ rfl Tryd.func29 rfl rfl rfl rfl rfl (fun w hw => ok_29 hw h10_1r1 h13_34g1f q13_34) ?_)
                    refine ap (y_pick_t rfl k13_32 rfl) ?_
                    refine ap (y_move rfl) ?_
                    rcases Bool.eq_false_or_eq_true (x13_34) with k13_37 | k13_37
                    · have hm := cond_t k13_37 hm
                      refine ag ⟨_, _, rfl, rfl, k13_37⟩ (y_move rfl) ?_
                      refine ag ⟨_, _, rfl, rfl, k13_37⟩ (y_eql rfl rfl) ?_
                      refine ap (y_pick_t rfl k13_37 rfl) ?_
                      refine ap (y_move rfl) ?_
                      rcases Bool.eq_false_or_eq_true (x11_2.1 == 11) with k13_41 | k13_41
                      · have hm := cond_t k13_41 hm
                        refine ag ⟨_, _, rfl, rfl, k13_41⟩ (y_move rfl) ?_
                        refine a_cons (e_buildSlice (xs := [.const (.int .i64 0), .const (.int .i64 1)]) (cs := [.int .i64 0, .int .i64 1]) ⟨_, _, rfl, rfl, k13_41⟩ rfl Tryd.underlying26 ty3 rfl rfl rfl (by simp [Value.cells]) rfl (rfl) ?_)
                        intro v13_42
                        have h13_42 : RepL (α := Int) H13_34g1f ([.int .i64 0, .int .i64 1]) [0, 1] := (RepL.cons (α := Int) (c := [.int .i64 0]) rfl (RepL.cons (α := Int) (c := [.int .i64 1]) rfl (RepL.nil (α := Int))))
                        refine a_frow (i := 0) rfl rfl h13_42 rfl ?_
                        intro H13_43g1f l13_43g1f h13_43g1f
                        have h10_1r0 := Sl.mono l13_43g1f h10_1r0
                        have h10_1r1 := Sl.mono l13_43g1f h10_1r1
                        have h12_2r0 := Sl.mono l13_43g1f h12_2r0
                        have h13_29g1f := Sl.mono l13_43g1f h13_29g1f
                        have h13_34g1f := Sl.mono l13_43g1f h13_34g1f
                        have hg := Glob.mono l13_43g1f hg
                        obtain ⟨x13_43, q13_43, hm⟩ := bind_some hm
                        refine a_cons (e_callV (all := [v12_2r0, v13_42]) (v := .bool x13_43) ⟨_, _, rfl, rfl, k13_41⟩ rfl Tryd.func29 rfl rfl rfl rfl rfl (fun w hw => ok_29 hw h12_2r0 h13_43g1f q13_43) ?_)
                        refine ap (y_pick_t rfl k13_41 rfl) ?_
                        refine ap (y_assign rfl) ?_
                        refine a_nil ?_
                        refine a_en [(0, .bool x13_43)] ?_
                        refine a_own [] (by decide) (L' := []) rfl ?_
                        refine a_cut ?_
                        intro a_ w_ ha_ hs_
                        exact ⟨H13_43g1f, (l13_29g1f.trans (l13_34g1f.trans l13_43g1f)), x13_43, Option.some.inj hm, ha_.weaken ⟨rfl, trivial⟩, hs_.reix [] (by decide)⟩
                      have hm := cond_f k13_41 hm
                      refine as1 (sk1 rfl rfl k13_41) ?_
                      refine as1 (sk1 rfl rfl k13_41) ?_
                      refine as1 (sk1 rfl rfl k13_41) ?_
                      refine ap (y_pick_f rfl k13_41 rfl) ?_
                      refine ap (y_assign rfl) ?_
                      refine a_nil ?_
                      refine a_en [(0, .bool false)] ?_
                      refine a_own [] (by decide) (L' := []) rfl ?_
                      refine a_cut ?_
                      intro a_ w_ ha_ hs_
                      exact ⟨H13_34g1f, (l13_29g1f.trans l13_34g1f), false, Option.some.inj hm, ha_.weaken ⟨rfl, trivial⟩, hs_.reix [] (by decide)⟩
                    have hm := cond_f k13_37 hm
                    refine as1 (sk1 rfl rfl k13_37) ?_
                    refine as1 (sk1 rfl rfl k13_37) ?_
                    refine ap (y_pick_f rfl k13_37 rfl) ?_
                    refine ap (y_move rfl) ?_
                    refine as1 (sk1 rfl rfl rfl) ?_
                    refine as1 (sk1 rfl rfl rfl) ?_
                    refine as1 (sk1 rfl rfl rfl) ?_
                    refine ap (y_pick_f rfl rfl rfl) ?_
                    refine ap (y_assign rfl) ?_
                    refine a_nil ?_
                    refine a_en [(0, .bool false)] ?_
                    refine a_own [] (by decide) (L' := []) rfl ?_
                    refine a_cut ?_
                    intro a_ w_ ha_ hs_
                    exact ⟨H13_34g1f, (l13_29g1f.trans l13_34g1f), false, Option.some.inj hm, ha_.weaken ⟨rfl, trivial⟩, hs_.reix [] (by decide)⟩
                  have hm := cond_f k13_32 hm
                  refine as1 (sk1 rfl rfl k13_32) ?_
                  refine as1 (sk1 rfl rfl k13_32) ?_
                  refine as1 (sk1 rfl rfl k13_32) ?_
                  refine ap (y_pick_f rfl k13_32 rfl) ?_
                  refine ap (y_move rfl) ?_
                  refine as1 (sk1 rfl rfl rfl) ?_
                  refine as1 (sk1 rfl rfl rfl) ?_
                  refine ap (y_pick_f rfl rfl rfl) ?_
                  refine ap (y_move rfl) ?_
                  refine as1 (sk1 rfl rfl rfl) ?_
                  refine as1 (sk1 rfl rfl rfl) ?_
                  refine as1 (sk1 rfl rfl rfl) ?_
                  refine ap (y_pick_f rfl rfl rfl) ?_
                  refine ap (y_assign rfl) ?_
                  refine a_nil ?_
                  refine a_en [(0, .bool false)] ?_
                  refine a_own [] (by decide) (L' := []) rfl ?_
                  refine a_cut ?_
                  intro a_ w_ ha_ hs_
                  exact ⟨H13_29g1f, l13_29g1f, false, Option.some.inj hm, ha_.weaken ⟨rfl, trivial⟩, hs_.reix [] (by decide)⟩
                have hm := cond_f k13_27 hm
                refine as1 (sk1 rfl rfl k13_27) ?_
                refine as1 (sk1 rfl rfl k13_27) ?_
                refine as1 (sk1 rfl rfl k13_27) ?_
                refine ap (y_pick_f rfl k13_27 rfl) ?_
                refine ap (y_move rfl) ?_
                refine as1 (sk1 rfl rfl rfl) ?_
                refine as1 (sk1 rfl rfl rfl) ?_
                refine as1 (sk1 rfl rfl rfl) ?_
                refine ap (y_pick_f rfl rfl rfl) ?_
                refine ap (y_move rfl) ?_
                refine as1 (sk1 rfl rfl rfl) ?_
                refine as1 (sk1 rfl rfl rfl) ?_
                refine ap (y_pick_f rfl rfl rfl) ?_
                refine ap (y_move rfl) ?_
                refine as1 (sk1 rfl rfl rfl) ?_
                refine as1 (sk1 rfl rfl rfl) ?_
                refine as1 (sk1 rfl rfl rfl) ?_
                refine ap (y_pick_f rfl rfl rfl) ?_
                refine ap (y_assign rfl) ?_
                refine a_nil ?_
                refine a_en [(0, .bool false)] ?_
                refine a_cut ?_
                intro a_ w_ ha_ hs_
                exact ⟨H12_2, (HLe.refl _), false, Option.some.inj hm, ha_.weaken ⟨rfl, trivial⟩, hs_.reix [] (by decide)⟩
              have hm := cond_f k13_23 hm
              refine as1 (sk1 rfl rfl k13_23) ?_
              refine as1 (sk1 rfl rfl k13_23) ?_
              refine ap (y_pick_f rfl k13_23 rfl) ?_
              refine ap (y_move rfl) ?_
              refine as1 (sk1 rfl rfl rfl) ?_
              refine as1 (sk1 rfl rfl rfl) ?_
              refine as1 (sk1 rfl rfl rfl) ?_
              refine ap (y_pick_f rfl rfl rfl) ?_
              refine ap (y_move rfl) ?_
              refine as1 (sk1 rfl rfl rfl) ?_
              refine as1 (sk1 rfl rfl rfl) ?_
              refine as1 (sk1 rfl rfl rfl) ?_
              refine ap (y_pick_f rfl rfl rfl) ?_
              refine ap (y_move rfl) ?_
              refine as1 (sk1 rfl rfl rfl) ?_
              refine as1 (sk1 rfl rfl rfl) ?_
              refine ap (y_pick_f rfl rfl rfl) ?_
              refine ap (y_move rfl) ?_
              refine as1 (sk1 rfl rfl rfl) ?_
              refine as1 (sk1 rfl rfl rfl) ?_
              refine as1 (sk1 rfl rfl rfl) ?_
              refine ap (y_pick_f rfl rfl rfl) ?_
              refine ap (y_assign rfl) ?_
              refine a_nil ?_
              refine a_en [(0, .bool false)] ?_
              refine a_cut ?_
              intro a_ w_ ha_ hs_
              exact ⟨H12_2, (HLe.refl _), false, Option.some.inj hm, ha_.weaken ⟨rfl, trivial⟩, hs_.reix [] (by decide)⟩
            have hm := cond_f k13_19 hm
            refine as1 (sk1 rfl rfl k13_19) ?_
            refine as1 (sk1 rfl rfl k13_19) ?_
            refine ap (y_pick_f rfl k13_19 rfl) ?_
            refine ap (y_move rfl) ?_
            refine as1 (sk1 rfl rfl rfl) ?_
            refine as1 (sk1 rfl rfl rfl) ?_
            refine ap (y_pick_f rfl rfl rfl) ?_
            refine ap (y_move rfl) ?_
            refine as1 (sk1 rfl rfl rfl) ?_
            refine as1 (sk1 rfl rfl rfl) ?_
            refine as1 (sk1 rfl rfl rfl) ?_
            refine ap (y_pick_f rfl rfl rfl) ?_
            refine ap (y_move rfl) ?_
            refine as1 (sk1 rfl rfl rfl) ?_
            refine as1 (sk1 rfl rfl rfl) ?_
            refine as1 (sk1 rfl rfl rfl) ?_
            refine ap (y_pick_f rfl rfl rfl) ?_
            refine ap (y_move rfl) ?_
            refine as1 (sk1 rfl rfl rfl) ?_
            refine as1 (sk1 rfl rfl rfl) ?_
            refine ap (y_pick_f rfl rfl rfl) ?_
            refine ap (y_move rfl) ?_
            refine as1 (sk1 rfl rfl rfl) ?_
            refine as1 (sk1 rfl rfl rfl) ?_
            refine as1 (sk1 rfl rfl rfl) ?_
            refine ap (y_pick_f rfl rfl rfl) ?_
            refine ap (y_assign rfl) ?_
            refine a_nil ?_
            refine a_en [(0, .bool false)] ?_
            refine a_cut ?_
            intro a_ w_ ha_ hs_
            exact ⟨H12_2, (HLe.refl _), false, Option.some.inj hm, ha_.weaken ⟨rfl, trivial⟩, hs_.reix [] (by decide)⟩
          have hm := cond_f k13_15 hm
          refine as1 (sk1 rfl rfl k13_15) ?_
          refine as1 (sk1 rfl rfl k13_15) ?_
          refine ap (y_pick_f rfl k13_15 rfl) ?_
          refine ap (y_move rfl) ?_
          refine as1 (sk1 rfl rfl rfl) ?_
          refine as1 (sk1 rfl rfl rfl) ?_
          refine ap (y_pick_f rfl rfl rfl) ?_
          refine ap (y_move rfl) ?_
          refine as1 (sk1 rfl rfl rfl) ?_
          refine as1 (sk1 rfl rfl rfl) ?_
          refine ap (y_pick_f rfl rfl rfl) ?_
          refine ap (y_move rfl) ?_
          refine as1 (sk1 rfl rfl rfl) ?_
          refine as1 (sk1 rfl rfl rfl) ?_
          refine as1 (sk1 rfl rfl rfl) ?_
          refine ap (y_pick_f rfl rfl rfl) ?_
          refine ap (y_move rfl) ?_
          refine as1 (sk1 rfl rfl rfl) ?_
          refine as1 (sk1 rfl rfl rfl) ?_
          refine as1 (sk1 rfl rfl rfl) ?_
          refine ap (y_pick_f rfl rfl rfl) ?_
          refine ap (y_move rfl) ?_
          refine as1 (sk1 rfl rfl rfl) ?_
          refine as1 (sk1 rfl rfl rfl) ?_
          refine ap (y_pick_f rfl rfl rfl) ?_
          refine ap (y_move rfl) ?_
          refine as1 (sk1 rfl rfl rfl) ?_
          refine as1 (sk1 rfl rfl rfl) ?_
          refine as1 (sk1 rfl rfl rfl) ?_
          refine ap (y_pick_f rfl rfl rfl) ?_
          refine ap (y_assign rfl) ?_
          refine a_nil ?_
          refine a_en [(0, .bool false)] ?_
          refine a_cut ?_
          intro a_ w_ ha_ hs_
          exact ⟨H12_2, (HLe.refl _), false, Option.some.inj hm, ha_.weaken ⟨rfl, trivial⟩, hs_.reix [] (by decide)⟩
        have hm := cond_f k13_11 hm
        refine as1 (sk1 rfl rfl k13_11) ?_
        refine as1 (sk1 rfl rfl k13_11) ?_
        refine ap (y_pick_f rfl k13_11 rfl) ?_
        refine ap (y_move rfl) ?_
        refine as1 (sk1 rfl rfl rfl) ?_
        refine as1 (sk1 rfl rfl rfl) ?_
        refine ap (y_pick_f rfl rfl rfl) ?_
        refine ap (y_move rfl) ?_
        refine as1 (sk1 rfl rfl rfl) ?_
        refine as1 (sk1 rfl rfl rfl) ?_
        refine ap (y_pick_f rfl rfl rfl) ?_
        refine ap (y_move rfl) ?_
        refine as1 (sk1 rfl rfl rfl) ?_
        refine as1 (sk1 rfl rfl rfl) ?_
        refine ap (y_pick_f rfl rfl rfl) ?_
        refine ap (y_move rfl) ?_
        refine as1 (sk1 rfl rfl rfl) ?_
        refine as1 (sk1 rfl rfl rfl) ?_
        refine as1 (sk1 rfl rfl rfl) ?_
        refine ap (y_pick_f rfl rfl rfl) ?_
        refine ap (y_move rfl) ?_
        refine as1 (sk1 rfl rfl rfl) ?_
        refine as1 (sk1 rfl rfl rfl) ?_
        refine as1 (sk1 rfl rfl rfl) ?_
        refine ap (y_pick_f rfl rfl rfl) ?_
        refine ap (y_move rfl) ?_
        refine as1 (sk1 rfl rfl rfl) ?_
        refine as1 (sk1 rfl rfl rfl) ?_
        refine ap (y_pick_f rfl rfl rfl) ?_
        refine ap (y_move rfl) ?_
        refine as1 (sk1 rfl rfl rfl) ?_
        refine as1 (sk1 rfl rfl rfl) ?_
        refine as1 (sk1 rfl rfl rfl) ?_
        refine ap (y_pick_f rfl rfl rfl) ?_
        refine ap (y_assign rfl) ?_
        refine a_nil ?_
        refine a_en [(0, .bool false)] ?_
        refine a_cut ?_
        intro a_ w_ ha_ hs_
        exact ⟨H12_2, (HLe.refl _), false, Option.some.inj hm, ha_.weaken ⟨rfl, trivial⟩, hs_.reix [] (by decide)⟩
      have hm := cond_f k13_7 hm
      refine as1 (sk1 rfl rfl k13_7) ?_
      refine as1 (sk1 rfl rfl k13_7) ?_
      refine ap (y_pick_f rfl k13_7 rfl) ?_
      refine ap (y_move rfl) ?_
      refine as1 (sk1 rfl rfl rfl) ?_
      refine as1 (sk1 rfl rfl rfl) ?_
      refine ap (y_pick_f rfl rfl rfl) ?_
      refine ap (y_move rfl) ?_
      refine as1 (sk1 rfl rfl rfl) ?_
      refine as1 (sk1 rfl rfl rfl) ?_
      refine ap (y_pick_f rfl rfl rfl) ?_
      refine ap (y_move rfl) ?_
      refine as1 (sk1 rfl rfl rfl) ?_
      refine as1 (sk1 rfl rfl rfl) ?_
      refine ap (y_pick_f rfl rfl rfl) ?_
      refine ap (y_move rfl) ?_
      refine as1 (sk1 rfl rfl rfl) ?_
      refine as1 (sk1 rfl rfl rfl) ?_
      refine ap (y_pick_f rfl rfl rfl) ?_
      refine ap (y_move rfl) ?_
      refine as1 (sk1 rfl rfl rfl) ?_
      refine as1 (sk1 rfl rfl rfl) ?_
      refine as1 (sk1 rfl rfl rfl) ?_
      refine ap (y_pick_f rfl rfl rfl) ?_
      refine ap (y_move rfl) ?_
      refine as1 (sk1 rfl rfl rfl) ?_
      refine as1 (sk1 rfl rfl rfl) ?_
      refine as1 (sk1 rfl rfl rfl) ?_
      refine ap (y_pick_f rfl rfl rfl) ?_
      refine ap (y_move rfl) ?_
      refine as1 (sk1 rfl rfl rfl) ?_
      refine as1 (sk1 rfl rfl rfl) ?_
      refine ap (y_pick_f rfl rfl rfl) ?_
      refine ap (y_move rfl) ?_
      refine as1 (sk1 rfl rfl rfl) ?_
      refine as1 (sk1 rfl rfl rfl) ?_
      refine as1 (sk1 rfl rfl rfl) ?_
      refine ap (y_pick_f rfl rfl rfl) ?_
      refine ap (y_assign rfl) ?_
      refine a_nil ?_
      refine a_en [(0, .bool false)] ?_
      refine a_cut ?_
      intro a_ w_ ha_ hs_
      exact ⟨H12_2, (HLe.refl _), false, Option.some.inj hm, ha_.weaken ⟨rfl, trivial⟩, hs_.reix [] (by decide)⟩
    have hm := cond_f k13_3 hm
    refine as1 (sk1 rfl rfl k13_3) ?_
    refine as1 (sk1 rfl rfl k13_3) ?_
    refine ap (y_pick_f rfl k13_3 rfl) ?_
    refine ap (y_move rfl) ?_
    refine as1 (sk1 rfl rfl rfl) ?_
    refine as1 (sk1 rfl rfl rfl) ?_
    refine ap (y_pick_f rfl rfl rfl) ?_
    refine ap (y_move rfl) ?_
    refine as1 (sk1 rfl rfl rfl) ?_
    refine as1 (sk1 rfl rfl rfl) ?_
    refine ap (y_pick_f rfl rfl rfl) ?_
    refine ap (y_move rfl) ?_
    refine as1 (sk1 rfl rfl rfl) ?_
    refine as1 (sk1 rfl rfl rfl) ?_
    refine ap (y_pick_f rfl rfl rfl) ?_
    refine ap (y_move rfl) ?_
    refine as1 (sk1 rfl rfl rfl) ?_
    refine as1 (sk1 rfl rfl rfl) ?_
    refine ap (y_pick_f rfl rfl rfl) ?_
    refine ap (y_move rfl) ?_
    refine as1 (sk1 rfl rfl rfl) ?_
    refine as1 (sk1 rfl rfl rfl) ?_
    refine ap (y_pick_f rfl rfl rfl) ?_
    refine ap (y_move rfl) ?_
    refine as1 (sk1 rfl rfl rfl) ?_
    refine as1 (sk1 rfl rfl rfl) ?_
    refine as1 (sk1 rfl rfl rfl) ?_
    refine ap (y_pick_f rfl rfl rfl) ?_
    refine ap (y_move rfl) ?_
    refine as1 (sk1 rfl rfl rfl) ?_
    refine as1 (sk1 rfl rfl rfl) ?_
    refine as1 (sk1 rfl rfl rfl) ?_
    refine ap (y_pick_f rfl rfl rfl) ?_
    refine ap (y_move rfl) ?_
    refine as1 (sk1 rfl rfl rfl) ?_
    refine as1 (sk1 rfl rfl rfl) ?_
    refine ap (y_pick_f rfl rfl rfl) ?_
    refine ap (y_move rfl) ?_
    refine as1 (sk1 rfl rfl rfl) ?_
    refine as1 (sk1 rfl rfl rfl) ?_
    refine as1 (sk1 rfl rfl rfl) ?_
    refine ap (y_pick_f rfl rfl rfl) ?_
    refine ap (y_assign rfl) ?_
    refine a_nil ?_
    refine a_en [(0, .bool false)] ?_
    refine a_cut ?_
    intro a_ w_ ha_ hs_
    exact ⟨H12_2, (HLe.refl _), false, Option.some.inj hm, ha_.weaken ⟨rfl, trivial⟩, hs_.reix [] (by decide)⟩
  have hm := hm_j3
  rintro a_ w_ ⟨Hj3, lj3, yj3_0, rfl, ha_, hs_⟩
  try dsimp only at hm
  refine a_start ha_ hs_ ?_
  have hg := Glob.mono lj3 hg
  refine a_then (a_ret ?_)
  refine a_done (v := .bool yj3_0) (.inl rfl) rfl ?_ ?_
  · intro a_ w_ ha_ hs_; exact run_results (P := Tryd.prog) (fn := Tryd.f30) (rs := [.tmp 0]) (vs := [.bool yj3_0]) rfl (.cons (rv_tmp ha_ rfl) (All2.nil))
  · intro _ _; obtain rfl := Option.some.inj hm
    rfl
end Go.Lu
