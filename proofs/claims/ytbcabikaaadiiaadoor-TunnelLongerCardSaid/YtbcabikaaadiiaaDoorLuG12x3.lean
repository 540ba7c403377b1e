/- Of each function that the law TunnelLonger reaches, part 3: what it computes (a plain function: none where the code would panic, or fuel is used up), and the walk that shows it. -/
import Derived.Test.YtbcabikaaadiiaaDoorLuG12x2
namespace Go.Lu
open Go Go.Proofs
set_option linter.unusedVariables false
set_option maxRecDepth 100000
set_option maxHeartbeats 8000000
def tunnel_Longer_lj3 (k : Nat) (p0 : TunnelBook) (p2 : Int) (p3 : Int) (x1_10 : TunnelBook × (List Int) × Int) : Nat → Int → Option (Sum (Int × Int) Unit)
 | 0, _ => none
 | n_j3 + 1, yj3_13 =>
 bif decide (yj3_13 > 0) then
 (app [] p0.Frames).bind fun x10_2 =>
 (nth p0.Frames p2).bind fun x11_6 =>
 (app [] x11_6.Stay).bind fun x11_9 =>
 (nth x10_2 p2).bind fun x11_10 =>
 (nth x10_2 p2).bind fun x12_3 =>
 (nth x11_9 p3).bind fun x12_7 =>
 (nth x11_9 p3).bind fun x12_11 =>
 (tunnel_book_isDry k ((⟨p0.Parts, (x10_2).set (p2).toNat ((⟨(x11_9).set (p3).toNat (IntKind.i64.wrap (x12_7 + yj3_13)), x11_10.Need⟩ : TunnelFrame))⟩ : TunnelBook)) (⟨p2, x1_10.2.1⟩ : TunnelDrying)).bind fun x13_5 =>
 bif x13_5 then
 some (Sum.inl (yj3_13, 0))
 else
 tunnel_Longer_lj3 k p0 p2 p3 x1_10 n_j3 (IntKind.i64.wrap (yj3_13 - 1))
 else
 some (Sum.inr ())
def tunnel_Longer (k : Nat) (p0 : TunnelBook) (p1 : List Int) (p2 : Int) (p3 : Int) : Option (Int × Int) :=
 (tunnel_isFrame k p0 p2).bind fun x1_4 =>
 bif x1_4 then
 (tunnel_isPart k p0 p3).bind fun x1_8 =>
 (tunnel_asked k p0 p1 x1_8).bind fun x1_10 =>
 bif x1_10.2.2 != 0 then
 some ((0, x1_10.2.2))
 else
 (tunnel_book_isDry k x1_10.1 (⟨p2, x1_10.2.1⟩ : TunnelDrying)).bind fun x4_4 =>
 bif !x4_4 then
 some ((0, 4))
 else
 (nth p0.Frames p2).bind fun x6_3 =>
 (nth x6_3.Stay p3).bind fun x6_7 =>
 (tunnel_Longer_lj3 k p0 p2 p3 x1_10 k (IntKind.i64.wrap (20 - x6_7))).bind fun o => (match o with
 | .inl r => some r
 | .inr _ =>
 some ((0, 0)))
 else
 (tunnel_asked k p0 p1 false).bind fun x1_10 =>
 bif x1_10.2.2 != 0 then
 some ((0, x1_10.2.2))
 else
 none
theorem ok_39 {k : Nat} {H : Hp} {w : World} {p0 : TunnelBook} {p1 : List Int} {p2 : Int} {p3 : Int} {c0 : List Value} {v1 : Value} {r : Int × Int} (hsub : Sub H w) (h0 : Rp.rep (α := TunnelBook) H c0 p0) (h1 : Sl (α := Int) H v1 p1) (hg : Glob H) (hm : tunnel_Longer k p0 p1 p2 p3 = some r) : Calls Tryd.prog 39 [.agg c0.toArray, v1, .int .i64 p2, .int .i64 p3].toArray w (PostV w H (.tuple #[.int .i64 r.1, .int .i64 r.2])) := by
  unfold tunnel_Longer at hm
  refine start (n := 89) (E := [(0, .agg c0.toArray), (1, v1), (2, .int .i64 p2), (3, .int .i64 p3)]) Tryd.func39 rfl rfl ⟨rfl, rfl, rfl, rfl, trivial⟩ rfl hsub ?_
  refine a_seq ?_
  refine a_region rfl ?_
  refine a_cons (e_box (cs := c0) trivial rfl rfl rfl ?_)
  intro b0_0
  refine ap (y_assign rfl) ?_
  refine ap (y_assign rfl) ?_
  refine a_nil ?_
  refine a_freeze (α := TunnelBook) (x := p0) (i := 0) rfl h0 ?_
  intro Hb0_0 lb0_0 hb0_0
  have h0 := Rp.mono lb0_0 h0
  have h1 := Sl.mono lb0_0 h1
  have hg := Glob.mono lb0_0 hg
  refine a_en [(1, v1), (2, .int .i64 p2), (3, .int .i64 p3), (4, .pointer (some ⟨b0_0, 0, none⟩))] ?_
  refine a_own [] (by decide) (L' := []) rfl ?_
  refine a_then ?_
  refine a_seq ?_
  obtain ⟨x1_4, q1_4, hm⟩ := bind_some hm
  rcases Bool.eq_false_or_eq_true (x1_4) with k1_6 | k1_6
  · have hm := cond_t k1_6 hm
    obtain ⟨x1_8, q1_8, hm⟩ := bind_some hm
    obtain ⟨x1_10, q1_10, hm⟩ := bind_some hm
    rcases Bool.eq_false_or_eq_true (x1_10.2.2 != 0) with k1_10 | k1_10
    · have hm := cond_t k1_10 hm
      refine d_region (S := Sw Hb0_0 []) (n := 20) (listed := (bits 20 0)) mixed (by kernel_rfl) rfl (by kernel_rfl) ?_
      refine d_abs fun U1 hU1 => ?_
      have N1_0 : ∀ (Hn1_10 : Hp) (ln1_10 : HLe Hb0_0 Hn1_10) (b1_15 : Nat) (b1_16 : Nat) (cb1_10 : List Value) (cs1_10 : List Value) (hb1_10 : Rp.rep (α := Bk none) Hn1_10 cb1_10 x1_10.1) (hc1_10 : Rp.rep (α := Arr 4 Int) Hn1_10 cs1_10 x1_10.2.1), At 89 [] (Kp.mk w H noX) [(2, .int .i64 p2), (3, .int .i64 p3), (4, .pointer (some ⟨b0_0, 0, none⟩)), (10, .pointer (some ⟨b1_15, 0, none⟩)), (11, .pointer (some ⟨b1_16, 0, none⟩)), (29, .int .i64 x1_10.2.2)] Hn1_10 [.box b1_15 cb1_10 110, .box b1_16 cs1_10 111] (U1 (Sw Hn1_10 []) 1 (bits 20 524287)) := by
        intro Hn1_10 ln1_10 b1_15 b1_16 cb1_10 cs1_10 hb1_10 hc1_10
        refine d_fwd hU1 ?_
        have hb0_0 := PAt.mono ln1_10 hb0_0
        have hg := Glob.mono ln1_10 hg
        refine dt 19 1048575 rfl trivial (y_assign rfl) (sw0 []) ?_
        refine d_done (by kernel_rfl) ?_
        refine a_freeze (α := Bk _) (x := x1_10.1) (i := 0) rfl hb1_10 ?_
        intro Hb1_15 lb1_15 hb1_15
        have hb0_0 := PAt.mono lb1_15 hb0_0
        have hc1_10 := Rp.mono lb1_15 hc1_10
        have hg := Glob.mono lb1_15 hg
        refine a_freeze (α := Arr 4 Int) (x := x1_10.2.1) (i := 1) rfl hc1_10 ?_
        intro Hb1_16 lb1_16 hb1_16
        have hb0_0 := PAt.mono lb1_16 hb0_0
        have hb1_15 := PAt.mono lb1_16 hb1_15
        have hg := Glob.mono lb1_16 hg
        refine a_en [(2, .int .i64 p2), (3, .int .i64 p3), (4, .pointer (some ⟨b0_0, 0, none⟩)), (10, .pointer (some ⟨b1_15, 0, none⟩)), (11, .pointer (some ⟨b1_16, 0, none⟩)), (12, .int .i64 x1_10.2.2)] ?_
        refine a_own [] (by decide) (L' := []) rfl ?_
        refine a_then ?_
        refine a_seq ?_
        refine a_seq ?_
        refine a_region rfl ?_
        refine ap (y_move rfl) ?_
        refine ap (y_neq rfl rfl) ?_
        refine a_nil ?_
        refine a_en [(2, .int .i64 p2), (3, .int .i64 p3), (4, .pointer (some ⟨b0_0, 0, none⟩)), (10, .pointer (some ⟨b1_15, 0, none⟩)), (11, .pointer (some ⟨b1_16, 0, none⟩)), (12, .int .i64 x1_10.2.2), (31, .bool (x1_10.2.2 != 0))] ?_
        refine a_then ?_
        refine a_cond rfl (fun _ => ?_) (fun h_ => absurd (h_.symm.trans k1_10) (by decide))
        refine a_seq ?_
        refine a_region rfl ?_
        refine ap (y_move rfl) ?_
        refine ap (y_assign rfl) ?_
        refine ap (y_assign rfl) ?_
        refine a_nil ?_
        refine a_en [(8, .int .i64 0), (9, .int .i64 x1_10.2.2)] ?_
        refine a_then ?_
        refine a_ret ?_
        refine a_then_ret ?_
        refine a_done (v := .tuple #[.int .i64 0, .int .i64 x1_10.2.2]) (.inl rfl) rfl ?_ ?_
        · intro a_ w_ ha_ hs_; exact run_results (P := Tryd.prog) (fn := Tryd.f39) (rs := [.tmp 8, .tmp 9]) (vs := [.int .i64 0, .int .i64 x1_10.2.2]) rfl (.cons (rv_tmp ha_ rfl) (.cons (rv_tmp ha_ rfl) (All2.nil)))
        · intro _ _; obtain rfl := Option.some.inj hm
          rfl
      have N1_1 : ∀ (Hn1_9 : Hp) (ln1_9 : HLe Hb0_0 Hn1_9) (b1_15 : Nat) (b1_16 : Nat) (cs1_10 : List Value) (cb1_10 : List Value) (hc1_10 : Rp.rep (α := Arr 4 Int) Hn1_9 cs1_10 x1_10.2.1) (hb1_10 : Rp.rep (α := Bk none) Hn1_9 cb1_10 x1_10.1) (mz1_16 : Rp.rep (α := Arr 4 Int) Hn1_9 [.int .i64 0, .int .i64 0, .int .i64 0, .int .i64 0] [0, 0, 0, 0]), At 89 [] (Kp.mk w H noX) [(2, .int .i64 p2), (3, .int .i64 p3), (4, .pointer (some ⟨b0_0, 0, none⟩)), (10, .pointer (some ⟨b1_15, 0, none⟩)), (11, .pointer (some ⟨b1_16, 0, none⟩)), (28, .agg cs1_10.toArray), (29, .int .i64 x1_10.2.2)] Hn1_9 ([.box b1_15 cb1_10 110, .box b1_16 [.int .i64 0, .int .i64 0, .int .i64 0, .int .i64 0] 111]) (U1 (Sw Hn1_9 []) 2 (bits 20 262143)) := by
        intro Hn1_9 ln1_9 b1_15 b1_16 cs1_10 cb1_10 hc1_10 hb1_10 mz1_16
        refine d_fwd hU1 ?_
        have hb0_0 := PAt.mono ln1_9 hb0_0
        have hg := Glob.mono ln1_9 hg
        refine d1 18 rfl (e_storeWhole (i := 1) (ds := cs1_10) trivial ty111 rfl rfl rfl rfl (Rp.len hc1_10) ((Rp.one hc1_10)) rfl ?_)
        refine dn 524287 (sw0 []) ?_
        exact d_edge hU1 (N1_0 Hn1_9 ln1_9 b1_15 b1_16 cb1_10 cs1_10 hb1_10 hc1_10) ⟨rfl, rfl, rfl, rfl, rfl, rfl, trivial⟩ [0, 1] (by decide) rfl (fun _ h => h)
      have N1_2 : ∀ (Hn1_15 : Hp) (ln1_15 : HLe Hb0_0 Hn1_15) (b1_15 : Nat) (b1_16 : Nat) (cb1_10 : List Value) (cs1_10 : List Value) (hb1_10 : Rp.rep (α := Bk none) Hn1_15 cb1_10 x1_10.1) (hc1_10 : Rp.rep (α := Arr 4 Int) Hn1_15 cs1_10 x1_10.2.1) (mz1_16 : Rp.rep (α := Arr 4 Int) Hn1_15 [.int .i64 0, .int .i64 0, .int .i64 0, .int .i64 0] [0, 0, 0, 0]), At 89 [] (Kp.mk w H noX) [(2, .int .i64 p2), (3, .int .i64 p3), (4, .pointer (some ⟨b0_0, 0, none⟩)), (10, .pointer (some ⟨b1_15, 0, none⟩)), (11, .pointer (some ⟨b1_16, 0, none⟩)), (27, .agg cb1_10.toArray), (28, .agg cs1_10.toArray), (29, .int .i64 x1_10.2.2)] Hn1_15 ([.box b1_15 [.slice none 0 0, .slice none 0 0, .map none] 110, .box b1_16 [.int .i64 0, .int .i64 0, .int .i64 0, .int .i64 0] 111]) (U1 (Sw Hn1_15 []) 3 (bits 20 131071)) := by
        intro Hn1_15 ln1_15 b1_15 b1_16 cb1_10 cs1_10 hb1_10 hc1_10 mz1_16
        refine d_fwd hU1 ?_
        have hb0_0 := PAt.mono ln1_15 hb0_0
        have hg := Glob.mono ln1_15 hg
        refine d1 17 rfl (e_storeWhole (i := 0) (ds := cb1_10) trivial ty110 rfl rfl rfl rfl (Rp.len hb1_10) ((Rp.one hb1_10)) rfl ?_)
        refine dn 262143 (sw0 []) ?_
        exact d_edge hU1 (N1_1 Hn1_15 ln1_15 b1_15 b1_16 cs1_10 cb1_10 hc1_10 hb1_10 mz1_16) ⟨rfl, rfl, rfl, rfl, rfl, rfl, rfl, trivial⟩ [0, 1] (by decide) rfl (fun _ h => h)
      have N1_3 : ∀ (Hn1_25 : Hp) (ln1_25 : HLe Hb0_0 Hn1_25) (b1_15 : Nat) (cb1_10 : List Value) (cs1_10 : List Value) (hb1_10 : Rp.rep (α := Bk none) Hn1_25 cb1_10 x1_10.1) (hc1_10 : Rp.rep (α := Arr 4 Int) Hn1_25 cs1_10 x1_10.2.1), At 89 [] (Kp.mk w H noX) [(2, .int .i64 p2), (3, .int .i64 p3), (4, .pointer (some ⟨b0_0, 0, none⟩)), (10, .pointer (some ⟨b1_15, 0, none⟩)), (27, .agg cb1_10.toArray), (28, .agg cs1_10.toArray), (29, .int .i64 x1_10.2.2)] Hn1_25 ([.box b1_15 [.slice none 0 0, .slice none 0 0, .map none] 110]) (U1 (Sw Hn1_25 []) 4 (bits 20 65535)) := by
        intro Hn1_25 ln1_25 b1_15 cb1_10 cs1_10 hb1_10 hc1_10
        refine d_fwd hU1 ?_
        have hb0_0 := PAt.mono ln1_25 hb0_0
        have hg := Glob.mono ln1_25 hg
        refine d1 16 rfl (e_alloc (cs := [.int .i64 0, .int .i64 0, .int .i64 0, .int .i64 0]) trivial rfl ty111 rfl ?_)
        intro b1_16
        have mz1_16 : Rp.rep (α := Arr 4 Int) Hn1_25 [.int .i64 0, .int .i64 0, .int .i64 0, .int .i64 0] [0, 0, 0, 0] := ⟨(RepL.cons (c := [_]) rfl (RepL.cons (c := [_]) rfl (RepL.cons (c := [_]) rfl (RepL.cons (c := [_]) rfl RepL.nil)))), rfl⟩
        refine dn 131071 (sw0 []) ?_
        exact d_edge hU1 (N1_2 Hn1_25 ln1_25 b1_15 b1_16 cb1_10 cs1_10 hb1_10 hc1_10 mz1_16) ⟨rfl, rfl, rfl, rfl, rfl, rfl, rfl, rfl, trivial⟩ [1, 0] (by decide) rfl (fun _ h => h)
      have N1_4 : ∀ (Hn1_26 : Hp) (ln1_26 : HLe Hb0_0 Hn1_26) (b1_16 : Nat) (cb1_10 : List Value) (cs1_10 : List Value) (hb1_10 : Rp.rep (α := Bk none) Hn1_26 cb1_10 x1_10.1) (hc1_10 : Rp.rep (α := Arr 4 Int) Hn1_26 cs1_10 x1_10.2.1) (mz1_16 : Rp.rep (α := Arr 4 Int) Hn1_26 [.int .i64 0, .int .i64 0, .int .i64 0, .int .i64 0] [0, 0, 0, 0]), At 89 [] (Kp.mk w H noX) [(2, .int .i64 p2), (3, .int .i64 p3), (4, .pointer (some ⟨b0_0, 0, none⟩)), (11, .pointer (some ⟨b1_16, 0, none⟩)), (27, .agg cb1_10.toArray), (28, .agg cs1_10.toArray), (29, .int .i64 x1_10.2.2)] Hn1_26 ([.box b1_16 [.int .i64 0, .int .i64 0, .int .i64 0, .int .i64 0] 111]) (U1 (Sw Hn1_26 []) 4 (bits 20 98303)) := by
        intro Hn1_26 ln1_26 b1_16 cb1_10 cs1_10 hb1_10 hc1_10 mz1_16
        refine d_fwd hU1 ?_
        have hb0_0 := PAt.mono ln1_26 hb0_0
        have hg := Glob.mono ln1_26 hg
        refine d1 15 rfl (e_alloc (cs := [.slice none 0 0, .slice none 0 0, .map none]) trivial rfl ty110 rfl ?_)
        intro b1_15
        refine dn 131071 (sw0 []) ?_
        exact d_edge hU1 (N1_2 Hn1_26 ln1_26 b1_15 b1_16 cb1_10 cs1_10 hb1_10 hc1_10 mz1_16) ⟨rfl, rfl, rfl, rfl, rfl, rfl, rfl, rfl, trivial⟩ [0, 1] (by decide) rfl (fun _ h => h)
      have N1_5 : ∀ (Hn1_8 : Hp) (ln1_8 : HLe Hb0_0 Hn1_8) (b1_15 : Nat) (b1_16 : Nat) (cb1_10 : List Value) (cs1_10 : List Value) (hb1_10 : Rp.rep (α := Bk none) Hn1_8 cb1_10 x1_10.1) (hc1_10 : Rp.rep (α := Arr 4 Int) Hn1_8 cs1_10 x1_10.2.1) (mz1_16 : Rp.rep (α := Arr 4 Int) Hn1_8 [.int .i64 0, .int .i64 0, .int .i64 0, .int .i64 0] [0, 0, 0, 0]), At 89 [] (Kp.mk w H noX) [(2, .int .i64 p2), (3, .int .i64 p3), (4, .pointer (some ⟨b0_0, 0, none⟩)), (10, .pointer (some ⟨b1_15, 0, none⟩)), (11, .pointer (some ⟨b1_16, 0, none⟩)), (26, .tuple #[.agg cb1_10.toArray, .agg cs1_10.toArray, .int .i64 x1_10.2.2])] Hn1_8 ([.box b1_15 [.slice none 0 0, .slice none 0 0, .map none] 110, .box b1_16 [.int .i64 0, .int .i64 0, .int .i64 0, .int .i64 0] 111]) (U1 (Sw Hn1_8 []) 7 (bits 20 100351)) := by
        intro Hn1_8 ln1_8 b1_15 b1_16 cb1_10 cs1_10 hb1_10 hc1_10 mz1_16
        refine d_fwd hU1 ?_
        have hb0_0 := PAt.mono ln1_8 hb0_0
        have hg := Glob.mono ln1_8 hg
        refine dt 11 102399 rfl trivial (y_move rfl) (sw0 []) ?_
        refine dt 12 106495 rfl trivial (y_extract rfl rfl) (sw0 []) ?_
        refine dt 13 114687 rfl trivial (y_extract rfl rfl) (sw0 []) ?_
        refine dt 14 131071 rfl trivial (y_extract rfl rfl) (sw0 []) ?_
        refine d1 17 rfl (e_storeWhole (i := 0) (ds := cb1_10) trivial ty110 rfl rfl rfl rfl (Rp.len hb1_10) ((Rp.one hb1_10)) rfl ?_)
        refine dn 262143 (sw0 []) ?_
        exact d_edge hU1 (N1_1 Hn1_8 ln1_8 b1_15 b1_16 cs1_10 cb1_10 hc1_10 hb1_10 mz1_16) ⟨rfl, rfl, rfl, rfl, rfl, rfl, rfl, trivial⟩ [0, 1] (by decide) rfl (fun _ h => h)
      have N1_6 : ∀ (Hn1_18 : Hp) (ln1_18 : HLe Hb0_0 Hn1_18) (b1_15 : Nat) (cb1_10 : List Value) (cs1_10 : List Value) (hb1_10 : Rp.rep (α := Bk none) Hn1_18 cb1_10 x1_10.1) (hc1_10 : Rp.rep (α := Arr 4 Int) Hn1_18 cs1_10 x1_10.2.1), At 89 [] (Kp.mk w H noX) [(2, .int .i64 p2), (3, .int .i64 p3), (4, .pointer (some ⟨b0_0, 0, none⟩)), (10, .pointer (some ⟨b1_15, 0, none⟩)), (26, .tuple #[.agg cb1_10.toArray, .agg cs1_10.toArray, .int .i64 x1_10.2.2])] Hn1_18 ([.box b1_15 [.slice none 0 0, .slice none 0 0, .map none] 110]) (U1 (Sw Hn1_18 []) 8 (bits 20 34815)) := by
        intro Hn1_18 ln1_18 b1_15 cb1_10 cs1_10 hb1_10 hc1_10
        refine d_fwd hU1 ?_
        have hb0_0 := PAt.mono ln1_18 hb0_0
        have hg := Glob.mono ln1_18 hg
        refine dt 11 36863 rfl trivial (y_move rfl) (sw0 []) ?_
        refine dt 12 40959 rfl trivial (y_extract rfl rfl) (sw0 []) ?_
        refine dt 13 49151 rfl trivial (y_extract rfl rfl) (sw0 []) ?_
        refine dt 14 65535 rfl trivial (y_extract rfl rfl) (sw0 []) ?_
        refine d1 16 rfl (e_alloc (cs := [.int .i64 0, .int .i64 0, .int .i64 0, .int .i64 0]) trivial rfl ty111 rfl ?_)
        intro b1_16
        have mz1_16 : Rp.rep (α := Arr 4 Int) Hn1_18 [.int .i64 0, .int .i64 0, .int .i64 0, .int .i64 0] [0, 0, 0, 0] := ⟨(RepL.cons (c := [_]) rfl (RepL.cons (c := [_]) rfl (RepL.cons (c := [_]) rfl (RepL.cons (c := [_]) rfl RepL.nil)))), rfl⟩
        refine dn 131071 (sw0 []) ?_
        exact d_edge hU1 (N1_2 Hn1_18 ln1_18 b1_15 b1_16 cb1_10 cs1_10 hb1_10 hc1_10 mz1_16) ⟨rfl, rfl, rfl, rfl, rfl, rfl, rfl, rfl, trivial⟩ [1, 0] (by decide) rfl (fun _ h => h)
      have N1_7 : ∀ (Hn1_13 : Hp) (ln1_13 : HLe Hb0_0 Hn1_13) (b1_16 : Nat) (cb1_10 : List Value) (cs1_10 : List Value) (hb1_10 : Rp.rep (α := Bk none) Hn1_13 cb1_10 x1_10.1) (hc1_10 : Rp.rep (α := Arr 4 Int) Hn1_13 cs1_10 x1_10.2.1) (mz1_16 : Rp.rep (α := Arr 4 Int) Hn1_13 [.int .i64 0, .int .i64 0, .int .i64 0, .int .i64 0] [0, 0, 0, 0]), At 89 [] (Kp.mk w H noX) [(2, .int .i64 p2), (3, .int .i64 p3), (4, .pointer (some ⟨b0_0, 0, none⟩)), (11, .pointer (some ⟨b1_16, 0, none⟩)), (26, .tuple #[.agg cb1_10.toArray, .agg cs1_10.toArray, .int .i64 x1_10.2.2])] Hn1_13 ([.box b1_16 [.int .i64 0, .int .i64 0, .int .i64 0, .int .i64 0] 111]) (U1 (Sw Hn1_13 []) 8 (bits 20 67583)) := by
        intro Hn1_13 ln1_13 b1_16 cb1_10 cs1_10 hb1_10 hc1_10 mz1_16
        refine d_fwd hU1 ?_
        have hb0_0 := PAt.mono ln1_13 hb0_0
        have hg := Glob.mono ln1_13 hg
        refine dt 11 69631 rfl trivial (y_move rfl) (sw0 []) ?_
        refine dt 12 73727 rfl trivial (y_extract rfl rfl) (sw0 []) ?_
        refine dt 13 81919 rfl trivial (y_extract rfl rfl) (sw0 []) ?_
        refine dt 14 98303 rfl trivial (y_extract rfl rfl) (sw0 []) ?_
        refine d1 15 rfl (e_alloc (cs := [.slice none 0 0, .slice none 0 0, .map none]) trivial rfl ty110 rfl ?_)
        intro b1_15
        refine dn 131071 (sw0 []) ?_
        exact d_edge hU1 (N1_2 Hn1_13 ln1_13 b1_15 b1_16 cb1_10 cs1_10 hb1_10 hc1_10 mz1_16) ⟨rfl, rfl, rfl, rfl, rfl, rfl, rfl, rfl, trivial⟩ [0, 1] (by decide) rfl (fun _ h => h)
      have N1_8 : ∀ (Hn1_14 : Hp) (ln1_14 : HLe Hb0_0 Hn1_14) (b1_15 : Nat) (b1_16 : Nat) (u1_0 : List Value) (h1_0 : Rp.rep (α := TunnelBook) Hn1_14 u1_0 p0) (mz1_16 : Rp.rep (α := Arr 4 Int) Hn1_14 [.int .i64 0, .int .i64 0, .int .i64 0, .int .i64 0] [0, 0, 0, 0]), At 89 [] (Kp.mk w H noX) [(2, .int .i64 p2), (3, .int .i64 p3), (4, .pointer (some ⟨b0_0, 0, none⟩)), (10, .pointer (some ⟨b1_15, 0, none⟩)), (11, .pointer (some ⟨b1_16, 0, none⟩)), (16, .agg u1_0.toArray), (17, v1), (25, .bool x1_8)] Hn1_14 ([.box b1_15 [.slice none 0 0, .slice none 0 0, .map none] 110, .box b1_16 [.int .i64 0, .int .i64 0, .int .i64 0, .int .i64 0] 111]) (U1 (Sw Hn1_14 []) 8 (bits 20 99327)) := by
        intro Hn1_14 ln1_14 b1_15 b1_16 u1_0 h1_0 mz1_16
        refine d_fwd hU1 ?_
        have hb0_0 := PAt.mono ln1_14 hb0_0
        have h1 := Sl.mono ln1_14 h1
        have hg := Glob.mono ln1_14 hg
        refine d1 10 rfl (e_callO (all := [.agg u1_0.toArray, v1, .bool x1_8]) trivial rfl Tryd.func80 rfl rfl rfl rfl rfl (fun w hw => ok_80 hw h1_0 h1 q1_10) ?_)
        rintro _ H1_10 _ l1_10 ⟨cb1_10, cs1_10, mm1_10, rfl, hb1_10, hc1_10, hd1_10⟩
        rcases hd1_10 with ⟨rfl, he1_10, rfl⟩ | ⟨M1_10, rfl, he1_10, rfl⟩
        rotate_left
        · exact absurd k1_10 (by simp [he1_10])
        have hb0_0 := PAt.mono l1_10 hb0_0
        have h1_0 := Rp.mono l1_10 h1_0
        have h1 := Sl.mono l1_10 h1
        have mz1_16 := Rp.mono l1_10 mz1_16
        have hg := Glob.mono l1_10 hg
        refine dn 100351 (swl l1_10 []) ?_
        exact d_edge hU1 (N1_5 H1_10 (ln1_14.trans l1_10) b1_15 b1_16 cb1_10 cs1_10 hb1_10 hc1_10 mz1_16) ⟨rfl, rfl, rfl, rfl, rfl, rfl, trivial⟩ [0, 1] (by decide) rfl (sw_sw l1_10 [] rfl)
      have N1_9 : ∀ (Hn1_22 : Hp) (ln1_22 : HLe Hb0_0 Hn1_22) (cb1_10 : List Value) (cs1_10 : List Value) (hb1_10 : Rp.rep (α := Bk none) Hn1_22 cb1_10 x1_10.1) (hc1_10 : Rp.rep (α := Arr 4 Int) Hn1_22 cs1_10 x1_10.2.1), At 89 [] (Kp.mk w H noX) [(2, .int .i64 p2), (3, .int .i64 p3), (4, .pointer (some ⟨b0_0, 0, none⟩)), (26, .tuple #[.agg cb1_10.toArray, .agg cs1_10.toArray, .int .i64 x1_10.2.2])] Hn1_22 [] (U1 (Sw Hn1_22 []) 9 (bits 20 2047)) := by
        intro Hn1_22 ln1_22 cb1_10 cs1_10 hb1_10 hc1_10
        refine d_fwd hU1 ?_
        have hb0_0 := PAt.mono ln1_22 hb0_0
        have hg := Glob.mono ln1_22 hg
        refine dt 11 4095 rfl trivial (y_move rfl) (sw0 []) ?_
        refine dt 12 8191 rfl trivial (y_extract rfl rfl) (sw0 []) ?_
        refine dt 13 16383 rfl trivial (y_extract rfl rfl) (sw0 []) ?_
        refine dt 14 32767 rfl trivial (y_extract rfl rfl) (sw0 []) ?_
        refine d_all (rs := [15, 16]) (by kernel_rfl) rfl ⟨⟨_, rfl, ?_⟩, ⟨_, rfl, ?_⟩, trivial⟩
        · refine e_alloc (cs := [.slice none 0 0, .slice none 0 0, .map none]) trivial rfl ty110 rfl ?_
          intro b1_15
          refine dn 65535 (sw0 []) ?_
          exact d_edge hU1 (N1_3 Hn1_22 ln1_22 b1_15 cb1_10 cs1_10 hb1_10 hc1_10) ⟨rfl, rfl, rfl, rfl, rfl, rfl, rfl, trivial⟩ [0] (by decide) rfl (fun _ h => h)
        · refine e_alloc (cs := [.int .i64 0, .int .i64 0, .int .i64 0, .int .i64 0]) trivial rfl ty111 rfl ?_
          intro b1_16
          have mz1_16 : Rp.rep (α := Arr 4 Int) Hn1_22 [.int .i64 0, .int .i64 0, .int .i64 0, .int .i64 0] [0, 0, 0, 0] := ⟨(RepL.cons (c := [_]) rfl (RepL.cons (c := [_]) rfl (RepL.cons (c := [_]) rfl (RepL.cons (c := [_]) rfl RepL.nil)))), rfl⟩
          refine dn 98303 (sw0 []) ?_
          exact d_edge hU1 (N1_4 Hn1_22 ln1_22 b1_16 cb1_10 cs1_10 hb1_10 hc1_10 mz1_16) ⟨rfl, rfl, rfl, rfl, rfl, rfl, rfl, trivial⟩ [0] (by decide) rfl (fun _ h => h)
      have N1_10 : ∀ (Hn1_23 : Hp) (ln1_23 : HLe Hb0_0 Hn1_23) (b1_15 : Nat) (u1_0 : List Value) (h1_0 : Rp.rep (α := TunnelBook) Hn1_23 u1_0 p0), At 89 [] (Kp.mk w H noX) [(2, .int .i64 p2), (3, .int .i64 p3), (4, .pointer (some ⟨b0_0, 0, none⟩)), (10, .pointer (some ⟨b1_15, 0, none⟩)), (16, .agg u1_0.toArray), (17, v1), (25, .bool x1_8)] Hn1_23 ([.box b1_15 [.slice none 0 0, .slice none 0 0, .map none] 110]) (U1 (Sw Hn1_23 []) 9 (bits 20 33791)) := by
        intro Hn1_23 ln1_23 b1_15 u1_0 h1_0
        refine d_fwd hU1 ?_
        have hb0_0 := PAt.mono ln1_23 hb0_0
        have h1 := Sl.mono ln1_23 h1
        have hg := Glob.mono ln1_23 hg
        refine d_all (rs := [10, 16]) (by kernel_rfl) rfl ⟨⟨_, rfl, ?_⟩, ⟨_, rfl, ?_⟩, trivial⟩
        · refine e_callO (all := [.agg u1_0.toArray, v1, .bool x1_8]) trivial rfl Tryd.func80 rfl rfl rfl rfl rfl (fun w hw => ok_80 hw h1_0 h1 q1_10) ?_
          rintro _ H1_10 _ l1_10 ⟨cb1_10, cs1_10, mm1_10, rfl, hb1_10, hc1_10, hd1_10⟩
          rcases hd1_10 with ⟨rfl, he1_10, rfl⟩ | ⟨M1_10, rfl, he1_10, rfl⟩
          rotate_left
          · exact absurd k1_10 (by simp [he1_10])
          have hb0_0 := PAt.mono l1_10 hb0_0
          have h1_0 := Rp.mono l1_10 h1_0
          have h1 := Sl.mono l1_10 h1
          have hg := Glob.mono l1_10 hg
          refine dn 34815 (swl l1_10 []) ?_
          exact d_edge hU1 (N1_6 H1_10 (ln1_23.trans l1_10) b1_15 cb1_10 cs1_10 hb1_10 hc1_10) ⟨rfl, rfl, rfl, rfl, rfl, trivial⟩ [0] (by decide) rfl (sw_sw l1_10 [] rfl)
        · refine e_alloc (cs := [.int .i64 0, .int .i64 0, .int .i64 0, .int .i64 0]) trivial rfl ty111 rfl ?_
          intro b1_16
          have mz1_16 : Rp.rep (α := Arr 4 Int) Hn1_23 [.int .i64 0, .int .i64 0, .int .i64 0, .int .i64 0] [0, 0, 0, 0] := ⟨(RepL.cons (c := [_]) rfl (RepL.cons (c := [_]) rfl (RepL.cons (c := [_]) rfl (RepL.cons (c := [_]) rfl RepL.nil)))), rfl⟩
          refine dn 99327 (sw0 []) ?_
          exact d_edge hU1 (N1_8 Hn1_23 ln1_23 b1_15 b1_16 u1_0 h1_0 mz1_16) ⟨rfl, rfl, rfl, rfl, rfl, rfl, rfl, rfl, trivial⟩ [1, 0] (by decide) rfl (fun _ h => h)
      have N1_11 : ∀ (Hn1_24 : Hp) (ln1_24 : HLe Hb0_0 Hn1_24) (b1_16 : Nat) (u1_0 : List Value) (h1_0 : Rp.rep (α := TunnelBook) Hn1_24 u1_0 p0) (mz1_16 : Rp.rep (α := Arr 4 Int) Hn1_24 [.int .i64 0, .int .i64 0, .int .i64 0, .int .i64 0] [0, 0, 0, 0]), At 89 [] (Kp.mk w H noX) [(2, .int .i64 p2), (3, .int .i64 p3), (4, .pointer (some ⟨b0_0, 0, none⟩)), (11, .pointer (some ⟨b1_16, 0, none⟩)), (16, .agg u1_0.toArray), (17, v1), (25, .bool x1_8)] Hn1_24 ([.box b1_16 [.int .i64 0, .int .i64 0, .int .i64 0, .int .i64 0] 111]) (U1 (Sw Hn1_24 []) 9 (bits 20 66559)) := by
        intro Hn1_24 ln1_24 b1_16 u1_0 h1_0 mz1_16
        refine d_fwd hU1 ?_
        have hb0_0 := PAt.mono ln1_24 hb0_0
        have h1 := Sl.mono ln1_24 h1
        have hg := Glob.mono ln1_24 hg
        refine d_all (rs := [10, 15]) (by kernel_rfl) rfl ⟨⟨_, rfl, ?_⟩, ⟨_, rfl, ?_⟩, trivial⟩
        · refine e_callO (all := [.agg u1_0.toArray, v1, .bool x1_8]) trivial rfl Tryd.func80 rfl rfl rfl rfl rfl (fun w hw => ok_80 hw h1_0 h1 q1_10) ?_
          rintro _ H1_10 _ l1_10 ⟨cb1_10, cs1_10, mm1_10, rfl, hb1_10, hc1_10, hd1_10⟩
          rcases hd1_10 with ⟨rfl, he1_10, rfl⟩ | ⟨M1_10, rfl, he1_10, rfl⟩
          rotate_left
          · exact absurd k1_10 (by simp [he1_10])
          have hb0_0 := PAt.mono l1_10 hb0_0
          have h1_0 := Rp.mono l1_10 h1_0
          have h1 := Sl.mono l1_10 h1
          have mz1_16 := Rp.mono l1_10 mz1_16
          have hg := Glob.mono l1_10 hg
          refine dn 67583 (swl l1_10 []) ?_
          exact d_edge hU1 (N1_7 H1_10 (ln1_24.trans l1_10) b1_16 cb1_10 cs1_10 hb1_10 hc1_10 mz1_16) ⟨rfl, rfl, rfl, rfl, rfl, trivial⟩ [0] (by decide) rfl (sw_sw l1_10 [] rfl)
        · refine e_alloc (cs := [.slice none 0 0, .slice none 0 0, .map none]) trivial rfl ty110 rfl ?_
          intro b1_15
          refine dn 99327 (sw0 []) ?_
          exact d_edge hU1 (N1_8 Hn1_24 ln1_24 b1_15 b1_16 u1_0 h1_0 mz1_16) ⟨rfl, rfl, rfl, rfl, rfl, rfl, rfl, rfl, trivial⟩ [0, 1] (by decide) rfl (fun _ h => h)
      have N1_12 : ∀ (Hn1_7 : Hp) (ln1_7 : HLe Hb0_0 Hn1_7) (b1_15 : Nat) (b1_16 : Nat) (u1_0 : List Value) (h1_0 : Rp.rep (α := TunnelBook) Hn1_7 u1_0 p0) (mz1_16 : Rp.rep (α := Arr 4 Int) Hn1_7 [.int .i64 0, .int .i64 0, .int .i64 0, .int .i64 0] [0, 0, 0, 0]), At 89 [] (Kp.mk w H noX) [(2, .int .i64 p2), (3, .int .i64 p3), (4, .pointer (some ⟨b0_0, 0, none⟩)), (10, .pointer (some ⟨b1_15, 0, none⟩)), (11, .pointer (some ⟨b1_16, 0, none⟩)), (16, .agg u1_0.toArray), (17, v1), (21, .bool x1_4), (24, .bool x1_8)] Hn1_7 ([.box b1_15 [.slice none 0 0, .slice none 0 0, .map none] 110, .box b1_16 [.int .i64 0, .int .i64 0, .int .i64 0, .int .i64 0] 111]) (U1 (Sw Hn1_7 []) 9 (bits 20 98815)) := by
        intro Hn1_7 ln1_7 b1_15 b1_16 u1_0 h1_0 mz1_16
        refine d_fwd hU1 ?_
        have hb0_0 := PAt.mono ln1_7 hb0_0
        have h1 := Sl.mono ln1_7 h1
        have hg := Glob.mono ln1_7 hg
        refine dt 9 99327 rfl trivial (y_pick_t rfl k1_6 rfl) (sw0 []) ?_
        refine d1 10 rfl (e_callO (all := [.agg u1_0.toArray, v1, .bool x1_8]) trivial rfl Tryd.func80 rfl rfl rfl rfl rfl (fun w hw => ok_80 hw h1_0 h1 q1_10) ?_)
        rintro _ H1_10 _ l1_10 ⟨cb1_10, cs1_10, mm1_10, rfl, hb1_10, hc1_10, hd1_10⟩
        rcases hd1_10 with ⟨rfl, he1_10, rfl⟩ | ⟨M1_10, rfl, he1_10, rfl⟩
        rotate_left
        · exact absurd k1_10 (by simp [he1_10])
        have hb0_0 := PAt.mono l1_10 hb0_0
        have h1_0 := Rp.mono l1_10 h1_0
        have h1 := Sl.mono l1_10 h1
        have mz1_16 := Rp.mono l1_10 mz1_16
        have hg := Glob.mono l1_10 hg
        refine dn 100351 (swl l1_10 []) ?_
        exact d_edge hU1 (N1_5 H1_10 (ln1_7.trans l1_10) b1_15 b1_16 cb1_10 cs1_10 hb1_10 hc1_10 mz1_16) ⟨rfl, rfl, rfl, rfl, rfl, rfl, trivial⟩ [0, 1] (by decide) rfl (sw_sw l1_10 [] rfl)
      have N1_13 : ∀ (Hn1_17 : Hp) (ln1_17 : HLe Hb0_0 Hn1_17) (b1_15 : Nat) (u1_0 : List Value) (h1_0 : Rp.rep (α := TunnelBook) Hn1_17 u1_0 p0), At 89 [] (Kp.mk w H noX) [(2, .int .i64 p2), (3, .int .i64 p3), (4, .pointer (some ⟨b0_0, 0, none⟩)), (10, .pointer (some ⟨b1_15, 0, none⟩)), (16, .agg u1_0.toArray), (17, v1), (21, .bool x1_4), (24, .bool x1_8)] Hn1_17 ([.box b1_15 [.slice none 0 0, .slice none 0 0, .map none] 110]) (U1 (Sw Hn1_17 []) 10 (bits 20 33279)) := by
        intro Hn1_17 ln1_17 b1_15 u1_0 h1_0
        refine d_fwd hU1 ?_
        have hb0_0 := PAt.mono ln1_17 hb0_0
        have h1 := Sl.mono ln1_17 h1
        have hg := Glob.mono ln1_17 hg
        refine dt 9 33791 rfl trivial (y_pick_t rfl k1_6 rfl) (sw0 []) ?_
        refine d_all (rs := [10, 16]) (by kernel_rfl) rfl ⟨⟨_, rfl, ?_⟩, ⟨_, rfl, ?_⟩, trivial⟩
        · refine e_callO (all := [.agg u1_0.toArray, v1, .bool x1_8]) trivial rfl Tryd.func80 rfl rfl rfl rfl rfl (fun w hw => ok_80 hw h1_0 h1 q1_10) ?_
          rintro _ H1_10 _ l1_10 ⟨cb1_10, cs1_10, mm1_10, rfl, hb1_10, hc1_10, hd1_10⟩
          rcases hd1_10 with ⟨rfl, he1_10, rfl⟩ | ⟨M1_10, rfl, he1_10, rfl⟩
          rotate_left
          · exact absurd k1_10 (by simp [he1_10])
          have hb0_0 := PAt.mono l1_10 hb0_0
          have h1_0 := Rp.mono l1_10 h1_0
          have h1 := Sl.mono l1_10 h1
          have hg := Glob.mono l1_10 hg
          refine dn 34815 (swl l1_10 []) ?_
          exact d_edge hU1 (N1_6 H1_10 (ln1_17.trans l1_10) b1_15 cb1_10 cs1_10 hb1_10 hc1_10) ⟨rfl, rfl, rfl, rfl, rfl, trivial⟩ [0] (by decide) rfl (sw_sw l1_10 [] rfl)
        · refine e_alloc (cs := [.int .i64 0, .int .i64 0, .int .i64 0, .int .i64 0]) trivial rfl ty111 rfl ?_
          intro b1_16
          have mz1_16 : Rp.rep (α := Arr 4 Int) Hn1_17 [.int .i64 0, .int .i64 0, .int .i64 0, .int .i64 0] [0, 0, 0, 0] := ⟨(RepL.cons (c := [_]) rfl (RepL.cons (c := [_]) rfl (RepL.cons (c := [_]) rfl (RepL.cons (c := [_]) rfl RepL.nil)))), rfl⟩
          refine dn 99327 (sw0 []) ?_
          exact d_edge hU1 (N1_8 Hn1_17 ln1_17 b1_15 b1_16 u1_0 h1_0 mz1_16) ⟨rfl, rfl, rfl, rfl, rfl, rfl, rfl, rfl, trivial⟩ [1, 0] (by decide) rfl (fun _ h => h)
      have N1_14 : ∀ (Hn1_11 : Hp) (ln1_11 : HLe Hb0_0 Hn1_11) (b1_16 : Nat) (u1_0 : List Value) (h1_0 : Rp.rep (α := TunnelBook) Hn1_11 u1_0 p0) (mz1_16 : Rp.rep (α := Arr 4 Int) Hn1_11 [.int .i64 0, .int .i64 0, .int .i64 0, .int .i64 0] [0, 0, 0, 0]), At 89 [] (Kp.mk w H noX) [(2, .int .i64 p2), (3, .int .i64 p3), (4, .pointer (some ⟨b0_0, 0, none⟩)), (11, .pointer (some ⟨b1_16, 0, none⟩)), (16, .agg u1_0.toArray), (17, v1), (21, .bool x1_4), (24, .bool x1_8)] Hn1_11 ([.box b1_16 [.int .i64 0, .int .i64 0, .int .i64 0, .int .i64 0] 111]) (U1 (Sw Hn1_11 []) 10 (bits 20 66047)) := by
        intro Hn1_11 ln1_11 b1_16 u1_0 h1_0 mz1_16
        refine d_fwd hU1 ?_
        have hb0_0 := PAt.mono ln1_11 hb0_0
        have h1 := Sl.mono ln1_11 h1
        have hg := Glob.mono ln1_11 hg
        refine dt 9 66559 rfl trivial (y_pick_t rfl k1_6 rfl) (sw0 []) ?_
        refine d_all (rs := [10, 15]) (by kernel_rfl) rfl ⟨⟨_, rfl, ?_⟩, ⟨_, rfl, ?_⟩, trivial⟩
        · refine e_callO (all := [.agg u1_0.toArray, v1, .bool x1_8]) trivial rfl Tryd.func80 rfl rfl rfl rfl rfl (fun w hw => ok_80 hw h1_0 h1 q1_10) ?_
          rintro _ H1_10 _ l1_10 ⟨cb1_10, cs1_10, mm1_10, rfl, hb1_10, hc1_10, hd1_10⟩
          rcases hd1_10 with ⟨rfl, he1_10, rfl⟩ | ⟨M1_10, rfl, he1_10, rfl⟩
          rotate_left
          · exact absurd k1_10 (by simp [he1_10])
          have hb0_0 := PAt.mono l1_10 hb0_0
          have h1_0 := Rp.mono l1_10 h1_0
          have h1 := Sl.mono l1_10 h1
          have mz1_16 := Rp.mono l1_10 mz1_16
          have hg := Glob.mono l1_10 hg
          refine dn 67583 (swl l1_10 []) ?_
          exact d_edge hU1 (N1_7 H1_10 (ln1_11.trans l1_10) b1_16 cb1_10 cs1_10 hb1_10 hc1_10 mz1_16) ⟨rfl, rfl, rfl, rfl, rfl, trivial⟩ [0] (by decide) rfl (sw_sw l1_10 [] rfl)
        · refine e_alloc (cs := [.slice none 0 0, .slice none 0 0, .map none]) trivial rfl ty110 rfl ?_
          intro b1_15
          refine dn 99327 (sw0 []) ?_
          exact d_edge hU1 (N1_8 Hn1_11 ln1_11 b1_15 b1_16 u1_0 h1_0 mz1_16) ⟨rfl, rfl, rfl, rfl, rfl, rfl, rfl, rfl, trivial⟩ [0, 1] (by decide) rfl (fun _ h => h)
      have N1_15 : ∀ (Hn1_12 : Hp) (ln1_12 : HLe Hb0_0 Hn1_12) (b1_15 : Nat) (b1_16 : Nat) (u1_0 : List Value) (u1_6 : List Value) (h1_0 : Rp.rep (α := TunnelBook) Hn1_12 u1_0 p0) (h1_6 : Rp.rep (α := TunnelBook) Hn1_12 u1_6 p0) (mz1_16 : Rp.rep (α := Arr 4 Int) Hn1_12 [.int .i64 0, .int .i64 0, .int .i64 0, .int .i64 0] [0, 0, 0, 0]), At 89 [] (Kp.mk w H noX) [(2, .int .i64 p2), (3, .int .i64 p3), (4, .pointer (some ⟨b0_0, 0, none⟩)), (10, .pointer (some ⟨b1_15, 0, none⟩)), (11, .pointer (some ⟨b1_16, 0, none⟩)), (16, .agg u1_0.toArray), (17, v1), (21, .bool x1_4), (22, .agg u1_6.toArray), (23, .int .i64 p3)] Hn1_12 ([.box b1_15 [.slice none 0 0, .slice none 0 0, .map none] 110, .box b1_16 [.int .i64 0, .int .i64 0, .int .i64 0, .int .i64 0] 111]) (U1 (Sw Hn1_12 []) 10 (bits 20 98559)) := by
        intro Hn1_12 ln1_12 b1_15 b1_16 u1_0 u1_6 h1_0 h1_6 mz1_16
        refine d_fwd hU1 ?_
        have hb0_0 := PAt.mono ln1_12 hb0_0
        have h1 := Sl.mono ln1_12 h1
        have hg := Glob.mono ln1_12 hg
        refine d1 8 rfl (e_callV (all := [.agg u1_6.toArray, .int .i64 p3]) (v := .bool x1_8) ⟨_, _, rfl, rfl, k1_6⟩ rfl Tryd.func103 rfl rfl rfl rfl rfl (fun w hw => ok_103 hw h1_6 q1_8) ?_)
        refine dn 98815 (sw0 []) ?_
        exact d_edge hU1 (N1_12 Hn1_12 ln1_12 b1_15 b1_16 u1_0 h1_0 mz1_16) ⟨rfl, rfl, rfl, rfl, rfl, rfl, rfl, rfl, rfl, trivial⟩ [0, 1] (by decide) rfl (fun _ h => h)
      have N1_16 : ∀ (Hn1_19 : Hp) (ln1_19 : HLe Hb0_0 Hn1_19) (u1_0 : List Value) (h1_0 : Rp.rep (α := TunnelBook) Hn1_19 u1_0 p0), At 89 [] (Kp.mk w H noX) [(2, .int .i64 p2), (3, .int .i64 p3), (4, .pointer (some ⟨b0_0, 0, none⟩)), (16, .agg u1_0.toArray), (17, v1), (21, .bool x1_4), (24, .bool x1_8)] Hn1_19 [] (U1 (Sw Hn1_19 []) 11 (bits 20 511)) := by
        intro Hn1_19 ln1_19 u1_0 h1_0
        refine d_fwd hU1 ?_
        have hb0_0 := PAt.mono ln1_19 hb0_0
        have h1 := Sl.mono ln1_19 h1
        have hg := Glob.mono ln1_19 hg
        refine dt 9 1023 rfl trivial (y_pick_t rfl k1_6 rfl) (sw0 []) ?_
        refine d_all (rs := [10, 15, 16]) (by kernel_rfl) rfl ⟨⟨_, rfl, ?_⟩, ⟨_, rfl, ?_⟩, ⟨_, rfl, ?_⟩, trivial⟩
        · refine e_callO (all := [.agg u1_0.toArray, v1, .bool x1_8]) trivial rfl Tryd.func80 rfl rfl rfl rfl rfl (fun w hw => ok_80 hw h1_0 h1 q1_10) ?_
          rintro _ H1_10 _ l1_10 ⟨cb1_10, cs1_10, mm1_10, rfl, hb1_10, hc1_10, hd1_10⟩
          rcases hd1_10 with ⟨rfl, he1_10, rfl⟩ | ⟨M1_10, rfl, he1_10, rfl⟩
          rotate_left
          · exact absurd k1_10 (by simp [he1_10])
          have hb0_0 := PAt.mono l1_10 hb0_0
          have h1_0 := Rp.mono l1_10 h1_0
          have h1 := Sl.mono l1_10 h1
          have hg := Glob.mono l1_10 hg
          refine dn 2047 (swl l1_10 []) ?_
          exact d_edge hU1 (N1_9 H1_10 (ln1_19.trans l1_10) cb1_10 cs1_10 hb1_10 hc1_10) ⟨rfl, rfl, rfl, rfl, trivial⟩ [] (by decide) rfl (sw_sw l1_10 [] rfl)
        · refine e_alloc (cs := [.slice none 0 0, .slice none 0 0, .map none]) trivial rfl ty110 rfl ?_
          intro b1_15
          refine dn 33791 (sw0 []) ?_
          exact d_edge hU1 (N1_10 Hn1_19 ln1_19 b1_15 u1_0 h1_0) ⟨rfl, rfl, rfl, rfl, rfl, rfl, rfl, trivial⟩ [0] (by decide) rfl (fun _ h => h)
        · refine e_alloc (cs := [.int .i64 0, .int .i64 0, .int .i64 0, .int .i64 0]) trivial rfl ty111 rfl ?_
          intro b1_16
          have mz1_16 : Rp.rep (α := Arr 4 Int) Hn1_19 [.int .i64 0, .int .i64 0, .int .i64 0, .int .i64 0] [0, 0, 0, 0] := ⟨(RepL.cons (c := [_]) rfl (RepL.cons (c := [_]) rfl (RepL.cons (c := [_]) rfl (RepL.cons (c := [_]) rfl RepL.nil)))), rfl⟩
          refine dn 66559 (sw0 []) ?_
          exact d_edge hU1 (N1_11 Hn1_19 ln1_19 b1_16 u1_0 h1_0 mz1_16) ⟨rfl, rfl, rfl, rfl, rfl, rfl, rfl, trivial⟩ [0] (by decide) rfl (fun _ h => h)
      have N1_17 : ∀ (Hn1_20 : Hp) (ln1_20 : HLe Hb0_0 Hn1_20) (b1_15 : Nat) (u1_0 : List Value) (u1_6 : List Value) (h1_0 : Rp.rep (α := TunnelBook) Hn1_20 u1_0 p0) (h1_6 : Rp.rep (α := TunnelBook) Hn1_20 u1_6 p0), At 89 [] (Kp.mk w H noX) [(2, .int .i64 p2), (3, .int .i64 p3), (4, .pointer (some ⟨b0_0, 0, none⟩)), (10, .pointer (some ⟨b1_15, 0, none⟩)), (16, .agg u1_0.toArray), (17, v1), (21, .bool x1_4), (22, .agg u1_6.toArray), (23, .int .i64 p3)] Hn1_20 ([.box b1_15 [.slice none 0 0, .slice none 0 0, .map none] 110]) (U1 (Sw Hn1_20 []) 11 (bits 20 33023)) := by
        intro Hn1_20 ln1_20 b1_15 u1_0 u1_6 h1_0 h1_6
        refine d_fwd hU1 ?_
        have hb0_0 := PAt.mono ln1_20 hb0_0
        have h1 := Sl.mono ln1_20 h1
        have hg := Glob.mono ln1_20 hg
        refine d_all (rs := [8, 16]) (by kernel_rfl) rfl ⟨⟨_, rfl, ?_⟩, ⟨_, rfl, ?_⟩, trivial⟩
        · refine e_callV (all := [.agg u1_6.toArray, .int .i64 p3]) (v := .bool x1_8) ⟨_, _, rfl, rfl, k1_6⟩ rfl Tryd.func103 rfl rfl rfl rfl rfl (fun w hw => ok_103 hw h1_6 q1_8) ?_
          refine dn 33279 (sw0 []) ?_
          exact d_edge hU1 (N1_13 Hn1_20 ln1_20 b1_15 u1_0 h1_0) ⟨rfl, rfl, rfl, rfl, rfl, rfl, rfl, rfl, trivial⟩ [0] (by decide) rfl (fun _ h => h)
        · refine e_alloc (cs := [.int .i64 0, .int .i64 0, .int .i64 0, .int .i64 0]) trivial rfl ty111 rfl ?_
          intro b1_16
          have mz1_16 : Rp.rep (α := Arr 4 Int) Hn1_20 [.int .i64 0, .int .i64 0, .int .i64 0, .int .i64 0] [0, 0, 0, 0] := ⟨(RepL.cons (c := [_]) rfl (RepL.cons (c := [_]) rfl (RepL.cons (c := [_]) rfl (RepL.cons (c := [_]) rfl RepL.nil)))), rfl⟩
          refine dn 98559 (sw0 []) ?_
          exact d_edge hU1 (N1_15 Hn1_20 ln1_20 b1_15 b1_16 u1_0 u1_6 h1_0 h1_6 mz1_16) ⟨rfl, rfl, rfl, rfl, rfl, rfl, rfl, rfl, rfl, rfl, trivial⟩ [1, 0] (by decide) rfl (fun _ h => h)
      have N1_18 : ∀ (Hn1_21 : Hp) (ln1_21 : HLe Hb0_0 Hn1_21) (b1_16 : Nat) (u1_0 : List Value) (u1_6 : List Value) (h1_0 : Rp.rep (α := TunnelBook) Hn1_21 u1_0 p0) (h1_6 : Rp.rep (α := TunnelBook) Hn1_21 u1_6 p0) (mz1_16 : Rp.rep (α := Arr 4 Int) Hn1_21 [.int .i64 0, .int .i64 0, .int .i64 0, .int .i64 0] [0, 0, 0, 0]), At 89 [] (Kp.mk w H noX) [(2, .int .i64 p2), (3, .int .i64 p3), (4, .pointer (some ⟨b0_0, 0, none⟩)), (11, .pointer (some ⟨b1_16, 0, none⟩)), (16, .agg u1_0.toArray), (17, v1), (21, .bool x1_4), (22, .agg u1_6.toArray), (23, .int .i64 p3)] Hn1_21 ([.box b1_16 [.int .i64 0, .int .i64 0, .int .i64 0, .int .i64 0] 111]) (U1 (Sw Hn1_21 []) 11 (bits 20 65791)) := by
        intro Hn1_21 ln1_21 b1_16 u1_0 u1_6 h1_0 h1_6 mz1_16
        refine d_fwd hU1 ?_
        have hb0_0 := PAt.mono ln1_21 hb0_0
        have h1 := Sl.mono ln1_21 h1
        have hg := Glob.mono ln1_21 hg
        refine d_all (rs := [8, 15]) (by kernel_rfl) rfl ⟨⟨_, rfl, ?_⟩, ⟨_, rfl, ?_⟩, trivial⟩
        · refine e_callV (all := [.agg u1_6.toArray, .int .i64 p3]) (v := .bool x1_8) ⟨_, _, rfl, rfl, k1_6⟩ rfl Tryd.func103 rfl rfl rfl rfl rfl (fun w hw => ok_103 hw h1_6 q1_8) ?_
          refine dn 66047 (sw0 []) ?_
          exact d_edge hU1 (N1_14 Hn1_21 ln1_21 b1_16 u1_0 h1_0 mz1_16) ⟨rfl, rfl, rfl, rfl, rfl, rfl, rfl, rfl, trivial⟩ [0] (by decide) rfl (fun _ h => h)
        · refine e_alloc (cs := [.slice none 0 0, .slice none 0 0, .map none]) trivial rfl ty110 rfl ?_
          intro b1_15
          refine dn 98559 (sw0 []) ?_
          exact d_edge hU1 (N1_15 Hn1_21 ln1_21 b1_15 b1_16 u1_0 u1_6 h1_0 h1_6 mz1_16) ⟨rfl, rfl, rfl, rfl, rfl, rfl, rfl, rfl, rfl, rfl, trivial⟩ [0, 1] (by decide) rfl (fun _ h => h)
      have N1_19 : ∀ (Hn1_6 : Hp) (ln1_6 : HLe Hb0_0 Hn1_6) (b1_15 : Nat) (b1_16 : Nat) (u1_0 : List Value) (h1_0 : Rp.rep (α := TunnelBook) Hn1_6 u1_0 p0) (mz1_16 : Rp.rep (α := Arr 4 Int) Hn1_6 [.int .i64 0, .int .i64 0, .int .i64 0, .int .i64 0] [0, 0, 0, 0]), At 89 [] (Kp.mk w H noX) [(2, .int .i64 p2), (3, .int .i64 p3), (4, .pointer (some ⟨b0_0, 0, none⟩)), (10, .pointer (some ⟨b1_15, 0, none⟩)), (11, .pointer (some ⟨b1_16, 0, none⟩)), (16, .agg u1_0.toArray), (17, v1), (20, .bool x1_4)] Hn1_6 ([.box b1_15 [.slice none 0 0, .slice none 0 0, .map none] 110, .box b1_16 [.int .i64 0, .int .i64 0, .int .i64 0, .int .i64 0] 111]) (U1 (Sw Hn1_6 []) 13 (bits 20 98335)) := by
        intro Hn1_6 ln1_6 b1_15 b1_16 u1_0 h1_0 mz1_16
        refine d_fwd hU1 ?_
        have hb0_0 := PAt.mono ln1_6 hb0_0
        have h1 := Sl.mono ln1_6 h1
        have hg := Glob.mono ln1_6 hg
        refine dt 5 98367 rfl trivial (y_move rfl) (sw0 []) ?_
        obtain ⟨u1_6, h1_6, c1_6⟩ := PAt.one hb0_0
        refine dt 6 98431 rfl ⟨_, _, rfl, rfl, k1_6⟩ (y_load_cells ty25 rfl (fun _ h => h.1) rfl c1_6 (Rp.len h1_6)) (sw0 []) ?_
        refine dt 7 98559 rfl ⟨_, _, rfl, rfl, k1_6⟩ (y_move rfl) (sw0 []) ?_
        refine d1 8 rfl (e_callV (all := [.agg u1_6.toArray, .int .i64 p3]) (v := .bool x1_8) ⟨_, _, rfl, rfl, k1_6⟩ rfl Tryd.func103 rfl rfl rfl rfl rfl (fun w hw => ok_103 hw h1_6 q1_8) ?_)
        refine dn 98815 (sw0 []) ?_
        exact d_edge hU1 (N1_12 Hn1_6 ln1_6 b1_15 b1_16 u1_0 h1_0 mz1_16) ⟨rfl, rfl, rfl, rfl, rfl, rfl, rfl, rfl, rfl, trivial⟩ [0, 1] (by decide) rfl (fun _ h => h)
      have N1_20 : ∀ (Hn1_16 : Hp) (ln1_16 : HLe Hb0_0 Hn1_16) (b1_15 : Nat) (u1_0 : List Value) (h1_0 : Rp.rep (α := TunnelBook) Hn1_16 u1_0 p0), At 89 [] (Kp.mk w H noX) [(2, .int .i64 p2), (3, .int .i64 p3), (4, .pointer (some ⟨b0_0, 0, none⟩)), (10, .pointer (some ⟨b1_15, 0, none⟩)), (16, .agg u1_0.toArray), (17, v1), (20, .bool x1_4)] Hn1_16 ([.box b1_15 [.slice none 0 0, .slice none 0 0, .map none] 110]) (U1 (Sw Hn1_16 []) 14 (bits 20 32799)) := by
        intro Hn1_16 ln1_16 b1_15 u1_0 h1_0
        refine d_fwd hU1 ?_
        have hb0_0 := PAt.mono ln1_16 hb0_0
        have h1 := Sl.mono ln1_16 h1
        have hg := Glob.mono ln1_16 hg
        refine dt 5 32831 rfl trivial (y_move rfl) (sw0 []) ?_
        obtain ⟨u1_6, h1_6, c1_6⟩ := PAt.one hb0_0
        refine dt 6 32895 rfl ⟨_, _, rfl, rfl, k1_6⟩ (y_load_cells ty25 rfl (fun _ h => h.1) rfl c1_6 (Rp.len h1_6)) (sw0 []) ?_
        refine dt 7 33023 rfl ⟨_, _, rfl, rfl, k1_6⟩ (y_move rfl) (sw0 []) ?_
        refine d_all (rs := [8, 16]) (by kernel_rfl) rfl ⟨⟨_, rfl, ?_⟩, ⟨_, rfl, ?_⟩, trivial⟩
        · refine e_callV (all := [.agg u1_6.toArray, .int .i64 p3]) (v := .bool x1_8) ⟨_, _, rfl, rfl, k1_6⟩ rfl Tryd.func103 rfl rfl rfl rfl rfl (fun w hw => ok_103 hw h1_6 q1_8) ?_
          refine dn 33279 (sw0 []) ?_
          exact d_edge hU1 (N1_13 Hn1_16 ln1_16 b1_15 u1_0 h1_0) ⟨rfl, rfl, rfl, rfl, rfl, rfl, rfl, rfl, trivial⟩ [0] (by decide) rfl (fun _ h => h)
        · refine e_alloc (cs := [.int .i64 0, .int .i64 0, .int .i64 0, .int .i64 0]) trivial rfl ty111 rfl ?_
          intro b1_16
          have mz1_16 : Rp.rep (α := Arr 4 Int) Hn1_16 [.int .i64 0, .int .i64 0, .int .i64 0, .int .i64 0] [0, 0, 0, 0] := ⟨(RepL.cons (c := [_]) rfl (RepL.cons (c := [_]) rfl (RepL.cons (c := [_]) rfl (RepL.cons (c := [_]) rfl RepL.nil)))), rfl⟩
          refine dn 98559 (sw0 []) ?_
          exact d_edge hU1 (N1_15 Hn1_16 ln1_16 b1_15 b1_16 u1_0 u1_6 h1_0 h1_6 mz1_16) ⟨rfl, rfl, rfl, rfl, rfl, rfl, rfl, rfl, rfl, rfl, trivial⟩ [1, 0] (by decide) rfl (fun _ h => h)
      have N1_21 : ∀ (Hn1_4 : Hp) (ln1_4 : HLe Hb0_0 Hn1_4) (b1_16 : Nat) (u1_0 : List Value) (h1_0 : Rp.rep (α := TunnelBook) Hn1_4 u1_0 p0) (mz1_16 : Rp.rep (α := Arr 4 Int) Hn1_4 [.int .i64 0, .int .i64 0, .int .i64 0, .int .i64 0] [0, 0, 0, 0]), At 89 [] (Kp.mk w H noX) [(2, .int .i64 p2), (3, .int .i64 p3), (4, .pointer (some ⟨b0_0, 0, none⟩)), (11, .pointer (some ⟨b1_16, 0, none⟩)), (16, .agg u1_0.toArray), (17, v1), (20, .bool x1_4)] Hn1_4 ([.box b1_16 [.int .i64 0, .int .i64 0, .int .i64 0, .int .i64 0] 111]) (U1 (Sw Hn1_4 []) 14 (bits 20 65567)) := by
        intro Hn1_4 ln1_4 b1_16 u1_0 h1_0 mz1_16
        refine d_fwd hU1 ?_
        have hb0_0 := PAt.mono ln1_4 hb0_0
        have h1 := Sl.mono ln1_4 h1
        have hg := Glob.mono ln1_4 hg
        refine dt 5 65599 rfl trivial (y_move rfl) (sw0 []) ?_
        obtain ⟨u1_6, h1_6, c1_6⟩ := PAt.one hb0_0
        refine dt 6 65663 rfl ⟨_, _, rfl, rfl, k1_6⟩ (y_load_cells ty25 rfl (fun _ h => h.1) rfl c1_6 (Rp.len h1_6)) (sw0 []) ?_
        refine dt 7 65791 rfl ⟨_, _, rfl, rfl, k1_6⟩ (y_move rfl) (sw0 []) ?_
        refine d_all (rs := [8, 15]) (by kernel_rfl) rfl ⟨⟨_, rfl, ?_⟩, ⟨_, rfl, ?_⟩, trivial⟩
        · refine e_callV (all := [.agg u1_6.toArray, .int .i64 p3]) (v := .bool x1_8) ⟨_, _, rfl, rfl, k1_6⟩ rfl Tryd.func103 rfl rfl rfl rfl rfl (fun w hw => ok_103 hw h1_6 q1_8) ?_
          refine dn 66047 (sw0 []) ?_
          exact d_edge hU1 (N1_14 Hn1_4 ln1_4 b1_16 u1_0 h1_0 mz1_16) ⟨rfl, rfl, rfl, rfl, rfl, rfl, rfl, rfl, trivial⟩ [0] (by decide) rfl (fun _ h => h)
        · refine e_alloc (cs := [.slice none 0 0, .slice none 0 0, .map none]) trivial rfl ty110 rfl ?_
          intro b1_15
          refine dn 98559 (sw0 []) ?_
          exact d_edge hU1 (N1_15 Hn1_4 ln1_4 b1_15 b1_16 u1_0 u1_6 h1_0 h1_6 mz1_16) ⟨rfl, rfl, rfl, rfl, rfl, rfl, rfl, rfl, rfl, rfl, trivial⟩ [0, 1] (by decide) rfl (fun _ h => h)
      have N1_22 : ∀ (Hn1_5 : Hp) (ln1_5 : HLe Hb0_0 Hn1_5) (b1_15 : Nat) (b1_16 : Nat) (u1_0 : List Value) (u1_2 : List Value) (h1_0 : Rp.rep (α := TunnelBook) Hn1_5 u1_0 p0) (h1_2 : Rp.rep (α := TunnelBook) Hn1_5 u1_2 p0) (mz1_16 : Rp.rep (α := Arr 4 Int) Hn1_5 [.int .i64 0, .int .i64 0, .int .i64 0, .int .i64 0] [0, 0, 0, 0]), At 89 [] (Kp.mk w H noX) [(2, .int .i64 p2), (3, .int .i64 p3), (4, .pointer (some ⟨b0_0, 0, none⟩)), (10, .pointer (some ⟨b1_15, 0, none⟩)), (11, .pointer (some ⟨b1_16, 0, none⟩)), (16, .agg u1_0.toArray), (17, v1), (18, .agg u1_2.toArray), (19, .int .i64 p2)] Hn1_5 ([.box b1_15 [.slice none 0 0, .slice none 0 0, .map none] 110, .box b1_16 [.int .i64 0, .int .i64 0, .int .i64 0, .int .i64 0] 111]) (U1 (Sw Hn1_5 []) 14 (bits 20 98319)) := by
        intro Hn1_5 ln1_5 b1_15 b1_16 u1_0 u1_2 h1_0 h1_2 mz1_16
        refine d_fwd hU1 ?_
        have hb0_0 := PAt.mono ln1_5 hb0_0
        have h1 := Sl.mono ln1_5 h1
        have hg := Glob.mono ln1_5 hg
        refine d1 4 rfl (e_callV (all := [.agg u1_2.toArray, .int .i64 p2]) (v := .bool x1_4) trivial rfl Tryd.func88 rfl rfl rfl rfl rfl (fun w hw => ok_88 hw h1_2 q1_4) ?_)
        refine dn 98335 (sw0 []) ?_
        exact d_edge hU1 (N1_19 Hn1_5 ln1_5 b1_15 b1_16 u1_0 h1_0 mz1_16) ⟨rfl, rfl, rfl, rfl, rfl, rfl, rfl, rfl, trivial⟩ [0, 1] (by decide) rfl (fun _ h => h)
      have N1_23 : ∀ (Hn1_1 : Hp) (ln1_1 : HLe Hb0_0 Hn1_1) (u1_0 : List Value) (h1_0 : Rp.rep (α := TunnelBook) Hn1_1 u1_0 p0), At 89 [] (Kp.mk w H noX) [(2, .int .i64 p2), (3, .int .i64 p3), (4, .pointer (some ⟨b0_0, 0, none⟩)), (16, .agg u1_0.toArray), (17, v1), (20, .bool x1_4)] Hn1_1 [] (U1 (Sw Hn1_1 []) 15 (bits 20 31)) := by
        intro Hn1_1 ln1_1 u1_0 h1_0
        refine d_fwd hU1 ?_
        have hb0_0 := PAt.mono ln1_1 hb0_0
        have h1 := Sl.mono ln1_1 h1
        have hg := Glob.mono ln1_1 hg
        refine dt 5 63 rfl trivial (y_move rfl) (sw0 []) ?_
        obtain ⟨u1_6, h1_6, c1_6⟩ := PAt.one hb0_0
        refine dt 6 127 rfl ⟨_, _, rfl, rfl, k1_6⟩ (y_load_cells ty25 rfl (fun _ h => h.1) rfl c1_6 (Rp.len h1_6)) (sw0 []) ?_
        refine dt 7 255 rfl ⟨_, _, rfl, rfl, k1_6⟩ (y_move rfl) (sw0 []) ?_
        refine d_all (rs := [8, 15, 16]) (by kernel_rfl) rfl ⟨⟨_, rfl, ?_⟩, ⟨_, rfl, ?_⟩, ⟨_, rfl, ?_⟩, trivial⟩
        · refine e_callV (all := [.agg u1_6.toArray, .int .i64 p3]) (v := .bool x1_8) ⟨_, _, rfl, rfl, k1_6⟩ rfl Tryd.func103 rfl rfl rfl rfl rfl (fun w hw => ok_103 hw h1_6 q1_8) ?_
          refine dn 511 (sw0 []) ?_
          exact d_edge hU1 (N1_16 Hn1_1 ln1_1 u1_0 h1_0) ⟨rfl, rfl, rfl, rfl, rfl, rfl, rfl, trivial⟩ [] (by decide) rfl (fun _ h => h)
        · refine e_alloc (cs := [.slice none 0 0, .slice none 0 0, .map none]) trivial rfl ty110 rfl ?_
          intro b1_15
          refine dn 33023 (sw0 []) ?_
          exact d_edge hU1 (N1_17 Hn1_1 ln1_1 b1_15 u1_0 u1_6 h1_0 h1_6) ⟨rfl, rfl, rfl, rfl, rfl, rfl, rfl, rfl, rfl, trivial⟩ [0] (by decide) rfl (fun _ h => h)
        · refine e_alloc (cs := [.int .i64 0, .int .i64 0, .int .i64 0, .int .i64 0]) trivial rfl ty111 rfl ?_
          intro b1_16
          have mz1_16 : Rp.rep (α := Arr 4 Int) Hn1_1 [.int .i64 0, .int .i64 0, .int .i64 0, .int .i64 0] [0, 0, 0, 0] := ⟨(RepL.cons (c := [_]) rfl (RepL.cons (c := [_]) rfl (RepL.cons (c := [_]) rfl (RepL.cons (c := [_]) rfl RepL.nil)))), rfl⟩
          refine dn 65791 (sw0 []) ?_
          exact d_edge hU1 (N1_18 Hn1_1 ln1_1 b1_16 u1_0 u1_6 h1_0 h1_6 mz1_16) ⟨rfl, rfl, rfl, rfl, rfl, rfl, rfl, rfl, rfl, trivial⟩ [0] (by decide) rfl (fun _ h => h)
      have N1_24 : ∀ (Hn1_2 : Hp) (ln1_2 : HLe Hb0_0 Hn1_2) (b1_15 : Nat) (u1_0 : List Value) (u1_2 : List Value) (h1_0 : Rp.rep (α := TunnelBook) Hn1_2 u1_0 p0) (h1_2 : Rp.rep (α := TunnelBook) Hn1_2 u1_2 p0), At 89 [] (Kp.mk w H noX) [(2, .int .i64 p2), (3, .int .i64 p3), (4, .pointer (some ⟨b0_0, 0, none⟩)), (10, .pointer (some ⟨b1_15, 0, none⟩)), (16, .agg u1_0.toArray), (17, v1), (18, .agg u1_2.toArray), (19, .int .i64 p2)] Hn1_2 ([.box b1_15 [.slice none 0 0, .slice none 0 0, .map none] 110]) (U1 (Sw Hn1_2 []) 15 (bits 20 32783)) := by
        intro Hn1_2 ln1_2 b1_15 u1_0 u1_2 h1_0 h1_2
        refine d_fwd hU1 ?_
        have hb0_0 := PAt.mono ln1_2 hb0_0
        have h1 := Sl.mono ln1_2 h1
        have hg := Glob.mono ln1_2 hg
        refine d_all (rs := [4, 16]) (by kernel_rfl) rfl ⟨⟨_, rfl, ?_⟩, ⟨_, rfl, ?_⟩, trivial⟩
        · refine e_callV (all := [.agg u1_2.toArray, .int .i64 p2]) (v := .bool x1_4) trivial rfl Tryd.func88 rfl rfl rfl rfl rfl (fun w hw => ok_88 hw h1_2 q1_4) ?_
          refine dn 32799 (sw0 []) ?_
          exact d_edge hU1 (N1_20 Hn1_2 ln1_2 b1_15 u1_0 h1_0) ⟨rfl, rfl, rfl, rfl, rfl, rfl, rfl, trivial⟩ [0] (by decide) rfl (fun _ h => h)
        · refine e_alloc (cs := [.int .i64 0, .int .i64 0, .int .i64 0, .int .i64 0]) trivial rfl ty111 rfl ?_
          intro b1_16
          have mz1_16 : Rp.rep (α := Arr 4 Int) Hn1_2 [.int .i64 0, .int .i64 0, .int .i64 0, .int .i64 0] [0, 0, 0, 0] := ⟨(RepL.cons (c := [_]) rfl (RepL.cons (c := [_]) rfl (RepL.cons (c := [_]) rfl (RepL.cons (c := [_]) rfl RepL.nil)))), rfl⟩
          refine dn 98319 (sw0 []) ?_
          exact d_edge hU1 (N1_22 Hn1_2 ln1_2 b1_15 b1_16 u1_0 u1_2 h1_0 h1_2 mz1_16) ⟨rfl, rfl, rfl, rfl, rfl, rfl, rfl, rfl, rfl, trivial⟩ [1, 0] (by decide) rfl (fun _ h => h)
      have N1_25 : ∀ (Hn1_3 : Hp) (ln1_3 : HLe Hb0_0 Hn1_3) (b1_16 : Nat) (u1_0 : List Value) (u1_2 : List Value) (h1_0 : Rp.rep (α := TunnelBook) Hn1_3 u1_0 p0) (h1_2 : Rp.rep (α := TunnelBook) Hn1_3 u1_2 p0) (mz1_16 : Rp.rep (α := Arr 4 Int) Hn1_3 [.int .i64 0, .int .i64 0, .int .i64 0, .int .i64 0] [0, 0, 0, 0]), At 89 [] (Kp.mk w H noX) [(2, .int .i64 p2), (3, .int .i64 p3), (4, .pointer (some ⟨b0_0, 0, none⟩)), (11, .pointer (some ⟨b1_16, 0, none⟩)), (16, .agg u1_0.toArray), (17, v1), (18, .agg u1_2.toArray), (19, .int .i64 p2)] Hn1_3 ([.box b1_16 [.int .i64 0, .int .i64 0, .int .i64 0, .int .i64 0] 111]) (U1 (Sw Hn1_3 []) 15 (bits 20 65551)) := by
        intro Hn1_3 ln1_3 b1_16 u1_0 u1_2 h1_0 h1_2 mz1_16
        refine d_fwd hU1 ?_
        have hb0_0 := PAt.mono ln1_3 hb0_0
        have h1 := Sl.mono ln1_3 h1
        have hg := Glob.mono ln1_3 hg
        refine d_all (rs := [4, 15]) (by kernel_rfl) rfl ⟨⟨_, rfl, ?_⟩, ⟨_, rfl, ?_⟩, trivial⟩
        · refine e_callV (all := [.agg u1_2.toArray, .int .i64 p2]) (v := .bool x1_4) trivial rfl Tryd.func88 rfl rfl rfl rfl rfl (fun w hw => ok_88 hw h1_2 q1_4) ?_
          refine dn 65567 (sw0 []) ?_
          exact d_edge hU1 (N1_21 Hn1_3 ln1_3 b1_16 u1_0 h1_0 mz1_16) ⟨rfl, rfl, rfl, rfl, rfl, rfl, rfl, trivial⟩ [0] (by decide) rfl (fun _ h => h)
        · refine e_alloc (cs := [.slice none 0 0, .slice none 0 0, .map none]) trivial rfl ty110 rfl ?_
          intro b1_15
          refine dn 98319 (sw0 []) ?_
          exact d_edge hU1 (N1_22 Hn1_3 ln1_3 b1_15 b1_16 u1_0 u1_2 h1_0 h1_2 mz1_16) ⟨rfl, rfl, rfl, rfl, rfl, rfl, rfl, rfl, rfl, trivial⟩ [0, 1] (by decide) rfl (fun _ h => h)
      refine d_fwd hU1 ?_
      obtain ⟨u1_0, h1_0, c1_0⟩ := PAt.one hb0_0
      refine dt 0 1 rfl trivial (y_load_cells ty25 rfl (fun _ h => h.1) rfl c1_0 (Rp.len h1_0)) (sw0 []) ?_
      refine dt 1 3 rfl trivial (y_move rfl) (sw0 []) ?_
      obtain ⟨u1_2, h1_2, c1_2⟩ := PAt.one hb0_0
      refine dt 2 7 rfl trivial (y_load_cells ty25 rfl (fun _ h => h.1) rfl c1_2 (Rp.len h1_2)) (sw0 []) ?_
      refine dt 3 15 rfl trivial (y_move rfl) (sw0 []) ?_
      refine d_all (rs := [4, 15, 16]) (by kernel_rfl) rfl ⟨⟨_, rfl, ?_⟩, ⟨_, rfl, ?_⟩, ⟨_, rfl, ?_⟩, trivial⟩
      · refine e_callV (all := [.agg u1_2.toArray, .int .i64 p2]) (v := .bool x1_4) trivial rfl Tryd.func88 rfl rfl rfl rfl rfl (fun w hw => ok_88 hw h1_2 q1_4) ?_
        refine dn 31 (sw0 []) ?_
        exact d_edge hU1 (N1_23 Hb0_0 (HLe.refl _) u1_0 h1_0) ⟨rfl, rfl, rfl, rfl, rfl, rfl, trivial⟩ [] (by decide) rfl (fun _ h => h)
      · refine e_alloc (cs := [.slice none 0 0, .slice none 0 0, .map none]) trivial rfl ty110 rfl ?_
        intro b1_15
        refine dn 32783 (sw0 []) ?_
        exact d_edge hU1 (N1_24 Hb0_0 (HLe.refl _) b1_15 u1_0 u1_2 h1_0 h1_2) ⟨rfl, rfl, rfl, rfl, rfl, rfl, rfl, rfl, trivial⟩ [0] (by decide) rfl (fun _ h => h)
      · refine e_alloc (cs := [.int .i64 0, .int .i64 0, .int .i64 0, .int .i64 0]) trivial rfl ty111 rfl ?_
        intro b1_16
        have mz1_16 : Rp.rep (α := Arr 4 Int) Hb0_0 [.int .i64 0, .int .i64 0, .int .i64 0, .int .i64 0] [0, 0, 0, 0] := ⟨(RepL.cons (c := [_]) rfl (RepL.cons (c := [_]) rfl (RepL.cons (c := [_]) rfl (RepL.cons (c := [_]) rfl RepL.nil)))), rfl⟩
        refine dn 65551 (sw0 []) ?_
        exact d_edge hU1 (N1_25 Hb0_0 (HLe.refl _) b1_16 u1_0 u1_2 h1_0 h1_2 mz1_16) ⟨rfl, rfl, rfl, rfl, rfl, rfl, rfl, rfl, trivial⟩ [0] (by decide) rfl (fun _ h => h)
    · have hm := cond_f k1_10 hm
      refine d_region (S := Sw Hb0_0 []) (n := 20) (listed := (bits 20 0)) mixed (by kernel_rfl) rfl (by kernel_rfl) ?_
      refine d_abs fun U1 hU1 => ?_
      have N1_0 : ∀ (Hn1_10 : Hp) (ln1_10 : HLe Hb0_0 Hn1_10) (b1_15 : Nat) (b1_16 : Nat) (M1_10 : Nat) (cb1_10 : List Value) (cs1_10 : List Value) (hb1_10 : Rp.rep (α := Bk (some M1_10)) Hn1_10 cb1_10 x1_10.1) (hc1_10 : Rp.rep (α := Arr 4 Int) Hn1_10 cs1_10 x1_10.2.1), At 89 [] (Kp.mk w H noX) [(2, .int .i64 p2), (3, .int .i64 p3), (4, .pointer (some ⟨b0_0, 0, none⟩)), (10, .pointer (some ⟨b1_15, 0, none⟩)), (11, .pointer (some ⟨b1_16, 0, none⟩)), (29, .int .i64 x1_10.2.2)] Hn1_10 [.blk M1_10 (Memo x1_10.1), .box b1_15 cb1_10 110, .box b1_16 cs1_10 111] (U1 (Sw Hn1_10 []) 1 (bits 20 524287)) := by
        intro Hn1_10 ln1_10 b1_15 b1_16 M1_10 cb1_10 cs1_10 hb1_10 hc1_10
        refine d_fwd hU1 ?_
        have hb0_0 := PAt.mono ln1_10 hb0_0
        have hg := Glob.mono ln1_10 hg
        refine dt 19 1048575 rfl trivial (y_assign rfl) (sw0 []) ?_
        refine d_done (by kernel_rfl) ?_
        refine a_freeze (α := Bk _) (x := x1_10.1) (i := 1) rfl hb1_10 ?_
        intro Hb1_15 lb1_15 hb1_15
        have hb0_0 := PAt.mono lb1_15 hb0_0
        have hc1_10 := Rp.mono lb1_15 hc1_10
        have hg := Glob.mono lb1_15 hg
        refine a_freeze (α := Arr 4 Int) (x := x1_10.2.1) (i := 2) rfl hc1_10 ?_
        intro Hb1_16 lb1_16 hb1_16
        have hb0_0 := PAt.mono lb1_16 hb0_0
        have hb1_15 := PAt.mono lb1_16 hb1_15
        have hg := Glob.mono lb1_16 hg
        refine a_en [(2, .int .i64 p2), (3, .int .i64 p3), (4, .pointer (some ⟨b0_0, 0, none⟩)), (10, .pointer (some ⟨b1_15, 0, none⟩)), (11, .pointer (some ⟨b1_16, 0, none⟩)), (12, .int .i64 x1_10.2.2)] ?_
        refine a_own [0] (by decide) (L' := [.blk M1_10 (Memo x1_10.1)]) rfl ?_
        refine a_then ?_
        refine a_seq ?_
        refine a_seq ?_
        refine a_region rfl ?_
        refine ap (y_move rfl) ?_
        refine ap (y_neq rfl rfl) ?_
        refine a_nil ?_
        refine a_en [(2, .int .i64 p2), (3, .int .i64 p3), (4, .pointer (some ⟨b0_0, 0, none⟩)), (10, .pointer (some ⟨b1_15, 0, none⟩)), (11, .pointer (some ⟨b1_16, 0, none⟩)), (12, .int .i64 x1_10.2.2), (31, .bool (x1_10.2.2 != 0))] ?_
        refine a_then ?_
        refine a_cond rfl (fun h_ => absurd (h_.symm.trans k1_10) (by decide)) (fun _ => ?_)
        refine a_skip ?_
        refine a_then ?_
        refine a_seq ?_
        refine a_seq ?_
        refine a_region rfl ?_
        obtain ⟨u4_0, h4_0, c4_0⟩ := PAt.one hb1_15
        refine ap (y_load_cells ty110 rfl (fun _ h => h.sub) rfl c4_0 (Rp.len h4_0)) ?_
        refine ap (y_move rfl) ?_
        obtain ⟨u4_2, h4_2, c4_2⟩ := PAt.one hb1_16
        refine ap (y_load_cells ty111 rfl (fun _ h => h.sub) rfl c4_2 (Rp.len h4_2)) ?_
        have m4_3 : Rp.rep Hb1_16 ([Value.int .i64 p2] ++ (u4_2)) (⟨p2, x1_10.2.1⟩ : TunnelDrying) := ⟨_, _, rfl, rfl, h4_2⟩
        refine ap (y_build (pl := [(0, 1), (1, 4)]) (xs := [.tmp 34, .tmp 35]) (cs := [Value.int .i64 p2] ++ (u4_2)) ty120 (.cons ⟨rfl, ty3.szOf⟩ (.cons ⟨rfl, ty111.szOf⟩ (All2.nil))) rfl rfl ⟨_, rfl, rfl, ⟨_, by show List.length _ = _; exact Rp.len h4_2, rfl, trivial⟩⟩ (by rw [Rp.len m4_3]; rfl) (by simp [Value.cells])) ?_
        obtain ⟨x4_4, q4_4, hm⟩ := bind_some hm
        refine a_cons (e_callM (i := 0) (all := [.agg u4_0.toArray, .agg ([Value.int .i64 p2] ++ (u4_2)).toArray]) trivial rfl Tryd.func104 rfl rfl rfl rfl rfl rfl (fun w hw ho hn => ok_104 hw h4_0 m4_3 hg ho hn q4_4) ?_)
        rintro _ H4_4 l4_4 ⟨rfl⟩
        have hb0_0 := PAt.mono l4_4 hb0_0
        have hb1_15 := PAt.mono l4_4 hb1_15
        have hb1_16 := PAt.mono l4_4 hb1_16
        have h4_0 := Rp.mono l4_4 h4_0
        have h4_2 := Rp.mono l4_4 h4_2
        have m4_3 := Rp.mono l4_4 m4_3
        have hg := Glob.mono l4_4 hg
        refine ap (y_not rfl) ?_
        refine a_nil ?_
        refine a_en [(2, .int .i64 p2), (3, .int .i64 p3), (4, .pointer (some ⟨b0_0, 0, none⟩)), (11, .pointer (some ⟨b1_16, 0, none⟩)), (38, .bool (!x4_4))] ?_
        refine a_then ?_
        refine a_cond rfl (fun k_1 => ?_) (fun k_1 => ?_)
        · have hm := cond_t k_1 hm
          refine a_seq ?_
          refine a_region rfl ?_
          refine ap (y_assign rfl) ?_
          refine ap (y_assign rfl) ?_
          refine a_nil ?_
          refine a_en [(8, .int .i64 0), (9, .int .i64 4)] ?_
          refine a_then ?_
          refine a_ret ?_
          refine a_then_ret ?_
          refine a_done (v := .tuple #[.int .i64 0, .int .i64 4]) (.inl rfl) rfl ?_ ?_
          · intro a_ w_ ha_ hs_; exact run_results (P := Tryd.prog) (fn := Tryd.f39) (rs := [.tmp 8, .tmp 9]) (vs := [.int .i64 0, .int .i64 4]) rfl (.cons (rv_tmp ha_ rfl) (.cons (rv_tmp ha_ rfl) (All2.nil)))
          · intro _ _; obtain rfl := Option.some.inj hm
            rfl
        · have hm := cond_f k_1 hm
          refine a_skip ?_
          refine a_then ?_
          refine a_seq ?_
          refine a_seq ?_
          refine a_region rfl ?_
          have h6_0 := TunnelBook.at_Frames hb0_0
          refine ap (y_fieldAddr fo25_1 rfl) ?_
          obtain ⟨v6_1, h6_1, c6_1⟩ := PAt.sl h6_0
          refine ap (y_load_one ty23 rfl (fun _ h => h.sub) rfl c6_1) ?_
          refine ap (y_move rfl) ?_
          obtain ⟨x6_3, q6_3, hm⟩ := bind_some hm
          obtain ⟨b6_3, o6_3, c6_3, e6_3, h6_3⟩ := Sl.elemZ 3 rfl h6_1 q6_3
          refine ap (y_index Tryd.underlying23 ty55 rfl e6_3 rfl (nth_in q6_3)) ?_
          have h6_4 := TunnelFrame.at_Stay h6_3
          refine ap (y_fieldAddr fo55_0 rfl) ?_
          obtain ⟨v6_5, h6_5, c6_5⟩ := PAt.sl h6_4
          refine ap (y_load_one ty26 rfl (fun _ h => h.sub) rfl c6_5) ?_
          refine ap (y_move rfl) ?_
          obtain ⟨x6_7, q6_7, hm⟩ := bind_some hm
          obtain ⟨b6_7, o6_7, c6_7, e6_7, h6_7⟩ := Sl.elemZ 1 rfl h6_5 q6_7
          refine ap (y_index Tryd.underlying26 ty3 rfl e6_7 rfl (nth_in q6_7)) ?_
          refine ap (y_load_int ty3 rfl (fun _ h => h.sub) rfl h6_7) ?_
          refine ap (y_sub rfl rfl) ?_
          refine ap (y_assign rfl) ?_
          refine a_nil ?_
          refine a_en [(2, .int .i64 p2), (3, .int .i64 p3), (4, .pointer (some ⟨b0_0, 0, none⟩)), (11, .pointer (some ⟨b1_16, 0, none⟩)), (13, .int .i64 (IntKind.i64.wrap (20 - x6_7)))] ?_
          refine a_then ?_
          obtain ⟨s_j2, hs_j2, hm_j2⟩ := bind_some hm
          refine a_join (fun a_ w_ => ∃ (Hj2 : Hp), ∃ (_ : HLe H4_4 Hj2), Sum.inr () = s_j2 ∧ Ag 89 [] [] a_ ∧ St (Kp.mk w H noX) Hj2 [.blk M1_10 (Memo x1_10.1)] w_) ?_ ?_
          · have hm := hs_j2
            refine a_block ?_
            refine a_loop (fun n_j3 a_ w_ => ∃ (Hj3 : Hp), ∃ (_ : HLe H4_4 Hj3), ∃ (yj3_13 : Int), tunnel_Longer_lj3 k p0 p2 p3 x1_10 n_j3 yj3_13 = some s_j2 ∧ Ag 89 [] [(2, .int .i64 p2), (3, .int .i64 p3), (4, .pointer (some ⟨b0_0, 0, none⟩)), (11, .pointer (some ⟨b1_16, 0, none⟩)), (13, .int .i64 yj3_13)] a_ ∧ St (Kp.mk w H noX) Hj3 [.blk M1_10 (Memo x1_10.1)] w_) k ?_ ?_
            · intro a_ w_ ha_ hs_
              exact ⟨H4_4, (HLe.refl _), IntKind.i64.wrap (20 - x6_7), hm, ha_.weaken ⟨rfl, rfl, rfl, rfl, rfl, trivial⟩, hs_.reix [0] (by decide)⟩
            · rintro (_ | n_j3) a_ w_ ⟨Hj3, lj3, yj3_13, hm, ha_, hs_⟩
              · rw [tunnel_Longer_lj3.eq_1] at hm; cases hm
              rw [tunnel_Longer_lj3.eq_2] at hm
              refine a_start ha_ hs_ ?_
              have hb0_0 := PAt.mono lj3 hb0_0
              have hb1_16 := PAt.mono lj3 hb1_16
              have hg := Glob.mono lj3 hg
              refine a_seq ?_
              refine a_seq ?_
              refine a_region rfl ?_
              refine ap (y_move rfl) ?_
              refine ap (y_gtr rfl rfl) ?_
              refine a_nil ?_
              refine a_en [(2, .int .i64 p2), (3, .int .i64 p3), (4, .pointer (some ⟨b0_0, 0, none⟩)), (11, .pointer (some ⟨b1_16, 0, none⟩)), (13, .int .i64 yj3_13), (50, .bool (decide (yj3_13 > 0)))] ?_
              refine a_then ?_
              refine a_cond rfl (fun k_4 => ?_) (fun k_4 => ?_)
              · have hm := cond_t k_4 hm
                refine a_skip ?_
                refine a_then ?_
                refine a_seq ?_
                refine a_block ?_
                refine a_seq ?_
                refine a_region rfl ?_
                obtain ⟨u9_0, h9_0, c9_0⟩ := PAt.one hb0_0
                refine ap (y_load_cells ty25 rfl (fun _ h => h.sub) rfl c9_0 (Rp.len h9_0)) ?_
                refine a_cons (e_alloc (cs := [.slice none 0 0, .slice none 0 0]) trivial rfl ty25 rfl ?_)
                intro b9_1
                refine a_cons (e_storeWhole (i := 0) (ds := u9_0) trivial ty25 rfl rfl rfl rfl (Rp.len h9_0) ((Rp.one h9_0)) rfl ?_)
                refine a_nil ?_
                obtain ⟨v9o9_1_0, v9o9_1_1, rfl, h9o9_1_0, h9o9_1_1⟩ := TunnelBook.opened h9_0
                refine a_en [(2, .int .i64 p2), (3, .int .i64 p3), (4, .pointer (some ⟨b0_0, 0, none⟩)), (11, .pointer (some ⟨b1_16, 0, none⟩)), (13, .int .i64 yj3_13), (14, .pointer (some ⟨b9_1, 0, none⟩))] ?_
                refine a_then ?_
                refine a_seq ?_
                refine a_region rfl ?_
                have h10_0 := TunnelBook.at_Frames hb0_0
                refine ap (y_fieldAddr fo25_1 rfl) ?_
                obtain ⟨v10_1, h10_1, c10_1⟩ := PAt.sl h10_0
                refine ap (y_load_one ty23 rfl (fun _ h => h.sub) rfl c10_1) ?_
                obtain ⟨x10_2, q10_2, hm⟩ := bind_some hm
                refine a_cons (e_callO (all := [v10_1]) trivial rfl Tryd.func105 rfl rfl rfl rfl rfl (fun w hw => ok_105 hw h10_1 q10_2) ?_)
                rintro v10_2 H10_2 _ l10_2 ⟨u10_2, rfl, h10_2⟩
                have hb0_0 := PAt.mono l10_2 hb0_0
                have hb1_16 := PAt.mono l10_2 hb1_16
                have h10_0 := PAt.mono l10_2 h10_0
                have h10_1 := Sl.mono l10_2 h10_1
                have h9o9_1_0 := Sl.mono l10_2 h9o9_1_0
                have h9o9_1_1 := Sl.mono l10_2 h9o9_1_1
                have hg := Glob.mono l10_2 hg
                refine ap (y_fieldAddr fo25_1 rfl) ?_
                refine a_cons (e_storeLR (i := 1) (j := 0) (cs' := [v9o9_1_0, v10_2]) trivial ty23 rfl rfl rfl rfl (Nat.le_of_ble_eq_true rfl) rfl ?_)
                refine a_nil ?_
                refine a_en [(2, .int .i64 p2), (3, .int .i64 p3), (4, .pointer (some ⟨b0_0, 0, none⟩)), (11, .pointer (some ⟨b1_16, 0, none⟩)), (13, .int .i64 yj3_13), (14, .pointer (some ⟨b9_1, 0, none⟩))] ?_
                refine a_then ?_
                refine a_seq ?_
                obtain ⟨x11_6, q11_6, hm⟩ := bind_some hm
                obtain ⟨x11_9, q11_9, hm⟩ := bind_some hm
                obtain ⟨x11_10, q11_10, hm⟩ := bind_some hm
                refine d_region (S := Sw H10_2 [.box b9_1 [v9o9_1_0, v10_2] 25]) (n := 13) (listed := (bits 13 0)) mixed (by kernel_rfl) rfl (by kernel_rfl) ?_
                refine dt 0 1 rfl trivial (y_fieldAddr fo25_1 rfl) (sw0 [1]) ?_
                refine dt 1 3 rfl trivial (y_load_box ty23 rfl (knows_sw (i := 0) rfl) rfl rfl) (sw0 [1]) ?_
                refine dt 2 7 rfl trivial (y_move rfl) (sw0 [1]) ?_
                have h11_3 := TunnelBook.at_Frames hb0_0
                refine dt 3 15 rfl trivial (y_fieldAddr fo25_1 rfl) (sw0 [1]) ?_
                obtain ⟨v11_4, h11_4, c11_4⟩ := PAt.sl h11_3
                refine dt 4 31 rfl trivial (y_load_one ty23 rfl (fun _ h => h.1) rfl c11_4) (sw0 [1]) ?_
                refine dt 5 63 rfl trivial (y_move rfl) (sw0 [1]) ?_
                obtain ⟨b11_6, o11_6, c11_6, e11_6, h11_6⟩ := Sl.elemZ 3 rfl h11_4 q11_6
                refine dt 6 127 rfl trivial (y_index Tryd.underlying23 ty55 rfl e11_6 rfl (nth_in q11_6)) (sw0 [1]) ?_
                have h11_7 := TunnelFrame.at_Stay h11_6
                refine dt 7 255 rfl trivial (y_fieldAddr fo55_0 rfl) (sw0 [1]) ?_
                obtain ⟨v11_8, h11_8, c11_8⟩ := PAt.sl h11_7
                refine dt 8 511 rfl trivial (y_load_one ty26 rfl (fun _ h => h.1) rfl c11_8) (sw0 [1]) ?_
                refine d1 9 rfl (e_callO (all := [v11_8]) trivial rfl Tryd.func106 rfl rfl rfl rfl rfl (fun w hw => ok_106 hw h11_8 q11_9) ?_)
                rintro v11_9 H11_9 _ l11_9 ⟨u11_9, rfl, h11_9⟩
                have hb0_0 := PAt.mono l11_9 hb0_0
                have hb1_16 := PAt.mono l11_9 hb1_16
                have h11_3 := PAt.mono l11_9 h11_3
                have h11_4 := Sl.mono l11_9 h11_4
                have h11_6 := PAt.mono l11_9 h11_6
                have h11_7 := PAt.mono l11_9 h11_7
                have h11_8 := Sl.mono l11_9 h11_8
                have h9o9_1_0 := Sl.mono l11_9 h9o9_1_0
                have h10_2 := RepL.mono l11_9 h10_2
                have hg := Glob.mono l11_9 hg
                refine dn 1023 (swl l11_9 [2]) ?_
                refine a_rowplace (i := 1) rfl rfl rfl h10_2 q11_10 ?_
                rintro b11_10 c11_10 rfl
                refine d1 10 rfl (p_pure trivial rfl rfl (y_index Tryd.underlying23 ty55 rfl rfl rfl (nth_in q11_10)) ?_)
                refine dn 2047 (swl l11_9 [2]) ?_
                refine d_weaken (S' := Sw H11_9 [.box b9_1 [v9o9_1_0, .slice (some ⟨b11_10, 0, none⟩) (x10_2).length c11_10] 25]) (sw_sw l11_9 [0] rfl) ?_
                refine dt 11 4095 rfl trivial (y_fieldAddr fo55_0 rfl) (sw0 [2]) ?_
                have hl11_12 : (0 + (p2).toNat * 3 + 0) + 1 ≤ (u10_2).length := by rw [RepL.len h10_2]; exact (PutL.at0 3 rfl q11_10 (TunnelFrame.put_Stay (s := x11_10) (Put.here (α := List Int) (H := H11_9) (ds := [.slice none 0 0]) (v := []) ⟨_, rfl, sl_nil _ none 0⟩))).le
                refine d1 12 rfl (e_storeRowP (i := 1) (j := 0) trivial ty26 rfl rfl rfl rfl (.inr trivial) hl11_12 ?_)
                rintro u11_12 hc11_12
                refine dn 8191 (sw0 [2]) ?_
                refine d_done (by kernel_rfl) ?_
                refine a_en [(2, .int .i64 p2), (3, .int .i64 p3), (4, .pointer (some ⟨b0_0, 0, none⟩)), (11, .pointer (some ⟨b1_16, 0, none⟩)), (13, .int .i64 yj3_13), (14, .pointer (some ⟨b9_1, 0, none⟩))] ?_
                refine a_then ?_
                refine a_seq ?_
                refine a_region rfl ?_
                refine ap (y_fieldAddr fo25_1 rfl) ?_
                refine ap (y_load_box ty23 rfl (knows_box (i := 2) rfl) rfl rfl) ?_
                refine ap (y_move rfl) ?_
                obtain ⟨x12_3, q12_3, hm⟩ := bind_some hm
                refine ap (y_index Tryd.underlying23 ty55 rfl rfl rfl (nth_in q12_3)) ?_
                refine ap (y_fieldAddr fo55_0 rfl) ?_
                refine ap (y_load_row (i := 1) ty26 rfl rfl rfl (take_get' hc11_12 hl11_12)) ?_
                refine ap (y_move rfl) ?_
                obtain ⟨x12_7, q12_7, hm⟩ := bind_some hm
                refine a_rowplace (i := 0) rfl rfl rfl h11_9 q12_7 ?_
                rintro b12_7 c12_7 rfl
                refine ap (y_index Tryd.underlying26 ty3 rfl rfl rfl (nth_in q12_7)) ?_
                refine ap (y_load_row (i := 0) ty3 rfl rfl rfl (repL_int_get h11_9 q12_7)) ?_
                refine ap (y_move rfl) ?_
                refine ap (y_add rfl rfl) ?_
                obtain ⟨x12_11, q12_11, hm⟩ := bind_some hm
                refine ap (y_index Tryd.underlying26 ty3 rfl rfl rfl (nth_in q12_11)) ?_
                refine a_cons (e_storeRow (α := Int) (i := 0) (ds := [.int .i64 (IntKind.i64.wrap (x12_7 + yj3_13))]) (l' := (x11_9).set (p3).toNat (IntKind.i64.wrap (x12_7 + yj3_13))) trivial ty3 rfl rfl rfl rfl rfl (cells_one_int _) rfl h11_9 (PutL.at00 1 rfl q12_11 rfl) ?_)
                intro u12_12 h12_12
                refine a_nil ?_
                refine a_en [(2, .int .i64 p2), (3, .int .i64 p3), (4, .pointer (some ⟨b0_0, 0, none⟩)), (11, .pointer (some ⟨b1_16, 0, none⟩)), (13, .int .i64 yj3_13), (14, .pointer (some ⟨b9_1, 0, none⟩))] ?_
                refine a_then ?_
                refine a_seq ?_
                obtain ⟨x13_5, q13_5, hm⟩ := bind_some hm
                refine d_region (S := Sw H11_9 [.box b9_1 [v9o9_1_0, .slice (some ⟨b11_10, 0, none⟩) (x10_2).length c11_10] 25]) (n := 6) (listed := (bits 6 0)) mixed (by kernel_rfl) rfl (by kernel_rfl) ?_
                refine dt 0 1 rfl trivial (y_load_boxagg ty25 rfl (knows_sw (i := 0) rfl) rfl rfl rfl) (sw0 [2]) ?_
                refine dt 2 5 rfl trivial (y_move rfl) (sw0 [2]) ?_
                obtain ⟨u13_3, h13_3, c13_3⟩ := PAt.one hb1_16
                refine dt 3 13 rfl trivial (y_load_cells ty111 rfl (fun _ h => h.1) rfl c13_3 (Rp.len h13_3)) (sw0 [2]) ?_
                have m13_4 : Rp.rep H11_9 ([Value.int .i64 p2] ++ (u13_3)) (⟨p2, x1_10.2.1⟩ : TunnelDrying) := ⟨_, _, rfl, rfl, h13_3⟩
                refine dt 4 29 rfl trivial (y_build (pl := [(0, 1), (1, 4)]) (xs := [.tmp 84, .tmp 85]) (cs := [Value.int .i64 p2] ++ (u13_3)) ty120 (.cons ⟨rfl, ty3.szOf⟩ (.cons ⟨rfl, ty111.szOf⟩ (All2.nil))) rfl rfl ⟨_, rfl, rfl, ⟨_, by show List.length _ = _; exact Rp.len h13_3, rfl, trivial⟩⟩ (by rw [Rp.len m13_4]; rfl) (by simp [Value.cells])) (sw0 [2]) ?_
                refine a_frow (i := 0) rfl rfl h12_12 rfl ?_
                intro H13_1q0pf l13_1q0pf h13_1q0pf
                have hb0_0 := PAt.mono l13_1q0pf hb0_0
                have hb1_16 := PAt.mono l13_1q0pf hb1_16
                have h9o9_1_0 := Sl.mono l13_1q0pf h9o9_1_0
                have h13_3 := Rp.mono l13_1q0pf h13_3
                have m13_4 := Rp.mono l13_1q0pf m13_4
                have h10_2 := RepL.mono l13_1q0pf h10_2
                have hg := Glob.mono l13_1q0pf hg
                have hs13_1q0 : RepL (α := TunnelFrame) H13_1q0pf u11_12 ((x10_2).set (p2).toNat ((⟨(x11_9).set (p3).toNat (IntKind.i64.wrap (x12_7 + yj3_13)), x11_10.Need⟩ : TunnelFrame))) := by rw [hc11_12]; exact (PutL.put (PutL.at0 3 rfl q11_10 (TunnelFrame.put_Stay (s := x11_10) (Put.here ⟨_, rfl, h13_1q0pf⟩))) _ h10_2)
                refine a_frow (i := 1) rfl rfl hs13_1q0 rfl ?_
                intro H13_1q0f l13_1q0f h13_1q0f
                have hb0_0 := PAt.mono l13_1q0f hb0_0
                have hb1_16 := PAt.mono l13_1q0f hb1_16
                have h9o9_1_0 := Sl.mono l13_1q0f h9o9_1_0
                have h13_3 := Rp.mono l13_1q0f h13_3
                have m13_4 := Rp.mono l13_1q0f m13_4
                have hg := Glob.mono l13_1q0f hg
                have m13_1g0l : Rp.rep H13_1q0f [v9o9_1_0, .slice (some ⟨b11_10, 0, none⟩) (x10_2).length c11_10] (⟨p0.Parts, (x10_2).set (p2).toNat ((⟨(x11_9).set (p3).toNat (IntKind.i64.wrap (x12_7 + yj3_13)), x11_10.Need⟩ : TunnelFrame))⟩ : TunnelBook) := ⟨_, _, rfl, ⟨_, rfl, h9o9_1_0⟩, ⟨_, rfl, h13_1q0f⟩⟩
                refine d1 1 rfl (e_callO (all := [.agg [v9o9_1_0, .slice (some ⟨b11_10, 0, none⟩) (x10_2).length c11_10].toArray]) trivial rfl Tryd.func95 rfl rfl rfl rfl rfl (fun w hw => ok_95 hw m13_1g0l ) ?_)
                rintro _ H13_1 _ l13_1 ⟨M13_1, rfl, rfl⟩
                have hb0_0 := PAt.mono l13_1 hb0_0
                have hb1_16 := PAt.mono l13_1 hb1_16
                have h9o9_1_0 := Sl.mono l13_1 h9o9_1_0
                have h13_1q0f := Sl.mono l13_1 h13_1q0f
                have h13_3 := Rp.mono l13_1 h13_3
                have m13_4 := Rp.mono l13_1 m13_4
                have hg := Glob.mono l13_1 hg
                have m13_1g0l := Rp.mono l13_1 m13_1g0l
                have m13_1 : Rp.rep (α := Bk (some M13_1)) H13_1 ([v9o9_1_0, .slice (some ⟨b11_10, 0, none⟩) (x10_2).length c11_10] ++ [Value.map (some M13_1)]) ((⟨p0.Parts, (x10_2).set (p2).toNat ((⟨(x11_9).set (p3).toNat (IntKind.i64.wrap (x12_7 + yj3_13)), x11_10.Need⟩ : TunnelFrame))⟩ : TunnelBook)) := ⟨_, rfl, m13_1g0l⟩
                refine dn 31 (swl (l13_1q0pf.trans (l13_1q0f.trans l13_1)) [3]) ?_
                refine d1 5 rfl (e_callM (i := 0) (all := [.agg ([v9o9_1_0, .slice (some ⟨b11_10, 0, none⟩) (x10_2).length c11_10] ++ [Value.map (some M13_1)]).toArray, .agg ([Value.int .i64 p2] ++ (u13_3)).toArray]) trivial rfl Tryd.func104 rfl rfl rfl rfl rfl rfl (fun w hw ho hn => ok_104 hw m13_1 m13_4 hg ho hn q13_5) ?_)
                rintro _ H13_5 l13_5 ⟨rfl⟩
                have hb0_0 := PAt.mono l13_5 hb0_0
                have hb1_16 := PAt.mono l13_5 hb1_16
                have h9o9_1_0 := Sl.mono l13_5 h9o9_1_0
                have h13_1q0f := Sl.mono l13_5 h13_1q0f
                have h13_3 := Rp.mono l13_5 h13_3
                have m13_4 := Rp.mono l13_5 m13_4
                have m13_1 := Rp.mono l13_5 m13_1
                have hg := Glob.mono l13_5 hg
                refine dn 63 (swl (l13_1q0pf.trans (l13_1q0f.trans (l13_1.trans l13_5))) [3]) ?_
                refine d_done (by kernel_rfl) ?_
                refine a_en [(2, .int .i64 p2), (3, .int .i64 p3), (4, .pointer (some ⟨b0_0, 0, none⟩)), (11, .pointer (some ⟨b1_16, 0, none⟩)), (13, .int .i64 yj3_13), (87, .bool x13_5)] ?_
                refine a_own [0, 4] (by decide) (L' := [.blk M13_1 (Memo ((⟨p0.Parts, (x10_2).set (p2).toNat ((⟨(x11_9).set (p3).toNat (IntKind.i64.wrap (x12_7 + yj3_13)), x11_10.Need⟩ : TunnelFrame))⟩ : TunnelBook))), .blk M1_10 (Memo x1_10.1)]) rfl ?_
                refine a_then ?_
                refine a_cond rfl (fun k_5 => ?_) (fun k_5 => ?_)
                · have hm := cond_t k_5 hm
                  refine a_seq ?_
                  refine a_region rfl ?_
                  refine ap (y_move rfl) ?_
                  refine ap (y_assign rfl) ?_
                  refine ap (y_assign rfl) ?_
                  refine a_nil ?_
                  refine a_en [(8, .int .i64 yj3_13), (9, .int .i64 0)] ?_
                  refine a_then ?_
                  refine a_ret ?_
                  refine a_block_ret ?_
                  refine a_then_ret ?_
                  refine a_then_ret ?_
                  refine a_block_ret ?_
                  refine a_cut_ret ?_
                  refine a_then_ret ?_
                  obtain rfl := Option.some.inj hm
                  have hm := hm_j2
                  try dsimp only at hm
                  refine a_done (v := .tuple #[.int .i64 yj3_13, .int .i64 0]) (.inl rfl) rfl ?_ ?_
                  · intro a_ w_ ha_ hs_; exact run_results (P := Tryd.prog) (fn := Tryd.f39) (rs := [.tmp 8, .tmp 9]) (vs := [.int .i64 yj3_13, .int .i64 0]) rfl (.cons (rv_tmp ha_ rfl) (.cons (rv_tmp ha_ rfl) (All2.nil)))
                  · intro _ _; obtain rfl := Option.some.inj hm
                    rfl
                · have hm := cond_f k_5 hm
                  refine a_skip ?_
                  refine a_block_normal ?_
                  refine a_then ?_
                  refine a_region rfl ?_
                  refine ap (y_move rfl) ?_
                  refine ap (y_sub rfl rfl) ?_
                  refine ap (y_assign rfl) ?_
                  refine a_nil ?_
                  refine a_en [(2, .int .i64 p2), (3, .int .i64 p3), (4, .pointer (some ⟨b0_0, 0, none⟩)), (11, .pointer (some ⟨b1_16, 0, none⟩)), (13, .int .i64 (IntKind.i64.wrap (yj3_13 - 1)))] ?_
                  refine a_then ?_
                  intro a_ w_ ha_ hs_
                  exact ⟨n_j3, Nat.lt_succ_self _, H13_5, (lj3.trans (l10_2.trans (l11_9.trans (l13_1q0pf.trans (l13_1q0f.trans (l13_1.trans l13_5)))))), IntKind.i64.wrap (yj3_13 - 1), hm, ha_.weaken ⟨rfl, rfl, rfl, rfl, rfl, trivial⟩, hs_.reix [1] (by decide)⟩
              · have hm := cond_f k_4 hm
                refine a_exit ?_
                refine a_then_exit ?_
                refine a_then_exit ?_
                refine a_block_hit ?_
                refine a_cut ?_
                intro a_ w_ ha_ hs_
                exact ⟨Hj3, lj3, Option.some.inj hm, ha_.weaken trivial, hs_.reix [0] (by decide)⟩
          · have hm := hm_j2
            rintro a_ w_ ⟨Hj2, lj2, rfl, ha_, hs_⟩
            try dsimp only at hm
            refine a_start ha_ hs_ ?_
            have hg := Glob.mono lj2 hg
            refine a_then ?_
            refine a_seq ?_
            refine a_region rfl ?_
            refine ap (y_assign rfl) ?_
            refine ap (y_assign rfl) ?_
            refine a_nil ?_
            refine a_then ?_
            refine a_ret ?_
            refine a_done (v := .tuple #[.int .i64 0, .int .i64 0]) (.inl rfl) rfl ?_ ?_
            · intro a_ w_ ha_ hs_; exact run_results (P := Tryd.prog) (fn := Tryd.f39) (rs := [.tmp 8, .tmp 9]) (vs := [.int .i64 0, .int .i64 0]) rfl (.cons (rv_tmp ha_ rfl) (.cons (rv_tmp ha_ rfl) (All2.nil)))
            · intro _ _; obtain rfl := Option.some.inj hm
              rfl
      have N1_1 : ∀ (Hn1_9 : Hp) (ln1_9 : HLe Hb0_0 Hn1_9) (b1_15 : Nat) (b1_16 : Nat) (cs1_10 : List Value) (M1_10 : Nat) (cb1_10 : List Value) (hc1_10 : Rp.rep (α := Arr 4 Int) Hn1_9 cs1_10 x1_10.2.1) (hb1_10 : Rp.rep (α := Bk (some M1_10)) Hn1_9 cb1_10 x1_10.1) (mz1_16 : Rp.rep (α := Arr 4 Int) Hn1_9 [.int .i64 0, .int .i64 0, .int .i64 0, .int .i64 0] [0, 0, 0, 0]), At 89 [] (Kp.mk w H noX) [(2, .int .i64 p2), (3, .int .i64 p3), (4, .pointer (some ⟨b0_0, 0, none⟩)), (10, .pointer (some ⟨b1_15, 0, none⟩)), (11, .pointer (some ⟨b1_16, 0, none⟩)), (28, .agg cs1_10.toArray), (29, .int .i64 x1_10.2.2)] Hn1_9 ([.blk M1_10 (Memo x1_10.1), .box b1_15 cb1_10 110, .box b1_16 [.int .i64 0, .int .i64 0, .int .i64 0, .int .i64 0] 111]) (U1 (Sw Hn1_9 []) 2 (bits 20 262143)) := by
        intro Hn1_9 ln1_9 b1_15 b1_16 cs1_10 M1_10 cb1_10 hc1_10 hb1_10 mz1_16
        refine d_fwd hU1 ?_
        have hb0_0 := PAt.mono ln1_9 hb0_0
        have hg := Glob.mono ln1_9 hg
        refine d1 18 rfl (e_storeWhole (i := 2) (ds := cs1_10) trivial ty111 rfl rfl rfl rfl (Rp.len hc1_10) ((Rp.one hc1_10)) rfl ?_)
        refine dn 524287 (sw0 []) ?_
        exact d_edge hU1 (N1_0 Hn1_9 ln1_9 b1_15 b1_16 M1_10 cb1_10 cs1_10 hb1_10 hc1_10) ⟨rfl, rfl, rfl, rfl, rfl, rfl, trivial⟩ [0, 1, 2] (by decide) rfl (fun _ h => h)
      have N1_2 : ∀ (Hn1_15 : Hp) (ln1_15 : HLe Hb0_0 Hn1_15) (b1_15 : Nat) (b1_16 : Nat) (cb1_10 : List Value) (M1_10 : Nat) (cs1_10 : List Value) (hb1_10 : Rp.rep (α := Bk (some M1_10)) Hn1_15 cb1_10 x1_10.1) (hc1_10 : Rp.rep (α := Arr 4 Int) Hn1_15 cs1_10 x1_10.2.1) (mz1_16 : Rp.rep (α := Arr 4 Int) Hn1_15 [.int .i64 0, .int .i64 0, .int .i64 0, .int .i64 0] [0, 0, 0, 0]), At 89 [] (Kp.mk w H noX) [(2, .int .i64 p2), (3, .int .i64 p3), (4, .pointer (some ⟨b0_0, 0, none⟩)), (10, .pointer (some ⟨b1_15, 0, none⟩)), (11, .pointer (some ⟨b1_16, 0, none⟩)), (27, .agg cb1_10.toArray), (28, .agg cs1_10.toArray), (29, .int .i64 x1_10.2.2)] Hn1_15 ([.blk M1_10 (Memo x1_10.1), .box b1_15 [.slice none 0 0, .slice none 0 0, .map none] 110, .box b1_16 [.int .i64 0, .int .i64 0, .int .i64 0, .int .i64 0] 111]) (U1 (Sw Hn1_15 []) 3 (bits 20 131071)) := by
        intro Hn1_15 ln1_15 b1_15 b1_16 cb1_10 M1_10 cs1_10 hb1_10 hc1_10 mz1_16
        refine d_fwd hU1 ?_
        have hb0_0 := PAt.mono ln1_15 hb0_0
        have hg := Glob.mono ln1_15 hg
        refine d1 17 rfl (e_storeWhole (i := 1) (ds := cb1_10) trivial ty110 rfl rfl rfl rfl (Rp.len hb1_10) ((Rp.one hb1_10)) rfl ?_)
        refine dn 262143 (sw0 []) ?_
        exact d_edge hU1 (N1_1 Hn1_15 ln1_15 b1_15 b1_16 cs1_10 M1_10 cb1_10 hc1_10 hb1_10 mz1_16) ⟨rfl, rfl, rfl, rfl, rfl, rfl, rfl, trivial⟩ [0, 1, 2] (by decide) rfl (fun _ h => h)
      have N1_3 : ∀ (Hn1_25 : Hp) (ln1_25 : HLe Hb0_0 Hn1_25) (b1_15 : Nat) (cb1_10 : List Value) (M1_10 : Nat) (cs1_10 : List Value) (hb1_10 : Rp.rep (α := Bk (some M1_10)) Hn1_25 cb1_10 x1_10.1) (hc1_10 : Rp.rep (α := Arr 4 Int) Hn1_25 cs1_10 x1_10.2.1), At 89 [] (Kp.mk w H noX) [(2, .int .i64 p2), (3, .int .i64 p3), (4, .pointer (some ⟨b0_0, 0, none⟩)), (10, .pointer (some ⟨b1_15, 0, none⟩)), (27, .agg cb1_10.toArray), (28, .agg cs1_10.toArray), (29, .int .i64 x1_10.2.2)] Hn1_25 ([.blk M1_10 (Memo x1_10.1), .box b1_15 [.slice none 0 0, .slice none 0 0, .map none] 110]) (U1 (Sw Hn1_25 []) 4 (bits 20 65535)) := by
        intro Hn1_25 ln1_25 b1_15 cb1_10 M1_10 cs1_10 hb1_10 hc1_10
        refine d_fwd hU1 ?_
        have hb0_0 := PAt.mono ln1_25 hb0_0
        have hg := Glob.mono ln1_25 hg
        refine d1 16 rfl (e_alloc (cs := [.int .i64 0, .int .i64 0, .int .i64 0, .int .i64 0]) trivial rfl ty111 rfl ?_)
        intro b1_16
        have mz1_16 : Rp.rep (α := Arr 4 Int) Hn1_25 [.int .i64 0, .int .i64 0, .int .i64 0, .int .i64 0] [0, 0, 0, 0] := ⟨(RepL.cons (c := [_]) rfl (RepL.cons (c := [_]) rfl (RepL.cons (c := [_]) rfl (RepL.cons (c := [_]) rfl RepL.nil)))), rfl⟩
        refine dn 131071 (sw0 []) ?_
        exact d_edge hU1 (N1_2 Hn1_25 ln1_25 b1_15 b1_16 cb1_10 M1_10 cs1_10 hb1_10 hc1_10 mz1_16) ⟨rfl, rfl, rfl, rfl, rfl, rfl, rfl, rfl, trivial⟩ [1, 2, 0] (by decide) rfl (fun _ h => h)
      have N1_4 : ∀ (Hn1_26 : Hp) (ln1_26 : HLe Hb0_0 Hn1_26) (b1_16 : Nat) (cb1_10 : List Value) (M1_10 : Nat) (cs1_10 : List Value) (hb1_10 : Rp.rep (α := Bk (some M1_10)) Hn1_26 cb1_10 x1_10.1) (hc1_10 : Rp.rep (α := Arr 4 Int) Hn1_26 cs1_10 x1_10.2.1) (mz1_16 : Rp.rep (α := Arr 4 Int) Hn1_26 [.int .i64 0, .int .i64 0, .int .i64 0, .int .i64 0] [0, 0, 0, 0]), At 89 [] (Kp.mk w H noX) [(2, .int .i64 p2), (3, .int .i64 p3), (4, .pointer (some ⟨b0_0, 0, none⟩)), (11, .pointer (some ⟨b1_16, 0, none⟩)), (27, .agg cb1_10.toArray), (28, .agg cs1_10.toArray), (29, .int .i64 x1_10.2.2)] Hn1_26 ([.blk M1_10 (Memo x1_10.1), .box b1_16 [.int .i64 0, .int .i64 0, .int .i64 0, .int .i64 0] 111]) (U1 (Sw Hn1_26 []) 4 (bits 20 98303)) := by
        intro Hn1_26 ln1_26 b1_16 cb1_10 M1_10 cs1_10 hb1_10 hc1_10 mz1_16
        refine d_fwd hU1 ?_
        have hb0_0 := PAt.mono ln1_26 hb0_0
        have hg := Glob.mono ln1_26 hg
        refine d1 15 rfl (e_alloc (cs := [.slice none 0 0, .slice none 0 0, .map none]) trivial rfl ty110 rfl ?_)
        intro b1_15
        refine dn 131071 (sw0 []) ?_
        exact d_edge hU1 (N1_2 Hn1_26 ln1_26 b1_15 b1_16 cb1_10 M1_10 cs1_10 hb1_10 hc1_10 mz1_16) ⟨rfl, rfl, rfl, rfl, rfl, rfl, rfl, rfl, trivial⟩ [1, 0, 2] (by decide) rfl (fun _ h => h)
      have N1_5 : ∀ (Hn1_8 : Hp) (ln1_8 : HLe Hb0_0 Hn1_8) (b1_15 : Nat) (b1_16 : Nat) (cb1_10 : List Value) (M1_10 : Nat) (cs1_10 : List Value) (hb1_10 : Rp.rep (α := Bk (some M1_10)) Hn1_8 cb1_10 x1_10.1) (hc1_10 : Rp.rep (α := Arr 4 Int) Hn1_8 cs1_10 x1_10.2.1) (mz1_16 : Rp.rep (α := Arr 4 Int) Hn1_8 [.int .i64 0, .int .i64 0, .int .i64 0, .int .i64 0] [0, 0, 0, 0]), At 89 [] (Kp.mk w H noX) [(2, .int .i64 p2), (3, .int .i64 p3), (4, .pointer (some ⟨b0_0, 0, none⟩)), (10, .pointer (some ⟨b1_15, 0, none⟩)), (11, .pointer (some ⟨b1_16, 0, none⟩)), (26, .tuple #[.agg cb1_10.toArray, .agg cs1_10.toArray, .int .i64 x1_10.2.2])] Hn1_8 ([.blk M1_10 (Memo x1_10.1), .box b1_15 [.slice none 0 0, .slice none 0 0, .map none] 110, .box b1_16 [.int .i64 0, .int .i64 0, .int .i64 0, .int .i64 0] 111]) (U1 (Sw Hn1_8 []) 7 (bits 20 100351)) := by
        intro Hn1_8 ln1_8 b1_15 b1_16 cb1_10 M1_10 cs1_10 hb1_10 hc1_10 mz1_16
        refine d_fwd hU1 ?_
        have hb0_0 := PAt.mono ln1_8 hb0_0
        have hg := Glob.mono ln1_8 hg
        refine dt 11 102399 rfl trivial (y_move rfl) (sw0 []) ?_
        refine dt 12 106495 rfl trivial (y_extract rfl rfl) (sw0 []) ?_
        refine dt 13 114687 rfl trivial (y_extract rfl rfl) (sw0 []) ?_
        refine dt 14 131071 rfl trivial (y_extract rfl rfl) (sw0 []) ?_
        refine d1 17 rfl (e_storeWhole (i := 1) (ds := cb1_10) trivial ty110 rfl rfl rfl rfl (Rp.len hb1_10) ((Rp.one hb1_10)) rfl ?_)
        refine dn 262143 (sw0 []) ?_
        exact d_edge hU1 (N1_1 Hn1_8 ln1_8 b1_15 b1_16 cs1_10 M1_10 cb1_10 hc1_10 hb1_10 mz1_16) ⟨rfl, rfl, rfl, rfl, rfl, rfl, rfl, trivial⟩ [0, 1, 2] (by decide) rfl (fun _ h => h)
      have N1_6 : ∀ (Hn1_18 : Hp) (ln1_18 : HLe Hb0_0 Hn1_18) (b1_15 : Nat) (cb1_10 : List Value) (M1_10 : Nat) (cs1_10 : List Value) (hb1_10 : Rp.rep (α := Bk (some M1_10)) Hn1_18 cb1_10 x1_10.1) (hc1_10 : Rp.rep (α := Arr 4 Int) Hn1_18 cs1_10 x1_10.2.1), At 89 [] (Kp.mk w H noX) [(2, .int .i64 p2), (3, .int .i64 p3), (4, .pointer (some ⟨b0_0, 0, none⟩)), (10, .pointer (some ⟨b1_15, 0, none⟩)), (26, .tuple #[.agg cb1_10.toArray, .agg cs1_10.toArray, .int .i64 x1_10.2.2])] Hn1_18 ([.blk M1_10 (Memo x1_10.1), .box b1_15 [.slice none 0 0, .slice none 0 0, .map none] 110]) (U1 (Sw Hn1_18 []) 8 (bits 20 34815)) := by
        intro Hn1_18 ln1_18 b1_15 cb1_10 M1_10 cs1_10 hb1_10 hc1_10
        refine d_fwd hU1 ?_
        have hb0_0 := PAt.mono ln1_18 hb0_0
        have hg := Glob.mono ln1_18 hg
        refine dt 11 36863 rfl trivial (y_move rfl) (sw0 []) ?_
        refine dt 12 40959 rfl trivial (y_extract rfl rfl) (sw0 []) ?_
        refine dt 13 49151 rfl trivial (y_extract rfl rfl) (sw0 []) ?_
        refine dt 14 65535 rfl trivial (y_extract rfl rfl) (sw0 []) ?_
        refine d1 16 rfl (e_alloc (cs := [.int .i64 0, .int .i64 0, .int .i64 0, .int .i64 0]) trivial rfl ty111 rfl ?_)
        intro b1_16
        have mz1_16 : Rp.rep (α := Arr 4 Int) Hn1_18 [.int .i64 0, .int .i64 0, .int .i64 0, .int .i64 0] [0, 0, 0, 0] := ⟨(RepL.cons (c := [_]) rfl (RepL.cons (c := [_]) rfl (RepL.cons (c := [_]) rfl (RepL.cons (c := [_]) rfl RepL.nil)))), rfl⟩
        refine dn 131071 (sw0 []) ?_
        exact d_edge hU1 (N1_2 Hn1_18 ln1_18 b1_15 b1_16 cb1_10 M1_10 cs1_10 hb1_10 hc1_10 mz1_16) ⟨rfl, rfl, rfl, rfl, rfl, rfl, rfl, rfl, trivial⟩ [1, 2, 0] (by decide) rfl (fun _ h => h)
      have N1_7 : ∀ (Hn1_13 : Hp) (ln1_13 : HLe Hb0_0 Hn1_13) (b1_16 : Nat) (cb1_10 : List Value) (M1_10 : Nat) (cs1_10 : List Value) (hb1_10 : Rp.rep (α := Bk (some M1_10)) Hn1_13 cb1_10 x1_10.1) (hc1_10 : Rp.rep (α := Arr 4 Int) Hn1_13 cs1_10 x1_10.2.1) (mz1_16 : Rp.rep (α := Arr 4 Int) Hn1_13 [.int .i64 0, .int .i64 0, .int .i64 0, .int .i64 0] [0, 0, 0, 0]), At 89 [] (Kp.mk w H noX) [(2, .int .i64 p2), (3, .int .i64 p3), (4, .pointer (some ⟨b0_0, 0, none⟩)), (11, .pointer (some ⟨b1_16, 0, none⟩)), (26, .tuple #[.agg cb1_10.toArray, .agg cs1_10.toArray, .int .i64 x1_10.2.2])] Hn1_13 ([.blk M1_10 (Memo x1_10.1), .box b1_16 [.int .i64 0, .int .i64 0, .int .i64 0, .int .i64 0] 111]) (U1 (Sw Hn1_13 []) 8 (bits 20 67583)) := by
        intro Hn1_13 ln1_13 b1_16 cb1_10 M1_10 cs1_10 hb1_10 hc1_10 mz1_16
        refine d_fwd hU1 ?_
        have hb0_0 := PAt.mono ln1_13 hb0_0
        have hg := Glob.mono ln1_13 hg
        refine dt 11 69631 rfl trivial (y_move rfl) (sw0 []) ?_
        refine dt 12 73727 rfl trivial (y_extract rfl rfl) (sw0 []) ?_
        refine dt 13 81919 rfl trivial (y_extract rfl rfl) (sw0 []) ?_
        refine dt 14 98303 rfl trivial (y_extract rfl rfl) (sw0 []) ?_
        refine d1 15 rfl (e_alloc (cs := [.slice none 0 0, .slice none 0 0, .map none]) trivial rfl ty110 rfl ?_)
        intro b1_15
        refine dn 131071 (sw0 []) ?_
        exact d_edge hU1 (N1_2 Hn1_13 ln1_13 b1_15 b1_16 cb1_10 M1_10 cs1_10 hb1_10 hc1_10 mz1_16) ⟨rfl, rfl, rfl, rfl, rfl, rfl, rfl, rfl, trivial⟩ [1, 0, 2] (by decide) rfl (fun _ h => h)
      have N1_8 : ∀ (Hn1_14 : Hp) (ln1_14 : HLe Hb0_0 Hn1_14) (b1_15 : Nat) (b1_16 : Nat) (u1_0 : List Value) (h1_0 : Rp.rep (α := TunnelBook) Hn1_14 u1_0 p0) (mz1_16 : Rp.rep (α := Arr 4 Int) Hn1_14 [.int .i64 0, .int .i64 0, .int .i64 0, .int .i64 0] [0, 0, 0, 0]), At 89 [] (Kp.mk w H noX) [(2, .int .i64 p2), (3, .int .i64 p3), (4, .pointer (some ⟨b0_0, 0, none⟩)), (10, .pointer (some ⟨b1_15, 0, none⟩)), (11, .pointer (some ⟨b1_16, 0, none⟩)), (16, .agg u1_0.toArray), (17, v1), (25, .bool x1_8)] Hn1_14 ([.box b1_15 [.slice none 0 0, .slice none 0 0, .map none] 110, .box b1_16 [.int .i64 0, .int .i64 0, .int .i64 0, .int .i64 0] 111]) (U1 (Sw Hn1_14 []) 8 (bits 20 99327)) := by
        intro Hn1_14 ln1_14 b1_15 b1_16 u1_0 h1_0 mz1_16
        refine d_fwd hU1 ?_
        have hb0_0 := PAt.mono ln1_14 hb0_0
        have h1 := Sl.mono ln1_14 h1
        have hg := Glob.mono ln1_14 hg
        refine d1 10 rfl (e_callO (all := [.agg u1_0.toArray, v1, .bool x1_8]) trivial rfl Tryd.func80 rfl rfl rfl rfl rfl (fun w hw => ok_80 hw h1_0 h1 q1_10) ?_)
        rintro _ H1_10 _ l1_10 ⟨cb1_10, cs1_10, mm1_10, rfl, hb1_10, hc1_10, hd1_10⟩
        rcases hd1_10 with ⟨rfl, he1_10, rfl⟩ | ⟨M1_10, rfl, he1_10, rfl⟩
        · exact absurd k1_10 (by simp [he1_10])
        have hb0_0 := PAt.mono l1_10 hb0_0
        have h1_0 := Rp.mono l1_10 h1_0
        have h1 := Sl.mono l1_10 h1
        have mz1_16 := Rp.mono l1_10 mz1_16
        have hg := Glob.mono l1_10 hg
        refine dn 100351 (swl l1_10 []) ?_
        exact d_edge hU1 (N1_5 H1_10 (ln1_14.trans l1_10) b1_15 b1_16 cb1_10 M1_10 cs1_10 hb1_10 hc1_10 mz1_16) ⟨rfl, rfl, rfl, rfl, rfl, rfl, trivial⟩ [0, 1, 2] (by decide) rfl (sw_sw l1_10 [] rfl)
      have N1_9 : ∀ (Hn1_22 : Hp) (ln1_22 : HLe Hb0_0 Hn1_22) (cb1_10 : List Value) (M1_10 : Nat) (cs1_10 : List Value) (hb1_10 : Rp.rep (α := Bk (some M1_10)) Hn1_22 cb1_10 x1_10.1) (hc1_10 : Rp.rep (α := Arr 4 Int) Hn1_22 cs1_10 x1_10.2.1), At 89 [] (Kp.mk w H noX) [(2, .int .i64 p2), (3, .int .i64 p3), (4, .pointer (some ⟨b0_0, 0, none⟩)), (26, .tuple #[.agg cb1_10.toArray, .agg cs1_10.toArray, .int .i64 x1_10.2.2])] Hn1_22 [.blk M1_10 (Memo x1_10.1)] (U1 (Sw Hn1_22 []) 9 (bits 20 2047)) := by
        intro Hn1_22 ln1_22 cb1_10 M1_10 cs1_10 hb1_10 hc1_10
        refine d_fwd hU1 ?_
        have hb0_0 := PAt.mono ln1_22 hb0_0
        have hg := Glob.mono ln1_22 hg
        refine dt 11 4095 rfl trivial (y_move rfl) (sw0 []) ?_
        refine dt 12 8191 rfl trivial (y_extract rfl rfl) (sw0 []) ?_
        refine dt 13 16383 rfl trivial (y_extract rfl rfl) (sw0 []) ?_
        refine dt 14 32767 rfl trivial (y_extract rfl rfl) (sw0 []) ?_
        refine d_all (rs := [15, 16]) (by kernel_rfl) rfl ⟨⟨_, rfl, ?_⟩, ⟨_, rfl, ?_⟩, trivial⟩
        · refine e_alloc (cs := [.slice none 0 0, .slice none 0 0, .map none]) trivial rfl ty110 rfl ?_
          intro b1_15
          refine dn 65535 (sw0 []) ?_
          exact d_edge hU1 (N1_3 Hn1_22 ln1_22 b1_15 cb1_10 M1_10 cs1_10 hb1_10 hc1_10) ⟨rfl, rfl, rfl, rfl, rfl, rfl, rfl, trivial⟩ [1, 0] (by decide) rfl (fun _ h => h)
        · refine e_alloc (cs := [.int .i64 0, .int .i64 0, .int .i64 0, .int .i64 0]) trivial rfl ty111 rfl ?_
          intro b1_16
          have mz1_16 : Rp.rep (α := Arr 4 Int) Hn1_22 [.int .i64 0, .int .i64 0, .int .i64 0, .int .i64 0] [0, 0, 0, 0] := ⟨(RepL.cons (c := [_]) rfl (RepL.cons (c := [_]) rfl (RepL.cons (c := [_]) rfl (RepL.cons (c := [_]) rfl RepL.nil)))), rfl⟩
          refine dn 98303 (sw0 []) ?_
          exact d_edge hU1 (N1_4 Hn1_22 ln1_22 b1_16 cb1_10 M1_10 cs1_10 hb1_10 hc1_10 mz1_16) ⟨rfl, rfl, rfl, rfl, rfl, rfl, rfl, trivial⟩ [1, 0] (by decide) rfl (fun _ h => h)
      have N1_10 : ∀ (Hn1_23 : Hp) (ln1_23 : HLe Hb0_0 Hn1_23) (b1_15 : Nat) (u1_0 : List Value) (h1_0 : Rp.rep (α := TunnelBook) Hn1_23 u1_0 p0), At 89 [] (Kp.mk w H noX) [(2, .int .i64 p2), (3, .int .i64 p3), (4, .pointer (some ⟨b0_0, 0, none⟩)), (10, .pointer (some ⟨b1_15, 0, none⟩)), (16, .agg u1_0.toArray), (17, v1), (25, .bool x1_8)] Hn1_23 ([.box b1_15 [.slice none 0 0, .slice none 0 0, .map none] 110]) (U1 (Sw Hn1_23 []) 9 (bits 20 33791)) := by
        intro Hn1_23 ln1_23 b1_15 u1_0 h1_0
        refine d_fwd hU1 ?_
        have hb0_0 := PAt.mono ln1_23 hb0_0
        have h1 := Sl.mono ln1_23 h1
        have hg := Glob.mono ln1_23 hg
        refine d_all (rs := [10, 16]) (by kernel_rfl) rfl ⟨⟨_, rfl, ?_⟩, ⟨_, rfl, ?_⟩, trivial⟩
        · refine e_callO (all := [.agg u1_0.toArray, v1, .bool x1_8]) trivial rfl Tryd.func80 rfl rfl rfl rfl rfl (fun w hw => ok_80 hw h1_0 h1 q1_10) ?_
          rintro _ H1_10 _ l1_10 ⟨cb1_10, cs1_10, mm1_10, rfl, hb1_10, hc1_10, hd1_10⟩
          rcases hd1_10 with ⟨rfl, he1_10, rfl⟩ | ⟨M1_10, rfl, he1_10, rfl⟩
          · exact absurd k1_10 (by simp [he1_10])
          have hb0_0 := PAt.mono l1_10 hb0_0
          have h1_0 := Rp.mono l1_10 h1_0
          have h1 := Sl.mono l1_10 h1
          have hg := Glob.mono l1_10 hg
          refine dn 34815 (swl l1_10 []) ?_
          exact d_edge hU1 (N1_6 H1_10 (ln1_23.trans l1_10) b1_15 cb1_10 M1_10 cs1_10 hb1_10 hc1_10) ⟨rfl, rfl, rfl, rfl, rfl, trivial⟩ [0, 1] (by decide) rfl (sw_sw l1_10 [] rfl)
        · refine e_alloc (cs := [.int .i64 0, .int .i64 0, .int .i64 0, .int .i64 0]) trivial rfl ty111 rfl ?_
          intro b1_16
          have mz1_16 : Rp.rep (α := Arr 4 Int) Hn1_23 [.int .i64 0, .int .i64 0, .int .i64 0, .int .i64 0] [0, 0, 0, 0] := ⟨(RepL.cons (c := [_]) rfl (RepL.cons (c := [_]) rfl (RepL.cons (c := [_]) rfl (RepL.cons (c := [_]) rfl RepL.nil)))), rfl⟩
          refine dn 99327 (sw0 []) ?_
          exact d_edge hU1 (N1_8 Hn1_23 ln1_23 b1_15 b1_16 u1_0 h1_0 mz1_16) ⟨rfl, rfl, rfl, rfl, rfl, rfl, rfl, rfl, trivial⟩ [1, 0] (by decide) rfl (fun _ h => h)
      have N1_11 : ∀ (Hn1_24 : Hp) (ln1_24 : HLe Hb0_0 Hn1_24) (b1_16 : Nat) (u1_0 : List Value) (h1_0 : Rp.rep (α := TunnelBook) Hn1_24 u1_0 p0) (mz1_16 : Rp.rep (α := Arr 4 Int) Hn1_24 [.int .i64 0, .int .i64 0, .int .i64 0, .int .i64 0] [0, 0, 0, 0]), At 89 [] (Kp.mk w H noX) [(2, .int .i64 p2), (3, .int .i64 p3), (4, .pointer (some ⟨b0_0, 0, none⟩)), (11, .pointer (some ⟨b1_16, 0, none⟩)), (16, .agg u1_0.toArray), (17, v1), (25, .bool x1_8)] Hn1_24 ([.box b1_16 [.int .i64 0, .int .i64 0, .int .i64 0, .int .i64 0] 111]) (U1 (Sw Hn1_24 []) 9 (bits 20 66559)) := by
        intro Hn1_24 ln1_24 b1_16 u1_0 h1_0 mz1_16
        refine d_fwd hU1 ?_
        have hb0_0 := PAt.mono ln1_24 hb0_0
        have h1 := Sl.mono ln1_24 h1
        have hg := Glob.mono ln1_24 hg
        refine d_all (rs := [10, 15]) (by kernel_rfl) rfl ⟨⟨_, rfl, ?_⟩, ⟨_, rfl, ?_⟩, trivial⟩
        · refine e_callO (all := [.agg u1_0.toArray, v1, .bool x1_8]) trivial rfl Tryd.func80 rfl rfl rfl rfl rfl (fun w hw => ok_80 hw h1_0 h1 q1_10) ?_
          rintro _ H1_10 _ l1_10 ⟨cb1_10, cs1_10, mm1_10, rfl, hb1_10, hc1_10, hd1_10⟩
          rcases hd1_10 with ⟨rfl, he1_10, rfl⟩ | ⟨M1_10, rfl, he1_10, rfl⟩
          · exact absurd k1_10 (by simp [he1_10])
          have hb0_0 := PAt.mono l1_10 hb0_0
          have h1_0 := Rp.mono l1_10 h1_0
          have h1 := Sl.mono l1_10 h1
          have mz1_16 := Rp.mono l1_10 mz1_16
          have hg := Glob.mono l1_10 hg
          refine dn 67583 (swl l1_10 []) ?_
          exact d_edge hU1 (N1_7 H1_10 (ln1_24.trans l1_10) b1_16 cb1_10 M1_10 cs1_10 hb1_10 hc1_10 mz1_16) ⟨rfl, rfl, rfl, rfl, rfl, trivial⟩ [0, 1] (by decide) rfl (sw_sw l1_10 [] rfl)
        · refine e_alloc (cs := [.slice none 0 0, .slice none 0 0, .map none]) trivial rfl ty110 rfl ?_
          intro b1_15
          refine dn 99327 (sw0 []) ?_
          exact d_edge hU1 (N1_8 Hn1_24 ln1_24 b1_15 b1_16 u1_0 h1_0 mz1_16) ⟨rfl, rfl, rfl, rfl, rfl, rfl, rfl, rfl, trivial⟩ [0, 1] (by decide) rfl (fun _ h => h)
      have N1_12 : ∀ (Hn1_7 : Hp) (ln1_7 : HLe Hb0_0 Hn1_7) (b1_15 : Nat) (b1_16 : Nat) (u1_0 : List Value) (h1_0 : Rp.rep (α := TunnelBook) Hn1_7 u1_0 p0) (mz1_16 : Rp.rep (α := Arr 4 Int) Hn1_7 [.int .i64 0, .int .i64 0, .int .i64 0, .int .i64 0] [0, 0, 0, 0]), At 89 [] (Kp.mk w H noX) [(2, .int .i64 p2), (3, .int .i64 p3), (4, .pointer (some ⟨b0_0, 0, none⟩)), (10, .pointer (some ⟨b1_15, 0, none⟩)), (11, .pointer (some ⟨b1_16, 0, none⟩)), (16, .agg u1_0.toArray), (17, v1), (21, .bool x1_4), (24, .bool x1_8)] Hn1_7 ([.box b1_15 [.slice none 0 0, .slice none 0 0, .map none] 110, .box b1_16 [.int .i64 0, .int .i64 0, .int .i64 0, .int .i64 0] 111]) (U1 (Sw Hn1_7 []) 9 (bits 20 98815)) := by
        intro Hn1_7 ln1_7 b1_15 b1_16 u1_0 h1_0 mz1_16
        refine d_fwd hU1 ?_
        have hb0_0 := PAt.mono ln1_7 hb0_0
        have h1 := Sl.mono ln1_7 h1
        have hg := Glob.mono ln1_7 hg
        refine dt 9 99327 rfl trivial (y_pick_t rfl k1_6 rfl) (sw0 []) ?_
        refine d1 10 rfl (e_callO (all := [.agg u1_0.toArray, v1, .bool x1_8]) trivial rfl Tryd.func80 rfl rfl rfl rfl rfl (fun w hw => ok_80 hw h1_0 h1 q1_10) ?_)
        rintro _ H1_10 _ l1_10 ⟨cb1_10, cs1_10, mm1_10, rfl, hb1_10, hc1_10, hd1_10⟩
        rcases hd1_10 with ⟨rfl, he1_10, rfl⟩ | ⟨M1_10, rfl, he1_10, rfl⟩
        · exact absurd k1_10 (by simp [he1_10])
        have hb0_0 := PAt.mono l1_10 hb0_0
        have h1_0 := Rp.mono l1_10 h1_0
        have h1 := Sl.mono l1_10 h1
        have mz1_16 := Rp.mono l1_10 mz1_16
        have hg := Glob.mono l1_10 hg
        refine dn 100351 (swl l1_10 []) ?_
        exact d_edge hU1 (N1_5 H1_10 (ln1_7.trans l1_10) b1_15 b1_16 cb1_10 M1_10 cs1_10 hb1_10 hc1_10 mz1_16) ⟨rfl, rfl, rfl, rfl, rfl, rfl, trivial⟩ [0, 1, 2] (by decide) rfl (sw_sw l1_10 [] rfl)
      have N1_13 : ∀ (Hn1_17 : Hp) (ln1_17 : HLe Hb0_0 Hn1_17) (b1_15 : Nat) (u1_0 : List Value) (h1_0 : Rp.rep (α := TunnelBook) Hn1_17 u1_0 p0), At 89 [] (Kp.mk w H noX) [(2, .int .i64 p2), (3, .int .i64 p3), (4, .pointer (some ⟨b0_0, 0, none⟩)), (10, .pointer (some ⟨b1_15, 0, none⟩)), (16, .agg u1_0.toArray), (17, v1), (21, .bool x1_4), (24, .bool x1_8)] Hn1_17 ([.box b1_15 [.slice none 0 0, .slice none 0 0, .map none] 110]) (U1 (Sw Hn1_17 []) 10 (bits 20 33279)) := by
        intro Hn1_17 ln1_17 b1_15 u1_0 h1_0
        refine d_fwd hU1 ?_
        have hb0_0 := PAt.mono ln1_17 hb0_0
        have h1 := Sl.mono ln1_17 h1
        have hg := Glob.mono ln1_17 hg
        refine dt 9 33791 rfl trivial (y_pick_t rfl k1_6 rfl) (sw0 []) ?_
        refine d_all (rs := [10, 16]) (by kernel_rfl) rfl ⟨⟨_, rfl, ?_⟩, ⟨_, rfl, ?_⟩, trivial⟩
        · refine e_callO (all := [.agg u1_0.toArray, v1, .bool x1_8]) trivial rfl Tryd.func80 rfl rfl rfl rfl rfl (fun w hw => ok_80 hw h1_0 h1 q1_10) ?_
          rintro _ H1_10 _ l1_10 ⟨cb1_10, cs1_10, mm1_10, rfl, hb1_10, hc1_10, hd1_10⟩
          rcases hd1_10 with ⟨rfl, he1_10, rfl⟩ | ⟨M1_10, rfl, he1_10, rfl⟩
          · exact absurd k1_10 (by simp [he1_10])
          have hb0_0 := PAt.mono l1_10 hb0_0
          have h1_0 := Rp.mono l1_10 h1_0
          have h1 := Sl.mono l1_10 h1
          have hg := Glob.mono l1_10 hg
          refine dn 34815 (swl l1_10 []) ?_
          exact d_edge hU1 (N1_6 H1_10 (ln1_17.trans l1_10) b1_15 cb1_10 M1_10 cs1_10 hb1_10 hc1_10) ⟨rfl, rfl, rfl, rfl, rfl, trivial⟩ [0, 1] (by decide) rfl (sw_sw l1_10 [] rfl)
        · refine e_alloc (cs := [.int .i64 0, .int .i64 0, .int .i64 0, .int .i64 0]) trivial rfl ty111 rfl ?_
          intro b1_16
          have mz1_16 : Rp.rep (α := Arr 4 Int) Hn1_17 [.int .i64 0, .int .i64 0, .int .i64 0, .int .i64 0] [0, 0, 0, 0] := ⟨(RepL.cons (c := [_]) rfl (RepL.cons (c := [_]) rfl (RepL.cons (c := [_]) rfl (RepL.cons (c := [_]) rfl RepL.nil)))), rfl⟩
          refine dn 99327 (sw0 []) ?_
          exact d_edge hU1 (N1_8 Hn1_17 ln1_17 b1_15 b1_16 u1_0 h1_0 mz1_16) ⟨rfl, rfl, rfl, rfl, rfl, rfl, rfl, rfl, trivial⟩ [1, 0] (by decide) rfl (fun _ h => h)
      have N1_14 : ∀ (Hn1_11 : Hp) (ln1_11 : HLe Hb0_0 Hn1_11) (b1_16 : Nat) (u1_0 : List Value) (h1_0 : Rp.rep (α := TunnelBook) Hn1_11 u1_0 p0) (mz1_16 : Rp.rep (α := Arr 4 Int) Hn1_11 [.int .i64 0, .int .i64 0, .int .i64 0, .int .i64 0] [0, 0, 0, 0]), At 89 [] (Kp.mk w H noX) [(2, .int .i64 p2), (3, .int .i64 p3), (4, .pointer (some ⟨b0_0, 0, none⟩)), (11, .pointer (some ⟨b1_16, 0, none⟩)), (16, .agg u1_0.toArray), (17, v1), (21, .bool x1_4), (24, .bool x1_8)] Hn1_11 ([.box b1_16 [.int .i64 0, .int .i64 0, .int .i64 0, .int .i64 0] 111]) (U1 (Sw Hn1_11 []) 10 (bits 20 66047)) := by
        intro Hn1_11 ln1_11 b1_16 u1_0 h1_0 mz1_16
        refine d_fwd hU1 ?_
        have hb0_0 := PAt.mono ln1_11 hb0_0
        have h1 := Sl.mono ln1_11 h1
        have hg := Glob.mono ln1_11 hg
        refine dt 9 66559 rfl trivial (y_pick_t rfl k1_6 rfl) (sw0 []) ?_
        refine d_all (rs := [10, 15]) (by kernel_rfl) rfl ⟨⟨_, rfl, ?_⟩, ⟨_, rfl, ?_⟩, trivial⟩
        · refine e_callO (all := [.agg u1_0.toArray, v1, .bool x1_8]) trivial rfl Tryd.func80 rfl rfl rfl rfl rfl (fun w hw => ok_80 hw h1_0 h1 q1_10) ?_
          rintro _ H1_10 _ l1_10 ⟨cb1_10, cs1_10, mm1_10, rfl, hb1_10, hc1_10, hd1_10⟩
          rcases hd1_10 with ⟨rfl, he1_10, rfl⟩ | ⟨M1_10, rfl, he1_10, rfl⟩
          · exact absurd k1_10 (by simp [he1_10])
          have hb0_0 := PAt.mono l1_10 hb0_0
          have h1_0 := Rp.mono l1_10 h1_0
          have h1 := Sl.mono l1_10 h1
          have mz1_16 := Rp.mono l1_10 mz1_16
          have hg := Glob.mono l1_10 hg
          refine dn 67583 (swl l1_10 []) ?_
          exact d_edge hU1 (N1_7 H1_10 (ln1_11.trans l1_10) b1_16 cb1_10 M1_10 cs1_10 hb1_10 hc1_10 mz1_16) ⟨rfl, rfl, rfl, rfl, rfl, trivial⟩ [0, 1] (by decide) rfl (sw_sw l1_10 [] rfl)
        · refine e_alloc (cs := [.slice none 0 0, .slice none 0 0, .map none]) trivial rfl ty110 rfl ?_
          intro b1_15
          refine dn 99327 (sw0 []) ?_
          exact d_edge hU1 (N1_8 Hn1_11 ln1_11 b1_15 b1_16 u1_0 h1_0 mz1_16) ⟨rfl, rfl, rfl, rfl, rfl, rfl, rfl, rfl, trivial⟩ [0, 1] (by decide) rfl (fun _ h => h)
      have N1_15 : ∀ (Hn1_12 : Hp) (ln1_12 : HLe Hb0_0 Hn1_12) (b1_15 : Nat) (b1_16 : Nat) (u1_0 : List Value) (u1_6 : List Value) (h1_0 : Rp.rep (α := TunnelBook) Hn1_12 u1_0 p0) (h1_6 : Rp.rep (α := TunnelBook) Hn1_12 u1_6 p0) (mz1_16 : Rp.rep (α := Arr 4 Int) Hn1_12 [.int .i64 0, .int .i64 0, .int .i64 0, .int .i64 0] [0, 0, 0, 0]), At 89 [] (Kp.mk w H noX) [(2, .int .i64 p2), (3, .int .i64 p3), (4, .pointer (some ⟨b0_0, 0, none⟩)), (10, .pointer (some ⟨b1_15, 0, none⟩)), (11, .pointer (some ⟨b1_16, 0, none⟩)), (16, .agg u1_0.toArray), (17, v1), (21, .bool x1_4), (22, .agg u1_6.toArray), (23, .int .i64 p3)] Hn1_12 ([.box b1_15 [.slice none 0 0, .slice none 0 0, .map none] 110, .box b1_16 [.int .i64 0, .int .i64 0, .int .i64 0, .int .i64 0] 111]) (U1 (Sw Hn1_12 []) 10 (bits 20 98559)) := by
        intro Hn1_12 ln1_12 b1_15 b1_16 u1_0 u1_6 h1_0 h1_6 mz1_16
        refine d_fwd hU1 ?_
        have hb0_0 := PAt.mono ln1_12 hb0_0
        have h1 := Sl.mono ln1_12 h1
        have hg := Glob.mono ln1_12 hg
        refine d1 8 rfl (e_callV (all := [.agg u1_6.toArray, .int .i64 p3]) (v := .bool x1_8) ⟨_, _, rfl, rfl, k1_6⟩ rfl Tryd.func103 rfl rfl rfl rfl rfl (fun w hw => ok_103 hw h1_6 q1_8) ?_)
        refine dn 98815 (sw0 []) ?_
        exact d_edge hU1 (N1_12 Hn1_12 ln1_12 b1_15 b1_16 u1_0 h1_0 mz1_16) ⟨rfl, rfl, rfl, rfl, rfl, rfl, rfl, rfl, rfl, trivial⟩ [0, 1] (by decide) rfl (fun _ h => h)
      have N1_16 : ∀ (Hn1_19 : Hp) (ln1_19 : HLe Hb0_0 Hn1_19) (u1_0 : List Value) (h1_0 : Rp.rep (α := TunnelBook) Hn1_19 u1_0 p0), At 89 [] (Kp.mk w H noX) [(2, .int .i64 p2), (3, .int .i64 p3), (4, .pointer (some ⟨b0_0, 0, none⟩)), (16, .agg u1_0.toArray), (17, v1), (21, .bool x1_4), (24, .bool x1_8)] Hn1_19 [] (U1 (Sw Hn1_19 []) 11 (bits 20 511)) := by
        intro Hn1_19 ln1_19 u1_0 h1_0
        refine d_fwd hU1 ?_
        have hb0_0 := PAt.mono ln1_19 hb0_0
        have h1 := Sl.mono ln1_19 h1
        have hg := Glob.mono ln1_19 hg
        refine dt 9 1023 rfl trivial (y_pick_t rfl k1_6 rfl) (sw0 []) ?_
        refine d_all (rs := [10, 15, 16]) (by kernel_rfl) rfl ⟨⟨_, rfl, ?_⟩, ⟨_, rfl, ?_⟩, ⟨_, rfl, ?_⟩, trivial⟩
        · refine e_callO (all := [.agg u1_0.toArray, v1, .bool x1_8]) trivial rfl Tryd.func80 rfl rfl rfl rfl rfl (fun w hw => ok_80 hw h1_0 h1 q1_10) ?_
          rintro _ H1_10 _ l1_10 ⟨cb1_10, cs1_10, mm1_10, rfl, hb1_10, hc1_10, hd1_10⟩
          rcases hd1_10 with ⟨rfl, he1_10, rfl⟩ | ⟨M1_10, rfl, he1_10, rfl⟩
          · exact absurd k1_10 (by simp [he1_10])
          have hb0_0 := PAt.mono l1_10 hb0_0
          have h1_0 := Rp.mono l1_10 h1_0
          have h1 := Sl.mono l1_10 h1
          have hg := Glob.mono l1_10 hg
          refine dn 2047 (swl l1_10 []) ?_
          exact d_edge hU1 (N1_9 H1_10 (ln1_19.trans l1_10) cb1_10 M1_10 cs1_10 hb1_10 hc1_10) ⟨rfl, rfl, rfl, rfl, trivial⟩ [0] (by decide) rfl (sw_sw l1_10 [] rfl)
        · refine e_alloc (cs := [.slice none 0 0, .slice none 0 0, .map none]) trivial rfl ty110 rfl ?_
          intro b1_15
          refine dn 33791 (sw0 []) ?_
          exact d_edge hU1 (N1_10 Hn1_19 ln1_19 b1_15 u1_0 h1_0) ⟨rfl, rfl, rfl, rfl, rfl, rfl, rfl, trivial⟩ [0] (by decide) rfl (fun _ h => h)
        · refine e_alloc (cs := [.int .i64 0, .int .i64 0, .int .i64 0, .int .i64 0]) trivial rfl ty111 rfl ?_
          intro b1_16
          have mz1_16 : Rp.rep (α := Arr 4 Int) Hn1_19 [.int .i64 0, .int .i64 0, .int .i64 0, .int .i64 0] [0, 0, 0, 0] := ⟨(RepL.cons (c := [_]) rfl (RepL.cons (c := [_]) rfl (RepL.cons (c := [_]) rfl (RepL.cons (c := [_]) rfl RepL.nil)))), rfl⟩
          refine dn 66559 (sw0 []) ?_
          exact d_edge hU1 (N1_11 Hn1_19 ln1_19 b1_16 u1_0 h1_0 mz1_16) ⟨rfl, rfl, rfl, rfl, rfl, rfl, rfl, trivial⟩ [0] (by decide) rfl (fun _ h => h)
      have N1_17 : ∀ (Hn1_20 : Hp) (ln1_20 : HLe Hb0_0 Hn1_20) (b1_15 : Nat) (u1_0 : List Value) (u1_6 : List Value) (h1_0 : Rp.rep (α := TunnelBook) Hn1_20 u1_0 p0) (h1_6 : Rp.rep (α := TunnelBook) Hn1_20 u1_6 p0), At 89 [] (Kp.mk w H noX) [(2, .int .i64 p2), (3, .int .i64 p3), (4, .pointer (some ⟨b0_0, 0, none⟩)), (10, .pointer (some ⟨b1_15, 0, none⟩)), (16, .agg u1_0.toArray), (17, v1), (21, .bool x1_4), (22, .agg u1_6.toArray), (23, .int .i64 p3)] Hn1_20 ([.box b1_15 [.slice none 0 0, .slice none 0 0, .map none] 110]) (U1 (Sw Hn1_20 []) 11 (bits 20 33023)) := by
        intro Hn1_20 ln1_20 b1_15 u1_0 u1_6 h1_0 h1_6
        refine d_fwd hU1 ?_
        have hb0_0 := PAt.mono ln1_20 hb0_0
        have h1 := Sl.mono ln1_20 h1
        have hg := Glob.mono ln1_20 hg
        refine d_all (rs := [8, 16]) (by kernel_rfl) rfl ⟨⟨_, rfl, ?_⟩, ⟨_, rfl, ?_⟩, trivial⟩
        · refine e_callV (all := [.agg u1_6.toArray, .int .i64 p3]) (v := .bool x1_8) ⟨_, _, rfl, rfl, k1_6⟩ rfl Tryd.func103 rfl rfl rfl rfl rfl (fun w hw => ok_103 hw h1_6 q1_8) ?_
          refine dn 33279 (sw0 []) ?_
          exact d_edge hU1 (N1_13 Hn1_20 ln1_20 b1_15 u1_0 h1_0) ⟨rfl, rfl, rfl, rfl, rfl, rfl, rfl, rfl, trivial⟩ [0] (by decide) rfl (fun _ h => h)
        · refine e_alloc (cs := [.int .i64 0, .int .i64 0, .int .i64 0, .int .i64 0]) trivial rfl ty111 rfl ?_
          intro b1_16
          have mz1_16 : Rp.rep (α := Arr 4 Int) Hn1_20 [.int .i64 0, .int .i64 0, .int .i64 0, .int .i64 0] [0, 0, 0, 0] := ⟨(RepL.cons (c := [_]) rfl (RepL.cons (c := [_]) rfl (RepL.cons (c := [_]) rfl (RepL.cons (c := [_]) rfl RepL.nil)))), rfl⟩
          refine dn 98559 (sw0 []) ?_
          exact d_edge hU1 (N1_15 Hn1_20 ln1_20 b1_15 b1_16 u1_0 u1_6 h1_0 h1_6 mz1_16) ⟨rfl, rfl, rfl, rfl, rfl, rfl, rfl, rfl, rfl, rfl, trivial⟩ [1, 0] (by decide) rfl (fun _ h => h)
      have N1_18 : ∀ (Hn1_21 : Hp) (ln1_21 : HLe Hb0_0 Hn1_21) (b1_16 : Nat) (u1_0 : List Value) (u1_6 : List Value) (h1_0 : Rp.rep (α := TunnelBook) Hn1_21 u1_0 p0) (h1_6 : Rp.rep (α := TunnelBook) Hn1_21 u1_6 p0) (mz1_16 : Rp.rep (α := Arr 4 Int) Hn1_21 [.int .i64 0, .int .i64 0, .int .i64 0, .int .i64 0] [0, 0, 0, 0]), At 89 [] (Kp.mk w H noX) [(2, .int .i64 p2), (3, .int .i64 p3), (4, .pointer (some ⟨b0_0, 0, none⟩)), (11, .pointer (some ⟨b1_16, 0, none⟩)), (16, .agg u1_0.toArray), (17, v1), (21, .bool x1_4), (22, .agg u1_6.toArray), (23, .int .i64 p3)] Hn1_21 ([.box b1_16 [.int .i64 0, .int .i64 0, .int .i64 0, .int .i64 0] 111]) (U1 (Sw Hn1_21 []) 11 (bits 20 65791)) := by
        intro Hn1_21 ln1_21 b1_16 u1_0 u1_6 h1_0 h1_6 mz1_16
        refine d_fwd hU1 ?_
        have hb0_0 := PAt.mono ln1_21 hb0_0
        have h1 := Sl.mono ln1_21 h1
        have hg := Glob.mono ln1_21 hg
        refine d_all (rs := [8, 15]) (by kernel_rfl) rfl ⟨⟨_, rfl, ?_⟩, ⟨_, rfl, ?_⟩, trivial⟩
        · refine e_callV (all := [.agg u1_6.toArray, .int .i64 p3]) (v := .bool x1_8) ⟨_, _, rfl, rfl, k1_6⟩ rfl Tryd.func103 rfl rfl rfl rfl rfl (fun w hw => ok_103 hw h1_6 q1_8) ?_
          refine dn 66047 (sw0 []) ?_
          exact d_edge hU1 (N1_14 Hn1_21 ln1_21 b1_16 u1_0 h1_0 mz1_16) ⟨rfl, rfl, rfl, rfl, rfl, rfl, rfl, rfl, trivial⟩ [0] (by decide) rfl (fun _ h => h)
        · refine e_alloc (cs := [.slice none 0 0, .slice none 0 0, .map none]) trivial rfl ty110 rfl ?_
          intro b1_15
          refine dn 98559 (sw0 []) ?_
          exact d_edge hU1 (N1_15 Hn1_21 ln1_21 b1_15 b1_16 u1_0 u1_6 h1_0 h1_6 mz1_16) ⟨rfl, rfl, rfl, rfl, rfl, rfl, rfl, rfl, rfl, rfl, trivial⟩ [0, 1] (by decide) rfl (fun _ h => h)
      have N1_19 : ∀ (Hn1_6 : Hp) (ln1_6 : HLe Hb0_0 Hn1_6) (b1_15 : Nat) (b1_16 : Nat) (u1_0 : List Value) (h1_0 : Rp.rep (α := TunnelBook) Hn1_6 u1_0 p0) (mz1_16 : Rp.rep (α := Arr 4 Int) Hn1_6 [.int .i64 0, .int .i64 0, .int .i64 0, .int .i64 0] [0, 0, 0, 0]), At 89 [] (Kp.mk w H noX) [(2, .int .i64 p2), (3, .int .i64 p3), (4, .pointer (some ⟨b0_0, 0, none⟩)), (10, .pointer (some ⟨b1_15, 0, none⟩)), (11, .pointer (some ⟨b1_16, 0, none⟩)), (16, .agg u1_0.toArray), (17, v1), (20, .bool x1_4)] Hn1_6 ([.box b1_15 [.slice none 0 0, .slice none 0 0, .map none] 110, .box b1_16 [.int .i64 0, .int .i64 0, .int .i64 0, .int .i64 0] 111]) (U1 (Sw Hn1_6 []) 13 (bits 20 98335)) := by
        intro Hn1_6 ln1_6 b1_15 b1_16 u1_0 h1_0 mz1_16
        refine d_fwd hU1 ?_
        have hb0_0 := PAt.mono ln1_6 hb0_0
        have h1 := Sl.mono ln1_6 h1
        have hg := Glob.mono ln1_6 hg
        refine dt 5 98367 rfl trivial (y_move rfl) (sw0 []) ?_
        obtain ⟨u1_6, h1_6, c1_6⟩ := PAt.one hb0_0
        refine dt 6 98431 rfl ⟨_, _, rfl, rfl, k1_6⟩ (y_load_cells ty25 rfl (fun _ h => h.1) rfl c1_6 (Rp.len h1_6)) (sw0 []) ?_
        refine dt 7 98559 rfl ⟨_, _, rfl, rfl, k1_6⟩ (y_move rfl) (sw0 []) ?_
        refine d1 8 rfl (e_callV (all := [.agg u1_6.toArray, .int .i64 p3]) (v := .bool x1_8) ⟨_, _, rfl, rfl, k1_6⟩ rfl Tryd.func103 rfl rfl rfl rfl rfl (fun w hw => ok_103 hw h1_6 q1_8) ?_)
        refine dn 98815 (sw0 []) ?_
        exact d_edge hU1 (N1_12 Hn1_6 ln1_6 b1_15 b1_16 u1_0 h1_0 mz1_16) ⟨rfl, rfl, rfl, rfl, rfl, rfl, rfl, rfl, rfl, trivial⟩ [0, 1] (by decide) rfl (fun _ h => h)
      have N1_20 : ∀ (Hn1_16 : Hp) (ln1_16 : HLe Hb0_0 Hn1_16) (b1_15 : Nat) (u1_0 : List Value) (h1_0 : Rp.rep (α := TunnelBook) Hn1_16 u1_0 p0), At 89 [] (Kp.mk w H noX) [(2, .int .i64 p2), (3, .int .i64 p3), (4, .pointer (some ⟨b0_0, 0, none⟩)), (10, .pointer (some ⟨b1_15, 0, none⟩)), (16, .agg u1_0.toArray), (17, v1), (20, .bool x1_4)] Hn1_16 ([.box b1_15 [.slice none 0 0, .slice none 0 0, .map none] 110]) (U1 (Sw Hn1_16 []) 14 (bits 20 32799)) := by
        intro Hn1_16 ln1_16 b1_15 u1_0 h1_0
        refine d_fwd hU1 ?_
        have hb0_0 := PAt.mono ln1_16 hb0_0
        have h1 := Sl.mono ln1_16 h1
        have hg := Glob.mono ln1_16 hg
        refine dt 5 32831 rfl trivial (y_move rfl) (sw0 []) ?_
        obtain ⟨u1_6, h1_6, c1_6⟩ := PAt.one hb0_0
        refine dt 6 32895 rfl ⟨_, _, rfl, rfl, k1_6⟩ (y_load_cells ty25 rfl (fun _ h => h.1) rfl c1_6 (Rp.len h1_6)) (sw0 []) ?_
        refine dt 7 33023 rfl ⟨_, _, rfl, rfl, k1_6⟩ (y_move rfl) (sw0 []) ?_
        refine d_all (rs := [8, 16]) (by kernel_rfl) rfl ⟨⟨_, rfl, ?_⟩, ⟨_, rfl, ?_⟩, trivial⟩
        · refine e_callV (all := [.agg u1_6.toArray, .int .i64 p3]) (v := .bool x1_8) ⟨_, _, rfl, rfl, k1_6⟩ rfl Tryd.func103 rfl rfl rfl rfl rfl (fun w hw => ok_103 hw h1_6 q1_8) ?_
          refine dn 33279 (sw0 []) ?_
          exact d_edge hU1 (N1_13 Hn1_16 ln1_16 b1_15 u1_0 h1_0) ⟨rfl, rfl, rfl, rfl, rfl, rfl, rfl, rfl, trivial⟩ [0] (by decide) rfl (fun _ h => h)
        · refine e_alloc (cs := [.int .i64 0, .int .i64 0, .int .i64 0, .int .i64 0]) trivial rfl ty111 rfl ?_
          intro b1_16
          have mz1_16 : Rp.rep (α := Arr 4 Int) Hn1_16 [.int .i64 0, .int .i64 0, .int .i64 0, .int .i64 0] [0, 0, 0, 0] := ⟨(RepL.cons (c := [_]) rfl (RepL.cons (c := [_]) rfl (RepL.cons (c := [_]) rfl (RepL.cons (c := [_]) rfl RepL.nil)))), rfl⟩
          refine dn 98559 (sw0 []) ?_
          exact d_edge hU1 (N1_15 Hn1_16 ln1_16 b1_15 b1_16 u1_0 u1_6 h1_0 h1_6 mz1_16) ⟨rfl, rfl, rfl, rfl, rfl, rfl, rfl, rfl, rfl, rfl, trivial⟩ [1, 0] (by decide) rfl (fun _ h => h)
      have N1_21 : ∀ (Hn1_4 : Hp) (ln1_4 : HLe Hb0_0 Hn1_4) (b1_16 : Nat) (u1_0 : List Value) (h1_0 : Rp.rep (α := TunnelBook) Hn1_4 u1_0 p0) (mz1_16 : Rp.rep (α := Arr 4 Int) Hn1_4 [.int .i64 0, .int .i64 0, .int .i64 0, .int .i64 0] [0, 0, 0, 0]), At 89 [] (Kp.mk w H noX) [(2, .int .i64 p2), (3, .int .i64 p3), (4, .pointer (some ⟨b0_0, 0, none⟩)), (11, .pointer (some ⟨b1_16, 0, none⟩)), (16, .agg u1_0.toArray), (17, v1), (20, .bool x1_4)] Hn1_4 ([.box b1_16 [.int .i64 0, .int .i64 0, .int .i64 0, .int .i64 0] 111]) (U1 (Sw Hn1_4 []) 14 (bits 20 65567)) := by
        intro Hn1_4 ln1_4 b1_16 u1_0 h1_0 mz1_16
        refine d_fwd hU1 ?_
        have hb0_0 := PAt.mono ln1_4 hb0_0
        have h1 := Sl.mono ln1_4 h1
        have hg := Glob.mono ln1_4 hg
        refine dt 5 65599 rfl trivial (y_move rfl) (sw0 []) ?_
        obtain ⟨u1_6, h1_6, c1_6⟩ := PAt.one hb0_0
        refine dt 6 65663 rfl ⟨_, _, rfl, rfl, k1_6⟩ (y_load_cells ty25 rfl (fun _ h => h.1) rfl c1_6 (Rp.len h1_6)) (sw0 []) ?_
        refine dt 7 65791 rfl ⟨_, _, rfl, rfl, k1_6⟩ (y_move rfl) (sw0 []) ?_
        refine d_all (rs := [8, 15]) (by kernel_rfl) rfl ⟨⟨_, rfl, ?_⟩, ⟨_, rfl, ?_⟩, trivial⟩
        · refine e_callV (all := [.agg u1_6.toArray, .int .i64 p3]) (v := .bool x1_8) ⟨_, _, rfl, rfl, k1_6⟩ rfl Tryd.func103 rfl rfl rfl rfl rfl (fun w hw => ok_103 hw h1_6 q1_8) ?_
          refine dn 66047 (sw0 []) ?_
          exact d_edge hU1 (N1_14 Hn1_4 ln1_4 b1_16 u1_0 h1_0 mz1_16) ⟨rfl, rfl, rfl, rfl, rfl, rfl, rfl, rfl, trivial⟩ [0] (by decide) rfl (fun _ h => h)
        · refine e_alloc (cs := [.slice none 0 0, .slice none 0 0, .map none]) trivial rfl ty110 rfl ?_
          intro b1_15
          refine dn 98559 (sw0 []) ?_
          exact d_edge hU1 (N1_15 Hn1_4 ln1_4 b1_15 b1_16 u1_0 u1_6 h1_0 h1_6 mz1_16) ⟨rfl, rfl, rfl, rfl, rfl, rfl, rfl, rfl, rfl, rfl, trivial⟩ [0, 1] (by decide) rfl (fun _ h => h)
      have N1_22 : ∀ (Hn1_5 : Hp) (ln1_5 : HLe Hb0_0 Hn1_5) (b1_15 : Nat) (b1_16 : Nat) (u1_0 : List Value) (u1_2 : List Value) (h1_0 : Rp.rep (α := TunnelBook) Hn1_5 u1_0 p0) (h1_2 : Rp.rep (α := TunnelBook) Hn1_5 u1_2 p0) (mz1_16 : Rp.rep (α := Arr 4 Int) Hn1_5 [.int .i64 0, .int .i64 0, .int .i64 0, .int .i64 0] [0, 0, 0, 0]), At 89 [] (Kp.mk w H noX) [(2, .int .i64 p2), (3, .int .i64 p3), (4, .pointer (some ⟨b0_0, 0, none⟩)), (10, .pointer (some ⟨b1_15, 0, none⟩)), (11, .pointer (some ⟨b1_16, 0, none⟩)), (16, .agg u1_0.toArray), (17, v1), (18, .agg u1_2.toArray), (19, .int .i64 p2)] Hn1_5 ([.box b1_15 [.slice none 0 0, .slice none 0 0, .map none] 110, .box b1_16 [.int .i64 0, .int .i64 0, .int .i64 0, .int .i64 0] 111]) (U1 (Sw Hn1_5 []) 14 (bits 20 98319)) := by
        intro Hn1_5 ln1_5 b1_15 b1_16 u1_0 u1_2 h1_0 h1_2 mz1_16
        refine d_fwd hU1 ?_
        have hb0_0 := PAt.mono ln1_5 hb0_0
        have h1 := Sl.mono ln1_5 h1
        have hg := Glob.mono ln1_5 hg
        refine d1 4 rfl (e_callV (all := [.agg u1_2.toArray, .int .i64 p2]) (v := .bool x1_4) trivial rfl Tryd.func88 rfl rfl rfl rfl rfl (fun w hw => ok_88 hw h1_2 q1_4) ?_)
        refine dn 98335 (sw0 []) ?_
        exact d_edge hU1 (N1_19 Hn1_5 ln1_5 b1_15 b1_16 u1_0 h1_0 mz1_16) ⟨rfl, rfl, rfl, rfl, rfl, rfl, rfl, rfl, trivial⟩ [0, 1] (by decide) rfl (fun _ h => h)
      have N1_23 : ∀ (Hn1_1 : Hp) (ln1_1 : HLe Hb0_0 Hn1_1) (u1_0 : List Value) (h1_0 : Rp.rep (α := TunnelBook) Hn1_1 u1_0 p0), At 89 [] (Kp.mk w H noX) [(2, .int .i64 p2), (3, .int .i64 p3), (4, .pointer (some ⟨b0_0, 0, none⟩)), (16, .agg u1_0.toArray), (17, v1), (20, .bool x1_4)] Hn1_1 [] (U1 (Sw Hn1_1 []) 15 (bits 20 31)) := by
        intro Hn1_1 ln1_1 u1_0 h1_0
        refine d_fwd hU1 ?_
        have hb0_0 := PAt.mono ln1_1 hb0_0
        have h1 := Sl.mono ln1_1 h1
        have hg := Glob.mono ln1_1 hg
        refine dt 5 63 rfl trivial (y_move rfl) (sw0 []) ?_
        obtain ⟨u1_6, h1_6, c1_6⟩ := PAt.one hb0_0
        refine dt 6 127 rfl ⟨_, _, rfl, rfl, k1_6⟩ (y_load_cells ty25 rfl (fun _ h => h.1) rfl c1_6 (Rp.len h1_6)) (sw0 []) ?_
        refine dt 7 255 rfl ⟨_, _, rfl, rfl, k1_6⟩ (y_move rfl) (sw0 []) ?_
        refine d_all (rs := [8, 15, 16]) (by kernel_rfl) rfl ⟨⟨_, rfl, ?_⟩, ⟨_, rfl, ?_⟩, ⟨_, rfl, ?_⟩, trivial⟩
        · refine e_callV (all := [.agg u1_6.toArray, .int .i64 p3]) (v := .bool x1_8) ⟨_, _, rfl, rfl, k1_6⟩ rfl Tryd.func103 rfl rfl rfl rfl rfl (fun w hw => ok_103 hw h1_6 q1_8) ?_
          refine dn 511 (sw0 []) ?_
          exact d_edge hU1 (N1_16 Hn1_1 ln1_1 u1_0 h1_0) ⟨rfl, rfl, rfl, rfl, rfl, rfl, rfl, trivial⟩ [] (by decide) rfl (fun _ h => h)
        · refine e_alloc (cs := [.slice none 0 0, .slice none 0 0, .map none]) trivial rfl ty110 rfl ?_
          intro b1_15
          refine dn 33023 (sw0 []) ?_
          exact d_edge hU1 (N1_17 Hn1_1 ln1_1 b1_15 u1_0 u1_6 h1_0 h1_6) ⟨rfl, rfl, rfl, rfl, rfl, rfl, rfl, rfl, rfl, trivial⟩ [0] (by decide) rfl (fun _ h => h)
        · refine e_alloc (cs := [.int .i64 0, .int .i64 0, .int .i64 0, .int .i64 0]) trivial rfl ty111 rfl ?_
          intro b1_16
          have mz1_16 : Rp.rep (α := Arr 4 Int) Hn1_1 [.int .i64 0, .int .i64 0, .int .i64 0, .int .i64 0] [0, 0, 0, 0] := ⟨(RepL.cons (c := [_]) rfl (RepL.cons (c := [_]) rfl (RepL.cons (c := [_]) rfl (RepL.cons (c := [_]) rfl RepL.nil)))), rfl⟩
          refine dn 65791 (sw0 []) ?_
          exact d_edge hU1 (N1_18 Hn1_1 ln1_1 b1_16 u1_0 u1_6 h1_0 h1_6 mz1_16) ⟨rfl, rfl, rfl, rfl, rfl, rfl, rfl, rfl, rfl, trivial⟩ [0] (by decide) rfl (fun _ h => h)
      have N1_24 : ∀ (Hn1_2 : Hp) (ln1_2 : HLe Hb0_0 Hn1_2) (b1_15 : Nat) (u1_0 : List Value) (u1_2 : List Value) (h1_0 : Rp.rep (α := TunnelBook) Hn1_2 u1_0 p0) (h1_2 : Rp.rep (α := TunnelBook) Hn1_2 u1_2 p0), At 89 [] (Kp.mk w H noX) [(2, .int .i64 p2), (3, .int .i64 p3), (4, .pointer (some ⟨b0_0, 0, none⟩)), (10, .pointer (some ⟨b1_15, 0, none⟩)), (16, .agg u1_0.toArray), (17, v1), (18, .agg u1_2.toArray), (19, .int .i64 p2)] Hn1_2 ([.box b1_15 [.slice none 0 0, .slice none 0 0, .map none] 110]) (U1 (Sw Hn1_2 []) 15 (bits 20 32783)) := by
        intro Hn1_2 ln1_2 b1_15 u1_0 u1_2 h1_0 h1_2
        refine d_fwd hU1 ?_
        have hb0_0 := PAt.mono ln1_2 hb0_0
        have h1 := Sl.mono ln1_2 h1
        have hg := Glob.mono ln1_2 hg
        refine d_all (rs := [4, 16]) (by kernel_rfl) rfl ⟨⟨_, rfl, ?_⟩, ⟨_, rfl, ?_⟩, trivial⟩
        · refine e_callV (all := [.agg u1_2.toArray, .int .i64 p2]) (v := .bool x1_4) trivial rfl Tryd.func88 rfl rfl rfl rfl rfl (fun w hw => ok_88 hw h1_2 q1_4) ?_
          refine dn 32799 (sw0 []) ?_
          exact d_edge hU1 (N1_20 Hn1_2 ln1_2 b1_15 u1_0 h1_0) ⟨rfl, rfl, rfl, rfl, rfl, rfl, rfl, trivial⟩ [0] (by decide) rfl (fun _ h => h)
        · refine e_alloc (cs := [.int .i64 0, .int .i64 0, .int .i64 0, .int .i64 0]) trivial rfl ty111 rfl ?_
          intro b1_16
          have mz1_16 : Rp.rep (α := Arr 4 Int) Hn1_2 [.int .i64 0, .int .i64 0, .int .i64 0, .int .i64 0] [0, 0, 0, 0] := ⟨(RepL.cons (c := [_]) rfl (RepL.cons (c := [_]) rfl (RepL.cons (c := [_]) rfl (RepL.cons (c := [_]) rfl RepL.nil)))), rfl⟩
          refine dn 98319 (sw0 []) ?_
          exact d_edge hU1 (N1_22 Hn1_2 ln1_2 b1_15 b1_16 u1_0 u1_2 h1_0 h1_2 mz1_16) ⟨rfl, rfl, rfl, rfl, rfl, rfl, rfl, rfl, rfl, trivial⟩ [1, 0] (by decide) rfl (fun _ h => h)
      have N1_25 : ∀ (Hn1_3 : Hp) (ln1_3 : HLe Hb0_0 Hn1_3) (b1_16 : Nat) (u1_0 : List Value) (u1_2 : List Value) (h1_0 : Rp.rep (α := TunnelBook) Hn1_3 u1_0 p0) (h1_2 : Rp.rep (α := TunnelBook) Hn1_3 u1_2 p0) (mz1_16 : Rp.rep (α := Arr 4 Int) Hn1_3 [.int .i64 0, .int .i64 0, .int .i64 0, .int .i64 0] [0, 0, 0, 0]), At 89 [] (Kp.mk w H noX) [(2, .int .i64 p2), (3, .int .i64 p3), (4, .pointer (some ⟨b0_0, 0, none⟩)), (11, .pointer (some ⟨b1_16, 0, none⟩)), (16, .agg u1_0.toArray), (17, v1), (18, .agg u1_2.toArray), (19, .int .i64 p2)] Hn1_3 ([.box b1_16 [.int .i64 0, .int .i64 0, .int .i64 0, .int .i64 0] 111]) (U1 (Sw Hn1_3 []) 15 (bits 20 65551)) := by
        intro Hn1_3 ln1_3 b1_16 u1_0 u1_2 h1_0 h1_2 mz1_16
        refine d_fwd hU1 ?_
        have hb0_0 := PAt.mono ln1_3 hb0_0
        have h1 := Sl.mono ln1_3 h1
        have hg := Glob.mono ln1_3 hg
        refine d_all (rs := [4, 15]) (by kernel_rfl) rfl ⟨⟨_, rfl, ?_⟩, ⟨_, rfl, ?_⟩, trivial⟩
        · refine e_callV (all := [.agg u1_2.toArray, .int .i64 p2]) (v := .bool x1_4) trivial rfl Tryd.func88 rfl rfl rfl rfl rfl (fun w hw => ok_88 hw h1_2 q1_4) ?_
          refine dn 65567 (sw0 []) ?_
          exact d_edge hU1 (N1_21 Hn1_3 ln1_3 b1_16 u1_0 h1_0 mz1_16) ⟨rfl, rfl, rfl, rfl, rfl, rfl, rfl, trivial⟩ [0] (by decide) rfl (fun _ h => h)
        · refine e_alloc (cs := [.slice none 0 0, .slice none 0 0, .map none]) trivial rfl ty110 rfl ?_
          intro b1_15
          refine dn 98319 (sw0 []) ?_
          exact d_edge hU1 (N1_22 Hn1_3 ln1_3 b1_15 b1_16 u1_0 u1_2 h1_0 h1_2 mz1_16) ⟨rfl, rfl, rfl, rfl, rfl, rfl, rfl, rfl, rfl, trivial⟩ [0, 1] (by decide) rfl (fun _ h => h)
      refine d_fwd hU1 ?_
      obtain ⟨u1_0, h1_0, c1_0⟩ := PAt.one hb0_0
      refine dt 0 1 rfl trivial (y_load_cells ty25 rfl (fun _ h => h.1) rfl c1_0 (Rp.len h1_0)) (sw0 []) ?_
      refine dt 1 3 rfl trivial (y_move rfl) (sw0 []) ?_
      obtain ⟨u1_2, h1_2, c1_2⟩ := PAt.one hb0_0
      refine dt 2 7 rfl trivial (y_load_cells ty25 rfl (fun _ h => h.1) rfl c1_2 (Rp.len h1_2)) (sw0 []) ?_
      refine dt 3 15 rfl trivial (y_move rfl) (sw0 []) ?_
      refine d_all (rs := [4, 15, 16]) (by kernel_rfl) rfl ⟨⟨_, rfl, ?_⟩, ⟨_, rfl, ?_⟩, ⟨_, rfl, ?_⟩, trivial⟩
      · refine e_callV (all := [.agg u1_2.toArray, .int .i64 p2]) (v := .bool x1_4) trivial rfl Tryd.func88 rfl rfl rfl rfl rfl (fun w hw => ok_88 hw h1_2 q1_4) ?_
        refine dn 31 (sw0 []) ?_
        exact d_edge hU1 (N1_23 Hb0_0 (HLe.refl _) u1_0 h1_0) ⟨rfl, rfl, rfl, rfl, rfl, rfl, trivial⟩ [] (by decide) rfl (fun _ h => h)
      · refine e_alloc (cs := [.slice none 0 0, .slice none 0 0, .map none]) trivial rfl ty110 rfl ?_
        intro b1_15
        refine dn 32783 (sw0 []) ?_
        exact d_edge hU1 (N1_24 Hb0_0 (HLe.refl _) b1_15 u1_0 u1_2 h1_0 h1_2) ⟨rfl, rfl, rfl, rfl, rfl, rfl, rfl, rfl, trivial⟩ [0] (by decide) rfl (fun _ h => h)
      · refine e_alloc (cs := [.int .i64 0, .int .i64 0, .int .i64 0, .int .i64 0]) trivial rfl ty111 rfl ?_
        intro b1_16
        have mz1_16 : Rp.rep (α := Arr 4 Int) Hb0_0 [.int .i64 0, .int .i64 0, .int .i64 0, .int .i64 0] [0, 0, 0, 0] := ⟨(RepL.cons (c := [_]) rfl (RepL.cons (c := [_]) rfl (RepL.cons (c := [_]) rfl (RepL.cons (c := [_]) rfl RepL.nil)))), rfl⟩
        refine dn 65551 (sw0 []) ?_
        exact d_edge hU1 (N1_25 Hb0_0 (HLe.refl _) b1_16 u1_0 u1_2 h1_0 h1_2 mz1_16) ⟨rfl, rfl, rfl, rfl, rfl, rfl, rfl, rfl, trivial⟩ [0] (by decide) rfl (fun _ h => h)
  · have hm := cond_f k1_6 hm
    obtain ⟨x1_10, q1_10, hm⟩ := bind_some hm
    rcases Bool.eq_false_or_eq_true (x1_10.2.2 != 0) with k1_10 | k1_10
    · have hm := cond_t k1_10 hm
      refine d_region (S := Sw Hb0_0 []) (n := 20) (listed := (bits 20 0)) mixed (by kernel_rfl) rfl (by kernel_rfl) ?_
      refine d_abs fun U1 hU1 => ?_
      have N1_0 : ∀ (Hn1_10 : Hp) (ln1_10 : HLe Hb0_0 Hn1_10) (b1_15 : Nat) (b1_16 : Nat) (cb1_10 : List Value) (cs1_10 : List Value) (hb1_10 : Rp.rep (α := Bk none) Hn1_10 cb1_10 x1_10.1) (hc1_10 : Rp.rep (α := Arr 4 Int) Hn1_10 cs1_10 x1_10.2.1), At 89 [] (Kp.mk w H noX) [(2, .int .i64 p2), (3, .int .i64 p3), (4, .pointer (some ⟨b0_0, 0, none⟩)), (10, .pointer (some ⟨b1_15, 0, none⟩)), (11, .pointer (some ⟨b1_16, 0, none⟩)), (29, .int .i64 x1_10.2.2)] Hn1_10 [.box b1_15 cb1_10 110, .box b1_16 cs1_10 111] (U1 (Sw Hn1_10 []) 1 (bits 20 524287)) := by
        intro Hn1_10 ln1_10 b1_15 b1_16 cb1_10 cs1_10 hb1_10 hc1_10
        refine d_fwd hU1 ?_
        have hb0_0 := PAt.mono ln1_10 hb0_0
        have hg := Glob.mono ln1_10 hg
        refine dt 19 1048575 rfl trivial (y_assign rfl) (sw0 []) ?_
        refine d_done (by kernel_rfl) ?_
        refine a_freeze (α := Bk _) (x := x1_10.1) (i := 0) rfl hb1_10 ?_
        intro Hb1_15 lb1_15 hb1_15
        have hb0_0 := PAt.mono lb1_15 hb0_0
        have hc1_10 := Rp.mono lb1_15 hc1_10
        have hg := Glob.mono lb1_15 hg
        refine a_freeze (α := Arr 4 Int) (x := x1_10.2.1) (i := 1) rfl hc1_10 ?_
        intro Hb1_16 lb1_16 hb1_16
        have hb0_0 := PAt.mono lb1_16 hb0_0
        have hb1_15 := PAt.mono lb1_16 hb1_15
        have hg := Glob.mono lb1_16 hg
        refine a_en [(2, .int .i64 p2), (3, .int .i64 p3), (4, .pointer (some ⟨b0_0, 0, none⟩)), (10, .pointer (some ⟨b1_15, 0, none⟩)), (11, .pointer (some ⟨b1_16, 0, none⟩)), (12, .int .i64 x1_10.2.2)] ?_
        refine a_own [] (by decide) (L' := []) rfl ?_
        refine a_then ?_
        refine a_seq ?_
        refine a_seq ?_
        refine a_region rfl ?_
        refine ap (y_move rfl) ?_
        refine ap (y_neq rfl rfl) ?_
        refine a_nil ?_
        refine a_en [(2, .int .i64 p2), (3, .int .i64 p3), (4, .pointer (some ⟨b0_0, 0, none⟩)), (10, .pointer (some ⟨b1_15, 0, none⟩)), (11, .pointer (some ⟨b1_16, 0, none⟩)), (12, .int .i64 x1_10.2.2), (31, .bool (x1_10.2.2 != 0))] ?_
        refine a_then ?_
        refine a_cond rfl (fun _ => ?_) (fun h_ => absurd (h_.symm.trans k1_10) (by decide))
        refine a_seq ?_
        refine a_region rfl ?_
        refine ap (y_move rfl) ?_
        refine ap (y_assign rfl) ?_
        refine ap (y_assign rfl) ?_
        refine a_nil ?_
        refine a_en [(8, .int .i64 0), (9, .int .i64 x1_10.2.2)] ?_
        refine a_then ?_
        refine a_ret ?_
        refine a_then_ret ?_
        refine a_done (v := .tuple #[.int .i64 0, .int .i64 x1_10.2.2]) (.inl rfl) rfl ?_ ?_
        · intro a_ w_ ha_ hs_; exact run_results (P := Tryd.prog) (fn := Tryd.f39) (rs := [.tmp 8, .tmp 9]) (vs := [.int .i64 0, .int .i64 x1_10.2.2]) rfl (.cons (rv_tmp ha_ rfl) (.cons (rv_tmp ha_ rfl) (All2.nil)))
        · intro _ _; obtain rfl := Option.some.inj hm
          rfl
      have N1_1 : ∀ (Hn1_9 : Hp) (ln1_9 : HLe Hb0_0 Hn1_9) (b1_15 : Nat) (b1_16 : Nat) (cs1_10 : List Value) (cb1_10 : List Value) (hc1_10 : Rp.rep (α := Arr 4 Int) Hn1_9 cs1_10 x1_10.2.1) (hb1_10 : Rp.rep (α := Bk none) Hn1_9 cb1_10 x1_10.1) (mz1_16 : Rp.rep (α := Arr 4 Int) Hn1_9 [.int .i64 0, .int .i64 0, .int .i64 0, .int .i64 0] [0, 0, 0, 0]), At 89 [] (Kp.mk w H noX) [(2, .int .i64 p2), (3, .int .i64 p3), (4, .pointer (some ⟨b0_0, 0, none⟩)), (10, .pointer (some ⟨b1_15, 0, none⟩)), (11, .pointer (some ⟨b1_16, 0, none⟩)), (28, .agg cs1_10.toArray), (29, .int .i64 x1_10.2.2)] Hn1_9 ([.box b1_15 cb1_10 110, .box b1_16 [.int .i64 0, .int .i64 0, .int .i64 0, .int .i64 0] 111]) (U1 (Sw Hn1_9 []) 2 (bits 20 262143)) := by
        intro Hn1_9 ln1_9 b1_15 b1_16 cs1_10 cb1_10 hc1_10 hb1_10 mz1_16
        refine d_fwd hU1 ?_
        have hb0_0 := PAt.mono ln1_9 hb0_0
        have hg := Glob.mono ln1_9 hg
        refine d1 18 rfl (e_storeWhole (i := 1) (ds := cs1_10) trivial ty111 rfl rfl rfl rfl (Rp.len hc1_10) ((Rp.one hc1_10)) rfl ?_)
        refine dn 524287 (sw0 []) ?_
        exact d_edge hU1 (N1_0 Hn1_9 ln1_9 b1_15 b1_16 cb1_10 cs1_10 hb1_10 hc1_10) ⟨rfl, rfl, rfl, rfl, rfl, rfl, trivial⟩ [0, 1] (by decide) rfl (fun _ h => h)
      have N1_2 : ∀ (Hn1_15 : Hp) (ln1_15 : HLe Hb0_0 Hn1_15) (b1_15 : Nat) (b1_16 : Nat) (cb1_10 : List Value) (cs1_10 : List Value) (hb1_10 : Rp.rep (α := Bk none) Hn1_15 cb1_10 x1_10.1) (hc1_10 : Rp.rep (α := Arr 4 Int) Hn1_15 cs1_10 x1_10.2.1) (mz1_16 : Rp.rep (α := Arr 4 Int) Hn1_15 [.int .i64 0, .int .i64 0, .int .i64 0, .int .i64 0] [0, 0, 0, 0]), At 89 [] (Kp.mk w H noX) [(2, .int .i64 p2), (3, .int .i64 p3), (4, .pointer (some ⟨b0_0, 0, none⟩)), (10, .pointer (some ⟨b1_15, 0, none⟩)), (11, .pointer (some ⟨b1_16, 0, none⟩)), (27, .agg cb1_10.toArray), (28, .agg cs1_10.toArray), (29, .int .i64 x1_10.2.2)] Hn1_15 ([.box b1_15 [.slice none 0 0, .slice none 0 0, .map none] 110, .box b1_16 [.int .i64 0, .int .i64 0, .int .i64 0, .int .i64 0] 111]) (U1 (Sw Hn1_15 []) 3 (bits 20 131071)) := by
        intro Hn1_15 ln1_15 b1_15 b1_16 cb1_10 cs1_10 hb1_10 hc1_10 mz1_16
        refine d_fwd hU1 ?_
        have hb0_0 := PAt.mono ln1_15 hb0_0
        have hg := Glob.mono ln1_15 hg
        refine d1 17 rfl (e_storeWhole (i := 0) (ds := cb1_10) trivial ty110 rfl rfl rfl rfl (Rp.len hb1_10) ((Rp.one hb1_10)) rfl ?_)
        refine dn 262143 (sw0 []) ?_
        exact d_edge hU1 (N1_1 Hn1_15 ln1_15 b1_15 b1_16 cs1_10 cb1_10 hc1_10 hb1_10 mz1_16) ⟨rfl, rfl, rfl, rfl, rfl, rfl, rfl, trivial⟩ [0, 1] (by decide) rfl (fun _ h => h)
      have N1_3 : ∀ (Hn1_25 : Hp) (ln1_25 : HLe Hb0_0 Hn1_25) (b1_15 : Nat) (cb1_10 : List Value) (cs1_10 : List Value) (hb1_10 : Rp.rep (α := Bk none) Hn1_25 cb1_10 x1_10.1) (hc1_10 : Rp.rep (α := Arr 4 Int) Hn1_25 cs1_10 x1_10.2.1), At 89 [] (Kp.mk w H noX) [(2, .int .i64 p2), (3, .int .i64 p3), (4, .pointer (some ⟨b0_0, 0, none⟩)), (10, .pointer (some ⟨b1_15, 0, none⟩)), (27, .agg cb1_10.toArray), (28, .agg cs1_10.toArray), (29, .int .i64 x1_10.2.2)] Hn1_25 ([.box b1_15 [.slice none 0 0, .slice none 0 0, .map none] 110]) (U1 (Sw Hn1_25 []) 4 (bits 20 65535)) := by
        intro Hn1_25 ln1_25 b1_15 cb1_10 cs1_10 hb1_10 hc1_10
        refine d_fwd hU1 ?_
        have hb0_0 := PAt.mono ln1_25 hb0_0
        have hg := Glob.mono ln1_25 hg
        refine d1 16 rfl (e_alloc (cs := [.int .i64 0, .int .i64 0, .int .i64 0, .int .i64 0]) trivial rfl ty111 rfl ?_)
        intro b1_16
        have mz1_16 : Rp.rep (α := Arr 4 Int) Hn1_25 [.int .i64 0, .int .i64 0, .int .i64 0, .int .i64 0] [0, 0, 0, 0] := ⟨(RepL.cons (c := [_]) rfl (RepL.cons (c := [_]) rfl (RepL.cons (c := [_]) rfl (RepL.cons (c := [_]) rfl RepL.nil)))), rfl⟩
        refine dn 131071 (sw0 []) ?_
        exact d_edge hU1 (N1_2 Hn1_25 ln1_25 b1_15 b1_16 cb1_10 cs1_10 hb1_10 hc1_10 mz1_16) ⟨rfl, rfl, rfl, rfl, rfl, rfl, rfl, rfl, trivial⟩ [1, 0] (by decide) rfl (fun _ h => h)
      have N1_4 : ∀ (Hn1_26 : Hp) (ln1_26 : HLe Hb0_0 Hn1_26) (b1_16 : Nat) (cb1_10 : List Value) (cs1_10 : List Value) (hb1_10 : Rp.rep (α := Bk none) Hn1_26 cb1_10 x1_10.1) (hc1_10 : Rp.rep (α := Arr 4 Int) Hn1_26 cs1_10 x1_10.2.1) (mz1_16 : Rp.rep (α := Arr 4 Int) Hn1_26 [.int .i64 0, .int .i64 0, .int .i64 0, .int .i64 0] [0, 0, 0, 0]), At 89 [] (Kp.mk w H noX) [(2, .int .i64 p2), (3, .int .i64 p3), (4, .pointer (some ⟨b0_0, 0, none⟩)), (11, .pointer (some ⟨b1_16, 0, none⟩)), (27, .agg cb1_10.toArray), (28, .agg cs1_10.toArray), (29, .int .i64 x1_10.2.2)] Hn1_26 ([.box b1_16 [.int .i64 0, .int .i64 0, .int .i64 0, .int .i64 0] 111]) (U1 (Sw Hn1_26 []) 4 (bits 20 98303)) := by
        intro Hn1_26 ln1_26 b1_16 cb1_10 cs1_10 hb1_10 hc1_10 mz1_16
        refine d_fwd hU1 ?_
        have hb0_0 := PAt.mono ln1_26 hb0_0
        have hg := Glob.mono ln1_26 hg
        refine d1 15 rfl (e_alloc (cs := [.slice none 0 0, .slice none 0 0, .map none]) trivial rfl ty110 rfl ?_)
        intro b1_15
        refine dn 131071 (sw0 []) ?_
        exact d_edge hU1 (N1_2 Hn1_26 ln1_26 b1_15 b1_16 cb1_10 cs1_10 hb1_10 hc1_10 mz1_16) ⟨rfl, rfl, rfl, rfl, rfl, rfl, rfl, rfl, trivial⟩ [0, 1] (by decide) rfl (fun _ h => h)
      have N1_5 : ∀ (Hn1_8 : Hp) (ln1_8 : HLe Hb0_0 Hn1_8) (b1_15 : Nat) (b1_16 : Nat) (cb1_10 : List Value) (cs1_10 : List Value) (hb1_10 : Rp.rep (α := Bk none) Hn1_8 cb1_10 x1_10.1) (hc1_10 : Rp.rep (α := Arr 4 Int) Hn1_8 cs1_10 x1_10.2.1) (mz1_16 : Rp.rep (α := Arr 4 Int) Hn1_8 [.int .i64 0, .int .i64 0, .int .i64 0, .int .i64 0] [0, 0, 0, 0]), At 89 [] (Kp.mk w H noX) [(2, .int .i64 p2), (3, .int .i64 p3), (4, .pointer (some ⟨b0_0, 0, none⟩)), (10, .pointer (some ⟨b1_15, 0, none⟩)), (11, .pointer (some ⟨b1_16, 0, none⟩)), (26, .tuple #[.agg cb1_10.toArray, .agg cs1_10.toArray, .int .i64 x1_10.2.2])] Hn1_8 ([.box b1_15 [.slice none 0 0, .slice none 0 0, .map none] 110, .box b1_16 [.int .i64 0, .int .i64 0, .int .i64 0, .int .i64 0] 111]) (U1 (Sw Hn1_8 []) 7 (bits 20 100351)) := by
        intro Hn1_8 ln1_8 b1_15 b1_16 cb1_10 cs1_10 hb1_10 hc1_10 mz1_16
        refine d_fwd hU1 ?_
        have hb0_0 := PAt.mono ln1_8 hb0_0
        have hg := Glob.mono ln1_8 hg
        refine dt 11 102399 rfl trivial (y_move rfl) (sw0 []) ?_
        refine dt 12 106495 rfl trivial (y_extract rfl rfl) (sw0 []) ?_
        refine dt 13 114687 rfl trivial (y_extract rfl rfl) (sw0 []) ?_
        refine dt 14 131071 rfl trivial (y_extract rfl rfl) (sw0 []) ?_
        refine d1 17 rfl (e_storeWhole (i := 0) (ds := cb1_10) trivial ty110 rfl rfl rfl rfl (Rp.len hb1_10) ((Rp.one hb1_10)) rfl ?_)
        refine dn 262143 (sw0 []) ?_
        exact d_edge hU1 (N1_1 Hn1_8 ln1_8 b1_15 b1_16 cs1_10 cb1_10 hc1_10 hb1_10 mz1_16) ⟨rfl, rfl, rfl, rfl, rfl, rfl, rfl, trivial⟩ [0, 1] (by decide) rfl (fun _ h => h)
      have N1_6 : ∀ (Hn1_18 : Hp) (ln1_18 : HLe Hb0_0 Hn1_18) (b1_15 : Nat) (cb1_10 : List Value) (cs1_10 : List Value) (hb1_10 : Rp.rep (α := Bk none) Hn1_18 cb1_10 x1_10.1) (hc1_10 : Rp.rep (α := Arr 4 Int) Hn1_18 cs1_10 x1_10.2.1), At 89 [] (Kp.mk w H noX) [(2, .int .i64 p2), (3, .int .i64 p3), (4, .pointer (some ⟨b0_0, 0, none⟩)), (10, .pointer (some ⟨b1_15, 0, none⟩)), (26, .tuple #[.agg cb1_10.toArray, .agg cs1_10.toArray, .int .i64 x1_10.2.2])] Hn1_18 ([.box b1_15 [.slice none 0 0, .slice none 0 0, .map none] 110]) (U1 (Sw Hn1_18 []) 8 (bits 20 34815)) := by
        intro Hn1_18 ln1_18 b1_15 cb1_10 cs1_10 hb1_10 hc1_10
        refine d_fwd hU1 ?_
        have hb0_0 := PAt.mono ln1_18 hb0_0
        have hg := Glob.mono ln1_18 hg
        refine dt 11 36863 rfl trivial (y_move rfl) (sw0 []) ?_
        refine dt 12 40959 rfl trivial (y_extract rfl rfl) (sw0 []) ?_
        refine dt 13 49151 rfl trivial (y_extract rfl rfl) (sw0 []) ?_
        refine dt 14 65535 rfl trivial (y_extract rfl rfl) (sw0 []) ?_
        refine d1 16 rfl (e_alloc (cs := [.int .i64 0, .int .i64 0, .int .i64 0, .int .i64 0]) trivial rfl ty111 rfl ?_)
        intro b1_16
        have mz1_16 : Rp.rep (α := Arr 4 Int) Hn1_18 [.int .i64 0, .int .i64 0, .int .i64 0, .int .i64 0] [0, 0, 0, 0] := ⟨(RepL.cons (c := [_]) rfl (RepL.cons (c := [_]) rfl (RepL.cons (c := [_]) rfl (RepL.cons (c := [_]) rfl RepL.nil)))), rfl⟩
        refine dn 131071 (sw0 []) ?_
        exact d_edge hU1 (N1_2 Hn1_18 ln1_18 b1_15 b1_16 cb1_10 cs1_10 hb1_10 hc1_10 mz1_16) ⟨rfl, rfl, rfl, rfl, rfl, rfl, rfl, rfl, trivial⟩ [1, 0] (by decide) rfl (fun _ h => h)
      have N1_7 : ∀ (Hn1_13 : Hp) (ln1_13 : HLe Hb0_0 Hn1_13) (b1_16 : Nat) (cb1_10 : List Value) (cs1_10 : List Value) (hb1_10 : Rp.rep (α := Bk none) Hn1_13 cb1_10 x1_10.1) (hc1_10 : Rp.rep (α := Arr 4 Int) Hn1_13 cs1_10 x1_10.2.1) (mz1_16 : Rp.rep (α := Arr 4 Int) Hn1_13 [.int .i64 0, .int .i64 0, .int .i64 0, .int .i64 0] [0, 0, 0, 0]), At 89 [] (Kp.mk w H noX) [(2, .int .i64 p2), (3, .int .i64 p3), (4, .pointer (some ⟨b0_0, 0, none⟩)), (11, .pointer (some ⟨b1_16, 0, none⟩)), (26, .tuple #[.agg cb1_10.toArray, .agg cs1_10.toArray, .int .i64 x1_10.2.2])] Hn1_13 ([.box b1_16 [.int .i64 0, .int .i64 0, .int .i64 0, .int .i64 0] 111]) (U1 (Sw Hn1_13 []) 8 (bits 20 67583)) := by
        intro Hn1_13 ln1_13 b1_16 cb1_10 cs1_10 hb1_10 hc1_10 mz1_16
        refine d_fwd hU1 ?_
        have hb0_0 := PAt.mono ln1_13 hb0_0
        have hg := Glob.mono ln1_13 hg
        refine dt 11 69631 rfl trivial (y_move rfl) (sw0 []) ?_
        refine dt 12 73727 rfl trivial (y_extract rfl rfl) (sw0 []) ?_
        refine dt 13 81919 rfl trivial (y_extract rfl rfl) (sw0 []) ?_
        refine dt 14 98303 rfl trivial (y_extract rfl rfl) (sw0 []) ?_
        refine d1 15 rfl (e_alloc (cs := [.slice none 0 0, .slice none 0 0, .map none]) trivial rfl ty110 rfl ?_)
        intro b1_15
        refine dn 131071 (sw0 []) ?_
        exact d_edge hU1 (N1_2 Hn1_13 ln1_13 b1_15 b1_16 cb1_10 cs1_10 hb1_10 hc1_10 mz1_16) ⟨rfl, rfl, rfl, rfl, rfl, rfl, rfl, rfl, trivial⟩ [0, 1] (by decide) rfl (fun _ h => h)
      have N1_8 : ∀ (Hn1_14 : Hp) (ln1_14 : HLe Hb0_0 Hn1_14) (b1_15 : Nat) (b1_16 : Nat) (u1_0 : List Value) (h1_0 : Rp.rep (α := TunnelBook) Hn1_14 u1_0 p0) (mz1_16 : Rp.rep (α := Arr 4 Int) Hn1_14 [.int .i64 0, .int .i64 0, .int .i64 0, .int .i64 0] [0, 0, 0, 0]), At 89 [] (Kp.mk w H noX) [(2, .int .i64 p2), (3, .int .i64 p3), (4, .pointer (some ⟨b0_0, 0, none⟩)), (10, .pointer (some ⟨b1_15, 0, none⟩)), (11, .pointer (some ⟨b1_16, 0, none⟩)), (16, .agg u1_0.toArray), (17, v1), (25, .bool false)] Hn1_14 ([.box b1_15 [.slice none 0 0, .slice none 0 0, .map none] 110, .box b1_16 [.int .i64 0, .int .i64 0, .int .i64 0, .int .i64 0] 111]) (U1 (Sw Hn1_14 []) 8 (bits 20 99327)) := by
        intro Hn1_14 ln1_14 b1_15 b1_16 u1_0 h1_0 mz1_16
        refine d_fwd hU1 ?_
        have hb0_0 := PAt.mono ln1_14 hb0_0
        have h1 := Sl.mono ln1_14 h1
        have hg := Glob.mono ln1_14 hg
        refine d1 10 rfl (e_callO (all := [.agg u1_0.toArray, v1, .bool false]) trivial rfl Tryd.func80 rfl rfl rfl rfl rfl (fun w hw => ok_80 hw h1_0 h1 q1_10) ?_)
        rintro _ H1_10 _ l1_10 ⟨cb1_10, cs1_10, mm1_10, rfl, hb1_10, hc1_10, hd1_10⟩
        rcases hd1_10 with ⟨rfl, he1_10, rfl⟩ | ⟨M1_10, rfl, he1_10, rfl⟩
        rotate_left
        · exact absurd k1_10 (by simp [he1_10])
        have hb0_0 := PAt.mono l1_10 hb0_0
        have h1_0 := Rp.mono l1_10 h1_0
        have h1 := Sl.mono l1_10 h1
        have mz1_16 := Rp.mono l1_10 mz1_16
        have hg := Glob.mono l1_10 hg
        refine dn 100351 (swl l1_10 []) ?_
        exact d_edge hU1 (N1_5 H1_10 (ln1_14.trans l1_10) b1_15 b1_16 cb1_10 cs1_10 hb1_10 hc1_10 mz1_16) ⟨rfl, rfl, rfl, rfl, rfl, rfl, trivial⟩ [0, 1] (by decide) rfl (sw_sw l1_10 [] rfl)
      have N1_9 : ∀ (Hn1_22 : Hp) (ln1_22 : HLe Hb0_0 Hn1_22) (cb1_10 : List Value) (cs1_10 : List Value) (hb1_10 : Rp.rep (α := Bk none) Hn1_22 cb1_10 x1_10.1) (hc1_10 : Rp.rep (α := Arr 4 Int) Hn1_22 cs1_10 x1_10.2.1), At 89 [] (Kp.mk w H noX) [(2, .int .i64 p2), (3, .int .i64 p3), (4, .pointer (some ⟨b0_0, 0, none⟩)), (26, .tuple #[.agg cb1_10.toArray, .agg cs1_10.toArray, .int .i64 x1_10.2.2])] Hn1_22 [] (U1 (Sw Hn1_22 []) 9 (bits 20 2047)) := by
        intro Hn1_22 ln1_22 cb1_10 cs1_10 hb1_10 hc1_10
        refine d_fwd hU1 ?_
        have hb0_0 := PAt.mono ln1_22 hb0_0
        have hg := Glob.mono ln1_22 hg
        refine dt 11 4095 rfl trivial (y_move rfl) (sw0 []) ?_
        refine dt 12 8191 rfl trivial (y_extract rfl rfl) (sw0 []) ?_
        refine dt 13 16383 rfl trivial (y_extract rfl rfl) (sw0 []) ?_
        refine dt 14 32767 rfl trivial (y_extract rfl rfl) (sw0 []) ?_
        refine d_all (rs := [15, 16]) (by kernel_rfl) rfl ⟨⟨_, rfl, ?_⟩, ⟨_, rfl, ?_⟩, trivial⟩
        · refine e_alloc (cs := [.slice none 0 0, .slice none 0 0, .map none]) trivial rfl ty110 rfl ?_
          intro b1_15
          refine dn 65535 (sw0 []) ?_
          exact d_edge hU1 (N1_3 Hn1_22 ln1_22 b1_15 cb1_10 cs1_10 hb1_10 hc1_10) ⟨rfl, rfl, rfl, rfl, rfl, rfl, rfl, trivial⟩ [0] (by decide) rfl (fun _ h => h)
        · refine e_alloc (cs := [.int .i64 0, .int .i64 0, .int .i64 0, .int .i64 0]) trivial rfl ty111 rfl ?_
          intro b1_16
          have mz1_16 : Rp.rep (α := Arr 4 Int) Hn1_22 [.int .i64 0, .int .i64 0, .int .i64 0, .int .i64 0] [0, 0, 0, 0] := ⟨(RepL.cons (c := [_]) rfl (RepL.cons (c := [_]) rfl (RepL.cons (c := [_]) rfl (RepL.cons (c := [_]) rfl RepL.nil)))), rfl⟩
          refine dn 98303 (sw0 []) ?_
          exact d_edge hU1 (N1_4 Hn1_22 ln1_22 b1_16 cb1_10 cs1_10 hb1_10 hc1_10 mz1_16) ⟨rfl, rfl, rfl, rfl, rfl, rfl, rfl, trivial⟩ [0] (by decide) rfl (fun _ h => h)
      have N1_10 : ∀ (Hn1_23 : Hp) (ln1_23 : HLe Hb0_0 Hn1_23) (b1_15 : Nat) (u1_0 : List Value) (h1_0 : Rp.rep (α := TunnelBook) Hn1_23 u1_0 p0), At 89 [] (Kp.mk w H noX) [(2, .int .i64 p2), (3, .int .i64 p3), (4, .pointer (some ⟨b0_0, 0, none⟩)), (10, .pointer (some ⟨b1_15, 0, none⟩)), (16, .agg u1_0.toArray), (17, v1), (25, .bool false)] Hn1_23 ([.box b1_15 [.slice none 0 0, .slice none 0 0, .map none] 110]) (U1 (Sw Hn1_23 []) 9 (bits 20 33791)) := by
        intro Hn1_23 ln1_23 b1_15 u1_0 h1_0
        refine d_fwd hU1 ?_
        have hb0_0 := PAt.mono ln1_23 hb0_0
        have h1 := Sl.mono ln1_23 h1
        have hg := Glob.mono ln1_23 hg
        refine d_all (rs := [10, 16]) (by kernel_rfl) rfl ⟨⟨_, rfl, ?_⟩, ⟨_, rfl, ?_⟩, trivial⟩
        · refine e_callO (all := [.agg u1_0.toArray, v1, .bool false]) trivial rfl Tryd.func80 rfl rfl rfl rfl rfl (fun w hw => ok_80 hw h1_0 h1 q1_10) ?_
          rintro _ H1_10 _ l1_10 ⟨cb1_10, cs1_10, mm1_10, rfl, hb1_10, hc1_10, hd1_10⟩
          rcases hd1_10 with ⟨rfl, he1_10, rfl⟩ | ⟨M1_10, rfl, he1_10, rfl⟩
          rotate_left
          · exact absurd k1_10 (by simp [he1_10])
          have hb0_0 := PAt.mono l1_10 hb0_0
          have h1_0 := Rp.mono l1_10 h1_0
          have h1 := Sl.mono l1_10 h1
          have hg := Glob.mono l1_10 hg
          refine dn 34815 (swl l1_10 []) ?_
          exact d_edge hU1 (N1_6 H1_10 (ln1_23.trans l1_10) b1_15 cb1_10 cs1_10 hb1_10 hc1_10) ⟨rfl, rfl, rfl, rfl, rfl, trivial⟩ [0] (by decide) rfl (sw_sw l1_10 [] rfl)
        · refine e_alloc (cs := [.int .i64 0, .int .i64 0, .int .i64 0, .int .i64 0]) trivial rfl ty111 rfl ?_
          intro b1_16
          have mz1_16 : Rp.rep (α := Arr 4 Int) Hn1_23 [.int .i64 0, .int .i64 0, .int .i64 0, .int .i64 0] [0, 0, 0, 0] := ⟨(RepL.cons (c := [_]) rfl (RepL.cons (c := [_]) rfl (RepL.cons (c := [_]) rfl (RepL.cons (c := [_]) rfl RepL.nil)))), rfl⟩
          refine dn 99327 (sw0 []) ?_
          exact d_edge hU1 (N1_8 Hn1_23 ln1_23 b1_15 b1_16 u1_0 h1_0 mz1_16) ⟨rfl, rfl, rfl, rfl, rfl, rfl, rfl, rfl, trivial⟩ [1, 0] (by decide) rfl (fun _ h => h)
      have N1_11 : ∀ (Hn1_24 : Hp) (ln1_24 : HLe Hb0_0 Hn1_24) (b1_16 : Nat) (u1_0 : List Value) (h1_0 : Rp.rep (α := TunnelBook) Hn1_24 u1_0 p0) (mz1_16 : Rp.rep (α := Arr 4 Int) Hn1_24 [.int .i64 0, .int .i64 0, .int .i64 0, .int .i64 0] [0, 0, 0, 0]), At 89 [] (Kp.mk w H noX) [(2, .int .i64 p2), (3, .int .i64 p3), (4, .pointer (some ⟨b0_0, 0, none⟩)), (11, .pointer (some ⟨b1_16, 0, none⟩)), (16, .agg u1_0.toArray), (17, v1), (25, .bool false)] Hn1_24 ([.box b1_16 [.int .i64 0, .int .i64 0, .int .i64 0, .int .i64 0] 111]) (U1 (Sw Hn1_24 []) 9 (bits 20 66559)) := by
        intro Hn1_24 ln1_24 b1_16 u1_0 h1_0 mz1_16
        refine d_fwd hU1 ?_
        have hb0_0 := PAt.mono ln1_24 hb0_0
        have h1 := Sl.mono ln1_24 h1
        have hg := Glob.mono ln1_24 hg
        refine d_all (rs := [10, 15]) (by kernel_rfl) rfl ⟨⟨_, rfl, ?_⟩, ⟨_, rfl, ?_⟩, trivial⟩
        · refine e_callO (all := [.agg u1_0.toArray, v1, .bool false]) trivial rfl Tryd.func80 rfl rfl rfl rfl rfl (fun w hw => ok_80 hw h1_0 h1 q1_10) ?_
          rintro _ H1_10 _ l1_10 ⟨cb1_10, cs1_10, mm1_10, rfl, hb1_10, hc1_10, hd1_10⟩
          rcases hd1_10 with ⟨rfl, he1_10, rfl⟩ | ⟨M1_10, rfl, he1_10, rfl⟩
          rotate_left
          · exact absurd k1_10 (by simp [he1_10])
          have hb0_0 := PAt.mono l1_10 hb0_0
          have h1_0 := Rp.mono l1_10 h1_0
          have h1 := Sl.mono l1_10 h1
          have mz1_16 := Rp.mono l1_10 mz1_16
          have hg := Glob.mono l1_10 hg
          refine dn 67583 (swl l1_10 []) ?_
          exact d_edge hU1 (N1_7 H1_10 (ln1_24.trans l1_10) b1_16 cb1_10 cs1_10 hb1_10 hc1_10 mz1_16) ⟨rfl, rfl, rfl, rfl, rfl, trivial⟩ [0] (by decide) rfl (sw_sw l1_10 [] rfl)
        · refine e_alloc (cs := [.slice none 0 0, .slice none 0 0, .map none]) trivial rfl ty110 rfl ?_
          intro b1_15
          refine dn 99327 (sw0 []) ?_
          exact d_edge hU1 (N1_8 Hn1_24 ln1_24 b1_15 b1_16 u1_0 h1_0 mz1_16) ⟨rfl, rfl, rfl, rfl, rfl, rfl, rfl, rfl, trivial⟩ [0, 1] (by decide) rfl (fun _ h => h)
      have N1_12 : ∀ (Hn1_7 : Hp) (ln1_7 : HLe Hb0_0 Hn1_7) (b1_15 : Nat) (b1_16 : Nat) (u1_0 : List Value) (h1_0 : Rp.rep (α := TunnelBook) Hn1_7 u1_0 p0) (mz1_16 : Rp.rep (α := Arr 4 Int) Hn1_7 [.int .i64 0, .int .i64 0, .int .i64 0, .int .i64 0] [0, 0, 0, 0]), At 89 [] (Kp.mk w H noX) [(2, .int .i64 p2), (3, .int .i64 p3), (4, .pointer (some ⟨b0_0, 0, none⟩)), (10, .pointer (some ⟨b1_15, 0, none⟩)), (11, .pointer (some ⟨b1_16, 0, none⟩)), (16, .agg u1_0.toArray), (17, v1), (21, .bool x1_4), (24, undef)] Hn1_7 ([.box b1_15 [.slice none 0 0, .slice none 0 0, .map none] 110, .box b1_16 [.int .i64 0, .int .i64 0, .int .i64 0, .int .i64 0] 111]) (U1 (Sw Hn1_7 []) 9 (bits 20 98815)) := by
        intro Hn1_7 ln1_7 b1_15 b1_16 u1_0 h1_0 mz1_16
        refine d_fwd hU1 ?_
        have hb0_0 := PAt.mono ln1_7 hb0_0
        have h1 := Sl.mono ln1_7 h1
        have hg := Glob.mono ln1_7 hg
        refine dt 9 99327 rfl trivial (y_pick_f rfl k1_6 rfl) (sw0 []) ?_
        refine d1 10 rfl (e_callO (all := [.agg u1_0.toArray, v1, .bool false]) trivial rfl Tryd.func80 rfl rfl rfl rfl rfl (fun w hw => ok_80 hw h1_0 h1 q1_10) ?_)
        rintro _ H1_10 _ l1_10 ⟨cb1_10, cs1_10, mm1_10, rfl, hb1_10, hc1_10, hd1_10⟩
        rcases hd1_10 with ⟨rfl, he1_10, rfl⟩ | ⟨M1_10, rfl, he1_10, rfl⟩
        rotate_left
        · exact absurd k1_10 (by simp [he1_10])
        have hb0_0 := PAt.mono l1_10 hb0_0
        have h1_0 := Rp.mono l1_10 h1_0
        have h1 := Sl.mono l1_10 h1
        have mz1_16 := Rp.mono l1_10 mz1_16
        have hg := Glob.mono l1_10 hg
        refine dn 100351 (swl l1_10 []) ?_
        exact d_edge hU1 (N1_5 H1_10 (ln1_7.trans l1_10) b1_15 b1_16 cb1_10 cs1_10 hb1_10 hc1_10 mz1_16) ⟨rfl, rfl, rfl, rfl, rfl, rfl, trivial⟩ [0, 1] (by decide) rfl (sw_sw l1_10 [] rfl)
      have N1_13 : ∀ (Hn1_17 : Hp) (ln1_17 : HLe Hb0_0 Hn1_17) (b1_15 : Nat) (u1_0 : List Value) (h1_0 : Rp.rep (α := TunnelBook) Hn1_17 u1_0 p0), At 89 [] (Kp.mk w H noX) [(2, .int .i64 p2), (3, .int .i64 p3), (4, .pointer (some ⟨b0_0, 0, none⟩)), (10, .pointer (some ⟨b1_15, 0, none⟩)), (16, .agg u1_0.toArray), (17, v1), (21, .bool x1_4), (24, undef)] Hn1_17 ([.box b1_15 [.slice none 0 0, .slice none 0 0, .map none] 110]) (U1 (Sw Hn1_17 []) 10 (bits 20 33279)) := by
        intro Hn1_17 ln1_17 b1_15 u1_0 h1_0
        refine d_fwd hU1 ?_
        have hb0_0 := PAt.mono ln1_17 hb0_0
        have h1 := Sl.mono ln1_17 h1
        have hg := Glob.mono ln1_17 hg
        refine dt 9 33791 rfl trivial (y_pick_f rfl k1_6 rfl) (sw0 []) ?_
        refine d_all (rs := [10, 16]) (by kernel_rfl) rfl ⟨⟨_, rfl, ?_⟩, ⟨_, rfl, ?_⟩, trivial⟩
        · refine e_callO (all := [.agg u1_0.toArray, v1, .bool false]) trivial rfl Tryd.func80 rfl rfl rfl rfl rfl (fun w hw => ok_80 hw h1_0 h1 q1_10) ?_
          rintro _ H1_10 _ l1_10 ⟨cb1_10, cs1_10, mm1_10, rfl, hb1_10, hc1_10, hd1_10⟩
          rcases hd1_10 with ⟨rfl, he1_10, rfl⟩ | ⟨M1_10, rfl, he1_10, rfl⟩
          rotate_left
          · exact absurd k1_10 (by simp [he1_10])
          have hb0_0 := PAt.mono l1_10 hb0_0
          have h1_0 := Rp.mono l1_10 h1_0
          have h1 := Sl.mono l1_10 h1
          have hg := Glob.mono l1_10 hg
          refine dn 34815 (swl l1_10 []) ?_
          exact d_edge hU1 (N1_6 H1_10 (ln1_17.trans l1_10) b1_15 cb1_10 cs1_10 hb1_10 hc1_10) ⟨rfl, rfl, rfl, rfl, rfl, trivial⟩ [0] (by decide) rfl (sw_sw l1_10 [] rfl)
        · refine e_alloc (cs := [.int .i64 0, .int .i64 0, .int .i64 0, .int .i64 0]) trivial rfl ty111 rfl ?_
          intro b1_16
          have mz1_16 : Rp.rep (α := Arr 4 Int) Hn1_17 [.int .i64 0, .int .i64 0, .int .i64 0, .int .i64 0] [0, 0, 0, 0] := ⟨(RepL.cons (c := [_]) rfl (RepL.cons (c := [_]) rfl (RepL.cons (c := [_]) rfl (RepL.cons (c := [_]) rfl RepL.nil)))), rfl⟩
          refine dn 99327 (sw0 []) ?_
          exact d_edge hU1 (N1_8 Hn1_17 ln1_17 b1_15 b1_16 u1_0 h1_0 mz1_16) ⟨rfl, rfl, rfl, rfl, rfl, rfl, rfl, rfl, trivial⟩ [1, 0] (by decide) rfl (fun _ h => h)
      have N1_14 : ∀ (Hn1_11 : Hp) (ln1_11 : HLe Hb0_0 Hn1_11) (b1_16 : Nat) (u1_0 : List Value) (h1_0 : Rp.rep (α := TunnelBook) Hn1_11 u1_0 p0) (mz1_16 : Rp.rep (α := Arr 4 Int) Hn1_11 [.int .i64 0, .int .i64 0, .int .i64 0, .int .i64 0] [0, 0, 0, 0]), At 89 [] (Kp.mk w H noX) [(2, .int .i64 p2), (3, .int .i64 p3), (4, .pointer (some ⟨b0_0, 0, none⟩)), (11, .pointer (some ⟨b1_16, 0, none⟩)), (16, .agg u1_0.toArray), (17, v1), (21, .bool x1_4), (24, undef)] Hn1_11 ([.box b1_16 [.int .i64 0, .int .i64 0, .int .i64 0, .int .i64 0] 111]) (U1 (Sw Hn1_11 []) 10 (bits 20 66047)) := by
        intro Hn1_11 ln1_11 b1_16 u1_0 h1_0 mz1_16
        refine d_fwd hU1 ?_
        have hb0_0 := PAt.mono ln1_11 hb0_0
        have h1 := Sl.mono ln1_11 h1
        have hg := Glob.mono ln1_11 hg
        refine dt 9 66559 rfl trivial (y_pick_f rfl k1_6 rfl) (sw0 []) ?_
        refine d_all (rs := [10, 15]) (by kernel_rfl) rfl ⟨⟨_, rfl, ?_⟩, ⟨_, rfl, ?_⟩, trivial⟩
        · refine e_callO (all := [.agg u1_0.toArray, v1, .bool false]) trivial rfl Tryd.func80 rfl rfl rfl rfl rfl (fun w hw => ok_80 hw h1_0 h1 q1_10) ?_
          rintro _ H1_10 _ l1_10 ⟨cb1_10, cs1_10, mm1_10, rfl, hb1_10, hc1_10, hd1_10⟩
          rcases hd1_10 with ⟨rfl, he1_10, rfl⟩ | ⟨M1_10, rfl, he1_10, rfl⟩
          rotate_left
          · exact absurd k1_10 (by simp [he1_10])
          have hb0_0 := PAt.mono l1_10 hb0_0
          have h1_0 := Rp.mono l1_10 h1_0
          have h1 := Sl.mono l1_10 h1
          have mz1_16 := Rp.mono l1_10 mz1_16
          have hg := Glob.mono l1_10 hg
          refine dn 67583 (swl l1_10 []) ?_
          exact d_edge hU1 (N1_7 H1_10 (ln1_11.trans l1_10) b1_16 cb1_10 cs1_10 hb1_10 hc1_10 mz1_16) ⟨rfl, rfl, rfl, rfl, rfl, trivial⟩ [0] (by decide) rfl (sw_sw l1_10 [] rfl)
        · refine e_alloc (cs := [.slice none 0 0, .slice none 0 0, .map none]) trivial rfl ty110 rfl ?_
          intro b1_15
          refine dn 99327 (sw0 []) ?_
          exact d_edge hU1 (N1_8 Hn1_11 ln1_11 b1_15 b1_16 u1_0 h1_0 mz1_16) ⟨rfl, rfl, rfl, rfl, rfl, rfl, rfl, rfl, trivial⟩ [0, 1] (by decide) rfl (fun _ h => h)
      have N1_15 : ∀ (Hn1_12 : Hp) (ln1_12 : HLe Hb0_0 Hn1_12) (b1_15 : Nat) (b1_16 : Nat) (u1_0 : List Value) (h1_0 : Rp.rep (α := TunnelBook) Hn1_12 u1_0 p0) (mz1_16 : Rp.rep (α := Arr 4 Int) Hn1_12 [.int .i64 0, .int .i64 0, .int .i64 0, .int .i64 0] [0, 0, 0, 0]), At 89 [] (Kp.mk w H noX) [(2, .int .i64 p2), (3, .int .i64 p3), (4, .pointer (some ⟨b0_0, 0, none⟩)), (10, .pointer (some ⟨b1_15, 0, none⟩)), (11, .pointer (some ⟨b1_16, 0, none⟩)), (16, .agg u1_0.toArray), (17, v1), (21, .bool x1_4), (22, undef), (23, undef)] Hn1_12 ([.box b1_15 [.slice none 0 0, .slice none 0 0, .map none] 110, .box b1_16 [.int .i64 0, .int .i64 0, .int .i64 0, .int .i64 0] 111]) (U1 (Sw Hn1_12 []) 10 (bits 20 98559)) := by
        intro Hn1_12 ln1_12 b1_15 b1_16 u1_0 h1_0 mz1_16
        refine d_fwd hU1 ?_
        have hb0_0 := PAt.mono ln1_12 hb0_0
        have h1 := Sl.mono ln1_12 h1
        have hg := Glob.mono ln1_12 hg
        refine d1 8 rfl (p_skip (sk1 rfl rfl k1_6) rfl rfl ?_)
        refine dn 98815 (sw0 []) ?_
        exact d_edge hU1 (N1_12 Hn1_12 ln1_12 b1_15 b1_16 u1_0 h1_0 mz1_16) ⟨rfl, rfl, rfl, rfl, rfl, rfl, rfl, rfl, rfl, trivial⟩ [0, 1] (by decide) rfl (fun _ h => h)
      have N1_16 : ∀ (Hn1_19 : Hp) (ln1_19 : HLe Hb0_0 Hn1_19) (u1_0 : List Value) (h1_0 : Rp.rep (α := TunnelBook) Hn1_19 u1_0 p0), At 89 [] (Kp.mk w H noX) [(2, .int .i64 p2), (3, .int .i64 p3), (4, .pointer (some ⟨b0_0, 0, none⟩)), (16, .agg u1_0.toArray), (17, v1), (21, .bool x1_4), (24, undef)] Hn1_19 [] (U1 (Sw Hn1_19 []) 11 (bits 20 511)) := by
        intro Hn1_19 ln1_19 u1_0 h1_0
        refine d_fwd hU1 ?_
        have hb0_0 := PAt.mono ln1_19 hb0_0
        have h1 := Sl.mono ln1_19 h1
        have hg := Glob.mono ln1_19 hg
        refine dt 9 1023 rfl trivial (y_pick_f rfl k1_6 rfl) (sw0 []) ?_
        refine d_all (rs := [10, 15, 16]) (by kernel_rfl) rfl ⟨⟨_, rfl, ?_⟩, ⟨_, rfl, ?_⟩, ⟨_, rfl, ?_⟩, trivial⟩
        · refine e_callO (all := [.agg u1_0.toArray, v1, .bool false]) trivial rfl Tryd.func80 rfl rfl rfl rfl rfl (fun w hw => ok_80 hw h1_0 h1 q1_10) ?_
          rintro _ H1_10 _ l1_10 ⟨cb1_10, cs1_10, mm1_10, rfl, hb1_10, hc1_10, hd1_10⟩
          rcases hd1_10 with ⟨rfl, he1_10, rfl⟩ | ⟨M1_10, rfl, he1_10, rfl⟩
          rotate_left
          · exact absurd k1_10 (by simp [he1_10])
          have hb0_0 := PAt.mono l1_10 hb0_0
          have h1_0 := Rp.mono l1_10 h1_0
          have h1 := Sl.mono l1_10 h1
          have hg := Glob.mono l1_10 hg
          refine dn 2047 (swl l1_10 []) ?_
          exact d_edge hU1 (N1_9 H1_10 (ln1_19.trans l1_10) cb1_10 cs1_10 hb1_10 hc1_10) ⟨rfl, rfl, rfl, rfl, trivial⟩ [] (by decide) rfl (sw_sw l1_10 [] rfl)
        · refine e_alloc (cs := [.slice none 0 0, .slice none 0 0, .map none]) trivial rfl ty110 rfl ?_
          intro b1_15
          refine dn 33791 (sw0 []) ?_
          exact d_edge hU1 (N1_10 Hn1_19 ln1_19 b1_15 u1_0 h1_0) ⟨rfl, rfl, rfl, rfl, rfl, rfl, rfl, trivial⟩ [0] (by decide) rfl (fun _ h => h)
        · refine e_alloc (cs := [.int .i64 0, .int .i64 0, .int .i64 0, .int .i64 0]) trivial rfl ty111 rfl ?_
          intro b1_16
          have mz1_16 : Rp.rep (α := Arr 4 Int) Hn1_19 [.int .i64 0, .int .i64 0, .int .i64 0, .int .i64 0] [0, 0, 0, 0] := ⟨(RepL.cons (c := [_]) rfl (RepL.cons (c := [_]) rfl (RepL.cons (c := [_]) rfl (RepL.cons (c := [_]) rfl RepL.nil)))), rfl⟩
          refine dn 66559 (sw0 []) ?_
          exact d_edge hU1 (N1_11 Hn1_19 ln1_19 b1_16 u1_0 h1_0 mz1_16) ⟨rfl, rfl, rfl, rfl, rfl, rfl, rfl, trivial⟩ [0] (by decide) rfl (fun _ h => h)
      have N1_17 : ∀ (Hn1_20 : Hp) (ln1_20 : HLe Hb0_0 Hn1_20) (b1_15 : Nat) (u1_0 : List Value) (h1_0 : Rp.rep (α := TunnelBook) Hn1_20 u1_0 p0), At 89 [] (Kp.mk w H noX) [(2, .int .i64 p2), (3, .int .i64 p3), (4, .pointer (some ⟨b0_0, 0, none⟩)), (10, .pointer (some ⟨b1_15, 0, none⟩)), (16, .agg u1_0.toArray), (17, v1), (21, .bool x1_4), (22, undef), (23, undef)] Hn1_20 ([.box b1_15 [.slice none 0 0, .slice none 0 0, .map none] 110]) (U1 (Sw Hn1_20 []) 11 (bits 20 33023)) := by
        intro Hn1_20 ln1_20 b1_15 u1_0 h1_0
        refine d_fwd hU1 ?_
        have hb0_0 := PAt.mono ln1_20 hb0_0
        have h1 := Sl.mono ln1_20 h1
        have hg := Glob.mono ln1_20 hg
        refine d_all (rs := [8, 16]) (by kernel_rfl) rfl ⟨⟨_, rfl, ?_⟩, ⟨_, rfl, ?_⟩, trivial⟩
        · refine p_skip (sk1 rfl rfl k1_6) rfl rfl ?_
          refine dn 33279 (sw0 []) ?_
          exact d_edge hU1 (N1_13 Hn1_20 ln1_20 b1_15 u1_0 h1_0) ⟨rfl, rfl, rfl, rfl, rfl, rfl, rfl, rfl, trivial⟩ [0] (by decide) rfl (fun _ h => h)
        · refine e_alloc (cs := [.int .i64 0, .int .i64 0, .int .i64 0, .int .i64 0]) trivial rfl ty111 rfl ?_
          intro b1_16
          have mz1_16 : Rp.rep (α := Arr 4 Int) Hn1_20 [.int .i64 0, .int .i64 0, .int .i64 0, .int .i64 0] [0, 0, 0, 0] := ⟨(RepL.cons (c := [_]) rfl (RepL.cons (c := [_]) rfl (RepL.cons (c := [_]) rfl (RepL.cons (c := [_]) rfl RepL.nil)))), rfl⟩
          refine dn 98559 (sw0 []) ?_
          exact d_edge hU1 (N1_15 Hn1_20 ln1_20 b1_15 b1_16 u1_0 h1_0 mz1_16) ⟨rfl, rfl, rfl, rfl, rfl, rfl, rfl, rfl, rfl, rfl, trivial⟩ [1, 0] (by decide) rfl (fun _ h => h)
      have N1_18 : ∀ (Hn1_21 : Hp) (ln1_21 : HLe Hb0_0 Hn1_21) (b1_16 : Nat) (u1_0 : List Value) (h1_0 : Rp.rep (α := TunnelBook) Hn1_21 u1_0 p0) (mz1_16 : Rp.rep (α := Arr 4 Int) Hn1_21 [.int .i64 0, .int .i64 0, .int .i64 0, .int .i64 0] [0, 0, 0, 0]), At 89 [] (Kp.mk w H noX) [(2, .int .i64 p2), (3, .int .i64 p3), (4, .pointer (some ⟨b0_0, 0, none⟩)), (11, .pointer (some ⟨b1_16, 0, none⟩)), (16, .agg u1_0.toArray), (17, v1), (21, .bool x1_4), (22, undef), (23, undef)] Hn1_21 ([.box b1_16 [.int .i64 0, .int .i64 0, .int .i64 0, .int .i64 0] 111]) (U1 (Sw Hn1_21 []) 11 (bits 20 65791)) := by
        intro Hn1_21 ln1_21 b1_16 u1_0 h1_0 mz1_16
        refine d_fwd hU1 ?_
        have hb0_0 := PAt.mono ln1_21 hb0_0
        have h1 := Sl.mono ln1_21 h1
        have hg := Glob.mono ln1_21 hg
        refine d_all (rs := [8, 15]) (by kernel_rfl) rfl ⟨⟨_, rfl, ?_⟩, ⟨_, rfl, ?_⟩, trivial⟩
        · refine p_skip (sk1 rfl rfl k1_6) rfl rfl ?_
          refine dn 66047 (sw0 []) ?_
          exact d_edge hU1 (N1_14 Hn1_21 ln1_21 b1_16 u1_0 h1_0 mz1_16) ⟨rfl, rfl, rfl, rfl, rfl, rfl, rfl, rfl, trivial⟩ [0] (by decide) rfl (fun _ h => h)
        · refine e_alloc (cs := [.slice none 0 0, .slice none 0 0, .map none]) trivial rfl ty110 rfl ?_
          intro b1_15
          refine dn 98559 (sw0 []) ?_
          exact d_edge hU1 (N1_15 Hn1_21 ln1_21 b1_15 b1_16 u1_0 h1_0 mz1_16) ⟨rfl, rfl, rfl, rfl, rfl, rfl, rfl, rfl, rfl, rfl, trivial⟩ [0, 1] (by decide) rfl (fun _ h => h)
      have N1_19 : ∀ (Hn1_6 : Hp) (ln1_6 : HLe Hb0_0 Hn1_6) (b1_15 : Nat) (b1_16 : Nat) (u1_0 : List Value) (h1_0 : Rp.rep (α := TunnelBook) Hn1_6 u1_0 p0) (mz1_16 : Rp.rep (α := Arr 4 Int) Hn1_6 [.int .i64 0, .int .i64 0, .int .i64 0, .int .i64 0] [0, 0, 0, 0]), At 89 [] (Kp.mk w H noX) [(2, .int .i64 p2), (3, .int .i64 p3), (4, .pointer (some ⟨b0_0, 0, none⟩)), (10, .pointer (some ⟨b1_15, 0, none⟩)), (11, .pointer (some ⟨b1_16, 0, none⟩)), (16, .agg u1_0.toArray), (17, v1), (20, .bool x1_4)] Hn1_6 ([.box b1_15 [.slice none 0 0, .slice none 0 0, .map none] 110, .box b1_16 [.int .i64 0, .int .i64 0, .int .i64 0, .int .i64 0] 111]) (U1 (Sw Hn1_6 []) 13 (bits 20 98335)) := by
        intro Hn1_6 ln1_6 b1_15 b1_16 u1_0 h1_0 mz1_16
        refine d_fwd hU1 ?_
        have hb0_0 := PAt.mono ln1_6 hb0_0
        have h1 := Sl.mono ln1_6 h1
        have hg := Glob.mono ln1_6 hg
        refine dt 5 98367 rfl trivial (y_move rfl) (sw0 []) ?_
        refine dk 6 98431 rfl (sk1 rfl rfl k1_6) (sw0 []) ?_
        refine dk 7 98559 rfl (sk1 rfl rfl k1_6) (sw0 []) ?_
        refine d1 8 rfl (p_skip (sk1 rfl rfl k1_6) rfl rfl ?_)
        refine dn 98815 (sw0 []) ?_
        exact d_edge hU1 (N1_12 Hn1_6 ln1_6 b1_15 b1_16 u1_0 h1_0 mz1_16) ⟨rfl, rfl, rfl, rfl, rfl, rfl, rfl, rfl, rfl, trivial⟩ [0, 1] (by decide) rfl (fun _ h => h)
      have N1_20 : ∀ (Hn1_16 : Hp) (ln1_16 : HLe Hb0_0 Hn1_16) (b1_15 : Nat) (u1_0 : List Value) (h1_0 : Rp.rep (α := TunnelBook) Hn1_16 u1_0 p0), At 89 [] (Kp.mk w H noX) [(2, .int .i64 p2), (3, .int .i64 p3), (4, .pointer (some ⟨b0_0, 0, none⟩)), (10, .pointer (some ⟨b1_15, 0, none⟩)), (16, .agg u1_0.toArray), (17, v1), (20, .bool x1_4)] Hn1_16 ([.box b1_15 [.slice none 0 0, .slice none 0 0, .map none] 110]) (U1 (Sw Hn1_16 []) 14 (bits 20 32799)) := by
        intro Hn1_16 ln1_16 b1_15 u1_0 h1_0
        refine d_fwd hU1 ?_
        have hb0_0 := PAt.mono ln1_16 hb0_0
        have h1 := Sl.mono ln1_16 h1
        have hg := Glob.mono ln1_16 hg
        refine dt 5 32831 rfl trivial (y_move rfl) (sw0 []) ?_
        refine dk 6 32895 rfl (sk1 rfl rfl k1_6) (sw0 []) ?_
        refine dk 7 33023 rfl (sk1 rfl rfl k1_6) (sw0 []) ?_
        refine d_all (rs := [8, 16]) (by kernel_rfl) rfl ⟨⟨_, rfl, ?_⟩, ⟨_, rfl, ?_⟩, trivial⟩
        · refine p_skip (sk1 rfl rfl k1_6) rfl rfl ?_
          refine dn 33279 (sw0 []) ?_
          exact d_edge hU1 (N1_13 Hn1_16 ln1_16 b1_15 u1_0 h1_0) ⟨rfl, rfl, rfl, rfl, rfl, rfl, rfl, rfl, trivial⟩ [0] (by decide) rfl (fun _ h => h)
        · refine e_alloc (cs := [.int .i64 0, .int .i64 0, .int .i64 0, .int .i64 0]) trivial rfl ty111 rfl ?_
          intro b1_16
          have mz1_16 : Rp.rep (α := Arr 4 Int) Hn1_16 [.int .i64 0, .int .i64 0, .int .i64 0, .int .i64 0] [0, 0, 0, 0] := ⟨(RepL.cons (c := [_]) rfl (RepL.cons (c := [_]) rfl (RepL.cons (c := [_]) rfl (RepL.cons (c := [_]) rfl RepL.nil)))), rfl⟩
          refine dn 98559 (sw0 []) ?_
          exact d_edge hU1 (N1_15 Hn1_16 ln1_16 b1_15 b1_16 u1_0 h1_0 mz1_16) ⟨rfl, rfl, rfl, rfl, rfl, rfl, rfl, rfl, rfl, rfl, trivial⟩ [1, 0] (by decide) rfl (fun _ h => h)
      have N1_21 : ∀ (Hn1_4 : Hp) (ln1_4 : HLe Hb0_0 Hn1_4) (b1_16 : Nat) (u1_0 : List Value) (h1_0 : Rp.rep (α := TunnelBook) Hn1_4 u1_0 p0) (mz1_16 : Rp.rep (α := Arr 4 Int) Hn1_4 [.int .i64 0, .int .i64 0, .int .i64 0, .int .i64 0] [0, 0, 0, 0]), At 89 [] (Kp.mk w H noX) [(2, .int .i64 p2), (3, .int .i64 p3), (4, .pointer (some ⟨b0_0, 0, none⟩)), (11, .pointer (some ⟨b1_16, 0, none⟩)), (16, .agg u1_0.toArray), (17, v1), (20, .bool x1_4)] Hn1_4 ([.box b1_16 [.int .i64 0, .int .i64 0, .int .i64 0, .int .i64 0] 111]) (U1 (Sw Hn1_4 []) 14 (bits 20 65567)) := by
        intro Hn1_4 ln1_4 b1_16 u1_0 h1_0 mz1_16
        refine d_fwd hU1 ?_
        have hb0_0 := PAt.mono ln1_4 hb0_0
        have h1 := Sl.mono ln1_4 h1
        have hg := Glob.mono ln1_4 hg
        refine dt 5 65599 rfl trivial (y_move rfl) (sw0 []) ?_
        refine dk 6 65663 rfl (sk1 rfl rfl k1_6) (sw0 []) ?_
        refine dk 7 65791 rfl (sk1 rfl rfl k1_6) (sw0 []) ?_
        refine d_all (rs := [8, 15]) (by kernel_rfl) rfl ⟨⟨_, rfl, ?_⟩, ⟨_, rfl, ?_⟩, trivial⟩
        · refine p_skip (sk1 rfl rfl k1_6) rfl rfl ?_
          refine dn 66047 (sw0 []) ?_
          exact d_edge hU1 (N1_14 Hn1_4 ln1_4 b1_16 u1_0 h1_0 mz1_16) ⟨rfl, rfl, rfl, rfl, rfl, rfl, rfl, rfl, trivial⟩ [0] (by decide) rfl (fun _ h => h)
        · refine e_alloc (cs := [.slice none 0 0, .slice none 0 0, .map none]) trivial rfl ty110 rfl ?_
          intro b1_15
          refine dn 98559 (sw0 []) ?_
          exact d_edge hU1 (N1_15 Hn1_4 ln1_4 b1_15 b1_16 u1_0 h1_0 mz1_16) ⟨rfl, rfl, rfl, rfl, rfl, rfl, rfl, rfl, rfl, rfl, trivial⟩ [0, 1] (by decide) rfl (fun _ h => h)
      have N1_22 : ∀ (Hn1_5 : Hp) (ln1_5 : HLe Hb0_0 Hn1_5) (b1_15 : Nat) (b1_16 : Nat) (u1_0 : List Value) (u1_2 : List Value) (h1_0 : Rp.rep (α := TunnelBook) Hn1_5 u1_0 p0) (h1_2 : Rp.rep (α := TunnelBook) Hn1_5 u1_2 p0) (mz1_16 : Rp.rep (α := Arr 4 Int) Hn1_5 [.int .i64 0, .int .i64 0, .int .i64 0, .int .i64 0] [0, 0, 0, 0]), At 89 [] (Kp.mk w H noX) [(2, .int .i64 p2), (3, .int .i64 p3), (4, .pointer (some ⟨b0_0, 0, none⟩)), (10, .pointer (some ⟨b1_15, 0, none⟩)), (11, .pointer (some ⟨b1_16, 0, none⟩)), (16, .agg u1_0.toArray), (17, v1), (18, .agg u1_2.toArray), (19, .int .i64 p2)] Hn1_5 ([.box b1_15 [.slice none 0 0, .slice none 0 0, .map none] 110, .box b1_16 [.int .i64 0, .int .i64 0, .int .i64 0, .int .i64 0] 111]) (U1 (Sw Hn1_5 []) 14 (bits 20 98319)) := by
        intro Hn1_5 ln1_5 b1_15 b1_16 u1_0 u1_2 h1_0 h1_2 mz1_16
        refine d_fwd hU1 ?_
        have hb0_0 := PAt.mono ln1_5 hb0_0
        have h1 := Sl.mono ln1_5 h1
        have hg := Glob.mono ln1_5 hg
        refine d1 4 rfl (e_callV (all := [.agg u1_2.toArray, .int .i64 p2]) (v := .bool x1_4) trivial rfl Tryd.func88 rfl rfl rfl rfl rfl (fun w hw => ok_88 hw h1_2 q1_4) ?_)
        refine dn 98335 (sw0 []) ?_
        exact d_edge hU1 (N1_19 Hn1_5 ln1_5 b1_15 b1_16 u1_0 h1_0 mz1_16) ⟨rfl, rfl, rfl, rfl, rfl, rfl, rfl, rfl, trivial⟩ [0, 1] (by decide) rfl (fun _ h => h)
      have N1_23 : ∀ (Hn1_1 : Hp) (ln1_1 : HLe Hb0_0 Hn1_1) (u1_0 : List Value) (h1_0 : Rp.rep (α := TunnelBook) Hn1_1 u1_0 p0), At 89 [] (Kp.mk w H noX) [(2, .int .i64 p2), (3, .int .i64 p3), (4, .pointer (some ⟨b0_0, 0, none⟩)), (16, .agg u1_0.toArray), (17, v1), (20, .bool x1_4)] Hn1_1 [] (U1 (Sw Hn1_1 []) 15 (bits 20 31)) := by
        intro Hn1_1 ln1_1 u1_0 h1_0
        refine d_fwd hU1 ?_
        have hb0_0 := PAt.mono ln1_1 hb0_0
        have h1 := Sl.mono ln1_1 h1
        have hg := Glob.mono ln1_1 hg
        refine dt 5 63 rfl trivial (y_move rfl) (sw0 []) ?_
        refine dk 6 127 rfl (sk1 rfl rfl k1_6) (sw0 []) ?_
        refine dk 7 255 rfl (sk1 rfl rfl k1_6) (sw0 []) ?_
        refine d_all (rs := [8, 15, 16]) (by kernel_rfl) rfl ⟨⟨_, rfl, ?_⟩, ⟨_, rfl, ?_⟩, ⟨_, rfl, ?_⟩, trivial⟩
        · refine p_skip (sk1 rfl rfl k1_6) rfl rfl ?_
          refine dn 511 (sw0 []) ?_
          exact d_edge hU1 (N1_16 Hn1_1 ln1_1 u1_0 h1_0) ⟨rfl, rfl, rfl, rfl, rfl, rfl, rfl, trivial⟩ [] (by decide) rfl (fun _ h => h)
        · refine e_alloc (cs := [.slice none 0 0, .slice none 0 0, .map none]) trivial rfl ty110 rfl ?_
          intro b1_15
          refine dn 33023 (sw0 []) ?_
          exact d_edge hU1 (N1_17 Hn1_1 ln1_1 b1_15 u1_0 h1_0) ⟨rfl, rfl, rfl, rfl, rfl, rfl, rfl, rfl, rfl, trivial⟩ [0] (by decide) rfl (fun _ h => h)
        · refine e_alloc (cs := [.int .i64 0, .int .i64 0, .int .i64 0, .int .i64 0]) trivial rfl ty111 rfl ?_
          intro b1_16
          have mz1_16 : Rp.rep (α := Arr 4 Int) Hn1_1 [.int .i64 0, .int .i64 0, .int .i64 0, .int .i64 0] [0, 0, 0, 0] := ⟨(RepL.cons (c := [_]) rfl (RepL.cons (c := [_]) rfl (RepL.cons (c := [_]) rfl (RepL.cons (c := [_]) rfl RepL.nil)))), rfl⟩
          refine dn 65791 (sw0 []) ?_
          exact d_edge hU1 (N1_18 Hn1_1 ln1_1 b1_16 u1_0 h1_0 mz1_16) ⟨rfl, rfl, rfl, rfl, rfl, rfl, rfl, rfl, rfl, trivial⟩ [0] (by decide) rfl (fun _ h => h)
      have N1_24 : ∀ (Hn1_2 : Hp) (ln1_2 : HLe Hb0_0 Hn1_2) (b1_15 : Nat) (u1_0 : List Value) (u1_2 : List Value) (h1_0 : Rp.rep (α := TunnelBook) Hn1_2 u1_0 p0) (h1_2 : Rp.rep (α := TunnelBook) Hn1_2 u1_2 p0), At 89 [] (Kp.mk w H noX) [(2, .int .i64 p2), (3, .int .i64 p3), (4, .pointer (some ⟨b0_0, 0, none⟩)), (10, .pointer (some ⟨b1_15, 0, none⟩)), (16, .agg u1_0.toArray), (17, v1), (18, .agg u1_2.toArray), (19, .int .i64 p2)] Hn1_2 ([.box b1_15 [.slice none 0 0, .slice none 0 0, .map none] 110]) (U1 (Sw Hn1_2 []) 15 (bits 20 32783)) := by
        intro Hn1_2 ln1_2 b1_15 u1_0 u1_2 h1_0 h1_2
        refine d_fwd hU1 ?_
        have hb0_0 := PAt.mono ln1_2 hb0_0
        have h1 := Sl.mono ln1_2 h1
        have hg := Glob.mono ln1_2 hg
        refine d_all (rs := [4, 16]) (by kernel_rfl) rfl ⟨⟨_, rfl, ?_⟩, ⟨_, rfl, ?_⟩, trivial⟩
        · refine e_callV (all := [.agg u1_2.toArray, .int .i64 p2]) (v := .bool x1_4) trivial rfl Tryd.func88 rfl rfl rfl rfl rfl (fun w hw => ok_88 hw h1_2 q1_4) ?_
          refine dn 32799 (sw0 []) ?_
          exact d_edge hU1 (N1_20 Hn1_2 ln1_2 b1_15 u1_0 h1_0) ⟨rfl, rfl, rfl, rfl, rfl, rfl, rfl, trivial⟩ [0] (by decide) rfl (fun _ h => h)
        · refine e_alloc (cs := [.int .i64 0, .int .i64 0, .int .i64 0, .int .i64 0]) trivial rfl ty111 rfl ?_
          intro b1_16
          have mz1_16 : Rp.rep (α := Arr 4 Int) Hn1_2 [.int .i64 0, .int .i64 0, .int .i64 0, .int .i64 0] [0, 0, 0, 0] := ⟨(RepL.cons (c := [_]) rfl (RepL.cons (c := [_]) rfl (RepL.cons (c := [_]) rfl (RepL.cons (c := [_]) rfl RepL.nil)))), rfl⟩
          refine dn 98319 (sw0 []) ?_
          exact d_edge hU1 (N1_22 Hn1_2 ln1_2 b1_15 b1_16 u1_0 u1_2 h1_0 h1_2 mz1_16) ⟨rfl, rfl, rfl, rfl, rfl, rfl, rfl, rfl, rfl, trivial⟩ [1, 0] (by decide) rfl (fun _ h => h)
      have N1_25 : ∀ (Hn1_3 : Hp) (ln1_3 : HLe Hb0_0 Hn1_3) (b1_16 : Nat) (u1_0 : List Value) (u1_2 : List Value) (h1_0 : Rp.rep (α := TunnelBook) Hn1_3 u1_0 p0) (h1_2 : Rp.rep (α := TunnelBook) Hn1_3 u1_2 p0) (mz1_16 : Rp.rep (α := Arr 4 Int) Hn1_3 [.int .i64 0, .int .i64 0, .int .i64 0, .int .i64 0] [0, 0, 0, 0]), At 89 [] (Kp.mk w H noX) [(2, .int .i64 p2), (3, .int .i64 p3), (4, .pointer (some ⟨b0_0, 0, none⟩)), (11, .pointer (some ⟨b1_16, 0, none⟩)), (16, .agg u1_0.toArray), (17, v1), (18, .agg u1_2.toArray), (19, .int .i64 p2)] Hn1_3 ([.box b1_16 [.int .i64 0, .int .i64 0, .int .i64 0, .int .i64 0] 111]) (U1 (Sw Hn1_3 []) 15 (bits 20 65551)) := by
        intro Hn1_3 ln1_3 b1_16 u1_0 u1_2 h1_0 h1_2 mz1_16
        refine d_fwd hU1 ?_
        have hb0_0 := PAt.mono ln1_3 hb0_0
        have h1 := Sl.mono ln1_3 h1
        have hg := Glob.mono ln1_3 hg
        refine d_all (rs := [4, 15]) (by kernel_rfl) rfl ⟨⟨_, rfl, ?_⟩, ⟨_, rfl, ?_⟩, trivial⟩
        · refine e_callV (all := [.agg u1_2.toArray, .int .i64 p2]) (v := .bool x1_4) trivial rfl Tryd.func88 rfl rfl rfl rfl rfl (fun w hw => ok_88 hw h1_2 q1_4) ?_
          refine dn 65567 (sw0 []) ?_
          exact d_edge hU1 (N1_21 Hn1_3 ln1_3 b1_16 u1_0 h1_0 mz1_16) ⟨rfl, rfl, rfl, rfl, rfl, rfl, rfl, trivial⟩ [0] (by decide) rfl (fun _ h => h)
        · refine e_alloc (cs := [.slice none 0 0, .slice none 0 0, .map none]) trivial rfl ty110 rfl ?_
          intro b1_15
          refine dn 98319 (sw0 []) ?_
          exact d_edge hU1 (N1_22 Hn1_3 ln1_3 b1_15 b1_16 u1_0 u1_2 h1_0 h1_2 mz1_16) ⟨rfl, rfl, rfl, rfl, rfl, rfl, rfl, rfl, rfl, trivial⟩ [0, 1] (by decide) rfl (fun _ h => h)
      refine d_fwd hU1 ?_
      obtain ⟨u1_0, h1_0, c1_0⟩ := PAt.one hb0_0
      refine dt 0 1 rfl trivial (y_load_cells ty25 rfl (fun _ h => h.1) rfl c1_0 (Rp.len h1_0)) (sw0 []) ?_
      refine dt 1 3 rfl trivial (y_move rfl) (sw0 []) ?_
      obtain ⟨u1_2, h1_2, c1_2⟩ := PAt.one hb0_0
      refine dt 2 7 rfl trivial (y_load_cells ty25 rfl (fun _ h => h.1) rfl c1_2 (Rp.len h1_2)) (sw0 []) ?_
      refine dt 3 15 rfl trivial (y_move rfl) (sw0 []) ?_
      refine d_all (rs := [4, 15, 16]) (by kernel_rfl) rfl ⟨⟨_, rfl, ?_⟩, ⟨_, rfl, ?_⟩, ⟨_, rfl, ?_⟩, trivial⟩
      · refine e_callV (all := [.agg u1_2.toArray, .int .i64 p2]) (v := .bool x1_4) trivial rfl Tryd.func88 rfl rfl rfl rfl rfl (fun w hw => ok_88 hw h1_2 q1_4) ?_
        refine dn 31 (sw0 []) ?_
        exact d_edge hU1 (N1_23 Hb0_0 (HLe.refl _) u1_0 h1_0) ⟨rfl, rfl, rfl, rfl, rfl, rfl, trivial⟩ [] (by decide) rfl (fun _ h => h)
      · refine e_alloc (cs := [.slice none 0 0, .slice none 0 0, .map none]) trivial rfl ty110 rfl ?_
        intro b1_15
        refine dn 32783 (sw0 []) ?_
        exact d_edge hU1 (N1_24 Hb0_0 (HLe.refl _) b1_15 u1_0 u1_2 h1_0 h1_2) ⟨rfl, rfl, rfl, rfl, rfl, rfl, rfl, rfl, trivial⟩ [0] (by decide) rfl (fun _ h => h)
      · refine e_alloc (cs := [.int .i64 0, .int .i64 0, .int .i64 0, .int .i64 0]) trivial rfl ty111 rfl ?_
        intro b1_16
        have mz1_16 : Rp.rep (α := Arr 4 Int) Hb0_0 [.int .i64 0, .int .i64 0, .int .i64 0, .int .i64 0] [0, 0, 0, 0] := ⟨(RepL.cons (c := [_]) rfl (RepL.cons (c := [_]) rfl (RepL.cons (c := [_]) rfl (RepL.cons (c := [_]) rfl RepL.nil)))), rfl⟩
        refine dn 65551 (sw0 []) ?_
        exact d_edge hU1 (N1_25 Hb0_0 (HLe.refl _) b1_16 u1_0 u1_2 h1_0 h1_2 mz1_16) ⟨rfl, rfl, rfl, rfl, rfl, rfl, rfl, rfl, trivial⟩ [0] (by decide) rfl (fun _ h => h)
    · have hm := cond_f k1_10 hm
      cases hm

def law03_lost (k : Nat) : Option TunnelBook :=
 (law03_book k).bind fun x1_0 =>
 (law03_frame k 20 20 0 5).bind fun x2_2 =>
 (app x1_0.Frames [x2_2]).bind fun x2_4 =>
 some ((⟨x1_0.Parts, x2_4⟩ : TunnelBook))
theorem ok_71 {k : Nat} {H : Hp} {w : World} {r : TunnelBook} (hsub : Sub H w)  (hm : law03_lost k = some r) : Calls Tryd.prog 71 [].toArray w (PostH w H fun v H' => ∃ c0, v = .agg c0.toArray ∧ Rp.rep (α := TunnelBook) H' c0 r) := by
  unfold law03_lost at hm
  refine start (n := 10) (E := []) Tryd.func71 rfl rfl trivial rfl hsub ?_
  refine a_seq ?_
  refine a_region rfl ?_
  refine a_cons (e_alloc (cs := [.slice none 0 0, .slice none 0 0]) trivial rfl ty25 rfl ?_)
  intro b0_0
  refine a_nil ?_
  refine a_then ?_
  refine a_seq ?_
  refine a_region rfl ?_
  obtain ⟨x1_0, q1_0, hm⟩ := bind_some hm
  refine a_cons (e_callO (all := []) trivial rfl Tryd.func69 rfl rfl rfl rfl rfl (fun w hw => ok_69 hw q1_0) ?_)
  rintro _ H1_0 _ l1_0 ⟨vp1_0, vf1_0, cp1_0, cf1_0, rfl, rfl, hp1_0, hf1_0⟩
  refine a_cons (e_alloc (cs := [.slice none 0 0, .slice none 0 0]) trivial rfl ty25 rfl ?_)
  intro b1_1
  refine a_cons (e_storeWholeL (i := 0) (ds := [vp1_0, vf1_0]) trivial ty25 rfl rfl rfl rfl rfl ⟨.inr ⟨_, _, _, List.mem_of_getElem? (i := 1) rfl⟩, ⟨.inr ⟨_, _, _, List.mem_of_getElem? (i := 2) rfl⟩, trivial⟩⟩ rfl ?_)
  refine a_nil ?_
  refine a_en [(0, .pointer (some ⟨b0_0, 0, none⟩)), (1, .pointer (some ⟨b1_1, 0, none⟩))] ?_
  refine a_then ?_
  refine a_seq ?_
  obtain ⟨x2_2, q2_2, hm⟩ := bind_some hm
  obtain ⟨x2_4, q2_4, hm⟩ := bind_some hm
  refine d_region (S := Sw H1_0 [.box b0_0 [.slice none 0 0, .slice none 0 0] 25]) (n := 7) (listed := (bits 7 0)) mixed (by kernel_rfl) rfl (by kernel_rfl) ?_
  refine d_abs fun U2 hU2 => ?_
  have N2_0 : ∀ (Hn2_7 : Hp) (ln2_7 : HLe H1_0 Hn2_7) (v2_3 : Value) (c2_2r0 : List Value) (v2_4 : Value) (u2_4 : List Value) (h2_3 : RepL (α := TunnelFrame) Hn2_7 (c2_2r0 ++ ([])) [x2_2]) (h2_4 : RepL (α := TunnelFrame) Hn2_7 u2_4 x2_4), At 10 [] (Kp.mk w H noX) [(0, .pointer (some ⟨b0_0, 0, none⟩)), (1, .pointer (some ⟨b1_1, 0, none⟩))] Hn2_7 ([.box b0_0 [.slice none 0 0, .slice none 0 0] 25, .box b1_1 [vp1_0, v2_4] 25, .row v2_3 (c2_2r0 ++ ([])) 55 3, .row v2_4 u2_4 55 3, .row vp1_0 cp1_0 64 6]) (U2 (Sw Hn2_7 [.box b0_0 [.slice none 0 0, .slice none 0 0] 25]) 0 (bits 7 127)) := by
    intro Hn2_7 ln2_7 v2_3 c2_2r0 v2_4 u2_4 h2_3 h2_4
    refine d_fwd hU2 ?_
    have hp1_0 := RepL.mono ln2_7 hp1_0
    refine d_done (by kernel_rfl) ?_
    refine a_own [0, 1, 3, 4] (by decide) (L' := [.box b0_0 [.slice none 0 0, .slice none 0 0] 25, .box b1_1 [vp1_0, v2_4] 25, .row v2_4 u2_4 55 3, .row vp1_0 cp1_0 64 6]) rfl ?_
    refine a_then ?_
    refine a_seq ?_
    refine a_region rfl ?_
    refine ap (y_load_boxagg ty25 rfl (knows_box (i := 1) rfl) rfl rfl rfl) ?_
    refine a_cons (e_storeWholeL (i := 0) (ds := [vp1_0, v2_4]) trivial ty25 rfl rfl rfl rfl rfl ⟨.inr ⟨_, _, _, List.mem_of_getElem? (i := 3) rfl⟩, ⟨.inr ⟨_, _, _, List.mem_of_getElem? (i := 2) rfl⟩, trivial⟩⟩ rfl ?_)
    refine a_nil ?_
    refine a_en [(0, .pointer (some ⟨b0_0, 0, none⟩))] ?_
    refine a_own [0, 2, 3] (by decide) (L' := [.box b0_0 [vp1_0, v2_4] 25, .row v2_4 u2_4 55 3, .row vp1_0 cp1_0 64 6]) rfl ?_
    refine a_then ?_
    refine a_ret ?_
    refine a_frow (i := 2) rfl rfl hp1_0 rfl ?_
    intro He0rp1_0f le0rp1_0f he0rp1_0f
    have h2_4 := RepL.mono le0rp1_0f h2_4
    refine a_frow (i := 1) rfl rfl h2_4 rfl ?_
    intro He0r2_4f le0r2_4f he0r2_4f
    have he0rp1_0f := Sl.mono le0r2_4f he0rp1_0f
    have me0l : Rp.rep He0r2_4f [vp1_0, v2_4] (⟨x1_0.Parts, x2_4⟩ : TunnelBook) := ⟨_, _, rfl, ⟨_, rfl, he0rp1_0f⟩, ⟨_, rfl, he0r2_4f⟩⟩
    refine a_done (v := .agg [vp1_0, v2_4].toArray) (.inl rfl) rfl ?_ ?_
    · intro a_ w_ ha_ hs_; exact run_results (P := Tryd.prog) (fn := Tryd.f71) (rs := [.cell 0 25]) (vs := [.agg [vp1_0, v2_4].toArray]) rfl (.cons (rv_cell ha_ rfl (run_loadSt (i := 0) ty25 rfl hs_ rfl rfl)) (All2.nil))
    · intro _ _; obtain rfl := Option.some.inj hm; exact ⟨[vp1_0, v2_4], rfl, me0l⟩
  have N2_1 : ∀ (Hn2_6 : Hp) (ln2_6 : HLe H1_0 Hn2_6) (v2_3 : Value) (c2_2r0 : List Value) (v2_4 : Value) (u2_4 : List Value) (h2_3 : RepL (α := TunnelFrame) Hn2_6 (c2_2r0 ++ ([])) [x2_2]) (h2_4 : RepL (α := TunnelFrame) Hn2_6 u2_4 x2_4), At 10 [] (Kp.mk w H noX) [(0, .pointer (some ⟨b0_0, 0, none⟩)), (1, .pointer (some ⟨b1_1, 0, none⟩)), (7, v2_4)] Hn2_6 ([.box b0_0 [.slice none 0 0, .slice none 0 0] 25, .box b1_1 [vp1_0, vf1_0] 25, .row v2_3 (c2_2r0 ++ ([])) 55 3, .row v2_4 u2_4 55 3, .row vp1_0 cp1_0 64 6]) (U2 (Sw Hn2_6 [.box b0_0 [.slice none 0 0, .slice none 0 0] 25]) 2 (bits 7 31)) := by
    intro Hn2_6 ln2_6 v2_3 c2_2r0 v2_4 u2_4 h2_3 h2_4
    refine d_fwd hU2 ?_
    have hp1_0 := RepL.mono ln2_6 hp1_0
    refine dt 5 63 rfl trivial (y_fieldAddr fo25_1 rfl) (sw0 [0]) ?_
    refine d1 6 rfl (e_storeLR (i := 1) (j := 3) (cs' := [vp1_0, v2_4]) trivial ty23 rfl rfl rfl rfl (Nat.le_of_ble_eq_true rfl) rfl ?_)
    refine dn 127 (sw0 [0]) ?_
    exact d_edge hU2 (N2_0 Hn2_6 ln2_6 v2_3 c2_2r0 v2_4 u2_4 h2_3 h2_4) ⟨rfl, rfl, trivial⟩ [0, 1, 2, 3, 4] (by decide) rfl (fun _ h => h)
  have N2_2 : ∀ (Hn2_5 : Hp) (ln2_5 : HLe H1_0 Hn2_5) (v2_3 : Value) (c2_2r0 : List Value) (h2_3 : RepL (α := TunnelFrame) Hn2_5 (c2_2r0 ++ ([])) [x2_2]), At 10 [] (Kp.mk w H noX) [(0, .pointer (some ⟨b0_0, 0, none⟩)), (1, .pointer (some ⟨b1_1, 0, none⟩)), (4, vf1_0), (6, v2_3)] Hn2_5 ([.box b0_0 [.slice none 0 0, .slice none 0 0] 25, .box b1_1 [vp1_0, vf1_0] 25, .row v2_3 (c2_2r0 ++ ([])) 55 3, .row vf1_0 cf1_0 55 3, .row vp1_0 cp1_0 64 6]) (U2 (Sw Hn2_5 [.box b0_0 [.slice none 0 0, .slice none 0 0] 25]) 3 (bits 7 15)) := by
    intro Hn2_5 ln2_5 v2_3 c2_2r0 h2_3
    refine d_fwd hU2 ?_
    have hp1_0 := RepL.mono ln2_5 hp1_0
    have hf1_0 := RepL.mono ln2_5 hf1_0
    refine d1 4 rfl (e_app_row (i := 3) (j := 2) trivial rfl Tryd.underlying23 Tryd.underlying23 ty55 rfl rfl rfl rfl rfl rfl rfl rfl hf1_0 rfl h2_3 q2_4 ?_)
    intro v2_4 u2_4 h2_4
    refine dn 31 (sw0 [0]) ?_
    exact d_edge hU2 (N2_1 Hn2_5 ln2_5 v2_3 c2_2r0 v2_4 u2_4 h2_3 h2_4) ⟨rfl, rfl, rfl, trivial⟩ [0, 1, 2, 3, 4] (by decide) rfl (fun _ h => h)
  have N2_3 : ∀ (Hn2_3 : Hp) (ln2_3 : HLe H1_0 Hn2_3) (c2_2r0 : List Value) (h2_2r0 : Rp.rep (α := TunnelFrame) Hn2_3 c2_2r0 x2_2), At 10 [] (Kp.mk w H noX) [(0, .pointer (some ⟨b0_0, 0, none⟩)), (1, .pointer (some ⟨b1_1, 0, none⟩)), (4, vf1_0), (5, .agg c2_2r0.toArray)] Hn2_3 ([.box b0_0 [.slice none 0 0, .slice none 0 0] 25, .box b1_1 [vp1_0, vf1_0] 25, .row vf1_0 cf1_0 55 3, .row vp1_0 cp1_0 64 6]) (U2 (Sw Hn2_3 [.box b0_0 [.slice none 0 0, .slice none 0 0] 25]) 4 (bits 7 7)) := by
    intro Hn2_3 ln2_3 c2_2r0 h2_2r0
    refine d_fwd hU2 ?_
    have hp1_0 := RepL.mono ln2_3 hp1_0
    have hf1_0 := RepL.mono ln2_3 hf1_0
    refine d1 3 rfl (e_buildSlice (xs := [.tmp 5]) (cs := c2_2r0 ++ ([])) trivial rfl Tryd.underlying23 ty55 rfl rfl rfl (by simp [Value.cells, Rp.len h2_2r0, Rp.sz]) rfl (rfl) ?_)
    intro v2_3
    have h2_3 : RepL (α := TunnelFrame) Hn2_3 (c2_2r0 ++ ([])) [x2_2] := (RepL.cons (α := TunnelFrame) (c := c2_2r0) h2_2r0 (RepL.nil (α := TunnelFrame)))
    refine dn 15 (sw0 [1]) ?_
    exact d_edge hU2 (N2_2 Hn2_3 ln2_3 v2_3 c2_2r0 h2_3) ⟨rfl, rfl, rfl, rfl, trivial⟩ [1, 2, 0, 3, 4] (by decide) rfl (fun _ h => h)
  have N2_4 : ∀ (Hn2_4 : Hp) (ln2_4 : HLe H1_0 Hn2_4) (v2_3 : Value) (c2_2r0 : List Value) (h2_3 : RepL (α := TunnelFrame) Hn2_4 (c2_2r0 ++ ([])) [x2_2]), At 10 [] (Kp.mk w H noX) [(0, .pointer (some ⟨b0_0, 0, none⟩)), (1, .pointer (some ⟨b1_1, 0, none⟩)), (3, .pointer (some ⟨b1_1, 1, none⟩)), (6, v2_3)] Hn2_4 ([.box b0_0 [.slice none 0 0, .slice none 0 0] 25, .box b1_1 [vp1_0, vf1_0] 25, .row v2_3 (c2_2r0 ++ ([])) 55 3, .row vf1_0 cf1_0 55 3, .row vp1_0 cp1_0 64 6]) (U2 (Sw Hn2_4 [.box b0_0 [.slice none 0 0, .slice none 0 0] 25]) 4 (bits 7 13)) := by
    intro Hn2_4 ln2_4 v2_3 c2_2r0 h2_3
    refine d_fwd hU2 ?_
    have hp1_0 := RepL.mono ln2_4 hp1_0
    have hf1_0 := RepL.mono ln2_4 hf1_0
    refine d1 1 rfl (p_pure trivial rfl rfl (y_load_box ty23 rfl (knows_box (i := 1) rfl) rfl rfl) ?_)
    refine dn 15 (sw0 [0]) ?_
    exact d_edge hU2 (N2_2 Hn2_4 ln2_4 v2_3 c2_2r0 h2_3) ⟨rfl, rfl, rfl, rfl, trivial⟩ [0, 1, 2, 3, 4] (by decide) rfl (fun _ h => h)
  have N2_5 : ∀ (Hn2_1 : Hp) (ln2_1 : HLe H1_0 Hn2_1), At 10 [] (Kp.mk w H noX) [(0, .pointer (some ⟨b0_0, 0, none⟩)), (1, .pointer (some ⟨b1_1, 0, none⟩)), (4, vf1_0)] Hn2_1 ([.box b0_0 [.slice none 0 0, .slice none 0 0] 25, .box b1_1 [vp1_0, vf1_0] 25, .row vf1_0 cf1_0 55 3, .row vp1_0 cp1_0 64 6]) (U2 (Sw Hn2_1 [.box b0_0 [.slice none 0 0, .slice none 0 0] 25]) 5 (bits 7 3)) := by
    intro Hn2_1 ln2_1
    refine d_fwd hU2 ?_
    have hp1_0 := RepL.mono ln2_1 hp1_0
    have hf1_0 := RepL.mono ln2_1 hf1_0
    refine d1 2 rfl (e_callH (all := [.int .i64 20, .int .i64 20, .int .i64 0, .int .i64 5]) trivial rfl Tryd.func139 rfl rfl rfl rfl rfl (fun w hw => ok_139 hw q2_2) ?_)
    rintro _ H2_2 l2_2 ⟨c2_2r0, rfl, h2_2r0⟩
    have hp1_0 := RepL.mono l2_2 hp1_0
    have hf1_0 := RepL.mono l2_2 hf1_0
    refine dn 7 (swl l2_2 [0]) ?_
    exact d_edge hU2 (N2_3 H2_2 (ln2_1.trans l2_2) c2_2r0 h2_2r0) ⟨rfl, rfl, rfl, rfl, trivial⟩ [0, 1, 2, 3] (by decide) rfl (sw_sw l2_2 [0] rfl)
  have N2_6 : ∀ (Hn2_2 : Hp) (ln2_2 : HLe H1_0 Hn2_2) (c2_2r0 : List Value) (h2_2r0 : Rp.rep (α := TunnelFrame) Hn2_2 c2_2r0 x2_2), At 10 [] (Kp.mk w H noX) [(0, .pointer (some ⟨b0_0, 0, none⟩)), (1, .pointer (some ⟨b1_1, 0, none⟩)), (3, .pointer (some ⟨b1_1, 1, none⟩)), (5, .agg c2_2r0.toArray)] Hn2_2 ([.box b0_0 [.slice none 0 0, .slice none 0 0] 25, .box b1_1 [vp1_0, vf1_0] 25, .row vf1_0 cf1_0 55 3, .row vp1_0 cp1_0 64 6]) (U2 (Sw Hn2_2 [.box b0_0 [.slice none 0 0, .slice none 0 0] 25]) 5 (bits 7 5)) := by
    intro Hn2_2 ln2_2 c2_2r0 h2_2r0
    refine d_fwd hU2 ?_
    have hp1_0 := RepL.mono ln2_2 hp1_0
    have hf1_0 := RepL.mono ln2_2 hf1_0
    refine d_all (rs := [1, 3]) (by kernel_rfl) rfl ⟨⟨_, rfl, ?_⟩, ⟨_, rfl, ?_⟩, trivial⟩
    · refine p_pure trivial rfl rfl (y_load_box ty23 rfl (knows_box (i := 1) rfl) rfl rfl) ?_
      refine dn 7 (sw0 [0]) ?_
      exact d_edge hU2 (N2_3 Hn2_2 ln2_2 c2_2r0 h2_2r0) ⟨rfl, rfl, rfl, rfl, trivial⟩ [0, 1, 2, 3] (by decide) rfl (fun _ h => h)
    · refine e_buildSlice (xs := [.tmp 5]) (cs := c2_2r0 ++ ([])) trivial rfl Tryd.underlying23 ty55 rfl rfl rfl (by simp [Value.cells, Rp.len h2_2r0, Rp.sz]) rfl (rfl) ?_
      intro v2_3
      have h2_3 : RepL (α := TunnelFrame) Hn2_2 (c2_2r0 ++ ([])) [x2_2] := (RepL.cons (α := TunnelFrame) (c := c2_2r0) h2_2r0 (RepL.nil (α := TunnelFrame)))
      refine dn 13 (sw0 [1]) ?_
      exact d_edge hU2 (N2_4 Hn2_2 ln2_2 v2_3 c2_2r0 h2_3) ⟨rfl, rfl, rfl, rfl, trivial⟩ [1, 2, 0, 3, 4] (by decide) rfl (fun _ h => h)
  refine d_fwd hU2 ?_
  refine dt 0 1 rfl trivial (y_fieldAddr fo25_1 rfl) (sw0 [3]) ?_
  refine d_all (rs := [1, 2]) (by kernel_rfl) rfl ⟨⟨_, rfl, ?_⟩, ⟨_, rfl, ?_⟩, trivial⟩
  · refine p_pure trivial rfl rfl (y_load_box ty23 rfl (knows_box (i := 0) rfl) rfl rfl) ?_
    refine dn 3 (sw0 [3]) ?_
    exact d_edge hU2 (N2_5 H1_0 (HLe.refl _)) ⟨rfl, rfl, rfl, trivial⟩ [3, 0, 2, 1] (by decide) rfl (fun _ h => h)
  · refine e_callH (all := [.int .i64 20, .int .i64 20, .int .i64 0, .int .i64 5]) trivial rfl Tryd.func139 rfl rfl rfl rfl rfl (fun w hw => ok_139 hw q2_2) ?_
    rintro _ H2_2 l2_2 ⟨c2_2r0, rfl, h2_2r0⟩
    have hp1_0 := RepL.mono l2_2 hp1_0
    have hf1_0 := RepL.mono l2_2 hf1_0
    refine dn 5 (swl l2_2 [3]) ?_
    exact d_edge hU2 (N2_6 H2_2 l2_2 c2_2r0 h2_2r0) ⟨rfl, rfl, rfl, rfl, trivial⟩ [3, 0, 2, 1] (by decide) rfl (sw_sw l2_2 [0] rfl)

def tunnel_Lost (k : Nat) (p0 : TunnelBook) : Option ((List Int) × Int) :=
 (tunnel_Check k p0).bind fun x1_1 =>
 bif x1_1 != 0 then
 some (([], x1_1))
 else
 (tunnel_book_lost k p0).bind fun x4_2 =>
 some ((x4_2, 0))
theorem ok_35 {k : Nat} {H : Hp} {w : World} {p0 : TunnelBook} {c0 : List Value} {r : (List Int) × Int} (hsub : Sub H w) (h0 : Rp.rep (α := TunnelBook) H c0 p0) (hg : Glob H) (hm : tunnel_Lost k p0 = some r) : Calls Tryd.prog 35 [.agg c0.toArray].toArray w (PostH w H fun v H' => ∃ v0, v = .tuple #[v0, .int .i64 r.2] ∧ Sl (α := Int) H' v0 r.1) := by
  unfold tunnel_Lost at hm
  refine start (n := 13) (E := [(0, .agg c0.toArray)]) Tryd.func35 rfl rfl ⟨rfl, trivial⟩ rfl hsub ?_
  refine a_seq ?_
  refine a_region rfl ?_
  refine a_cons (e_box (cs := c0) trivial rfl rfl rfl ?_)
  intro b0_0
  refine ap (y_assign rfl) ?_
  refine ap (y_assign rfl) ?_
  refine a_nil ?_
  refine a_freeze (α := TunnelBook) (x := p0) (i := 0) rfl h0 ?_
  intro Hb0_0 lb0_0 hb0_0
  have h0 := Rp.mono lb0_0 h0
  have hg := Glob.mono lb0_0 hg
  refine a_en [(1, .pointer (some ⟨b0_0, 0, none⟩))] ?_
  refine a_own [] (by decide) (L' := []) rfl ?_
  refine a_then ?_
  refine a_seq ?_
  refine a_seq ?_
  refine a_region rfl ?_
  obtain ⟨u1_0, h1_0, c1_0⟩ := PAt.one hb0_0
  refine ap (y_load_cells ty25 rfl (fun _ h => h.sub) rfl c1_0 (Rp.len h1_0)) ?_
  obtain ⟨x1_1, q1_1, hm⟩ := bind_some hm
  refine a_cons (e_callV (all := [.agg u1_0.toArray]) (v := .int .i64 x1_1) trivial rfl Tryd.func21 rfl rfl rfl rfl rfl (fun w hw => ok_21 hw h1_0 q1_1) ?_)
  refine ap (y_assign rfl) ?_
  refine a_nil ?_
  refine a_en [(1, .pointer (some ⟨b0_0, 0, none⟩)), (4, .int .i64 x1_1)] ?_
  refine a_then ?_
  refine a_seq ?_
  refine a_region rfl ?_
  refine ap (y_move rfl) ?_
  refine ap (y_neq rfl rfl) ?_
  refine a_nil ?_
  refine a_en [(1, .pointer (some ⟨b0_0, 0, none⟩)), (4, .int .i64 x1_1), (8, .bool (x1_1 != 0))] ?_
  refine a_then ?_
  refine a_cond rfl (fun k_1 => ?_) (fun k_1 => ?_)
  · have hm := cond_t k_1 hm
    refine a_seq ?_
    refine a_region rfl ?_
    refine ap (y_move rfl) ?_
    refine ap (y_assign rfl) ?_
    refine ap (y_assign rfl) ?_
    refine a_nil ?_
    refine a_en [(2, .slice none 0 0), (3, .int .i64 x1_1)] ?_
    refine a_then ?_
    refine a_ret ?_
    refine a_then_ret ?_
    refine a_done (v := .tuple #[.slice none 0 0, .int .i64 x1_1]) (.inl rfl) rfl ?_ ?_
    · intro a_ w_ ha_ hs_; exact run_results (P := Tryd.prog) (fn := Tryd.f35) (rs := [.tmp 2, .tmp 3]) (vs := [.slice none 0 0, .int .i64 x1_1]) rfl (.cons (rv_tmp ha_ rfl) (.cons (rv_tmp ha_ rfl) (All2.nil)))
    · intro _ _; obtain rfl := Option.some.inj hm; exact ⟨.slice none 0 0, rfl, (sl_nil _ none 0)⟩
  · have hm := cond_f k_1 hm
    refine a_skip ?_
    refine a_then ?_
    refine a_seq ?_
    refine a_region rfl ?_
    obtain ⟨u4_0, h4_0, c4_0⟩ := PAt.one hb0_0
    refine ap (y_load_cells ty25 rfl (fun _ h => h.sub) rfl c4_0 (Rp.len h4_0)) ?_
    refine a_cons (e_callO (all := [.agg u4_0.toArray]) trivial rfl Tryd.func95 rfl rfl rfl rfl rfl (fun w hw => ok_95 hw h4_0 ) ?_)
    rintro _ H4_1 _ l4_1 ⟨M4_1, rfl, rfl⟩
    have hb0_0 := PAt.mono l4_1 hb0_0
    have h4_0 := Rp.mono l4_1 h4_0
    have hg := Glob.mono l4_1 hg
    have m4_1 : Rp.rep (α := Bk (some M4_1)) H4_1 (u4_0 ++ [Value.map (some M4_1)]) p0 := ⟨_, rfl, h4_0⟩
    obtain ⟨x4_2, q4_2, hm⟩ := bind_some hm
    refine a_cons (e_callM (i := 0) (all := [.agg (u4_0 ++ [Value.map (some M4_1)]).toArray]) trivial rfl Tryd.func100 rfl rfl rfl rfl rfl rfl (fun w hw ho hn => ok_100 hw m4_1 hg ho hn q4_2) ?_)
    rintro v4_2r0 H4_2 l4_2 ⟨_, rfl, h4_2r0⟩
    have hb0_0 := PAt.mono l4_2 hb0_0
    have h4_0 := Rp.mono l4_2 h4_0
    have m4_1 := Rp.mono l4_2 m4_1
    have hg := Glob.mono l4_2 hg
    refine ap (y_assign rfl) ?_
    refine ap (y_assign rfl) ?_
    refine a_nil ?_
    refine a_en [(2, v4_2r0), (3, .int .i64 0)] ?_
    refine a_then ?_
    refine a_ret ?_
    refine a_done (v := .tuple #[v4_2r0, .int .i64 0]) (.inl rfl) rfl ?_ ?_
    · intro a_ w_ ha_ hs_; exact run_results (P := Tryd.prog) (fn := Tryd.f35) (rs := [.tmp 2, .tmp 3]) (vs := [v4_2r0, .int .i64 0]) rfl (.cons (rv_tmp ha_ rfl) (.cons (rv_tmp ha_ rfl) (All2.nil)))
    · intro _ _; obtain rfl := Option.some.inj hm; exact ⟨v4_2r0, rfl, h4_2r0⟩

def ref00_Alike_lj3 (k : Nat) (p0 : List Int) (p1 : List Int) : Nat → Int → Option (Sum Bool Unit)
 | 0, _ => none
 | n_j3 + 1, yj3_5 =>
 bif decide (yj3_5 < (p0.length : Int)) then
 (nth p0 yj3_5).bind fun x6_2 =>
 (nth p1 yj3_5).bind fun x6_6 =>
 bif x6_2 != x6_6 then
 some (Sum.inl false)
 else
 ref00_Alike_lj3 k p0 p1 n_j3 (IntKind.i64.wrap (yj3_5 + 1))
 else
 some (Sum.inr ())
def ref00_Alike (k : Nat) (p0 : List Int) (p1 : List Int) : Option Bool :=
 bif (p0.length : Int) != (p1.length : Int) then
 some (false)
 else
 (ref00_Alike_lj3 k p0 p1 k 0).bind fun o => (match o with
 | .inl r => some r
 | .inr _ =>
 some (true))
theorem ok_29 {k : Nat} {H : Hp} {w : World} {p0 : List Int} {p1 : List Int} {v0 : Value} {v1 : Value} {r : Bool} (hsub : Sub H w) (h0 : Sl (α := Int) H v0 p0) (h1 : Sl (α := Int) H v1 p1) (hm : ref00_Alike k p0 p1 = some r) : Calls Tryd.prog 29 [v0, v1].toArray w (PostV w H (.bool r)) := by
  unfold ref00_Alike at hm
  refine start (n := 26) (E := [(0, v0), (1, v1)]) Tryd.func29 rfl rfl ⟨rfl, rfl, trivial⟩ rfl hsub ?_
  refine a_seq ?_
  refine a_region rfl ?_
  refine ap (y_assign rfl) ?_
  refine a_nil ?_
  refine a_en [(0, v0), (1, v1)] ?_
  refine a_then ?_
  refine a_seq ?_
  refine a_seq ?_
  refine a_region rfl ?_
  refine ap (y_move rfl) ?_
  refine ap (y_len_sl Tryd.underlying26 rfl h0) ?_
  refine ap (y_move rfl) ?_
  refine ap (y_len_sl Tryd.underlying26 rfl h1) ?_
  refine ap (y_neq rfl rfl) ?_
  refine a_nil ?_
  refine a_en [(0, v0), (1, v1), (10, .bool ((p0.length : Int) != (p1.length : Int)))] ?_
  refine a_then ?_
  refine a_cond rfl (fun k_1 => ?_) (fun k_1 => ?_)
  · have hm := cond_t k_1 hm
    refine a_seq ?_
    refine a_region rfl ?_
    refine ap (y_assign rfl) ?_
    refine a_nil ?_
    refine a_en [(4, .bool false)] ?_
    refine a_then ?_
    refine a_ret ?_
    refine a_then_ret ?_
    refine a_done (v := .bool false) (.inl rfl) rfl ?_ ?_
    · intro a_ w_ ha_ hs_; exact run_results (P := Tryd.prog) (fn := Tryd.f29) (rs := [.tmp 4]) (vs := [.bool false]) rfl (.cons (rv_tmp ha_ rfl) (All2.nil))
    · intro _ _; obtain rfl := Option.some.inj hm
      rfl
  · have hm := cond_f k_1 hm
    refine a_skip ?_
    refine a_then ?_
    refine a_seq ?_
    refine a_seq ?_
    refine a_region rfl ?_
    refine ap (y_assign rfl) ?_
    refine a_nil ?_
    refine a_en [(0, v0), (1, v1), (5, .int .i64 0)] ?_
    refine a_then ?_
    obtain ⟨s_j2, hs_j2, hm_j2⟩ := bind_some hm
    refine a_join (fun a_ w_ => Sum.inr () = s_j2 ∧ Ag 26 [] [] a_ ∧ St (Kp.mk w H noX) H [] w_) ?_ ?_
    · have hm := hs_j2
      refine a_block ?_
      refine a_loop (fun n_j3 a_ w_ => ∃ (yj3_5 : Int), ref00_Alike_lj3 k p0 p1 n_j3 yj3_5 = some s_j2 ∧ Ag 26 [] [(0, v0), (1, v1), (5, .int .i64 yj3_5)] a_ ∧ St (Kp.mk w H noX) H [] w_) k ?_ ?_
      · intro a_ w_ ha_ hs_
        exact ⟨0, hm, ha_.weaken ⟨rfl, rfl, rfl, trivial⟩, hs_.reix [] (by decide)⟩
      · rintro (_ | n_j3) a_ w_ ⟨yj3_5, hm, ha_, hs_⟩
        · rw [ref00_Alike_lj3.eq_1] at hm; cases hm
        rw [ref00_Alike_lj3.eq_2] at hm
        refine a_start ha_ hs_ ?_
        refine a_seq ?_
        refine a_seq ?_
        refine a_region rfl ?_
        refine ap (y_move rfl) ?_
        refine ap (y_move rfl) ?_
        refine ap (y_len_sl Tryd.underlying26 rfl h0) ?_
        refine ap (y_lss rfl rfl) ?_
        refine a_nil ?_
        refine a_en [(0, v0), (1, v1), (5, .int .i64 yj3_5), (14, .bool (decide (yj3_5 < (p0.length : Int))))] ?_
        refine a_then ?_
        refine a_cond rfl (fun k_4 => ?_) (fun k_4 => ?_)
        · have hm := cond_t k_4 hm
          refine a_skip ?_
          refine a_then ?_
          refine a_seq ?_
          refine a_block ?_
          refine a_seq ?_
          obtain ⟨x6_2, q6_2, hm⟩ := bind_some hm
          obtain ⟨x6_6, q6_6, hm⟩ := bind_some hm
          refine d_region (S := Sw H []) (n := 9) (listed := (bits 9 0)) mixed (by kernel_rfl) rfl (by kernel_rfl) ?_
          refine dt 0 1 rfl trivial (y_move rfl) (sw0 []) ?_
          refine dt 1 3 rfl trivial (y_move rfl) (sw0 []) ?_
          obtain ⟨b6_2, o6_2, c6_2, e6_2, h6_2⟩ := Sl.elemZ 1 rfl h0 q6_2
          refine dt 2 7 rfl trivial (y_index Tryd.underlying26 ty3 rfl e6_2 rfl (nth_in q6_2)) (sw0 []) ?_
          refine dt 3 15 rfl trivial (y_load_int ty3 rfl (fun _ h => h.1) rfl h6_2) (sw0 []) ?_
          refine dt 4 31 rfl trivial (y_move rfl) (sw0 []) ?_
          refine dt 5 63 rfl trivial (y_move rfl) (sw0 []) ?_
          obtain ⟨b6_6, o6_6, c6_6, e6_6, h6_6⟩ := Sl.elemZ 1 rfl h1 q6_6
          refine dt 6 127 rfl trivial (y_index Tryd.underlying26 ty3 rfl e6_6 rfl (nth_in q6_6)) (sw0 []) ?_
          refine dt 7 255 rfl trivial (y_load_int ty3 rfl (fun _ h => h.1) rfl h6_6) (sw0 []) ?_
          refine dt 8 511 rfl trivial (y_neq rfl rfl) (sw0 []) ?_
          refine d_done (by kernel_rfl) ?_
          refine a_en [(0, v0), (1, v1), (5, .int .i64 yj3_5), (25, .bool (x6_2 != x6_6))] ?_
          refine a_then ?_
          refine a_cond rfl (fun k_5 => ?_) (fun k_5 => ?_)
          · have hm := cond_t k_5 hm
            refine a_seq ?_
            refine a_region rfl ?_
            refine ap (y_assign rfl) ?_
            refine a_nil ?_
            refine a_en [(4, .bool false)] ?_
            refine a_then ?_
            refine a_ret ?_
            refine a_block_ret ?_
            refine a_then_ret ?_
            refine a_then_ret ?_
            refine a_block_ret ?_
            refine a_cut_ret ?_
            refine a_then_ret ?_
            obtain rfl := Option.some.inj hm
            have hm := hm_j2
            try dsimp only at hm
            refine a_done (v := .bool false) (.inl rfl) rfl ?_ ?_
            · intro a_ w_ ha_ hs_; exact run_results (P := Tryd.prog) (fn := Tryd.f29) (rs := [.tmp 4]) (vs := [.bool false]) rfl (.cons (rv_tmp ha_ rfl) (All2.nil))
            · intro _ _; obtain rfl := Option.some.inj hm
              rfl
          · have hm := cond_f k_5 hm
            refine a_skip ?_
            refine a_block_normal ?_
            refine a_then ?_
            refine a_region rfl ?_
            refine ap (y_move rfl) ?_
            refine ap (y_add rfl rfl) ?_
            refine ap (y_assign rfl) ?_
            refine a_nil ?_
            refine a_en [(0, v0), (1, v1), (5, .int .i64 (IntKind.i64.wrap (yj3_5 + 1)))] ?_
            refine a_then ?_
            intro a_ w_ ha_ hs_
            exact ⟨n_j3, Nat.lt_succ_self _, IntKind.i64.wrap (yj3_5 + 1), hm, ha_.weaken ⟨rfl, rfl, rfl, trivial⟩, hs_.reix [] (by decide)⟩
        · have hm := cond_f k_4 hm
          refine a_exit ?_
          refine a_then_exit ?_
          refine a_then_exit ?_
          refine a_block_hit ?_
          refine a_cut ?_
          intro a_ w_ ha_ hs_
          exact ⟨Option.some.inj hm, ha_.weaken trivial, hs_.reix [] (by decide)⟩
    · have hm := hm_j2
      rintro a_ w_ ⟨rfl, ha_, hs_⟩
      try dsimp only at hm
      refine a_start ha_ hs_ ?_
      refine a_then ?_
      refine a_seq ?_
      refine a_region rfl ?_
      refine ap (y_assign rfl) ?_
      refine a_nil ?_
      refine a_then ?_
      refine a_ret ?_
      refine a_done (v := .bool true) (.inl rfl) rfl ?_ ?_
      · intro a_ w_ ha_ hs_; exact run_results (P := Tryd.prog) (fn := Tryd.f29) (rs := [.tmp 4]) (vs := [.bool true]) rfl (.cons (rv_tmp ha_ rfl) (All2.nil))
      · intro _ _; obtain rfl := Option.some.inj hm
        rfl

def tunnel_Kind (k : Nat) (p0 : TunnelBook) (p1 : List Int) (p2 : Int) : Option (Int × Int) :=
 (tunnel_isFrame k p0 p2).bind fun x1_4 =>
 (tunnel_asked k p0 p1 x1_4).bind fun x1_5 =>
 bif x1_5.2.2 != 0 then
 some ((0, x1_5.2.2))
 else
 (dryPure x1_5.1 (⟨p2, x1_5.2.1⟩ : TunnelDrying)).bind fun x4_4 =>
 (nth p0.Frames p2).bind fun x4_8 =>
 bif decide (x4_4.Low < x4_8.Need.Low) then
 bif decide (x4_4.High > x4_8.Need.High) then
 some ((IntKind.i64.wrap ((IntKind.i64.wrap (0 + 1)) + 2), 0))
 else
 some ((IntKind.i64.wrap (0 + 1), 0))
 else
 bif decide (x4_4.High > x4_8.Need.High) then
 some ((IntKind.i64.wrap (0 + 2), 0))
 else
 some ((0, 0))
theorem ok_25 {k : Nat} {H : Hp} {w : World} {p0 : TunnelBook} {p1 : List Int} {p2 : Int} {c0 : List Value} {v1 : Value} {r : Int × Int} (hsub : Sub H w) (h0 : Rp.rep (α := TunnelBook) H c0 p0) (h1 : Sl (α := Int) H v1 p1) (hg : Glob H) (hm : tunnel_Kind k p0 p1 p2 = some r) : Calls Tryd.prog 25 [.agg c0.toArray, v1, .int .i64 p2].toArray w (PostV w H (.tuple #[.int .i64 r.1, .int .i64 r.2])) := by
  unfold tunnel_Kind at hm
  refine start (n := 53) (E := [(0, .agg c0.toArray), (1, v1), (2, .int .i64 p2)]) Tryd.func25 rfl rfl ⟨rfl, rfl, rfl, trivial⟩ rfl hsub ?_
  refine a_seq ?_
  refine a_region rfl ?_
  refine a_cons (e_box (cs := c0) trivial rfl rfl rfl ?_)
  intro b0_0
  refine ap (y_assign rfl) ?_
  refine ap (y_assign rfl) ?_
  refine a_nil ?_
  refine a_freeze (α := TunnelBook) (x := p0) (i := 0) rfl h0 ?_
  intro Hb0_0 lb0_0 hb0_0
  have h0 := Rp.mono lb0_0 h0
  have h1 := Sl.mono lb0_0 h1
  have hg := Glob.mono lb0_0 hg
  refine a_en [(1, v1), (2, .int .i64 p2), (3, .pointer (some ⟨b0_0, 0, none⟩))] ?_
  refine a_own [] (by decide) (L' := []) rfl ?_
  refine a_then ?_
  refine a_seq ?_
  obtain ⟨x1_4, q1_4, hm⟩ := bind_some hm
  obtain ⟨x1_5, q1_5, hm⟩ := bind_some hm
  rcases Bool.eq_false_or_eq_true (x1_5.2.2 != 0) with k1_5 | k1_5
  · have hm := cond_t k1_5 hm
    refine d_region (S := Sw Hb0_0 []) (n := 15) (listed := (bits 15 0)) mixed (by kernel_rfl) rfl (by kernel_rfl) ?_
    refine d_abs fun U1 hU1 => ?_
    have N1_0 : ∀ (Hn1_9 : Hp) (ln1_9 : HLe Hb0_0 Hn1_9) (b1_10 : Nat) (b1_11 : Nat) (cb1_5 : List Value) (cs1_5 : List Value) (hb1_5 : Rp.rep (α := Bk none) Hn1_9 cb1_5 x1_5.1) (hc1_5 : Rp.rep (α := Arr 4 Int) Hn1_9 cs1_5 x1_5.2.1), At 53 [] (Kp.mk w H noX) [(2, .int .i64 p2), (3, .pointer (some ⟨b0_0, 0, none⟩)), (8, .pointer (some ⟨b1_10, 0, none⟩)), (9, .pointer (some ⟨b1_11, 0, none⟩)), (23, .int .i64 x1_5.2.2)] Hn1_9 [.box b1_10 cb1_5 110, .box b1_11 cs1_5 111] (U1 (Sw Hn1_9 []) 1 (bits 15 16383)) := by
      intro Hn1_9 ln1_9 b1_10 b1_11 cb1_5 cs1_5 hb1_5 hc1_5
      refine d_fwd hU1 ?_
      have hb0_0 := PAt.mono ln1_9 hb0_0
      have hg := Glob.mono ln1_9 hg
      refine dt 14 32767 rfl trivial (y_assign rfl) (sw0 []) ?_
      refine d_done (by kernel_rfl) ?_
      refine a_freeze (α := Bk _) (x := x1_5.1) (i := 0) rfl hb1_5 ?_
      intro Hb1_10 lb1_10 hb1_10
      have hb0_0 := PAt.mono lb1_10 hb0_0
      have hc1_5 := Rp.mono lb1_10 hc1_5
      have hg := Glob.mono lb1_10 hg
      refine a_freeze (α := Arr 4 Int) (x := x1_5.2.1) (i := 1) rfl hc1_5 ?_
      intro Hb1_11 lb1_11 hb1_11
      have hb0_0 := PAt.mono lb1_11 hb0_0
      have hb1_10 := PAt.mono lb1_11 hb1_10
      have hg := Glob.mono lb1_11 hg
      refine a_en [(2, .int .i64 p2), (3, .pointer (some ⟨b0_0, 0, none⟩)), (8, .pointer (some ⟨b1_10, 0, none⟩)), (9, .pointer (some ⟨b1_11, 0, none⟩)), (10, .int .i64 x1_5.2.2)] ?_
      refine a_own [] (by decide) (L' := []) rfl ?_
      refine a_then ?_
      refine a_seq ?_
      refine a_seq ?_
      refine a_region rfl ?_
      refine ap (y_move rfl) ?_
      refine ap (y_neq rfl rfl) ?_
      refine a_nil ?_
      refine a_en [(2, .int .i64 p2), (3, .pointer (some ⟨b0_0, 0, none⟩)), (8, .pointer (some ⟨b1_10, 0, none⟩)), (9, .pointer (some ⟨b1_11, 0, none⟩)), (10, .int .i64 x1_5.2.2), (25, .bool (x1_5.2.2 != 0))] ?_
      refine a_then ?_
      refine a_cond rfl (fun _ => ?_) (fun h_ => absurd (h_.symm.trans k1_5) (by decide))
      refine a_seq ?_
      refine a_region rfl ?_
      refine ap (y_move rfl) ?_
      refine ap (y_assign rfl) ?_
      refine ap (y_assign rfl) ?_
      refine a_nil ?_
      refine a_en [(6, .int .i64 0), (7, .int .i64 x1_5.2.2)] ?_
      refine a_then ?_
      refine a_ret ?_
      refine a_then_ret ?_
      refine a_done (v := .tuple #[.int .i64 0, .int .i64 x1_5.2.2]) (.inl rfl) rfl ?_ ?_
      · intro a_ w_ ha_ hs_; exact run_results (P := Tryd.prog) (fn := Tryd.f25) (rs := [.tmp 6, .tmp 7]) (vs := [.int .i64 0, .int .i64 x1_5.2.2]) rfl (.cons (rv_tmp ha_ rfl) (.cons (rv_tmp ha_ rfl) (All2.nil)))
      · intro _ _; obtain rfl := Option.some.inj hm
        rfl
    have N1_1 : ∀ (Hn1_8 : Hp) (ln1_8 : HLe Hb0_0 Hn1_8) (b1_10 : Nat) (b1_11 : Nat) (cs1_5 : List Value) (cb1_5 : List Value) (hc1_5 : Rp.rep (α := Arr 4 Int) Hn1_8 cs1_5 x1_5.2.1) (hb1_5 : Rp.rep (α := Bk none) Hn1_8 cb1_5 x1_5.1) (mz1_11 : Rp.rep (α := Arr 4 Int) Hn1_8 [.int .i64 0, .int .i64 0, .int .i64 0, .int .i64 0] [0, 0, 0, 0]), At 53 [] (Kp.mk w H noX) [(2, .int .i64 p2), (3, .pointer (some ⟨b0_0, 0, none⟩)), (8, .pointer (some ⟨b1_10, 0, none⟩)), (9, .pointer (some ⟨b1_11, 0, none⟩)), (22, .agg cs1_5.toArray), (23, .int .i64 x1_5.2.2)] Hn1_8 ([.box b1_10 cb1_5 110, .box b1_11 [.int .i64 0, .int .i64 0, .int .i64 0, .int .i64 0] 111]) (U1 (Sw Hn1_8 []) 2 (bits 15 8191)) := by
      intro Hn1_8 ln1_8 b1_10 b1_11 cs1_5 cb1_5 hc1_5 hb1_5 mz1_11
      refine d_fwd hU1 ?_
      have hb0_0 := PAt.mono ln1_8 hb0_0
      have hg := Glob.mono ln1_8 hg
      refine d1 13 rfl (e_storeWhole (i := 1) (ds := cs1_5) trivial ty111 rfl rfl rfl rfl (Rp.len hc1_5) ((Rp.one hc1_5)) rfl ?_)
      refine dn 16383 (sw0 []) ?_
      exact d_edge hU1 (N1_0 Hn1_8 ln1_8 b1_10 b1_11 cb1_5 cs1_5 hb1_5 hc1_5) ⟨rfl, rfl, rfl, rfl, rfl, trivial⟩ [0, 1] (by decide) rfl (fun _ h => h)
    have N1_2 : ∀ (Hn1_11 : Hp) (ln1_11 : HLe Hb0_0 Hn1_11) (b1_10 : Nat) (b1_11 : Nat) (cb1_5 : List Value) (cs1_5 : List Value) (hb1_5 : Rp.rep (α := Bk none) Hn1_11 cb1_5 x1_5.1) (hc1_5 : Rp.rep (α := Arr 4 Int) Hn1_11 cs1_5 x1_5.2.1) (mz1_11 : Rp.rep (α := Arr 4 Int) Hn1_11 [.int .i64 0, .int .i64 0, .int .i64 0, .int .i64 0] [0, 0, 0, 0]), At 53 [] (Kp.mk w H noX) [(2, .int .i64 p2), (3, .pointer (some ⟨b0_0, 0, none⟩)), (8, .pointer (some ⟨b1_10, 0, none⟩)), (9, .pointer (some ⟨b1_11, 0, none⟩)), (21, .agg cb1_5.toArray), (22, .agg cs1_5.toArray), (23, .int .i64 x1_5.2.2)] Hn1_11 ([.box b1_10 [.slice none 0 0, .slice none 0 0, .map none] 110, .box b1_11 [.int .i64 0, .int .i64 0, .int .i64 0, .int .i64 0] 111]) (U1 (Sw Hn1_11 []) 3 (bits 15 4095)) := by
      intro Hn1_11 ln1_11 b1_10 b1_11 cb1_5 cs1_5 hb1_5 hc1_5 mz1_11
      refine d_fwd hU1 ?_
      have hb0_0 := PAt.mono ln1_11 hb0_0
      have hg := Glob.mono ln1_11 hg
      refine d1 12 rfl (e_storeWhole (i := 0) (ds := cb1_5) trivial ty110 rfl rfl rfl rfl (Rp.len hb1_5) ((Rp.one hb1_5)) rfl ?_)
      refine dn 8191 (sw0 []) ?_
      exact d_edge hU1 (N1_1 Hn1_11 ln1_11 b1_10 b1_11 cs1_5 cb1_5 hc1_5 hb1_5 mz1_11) ⟨rfl, rfl, rfl, rfl, rfl, rfl, trivial⟩ [0, 1] (by decide) rfl (fun _ h => h)
    have N1_3 : ∀ (Hn1_15 : Hp) (ln1_15 : HLe Hb0_0 Hn1_15) (b1_10 : Nat) (cb1_5 : List Value) (cs1_5 : List Value) (hb1_5 : Rp.rep (α := Bk none) Hn1_15 cb1_5 x1_5.1) (hc1_5 : Rp.rep (α := Arr 4 Int) Hn1_15 cs1_5 x1_5.2.1), At 53 [] (Kp.mk w H noX) [(2, .int .i64 p2), (3, .pointer (some ⟨b0_0, 0, none⟩)), (8, .pointer (some ⟨b1_10, 0, none⟩)), (21, .agg cb1_5.toArray), (22, .agg cs1_5.toArray), (23, .int .i64 x1_5.2.2)] Hn1_15 ([.box b1_10 [.slice none 0 0, .slice none 0 0, .map none] 110]) (U1 (Sw Hn1_15 []) 4 (bits 15 2047)) := by
      intro Hn1_15 ln1_15 b1_10 cb1_5 cs1_5 hb1_5 hc1_5
      refine d_fwd hU1 ?_
      have hb0_0 := PAt.mono ln1_15 hb0_0
      have hg := Glob.mono ln1_15 hg
      refine d1 11 rfl (e_alloc (cs := [.int .i64 0, .int .i64 0, .int .i64 0, .int .i64 0]) trivial rfl ty111 rfl ?_)
      intro b1_11
      have mz1_11 : Rp.rep (α := Arr 4 Int) Hn1_15 [.int .i64 0, .int .i64 0, .int .i64 0, .int .i64 0] [0, 0, 0, 0] := ⟨(RepL.cons (c := [_]) rfl (RepL.cons (c := [_]) rfl (RepL.cons (c := [_]) rfl (RepL.cons (c := [_]) rfl RepL.nil)))), rfl⟩
      refine dn 4095 (sw0 []) ?_
      exact d_edge hU1 (N1_2 Hn1_15 ln1_15 b1_10 b1_11 cb1_5 cs1_5 hb1_5 hc1_5 mz1_11) ⟨rfl, rfl, rfl, rfl, rfl, rfl, rfl, trivial⟩ [1, 0] (by decide) rfl (fun _ h => h)
    have N1_4 : ∀ (Hn1_16 : Hp) (ln1_16 : HLe Hb0_0 Hn1_16) (b1_11 : Nat) (cb1_5 : List Value) (cs1_5 : List Value) (hb1_5 : Rp.rep (α := Bk none) Hn1_16 cb1_5 x1_5.1) (hc1_5 : Rp.rep (α := Arr 4 Int) Hn1_16 cs1_5 x1_5.2.1) (mz1_11 : Rp.rep (α := Arr 4 Int) Hn1_16 [.int .i64 0, .int .i64 0, .int .i64 0, .int .i64 0] [0, 0, 0, 0]), At 53 [] (Kp.mk w H noX) [(2, .int .i64 p2), (3, .pointer (some ⟨b0_0, 0, none⟩)), (9, .pointer (some ⟨b1_11, 0, none⟩)), (21, .agg cb1_5.toArray), (22, .agg cs1_5.toArray), (23, .int .i64 x1_5.2.2)] Hn1_16 ([.box b1_11 [.int .i64 0, .int .i64 0, .int .i64 0, .int .i64 0] 111]) (U1 (Sw Hn1_16 []) 4 (bits 15 3071)) := by
      intro Hn1_16 ln1_16 b1_11 cb1_5 cs1_5 hb1_5 hc1_5 mz1_11
      refine d_fwd hU1 ?_
      have hb0_0 := PAt.mono ln1_16 hb0_0
      have hg := Glob.mono ln1_16 hg
      refine d1 10 rfl (e_alloc (cs := [.slice none 0 0, .slice none 0 0, .map none]) trivial rfl ty110 rfl ?_)
      intro b1_10
      refine dn 4095 (sw0 []) ?_
      exact d_edge hU1 (N1_2 Hn1_16 ln1_16 b1_10 b1_11 cb1_5 cs1_5 hb1_5 hc1_5 mz1_11) ⟨rfl, rfl, rfl, rfl, rfl, rfl, rfl, trivial⟩ [0, 1] (by decide) rfl (fun _ h => h)
    have N1_5 : ∀ (Hn1_7 : Hp) (ln1_7 : HLe Hb0_0 Hn1_7) (b1_10 : Nat) (b1_11 : Nat) (cb1_5 : List Value) (cs1_5 : List Value) (hb1_5 : Rp.rep (α := Bk none) Hn1_7 cb1_5 x1_5.1) (hc1_5 : Rp.rep (α := Arr 4 Int) Hn1_7 cs1_5 x1_5.2.1) (mz1_11 : Rp.rep (α := Arr 4 Int) Hn1_7 [.int .i64 0, .int .i64 0, .int .i64 0, .int .i64 0] [0, 0, 0, 0]), At 53 [] (Kp.mk w H noX) [(2, .int .i64 p2), (3, .pointer (some ⟨b0_0, 0, none⟩)), (8, .pointer (some ⟨b1_10, 0, none⟩)), (9, .pointer (some ⟨b1_11, 0, none⟩)), (20, .tuple #[.agg cb1_5.toArray, .agg cs1_5.toArray, .int .i64 x1_5.2.2])] Hn1_7 ([.box b1_10 [.slice none 0 0, .slice none 0 0, .map none] 110, .box b1_11 [.int .i64 0, .int .i64 0, .int .i64 0, .int .i64 0] 111]) (U1 (Sw Hn1_7 []) 7 (bits 15 3135)) := by
      intro Hn1_7 ln1_7 b1_10 b1_11 cb1_5 cs1_5 hb1_5 hc1_5 mz1_11
      refine d_fwd hU1 ?_
      have hb0_0 := PAt.mono ln1_7 hb0_0
      have hg := Glob.mono ln1_7 hg
      refine dt 6 3199 rfl trivial (y_move rfl) (sw0 []) ?_
      refine dt 7 3327 rfl trivial (y_extract rfl rfl) (sw0 []) ?_
      refine dt 8 3583 rfl trivial (y_extract rfl rfl) (sw0 []) ?_
      refine dt 9 4095 rfl trivial (y_extract rfl rfl) (sw0 []) ?_
      refine d1 12 rfl (e_storeWhole (i := 0) (ds := cb1_5) trivial ty110 rfl rfl rfl rfl (Rp.len hb1_5) ((Rp.one hb1_5)) rfl ?_)
      refine dn 8191 (sw0 []) ?_
      exact d_edge hU1 (N1_1 Hn1_7 ln1_7 b1_10 b1_11 cs1_5 cb1_5 hc1_5 hb1_5 mz1_11) ⟨rfl, rfl, rfl, rfl, rfl, rfl, trivial⟩ [0, 1] (by decide) rfl (fun _ h => h)
    have N1_6 : ∀ (Hn1_13 : Hp) (ln1_13 : HLe Hb0_0 Hn1_13) (b1_10 : Nat) (cb1_5 : List Value) (cs1_5 : List Value) (hb1_5 : Rp.rep (α := Bk none) Hn1_13 cb1_5 x1_5.1) (hc1_5 : Rp.rep (α := Arr 4 Int) Hn1_13 cs1_5 x1_5.2.1), At 53 [] (Kp.mk w H noX) [(2, .int .i64 p2), (3, .pointer (some ⟨b0_0, 0, none⟩)), (8, .pointer (some ⟨b1_10, 0, none⟩)), (20, .tuple #[.agg cb1_5.toArray, .agg cs1_5.toArray, .int .i64 x1_5.2.2])] Hn1_13 ([.box b1_10 [.slice none 0 0, .slice none 0 0, .map none] 110]) (U1 (Sw Hn1_13 []) 8 (bits 15 1087)) := by
      intro Hn1_13 ln1_13 b1_10 cb1_5 cs1_5 hb1_5 hc1_5
      refine d_fwd hU1 ?_
      have hb0_0 := PAt.mono ln1_13 hb0_0
      have hg := Glob.mono ln1_13 hg
      refine dt 6 1151 rfl trivial (y_move rfl) (sw0 []) ?_
      refine dt 7 1279 rfl trivial (y_extract rfl rfl) (sw0 []) ?_
      refine dt 8 1535 rfl trivial (y_extract rfl rfl) (sw0 []) ?_
      refine dt 9 2047 rfl trivial (y_extract rfl rfl) (sw0 []) ?_
      refine d1 11 rfl (e_alloc (cs := [.int .i64 0, .int .i64 0, .int .i64 0, .int .i64 0]) trivial rfl ty111 rfl ?_)
      intro b1_11
      have mz1_11 : Rp.rep (α := Arr 4 Int) Hn1_13 [.int .i64 0, .int .i64 0, .int .i64 0, .int .i64 0] [0, 0, 0, 0] := ⟨(RepL.cons (c := [_]) rfl (RepL.cons (c := [_]) rfl (RepL.cons (c := [_]) rfl (RepL.cons (c := [_]) rfl RepL.nil)))), rfl⟩
      refine dn 4095 (sw0 []) ?_
      exact d_edge hU1 (N1_2 Hn1_13 ln1_13 b1_10 b1_11 cb1_5 cs1_5 hb1_5 hc1_5 mz1_11) ⟨rfl, rfl, rfl, rfl, rfl, rfl, rfl, trivial⟩ [1, 0] (by decide) rfl (fun _ h => h)
    have N1_7 : ∀ (Hn1_10 : Hp) (ln1_10 : HLe Hb0_0 Hn1_10) (b1_11 : Nat) (cb1_5 : List Value) (cs1_5 : List Value) (hb1_5 : Rp.rep (α := Bk none) Hn1_10 cb1_5 x1_5.1) (hc1_5 : Rp.rep (α := Arr 4 Int) Hn1_10 cs1_5 x1_5.2.1) (mz1_11 : Rp.rep (α := Arr 4 Int) Hn1_10 [.int .i64 0, .int .i64 0, .int .i64 0, .int .i64 0] [0, 0, 0, 0]), At 53 [] (Kp.mk w H noX) [(2, .int .i64 p2), (3, .pointer (some ⟨b0_0, 0, none⟩)), (9, .pointer (some ⟨b1_11, 0, none⟩)), (20, .tuple #[.agg cb1_5.toArray, .agg cs1_5.toArray, .int .i64 x1_5.2.2])] Hn1_10 ([.box b1_11 [.int .i64 0, .int .i64 0, .int .i64 0, .int .i64 0] 111]) (U1 (Sw Hn1_10 []) 8 (bits 15 2111)) := by
      intro Hn1_10 ln1_10 b1_11 cb1_5 cs1_5 hb1_5 hc1_5 mz1_11
      refine d_fwd hU1 ?_
      have hb0_0 := PAt.mono ln1_10 hb0_0
      have hg := Glob.mono ln1_10 hg
      refine dt 6 2175 rfl trivial (y_move rfl) (sw0 []) ?_
      refine dt 7 2303 rfl trivial (y_extract rfl rfl) (sw0 []) ?_
      refine dt 8 2559 rfl trivial (y_extract rfl rfl) (sw0 []) ?_
      refine dt 9 3071 rfl trivial (y_extract rfl rfl) (sw0 []) ?_
      refine d1 10 rfl (e_alloc (cs := [.slice none 0 0, .slice none 0 0, .map none]) trivial rfl ty110 rfl ?_)
      intro b1_10
      refine dn 4095 (sw0 []) ?_
      exact d_edge hU1 (N1_2 Hn1_10 ln1_10 b1_10 b1_11 cb1_5 cs1_5 hb1_5 hc1_5 mz1_11) ⟨rfl, rfl, rfl, rfl, rfl, rfl, rfl, trivial⟩ [0, 1] (by decide) rfl (fun _ h => h)
    have N1_8 : ∀ (Hn1_6 : Hp) (ln1_6 : HLe Hb0_0 Hn1_6) (b1_10 : Nat) (b1_11 : Nat) (u1_0 : List Value) (h1_0 : Rp.rep (α := TunnelBook) Hn1_6 u1_0 p0) (mz1_11 : Rp.rep (α := Arr 4 Int) Hn1_6 [.int .i64 0, .int .i64 0, .int .i64 0, .int .i64 0] [0, 0, 0, 0]), At 53 [] (Kp.mk w H noX) [(2, .int .i64 p2), (3, .pointer (some ⟨b0_0, 0, none⟩)), (8, .pointer (some ⟨b1_10, 0, none⟩)), (9, .pointer (some ⟨b1_11, 0, none⟩)), (15, .agg u1_0.toArray), (16, v1), (19, .bool x1_4)] Hn1_6 ([.box b1_10 [.slice none 0 0, .slice none 0 0, .map none] 110, .box b1_11 [.int .i64 0, .int .i64 0, .int .i64 0, .int .i64 0] 111]) (U1 (Sw Hn1_6 []) 8 (bits 15 3103)) := by
      intro Hn1_6 ln1_6 b1_10 b1_11 u1_0 h1_0 mz1_11
      refine d_fwd hU1 ?_
      have hb0_0 := PAt.mono ln1_6 hb0_0
      have h1 := Sl.mono ln1_6 h1
      have hg := Glob.mono ln1_6 hg
      refine d1 5 rfl (e_callO (all := [.agg u1_0.toArray, v1, .bool x1_4]) trivial rfl Tryd.func80 rfl rfl rfl rfl rfl (fun w hw => ok_80 hw h1_0 h1 q1_5) ?_)
      rintro _ H1_5 _ l1_5 ⟨cb1_5, cs1_5, mm1_5, rfl, hb1_5, hc1_5, hd1_5⟩
      rcases hd1_5 with ⟨rfl, he1_5, rfl⟩ | ⟨M1_5, rfl, he1_5, rfl⟩
      rotate_left
      · exact absurd k1_5 (by simp [he1_5])
      have hb0_0 := PAt.mono l1_5 hb0_0
      have h1_0 := Rp.mono l1_5 h1_0
      have h1 := Sl.mono l1_5 h1
      have mz1_11 := Rp.mono l1_5 mz1_11
      have hg := Glob.mono l1_5 hg
      refine dn 3135 (swl l1_5 []) ?_
      exact d_edge hU1 (N1_5 H1_5 (ln1_6.trans l1_5) b1_10 b1_11 cb1_5 cs1_5 hb1_5 hc1_5 mz1_11) ⟨rfl, rfl, rfl, rfl, rfl, trivial⟩ [0, 1] (by decide) rfl (sw_sw l1_5 [] rfl)
    have N1_9 : ∀ (Hn1_14 : Hp) (ln1_14 : HLe Hb0_0 Hn1_14) (cb1_5 : List Value) (cs1_5 : List Value) (hb1_5 : Rp.rep (α := Bk none) Hn1_14 cb1_5 x1_5.1) (hc1_5 : Rp.rep (α := Arr 4 Int) Hn1_14 cs1_5 x1_5.2.1), At 53 [] (Kp.mk w H noX) [(2, .int .i64 p2), (3, .pointer (some ⟨b0_0, 0, none⟩)), (20, .tuple #[.agg cb1_5.toArray, .agg cs1_5.toArray, .int .i64 x1_5.2.2])] Hn1_14 [] (U1 (Sw Hn1_14 []) 9 (bits 15 63)) := by
      intro Hn1_14 ln1_14 cb1_5 cs1_5 hb1_5 hc1_5
      refine d_fwd hU1 ?_
      have hb0_0 := PAt.mono ln1_14 hb0_0
      have hg := Glob.mono ln1_14 hg
      refine dt 6 127 rfl trivial (y_move rfl) (sw0 []) ?_
      refine dt 7 255 rfl trivial (y_extract rfl rfl) (sw0 []) ?_
      refine dt 8 511 rfl trivial (y_extract rfl rfl) (sw0 []) ?_
      refine dt 9 1023 rfl trivial (y_extract rfl rfl) (sw0 []) ?_
      refine d_all (rs := [10, 11]) (by kernel_rfl) rfl ⟨⟨_, rfl, ?_⟩, ⟨_, rfl, ?_⟩, trivial⟩
      · refine e_alloc (cs := [.slice none 0 0, .slice none 0 0, .map none]) trivial rfl ty110 rfl ?_
        intro b1_10
        refine dn 2047 (sw0 []) ?_
        exact d_edge hU1 (N1_3 Hn1_14 ln1_14 b1_10 cb1_5 cs1_5 hb1_5 hc1_5) ⟨rfl, rfl, rfl, rfl, rfl, rfl, trivial⟩ [0] (by decide) rfl (fun _ h => h)
      · refine e_alloc (cs := [.int .i64 0, .int .i64 0, .int .i64 0, .int .i64 0]) trivial rfl ty111 rfl ?_
        intro b1_11
        have mz1_11 : Rp.rep (α := Arr 4 Int) Hn1_14 [.int .i64 0, .int .i64 0, .int .i64 0, .int .i64 0] [0, 0, 0, 0] := ⟨(RepL.cons (c := [_]) rfl (RepL.cons (c := [_]) rfl (RepL.cons (c := [_]) rfl (RepL.cons (c := [_]) rfl RepL.nil)))), rfl⟩
        refine dn 3071 (sw0 []) ?_
        exact d_edge hU1 (N1_4 Hn1_14 ln1_14 b1_11 cb1_5 cs1_5 hb1_5 hc1_5 mz1_11) ⟨rfl, rfl, rfl, rfl, rfl, rfl, trivial⟩ [0] (by decide) rfl (fun _ h => h)
    have N1_10 : ∀ (Hn1_12 : Hp) (ln1_12 : HLe Hb0_0 Hn1_12) (b1_10 : Nat) (u1_0 : List Value) (h1_0 : Rp.rep (α := TunnelBook) Hn1_12 u1_0 p0), At 53 [] (Kp.mk w H noX) [(2, .int .i64 p2), (3, .pointer (some ⟨b0_0, 0, none⟩)), (8, .pointer (some ⟨b1_10, 0, none⟩)), (15, .agg u1_0.toArray), (16, v1), (19, .bool x1_4)] Hn1_12 ([.box b1_10 [.slice none 0 0, .slice none 0 0, .map none] 110]) (U1 (Sw Hn1_12 []) 9 (bits 15 1055)) := by
      intro Hn1_12 ln1_12 b1_10 u1_0 h1_0
      refine d_fwd hU1 ?_
      have hb0_0 := PAt.mono ln1_12 hb0_0
      have h1 := Sl.mono ln1_12 h1
      have hg := Glob.mono ln1_12 hg
      refine d_all (rs := [5, 11]) (by kernel_rfl) rfl ⟨⟨_, rfl, ?_⟩, ⟨_, rfl, ?_⟩, trivial⟩
      · refine e_callO (all := [.agg u1_0.toArray, v1, .bool x1_4]) trivial rfl Tryd.func80 rfl rfl rfl rfl rfl (fun w hw => ok_80 hw h1_0 h1 q1_5) ?_
        rintro _ H1_5 _ l1_5 ⟨cb1_5, cs1_5, mm1_5, rfl, hb1_5, hc1_5, hd1_5⟩
        rcases hd1_5 with ⟨rfl, he1_5, rfl⟩ | ⟨M1_5, rfl, he1_5, rfl⟩
        rotate_left
        · exact absurd k1_5 (by simp [he1_5])
        have hb0_0 := PAt.mono l1_5 hb0_0
        have h1_0 := Rp.mono l1_5 h1_0
        have h1 := Sl.mono l1_5 h1
        have hg := Glob.mono l1_5 hg
        refine dn 1087 (swl l1_5 []) ?_
        exact d_edge hU1 (N1_6 H1_5 (ln1_12.trans l1_5) b1_10 cb1_5 cs1_5 hb1_5 hc1_5) ⟨rfl, rfl, rfl, rfl, trivial⟩ [0] (by decide) rfl (sw_sw l1_5 [] rfl)
      · refine e_alloc (cs := [.int .i64 0, .int .i64 0, .int .i64 0, .int .i64 0]) trivial rfl ty111 rfl ?_
        intro b1_11
        have mz1_11 : Rp.rep (α := Arr 4 Int) Hn1_12 [.int .i64 0, .int .i64 0, .int .i64 0, .int .i64 0] [0, 0, 0, 0] := ⟨(RepL.cons (c := [_]) rfl (RepL.cons (c := [_]) rfl (RepL.cons (c := [_]) rfl (RepL.cons (c := [_]) rfl RepL.nil)))), rfl⟩
        refine dn 3103 (sw0 []) ?_
        exact d_edge hU1 (N1_8 Hn1_12 ln1_12 b1_10 b1_11 u1_0 h1_0 mz1_11) ⟨rfl, rfl, rfl, rfl, rfl, rfl, rfl, trivial⟩ [1, 0] (by decide) rfl (fun _ h => h)
    have N1_11 : ∀ (Hn1_4 : Hp) (ln1_4 : HLe Hb0_0 Hn1_4) (b1_11 : Nat) (u1_0 : List Value) (h1_0 : Rp.rep (α := TunnelBook) Hn1_4 u1_0 p0) (mz1_11 : Rp.rep (α := Arr 4 Int) Hn1_4 [.int .i64 0, .int .i64 0, .int .i64 0, .int .i64 0] [0, 0, 0, 0]), At 53 [] (Kp.mk w H noX) [(2, .int .i64 p2), (3, .pointer (some ⟨b0_0, 0, none⟩)), (9, .pointer (some ⟨b1_11, 0, none⟩)), (15, .agg u1_0.toArray), (16, v1), (19, .bool x1_4)] Hn1_4 ([.box b1_11 [.int .i64 0, .int .i64 0, .int .i64 0, .int .i64 0] 111]) (U1 (Sw Hn1_4 []) 9 (bits 15 2079)) := by
      intro Hn1_4 ln1_4 b1_11 u1_0 h1_0 mz1_11
      refine d_fwd hU1 ?_
      have hb0_0 := PAt.mono ln1_4 hb0_0
      have h1 := Sl.mono ln1_4 h1
      have hg := Glob.mono ln1_4 hg
      refine d_all (rs := [5, 10]) (by kernel_rfl) rfl ⟨⟨_, rfl, ?_⟩, ⟨_, rfl, ?_⟩, trivial⟩
      · refine e_callO (all := [.agg u1_0.toArray, v1, .bool x1_4]) trivial rfl Tryd.func80 rfl rfl rfl rfl rfl (fun w hw => ok_80 hw h1_0 h1 q1_5) ?_
        rintro _ H1_5 _ l1_5 ⟨cb1_5, cs1_5, mm1_5, rfl, hb1_5, hc1_5, hd1_5⟩
        rcases hd1_5 with ⟨rfl, he1_5, rfl⟩ | ⟨M1_5, rfl, he1_5, rfl⟩
        rotate_left
        · exact absurd k1_5 (by simp [he1_5])
        have hb0_0 := PAt.mono l1_5 hb0_0
        have h1_0 := Rp.mono l1_5 h1_0
        have h1 := Sl.mono l1_5 h1
        have mz1_11 := Rp.mono l1_5 mz1_11
        have hg := Glob.mono l1_5 hg
        refine dn 2111 (swl l1_5 []) ?_
        exact d_edge hU1 (N1_7 H1_5 (ln1_4.trans l1_5) b1_11 cb1_5 cs1_5 hb1_5 hc1_5 mz1_11) ⟨rfl, rfl, rfl, rfl, trivial⟩ [0] (by decide) rfl (sw_sw l1_5 [] rfl)
      · refine e_alloc (cs := [.slice none 0 0, .slice none 0 0, .map none]) trivial rfl ty110 rfl ?_
        intro b1_10
        refine dn 3103 (sw0 []) ?_
        exact d_edge hU1 (N1_8 Hn1_4 ln1_4 b1_10 b1_11 u1_0 h1_0 mz1_11) ⟨rfl, rfl, rfl, rfl, rfl, rfl, rfl, trivial⟩ [0, 1] (by decide) rfl (fun _ h => h)
    have N1_12 : ∀ (Hn1_5 : Hp) (ln1_5 : HLe Hb0_0 Hn1_5) (b1_10 : Nat) (b1_11 : Nat) (u1_0 : List Value) (u1_2 : List Value) (h1_0 : Rp.rep (α := TunnelBook) Hn1_5 u1_0 p0) (h1_2 : Rp.rep (α := TunnelBook) Hn1_5 u1_2 p0) (mz1_11 : Rp.rep (α := Arr 4 Int) Hn1_5 [.int .i64 0, .int .i64 0, .int .i64 0, .int .i64 0] [0, 0, 0, 0]), At 53 [] (Kp.mk w H noX) [(2, .int .i64 p2), (3, .pointer (some ⟨b0_0, 0, none⟩)), (8, .pointer (some ⟨b1_10, 0, none⟩)), (9, .pointer (some ⟨b1_11, 0, none⟩)), (15, .agg u1_0.toArray), (16, v1), (17, .agg u1_2.toArray), (18, .int .i64 p2)] Hn1_5 ([.box b1_10 [.slice none 0 0, .slice none 0 0, .map none] 110, .box b1_11 [.int .i64 0, .int .i64 0, .int .i64 0, .int .i64 0] 111]) (U1 (Sw Hn1_5 []) 9 (bits 15 3087)) := by
      intro Hn1_5 ln1_5 b1_10 b1_11 u1_0 u1_2 h1_0 h1_2 mz1_11
      refine d_fwd hU1 ?_
      have hb0_0 := PAt.mono ln1_5 hb0_0
      have h1 := Sl.mono ln1_5 h1
      have hg := Glob.mono ln1_5 hg
      refine d1 4 rfl (e_callV (all := [.agg u1_2.toArray, .int .i64 p2]) (v := .bool x1_4) trivial rfl Tryd.func88 rfl rfl rfl rfl rfl (fun w hw => ok_88 hw h1_2 q1_4) ?_)
      refine dn 3103 (sw0 []) ?_
      exact d_edge hU1 (N1_8 Hn1_5 ln1_5 b1_10 b1_11 u1_0 h1_0 mz1_11) ⟨rfl, rfl, rfl, rfl, rfl, rfl, rfl, trivial⟩ [0, 1] (by decide) rfl (fun _ h => h)
    have N1_13 : ∀ (Hn1_1 : Hp) (ln1_1 : HLe Hb0_0 Hn1_1) (u1_0 : List Value) (h1_0 : Rp.rep (α := TunnelBook) Hn1_1 u1_0 p0), At 53 [] (Kp.mk w H noX) [(2, .int .i64 p2), (3, .pointer (some ⟨b0_0, 0, none⟩)), (15, .agg u1_0.toArray), (16, v1), (19, .bool x1_4)] Hn1_1 [] (U1 (Sw Hn1_1 []) 10 (bits 15 31)) := by
      intro Hn1_1 ln1_1 u1_0 h1_0
      refine d_fwd hU1 ?_
      have hb0_0 := PAt.mono ln1_1 hb0_0
      have h1 := Sl.mono ln1_1 h1
      have hg := Glob.mono ln1_1 hg
      refine d_all (rs := [5, 10, 11]) (by kernel_rfl) rfl ⟨⟨_, rfl, ?_⟩, ⟨_, rfl, ?_⟩, ⟨_, rfl, ?_⟩, trivial⟩
      · refine e_callO (all := [.agg u1_0.toArray, v1, .bool x1_4]) trivial rfl Tryd.func80 rfl rfl rfl rfl rfl (fun w hw => ok_80 hw h1_0 h1 q1_5) ?_
        rintro _ H1_5 _ l1_5 ⟨cb1_5, cs1_5, mm1_5, rfl, hb1_5, hc1_5, hd1_5⟩
        rcases hd1_5 with ⟨rfl, he1_5, rfl⟩ | ⟨M1_5, rfl, he1_5, rfl⟩
        rotate_left
        · exact absurd k1_5 (by simp [he1_5])
        have hb0_0 := PAt.mono l1_5 hb0_0
        have h1_0 := Rp.mono l1_5 h1_0
        have h1 := Sl.mono l1_5 h1
        have hg := Glob.mono l1_5 hg
        refine dn 63 (swl l1_5 []) ?_
        exact d_edge hU1 (N1_9 H1_5 (ln1_1.trans l1_5) cb1_5 cs1_5 hb1_5 hc1_5) ⟨rfl, rfl, rfl, trivial⟩ [] (by decide) rfl (sw_sw l1_5 [] rfl)
      · refine e_alloc (cs := [.slice none 0 0, .slice none 0 0, .map none]) trivial rfl ty110 rfl ?_
        intro b1_10
        refine dn 1055 (sw0 []) ?_
        exact d_edge hU1 (N1_10 Hn1_1 ln1_1 b1_10 u1_0 h1_0) ⟨rfl, rfl, rfl, rfl, rfl, rfl, trivial⟩ [0] (by decide) rfl (fun _ h => h)
      · refine e_alloc (cs := [.int .i64 0, .int .i64 0, .int .i64 0, .int .i64 0]) trivial rfl ty111 rfl ?_
        intro b1_11
        have mz1_11 : Rp.rep (α := Arr 4 Int) Hn1_1 [.int .i64 0, .int .i64 0, .int .i64 0, .int .i64 0] [0, 0, 0, 0] := ⟨(RepL.cons (c := [_]) rfl (RepL.cons (c := [_]) rfl (RepL.cons (c := [_]) rfl (RepL.cons (c := [_]) rfl RepL.nil)))), rfl⟩
        refine dn 2079 (sw0 []) ?_
        exact d_edge hU1 (N1_11 Hn1_1 ln1_1 b1_11 u1_0 h1_0 mz1_11) ⟨rfl, rfl, rfl, rfl, rfl, rfl, trivial⟩ [0] (by decide) rfl (fun _ h => h)
    have N1_14 : ∀ (Hn1_2 : Hp) (ln1_2 : HLe Hb0_0 Hn1_2) (b1_10 : Nat) (u1_0 : List Value) (u1_2 : List Value) (h1_0 : Rp.rep (α := TunnelBook) Hn1_2 u1_0 p0) (h1_2 : Rp.rep (α := TunnelBook) Hn1_2 u1_2 p0), At 53 [] (Kp.mk w H noX) [(2, .int .i64 p2), (3, .pointer (some ⟨b0_0, 0, none⟩)), (8, .pointer (some ⟨b1_10, 0, none⟩)), (15, .agg u1_0.toArray), (16, v1), (17, .agg u1_2.toArray), (18, .int .i64 p2)] Hn1_2 ([.box b1_10 [.slice none 0 0, .slice none 0 0, .map none] 110]) (U1 (Sw Hn1_2 []) 10 (bits 15 1039)) := by
      intro Hn1_2 ln1_2 b1_10 u1_0 u1_2 h1_0 h1_2
      refine d_fwd hU1 ?_
      have hb0_0 := PAt.mono ln1_2 hb0_0
      have h1 := Sl.mono ln1_2 h1
      have hg := Glob.mono ln1_2 hg
      refine d_all (rs := [4, 11]) (by kernel_rfl) rfl ⟨⟨_, rfl, ?_⟩, ⟨_, rfl, ?_⟩, trivial⟩
      · refine e_callV (all := [.agg u1_2.toArray, .int .i64 p2]) (v := .bool x1_4) trivial rfl Tryd.func88 rfl rfl rfl rfl rfl (fun w hw => ok_88 hw h1_2 q1_4) ?_
        refine dn 1055 (sw0 []) ?_
        exact d_edge hU1 (N1_10 Hn1_2 ln1_2 b1_10 u1_0 h1_0) ⟨rfl, rfl, rfl, rfl, rfl, rfl, trivial⟩ [0] (by decide) rfl (fun _ h => h)
      · refine e_alloc (cs := [.int .i64 0, .int .i64 0, .int .i64 0, .int .i64 0]) trivial rfl ty111 rfl ?_
        intro b1_11
        have mz1_11 : Rp.rep (α := Arr 4 Int) Hn1_2 [.int .i64 0, .int .i64 0, .int .i64 0, .int .i64 0] [0, 0, 0, 0] := ⟨(RepL.cons (c := [_]) rfl (RepL.cons (c := [_]) rfl (RepL.cons (c := [_]) rfl (RepL.cons (c := [_]) rfl RepL.nil)))), rfl⟩
        refine dn 3087 (sw0 []) ?_
        exact d_edge hU1 (N1_12 Hn1_2 ln1_2 b1_10 b1_11 u1_0 u1_2 h1_0 h1_2 mz1_11) ⟨rfl, rfl, rfl, rfl, rfl, rfl, rfl, rfl, trivial⟩ [1, 0] (by decide) rfl (fun _ h => h)
    have N1_15 : ∀ (Hn1_3 : Hp) (ln1_3 : HLe Hb0_0 Hn1_3) (b1_11 : Nat) (u1_0 : List Value) (u1_2 : List Value) (h1_0 : Rp.rep (α := TunnelBook) Hn1_3 u1_0 p0) (h1_2 : Rp.rep (α := TunnelBook) Hn1_3 u1_2 p0) (mz1_11 : Rp.rep (α := Arr 4 Int) Hn1_3 [.int .i64 0, .int .i64 0, .int .i64 0, .int .i64 0] [0, 0, 0, 0]), At 53 [] (Kp.mk w H noX) [(2, .int .i64 p2), (3, .pointer (some ⟨b0_0, 0, none⟩)), (9, .pointer (some ⟨b1_11, 0, none⟩)), (15, .agg u1_0.toArray), (16, v1), (17, .agg u1_2.toArray), (18, .int .i64 p2)] Hn1_3 ([.box b1_11 [.int .i64 0, .int .i64 0, .int .i64 0, .int .i64 0] 111]) (U1 (Sw Hn1_3 []) 10 (bits 15 2063)) := by
      intro Hn1_3 ln1_3 b1_11 u1_0 u1_2 h1_0 h1_2 mz1_11
      refine d_fwd hU1 ?_
      have hb0_0 := PAt.mono ln1_3 hb0_0
      have h1 := Sl.mono ln1_3 h1
      have hg := Glob.mono ln1_3 hg
      refine d_all (rs := [4, 10]) (by kernel_rfl) rfl ⟨⟨_, rfl, ?_⟩, ⟨_, rfl, ?_⟩, trivial⟩
      · refine e_callV (all := [.agg u1_2.toArray, .int .i64 p2]) (v := .bool x1_4) trivial rfl Tryd.func88 rfl rfl rfl rfl rfl (fun w hw => ok_88 hw h1_2 q1_4) ?_
        refine dn 2079 (sw0 []) ?_
        exact d_edge hU1 (N1_11 Hn1_3 ln1_3 b1_11 u1_0 h1_0 mz1_11) ⟨rfl, rfl, rfl, rfl, rfl, rfl, trivial⟩ [0] (by decide) rfl (fun _ h => h)
      · refine e_alloc (cs := [.slice none 0 0, .slice none 0 0, .map none]) trivial rfl ty110 rfl ?_
        intro b1_10
        refine dn 3087 (sw0 []) ?_
        exact d_edge hU1 (N1_12 Hn1_3 ln1_3 b1_10 b1_11 u1_0 u1_2 h1_0 h1_2 mz1_11) ⟨rfl, rfl, rfl, rfl, rfl, rfl, rfl, rfl, trivial⟩ [0, 1] (by decide) rfl (fun _ h => h)
    refine d_fwd hU1 ?_
    obtain ⟨u1_0, h1_0, c1_0⟩ := PAt.one hb0_0
    refine dt 0 1 rfl trivial (y_load_cells ty25 rfl (fun _ h => h.1) rfl c1_0 (Rp.len h1_0)) (sw0 []) ?_
    refine dt 1 3 rfl trivial (y_move rfl) (sw0 []) ?_
    obtain ⟨u1_2, h1_2, c1_2⟩ := PAt.one hb0_0
    refine dt 2 7 rfl trivial (y_load_cells ty25 rfl (fun _ h => h.1) rfl c1_2 (Rp.len h1_2)) (sw0 []) ?_
    refine dt 3 15 rfl trivial (y_move rfl) (sw0 []) ?_
    refine d_all (rs := [4, 10, 11]) (by kernel_rfl) rfl ⟨⟨_, rfl, ?_⟩, ⟨_, rfl, ?_⟩, ⟨_, rfl, ?_⟩, trivial⟩
    · refine e_callV (all := [.agg u1_2.toArray, .int .i64 p2]) (v := .bool x1_4) trivial rfl Tryd.func88 rfl rfl rfl rfl rfl (fun w hw => ok_88 hw h1_2 q1_4) ?_
      refine dn 31 (sw0 []) ?_
      exact d_edge hU1 (N1_13 Hb0_0 (HLe.refl _) u1_0 h1_0) ⟨rfl, rfl, rfl, rfl, rfl, trivial⟩ [] (by decide) rfl (fun _ h => h)
    · refine e_alloc (cs := [.slice none 0 0, .slice none 0 0, .map none]) trivial rfl ty110 rfl ?_
      intro b1_10
      refine dn 1039 (sw0 []) ?_
      exact d_edge hU1 (N1_14 Hb0_0 (HLe.refl _) b1_10 u1_0 u1_2 h1_0 h1_2) ⟨rfl, rfl, rfl, rfl, rfl, rfl, rfl, trivial⟩ [0] (by decide) rfl (fun _ h => h)
    · refine e_alloc (cs := [.int .i64 0, .int .i64 0, .int .i64 0, .int .i64 0]) trivial rfl ty111 rfl ?_
      intro b1_11
      have mz1_11 : Rp.rep (α := Arr 4 Int) Hb0_0 [.int .i64 0, .int .i64 0, .int .i64 0, .int .i64 0] [0, 0, 0, 0] := ⟨(RepL.cons (c := [_]) rfl (RepL.cons (c := [_]) rfl (RepL.cons (c := [_]) rfl (RepL.cons (c := [_]) rfl RepL.nil)))), rfl⟩
      refine dn 2063 (sw0 []) ?_
      exact d_edge hU1 (N1_15 Hb0_0 (HLe.refl _) b1_11 u1_0 u1_2 h1_0 h1_2 mz1_11) ⟨rfl, rfl, rfl, rfl, rfl, rfl, rfl, trivial⟩ [0] (by decide) rfl (fun _ h => h)
  · have hm := cond_f k1_5 hm
    refine d_region (S := Sw Hb0_0 []) (n := 15) (listed := (bits 15 0)) mixed (by kernel_rfl) rfl (by kernel_rfl) ?_
    refine d_abs fun U1 hU1 => ?_
    have N1_0 : ∀ (Hn1_9 : Hp) (ln1_9 : HLe Hb0_0 Hn1_9) (b1_10 : Nat) (b1_11 : Nat) (M1_5 : Nat) (cb1_5 : List Value) (cs1_5 : List Value) (hb1_5 : Rp.rep (α := Bk (some M1_5)) Hn1_9 cb1_5 x1_5.1) (hc1_5 : Rp.rep (α := Arr 4 Int) Hn1_9 cs1_5 x1_5.2.1), At 53 [] (Kp.mk w H noX) [(2, .int .i64 p2), (3, .pointer (some ⟨b0_0, 0, none⟩)), (8, .pointer (some ⟨b1_10, 0, none⟩)), (9, .pointer (some ⟨b1_11, 0, none⟩)), (23, .int .i64 x1_5.2.2)] Hn1_9 [.blk M1_5 (Memo x1_5.1), .box b1_10 cb1_5 110, .box b1_11 cs1_5 111] (U1 (Sw Hn1_9 []) 1 (bits 15 16383)) := by
      intro Hn1_9 ln1_9 b1_10 b1_11 M1_5 cb1_5 cs1_5 hb1_5 hc1_5
      refine d_fwd hU1 ?_
      have hb0_0 := PAt.mono ln1_9 hb0_0
      have hg := Glob.mono ln1_9 hg
      refine dt 14 32767 rfl trivial (y_assign rfl) (sw0 []) ?_
      refine d_done (by kernel_rfl) ?_
      refine a_freeze (α := Bk _) (x := x1_5.1) (i := 1) rfl hb1_5 ?_
      intro Hb1_10 lb1_10 hb1_10
      have hb0_0 := PAt.mono lb1_10 hb0_0
      have hc1_5 := Rp.mono lb1_10 hc1_5
      have hg := Glob.mono lb1_10 hg
      refine a_freeze (α := Arr 4 Int) (x := x1_5.2.1) (i := 2) rfl hc1_5 ?_
      intro Hb1_11 lb1_11 hb1_11
      have hb0_0 := PAt.mono lb1_11 hb0_0
      have hb1_10 := PAt.mono lb1_11 hb1_10
      have hg := Glob.mono lb1_11 hg
      refine a_en [(2, .int .i64 p2), (3, .pointer (some ⟨b0_0, 0, none⟩)), (8, .pointer (some ⟨b1_10, 0, none⟩)), (9, .pointer (some ⟨b1_11, 0, none⟩)), (10, .int .i64 x1_5.2.2)] ?_
      refine a_own [0] (by decide) (L' := [.blk M1_5 (Memo x1_5.1)]) rfl ?_
      refine a_then ?_
      refine a_seq ?_
      refine a_seq ?_
      refine a_region rfl ?_
      refine ap (y_move rfl) ?_
      refine ap (y_neq rfl rfl) ?_
      refine a_nil ?_
      refine a_en [(2, .int .i64 p2), (3, .pointer (some ⟨b0_0, 0, none⟩)), (8, .pointer (some ⟨b1_10, 0, none⟩)), (9, .pointer (some ⟨b1_11, 0, none⟩)), (10, .int .i64 x1_5.2.2), (25, .bool (x1_5.2.2 != 0))] ?_
      refine a_then ?_
      refine a_cond rfl (fun h_ => absurd (h_.symm.trans k1_5) (by decide)) (fun _ => ?_)
      refine a_skip ?_
      refine a_then ?_
      refine a_seq ?_
      obtain ⟨x4_4, q4_4, hm⟩ := bind_some hm
      obtain ⟨x4_8, q4_8, hm⟩ := bind_some hm
      refine d_region (S := Sw Hb1_11 []) (n := 15) (listed := (bits 15 0)) mixed (by kernel_rfl) rfl (by kernel_rfl) ?_
      refine d_abs fun U4 hU4 => ?_
      have N4_0 : ∀ (Hn4_8 : Hp) (ln4_8 : HLe Hb1_11 Hn4_8) (b4_11 : Nat) (b4_12 : Nat) (u4_10 : List Value) (h4_10 : Rp.rep (α := Span) Hn4_8 u4_10 x4_8.Need), At 53 [] (Kp.mk w H noX) [(11, .pointer (some ⟨b4_11, 0, none⟩)), (12, .pointer (some ⟨b4_12, 0, none⟩))] Hn4_8 [.blk M1_5 (Memo x1_5.1), .box b4_11 x4_4.cells 32, .box b4_12 u4_10 32] (U4 (Sw Hn4_8 []) 0 (bits 15 32767)) := by
        intro Hn4_8 ln4_8 b4_11 b4_12 u4_10 h4_10
        refine d_fwd hU4 ?_
        have hg := Glob.mono ln4_8 hg
        refine d_done (by kernel_rfl) ?_
        refine a_freeze (α := Span) (x := x4_4) (i := 1) rfl (Span.rep_mk _ x4_4) ?_
        intro Hb4_11 lb4_11 hb4_11
        have h4_10 := Rp.mono lb4_11 h4_10
        have hg := Glob.mono lb4_11 hg
        refine a_freeze (α := Span) (x := x4_8.Need) (i := 2) rfl h4_10 ?_
        intro Hb4_12 lb4_12 hb4_12
        have hb4_11 := PAt.mono lb4_12 hb4_11
        have hg := Glob.mono lb4_12 hg
        refine a_own [0] (by decide) (L' := [.blk M1_5 (Memo x1_5.1)]) rfl ?_
        refine a_then ?_
        refine a_seq ?_
        refine a_region rfl ?_
        refine ap (y_assign rfl) ?_
        refine a_nil ?_
        refine a_then ?_
        refine a_seq ?_
        refine a_seq ?_
        refine a_region rfl ?_
        have h6_0 := Span.at_Low hb4_11
        refine ap (y_fieldAddr fo32_0 rfl) ?_
        refine ap (y_load_int ty3 rfl (fun _ h => h.sub) rfl h6_0) ?_
        have h6_2 := Span.at_Low hb4_12
        refine ap (y_fieldAddr fo32_0 rfl) ?_
        refine ap (y_load_int ty3 rfl (fun _ h => h.sub) rfl h6_2) ?_
        refine ap (y_lss rfl rfl) ?_
        refine a_nil ?_
        refine a_en [(11, .pointer (some ⟨b4_11, 0, none⟩)), (12, .pointer (some ⟨b4_12, 0, none⟩)), (13, .int .i64 0), (42, .bool (decide (x4_4.Low < x4_8.Need.Low)))] ?_
        refine a_then ?_
        refine a_cond rfl (fun k_1 => ?_) (fun k_1 => ?_)
        · have hm := cond_t k_1 hm
          refine a_region rfl ?_
          refine ap (y_move rfl) ?_
          refine ap (y_add rfl rfl) ?_
          refine ap (y_assign rfl) ?_
          refine a_nil ?_
          refine a_en [(11, .pointer (some ⟨b4_11, 0, none⟩)), (12, .pointer (some ⟨b4_12, 0, none⟩)), (13, .int .i64 (IntKind.i64.wrap (0 + 1)))] ?_
          refine a_then ?_
          refine a_seq ?_
          refine a_seq ?_
          refine a_region rfl ?_
          have h8_0 := Span.at_High hb4_11
          refine ap (y_fieldAddr fo32_1 rfl) ?_
          refine ap (y_load_int ty3 rfl (fun _ h => h.sub) rfl h8_0) ?_
          have h8_2 := Span.at_High hb4_12
          refine ap (y_fieldAddr fo32_1 rfl) ?_
          refine ap (y_load_int ty3 rfl (fun _ h => h.sub) rfl h8_2) ?_
          refine ap (y_gtr rfl rfl) ?_
          refine a_nil ?_
          refine a_en [(13, .int .i64 (IntKind.i64.wrap (0 + 1))), (49, .bool (decide (x4_4.High > x4_8.Need.High)))] ?_
          refine a_then ?_
          refine a_cond rfl (fun k_2 => ?_) (fun k_2 => ?_)
          · have hm := cond_t k_2 hm
            refine a_region rfl ?_
            refine ap (y_move rfl) ?_
            refine ap (y_add rfl rfl) ?_
            refine ap (y_assign rfl) ?_
            refine a_nil ?_
            refine a_en [(13, .int .i64 (IntKind.i64.wrap ((IntKind.i64.wrap (0 + 1)) + 2)))] ?_
            refine a_then ?_
            refine a_seq ?_
            refine a_region rfl ?_
            refine ap (y_move rfl) ?_
            refine ap (y_assign rfl) ?_
            refine ap (y_assign rfl) ?_
            refine a_nil ?_
            refine a_en [(6, .int .i64 (IntKind.i64.wrap ((IntKind.i64.wrap (0 + 1)) + 2))), (7, .int .i64 0)] ?_
            refine a_then ?_
            refine a_ret ?_
            refine a_done (v := .tuple #[.int .i64 (IntKind.i64.wrap ((IntKind.i64.wrap (0 + 1)) + 2)), .int .i64 0]) (.inl rfl) rfl ?_ ?_
            · intro a_ w_ ha_ hs_; exact run_results (P := Tryd.prog) (fn := Tryd.f25) (rs := [.tmp 6, .tmp 7]) (vs := [.int .i64 (IntKind.i64.wrap ((IntKind.i64.wrap (0 + 1)) + 2)), .int .i64 0]) rfl (.cons (rv_tmp ha_ rfl) (.cons (rv_tmp ha_ rfl) (All2.nil)))
            · intro _ _; obtain rfl := Option.some.inj hm
              rfl
          · have hm := cond_f k_2 hm
            refine a_skip ?_
            refine a_then ?_
            refine a_seq ?_
            refine a_region rfl ?_
            refine ap (y_move rfl) ?_
            refine ap (y_assign rfl) ?_
            refine ap (y_assign rfl) ?_
            refine a_nil ?_
            refine a_en [(6, .int .i64 (IntKind.i64.wrap (0 + 1))), (7, .int .i64 0)] ?_
            refine a_then ?_
            refine a_ret ?_
            refine a_done (v := .tuple #[.int .i64 (IntKind.i64.wrap (0 + 1)), .int .i64 0]) (.inl rfl) rfl ?_ ?_
            · intro a_ w_ ha_ hs_; exact run_results (P := Tryd.prog) (fn := Tryd.f25) (rs := [.tmp 6, .tmp 7]) (vs := [.int .i64 (IntKind.i64.wrap (0 + 1)), .int .i64 0]) rfl (.cons (rv_tmp ha_ rfl) (.cons (rv_tmp ha_ rfl) (All2.nil)))
            · intro _ _; obtain rfl := Option.some.inj hm
              rfl
        · have hm := cond_f k_1 hm
          refine a_skip ?_
          refine a_then ?_
          refine a_seq ?_
          refine a_seq ?_
          refine a_region rfl ?_
          have h8_0 := Span.at_High hb4_11
          refine ap (y_fieldAddr fo32_1 rfl) ?_
          refine ap (y_load_int ty3 rfl (fun _ h => h.sub) rfl h8_0) ?_
          have h8_2 := Span.at_High hb4_12
          refine ap (y_fieldAddr fo32_1 rfl) ?_
          refine ap (y_load_int ty3 rfl (fun _ h => h.sub) rfl h8_2) ?_
          refine ap (y_gtr rfl rfl) ?_
          refine a_nil ?_
          refine a_en [(13, .int .i64 0), (49, .bool (decide (x4_4.High > x4_8.Need.High)))] ?_
          refine a_then ?_
          refine a_cond rfl (fun k_3 => ?_) (fun k_3 => ?_)
          · have hm := cond_t k_3 hm
            refine a_region rfl ?_
            refine ap (y_move rfl) ?_
            refine ap (y_add rfl rfl) ?_
            refine ap (y_assign rfl) ?_
            refine a_nil ?_
            refine a_en [(13, .int .i64 (IntKind.i64.wrap (0 + 2)))] ?_
            refine a_then ?_
            refine a_seq ?_
            refine a_region rfl ?_
            refine ap (y_move rfl) ?_
            refine ap (y_assign rfl) ?_
            refine ap (y_assign rfl) ?_
            refine a_nil ?_
            refine a_en [(6, .int .i64 (IntKind.i64.wrap (0 + 2))), (7, .int .i64 0)] ?_
            refine a_then ?_
            refine a_ret ?_
            refine a_done (v := .tuple #[.int .i64 (IntKind.i64.wrap (0 + 2)), .int .i64 0]) (.inl rfl) rfl ?_ ?_
            · intro a_ w_ ha_ hs_; exact run_results (P := Tryd.prog) (fn := Tryd.f25) (rs := [.tmp 6, .tmp 7]) (vs := [.int .i64 (IntKind.i64.wrap (0 + 2)), .int .i64 0]) rfl (.cons (rv_tmp ha_ rfl) (.cons (rv_tmp ha_ rfl) (All2.nil)))
            · intro _ _; obtain rfl := Option.some.inj hm
              rfl
          · have hm := cond_f k_3 hm
            refine a_skip ?_
            refine a_then ?_
            refine a_seq ?_
            refine a_region rfl ?_
            refine ap (y_move rfl) ?_
            refine ap (y_assign rfl) ?_
            refine ap (y_assign rfl) ?_
            refine a_nil ?_
            refine a_en [(6, .int .i64 0), (7, .int .i64 0)] ?_
            refine a_then ?_
            refine a_ret ?_
            refine a_done (v := .tuple #[.int .i64 0, .int .i64 0]) (.inl rfl) rfl ?_ ?_
            · intro a_ w_ ha_ hs_; exact run_results (P := Tryd.prog) (fn := Tryd.f25) (rs := [.tmp 6, .tmp 7]) (vs := [.int .i64 0, .int .i64 0]) rfl (.cons (rv_tmp ha_ rfl) (.cons (rv_tmp ha_ rfl) (All2.nil)))
            · intro _ _; obtain rfl := Option.some.inj hm
              rfl
      have N4_1 : ∀ (Hn4_7 : Hp) (ln4_7 : HLe Hb1_11 Hn4_7) (b4_11 : Nat) (b4_12 : Nat) (u4_10 : List Value) (h4_10 : Rp.rep (α := Span) Hn4_7 u4_10 x4_8.Need), At 53 [] (Kp.mk w H noX) [(11, .pointer (some ⟨b4_11, 0, none⟩)), (12, .pointer (some ⟨b4_12, 0, none⟩)), (37, .agg u4_10.toArray)] Hn4_7 ([.blk M1_5 (Memo x1_5.1), .box b4_11 x4_4.cells 32, .box b4_12 [.int .i64 0, .int .i64 0] 32]) (U4 (Sw Hn4_7 []) 1 (bits 15 16383)) := by
        intro Hn4_7 ln4_7 b4_11 b4_12 u4_10 h4_10
        refine d_fwd hU4 ?_
        have hg := Glob.mono ln4_7 hg
        refine d1 14 rfl (e_storeWhole (i := 2) (ds := u4_10) trivial ty32 rfl rfl rfl rfl (Rp.len h4_10) ((Rp.one h4_10)) rfl ?_)
        refine dn 32767 (sw0 []) ?_
        exact d_edge hU4 (N4_0 Hn4_7 ln4_7 b4_11 b4_12 u4_10 h4_10) ⟨rfl, rfl, trivial⟩ [0, 1, 2] (by decide) rfl (fun _ h => h)
      have N4_2 : ∀ (Hn4_6 : Hp) (ln4_6 : HLe Hb1_11 Hn4_6) (b4_11 : Nat) (b4_12 : Nat) (u4_10 : List Value) (h4_10 : Rp.rep (α := Span) Hn4_6 u4_10 x4_8.Need), At 53 [] (Kp.mk w H noX) [(11, .pointer (some ⟨b4_11, 0, none⟩)), (12, .pointer (some ⟨b4_12, 0, none⟩)), (31, .agg x4_4.cells.toArray), (37, .agg u4_10.toArray)] Hn4_6 ([.blk M1_5 (Memo x1_5.1), .box b4_11 [.int .i64 0, .int .i64 0] 32, .box b4_12 [.int .i64 0, .int .i64 0] 32]) (U4 (Sw Hn4_6 []) 2 (bits 15 8191)) := by
        intro Hn4_6 ln4_6 b4_11 b4_12 u4_10 h4_10
        refine d_fwd hU4 ?_
        have hg := Glob.mono ln4_6 hg
        refine d1 13 rfl (e_storeWhole (i := 1) (ds := x4_4.cells) trivial ty32 rfl rfl rfl rfl rfl ((Rp.one (Span.rep_mk (fun _ => none) x4_4))) rfl ?_)
        refine dn 16383 (sw0 []) ?_
        exact d_edge hU4 (N4_1 Hn4_6 ln4_6 b4_11 b4_12 u4_10 h4_10) ⟨rfl, rfl, rfl, trivial⟩ [0, 1, 2] (by decide) rfl (fun _ h => h)
      have N4_3 : ∀ (Hn4_9 : Hp) (ln4_9 : HLe Hb1_11 Hn4_9) (b4_11 : Nat) (u4_10 : List Value) (h4_10 : Rp.rep (α := Span) Hn4_9 u4_10 x4_8.Need), At 53 [] (Kp.mk w H noX) [(11, .pointer (some ⟨b4_11, 0, none⟩)), (31, .agg x4_4.cells.toArray), (37, .agg u4_10.toArray)] Hn4_9 ([.blk M1_5 (Memo x1_5.1), .box b4_11 [.int .i64 0, .int .i64 0] 32]) (U4 (Sw Hn4_9 []) 3 (bits 15 4095)) := by
        intro Hn4_9 ln4_9 b4_11 u4_10 h4_10
        refine d_fwd hU4 ?_
        have hg := Glob.mono ln4_9 hg
        refine d1 12 rfl (e_alloc (cs := [.int .i64 0, .int .i64 0]) trivial rfl ty32 rfl ?_)
        intro b4_12
        refine dn 8191 (sw0 []) ?_
        exact d_edge hU4 (N4_2 Hn4_9 ln4_9 b4_11 b4_12 u4_10 h4_10) ⟨rfl, rfl, rfl, rfl, trivial⟩ [1, 2, 0] (by decide) rfl (fun _ h => h)
      have N4_4 : ∀ (Hn4_4 : Hp) (ln4_4 : HLe Hb1_11 Hn4_4) (b4_12 : Nat) (u4_10 : List Value) (h4_10 : Rp.rep (α := Span) Hn4_4 u4_10 x4_8.Need), At 53 [] (Kp.mk w H noX) [(12, .pointer (some ⟨b4_12, 0, none⟩)), (31, .agg x4_4.cells.toArray), (37, .agg u4_10.toArray)] Hn4_4 ([.blk M1_5 (Memo x1_5.1), .box b4_12 [.int .i64 0, .int .i64 0] 32]) (U4 (Sw Hn4_4 []) 3 (bits 15 6143)) := by
        intro Hn4_4 ln4_4 b4_12 u4_10 h4_10
        refine d_fwd hU4 ?_
        have hg := Glob.mono ln4_4 hg
        refine d1 11 rfl (e_alloc (cs := [.int .i64 0, .int .i64 0]) trivial rfl ty32 rfl ?_)
        intro b4_11
        refine dn 8191 (sw0 []) ?_
        exact d_edge hU4 (N4_2 Hn4_4 ln4_4 b4_11 b4_12 u4_10 h4_10) ⟨rfl, rfl, rfl, rfl, trivial⟩ [1, 0, 2] (by decide) rfl (fun _ h => h)
      have N4_5 : ∀ (Hn4_5 : Hp) (ln4_5 : HLe Hb1_11 Hn4_5) (b4_11 : Nat) (b4_12 : Nat) (u4_0 : List Value) (u4_2 : List Value) (u4_10 : List Value) (h4_0 : Rp.rep (α := Bk (some M1_5)) Hn4_5 u4_0 x1_5.1) (m4_3 : Rp.rep (α := TunnelDrying) Hn4_5 ([Value.int .i64 p2] ++ (u4_2)) (⟨p2, x1_5.2.1⟩ : TunnelDrying)) (h4_10 : Rp.rep (α := Span) Hn4_5 u4_10 x4_8.Need), At 53 [] (Kp.mk w H noX) [(11, .pointer (some ⟨b4_11, 0, none⟩)), (12, .pointer (some ⟨b4_12, 0, none⟩)), (27, .agg u4_0.toArray), (30, .agg ([Value.int .i64 p2] ++ (u4_2)).toArray), (37, .agg u4_10.toArray)] Hn4_5 ([.blk M1_5 (Memo x1_5.1), .box b4_11 [.int .i64 0, .int .i64 0] 32, .box b4_12 [.int .i64 0, .int .i64 0] 32]) (U4 (Sw Hn4_5 []) 3 (bits 15 8175)) := by
        intro Hn4_5 ln4_5 b4_11 b4_12 u4_0 u4_2 u4_10 h4_0 m4_3 h4_10
        refine d_fwd hU4 ?_
        have hg := Glob.mono ln4_5 hg
        refine d1 4 rfl (e_callM (i := 0) (all := [.agg u4_0.toArray, .agg ([Value.int .i64 p2] ++ (u4_2)).toArray]) trivial rfl Tryd.func89 rfl rfl rfl rfl rfl rfl (fun w hw ho hn => ok_89 hw h4_0 m4_3 hg ho hn q4_4) ?_)
        rintro _ H4_4 l4_4 ⟨rfl⟩
        have h4_0 := Rp.mono l4_4 h4_0
        have m4_3 := Rp.mono l4_4 m4_3
        have h4_10 := Rp.mono l4_4 h4_10
        have hg := Glob.mono l4_4 hg
        refine dn 8191 (swl l4_4 []) ?_
        exact d_edge hU4 (N4_2 H4_4 (ln4_5.trans l4_4) b4_11 b4_12 u4_10 h4_10) ⟨rfl, rfl, rfl, rfl, trivial⟩ [0, 1, 2] (by decide) rfl (sw_sw l4_4 [] rfl)
      have N4_6 : ∀ (Hn4_1 : Hp) (ln4_1 : HLe Hb1_11 Hn4_1) (u4_10 : List Value) (h4_10 : Rp.rep (α := Span) Hn4_1 u4_10 x4_8.Need), At 53 [] (Kp.mk w H noX) [(31, .agg x4_4.cells.toArray), (37, .agg u4_10.toArray)] Hn4_1 [.blk M1_5 (Memo x1_5.1)] (U4 (Sw Hn4_1 []) 4 (bits 15 2047)) := by
        intro Hn4_1 ln4_1 u4_10 h4_10
        refine d_fwd hU4 ?_
        have hg := Glob.mono ln4_1 hg
        refine d_all (rs := [11, 12]) (by kernel_rfl) rfl ⟨⟨_, rfl, ?_⟩, ⟨_, rfl, ?_⟩, trivial⟩
        · refine e_alloc (cs := [.int .i64 0, .int .i64 0]) trivial rfl ty32 rfl ?_
          intro b4_11
          refine dn 4095 (sw0 []) ?_
          exact d_edge hU4 (N4_3 Hn4_1 ln4_1 b4_11 u4_10 h4_10) ⟨rfl, rfl, rfl, trivial⟩ [1, 0] (by decide) rfl (fun _ h => h)
        · refine e_alloc (cs := [.int .i64 0, .int .i64 0]) trivial rfl ty32 rfl ?_
          intro b4_12
          refine dn 6143 (sw0 []) ?_
          exact d_edge hU4 (N4_4 Hn4_1 ln4_1 b4_12 u4_10 h4_10) ⟨rfl, rfl, rfl, trivial⟩ [1, 0] (by decide) rfl (fun _ h => h)
      have N4_7 : ∀ (Hn4_2 : Hp) (ln4_2 : HLe Hb1_11 Hn4_2) (b4_11 : Nat) (u4_0 : List Value) (u4_2 : List Value) (u4_10 : List Value) (h4_0 : Rp.rep (α := Bk (some M1_5)) Hn4_2 u4_0 x1_5.1) (m4_3 : Rp.rep (α := TunnelDrying) Hn4_2 ([Value.int .i64 p2] ++ (u4_2)) (⟨p2, x1_5.2.1⟩ : TunnelDrying)) (h4_10 : Rp.rep (α := Span) Hn4_2 u4_10 x4_8.Need), At 53 [] (Kp.mk w H noX) [(11, .pointer (some ⟨b4_11, 0, none⟩)), (27, .agg u4_0.toArray), (30, .agg ([Value.int .i64 p2] ++ (u4_2)).toArray), (37, .agg u4_10.toArray)] Hn4_2 ([.blk M1_5 (Memo x1_5.1), .box b4_11 [.int .i64 0, .int .i64 0] 32]) (U4 (Sw Hn4_2 []) 4 (bits 15 4079)) := by
        intro Hn4_2 ln4_2 b4_11 u4_0 u4_2 u4_10 h4_0 m4_3 h4_10
        refine d_fwd hU4 ?_
        have hg := Glob.mono ln4_2 hg
        refine d_all (rs := [4, 12]) (by kernel_rfl) rfl ⟨⟨_, rfl, ?_⟩, ⟨_, rfl, ?_⟩, trivial⟩
        · refine e_callM (i := 0) (all := [.agg u4_0.toArray, .agg ([Value.int .i64 p2] ++ (u4_2)).toArray]) trivial rfl Tryd.func89 rfl rfl rfl rfl rfl rfl (fun w hw ho hn => ok_89 hw h4_0 m4_3 hg ho hn q4_4) ?_
          rintro _ H4_4 l4_4 ⟨rfl⟩
          have h4_0 := Rp.mono l4_4 h4_0
          have m4_3 := Rp.mono l4_4 m4_3
          have h4_10 := Rp.mono l4_4 h4_10
          have hg := Glob.mono l4_4 hg
          refine dn 4095 (swl l4_4 []) ?_
          exact d_edge hU4 (N4_3 H4_4 (ln4_2.trans l4_4) b4_11 u4_10 h4_10) ⟨rfl, rfl, rfl, trivial⟩ [0, 1] (by decide) rfl (sw_sw l4_4 [] rfl)
        · refine e_alloc (cs := [.int .i64 0, .int .i64 0]) trivial rfl ty32 rfl ?_
          intro b4_12
          refine dn 8175 (sw0 []) ?_
          exact d_edge hU4 (N4_5 Hn4_2 ln4_2 b4_11 b4_12 u4_0 u4_2 u4_10 h4_0 m4_3 h4_10) ⟨rfl, rfl, rfl, rfl, rfl, trivial⟩ [1, 2, 0] (by decide) rfl (fun _ h => h)
      have N4_8 : ∀ (Hn4_3 : Hp) (ln4_3 : HLe Hb1_11 Hn4_3) (b4_12 : Nat) (u4_0 : List Value) (u4_2 : List Value) (u4_10 : List Value) (h4_0 : Rp.rep (α := Bk (some M1_5)) Hn4_3 u4_0 x1_5.1) (m4_3 : Rp.rep (α := TunnelDrying) Hn4_3 ([Value.int .i64 p2] ++ (u4_2)) (⟨p2, x1_5.2.1⟩ : TunnelDrying)) (h4_10 : Rp.rep (α := Span) Hn4_3 u4_10 x4_8.Need), At 53 [] (Kp.mk w H noX) [(12, .pointer (some ⟨b4_12, 0, none⟩)), (27, .agg u4_0.toArray), (30, .agg ([Value.int .i64 p2] ++ (u4_2)).toArray), (37, .agg u4_10.toArray)] Hn4_3 ([.blk M1_5 (Memo x1_5.1), .box b4_12 [.int .i64 0, .int .i64 0] 32]) (U4 (Sw Hn4_3 []) 4 (bits 15 6127)) := by
        intro Hn4_3 ln4_3 b4_12 u4_0 u4_2 u4_10 h4_0 m4_3 h4_10
        refine d_fwd hU4 ?_
        have hg := Glob.mono ln4_3 hg
        refine d_all (rs := [4, 11]) (by kernel_rfl) rfl ⟨⟨_, rfl, ?_⟩, ⟨_, rfl, ?_⟩, trivial⟩
        · refine e_callM (i := 0) (all := [.agg u4_0.toArray, .agg ([Value.int .i64 p2] ++ (u4_2)).toArray]) trivial rfl Tryd.func89 rfl rfl rfl rfl rfl rfl (fun w hw ho hn => ok_89 hw h4_0 m4_3 hg ho hn q4_4) ?_
          rintro _ H4_4 l4_4 ⟨rfl⟩
          have h4_0 := Rp.mono l4_4 h4_0
          have m4_3 := Rp.mono l4_4 m4_3
          have h4_10 := Rp.mono l4_4 h4_10
          have hg := Glob.mono l4_4 hg
          refine dn 6143 (swl l4_4 []) ?_
          exact d_edge hU4 (N4_4 H4_4 (ln4_3.trans l4_4) b4_12 u4_10 h4_10) ⟨rfl, rfl, rfl, trivial⟩ [0, 1] (by decide) rfl (sw_sw l4_4 [] rfl)
        · refine e_alloc (cs := [.int .i64 0, .int .i64 0]) trivial rfl ty32 rfl ?_
          intro b4_11
          refine dn 8175 (sw0 []) ?_
          exact d_edge hU4 (N4_5 Hn4_3 ln4_3 b4_11 b4_12 u4_0 u4_2 u4_10 h4_0 m4_3 h4_10) ⟨rfl, rfl, rfl, rfl, rfl, trivial⟩ [1, 0, 2] (by decide) rfl (fun _ h => h)
      refine d_fwd hU4 ?_
      obtain ⟨u4_0, h4_0, c4_0⟩ := PAt.one hb1_10
      refine dt 0 1 rfl trivial (y_load_cells ty110 rfl (fun _ h => h.1) rfl c4_0 (Rp.len h4_0)) (sw0 []) ?_
      refine dt 1 3 rfl trivial (y_move rfl) (sw0 []) ?_
      obtain ⟨u4_2, h4_2, c4_2⟩ := PAt.one hb1_11
      refine dt 2 7 rfl trivial (y_load_cells ty111 rfl (fun _ h => h.1) rfl c4_2 (Rp.len h4_2)) (sw0 []) ?_
      have m4_3 : Rp.rep Hb1_11 ([Value.int .i64 p2] ++ (u4_2)) (⟨p2, x1_5.2.1⟩ : TunnelDrying) := ⟨_, _, rfl, rfl, h4_2⟩
      refine dt 3 15 rfl trivial (y_build (pl := [(0, 1), (1, 4)]) (xs := [.tmp 28, .tmp 29]) (cs := [Value.int .i64 p2] ++ (u4_2)) ty120 (.cons ⟨rfl, ty3.szOf⟩ (.cons ⟨rfl, ty111.szOf⟩ (All2.nil))) rfl rfl ⟨_, rfl, rfl, ⟨_, by show List.length _ = _; exact Rp.len h4_2, rfl, trivial⟩⟩ (by rw [Rp.len m4_3]; rfl) (by simp [Value.cells])) (sw0 []) ?_
      have h4_5 := TunnelBook.at_Frames hb0_0
      refine dt 5 47 rfl trivial (y_fieldAddr fo25_1 rfl) (sw0 []) ?_
      obtain ⟨v4_6, h4_6, c4_6⟩ := PAt.sl h4_5
      refine dt 6 111 rfl trivial (y_load_one ty23 rfl (fun _ h => h.1) rfl c4_6) (sw0 []) ?_
      refine dt 7 239 rfl trivial (y_move rfl) (sw0 []) ?_
      obtain ⟨b4_8, o4_8, c4_8, e4_8, h4_8⟩ := Sl.elemZ 3 rfl h4_6 q4_8
      refine dt 8 495 rfl trivial (y_index Tryd.underlying23 ty55 rfl e4_8 rfl (nth_in q4_8)) (sw0 []) ?_
      have h4_9 := TunnelFrame.at_Need h4_8
      refine dt 9 1007 rfl trivial (y_fieldAddr fo55_1 rfl) (sw0 []) ?_
      obtain ⟨u4_10, h4_10, c4_10⟩ := PAt.one h4_9
      refine dt 10 2031 rfl trivial (y_load_cells ty32 rfl (fun _ h => h.1) rfl c4_10 (Rp.len h4_10)) (sw0 []) ?_
      refine d_all (rs := [4, 11, 12]) (by kernel_rfl) rfl ⟨⟨_, rfl, ?_⟩, ⟨_, rfl, ?_⟩, ⟨_, rfl, ?_⟩, trivial⟩
      · refine e_callM (i := 0) (all := [.agg u4_0.toArray, .agg ([Value.int .i64 p2] ++ (u4_2)).toArray]) trivial rfl Tryd.func89 rfl rfl rfl rfl rfl rfl (fun w hw ho hn => ok_89 hw h4_0 m4_3 hg ho hn q4_4) ?_
        rintro _ H4_4 l4_4 ⟨rfl⟩
        have hb0_0 := PAt.mono l4_4 hb0_0
        have hb1_10 := PAt.mono l4_4 hb1_10
        have hb1_11 := PAt.mono l4_4 hb1_11
        have h4_0 := Rp.mono l4_4 h4_0
        have h4_2 := Rp.mono l4_4 h4_2
        have m4_3 := Rp.mono l4_4 m4_3
        have h4_5 := PAt.mono l4_4 h4_5
        have h4_6 := Sl.mono l4_4 h4_6
        have h4_8 := PAt.mono l4_4 h4_8
        have h4_9 := PAt.mono l4_4 h4_9
        have h4_10 := Rp.mono l4_4 h4_10
        have hg := Glob.mono l4_4 hg
        refine dn 2047 (swl l4_4 []) ?_
        exact d_edge hU4 (N4_6 H4_4 l4_4 u4_10 h4_10) ⟨rfl, rfl, trivial⟩ [0] (by decide) rfl (sw_sw l4_4 [] rfl)
      · refine e_alloc (cs := [.int .i64 0, .int .i64 0]) trivial rfl ty32 rfl ?_
        intro b4_11
        refine dn 4079 (sw0 []) ?_
        exact d_edge hU4 (N4_7 Hb1_11 (HLe.refl _) b4_11 u4_0 u4_2 u4_10 h4_0 m4_3 h4_10) ⟨rfl, rfl, rfl, rfl, trivial⟩ [1, 0] (by decide) rfl (fun _ h => h)
      · refine e_alloc (cs := [.int .i64 0, .int .i64 0]) trivial rfl ty32 rfl ?_
        intro b4_12
        refine dn 6127 (sw0 []) ?_
        exact d_edge hU4 (N4_8 Hb1_11 (HLe.refl _) b4_12 u4_0 u4_2 u4_10 h4_0 m4_3 h4_10) ⟨rfl, rfl, rfl, rfl, trivial⟩ [1, 0] (by decide) rfl (fun _ h => h)
    have N1_1 : ∀ (Hn1_8 : Hp) (ln1_8 : HLe Hb0_0 Hn1_8) (b1_10 : Nat) (b1_11 : Nat) (cs1_5 : List Value) (M1_5 : Nat) (cb1_5 : List Value) (hc1_5 : Rp.rep (α := Arr 4 Int) Hn1_8 cs1_5 x1_5.2.1) (hb1_5 : Rp.rep (α := Bk (some M1_5)) Hn1_8 cb1_5 x1_5.1) (mz1_11 : Rp.rep (α := Arr 4 Int) Hn1_8 [.int .i64 0, .int .i64 0, .int .i64 0, .int .i64 0] [0, 0, 0, 0]), At 53 [] (Kp.mk w H noX) [(2, .int .i64 p2), (3, .pointer (some ⟨b0_0, 0, none⟩)), (8, .pointer (some ⟨b1_10, 0, none⟩)), (9, .pointer (some ⟨b1_11, 0, none⟩)), (22, .agg cs1_5.toArray), (23, .int .i64 x1_5.2.2)] Hn1_8 ([.blk M1_5 (Memo x1_5.1), .box b1_10 cb1_5 110, .box b1_11 [.int .i64 0, .int .i64 0, .int .i64 0, .int .i64 0] 111]) (U1 (Sw Hn1_8 []) 2 (bits 15 8191)) := by
      intro Hn1_8 ln1_8 b1_10 b1_11 cs1_5 M1_5 cb1_5 hc1_5 hb1_5 mz1_11
      refine d_fwd hU1 ?_
      have hb0_0 := PAt.mono ln1_8 hb0_0
      have hg := Glob.mono ln1_8 hg
      refine d1 13 rfl (e_storeWhole (i := 2) (ds := cs1_5) trivial ty111 rfl rfl rfl rfl (Rp.len hc1_5) ((Rp.one hc1_5)) rfl ?_)
      refine dn 16383 (sw0 []) ?_
      exact d_edge hU1 (N1_0 Hn1_8 ln1_8 b1_10 b1_11 M1_5 cb1_5 cs1_5 hb1_5 hc1_5) ⟨rfl, rfl, rfl, rfl, rfl, trivial⟩ [0, 1, 2] (by decide) rfl (fun _ h => h)
    have N1_2 : ∀ (Hn1_11 : Hp) (ln1_11 : HLe Hb0_0 Hn1_11) (b1_10 : Nat) (b1_11 : Nat) (cb1_5 : List Value) (M1_5 : Nat) (cs1_5 : List Value) (hb1_5 : Rp.rep (α := Bk (some M1_5)) Hn1_11 cb1_5 x1_5.1) (hc1_5 : Rp.rep (α := Arr 4 Int) Hn1_11 cs1_5 x1_5.2.1) (mz1_11 : Rp.rep (α := Arr 4 Int) Hn1_11 [.int .i64 0, .int .i64 0, .int .i64 0, .int .i64 0] [0, 0, 0, 0]), At 53 [] (Kp.mk w H noX) [(2, .int .i64 p2), (3, .pointer (some ⟨b0_0, 0, none⟩)), (8, .pointer (some ⟨b1_10, 0, none⟩)), (9, .pointer (some ⟨b1_11, 0, none⟩)), (21, .agg cb1_5.toArray), (22, .agg cs1_5.toArray), (23, .int .i64 x1_5.2.2)] Hn1_11 ([.blk M1_5 (Memo x1_5.1), .box b1_10 [.slice none 0 0, .slice none 0 0, .map none] 110, .box b1_11 [.int .i64 0, .int .i64 0, .int .i64 0, .int .i64 0] 111]) (U1 (Sw Hn1_11 []) 3 (bits 15 4095)) := by
      intro Hn1_11 ln1_11 b1_10 b1_11 cb1_5 M1_5 cs1_5 hb1_5 hc1_5 mz1_11
      refine d_fwd hU1 ?_
      have hb0_0 := PAt.mono ln1_11 hb0_0
      have hg := Glob.mono ln1_11 hg
      refine d1 12 rfl (e_storeWhole (i := 1) (ds := cb1_5) trivial ty110 rfl rfl rfl rfl (Rp.len hb1_5) ((Rp.one hb1_5)) rfl ?_)
      refine dn 8191 (sw0 []) ?_
      exact d_edge hU1 (N1_1 Hn1_11 ln1_11 b1_10 b1_11 cs1_5 M1_5 cb1_5 hc1_5 hb1_5 mz1_11) ⟨rfl, rfl, rfl, rfl, rfl, rfl, trivial⟩ [0, 1, 2] (by decide) rfl (fun _ h => h)
    have N1_3 : ∀ (Hn1_15 : Hp) (ln1_15 : HLe Hb0_0 Hn1_15) (b1_10 : Nat) (cb1_5 : List Value) (M1_5 : Nat) (cs1_5 : List Value) (hb1_5 : Rp.rep (α := Bk (some M1_5)) Hn1_15 cb1_5 x1_5.1) (hc1_5 : Rp.rep (α := Arr 4 Int) Hn1_15 cs1_5 x1_5.2.1), At 53 [] (Kp.mk w H noX) [(2, .int .i64 p2), (3, .pointer (some ⟨b0_0, 0, none⟩)), (8, .pointer (some ⟨b1_10, 0, none⟩)), (21, .agg cb1_5.toArray), (22, .agg cs1_5.toArray), (23, .int .i64 x1_5.2.2)] Hn1_15 ([.blk M1_5 (Memo x1_5.1), .box b1_10 [.slice none 0 0, .slice none 0 0, .map none] 110]) (U1 (Sw Hn1_15 []) 4 (bits 15 2047)) := by
      intro Hn1_15 ln1_15 b1_10 cb1_5 M1_5 cs1_5 hb1_5 hc1_5
      refine d_fwd hU1 ?_
      have hb0_0 := PAt.mono ln1_15 hb0_0
      have hg := Glob.mono ln1_15 hg
      refine d1 11 rfl (e_alloc (cs := [.int .i64 0, .int .i64 0, .int .i64 0, .int .i64 0]) trivial rfl ty111 rfl ?_)
      intro b1_11
      have mz1_11 : Rp.rep (α := Arr 4 Int) Hn1_15 [.int .i64 0, .int .i64 0, .int .i64 0, .int .i64 0] [0, 0, 0, 0] := ⟨(RepL.cons (c := [_]) rfl (RepL.cons (c := [_]) rfl (RepL.cons (c := [_]) rfl (RepL.cons (c := [_]) rfl RepL.nil)))), rfl⟩
      refine dn 4095 (sw0 []) ?_
      exact d_edge hU1 (N1_2 Hn1_15 ln1_15 b1_10 b1_11 cb1_5 M1_5 cs1_5 hb1_5 hc1_5 mz1_11) ⟨rfl, rfl, rfl, rfl, rfl, rfl, rfl, trivial⟩ [1, 2, 0] (by decide) rfl (fun _ h => h)
    have N1_4 : ∀ (Hn1_16 : Hp) (ln1_16 : HLe Hb0_0 Hn1_16) (b1_11 : Nat) (cb1_5 : List Value) (M1_5 : Nat) (cs1_5 : List Value) (hb1_5 : Rp.rep (α := Bk (some M1_5)) Hn1_16 cb1_5 x1_5.1) (hc1_5 : Rp.rep (α := Arr 4 Int) Hn1_16 cs1_5 x1_5.2.1) (mz1_11 : Rp.rep (α := Arr 4 Int) Hn1_16 [.int .i64 0, .int .i64 0, .int .i64 0, .int .i64 0] [0, 0, 0, 0]), At 53 [] (Kp.mk w H noX) [(2, .int .i64 p2), (3, .pointer (some ⟨b0_0, 0, none⟩)), (9, .pointer (some ⟨b1_11, 0, none⟩)), (21, .agg cb1_5.toArray), (22, .agg cs1_5.toArray), (23, .int .i64 x1_5.2.2)] Hn1_16 ([.blk M1_5 (Memo x1_5.1), .box b1_11 [.int .i64 0, .int .i64 0, .int .i64 0, .int .i64 0] 111]) (U1 (Sw Hn1_16 []) 4 (bits 15 3071)) := by
      intro Hn1_16 ln1_16 b1_11 cb1_5 M1_5 cs1_5 hb1_5 hc1_5 mz1_11
      refine d_fwd hU1 ?_
      have hb0_0 := PAt.mono ln1_16 hb0_0
      have hg := Glob.mono ln1_16 hg
      refine d1 10 rfl (e_alloc (cs := [.slice none 0 0, .slice none 0 0, .map none]) trivial rfl ty110 rfl ?_)
      intro b1_10
      refine dn 4095 (sw0 []) ?_
      exact d_edge hU1 (N1_2 Hn1_16 ln1_16 b1_10 b1_11 cb1_5 M1_5 cs1_5 hb1_5 hc1_5 mz1_11) ⟨rfl, rfl, rfl, rfl, rfl, rfl, rfl, trivial⟩ [1, 0, 2] (by decide) rfl (fun _ h => h)
    have N1_5 : ∀ (Hn1_7 : Hp) (ln1_7 : HLe Hb0_0 Hn1_7) (b1_10 : Nat) (b1_11 : Nat) (cb1_5 : List Value) (M1_5 : Nat) (cs1_5 : List Value) (hb1_5 : Rp.rep (α := Bk (some M1_5)) Hn1_7 cb1_5 x1_5.1) (hc1_5 : Rp.rep (α := Arr 4 Int) Hn1_7 cs1_5 x1_5.2.1) (mz1_11 : Rp.rep (α := Arr 4 Int) Hn1_7 [.int .i64 0, .int .i64 0, .int .i64 0, .int .i64 0] [0, 0, 0, 0]), At 53 [] (Kp.mk w H noX) [(2, .int .i64 p2), (3, .pointer (some ⟨b0_0, 0, none⟩)), (8, .pointer (some ⟨b1_10, 0, none⟩)), (9, .pointer (some ⟨b1_11, 0, none⟩)), (20, .tuple #[.agg cb1_5.toArray, .agg cs1_5.toArray, .int .i64 x1_5.2.2])] Hn1_7 ([.blk M1_5 (Memo x1_5.1), .box b1_10 [.slice none 0 0, .slice none 0 0, .map none] 110, .box b1_11 [.int .i64 0, .int .i64 0, .int .i64 0, .int .i64 0] 111]) (U1 (Sw Hn1_7 []) 7 (bits 15 3135)) := by
      intro Hn1_7 ln1_7 b1_10 b1_11 cb1_5 M1_5 cs1_5 hb1_5 hc1_5 mz1_11
      refine d_fwd hU1 ?_
      have hb0_0 := PAt.mono ln1_7 hb0_0
      have hg := Glob.mono ln1_7 hg
      refine dt 6 3199 rfl trivial (y_move rfl) (sw0 []) ?_
      refine dt 7 3327 rfl trivial (y_extract rfl rfl) (sw0 []) ?_
      refine dt 8 3583 rfl trivial (y_extract rfl rfl) (sw0 []) ?_
      refine dt 9 4095 rfl trivial (y_extract rfl rfl) (sw0 []) ?_
      refine d1 12 rfl (e_storeWhole (i := 1) (ds := cb1_5) trivial ty110 rfl rfl rfl rfl (Rp.len hb1_5) ((Rp.one hb1_5)) rfl ?_)
      refine dn 8191 (sw0 []) ?_
      exact d_edge hU1 (N1_1 Hn1_7 ln1_7 b1_10 b1_11 cs1_5 M1_5 cb1_5 hc1_5 hb1_5 mz1_11) ⟨rfl, rfl, rfl, rfl, rfl, rfl, trivial⟩ [0, 1, 2] (by decide) rfl (fun _ h => h)
    have N1_6 : ∀ (Hn1_13 : Hp) (ln1_13 : HLe Hb0_0 Hn1_13) (b1_10 : Nat) (cb1_5 : List Value) (M1_5 : Nat) (cs1_5 : List Value) (hb1_5 : Rp.rep (α := Bk (some M1_5)) Hn1_13 cb1_5 x1_5.1) (hc1_5 : Rp.rep (α := Arr 4 Int) Hn1_13 cs1_5 x1_5.2.1), At 53 [] (Kp.mk w H noX) [(2, .int .i64 p2), (3, .pointer (some ⟨b0_0, 0, none⟩)), (8, .pointer (some ⟨b1_10, 0, none⟩)), (20, .tuple #[.agg cb1_5.toArray, .agg cs1_5.toArray, .int .i64 x1_5.2.2])] Hn1_13 ([.blk M1_5 (Memo x1_5.1), .box b1_10 [.slice none 0 0, .slice none 0 0, .map none] 110]) (U1 (Sw Hn1_13 []) 8 (bits 15 1087)) := by
      intro Hn1_13 ln1_13 b1_10 cb1_5 M1_5 cs1_5 hb1_5 hc1_5
      refine d_fwd hU1 ?_
      have hb0_0 := PAt.mono ln1_13 hb0_0
      have hg := Glob.mono ln1_13 hg
      refine dt 6 1151 rfl trivial (y_move rfl) (sw0 []) ?_
      refine dt 7 1279 rfl trivial (y_extract rfl rfl) (sw0 []) ?_
      refine dt 8 1535 rfl trivial (y_extract rfl rfl) (sw0 []) ?_
      refine dt 9 2047 rfl trivial (y_extract rfl rfl) (sw0 []) ?_
      refine d1 11 rfl (e_alloc (cs := [.int .i64 0, .int .i64 0, .int .i64 0, .int .i64 0]) trivial rfl ty111 rfl ?_)
      intro b1_11
      have mz1_11 : Rp.rep (α := Arr 4 Int) Hn1_13 [.int .i64 0, .int .i64 0, .int .i64 0, .int .i64 0] [0, 0, 0, 0] := ⟨(RepL.cons (c := [_]) rfl (RepL.cons (c := [_]) rfl (RepL.cons (c := [_]) rfl (RepL.cons (c := [_]) rfl RepL.nil)))), rfl⟩
      refine dn 4095 (sw0 []) ?_
      exact d_edge hU1 (N1_2 Hn1_13 ln1_13 b1_10 b1_11 cb1_5 M1_5 cs1_5 hb1_5 hc1_5 mz1_11) ⟨rfl, rfl, rfl, rfl, rfl, rfl, rfl, trivial⟩ [1, 2, 0] (by decide) rfl (fun _ h => h)
    have N1_7 : ∀ (Hn1_10 : Hp) (ln1_10 : HLe Hb0_0 Hn1_10) (b1_11 : Nat) (cb1_5 : List Value) (M1_5 : Nat) (cs1_5 : List Value) (hb1_5 : Rp.rep (α := Bk (some M1_5)) Hn1_10 cb1_5 x1_5.1) (hc1_5 : Rp.rep (α := Arr 4 Int) Hn1_10 cs1_5 x1_5.2.1) (mz1_11 : Rp.rep (α := Arr 4 Int) Hn1_10 [.int .i64 0, .int .i64 0, .int .i64 0, .int .i64 0] [0, 0, 0, 0]), At 53 [] (Kp.mk w H noX) [(2, .int .i64 p2), (3, .pointer (some ⟨b0_0, 0, none⟩)), (9, .pointer (some ⟨b1_11, 0, none⟩)), (20, .tuple #[.agg cb1_5.toArray, .agg cs1_5.toArray, .int .i64 x1_5.2.2])] Hn1_10 ([.blk M1_5 (Memo x1_5.1), .box b1_11 [.int .i64 0, .int .i64 0, .int .i64 0, .int .i64 0] 111]) (U1 (Sw Hn1_10 []) 8 (bits 15 2111)) := by
      intro Hn1_10 ln1_10 b1_11 cb1_5 M1_5 cs1_5 hb1_5 hc1_5 mz1_11
      refine d_fwd hU1 ?_
      have hb0_0 := PAt.mono ln1_10 hb0_0
      have hg := Glob.mono ln1_10 hg
      refine dt 6 2175 rfl trivial (y_move rfl) (sw0 []) ?_
      refine dt 7 2303 rfl trivial (y_extract rfl rfl) (sw0 []) ?_
      refine dt 8 2559 rfl trivial (y_extract rfl rfl) (sw0 []) ?_
      refine dt 9 3071 rfl trivial (y_extract rfl rfl) (sw0 []) ?_
      refine d1 10 rfl (e_alloc (cs := [.slice none 0 0, .slice none 0 0, .map none]) trivial rfl ty110 rfl ?_)
      intro b1_10
      refine dn 4095 (sw0 []) ?_
      exact d_edge hU1 (N1_2 Hn1_10 ln1_10 b1_10 b1_11 cb1_5 M1_5 cs1_5 hb1_5 hc1_5 mz1_11) ⟨rfl, rfl, rfl, rfl, rfl, rfl, rfl, trivial⟩ [1, 0, 2] (by decide) rfl (fun _ h => h)
    have N1_8 : ∀ (Hn1_6 : Hp) (ln1_6 : HLe Hb0_0 Hn1_6) (b1_10 : Nat) (b1_11 : Nat) (u1_0 : List Value) (h1_0 : Rp.rep (α := TunnelBook) Hn1_6 u1_0 p0) (mz1_11 : Rp.rep (α := Arr 4 Int) Hn1_6 [.int .i64 0, .int .i64 0, .int .i64 0, .int .i64 0] [0, 0, 0, 0]), At 53 [] (Kp.mk w H noX) [(2, .int .i64 p2), (3, .pointer (some ⟨b0_0, 0, none⟩)), (8, .pointer (some ⟨b1_10, 0, none⟩)), (9, .pointer (some ⟨b1_11, 0, none⟩)), (15, .agg u1_0.toArray), (16, v1), (19, .bool x1_4)] Hn1_6 ([.box b1_10 [.slice none 0 0, .slice none 0 0, .map none] 110, .box b1_11 [.int .i64 0, .int .i64 0, .int .i64 0, .int .i64 0] 111]) (U1 (Sw Hn1_6 []) 8 (bits 15 3103)) := by
      intro Hn1_6 ln1_6 b1_10 b1_11 u1_0 h1_0 mz1_11
      refine d_fwd hU1 ?_
      have hb0_0 := PAt.mono ln1_6 hb0_0
      have h1 := Sl.mono ln1_6 h1
      have hg := Glob.mono ln1_6 hg
      refine d1 5 rfl (e_callO (all := [.agg u1_0.toArray, v1, .bool x1_4]) trivial rfl Tryd.func80 rfl rfl rfl rfl rfl (fun w hw => ok_80 hw h1_0 h1 q1_5) ?_)
      rintro _ H1_5 _ l1_5 ⟨cb1_5, cs1_5, mm1_5, rfl, hb1_5, hc1_5, hd1_5⟩
      rcases hd1_5 with ⟨rfl, he1_5, rfl⟩ | ⟨M1_5, rfl, he1_5, rfl⟩
      · exact absurd k1_5 (by simp [he1_5])
      have hb0_0 := PAt.mono l1_5 hb0_0
      have h1_0 := Rp.mono l1_5 h1_0
      have h1 := Sl.mono l1_5 h1
      have mz1_11 := Rp.mono l1_5 mz1_11
      have hg := Glob.mono l1_5 hg
      refine dn 3135 (swl l1_5 []) ?_
      exact d_edge hU1 (N1_5 H1_5 (ln1_6.trans l1_5) b1_10 b1_11 cb1_5 M1_5 cs1_5 hb1_5 hc1_5 mz1_11) ⟨rfl, rfl, rfl, rfl, rfl, trivial⟩ [0, 1, 2] (by decide) rfl (sw_sw l1_5 [] rfl)
    have N1_9 : ∀ (Hn1_14 : Hp) (ln1_14 : HLe Hb0_0 Hn1_14) (cb1_5 : List Value) (M1_5 : Nat) (cs1_5 : List Value) (hb1_5 : Rp.rep (α := Bk (some M1_5)) Hn1_14 cb1_5 x1_5.1) (hc1_5 : Rp.rep (α := Arr 4 Int) Hn1_14 cs1_5 x1_5.2.1), At 53 [] (Kp.mk w H noX) [(2, .int .i64 p2), (3, .pointer (some ⟨b0_0, 0, none⟩)), (20, .tuple #[.agg cb1_5.toArray, .agg cs1_5.toArray, .int .i64 x1_5.2.2])] Hn1_14 [.blk M1_5 (Memo x1_5.1)] (U1 (Sw Hn1_14 []) 9 (bits 15 63)) := by
      intro Hn1_14 ln1_14 cb1_5 M1_5 cs1_5 hb1_5 hc1_5
      refine d_fwd hU1 ?_
      have hb0_0 := PAt.mono ln1_14 hb0_0
      have hg := Glob.mono ln1_14 hg
      refine dt 6 127 rfl trivial (y_move rfl) (sw0 []) ?_
      refine dt 7 255 rfl trivial (y_extract rfl rfl) (sw0 []) ?_
      refine dt 8 511 rfl trivial (y_extract rfl rfl) (sw0 []) ?_
      refine dt 9 1023 rfl trivial (y_extract rfl rfl) (sw0 []) ?_
      refine d_all (rs := [10, 11]) (by kernel_rfl) rfl ⟨⟨_, rfl, ?_⟩, ⟨_, rfl, ?_⟩, trivial⟩
      · refine e_alloc (cs := [.slice none 0 0, .slice none 0 0, .map none]) trivial rfl ty110 rfl ?_
        intro b1_10
        refine dn 2047 (sw0 []) ?_
        exact d_edge hU1 (N1_3 Hn1_14 ln1_14 b1_10 cb1_5 M1_5 cs1_5 hb1_5 hc1_5) ⟨rfl, rfl, rfl, rfl, rfl, rfl, trivial⟩ [1, 0] (by decide) rfl (fun _ h => h)
      · refine e_alloc (cs := [.int .i64 0, .int .i64 0, .int .i64 0, .int .i64 0]) trivial rfl ty111 rfl ?_
        intro b1_11
        have mz1_11 : Rp.rep (α := Arr 4 Int) Hn1_14 [.int .i64 0, .int .i64 0, .int .i64 0, .int .i64 0] [0, 0, 0, 0] := ⟨(RepL.cons (c := [_]) rfl (RepL.cons (c := [_]) rfl (RepL.cons (c := [_]) rfl (RepL.cons (c := [_]) rfl RepL.nil)))), rfl⟩
        refine dn 3071 (sw0 []) ?_
        exact d_edge hU1 (N1_4 Hn1_14 ln1_14 b1_11 cb1_5 M1_5 cs1_5 hb1_5 hc1_5 mz1_11) ⟨rfl, rfl, rfl, rfl, rfl, rfl, trivial⟩ [1, 0] (by decide) rfl (fun _ h => h)
    have N1_10 : ∀ (Hn1_12 : Hp) (ln1_12 : HLe Hb0_0 Hn1_12) (b1_10 : Nat) (u1_0 : List Value) (h1_0 : Rp.rep (α := TunnelBook) Hn1_12 u1_0 p0), At 53 [] (Kp.mk w H noX) [(2, .int .i64 p2), (3, .pointer (some ⟨b0_0, 0, none⟩)), (8, .pointer (some ⟨b1_10, 0, none⟩)), (15, .agg u1_0.toArray), (16, v1), (19, .bool x1_4)] Hn1_12 ([.box b1_10 [.slice none 0 0, .slice none 0 0, .map none] 110]) (U1 (Sw Hn1_12 []) 9 (bits 15 1055)) := by
      intro Hn1_12 ln1_12 b1_10 u1_0 h1_0
      refine d_fwd hU1 ?_
      have hb0_0 := PAt.mono ln1_12 hb0_0
      have h1 := Sl.mono ln1_12 h1
      have hg := Glob.mono ln1_12 hg
      refine d_all (rs := [5, 11]) (by kernel_rfl) rfl ⟨⟨_, rfl, ?_⟩, ⟨_, rfl, ?_⟩, trivial⟩
      · refine e_callO (all := [.agg u1_0.toArray, v1, .bool x1_4]) trivial rfl Tryd.func80 rfl rfl rfl rfl rfl (fun w hw => ok_80 hw h1_0 h1 q1_5) ?_
        rintro _ H1_5 _ l1_5 ⟨cb1_5, cs1_5, mm1_5, rfl, hb1_5, hc1_5, hd1_5⟩
        rcases hd1_5 with ⟨rfl, he1_5, rfl⟩ | ⟨M1_5, rfl, he1_5, rfl⟩
        · exact absurd k1_5 (by simp [he1_5])
        have hb0_0 := PAt.mono l1_5 hb0_0
        have h1_0 := Rp.mono l1_5 h1_0
        have h1 := Sl.mono l1_5 h1
        have hg := Glob.mono l1_5 hg
        refine dn 1087 (swl l1_5 []) ?_
        exact d_edge hU1 (N1_6 H1_5 (ln1_12.trans l1_5) b1_10 cb1_5 M1_5 cs1_5 hb1_5 hc1_5) ⟨rfl, rfl, rfl, rfl, trivial⟩ [0, 1] (by decide) rfl (sw_sw l1_5 [] rfl)
      · refine e_alloc (cs := [.int .i64 0, .int .i64 0, .int .i64 0, .int .i64 0]) trivial rfl ty111 rfl ?_
        intro b1_11
        have mz1_11 : Rp.rep (α := Arr 4 Int) Hn1_12 [.int .i64 0, .int .i64 0, .int .i64 0, .int .i64 0] [0, 0, 0, 0] := ⟨(RepL.cons (c := [_]) rfl (RepL.cons (c := [_]) rfl (RepL.cons (c := [_]) rfl (RepL.cons (c := [_]) rfl RepL.nil)))), rfl⟩
        refine dn 3103 (sw0 []) ?_
        exact d_edge hU1 (N1_8 Hn1_12 ln1_12 b1_10 b1_11 u1_0 h1_0 mz1_11) ⟨rfl, rfl, rfl, rfl, rfl, rfl, rfl, trivial⟩ [1, 0] (by decide) rfl (fun _ h => h)
    have N1_11 : ∀ (Hn1_4 : Hp) (ln1_4 : HLe Hb0_0 Hn1_4) (b1_11 : Nat) (u1_0 : List Value) (h1_0 : Rp.rep (α := TunnelBook) Hn1_4 u1_0 p0) (mz1_11 : Rp.rep (α := Arr 4 Int) Hn1_4 [.int .i64 0, .int .i64 0, .int .i64 0, .int .i64 0] [0, 0, 0, 0]), At 53 [] (Kp.mk w H noX) [(2, .int .i64 p2), (3, .pointer (some ⟨b0_0, 0, none⟩)), (9, .pointer (some ⟨b1_11, 0, none⟩)), (15, .agg u1_0.toArray), (16, v1), (19, .bool x1_4)] Hn1_4 ([.box b1_11 [.int .i64 0, .int .i64 0, .int .i64 0, .int .i64 0] 111]) (U1 (Sw Hn1_4 []) 9 (bits 15 2079)) := by
      intro Hn1_4 ln1_4 b1_11 u1_0 h1_0 mz1_11
      refine d_fwd hU1 ?_
      have hb0_0 := PAt.mono ln1_4 hb0_0
      have h1 := Sl.mono ln1_4 h1
      have hg := Glob.mono ln1_4 hg
      refine d_all (rs := [5, 10]) (by kernel_rfl) rfl ⟨⟨_, rfl, ?_⟩, ⟨_, rfl, ?_⟩, trivial⟩
      · refine e_callO (all := [.agg u1_0.toArray, v1, .bool x1_4]) trivial rfl Tryd.func80 rfl rfl rfl rfl rfl (fun w hw => ok_80 hw h1_0 h1 q1_5) ?_
        rintro _ H1_5 _ l1_5 ⟨cb1_5, cs1_5, mm1_5, rfl, hb1_5, hc1_5, hd1_5⟩
        rcases hd1_5 with ⟨rfl, he1_5, rfl⟩ | ⟨M1_5, rfl, he1_5, rfl⟩
        · exact absurd k1_5 (by simp [he1_5])
        have hb0_0 := PAt.mono l1_5 hb0_0
        have h1_0 := Rp.mono l1_5 h1_0
        have h1 := Sl.mono l1_5 h1
        have mz1_11 := Rp.mono l1_5 mz1_11
        have hg := Glob.mono l1_5 hg
        refine dn 2111 (swl l1_5 []) ?_
        exact d_edge hU1 (N1_7 H1_5 (ln1_4.trans l1_5) b1_11 cb1_5 M1_5 cs1_5 hb1_5 hc1_5 mz1_11) ⟨rfl, rfl, rfl, rfl, trivial⟩ [0, 1] (by decide) rfl (sw_sw l1_5 [] rfl)
      · refine e_alloc (cs := [.slice none 0 0, .slice none 0 0, .map none]) trivial rfl ty110 rfl ?_
        intro b1_10
        refine dn 3103 (sw0 []) ?_
        exact d_edge hU1 (N1_8 Hn1_4 ln1_4 b1_10 b1_11 u1_0 h1_0 mz1_11) ⟨rfl, rfl, rfl, rfl, rfl, rfl, rfl, trivial⟩ [0, 1] (by decide) rfl (fun _ h => h)
    have N1_12 : ∀ (Hn1_5 : Hp) (ln1_5 : HLe Hb0_0 Hn1_5) (b1_10 : Nat) (b1_11 : Nat) (u1_0 : List Value) (u1_2 : List Value) (h1_0 : Rp.rep (α := TunnelBook) Hn1_5 u1_0 p0) (h1_2 : Rp.rep (α := TunnelBook) Hn1_5 u1_2 p0) (mz1_11 : Rp.rep (α := Arr 4 Int) Hn1_5 [.int .i64 0, .int .i64 0, .int .i64 0, .int .i64 0] [0, 0, 0, 0]), At 53 [] (Kp.mk w H noX) [(2, .int .i64 p2), (3, .pointer (some ⟨b0_0, 0, none⟩)), (8, .pointer (some ⟨b1_10, 0, none⟩)), (9, .pointer (some ⟨b1_11, 0, none⟩)), (15, .agg u1_0.toArray), (16, v1), (17, .agg u1_2.toArray), (18, .int .i64 p2)] Hn1_5 ([.box b1_10 [.slice none 0 0, .slice none 0 0, .map none] 110, .box b1_11 [.int .i64 0, .int .i64 0, .int .i64 0, .int .i64 0] 111]) (U1 (Sw Hn1_5 []) 9 (bits 15 3087)) := by
      intro Hn1_5 ln1_5 b1_10 b1_11 u1_0 u1_2 h1_0 h1_2 mz1_11
      refine d_fwd hU1 ?_
      have hb0_0 := PAt.mono ln1_5 hb0_0
      have h1 := Sl.mono ln1_5 h1
      have hg := Glob.mono ln1_5 hg
      refine d1 4 rfl (e_callV (all := [.agg u1_2.toArray, .int .i64 p2]) (v := .bool x1_4) trivial rfl Tryd.func88 rfl rfl rfl rfl rfl (fun w hw => ok_88 hw h1_2 q1_4) ?_)
      refine dn 3103 (sw0 []) ?_
      exact d_edge hU1 (N1_8 Hn1_5 ln1_5 b1_10 b1_11 u1_0 h1_0 mz1_11) ⟨rfl, rfl, rfl, rfl, rfl, rfl, rfl, trivial⟩ [0, 1] (by decide) rfl (fun _ h => h)
    have N1_13 : ∀ (Hn1_1 : Hp) (ln1_1 : HLe Hb0_0 Hn1_1) (u1_0 : List Value) (h1_0 : Rp.rep (α := TunnelBook) Hn1_1 u1_0 p0), At 53 [] (Kp.mk w H noX) [(2, .int .i64 p2), (3, .pointer (some ⟨b0_0, 0, none⟩)), (15, .agg u1_0.toArray), (16, v1), (19, .bool x1_4)] Hn1_1 [] (U1 (Sw Hn1_1 []) 10 (bits 15 31)) := by
      intro Hn1_1 ln1_1 u1_0 h1_0
      refine d_fwd hU1 ?_
      have hb0_0 := PAt.mono ln1_1 hb0_0
      have h1 := Sl.mono ln1_1 h1
      have hg := Glob.mono ln1_1 hg
      refine d_all (rs := [5, 10, 11]) (by kernel_rfl) rfl ⟨⟨_, rfl, ?_⟩, ⟨_, rfl, ?_⟩, ⟨_, rfl, ?_⟩, trivial⟩
      · refine e_callO (all := [.agg u1_0.toArray, v1, .bool x1_4]) trivial rfl Tryd.func80 rfl rfl rfl rfl rfl (fun w hw => ok_80 hw h1_0 h1 q1_5) ?_
        rintro _ H1_5 _ l1_5 ⟨cb1_5, cs1_5, mm1_5, rfl, hb1_5, hc1_5, hd1_5⟩
        rcases hd1_5 with ⟨rfl, he1_5, rfl⟩ | ⟨M1_5, rfl, he1_5, rfl⟩
        · exact absurd k1_5 (by simp [he1_5])
        have hb0_0 := PAt.mono l1_5 hb0_0
        have h1_0 := Rp.mono l1_5 h1_0
        have h1 := Sl.mono l1_5 h1
        have hg := Glob.mono l1_5 hg
        refine dn 63 (swl l1_5 []) ?_
        exact d_edge hU1 (N1_9 H1_5 (ln1_1.trans l1_5) cb1_5 M1_5 cs1_5 hb1_5 hc1_5) ⟨rfl, rfl, rfl, trivial⟩ [0] (by decide) rfl (sw_sw l1_5 [] rfl)
      · refine e_alloc (cs := [.slice none 0 0, .slice none 0 0, .map none]) trivial rfl ty110 rfl ?_
        intro b1_10
        refine dn 1055 (sw0 []) ?_
        exact d_edge hU1 (N1_10 Hn1_1 ln1_1 b1_10 u1_0 h1_0) ⟨rfl, rfl, rfl, rfl, rfl, rfl, trivial⟩ [0] (by decide) rfl (fun _ h => h)
      · refine e_alloc (cs := [.int .i64 0, .int .i64 0, .int .i64 0, .int .i64 0]) trivial rfl ty111 rfl ?_
        intro b1_11
        have mz1_11 : Rp.rep (α := Arr 4 Int) Hn1_1 [.int .i64 0, .int .i64 0, .int .i64 0, .int .i64 0] [0, 0, 0, 0] := ⟨(RepL.cons (c := [_]) rfl (RepL.cons (c := [_]) rfl (RepL.cons (c := [_]) rfl (RepL.cons (c := [_]) rfl RepL.nil)))), rfl⟩
        refine dn 2079 (sw0 []) ?_
        exact d_edge hU1 (N1_11 Hn1_1 ln1_1 b1_11 u1_0 h1_0 mz1_11) ⟨rfl, rfl, rfl, rfl, rfl, rfl, trivial⟩ [0] (by decide) rfl (fun _ h => h)
    have N1_14 : ∀ (Hn1_2 : Hp) (ln1_2 : HLe Hb0_0 Hn1_2) (b1_10 : Nat) (u1_0 : List Value) (u1_2 : List Value) (h1_0 : Rp.rep (α := TunnelBook) Hn1_2 u1_0 p0) (h1_2 : Rp.rep (α := TunnelBook) Hn1_2 u1_2 p0), At 53 [] (Kp.mk w H noX) [(2, .int .i64 p2), (3, .pointer (some ⟨b0_0, 0, none⟩)), (8, .pointer (some ⟨b1_10, 0, none⟩)), (15, .agg u1_0.toArray), (16, v1), (17, .agg u1_2.toArray), (18, .int .i64 p2)] Hn1_2 ([.box b1_10 [.slice none 0 0, .slice none 0 0, .map none] 110]) (U1 (Sw Hn1_2 []) 10 (bits 15 1039)) := by
      intro Hn1_2 ln1_2 b1_10 u1_0 u1_2 h1_0 h1_2
      refine d_fwd hU1 ?_
      have hb0_0 := PAt.mono ln1_2 hb0_0
      have h1 := Sl.mono ln1_2 h1
      have hg := Glob.mono ln1_2 hg
      refine d_all (rs := [4, 11]) (by kernel_rfl) rfl ⟨⟨_, rfl, ?_⟩, ⟨_, rfl, ?_⟩, trivial⟩
      · refine e_callV (all := [.agg u1_2.toArray, .int .i64 p2]) (v := .bool x1_4) trivial rfl Tryd.func88 rfl rfl rfl rfl rfl (fun w hw => ok_88 hw h1_2 q1_4) ?_
        refine dn 1055 (sw0 []) ?_
        exact d_edge hU1 (N1_10 Hn1_2 ln1_2 b1_10 u1_0 h1_0) ⟨rfl, rfl, rfl, rfl, rfl, rfl, trivial⟩ [0] (by decide) rfl (fun _ h => h)
      · refine e_alloc (cs := [.int .i64 0, .int .i64 0, .int .i64 0, .int .i64 0]) trivial rfl ty111 rfl ?_
        intro b1_11
        have mz1_11 : Rp.rep (α := Arr 4 Int) Hn1_2 [.int .i64 0, .int .i64 0, .int .i64 0, .int .i64 0] [0, 0, 0, 0] := ⟨(RepL.cons (c := [_]) rfl (RepL.cons (c := [_]) rfl (RepL.cons (c := [_]) rfl (RepL.cons (c := [_]) rfl RepL.nil)))), rfl⟩
        refine dn 3087 (sw0 []) ?_
        exact d_edge hU1 (N1_12 Hn1_2 ln1_2 b1_10 b1_11 u1_0 u1_2 h1_0 h1_2 mz1_11) ⟨rfl, rfl, rfl, rfl, rfl, rfl, rfl, rfl, trivial⟩ [1, 0] (by decide) rfl (fun _ h => h)
    have N1_15 : ∀ (Hn1_3 : Hp) (ln1_3 : HLe Hb0_0 Hn1_3) (b1_11 : Nat) (u1_0 : List Value) (u1_2 : List Value) (h1_0 : Rp.rep (α := TunnelBook) Hn1_3 u1_0 p0) (h1_2 : Rp.rep (α := TunnelBook) Hn1_3 u1_2 p0) (mz1_11 : Rp.rep (α := Arr 4 Int) Hn1_3 [.int .i64 0, .int .i64 0, .int .i64 0, .int .i64 0] [0, 0, 0, 0]), At 53 [] (Kp.mk w H noX) [(2, .int .i64 p2), (3, .pointer (some ⟨b0_0, 0, none⟩)), (9, .pointer (some ⟨b1_11, 0, none⟩)), (15, .agg u1_0.toArray), (16, v1), (17, .agg u1_2.toArray), (18, .int .i64 p2)] Hn1_3 ([.box b1_11 [.int .i64 0, .int .i64 0, .int .i64 0, .int .i64 0] 111]) (U1 (Sw Hn1_3 []) 10 (bits 15 2063)) := by
      intro Hn1_3 ln1_3 b1_11 u1_0 u1_2 h1_0 h1_2 mz1_11
      refine d_fwd hU1 ?_
      have hb0_0 := PAt.mono ln1_3 hb0_0
      have h1 := Sl.mono ln1_3 h1
      have hg := Glob.mono ln1_3 hg
      refine d_all (rs := [4, 10]) (by kernel_rfl) rfl ⟨⟨_, rfl, ?_⟩, ⟨_, rfl, ?_⟩, trivial⟩
      · refine e_callV (all := [.agg u1_2.toArray, .int .i64 p2]) (v := .bool x1_4) trivial rfl Tryd.func88 rfl rfl rfl rfl rfl (fun w hw => ok_88 hw h1_2 q1_4) ?_
        refine dn 2079 (sw0 []) ?_
        exact d_edge hU1 (N1_11 Hn1_3 ln1_3 b1_11 u1_0 h1_0 mz1_11) ⟨rfl, rfl, rfl, rfl, rfl, rfl, trivial⟩ [0] (by decide) rfl (fun _ h => h)
      · refine e_alloc (cs := [.slice none 0 0, .slice none 0 0, .map none]) trivial rfl ty110 rfl ?_
        intro b1_10
        refine dn 3087 (sw0 []) ?_
        exact d_edge hU1 (N1_12 Hn1_3 ln1_3 b1_10 b1_11 u1_0 u1_2 h1_0 h1_2 mz1_11) ⟨rfl, rfl, rfl, rfl, rfl, rfl, rfl, rfl, trivial⟩ [0, 1] (by decide) rfl (fun _ h => h)
    refine d_fwd hU1 ?_
    obtain ⟨u1_0, h1_0, c1_0⟩ := PAt.one hb0_0
    refine dt 0 1 rfl trivial (y_load_cells ty25 rfl (fun _ h => h.1) rfl c1_0 (Rp.len h1_0)) (sw0 []) ?_
    refine dt 1 3 rfl trivial (y_move rfl) (sw0 []) ?_
    obtain ⟨u1_2, h1_2, c1_2⟩ := PAt.one hb0_0
    refine dt 2 7 rfl trivial (y_load_cells ty25 rfl (fun _ h => h.1) rfl c1_2 (Rp.len h1_2)) (sw0 []) ?_
    refine dt 3 15 rfl trivial (y_move rfl) (sw0 []) ?_
    refine d_all (rs := [4, 10, 11]) (by kernel_rfl) rfl ⟨⟨_, rfl, ?_⟩, ⟨_, rfl, ?_⟩, ⟨_, rfl, ?_⟩, trivial⟩
    · refine e_callV (all := [.agg u1_2.toArray, .int .i64 p2]) (v := .bool x1_4) trivial rfl Tryd.func88 rfl rfl rfl rfl rfl (fun w hw => ok_88 hw h1_2 q1_4) ?_
      refine dn 31 (sw0 []) ?_
      exact d_edge hU1 (N1_13 Hb0_0 (HLe.refl _) u1_0 h1_0) ⟨rfl, rfl, rfl, rfl, rfl, trivial⟩ [] (by decide) rfl (fun _ h => h)
    · refine e_alloc (cs := [.slice none 0 0, .slice none 0 0, .map none]) trivial rfl ty110 rfl ?_
      intro b1_10
      refine dn 1039 (sw0 []) ?_
      exact d_edge hU1 (N1_14 Hb0_0 (HLe.refl _) b1_10 u1_0 u1_2 h1_0 h1_2) ⟨rfl, rfl, rfl, rfl, rfl, rfl, rfl, trivial⟩ [0] (by decide) rfl (fun _ h => h)
    · refine e_alloc (cs := [.int .i64 0, .int .i64 0, .int .i64 0, .int .i64 0]) trivial rfl ty111 rfl ?_
      intro b1_11
      have mz1_11 : Rp.rep (α := Arr 4 Int) Hb0_0 [.int .i64 0, .int .i64 0, .int .i64 0, .int .i64 0] [0, 0, 0, 0] := ⟨(RepL.cons (c := [_]) rfl (RepL.cons (c := [_]) rfl (RepL.cons (c := [_]) rfl (RepL.cons (c := [_]) rfl RepL.nil)))), rfl⟩
      refine dn 2063 (sw0 []) ?_
      exact d_edge hU1 (N1_15 Hb0_0 (HLe.refl _) b1_11 u1_0 u1_2 h1_0 h1_2 mz1_11) ⟨rfl, rfl, rfl, rfl, rfl, rfl, rfl, trivial⟩ [0] (by decide) rfl (fun _ h => h)

def law03_small (k : Nat) : Option TunnelBook :=
 (law03_part k 0 1 2 3 0 0).bind fun x1_0 =>
 (law03_part k 0 1 2 3 0 1).bind fun x1_1 =>
 (law03_frame k 1 10 10 10).bind fun x1_3 =>
 some ((⟨[x1_0, x1_1], [x1_3]⟩ : TunnelBook))
theorem ok_94 {k : Nat} {H : Hp} {w : World} {r : TunnelBook} (hsub : Sub H w)  (hm : law03_small k = some r) : Calls Tryd.prog 94 [].toArray w (PostH w H fun v H' => ∃ c0, v = .agg c0.toArray ∧ Rp.rep (α := TunnelBook) H' c0 r) := by
  unfold law03_small at hm
  refine start (n := 7) (E := []) Tryd.func94 rfl rfl trivial rfl hsub ?_
  refine a_seq ?_
  refine a_region rfl ?_
  refine a_cons (e_alloc (cs := [.slice none 0 0, .slice none 0 0]) trivial rfl ty25 rfl ?_)
  intro b0_0
  refine a_nil ?_
  refine a_then ?_
  refine a_seq ?_
  refine a_region rfl ?_
  obtain ⟨x1_0, q1_0, hm⟩ := bind_some hm
  refine a_cons (e_callH (all := [.int .i64 0, .int .i64 1, .int .i64 2, .int .i64 3, .int .i64 0, .int .i64 0]) trivial rfl Tryd.func138 rfl rfl rfl rfl rfl (fun w hw => ok_138 hw q1_0) ?_)
  rintro _ H1_0 l1_0 ⟨c1_0r0, rfl, h1_0r0⟩
  obtain ⟨x1_1, q1_1, hm⟩ := bind_some hm
  refine a_cons (e_callH (all := [.int .i64 0, .int .i64 1, .int .i64 2, .int .i64 3, .int .i64 0, .int .i64 1]) trivial rfl Tryd.func138 rfl rfl rfl rfl rfl (fun w hw => ok_138 hw q1_1) ?_)
  rintro _ H1_1 l1_1 ⟨c1_1r0, rfl, h1_1r0⟩
  have h1_0r0 := Rp.mono l1_1 h1_0r0
  refine a_cons (e_buildSlice (xs := [.tmp 1, .tmp 2]) (cs := c1_0r0 ++ (c1_1r0 ++ ([]))) trivial rfl Tryd.underlying22 ty64 rfl rfl rfl (by simp [Value.cells, Rp.len h1_0r0, Rp.len h1_1r0, Rp.sz]) rfl (rfl) ?_)
  intro v1_2
  have h1_2 : RepL (α := TunnelPart) H1_1 (c1_0r0 ++ (c1_1r0 ++ ([]))) [x1_0, x1_1] := (RepL.cons (α := TunnelPart) (c := c1_0r0) h1_0r0 (RepL.cons (α := TunnelPart) (c := c1_1r0) h1_1r0 (RepL.nil (α := TunnelPart))))
  obtain ⟨x1_3, q1_3, hm⟩ := bind_some hm
  refine a_cons (e_callH (all := [.int .i64 1, .int .i64 10, .int .i64 10, .int .i64 10]) trivial rfl Tryd.func139 rfl rfl rfl rfl rfl (fun w hw => ok_139 hw q1_3) ?_)
  rintro _ H1_3 l1_3 ⟨c1_3r0, rfl, h1_3r0⟩
  have h1_0r0 := Rp.mono l1_3 h1_0r0
  have h1_1r0 := Rp.mono l1_3 h1_1r0
  have h1_2 := RepL.mono l1_3 h1_2
  refine a_cons (e_buildSlice (xs := [.tmp 4]) (cs := c1_3r0 ++ ([])) trivial rfl Tryd.underlying23 ty55 rfl rfl rfl (by simp [Value.cells, Rp.len h1_3r0, Rp.sz]) rfl (rfl) ?_)
  intro v1_4
  have h1_4 : RepL (α := TunnelFrame) H1_3 (c1_3r0 ++ ([])) [x1_3] := (RepL.cons (α := TunnelFrame) (c := c1_3r0) h1_3r0 (RepL.nil (α := TunnelFrame)))
  refine a_frow (i := 1) rfl rfl h1_2 rfl ?_
  intro H1_5f0f l1_5f0f h1_5f0f
  have h1_0r0 := Rp.mono l1_5f0f h1_0r0
  have h1_1r0 := Rp.mono l1_5f0f h1_1r0
  have h1_3r0 := Rp.mono l1_5f0f h1_3r0
  have h1_4 := RepL.mono l1_5f0f h1_4
  refine a_frow (i := 0) rfl rfl h1_4 rfl ?_
  intro H1_5f1f l1_5f1f h1_5f1f
  have h1_0r0 := Rp.mono l1_5f1f h1_0r0
  have h1_1r0 := Rp.mono l1_5f1f h1_1r0
  have h1_5f0f := Sl.mono l1_5f1f h1_5f0f
  have h1_3r0 := Rp.mono l1_5f1f h1_3r0
  have m1_5 : Rp.rep H1_5f1f ([v1_2] ++ ([v1_4])) (⟨[x1_0, x1_1], [x1_3]⟩ : TunnelBook) := ⟨_, _, rfl, ⟨_, rfl, h1_5f0f⟩, ⟨_, rfl, h1_5f1f⟩⟩
  refine ap (y_build (pl := [(0, 1), (1, 1)]) (xs := [.tmp 3, .tmp 5]) (cs := [v1_2] ++ ([v1_4])) ty25 (.cons ⟨rfl, ty22.szOf⟩ (.cons ⟨rfl, ty23.szOf⟩ (All2.nil))) rfl rfl ⟨1, Sl.csize h1_5f0f, rfl, ⟨1, Sl.csize h1_5f1f, rfl, trivial⟩⟩ (by rw [Rp.len m1_5]; rfl) (by simp [Sl.cells1 h1_5f0f, Sl.cells1 h1_5f1f]; try simp [Value.cells])) ?_
  refine a_cons (e_storeWhole (i := 2) (ds := [v1_2] ++ ([v1_4])) trivial ty25 rfl rfl rfl rfl rfl ((Rp.one m1_5)) rfl ?_)
  refine a_nil ?_
  refine a_freeze (α := TunnelBook) (x := (⟨[x1_0, x1_1], [x1_3]⟩ : TunnelBook)) (i := 2) rfl m1_5 ?_
  intro Hb0_0 lb0_0 hb0_0
  have h1_0r0 := Rp.mono lb0_0 h1_0r0
  have h1_1r0 := Rp.mono lb0_0 h1_1r0
  have h1_5f0f := Sl.mono lb0_0 h1_5f0f
  have h1_3r0 := Rp.mono lb0_0 h1_3r0
  have h1_5f1f := Sl.mono lb0_0 h1_5f1f
  have m1_5 := Rp.mono lb0_0 m1_5
  refine a_en [(0, .pointer (some ⟨b0_0, 0, none⟩))] ?_
  refine a_own [] (by decide) (L' := []) rfl ?_
  refine a_then ?_
  refine a_ret ?_
  obtain ⟨ce0, re0, le0⟩ := PAt.one hb0_0
  refine a_done (v := .agg ce0.toArray) (.inl rfl) rfl ?_ ?_
  · intro a_ w_ ha_ hs_; exact run_results (P := Tryd.prog) (fn := Tryd.f94) (rs := [.cell 0 25]) (vs := [.agg ce0.toArray]) rfl (.cons (rv_cell ha_ rfl (run_loadVar_agg ty25 rfl (le0 _ hs_.sub) (Rp.len re0))) (All2.nil))
  · intro _ _; obtain rfl := Option.some.inj hm; exact ⟨ce0, rfl, re0⟩
end Go.Lu
