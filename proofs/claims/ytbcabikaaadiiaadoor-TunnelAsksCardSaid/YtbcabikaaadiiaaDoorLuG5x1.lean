/- Of each further function that the law TunnelAsks reaches, part 1: what it computes, and the walk that shows it. -/
import Derived.Test.YtbcabikaaadiiaaDoorLuW3
namespace Go.Lu
open Go Go.Proofs
set_option linter.unusedVariables false
set_option maxRecDepth 100000
set_option maxHeartbeats 8000000
def ref00_Fits (k : Nat) (p0 : Int) (p1 : Int) (p2 : Int) : Option Bool :=
 (bif decide (p1 ≤ p0) then
 some ((decide (p0 ≤ p2)))
 else
 some (false)).bind fun yj1_6 =>
 some (yj1_6)
theorem ok_50 {k : Nat} {H : Hp} {w : World} {p0 : Int} {p1 : Int} {p2 : Int} {r : Bool} (hsub : Sub H w)  (hm : ref00_Fits k p0 p1 p2 = some r) : Calls Tryd.prog 50 [.int .i64 p0, .int .i64 p1, .int .i64 p2].toArray w (PostV w H (.bool r)) := by
 unfold ref00_Fits at hm
 refine start (n := 15) (E := [(0, .int .i64 p0), (1, .int .i64 p1), (2, .int .i64 p2)]) Tryd.func50 rfl rfl ⟨rfl, rfl, rfl, trivial⟩ rfl hsub ?_
 refine a_seq (a_region rfl (ap (y_assign rfl) (a_nil (a_en [(0, .int .i64 p0), (1, .int .i64 p1), (2, .int .i64 p2)] ?_))))
 refine a_then (a_seq ?_)
 obtain ⟨s_j1, hs_j1, hm_j1⟩ := bind_some hm
 refine a_join (fun a_ w_ => ∃ (yj1_6 : Bool), yj1_6 = s_j1 ∧ Ag 15 [] [(6, .bool yj1_6)] a_ ∧ St (Kp.mk w H noX) H [] w_) ?_ ?_
 · have hm := hs_j1
   refine a_region rfl (ap (y_move rfl) (ap (y_move rfl) (ap (y_leq rfl rfl) (ap (y_move rfl) ?_))))
   rcases Bool.eq_false_or_eq_true (decide (p1 ≤ p0)) with k1_4 | k1_4
   · have hm := cond_t k1_4 hm
     refine ag ⟨_, _, rfl, rfl, k1_4⟩ (y_move rfl) ?_
     refine ag ⟨_, _, rfl, rfl, k1_4⟩ (y_move rfl) ?_
     refine ag ⟨_, _, rfl, rfl, k1_4⟩ (y_leq rfl rfl) ?_
     refine ap (y_pick_t rfl k1_4 rfl) (ap (y_assign rfl) (a_nil (a_en [(6, .bool (decide (p0 ≤ p2)))] ?_)))
     refine a_cut ?_
     intro a_ w_ ha_ hs_
     exact ⟨decide (p0 ≤ p2), Option.some.inj hm, ha_.weaken ⟨rfl, trivial⟩, hs_.reix [] (by decide)⟩
   have hm := cond_f k1_4 hm
   refine as1 (sk1 rfl rfl k1_4) ?_
   refine as1 (sk1 rfl rfl k1_4) ?_
   refine as1 (sk1 rfl rfl k1_4) ?_
   refine ap (y_pick_f rfl k1_4 rfl) (ap (y_assign rfl) (a_nil (a_en [(6, .bool false)] ?_)))
   refine a_cut ?_
   intro a_ w_ ha_ hs_
   exact ⟨false, Option.some.inj hm, ha_.weaken ⟨rfl, trivial⟩, hs_.reix [] (by decide)⟩
 have hm := hm_j1
 rintro a_ w_ ⟨yj1_6, rfl, ha_, hs_⟩
 try dsimp only at hm
 refine a_start ha_ hs_ (a_then (a_ret ?_))
 refine a_done (v := .bool yj1_6) (.inl rfl) rfl ?_ ?_
 · intro a_ w_ ha_ hs_; exact run_results (P := Tryd.prog) (fn := Tryd.f50) (rs := [.tmp 6]) (vs := [.bool yj1_6]) rfl (.cons (rv_tmp ha_ rfl) (All2.nil))
 · intro _ _; obtain rfl := Option.some.inj hm
   rfl

def ref03_isSet_lj3 (k : Nat) (p1 : List Int) : Nat → Int → Option (Sum Bool Unit)
 | 0, _ => none
 | n_j3 + 1, yj3_5 =>
 bif decide (yj3_5 < (p1.length : Int)) then
 (nth p1 yj3_5).bind fun x6_2 =>
 (ref00_Fits k x6_2 0 3).bind fun x6_4 =>
 bif !x6_4 then
 some (Sum.inl false)
 else
 ref03_isSet_lj3 k p1 n_j3 (IntKind.i64.wrap (yj3_5 + 1))
 else
 some (Sum.inr ())
def ref03_isSet (k : Nat) (p0 : TunnelBook) (p1 : List Int) : Option Bool :=
 bif (p1.length : Int) != (p0.Parts.length : Int) then
 some (false)
 else
 (ref03_isSet_lj3 k p1 k 0).bind fun o => (match o with
 | .inl r => some r
 | .inr _ =>
 some (true))
theorem ok_83 {k : Nat} {H : Hp} {w : World} {p0 : TunnelBook} {p1 : List Int} {c0 : List Value} {v1 : Value} {r : Bool} (hsub : Sub H w) (h0 : Rp.rep (α := TunnelBook) H c0 p0) (h1 : Sl (α := Int) H v1 p1) (hm : ref03_isSet k p0 p1 = some r) : Calls Tryd.prog 83 [.agg c0.toArray, v1].toArray w (PostV w H (.bool r)) := by
 unfold ref03_isSet at hm
 refine start (n := 24) (E := [(0, .agg c0.toArray), (1, v1)]) Tryd.func83 rfl rfl ⟨rfl, rfl, trivial⟩ rfl hsub ?_
 refine a_seq (a_region rfl (a_cons (e_box (cs := c0) trivial rfl rfl rfl ?_)))
 intro b0_0
 refine ap (y_assign rfl) (a_nil (a_freeze (α := TunnelBook) (x := p0) (i := 0) rfl h0 ?_))
 intro Hb0_0 lb0_0 hb0_0
 have h0 := Rp.mono lb0_0 h0
 have h1 := Sl.mono lb0_0 h1
 refine a_en [(1, v1), (2, .pointer (some ⟨b0_0, 0, none⟩))] ?_
 refine a_own [] (by decide) (L' := []) rfl ?_
 refine a_then (a_seq (a_seq (a_region rfl (ap (y_move rfl) (ap (y_len_sl Tryd.underlying26 rfl h1) ?_)))))
 have h1_2 := TunnelBook.at_Parts hb0_0
 refine ap (y_fieldAddr fo25_0 rfl) ?_
 obtain ⟨v1_3, h1_3, c1_3⟩ := PAt.sl h1_2
 refine ap (y_load_one ty22 rfl (fun _ h => h.sub) rfl c1_3) ?_
 refine ap (y_len_sl Tryd.underlying22 rfl h1_3) (ap (y_neq rfl rfl) (a_nil (a_en [(1, v1), (11, .bool ((p1.length : Int) != (p0.Parts.length : Int)))] ?_)))
 refine a_then ?_
 refine a_cond rfl (fun k_1 => ?_) (fun k_1 => ?_)
 · have hm := cond_t k_1 hm
   refine a_seq (a_region rfl (ap (y_assign rfl) (a_nil (a_en [(4, .bool false)] ?_))))
   refine a_then (a_ret (a_then_ret ?_))
   refine a_done (v := .bool false) (.inl rfl) rfl ?_ ?_
   · intro a_ w_ ha_ hs_; exact run_results (P := Tryd.prog) (fn := Tryd.f83) (rs := [.tmp 4]) (vs := [.bool false]) rfl (.cons (rv_tmp ha_ rfl) (All2.nil))
   · intro _ _; obtain rfl := Option.some.inj hm
     rfl
 have hm := cond_f k_1 hm
 refine a_skip (a_then (a_seq (a_seq (a_region rfl (ap (y_assign rfl) (a_nil (a_en [(1, v1), (5, .int .i64 0)] ?_)))))))
 refine a_then ?_
 obtain ⟨s_j2, hs_j2, hm_j2⟩ := bind_some hm
 refine a_join (fun a_ w_ => Sum.inr () = s_j2 ∧ Ag 24 [] [] a_ ∧ St (Kp.mk w H noX) Hb0_0 [] w_) ?_ ?_
 · have hm := hs_j2
   refine a_block ?_
   refine a_loop (fun n_j3 a_ w_ => ∃ (yj3_5 : Int), ref03_isSet_lj3 k p1 n_j3 yj3_5 = some s_j2 ∧ Ag 24 [] [(1, v1), (5, .int .i64 yj3_5)] a_ ∧ St (Kp.mk w H noX) Hb0_0 [] w_) k ?_ ?_
   · intro a_ w_ ha_ hs_
     exact ⟨0, hm, ha_.weaken ⟨rfl, rfl, trivial⟩, hs_.reix [] (by decide)⟩
   rintro (_ | n_j3) a_ w_ ⟨yj3_5, hm, ha_, hs_⟩
   · rw [ref03_isSet_lj3.eq_1] at hm; cases hm
   rw [ref03_isSet_lj3.eq_2] at hm
   refine a_start ha_ hs_ (a_seq (a_seq (a_region rfl (ap (y_move rfl) (ap (y_move rfl) (ap (y_len_sl Tryd.underlying26 rfl h1) (ap (y_lss rfl rfl) (a_nil (a_en [(1, v1), (5, .int .i64 yj3_5), (15, .bool (decide (yj3_5 < (p1.length : Int))))] ?_)))))))))
   refine a_then ?_
   refine a_cond rfl (fun k_4 => ?_) (fun k_4 => ?_)
   · have hm := cond_t k_4 hm
     refine a_skip (a_then (a_seq (a_block (a_seq (a_region rfl (ap (y_move rfl) (ap (y_move rfl) ?_)))))))
     obtain ⟨x6_2, q6_2, hm⟩ := bind_some hm
     obtain ⟨b6_2, o6_2, c6_2, e6_2, h6_2⟩ := Sl.elemZ 1 rfl h1 q6_2
     refine ap (y_index Tryd.underlying26 ty3 rfl e6_2 rfl (nth_in q6_2)) (ap (y_load_int ty3 rfl (fun _ h => h.sub) rfl h6_2) ?_)
     obtain ⟨x6_4, q6_4, hm⟩ := bind_some hm
     refine a_cons (e_callV (all := [.int .i64 x6_2, .int .i64 0, .int .i64 3]) (v := .bool x6_4) trivial rfl Tryd.func50 rfl rfl rfl rfl rfl (fun w hw => ok_50 hw q6_4) ?_)
     refine ap (y_not rfl) (a_nil (a_en [(1, v1), (5, .int .i64 yj3_5), (23, .bool (!x6_4))] ?_))
     refine a_then ?_
     refine a_cond rfl (fun k_5 => ?_) (fun k_5 => ?_)
     · have hm := cond_t k_5 hm
       refine a_seq (a_region rfl (ap (y_assign rfl) (a_nil (a_en [(4, .bool false)] ?_))))
       refine a_then (a_ret (a_block_ret (a_then_ret (a_then_ret (a_block_ret (a_cut_ret (a_then_ret ?_)))))))
       obtain rfl := Option.some.inj hm
       have hm := hm_j2
       try dsimp only at hm
       refine a_done (v := .bool false) (.inl rfl) rfl ?_ ?_
       · intro a_ w_ ha_ hs_; exact run_results (P := Tryd.prog) (fn := Tryd.f83) (rs := [.tmp 4]) (vs := [.bool false]) rfl (.cons (rv_tmp ha_ rfl) (All2.nil))
       · intro _ _; obtain rfl := Option.some.inj hm
         rfl
     have hm := cond_f k_5 hm
     refine a_skip (a_block_normal (a_then (a_region rfl (ap (y_move rfl) (ap (y_add rfl rfl) (ap (y_assign rfl) (a_nil (a_en [(1, v1), (5, .int .i64 (IntKind.i64.wrap (yj3_5 + 1)))] ?_))))))))
     refine a_then ?_
     intro a_ w_ ha_ hs_
     exact ⟨n_j3, Nat.lt_succ_self _, IntKind.i64.wrap (yj3_5 + 1), hm, ha_.weaken ⟨rfl, rfl, trivial⟩, hs_.reix [] (by decide)⟩
   have hm := cond_f k_4 hm
   refine a_exit (a_then_exit (a_then_exit (a_block_hit (a_cut ?_))))
   intro a_ w_ ha_ hs_
   exact ⟨Option.some.inj hm, ha_.weaken trivial, hs_.reix [] (by decide)⟩
 have hm := hm_j2
 rintro a_ w_ ⟨rfl, ha_, hs_⟩
 try dsimp only at hm
 refine a_start ha_ hs_ (a_then (a_seq (a_region rfl (ap (y_assign rfl) (a_nil (a_then (a_ret ?_)))))))
 refine a_done (v := .bool true) (.inl rfl) rfl ?_ ?_
 · intro a_ w_ ha_ hs_; exact run_results (P := Tryd.prog) (fn := Tryd.f83) (rs := [.tmp 4]) (vs := [.bool true]) rfl (.cons (rv_tmp ha_ rfl) (All2.nil))
 · intro _ _; obtain rfl := Option.some.inj hm
   rfl

def ref03_isFrame (k : Nat) (p0 : TunnelBook) (p1 : Int) : Option Bool :=
 (ref00_Fits k p1 0 (IntKind.i64.wrap ((p0.Frames.length : Int) - 1))).bind fun x1_5 =>
 some (x1_5)
theorem ok_90 {k : Nat} {H : Hp} {w : World} {p0 : TunnelBook} {p1 : Int} {c0 : List Value} {r : Bool} (hsub : Sub H w) (h0 : Rp.rep (α := TunnelBook) H c0 p0) (hm : ref03_isFrame k p0 p1 = some r) : Calls Tryd.prog 90 [.agg c0.toArray, .int .i64 p1].toArray w (PostV w H (.bool r)) := by
 unfold ref03_isFrame at hm
 refine start (n := 11) (E := [(0, .agg c0.toArray), (1, .int .i64 p1)]) Tryd.func90 rfl rfl ⟨rfl, rfl, trivial⟩ rfl hsub ?_
 refine a_seq (a_region rfl (a_cons (e_box (cs := c0) trivial rfl rfl rfl ?_)))
 intro b0_0
 refine ap (y_assign rfl) (a_nil (a_freeze (α := TunnelBook) (x := p0) (i := 0) rfl h0 ?_))
 intro Hb0_0 lb0_0 hb0_0
 have h0 := Rp.mono lb0_0 h0
 refine a_en [(1, .int .i64 p1), (2, .pointer (some ⟨b0_0, 0, none⟩))] ?_
 refine a_own [] (by decide) (L' := []) rfl ?_
 refine a_then (a_seq (a_region rfl (ap (y_move rfl) ?_)))
 have h1_1 := TunnelBook.at_Frames hb0_0
 refine ap (y_fieldAddr fo25_1 rfl) ?_
 obtain ⟨v1_2, h1_2, c1_2⟩ := PAt.sl h1_1
 refine ap (y_load_one ty23 rfl (fun _ h => h.sub) rfl c1_2) ?_
 refine ap (y_len_sl Tryd.underlying23 rfl h1_2) (ap (y_sub rfl rfl) ?_)
 obtain ⟨x1_5, q1_5, hm⟩ := bind_some hm
 refine a_cons (e_callV (all := [.int .i64 p1, .int .i64 0, .int .i64 (IntKind.i64.wrap ((p0.Frames.length : Int) - 1))]) (v := .bool x1_5) trivial rfl Tryd.func50 rfl rfl rfl rfl rfl (fun w hw => ok_50 hw q1_5) ?_)
 refine ap (y_assign rfl) (a_nil (a_en [(4, .bool x1_5)] ?_))
 refine a_then (a_ret ?_)
 refine a_done (v := .bool x1_5) (.inl rfl) rfl ?_ ?_
 · intro a_ w_ ha_ hs_; exact run_results (P := Tryd.prog) (fn := Tryd.f90) (rs := [.tmp 4]) (vs := [.bool x1_5]) rfl (.cons (rv_tmp ha_ rfl) (All2.nil))
 · intro _ _; obtain rfl := Option.some.inj hm
   rfl

def ref03_isPart (k : Nat) (p0 : TunnelBook) (p1 : Int) : Option Bool :=
 (ref00_Fits k p1 0 (IntKind.i64.wrap ((p0.Parts.length : Int) - 1))).bind fun x1_5 =>
 some (x1_5)
theorem ok_107 {k : Nat} {H : Hp} {w : World} {p0 : TunnelBook} {p1 : Int} {c0 : List Value} {r : Bool} (hsub : Sub H w) (h0 : Rp.rep (α := TunnelBook) H c0 p0) (hm : ref03_isPart k p0 p1 = some r) : Calls Tryd.prog 107 [.agg c0.toArray, .int .i64 p1].toArray w (PostV w H (.bool r)) := by
 unfold ref03_isPart at hm
 refine start (n := 11) (E := [(0, .agg c0.toArray), (1, .int .i64 p1)]) Tryd.func107 rfl rfl ⟨rfl, rfl, trivial⟩ rfl hsub ?_
 refine a_seq (a_region rfl (a_cons (e_box (cs := c0) trivial rfl rfl rfl ?_)))
 intro b0_0
 refine ap (y_assign rfl) (a_nil (a_freeze (α := TunnelBook) (x := p0) (i := 0) rfl h0 ?_))
 intro Hb0_0 lb0_0 hb0_0
 have h0 := Rp.mono lb0_0 h0
 refine a_en [(1, .int .i64 p1), (2, .pointer (some ⟨b0_0, 0, none⟩))] ?_
 refine a_own [] (by decide) (L' := []) rfl ?_
 refine a_then (a_seq (a_region rfl (ap (y_move rfl) ?_)))
 have h1_1 := TunnelBook.at_Parts hb0_0
 refine ap (y_fieldAddr fo25_0 rfl) ?_
 obtain ⟨v1_2, h1_2, c1_2⟩ := PAt.sl h1_1
 refine ap (y_load_one ty22 rfl (fun _ h => h.sub) rfl c1_2) ?_
 refine ap (y_len_sl Tryd.underlying22 rfl h1_2) (ap (y_sub rfl rfl) ?_)
 obtain ⟨x1_5, q1_5, hm⟩ := bind_some hm
 refine a_cons (e_callV (all := [.int .i64 p1, .int .i64 0, .int .i64 (IntKind.i64.wrap ((p0.Parts.length : Int) - 1))]) (v := .bool x1_5) trivial rfl Tryd.func50 rfl rfl rfl rfl rfl (fun w hw => ok_50 hw q1_5) ?_)
 refine ap (y_assign rfl) (a_nil (a_en [(4, .bool x1_5)] ?_))
 refine a_then (a_ret ?_)
 refine a_done (v := .bool x1_5) (.inl rfl) rfl ?_ ?_
 · intro a_ w_ ha_ hs_; exact run_results (P := Tryd.prog) (fn := Tryd.f107) (rs := [.tmp 4]) (vs := [.bool x1_5]) rfl (.cons (rv_tmp ha_ rfl) (All2.nil))
 · intro _ _; obtain rfl := Option.some.inj hm
   rfl

def ref00_Right (k : Nat) (p0 : Span) (p1 : Int) (p2 : Int) : Option Bool :=
 (bif decide (p1 ≤ p0.Low) then
 bif decide (p0.Low ≤ p0.High) then
 some ((decide (p0.High ≤ p2)))
 else
 some (false)
 else
 some (false)).bind fun yj1_6 =>
 some (yj1_6)
theorem ok_87 {k : Nat} {H : Hp} {w : World} {p0 : Span} {p1 : Int} {p2 : Int} {c0 : List Value} {r : Bool} (hsub : Sub H w) (h0 : Rp.rep (α := Span) H c0 p0) (hm : ref00_Right k p0 p1 p2 = some r) : Calls Tryd.prog 87 [.agg c0.toArray, .int .i64 p1, .int .i64 p2].toArray w (PostV w H (.bool r)) := by
 unfold ref00_Right at hm
 refine start (n := 24) (E := [(0, .agg c0.toArray), (1, .int .i64 p1), (2, .int .i64 p2)]) Tryd.func87 rfl rfl ⟨rfl, rfl, rfl, trivial⟩ rfl hsub ?_
 refine a_seq (a_region rfl (a_cons (e_box (cs := c0) trivial rfl rfl rfl ?_)))
 intro b0_0
 refine ap (y_assign rfl) (a_nil (a_freeze (α := Span) (x := p0) (i := 0) rfl h0 ?_))
 intro Hb0_0 lb0_0 hb0_0
 have h0 := Rp.mono lb0_0 h0
 refine a_en [(1, .int .i64 p1), (2, .int .i64 p2), (3, .pointer (some ⟨b0_0, 0, none⟩))] ?_
 refine a_own [] (by decide) (L' := []) rfl ?_
 refine a_then (a_seq ?_)
 obtain ⟨s_j1, hs_j1, hm_j1⟩ := bind_some hm
 refine a_join (fun a_ w_ => ∃ (yj1_6 : Bool), yj1_6 = s_j1 ∧ Ag 24 [] [(6, .bool yj1_6)] a_ ∧ St (Kp.mk w H noX) Hb0_0 [] w_) ?_ ?_
 · have hm := hs_j1
   refine a_region rfl (ap (y_move rfl) ?_)
   have h1_1 := Span.at_Low hb0_0
   refine ap (y_fieldAddr fo32_0 rfl) (ap (y_load_int ty3 rfl (fun _ h => h.sub) rfl h1_1) ?_)
   refine ap (y_leq rfl rfl) (ap (y_move rfl) ?_)
   rcases Bool.eq_false_or_eq_true (decide (p1 ≤ p0.Low)) with k1_5 | k1_5
   · have hm := cond_t k1_5 hm
     have h1_5 := Span.at_Low hb0_0
     refine ag ⟨_, _, rfl, rfl, k1_5⟩ (y_fieldAddr fo32_0 rfl) ?_
     refine ag ⟨_, _, rfl, rfl, k1_5⟩ (y_load_int ty3 rfl (fun _ h => h.sub) rfl h1_5) ?_
     have h1_7 := Span.at_High hb0_0
     refine ag ⟨_, _, rfl, rfl, k1_5⟩ (y_fieldAddr fo32_1 rfl) ?_
     refine ag ⟨_, _, rfl, rfl, k1_5⟩ (y_load_int ty3 rfl (fun _ h => h.sub) rfl h1_7) ?_
     refine ag ⟨_, _, rfl, rfl, k1_5⟩ (y_leq rfl rfl) ?_
     refine ap (y_pick_t rfl k1_5 rfl) (ap (y_move rfl) ?_)
     rcases Bool.eq_false_or_eq_true (decide (p0.Low ≤ p0.High)) with k1_12 | k1_12
     · have hm := cond_t k1_12 hm
       have h1_12 := Span.at_High hb0_0
       refine ag ⟨_, _, rfl, rfl, k1_12⟩ (y_fieldAddr fo32_1 rfl) ?_
       refine ag ⟨_, _, rfl, rfl, k1_12⟩ (y_load_int ty3 rfl (fun _ h => h.sub) rfl h1_12) ?_
       refine ag ⟨_, _, rfl, rfl, k1_12⟩ (y_move rfl) ?_
       refine ag ⟨_, _, rfl, rfl, k1_12⟩ (y_leq rfl rfl) ?_
       refine ap (y_pick_t rfl k1_12 rfl) (ap (y_assign rfl) (a_nil (a_en [(6, .bool (decide (p0.High ≤ p2)))] ?_)))
       refine a_cut ?_
       intro a_ w_ ha_ hs_
       exact ⟨decide (p0.High ≤ p2), Option.some.inj hm, ha_.weaken ⟨rfl, trivial⟩, hs_.reix [] (by decide)⟩
     have hm := cond_f k1_12 hm
     refine as1 (sk1 rfl rfl k1_12) ?_
     refine as1 (sk1 rfl rfl k1_12) ?_
     refine as1 (sk1 rfl rfl k1_12) ?_
     refine as1 (sk1 rfl rfl k1_12) ?_
     refine ap (y_pick_f rfl k1_12 rfl) (ap (y_assign rfl) (a_nil (a_en [(6, .bool false)] ?_)))
     refine a_cut ?_
     intro a_ w_ ha_ hs_
     exact ⟨false, Option.some.inj hm, ha_.weaken ⟨rfl, trivial⟩, hs_.reix [] (by decide)⟩
   have hm := cond_f k1_5 hm
   refine as1 (sk1 rfl rfl k1_5) ?_
   refine as1 (sk1 rfl rfl k1_5) ?_
   refine as1 (sk1 rfl rfl k1_5) ?_
   refine as1 (sk1 rfl rfl k1_5) ?_
   refine as1 (sk1 rfl rfl k1_5) ?_
   refine ap (y_pick_f rfl k1_5 rfl) (ap (y_move rfl) (as1 (sk1 rfl rfl rfl) (as1 (sk1 rfl rfl rfl) (as1 (sk1 rfl rfl rfl) (as1 (sk1 rfl rfl rfl) (ap (y_pick_f rfl rfl rfl) (ap (y_assign rfl) (a_nil (a_en [(6, .bool false)] ?_)))))))))
   refine a_cut ?_
   intro a_ w_ ha_ hs_
   exact ⟨false, Option.some.inj hm, ha_.weaken ⟨rfl, trivial⟩, hs_.reix [] (by decide)⟩
 have hm := hm_j1
 rintro a_ w_ ⟨yj1_6, rfl, ha_, hs_⟩
 try dsimp only at hm
 refine a_start ha_ hs_ (a_then (a_ret ?_))
 refine a_done (v := .bool yj1_6) (.inl rfl) rfl ?_ ?_
 · intro a_ w_ ha_ hs_; exact run_results (P := Tryd.prog) (fn := Tryd.f87) (rs := [.tmp 6]) (vs := [.bool yj1_6]) rfl (.cons (rv_tmp ha_ rfl) (All2.nil))
 · intro _ _; obtain rfl := Option.some.inj hm
   rfl

def ref03_Check_lj8 (k : Nat) (x5_3 : TunnelPart) : Nat → Bool → Int → Option Bool
 | 0, _, _ => none
 | n_j8 + 1, yj8_3, yj8_6 =>
 bif decide (yj8_6 < 4) then
 (bif yj8_3 then
 (nth x5_3.Heat yj8_6).bind fun x10_4 =>
 (ref00_Fits k x10_4 0 20).bind fun x10_6 =>
 bif x10_6 then
 bif yj8_6 == 0 then
 some (true)
 else
 (nth x5_3.Heat yj8_6).bind fun x10_14 =>
 (nth x5_3.Heat (IntKind.i64.wrap (yj8_6 - 1))).bind fun x10_19 =>
 some ((decide (x10_14 ≥ x10_19)))
 else
 some (false)
 else
 some (false)).bind fun yj10_3 =>
 ref03_Check_lj8 k x5_3 n_j8 yj10_3 (IntKind.i64.wrap (yj8_6 + 1))
 else
 some (yj8_3)
def ref03_Check_lj3 (k : Nat) (p0 : TunnelBook) : Nat → Bool → Int → Option Bool
 | 0, _, _ => none
 | n_j3 + 1, yj3_3, yj3_4 =>
 (bif yj3_3 then
 some ((decide (yj3_4 < (p0.Parts.length : Int))))
 else
 some (false)).bind fun yj4_27 =>
 bif yj4_27 then
 (nth p0.Parts yj3_4).bind fun x5_3 =>
 ((ref00_Right k x5_3.Damp 0 20).bind fun x6_2 =>
 bif x6_2 then
 some ((decide ((IntKind.i64.wrap (x5_3.Damp.High - x5_3.Damp.Low)) ≤ 3)))
 else
 some (false)).bind fun yj6_3 =>
 (ref03_Check_lj8 k x5_3 k yj6_3 0).bind fun yj7_3 =>
 ref03_Check_lj3 k p0 n_j3 yj7_3 (IntKind.i64.wrap (yj3_4 + 1))
 else
 some (yj3_3)
def ref03_Check_lj17 (k : Nat) (x14_3 : TunnelFrame) : Nat → Bool → Int → Option Bool
 | 0, _, _ => none
 | n_j17 + 1, yj17_3, yj17_9 =>
 (bif yj17_3 then
 some ((decide (yj17_9 < (x14_3.Stay.length : Int))))
 else
 some (false)).bind fun yj18_110 =>
 bif yj18_110 then
 (nth x14_3.Stay yj17_9).bind fun x19_3 =>
 (ref00_Fits k x19_3 0 20).bind fun x19_5 =>
 ref03_Check_lj17 k x14_3 n_j17 x19_5 (IntKind.i64.wrap (yj17_9 + 1))
 else
 some (yj17_3)
def ref03_Check_lj12 (k : Nat) (p0 : TunnelBook) : Nat → Bool → Int → Option Bool
 | 0, _, _ => none
 | n_j12 + 1, yj12_3, yj12_7 =>
 (bif yj12_3 then
 some ((decide (yj12_7 < (p0.Frames.length : Int))))
 else
 some (false)).bind fun yj13_83 =>
 bif yj13_83 then
 (nth p0.Frames yj12_7).bind fun x14_3 =>
 (bif (x14_3.Stay.length : Int) == (p0.Parts.length : Int) then
 (ref00_Right k x14_3.Need 0 999).bind fun x15_10 =>
 some (x15_10)
 else
 some (false)).bind fun yj15_3 =>
 (ref03_Check_lj17 k x14_3 k yj15_3 0).bind fun yj16_3 =>
 ref03_Check_lj12 k p0 n_j12 yj16_3 (IntKind.i64.wrap (yj12_7 + 1))
 else
 some (yj12_3)
def ref03_Check (k : Nat) (p0 : TunnelBook) : Option Int :=
 ((ref00_Fits k (p0.Parts.length : Int) 1 4).bind fun x1_3 =>
 bif x1_3 then
 some ((decide ((p0.Frames.length : Int) ≤ 5)))
 else
 some (false)).bind fun yj1_3 =>
 (ref03_Check_lj3 k p0 k yj1_3 0).bind fun yj2_3 =>
 (ref03_Check_lj12 k p0 k yj2_3 0).bind fun yj11_3 =>
 bif !yj11_3 then
 some (30)
 else
 some (0)
theorem ok_22 {k : Nat} {H : Hp} {w : World} {p0 : TunnelBook} {c0 : List Value} {r : Int} (hsub : Sub H w) (h0 : Rp.rep (α := TunnelBook) H c0 p0) (hm : ref03_Check k p0 = some r) : Calls Tryd.prog 22 [.agg c0.toArray].toArray w (PostV w H (.int .i64 r)) := by
 unfold ref03_Check at hm
 refine start (n := 121) (E := [(0, .agg c0.toArray)]) Tryd.func22 rfl rfl ⟨rfl, trivial⟩ rfl hsub ?_
 refine a_seq (a_region rfl (a_cons (e_box (cs := c0) trivial rfl rfl rfl ?_)))
 intro b0_0
 refine ap (y_assign rfl) (a_nil (a_freeze (α := TunnelBook) (x := p0) (i := 0) rfl h0 ?_))
 intro Hb0_0 lb0_0 hb0_0
 have h0 := Rp.mono lb0_0 h0
 refine a_en [(1, .pointer (some ⟨b0_0, 0, none⟩))] ?_
 refine a_own [] (by decide) (L' := []) rfl ?_
 refine a_then (a_seq ?_)
 obtain ⟨s_j1, hs_j1, hm_j1⟩ := bind_some hm
 refine a_join (fun a_ w_ => ∃ (yj1_3 : Bool), yj1_3 = s_j1 ∧ Ag 121 [] [(1, .pointer (some ⟨b0_0, 0, none⟩)), (3, .bool yj1_3)] a_ ∧ St (Kp.mk w H noX) Hb0_0 [] w_) ?_ ?_
 · have hm := hs_j1
   refine a_region rfl ?_
   have h1_0 := TunnelBook.at_Parts hb0_0
   refine ap (y_fieldAddr fo25_0 rfl) ?_
   obtain ⟨v1_1, h1_1, c1_1⟩ := PAt.sl h1_0
   refine ap (y_load_one ty22 rfl (fun _ h => h.sub) rfl c1_1) ?_
   refine ap (y_len_sl Tryd.underlying22 rfl h1_1) ?_
   obtain ⟨x1_3, q1_3, hm⟩ := bind_some hm
   refine a_cons (e_callV (all := [.int .i64 (p0.Parts.length : Int), .int .i64 1, .int .i64 4]) (v := .bool x1_3) trivial rfl Tryd.func50 rfl rfl rfl rfl rfl (fun w hw => ok_50 hw q1_3) ?_)
   refine ap (y_move rfl) ?_
   rcases Bool.eq_false_or_eq_true (x1_3) with k1_5 | k1_5
   · have hm := cond_t k1_5 hm
     have h1_5 := TunnelBook.at_Frames hb0_0
     refine ag ⟨_, _, rfl, rfl, k1_5⟩ (y_fieldAddr fo25_1 rfl) ?_
     obtain ⟨v1_6, h1_6, c1_6⟩ := PAt.sl h1_5
     refine ag ⟨_, _, rfl, rfl, k1_5⟩ (y_load_one ty23 rfl (fun _ h => h.sub) rfl c1_6) ?_
     refine ag ⟨_, _, rfl, rfl, k1_5⟩ (y_len_sl Tryd.underlying23 rfl h1_6) ?_
     refine ag ⟨_, _, rfl, rfl, k1_5⟩ (y_leq rfl rfl) ?_
     refine ap (y_pick_t rfl k1_5 rfl) (ap (y_assign rfl) (a_nil (a_en [(1, .pointer (some ⟨b0_0, 0, none⟩)), (3, .bool (decide ((p0.Frames.length : Int) ≤ 5)))] ?_)))
     refine a_cut ?_
     intro a_ w_ ha_ hs_
     exact ⟨decide ((p0.Frames.length : Int) ≤ 5), Option.some.inj hm, ha_.weaken ⟨rfl, rfl, trivial⟩, hs_.reix [] (by decide)⟩
   have hm := cond_f k1_5 hm
   refine as1 (sk1 rfl rfl k1_5) ?_
   refine as1 (sk1 rfl rfl k1_5) ?_
   refine as1 (sk1 rfl rfl k1_5) ?_
   refine as1 (sk1 rfl rfl k1_5) ?_
   refine ap (y_pick_f rfl k1_5 rfl) (ap (y_assign rfl) (a_nil (a_en [(1, .pointer (some ⟨b0_0, 0, none⟩)), (3, .bool false)] ?_)))
   refine a_cut ?_
   intro a_ w_ ha_ hs_
   exact ⟨false, Option.some.inj hm, ha_.weaken ⟨rfl, rfl, trivial⟩, hs_.reix [] (by decide)⟩
 have hm := hm_j1
 rintro a_ w_ ⟨yj1_3, rfl, ha_, hs_⟩
 try dsimp only at hm
 refine a_start ha_ hs_ (a_then (a_seq (a_seq (a_region rfl (ap (y_assign rfl) (a_nil (a_then ?_)))))))
 obtain ⟨s_j2, hs_j2, hm_j2⟩ := bind_some hm
 refine a_join (fun a_ w_ => ∃ (Hj2 : Hp), ∃ (_ : HLe Hb0_0 Hj2), ∃ (yj2_3 : Bool), yj2_3 = s_j2 ∧ Ag 121 [] [(1, .pointer (some ⟨b0_0, 0, none⟩)), (3, .bool yj2_3)] a_ ∧ St (Kp.mk w H noX) Hj2 [] w_) ?_ ?_
 · have hm := hs_j2
   refine a_block ?_
   refine a_loop (fun n_j3 a_ w_ => ∃ (Hj3 : Hp), ∃ (_ : HLe Hb0_0 Hj3), ∃ (yj3_3 : Bool), ∃ (yj3_4 : Int), ref03_Check_lj3 k p0 n_j3 yj3_3 yj3_4 = some s_j2 ∧ Ag 121 [] [(1, .pointer (some ⟨b0_0, 0, none⟩)), (3, .bool yj3_3), (4, .int .i64 yj3_4)] a_ ∧ St (Kp.mk w H noX) Hj3 [] w_) k ?_ ?_
   · intro a_ w_ ha_ hs_
     exact ⟨Hb0_0, (HLe.refl _), yj1_3, 0, hm, ha_.weaken ⟨rfl, rfl, rfl, trivial⟩, hs_.reix [] (by decide)⟩
   rintro (_ | n_j3) a_ w_ ⟨Hj3, lj3, yj3_3, yj3_4, hm, ha_, hs_⟩
   · rw [ref03_Check_lj3.eq_1] at hm; cases hm
   rw [ref03_Check_lj3.eq_2] at hm
   refine a_start ha_ hs_ ?_
   have hb0_0 := PAt.mono lj3 hb0_0
   refine a_seq (a_seq ?_)
   obtain ⟨s_j4, hs_j4, hm_j4⟩ := bind_some hm
   refine a_join (fun a_ w_ => ∃ (yj4_27 : Bool), yj4_27 = s_j4 ∧ Ag 121 [] [(1, .pointer (some ⟨b0_0, 0, none⟩)), (3, .bool yj3_3), (4, .int .i64 yj3_4), (27, .bool yj4_27)] a_ ∧ St (Kp.mk w H noX) Hj3 [] w_) ?_ ?_
   · have hm := hs_j4
     refine a_region rfl (ap (y_move rfl) (ap (y_move rfl) ?_))
     rcases Bool.eq_false_or_eq_true (yj3_3) with k3_2 | k3_2
     · have hm := cond_t k3_2 hm
       refine ag ⟨_, _, rfl, rfl, k3_2⟩ (y_move rfl) ?_
       have h3_3 := TunnelBook.at_Parts hb0_0
       refine ag ⟨_, _, rfl, rfl, k3_2⟩ (y_fieldAddr fo25_0 rfl) ?_
       obtain ⟨v3_4, h3_4, c3_4⟩ := PAt.sl h3_3
       refine ag ⟨_, _, rfl, rfl, k3_2⟩ (y_load_one ty22 rfl (fun _ h => h.sub) rfl c3_4) ?_
       refine ag ⟨_, _, rfl, rfl, k3_2⟩ (y_len_sl Tryd.underlying22 rfl h3_4) ?_
       refine ag ⟨_, _, rfl, rfl, k3_2⟩ (y_lss rfl rfl) ?_
       refine ap (y_pick_t rfl k3_2 rfl) (a_nil (a_en [(1, .pointer (some ⟨b0_0, 0, none⟩)), (3, .bool yj3_3), (4, .int .i64 yj3_4), (22, .int .i64 yj3_4), (23, .pointer (some ⟨b0_0, 0 + 0, none⟩)), (24, v3_4), (25, .int .i64 (p0.Parts.length : Int)), (26, .bool (decide (yj3_4 < (p0.Parts.length : Int)))), (27, .bool (decide (yj3_4 < (p0.Parts.length : Int))))] ?_))
       refine a_cut ?_
       intro a_ w_ ha_ hs_
       exact ⟨decide (yj3_4 < (p0.Parts.length : Int)), Option.some.inj hm, ha_.weaken ⟨rfl, rfl, rfl, rfl, trivial⟩, hs_.reix [] (by decide)⟩
     have hm := cond_f k3_2 hm
     refine as1 (sk1 rfl rfl k3_2) ?_
     refine as1 (sk1 rfl rfl k3_2) ?_
     refine as1 (sk1 rfl rfl k3_2) ?_
     refine as1 (sk1 rfl rfl k3_2) ?_
     refine as1 (sk1 rfl rfl k3_2) ?_
     refine ap (y_pick_f rfl k3_2 rfl) (a_nil (a_en [(1, .pointer (some ⟨b0_0, 0, none⟩)), (3, .bool yj3_3), (4, .int .i64 yj3_4), (22, undef), (23, undef), (24, undef), (25, undef), (26, undef), (27, .bool false)] ?_))
     refine a_cut ?_
     intro a_ w_ ha_ hs_
     exact ⟨false, Option.some.inj hm, ha_.weaken ⟨rfl, rfl, rfl, rfl, trivial⟩, hs_.reix [] (by decide)⟩
   have hm := hm_j4
   rintro a_ w_ ⟨yj4_27, rfl, ha_, hs_⟩
   try dsimp only at hm
   refine a_start ha_ hs_ (a_then ?_)
   refine a_cond rfl (fun k_5 => ?_) (fun k_5 => ?_)
   · have hm := cond_t k_5 hm
     refine a_skip (a_then (a_seq (a_block (a_seq (a_region rfl ?_)))))
     have h5_0 := TunnelBook.at_Parts hb0_0
     refine ap (y_fieldAddr fo25_0 rfl) ?_
     obtain ⟨v5_1, h5_1, c5_1⟩ := PAt.sl h5_0
     refine ap (y_load_one ty22 rfl (fun _ h => h.sub) rfl c5_1) ?_
     refine ap (y_move rfl) ?_
     obtain ⟨x5_3, q5_3, hm⟩ := bind_some hm
     obtain ⟨b5_3, o5_3, c5_3, e5_3, h5_3⟩ := Sl.elemZ 6 rfl h5_1 q5_3
     refine ap (y_index Tryd.underlying22 ty64 rfl e5_3 rfl (nth_in q5_3)) ?_
     obtain ⟨u5_4, h5_4, c5_4⟩ := PAt.one h5_3
     refine ap (y_load_cells ty64 rfl (fun _ h => h.sub) rfl c5_4 (Rp.len h5_4)) ?_
     refine a_cons (e_alloc (cs := [.int .i64 0, .int .i64 0, .int .i64 0, .int .i64 0, .int .i64 0, .int .i64 0]) trivial rfl ty64 rfl ?_)
     intro b5_5
     have mz5_5 : Rp.rep (α := TunnelPart) Hj3 [.int .i64 0, .int .i64 0, .int .i64 0, .int .i64 0, .int .i64 0, .int .i64 0] (⟨[0, 0, 0, 0], ⟨0, 0⟩⟩ : TunnelPart) := ⟨_, _, rfl, ⟨(RepL.cons (c := [_]) rfl (RepL.cons (c := [_]) rfl (RepL.cons (c := [_]) rfl (RepL.cons (c := [_]) rfl RepL.nil)))), rfl⟩, ⟨_, _, rfl, rfl, rfl⟩⟩
     refine a_cons (e_storeWhole (i := 0) (ds := u5_4) trivial ty64 rfl rfl rfl rfl (Rp.len h5_4) ((Rp.one h5_4)) rfl (a_nil (a_freeze (α := TunnelPart) (x := x5_3) (i := 0) rfl h5_4 ?_)))
     intro Hb5_5 lb5_5 hb5_5
     have hb0_0 := PAt.mono lb5_5 hb0_0
     have h5_0 := PAt.mono lb5_5 h5_0
     have h5_1 := Sl.mono lb5_5 h5_1
     have h5_3 := PAt.mono lb5_5 h5_3
     have h5_4 := Rp.mono lb5_5 h5_4
     refine a_en [(1, .pointer (some ⟨b0_0, 0, none⟩)), (4, .int .i64 yj3_4), (5, .pointer (some ⟨b5_5, 0, none⟩))] ?_
     refine a_own [] (by decide) (L' := []) rfl ?_
     refine a_then (a_seq ?_)
     obtain ⟨s_j6, hs_j6, hm_j6⟩ := bind_some hm
     refine a_join (fun a_ w_ => ∃ (yj6_3 : Bool), yj6_3 = s_j6 ∧ Ag 121 [] [(1, .pointer (some ⟨b0_0, 0, none⟩)), (3, .bool yj6_3), (4, .int .i64 yj3_4), (5, .pointer (some ⟨b5_5, 0, none⟩))] a_ ∧ St (Kp.mk w H noX) Hb5_5 [] w_) ?_ ?_
     · have hm := hs_j6
       refine a_region rfl ?_
       have h6_0 := TunnelPart.at_Damp hb5_5
       refine ap (y_fieldAddr fo64_1 rfl) ?_
       obtain ⟨u6_1, h6_1, c6_1⟩ := PAt.one h6_0
       refine ap (y_load_cells ty32 rfl (fun _ h => h.sub) rfl c6_1 (Rp.len h6_1)) ?_
       obtain ⟨x6_2, q6_2, hm⟩ := bind_some hm
       refine a_cons (e_callV (all := [.agg u6_1.toArray, .int .i64 0, .int .i64 20]) (v := .bool x6_2) trivial rfl Tryd.func87 rfl rfl rfl rfl rfl (fun w hw => ok_87 hw h6_1 q6_2) ?_)
       refine ap (y_move rfl) ?_
       rcases Bool.eq_false_or_eq_true (x6_2) with k6_4 | k6_4
       · have hm := cond_t k6_4 hm
         have h6_4 := TunnelPart.at_Damp hb5_5
         refine ag ⟨_, _, rfl, rfl, k6_4⟩ (y_fieldAddr fo64_1 rfl) ?_
         have h6_5 := Span.at_High h6_4
         refine ag ⟨_, _, rfl, rfl, k6_4⟩ (y_fieldAddr fo32_1 rfl) ?_
         refine ag ⟨_, _, rfl, rfl, k6_4⟩ (y_load_int ty3 rfl (fun _ h => h.sub) rfl h6_5) ?_
         have h6_7 := TunnelPart.at_Damp hb5_5
         refine ag ⟨_, _, rfl, rfl, k6_4⟩ (y_fieldAddr fo64_1 rfl) ?_
         have h6_8 := Span.at_Low h6_7
         refine ag ⟨_, _, rfl, rfl, k6_4⟩ (y_fieldAddr fo32_0 rfl) ?_
         refine ag ⟨_, _, rfl, rfl, k6_4⟩ (y_load_int ty3 rfl (fun _ h => h.sub) rfl h6_8) ?_
         refine ag ⟨_, _, rfl, rfl, k6_4⟩ (y_sub rfl rfl) ?_
         refine ag ⟨_, _, rfl, rfl, k6_4⟩ (y_leq rfl rfl) ?_
         refine ap (y_pick_t rfl k6_4 rfl) (ap (y_assign rfl) (a_nil (a_en [(1, .pointer (some ⟨b0_0, 0, none⟩)), (3, .bool (decide ((IntKind.i64.wrap (x5_3.Damp.High - x5_3.Damp.Low)) ≤ 3))), (4, .int .i64 yj3_4), (5, .pointer (some ⟨b5_5, 0, none⟩)), (39, .pointer (some ⟨b5_5, 0 + 4, none⟩)), (40, .pointer (some ⟨b5_5, 0 + 4 + 1, none⟩)), (41, .int .i64 x5_3.Damp.High), (42, .pointer (some ⟨b5_5, 0 + 4, none⟩)), (43, .pointer (some ⟨b5_5, 0 + 4 + 0, none⟩)), (44, .int .i64 x5_3.Damp.Low), (45, .int .i64 (IntKind.i64.wrap (x5_3.Damp.High - x5_3.Damp.Low))), (46, .bool (decide ((IntKind.i64.wrap (x5_3.Damp.High - x5_3.Damp.Low)) ≤ 3)))] ?_)))
         refine a_cut ?_
         intro a_ w_ ha_ hs_
         exact ⟨decide ((IntKind.i64.wrap (x5_3.Damp.High - x5_3.Damp.Low)) ≤ 3), Option.some.inj hm, ha_.weaken ⟨rfl, rfl, rfl, rfl, trivial⟩, hs_.reix [] (by decide)⟩
       have hm := cond_f k6_4 hm
       refine as1 (sk1 rfl rfl k6_4) ?_
       refine as1 (sk1 rfl rfl k6_4) ?_
       refine as1 (sk1 rfl rfl k6_4) ?_
       refine as1 (sk1 rfl rfl k6_4) ?_
       refine as1 (sk1 rfl rfl k6_4) ?_
       refine as1 (sk1 rfl rfl k6_4) ?_
       refine as1 (sk1 rfl rfl k6_4) ?_
       refine as1 (sk1 rfl rfl k6_4) ?_
       refine ap (y_pick_f rfl k6_4 rfl) (ap (y_assign rfl) (a_nil (a_en [(1, .pointer (some ⟨b0_0, 0, none⟩)), (3, .bool false), (4, .int .i64 yj3_4), (5, .pointer (some ⟨b5_5, 0, none⟩)), (39, undef), (40, undef), (41, undef), (42, undef), (43, undef), (44, undef), (45, undef), (46, undef)] ?_)))
       refine a_cut ?_
       intro a_ w_ ha_ hs_
       exact ⟨false, Option.some.inj hm, ha_.weaken ⟨rfl, rfl, rfl, rfl, trivial⟩, hs_.reix [] (by decide)⟩
     have hm := hm_j6
     rintro a_ w_ ⟨yj6_3, rfl, ha_, hs_⟩
     try dsimp only at hm
     refine a_start ha_ hs_ (a_then (a_seq (a_region rfl (ap (y_assign rfl) (a_nil (a_then ?_))))))
     obtain ⟨s_j7, hs_j7, hm_j7⟩ := bind_some hm
     refine a_join (fun a_ w_ => ∃ (yj7_3 : Bool), yj7_3 = s_j7 ∧ Ag 121 [] [(1, .pointer (some ⟨b0_0, 0, none⟩)), (3, .bool yj7_3), (4, .int .i64 yj3_4)] a_ ∧ St (Kp.mk w H noX) Hb5_5 [] w_) ?_ ?_
     · have hm := hs_j7
       refine a_block ?_
       refine a_loop (fun n_j8 a_ w_ => ∃ (yj8_3 : Bool), ∃ (yj8_6 : Int), ref03_Check_lj8 k x5_3 n_j8 yj8_3 yj8_6 = some s_j7 ∧ Ag 121 [] [(1, .pointer (some ⟨b0_0, 0, none⟩)), (3, .bool yj8_3), (4, .int .i64 yj3_4), (5, .pointer (some ⟨b5_5, 0, none⟩)), (6, .int .i64 yj8_6)] a_ ∧ St (Kp.mk w H noX) Hb5_5 [] w_) k ?_ ?_
       · intro a_ w_ ha_ hs_
         exact ⟨yj6_3, 0, hm, ha_.weaken ⟨rfl, rfl, rfl, rfl, rfl, trivial⟩, hs_.reix [] (by decide)⟩
       rintro (_ | n_j8) a_ w_ ⟨yj8_3, yj8_6, hm, ha_, hs_⟩
       · rw [ref03_Check_lj8.eq_1] at hm; cases hm
       rw [ref03_Check_lj8.eq_2] at hm
       refine a_start ha_ hs_ (a_seq (a_seq (a_region rfl (ap (y_move rfl) (ap (y_lss rfl rfl) (a_nil (a_en [(1, .pointer (some ⟨b0_0, 0, none⟩)), (3, .bool yj8_3), (4, .int .i64 yj3_4), (5, .pointer (some ⟨b5_5, 0, none⟩)), (6, .int .i64 yj8_6), (49, .bool (decide (yj8_6 < 4)))] ?_)))))))
       refine a_then ?_
       refine a_cond rfl (fun k_9 => ?_) (fun k_9 => ?_)
       · have hm := cond_t k_9 hm
         refine a_skip (a_then (a_seq (a_block ?_)))
         obtain ⟨s_j10, hs_j10, hm_j10⟩ := bind_some hm
         refine a_join (fun a_ w_ => ∃ (yj10_3 : Bool), yj10_3 = s_j10 ∧ Ag 121 [] [(1, .pointer (some ⟨b0_0, 0, none⟩)), (3, .bool yj10_3), (4, .int .i64 yj3_4), (5, .pointer (some ⟨b5_5, 0, none⟩)), (6, .int .i64 yj8_6)] a_ ∧ St (Kp.mk w H noX) Hb5_5 [] w_) ?_ ?_
         · have hm := hs_j10
           rcases Bool.eq_false_or_eq_true (yj8_3) with k10_2 | k10_2
           · have hm := cond_t k10_2 hm
             obtain ⟨x10_4, q10_4, hm⟩ := bind_some hm
             obtain ⟨x10_6, q10_6, hm⟩ := bind_some hm
             rcases Bool.eq_false_or_eq_true (x10_6) with k10_9 | k10_9
             · have hm := cond_t k10_9 hm
               rcases Bool.eq_false_or_eq_true (yj8_6 == 0) with k10_12 | k10_12
               · have hm := cond_t k10_12 hm
                 refine d_region (S := Sw Hb5_5 []) (n := 25) (listed := (bits 25 0)) mixed (by kernel_rfl) rfl (by kernel_rfl) ?_
                 refine dt 0 1 rfl trivial (y_move rfl) (sw0 []) ?_
                 refine dt 1 3 rfl trivial (y_move rfl) (sw0 []) ?_
                 refine dt 2 7 rfl ⟨_, _, rfl, rfl, k10_2⟩ (y_move rfl) (sw0 []) ?_
                 have h10_3 := TunnelPart.at_Heat hb5_5
                 refine dt 3 15 rfl ⟨_, _, rfl, rfl, k10_2⟩ (y_fieldAddr fo64_0 rfl) (sw0 []) ?_
                 have h10_4 := PAt.arrZ 1 rfl h10_3 q10_4
                 have k10_4 := PAt.arrIn h10_3 q10_4
                 refine dt 4 31 rfl ⟨_, _, rfl, rfl, k10_2⟩ (y_index_arrp Tryd.underlying62 ty3 rfl rfl k10_4) (sw0 []) ?_
                 refine dt 5 63 rfl ⟨_, _, rfl, rfl, k10_2⟩ (y_load_int ty3 rfl (fun _ h => h.1) rfl h10_4) (sw0 []) ?_
                 refine d1 6 rfl (e_callV (all := [.int .i64 x10_4, .int .i64 0, .int .i64 20]) (v := .bool x10_6) ⟨_, _, rfl, rfl, k10_2⟩ rfl Tryd.func50 rfl rfl rfl rfl rfl (fun w hw => ok_50 hw q10_6) ?_)
                 refine dn 127 (sw0 []) ?_
                 refine dt 7 255 rfl trivial (y_pick_t rfl k10_2 rfl) (sw0 []) ?_
                 refine dt 8 511 rfl trivial (y_move rfl) (sw0 []) ?_
                 refine dt 9 1023 rfl ⟨_, _, rfl, rfl, k10_9⟩ (y_move rfl) (sw0 []) ?_
                 refine dt 10 2047 rfl ⟨_, _, rfl, rfl, k10_9⟩ (y_eql rfl rfl) (sw0 []) ?_
                 refine dt 11 4095 rfl ⟨_, _, rfl, rfl, k10_9⟩ (y_move rfl) (sw0 []) ?_
                 refine dk 12 8191 rfl (sk1 rfl rfl k10_12) (sw0 []) ?_
                 refine dk 13 16383 rfl (sk1 rfl rfl k10_12) (sw0 []) ?_
                 refine dk 14 32767 rfl (sk1 rfl rfl k10_12) (sw0 []) ?_
                 refine dk 15 65535 rfl (sk1 rfl rfl k10_12) (sw0 []) ?_
                 refine dk 16 131071 rfl (sk1 rfl rfl k10_12) (sw0 []) ?_
                 refine dk 17 262143 rfl (sk1 rfl rfl k10_12) (sw0 []) ?_
                 refine dk 18 524287 rfl (sk1 rfl rfl k10_12) (sw0 []) ?_
                 refine dk 19 1048575 rfl (sk1 rfl rfl k10_12) (sw0 []) ?_
                 refine dk 20 2097151 rfl (sk1 rfl rfl k10_12) (sw0 []) ?_
                 refine dk 21 4194303 rfl (sk1 rfl rfl k10_12) (sw0 []) ?_
                 refine dt 22 8388607 rfl ⟨_, _, rfl, rfl, k10_9⟩ (y_pick_t rfl k10_12 rfl) (sw0 []) ?_
                 refine dt 23 16777215 rfl trivial (y_pick_t rfl k10_9 rfl) (sw0 []) ?_
                 refine dt 24 33554431 rfl trivial (y_assign rfl) (sw0 []) ?_
                 refine d_done (by kernel_rfl) ?_
                 refine a_en [(1, .pointer (some ⟨b0_0, 0, none⟩)), (3, .bool true), (4, .int .i64 yj3_4), (5, .pointer (some ⟨b5_5, 0, none⟩)), (6, .int .i64 yj8_6), (54, .int .i64 yj8_6), (55, .pointer (some ⟨b5_5, 0 + 0, none⟩)), (56, .pointer (some ⟨b5_5, 0 + 0 + (yj8_6).toNat * 1, none⟩)), (57, .int .i64 x10_4), (58, .bool x10_6), (61, .int .i64 yj8_6), (62, .bool (yj8_6 == 0)), (63, .bool (yj8_6 == 0)), (64, undef), (65, undef), (66, undef), (67, undef), (68, undef), (69, undef), (70, undef), (71, undef), (72, undef), (73, undef), (74, .bool true)] ?_
                 refine a_cut ?_
                 intro a_ w_ ha_ hs_
                 exact ⟨true, Option.some.inj hm, ha_.weaken ⟨rfl, rfl, rfl, rfl, rfl, trivial⟩, hs_.reix [] (by decide)⟩
               have hm := cond_f k10_12 hm
               obtain ⟨x10_14, q10_14, hm⟩ := bind_some hm
               obtain ⟨x10_19, q10_19, hm⟩ := bind_some hm
               refine d_region (S := Sw Hb5_5 []) (n := 25) (listed := (bits 25 0)) mixed (by kernel_rfl) rfl (by kernel_rfl) ?_
               refine dt 0 1 rfl trivial (y_move rfl) (sw0 []) ?_
               refine dt 1 3 rfl trivial (y_move rfl) (sw0 []) ?_
               refine dt 2 7 rfl ⟨_, _, rfl, rfl, k10_2⟩ (y_move rfl) (sw0 []) ?_
               have h10_3 := TunnelPart.at_Heat hb5_5
               refine dt 3 15 rfl ⟨_, _, rfl, rfl, k10_2⟩ (y_fieldAddr fo64_0 rfl) (sw0 []) ?_
               have h10_4 := PAt.arrZ 1 rfl h10_3 q10_4
               have k10_4 := PAt.arrIn h10_3 q10_4
               refine dt 4 31 rfl ⟨_, _, rfl, rfl, k10_2⟩ (y_index_arrp Tryd.underlying62 ty3 rfl rfl k10_4) (sw0 []) ?_
               refine dt 5 63 rfl ⟨_, _, rfl, rfl, k10_2⟩ (y_load_int ty3 rfl (fun _ h => h.1) rfl h10_4) (sw0 []) ?_
               refine d1 6 rfl (e_callV (all := [.int .i64 x10_4, .int .i64 0, .int .i64 20]) (v := .bool x10_6) ⟨_, _, rfl, rfl, k10_2⟩ rfl Tryd.func50 rfl rfl rfl rfl rfl (fun w hw => ok_50 hw q10_6) ?_)
               refine dn 127 (sw0 []) ?_
               refine dt 7 255 rfl trivial (y_pick_t rfl k10_2 rfl) (sw0 []) ?_
               refine dt 8 511 rfl trivial (y_move rfl) (sw0 []) ?_
               refine dt 9 1023 rfl ⟨_, _, rfl, rfl, k10_9⟩ (y_move rfl) (sw0 []) ?_
               refine dt 10 2047 rfl ⟨_, _, rfl, rfl, k10_9⟩ (y_eql rfl rfl) (sw0 []) ?_
               refine dt 11 4095 rfl ⟨_, _, rfl, rfl, k10_9⟩ (y_move rfl) (sw0 []) ?_
               refine dt 12 8191 rfl ⟨_, _, rfl, rfl, k10_12⟩ (y_move rfl) (sw0 []) ?_
               have h10_13 := TunnelPart.at_Heat hb5_5
               refine dt 13 16383 rfl ⟨_, _, rfl, rfl, k10_12⟩ (y_fieldAddr fo64_0 rfl) (sw0 []) ?_
               have h10_14 := PAt.arrZ 1 rfl h10_13 q10_14
               have k10_14 := PAt.arrIn h10_13 q10_14
               refine dt 14 32767 rfl ⟨_, _, rfl, rfl, k10_12⟩ (y_index_arrp Tryd.underlying62 ty3 rfl rfl k10_14) (sw0 []) ?_
               refine dt 15 65535 rfl ⟨_, _, rfl, rfl, k10_12⟩ (y_load_int ty3 rfl (fun _ h => h.1) rfl h10_14) (sw0 []) ?_
               refine dt 16 131071 rfl ⟨_, _, rfl, rfl, k10_12⟩ (y_move rfl) (sw0 []) ?_
               refine dt 17 262143 rfl ⟨_, _, rfl, rfl, k10_12⟩ (y_sub rfl rfl) (sw0 []) ?_
               have h10_18 := TunnelPart.at_Heat hb5_5
               refine dt 18 524287 rfl ⟨_, _, rfl, rfl, k10_12⟩ (y_fieldAddr fo64_0 rfl) (sw0 []) ?_
               have h10_19 := PAt.arrZ 1 rfl h10_18 q10_19
               have k10_19 := PAt.arrIn h10_18 q10_19
               refine dt 19 1048575 rfl ⟨_, _, rfl, rfl, k10_12⟩ (y_index_arrp Tryd.underlying62 ty3 rfl rfl k10_19) (sw0 []) ?_
               refine dt 20 2097151 rfl ⟨_, _, rfl, rfl, k10_12⟩ (y_load_int ty3 rfl (fun _ h => h.1) rfl h10_19) (sw0 []) ?_
               refine dt 21 4194303 rfl ⟨_, _, rfl, rfl, k10_12⟩ (y_geq rfl rfl) (sw0 []) ?_
               refine dt 22 8388607 rfl ⟨_, _, rfl, rfl, k10_9⟩ (y_pick_f rfl k10_12 rfl) (sw0 []) ?_
               refine dt 23 16777215 rfl trivial (y_pick_t rfl k10_9 rfl) (sw0 []) ?_
               refine dt 24 33554431 rfl trivial (y_assign rfl) (sw0 []) ?_
               refine d_done (by kernel_rfl) ?_
               refine a_en [(1, .pointer (some ⟨b0_0, 0, none⟩)), (3, .bool (decide (x10_14 ≥ x10_19))), (4, .int .i64 yj3_4), (5, .pointer (some ⟨b5_5, 0, none⟩)), (6, .int .i64 yj8_6), (54, .int .i64 yj8_6), (55, .pointer (some ⟨b5_5, 0 + 0, none⟩)), (56, .pointer (some ⟨b5_5, 0 + 0 + (yj8_6).toNat * 1, none⟩)), (57, .int .i64 x10_4), (58, .bool x10_6), (61, .int .i64 yj8_6), (62, .bool (yj8_6 == 0)), (63, .bool (yj8_6 == 0)), (64, .int .i64 yj8_6), (65, .pointer (some ⟨b5_5, 0 + 0, none⟩)), (66, .pointer (some ⟨b5_5, 0 + 0 + (yj8_6).toNat * 1, none⟩)), (67, .int .i64 x10_14), (68, .int .i64 yj8_6), (69, .int .i64 (IntKind.i64.wrap (yj8_6 - 1))), (70, .pointer (some ⟨b5_5, 0 + 0, none⟩)), (71, .pointer (some ⟨b5_5, 0 + 0 + (IntKind.i64.wrap (yj8_6 - 1)).toNat * 1, none⟩)), (72, .int .i64 x10_19), (73, .bool (decide (x10_14 ≥ x10_19))), (74, .bool (decide (x10_14 ≥ x10_19)))] ?_
               refine a_cut ?_
               intro a_ w_ ha_ hs_
               exact ⟨decide (x10_14 ≥ x10_19), Option.some.inj hm, ha_.weaken ⟨rfl, rfl, rfl, rfl, rfl, trivial⟩, hs_.reix [] (by decide)⟩
             have hm := cond_f k10_9 hm
             refine d_region (S := Sw Hb5_5 []) (n := 25) (listed := (bits 25 0)) mixed (by kernel_rfl) rfl (by kernel_rfl) ?_
             refine dt 0 1 rfl trivial (y_move rfl) (sw0 []) ?_
             refine dt 1 3 rfl trivial (y_move rfl) (sw0 []) ?_
             refine dt 2 7 rfl ⟨_, _, rfl, rfl, k10_2⟩ (y_move rfl) (sw0 []) ?_
             have h10_3 := TunnelPart.at_Heat hb5_5
             refine dt 3 15 rfl ⟨_, _, rfl, rfl, k10_2⟩ (y_fieldAddr fo64_0 rfl) (sw0 []) ?_
             have h10_4 := PAt.arrZ 1 rfl h10_3 q10_4
             have k10_4 := PAt.arrIn h10_3 q10_4
             refine dt 4 31 rfl ⟨_, _, rfl, rfl, k10_2⟩ (y_index_arrp Tryd.underlying62 ty3 rfl rfl k10_4) (sw0 []) ?_
             refine dt 5 63 rfl ⟨_, _, rfl, rfl, k10_2⟩ (y_load_int ty3 rfl (fun _ h => h.1) rfl h10_4) (sw0 []) ?_
             refine d1 6 rfl (e_callV (all := [.int .i64 x10_4, .int .i64 0, .int .i64 20]) (v := .bool x10_6) ⟨_, _, rfl, rfl, k10_2⟩ rfl Tryd.func50 rfl rfl rfl rfl rfl (fun w hw => ok_50 hw q10_6) ?_)
             refine dn 127 (sw0 []) ?_
             refine dt 7 255 rfl trivial (y_pick_t rfl k10_2 rfl) (sw0 []) ?_
             refine dt 8 511 rfl trivial (y_move rfl) (sw0 []) ?_
             refine dk 9 1023 rfl (sk1 rfl rfl k10_9) (sw0 []) ?_
             refine dk 10 2047 rfl (sk1 rfl rfl k10_9) (sw0 []) ?_
             refine dk 11 4095 rfl (sk1 rfl rfl k10_9) (sw0 []) ?_
             refine dk 12 8191 rfl (sku rfl rfl) (sw0 []) ?_
             refine dk 13 16383 rfl (sku rfl rfl) (sw0 []) ?_
             refine dk 14 32767 rfl (sku rfl rfl) (sw0 []) ?_
             refine dk 15 65535 rfl (sku rfl rfl) (sw0 []) ?_
             refine dk 16 131071 rfl (sku rfl rfl) (sw0 []) ?_
             refine dk 17 262143 rfl (sku rfl rfl) (sw0 []) ?_
             refine dk 18 524287 rfl (sku rfl rfl) (sw0 []) ?_
             refine dk 19 1048575 rfl (sku rfl rfl) (sw0 []) ?_
             refine dk 20 2097151 rfl (sku rfl rfl) (sw0 []) ?_
             refine dk 21 4194303 rfl (sku rfl rfl) (sw0 []) ?_
             refine dk 22 8388607 rfl (sk1 rfl rfl k10_9) (sw0 []) ?_
             refine dt 23 16777215 rfl trivial (y_pick_f rfl k10_9 rfl) (sw0 []) ?_
             refine dt 24 33554431 rfl trivial (y_assign rfl) (sw0 []) ?_
             refine d_done (by kernel_rfl) ?_
             refine a_en [(1, .pointer (some ⟨b0_0, 0, none⟩)), (3, .bool false), (4, .int .i64 yj3_4), (5, .pointer (some ⟨b5_5, 0, none⟩)), (6, .int .i64 yj8_6), (54, .int .i64 yj8_6), (55, .pointer (some ⟨b5_5, 0 + 0, none⟩)), (56, .pointer (some ⟨b5_5, 0 + 0 + (yj8_6).toNat * 1, none⟩)), (57, .int .i64 x10_4), (58, .bool x10_6), (61, undef), (62, undef), (63, undef), (64, undef), (65, undef), (66, undef), (67, undef), (68, undef), (69, undef), (70, undef), (71, undef), (72, undef), (73, undef), (74, undef)] ?_
             refine a_cut ?_
             intro a_ w_ ha_ hs_
             exact ⟨false, Option.some.inj hm, ha_.weaken ⟨rfl, rfl, rfl, rfl, rfl, trivial⟩, hs_.reix [] (by decide)⟩
           have hm := cond_f k10_2 hm
           refine d_region (S := Sw Hb5_5 []) (n := 25) (listed := (bits 25 0)) mixed (by kernel_rfl) rfl (by kernel_rfl) ?_
           refine dt 0 1 rfl trivial (y_move rfl) (sw0 []) ?_
           refine dt 1 3 rfl trivial (y_move rfl) (sw0 []) ?_
           refine dk 2 7 rfl (sk1 rfl rfl k10_2) (sw0 []) ?_
           refine dk 3 15 rfl (sk1 rfl rfl k10_2) (sw0 []) ?_
           refine dk 4 31 rfl (sk1 rfl rfl k10_2) (sw0 []) ?_
           refine dk 5 63 rfl (sk1 rfl rfl k10_2) (sw0 []) ?_
           refine d1 6 rfl (p_skip (sk1 rfl rfl k10_2) rfl rfl ?_)
           refine dn 127 (sw0 []) ?_
           refine dt 7 255 rfl trivial (y_pick_f rfl k10_2 rfl) (sw0 []) ?_
           refine dt 8 511 rfl trivial (y_move rfl) (sw0 []) ?_
           refine dk 9 1023 rfl (sk1 rfl rfl rfl) (sw0 []) ?_
           refine dk 10 2047 rfl (sk1 rfl rfl rfl) (sw0 []) ?_
           refine dk 11 4095 rfl (sk1 rfl rfl rfl) (sw0 []) ?_
           refine dk 12 8191 rfl (sku rfl rfl) (sw0 []) ?_
           refine dk 13 16383 rfl (sku rfl rfl) (sw0 []) ?_
           refine dk 14 32767 rfl (sku rfl rfl) (sw0 []) ?_
           refine dk 15 65535 rfl (sku rfl rfl) (sw0 []) ?_
           refine dk 16 131071 rfl (sku rfl rfl) (sw0 []) ?_
           refine dk 17 262143 rfl (sku rfl rfl) (sw0 []) ?_
           refine dk 18 524287 rfl (sku rfl rfl) (sw0 []) ?_
           refine dk 19 1048575 rfl (sku rfl rfl) (sw0 []) ?_
           refine dk 20 2097151 rfl (sku rfl rfl) (sw0 []) ?_
           refine dk 21 4194303 rfl (sku rfl rfl) (sw0 []) ?_
           refine dk 22 8388607 rfl (sk1 rfl rfl rfl) (sw0 []) ?_
           refine dt 23 16777215 rfl trivial (y_pick_f rfl rfl rfl) (sw0 []) ?_
           refine dt 24 33554431 rfl trivial (y_assign rfl) (sw0 []) ?_
           refine d_done (by kernel_rfl) ?_
           refine a_en [(1, .pointer (some ⟨b0_0, 0, none⟩)), (3, .bool false), (4, .int .i64 yj3_4), (5, .pointer (some ⟨b5_5, 0, none⟩)), (6, .int .i64 yj8_6), (54, undef), (55, undef), (56, undef), (57, undef), (58, undef), (61, undef), (62, undef), (63, undef), (64, undef), (65, undef), (66, undef), (67, undef), (68, undef), (69, undef), (70, undef), (71, undef), (72, undef), (73, undef), (74, undef)] ?_
           refine a_cut ?_
           intro a_ w_ ha_ hs_
           exact ⟨false, Option.some.inj hm, ha_.weaken ⟨rfl, rfl, rfl, rfl, rfl, trivial⟩, hs_.reix [] (by decide)⟩
         have hm := hm_j10
         rintro a_ w_ ⟨yj10_3, rfl, ha_, hs_⟩
         try dsimp only at hm
         refine a_start ha_ hs_ (a_block_normal (a_then (a_region rfl (ap (y_move rfl) (ap (y_add rfl rfl) (ap (y_assign rfl) (a_nil (a_en [(1, .pointer (some ⟨b0_0, 0, none⟩)), (3, .bool yj10_3), (4, .int .i64 yj3_4), (5, .pointer (some ⟨b5_5, 0, none⟩)), (6, .int .i64 (IntKind.i64.wrap (yj8_6 + 1)))] ?_))))))))
         refine a_then ?_
         intro a_ w_ ha_ hs_
         exact ⟨n_j8, Nat.lt_succ_self _, yj10_3, IntKind.i64.wrap (yj8_6 + 1), hm, ha_.weaken ⟨rfl, rfl, rfl, rfl, rfl, trivial⟩, hs_.reix [] (by decide)⟩
       have hm := cond_f k_9 hm
       refine a_exit (a_then_exit (a_then_exit (a_block_hit (a_cut ?_))))
       intro a_ w_ ha_ hs_
       exact ⟨yj8_3, Option.some.inj hm, ha_.weaken ⟨rfl, rfl, rfl, trivial⟩, hs_.reix [] (by decide)⟩
     have hm := hm_j7
     rintro a_ w_ ⟨yj7_3, rfl, ha_, hs_⟩
     try dsimp only at hm
     refine a_start ha_ hs_ (a_block_normal (a_then (a_region rfl (ap (y_move rfl) (ap (y_add rfl rfl) (ap (y_assign rfl) (a_nil (a_en [(1, .pointer (some ⟨b0_0, 0, none⟩)), (3, .bool yj7_3), (4, .int .i64 (IntKind.i64.wrap (yj3_4 + 1)))] ?_))))))))
     refine a_then ?_
     intro a_ w_ ha_ hs_
     exact ⟨n_j3, Nat.lt_succ_self _, Hb5_5, (lj3.trans lb5_5), yj7_3, IntKind.i64.wrap (yj3_4 + 1), hm, ha_.weaken ⟨rfl, rfl, rfl, trivial⟩, hs_.reix [] (by decide)⟩
   have hm := cond_f k_5 hm
   refine a_exit (a_then_exit (a_then_exit (a_block_hit (a_cut ?_))))
   intro a_ w_ ha_ hs_
   exact ⟨Hj3, lj3, yj3_3, Option.some.inj hm, ha_.weaken ⟨rfl, rfl, trivial⟩, hs_.reix [] (by decide)⟩
 have hm := hm_j2
 rintro a_ w_ ⟨Hj2, lj2, yj2_3, rfl, ha_, hs_⟩
 try dsimp only at hm
 refine a_start ha_ hs_ ?_
 have hb0_0 := PAt.mono lj2 hb0_0
 refine a_then (a_seq (a_seq (a_region rfl (ap (y_assign rfl) (a_nil (a_then ?_))))))
 obtain ⟨s_j11, hs_j11, hm_j11⟩ := bind_some hm
 refine a_join (fun a_ w_ => ∃ (Hj11 : Hp), ∃ (_ : HLe Hj2 Hj11), ∃ (yj11_3 : Bool), yj11_3 = s_j11 ∧ Ag 121 [] [(3, .bool yj11_3)] a_ ∧ St (Kp.mk w H noX) Hj11 [] w_) ?_ ?_
 · have hm := hs_j11
   refine a_block ?_
   refine a_loop (fun n_j12 a_ w_ => ∃ (Hj12 : Hp), ∃ (_ : HLe Hj2 Hj12), ∃ (yj12_3 : Bool), ∃ (yj12_7 : Int), ref03_Check_lj12 k p0 n_j12 yj12_3 yj12_7 = some s_j11 ∧ Ag 121 [] [(1, .pointer (some ⟨b0_0, 0, none⟩)), (3, .bool yj12_3), (7, .int .i64 yj12_7)] a_ ∧ St (Kp.mk w H noX) Hj12 [] w_) k ?_ ?_
   · intro a_ w_ ha_ hs_
     exact ⟨Hj2, (HLe.refl _), yj2_3, 0, hm, ha_.weaken ⟨rfl, rfl, rfl, trivial⟩, hs_.reix [] (by decide)⟩
   rintro (_ | n_j12) a_ w_ ⟨Hj12, lj12, yj12_3, yj12_7, hm, ha_, hs_⟩
   · rw [ref03_Check_lj12.eq_1] at hm; cases hm
   rw [ref03_Check_lj12.eq_2] at hm
   refine a_start ha_ hs_ ?_
   have hb0_0 := PAt.mono lj12 hb0_0
   refine a_seq (a_seq ?_)
   obtain ⟨s_j13, hs_j13, hm_j13⟩ := bind_some hm
   refine a_join (fun a_ w_ => ∃ (yj13_83 : Bool), yj13_83 = s_j13 ∧ Ag 121 [] [(1, .pointer (some ⟨b0_0, 0, none⟩)), (3, .bool yj12_3), (7, .int .i64 yj12_7), (83, .bool yj13_83)] a_ ∧ St (Kp.mk w H noX) Hj12 [] w_) ?_ ?_
   · have hm := hs_j13
     refine a_region rfl (ap (y_move rfl) (ap (y_move rfl) ?_))
     rcases Bool.eq_false_or_eq_true (yj12_3) with k12_2 | k12_2
     · have hm := cond_t k12_2 hm
       refine ag ⟨_, _, rfl, rfl, k12_2⟩ (y_move rfl) ?_
       have h12_3 := TunnelBook.at_Frames hb0_0
       refine ag ⟨_, _, rfl, rfl, k12_2⟩ (y_fieldAddr fo25_1 rfl) ?_
       obtain ⟨v12_4, h12_4, c12_4⟩ := PAt.sl h12_3
       refine ag ⟨_, _, rfl, rfl, k12_2⟩ (y_load_one ty23 rfl (fun _ h => h.sub) rfl c12_4) ?_
       refine ag ⟨_, _, rfl, rfl, k12_2⟩ (y_len_sl Tryd.underlying23 rfl h12_4) ?_
       refine ag ⟨_, _, rfl, rfl, k12_2⟩ (y_lss rfl rfl) ?_
       refine ap (y_pick_t rfl k12_2 rfl) (a_nil (a_en [(1, .pointer (some ⟨b0_0, 0, none⟩)), (3, .bool yj12_3), (7, .int .i64 yj12_7), (78, .int .i64 yj12_7), (79, .pointer (some ⟨b0_0, 0 + 1, none⟩)), (80, v12_4), (81, .int .i64 (p0.Frames.length : Int)), (82, .bool (decide (yj12_7 < (p0.Frames.length : Int)))), (83, .bool (decide (yj12_7 < (p0.Frames.length : Int))))] ?_))
       refine a_cut ?_
       intro a_ w_ ha_ hs_
       exact ⟨decide (yj12_7 < (p0.Frames.length : Int)), Option.some.inj hm, ha_.weaken ⟨rfl, rfl, rfl, rfl, trivial⟩, hs_.reix [] (by decide)⟩
     have hm := cond_f k12_2 hm
     refine as1 (sk1 rfl rfl k12_2) ?_
     refine as1 (sk1 rfl rfl k12_2) ?_
     refine as1 (sk1 rfl rfl k12_2) ?_
     refine as1 (sk1 rfl rfl k12_2) ?_
     refine as1 (sk1 rfl rfl k12_2) ?_
     refine ap (y_pick_f rfl k12_2 rfl) (a_nil (a_en [(1, .pointer (some ⟨b0_0, 0, none⟩)), (3, .bool yj12_3), (7, .int .i64 yj12_7), (78, undef), (79, undef), (80, undef), (81, undef), (82, undef), (83, .bool false)] ?_))
     refine a_cut ?_
     intro a_ w_ ha_ hs_
     exact ⟨false, Option.some.inj hm, ha_.weaken ⟨rfl, rfl, rfl, rfl, trivial⟩, hs_.reix [] (by decide)⟩
   have hm := hm_j13
   rintro a_ w_ ⟨yj13_83, rfl, ha_, hs_⟩
   try dsimp only at hm
   refine a_start ha_ hs_ (a_then ?_)
   refine a_cond rfl (fun k_14 => ?_) (fun k_14 => ?_)
   · have hm := cond_t k_14 hm
     refine a_skip (a_then (a_seq (a_block (a_seq (a_region rfl ?_)))))
     have h14_0 := TunnelBook.at_Frames hb0_0
     refine ap (y_fieldAddr fo25_1 rfl) ?_
     obtain ⟨v14_1, h14_1, c14_1⟩ := PAt.sl h14_0
     refine ap (y_load_one ty23 rfl (fun _ h => h.sub) rfl c14_1) ?_
     refine ap (y_move rfl) ?_
     obtain ⟨x14_3, q14_3, hm⟩ := bind_some hm
     obtain ⟨b14_3, o14_3, c14_3, e14_3, h14_3⟩ := Sl.elemZ 3 rfl h14_1 q14_3
     refine ap (y_index Tryd.underlying23 ty55 rfl e14_3 rfl (nth_in q14_3)) ?_
     obtain ⟨u14_4, h14_4, c14_4⟩ := PAt.one h14_3
     refine ap (y_load_cells ty55 rfl (fun _ h => h.sub) rfl c14_4 (Rp.len h14_4)) ?_
     refine a_cons (e_alloc (cs := [.slice none 0 0, .int .i64 0, .int .i64 0]) trivial rfl ty55 rfl ?_)
     intro b14_5
     refine a_cons (e_storeWhole (i := 0) (ds := u14_4) trivial ty55 rfl rfl rfl rfl (Rp.len h14_4) ((Rp.one h14_4)) rfl (a_nil (a_freeze (α := TunnelFrame) (x := x14_3) (i := 0) rfl h14_4 ?_)))
     intro Hb14_5 lb14_5 hb14_5
     have hb0_0 := PAt.mono lb14_5 hb0_0
     have h14_0 := PAt.mono lb14_5 h14_0
     have h14_1 := Sl.mono lb14_5 h14_1
     have h14_3 := PAt.mono lb14_5 h14_3
     have h14_4 := Rp.mono lb14_5 h14_4
     refine a_en [(1, .pointer (some ⟨b0_0, 0, none⟩)), (7, .int .i64 yj12_7), (8, .pointer (some ⟨b14_5, 0, none⟩))] ?_
     refine a_own [] (by decide) (L' := []) rfl ?_
     refine a_then (a_seq ?_)
     obtain ⟨s_j15, hs_j15, hm_j15⟩ := bind_some hm
     refine a_join (fun a_ w_ => ∃ (yj15_3 : Bool), yj15_3 = s_j15 ∧ Ag 121 [] [(1, .pointer (some ⟨b0_0, 0, none⟩)), (3, .bool yj15_3), (7, .int .i64 yj12_7), (8, .pointer (some ⟨b14_5, 0, none⟩))] a_ ∧ St (Kp.mk w H noX) Hb14_5 [] w_) ?_ ?_
     · have hm := hs_j15
       refine a_region rfl ?_
       have h15_0 := TunnelFrame.at_Stay hb14_5
       refine ap (y_fieldAddr fo55_0 rfl) ?_
       obtain ⟨v15_1, h15_1, c15_1⟩ := PAt.sl h15_0
       refine ap (y_load_one ty26 rfl (fun _ h => h.sub) rfl c15_1) ?_
       refine ap (y_len_sl Tryd.underlying26 rfl h15_1) ?_
       have h15_3 := TunnelBook.at_Parts hb0_0
       refine ap (y_fieldAddr fo25_0 rfl) ?_
       obtain ⟨v15_4, h15_4, c15_4⟩ := PAt.sl h15_3
       refine ap (y_load_one ty22 rfl (fun _ h => h.sub) rfl c15_4) ?_
       refine ap (y_len_sl Tryd.underlying22 rfl h15_4) (ap (y_eql rfl rfl) (ap (y_move rfl) ?_))
       rcases Bool.eq_false_or_eq_true ((x14_3.Stay.length : Int) == (p0.Parts.length : Int)) with k15_8 | k15_8
       · have hm := cond_t k15_8 hm
         have h15_8 := TunnelFrame.at_Need hb14_5
         refine ag ⟨_, _, rfl, rfl, k15_8⟩ (y_fieldAddr fo55_1 rfl) ?_
         obtain ⟨u15_9, h15_9, c15_9⟩ := PAt.one h15_8
         refine ag ⟨_, _, rfl, rfl, k15_8⟩ (y_load_cells ty32 rfl (fun _ h => h.sub) rfl c15_9 (Rp.len h15_9)) ?_
         obtain ⟨x15_10, q15_10, hm⟩ := bind_some hm
         refine a_cons (e_callV (all := [.agg u15_9.toArray, .int .i64 0, .int .i64 999]) (v := .bool x15_10) ⟨_, _, rfl, rfl, k15_8⟩ rfl Tryd.func87 rfl rfl rfl rfl rfl (fun w hw => ok_87 hw h15_9 q15_10) ?_)
         refine ap (y_pick_t rfl k15_8 rfl) (ap (y_assign rfl) (a_nil (a_en [(1, .pointer (some ⟨b0_0, 0, none⟩)), (3, .bool x15_10), (7, .int .i64 yj12_7), (8, .pointer (some ⟨b14_5, 0, none⟩)), (99, .pointer (some ⟨b14_5, 0 + 1, none⟩)), (100, .agg u15_9.toArray), (101, .bool x15_10)] ?_)))
         refine a_cut ?_
         intro a_ w_ ha_ hs_
         exact ⟨x15_10, Option.some.inj hm, ha_.weaken ⟨rfl, rfl, rfl, rfl, trivial⟩, hs_.reix [] (by decide)⟩
       have hm := cond_f k15_8 hm
       refine as1 (sk1 rfl rfl k15_8) ?_
       refine as1 (sk1 rfl rfl k15_8) ?_
       refine as1 (sk1 rfl rfl k15_8) ?_
       refine ap (y_pick_f rfl k15_8 rfl) (ap (y_assign rfl) (a_nil (a_en [(1, .pointer (some ⟨b0_0, 0, none⟩)), (3, .bool false), (7, .int .i64 yj12_7), (8, .pointer (some ⟨b14_5, 0, none⟩)), (99, undef), (100, undef), (101, undef)] ?_)))
       refine a_cut ?_
       intro a_ w_ ha_ hs_
       exact ⟨false, Option.some.inj hm, ha_.weaken ⟨rfl, rfl, rfl, rfl, trivial⟩, hs_.reix [] (by decide)⟩
     have hm := hm_j15
     rintro a_ w_ ⟨yj15_3, rfl, ha_, hs_⟩
     try dsimp only at hm
     refine a_start ha_ hs_ (a_then (a_seq (a_region rfl (ap (y_assign rfl) (a_nil (a_then ?_))))))
     obtain ⟨s_j16, hs_j16, hm_j16⟩ := bind_some hm
     refine a_join (fun a_ w_ => ∃ (yj16_3 : Bool), yj16_3 = s_j16 ∧ Ag 121 [] [(1, .pointer (some ⟨b0_0, 0, none⟩)), (3, .bool yj16_3), (7, .int .i64 yj12_7)] a_ ∧ St (Kp.mk w H noX) Hb14_5 [] w_) ?_ ?_
     · have hm := hs_j16
       refine a_block ?_
       refine a_loop (fun n_j17 a_ w_ => ∃ (yj17_3 : Bool), ∃ (yj17_9 : Int), ref03_Check_lj17 k x14_3 n_j17 yj17_3 yj17_9 = some s_j16 ∧ Ag 121 [] [(1, .pointer (some ⟨b0_0, 0, none⟩)), (3, .bool yj17_3), (7, .int .i64 yj12_7), (8, .pointer (some ⟨b14_5, 0, none⟩)), (9, .int .i64 yj17_9)] a_ ∧ St (Kp.mk w H noX) Hb14_5 [] w_) k ?_ ?_
       · intro a_ w_ ha_ hs_
         exact ⟨yj15_3, 0, hm, ha_.weaken ⟨rfl, rfl, rfl, rfl, rfl, trivial⟩, hs_.reix [] (by decide)⟩
       rintro (_ | n_j17) a_ w_ ⟨yj17_3, yj17_9, hm, ha_, hs_⟩
       · rw [ref03_Check_lj17.eq_1] at hm; cases hm
       rw [ref03_Check_lj17.eq_2] at hm
       refine a_start ha_ hs_ (a_seq (a_seq ?_))
       obtain ⟨s_j18, hs_j18, hm_j18⟩ := bind_some hm
       refine a_join (fun a_ w_ => ∃ (yj18_110 : Bool), yj18_110 = s_j18 ∧ Ag 121 [] [(1, .pointer (some ⟨b0_0, 0, none⟩)), (3, .bool yj17_3), (7, .int .i64 yj12_7), (8, .pointer (some ⟨b14_5, 0, none⟩)), (9, .int .i64 yj17_9), (110, .bool yj18_110)] a_ ∧ St (Kp.mk w H noX) Hb14_5 [] w_) ?_ ?_
       · have hm := hs_j18
         refine a_region rfl (ap (y_move rfl) (ap (y_move rfl) ?_))
         rcases Bool.eq_false_or_eq_true (yj17_3) with k17_2 | k17_2
         · have hm := cond_t k17_2 hm
           refine ag ⟨_, _, rfl, rfl, k17_2⟩ (y_move rfl) ?_
           have h17_3 := TunnelFrame.at_Stay hb14_5
           refine ag ⟨_, _, rfl, rfl, k17_2⟩ (y_fieldAddr fo55_0 rfl) ?_
           obtain ⟨v17_4, h17_4, c17_4⟩ := PAt.sl h17_3
           refine ag ⟨_, _, rfl, rfl, k17_2⟩ (y_load_one ty26 rfl (fun _ h => h.sub) rfl c17_4) ?_
           refine ag ⟨_, _, rfl, rfl, k17_2⟩ (y_len_sl Tryd.underlying26 rfl h17_4) ?_
           refine ag ⟨_, _, rfl, rfl, k17_2⟩ (y_lss rfl rfl) ?_
           refine ap (y_pick_t rfl k17_2 rfl) (a_nil (a_en [(1, .pointer (some ⟨b0_0, 0, none⟩)), (3, .bool yj17_3), (7, .int .i64 yj12_7), (8, .pointer (some ⟨b14_5, 0, none⟩)), (9, .int .i64 yj17_9), (105, .int .i64 yj17_9), (106, .pointer (some ⟨b14_5, 0 + 0, none⟩)), (107, v17_4), (108, .int .i64 (x14_3.Stay.length : Int)), (109, .bool (decide (yj17_9 < (x14_3.Stay.length : Int)))), (110, .bool (decide (yj17_9 < (x14_3.Stay.length : Int))))] ?_))
           refine a_cut ?_
           intro a_ w_ ha_ hs_
           exact ⟨decide (yj17_9 < (x14_3.Stay.length : Int)), Option.some.inj hm, ha_.weaken ⟨rfl, rfl, rfl, rfl, rfl, rfl, trivial⟩, hs_.reix [] (by decide)⟩
         have hm := cond_f k17_2 hm
         refine as1 (sk1 rfl rfl k17_2) ?_
         refine as1 (sk1 rfl rfl k17_2) ?_
         refine as1 (sk1 rfl rfl k17_2) ?_
         refine as1 (sk1 rfl rfl k17_2) ?_
         refine as1 (sk1 rfl rfl k17_2) ?_
         refine ap (y_pick_f rfl k17_2 rfl) (a_nil (a_en [(1, .pointer (some ⟨b0_0, 0, none⟩)), (3, .bool yj17_3), (7, .int .i64 yj12_7), (8, .pointer (some ⟨b14_5, 0, none⟩)), (9, .int .i64 yj17_9), (105, undef), (106, undef), (107, undef), (108, undef), (109, undef), (110, .bool false)] ?_))
         refine a_cut ?_
         intro a_ w_ ha_ hs_
         exact ⟨false, Option.some.inj hm, ha_.weaken ⟨rfl, rfl, rfl, rfl, rfl, rfl, trivial⟩, hs_.reix [] (by decide)⟩
       have hm := hm_j18
       rintro a_ w_ ⟨yj18_110, rfl, ha_, hs_⟩
       try dsimp only at hm
       refine a_start ha_ hs_ (a_then ?_)
       refine a_cond rfl (fun k_19 => ?_) (fun k_19 => ?_)
       · have hm := cond_t k_19 hm
         refine a_skip (a_then (a_seq (a_block (a_region rfl ?_))))
         have h19_0 := TunnelFrame.at_Stay hb14_5
         refine ap (y_fieldAddr fo55_0 rfl) ?_
         obtain ⟨v19_1, h19_1, c19_1⟩ := PAt.sl h19_0
         refine ap (y_load_one ty26 rfl (fun _ h => h.sub) rfl c19_1) ?_
         refine ap (y_move rfl) ?_
         obtain ⟨x19_3, q19_3, hm⟩ := bind_some hm
         obtain ⟨b19_3, o19_3, c19_3, e19_3, h19_3⟩ := Sl.elemZ 1 rfl h19_1 q19_3
         refine ap (y_index Tryd.underlying26 ty3 rfl e19_3 rfl (nth_in q19_3)) (ap (y_load_int ty3 rfl (fun _ h => h.sub) rfl h19_3) ?_)
         obtain ⟨x19_5, q19_5, hm⟩ := bind_some hm
         refine a_cons (e_callV (all := [.int .i64 x19_3, .int .i64 0, .int .i64 20]) (v := .bool x19_5) trivial rfl Tryd.func50 rfl rfl rfl rfl rfl (fun w hw => ok_50 hw q19_5) ?_)
         refine ap (y_assign rfl) (a_nil (a_en [(1, .pointer (some ⟨b0_0, 0, none⟩)), (3, .bool x19_5), (7, .int .i64 yj12_7), (8, .pointer (some ⟨b14_5, 0, none⟩)), (9, .int .i64 yj17_9)] ?_))
         refine a_block_normal (a_then (a_region rfl (ap (y_move rfl) (ap (y_add rfl rfl) (ap (y_assign rfl) (a_nil (a_en [(1, .pointer (some ⟨b0_0, 0, none⟩)), (3, .bool x19_5), (7, .int .i64 yj12_7), (8, .pointer (some ⟨b14_5, 0, none⟩)), (9, .int .i64 (IntKind.i64.wrap (yj17_9 + 1)))] ?_)))))))
         refine a_then ?_
         intro a_ w_ ha_ hs_
         exact ⟨n_j17, Nat.lt_succ_self _, x19_5, IntKind.i64.wrap (yj17_9 + 1), hm, ha_.weaken ⟨rfl, rfl, rfl, rfl, rfl, trivial⟩, hs_.reix [] (by decide)⟩
       have hm := cond_f k_19 hm
       refine a_exit (a_then_exit (a_then_exit (a_block_hit (a_cut ?_))))
       intro a_ w_ ha_ hs_
       exact ⟨yj17_3, Option.some.inj hm, ha_.weaken ⟨rfl, rfl, rfl, trivial⟩, hs_.reix [] (by decide)⟩
     have hm := hm_j16
     rintro a_ w_ ⟨yj16_3, rfl, ha_, hs_⟩
     try dsimp only at hm
     refine a_start ha_ hs_ (a_block_normal (a_then (a_region rfl (ap (y_move rfl) (ap (y_add rfl rfl) (ap (y_assign rfl) (a_nil (a_en [(1, .pointer (some ⟨b0_0, 0, none⟩)), (3, .bool yj16_3), (7, .int .i64 (IntKind.i64.wrap (yj12_7 + 1)))] ?_))))))))
     refine a_then ?_
     intro a_ w_ ha_ hs_
     exact ⟨n_j12, Nat.lt_succ_self _, Hb14_5, (lj12.trans lb14_5), yj16_3, IntKind.i64.wrap (yj12_7 + 1), hm, ha_.weaken ⟨rfl, rfl, rfl, trivial⟩, hs_.reix [] (by decide)⟩
   have hm := cond_f k_14 hm
   refine a_exit (a_then_exit (a_then_exit (a_block_hit (a_cut ?_))))
   intro a_ w_ ha_ hs_
   exact ⟨Hj12, lj12, yj12_3, Option.some.inj hm, ha_.weaken ⟨rfl, trivial⟩, hs_.reix [] (by decide)⟩
 have hm := hm_j11
 rintro a_ w_ ⟨Hj11, lj11, yj11_3, rfl, ha_, hs_⟩
 try dsimp only at hm
 refine a_start ha_ hs_ (a_then (a_seq (a_seq (a_region rfl (ap (y_move rfl) (ap (y_not rfl) (a_nil (a_en [(120, .bool (!yj11_3))] ?_))))))))
 refine a_then ?_
 refine a_cond rfl (fun k_20 => ?_) (fun k_20 => ?_)
 · have hm := cond_t k_20 hm
   refine a_seq (a_region rfl (ap (y_assign rfl) (a_nil (a_en [(2, .int .i64 30)] ?_))))
   refine a_then (a_ret (a_then_ret ?_))
   refine a_done (v := .int .i64 30) (.inl rfl) rfl ?_ ?_
   · intro a_ w_ ha_ hs_; exact run_results (P := Tryd.prog) (fn := Tryd.f22) (rs := [.tmp 2]) (vs := [.int .i64 30]) rfl (.cons (rv_tmp ha_ rfl) (All2.nil))
   · intro _ _; obtain rfl := Option.some.inj hm
     rfl
 have hm := cond_f k_20 hm
 refine a_skip (a_then (a_seq (a_region rfl (ap (y_assign rfl) (a_nil (a_en [(2, .int .i64 0)] ?_))))))
 refine a_then (a_ret ?_)
 refine a_done (v := .int .i64 0) (.inl rfl) rfl ?_ ?_
 · intro a_ w_ ha_ hs_; exact run_results (P := Tryd.prog) (fn := Tryd.f22) (rs := [.tmp 2]) (vs := [.int .i64 0]) rfl (.cons (rv_tmp ha_ rfl) (All2.nil))
 · intro _ _; obtain rfl := Option.some.inj hm
   rfl

def ref03_asked (k : Nat) (p0 : TunnelBook) (p1 : Bool) : Option Int :=
 (ref03_Check k p0).bind fun x1_1 =>
 bif x1_1 != 0 then
 some (x1_1)
 else
 bif !p1 then
 some (31)
 else
 some (0)
theorem ok_82 {k : Nat} {H : Hp} {w : World} {p0 : TunnelBook} {p1 : Bool} {c0 : List Value} {r : Int} (hsub : Sub H w) (h0 : Rp.rep (α := TunnelBook) H c0 p0) (hm : ref03_asked k p0 p1 = some r) : Calls Tryd.prog 82 [.agg c0.toArray, .bool p1].toArray w (PostV w H (.int .i64 r)) := by
 unfold ref03_asked at hm
 refine start (n := 13) (E := [(0, .agg c0.toArray), (1, .bool p1)]) Tryd.func82 rfl rfl ⟨rfl, rfl, trivial⟩ rfl hsub ?_
 refine a_seq (a_region rfl (a_cons (e_box (cs := c0) trivial rfl rfl rfl ?_)))
 intro b0_0
 refine ap (y_assign rfl) (a_nil (a_freeze (α := TunnelBook) (x := p0) (i := 0) rfl h0 ?_))
 intro Hb0_0 lb0_0 hb0_0
 have h0 := Rp.mono lb0_0 h0
 refine a_en [(1, .bool p1), (2, .pointer (some ⟨b0_0, 0, none⟩))] ?_
 refine a_own [] (by decide) (L' := []) rfl ?_
 refine a_then (a_seq (a_seq (a_region rfl ?_)))
 obtain ⟨u1_0, h1_0, c1_0⟩ := PAt.one hb0_0
 refine ap (y_load_cells ty25 rfl (fun _ h => h.sub) rfl c1_0 (Rp.len h1_0)) ?_
 obtain ⟨x1_1, q1_1, hm⟩ := bind_some hm
 refine a_cons (e_callV (all := [.agg u1_0.toArray]) (v := .int .i64 x1_1) trivial rfl Tryd.func22 rfl rfl rfl rfl rfl (fun w hw => ok_22 hw h1_0 q1_1) ?_)
 refine ap (y_assign rfl) (a_nil (a_en [(1, .bool p1), (5, .int .i64 x1_1)] ?_))
 refine a_then (a_seq (a_region rfl (ap (y_move rfl) (ap (y_neq rfl rfl) (a_nil (a_en [(1, .bool p1), (5, .int .i64 x1_1), (9, .bool (x1_1 != 0))] ?_))))))
 refine a_then ?_
 refine a_cond rfl (fun k_1 => ?_) (fun k_1 => ?_)
 · have hm := cond_t k_1 hm
   refine a_seq (a_region rfl (ap (y_move rfl) (ap (y_assign rfl) (a_nil (a_en [(4, .int .i64 x1_1)] ?_)))))
   refine a_then (a_ret (a_then_ret ?_))
   refine a_done (v := .int .i64 x1_1) (.inl rfl) rfl ?_ ?_
   · intro a_ w_ ha_ hs_; exact run_results (P := Tryd.prog) (fn := Tryd.f82) (rs := [.tmp 4]) (vs := [.int .i64 x1_1]) rfl (.cons (rv_tmp ha_ rfl) (All2.nil))
   · intro _ _; obtain rfl := Option.some.inj hm
     rfl
 have hm := cond_f k_1 hm
 refine a_skip (a_then (a_seq (a_seq (a_region rfl (ap (y_move rfl) (ap (y_not rfl) (a_nil (a_en [(12, .bool (!p1))] ?_))))))))
 refine a_then ?_
 refine a_cond rfl (fun k_2 => ?_) (fun k_2 => ?_)
 · have hm := cond_t k_2 hm
   refine a_seq (a_region rfl (ap (y_assign rfl) (a_nil (a_en [(4, .int .i64 31)] ?_))))
   refine a_then (a_ret (a_then_ret ?_))
   refine a_done (v := .int .i64 31) (.inl rfl) rfl ?_ ?_
   · intro a_ w_ ha_ hs_; exact run_results (P := Tryd.prog) (fn := Tryd.f82) (rs := [.tmp 4]) (vs := [.int .i64 31]) rfl (.cons (rv_tmp ha_ rfl) (All2.nil))
   · intro _ _; obtain rfl := Option.some.inj hm
     rfl
 have hm := cond_f k_2 hm
 refine a_skip (a_then (a_seq (a_region rfl (ap (y_assign rfl) (a_nil (a_en [(4, .int .i64 0)] ?_))))))
 refine a_then (a_ret ?_)
 refine a_done (v := .int .i64 0) (.inl rfl) rfl ?_ ?_
 · intro a_ w_ ha_ hs_; exact run_results (P := Tryd.prog) (fn := Tryd.f82) (rs := [.tmp 4]) (vs := [.int .i64 0]) rfl (.cons (rv_tmp ha_ rfl) (All2.nil))
 · intro _ _; obtain rfl := Option.some.inj hm
   rfl

def ref00_Only (k : Nat) (p0 : Int) : Option Span :=
 (ref00_Sp k p0 p0).bind fun x1_2 =>
 some (x1_2)
theorem ok_51 {k : Nat} {H : Hp} {w : World} {p0 : Int} {r : Span} (hsub : Sub H w)  (hm : ref00_Only k p0 = some r) : Calls Tryd.prog 51 [.int .i64 p0].toArray w (PostV w H (.agg r.cells.toArray)) := by
 unfold ref00_Only at hm
 refine start (n := 6) (E := [(0, .int .i64 p0)]) Tryd.func51 rfl rfl ⟨rfl, trivial⟩ rfl hsub ?_
 refine a_seq (a_region rfl (a_cons (e_alloc (cs := [.int .i64 0, .int .i64 0]) trivial rfl ty32 rfl ?_)))
 intro b0_0
 refine a_nil (a_then (a_seq (a_region rfl (ap (y_move rfl) (ap (y_move rfl) ?_)))))
 obtain ⟨x1_2, q1_2, hm⟩ := bind_some hm
 refine a_cons (e_callV (all := [.int .i64 p0, .int .i64 p0]) (v := .agg x1_2.cells.toArray) trivial rfl Tryd.func53 rfl rfl rfl rfl rfl (fun w hw => ok_53 hw q1_2) ?_)
 refine a_cons (e_storeWhole (i := 0) (ds := x1_2.cells) trivial ty32 rfl rfl rfl rfl rfl ((Rp.one (Span.rep_mk (fun _ => none) x1_2))) rfl ?_)
 refine a_nil (a_freeze (α := Span) (x := x1_2) (i := 0) rfl (Span.rep_mk _ x1_2) ?_)
 intro Hb0_0 lb0_0 hb0_0
 refine a_en [(2, .pointer (some ⟨b0_0, 0, none⟩))] ?_
 refine a_own [] (by decide) (L' := []) rfl ?_
 refine a_then (a_ret ?_)
 obtain ⟨ce2, re2, le2⟩ := PAt.one hb0_0
 refine a_done (v := .agg ce2.toArray) (.inl rfl) rfl ?_ ?_
 · intro a_ w_ ha_ hs_; exact run_results (P := Tryd.prog) (fn := Tryd.f51) (rs := [.cell 2 32]) (vs := [.agg ce2.toArray]) rfl (.cons (rv_cell ha_ rfl (run_loadVar_agg ty32 rfl (le2 _ hs_.sub) (Rp.len re2))) (All2.nil))
 · intro _ _; obtain rfl := Option.some.inj hm
   rw [Span.rep_eq re2]

def ref03_dries_lj2 (k : Nat) (p0 : TunnelBook) (p1 : List Int) (p2 : TunnelFrame) : Nat → Int → Int → Int → Option (Int × Int)
 | 0, _, _, _ => none
 | n_j2 + 1, yj2_b1_1_0, yj2_b1_1_1, yj2_8 =>
 bif decide (yj2_8 < (p1.length : Int)) then
 (nth p1 yj2_8).bind fun x5_5 =>
 (nth p0.Parts yj2_8).bind fun x5_7 =>
 (nth x5_7.Heat x5_5).bind fun x5_9 =>
 (nth p0.Parts yj2_8).bind fun x5_14 =>
 (nth p2.Stay yj2_8).bind fun x6_5 =>
 (nth p2.Stay yj2_8).bind fun x7_5 =>
 ref03_dries_lj2 k p0 p1 p2 n_j2 (IntKind.i64.wrap (yj2_b1_1_0 + (IntKind.i64.wrap (x6_5 * (max 0 (IntKind.i64.wrap (x5_9 - x5_14.Damp.High))))))) (IntKind.i64.wrap (yj2_b1_1_1 + (IntKind.i64.wrap (x7_5 * (max 0 (IntKind.i64.wrap (x5_9 - x5_14.Damp.Low))))))) (IntKind.i64.wrap (yj2_8 + 1))
 else
 some ((yj2_b1_1_0, yj2_b1_1_1))
def ref03_dries (k : Nat) (p0 : TunnelBook) (p1 : List Int) (p2 : TunnelFrame) : Option Span :=
 (ref00_Only k 0).bind fun x1_0 =>
 (ref03_dries_lj2 k p0 p1 p2 k x1_0.Low x1_0.High 0).bind fun (yj1_b1_1_0, yj1_b1_1_1) =>
 some ((⟨yj1_b1_1_0, yj1_b1_1_1⟩ : Span))
theorem ok_91 {k : Nat} {H : Hp} {w : World} {p0 : TunnelBook} {p1 : List Int} {p2 : TunnelFrame} {c0 : List Value} {v1 : Value} {c2 : List Value} {r : Span} (hsub : Sub H w) (h0 : Rp.rep (α := TunnelBook) H c0 p0) (h1 : Sl (α := Int) H v1 p1) (h2 : Rp.rep (α := TunnelFrame) H c2 p2) (hm : ref03_dries k p0 p1 p2 = some r) : Calls Tryd.prog 91 [.agg c0.toArray, v1, .agg c2.toArray].toArray w (PostV w H (.agg r.cells.toArray)) := by
 unfold ref03_dries at hm
 refine start (n := 66) (E := [(0, .agg c0.toArray), (1, v1), (2, .agg c2.toArray)]) Tryd.func91 rfl rfl ⟨rfl, rfl, rfl, trivial⟩ rfl hsub ?_
 refine a_seq (a_region rfl (a_cons (e_box (cs := c0) trivial rfl rfl rfl ?_)))
 intro b0_0
 refine a_cons (e_box (cs := c2) trivial rfl rfl rfl ?_)
 intro b0_1
 refine a_cons (e_alloc (cs := [.int .i64 0, .int .i64 0]) trivial rfl ty32 rfl ?_)
 intro b0_2
 refine a_nil (a_freeze (α := TunnelFrame) (x := p2) (i := 1) rfl h2 ?_)
 intro Hb0_1 lb0_1 hb0_1
 have h0 := Rp.mono lb0_1 h0
 have h1 := Sl.mono lb0_1 h1
 have h2 := Rp.mono lb0_1 h2
 refine a_freeze (α := TunnelBook) (x := p0) (i := 2) rfl h0 ?_
 intro Hb0_0 lb0_0 hb0_0
 have h0 := Rp.mono lb0_0 h0
 have h1 := Sl.mono lb0_0 h1
 have h2 := Rp.mono lb0_0 h2
 have hb0_1 := PAt.mono lb0_0 hb0_1
 refine a_en [(1, v1), (3, .pointer (some ⟨b0_0, 0, none⟩)), (5, .pointer (some ⟨b0_1, 0, none⟩)), (6, .pointer (some ⟨b0_2, 0, none⟩))] ?_
 refine a_own [0] (by decide) (L' := [.box b0_2 [.int .i64 0, .int .i64 0] 32]) rfl ?_
 refine a_then (a_seq (a_region rfl ?_))
 obtain ⟨x1_0, q1_0, hm⟩ := bind_some hm
 refine a_cons (e_callV (all := [.int .i64 0]) (v := .agg x1_0.cells.toArray) trivial rfl Tryd.func51 rfl rfl rfl rfl rfl (fun w hw => ok_51 hw q1_0) ?_)
 refine a_cons (e_alloc (cs := [.int .i64 0, .int .i64 0]) trivial rfl ty32 rfl ?_)
 intro b1_1
 refine a_cons (e_storeWhole (i := 0) (ds := x1_0.cells) trivial ty32 rfl rfl rfl rfl rfl ((Rp.one (Span.rep_mk (fun _ => none) x1_0))) rfl ?_)
 refine a_nil (a_en [(1, v1), (3, .pointer (some ⟨b0_0, 0, none⟩)), (5, .pointer (some ⟨b0_1, 0, none⟩)), (6, .pointer (some ⟨b0_2, 0, none⟩)), (7, .pointer (some ⟨b1_1, 0, none⟩))] ?_)
 refine a_then (a_seq (a_seq (a_region rfl (ap (y_assign rfl) (a_nil (a_then ?_))))))
 obtain ⟨s_j1, hs_j1, hm_j1⟩ := bind_some hm
 refine a_join (fun a_ w_ => ∃ (Hj1 : Hp), ∃ (_ : HLe Hb0_0 Hj1), ∃ (yj1_b1_1_0 : Int), ∃ (yj1_b1_1_1 : Int), (yj1_b1_1_0, yj1_b1_1_1) = s_j1 ∧ Ag 66 [] [(6, .pointer (some ⟨b0_2, 0, none⟩)), (7, .pointer (some ⟨b1_1, 0, none⟩))] a_ ∧ St (Kp.mk w H noX) Hj1 ([.box b0_2 [.int .i64 0, .int .i64 0] 32, .box b1_1 [.int .i64 yj1_b1_1_0, .int .i64 yj1_b1_1_1] 32]) w_) ?_ ?_
 · have hm := hs_j1
   refine a_block ?_
   refine a_loop (fun n_j2 a_ w_ => ∃ (Hj2 : Hp), ∃ (_ : HLe Hb0_0 Hj2), ∃ (yj2_b1_1_0 : Int), ∃ (yj2_b1_1_1 : Int), ∃ (yj2_8 : Int), ref03_dries_lj2 k p0 p1 p2 n_j2 yj2_b1_1_0 yj2_b1_1_1 yj2_8 = some s_j1 ∧ Ag 66 [] [(1, v1), (3, .pointer (some ⟨b0_0, 0, none⟩)), (5, .pointer (some ⟨b0_1, 0, none⟩)), (6, .pointer (some ⟨b0_2, 0, none⟩)), (7, .pointer (some ⟨b1_1, 0, none⟩)), (8, .int .i64 yj2_8)] a_ ∧ St (Kp.mk w H noX) Hj2 ([.box b0_2 [.int .i64 0, .int .i64 0] 32, .box b1_1 [.int .i64 yj2_b1_1_0, .int .i64 yj2_b1_1_1] 32]) w_) k ?_ ?_
   · intro a_ w_ ha_ hs_
     exact ⟨Hb0_0, (HLe.refl _), x1_0.Low, x1_0.High, 0, hm, ha_.weaken ⟨rfl, rfl, rfl, rfl, rfl, rfl, trivial⟩, hs_.reix [1, 0] (by decide)⟩
   rintro (_ | n_j2) a_ w_ ⟨Hj2, lj2, yj2_b1_1_0, yj2_b1_1_1, yj2_8, hm, ha_, hs_⟩
   · rw [ref03_dries_lj2.eq_1] at hm; cases hm
   rw [ref03_dries_lj2.eq_2] at hm
   refine a_start ha_ hs_ ?_
   have h1 := Sl.mono lj2 h1
   have hb0_0 := PAt.mono lj2 hb0_0
   have hb0_1 := PAt.mono lj2 hb0_1
   refine a_seq (a_seq (a_region rfl (ap (y_move rfl) (ap (y_move rfl) (ap (y_len_sl Tryd.underlying26 rfl h1) (ap (y_lss rfl rfl) (a_nil (a_en [(1, v1), (3, .pointer (some ⟨b0_0, 0, none⟩)), (5, .pointer (some ⟨b0_1, 0, none⟩)), (6, .pointer (some ⟨b0_2, 0, none⟩)), (7, .pointer (some ⟨b1_1, 0, none⟩)), (8, .int .i64 yj2_8), (15, .bool (decide (yj2_8 < (p1.length : Int))))] ?_))))))))
   refine a_then ?_
   refine a_cond rfl (fun k_3 => ?_) (fun k_3 => ?_)
   · have hm := cond_t k_3 hm
     refine a_skip (a_then (a_seq (a_block (a_seq ?_))))
     obtain ⟨x5_5, q5_5, hm⟩ := bind_some hm
     obtain ⟨x5_7, q5_7, hm⟩ := bind_some hm
     obtain ⟨x5_9, q5_9, hm⟩ := bind_some hm
     obtain ⟨x5_14, q5_14, hm⟩ := bind_some hm
     refine d_region (S := Sw Hj2 [.box b0_2 [.int .i64 0, .int .i64 0] 32, .box b1_1 [.int .i64 yj2_b1_1_0, .int .i64 yj2_b1_1_1] 32]) (n := 20) (listed := (bits 20 0)) mixed (by kernel_rfl) rfl (by kernel_rfl) ?_
     have h5_0 := TunnelBook.at_Parts hb0_0
     refine dt 0 1 rfl trivial (y_fieldAddr fo25_0 rfl) (sw0 [0, 1]) ?_
     obtain ⟨v5_1, h5_1, c5_1⟩ := PAt.sl h5_0
     refine dt 1 3 rfl trivial (y_load_one ty22 rfl (fun _ h => h.1) rfl c5_1) (sw0 [0, 1]) ?_
     refine dt 2 7 rfl trivial (y_move rfl) (sw0 [0, 1]) ?_
     refine dt 3 15 rfl trivial (y_move rfl) (sw0 [0, 1]) ?_
     refine dt 4 31 rfl trivial (y_move rfl) (sw0 [0, 1]) ?_
     obtain ⟨b5_5, o5_5, c5_5, e5_5, h5_5⟩ := Sl.elemZ 1 rfl h1 q5_5
     refine dt 5 63 rfl trivial (y_index Tryd.underlying26 ty3 rfl e5_5 rfl (nth_in q5_5)) (sw0 [0, 1]) ?_
     refine dt 6 127 rfl trivial (y_load_int ty3 rfl (fun _ h => h.1) rfl h5_5) (sw0 [0, 1]) ?_
     obtain ⟨b5_7, o5_7, c5_7, e5_7, h5_7⟩ := Sl.elemZ 6 rfl h5_1 q5_7
     refine dt 7 255 rfl trivial (y_index Tryd.underlying22 ty64 rfl e5_7 rfl (nth_in q5_7)) (sw0 [0, 1]) ?_
     have h5_8 := TunnelPart.at_Heat h5_7
     refine dt 8 511 rfl trivial (y_fieldAddr fo64_0 rfl) (sw0 [0, 1]) ?_
     have h5_9 := PAt.arrZ 1 rfl h5_8 q5_9
     have k5_9 := PAt.arrIn h5_8 q5_9
     refine dt 9 1023 rfl trivial (y_index_arrp Tryd.underlying62 ty3 rfl rfl k5_9) (sw0 [0, 1]) ?_
     refine dt 10 2047 rfl trivial (y_load_int ty3 rfl (fun _ h => h.1) rfl h5_9) (sw0 [0, 1]) ?_
     have h5_11 := TunnelBook.at_Parts hb0_0
     refine dt 11 4095 rfl trivial (y_fieldAddr fo25_0 rfl) (sw0 [0, 1]) ?_
     obtain ⟨v5_12, h5_12, c5_12⟩ := PAt.sl h5_11
     refine dt 12 8191 rfl trivial (y_load_one ty22 rfl (fun _ h => h.1) rfl c5_12) (sw0 [0, 1]) ?_
     refine dt 13 16383 rfl trivial (y_move rfl) (sw0 [0, 1]) ?_
     obtain ⟨b5_14, o5_14, c5_14, e5_14, h5_14⟩ := Sl.elemZ 6 rfl h5_12 q5_14
     refine dt 14 32767 rfl trivial (y_index Tryd.underlying22 ty64 rfl e5_14 rfl (nth_in q5_14)) (sw0 [0, 1]) ?_
     have h5_15 := TunnelPart.at_Damp h5_14
     refine dt 15 65535 rfl trivial (y_fieldAddr fo64_1 rfl) (sw0 [0, 1]) ?_
     obtain ⟨u5_16, h5_16, c5_16⟩ := PAt.one h5_15
     refine dt 16 131071 rfl trivial (y_load_cells ty32 rfl (fun _ h => h.1) rfl c5_16 (Rp.len h5_16)) (sw0 [0, 1]) ?_
     refine d1 17 rfl (e_alloc (cs := [.int .i64 0, .int .i64 0]) trivial rfl ty32 rfl ?_)
     intro b5_17
     refine dn 262143 (sw0 [1, 2]) ?_
     refine dt 18 524287 rfl trivial (y_assign rfl) (sw0 [1, 2]) ?_
     refine d1 19 rfl (e_storeWhole (i := 0) (ds := u5_16) trivial ty32 rfl rfl rfl rfl (Rp.len h5_16) ((Rp.one h5_16)) rfl ?_)
     refine dn 1048575 (sw0 [1, 2]) ?_
     refine d_done (by kernel_rfl) ?_
     refine a_freeze (α := Span) (x := x5_14.Damp) (i := 0) rfl h5_16 ?_
     intro Hb5_17 lb5_17 hb5_17
     have h1 := Sl.mono lb5_17 h1
     have hb0_0 := PAt.mono lb5_17 hb0_0
     have hb0_1 := PAt.mono lb5_17 hb0_1
     have h5_0 := PAt.mono lb5_17 h5_0
     have h5_1 := Sl.mono lb5_17 h5_1
     have h5_5 := PAt.mono lb5_17 h5_5
     have h5_7 := PAt.mono lb5_17 h5_7
     have h5_8 := PAt.mono lb5_17 h5_8
     have h5_9 := PAt.mono lb5_17 h5_9
     have h5_11 := PAt.mono lb5_17 h5_11
     have h5_12 := Sl.mono lb5_17 h5_12
     have h5_14 := PAt.mono lb5_17 h5_14
     have h5_15 := PAt.mono lb5_17 h5_15
     have h5_16 := Rp.mono lb5_17 h5_16
     refine a_en [(1, v1), (3, .pointer (some ⟨b0_0, 0, none⟩)), (5, .pointer (some ⟨b0_1, 0, none⟩)), (6, .pointer (some ⟨b0_2, 0, none⟩)), (7, .pointer (some ⟨b1_1, 0, none⟩)), (8, .int .i64 yj2_8), (9, .int .i64 x5_9), (10, .pointer (some ⟨b5_17, 0, none⟩))] ?_
     refine a_own [1, 2] (by decide) (L' := [.box b0_2 [.int .i64 0, .int .i64 0] 32, .box b1_1 [.int .i64 yj2_b1_1_0, .int .i64 yj2_b1_1_1] 32]) rfl ?_
     refine a_then (a_seq ?_)
     obtain ⟨x6_5, q6_5, hm⟩ := bind_some hm
     refine d_region (S := Sw Hb5_17 [.box b0_2 [.int .i64 0, .int .i64 0] 32]) (n := 16) (listed := (bits 16 0)) mixed (by kernel_rfl) rfl (by kernel_rfl) ?_
     refine dt 0 1 rfl trivial (y_fieldAddr fo32_0 rfl) (sw0 [0]) ?_
     have h6_2 := TunnelFrame.at_Stay hb0_1
     refine dt 2 5 rfl trivial (y_fieldAddr fo55_0 rfl) (sw0 [0]) ?_
     obtain ⟨v6_3, h6_3, c6_3⟩ := PAt.sl h6_2
     refine dt 3 13 rfl trivial (y_load_one ty26 rfl (fun _ h => h.1) rfl c6_3) (sw0 [0]) ?_
     refine dt 4 29 rfl trivial (y_move rfl) (sw0 [0]) ?_
     obtain ⟨b6_5, o6_5, c6_5, e6_5, h6_5⟩ := Sl.elemZ 1 rfl h6_3 q6_5
     refine dt 5 61 rfl trivial (y_index Tryd.underlying26 ty3 rfl e6_5 rfl (nth_in q6_5)) (sw0 [0]) ?_
     refine dt 6 125 rfl trivial (y_load_int ty3 rfl (fun _ h => h.1) rfl h6_5) (sw0 [0]) ?_
     refine dt 7 253 rfl trivial (y_move rfl) (sw0 [0]) ?_
     have h6_8 := Span.at_High hb5_17
     refine dt 8 509 rfl trivial (y_fieldAddr fo32_1 rfl) (sw0 [0]) ?_
     refine dt 9 1021 rfl trivial (y_load_int ty3 rfl (fun _ h => h.1) rfl h6_8) (sw0 [0]) ?_
     refine dt 10 2045 rfl trivial (y_sub rfl rfl) (sw0 [0]) ?_
     refine dt 11 4093 rfl trivial (y_max rfl rfl) (sw0 [0]) ?_
     refine dt 12 8189 rfl trivial (y_mul rfl rfl) (sw0 [0]) ?_
     refine d1 1 rfl (p_pure trivial rfl rfl (y_load_box ty3 rfl (knows_box (i := 1) rfl) rfl rfl) ?_)
     refine dn 8191 (sw0 [0]) ?_
     refine dt 13 16383 rfl trivial (y_add rfl rfl) (sw0 [0]) ?_
     refine dt 14 32767 rfl trivial (y_fieldAddr fo32_0 rfl) (sw0 [0]) ?_
     refine d1 15 rfl (e_store (i := 1) (ds := [.int .i64 (IntKind.i64.wrap (yj2_b1_1_0 + (IntKind.i64.wrap (x6_5 * (max 0 (IntKind.i64.wrap (x5_9 - x5_14.Damp.High)))))))]) (cs' := [.int .i64 (IntKind.i64.wrap (yj2_b1_1_0 + (IntKind.i64.wrap (x6_5 * (max 0 (IntKind.i64.wrap (x5_9 - x5_14.Damp.High))))))), .int .i64 yj2_b1_1_1]) trivial ty3 rfl rfl rfl rfl rfl (cells_one_int _) (Nat.le_of_ble_eq_true rfl) rfl ?_)
     refine dn 65535 (sw0 [0]) ?_
     refine d_done (by kernel_rfl) ?_
     refine a_en [(1, v1), (3, .pointer (some ⟨b0_0, 0, none⟩)), (5, .pointer (some ⟨b0_1, 0, none⟩)), (6, .pointer (some ⟨b0_2, 0, none⟩)), (7, .pointer (some ⟨b1_1, 0, none⟩)), (8, .int .i64 yj2_8), (9, .int .i64 x5_9), (10, .pointer (some ⟨b5_17, 0, none⟩))] ?_
     refine a_then ?_
     obtain ⟨x7_5, q7_5, hm⟩ := bind_some hm
     refine d_region (S := Sw Hb5_17 [.box b0_2 [.int .i64 0, .int .i64 0] 32]) (n := 16) (listed := (bits 16 0)) mixed (by kernel_rfl) rfl (by kernel_rfl) ?_
     refine dt 0 1 rfl trivial (y_fieldAddr fo32_1 rfl) (sw0 [0]) ?_
     have h7_2 := TunnelFrame.at_Stay hb0_1
     refine dt 2 5 rfl trivial (y_fieldAddr fo55_0 rfl) (sw0 [0]) ?_
     obtain ⟨v7_3, h7_3, c7_3⟩ := PAt.sl h7_2
     refine dt 3 13 rfl trivial (y_load_one ty26 rfl (fun _ h => h.1) rfl c7_3) (sw0 [0]) ?_
     refine dt 4 29 rfl trivial (y_move rfl) (sw0 [0]) ?_
     obtain ⟨b7_5, o7_5, c7_5, e7_5, h7_5⟩ := Sl.elemZ 1 rfl h7_3 q7_5
     refine dt 5 61 rfl trivial (y_index Tryd.underlying26 ty3 rfl e7_5 rfl (nth_in q7_5)) (sw0 [0]) ?_
     refine dt 6 125 rfl trivial (y_load_int ty3 rfl (fun _ h => h.1) rfl h7_5) (sw0 [0]) ?_
     refine dt 7 253 rfl trivial (y_move rfl) (sw0 [0]) ?_
     have h7_8 := Span.at_Low hb5_17
     refine dt 8 509 rfl trivial (y_fieldAddr fo32_0 rfl) (sw0 [0]) ?_
     refine dt 9 1021 rfl trivial (y_load_int ty3 rfl (fun _ h => h.1) rfl h7_8) (sw0 [0]) ?_
     refine dt 10 2045 rfl trivial (y_sub rfl rfl) (sw0 [0]) ?_
     refine dt 11 4093 rfl trivial (y_max rfl rfl) (sw0 [0]) ?_
     refine dt 12 8189 rfl trivial (y_mul rfl rfl) (sw0 [0]) ?_
     refine d1 1 rfl (p_pure trivial rfl rfl (y_load_box ty3 rfl (knows_box (i := 1) rfl) rfl rfl) ?_)
     refine dn 8191 (sw0 [0]) ?_
     refine dt 13 16383 rfl trivial (y_add rfl rfl) (sw0 [0]) ?_
     refine dt 14 32767 rfl trivial (y_fieldAddr fo32_1 rfl) (sw0 [0]) ?_
     refine d1 15 rfl (e_store (i := 1) (ds := [.int .i64 (IntKind.i64.wrap (yj2_b1_1_1 + (IntKind.i64.wrap (x7_5 * (max 0 (IntKind.i64.wrap (x5_9 - x5_14.Damp.Low)))))))]) (cs' := [.int .i64 (IntKind.i64.wrap (yj2_b1_1_0 + (IntKind.i64.wrap (x6_5 * (max 0 (IntKind.i64.wrap (x5_9 - x5_14.Damp.High))))))), .int .i64 (IntKind.i64.wrap (yj2_b1_1_1 + (IntKind.i64.wrap (x7_5 * (max 0 (IntKind.i64.wrap (x5_9 - x5_14.Damp.Low)))))))]) trivial ty3 rfl rfl rfl rfl rfl (cells_one_int _) (Nat.le_of_ble_eq_true rfl) rfl ?_)
     refine dn 65535 (sw0 [0]) ?_
     refine d_done (by kernel_rfl) ?_
     refine a_en [(1, v1), (3, .pointer (some ⟨b0_0, 0, none⟩)), (5, .pointer (some ⟨b0_1, 0, none⟩)), (6, .pointer (some ⟨b0_2, 0, none⟩)), (7, .pointer (some ⟨b1_1, 0, none⟩)), (8, .int .i64 yj2_8)] ?_
     refine a_block_normal (a_then (a_region rfl (ap (y_move rfl) (ap (y_add rfl rfl) (ap (y_assign rfl) (a_nil (a_en [(1, v1), (3, .pointer (some ⟨b0_0, 0, none⟩)), (5, .pointer (some ⟨b0_1, 0, none⟩)), (6, .pointer (some ⟨b0_2, 0, none⟩)), (7, .pointer (some ⟨b1_1, 0, none⟩)), (8, .int .i64 (IntKind.i64.wrap (yj2_8 + 1)))] ?_)))))))
     refine a_then ?_
     intro a_ w_ ha_ hs_
     exact ⟨n_j2, Nat.lt_succ_self _, Hb5_17, (lj2.trans lb5_17), IntKind.i64.wrap (yj2_b1_1_0 + (IntKind.i64.wrap (x6_5 * (max 0 (IntKind.i64.wrap (x5_9 - x5_14.Damp.High)))))), IntKind.i64.wrap (yj2_b1_1_1 + (IntKind.i64.wrap (x7_5 * (max 0 (IntKind.i64.wrap (x5_9 - x5_14.Damp.Low)))))), IntKind.i64.wrap (yj2_8 + 1), hm, ha_.weaken ⟨rfl, rfl, rfl, rfl, rfl, rfl, trivial⟩, hs_.reix [0, 1] (by decide)⟩
   have hm := cond_f k_3 hm
   refine a_exit (a_then_exit (a_then_exit (a_block_hit (a_cut ?_))))
   intro a_ w_ ha_ hs_
   exact ⟨Hj2, lj2, yj2_b1_1_0, yj2_b1_1_1, Option.some.inj hm, ha_.weaken ⟨rfl, rfl, trivial⟩, hs_.reix [0, 1] (by decide)⟩
 have hm := hm_j1
 rintro a_ w_ ⟨Hj1, lj1, yj1_b1_1_0, yj1_b1_1_1, rfl, ha_, hs_⟩
 try dsimp only at hm
 refine a_start ha_ hs_ (a_then (a_seq (a_region rfl ?_)))
 have m8_0 : Rp.rep Hj1 [.int .i64 yj1_b1_1_0, .int .i64 yj1_b1_1_1] (⟨yj1_b1_1_0, yj1_b1_1_1⟩ : Span) := ⟨_, _, rfl, rfl, rfl⟩
 refine ap (y_load_boxagg ty32 rfl (knows_box (i := 1) rfl) rfl rfl rfl) (a_cons (e_storeWhole (i := 0) (ds := [.int .i64 yj1_b1_1_0, .int .i64 yj1_b1_1_1]) trivial ty32 rfl rfl rfl rfl rfl ((Rp.one m8_0)) rfl (a_nil (a_freeze (α := Span) (x := (⟨yj1_b1_1_0, yj1_b1_1_1⟩ : Span)) (i := 0) rfl m8_0 ?_))))
 intro Hb0_2 lb0_2 hb0_2
 have m8_0 := Rp.mono lb0_2 m8_0
 refine a_en [(6, .pointer (some ⟨b0_2, 0, none⟩))] ?_
 refine a_own [] (by decide) (L' := []) rfl ?_
 refine a_then (a_ret ?_)
 obtain ⟨ce6, re6, le6⟩ := PAt.one hb0_2
 refine a_done (v := .agg ce6.toArray) (.inl rfl) rfl ?_ ?_
 · intro a_ w_ ha_ hs_; exact run_results (P := Tryd.prog) (fn := Tryd.f91) (rs := [.cell 6 32]) (vs := [.agg ce6.toArray]) rfl (.cons (rv_cell ha_ rfl (run_loadVar_agg ty32 rfl (le6 _ hs_.sub) (Rp.len re6))) (All2.nil))
 · intro _ _; obtain rfl := Option.some.inj hm
   rw [Span.rep_eq re6]

def ref00_Wraps (k : Nat) (p0 : Span) (p1 : Span) : Option Bool :=
 (bif decide (p0.Low ≤ p1.Low) then
 some ((decide (p1.High ≤ p0.High)))
 else
 some (false)).bind fun yj1_4 =>
 some (yj1_4)
theorem ok_157 {k : Nat} {H : Hp} {w : World} {p0 : Span} {p1 : Span} {c0 : List Value} {c1 : List Value} {r : Bool} (hsub : Sub H w) (h0 : Rp.rep (α := Span) H c0 p0) (h1 : Rp.rep (α := Span) H c1 p1) (hm : ref00_Wraps k p0 p1 = some r) : Calls Tryd.prog 157 [.agg c0.toArray, .agg c1.toArray].toArray w (PostV w H (.bool r)) := by
 unfold ref00_Wraps at hm
 refine start (n := 17) (E := [(0, .agg c0.toArray), (1, .agg c1.toArray)]) Tryd.func157 rfl rfl ⟨rfl, rfl, trivial⟩ rfl hsub ?_
 refine a_seq (a_region rfl (a_cons (e_box (cs := c0) trivial rfl rfl rfl ?_)))
 intro b0_0
 refine a_cons (e_box (cs := c1) trivial rfl rfl rfl ?_)
 intro b0_1
 refine ap (y_assign rfl) (a_nil (a_freeze (α := Span) (x := p1) (i := 0) rfl h1 ?_))
 intro Hb0_1 lb0_1 hb0_1
 have h0 := Rp.mono lb0_1 h0
 have h1 := Rp.mono lb0_1 h1
 refine a_freeze (α := Span) (x := p0) (i := 1) rfl h0 ?_
 intro Hb0_0 lb0_0 hb0_0
 have h0 := Rp.mono lb0_0 h0
 have h1 := Rp.mono lb0_0 h1
 have hb0_1 := PAt.mono lb0_0 hb0_1
 refine a_en [(2, .pointer (some ⟨b0_0, 0, none⟩)), (3, .pointer (some ⟨b0_1, 0, none⟩))] ?_
 refine a_own [] (by decide) (L' := []) rfl ?_
 refine a_then (a_seq ?_)
 obtain ⟨s_j1, hs_j1, hm_j1⟩ := bind_some hm
 refine a_join (fun a_ w_ => ∃ (yj1_4 : Bool), yj1_4 = s_j1 ∧ Ag 17 [] [(4, .bool yj1_4)] a_ ∧ St (Kp.mk w H noX) Hb0_0 [] w_) ?_ ?_
 · have hm := hs_j1
   refine a_region rfl ?_
   have h1_0 := Span.at_Low hb0_0
   refine ap (y_fieldAddr fo32_0 rfl) (ap (y_load_int ty3 rfl (fun _ h => h.sub) rfl h1_0) ?_)
   have h1_2 := Span.at_Low hb0_1
   refine ap (y_fieldAddr fo32_0 rfl) (ap (y_load_int ty3 rfl (fun _ h => h.sub) rfl h1_2) ?_)
   refine ap (y_leq rfl rfl) (ap (y_move rfl) ?_)
   rcases Bool.eq_false_or_eq_true (decide (p0.Low ≤ p1.Low)) with k1_6 | k1_6
   · have hm := cond_t k1_6 hm
     have h1_6 := Span.at_High hb0_1
     refine ag ⟨_, _, rfl, rfl, k1_6⟩ (y_fieldAddr fo32_1 rfl) ?_
     refine ag ⟨_, _, rfl, rfl, k1_6⟩ (y_load_int ty3 rfl (fun _ h => h.sub) rfl h1_6) ?_
     have h1_8 := Span.at_High hb0_0
     refine ag ⟨_, _, rfl, rfl, k1_6⟩ (y_fieldAddr fo32_1 rfl) ?_
     refine ag ⟨_, _, rfl, rfl, k1_6⟩ (y_load_int ty3 rfl (fun _ h => h.sub) rfl h1_8) ?_
     refine ag ⟨_, _, rfl, rfl, k1_6⟩ (y_leq rfl rfl) ?_
     refine ap (y_pick_t rfl k1_6 rfl) (ap (y_assign rfl) (a_nil (a_en [(4, .bool (decide (p1.High ≤ p0.High)))] ?_)))
     refine a_cut ?_
     intro a_ w_ ha_ hs_
     exact ⟨decide (p1.High ≤ p0.High), Option.some.inj hm, ha_.weaken ⟨rfl, trivial⟩, hs_.reix [] (by decide)⟩
   have hm := cond_f k1_6 hm
   refine as1 (sk1 rfl rfl k1_6) ?_
   refine as1 (sk1 rfl rfl k1_6) ?_
   refine as1 (sk1 rfl rfl k1_6) ?_
   refine as1 (sk1 rfl rfl k1_6) ?_
   refine as1 (sk1 rfl rfl k1_6) ?_
   refine ap (y_pick_f rfl k1_6 rfl) (ap (y_assign rfl) (a_nil (a_en [(4, .bool false)] ?_)))
   refine a_cut ?_
   intro a_ w_ ha_ hs_
   exact ⟨false, Option.some.inj hm, ha_.weaken ⟨rfl, trivial⟩, hs_.reix [] (by decide)⟩
 have hm := hm_j1
 rintro a_ w_ ⟨yj1_4, rfl, ha_, hs_⟩
 try dsimp only at hm
 refine a_start ha_ hs_ (a_then (a_ret ?_))
 refine a_done (v := .bool yj1_4) (.inl rfl) rfl ?_ ?_
 · intro a_ w_ ha_ hs_; exact run_results (P := Tryd.prog) (fn := Tryd.f157) (rs := [.tmp 4]) (vs := [.bool yj1_4]) rfl (.cons (rv_tmp ha_ rfl) (All2.nil))
 · intro _ _; obtain rfl := Option.some.inj hm
   rfl

def ref03_dry (k : Nat) (p0 : TunnelBook) (p1 : List Int) (p2 : TunnelFrame) : Option Bool :=
 (ref03_dries k p0 p1 p2).bind fun x1_5 =>
 (ref00_Wraps k p2.Need x1_5).bind fun x1_6 =>
 some (x1_6)
theorem ok_108 {k : Nat} {H : Hp} {w : World} {p0 : TunnelBook} {p1 : List Int} {p2 : TunnelFrame} {c0 : List Value} {v1 : Value} {c2 : List Value} {r : Bool} (hsub : Sub H w) (h0 : Rp.rep (α := TunnelBook) H c0 p0) (h1 : Sl (α := Int) H v1 p1) (h2 : Rp.rep (α := TunnelFrame) H c2 p2) (hm : ref03_dry k p0 p1 p2 = some r) : Calls Tryd.prog 108 [.agg c0.toArray, v1, .agg c2.toArray].toArray w (PostV w H (.bool r)) := by
 unfold ref03_dry at hm
 refine start (n := 14) (E := [(0, .agg c0.toArray), (1, v1), (2, .agg c2.toArray)]) Tryd.func108 rfl rfl ⟨rfl, rfl, rfl, trivial⟩ rfl hsub ?_
 refine a_seq (a_region rfl (a_cons (e_box (cs := c0) trivial rfl rfl rfl ?_)))
 intro b0_0
 refine a_cons (e_box (cs := c2) trivial rfl rfl rfl ?_)
 intro b0_1
 refine ap (y_assign rfl) (a_nil (a_freeze (α := TunnelFrame) (x := p2) (i := 0) rfl h2 ?_))
 intro Hb0_1 lb0_1 hb0_1
 have h0 := Rp.mono lb0_1 h0
 have h1 := Sl.mono lb0_1 h1
 have h2 := Rp.mono lb0_1 h2
 refine a_freeze (α := TunnelBook) (x := p0) (i := 1) rfl h0 ?_
 intro Hb0_0 lb0_0 hb0_0
 have h0 := Rp.mono lb0_0 h0
 have h1 := Sl.mono lb0_0 h1
 have h2 := Rp.mono lb0_0 h2
 have hb0_1 := PAt.mono lb0_0 hb0_1
 refine a_en [(1, v1), (3, .pointer (some ⟨b0_0, 0, none⟩)), (5, .pointer (some ⟨b0_1, 0, none⟩))] ?_
 refine a_own [] (by decide) (L' := []) rfl ?_
 refine a_then (a_seq ?_)
 obtain ⟨x1_5, q1_5, hm⟩ := bind_some hm
 obtain ⟨x1_6, q1_6, hm⟩ := bind_some hm
 refine d_region (S := Sw Hb0_0 []) (n := 8) (listed := (bits 8 0)) mixed (by kernel_rfl) rfl (by kernel_rfl) ?_
 have h1_0 := TunnelFrame.at_Need hb0_1
 refine dt 0 1 rfl trivial (y_fieldAddr fo55_1 rfl) (sw0 []) ?_
 obtain ⟨u1_1, h1_1, c1_1⟩ := PAt.one h1_0
 refine dt 1 3 rfl trivial (y_load_cells ty32 rfl (fun _ h => h.1) rfl c1_1 (Rp.len h1_1)) (sw0 []) ?_
 obtain ⟨u1_2, h1_2, c1_2⟩ := PAt.one hb0_0
 refine dt 2 7 rfl trivial (y_load_cells ty25 rfl (fun _ h => h.1) rfl c1_2 (Rp.len h1_2)) (sw0 []) ?_
 refine dt 3 15 rfl trivial (y_move rfl) (sw0 []) ?_
 obtain ⟨u1_4, h1_4, c1_4⟩ := PAt.one hb0_1
 refine dt 4 31 rfl trivial (y_load_cells ty55 rfl (fun _ h => h.1) rfl c1_4 (Rp.len h1_4)) (sw0 []) ?_
 refine d1 5 rfl (e_callV (all := [.agg u1_2.toArray, v1, .agg u1_4.toArray]) (v := .agg x1_5.cells.toArray) trivial rfl Tryd.func91 rfl rfl rfl rfl rfl (fun w hw => ok_91 hw h1_2 h1 h1_4 q1_5) ?_)
 refine dn 63 (sw0 []) ?_
 refine d1 6 rfl (e_callV (all := [.agg u1_1.toArray, .agg x1_5.cells.toArray]) (v := .bool x1_6) trivial rfl Tryd.func157 rfl rfl rfl rfl rfl (fun w hw => ok_157 hw h1_1 (Span.rep_mk Hb0_0 x1_5) q1_6) ?_)
 refine dn 127 (sw0 []) ?_
 refine dt 7 255 rfl trivial (y_assign rfl) (sw0 []) ?_
 refine d_done (by kernel_rfl) ?_
 refine a_en [(6, .bool x1_6)] ?_
 refine a_then (a_ret ?_)
 refine a_done (v := .bool x1_6) (.inl rfl) rfl ?_ ?_
 · intro a_ w_ ha_ hs_; exact run_results (P := Tryd.prog) (fn := Tryd.f108) (rs := [.tmp 6]) (vs := [.bool x1_6]) rfl (.cons (rv_tmp ha_ rfl) (All2.nil))
 · intro _ _; obtain rfl := Option.some.inj hm
   rfl

def ref03_Stays (k : Nat) (p0 : TunnelFrame) (p1 : Int) (p2 : Int) : Option TunnelFrame :=
 (app ([] : List Int) p0.Stay).bind fun x2_3 =>
 (nth x2_3 p1).bind fun x3_3 =>
 (nth x2_3 p1).bind fun x3_7 =>
 some (((⟨(x2_3).set (p1).toNat (IntKind.i64.wrap (x3_3 + p2)), ⟨p0.Need.Low, p0.Need.High⟩⟩ : TunnelFrame)))
theorem ok_109 {k : Nat} {H : Hp} {w : World} {p0 : TunnelFrame} {p1 : Int} {p2 : Int} {c0 : List Value} {r : TunnelFrame} (hsub : Sub H w) (h0 : Rp.rep (α := TunnelFrame) H c0 p0) (hm : ref03_Stays k p0 p1 p2 = some r) : Calls Tryd.prog 109 [.agg c0.toArray, .int .i64 p1, .int .i64 p2].toArray w (PostH w H fun v H' => ∃ c0, v = .agg c0.toArray ∧ Rp.rep (α := TunnelFrame) H' c0 r) := by
 unfold ref03_Stays at hm
 refine start (n := 23) (E := [(0, .agg c0.toArray), (1, .int .i64 p1), (2, .int .i64 p2)]) Tryd.func109 rfl rfl ⟨rfl, rfl, rfl, trivial⟩ rfl hsub ?_
 refine a_seq (a_region rfl (a_cons (e_box (cs := c0) trivial rfl rfl rfl ?_)))
 intro b0_0
 refine a_cons (e_alloc (cs := [.slice none 0 0, .int .i64 0, .int .i64 0]) trivial rfl ty55 rfl ?_)
 intro b0_1
 refine a_nil (a_freeze (α := TunnelFrame) (x := p0) (i := 1) rfl h0 ?_)
 intro Hb0_0 lb0_0 hb0_0
 have h0 := Rp.mono lb0_0 h0
 refine a_en [(1, .int .i64 p1), (2, .int .i64 p2), (3, .pointer (some ⟨b0_0, 0, none⟩)), (6, .pointer (some ⟨b0_1, 0, none⟩))] ?_
 refine a_own [0] (by decide) (L' := [.box b0_1 [.slice none 0 0, .int .i64 0, .int .i64 0] 55]) rfl ?_
 refine a_then (a_seq (a_region rfl ?_))
 obtain ⟨u1_0, h1_0, c1_0⟩ := PAt.one hb0_0
 refine ap (y_load_cells ty55 rfl (fun _ h => h.sub) rfl c1_0 (Rp.len h1_0)) ?_
 refine a_cons (e_alloc (cs := [.slice none 0 0, .int .i64 0, .int .i64 0]) trivial rfl ty55 rfl ?_)
 intro b1_1
 refine a_cons (e_storeWhole (i := 0) (ds := u1_0) trivial ty55 rfl rfl rfl rfl (Rp.len h1_0) ((Rp.one h1_0)) rfl (a_nil ?_))
 obtain ⟨v1o1_1_0, rfl, h1o1_1_0⟩ := TunnelFrame.opened h1_0
 refine a_en [(1, .int .i64 p1), (2, .int .i64 p2), (3, .pointer (some ⟨b0_0, 0, none⟩)), (6, .pointer (some ⟨b0_1, 0, none⟩)), (7, .pointer (some ⟨b1_1, 0, none⟩))] ?_
 refine a_then (a_seq (a_region rfl (a_cons (e_buildSlice (xs := []) (cs := []) trivial rfl Tryd.underlying26 ty3 rfl rfl rfl (by simp [Value.cells]) rfl (rfl) ?_))))
 intro v2_0
 have h2_0 : RepL (α := Int) Hb0_0 ([]) [] := (RepL.nil (α := Int))
 have h2_1 := TunnelFrame.at_Stay hb0_0
 refine ap (y_fieldAddr fo55_0 rfl) ?_
 obtain ⟨v2_2, h2_2, c2_2⟩ := PAt.sl h2_1
 refine ap (y_load_one ty26 rfl (fun _ h => h.sub) rfl c2_2) ?_
 obtain ⟨x2_3, q2_3, hm⟩ := bind_some hm
 refine a_cons (e_app_sl (i := 0) trivial rfl Tryd.underlying26 Tryd.underlying26 ty3 rfl rfl rfl rfl rfl rfl rfl rfl h2_0 h2_2 q2_3 ?_)
 intro v2_3 u2_3 h2_3
 refine ap (y_fieldAddr fo55_0 rfl) (a_cons (e_storeLR (i := 1) (j := 0) (cs' := [v2_3, .int .i64 p0.Need.Low, .int .i64 p0.Need.High]) trivial ty26 rfl rfl rfl rfl (Nat.le_of_ble_eq_true rfl) rfl (a_nil (a_en [(1, .int .i64 p1), (2, .int .i64 p2), (6, .pointer (some ⟨b0_1, 0, none⟩)), (7, .pointer (some ⟨b1_1, 0, none⟩))] ?_))))
 refine a_then (a_seq (a_region rfl (ap (y_fieldAddr fo55_0 rfl) (ap (y_load_box ty26 rfl (knows_box (i := 1) rfl) rfl rfl) (ap (y_move rfl) ?_)))))
 obtain ⟨x3_3, q3_3, hm⟩ := bind_some hm
 refine a_rowplace (i := 0) rfl rfl rfl h2_3 q3_3 ?_
 rintro b3_3 c3_3 rfl
 refine ap (y_index Tryd.underlying26 ty3 rfl rfl rfl (nth_in q3_3)) (ap (y_load_row (i := 0) ty3 rfl rfl rfl (repL_int_get h2_3 q3_3)) (ap (y_move rfl) (ap (y_add rfl rfl) ?_)))
 obtain ⟨x3_7, q3_7, hm⟩ := bind_some hm
 refine ap (y_index Tryd.underlying26 ty3 rfl rfl rfl (nth_in q3_7)) (a_cons (e_storeRow (α := Int) (i := 0) (ds := [.int .i64 (IntKind.i64.wrap (x3_3 + p2))]) (l' := (x2_3).set (p1).toNat (IntKind.i64.wrap (x3_3 + p2))) trivial ty3 rfl rfl rfl rfl rfl (cells_one_int _) rfl h2_3 (PutL.at00 1 rfl q3_7 rfl) ?_))
 intro u3_8 h3_8
 refine a_nil (a_en [(6, .pointer (some ⟨b0_1, 0, none⟩)), (7, .pointer (some ⟨b1_1, 0, none⟩))] ?_)
 refine a_then (a_seq (a_region rfl (ap (y_load_boxagg ty55 rfl (knows_box (i := 1) rfl) rfl rfl rfl) (a_cons (e_storeWholeL (i := 2) (ds := [.slice (some ⟨b3_3, 0, none⟩) (x2_3).length c3_3, .int .i64 p0.Need.Low, .int .i64 p0.Need.High]) trivial ty55 rfl rfl rfl rfl rfl ⟨.inr ⟨_, _, _, List.mem_of_getElem? (i := 0) rfl⟩, ⟨.inl rfl, ⟨.inl rfl, trivial⟩⟩⟩ rfl (a_nil (a_en [(6, .pointer (some ⟨b0_1, 0, none⟩))] ?_)))))))
 refine a_own [0, 2] (by decide) (L' := [.row (.slice (some ⟨b3_3, 0, none⟩) (x2_3).length c3_3) u3_8 3 1, .box b0_1 [.slice (some ⟨b3_3, 0, none⟩) (x2_3).length c3_3, .int .i64 p0.Need.Low, .int .i64 p0.Need.High] 55]) rfl ?_
 refine a_then (a_ret (a_frow (i := 0) rfl rfl h3_8 rfl ?_))
 intro He6r2_3f le6r2_3f he6r2_3f
 have me6l : Rp.rep He6r2_3f [.slice (some ⟨b3_3, 0, none⟩) (x2_3).length c3_3, .int .i64 p0.Need.Low, .int .i64 p0.Need.High] (⟨(x2_3).set (p1).toNat (IntKind.i64.wrap (x3_3 + p2)), ⟨p0.Need.Low, p0.Need.High⟩⟩ : TunnelFrame) := ⟨_, _, rfl, ⟨_, rfl, he6r2_3f⟩, ⟨_, _, rfl, rfl, rfl⟩⟩
 refine a_done (v := .agg [.slice (some ⟨b3_3, 0, none⟩) (x2_3).length c3_3, .int .i64 p0.Need.Low, .int .i64 p0.Need.High].toArray) (.inl rfl) rfl ?_ ?_
 · intro a_ w_ ha_ hs_; exact run_results (P := Tryd.prog) (fn := Tryd.f109) (rs := [.cell 6 55]) (vs := [.agg [.slice (some ⟨b3_3, 0, none⟩) (x2_3).length c3_3, .int .i64 p0.Need.Low, .int .i64 p0.Need.High].toArray]) rfl (.cons (rv_cell ha_ rfl (run_loadSt (i := 1) ty55 rfl hs_ rfl rfl)) (All2.nil))
 · intro _ _; obtain rfl := Option.some.inj hm; exact ⟨[.slice (some ⟨b3_3, 0, none⟩) (x2_3).length c3_3, .int .i64 p0.Need.Low, .int .i64 p0.Need.High], rfl, me6l⟩

def ref03_Longer_lj5 (k : Nat) (p0 : TunnelBook) (p1 : List Int) (p3 : Int) (x4_3 : TunnelFrame) : Nat → Int → Int → Option Int
 | 0, _, _ => none
 | n_j5 + 1, yj5_12, yj5_13 =>
 (nth x4_3.Stay p3).bind fun x9_3 =>
 bif decide ((IntKind.i64.wrap (x9_3 + yj5_13)) ≤ 20) then
 (ref03_Stays k x4_3 p3 yj5_13).bind fun x11_5 =>
 (ref03_dry k p0 p1 x11_5).bind fun x11_6 =>
 bif x11_6 then
 ref03_Longer_lj5 k p0 p1 p3 x4_3 n_j5 yj5_13 (IntKind.i64.wrap (yj5_13 + 1))
 else
 ref03_Longer_lj5 k p0 p1 p3 x4_3 n_j5 yj5_12 (IntKind.i64.wrap (yj5_13 + 1))
 else
 some (yj5_12)
def ref03_Longer (k : Nat) (p0 : TunnelBook) (p1 : List Int) (p2 : Int) (p3 : Int) : Option (Int × Int) :=
 ((ref03_isSet k p0 p1).bind fun x1_3 =>
 bif x1_3 then
 (ref03_isFrame k p0 p2).bind fun x1_7 =>
 bif x1_7 then
 (ref03_isPart k p0 p3).bind fun x1_12 =>
 (ref03_asked k p0 x1_12).bind fun x1_14 =>
 some (x1_14)
 else
 (ref03_asked k p0 false).bind fun x1_14 =>
 some (x1_14)
 else
 (ref03_asked k p0 false).bind fun x1_14 =>
 some (x1_14)).bind fun yj1_10 =>
 bif yj1_10 != 0 then
 some ((0, yj1_10))
 else
 (nth p0.Frames p2).bind fun x4_3 =>
 (ref03_dry k p0 p1 x4_3).bind fun x5_3 =>
 bif !x5_3 then
 some ((0, 4))
 else
 (ref03_Longer_lj5 k p0 p1 p3 x4_3 k 0 1).bind fun yj4_12 =>
 some ((yj4_12, 0))
theorem ok_40 {k : Nat} {H : Hp} {w : World} {p0 : TunnelBook} {p1 : List Int} {p2 : Int} {p3 : Int} {c0 : List Value} {v1 : Value} {r : Int × Int} (hsub : Sub H w) (h0 : Rp.rep (α := TunnelBook) H c0 p0) (h1 : Sl (α := Int) H v1 p1) (hm : ref03_Longer k p0 p1 p2 p3 = some r) : Calls Tryd.prog 40 [.agg c0.toArray, v1, .int .i64 p2, .int .i64 p3].toArray w (PostV w H (.tuple #[.int .i64 r.1, .int .i64 r.2])) := by
 unfold ref03_Longer at hm
 refine start (n := 61) (E := [(0, .agg c0.toArray), (1, v1), (2, .int .i64 p2), (3, .int .i64 p3)]) Tryd.func40 rfl rfl ⟨rfl, rfl, rfl, rfl, trivial⟩ rfl hsub ?_
 refine a_seq (a_region rfl (a_cons (e_box (cs := c0) trivial rfl rfl rfl ?_)))
 intro b0_0
 refine ap (y_assign rfl) (ap (y_assign rfl) (a_nil (a_freeze (α := TunnelBook) (x := p0) (i := 0) rfl h0 ?_)))
 intro Hb0_0 lb0_0 hb0_0
 have h0 := Rp.mono lb0_0 h0
 have h1 := Sl.mono lb0_0 h1
 refine a_en [(1, v1), (2, .int .i64 p2), (3, .int .i64 p3), (4, .pointer (some ⟨b0_0, 0, none⟩))] ?_
 refine a_own [] (by decide) (L' := []) rfl ?_
 refine a_then (a_seq (a_seq ?_))
 obtain ⟨s_j1, hs_j1, hm_j1⟩ := bind_some hm
 refine a_join (fun a_ w_ => ∃ (yj1_10 : Int), yj1_10 = s_j1 ∧ Ag 61 [] [(1, v1), (2, .int .i64 p2), (3, .int .i64 p3), (4, .pointer (some ⟨b0_0, 0, none⟩)), (10, .int .i64 yj1_10)] a_ ∧ St (Kp.mk w H noX) Hb0_0 [] w_) ?_ ?_
 · have hm := hs_j1
   obtain ⟨x1_3, q1_3, hm⟩ := bind_some hm
   rcases Bool.eq_false_or_eq_true (x1_3) with k1_5 | k1_5
   · have hm := cond_t k1_5 hm
     obtain ⟨x1_7, q1_7, hm⟩ := bind_some hm
     rcases Bool.eq_false_or_eq_true (x1_7) with k1_10 | k1_10
     · have hm := cond_t k1_10 hm
       obtain ⟨x1_12, q1_12, hm⟩ := bind_some hm
       obtain ⟨x1_14, q1_14, hm⟩ := bind_some hm
       refine d_region (S := Sw Hb0_0 []) (n := 16) (listed := (bits 16 0)) mixed (by kernel_rfl) rfl (by kernel_rfl) ?_
       obtain ⟨u1_0, h1_0, c1_0⟩ := PAt.one hb0_0
       refine dt 0 1 rfl trivial (y_load_cells ty25 rfl (fun _ h => h.1) rfl c1_0 (Rp.len h1_0)) (sw0 []) ?_
       obtain ⟨u1_1, h1_1, c1_1⟩ := PAt.one hb0_0
       refine dt 1 3 rfl trivial (y_load_cells ty25 rfl (fun _ h => h.1) rfl c1_1 (Rp.len h1_1)) (sw0 []) ?_
       refine dt 2 7 rfl trivial (y_move rfl) (sw0 []) ?_
       refine d1 3 rfl (e_callV (all := [.agg u1_1.toArray, v1]) (v := .bool x1_3) trivial rfl Tryd.func83 rfl rfl rfl rfl rfl (fun w hw => ok_83 hw h1_1 h1 q1_3) ?_)
       refine dn 15 (sw0 []) ?_
       refine dt 4 31 rfl trivial (y_move rfl) (sw0 []) ?_
       obtain ⟨u1_5, h1_5, c1_5⟩ := PAt.one hb0_0
       refine dt 5 63 rfl ⟨_, _, rfl, rfl, k1_5⟩ (y_load_cells ty25 rfl (fun _ h => h.1) rfl c1_5 (Rp.len h1_5)) (sw0 []) ?_
       refine dt 6 127 rfl ⟨_, _, rfl, rfl, k1_5⟩ (y_move rfl) (sw0 []) ?_
       refine d1 7 rfl (e_callV (all := [.agg u1_5.toArray, .int .i64 p2]) (v := .bool x1_7) ⟨_, _, rfl, rfl, k1_5⟩ rfl Tryd.func90 rfl rfl rfl rfl rfl (fun w hw => ok_90 hw h1_5 q1_7) ?_)
       refine dn 255 (sw0 []) ?_
       refine dt 8 511 rfl trivial (y_pick_t rfl k1_5 rfl) (sw0 []) ?_
       refine dt 9 1023 rfl trivial (y_move rfl) (sw0 []) ?_
       obtain ⟨u1_10, h1_10, c1_10⟩ := PAt.one hb0_0
       refine dt 10 2047 rfl ⟨_, _, rfl, rfl, k1_10⟩ (y_load_cells ty25 rfl (fun _ h => h.1) rfl c1_10 (Rp.len h1_10)) (sw0 []) ?_
       refine dt 11 4095 rfl ⟨_, _, rfl, rfl, k1_10⟩ (y_move rfl) (sw0 []) ?_
       refine d1 12 rfl (e_callV (all := [.agg u1_10.toArray, .int .i64 p3]) (v := .bool x1_12) ⟨_, _, rfl, rfl, k1_10⟩ rfl Tryd.func107 rfl rfl rfl rfl rfl (fun w hw => ok_107 hw h1_10 q1_12) ?_)
       refine dn 8191 (sw0 []) ?_
       refine dt 13 16383 rfl trivial (y_pick_t rfl k1_10 rfl) (sw0 []) ?_
       refine d1 14 rfl (e_callV (all := [.agg u1_0.toArray, .bool x1_12]) (v := .int .i64 x1_14) trivial rfl Tryd.func82 rfl rfl rfl rfl rfl (fun w hw => ok_82 hw h1_0 q1_14) ?_)
       refine dn 32767 (sw0 []) ?_
       refine dt 15 65535 rfl trivial (y_assign rfl) (sw0 []) ?_
       refine d_done (by kernel_rfl) ?_
       refine a_en [(1, v1), (2, .int .i64 p2), (3, .int .i64 p3), (4, .pointer (some ⟨b0_0, 0, none⟩)), (10, .int .i64 x1_14)] ?_
       refine a_cut ?_
       intro a_ w_ ha_ hs_
       exact ⟨x1_14, Option.some.inj hm, ha_.weaken ⟨rfl, rfl, rfl, rfl, rfl, trivial⟩, hs_.reix [] (by decide)⟩
     have hm := cond_f k1_10 hm
     obtain ⟨x1_14, q1_14, hm⟩ := bind_some hm
     refine d_region (S := Sw Hb0_0 []) (n := 16) (listed := (bits 16 0)) mixed (by kernel_rfl) rfl (by kernel_rfl) ?_
     obtain ⟨u1_0, h1_0, c1_0⟩ := PAt.one hb0_0
     refine dt 0 1 rfl trivial (y_load_cells ty25 rfl (fun _ h => h.1) rfl c1_0 (Rp.len h1_0)) (sw0 []) ?_
     obtain ⟨u1_1, h1_1, c1_1⟩ := PAt.one hb0_0
     refine dt 1 3 rfl trivial (y_load_cells ty25 rfl (fun _ h => h.1) rfl c1_1 (Rp.len h1_1)) (sw0 []) ?_
     refine dt 2 7 rfl trivial (y_move rfl) (sw0 []) ?_
     refine d1 3 rfl (e_callV (all := [.agg u1_1.toArray, v1]) (v := .bool x1_3) trivial rfl Tryd.func83 rfl rfl rfl rfl rfl (fun w hw => ok_83 hw h1_1 h1 q1_3) ?_)
     refine dn 15 (sw0 []) ?_
     refine dt 4 31 rfl trivial (y_move rfl) (sw0 []) ?_
     obtain ⟨u1_5, h1_5, c1_5⟩ := PAt.one hb0_0
     refine dt 5 63 rfl ⟨_, _, rfl, rfl, k1_5⟩ (y_load_cells ty25 rfl (fun _ h => h.1) rfl c1_5 (Rp.len h1_5)) (sw0 []) ?_
     refine dt 6 127 rfl ⟨_, _, rfl, rfl, k1_5⟩ (y_move rfl) (sw0 []) ?_
     refine d1 7 rfl (e_callV (all := [.agg u1_5.toArray, .int .i64 p2]) (v := .bool x1_7) ⟨_, _, rfl, rfl, k1_5⟩ rfl Tryd.func90 rfl rfl rfl rfl rfl (fun w hw => ok_90 hw h1_5 q1_7) ?_)
     refine dn 255 (sw0 []) ?_
     refine dt 8 511 rfl trivial (y_pick_t rfl k1_5 rfl) (sw0 []) ?_
     refine dt 9 1023 rfl trivial (y_move rfl) (sw0 []) ?_
     refine dk 10 2047 rfl (sk1 rfl rfl k1_10) (sw0 []) ?_
     refine dk 11 4095 rfl (sk1 rfl rfl k1_10) (sw0 []) ?_
     refine d1 12 rfl (p_skip (sk1 rfl rfl k1_10) rfl rfl ?_)
     refine dn 8191 (sw0 []) ?_
     refine dt 13 16383 rfl trivial (y_pick_f rfl k1_10 rfl) (sw0 []) ?_
     refine d1 14 rfl (e_callV (all := [.agg u1_0.toArray, .bool false]) (v := .int .i64 x1_14) trivial rfl Tryd.func82 rfl rfl rfl rfl rfl (fun w hw => ok_82 hw h1_0 q1_14) ?_)
     refine dn 32767 (sw0 []) ?_
     refine dt 15 65535 rfl trivial (y_assign rfl) (sw0 []) ?_
     refine d_done (by kernel_rfl) ?_
     refine a_en [(1, v1), (2, .int .i64 p2), (3, .int .i64 p3), (4, .pointer (some ⟨b0_0, 0, none⟩)), (10, .int .i64 x1_14)] ?_
     refine a_cut ?_
     intro a_ w_ ha_ hs_
     exact ⟨x1_14, Option.some.inj hm, ha_.weaken ⟨rfl, rfl, rfl, rfl, rfl, trivial⟩, hs_.reix [] (by decide)⟩
   have hm := cond_f k1_5 hm
   obtain ⟨x1_14, q1_14, hm⟩ := bind_some hm
   refine d_region (S := Sw Hb0_0 []) (n := 16) (listed := (bits 16 0)) mixed (by kernel_rfl) rfl (by kernel_rfl) ?_
   obtain ⟨u1_0, h1_0, c1_0⟩ := PAt.one hb0_0
   refine dt 0 1 rfl trivial (y_load_cells ty25 rfl (fun _ h => h.1) rfl c1_0 (Rp.len h1_0)) (sw0 []) ?_
   obtain ⟨u1_1, h1_1, c1_1⟩ := PAt.one hb0_0
   refine dt 1 3 rfl trivial (y_load_cells ty25 rfl (fun _ h => h.1) rfl c1_1 (Rp.len h1_1)) (sw0 []) ?_
   refine dt 2 7 rfl trivial (y_move rfl) (sw0 []) ?_
   refine d1 3 rfl (e_callV (all := [.agg u1_1.toArray, v1]) (v := .bool x1_3) trivial rfl Tryd.func83 rfl rfl rfl rfl rfl (fun w hw => ok_83 hw h1_1 h1 q1_3) ?_)
   refine dn 15 (sw0 []) ?_
   refine dt 4 31 rfl trivial (y_move rfl) (sw0 []) ?_
   refine dk 5 63 rfl (sk1 rfl rfl k1_5) (sw0 []) ?_
   refine dk 6 127 rfl (sk1 rfl rfl k1_5) (sw0 []) ?_
   refine d1 7 rfl (p_skip (sk1 rfl rfl k1_5) rfl rfl ?_)
   refine dn 255 (sw0 []) ?_
   refine dt 8 511 rfl trivial (y_pick_f rfl k1_5 rfl) (sw0 []) ?_
   refine dt 9 1023 rfl trivial (y_move rfl) (sw0 []) ?_
   refine dk 10 2047 rfl (sk1 rfl rfl rfl) (sw0 []) ?_
   refine dk 11 4095 rfl (sk1 rfl rfl rfl) (sw0 []) ?_
   refine d1 12 rfl (p_skip (sk1 rfl rfl rfl) rfl rfl ?_)
   refine dn 8191 (sw0 []) ?_
   refine dt 13 16383 rfl trivial (y_pick_f rfl rfl rfl) (sw0 []) ?_
   refine d1 14 rfl (e_callV (all := [.agg u1_0.toArray, .bool false]) (v := .int .i64 x1_14) trivial rfl Tryd.func82 rfl rfl rfl rfl rfl (fun w hw => ok_82 hw h1_0 q1_14) ?_)
   refine dn 32767 (sw0 []) ?_
   refine dt 15 65535 rfl trivial (y_assign rfl) (sw0 []) ?_
   refine d_done (by kernel_rfl) ?_
   refine a_en [(1, v1), (2, .int .i64 p2), (3, .int .i64 p3), (4, .pointer (some ⟨b0_0, 0, none⟩)), (10, .int .i64 x1_14)] ?_
   refine a_cut ?_
   intro a_ w_ ha_ hs_
   exact ⟨x1_14, Option.some.inj hm, ha_.weaken ⟨rfl, rfl, rfl, rfl, rfl, trivial⟩, hs_.reix [] (by decide)⟩
 have hm := hm_j1
 rintro a_ w_ ⟨yj1_10, rfl, ha_, hs_⟩
 try dsimp only at hm
 refine a_start ha_ hs_ (a_then (a_seq (a_region rfl (ap (y_move rfl) (ap (y_neq rfl rfl) (a_nil (a_en [(1, v1), (2, .int .i64 p2), (3, .int .i64 p3), (4, .pointer (some ⟨b0_0, 0, none⟩)), (10, .int .i64 yj1_10), (30, .bool (yj1_10 != 0))] ?_)))))))
 refine a_then ?_
 refine a_cond rfl (fun k_2 => ?_) (fun k_2 => ?_)
 · have hm := cond_t k_2 hm
   refine a_seq (a_region rfl (ap (y_move rfl) (ap (y_assign rfl) (ap (y_assign rfl) (a_nil (a_en [(8, .int .i64 0), (9, .int .i64 yj1_10)] ?_))))))
   refine a_then (a_ret (a_then_ret ?_))
   refine a_done (v := .tuple #[.int .i64 0, .int .i64 yj1_10]) (.inl rfl) rfl ?_ ?_
   · intro a_ w_ ha_ hs_; exact run_results (P := Tryd.prog) (fn := Tryd.f40) (rs := [.tmp 8, .tmp 9]) (vs := [.int .i64 0, .int .i64 yj1_10]) rfl (.cons (rv_tmp ha_ rfl) (.cons (rv_tmp ha_ rfl) (All2.nil)))
   · intro _ _; obtain rfl := Option.some.inj hm
     rfl
 have hm := cond_f k_2 hm
 refine a_skip (a_then (a_seq (a_region rfl ?_)))
 have h4_0 := TunnelBook.at_Frames hb0_0
 refine ap (y_fieldAddr fo25_1 rfl) ?_
 obtain ⟨v4_1, h4_1, c4_1⟩ := PAt.sl h4_0
 refine ap (y_load_one ty23 rfl (fun _ h => h.sub) rfl c4_1) ?_
 refine ap (y_move rfl) ?_
 obtain ⟨x4_3, q4_3, hm⟩ := bind_some hm
 obtain ⟨b4_3, o4_3, c4_3, e4_3, h4_3⟩ := Sl.elemZ 3 rfl h4_1 q4_3
 refine ap (y_index Tryd.underlying23 ty55 rfl e4_3 rfl (nth_in q4_3)) ?_
 obtain ⟨u4_4, h4_4, c4_4⟩ := PAt.one h4_3
 refine ap (y_load_cells ty55 rfl (fun _ h => h.sub) rfl c4_4 (Rp.len h4_4)) ?_
 refine a_cons (e_alloc (cs := [.slice none 0 0, .int .i64 0, .int .i64 0]) trivial rfl ty55 rfl ?_)
 intro b4_5
 refine a_cons (e_storeWhole (i := 0) (ds := u4_4) trivial ty55 rfl rfl rfl rfl (Rp.len h4_4) ((Rp.one h4_4)) rfl (a_nil (a_freeze (α := TunnelFrame) (x := x4_3) (i := 0) rfl h4_4 ?_)))
 intro Hb4_5 lb4_5 hb4_5
 have h1 := Sl.mono lb4_5 h1
 have hb0_0 := PAt.mono lb4_5 hb0_0
 have h4_0 := PAt.mono lb4_5 h4_0
 have h4_1 := Sl.mono lb4_5 h4_1
 have h4_3 := PAt.mono lb4_5 h4_3
 have h4_4 := Rp.mono lb4_5 h4_4
 refine a_en [(1, v1), (3, .int .i64 p3), (4, .pointer (some ⟨b0_0, 0, none⟩)), (11, .pointer (some ⟨b4_5, 0, none⟩))] ?_
 refine a_own [] (by decide) (L' := []) rfl ?_
 refine a_then (a_seq (a_seq (a_region rfl ?_)))
 obtain ⟨u5_0, h5_0, c5_0⟩ := PAt.one hb0_0
 refine ap (y_load_cells ty25 rfl (fun _ h => h.sub) rfl c5_0 (Rp.len h5_0)) ?_
 refine ap (y_move rfl) ?_
 obtain ⟨u5_2, h5_2, c5_2⟩ := PAt.one hb4_5
 refine ap (y_load_cells ty55 rfl (fun _ h => h.sub) rfl c5_2 (Rp.len h5_2)) ?_
 obtain ⟨x5_3, q5_3, hm⟩ := bind_some hm
 refine a_cons (e_callV (all := [.agg u5_0.toArray, v1, .agg u5_2.toArray]) (v := .bool x5_3) trivial rfl Tryd.func108 rfl rfl rfl rfl rfl (fun w hw => ok_108 hw h5_0 h1 h5_2 q5_3) ?_)
 refine ap (y_not rfl) (a_nil (a_en [(1, v1), (3, .int .i64 p3), (4, .pointer (some ⟨b0_0, 0, none⟩)), (11, .pointer (some ⟨b4_5, 0, none⟩)), (41, .bool (!x5_3))] ?_))
 refine a_then ?_
 refine a_cond rfl (fun k_3 => ?_) (fun k_3 => ?_)
 · have hm := cond_t k_3 hm
   refine a_seq (a_region rfl (ap (y_assign rfl) (ap (y_assign rfl) (a_nil (a_en [(8, .int .i64 0), (9, .int .i64 4)] ?_)))))
   refine a_then (a_ret (a_then_ret ?_))
   refine a_done (v := .tuple #[.int .i64 0, .int .i64 4]) (.inl rfl) rfl ?_ ?_
   · intro a_ w_ ha_ hs_; exact run_results (P := Tryd.prog) (fn := Tryd.f40) (rs := [.tmp 8, .tmp 9]) (vs := [.int .i64 0, .int .i64 4]) rfl (.cons (rv_tmp ha_ rfl) (.cons (rv_tmp ha_ rfl) (All2.nil)))
   · intro _ _; obtain rfl := Option.some.inj hm
     rfl
 have hm := cond_f k_3 hm
 refine a_skip (a_then (a_seq (a_region rfl (ap (y_assign rfl) (a_nil (a_en [(1, v1), (3, .int .i64 p3), (4, .pointer (some ⟨b0_0, 0, none⟩)), (11, .pointer (some ⟨b4_5, 0, none⟩)), (12, .int .i64 0)] ?_))))))
 refine a_then (a_seq (a_seq (a_region rfl (ap (y_assign rfl) (a_nil (a_then ?_))))))
 obtain ⟨s_j4, hs_j4, hm_j4⟩ := bind_some hm
 refine a_join (fun a_ w_ => ∃ (Hj4 : Hp), ∃ (_ : HLe Hb4_5 Hj4), ∃ (yj4_12 : Int), yj4_12 = s_j4 ∧ Ag 61 [] [(12, .int .i64 yj4_12)] a_ ∧ St (Kp.mk w H noX) Hj4 [] w_) ?_ ?_
 · have hm := hs_j4
   refine a_block ?_
   refine a_loop (fun n_j5 a_ w_ => ∃ (Hj5 : Hp), ∃ (_ : HLe Hb4_5 Hj5), ∃ (yj5_12 : Int), ∃ (yj5_13 : Int), ref03_Longer_lj5 k p0 p1 p3 x4_3 n_j5 yj5_12 yj5_13 = some s_j4 ∧ Ag 61 [] [(1, v1), (3, .int .i64 p3), (4, .pointer (some ⟨b0_0, 0, none⟩)), (11, .pointer (some ⟨b4_5, 0, none⟩)), (12, .int .i64 yj5_12), (13, .int .i64 yj5_13)] a_ ∧ St (Kp.mk w H noX) Hj5 [] w_) k ?_ ?_
   · intro a_ w_ ha_ hs_
     exact ⟨Hb4_5, (HLe.refl _), 0, 1, hm, ha_.weaken ⟨rfl, rfl, rfl, rfl, rfl, rfl, trivial⟩, hs_.reix [] (by decide)⟩
   rintro (_ | n_j5) a_ w_ ⟨Hj5, lj5, yj5_12, yj5_13, hm, ha_, hs_⟩
   · rw [ref03_Longer_lj5.eq_1] at hm; cases hm
   rw [ref03_Longer_lj5.eq_2] at hm
   refine a_start ha_ hs_ ?_
   have h1 := Sl.mono lj5 h1
   have hb0_0 := PAt.mono lj5 hb0_0
   have hb4_5 := PAt.mono lj5 hb4_5
   refine a_seq (a_seq (a_region rfl ?_))
   have h9_0 := TunnelFrame.at_Stay hb4_5
   refine ap (y_fieldAddr fo55_0 rfl) ?_
   obtain ⟨v9_1, h9_1, c9_1⟩ := PAt.sl h9_0
   refine ap (y_load_one ty26 rfl (fun _ h => h.sub) rfl c9_1) ?_
   refine ap (y_move rfl) ?_
   obtain ⟨x9_3, q9_3, hm⟩ := bind_some hm
   obtain ⟨b9_3, o9_3, c9_3, e9_3, h9_3⟩ := Sl.elemZ 1 rfl h9_1 q9_3
   refine ap (y_index Tryd.underlying26 ty3 rfl e9_3 rfl (nth_in q9_3)) (ap (y_load_int ty3 rfl (fun _ h => h.sub) rfl h9_3) ?_)
   refine ap (y_move rfl) (ap (y_add rfl rfl) (ap (y_leq rfl rfl) (a_nil (a_en [(1, v1), (3, .int .i64 p3), (4, .pointer (some ⟨b0_0, 0, none⟩)), (11, .pointer (some ⟨b4_5, 0, none⟩)), (12, .int .i64 yj5_12), (13, .int .i64 yj5_13), (49, .bool (decide ((IntKind.i64.wrap (x9_3 + yj5_13)) ≤ 20)))] ?_))))
   refine a_then ?_
   refine a_cond rfl (fun k_6 => ?_) (fun k_6 => ?_)
   · have hm := cond_t k_6 hm
     refine a_skip (a_then (a_seq (a_block (a_seq ?_))))
     obtain ⟨x11_5, q11_5, hm⟩ := bind_some hm
     obtain ⟨x11_6, q11_6, hm⟩ := bind_some hm
     refine d_region (S := Sw Hj5 []) (n := 7) (listed := (bits 7 0)) mixed (by kernel_rfl) rfl (by kernel_rfl) ?_
     obtain ⟨u11_0, h11_0, c11_0⟩ := PAt.one hb0_0
     refine dt 0 1 rfl trivial (y_load_cells ty25 rfl (fun _ h => h.1) rfl c11_0 (Rp.len h11_0)) (sw0 []) ?_
     refine dt 1 3 rfl trivial (y_move rfl) (sw0 []) ?_
     obtain ⟨u11_2, h11_2, c11_2⟩ := PAt.one hb4_5
     refine dt 2 7 rfl trivial (y_load_cells ty55 rfl (fun _ h => h.1) rfl c11_2 (Rp.len h11_2)) (sw0 []) ?_
     refine dt 3 15 rfl trivial (y_move rfl) (sw0 []) ?_
     refine dt 4 31 rfl trivial (y_move rfl) (sw0 []) ?_
     refine d1 5 rfl (e_callH (all := [.agg u11_2.toArray, .int .i64 p3, .int .i64 yj5_13]) trivial rfl Tryd.func109 rfl rfl rfl rfl rfl (fun w hw => ok_109 hw h11_2 q11_5) ?_)
     rintro _ H11_5 l11_5 ⟨c11_5r0, rfl, h11_5r0⟩
     have h1 := Sl.mono l11_5 h1
     have hb0_0 := PAt.mono l11_5 hb0_0
     have hb4_5 := PAt.mono l11_5 hb4_5
     have h11_0 := Rp.mono l11_5 h11_0
     have h11_2 := Rp.mono l11_5 h11_2
     refine dn 63 (swl l11_5 []) ?_
     refine d1 6 rfl (e_callV (all := [.agg u11_0.toArray, v1, .agg c11_5r0.toArray]) (v := .bool x11_6) trivial rfl Tryd.func108 rfl rfl rfl rfl rfl (fun w hw => ok_108 hw h11_0 h1 h11_5r0 q11_6) ?_)
     refine dn 127 (swl l11_5 []) ?_
     refine d_done (by kernel_rfl) ?_
     refine a_en [(1, v1), (3, .int .i64 p3), (4, .pointer (some ⟨b0_0, 0, none⟩)), (11, .pointer (some ⟨b4_5, 0, none⟩)), (12, .int .i64 yj5_12), (13, .int .i64 yj5_13), (58, .bool x11_6)] ?_
     refine a_then ?_
     refine a_cond rfl (fun k_7 => ?_) (fun k_7 => ?_)
     · have hm := cond_t k_7 hm
       refine a_region rfl (ap (y_move rfl) (ap (y_assign rfl) (a_nil (a_en [(1, v1), (3, .int .i64 p3), (4, .pointer (some ⟨b0_0, 0, none⟩)), (11, .pointer (some ⟨b4_5, 0, none⟩)), (12, .int .i64 yj5_13), (13, .int .i64 yj5_13)] ?_))))
       refine a_block_normal (a_then (a_region rfl (ap (y_move rfl) (ap (y_add rfl rfl) (ap (y_assign rfl) (a_nil (a_en [(1, v1), (3, .int .i64 p3), (4, .pointer (some ⟨b0_0, 0, none⟩)), (11, .pointer (some ⟨b4_5, 0, none⟩)), (12, .int .i64 yj5_13), (13, .int .i64 (IntKind.i64.wrap (yj5_13 + 1)))] ?_)))))))
       refine a_then ?_
       intro a_ w_ ha_ hs_
       exact ⟨n_j5, Nat.lt_succ_self _, H11_5, (lj5.trans l11_5), yj5_13, IntKind.i64.wrap (yj5_13 + 1), hm, ha_.weaken ⟨rfl, rfl, rfl, rfl, rfl, rfl, trivial⟩, hs_.reix [] (by decide)⟩
     have hm := cond_f k_7 hm
     refine a_skip (a_block_normal (a_then (a_region rfl (ap (y_move rfl) (ap (y_add rfl rfl) (ap (y_assign rfl) (a_nil (a_en [(1, v1), (3, .int .i64 p3), (4, .pointer (some ⟨b0_0, 0, none⟩)), (11, .pointer (some ⟨b4_5, 0, none⟩)), (12, .int .i64 yj5_12), (13, .int .i64 (IntKind.i64.wrap (yj5_13 + 1)))] ?_))))))))
     refine a_then ?_
     intro a_ w_ ha_ hs_
     exact ⟨n_j5, Nat.lt_succ_self _, H11_5, (lj5.trans l11_5), yj5_12, IntKind.i64.wrap (yj5_13 + 1), hm, ha_.weaken ⟨rfl, rfl, rfl, rfl, rfl, rfl, trivial⟩, hs_.reix [] (by decide)⟩
   have hm := cond_f k_6 hm
   refine a_exit (a_then_exit (a_then_exit (a_block_hit (a_cut ?_))))
   intro a_ w_ ha_ hs_
   exact ⟨Hj5, lj5, yj5_12, Option.some.inj hm, ha_.weaken ⟨rfl, trivial⟩, hs_.reix [] (by decide)⟩
 have hm := hm_j4
 rintro a_ w_ ⟨Hj4, lj4, yj4_12, rfl, ha_, hs_⟩
 try dsimp only at hm
 refine a_start ha_ hs_ (a_then (a_seq (a_region rfl (ap (y_move rfl) (ap (y_assign rfl) (ap (y_assign rfl) (a_nil (a_en [(8, .int .i64 yj4_12), (9, .int .i64 0)] ?_))))))))
 refine a_then (a_ret ?_)
 refine a_done (v := .tuple #[.int .i64 yj4_12, .int .i64 0]) (.inl rfl) rfl ?_ ?_
 · intro a_ w_ ha_ hs_; exact run_results (P := Tryd.prog) (fn := Tryd.f40) (rs := [.tmp 8, .tmp 9]) (vs := [.int .i64 yj4_12, .int .i64 0]) rfl (.cons (rv_tmp ha_ rfl) (.cons (rv_tmp ha_ rfl) (All2.nil)))
 · intro _ _; obtain rfl := Option.some.inj hm
   rfl

def ref03_Measured (k : Nat) (p0 : TunnelBook) (p1 : Int) (p2 : Int) : Option TunnelBook :=
 (app ([] : List TunnelPart) p0.Parts).bind fun x2_3 =>
 (ref00_Only k p2).bind fun x3_4 =>
 (nth x2_3 p1).bind fun x3_5 =>
 some (((⟨(x2_3).set (p1).toNat (⟨x3_5.Heat, x3_4⟩ : TunnelPart), p0.Frames⟩ : TunnelBook)))
theorem ok_111 {k : Nat} {H : Hp} {w : World} {p0 : TunnelBook} {p1 : Int} {p2 : Int} {c0 : List Value} {r : TunnelBook} (hsub : Sub H w) (h0 : Rp.rep (α := TunnelBook) H c0 p0) (hm : ref03_Measured k p0 p1 p2 = some r) : Calls Tryd.prog 111 [.agg c0.toArray, .int .i64 p1, .int .i64 p2].toArray w (PostH w H fun v H' => ∃ c0, v = .agg c0.toArray ∧ Rp.rep (α := TunnelBook) H' c0 r) := by
 unfold ref03_Measured at hm
 refine start (n := 22) (E := [(0, .agg c0.toArray), (1, .int .i64 p1), (2, .int .i64 p2)]) Tryd.func111 rfl rfl ⟨rfl, rfl, rfl, trivial⟩ rfl hsub ?_
 refine a_seq (a_region rfl (a_cons (e_box (cs := c0) trivial rfl rfl rfl ?_)))
 intro b0_0
 refine a_cons (e_alloc (cs := [.slice none 0 0, .slice none 0 0]) trivial rfl ty25 rfl ?_)
 intro b0_1
 refine a_nil (a_freeze (α := TunnelBook) (x := p0) (i := 1) rfl h0 ?_)
 intro Hb0_0 lb0_0 hb0_0
 have h0 := Rp.mono lb0_0 h0
 refine a_en [(1, .int .i64 p1), (2, .int .i64 p2), (3, .pointer (some ⟨b0_0, 0, none⟩)), (6, .pointer (some ⟨b0_1, 0, none⟩))] ?_
 refine a_own [0] (by decide) (L' := [.box b0_1 [.slice none 0 0, .slice none 0 0] 25]) rfl ?_
 refine a_then (a_seq (a_region rfl ?_))
 obtain ⟨u1_0, h1_0, c1_0⟩ := PAt.one hb0_0
 refine ap (y_load_cells ty25 rfl (fun _ h => h.sub) rfl c1_0 (Rp.len h1_0)) ?_
 refine a_cons (e_alloc (cs := [.slice none 0 0, .slice none 0 0]) trivial rfl ty25 rfl ?_)
 intro b1_1
 refine a_cons (e_storeWhole (i := 0) (ds := u1_0) trivial ty25 rfl rfl rfl rfl (Rp.len h1_0) ((Rp.one h1_0)) rfl (a_nil ?_))
 obtain ⟨v1o1_1_0, v1o1_1_1, rfl, h1o1_1_0, h1o1_1_1⟩ := TunnelBook.opened h1_0
 refine a_en [(1, .int .i64 p1), (2, .int .i64 p2), (3, .pointer (some ⟨b0_0, 0, none⟩)), (6, .pointer (some ⟨b0_1, 0, none⟩)), (7, .pointer (some ⟨b1_1, 0, none⟩))] ?_
 refine a_then (a_seq (a_region rfl (a_cons (e_buildSlice (xs := []) (cs := []) trivial rfl Tryd.underlying22 ty64 rfl rfl rfl (by simp [Value.cells]) rfl (rfl) ?_))))
 intro v2_0
 have h2_0 : RepL (α := TunnelPart) Hb0_0 ([]) [] := (RepL.nil (α := TunnelPart))
 have h2_1 := TunnelBook.at_Parts hb0_0
 refine ap (y_fieldAddr fo25_0 rfl) ?_
 obtain ⟨v2_2, h2_2, c2_2⟩ := PAt.sl h2_1
 refine ap (y_load_one ty22 rfl (fun _ h => h.sub) rfl c2_2) ?_
 obtain ⟨x2_3, q2_3, hm⟩ := bind_some hm
 refine a_cons (e_app_sl (i := 0) trivial rfl Tryd.underlying22 Tryd.underlying22 ty64 rfl rfl rfl rfl rfl rfl rfl rfl h2_0 h2_2 q2_3 ?_)
 intro v2_3 u2_3 h2_3
 refine ap (y_fieldAddr fo25_0 rfl) (a_cons (e_storeLR (i := 1) (j := 0) (cs' := [v2_3, v1o1_1_1]) trivial ty22 rfl rfl rfl rfl (Nat.le_of_ble_eq_true rfl) rfl (a_nil (a_en [(1, .int .i64 p1), (2, .int .i64 p2), (6, .pointer (some ⟨b0_1, 0, none⟩)), (7, .pointer (some ⟨b1_1, 0, none⟩))] ?_))))
 refine a_then (a_seq ?_)
 obtain ⟨x3_4, q3_4, hm⟩ := bind_some hm
 obtain ⟨x3_5, q3_5, hm⟩ := bind_some hm
 refine d_region (S := Sw Hb0_0 [.box b1_1 [v2_3, v1o1_1_1] 25, .box b0_1 [.slice none 0 0, .slice none 0 0] 25]) (n := 8) (listed := (bits 8 0)) mixed (by kernel_rfl) rfl (by kernel_rfl) ?_
 refine dt 0 1 rfl trivial (y_fieldAddr fo25_0 rfl) (sw0 [1, 2]) ?_
 refine dt 1 3 rfl trivial (y_load_box ty22 rfl (knows_sw (i := 0) rfl) rfl rfl) (sw0 [1, 2]) ?_
 refine dt 2 7 rfl trivial (y_move rfl) (sw0 [1, 2]) ?_
 refine dt 3 15 rfl trivial (y_move rfl) (sw0 [1, 2]) ?_
 refine d1 4 rfl (e_callV (all := [.int .i64 p2]) (v := .agg x3_4.cells.toArray) trivial rfl Tryd.func51 rfl rfl rfl rfl rfl (fun w hw => ok_51 hw q3_4) ?_)
 refine dn 31 (sw0 [1, 2]) ?_
 refine a_rowplace (i := 0) rfl rfl rfl h2_3 q3_5 ?_
 rintro b3_5 c3_5 rfl
 refine d1 5 rfl (p_pure trivial rfl rfl (y_index Tryd.underlying22 ty64 rfl rfl rfl (nth_in q3_5)) ?_)
 refine dn 63 (sw0 [1, 2]) ?_
 refine dt 6 127 rfl trivial (y_fieldAddr fo64_1 rfl) (sw0 [1, 2]) ?_
 refine d1 7 rfl (e_storeRow (α := TunnelPart) (i := 0) (ds := x3_4.cells) (l' := (x2_3).set (p1).toNat (⟨x3_5.Heat, x3_4⟩ : TunnelPart)) trivial ty32 rfl rfl rfl rfl rfl ((Rp.one (Span.rep_mk (fun _ => none) x3_4))) rfl h2_3 (PutL.at0 6 rfl q3_5 (TunnelPart.put_Damp (s := x3_5) (Put.here (Span.rep_mk _ x3_4)))) ?_)
 intro u3_7 h3_7
 refine dn 255 (sw0 [1, 2]) ?_
 refine d_done (by kernel_rfl) ?_
 refine a_en [(6, .pointer (some ⟨b0_1, 0, none⟩)), (7, .pointer (some ⟨b1_1, 0, none⟩))] ?_
 refine a_then (a_seq (a_region rfl (ap (y_load_boxagg ty25 rfl (knows_box (i := 1) rfl) rfl rfl rfl) (a_cons (e_storeWholeL (i := 2) (ds := [.slice (some ⟨b3_5, 0, none⟩) (x2_3).length c3_5, v1o1_1_1]) trivial ty25 rfl rfl rfl rfl rfl ⟨.inr ⟨_, _, _, List.mem_of_getElem? (i := 0) rfl⟩, ⟨.inl (cells_one_sl h1o1_1_1 _ (by simp)), trivial⟩⟩ rfl ?_)))))
 refine a_nil (a_en [(6, .pointer (some ⟨b0_1, 0, none⟩))] ?_)
 refine a_own [0, 2] (by decide) (L' := [.row (.slice (some ⟨b3_5, 0, none⟩) (x2_3).length c3_5) u3_7 64 6, .box b0_1 [.slice (some ⟨b3_5, 0, none⟩) (x2_3).length c3_5, v1o1_1_1] 25]) rfl ?_
 refine a_then (a_ret (a_frow (i := 0) rfl rfl h3_7 rfl ?_))
 intro He6r2_3f le6r2_3f he6r2_3f
 have h1o1_1_1 := Sl.mono le6r2_3f h1o1_1_1
 have me6l : Rp.rep He6r2_3f [.slice (some ⟨b3_5, 0, none⟩) (x2_3).length c3_5, v1o1_1_1] (⟨(x2_3).set (p1).toNat (⟨x3_5.Heat, x3_4⟩ : TunnelPart), p0.Frames⟩ : TunnelBook) := ⟨_, _, rfl, ⟨_, rfl, he6r2_3f⟩, ⟨_, rfl, h1o1_1_1⟩⟩
 refine a_done (v := .agg [.slice (some ⟨b3_5, 0, none⟩) (x2_3).length c3_5, v1o1_1_1].toArray) (.inl rfl) rfl ?_ ?_
 · intro a_ w_ ha_ hs_; exact run_results (P := Tryd.prog) (fn := Tryd.f111) (rs := [.cell 6 25]) (vs := [.agg [.slice (some ⟨b3_5, 0, none⟩) (x2_3).length c3_5, v1o1_1_1].toArray]) rfl (.cons (rv_cell ha_ rfl (run_loadSt (i := 1) ty25 rfl hs_ rfl rfl)) (All2.nil))
 · intro _ _; obtain rfl := Option.some.inj hm; exact ⟨[.slice (some ⟨b3_5, 0, none⟩) (x2_3).length c3_5, v1o1_1_1], rfl, me6l⟩

def ref00_Plus (k : Nat) (p0 : List Int) (p1 : Int) : Option (List Int) :=
 (app ([] : List Int) p0).bind fun x1_2 =>
 (app x1_2 [p1]).bind fun x1_5 =>
 some (x1_5)
theorem ok_199 {k : Nat} {H : Hp} {w : World} {p0 : List Int} {p1 : Int} {v0 : Value} {r : List Int} (hsub : Sub H w) (h0 : Sl (α := Int) H v0 p0) (hm : ref00_Plus k p0 p1 = some r) : Calls Tryd.prog 199 [v0, .int .i64 p1].toArray w (PostH w H fun v H' => ∃ v0, v = v0 ∧ Sl (α := Int) H' v0 r) := by
 unfold ref00_Plus at hm
 refine start (n := 11) (E := [(0, v0), (1, .int .i64 p1)]) Tryd.func199 rfl rfl ⟨rfl, rfl, trivial⟩ rfl hsub ?_
 refine a_seq (a_region rfl (ap (y_assign rfl) (a_nil (a_en [(0, v0), (1, .int .i64 p1)] ?_))))
 refine a_then (a_seq (a_region rfl (a_cons (e_buildSlice (xs := []) (cs := []) trivial rfl Tryd.underlying26 ty3 rfl rfl rfl (by simp [Value.cells]) rfl (rfl) ?_))))
 intro v1_0
 have h1_0 : RepL (α := Int) H ([]) [] := (RepL.nil (α := Int))
 refine ap (y_move rfl) ?_
 obtain ⟨x1_2, q1_2, hm⟩ := bind_some hm
 refine a_cons (e_app_sl (i := 0) trivial rfl Tryd.underlying26 Tryd.underlying26 ty3 rfl rfl rfl rfl rfl rfl rfl rfl h1_0 h0 q1_2 ?_)
 intro v1_2 u1_2 h1_2
 refine ap (y_move rfl) (a_cons (e_buildSlice (xs := [.tmp 8]) (cs := [.int .i64 p1]) trivial rfl Tryd.underlying26 ty3 rfl rfl rfl (by simp [Value.cells]) rfl (rfl) ?_))
 intro v1_4
 have h1_4 : RepL (α := Int) H ([.int .i64 p1]) [p1] := (RepL.cons (α := Int) (c := [.int .i64 p1]) rfl (RepL.nil (α := Int)))
 obtain ⟨x1_5, q1_5, hm⟩ := bind_some hm
 refine a_cons (e_app_row (i := 1) (j := 0) trivial rfl Tryd.underlying26 Tryd.underlying26 ty3 rfl rfl rfl rfl rfl rfl rfl rfl h1_2 rfl h1_4 q1_5 ?_)
 intro v1_5 u1_5 h1_5
 refine ap (y_assign rfl) (a_nil (a_en [(4, v1_5)] ?_))
 refine a_own [1] (by decide) (L' := [.row v1_5 u1_5 3 1]) rfl ?_
 refine a_then (a_ret (a_frow (i := 0) rfl rfl h1_5 rfl ?_))
 intro Hef lef hef
 refine a_done (v := v1_5) (.inl rfl) rfl ?_ ?_
 · intro a_ w_ ha_ hs_; exact run_results (P := Tryd.prog) (fn := Tryd.f199) (rs := [.tmp 4]) (vs := [v1_5]) rfl (.cons (rv_tmp ha_ rfl) (All2.nil))
 · intro _ _; obtain rfl := Option.some.inj hm; exact ⟨v1_5, rfl, hef⟩

def ref03_Sets_lj3 (k : Nat) (rc : TunnelBook → (List Int) → Option (List (List Int))) (p0 : TunnelBook) (p1 : List Int) : Nat → (List (List Int)) → Int → Option (List (List Int))
 | 0, _, _ => none
 | n_j3 + 1, yj3_5, yj3_6 =>
 bif decide (yj3_6 < 4) then
 (ref00_Plus k p1 yj3_6).bind fun x7_4 =>
 (rc p0 x7_4).bind fun x7_5 =>
 (app yj3_5 x7_5).bind fun x7_6 =>
 ref03_Sets_lj3 k rc p0 p1 n_j3 x7_6 (IntKind.i64.wrap (yj3_6 + 1))
 else
 some (yj3_5)
def ref03_Sets : Nat → TunnelBook → (List Int) → Option (List (List Int))
 | 0, _, _ => none
 | k + 1, p0, p1 =>
 bif (p1.length : Int) == (p0.Parts.length : Int) then
 some ([p1])
 else
 (ref03_Sets_lj3 k (ref03_Sets k) p0 p1 k ([] : List (List Int)) 0).bind fun yj2_5 =>
 some (yj2_5)
theorem ok_156 : ∀ {k : Nat} {H : Hp} {w : World} {p0 : TunnelBook} {p1 : List Int} {c0 : List Value} {v1 : Value} {r : List (List Int)} (hsub : Sub H w) (h0 : Rp.rep (α := TunnelBook) H c0 p0) (h1 : Sl (α := Int) H v1 p1) (hm : ref03_Sets k p0 p1 = some r), Calls Tryd.prog 156 [.agg c0.toArray, v1].toArray w (PostH w H fun v H' => ∃ v0, v = v0 ∧ Sl (α := List Int) H' v0 r) := by
 intro k
 induction k with
 | zero => intros; rename_i hm; rw [ref03_Sets] at hm; cases hm
 | succ k ih =>
   intro H w p0 p1 c0 v1 r hsub h0 h1 hm
   rw [ref03_Sets] at hm
   refine start (n := 27) (E := [(0, .agg c0.toArray), (1, v1)]) Tryd.func156 rfl rfl ⟨rfl, rfl, trivial⟩ rfl hsub ?_
   refine a_seq (a_region rfl (a_cons (e_box (cs := c0) trivial rfl rfl rfl ?_)))
   intro b0_0
   refine ap (y_assign rfl) (a_nil (a_freeze (α := TunnelBook) (x := p0) (i := 0) rfl h0 ?_))
   intro Hb0_0 lb0_0 hb0_0
   have h0 := Rp.mono lb0_0 h0
   have h1 := Sl.mono lb0_0 h1
   refine a_en [(1, v1), (2, .pointer (some ⟨b0_0, 0, none⟩))] ?_
   refine a_own [] (by decide) (L' := []) rfl ?_
   refine a_then (a_seq (a_seq (a_region rfl (ap (y_move rfl) (ap (y_len_sl Tryd.underlying26 rfl h1) ?_)))))
   have h1_2 := TunnelBook.at_Parts hb0_0
   refine ap (y_fieldAddr fo25_0 rfl) ?_
   obtain ⟨v1_3, h1_3, c1_3⟩ := PAt.sl h1_2
   refine ap (y_load_one ty22 rfl (fun _ h => h.sub) rfl c1_3) ?_
   refine ap (y_len_sl Tryd.underlying22 rfl h1_3) (ap (y_eql rfl rfl) (a_nil (a_en [(1, v1), (2, .pointer (some ⟨b0_0, 0, none⟩)), (12, .bool ((p1.length : Int) == (p0.Parts.length : Int)))] ?_)))
   refine a_then ?_
   refine a_cond rfl (fun k_1 => ?_) (fun k_1 => ?_)
   · have hm := cond_t k_1 hm
     refine a_seq (a_region rfl (ap (y_move rfl) (a_cons (e_buildSlice (xs := [.tmp 13]) (cs := [v1]) trivial rfl Tryd.underlying97 ty26 rfl rfl rfl (by simp [Sl.cells1 h1]; try simp [Value.cells]) rfl (by simp [Sl.cells1 h1]; try simp [Value.cells]) ?_))))
     intro v2_1
     have h2_1 : RepL (α := List Int) Hb0_0 ([v1]) [p1] := (RepL.cons (α := List Int) (c := [v1]) ⟨_, rfl, h1⟩ (RepL.nil (α := List Int)))
     refine ap (y_assign rfl) (a_nil (a_en [(4, v2_1)] ?_))
     refine a_then (a_ret (a_then_ret (a_frow (i := 0) rfl rfl h2_1 rfl ?_)))
     intro Hef lef hef
     refine a_done (v := v2_1) (.inl rfl) rfl ?_ ?_
     · intro a_ w_ ha_ hs_; exact run_results (P := Tryd.prog) (fn := Tryd.f156) (rs := [.tmp 4]) (vs := [v2_1]) rfl (.cons (rv_tmp ha_ rfl) (All2.nil))
     · intro _ _; obtain rfl := Option.some.inj hm; exact ⟨v2_1, rfl, hef⟩
   have hm := cond_f k_1 hm
   refine a_skip (a_then (a_seq (a_region rfl (ap (y_assign rfl) (a_nil (a_en [(1, v1), (2, .pointer (some ⟨b0_0, 0, none⟩)), (5, .slice none 0 0)] ?_))))))
   refine a_then (a_seq (a_seq (a_region rfl (ap (y_assign rfl) (a_nil (a_then ?_))))))
   obtain ⟨s_j2, hs_j2, hm_j2⟩ := bind_some hm
   refine a_join (fun a_ w_ => ∃ (Hj2 : Hp), ∃ (_ : HLe Hb0_0 Hj2), ∃ (yj2_5 : List (List Int)), ∃ (vj2_5 : Value), ∃ (uj2_5 : List Value), yj2_5 = s_j2 ∧ RepL (α := List Int) Hj2 uj2_5 yj2_5 ∧ Ag 27 [] [(5, vj2_5)] a_ ∧ St (Kp.mk w H noX) Hj2 [.row vj2_5 uj2_5 26 1] w_) ?_ ?_
   · have hm := hs_j2
     refine a_block ?_
     refine a_loop (fun n_j3 a_ w_ => ∃ (Hj3 : Hp), ∃ (_ : HLe Hb0_0 Hj3), ∃ (yj3_5 : List (List Int)), ∃ (yj3_6 : Int), ∃ (vj3_5 : Value), ∃ (uj3_5 : List Value), ref03_Sets_lj3 k (ref03_Sets k) p0 p1 n_j3 yj3_5 yj3_6 = some s_j2 ∧ RepL (α := List Int) Hj3 uj3_5 yj3_5 ∧ Ag 27 [] [(1, v1), (2, .pointer (some ⟨b0_0, 0, none⟩)), (5, vj3_5), (6, .int .i64 yj3_6)] a_ ∧ St (Kp.mk w H noX) Hj3 [.row vj3_5 uj3_5 26 1] w_) k ?_ ?_
     · refine a_nilrow (x := none) (T := 26) (sz := 1) ?_
       have hzrj3_5 : RepL (α := List Int) Hb0_0 [] [] := RepL.nil
       intro a_ w_ ha_ hs_
       exact ⟨Hb0_0, (HLe.refl _), ([] : List (List Int)), 0, .slice none 0 0, [], hm, hzrj3_5, ha_.weaken ⟨rfl, rfl, rfl, rfl, trivial⟩, hs_.reix [0] (by decide)⟩
     rintro (_ | n_j3) a_ w_ ⟨Hj3, lj3, yj3_5, yj3_6, vj3_5, uj3_5, hm, hj3_5, ha_, hs_⟩
     · rw [ref03_Sets_lj3.eq_1] at hm; cases hm
     rw [ref03_Sets_lj3.eq_2] at hm
     refine a_start ha_ hs_ ?_
     have h1 := Sl.mono lj3 h1
     have hb0_0 := PAt.mono lj3 hb0_0
     refine a_seq (a_seq (a_region rfl (ap (y_move rfl) (ap (y_lss rfl rfl) (a_nil (a_en [(1, v1), (2, .pointer (some ⟨b0_0, 0, none⟩)), (5, vj3_5), (6, .int .i64 yj3_6), (16, .bool (decide (yj3_6 < 4)))] ?_))))))
     refine a_then ?_
     refine a_cond rfl (fun k_4 => ?_) (fun k_4 => ?_)
     · have hm := cond_t k_4 hm
       refine a_skip (a_then (a_seq (a_block ?_)))
       obtain ⟨x7_4, q7_4, hm⟩ := bind_some hm
       obtain ⟨x7_5, q7_5, hm⟩ := bind_some hm
       obtain ⟨x7_6, q7_6, hm⟩ := bind_some hm
       refine d_region (S := Sw Hj3 []) (n := 8) (listed := (bits 8 0)) mixed (by kernel_rfl) rfl (by kernel_rfl) ?_
       refine dt 0 1 rfl trivial (y_move rfl) (sw0 []) ?_
       obtain ⟨u7_1, h7_1, c7_1⟩ := PAt.one hb0_0
       refine dt 1 3 rfl trivial (y_load_cells ty25 rfl (fun _ h => h.1) rfl c7_1 (Rp.len h7_1)) (sw0 []) ?_
       refine dt 2 7 rfl trivial (y_move rfl) (sw0 []) ?_
       refine dt 3 15 rfl trivial (y_move rfl) (sw0 []) ?_
       refine d1 4 rfl (e_callH (all := [v1, .int .i64 yj3_6]) trivial rfl Tryd.func199 rfl rfl rfl rfl rfl (fun w hw => ok_199 hw h1 q7_4) ?_)
       rintro v7_4r0 H7_4 l7_4 ⟨_, rfl, h7_4r0⟩
       have h1 := Sl.mono l7_4 h1
       have hb0_0 := PAt.mono l7_4 hb0_0
       have h7_1 := Rp.mono l7_4 h7_1
       have hj3_5 := RepL.mono l7_4 hj3_5
       refine dn 31 (swl l7_4 []) ?_
       refine d1 5 rfl (e_callH (all := [.agg u7_1.toArray, v7_4r0]) trivial rfl Tryd.func156 rfl rfl rfl rfl rfl (fun w hw => ih hw h7_1 h7_4r0 q7_5) ?_)
       rintro v7_5r0 H7_5 l7_5 ⟨_, rfl, h7_5r0⟩
       have h1 := Sl.mono l7_5 h1
       have hb0_0 := PAt.mono l7_5 hb0_0
       have h7_1 := Rp.mono l7_5 h7_1
       have h7_4r0 := Sl.mono l7_5 h7_4r0
       have hj3_5 := RepL.mono l7_5 hj3_5
       refine dn 63 (swl (l7_4.trans l7_5) []) ?_
       refine d1 6 rfl (e_app_sl (i := 0) trivial rfl Tryd.underlying97 Tryd.underlying97 ty26 rfl rfl rfl rfl rfl rfl rfl rfl hj3_5 h7_5r0 q7_6 ?_)
       intro v7_6 u7_6 h7_6
       refine dn 127 (swl (l7_4.trans l7_5) []) ?_
       refine d_weaken (S' := Sw H7_5 []) (sw_sw (l7_4.trans l7_5) [] rfl) ?_
       refine dt 7 255 rfl trivial (y_assign rfl) (sw0 []) ?_
       refine d_done (by kernel_rfl) ?_
       refine a_en [(1, v1), (2, .pointer (some ⟨b0_0, 0, none⟩)), (5, v7_6), (6, .int .i64 yj3_6)] ?_
       refine a_block_normal (a_then (a_region rfl (ap (y_move rfl) (ap (y_add rfl rfl) (ap (y_assign rfl) (a_nil (a_en [(1, v1), (2, .pointer (some ⟨b0_0, 0, none⟩)), (5, v7_6), (6, .int .i64 (IntKind.i64.wrap (yj3_6 + 1)))] ?_)))))))
       refine a_then ?_
       intro a_ w_ ha_ hs_
       exact ⟨n_j3, Nat.lt_succ_self _, H7_5, (lj3.trans (l7_4.trans l7_5)), x7_6, IntKind.i64.wrap (yj3_6 + 1), v7_6, u7_6, hm, h7_6, ha_.weaken ⟨rfl, rfl, rfl, rfl, trivial⟩, hs_.reix [0] (by decide)⟩
     have hm := cond_f k_4 hm
     refine a_exit (a_then_exit (a_then_exit (a_block_hit (a_cut ?_))))
     intro a_ w_ ha_ hs_
     exact ⟨Hj3, lj3, yj3_5, vj3_5, uj3_5, Option.some.inj hm, hj3_5, ha_.weaken ⟨rfl, trivial⟩, hs_.reix [0] (by decide)⟩
   have hm := hm_j2
   rintro a_ w_ ⟨Hj2, lj2, yj2_5, vj2_5, uj2_5, rfl, hj2_5, ha_, hs_⟩
   try dsimp only at hm
   refine a_start ha_ hs_ (a_then (a_seq (a_region rfl (ap (y_move rfl) (ap (y_assign rfl) (a_nil (a_en [(4, vj2_5)] ?_)))))))
   refine a_then (a_ret (a_frow (i := 0) rfl rfl hj2_5 rfl ?_))
   intro Hef lef hef
   refine a_done (v := vj2_5) (.inl rfl) rfl ?_ ?_
   · intro a_ w_ ha_ hs_; exact run_results (P := Tryd.prog) (fn := Tryd.f156) (rs := [.tmp 4]) (vs := [vj2_5]) rfl (.cons (rv_tmp ha_ rfl) (All2.nil))
   · intro _ _; obtain rfl := Option.some.inj hm; exact ⟨vj2_5, rfl, hef⟩

def ref03_good_lj2 (k : Nat) (p0 : TunnelBook) (p1 : List Int) : Nat → (List Int) → Int → Option (List Int)
 | 0, _, _ => none
 | n_j2 + 1, yj2_5, yj2_6 =>
 bif decide (yj2_6 < (p0.Frames.length : Int)) then
 (nth p0.Frames yj2_6).bind fun x5_5 =>
 (ref03_dry k p0 p1 x5_5).bind fun x5_7 =>
 bif x5_7 then
 (app yj2_5 [yj2_6]).bind fun x6_3 =>
 ref03_good_lj2 k p0 p1 n_j2 x6_3 (IntKind.i64.wrap (yj2_6 + 1))
 else
 ref03_good_lj2 k p0 p1 n_j2 yj2_5 (IntKind.i64.wrap (yj2_6 + 1))
 else
 some (yj2_5)
def ref03_good (k : Nat) (p0 : TunnelBook) (p1 : List Int) : Option (List Int) :=
 (ref03_good_lj2 k p0 p1 k ([] : List Int) 0).bind fun yj1_5 =>
 some (yj1_5)
theorem ok_93 {k : Nat} {H : Hp} {w : World} {p0 : TunnelBook} {p1 : List Int} {c0 : List Value} {v1 : Value} {r : List Int} (hsub : Sub H w) (h0 : Rp.rep (α := TunnelBook) H c0 p0) (h1 : Sl (α := Int) H v1 p1) (hm : ref03_good k p0 p1 = some r) : Calls Tryd.prog 93 [.agg c0.toArray, v1].toArray w (PostH w H fun v H' => ∃ v0, v = v0 ∧ Sl (α := Int) H' v0 r) := by
 unfold ref03_good at hm
 refine start (n := 27) (E := [(0, .agg c0.toArray), (1, v1)]) Tryd.func93 rfl rfl ⟨rfl, rfl, trivial⟩ rfl hsub ?_
 refine a_seq (a_region rfl (a_cons (e_box (cs := c0) trivial rfl rfl rfl ?_)))
 intro b0_0
 refine ap (y_assign rfl) (a_nil (a_freeze (α := TunnelBook) (x := p0) (i := 0) rfl h0 ?_))
 intro Hb0_0 lb0_0 hb0_0
 have h0 := Rp.mono lb0_0 h0
 have h1 := Sl.mono lb0_0 h1
 refine a_en [(1, v1), (2, .pointer (some ⟨b0_0, 0, none⟩))] ?_
 refine a_own [] (by decide) (L' := []) rfl ?_
 refine a_then (a_seq (a_region rfl (ap (y_assign rfl) (a_nil (a_then (a_seq (a_seq (a_region rfl (ap (y_assign rfl) (a_nil (a_then ?_)))))))))))
 obtain ⟨s_j1, hs_j1, hm_j1⟩ := bind_some hm
 refine a_join (fun a_ w_ => ∃ (yj1_5 : List Int), ∃ (vj1_5 : Value), ∃ (uj1_5 : List Value), yj1_5 = s_j1 ∧ RepL (α := Int) Hb0_0 uj1_5 yj1_5 ∧ Ag 27 [] [(5, vj1_5)] a_ ∧ St (Kp.mk w H noX) Hb0_0 [.row vj1_5 uj1_5 3 1] w_) ?_ ?_
 · have hm := hs_j1
   refine a_block ?_
   refine a_loop (fun n_j2 a_ w_ => ∃ (yj2_5 : List Int), ∃ (yj2_6 : Int), ∃ (vj2_5 : Value), ∃ (uj2_5 : List Value), ref03_good_lj2 k p0 p1 n_j2 yj2_5 yj2_6 = some s_j1 ∧ RepL (α := Int) Hb0_0 uj2_5 yj2_5 ∧ Ag 27 [] [(1, v1), (2, .pointer (some ⟨b0_0, 0, none⟩)), (5, vj2_5), (6, .int .i64 yj2_6)] a_ ∧ St (Kp.mk w H noX) Hb0_0 [.row vj2_5 uj2_5 3 1] w_) k ?_ ?_
   · refine a_nilrow (x := none) (T := 3) (sz := 1) ?_
     have hzrj2_5 : RepL (α := Int) Hb0_0 [] [] := RepL.nil
     intro a_ w_ ha_ hs_
     exact ⟨([] : List Int), 0, .slice none 0 0, [], hm, hzrj2_5, ha_.weaken ⟨rfl, rfl, rfl, rfl, trivial⟩, hs_.reix [0] (by decide)⟩
   rintro (_ | n_j2) a_ w_ ⟨yj2_5, yj2_6, vj2_5, uj2_5, hm, hj2_5, ha_, hs_⟩
   · rw [ref03_good_lj2.eq_1] at hm; cases hm
   rw [ref03_good_lj2.eq_2] at hm
   refine a_start ha_ hs_ (a_seq (a_seq (a_region rfl (ap (y_move rfl) ?_))))
   have h3_1 := TunnelBook.at_Frames hb0_0
   refine ap (y_fieldAddr fo25_1 rfl) ?_
   obtain ⟨v3_2, h3_2, c3_2⟩ := PAt.sl h3_1
   refine ap (y_load_one ty23 rfl (fun _ h => h.sub) rfl c3_2) ?_
   refine ap (y_len_sl Tryd.underlying23 rfl h3_2) (ap (y_lss rfl rfl) (a_nil (a_en [(1, v1), (2, .pointer (some ⟨b0_0, 0, none⟩)), (5, vj2_5), (6, .int .i64 yj2_6), (11, .bool (decide (yj2_6 < (p0.Frames.length : Int))))] ?_)))
   refine a_then ?_
   refine a_cond rfl (fun k_3 => ?_) (fun k_3 => ?_)
   · have hm := cond_t k_3 hm
     refine a_skip (a_then (a_seq (a_block (a_seq ?_))))
     obtain ⟨x5_5, q5_5, hm⟩ := bind_some hm
     obtain ⟨x5_7, q5_7, hm⟩ := bind_some hm
     refine d_region (S := Sw Hb0_0 []) (n := 8) (listed := (bits 8 0)) mixed (by kernel_rfl) rfl (by kernel_rfl) ?_
     obtain ⟨u5_0, h5_0, c5_0⟩ := PAt.one hb0_0
     refine dt 0 1 rfl trivial (y_load_cells ty25 rfl (fun _ h => h.1) rfl c5_0 (Rp.len h5_0)) (sw0 []) ?_
     refine dt 1 3 rfl trivial (y_move rfl) (sw0 []) ?_
     have h5_2 := TunnelBook.at_Frames hb0_0
     refine dt 2 7 rfl trivial (y_fieldAddr fo25_1 rfl) (sw0 []) ?_
     obtain ⟨v5_3, h5_3, c5_3⟩ := PAt.sl h5_2
     refine dt 3 15 rfl trivial (y_load_one ty23 rfl (fun _ h => h.1) rfl c5_3) (sw0 []) ?_
     refine dt 4 31 rfl trivial (y_move rfl) (sw0 []) ?_
     obtain ⟨b5_5, o5_5, c5_5, e5_5, h5_5⟩ := Sl.elemZ 3 rfl h5_3 q5_5
     refine dt 5 63 rfl trivial (y_index Tryd.underlying23 ty55 rfl e5_5 rfl (nth_in q5_5)) (sw0 []) ?_
     obtain ⟨u5_6, h5_6, c5_6⟩ := PAt.one h5_5
     refine dt 6 127 rfl trivial (y_load_cells ty55 rfl (fun _ h => h.1) rfl c5_6 (Rp.len h5_6)) (sw0 []) ?_
     refine d1 7 rfl (e_callV (all := [.agg u5_0.toArray, v1, .agg u5_6.toArray]) (v := .bool x5_7) trivial rfl Tryd.func108 rfl rfl rfl rfl rfl (fun w hw => ok_108 hw h5_0 h1 h5_6 q5_7) ?_)
     refine dn 255 (sw0 []) ?_
     refine d_done (by kernel_rfl) ?_
     refine a_en [(1, v1), (2, .pointer (some ⟨b0_0, 0, none⟩)), (5, vj2_5), (6, .int .i64 yj2_6), (21, .bool x5_7)] ?_
     refine a_then ?_
     refine a_cond rfl (fun k_4 => ?_) (fun k_4 => ?_)
     · have hm := cond_t k_4 hm
       refine a_region rfl (ap (y_move rfl) (ap (y_move rfl) (a_cons (e_buildSlice (xs := [.tmp 23]) (cs := [.int .i64 yj2_6]) trivial rfl Tryd.underlying26 ty3 rfl rfl rfl (by simp [Value.cells]) rfl (rfl) ?_))))
       intro v6_2
       have h6_2 : RepL (α := Int) Hb0_0 ([.int .i64 yj2_6]) [yj2_6] := (RepL.cons (α := Int) (c := [.int .i64 yj2_6]) rfl (RepL.nil (α := Int)))
       obtain ⟨x6_3, q6_3, hm⟩ := bind_some hm
       refine a_cons (e_app_row (i := 1) (j := 0) trivial rfl Tryd.underlying26 Tryd.underlying26 ty3 rfl rfl rfl rfl rfl rfl rfl rfl hj2_5 rfl h6_2 q6_3 ?_)
       intro v6_3 u6_3 h6_3
       refine ap (y_assign rfl) (a_nil (a_en [(1, v1), (2, .pointer (some ⟨b0_0, 0, none⟩)), (5, v6_3), (6, .int .i64 yj2_6)] ?_))
       refine a_own [1] (by decide) (L' := [.row v6_3 u6_3 3 1]) rfl ?_
       refine a_block_normal (a_then (a_region rfl (ap (y_move rfl) (ap (y_add rfl rfl) (ap (y_assign rfl) (a_nil (a_en [(1, v1), (2, .pointer (some ⟨b0_0, 0, none⟩)), (5, v6_3), (6, .int .i64 (IntKind.i64.wrap (yj2_6 + 1)))] ?_)))))))
       refine a_then ?_
       intro a_ w_ ha_ hs_
       exact ⟨n_j2, Nat.lt_succ_self _, x6_3, IntKind.i64.wrap (yj2_6 + 1), v6_3, u6_3, hm, h6_3, ha_.weaken ⟨rfl, rfl, rfl, rfl, trivial⟩, hs_.reix [0] (by decide)⟩
     have hm := cond_f k_4 hm
     refine a_skip (a_block_normal (a_then (a_region rfl (ap (y_move rfl) (ap (y_add rfl rfl) (ap (y_assign rfl) (a_nil (a_en [(1, v1), (2, .pointer (some ⟨b0_0, 0, none⟩)), (5, vj2_5), (6, .int .i64 (IntKind.i64.wrap (yj2_6 + 1)))] ?_))))))))
     refine a_then ?_
     intro a_ w_ ha_ hs_
     exact ⟨n_j2, Nat.lt_succ_self _, yj2_5, IntKind.i64.wrap (yj2_6 + 1), vj2_5, uj2_5, hm, hj2_5, ha_.weaken ⟨rfl, rfl, rfl, rfl, trivial⟩, hs_.reix [0] (by decide)⟩
   have hm := cond_f k_3 hm
   refine a_exit (a_then_exit (a_then_exit (a_block_hit (a_cut ?_))))
   intro a_ w_ ha_ hs_
   exact ⟨yj2_5, vj2_5, uj2_5, Option.some.inj hm, hj2_5, ha_.weaken ⟨rfl, trivial⟩, hs_.reix [0] (by decide)⟩
 have hm := hm_j1
 rintro a_ w_ ⟨yj1_5, vj1_5, uj1_5, rfl, hj1_5, ha_, hs_⟩
 try dsimp only at hm
 refine a_start ha_ hs_ (a_then (a_seq (a_region rfl (ap (y_move rfl) (ap (y_assign rfl) (a_nil (a_en [(4, vj1_5)] ?_)))))))
 refine a_then (a_ret (a_frow (i := 0) rfl rfl hj1_5 rfl ?_))
 intro Hef lef hef
 refine a_done (v := vj1_5) (.inl rfl) rfl ?_ ?_
 · intro a_ w_ ha_ hs_; exact run_results (P := Tryd.prog) (fn := Tryd.f93) (rs := [.tmp 4]) (vs := [vj1_5]) rfl (.cons (rv_tmp ha_ rfl) (All2.nil))
 · intro _ _; obtain rfl := Option.some.inj hm; exact ⟨vj1_5, rfl, hef⟩

def ref03_heat_lj2 (k : Nat) (p0 : TunnelBook) (p1 : List Int) : Nat → Int → Int → Option Int
 | 0, _, _ => none
 | n_j2 + 1, yj2_5, yj2_6 =>
 bif decide (yj2_6 < (p1.length : Int)) then
 (nth p1 yj2_6).bind fun x5_6 =>
 (nth p0.Parts yj2_6).bind fun x5_8 =>
 (nth x5_8.Heat x5_6).bind fun x5_10 =>
 ref03_heat_lj2 k p0 p1 n_j2 (IntKind.i64.wrap (yj2_5 + x5_10)) (IntKind.i64.wrap (yj2_6 + 1))
 else
 some (yj2_5)
def ref03_heat (k : Nat) (p0 : TunnelBook) (p1 : List Int) : Option Int :=
 (ref03_heat_lj2 k p0 p1 k 0 0).bind fun yj1_5 =>
 some (yj1_5)
theorem ok_84 {k : Nat} {H : Hp} {w : World} {p0 : TunnelBook} {p1 : List Int} {c0 : List Value} {v1 : Value} {r : Int} (hsub : Sub H w) (h0 : Rp.rep (α := TunnelBook) H c0 p0) (h1 : Sl (α := Int) H v1 p1) (hm : ref03_heat k p0 p1 = some r) : Calls Tryd.prog 84 [.agg c0.toArray, v1].toArray w (PostV w H (.int .i64 r)) := by
 unfold ref03_heat at hm
 refine start (n := 27) (E := [(0, .agg c0.toArray), (1, v1)]) Tryd.func84 rfl rfl ⟨rfl, rfl, trivial⟩ rfl hsub ?_
 refine a_seq (a_region rfl (a_cons (e_box (cs := c0) trivial rfl rfl rfl ?_)))
 intro b0_0
 refine ap (y_assign rfl) (a_nil (a_freeze (α := TunnelBook) (x := p0) (i := 0) rfl h0 ?_))
 intro Hb0_0 lb0_0 hb0_0
 have h0 := Rp.mono lb0_0 h0
 have h1 := Sl.mono lb0_0 h1
 refine a_en [(1, v1), (2, .pointer (some ⟨b0_0, 0, none⟩))] ?_
 refine a_own [] (by decide) (L' := []) rfl ?_
 refine a_then (a_seq (a_region rfl (ap (y_assign rfl) (a_nil (a_then (a_seq (a_seq (a_region rfl (ap (y_assign rfl) (a_nil (a_then ?_)))))))))))
 obtain ⟨s_j1, hs_j1, hm_j1⟩ := bind_some hm
 refine a_join (fun a_ w_ => ∃ (yj1_5 : Int), yj1_5 = s_j1 ∧ Ag 27 [] [(5, .int .i64 yj1_5)] a_ ∧ St (Kp.mk w H noX) Hb0_0 [] w_) ?_ ?_
 · have hm := hs_j1
   refine a_block ?_
   refine a_loop (fun n_j2 a_ w_ => ∃ (yj2_5 : Int), ∃ (yj2_6 : Int), ref03_heat_lj2 k p0 p1 n_j2 yj2_5 yj2_6 = some s_j1 ∧ Ag 27 [] [(1, v1), (2, .pointer (some ⟨b0_0, 0, none⟩)), (5, .int .i64 yj2_5), (6, .int .i64 yj2_6)] a_ ∧ St (Kp.mk w H noX) Hb0_0 [] w_) k ?_ ?_
   · intro a_ w_ ha_ hs_
     exact ⟨0, 0, hm, ha_.weaken ⟨rfl, rfl, rfl, rfl, trivial⟩, hs_.reix [] (by decide)⟩
   rintro (_ | n_j2) a_ w_ ⟨yj2_5, yj2_6, hm, ha_, hs_⟩
   · rw [ref03_heat_lj2.eq_1] at hm; cases hm
   rw [ref03_heat_lj2.eq_2] at hm
   refine a_start ha_ hs_ (a_seq (a_seq (a_region rfl (ap (y_move rfl) (ap (y_move rfl) (ap (y_len_sl Tryd.underlying26 rfl h1) (ap (y_lss rfl rfl) (a_nil (a_en [(1, v1), (2, .pointer (some ⟨b0_0, 0, none⟩)), (5, .int .i64 yj2_5), (6, .int .i64 yj2_6), (10, .bool (decide (yj2_6 < (p1.length : Int))))] ?_)))))))))
   refine a_then ?_
   refine a_cond rfl (fun k_3 => ?_) (fun k_3 => ?_)
   · have hm := cond_t k_3 hm
     refine a_skip (a_then (a_seq (a_block ?_)))
     obtain ⟨x5_6, q5_6, hm⟩ := bind_some hm
     obtain ⟨x5_8, q5_8, hm⟩ := bind_some hm
     obtain ⟨x5_10, q5_10, hm⟩ := bind_some hm
     refine d_region (S := Sw Hb0_0 []) (n := 14) (listed := (bits 14 0)) mixed (by kernel_rfl) rfl (by kernel_rfl) ?_
     refine dt 0 1 rfl trivial (y_move rfl) (sw0 []) ?_
     have h5_1 := TunnelBook.at_Parts hb0_0
     refine dt 1 3 rfl trivial (y_fieldAddr fo25_0 rfl) (sw0 []) ?_
     obtain ⟨v5_2, h5_2, c5_2⟩ := PAt.sl h5_1
     refine dt 2 7 rfl trivial (y_load_one ty22 rfl (fun _ h => h.1) rfl c5_2) (sw0 []) ?_
     refine dt 3 15 rfl trivial (y_move rfl) (sw0 []) ?_
     refine dt 4 31 rfl trivial (y_move rfl) (sw0 []) ?_
     refine dt 5 63 rfl trivial (y_move rfl) (sw0 []) ?_
     obtain ⟨b5_6, o5_6, c5_6, e5_6, h5_6⟩ := Sl.elemZ 1 rfl h1 q5_6
     refine dt 6 127 rfl trivial (y_index Tryd.underlying26 ty3 rfl e5_6 rfl (nth_in q5_6)) (sw0 []) ?_
     refine dt 7 255 rfl trivial (y_load_int ty3 rfl (fun _ h => h.1) rfl h5_6) (sw0 []) ?_
     obtain ⟨b5_8, o5_8, c5_8, e5_8, h5_8⟩ := Sl.elemZ 6 rfl h5_2 q5_8
     refine dt 8 511 rfl trivial (y_index Tryd.underlying22 ty64 rfl e5_8 rfl (nth_in q5_8)) (sw0 []) ?_
     have h5_9 := TunnelPart.at_Heat h5_8
     refine dt 9 1023 rfl trivial (y_fieldAddr fo64_0 rfl) (sw0 []) ?_
     have h5_10 := PAt.arrZ 1 rfl h5_9 q5_10
     have k5_10 := PAt.arrIn h5_9 q5_10
     refine dt 10 2047 rfl trivial (y_index_arrp Tryd.underlying62 ty3 rfl rfl k5_10) (sw0 []) ?_
     refine dt 11 4095 rfl trivial (y_load_int ty3 rfl (fun _ h => h.1) rfl h5_10) (sw0 []) ?_
     refine dt 12 8191 rfl trivial (y_add rfl rfl) (sw0 []) ?_
     refine dt 13 16383 rfl trivial (y_assign rfl) (sw0 []) ?_
     refine d_done (by kernel_rfl) ?_
     refine a_en [(1, v1), (2, .pointer (some ⟨b0_0, 0, none⟩)), (5, .int .i64 (IntKind.i64.wrap (yj2_5 + x5_10))), (6, .int .i64 yj2_6)] ?_
     refine a_block_normal (a_then (a_region rfl (ap (y_move rfl) (ap (y_add rfl rfl) (ap (y_assign rfl) (a_nil (a_en [(1, v1), (2, .pointer (some ⟨b0_0, 0, none⟩)), (5, .int .i64 (IntKind.i64.wrap (yj2_5 + x5_10))), (6, .int .i64 (IntKind.i64.wrap (yj2_6 + 1)))] ?_)))))))
     refine a_then ?_
     intro a_ w_ ha_ hs_
     exact ⟨n_j2, Nat.lt_succ_self _, IntKind.i64.wrap (yj2_5 + x5_10), IntKind.i64.wrap (yj2_6 + 1), hm, ha_.weaken ⟨rfl, rfl, rfl, rfl, trivial⟩, hs_.reix [] (by decide)⟩
   have hm := cond_f k_3 hm
   refine a_exit (a_then_exit (a_then_exit (a_block_hit (a_cut ?_))))
   intro a_ w_ ha_ hs_
   exact ⟨yj2_5, Option.some.inj hm, ha_.weaken ⟨rfl, trivial⟩, hs_.reix [] (by decide)⟩
 have hm := hm_j1
 rintro a_ w_ ⟨yj1_5, rfl, ha_, hs_⟩
 try dsimp only at hm
 refine a_start ha_ hs_ (a_then (a_seq (a_region rfl (ap (y_move rfl) (ap (y_assign rfl) (a_nil (a_en [(4, .int .i64 yj1_5)] ?_)))))))
 refine a_then (a_ret ?_)
 refine a_done (v := .int .i64 yj1_5) (.inl rfl) rfl ?_ ?_
 · intro a_ w_ ha_ hs_; exact run_results (P := Tryd.prog) (fn := Tryd.f84) (rs := [.tmp 4]) (vs := [.int .i64 yj1_5]) rfl (.cons (rv_tmp ha_ rfl) (All2.nil))
 · intro _ _; obtain rfl := Option.some.inj hm
   rfl

def ref03_most_lj2 (k : Nat) (p0 : TunnelBook) (x1_1 : List (List Int)) : Nat → (List Int) → Int → Option (List Int)
 | 0, _, _ => none
 | n_j2 + 1, yj2_4, yj2_5 =>
 bif decide (yj2_5 < (x1_1.length : Int)) then
 (nth x1_1 yj2_5).bind fun x6_3 =>
 (ref03_good k p0 x6_3).bind fun x6_5 =>
 (ref03_good k p0 yj2_4).bind fun x6_9 =>
 (bif decide ((x6_5.length : Int) > (x6_9.length : Int)) then
 some (true)
 else
 bif (x6_5.length : Int) == (x6_9.length : Int) then
 (nth x1_1 yj2_5).bind fun x7_11 =>
 (ref03_heat k p0 x7_11).bind fun x7_13 =>
 (ref03_heat k p0 yj2_4).bind fun x7_16 =>
 some ((decide (x7_13 < x7_16)))
 else
 some (false)).bind fun yj4_49 =>
 bif yj4_49 then
 (nth x1_1 yj2_5).bind fun x8_2 =>
 ref03_most_lj2 k p0 x1_1 n_j2 x8_2 (IntKind.i64.wrap (yj2_5 + 1))
 else
 ref03_most_lj2 k p0 x1_1 n_j2 yj2_4 (IntKind.i64.wrap (yj2_5 + 1))
 else
 some (yj2_4)
def ref03_most (k : Nat) (p0 : TunnelBook) : Option (List Int) :=
 (ref03_Sets k p0 []).bind fun x1_1 =>
 (nth x1_1 (0 : Int)).bind fun x2_1 =>
 (ref03_most_lj2 k p0 x1_1 k x2_1 1).bind fun yj1_4 =>
 some (yj1_4)
theorem ok_99 {k : Nat} {H : Hp} {w : World} {p0 : TunnelBook} {c0 : List Value} {r : List Int} (hsub : Sub H w) (h0 : Rp.rep (α := TunnelBook) H c0 p0) (hm : ref03_most k p0 = some r) : Calls Tryd.prog 99 [.agg c0.toArray].toArray w (PostH w H fun v H' => ∃ v0, v = v0 ∧ Sl (α := Int) H' v0 r) := by
 unfold ref03_most at hm
 refine start (n := 55) (E := [(0, .agg c0.toArray)]) Tryd.func99 rfl rfl ⟨rfl, trivial⟩ rfl hsub ?_
 refine a_seq (a_region rfl (a_cons (e_box (cs := c0) trivial rfl rfl rfl ?_)))
 intro b0_0
 refine ap (y_assign rfl) (a_nil (a_freeze (α := TunnelBook) (x := p0) (i := 0) rfl h0 ?_))
 intro Hb0_0 lb0_0 hb0_0
 have h0 := Rp.mono lb0_0 h0
 refine a_en [(1, .pointer (some ⟨b0_0, 0, none⟩))] ?_
 refine a_own [] (by decide) (L' := []) rfl ?_
 refine a_then (a_seq (a_region rfl ?_))
 obtain ⟨u1_0, h1_0, c1_0⟩ := PAt.one hb0_0
 refine ap (y_load_cells ty25 rfl (fun _ h => h.sub) rfl c1_0 (Rp.len h1_0)) ?_
 obtain ⟨x1_1, q1_1, hm⟩ := bind_some hm
 refine a_cons (e_callH (all := [.agg u1_0.toArray, .slice none 0 0]) trivial rfl Tryd.func156 rfl rfl rfl rfl rfl (fun w hw => ok_156 hw h1_0 (sl_nil _ none 0) q1_1) ?_)
 rintro v1_1r0 H1_1 l1_1 ⟨_, rfl, h1_1r0⟩
 have hb0_0 := PAt.mono l1_1 hb0_0
 have h1_0 := Rp.mono l1_1 h1_0
 refine ap (y_assign rfl) (a_nil (a_en [(1, .pointer (some ⟨b0_0, 0, none⟩)), (3, v1_1r0)] ?_))
 refine a_then (a_seq (a_region rfl (ap (y_move rfl) ?_)))
 obtain ⟨x2_1, q2_1, hm⟩ := bind_some hm
 obtain ⟨b2_1, o2_1, c2_1, e2_1, h2_1⟩ := Sl.elemZ 1 rfl h1_1r0 q2_1
 refine ap (y_index Tryd.underlying97 ty26 rfl e2_1 rfl (nth_in q2_1)) ?_
 obtain ⟨v2_2, h2_2, c2_2⟩ := PAt.sl h2_1
 refine ap (y_load_one ty26 rfl (fun _ h => h.sub) rfl c2_2) ?_
 refine ap (y_assign rfl) (a_nil (a_en [(1, .pointer (some ⟨b0_0, 0, none⟩)), (3, v1_1r0), (4, v2_2)] ?_))
 refine a_then (a_seq (a_seq (a_region rfl (ap (y_assign rfl) (a_nil (a_then ?_))))))
 obtain ⟨s_j1, hs_j1, hm_j1⟩ := bind_some hm
 refine a_join (fun a_ w_ => ∃ (Hj1 : Hp), ∃ (_ : HLe H1_1 Hj1), ∃ (yj1_4 : List Int), ∃ (vj1_4 : Value), yj1_4 = s_j1 ∧ Sl (α := Int) Hj1 vj1_4 yj1_4 ∧ Ag 55 [] [(4, vj1_4)] a_ ∧ St (Kp.mk w H noX) Hj1 [] w_) ?_ ?_
 · have hm := hs_j1
   refine a_block ?_
   refine a_loop (fun n_j2 a_ w_ => ∃ (Hj2 : Hp), ∃ (_ : HLe H1_1 Hj2), ∃ (yj2_4 : List Int), ∃ (yj2_5 : Int), ∃ (vj2_4 : Value), ref03_most_lj2 k p0 x1_1 n_j2 yj2_4 yj2_5 = some s_j1 ∧ Sl (α := Int) Hj2 vj2_4 yj2_4 ∧ Ag 55 [] [(1, .pointer (some ⟨b0_0, 0, none⟩)), (3, v1_1r0), (4, vj2_4), (5, .int .i64 yj2_5)] a_ ∧ St (Kp.mk w H noX) Hj2 [] w_) k ?_ ?_
   · intro a_ w_ ha_ hs_
     exact ⟨H1_1, (HLe.refl _), x2_1, 1, v2_2, hm, h2_2, ha_.weaken ⟨rfl, rfl, rfl, rfl, trivial⟩, hs_.reix [] (by decide)⟩
   rintro (_ | n_j2) a_ w_ ⟨Hj2, lj2, yj2_4, yj2_5, vj2_4, hm, hj2_4, ha_, hs_⟩
   · rw [ref03_most_lj2.eq_1] at hm; cases hm
   rw [ref03_most_lj2.eq_2] at hm
   refine a_start ha_ hs_ ?_
   have hb0_0 := PAt.mono lj2 hb0_0
   have h1_1r0 := Sl.mono lj2 h1_1r0
   refine a_seq (a_seq (a_region rfl (ap (y_move rfl) (ap (y_move rfl) (ap (y_len_sl Tryd.underlying97 rfl h1_1r0) (ap (y_lss rfl rfl) (a_nil (a_en [(1, .pointer (some ⟨b0_0, 0, none⟩)), (3, v1_1r0), (4, vj2_4), (5, .int .i64 yj2_5), (16, .bool (decide (yj2_5 < (x1_1.length : Int))))] ?_))))))))
   refine a_then ?_
   refine a_cond rfl (fun k_3 => ?_) (fun k_3 => ?_)
   · have hm := cond_t k_3 hm
     refine a_skip (a_then (a_seq (a_block (a_seq ?_))))
     obtain ⟨x6_3, q6_3, hm⟩ := bind_some hm
     obtain ⟨x6_5, q6_5, hm⟩ := bind_some hm
     obtain ⟨x6_9, q6_9, hm⟩ := bind_some hm
     refine d_region (S := Sw Hj2 []) (n := 13) (listed := (bits 13 0)) mixed (by kernel_rfl) rfl (by kernel_rfl) ?_
     obtain ⟨u6_0, h6_0, c6_0⟩ := PAt.one hb0_0
     refine dt 0 1 rfl trivial (y_load_cells ty25 rfl (fun _ h => h.1) rfl c6_0 (Rp.len h6_0)) (sw0 []) ?_
     refine dt 1 3 rfl trivial (y_move rfl) (sw0 []) ?_
     refine dt 2 7 rfl trivial (y_move rfl) (sw0 []) ?_
     obtain ⟨b6_3, o6_3, c6_3, e6_3, h6_3⟩ := Sl.elemZ 1 rfl h1_1r0 q6_3
     refine dt 3 15 rfl trivial (y_index Tryd.underlying97 ty26 rfl e6_3 rfl (nth_in q6_3)) (sw0 []) ?_
     obtain ⟨v6_4, h6_4, c6_4⟩ := PAt.sl h6_3
     refine dt 4 31 rfl trivial (y_load_one ty26 rfl (fun _ h => h.1) rfl c6_4) (sw0 []) ?_
     obtain ⟨u6_7, h6_7, c6_7⟩ := PAt.one hb0_0
     refine dt 7 159 rfl trivial (y_load_cells ty25 rfl (fun _ h => h.1) rfl c6_7 (Rp.len h6_7)) (sw0 []) ?_
     refine dt 8 415 rfl trivial (y_move rfl) (sw0 []) ?_
     refine d1 5 rfl (e_callH (all := [.agg u6_0.toArray, v6_4]) trivial rfl Tryd.func93 rfl rfl rfl rfl rfl (fun w hw => ok_93 hw h6_0 h6_4 q6_5) ?_)
     rintro v6_5r0 H6_5 l6_5 ⟨_, rfl, h6_5r0⟩
     have hb0_0 := PAt.mono l6_5 hb0_0
     have h1_1r0 := Sl.mono l6_5 h1_1r0
     have hj2_4 := Sl.mono l6_5 hj2_4
     have h6_0 := Rp.mono l6_5 h6_0
     have h6_3 := PAt.mono l6_5 h6_3
     have h6_4 := Sl.mono l6_5 h6_4
     have h6_7 := Rp.mono l6_5 h6_7
     refine dn 447 (swl l6_5 []) ?_
     refine d_weaken (S' := Sw H6_5 []) (sw_sw l6_5 [] rfl) ?_
     refine dt 6 511 rfl trivial (y_len_sl Tryd.underlying26 rfl h6_5r0) (sw0 []) ?_
     refine d1 9 rfl (e_callH (all := [.agg u6_7.toArray, vj2_4]) trivial rfl Tryd.func93 rfl rfl rfl rfl rfl (fun w hw => ok_93 hw h6_7 hj2_4 q6_9) ?_)
     rintro v6_9r0 H6_9 l6_9 ⟨_, rfl, h6_9r0⟩
     have hb0_0 := PAt.mono l6_9 hb0_0
     have h1_1r0 := Sl.mono l6_9 h1_1r0
     have hj2_4 := Sl.mono l6_9 hj2_4
     have h6_0 := Rp.mono l6_9 h6_0
     have h6_3 := PAt.mono l6_9 h6_3
     have h6_4 := Sl.mono l6_9 h6_4
     have h6_7 := Rp.mono l6_9 h6_7
     have h6_5r0 := Sl.mono l6_9 h6_5r0
     refine dn 1023 (swl l6_9 []) ?_
     refine d_weaken (S' := Sw H6_9 []) (sw_sw l6_9 [] rfl) ?_
     refine dt 10 2047 rfl trivial (y_len_sl Tryd.underlying26 rfl h6_9r0) (sw0 []) ?_
     refine dt 11 4095 rfl trivial (y_assign rfl) (sw0 []) ?_
     refine dt 12 8191 rfl trivial (y_assign rfl) (sw0 []) ?_
     refine d_done (by kernel_rfl) ?_
     refine a_en [(1, .pointer (some ⟨b0_0, 0, none⟩)), (3, v1_1r0), (4, vj2_4), (5, .int .i64 yj2_5), (6, .int .i64 (x6_5.length : Int)), (7, .int .i64 (x6_9.length : Int))] ?_
     refine a_then (a_seq ?_)
     obtain ⟨s_j4, hs_j4, hm_j4⟩ := bind_some hm
     refine a_join (fun a_ w_ => ∃ (yj4_49 : Bool), yj4_49 = s_j4 ∧ Ag 55 [] [(1, .pointer (some ⟨b0_0, 0, none⟩)), (3, v1_1r0), (4, vj2_4), (5, .int .i64 yj2_5), (49, .bool yj4_49)] a_ ∧ St (Kp.mk w H noX) H6_9 [] w_) ?_ ?_
     · have hm := hs_j4
       rcases Bool.eq_false_or_eq_true (decide ((x6_5.length : Int) > (x6_9.length : Int))) with k7_4 | k7_4
       · have hm := cond_t k7_4 hm
         refine d_region (S := Sw H6_9 []) (n := 20) (listed := (bits 20 0)) mixed (by kernel_rfl) rfl (by kernel_rfl) ?_
         refine dt 0 1 rfl trivial (y_move rfl) (sw0 []) ?_
         refine dt 1 3 rfl trivial (y_move rfl) (sw0 []) ?_
         refine dt 2 7 rfl trivial (y_gtr rfl rfl) (sw0 []) ?_
         refine dt 3 15 rfl trivial (y_move rfl) (sw0 []) ?_
         refine dk 4 31 rfl (sk1 rfl rfl k7_4) (sw0 []) ?_
         refine dk 5 63 rfl (sk1 rfl rfl k7_4) (sw0 []) ?_
         refine dk 6 127 rfl (sk1 rfl rfl k7_4) (sw0 []) ?_
         refine dk 7 255 rfl (sk1 rfl rfl k7_4) (sw0 []) ?_
         refine dk 8 511 rfl (sku rfl rfl) (sw0 []) ?_
         refine dk 9 1023 rfl (sku rfl rfl) (sw0 []) ?_
         refine dk 10 2047 rfl (sku rfl rfl) (sw0 []) ?_
         refine dk 11 4095 rfl (sku rfl rfl) (sw0 []) ?_
         refine dk 12 8191 rfl (sku rfl rfl) (sw0 []) ?_
         refine dk 14 24575 rfl (sku rfl rfl) (sw0 []) ?_
         refine dk 15 57343 rfl (sku rfl rfl) (sw0 []) ?_
         refine d1 13 rfl (p_skip (sku rfl rfl) rfl rfl ?_)
         refine dn 65535 (sw0 []) ?_
         refine d1 16 rfl (p_skip (sku rfl rfl) rfl rfl ?_)
         refine dn 131071 (sw0 []) ?_
         refine dk 17 262143 rfl (sku rfl rfl) (sw0 []) ?_
         refine dk 18 524287 rfl (sk1 rfl rfl k7_4) (sw0 []) ?_
         refine dt 19 1048575 rfl trivial (y_pick_t rfl k7_4 rfl) (sw0 []) ?_
         refine d_done (by kernel_rfl) ?_
         refine a_en [(1, .pointer (some ⟨b0_0, 0, none⟩)), (3, v1_1r0), (4, vj2_4), (5, .int .i64 yj2_5), (34, undef), (35, undef), (36, undef), (37, undef), (38, undef), (39, undef), (40, undef), (41, undef), (42, undef), (43, undef), (44, undef), (45, undef), (46, undef), (47, undef), (48, undef), (49, .bool true)] ?_
         refine a_cut ?_
         intro a_ w_ ha_ hs_
         exact ⟨true, Option.some.inj hm, ha_.weaken ⟨rfl, rfl, rfl, rfl, rfl, trivial⟩, hs_.reix [] (by decide)⟩
       have hm := cond_f k7_4 hm
       rcases Bool.eq_false_or_eq_true ((x6_5.length : Int) == (x6_9.length : Int)) with k7_8 | k7_8
       · have hm := cond_t k7_8 hm
         obtain ⟨x7_11, q7_11, hm⟩ := bind_some hm
         obtain ⟨x7_13, q7_13, hm⟩ := bind_some hm
         obtain ⟨x7_16, q7_16, hm⟩ := bind_some hm
         refine d_region (S := Sw H6_9 []) (n := 20) (listed := (bits 20 0)) mixed (by kernel_rfl) rfl (by kernel_rfl) ?_
         refine dt 0 1 rfl trivial (y_move rfl) (sw0 []) ?_
         refine dt 1 3 rfl trivial (y_move rfl) (sw0 []) ?_
         refine dt 2 7 rfl trivial (y_gtr rfl rfl) (sw0 []) ?_
         refine dt 3 15 rfl trivial (y_move rfl) (sw0 []) ?_
         refine dt 4 31 rfl ⟨_, _, rfl, rfl, k7_4⟩ (y_move rfl) (sw0 []) ?_
         refine dt 5 63 rfl ⟨_, _, rfl, rfl, k7_4⟩ (y_move rfl) (sw0 []) ?_
         refine dt 6 127 rfl ⟨_, _, rfl, rfl, k7_4⟩ (y_eql rfl rfl) (sw0 []) ?_
         refine dt 7 255 rfl ⟨_, _, rfl, rfl, k7_4⟩ (y_move rfl) (sw0 []) ?_
         obtain ⟨u7_8, h7_8, c7_8⟩ := PAt.one hb0_0
         refine dt 8 511 rfl ⟨_, _, rfl, rfl, k7_8⟩ (y_load_cells ty25 rfl (fun _ h => h.1) rfl c7_8 (Rp.len h7_8)) (sw0 []) ?_
         refine dt 9 1023 rfl ⟨_, _, rfl, rfl, k7_8⟩ (y_move rfl) (sw0 []) ?_
         refine dt 10 2047 rfl ⟨_, _, rfl, rfl, k7_8⟩ (y_move rfl) (sw0 []) ?_
         obtain ⟨b7_11, o7_11, c7_11, e7_11, h7_11⟩ := Sl.elemZ 1 rfl h1_1r0 q7_11
         refine dt 11 4095 rfl ⟨_, _, rfl, rfl, k7_8⟩ (y_index Tryd.underlying97 ty26 rfl e7_11 rfl (nth_in q7_11)) (sw0 []) ?_
         obtain ⟨v7_12, h7_12, c7_12⟩ := PAt.sl h7_11
         refine dt 12 8191 rfl ⟨_, _, rfl, rfl, k7_8⟩ (y_load_one ty26 rfl (fun _ h => h.1) rfl c7_12) (sw0 []) ?_
         obtain ⟨u7_14, h7_14, c7_14⟩ := PAt.one hb0_0
         refine dt 14 24575 rfl ⟨_, _, rfl, rfl, k7_8⟩ (y_load_cells ty25 rfl (fun _ h => h.1) rfl c7_14 (Rp.len h7_14)) (sw0 []) ?_
         refine dt 15 57343 rfl ⟨_, _, rfl, rfl, k7_8⟩ (y_move rfl) (sw0 []) ?_
         refine d1 13 rfl (e_callV (all := [.agg u7_8.toArray, v7_12]) (v := .int .i64 x7_13) ⟨_, _, rfl, rfl, k7_8⟩ rfl Tryd.func84 rfl rfl rfl rfl rfl (fun w hw => ok_84 hw h7_8 h7_12 q7_13) ?_)
         refine dn 65535 (sw0 []) ?_
         refine d1 16 rfl (e_callV (all := [.agg u7_14.toArray, vj2_4]) (v := .int .i64 x7_16) ⟨_, _, rfl, rfl, k7_8⟩ rfl Tryd.func84 rfl rfl rfl rfl rfl (fun w hw => ok_84 hw h7_14 hj2_4 q7_16) ?_)
         refine dn 131071 (sw0 []) ?_
         refine dt 17 262143 rfl ⟨_, _, rfl, rfl, k7_8⟩ (y_lss rfl rfl) (sw0 []) ?_
         refine dt 18 524287 rfl ⟨_, _, rfl, rfl, k7_4⟩ (y_pick_t rfl k7_8 rfl) (sw0 []) ?_
         refine dt 19 1048575 rfl trivial (y_pick_f rfl k7_4 rfl) (sw0 []) ?_
         refine d_done (by kernel_rfl) ?_
         refine a_en [(1, .pointer (some ⟨b0_0, 0, none⟩)), (3, v1_1r0), (4, vj2_4), (5, .int .i64 yj2_5), (34, .int .i64 (x6_5.length : Int)), (35, .int .i64 (x6_9.length : Int)), (36, .bool ((x6_5.length : Int) == (x6_9.length : Int))), (37, .bool ((x6_5.length : Int) == (x6_9.length : Int))), (38, .agg u7_8.toArray), (39, v1_1r0), (40, .int .i64 yj2_5), (41, .pointer (some ⟨b7_11, o7_11 + (yj2_5).toNat * 1, none⟩)), (42, v7_12), (43, .int .i64 x7_13), (44, .agg u7_14.toArray), (45, vj2_4), (46, .int .i64 x7_16), (47, .bool (decide (x7_13 < x7_16))), (48, .bool (decide (x7_13 < x7_16))), (49, .bool (decide (x7_13 < x7_16)))] ?_
         refine a_cut ?_
         intro a_ w_ ha_ hs_
         exact ⟨decide (x7_13 < x7_16), Option.some.inj hm, ha_.weaken ⟨rfl, rfl, rfl, rfl, rfl, trivial⟩, hs_.reix [] (by decide)⟩
       have hm := cond_f k7_8 hm
       refine d_region (S := Sw H6_9 []) (n := 20) (listed := (bits 20 0)) mixed (by kernel_rfl) rfl (by kernel_rfl) ?_
       refine dt 0 1 rfl trivial (y_move rfl) (sw0 []) ?_
       refine dt 1 3 rfl trivial (y_move rfl) (sw0 []) ?_
       refine dt 2 7 rfl trivial (y_gtr rfl rfl) (sw0 []) ?_
       refine dt 3 15 rfl trivial (y_move rfl) (sw0 []) ?_
       refine dt 4 31 rfl ⟨_, _, rfl, rfl, k7_4⟩ (y_move rfl) (sw0 []) ?_
       refine dt 5 63 rfl ⟨_, _, rfl, rfl, k7_4⟩ (y_move rfl) (sw0 []) ?_
       refine dt 6 127 rfl ⟨_, _, rfl, rfl, k7_4⟩ (y_eql rfl rfl) (sw0 []) ?_
       refine dt 7 255 rfl ⟨_, _, rfl, rfl, k7_4⟩ (y_move rfl) (sw0 []) ?_
       refine dk 8 511 rfl (sk1 rfl rfl k7_8) (sw0 []) ?_
       refine dk 9 1023 rfl (sk1 rfl rfl k7_8) (sw0 []) ?_
       refine dk 10 2047 rfl (sk1 rfl rfl k7_8) (sw0 []) ?_
       refine dk 11 4095 rfl (sk1 rfl rfl k7_8) (sw0 []) ?_
       refine dk 12 8191 rfl (sk1 rfl rfl k7_8) (sw0 []) ?_
       refine dk 14 24575 rfl (sk1 rfl rfl k7_8) (sw0 []) ?_
       refine dk 15 57343 rfl (sk1 rfl rfl k7_8) (sw0 []) ?_
       refine d1 13 rfl (p_skip (sk1 rfl rfl k7_8) rfl rfl ?_)
       refine dn 65535 (sw0 []) ?_
       refine d1 16 rfl (p_skip (sk1 rfl rfl k7_8) rfl rfl ?_)
       refine dn 131071 (sw0 []) ?_
       refine dk 17 262143 rfl (sk1 rfl rfl k7_8) (sw0 []) ?_
       refine dt 18 524287 rfl ⟨_, _, rfl, rfl, k7_4⟩ (y_pick_f rfl k7_8 rfl) (sw0 []) ?_
       refine dt 19 1048575 rfl trivial (y_pick_f rfl k7_4 rfl) (sw0 []) ?_
       refine d_done (by kernel_rfl) ?_
       refine a_en [(1, .pointer (some ⟨b0_0, 0, none⟩)), (3, v1_1r0), (4, vj2_4), (5, .int .i64 yj2_5), (34, .int .i64 (x6_5.length : Int)), (35, .int .i64 (x6_9.length : Int)), (36, .bool ((x6_5.length : Int) == (x6_9.length : Int))), (37, .bool ((x6_5.length : Int) == (x6_9.length : Int))), (38, undef), (39, undef), (40, undef), (41, undef), (42, undef), (43, undef), (44, undef), (45, undef), (46, undef), (47, undef), (48, .bool false), (49, .bool false)] ?_
       refine a_cut ?_
       intro a_ w_ ha_ hs_
       exact ⟨false, Option.some.inj hm, ha_.weaken ⟨rfl, rfl, rfl, rfl, rfl, trivial⟩, hs_.reix [] (by decide)⟩
     have hm := hm_j4
     rintro a_ w_ ⟨yj4_49, rfl, ha_, hs_⟩
     try dsimp only at hm
     refine a_start ha_ hs_ (a_then ?_)
     refine a_cond rfl (fun k_5 => ?_) (fun k_5 => ?_)
     · have hm := cond_t k_5 hm
       refine a_region rfl (ap (y_move rfl) (ap (y_move rfl) ?_))
       obtain ⟨x8_2, q8_2, hm⟩ := bind_some hm
       obtain ⟨b8_2, o8_2, c8_2, e8_2, h8_2⟩ := Sl.elemZ 1 rfl h1_1r0 q8_2
       refine ap (y_index Tryd.underlying97 ty26 rfl e8_2 rfl (nth_in q8_2)) ?_
       obtain ⟨v8_3, h8_3, c8_3⟩ := PAt.sl h8_2
       refine ap (y_load_one ty26 rfl (fun _ h => h.sub) rfl c8_3) ?_
       refine ap (y_assign rfl) (a_nil (a_en [(1, .pointer (some ⟨b0_0, 0, none⟩)), (3, v1_1r0), (4, v8_3), (5, .int .i64 yj2_5)] ?_))
       refine a_block_normal (a_then (a_region rfl (ap (y_move rfl) (ap (y_add rfl rfl) (ap (y_assign rfl) (a_nil (a_en [(1, .pointer (some ⟨b0_0, 0, none⟩)), (3, v1_1r0), (4, v8_3), (5, .int .i64 (IntKind.i64.wrap (yj2_5 + 1)))] ?_)))))))
       refine a_then ?_
       intro a_ w_ ha_ hs_
       exact ⟨n_j2, Nat.lt_succ_self _, H6_9, (lj2.trans (l6_5.trans l6_9)), x8_2, IntKind.i64.wrap (yj2_5 + 1), v8_3, hm, h8_3, ha_.weaken ⟨rfl, rfl, rfl, rfl, trivial⟩, hs_.reix [] (by decide)⟩
     have hm := cond_f k_5 hm
     refine a_skip (a_block_normal (a_then (a_region rfl (ap (y_move rfl) (ap (y_add rfl rfl) (ap (y_assign rfl) (a_nil (a_en [(1, .pointer (some ⟨b0_0, 0, none⟩)), (3, v1_1r0), (4, vj2_4), (5, .int .i64 (IntKind.i64.wrap (yj2_5 + 1)))] ?_))))))))
     refine a_then ?_
     intro a_ w_ ha_ hs_
     exact ⟨n_j2, Nat.lt_succ_self _, H6_9, (lj2.trans (l6_5.trans l6_9)), yj2_4, IntKind.i64.wrap (yj2_5 + 1), vj2_4, hm, hj2_4, ha_.weaken ⟨rfl, rfl, rfl, rfl, trivial⟩, hs_.reix [] (by decide)⟩
   have hm := cond_f k_3 hm
   refine a_exit (a_then_exit (a_then_exit (a_block_hit (a_cut ?_))))
   intro a_ w_ ha_ hs_
   exact ⟨Hj2, lj2, yj2_4, vj2_4, Option.some.inj hm, hj2_4, ha_.weaken ⟨rfl, trivial⟩, hs_.reix [] (by decide)⟩
 have hm := hm_j1
 rintro a_ w_ ⟨Hj1, lj1, yj1_4, vj1_4, rfl, hj1_4, ha_, hs_⟩
 try dsimp only at hm
 refine a_start ha_ hs_ (a_then (a_seq (a_region rfl (ap (y_move rfl) (ap (y_assign rfl) (a_nil (a_en [(2, vj1_4)] ?_)))))))
 refine a_then (a_ret ?_)
 refine a_done (v := vj1_4) (.inl rfl) rfl ?_ ?_
 · intro a_ w_ ha_ hs_; exact run_results (P := Tryd.prog) (fn := Tryd.f99) (rs := [.tmp 2]) (vs := [vj1_4]) rfl (.cons (rv_tmp ha_ rfl) (All2.nil))
 · intro _ _; obtain rfl := Option.some.inj hm; exact ⟨vj1_4, rfl, hj1_4⟩

def ref03_Ask_lj6 (k : Nat) (p0 : TunnelBook) (yj3_7 : Int) : Nat → Int → Int → Option Int
 | 0, _, _ => none
 | n_j6 + 1, yj6_8, yj6_9 =>
 (nth p0.Parts yj3_7).bind fun x10_4 =>
 bif decide (yj6_9 ≤ x10_4.Damp.High) then
 (ref03_Measured k p0 yj3_7 yj6_9).bind fun x12_3 =>
 (ref03_most k x12_3).bind fun x13_3 =>
 (ref03_good k x12_3 x13_3).bind fun x13_4 =>
 ref03_Ask_lj6 k p0 yj3_7 n_j6 (min yj6_8 (x13_4.length : Int)) (IntKind.i64.wrap (yj6_9 + 1))
 else
 some (yj6_8)
def ref03_Ask_lj3 (k : Nat) (p0 : TunnelBook) : Nat → Int → Int → Int → Option Int
 | 0, _, _, _ => none
 | n_j3 + 1, yj3_5, yj3_6, yj3_7 =>
 bif decide (yj3_7 < (p0.Parts.length : Int)) then
 (nth p0.Parts yj3_7).bind fun x9_3 =>
 (ref03_Ask_lj6 k p0 yj3_7 k (p0.Frames.length : Int) x9_3.Damp.Low).bind fun yj5_8 =>
 bif decide (yj5_8 > yj3_6) then
 ref03_Ask_lj3 k p0 n_j3 yj3_7 yj5_8 (IntKind.i64.wrap (yj3_7 + 1))
 else
 ref03_Ask_lj3 k p0 n_j3 yj3_5 yj3_6 (IntKind.i64.wrap (yj3_7 + 1))
 else
 some (yj3_5)
def ref03_Ask (k : Nat) (p0 : TunnelBook) : Option (Int × Int) :=
 (ref03_Check k p0).bind fun x1_1 =>
 bif x1_1 != 0 then
 some ((0, x1_1))
 else
 (ref03_Ask_lj3 k p0 k (-1) (-1) 0).bind fun yj2_5 =>
 some ((yj2_5, 0))
theorem ok_42 {k : Nat} {H : Hp} {w : World} {p0 : TunnelBook} {c0 : List Value} {r : Int × Int} (hsub : Sub H w) (h0 : Rp.rep (α := TunnelBook) H c0 p0) (hm : ref03_Ask k p0 = some r) : Calls Tryd.prog 42 [.agg c0.toArray].toArray w (PostV w H (.tuple #[.int .i64 r.1, .int .i64 r.2])) := by
 unfold ref03_Ask at hm
 refine start (n := 61) (E := [(0, .agg c0.toArray)]) Tryd.func42 rfl rfl ⟨rfl, trivial⟩ rfl hsub ?_
 refine a_seq (a_region rfl (a_cons (e_box (cs := c0) trivial rfl rfl rfl ?_)))
 intro b0_0
 refine ap (y_assign rfl) (ap (y_assign rfl) (a_nil (a_freeze (α := TunnelBook) (x := p0) (i := 0) rfl h0 ?_)))
 intro Hb0_0 lb0_0 hb0_0
 have h0 := Rp.mono lb0_0 h0
 refine a_en [(1, .pointer (some ⟨b0_0, 0, none⟩))] ?_
 refine a_own [] (by decide) (L' := []) rfl ?_
 refine a_then (a_seq (a_seq (a_region rfl ?_)))
 obtain ⟨u1_0, h1_0, c1_0⟩ := PAt.one hb0_0
 refine ap (y_load_cells ty25 rfl (fun _ h => h.sub) rfl c1_0 (Rp.len h1_0)) ?_
 obtain ⟨x1_1, q1_1, hm⟩ := bind_some hm
 refine a_cons (e_callV (all := [.agg u1_0.toArray]) (v := .int .i64 x1_1) trivial rfl Tryd.func22 rfl rfl rfl rfl rfl (fun w hw => ok_22 hw h1_0 q1_1) ?_)
 refine ap (y_assign rfl) (a_nil (a_en [(1, .pointer (some ⟨b0_0, 0, none⟩)), (4, .int .i64 x1_1)] ?_))
 refine a_then (a_seq (a_region rfl (ap (y_move rfl) (ap (y_neq rfl rfl) (a_nil (a_en [(1, .pointer (some ⟨b0_0, 0, none⟩)), (4, .int .i64 x1_1), (14, .bool (x1_1 != 0))] ?_))))))
 refine a_then ?_
 refine a_cond rfl (fun k_1 => ?_) (fun k_1 => ?_)
 · have hm := cond_t k_1 hm
   refine a_seq (a_region rfl (ap (y_move rfl) (ap (y_assign rfl) (ap (y_assign rfl) (a_nil (a_en [(2, .int .i64 0), (3, .int .i64 x1_1)] ?_))))))
   refine a_then (a_ret (a_then_ret ?_))
   refine a_done (v := .tuple #[.int .i64 0, .int .i64 x1_1]) (.inl rfl) rfl ?_ ?_
   · intro a_ w_ ha_ hs_; exact run_results (P := Tryd.prog) (fn := Tryd.f42) (rs := [.tmp 2, .tmp 3]) (vs := [.int .i64 0, .int .i64 x1_1]) rfl (.cons (rv_tmp ha_ rfl) (.cons (rv_tmp ha_ rfl) (All2.nil)))
   · intro _ _; obtain rfl := Option.some.inj hm
     rfl
 have hm := cond_f k_1 hm
 refine a_skip (a_then (a_seq (a_region rfl (ap (y_assign rfl) (ap (y_assign rfl) (a_nil (a_en [(1, .pointer (some ⟨b0_0, 0, none⟩)), (5, .int .i64 (-1)), (6, .int .i64 (-1))] ?_)))))))
 refine a_then (a_seq (a_seq (a_region rfl (ap (y_assign rfl) (a_nil (a_then ?_))))))
 obtain ⟨s_j2, hs_j2, hm_j2⟩ := bind_some hm
 refine a_join (fun a_ w_ => ∃ (Hj2 : Hp), ∃ (_ : HLe Hb0_0 Hj2), ∃ (yj2_5 : Int), yj2_5 = s_j2 ∧ Ag 61 [] [(5, .int .i64 yj2_5)] a_ ∧ St (Kp.mk w H noX) Hj2 [] w_) ?_ ?_
 · have hm := hs_j2
   refine a_block ?_
   refine a_loop (fun n_j3 a_ w_ => ∃ (Hj3 : Hp), ∃ (_ : HLe Hb0_0 Hj3), ∃ (yj3_5 : Int), ∃ (yj3_6 : Int), ∃ (yj3_7 : Int), ref03_Ask_lj3 k p0 n_j3 yj3_5 yj3_6 yj3_7 = some s_j2 ∧ Ag 61 [] [(1, .pointer (some ⟨b0_0, 0, none⟩)), (5, .int .i64 yj3_5), (6, .int .i64 yj3_6), (7, .int .i64 yj3_7)] a_ ∧ St (Kp.mk w H noX) Hj3 [] w_) k ?_ ?_
   · intro a_ w_ ha_ hs_
     exact ⟨Hb0_0, (HLe.refl _), (-1), (-1), 0, hm, ha_.weaken ⟨rfl, rfl, rfl, rfl, trivial⟩, hs_.reix [] (by decide)⟩
   rintro (_ | n_j3) a_ w_ ⟨Hj3, lj3, yj3_5, yj3_6, yj3_7, hm, ha_, hs_⟩
   · rw [ref03_Ask_lj3.eq_1] at hm; cases hm
   rw [ref03_Ask_lj3.eq_2] at hm
   refine a_start ha_ hs_ ?_
   have hb0_0 := PAt.mono lj3 hb0_0
   refine a_seq (a_seq (a_region rfl (ap (y_move rfl) ?_)))
   have h6_1 := TunnelBook.at_Parts hb0_0
   refine ap (y_fieldAddr fo25_0 rfl) ?_
   obtain ⟨v6_2, h6_2, c6_2⟩ := PAt.sl h6_1
   refine ap (y_load_one ty22 rfl (fun _ h => h.sub) rfl c6_2) ?_
   refine ap (y_len_sl Tryd.underlying22 rfl h6_2) (ap (y_lss rfl rfl) (a_nil (a_en [(1, .pointer (some ⟨b0_0, 0, none⟩)), (5, .int .i64 yj3_5), (6, .int .i64 yj3_6), (7, .int .i64 yj3_7), (20, .bool (decide (yj3_7 < (p0.Parts.length : Int))))] ?_)))
   refine a_then ?_
   refine a_cond rfl (fun k_4 => ?_) (fun k_4 => ?_)
   · have hm := cond_t k_4 hm
     refine a_skip (a_then (a_seq (a_block (a_seq (a_region rfl ?_)))))
     have h8_0 := TunnelBook.at_Frames hb0_0
     refine ap (y_fieldAddr fo25_1 rfl) ?_
     obtain ⟨v8_1, h8_1, c8_1⟩ := PAt.sl h8_0
     refine ap (y_load_one ty23 rfl (fun _ h => h.sub) rfl c8_1) ?_
     refine ap (y_len_sl Tryd.underlying23 rfl h8_1) (ap (y_assign rfl) (a_nil (a_en [(1, .pointer (some ⟨b0_0, 0, none⟩)), (5, .int .i64 yj3_5), (6, .int .i64 yj3_6), (7, .int .i64 yj3_7), (8, .int .i64 (p0.Frames.length : Int))] ?_)))
     refine a_then (a_seq (a_seq (a_region rfl ?_)))
     have h9_0 := TunnelBook.at_Parts hb0_0
     refine ap (y_fieldAddr fo25_0 rfl) ?_
     obtain ⟨v9_1, h9_1, c9_1⟩ := PAt.sl h9_0
     refine ap (y_load_one ty22 rfl (fun _ h => h.sub) rfl c9_1) ?_
     refine ap (y_move rfl) ?_
     obtain ⟨x9_3, q9_3, hm⟩ := bind_some hm
     obtain ⟨b9_3, o9_3, c9_3, e9_3, h9_3⟩ := Sl.elemZ 6 rfl h9_1 q9_3
     refine ap (y_index Tryd.underlying22 ty64 rfl e9_3 rfl (nth_in q9_3)) ?_
     have h9_4 := TunnelPart.at_Damp h9_3
     refine ap (y_fieldAddr fo64_1 rfl) ?_
     have h9_5 := Span.at_Low h9_4
     refine ap (y_fieldAddr fo32_0 rfl) (ap (y_load_int ty3 rfl (fun _ h => h.sub) rfl h9_5) ?_)
     refine ap (y_assign rfl) (a_nil (a_en [(1, .pointer (some ⟨b0_0, 0, none⟩)), (5, .int .i64 yj3_5), (6, .int .i64 yj3_6), (7, .int .i64 yj3_7), (8, .int .i64 (p0.Frames.length : Int)), (9, .int .i64 x9_3.Damp.Low)] ?_))
     refine a_then ?_
     obtain ⟨s_j5, hs_j5, hm_j5⟩ := bind_some hm
     refine a_join (fun a_ w_ => ∃ (Hj5 : Hp), ∃ (_ : HLe Hj3 Hj5), ∃ (yj5_8 : Int), yj5_8 = s_j5 ∧ Ag 61 [] [(1, .pointer (some ⟨b0_0, 0, none⟩)), (5, .int .i64 yj3_5), (6, .int .i64 yj3_6), (7, .int .i64 yj3_7), (8, .int .i64 yj5_8)] a_ ∧ St (Kp.mk w H noX) Hj5 [] w_) ?_ ?_
     · have hm := hs_j5
       refine a_block ?_
       refine a_loop (fun n_j6 a_ w_ => ∃ (Hj6 : Hp), ∃ (_ : HLe Hj3 Hj6), ∃ (yj6_8 : Int), ∃ (yj6_9 : Int), ref03_Ask_lj6 k p0 yj3_7 n_j6 yj6_8 yj6_9 = some s_j5 ∧ Ag 61 [] [(1, .pointer (some ⟨b0_0, 0, none⟩)), (5, .int .i64 yj3_5), (6, .int .i64 yj3_6), (7, .int .i64 yj3_7), (8, .int .i64 yj6_8), (9, .int .i64 yj6_9)] a_ ∧ St (Kp.mk w H noX) Hj6 [] w_) k ?_ ?_
       · intro a_ w_ ha_ hs_
         exact ⟨Hj3, (HLe.refl _), (p0.Frames.length : Int), x9_3.Damp.Low, hm, ha_.weaken ⟨rfl, rfl, rfl, rfl, rfl, rfl, trivial⟩, hs_.reix [] (by decide)⟩
       rintro (_ | n_j6) a_ w_ ⟨Hj6, lj6, yj6_8, yj6_9, hm, ha_, hs_⟩
       · rw [ref03_Ask_lj6.eq_1] at hm; cases hm
       rw [ref03_Ask_lj6.eq_2] at hm
       refine a_start ha_ hs_ ?_
       have hb0_0 := PAt.mono lj6 hb0_0
       refine a_seq (a_seq (a_region rfl (ap (y_move rfl) ?_)))
       have h10_1 := TunnelBook.at_Parts hb0_0
       refine ap (y_fieldAddr fo25_0 rfl) ?_
       obtain ⟨v10_2, h10_2, c10_2⟩ := PAt.sl h10_1
       refine ap (y_load_one ty22 rfl (fun _ h => h.sub) rfl c10_2) ?_
       refine ap (y_move rfl) ?_
       obtain ⟨x10_4, q10_4, hm⟩ := bind_some hm
       obtain ⟨b10_4, o10_4, c10_4, e10_4, h10_4⟩ := Sl.elemZ 6 rfl h10_2 q10_4
       refine ap (y_index Tryd.underlying22 ty64 rfl e10_4 rfl (nth_in q10_4)) ?_
       have h10_5 := TunnelPart.at_Damp h10_4
       refine ap (y_fieldAddr fo64_1 rfl) ?_
       have h10_6 := Span.at_High h10_5
       refine ap (y_fieldAddr fo32_1 rfl) (ap (y_load_int ty3 rfl (fun _ h => h.sub) rfl h10_6) ?_)
       refine ap (y_leq rfl rfl) (a_nil (a_en [(1, .pointer (some ⟨b0_0, 0, none⟩)), (5, .int .i64 yj3_5), (6, .int .i64 yj3_6), (7, .int .i64 yj3_7), (8, .int .i64 yj6_8), (9, .int .i64 yj6_9), (41, .bool (decide (yj6_9 ≤ x10_4.Damp.High)))] ?_))
       refine a_then ?_
       refine a_cond rfl (fun k_7 => ?_) (fun k_7 => ?_)
       · have hm := cond_t k_7 hm
         refine a_skip (a_then (a_seq (a_block (a_seq (a_region rfl ?_)))))
         obtain ⟨u12_0, h12_0, c12_0⟩ := PAt.one hb0_0
         refine ap (y_load_cells ty25 rfl (fun _ h => h.sub) rfl c12_0 (Rp.len h12_0)) ?_
         refine ap (y_move rfl) (ap (y_move rfl) ?_)
         obtain ⟨x12_3, q12_3, hm⟩ := bind_some hm
         refine a_cons (e_callH (all := [.agg u12_0.toArray, .int .i64 yj3_7, .int .i64 yj6_9]) trivial rfl Tryd.func111 rfl rfl rfl rfl rfl (fun w hw => ok_111 hw h12_0 q12_3) ?_)
         rintro _ H12_3 l12_3 ⟨c12_3r0, rfl, h12_3r0⟩
         have hb0_0 := PAt.mono l12_3 hb0_0
         have h12_0 := Rp.mono l12_3 h12_0
         refine a_cons (e_alloc (cs := [.slice none 0 0, .slice none 0 0]) trivial rfl ty25 rfl ?_)
         intro b12_4
         refine a_cons (e_storeWhole (i := 0) (ds := c12_3r0) trivial ty25 rfl rfl rfl rfl (Rp.len h12_3r0) ((Rp.one h12_3r0)) rfl (a_nil (a_freeze (α := TunnelBook) (x := x12_3) (i := 0) rfl h12_3r0 ?_)))
         intro Hb12_4 lb12_4 hb12_4
         have hb0_0 := PAt.mono lb12_4 hb0_0
         have h12_0 := Rp.mono lb12_4 h12_0
         have h12_3r0 := Rp.mono lb12_4 h12_3r0
         refine a_en [(1, .pointer (some ⟨b0_0, 0, none⟩)), (5, .int .i64 yj3_5), (6, .int .i64 yj3_6), (7, .int .i64 yj3_7), (8, .int .i64 yj6_8), (9, .int .i64 yj6_9), (10, .pointer (some ⟨b12_4, 0, none⟩))] ?_
         refine a_own [] (by decide) (L' := []) rfl ?_
         refine a_then ?_
         obtain ⟨x13_3, q13_3, hm⟩ := bind_some hm
         obtain ⟨x13_4, q13_4, hm⟩ := bind_some hm
         refine d_region (S := Sw Hb12_4 []) (n := 8) (listed := (bits 8 0)) mixed (by kernel_rfl) rfl (by kernel_rfl) ?_
         refine dt 0 1 rfl trivial (y_move rfl) (sw0 []) ?_
         obtain ⟨u13_1, h13_1, c13_1⟩ := PAt.one hb12_4
         refine dt 1 3 rfl trivial (y_load_cells ty25 rfl (fun _ h => h.1) rfl c13_1 (Rp.len h13_1)) (sw0 []) ?_
         obtain ⟨u13_2, h13_2, c13_2⟩ := PAt.one hb12_4
         refine dt 2 7 rfl trivial (y_load_cells ty25 rfl (fun _ h => h.1) rfl c13_2 (Rp.len h13_2)) (sw0 []) ?_
         refine d1 3 rfl (e_callH (all := [.agg u13_2.toArray]) trivial rfl Tryd.func99 rfl rfl rfl rfl rfl (fun w hw => ok_99 hw h13_2 q13_3) ?_)
         rintro v13_3r0 H13_3 l13_3 ⟨_, rfl, h13_3r0⟩
         have hb0_0 := PAt.mono l13_3 hb0_0
         have hb12_4 := PAt.mono l13_3 hb12_4
         have h13_1 := Rp.mono l13_3 h13_1
         have h13_2 := Rp.mono l13_3 h13_2
         refine dn 15 (swl l13_3 []) ?_
         refine d1 4 rfl (e_callH (all := [.agg u13_1.toArray, v13_3r0]) trivial rfl Tryd.func93 rfl rfl rfl rfl rfl (fun w hw => ok_93 hw h13_1 h13_3r0 q13_4) ?_)
         rintro v13_4r0 H13_4 l13_4 ⟨_, rfl, h13_4r0⟩
         have hb0_0 := PAt.mono l13_4 hb0_0
         have hb12_4 := PAt.mono l13_4 hb12_4
         have h13_1 := Rp.mono l13_4 h13_1
         have h13_2 := Rp.mono l13_4 h13_2
         have h13_3r0 := Sl.mono l13_4 h13_3r0
         refine dn 31 (swl (l13_3.trans l13_4) []) ?_
         refine d_weaken (S' := Sw H13_4 []) (sw_sw (l13_3.trans l13_4) [] rfl) ?_
         refine dt 5 63 rfl trivial (y_len_sl Tryd.underlying26 rfl h13_4r0) (sw0 []) ?_
         refine dt 6 127 rfl trivial (y_min rfl rfl) (sw0 []) ?_
         refine dt 7 255 rfl trivial (y_assign rfl) (sw0 []) ?_
         refine d_done (by kernel_rfl) ?_
         refine a_en [(1, .pointer (some ⟨b0_0, 0, none⟩)), (5, .int .i64 yj3_5), (6, .int .i64 yj3_6), (7, .int .i64 yj3_7), (8, .int .i64 (min yj6_8 (x13_4.length : Int))), (9, .int .i64 yj6_9)] ?_
         refine a_block_normal (a_then (a_region rfl (ap (y_move rfl) (ap (y_add rfl rfl) (ap (y_assign rfl) (a_nil (a_en [(1, .pointer (some ⟨b0_0, 0, none⟩)), (5, .int .i64 yj3_5), (6, .int .i64 yj3_6), (7, .int .i64 yj3_7), (8, .int .i64 (min yj6_8 (x13_4.length : Int))), (9, .int .i64 (IntKind.i64.wrap (yj6_9 + 1)))] ?_)))))))
         refine a_then ?_
         intro a_ w_ ha_ hs_
         exact ⟨n_j6, Nat.lt_succ_self _, H13_4, (lj6.trans (l12_3.trans (lb12_4.trans (l13_3.trans l13_4)))), min yj6_8 (x13_4.length : Int), IntKind.i64.wrap (yj6_9 + 1), hm, ha_.weaken ⟨rfl, rfl, rfl, rfl, rfl, rfl, trivial⟩, hs_.reix [] (by decide)⟩
       have hm := cond_f k_7 hm
       refine a_exit (a_then_exit (a_then_exit (a_block_hit (a_cut ?_))))
       intro a_ w_ ha_ hs_
       exact ⟨Hj6, lj6, yj6_8, Option.some.inj hm, ha_.weaken ⟨rfl, rfl, rfl, rfl, rfl, trivial⟩, hs_.reix [] (by decide)⟩
     have hm := hm_j5
     rintro a_ w_ ⟨Hj5, lj5, yj5_8, rfl, ha_, hs_⟩
     try dsimp only at hm
     refine a_start ha_ hs_ ?_
     have hb0_0 := PAt.mono lj5 hb0_0
     refine a_then (a_seq (a_region rfl (ap (y_move rfl) (ap (y_move rfl) (ap (y_gtr rfl rfl) (a_nil (a_en [(1, .pointer (some ⟨b0_0, 0, none⟩)), (5, .int .i64 yj3_5), (6, .int .i64 yj3_6), (7, .int .i64 yj3_7), (8, .int .i64 yj5_8), (57, .bool (decide (yj5_8 > yj3_6)))] ?_)))))))
     refine a_then ?_
     refine a_cond rfl (fun k_8 => ?_) (fun k_8 => ?_)
     · have hm := cond_t k_8 hm
       refine a_region rfl (ap (y_move rfl) (ap (y_move rfl) (ap (y_assign rfl) (ap (y_assign rfl) (a_nil (a_en [(1, .pointer (some ⟨b0_0, 0, none⟩)), (5, .int .i64 yj3_7), (6, .int .i64 yj5_8), (7, .int .i64 yj3_7)] ?_))))))
       refine a_block_normal (a_then (a_region rfl (ap (y_move rfl) (ap (y_add rfl rfl) (ap (y_assign rfl) (a_nil (a_en [(1, .pointer (some ⟨b0_0, 0, none⟩)), (5, .int .i64 yj3_7), (6, .int .i64 yj5_8), (7, .int .i64 (IntKind.i64.wrap (yj3_7 + 1)))] ?_)))))))
       refine a_then ?_
       intro a_ w_ ha_ hs_
       exact ⟨n_j3, Nat.lt_succ_self _, Hj5, (lj3.trans lj5), yj3_7, yj5_8, IntKind.i64.wrap (yj3_7 + 1), hm, ha_.weaken ⟨rfl, rfl, rfl, rfl, trivial⟩, hs_.reix [] (by decide)⟩
     have hm := cond_f k_8 hm
     refine a_skip (a_block_normal (a_then (a_region rfl (ap (y_move rfl) (ap (y_add rfl rfl) (ap (y_assign rfl) (a_nil (a_en [(1, .pointer (some ⟨b0_0, 0, none⟩)), (5, .int .i64 yj3_5), (6, .int .i64 yj3_6), (7, .int .i64 (IntKind.i64.wrap (yj3_7 + 1)))] ?_))))))))
     refine a_then ?_
     intro a_ w_ ha_ hs_
     exact ⟨n_j3, Nat.lt_succ_self _, Hj5, (lj3.trans lj5), yj3_5, yj3_6, IntKind.i64.wrap (yj3_7 + 1), hm, ha_.weaken ⟨rfl, rfl, rfl, rfl, trivial⟩, hs_.reix [] (by decide)⟩
   have hm := cond_f k_4 hm
   refine a_exit (a_then_exit (a_then_exit (a_block_hit (a_cut ?_))))
   intro a_ w_ ha_ hs_
   exact ⟨Hj3, lj3, yj3_5, Option.some.inj hm, ha_.weaken ⟨rfl, trivial⟩, hs_.reix [] (by decide)⟩
 have hm := hm_j2
 rintro a_ w_ ⟨Hj2, lj2, yj2_5, rfl, ha_, hs_⟩
 try dsimp only at hm
 refine a_start ha_ hs_ (a_then (a_seq (a_region rfl (ap (y_move rfl) (ap (y_assign rfl) (ap (y_assign rfl) (a_nil (a_en [(2, .int .i64 yj2_5), (3, .int .i64 0)] ?_))))))))
 refine a_then (a_ret ?_)
 refine a_done (v := .tuple #[.int .i64 yj2_5, .int .i64 0]) (.inl rfl) rfl ?_ ?_
 · intro a_ w_ ha_ hs_; exact run_results (P := Tryd.prog) (fn := Tryd.f42) (rs := [.tmp 2, .tmp 3]) (vs := [.int .i64 yj2_5, .int .i64 0]) rfl (.cons (rv_tmp ha_ rfl) (.cons (rv_tmp ha_ rfl) (All2.nil)))
 · intro _ _; obtain rfl := Option.some.inj hm
   rfl

def law03_TunnelAsks (k : Nat) (p0 : TunnelBook) (p1 : List Int) (p2 : List Int) : Option Bool :=
 (nth p2 (0 : Int)).bind fun x1_2 =>
 (nth p2 (1 : Int)).bind fun x1_4 =>
 (tunnel_Longer k p0 p1 x1_2 x1_4).bind fun x1_6 =>
 (nth p2 (0 : Int)).bind fun x2_2 =>
 (nth p2 (1 : Int)).bind fun x2_4 =>
 (ref03_Longer k p0 p1 x2_2 x2_4).bind fun x2_6 =>
 (bif x1_6.1 != x2_6.1 then
 some (true)
 else
 some ((x1_6.2 != x2_6.2))).bind fun yj1_38 =>
 bif yj1_38 then
 some (false)
 else
 (tunnel_Ask k p0).bind fun x5_1 =>
 (ref03_Ask k p0).bind fun x6_1 =>
 (bif x5_1.1 == x6_1.1 then
 bif x5_1.2 == x6_1.2 then
 (law03_warmed k).bind fun x7_9 =>
 some (x7_9)
 else
 some (false)
 else
 some (false)).bind fun yj3_6 =>
 some (yj3_6)
theorem ok_5 {k : Nat} {H : Hp} {w : World} {p0 : TunnelBook} {p1 : List Int} {p2 : List Int} {c0 : List Value} {v1 : Value} {c2 : List Value} {r : Bool} (hsub : Sub H w) (h0 : Rp.rep (α := TunnelBook) H c0 p0) (h1 : Sl (α := Int) H v1 p1) (h2 : Rp.rep (α := Arr 2 Int) H c2 p2) (hg : Glob H) (hm : law03_TunnelAsks k p0 p1 p2 = some r) : Calls Tryd.prog 5 [.agg c0.toArray, v1, .agg c2.toArray].toArray w (PostV w H (.bool r)) := by
 unfold law03_TunnelAsks at hm
 refine start (n := 60) (E := [(0, .agg c0.toArray), (1, v1), (2, .agg c2.toArray)]) Tryd.func5 rfl rfl ⟨rfl, rfl, rfl, trivial⟩ rfl hsub ?_
 refine a_seq (a_region rfl (a_cons (e_box (cs := c0) trivial rfl rfl rfl ?_)))
 intro b0_0
 refine a_cons (e_box (cs := c2) trivial rfl rfl rfl ?_)
 intro b0_1
 refine ap (y_assign rfl) (a_nil (a_freeze (α := Arr 2 Int) (x := p2) (i := 0) rfl h2 ?_))
 intro Hb0_1 lb0_1 hb0_1
 have h0 := Rp.mono lb0_1 h0
 have h1 := Sl.mono lb0_1 h1
 have h2 := Rp.mono lb0_1 h2
 have hg := Glob.mono lb0_1 hg
 refine a_freeze (α := TunnelBook) (x := p0) (i := 1) rfl h0 ?_
 intro Hb0_0 lb0_0 hb0_0
 have h0 := Rp.mono lb0_0 h0
 have h1 := Sl.mono lb0_0 h1
 have h2 := Rp.mono lb0_0 h2
 have hb0_1 := PAt.mono lb0_0 hb0_1
 have hg := Glob.mono lb0_0 hg
 refine a_en [(1, v1), (3, .pointer (some ⟨b0_0, 0, none⟩)), (5, .pointer (some ⟨b0_1, 0, none⟩))] ?_
 refine a_own [] (by decide) (L' := []) rfl ?_
 refine a_then (a_seq (a_region rfl ?_))
 obtain ⟨u1_0, h1_0, c1_0⟩ := PAt.one hb0_0
 refine ap (y_load_cells ty25 rfl (fun _ h => h.sub) rfl c1_0 (Rp.len h1_0)) ?_
 refine ap (y_move rfl) ?_
 obtain ⟨x1_2, q1_2, hm⟩ := bind_some hm
 have h1_2 := PAt.arrZ 1 rfl hb0_1 q1_2
 have k1_2 := PAt.arrIn hb0_1 q1_2
 refine ap (y_index_arrp Tryd.underlying47 ty3 rfl rfl k1_2) (ap (y_load_int ty3 rfl (fun _ h => h.sub) rfl h1_2) ?_)
 obtain ⟨x1_4, q1_4, hm⟩ := bind_some hm
 have h1_4 := PAt.arrZ 1 rfl hb0_1 q1_4
 have k1_4 := PAt.arrIn hb0_1 q1_4
 refine ap (y_index_arrp Tryd.underlying47 ty3 rfl rfl k1_4) (ap (y_load_int ty3 rfl (fun _ h => h.sub) rfl h1_4) ?_)
 obtain ⟨x1_6, q1_6, hm⟩ := bind_some hm
 refine a_cons (e_callV (all := [.agg u1_0.toArray, v1, .int .i64 x1_2, .int .i64 x1_4]) (v := .tuple #[.int .i64 x1_6.1, .int .i64 x1_6.2]) trivial rfl Tryd.func39 rfl rfl rfl rfl rfl (fun w hw => ok_39 hw h1_0 h1 hg q1_6) ?_)
 refine ap (y_move rfl) (ap (y_extract rfl rfl) (ap (y_extract rfl rfl) (ap (y_assign rfl) (ap (y_assign rfl) (a_nil (a_en [(1, v1), (3, .pointer (some ⟨b0_0, 0, none⟩)), (5, .pointer (some ⟨b0_1, 0, none⟩)), (7, .int .i64 x1_6.1), (8, .int .i64 x1_6.2)] ?_))))))
 refine a_then (a_seq (a_region rfl ?_))
 obtain ⟨u2_0, h2_0, c2_0⟩ := PAt.one hb0_0
 refine ap (y_load_cells ty25 rfl (fun _ h => h.sub) rfl c2_0 (Rp.len h2_0)) ?_
 refine ap (y_move rfl) ?_
 obtain ⟨x2_2, q2_2, hm⟩ := bind_some hm
 have h2_2 := PAt.arrZ 1 rfl hb0_1 q2_2
 have k2_2 := PAt.arrIn hb0_1 q2_2
 refine ap (y_index_arrp Tryd.underlying47 ty3 rfl rfl k2_2) (ap (y_load_int ty3 rfl (fun _ h => h.sub) rfl h2_2) ?_)
 obtain ⟨x2_4, q2_4, hm⟩ := bind_some hm
 have h2_4 := PAt.arrZ 1 rfl hb0_1 q2_4
 have k2_4 := PAt.arrIn hb0_1 q2_4
 refine ap (y_index_arrp Tryd.underlying47 ty3 rfl rfl k2_4) (ap (y_load_int ty3 rfl (fun _ h => h.sub) rfl h2_4) ?_)
 obtain ⟨x2_6, q2_6, hm⟩ := bind_some hm
 refine a_cons (e_callV (all := [.agg u2_0.toArray, v1, .int .i64 x2_2, .int .i64 x2_4]) (v := .tuple #[.int .i64 x2_6.1, .int .i64 x2_6.2]) trivial rfl Tryd.func40 rfl rfl rfl rfl rfl (fun w hw => ok_40 hw h2_0 h1 q2_6) ?_)
 refine ap (y_move rfl) (ap (y_extract rfl rfl) (ap (y_extract rfl rfl) (ap (y_assign rfl) (ap (y_assign rfl) (a_nil (a_en [(3, .pointer (some ⟨b0_0, 0, none⟩)), (7, .int .i64 x1_6.1), (8, .int .i64 x1_6.2), (9, .int .i64 x2_6.1), (10, .int .i64 x2_6.2)] ?_))))))
 refine a_then (a_seq (a_seq ?_))
 obtain ⟨s_j1, hs_j1, hm_j1⟩ := bind_some hm
 refine a_join (fun a_ w_ => ∃ (yj1_38 : Bool), yj1_38 = s_j1 ∧ Ag 60 [] [(3, .pointer (some ⟨b0_0, 0, none⟩)), (38, .bool yj1_38)] a_ ∧ St (Kp.mk w H noX) Hb0_0 [] w_) ?_ ?_
 · have hm := hs_j1
   refine a_region rfl (ap (y_move rfl) (ap (y_move rfl) (ap (y_neq rfl rfl) (ap (y_move rfl) ?_))))
   rcases Bool.eq_false_or_eq_true (x1_6.1 != x2_6.1) with k3_4 | k3_4
   · have hm := cond_t k3_4 hm
     refine as1 (sk1 rfl rfl k3_4) ?_
     refine as1 (sk1 rfl rfl k3_4) ?_
     refine as1 (sk1 rfl rfl k3_4) ?_
     refine ap (y_pick_t rfl k3_4 rfl) (a_nil (a_en [(3, .pointer (some ⟨b0_0, 0, none⟩)), (38, .bool true)] ?_))
     refine a_cut ?_
     intro a_ w_ ha_ hs_
     exact ⟨true, Option.some.inj hm, ha_.weaken ⟨rfl, rfl, trivial⟩, hs_.reix [] (by decide)⟩
   have hm := cond_f k3_4 hm
   refine ag ⟨_, _, rfl, rfl, k3_4⟩ (y_move rfl) ?_
   refine ag ⟨_, _, rfl, rfl, k3_4⟩ (y_move rfl) ?_
   refine ag ⟨_, _, rfl, rfl, k3_4⟩ (y_neq rfl rfl) ?_
   refine ap (y_pick_f rfl k3_4 rfl) (a_nil (a_en [(3, .pointer (some ⟨b0_0, 0, none⟩)), (38, .bool (x1_6.2 != x2_6.2))] ?_))
   refine a_cut ?_
   intro a_ w_ ha_ hs_
   exact ⟨x1_6.2 != x2_6.2, Option.some.inj hm, ha_.weaken ⟨rfl, rfl, trivial⟩, hs_.reix [] (by decide)⟩
 have hm := hm_j1
 rintro a_ w_ ⟨yj1_38, rfl, ha_, hs_⟩
 try dsimp only at hm
 refine a_start ha_ hs_ (a_then ?_)
 refine a_cond rfl (fun k_2 => ?_) (fun k_2 => ?_)
 · have hm := cond_t k_2 hm
   refine a_seq (a_region rfl (ap (y_assign rfl) (a_nil (a_en [(6, .bool false)] ?_))))
   refine a_then (a_ret (a_then_ret ?_))
   refine a_done (v := .bool false) (.inl rfl) rfl ?_ ?_
   · intro a_ w_ ha_ hs_; exact run_results (P := Tryd.prog) (fn := Tryd.f5) (rs := [.tmp 6]) (vs := [.bool false]) rfl (.cons (rv_tmp ha_ rfl) (All2.nil))
   · intro _ _; obtain rfl := Option.some.inj hm
     rfl
 have hm := cond_f k_2 hm
 refine a_skip (a_then (a_seq (a_region rfl ?_)))
 obtain ⟨u5_0, h5_0, c5_0⟩ := PAt.one hb0_0
 refine ap (y_load_cells ty25 rfl (fun _ h => h.sub) rfl c5_0 (Rp.len h5_0)) ?_
 obtain ⟨x5_1, q5_1, hm⟩ := bind_some hm
 refine a_cons (e_callV (all := [.agg u5_0.toArray]) (v := .tuple #[.int .i64 x5_1.1, .int .i64 x5_1.2]) trivial rfl Tryd.func41 rfl rfl rfl rfl rfl (fun w hw => ok_41 hw h5_0 hg q5_1) ?_)
 refine ap (y_move rfl) (ap (y_extract rfl rfl) (ap (y_extract rfl rfl) (ap (y_assign rfl) (ap (y_assign rfl) (a_nil (a_en [(3, .pointer (some ⟨b0_0, 0, none⟩)), (7, .int .i64 x5_1.1), (8, .int .i64 x5_1.2)] ?_))))))
 refine a_then (a_seq (a_region rfl ?_))
 obtain ⟨u6_0, h6_0, c6_0⟩ := PAt.one hb0_0
 refine ap (y_load_cells ty25 rfl (fun _ h => h.sub) rfl c6_0 (Rp.len h6_0)) ?_
 obtain ⟨x6_1, q6_1, hm⟩ := bind_some hm
 refine a_cons (e_callV (all := [.agg u6_0.toArray]) (v := .tuple #[.int .i64 x6_1.1, .int .i64 x6_1.2]) trivial rfl Tryd.func42 rfl rfl rfl rfl rfl (fun w hw => ok_42 hw h6_0 q6_1) ?_)
 refine ap (y_move rfl) (ap (y_extract rfl rfl) (ap (y_extract rfl rfl) (ap (y_assign rfl) (ap (y_assign rfl) (a_nil (a_en [(7, .int .i64 x5_1.1), (8, .int .i64 x5_1.2), (9, .int .i64 x6_1.1), (10, .int .i64 x6_1.2)] ?_))))))
 refine a_then (a_seq ?_)
 obtain ⟨s_j3, hs_j3, hm_j3⟩ := bind_some hm
 refine a_join (fun a_ w_ => ∃ (yj3_6 : Bool), yj3_6 = s_j3 ∧ Ag 60 [] [(6, .bool yj3_6)] a_ ∧ St (Kp.mk w H noX) Hb0_0 [] w_) ?_ ?_
 · have hm := hs_j3
   refine a_region rfl (ap (y_move rfl) (ap (y_move rfl) (ap (y_eql rfl rfl) (ap (y_move rfl) ?_))))
   rcases Bool.eq_false_or_eq_true (x5_1.1 == x6_1.1) with k7_4 | k7_4
   · have hm := cond_t k7_4 hm
     refine ag ⟨_, _, rfl, rfl, k7_4⟩ (y_move rfl) ?_
     refine ag ⟨_, _, rfl, rfl, k7_4⟩ (y_move rfl) ?_
     refine ag ⟨_, _, rfl, rfl, k7_4⟩ (y_eql rfl rfl) ?_
     refine ap (y_pick_t rfl k7_4 rfl) (ap (y_move rfl) ?_)
     rcases Bool.eq_false_or_eq_true (x5_1.2 == x6_1.2) with k7_9 | k7_9
     · have hm := cond_t k7_9 hm
       obtain ⟨x7_9, q7_9, hm⟩ := bind_some hm
       refine a_cons (e_callV (all := []) (v := .bool x7_9) ⟨_, _, rfl, rfl, k7_9⟩ rfl Tryd.func30 rfl rfl rfl rfl rfl (fun w hw => ok_30 hw hg q7_9) ?_)
       refine ap (y_pick_t rfl k7_9 rfl) (ap (y_assign rfl) (a_nil (a_en [(6, .bool x7_9)] ?_)))
       refine a_cut ?_
       intro a_ w_ ha_ hs_
       exact ⟨x7_9, Option.some.inj hm, ha_.weaken ⟨rfl, trivial⟩, hs_.reix [] (by decide)⟩
     have hm := cond_f k7_9 hm
     refine as1 (sk1 rfl rfl k7_9) ?_
     refine ap (y_pick_f rfl k7_9 rfl) (ap (y_assign rfl) (a_nil (a_en [(6, .bool false)] ?_)))
     refine a_cut ?_
     intro a_ w_ ha_ hs_
     exact ⟨false, Option.some.inj hm, ha_.weaken ⟨rfl, trivial⟩, hs_.reix [] (by decide)⟩
   have hm := cond_f k7_4 hm
   refine as1 (sk1 rfl rfl k7_4) ?_
   refine as1 (sk1 rfl rfl k7_4) ?_
   refine as1 (sk1 rfl rfl k7_4) ?_
   refine ap (y_pick_f rfl k7_4 rfl) (ap (y_move rfl) (as1 (sk1 rfl rfl rfl) (ap (y_pick_f rfl rfl rfl) (ap (y_assign rfl) (a_nil (a_en [(6, .bool false)] ?_))))))
   refine a_cut ?_
   intro a_ w_ ha_ hs_
   exact ⟨false, Option.some.inj hm, ha_.weaken ⟨rfl, trivial⟩, hs_.reix [] (by decide)⟩
 have hm := hm_j3
 rintro a_ w_ ⟨yj3_6, rfl, ha_, hs_⟩
 try dsimp only at hm
 refine a_start ha_ hs_ (a_then (a_ret ?_))
 refine a_done (v := .bool yj3_6) (.inl rfl) rfl ?_ ?_
 · intro a_ w_ ha_ hs_; exact run_results (P := Tryd.prog) (fn := Tryd.f5) (rs := [.tmp 6]) (vs := [.bool yj3_6]) rfl (.cons (rv_tmp ha_ rfl) (All2.nil))
 · intro _ _; obtain rfl := Option.some.inj hm
   rfl
end Go.Lu
