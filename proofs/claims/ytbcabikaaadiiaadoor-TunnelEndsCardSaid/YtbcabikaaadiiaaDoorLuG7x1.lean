/- Of each further function that the law TunnelEnds reaches, part 1: what it computes, and the walk that shows it. -/
import Derived.Test.YtbcabikaaadiiaaDoorLuW3
namespace Go.Lu
open Go Go.Proofs
set_option linter.unusedVariables false
set_option maxRecDepth 100000
set_option maxHeartbeats 8000000
def ref00_Fits (k : Nat) (p0 : Int) (p1 : Int) (p2 : Int) : Option Bool :=
 (bif decide (p1 ≤ p0) then
 some ((decide (p0 ≤ p2)))
 else
 some (false)).bind fun yj1_6 =>
 some (yj1_6)
theorem ok_50 {k : Nat} {H : Hp} {w : World} {p0 : Int} {p1 : Int} {p2 : Int} {r : Bool} (hsub : Sub H w)  (hm : ref00_Fits k p0 p1 p2 = some r) : Calls Tryd.prog 50 [.int .i64 p0, .int .i64 p1, .int .i64 p2].toArray w (PostV w H (.bool r)) := by
  unfold ref00_Fits at hm
  refine start (n := 15) (E := [(0, .int .i64 p0), (1, .int .i64 p1), (2, .int .i64 p2)]) Tryd.func50 rfl rfl ⟨rfl, rfl, rfl, trivial⟩ rfl hsub ?_
  refine a_seq ?_
  refine a_region rfl ?_
  refine ap (y_assign rfl) ?_
  refine a_nil ?_
  refine a_en [(0, .int .i64 p0), (1, .int .i64 p1), (2, .int .i64 p2)] ?_
  refine a_then ?_
  refine a_seq ?_
  obtain ⟨s_j1, hs_j1, hm_j1⟩ := bind_some hm
  refine a_join (fun a_ w_ => ∃ (yj1_6 : Bool), yj1_6 = s_j1 ∧ Ag 15 [] [(6, .bool yj1_6)] a_ ∧ St (Kp.mk w H noX) H [] w_) ?_ ?_
  · have hm := hs_j1
    refine a_region rfl ?_
    refine ap (y_move rfl) ?_
    refine ap (y_move rfl) ?_
    refine ap (y_leq rfl rfl) ?_
    refine ap (y_move rfl) ?_
    rcases Bool.eq_false_or_eq_true (decide (p1 ≤ p0)) with k1_4 | k1_4
    · have hm := cond_t k1_4 hm
      refine ag ⟨_, _, rfl, rfl, k1_4⟩ (y_move rfl) ?_
      refine ag ⟨_, _, rfl, rfl, k1_4⟩ (y_move rfl) ?_
      refine ag ⟨_, _, rfl, rfl, k1_4⟩ (y_leq rfl rfl) ?_
      refine ap (y_pick_t rfl k1_4 rfl) ?_
      refine ap (y_assign rfl) ?_
      refine a_nil ?_
      refine a_en [(6, .bool (decide (p0 ≤ p2)))] ?_
      refine a_cut ?_
      intro a_ w_ ha_ hs_
      exact ⟨decide (p0 ≤ p2), Option.some.inj hm, ha_.weaken ⟨rfl, trivial⟩, hs_.reix [] (by decide)⟩
    have hm := cond_f k1_4 hm
    refine as1 (sk1 rfl rfl k1_4) ?_
    refine as1 (sk1 rfl rfl k1_4) ?_
    refine as1 (sk1 rfl rfl k1_4) ?_
    refine ap (y_pick_f rfl k1_4 rfl) ?_
    refine ap (y_assign rfl) ?_
    refine a_nil ?_
    refine a_en [(6, .bool false)] ?_
    refine a_cut ?_
    intro a_ w_ ha_ hs_
    exact ⟨false, Option.some.inj hm, ha_.weaken ⟨rfl, trivial⟩, hs_.reix [] (by decide)⟩
  have hm := hm_j1
  rintro a_ w_ ⟨yj1_6, rfl, ha_, hs_⟩
  try dsimp only at hm
  refine a_start ha_ hs_ ?_
  refine a_then ?_
  refine a_ret ?_
  refine a_done (v := .bool yj1_6) (.inl rfl) rfl ?_ ?_
  · intro a_ w_ ha_ hs_; exact run_results (P := Tryd.prog) (fn := Tryd.f50) (rs := [.tmp 6]) (vs := [.bool yj1_6]) rfl (.cons (rv_tmp ha_ rfl) (All2.nil))
  · intro _ _; obtain rfl := Option.some.inj hm
    rfl

def ref00_Right (k : Nat) (p0 : Span) (p1 : Int) (p2 : Int) : Option Bool :=
 (bif decide (p1 ≤ p0.Low) then
 bif decide (p0.Low ≤ p0.High) then
 some ((decide (p0.High ≤ p2)))
 else
 some (false)
 else
 some (false)).bind fun yj1_6 =>
 some (yj1_6)
theorem ok_87 {k : Nat} {H : Hp} {w : World} {p0 : Span} {p1 : Int} {p2 : Int} {c0 : List Value} {r : Bool} (hsub : Sub H w) (h0 : Rp.rep (α := Span) H c0 p0) (hm : ref00_Right k p0 p1 p2 = some r) : Calls Tryd.prog 87 [.agg c0.toArray, .int .i64 p1, .int .i64 p2].toArray w (PostV w H (.bool r)) := by
  unfold ref00_Right at hm
  refine start (n := 24) (E := [(0, .agg c0.toArray), (1, .int .i64 p1), (2, .int .i64 p2)]) Tryd.func87 rfl rfl ⟨rfl, rfl, rfl, trivial⟩ rfl hsub ?_
  refine a_seq ?_
  refine a_region rfl ?_
  refine a_cons (e_box (cs := c0) trivial rfl rfl rfl ?_)
  intro b0_0
  refine ap (y_assign rfl) ?_
  refine a_nil ?_
  refine a_freeze (α := Span) (x := p0) (i := 0) rfl h0 ?_
  intro Hb0_0 lb0_0 hb0_0
  have h0 := Rp.mono lb0_0 h0
  refine a_en [(1, .int .i64 p1), (2, .int .i64 p2), (3, .pointer (some ⟨b0_0, 0, none⟩))] ?_
  refine a_own [] (by decide) (L' := []) rfl ?_
  refine a_then ?_
  refine a_seq ?_
  obtain ⟨s_j1, hs_j1, hm_j1⟩ := bind_some hm
  refine a_join (fun a_ w_ => ∃ (yj1_6 : Bool), yj1_6 = s_j1 ∧ Ag 24 [] [(6, .bool yj1_6)] a_ ∧ St (Kp.mk w H noX) Hb0_0 [] w_) ?_ ?_
  · have hm := hs_j1
    refine a_region rfl ?_
    refine ap (y_move rfl) ?_
    have h1_1 := Span.at_Low hb0_0
    refine ap (y_fieldAddr fo32_0 rfl) ?_
    refine ap (y_load_int ty3 rfl (fun _ h => h.sub) rfl h1_1) ?_
    refine ap (y_leq rfl rfl) ?_
    refine ap (y_move rfl) ?_
    rcases Bool.eq_false_or_eq_true (decide (p1 ≤ p0.Low)) with k1_5 | k1_5
    · have hm := cond_t k1_5 hm
      have h1_5 := Span.at_Low hb0_0
      refine ag ⟨_, _, rfl, rfl, k1_5⟩ (y_fieldAddr fo32_0 rfl) ?_
      refine ag ⟨_, _, rfl, rfl, k1_5⟩ (y_load_int ty3 rfl (fun _ h => h.sub) rfl h1_5) ?_
      have h1_7 := Span.at_High hb0_0
      refine ag ⟨_, _, rfl, rfl, k1_5⟩ (y_fieldAddr fo32_1 rfl) ?_
      refine ag ⟨_, _, rfl, rfl, k1_5⟩ (y_load_int ty3 rfl (fun _ h => h.sub) rfl h1_7) ?_
      refine ag ⟨_, _, rfl, rfl, k1_5⟩ (y_leq rfl rfl) ?_
      refine ap (y_pick_t rfl k1_5 rfl) ?_
      refine ap (y_move rfl) ?_
      rcases Bool.eq_false_or_eq_true (decide (p0.Low ≤ p0.High)) with k1_12 | k1_12
      · have hm := cond_t k1_12 hm
        have h1_12 := Span.at_High hb0_0
        refine ag ⟨_, _, rfl, rfl, k1_12⟩ (y_fieldAddr fo32_1 rfl) ?_
        refine ag ⟨_, _, rfl, rfl, k1_12⟩ (y_load_int ty3 rfl (fun _ h => h.sub) rfl h1_12) ?_
        refine ag ⟨_, _, rfl, rfl, k1_12⟩ (y_move rfl) ?_
        refine ag ⟨_, _, rfl, rfl, k1_12⟩ (y_leq rfl rfl) ?_
        refine ap (y_pick_t rfl k1_12 rfl) ?_
        refine ap (y_assign rfl) ?_
        refine a_nil ?_
        refine a_en [(6, .bool (decide (p0.High ≤ p2)))] ?_
        refine a_cut ?_
        intro a_ w_ ha_ hs_
        exact ⟨decide (p0.High ≤ p2), Option.some.inj hm, ha_.weaken ⟨rfl, trivial⟩, hs_.reix [] (by decide)⟩
      have hm := cond_f k1_12 hm
      refine as1 (sk1 rfl rfl k1_12) ?_
      refine as1 (sk1 rfl rfl k1_12) ?_
      refine as1 (sk1 rfl rfl k1_12) ?_
      refine as1 (sk1 rfl rfl k1_12) ?_
      refine ap (y_pick_f rfl k1_12 rfl) ?_
      refine ap (y_assign rfl) ?_
      refine a_nil ?_
      refine a_en [(6, .bool false)] ?_
      refine a_cut ?_
      intro a_ w_ ha_ hs_
      exact ⟨false, Option.some.inj hm, ha_.weaken ⟨rfl, trivial⟩, hs_.reix [] (by decide)⟩
    have hm := cond_f k1_5 hm
    refine as1 (sk1 rfl rfl k1_5) ?_
    refine as1 (sk1 rfl rfl k1_5) ?_
    refine as1 (sk1 rfl rfl k1_5) ?_
    refine as1 (sk1 rfl rfl k1_5) ?_
    refine as1 (sk1 rfl rfl k1_5) ?_
    refine ap (y_pick_f rfl k1_5 rfl) ?_
    refine ap (y_move rfl) ?_
    refine as1 (sk1 rfl rfl rfl) ?_
    refine as1 (sk1 rfl rfl rfl) ?_
    refine as1 (sk1 rfl rfl rfl) ?_
    refine as1 (sk1 rfl rfl rfl) ?_
    refine ap (y_pick_f rfl rfl rfl) ?_
    refine ap (y_assign rfl) ?_
    refine a_nil ?_
    refine a_en [(6, .bool false)] ?_
    refine a_cut ?_
    intro a_ w_ ha_ hs_
    exact ⟨false, Option.some.inj hm, ha_.weaken ⟨rfl, trivial⟩, hs_.reix [] (by decide)⟩
  have hm := hm_j1
  rintro a_ w_ ⟨yj1_6, rfl, ha_, hs_⟩
  try dsimp only at hm
  refine a_start ha_ hs_ ?_
  refine a_then ?_
  refine a_ret ?_
  refine a_done (v := .bool yj1_6) (.inl rfl) rfl ?_ ?_
  · intro a_ w_ ha_ hs_; exact run_results (P := Tryd.prog) (fn := Tryd.f87) (rs := [.tmp 6]) (vs := [.bool yj1_6]) rfl (.cons (rv_tmp ha_ rfl) (All2.nil))
  · intro _ _; obtain rfl := Option.some.inj hm
    rfl

def law03_sound_lj8 (k : Nat) (x5_3 : TunnelPart) : Nat → Bool → Int → Option Bool
 | 0, _, _ => none
 | n_j8 + 1, yj8_3, yj8_6 =>
 bif decide (yj8_6 ≤ 3) then
 (bif yj8_3 then
 (nth x5_3.Heat yj8_6).bind fun x10_4 =>
 (ref00_Fits k x10_4 0 20).bind fun x10_6 =>
 some (x10_6)
 else
 some (false)).bind fun yj10_3 =>
 law03_sound_lj8 k x5_3 n_j8 yj10_3 (IntKind.i64.wrap (yj8_6 + 1))
 else
 some (yj8_3)
def law03_sound_lj3 (k : Nat) (p0 : TunnelBook) : Nat → Bool → Int → Option Bool
 | 0, _, _ => none
 | n_j3 + 1, yj3_3, yj3_4 =>
 (bif yj3_3 then
 some ((decide (yj3_4 < (p0.Parts.length : Int))))
 else
 some (false)).bind fun yj4_32 =>
 bif yj4_32 then
 (nth p0.Parts yj3_4).bind fun x5_3 =>
 ((ref00_Right k x5_3.Damp 0 20).bind fun x6_2 =>
 bif x6_2 then
 some ((decide ((IntKind.i64.wrap (x5_3.Damp.High - x5_3.Damp.Low)) ≤ 3)))
 else
 some (false)).bind fun yj6_3 =>
 (law03_sound_lj8 k x5_3 k yj6_3 0).bind fun yj7_3 =>
 law03_sound_lj3 k p0 n_j3 yj7_3 (IntKind.i64.wrap (yj3_4 + 1))
 else
 some (yj3_3)
def law03_sound_lj17 (k : Nat) (x14_3 : TunnelFrame) : Nat → Bool → Int → Option Bool
 | 0, _, _ => none
 | n_j17 + 1, yj17_3, yj17_9 =>
 (bif yj17_3 then
 some ((decide (yj17_9 < (x14_3.Stay.length : Int))))
 else
 some (false)).bind fun yj18_99 =>
 bif yj18_99 then
 (nth x14_3.Stay yj17_9).bind fun x19_3 =>
 (ref00_Fits k x19_3 0 20).bind fun x19_5 =>
 law03_sound_lj17 k x14_3 n_j17 x19_5 (IntKind.i64.wrap (yj17_9 + 1))
 else
 some (yj17_3)
def law03_sound_lj12 (k : Nat) (p0 : TunnelBook) : Nat → Bool → Int → Option Bool
 | 0, _, _ => none
 | n_j12 + 1, yj12_3, yj12_7 =>
 (bif yj12_3 then
 some ((decide (yj12_7 < (p0.Frames.length : Int))))
 else
 some (false)).bind fun yj13_72 =>
 bif yj13_72 then
 (nth p0.Frames yj12_7).bind fun x14_3 =>
 (bif (x14_3.Stay.length : Int) == (p0.Parts.length : Int) then
 (ref00_Right k x14_3.Need 0 999).bind fun x15_10 =>
 some (x15_10)
 else
 some (false)).bind fun yj15_3 =>
 (law03_sound_lj17 k x14_3 k yj15_3 0).bind fun yj16_3 =>
 law03_sound_lj12 k p0 n_j12 yj16_3 (IntKind.i64.wrap (yj12_7 + 1))
 else
 some (yj12_3)
def law03_sound (k : Nat) (p0 : TunnelBook) : Option Bool :=
 ((tunnel_Check k p0).bind fun x1_1 =>
 bif x1_1 == 0 then
 (ref00_Fits k (p0.Parts.length : Int) 1 4).bind fun x1_7 =>
 bif x1_7 then
 some ((decide ((p0.Frames.length : Int) ≤ 5)))
 else
 some (false)
 else
 some (false)).bind fun yj1_3 =>
 (law03_sound_lj3 k p0 k yj1_3 0).bind fun yj2_3 =>
 (law03_sound_lj12 k p0 k yj2_3 0).bind fun yj11_3 =>
 some (yj11_3)
theorem ok_43 {k : Nat} {H : Hp} {w : World} {p0 : TunnelBook} {c0 : List Value} {r : Bool} (hsub : Sub H w) (h0 : Rp.rep (α := TunnelBook) H c0 p0) (hm : law03_sound k p0 = some r) : Calls Tryd.prog 43 [.agg c0.toArray].toArray w (PostV w H (.bool r)) := by
  unfold law03_sound at hm
  refine start (n := 109) (E := [(0, .agg c0.toArray)]) Tryd.func43 rfl rfl ⟨rfl, trivial⟩ rfl hsub ?_
  refine a_seq ?_
  refine a_region rfl ?_
  refine a_cons (e_box (cs := c0) trivial rfl rfl rfl ?_)
  intro b0_0
  refine ap (y_assign rfl) ?_
  refine a_nil ?_
  refine a_freeze (α := TunnelBook) (x := p0) (i := 0) rfl h0 ?_
  intro Hb0_0 lb0_0 hb0_0
  have h0 := Rp.mono lb0_0 h0
  refine a_en [(1, .pointer (some ⟨b0_0, 0, none⟩))] ?_
  refine a_own [] (by decide) (L' := []) rfl ?_
  refine a_then ?_
  refine a_seq ?_
  obtain ⟨s_j1, hs_j1, hm_j1⟩ := bind_some hm
  refine a_join (fun a_ w_ => ∃ (yj1_3 : Bool), yj1_3 = s_j1 ∧ Ag 109 [] [(1, .pointer (some ⟨b0_0, 0, none⟩)), (3, .bool yj1_3)] a_ ∧ St (Kp.mk w H noX) Hb0_0 [] w_) ?_ ?_
  · have hm := hs_j1
    refine a_region rfl ?_
    obtain ⟨u1_0, h1_0, c1_0⟩ := PAt.one hb0_0
    refine ap (y_load_cells ty25 rfl (fun _ h => h.sub) rfl c1_0 (Rp.len h1_0)) ?_
    obtain ⟨x1_1, q1_1, hm⟩ := bind_some hm
    refine a_cons (e_callV (all := [.agg u1_0.toArray]) (v := .int .i64 x1_1) trivial rfl Tryd.func21 rfl rfl rfl rfl rfl (fun w hw => ok_21 hw h1_0 q1_1) ?_)
    refine ap (y_eql rfl rfl) ?_
    refine ap (y_move rfl) ?_
    rcases Bool.eq_false_or_eq_true (x1_1 == 0) with k1_4 | k1_4
    · have hm := cond_t k1_4 hm
      have h1_4 := TunnelBook.at_Parts hb0_0
      refine ag ⟨_, _, rfl, rfl, k1_4⟩ (y_fieldAddr fo25_0 rfl) ?_
      obtain ⟨v1_5, h1_5, c1_5⟩ := PAt.sl h1_4
      refine ag ⟨_, _, rfl, rfl, k1_4⟩ (y_load_one ty22 rfl (fun _ h => h.sub) rfl c1_5) ?_
      refine ag ⟨_, _, rfl, rfl, k1_4⟩ (y_len_sl Tryd.underlying22 rfl h1_5) ?_
      obtain ⟨x1_7, q1_7, hm⟩ := bind_some hm
      refine a_cons (e_callV (all := [.int .i64 (p0.Parts.length : Int), .int .i64 1, .int .i64 4]) (v := .bool x1_7) ⟨_, _, rfl, rfl, k1_4⟩ rfl Tryd.func50 rfl rfl rfl rfl rfl (fun w hw => ok_50 hw q1_7) ?_)
      refine ap (y_pick_t rfl k1_4 rfl) ?_
      refine ap (y_move rfl) ?_
      rcases Bool.eq_false_or_eq_true (x1_7) with k1_10 | k1_10
      · have hm := cond_t k1_10 hm
        have h1_10 := TunnelBook.at_Frames hb0_0
        refine ag ⟨_, _, rfl, rfl, k1_10⟩ (y_fieldAddr fo25_1 rfl) ?_
        obtain ⟨v1_11, h1_11, c1_11⟩ := PAt.sl h1_10
        refine ag ⟨_, _, rfl, rfl, k1_10⟩ (y_load_one ty23 rfl (fun _ h => h.sub) rfl c1_11) ?_
        refine ag ⟨_, _, rfl, rfl, k1_10⟩ (y_len_sl Tryd.underlying23 rfl h1_11) ?_
        refine ag ⟨_, _, rfl, rfl, k1_10⟩ (y_leq rfl rfl) ?_
        refine ap (y_pick_t rfl k1_10 rfl) ?_
        refine ap (y_assign rfl) ?_
        refine a_nil ?_
        refine a_en [(1, .pointer (some ⟨b0_0, 0, none⟩)), (3, .bool (decide ((p0.Frames.length : Int) ≤ 5)))] ?_
        refine a_cut ?_
        intro a_ w_ ha_ hs_
        exact ⟨decide ((p0.Frames.length : Int) ≤ 5), Option.some.inj hm, ha_.weaken ⟨rfl, rfl, trivial⟩, hs_.reix [] (by decide)⟩
      have hm := cond_f k1_10 hm
      refine as1 (sk1 rfl rfl k1_10) ?_
      refine as1 (sk1 rfl rfl k1_10) ?_
      refine as1 (sk1 rfl rfl k1_10) ?_
      refine as1 (sk1 rfl rfl k1_10) ?_
      refine ap (y_pick_f rfl k1_10 rfl) ?_
      refine ap (y_assign rfl) ?_
      refine a_nil ?_
      refine a_en [(1, .pointer (some ⟨b0_0, 0, none⟩)), (3, .bool false)] ?_
      refine a_cut ?_
      intro a_ w_ ha_ hs_
      exact ⟨false, Option.some.inj hm, ha_.weaken ⟨rfl, rfl, trivial⟩, hs_.reix [] (by decide)⟩
    have hm := cond_f k1_4 hm
    refine as1 (sk1 rfl rfl k1_4) ?_
    refine as1 (sk1 rfl rfl k1_4) ?_
    refine as1 (sk1 rfl rfl k1_4) ?_
    refine as1 (sk1 rfl rfl k1_4) ?_
    refine ap (y_pick_f rfl k1_4 rfl) ?_
    refine ap (y_move rfl) ?_
    refine as1 (sk1 rfl rfl rfl) ?_
    refine as1 (sk1 rfl rfl rfl) ?_
    refine as1 (sk1 rfl rfl rfl) ?_
    refine as1 (sk1 rfl rfl rfl) ?_
    refine ap (y_pick_f rfl rfl rfl) ?_
    refine ap (y_assign rfl) ?_
    refine a_nil ?_
    refine a_en [(1, .pointer (some ⟨b0_0, 0, none⟩)), (3, .bool false)] ?_
    refine a_cut ?_
    intro a_ w_ ha_ hs_
    exact ⟨false, Option.some.inj hm, ha_.weaken ⟨rfl, rfl, trivial⟩, hs_.reix [] (by decide)⟩
  have hm := hm_j1
  rintro a_ w_ ⟨yj1_3, rfl, ha_, hs_⟩
  try dsimp only at hm
  refine a_start ha_ hs_ ?_
  refine a_then ?_
  refine a_seq ?_
  refine a_seq ?_
  refine a_region rfl ?_
  refine ap (y_assign rfl) ?_
  refine a_nil ?_
  refine a_then ?_
  obtain ⟨s_j2, hs_j2, hm_j2⟩ := bind_some hm
  refine a_join (fun a_ w_ => ∃ (Hj2 : Hp), ∃ (_ : HLe Hb0_0 Hj2), ∃ (yj2_3 : Bool), yj2_3 = s_j2 ∧ Ag 109 [] [(1, .pointer (some ⟨b0_0, 0, none⟩)), (3, .bool yj2_3)] a_ ∧ St (Kp.mk w H noX) Hj2 [] w_) ?_ ?_
  · have hm := hs_j2
    refine a_block ?_
    refine a_loop (fun n_j3 a_ w_ => ∃ (Hj3 : Hp), ∃ (_ : HLe Hb0_0 Hj3), ∃ (yj3_3 : Bool), ∃ (yj3_4 : Int), law03_sound_lj3 k p0 n_j3 yj3_3 yj3_4 = some s_j2 ∧ Ag 109 [] [(1, .pointer (some ⟨b0_0, 0, none⟩)), (3, .bool yj3_3), (4, .int .i64 yj3_4)] a_ ∧ St (Kp.mk w H noX) Hj3 [] w_) k ?_ ?_
    · intro a_ w_ ha_ hs_
      exact ⟨Hb0_0, (HLe.refl _), yj1_3, 0, hm, ha_.weaken ⟨rfl, rfl, rfl, trivial⟩, hs_.reix [] (by decide)⟩
    rintro (_ | n_j3) a_ w_ ⟨Hj3, lj3, yj3_3, yj3_4, hm, ha_, hs_⟩
    · rw [law03_sound_lj3.eq_1] at hm; cases hm
    rw [law03_sound_lj3.eq_2] at hm
    refine a_start ha_ hs_ ?_
    have hb0_0 := PAt.mono lj3 hb0_0
    refine a_seq ?_
    refine a_seq ?_
    obtain ⟨s_j4, hs_j4, hm_j4⟩ := bind_some hm
    refine a_join (fun a_ w_ => ∃ (yj4_32 : Bool), yj4_32 = s_j4 ∧ Ag 109 [] [(1, .pointer (some ⟨b0_0, 0, none⟩)), (3, .bool yj3_3), (4, .int .i64 yj3_4), (32, .bool yj4_32)] a_ ∧ St (Kp.mk w H noX) Hj3 [] w_) ?_ ?_
    · have hm := hs_j4
      refine a_region rfl ?_
      refine ap (y_move rfl) ?_
      refine ap (y_move rfl) ?_
      rcases Bool.eq_false_or_eq_true (yj3_3) with k3_2 | k3_2
      · have hm := cond_t k3_2 hm
        refine ag ⟨_, _, rfl, rfl, k3_2⟩ (y_move rfl) ?_
        have h3_3 := TunnelBook.at_Parts hb0_0
        refine ag ⟨_, _, rfl, rfl, k3_2⟩ (y_fieldAddr fo25_0 rfl) ?_
        obtain ⟨v3_4, h3_4, c3_4⟩ := PAt.sl h3_3
        refine ag ⟨_, _, rfl, rfl, k3_2⟩ (y_load_one ty22 rfl (fun _ h => h.sub) rfl c3_4) ?_
        refine ag ⟨_, _, rfl, rfl, k3_2⟩ (y_len_sl Tryd.underlying22 rfl h3_4) ?_
        refine ag ⟨_, _, rfl, rfl, k3_2⟩ (y_lss rfl rfl) ?_
        refine ap (y_pick_t rfl k3_2 rfl) ?_
        refine a_nil ?_
        refine a_en [(1, .pointer (some ⟨b0_0, 0, none⟩)), (3, .bool yj3_3), (4, .int .i64 yj3_4), (27, .int .i64 yj3_4), (28, .pointer (some ⟨b0_0, 0 + 0, none⟩)), (29, v3_4), (30, .int .i64 (p0.Parts.length : Int)), (31, .bool (decide (yj3_4 < (p0.Parts.length : Int)))), (32, .bool (decide (yj3_4 < (p0.Parts.length : Int))))] ?_
        refine a_cut ?_
        intro a_ w_ ha_ hs_
        exact ⟨decide (yj3_4 < (p0.Parts.length : Int)), Option.some.inj hm, ha_.weaken ⟨rfl, rfl, rfl, rfl, trivial⟩, hs_.reix [] (by decide)⟩
      have hm := cond_f k3_2 hm
      refine as1 (sk1 rfl rfl k3_2) ?_
      refine as1 (sk1 rfl rfl k3_2) ?_
      refine as1 (sk1 rfl rfl k3_2) ?_
      refine as1 (sk1 rfl rfl k3_2) ?_
      refine as1 (sk1 rfl rfl k3_2) ?_
      refine ap (y_pick_f rfl k3_2 rfl) ?_
      refine a_nil ?_
      refine a_en [(1, .pointer (some ⟨b0_0, 0, none⟩)), (3, .bool yj3_3), (4, .int .i64 yj3_4), (27, undef), (28, undef), (29, undef), (30, undef), (31, undef), (32, .bool false)] ?_
      refine a_cut ?_
      intro a_ w_ ha_ hs_
      exact ⟨false, Option.some.inj hm, ha_.weaken ⟨rfl, rfl, rfl, rfl, trivial⟩, hs_.reix [] (by decide)⟩
    have hm := hm_j4
    rintro a_ w_ ⟨yj4_32, rfl, ha_, hs_⟩
    try dsimp only at hm
    refine a_start ha_ hs_ ?_
    refine a_then ?_
    refine a_cond rfl (fun k_5 => ?_) (fun k_5 => ?_)
    · have hm := cond_t k_5 hm
      refine a_skip ?_
      refine a_then ?_
      refine a_seq ?_
      refine a_block ?_
      refine a_seq ?_
      refine a_region rfl ?_
      have h5_0 := TunnelBook.at_Parts hb0_0
      refine ap (y_fieldAddr fo25_0 rfl) ?_
      obtain ⟨v5_1, h5_1, c5_1⟩ := PAt.sl h5_0
      refine ap (y_load_one ty22 rfl (fun _ h => h.sub) rfl c5_1) ?_
      refine ap (y_move rfl) ?_
      obtain ⟨x5_3, q5_3, hm⟩ := bind_some hm
      obtain ⟨b5_3, o5_3, c5_3, e5_3, h5_3⟩ := Sl.elemZ 6 rfl h5_1 q5_3
      refine ap (y_index Tryd.underlying22 ty64 rfl e5_3 rfl (nth_in q5_3)) ?_
      obtain ⟨u5_4, h5_4, c5_4⟩ := PAt.one h5_3
      refine ap (y_load_cells ty64 rfl (fun _ h => h.sub) rfl c5_4 (Rp.len h5_4)) ?_
      refine a_cons (e_alloc (cs := [.int .i64 0, .int .i64 0, .int .i64 0, .int .i64 0, .int .i64 0, .int .i64 0]) trivial rfl ty64 rfl ?_)
      intro b5_5
      have mz5_5 : Rp.rep (α := TunnelPart) Hj3 [.int .i64 0, .int .i64 0, .int .i64 0, .int .i64 0, .int .i64 0, .int .i64 0] (⟨[0, 0, 0, 0], ⟨0, 0⟩⟩ : TunnelPart) := ⟨_, _, rfl, ⟨(RepL.cons (c := [_]) rfl (RepL.cons (c := [_]) rfl (RepL.cons (c := [_]) rfl (RepL.cons (c := [_]) rfl RepL.nil)))), rfl⟩, ⟨_, _, rfl, rfl, rfl⟩⟩
      refine a_cons (e_storeWhole (i := 0) (ds := u5_4) trivial ty64 rfl rfl rfl rfl (Rp.len h5_4) ((Rp.one h5_4)) rfl ?_)
      refine a_nil ?_
      refine a_freeze (α := TunnelPart) (x := x5_3) (i := 0) rfl h5_4 ?_
      intro Hb5_5 lb5_5 hb5_5
      have hb0_0 := PAt.mono lb5_5 hb0_0
      have h5_0 := PAt.mono lb5_5 h5_0
      have h5_1 := Sl.mono lb5_5 h5_1
      have h5_3 := PAt.mono lb5_5 h5_3
      have h5_4 := Rp.mono lb5_5 h5_4
      refine a_en [(1, .pointer (some ⟨b0_0, 0, none⟩)), (4, .int .i64 yj3_4), (5, .pointer (some ⟨b5_5, 0, none⟩))] ?_
      refine a_own [] (by decide) (L' := []) rfl ?_
      refine a_then ?_
      refine a_seq ?_
      obtain ⟨s_j6, hs_j6, hm_j6⟩ := bind_some hm
      refine a_join (fun a_ w_ => ∃ (yj6_3 : Bool), yj6_3 = s_j6 ∧ Ag 109 [] [(1, .pointer (some ⟨b0_0, 0, none⟩)), (3, .bool yj6_3), (4, .int .i64 yj3_4), (5, .pointer (some ⟨b5_5, 0, none⟩))] a_ ∧ St (Kp.mk w H noX) Hb5_5 [] w_) ?_ ?_
      · have hm := hs_j6
        refine a_region rfl ?_
        have h6_0 := TunnelPart.at_Damp hb5_5
        refine ap (y_fieldAddr fo64_1 rfl) ?_
        obtain ⟨u6_1, h6_1, c6_1⟩ := PAt.one h6_0
        refine ap (y_load_cells ty32 rfl (fun _ h => h.sub) rfl c6_1 (Rp.len h6_1)) ?_
        obtain ⟨x6_2, q6_2, hm⟩ := bind_some hm
        refine a_cons (e_callV (all := [.agg u6_1.toArray, .int .i64 0, .int .i64 20]) (v := .bool x6_2) trivial rfl Tryd.func87 rfl rfl rfl rfl rfl (fun w hw => ok_87 hw h6_1 q6_2) ?_)
        refine ap (y_move rfl) ?_
        rcases Bool.eq_false_or_eq_true (x6_2) with k6_4 | k6_4
        · have hm := cond_t k6_4 hm
          have h6_4 := TunnelPart.at_Damp hb5_5
          refine ag ⟨_, _, rfl, rfl, k6_4⟩ (y_fieldAddr fo64_1 rfl) ?_
          have h6_5 := Span.at_High h6_4
          refine ag ⟨_, _, rfl, rfl, k6_4⟩ (y_fieldAddr fo32_1 rfl) ?_
          refine ag ⟨_, _, rfl, rfl, k6_4⟩ (y_load_int ty3 rfl (fun _ h => h.sub) rfl h6_5) ?_
          have h6_7 := TunnelPart.at_Damp hb5_5
          refine ag ⟨_, _, rfl, rfl, k6_4⟩ (y_fieldAddr fo64_1 rfl) ?_
          have h6_8 := Span.at_Low h6_7
          refine ag ⟨_, _, rfl, rfl, k6_4⟩ (y_fieldAddr fo32_0 rfl) ?_
          refine ag ⟨_, _, rfl, rfl, k6_4⟩ (y_load_int ty3 rfl (fun _ h => h.sub) rfl h6_8) ?_
          refine ag ⟨_, _, rfl, rfl, k6_4⟩ (y_sub rfl rfl) ?_
          refine ag ⟨_, _, rfl, rfl, k6_4⟩ (y_leq rfl rfl) ?_
          refine ap (y_pick_t rfl k6_4 rfl) ?_
          refine ap (y_assign rfl) ?_
          refine a_nil ?_
          refine a_en [(1, .pointer (some ⟨b0_0, 0, none⟩)), (3, .bool (decide ((IntKind.i64.wrap (x5_3.Damp.High - x5_3.Damp.Low)) ≤ 3))), (4, .int .i64 yj3_4), (5, .pointer (some ⟨b5_5, 0, none⟩)), (44, .pointer (some ⟨b5_5, 0 + 4, none⟩)), (45, .pointer (some ⟨b5_5, 0 + 4 + 1, none⟩)), (46, .int .i64 x5_3.Damp.High), (47, .pointer (some ⟨b5_5, 0 + 4, none⟩)), (48, .pointer (some ⟨b5_5, 0 + 4 + 0, none⟩)), (49, .int .i64 x5_3.Damp.Low), (50, .int .i64 (IntKind.i64.wrap (x5_3.Damp.High - x5_3.Damp.Low))), (51, .bool (decide ((IntKind.i64.wrap (x5_3.Damp.High - x5_3.Damp.Low)) ≤ 3)))] ?_
          refine a_cut ?_
          intro a_ w_ ha_ hs_
          exact ⟨decide ((IntKind.i64.wrap (x5_3.Damp.High - x5_3.Damp.Low)) ≤ 3), Option.some.inj hm, ha_.weaken ⟨rfl, rfl, rfl, rfl, trivial⟩, hs_.reix [] (by decide)⟩
        have hm := cond_f k6_4 hm
        refine as1 (sk1 rfl rfl k6_4) ?_
        refine as1 (sk1 rfl rfl k6_4) ?_
        refine as1 (sk1 rfl rfl k6_4) ?_
        refine as1 (sk1 rfl rfl k6_4) ?_
        refine as1 (sk1 rfl rfl k6_4) ?_
        refine as1 (sk1 rfl rfl k6_4) ?_
        refine as1 (sk1 rfl rfl k6_4) ?_
        refine as1 (sk1 rfl rfl k6_4) ?_
        refine ap (y_pick_f rfl k6_4 rfl) ?_
        refine ap (y_assign rfl) ?_
        refine a_nil ?_
        refine a_en [(1, .pointer (some ⟨b0_0, 0, none⟩)), (3, .bool false), (4, .int .i64 yj3_4), (5, .pointer (some ⟨b5_5, 0, none⟩)), (44, undef), (45, undef), (46, undef), (47, undef), (48, undef), (49, undef), (50, undef), (51, undef)] ?_
        refine a_cut ?_
        intro a_ w_ ha_ hs_
        exact ⟨false, Option.some.inj hm, ha_.weaken ⟨rfl, rfl, rfl, rfl, trivial⟩, hs_.reix [] (by decide)⟩
      have hm := hm_j6
      rintro a_ w_ ⟨yj6_3, rfl, ha_, hs_⟩
      try dsimp only at hm
      refine a_start ha_ hs_ ?_
      refine a_then ?_
      refine a_seq ?_
      refine a_region rfl ?_
      refine ap (y_assign rfl) ?_
      refine a_nil ?_
      refine a_then ?_
      obtain ⟨s_j7, hs_j7, hm_j7⟩ := bind_some hm
      refine a_join (fun a_ w_ => ∃ (yj7_3 : Bool), yj7_3 = s_j7 ∧ Ag 109 [] [(1, .pointer (some ⟨b0_0, 0, none⟩)), (3, .bool yj7_3), (4, .int .i64 yj3_4)] a_ ∧ St (Kp.mk w H noX) Hb5_5 [] w_) ?_ ?_
      · have hm := hs_j7
        refine a_block ?_
        refine a_loop (fun n_j8 a_ w_ => ∃ (yj8_3 : Bool), ∃ (yj8_6 : Int), law03_sound_lj8 k x5_3 n_j8 yj8_3 yj8_6 = some s_j7 ∧ Ag 109 [] [(1, .pointer (some ⟨b0_0, 0, none⟩)), (3, .bool yj8_3), (4, .int .i64 yj3_4), (5, .pointer (some ⟨b5_5, 0, none⟩)), (6, .int .i64 yj8_6)] a_ ∧ St (Kp.mk w H noX) Hb5_5 [] w_) k ?_ ?_
        · intro a_ w_ ha_ hs_
          exact ⟨yj6_3, 0, hm, ha_.weaken ⟨rfl, rfl, rfl, rfl, rfl, trivial⟩, hs_.reix [] (by decide)⟩
        rintro (_ | n_j8) a_ w_ ⟨yj8_3, yj8_6, hm, ha_, hs_⟩
        · rw [law03_sound_lj8.eq_1] at hm; cases hm
        rw [law03_sound_lj8.eq_2] at hm
        refine a_start ha_ hs_ ?_
        refine a_seq ?_
        refine a_seq ?_
        refine a_region rfl ?_
        refine ap (y_move rfl) ?_
        refine ap (y_leq rfl rfl) ?_
        refine a_nil ?_
        refine a_en [(1, .pointer (some ⟨b0_0, 0, none⟩)), (3, .bool yj8_3), (4, .int .i64 yj3_4), (5, .pointer (some ⟨b5_5, 0, none⟩)), (6, .int .i64 yj8_6), (54, .bool (decide (yj8_6 ≤ 3)))] ?_
        refine a_then ?_
        refine a_cond rfl (fun k_9 => ?_) (fun k_9 => ?_)
        · have hm := cond_t k_9 hm
          refine a_skip ?_
          refine a_then ?_
          refine a_seq ?_
          refine a_block ?_
          obtain ⟨s_j10, hs_j10, hm_j10⟩ := bind_some hm
          refine a_join (fun a_ w_ => ∃ (yj10_3 : Bool), yj10_3 = s_j10 ∧ Ag 109 [] [(1, .pointer (some ⟨b0_0, 0, none⟩)), (3, .bool yj10_3), (4, .int .i64 yj3_4), (5, .pointer (some ⟨b5_5, 0, none⟩)), (6, .int .i64 yj8_6)] a_ ∧ St (Kp.mk w H noX) Hb5_5 [] w_) ?_ ?_
          · have hm := hs_j10
            refine a_region rfl ?_
            refine ap (y_move rfl) ?_
            refine ap (y_move rfl) ?_
            rcases Bool.eq_false_or_eq_true (yj8_3) with k10_2 | k10_2
            · have hm := cond_t k10_2 hm
              refine ag ⟨_, _, rfl, rfl, k10_2⟩ (y_move rfl) ?_
              have h10_3 := TunnelPart.at_Heat hb5_5
              refine ag ⟨_, _, rfl, rfl, k10_2⟩ (y_fieldAddr fo64_0 rfl) ?_
              obtain ⟨x10_4, q10_4, hm⟩ := bind_some hm
              have h10_4 := PAt.arrZ 1 rfl h10_3 q10_4
              have k10_4 := PAt.arrIn h10_3 q10_4
              refine ag ⟨_, _, rfl, rfl, k10_2⟩ (y_index_arrp Tryd.underlying62 ty3 rfl rfl k10_4) ?_
              refine ag ⟨_, _, rfl, rfl, k10_2⟩ (y_load_int ty3 rfl (fun _ h => h.sub) rfl h10_4) ?_
              obtain ⟨x10_6, q10_6, hm⟩ := bind_some hm
              refine a_cons (e_callV (all := [.int .i64 x10_4, .int .i64 0, .int .i64 20]) (v := .bool x10_6) ⟨_, _, rfl, rfl, k10_2⟩ rfl Tryd.func50 rfl rfl rfl rfl rfl (fun w hw => ok_50 hw q10_6) ?_)
              refine ap (y_pick_t rfl k10_2 rfl) ?_
              refine ap (y_assign rfl) ?_
              refine a_nil ?_
              refine a_en [(1, .pointer (some ⟨b0_0, 0, none⟩)), (3, .bool x10_6), (4, .int .i64 yj3_4), (5, .pointer (some ⟨b5_5, 0, none⟩)), (6, .int .i64 yj8_6), (59, .int .i64 yj8_6), (60, .pointer (some ⟨b5_5, 0 + 0, none⟩)), (61, .pointer (some ⟨b5_5, 0 + 0 + (yj8_6).toNat * 1, none⟩)), (62, .int .i64 x10_4), (63, .bool x10_6)] ?_
              refine a_cut ?_
              intro a_ w_ ha_ hs_
              exact ⟨x10_6, Option.some.inj hm, ha_.weaken ⟨rfl, rfl, rfl, rfl, rfl, trivial⟩, hs_.reix [] (by decide)⟩
            have hm := cond_f k10_2 hm
            refine as1 (sk1 rfl rfl k10_2) ?_
            refine as1 (sk1 rfl rfl k10_2) ?_
            refine as1 (sk1 rfl rfl k10_2) ?_
            refine as1 (sk1 rfl rfl k10_2) ?_
            refine as1 (sk1 rfl rfl k10_2) ?_
            refine ap (y_pick_f rfl k10_2 rfl) ?_
            refine ap (y_assign rfl) ?_
            refine a_nil ?_
            refine a_en [(1, .pointer (some ⟨b0_0, 0, none⟩)), (3, .bool false), (4, .int .i64 yj3_4), (5, .pointer (some ⟨b5_5, 0, none⟩)), (6, .int .i64 yj8_6), (59, undef), (60, undef), (61, undef), (62, undef), (63, undef)] ?_
            refine a_cut ?_
            intro a_ w_ ha_ hs_
            exact ⟨false, Option.some.inj hm, ha_.weaken ⟨rfl, rfl, rfl, rfl, rfl, trivial⟩, hs_.reix [] (by decide)⟩
          have hm := hm_j10
          rintro a_ w_ ⟨yj10_3, rfl, ha_, hs_⟩
          try dsimp only at hm
          refine a_start ha_ hs_ ?_
          refine a_block_normal ?_
          refine a_then ?_
          refine a_region rfl ?_
          refine ap (y_move rfl) ?_
          refine ap (y_add rfl rfl) ?_
          refine ap (y_assign rfl) ?_
          refine a_nil ?_
          refine a_en [(1, .pointer (some ⟨b0_0, 0, none⟩)), (3, .bool yj10_3), (4, .int .i64 yj3_4), (5, .pointer (some ⟨b5_5, 0, none⟩)), (6, .int .i64 (IntKind.i64.wrap (yj8_6 + 1)))] ?_
          refine a_then ?_
          intro a_ w_ ha_ hs_
          exact ⟨n_j8, Nat.lt_succ_self _, yj10_3, IntKind.i64.wrap (yj8_6 + 1), hm, ha_.weaken ⟨rfl, rfl, rfl, rfl, rfl, trivial⟩, hs_.reix [] (by decide)⟩
        have hm := cond_f k_9 hm
        refine a_exit ?_
        refine a_then_exit ?_
        refine a_then_exit ?_
        refine a_block_hit ?_
        refine a_cut ?_
        intro a_ w_ ha_ hs_
        exact ⟨yj8_3, Option.some.inj hm, ha_.weaken ⟨rfl, rfl, rfl, trivial⟩, hs_.reix [] (by decide)⟩
      have hm := hm_j7
      rintro a_ w_ ⟨yj7_3, rfl, ha_, hs_⟩
      try dsimp only at hm
      refine a_start ha_ hs_ ?_
      refine a_block_normal ?_
      refine a_then ?_
      refine a_region rfl ?_
      refine ap (y_move rfl) ?_
      refine ap (y_add rfl rfl) ?_
      refine ap (y_assign rfl) ?_
      refine a_nil ?_
      refine a_en [(1, .pointer (some ⟨b0_0, 0, none⟩)), (3, .bool yj7_3), (4, .int .i64 (IntKind.i64.wrap (yj3_4 + 1)))] ?_
      refine a_then ?_
      intro a_ w_ ha_ hs_
      exact ⟨n_j3, Nat.lt_succ_self _, Hb5_5, (lj3.trans lb5_5), yj7_3, IntKind.i64.wrap (yj3_4 + 1), hm, ha_.weaken ⟨rfl, rfl, rfl, trivial⟩, hs_.reix [] (by decide)⟩
    have hm := cond_f k_5 hm
    refine a_exit ?_
    refine a_then_exit ?_
    refine a_then_exit ?_
    refine a_block_hit ?_
    refine a_cut ?_
    intro a_ w_ ha_ hs_
    exact ⟨Hj3, lj3, yj3_3, Option.some.inj hm, ha_.weaken ⟨rfl, rfl, trivial⟩, hs_.reix [] (by decide)⟩
  have hm := hm_j2
  rintro a_ w_ ⟨Hj2, lj2, yj2_3, rfl, ha_, hs_⟩
  try dsimp only at hm
  refine a_start ha_ hs_ ?_
  have hb0_0 := PAt.mono lj2 hb0_0
  refine a_then ?_
  refine a_seq ?_
  refine a_seq ?_
  refine a_region rfl ?_
  refine ap (y_assign rfl) ?_
  refine a_nil ?_
  refine a_then ?_
  obtain ⟨s_j11, hs_j11, hm_j11⟩ := bind_some hm
  refine a_join (fun a_ w_ => ∃ (Hj11 : Hp), ∃ (_ : HLe Hj2 Hj11), ∃ (yj11_3 : Bool), yj11_3 = s_j11 ∧ Ag 109 [] [(3, .bool yj11_3)] a_ ∧ St (Kp.mk w H noX) Hj11 [] w_) ?_ ?_
  · have hm := hs_j11
    refine a_block ?_
    refine a_loop (fun n_j12 a_ w_ => ∃ (Hj12 : Hp), ∃ (_ : HLe Hj2 Hj12), ∃ (yj12_3 : Bool), ∃ (yj12_7 : Int), law03_sound_lj12 k p0 n_j12 yj12_3 yj12_7 = some s_j11 ∧ Ag 109 [] [(1, .pointer (some ⟨b0_0, 0, none⟩)), (3, .bool yj12_3), (7, .int .i64 yj12_7)] a_ ∧ St (Kp.mk w H noX) Hj12 [] w_) k ?_ ?_
    · intro a_ w_ ha_ hs_
      exact ⟨Hj2, (HLe.refl _), yj2_3, 0, hm, ha_.weaken ⟨rfl, rfl, rfl, trivial⟩, hs_.reix [] (by decide)⟩
    rintro (_ | n_j12) a_ w_ ⟨Hj12, lj12, yj12_3, yj12_7, hm, ha_, hs_⟩
    · rw [law03_sound_lj12.eq_1] at hm; cases hm
    rw [law03_sound_lj12.eq_2] at hm
    refine a_start ha_ hs_ ?_
    have hb0_0 := PAt.mono lj12 hb0_0
    refine a_seq ?_
    refine a_seq ?_
    obtain ⟨s_j13, hs_j13, hm_j13⟩ := bind_some hm
    refine a_join (fun a_ w_ => ∃ (yj13_72 : Bool), yj13_72 = s_j13 ∧ Ag 109 [] [(1, .pointer (some ⟨b0_0, 0, none⟩)), (3, .bool yj12_3), (7, .int .i64 yj12_7), (72, .bool yj13_72)] a_ ∧ St (Kp.mk w H noX) Hj12 [] w_) ?_ ?_
    · have hm := hs_j13
      refine a_region rfl ?_
      refine ap (y_move rfl) ?_
      refine ap (y_move rfl) ?_
      rcases Bool.eq_false_or_eq_true (yj12_3) with k12_2 | k12_2
      · have hm := cond_t k12_2 hm
        refine ag ⟨_, _, rfl, rfl, k12_2⟩ (y_move rfl) ?_
        have h12_3 := TunnelBook.at_Frames hb0_0
        refine ag ⟨_, _, rfl, rfl, k12_2⟩ (y_fieldAddr fo25_1 rfl) ?_
        obtain ⟨v12_4, h12_4, c12_4⟩ := PAt.sl h12_3
        refine ag ⟨_, _, rfl, rfl, k12_2⟩ (y_load_one ty23 rfl (fun _ h => h.sub) rfl c12_4) ?_
        refine ag ⟨_, _, rfl, rfl, k12_2⟩ (y_len_sl Tryd.underlying23 rfl h12_4) ?_
        refine ag ⟨_, _, rfl, rfl, k12_2⟩ (y_lss rfl rfl) ?_
        refine ap (y_pick_t rfl k12_2 rfl) ?_
        refine a_nil ?_
        refine a_en [(1, .pointer (some ⟨b0_0, 0, none⟩)), (3, .bool yj12_3), (7, .int .i64 yj12_7), (67, .int .i64 yj12_7), (68, .pointer (some ⟨b0_0, 0 + 1, none⟩)), (69, v12_4), (70, .int .i64 (p0.Frames.length : Int)), (71, .bool (decide (yj12_7 < (p0.Frames.length : Int)))), (72, .bool (decide (yj12_7 < (p0.Frames.length : Int))))] ?_
        refine a_cut ?_
        intro a_ w_ ha_ hs_
        exact ⟨decide (yj12_7 < (p0.Frames.length : Int)), Option.some.inj hm, ha_.weaken ⟨rfl, rfl, rfl, rfl, trivial⟩, hs_.reix [] (by decide)⟩
      have hm := cond_f k12_2 hm
      refine as1 (sk1 rfl rfl k12_2) ?_
      refine as1 (sk1 rfl rfl k12_2) ?_
      refine as1 (sk1 rfl rfl k12_2) ?_
      refine as1 (sk1 rfl rfl k12_2) ?_
      refine as1 (sk1 rfl rfl k12_2) ?_
      refine ap (y_pick_f rfl k12_2 rfl) ?_
      refine a_nil ?_
      refine a_en [(1, .pointer (some ⟨b0_0, 0, none⟩)), (3, .bool yj12_3), (7, .int .i64 yj12_7), (67, undef), (68, undef), (69, undef), (70, undef), (71, undef), (72, .bool false)] ?_
      refine a_cut ?_
      intro a_ w_ ha_ hs_
      exact ⟨false, Option.some.inj hm, ha_.weaken ⟨rfl, rfl, rfl, rfl, trivial⟩, hs_.reix [] (by decide)⟩
    have hm := hm_j13
    rintro a_ w_ ⟨yj13_72, rfl, ha_, hs_⟩
    try dsimp only at hm
    refine a_start ha_ hs_ ?_
    refine a_then ?_
    refine a_cond rfl (fun k_14 => ?_) (fun k_14 => ?_)
    · have hm := cond_t k_14 hm
      refine a_skip ?_
      refine a_then ?_
      refine a_seq ?_
      refine a_block ?_
      refine a_seq ?_
      refine a_region rfl ?_
      have h14_0 := TunnelBook.at_Frames hb0_0
      refine ap (y_fieldAddr fo25_1 rfl) ?_
      obtain ⟨v14_1, h14_1, c14_1⟩ := PAt.sl h14_0
      refine ap (y_load_one ty23 rfl (fun _ h => h.sub) rfl c14_1) ?_
      refine ap (y_move rfl) ?_
      obtain ⟨x14_3, q14_3, hm⟩ := bind_some hm
      obtain ⟨b14_3, o14_3, c14_3, e14_3, h14_3⟩ := Sl.elemZ 3 rfl h14_1 q14_3
      refine ap (y_index Tryd.underlying23 ty55 rfl e14_3 rfl (nth_in q14_3)) ?_
      obtain ⟨u14_4, h14_4, c14_4⟩ := PAt.one h14_3
      refine ap (y_load_cells ty55 rfl (fun _ h => h.sub) rfl c14_4 (Rp.len h14_4)) ?_
      refine a_cons (e_alloc (cs := [.slice none 0 0, .int .i64 0, .int .i64 0]) trivial rfl ty55 rfl ?_)
      intro b14_5
      refine a_cons (e_storeWhole (i := 0) (ds := u14_4) trivial ty55 rfl rfl rfl rfl (Rp.len h14_4) ((Rp.one h14_4)) rfl ?_)
      refine a_nil ?_
      refine a_freeze (α := TunnelFrame) (x := x14_3) (i := 0) rfl h14_4 ?_
      intro Hb14_5 lb14_5 hb14_5
      have hb0_0 := PAt.mono lb14_5 hb0_0
      have h14_0 := PAt.mono lb14_5 h14_0
      have h14_1 := Sl.mono lb14_5 h14_1
      have h14_3 := PAt.mono lb14_5 h14_3
      have h14_4 := Rp.mono lb14_5 h14_4
      refine a_en [(1, .pointer (some ⟨b0_0, 0, none⟩)), (7, .int .i64 yj12_7), (8, .pointer (some ⟨b14_5, 0, none⟩))] ?_
      refine a_own [] (by decide) (L' := []) rfl ?_
      refine a_then ?_
      refine a_seq ?_
      obtain ⟨s_j15, hs_j15, hm_j15⟩ := bind_some hm
      refine a_join (fun a_ w_ => ∃ (yj15_3 : Bool), yj15_3 = s_j15 ∧ Ag 109 [] [(1, .pointer (some ⟨b0_0, 0, none⟩)), (3, .bool yj15_3), (7, .int .i64 yj12_7), (8, .pointer (some ⟨b14_5, 0, none⟩))] a_ ∧ St (Kp.mk w H noX) Hb14_5 [] w_) ?_ ?_
      · have hm := hs_j15
        refine a_region rfl ?_
        have h15_0 := TunnelFrame.at_Stay hb14_5
        refine ap (y_fieldAddr fo55_0 rfl) ?_
        obtain ⟨v15_1, h15_1, c15_1⟩ := PAt.sl h15_0
        refine ap (y_load_one ty26 rfl (fun _ h => h.sub) rfl c15_1) ?_
        refine ap (y_len_sl Tryd.underlying26 rfl h15_1) ?_
        have h15_3 := TunnelBook.at_Parts hb0_0
        refine ap (y_fieldAddr fo25_0 rfl) ?_
        obtain ⟨v15_4, h15_4, c15_4⟩ := PAt.sl h15_3
        refine ap (y_load_one ty22 rfl (fun _ h => h.sub) rfl c15_4) ?_
        refine ap (y_len_sl Tryd.underlying22 rfl h15_4) ?_
        refine ap (y_eql rfl rfl) ?_
        refine ap (y_move rfl) ?_
        rcases Bool.eq_false_or_eq_true ((x14_3.Stay.length : Int) == (p0.Parts.length : Int)) with k15_8 | k15_8
        · have hm := cond_t k15_8 hm
          have h15_8 := TunnelFrame.at_Need hb14_5
          refine ag ⟨_, _, rfl, rfl, k15_8⟩ (y_fieldAddr fo55_1 rfl) ?_
          obtain ⟨u15_9, h15_9, c15_9⟩ := PAt.one h15_8
          refine ag ⟨_, _, rfl, rfl, k15_8⟩ (y_load_cells ty32 rfl (fun _ h => h.sub) rfl c15_9 (Rp.len h15_9)) ?_
          obtain ⟨x15_10, q15_10, hm⟩ := bind_some hm
          refine a_cons (e_callV (all := [.agg u15_9.toArray, .int .i64 0, .int .i64 999]) (v := .bool x15_10) ⟨_, _, rfl, rfl, k15_8⟩ rfl Tryd.func87 rfl rfl rfl rfl rfl (fun w hw => ok_87 hw h15_9 q15_10) ?_)
          refine ap (y_pick_t rfl k15_8 rfl) ?_
          refine ap (y_assign rfl) ?_
          refine a_nil ?_
          refine a_en [(1, .pointer (some ⟨b0_0, 0, none⟩)), (3, .bool x15_10), (7, .int .i64 yj12_7), (8, .pointer (some ⟨b14_5, 0, none⟩)), (88, .pointer (some ⟨b14_5, 0 + 1, none⟩)), (89, .agg u15_9.toArray), (90, .bool x15_10)] ?_
          refine a_cut ?_
          intro a_ w_ ha_ hs_
          exact ⟨x15_10, Option.some.inj hm, ha_.weaken ⟨rfl, rfl, rfl, rfl, trivial⟩, hs_.reix [] (by decide)⟩
        have hm := cond_f k15_8 hm
        refine as1 (sk1 rfl rfl k15_8) ?_
        refine as1 (sk1 rfl rfl k15_8) ?_
        refine as1 (sk1 rfl rfl k15_8) ?_
        refine ap (y_pick_f rfl k15_8 rfl) ?_
        refine ap (y_assign rfl) ?_
        refine a_nil ?_
        refine a_en [(1, .pointer (some ⟨b0_0, 0, none⟩)), (3, .bool false), (7, .int .i64 yj12_7), (8, .pointer (some ⟨b14_5, 0, none⟩)), (88, undef), (89, undef), (90, undef)] ?_
        refine a_cut ?_
        intro a_ w_ ha_ hs_
        exact ⟨false, Option.some.inj hm, ha_.weaken ⟨rfl, rfl, rfl, rfl, trivial⟩, hs_.reix [] (by decide)⟩
      have hm := hm_j15
      rintro a_ w_ ⟨yj15_3, rfl, ha_, hs_⟩
      try dsimp only at hm
      refine a_start ha_ hs_ ?_
      refine a_then ?_
      refine a_seq ?_
      refine a_region rfl ?_
      refine ap (y_assign rfl) ?_
      refine a_nil ?_
      refine a_then ?_
      obtain ⟨s_j16, hs_j16, hm_j16⟩ := bind_some hm
      refine a_join (fun a_ w_ => ∃ (yj16_3 : Bool), yj16_3 = s_j16 ∧ Ag 109 [] [(1, .pointer (some ⟨b0_0, 0, none⟩)), (3, .bool yj16_3), (7, .int .i64 yj12_7)] a_ ∧ St (Kp.mk w H noX) Hb14_5 [] w_) ?_ ?_
      · have hm := hs_j16
        refine a_block ?_
        refine a_loop (fun n_j17 a_ w_ => ∃ (yj17_3 : Bool), ∃ (yj17_9 : Int), law03_sound_lj17 k x14_3 n_j17 yj17_3 yj17_9 = some s_j16 ∧ Ag 109 [] [(1, .pointer (some ⟨b0_0, 0, none⟩)), (3, .bool yj17_3), (7, .int .i64 yj12_7), (8, .pointer (some ⟨b14_5, 0, none⟩)), (9, .int .i64 yj17_9)] a_ ∧ St (Kp.mk w H noX) Hb14_5 [] w_) k ?_ ?_
        · intro a_ w_ ha_ hs_
          exact ⟨yj15_3, 0, hm, ha_.weaken ⟨rfl, rfl, rfl, rfl, rfl, trivial⟩, hs_.reix [] (by decide)⟩
        rintro (_ | n_j17) a_ w_ ⟨yj17_3, yj17_9, hm, ha_, hs_⟩
        · rw [law03_sound_lj17.eq_1] at hm; cases hm
        rw [law03_sound_lj17.eq_2] at hm
        refine a_start ha_ hs_ ?_
        refine a_seq ?_
        refine a_seq ?_
        obtain ⟨s_j18, hs_j18, hm_j18⟩ := bind_some hm
        refine a_join (fun a_ w_ => ∃ (yj18_99 : Bool), yj18_99 = s_j18 ∧ Ag 109 [] [(1, .pointer (some ⟨b0_0, 0, none⟩)), (3, .bool yj17_3), (7, .int .i64 yj12_7), (8, .pointer (some ⟨b14_5, 0, none⟩)), (9, .int .i64 yj17_9), (99, .bool yj18_99)] a_ ∧ St (Kp.mk w H noX) Hb14_5 [] w_) ?_ ?_
        · have hm := hs_j18
          refine a_region rfl ?_
          refine ap (y_move rfl) ?_
          refine ap (y_move rfl) ?_
          rcases Bool.eq_false_or_eq_true (yj17_3) with k17_2 | k17_2
          · have hm := cond_t k17_2 hm
            refine ag ⟨_, _, rfl, rfl, k17_2⟩ (y_move rfl) ?_
            have h17_3 := TunnelFrame.at_Stay hb14_5
            refine ag ⟨_, _, rfl, rfl, k17_2⟩ (y_fieldAddr fo55_0 rfl) ?_
            obtain ⟨v17_4, h17_4, c17_4⟩ := PAt.sl h17_3
            refine ag ⟨_, _, rfl, rfl, k17_2⟩ (y_load_one ty26 rfl (fun _ h => h.sub) rfl c17_4) ?_
            refine ag ⟨_, _, rfl, rfl, k17_2⟩ (y_len_sl Tryd.underlying26 rfl h17_4) ?_
            refine ag ⟨_, _, rfl, rfl, k17_2⟩ (y_lss rfl rfl) ?_
            refine ap (y_pick_t rfl k17_2 rfl) ?_
            refine a_nil ?_
            refine a_en [(1, .pointer (some ⟨b0_0, 0, none⟩)), (3, .bool yj17_3), (7, .int .i64 yj12_7), (8, .pointer (some ⟨b14_5, 0, none⟩)), (9, .int .i64 yj17_9), (94, .int .i64 yj17_9), (95, .pointer (some ⟨b14_5, 0 + 0, none⟩)), (96, v17_4), (97, .int .i64 (x14_3.Stay.length : Int)), (98, .bool (decide (yj17_9 < (x14_3.Stay.length : Int)))), (99, .bool (decide (yj17_9 < (x14_3.Stay.length : Int))))] ?_
            refine a_cut ?_
            intro a_ w_ ha_ hs_
            exact ⟨decide (yj17_9 < (x14_3.Stay.length : Int)), Option.some.inj hm, ha_.weaken ⟨rfl, rfl, rfl, rfl, rfl, rfl, trivial⟩, hs_.reix [] (by decide)⟩
          have hm := cond_f k17_2 hm
          refine as1 (sk1 rfl rfl k17_2) ?_
          refine as1 (sk1 rfl rfl k17_2) ?_
          refine as1 (sk1 rfl rfl k17_2) ?_
          refine as1 (sk1 rfl rfl k17_2) ?_
          refine as1 (sk1 rfl rfl k17_2) ?_
          refine ap (y_pick_f rfl k17_2 rfl) ?_
          refine a_nil ?_
          refine a_en [(1, .pointer (some ⟨b0_0, 0, none⟩)), (3, .bool yj17_3), (7, .int .i64 yj12_7), (8, .pointer (some ⟨b14_5, 0, none⟩)), (9, .int .i64 yj17_9), (94, undef), (95, undef), (96, undef), (97, undef), (98, undef), (99, .bool false)] ?_
          refine a_cut ?_
          intro a_ w_ ha_ hs_
          exact ⟨false, Option.some.inj hm, ha_.weaken ⟨rfl, rfl, rfl, rfl, rfl, rfl, trivial⟩, hs_.reix [] (by decide)⟩
        have hm := hm_j18
        rintro a_ w_ ⟨yj18_99, rfl, ha_, hs_⟩
        try dsimp only at hm
        refine a_start ha_ hs_ ?_
        refine a_then ?_
        refine a_cond rfl (fun k_19 => ?_) (fun k_19 => ?_)
        · have hm := cond_t k_19 hm
          refine a_skip ?_
          refine a_then ?_
          refine a_seq ?_
          refine a_block ?_
          refine a_region rfl ?_
          have h19_0 := TunnelFrame.at_Stay hb14_5
          refine ap (y_fieldAddr fo55_0 rfl) ?_
          obtain ⟨v19_1, h19_1, c19_1⟩ := PAt.sl h19_0
          refine ap (y_load_one ty26 rfl (fun _ h => h.sub) rfl c19_1) ?_
          refine ap (y_move rfl) ?_
          obtain ⟨x19_3, q19_3, hm⟩ := bind_some hm
          obtain ⟨b19_3, o19_3, c19_3, e19_3, h19_3⟩ := Sl.elemZ 1 rfl h19_1 q19_3
          refine ap (y_index Tryd.underlying26 ty3 rfl e19_3 rfl (nth_in q19_3)) ?_
          refine ap (y_load_int ty3 rfl (fun _ h => h.sub) rfl h19_3) ?_
          obtain ⟨x19_5, q19_5, hm⟩ := bind_some hm
          refine a_cons (e_callV (all := [.int .i64 x19_3, .int .i64 0, .int .i64 20]) (v := .bool x19_5) trivial rfl Tryd.func50 rfl rfl rfl rfl rfl (fun w hw => ok_50 hw q19_5) ?_)
          refine ap (y_assign rfl) ?_
          refine a_nil ?_
          refine a_en [(1, .pointer (some ⟨b0_0, 0, none⟩)), (3, .bool x19_5), (7, .int .i64 yj12_7), (8, .pointer (some ⟨b14_5, 0, none⟩)), (9, .int .i64 yj17_9)] ?_
          refine a_block_normal ?_
          refine a_then ?_
          refine a_region rfl ?_
          refine ap (y_move rfl) ?_
          refine ap (y_add rfl rfl) ?_
          refine ap (y_assign rfl) ?_
          refine a_nil ?_
          refine a_en [(1, .pointer (some ⟨b0_0, 0, none⟩)), (3, .bool x19_5), (7, .int .i64 yj12_7), (8, .pointer (some ⟨b14_5, 0, none⟩)), (9, .int .i64 (IntKind.i64.wrap (yj17_9 + 1)))] ?_
          refine a_then ?_
          intro a_ w_ ha_ hs_
          exact ⟨n_j17, Nat.lt_succ_self _, x19_5, IntKind.i64.wrap (yj17_9 + 1), hm, ha_.weaken ⟨rfl, rfl, rfl, rfl, rfl, trivial⟩, hs_.reix [] (by decide)⟩
        have hm := cond_f k_19 hm
        refine a_exit ?_
        refine a_then_exit ?_
        refine a_then_exit ?_
        refine a_block_hit ?_
        refine a_cut ?_
        intro a_ w_ ha_ hs_
        exact ⟨yj17_3, Option.some.inj hm, ha_.weaken ⟨rfl, rfl, rfl, trivial⟩, hs_.reix [] (by decide)⟩
      have hm := hm_j16
      rintro a_ w_ ⟨yj16_3, rfl, ha_, hs_⟩
      try dsimp only at hm
      refine a_start ha_ hs_ ?_
      refine a_block_normal ?_
      refine a_then ?_
      refine a_region rfl ?_
      refine ap (y_move rfl) ?_
      refine ap (y_add rfl rfl) ?_
      refine ap (y_assign rfl) ?_
      refine a_nil ?_
      refine a_en [(1, .pointer (some ⟨b0_0, 0, none⟩)), (3, .bool yj16_3), (7, .int .i64 (IntKind.i64.wrap (yj12_7 + 1)))] ?_
      refine a_then ?_
      intro a_ w_ ha_ hs_
      exact ⟨n_j12, Nat.lt_succ_self _, Hb14_5, (lj12.trans lb14_5), yj16_3, IntKind.i64.wrap (yj12_7 + 1), hm, ha_.weaken ⟨rfl, rfl, rfl, trivial⟩, hs_.reix [] (by decide)⟩
    have hm := cond_f k_14 hm
    refine a_exit ?_
    refine a_then_exit ?_
    refine a_then_exit ?_
    refine a_block_hit ?_
    refine a_cut ?_
    intro a_ w_ ha_ hs_
    exact ⟨Hj12, lj12, yj12_3, Option.some.inj hm, ha_.weaken ⟨rfl, trivial⟩, hs_.reix [] (by decide)⟩
  have hm := hm_j11
  rintro a_ w_ ⟨Hj11, lj11, yj11_3, rfl, ha_, hs_⟩
  try dsimp only at hm
  refine a_start ha_ hs_ ?_
  refine a_then ?_
  refine a_seq ?_
  refine a_region rfl ?_
  refine ap (y_move rfl) ?_
  refine ap (y_assign rfl) ?_
  refine a_nil ?_
  refine a_en [(2, .bool yj11_3)] ?_
  refine a_then ?_
  refine a_ret ?_
  refine a_done (v := .bool yj11_3) (.inl rfl) rfl ?_ ?_
  · intro a_ w_ ha_ hs_; exact run_results (P := Tryd.prog) (fn := Tryd.f43) (rs := [.tmp 2]) (vs := [.bool yj11_3]) rfl (.cons (rv_tmp ha_ rfl) (All2.nil))
  · intro _ _; obtain rfl := Option.some.inj hm
    rfl

def ref00_Only (k : Nat) (p0 : Int) : Option Span :=
 (ref00_Sp k p0 p0).bind fun x1_2 =>
 some (x1_2)
theorem ok_51 {k : Nat} {H : Hp} {w : World} {p0 : Int} {r : Span} (hsub : Sub H w)  (hm : ref00_Only k p0 = some r) : Calls Tryd.prog 51 [.int .i64 p0].toArray w (PostV w H (.agg r.cells.toArray)) := by
  unfold ref00_Only at hm
  refine start (n := 6) (E := [(0, .int .i64 p0)]) Tryd.func51 rfl rfl ⟨rfl, trivial⟩ rfl hsub ?_
  refine a_seq ?_
  refine a_region rfl ?_
  refine a_cons (e_alloc (cs := [.int .i64 0, .int .i64 0]) trivial rfl ty32 rfl ?_)
  intro b0_0
  refine a_nil ?_
  refine a_then ?_
  refine a_seq ?_
  refine a_region rfl ?_
  refine ap (y_move rfl) ?_
  refine ap (y_move rfl) ?_
  obtain ⟨x1_2, q1_2, hm⟩ := bind_some hm
  refine a_cons (e_callV (all := [.int .i64 p0, .int .i64 p0]) (v := .agg x1_2.cells.toArray) trivial rfl Tryd.func53 rfl rfl rfl rfl rfl (fun w hw => ok_53 hw q1_2) ?_)
  refine a_cons (e_storeWhole (i := 0) (ds := x1_2.cells) trivial ty32 rfl rfl rfl rfl rfl ((Rp.one (Span.rep_mk (fun _ => none) x1_2))) rfl ?_)
  refine a_nil ?_
  refine a_freeze (α := Span) (x := x1_2) (i := 0) rfl (Span.rep_mk _ x1_2) ?_
  intro Hb0_0 lb0_0 hb0_0
  refine a_en [(2, .pointer (some ⟨b0_0, 0, none⟩))] ?_
  refine a_own [] (by decide) (L' := []) rfl ?_
  refine a_then ?_
  refine a_ret ?_
  obtain ⟨ce2, re2, le2⟩ := PAt.one hb0_0
  refine a_done (v := .agg ce2.toArray) (.inl rfl) rfl ?_ ?_
  · intro a_ w_ ha_ hs_; exact run_results (P := Tryd.prog) (fn := Tryd.f51) (rs := [.cell 2 32]) (vs := [.agg ce2.toArray]) rfl (.cons (rv_cell ha_ rfl (run_loadVar_agg ty32 rfl (le2 _ hs_.sub) (Rp.len re2))) (All2.nil))
  · intro _ _; obtain rfl := Option.some.inj hm
    rw [Span.rep_eq re2]

def ref00_Spin (k : Nat) (p0 : Int) (p1 : Int) : Option Int :=
 bif decide (p1 < 1) then
 some (0)
 else
 (rem p0 p1).bind fun x3_2 =>
 bif decide (x3_2 < 0) then
 some ((IntKind.i64.wrap (x3_2 + p1)))
 else
 some (x3_2)
theorem ok_52 {k : Nat} {H : Hp} {w : World} {p0 : Int} {p1 : Int} {r : Int} (hsub : Sub H w)  (hm : ref00_Spin k p0 p1 = some r) : Calls Tryd.prog 52 [.int .i64 p0, .int .i64 p1].toArray w (PostV w H (.int .i64 r)) := by
  unfold ref00_Spin at hm
  refine start (n := 17) (E := [(0, .int .i64 p0), (1, .int .i64 p1)]) Tryd.func52 rfl rfl ⟨rfl, rfl, trivial⟩ rfl hsub ?_
  refine a_seq ?_
  refine a_region rfl ?_
  refine ap (y_assign rfl) ?_
  refine a_nil ?_
  refine a_en [(0, .int .i64 p0), (1, .int .i64 p1)] ?_
  refine a_then ?_
  refine a_seq ?_
  refine a_seq ?_
  refine a_region rfl ?_
  refine ap (y_move rfl) ?_
  refine ap (y_lss rfl rfl) ?_
  refine a_nil ?_
  refine a_en [(0, .int .i64 p0), (1, .int .i64 p1), (7, .bool (decide (p1 < 1)))] ?_
  refine a_then ?_
  refine a_cond rfl (fun k_1 => ?_) (fun k_1 => ?_)
  · have hm := cond_t k_1 hm
    refine a_seq ?_
    refine a_region rfl ?_
    refine ap (y_assign rfl) ?_
    refine a_nil ?_
    refine a_en [(4, .int .i64 0)] ?_
    refine a_then ?_
    refine a_ret ?_
    refine a_then_ret ?_
    refine a_done (v := .int .i64 0) (.inl rfl) rfl ?_ ?_
    · intro a_ w_ ha_ hs_; exact run_results (P := Tryd.prog) (fn := Tryd.f52) (rs := [.tmp 4]) (vs := [.int .i64 0]) rfl (.cons (rv_tmp ha_ rfl) (All2.nil))
    · intro _ _; obtain rfl := Option.some.inj hm
      rfl
  have hm := cond_f k_1 hm
  refine a_skip ?_
  refine a_then ?_
  refine a_seq ?_
  refine a_region rfl ?_
  refine ap (y_move rfl) ?_
  refine ap (y_move rfl) ?_
  obtain ⟨x3_2, q3_2, hm⟩ := bind_some hm
  refine ap (y_rem_some rfl rfl q3_2) ?_
  refine ap (y_assign rfl) ?_
  refine a_nil ?_
  refine a_en [(1, .int .i64 p1), (5, .int .i64 x3_2)] ?_
  refine a_then ?_
  refine a_seq ?_
  refine a_seq ?_
  refine a_region rfl ?_
  refine ap (y_move rfl) ?_
  refine ap (y_lss rfl rfl) ?_
  refine a_nil ?_
  refine a_en [(1, .int .i64 p1), (5, .int .i64 x3_2), (12, .bool (decide (x3_2 < 0)))] ?_
  refine a_then ?_
  refine a_cond rfl (fun k_2 => ?_) (fun k_2 => ?_)
  · have hm := cond_t k_2 hm
    refine a_region rfl ?_
    refine ap (y_move rfl) ?_
    refine ap (y_move rfl) ?_
    refine ap (y_add rfl rfl) ?_
    refine ap (y_assign rfl) ?_
    refine a_nil ?_
    refine a_en [(5, .int .i64 (IntKind.i64.wrap (x3_2 + p1)))] ?_
    refine a_then ?_
    refine a_seq ?_
    refine a_region rfl ?_
    refine ap (y_move rfl) ?_
    refine ap (y_assign rfl) ?_
    refine a_nil ?_
    refine a_en [(4, .int .i64 (IntKind.i64.wrap (x3_2 + p1)))] ?_
    refine a_then ?_
    refine a_ret ?_
    refine a_done (v := .int .i64 (IntKind.i64.wrap (x3_2 + p1))) (.inl rfl) rfl ?_ ?_
    · intro a_ w_ ha_ hs_; exact run_results (P := Tryd.prog) (fn := Tryd.f52) (rs := [.tmp 4]) (vs := [.int .i64 (IntKind.i64.wrap (x3_2 + p1))]) rfl (.cons (rv_tmp ha_ rfl) (All2.nil))
    · intro _ _; obtain rfl := Option.some.inj hm
      rfl
  have hm := cond_f k_2 hm
  refine a_skip ?_
  refine a_then ?_
  refine a_seq ?_
  refine a_region rfl ?_
  refine ap (y_move rfl) ?_
  refine ap (y_assign rfl) ?_
  refine a_nil ?_
  refine a_en [(4, .int .i64 x3_2)] ?_
  refine a_then ?_
  refine a_ret ?_
  refine a_done (v := .int .i64 x3_2) (.inl rfl) rfl ?_ ?_
  · intro a_ w_ ha_ hs_; exact run_results (P := Tryd.prog) (fn := Tryd.f52) (rs := [.tmp 4]) (vs := [.int .i64 x3_2]) rfl (.cons (rv_tmp ha_ rfl) (All2.nil))
  · intro _ _; obtain rfl := Option.some.inj hm
    rfl

def ref00_Item (k : Nat) (p0 : List Int) (p1 : Int) : Option Int :=
 bif (p0.length : Int) == 0 then
 some (0)
 else
 (ref00_Spin k p1 (p0.length : Int)).bind fun x3_4 =>
 (nth p0 x3_4).bind fun x3_5 =>
 some (x3_5)
theorem ok_57 {k : Nat} {H : Hp} {w : World} {p0 : List Int} {p1 : Int} {v0 : Value} {r : Int} (hsub : Sub H w) (h0 : Sl (α := Int) H v0 p0) (hm : ref00_Item k p0 p1 = some r) : Calls Tryd.prog 57 [v0, .int .i64 p1].toArray w (PostV w H (.int .i64 r)) := by
  unfold ref00_Item at hm
  refine start (n := 15) (E := [(0, v0), (1, .int .i64 p1)]) Tryd.func57 rfl rfl ⟨rfl, rfl, trivial⟩ rfl hsub ?_
  refine a_seq ?_
  refine a_region rfl ?_
  refine ap (y_assign rfl) ?_
  refine a_nil ?_
  refine a_en [(0, v0), (1, .int .i64 p1)] ?_
  refine a_then ?_
  refine a_seq ?_
  refine a_seq ?_
  refine a_region rfl ?_
  refine ap (y_move rfl) ?_
  refine ap (y_len_sl Tryd.underlying26 rfl h0) ?_
  refine ap (y_eql rfl rfl) ?_
  refine a_nil ?_
  refine a_en [(0, v0), (1, .int .i64 p1), (7, .bool ((p0.length : Int) == 0))] ?_
  refine a_then ?_
  refine a_cond rfl (fun k_1 => ?_) (fun k_1 => ?_)
  · have hm := cond_t k_1 hm
    refine a_seq ?_
    refine a_region rfl ?_
    refine ap (y_assign rfl) ?_
    refine a_nil ?_
    refine a_en [(4, .int .i64 0)] ?_
    refine a_then ?_
    refine a_ret ?_
    refine a_then_ret ?_
    refine a_done (v := .int .i64 0) (.inl rfl) rfl ?_ ?_
    · intro a_ w_ ha_ hs_; exact run_results (P := Tryd.prog) (fn := Tryd.f57) (rs := [.tmp 4]) (vs := [.int .i64 0]) rfl (.cons (rv_tmp ha_ rfl) (All2.nil))
    · intro _ _; obtain rfl := Option.some.inj hm
      rfl
  have hm := cond_f k_1 hm
  refine a_skip ?_
  refine a_then ?_
  refine a_seq ?_
  refine a_region rfl ?_
  refine ap (y_move rfl) ?_
  refine ap (y_move rfl) ?_
  refine ap (y_move rfl) ?_
  refine ap (y_len_sl Tryd.underlying26 rfl h0) ?_
  obtain ⟨x3_4, q3_4, hm⟩ := bind_some hm
  refine a_cons (e_callV (all := [.int .i64 p1, .int .i64 (p0.length : Int)]) (v := .int .i64 x3_4) trivial rfl Tryd.func52 rfl rfl rfl rfl rfl (fun w hw => ok_52 hw q3_4) ?_)
  obtain ⟨x3_5, q3_5, hm⟩ := bind_some hm
  obtain ⟨b3_5, o3_5, c3_5, e3_5, h3_5⟩ := Sl.elemZ 1 rfl h0 q3_5
  refine ap (y_index Tryd.underlying26 ty3 rfl e3_5 rfl (nth_in q3_5)) ?_
  refine ap (y_load_int ty3 rfl (fun _ h => h.sub) rfl h3_5) ?_
  refine ap (y_assign rfl) ?_
  refine a_nil ?_
  refine a_en [(4, .int .i64 x3_5)] ?_
  refine a_then ?_
  refine a_ret ?_
  refine a_done (v := .int .i64 x3_5) (.inl rfl) rfl ?_ ?_
  · intro a_ w_ ha_ hs_; exact run_results (P := Tryd.prog) (fn := Tryd.f57) (rs := [.tmp 4]) (vs := [.int .i64 x3_5]) rfl (.cons (rv_tmp ha_ rfl) (All2.nil))
  · intro _ _; obtain rfl := Option.some.inj hm
    rfl

def law03_setting_lj2 (k : Nat) (p0 : TunnelBook) (p1 : List Int) : Nat → (List Int) → Int → Option (List Int)
 | 0, _, _ => none
 | n_j2 + 1, yj2_5, yj2_6 =>
 bif decide (yj2_6 < (p0.Parts.length : Int)) then
 (ref00_Item k p1 yj2_6).bind fun x5_3 =>
 (ref00_Spin k x5_3 4).bind fun x5_4 =>
 (app yj2_5 [x5_4]).bind fun x5_6 =>
 law03_setting_lj2 k p0 p1 n_j2 x5_6 (IntKind.i64.wrap (yj2_6 + 1))
 else
 some (yj2_5)
def law03_setting (k : Nat) (p0 : TunnelBook) (p1 : List Int) : Option (List Int) :=
 (law03_setting_lj2 k p0 p1 k ([] : List Int) 0).bind fun yj1_5 =>
 some (yj1_5)
theorem ok_45 {k : Nat} {H : Hp} {w : World} {p0 : TunnelBook} {p1 : List Int} {c0 : List Value} {v1 : Value} {r : List Int} (hsub : Sub H w) (h0 : Rp.rep (α := TunnelBook) H c0 p0) (h1 : Sl (α := Int) H v1 p1) (hm : law03_setting k p0 p1 = some r) : Calls Tryd.prog 45 [.agg c0.toArray, v1].toArray w (PostH w H fun v H' => ∃ v0, v = v0 ∧ Sl (α := Int) H' v0 r) := by
  unfold law03_setting at hm
  refine start (n := 22) (E := [(0, .agg c0.toArray), (1, v1)]) Tryd.func45 rfl rfl ⟨rfl, rfl, trivial⟩ rfl hsub ?_
  refine a_seq ?_
  refine a_region rfl ?_
  refine a_cons (e_box (cs := c0) trivial rfl rfl rfl ?_)
  intro b0_0
  refine ap (y_assign rfl) ?_
  refine a_nil ?_
  refine a_freeze (α := TunnelBook) (x := p0) (i := 0) rfl h0 ?_
  intro Hb0_0 lb0_0 hb0_0
  have h0 := Rp.mono lb0_0 h0
  have h1 := Sl.mono lb0_0 h1
  refine a_en [(1, v1), (2, .pointer (some ⟨b0_0, 0, none⟩))] ?_
  refine a_own [] (by decide) (L' := []) rfl ?_
  refine a_then ?_
  refine a_seq ?_
  refine a_region rfl ?_
  refine ap (y_assign rfl) ?_
  refine a_nil ?_
  refine a_then ?_
  refine a_seq ?_
  refine a_seq ?_
  refine a_region rfl ?_
  refine ap (y_assign rfl) ?_
  refine a_nil ?_
  refine a_then ?_
  obtain ⟨s_j1, hs_j1, hm_j1⟩ := bind_some hm
  refine a_join (fun a_ w_ => ∃ (yj1_5 : List Int), ∃ (vj1_5 : Value), ∃ (uj1_5 : List Value), yj1_5 = s_j1 ∧ RepL (α := Int) Hb0_0 uj1_5 yj1_5 ∧ Ag 22 [] [(5, vj1_5)] a_ ∧ St (Kp.mk w H noX) Hb0_0 [.row vj1_5 uj1_5 3 1] w_) ?_ ?_
  · have hm := hs_j1
    refine a_block ?_
    refine a_loop (fun n_j2 a_ w_ => ∃ (yj2_5 : List Int), ∃ (yj2_6 : Int), ∃ (vj2_5 : Value), ∃ (uj2_5 : List Value), law03_setting_lj2 k p0 p1 n_j2 yj2_5 yj2_6 = some s_j1 ∧ RepL (α := Int) Hb0_0 uj2_5 yj2_5 ∧ Ag 22 [] [(1, v1), (2, .pointer (some ⟨b0_0, 0, none⟩)), (5, vj2_5), (6, .int .i64 yj2_6)] a_ ∧ St (Kp.mk w H noX) Hb0_0 [.row vj2_5 uj2_5 3 1] w_) k ?_ ?_
    · refine a_nilrow (x := none) (T := 3) (sz := 1) ?_
      have hzrj2_5 : RepL (α := Int) Hb0_0 [] [] := RepL.nil
      intro a_ w_ ha_ hs_
      exact ⟨([] : List Int), 0, .slice none 0 0, [], hm, hzrj2_5, ha_.weaken ⟨rfl, rfl, rfl, rfl, trivial⟩, hs_.reix [0] (by decide)⟩
    rintro (_ | n_j2) a_ w_ ⟨yj2_5, yj2_6, vj2_5, uj2_5, hm, hj2_5, ha_, hs_⟩
    · rw [law03_setting_lj2.eq_1] at hm; cases hm
    rw [law03_setting_lj2.eq_2] at hm
    refine a_start ha_ hs_ ?_
    refine a_seq ?_
    refine a_seq ?_
    refine a_region rfl ?_
    refine ap (y_move rfl) ?_
    have h3_1 := TunnelBook.at_Parts hb0_0
    refine ap (y_fieldAddr fo25_0 rfl) ?_
    obtain ⟨v3_2, h3_2, c3_2⟩ := PAt.sl h3_1
    refine ap (y_load_one ty22 rfl (fun _ h => h.sub) rfl c3_2) ?_
    refine ap (y_len_sl Tryd.underlying22 rfl h3_2) ?_
    refine ap (y_lss rfl rfl) ?_
    refine a_nil ?_
    refine a_en [(1, v1), (2, .pointer (some ⟨b0_0, 0, none⟩)), (5, vj2_5), (6, .int .i64 yj2_6), (11, .bool (decide (yj2_6 < (p0.Parts.length : Int))))] ?_
    refine a_then ?_
    refine a_cond rfl (fun k_3 => ?_) (fun k_3 => ?_)
    · have hm := cond_t k_3 hm
      refine a_skip ?_
      refine a_then ?_
      refine a_seq ?_
      refine a_block ?_
      refine a_region rfl ?_
      refine ap (y_move rfl) ?_
      refine ap (y_move rfl) ?_
      refine ap (y_move rfl) ?_
      obtain ⟨x5_3, q5_3, hm⟩ := bind_some hm
      refine a_cons (e_callV (all := [v1, .int .i64 yj2_6]) (v := .int .i64 x5_3) trivial rfl Tryd.func57 rfl rfl rfl rfl rfl (fun w hw => ok_57 hw h1 q5_3) ?_)
      obtain ⟨x5_4, q5_4, hm⟩ := bind_some hm
      refine a_cons (e_callV (all := [.int .i64 x5_3, .int .i64 4]) (v := .int .i64 x5_4) trivial rfl Tryd.func52 rfl rfl rfl rfl rfl (fun w hw => ok_52 hw q5_4) ?_)
      refine a_cons (e_buildSlice (xs := [.tmp 18]) (cs := [.int .i64 x5_4]) trivial rfl Tryd.underlying26 ty3 rfl rfl rfl (by simp [Value.cells]) rfl (rfl) ?_)
      intro v5_5
      have h5_5 : RepL (α := Int) Hb0_0 ([.int .i64 x5_4]) [x5_4] := (RepL.cons (α := Int) (c := [.int .i64 x5_4]) rfl (RepL.nil (α := Int)))
      obtain ⟨x5_6, q5_6, hm⟩ := bind_some hm
      refine a_cons (e_app_row (i := 1) (j := 0) trivial rfl Tryd.underlying26 Tryd.underlying26 ty3 rfl rfl rfl rfl rfl rfl rfl rfl hj2_5 rfl h5_5 q5_6 ?_)
      intro v5_6 u5_6 h5_6
      refine ap (y_assign rfl) ?_
      refine a_nil ?_
      refine a_en [(1, v1), (2, .pointer (some ⟨b0_0, 0, none⟩)), (5, v5_6), (6, .int .i64 yj2_6)] ?_
      refine a_own [1] (by decide) (L' := [.row v5_6 u5_6 3 1]) rfl ?_
      refine a_block_normal ?_
      refine a_then ?_
      refine a_region rfl ?_
      refine ap (y_move rfl) ?_
      refine ap (y_add rfl rfl) ?_
      refine ap (y_assign rfl) ?_
      refine a_nil ?_
      refine a_en [(1, v1), (2, .pointer (some ⟨b0_0, 0, none⟩)), (5, v5_6), (6, .int .i64 (IntKind.i64.wrap (yj2_6 + 1)))] ?_
      refine a_then ?_
      intro a_ w_ ha_ hs_
      exact ⟨n_j2, Nat.lt_succ_self _, x5_6, IntKind.i64.wrap (yj2_6 + 1), v5_6, u5_6, hm, h5_6, ha_.weaken ⟨rfl, rfl, rfl, rfl, trivial⟩, hs_.reix [0] (by decide)⟩
    have hm := cond_f k_3 hm
    refine a_exit ?_
    refine a_then_exit ?_
    refine a_then_exit ?_
    refine a_block_hit ?_
    refine a_cut ?_
    intro a_ w_ ha_ hs_
    exact ⟨yj2_5, vj2_5, uj2_5, Option.some.inj hm, hj2_5, ha_.weaken ⟨rfl, trivial⟩, hs_.reix [0] (by decide)⟩
  have hm := hm_j1
  rintro a_ w_ ⟨yj1_5, vj1_5, uj1_5, rfl, hj1_5, ha_, hs_⟩
  try dsimp only at hm
  refine a_start ha_ hs_ ?_
  refine a_then ?_
  refine a_seq ?_
  refine a_region rfl ?_
  refine ap (y_move rfl) ?_
  refine ap (y_assign rfl) ?_
  refine a_nil ?_
  refine a_en [(4, vj1_5)] ?_
  refine a_then ?_
  refine a_ret ?_
  refine a_frow (i := 0) rfl rfl hj1_5 rfl ?_
  intro Hef lef hef
  refine a_done (v := vj1_5) (.inl rfl) rfl ?_ ?_
  · intro a_ w_ ha_ hs_; exact run_results (P := Tryd.prog) (fn := Tryd.f45) (rs := [.tmp 4]) (vs := [vj1_5]) rfl (.cons (rv_tmp ha_ rfl) (All2.nil))
  · intro _ _; obtain rfl := Option.some.inj hm; exact ⟨vj1_5, rfl, hef⟩

def law03_dryness_lj5 (k : Nat) (p2 : TunnelFrame) (yj2_8 : Int) (x5_9 : Int) (x5_14 : TunnelPart) : Nat → Int → Int → Option Int
 | 0, _, _ => none
 | n_j5 + 1, yj5_7, yj5_10 =>
 (bif decide ((IntKind.i64.wrap (x5_9 - x5_14.Damp.Low)) > 0) then
 (nth p2.Stay yj2_8).bind fun x7_7 =>
 some ((decide (yj5_10 < x7_7)))
 else
 some (false)).bind fun yj6_46 =>
 bif yj6_46 then
 law03_dryness_lj5 k p2 yj2_8 x5_9 x5_14 n_j5 (IntKind.i64.wrap (yj5_7 + (IntKind.i64.wrap (x5_9 - x5_14.Damp.Low)))) (IntKind.i64.wrap (yj5_10 + 1))
 else
 some (yj5_7)
def law03_dryness_lj2 (k : Nat) (p0 : TunnelBook) (p1 : List Int) (p2 : TunnelFrame) : Nat → Int → Int → Option Int
 | 0, _, _ => none
 | n_j2 + 1, yj2_7, yj2_8 =>
 bif decide (yj2_8 < (p1.length : Int)) then
 (nth p1 yj2_8).bind fun x5_5 =>
 (nth p0.Parts yj2_8).bind fun x5_7 =>
 (nth x5_7.Heat x5_5).bind fun x5_9 =>
 (nth p0.Parts yj2_8).bind fun x5_14 =>
 (law03_dryness_lj5 k p2 yj2_8 x5_9 x5_14 k yj2_7 0).bind fun yj4_7 =>
 law03_dryness_lj2 k p0 p1 p2 n_j2 yj4_7 (IntKind.i64.wrap (yj2_8 + 1))
 else
 some (yj2_7)
def law03_dryness (k : Nat) (p0 : TunnelBook) (p1 : List Int) (p2 : TunnelFrame) : Option Int :=
 (law03_dryness_lj2 k p0 p1 p2 k 0 0).bind fun yj1_7 =>
 some (yj1_7)
theorem ok_47 {k : Nat} {H : Hp} {w : World} {p0 : TunnelBook} {p1 : List Int} {p2 : TunnelFrame} {c0 : List Value} {v1 : Value} {c2 : List Value} {r : Int} (hsub : Sub H w) (h0 : Rp.rep (α := TunnelBook) H c0 p0) (h1 : Sl (α := Int) H v1 p1) (h2 : Rp.rep (α := TunnelFrame) H c2 p2) (hm : law03_dryness k p0 p1 p2 = some r) : Calls Tryd.prog 47 [.agg c0.toArray, v1, .agg c2.toArray].toArray w (PostV w H (.int .i64 r)) := by
  unfold law03_dryness at hm
  refine start (n := 53) (E := [(0, .agg c0.toArray), (1, v1), (2, .agg c2.toArray)]) Tryd.func47 rfl rfl ⟨rfl, rfl, rfl, trivial⟩ rfl hsub ?_
  refine a_seq ?_
  refine a_region rfl ?_
  refine a_cons (e_box (cs := c0) trivial rfl rfl rfl ?_)
  intro b0_0
  refine a_cons (e_box (cs := c2) trivial rfl rfl rfl ?_)
  intro b0_1
  refine ap (y_assign rfl) ?_
  refine a_nil ?_
  refine a_freeze (α := TunnelFrame) (x := p2) (i := 0) rfl h2 ?_
  intro Hb0_1 lb0_1 hb0_1
  have h0 := Rp.mono lb0_1 h0
  have h1 := Sl.mono lb0_1 h1
  have h2 := Rp.mono lb0_1 h2
  refine a_freeze (α := TunnelBook) (x := p0) (i := 1) rfl h0 ?_
  intro Hb0_0 lb0_0 hb0_0
  have h0 := Rp.mono lb0_0 h0
  have h1 := Sl.mono lb0_0 h1
  have h2 := Rp.mono lb0_0 h2
  have hb0_1 := PAt.mono lb0_0 hb0_1
  refine a_en [(1, v1), (3, .pointer (some ⟨b0_0, 0, none⟩)), (5, .pointer (some ⟨b0_1, 0, none⟩))] ?_
  refine a_own [] (by decide) (L' := []) rfl ?_
  refine a_then ?_
  refine a_seq ?_
  refine a_region rfl ?_
  refine ap (y_assign rfl) ?_
  refine a_nil ?_
  refine a_then ?_
  refine a_seq ?_
  refine a_seq ?_
  refine a_region rfl ?_
  refine ap (y_assign rfl) ?_
  refine a_nil ?_
  refine a_then ?_
  obtain ⟨s_j1, hs_j1, hm_j1⟩ := bind_some hm
  refine a_join (fun a_ w_ => ∃ (yj1_7 : Int), yj1_7 = s_j1 ∧ Ag 53 [] [(7, .int .i64 yj1_7)] a_ ∧ St (Kp.mk w H noX) Hb0_0 [] w_) ?_ ?_
  · have hm := hs_j1
    refine a_block ?_
    refine a_loop (fun n_j2 a_ w_ => ∃ (yj2_7 : Int), ∃ (yj2_8 : Int), law03_dryness_lj2 k p0 p1 p2 n_j2 yj2_7 yj2_8 = some s_j1 ∧ Ag 53 [] [(1, v1), (3, .pointer (some ⟨b0_0, 0, none⟩)), (5, .pointer (some ⟨b0_1, 0, none⟩)), (7, .int .i64 yj2_7), (8, .int .i64 yj2_8)] a_ ∧ St (Kp.mk w H noX) Hb0_0 [] w_) k ?_ ?_
    · intro a_ w_ ha_ hs_
      exact ⟨0, 0, hm, ha_.weaken ⟨rfl, rfl, rfl, rfl, rfl, trivial⟩, hs_.reix [] (by decide)⟩
    rintro (_ | n_j2) a_ w_ ⟨yj2_7, yj2_8, hm, ha_, hs_⟩
    · rw [law03_dryness_lj2.eq_1] at hm; cases hm
    rw [law03_dryness_lj2.eq_2] at hm
    refine a_start ha_ hs_ ?_
    refine a_seq ?_
    refine a_seq ?_
    refine a_region rfl ?_
    refine ap (y_move rfl) ?_
    refine ap (y_move rfl) ?_
    refine ap (y_len_sl Tryd.underlying26 rfl h1) ?_
    refine ap (y_lss rfl rfl) ?_
    refine a_nil ?_
    refine a_en [(1, v1), (3, .pointer (some ⟨b0_0, 0, none⟩)), (5, .pointer (some ⟨b0_1, 0, none⟩)), (7, .int .i64 yj2_7), (8, .int .i64 yj2_8), (14, .bool (decide (yj2_8 < (p1.length : Int))))] ?_
    refine a_then ?_
    refine a_cond rfl (fun k_3 => ?_) (fun k_3 => ?_)
    · have hm := cond_t k_3 hm
      refine a_skip ?_
      refine a_then ?_
      refine a_seq ?_
      refine a_block ?_
      refine a_seq ?_
      obtain ⟨x5_5, q5_5, hm⟩ := bind_some hm
      obtain ⟨x5_7, q5_7, hm⟩ := bind_some hm
      obtain ⟨x5_9, q5_9, hm⟩ := bind_some hm
      obtain ⟨x5_14, q5_14, hm⟩ := bind_some hm
      refine d_region (S := Sw Hb0_0 []) (n := 20) (listed := (bits 20 0)) mixed (by kernel_rfl) rfl (by kernel_rfl) ?_
      have h5_0 := TunnelBook.at_Parts hb0_0
      refine dt 0 1 rfl trivial (y_fieldAddr fo25_0 rfl) (sw0 []) ?_
      obtain ⟨v5_1, h5_1, c5_1⟩ := PAt.sl h5_0
      refine dt 1 3 rfl trivial (y_load_one ty22 rfl (fun _ h => h.1) rfl c5_1) (sw0 []) ?_
      refine dt 2 7 rfl trivial (y_move rfl) (sw0 []) ?_
      refine dt 3 15 rfl trivial (y_move rfl) (sw0 []) ?_
      refine dt 4 31 rfl trivial (y_move rfl) (sw0 []) ?_
      obtain ⟨b5_5, o5_5, c5_5, e5_5, h5_5⟩ := Sl.elemZ 1 rfl h1 q5_5
      refine dt 5 63 rfl trivial (y_index Tryd.underlying26 ty3 rfl e5_5 rfl (nth_in q5_5)) (sw0 []) ?_
      refine dt 6 127 rfl trivial (y_load_int ty3 rfl (fun _ h => h.1) rfl h5_5) (sw0 []) ?_
      obtain ⟨b5_7, o5_7, c5_7, e5_7, h5_7⟩ := Sl.elemZ 6 rfl h5_1 q5_7
      refine dt 7 255 rfl trivial (y_index Tryd.underlying22 ty64 rfl e5_7 rfl (nth_in q5_7)) (sw0 []) ?_
      have h5_8 := TunnelPart.at_Heat h5_7
      refine dt 8 511 rfl trivial (y_fieldAddr fo64_0 rfl) (sw0 []) ?_
      have h5_9 := PAt.arrZ 1 rfl h5_8 q5_9
      have k5_9 := PAt.arrIn h5_8 q5_9
      refine dt 9 1023 rfl trivial (y_index_arrp Tryd.underlying62 ty3 rfl rfl k5_9) (sw0 []) ?_
      refine dt 10 2047 rfl trivial (y_load_int ty3 rfl (fun _ h => h.1) rfl h5_9) (sw0 []) ?_
      have h5_11 := TunnelBook.at_Parts hb0_0
      refine dt 11 4095 rfl trivial (y_fieldAddr fo25_0 rfl) (sw0 []) ?_
      obtain ⟨v5_12, h5_12, c5_12⟩ := PAt.sl h5_11
      refine dt 12 8191 rfl trivial (y_load_one ty22 rfl (fun _ h => h.1) rfl c5_12) (sw0 []) ?_
      refine dt 13 16383 rfl trivial (y_move rfl) (sw0 []) ?_
      obtain ⟨b5_14, o5_14, c5_14, e5_14, h5_14⟩ := Sl.elemZ 6 rfl h5_12 q5_14
      refine dt 14 32767 rfl trivial (y_index Tryd.underlying22 ty64 rfl e5_14 rfl (nth_in q5_14)) (sw0 []) ?_
      have h5_15 := TunnelPart.at_Damp h5_14
      refine dt 15 65535 rfl trivial (y_fieldAddr fo64_1 rfl) (sw0 []) ?_
      have h5_16 := Span.at_Low h5_15
      refine dt 16 131071 rfl trivial (y_fieldAddr fo32_0 rfl) (sw0 []) ?_
      refine dt 17 262143 rfl trivial (y_load_int ty3 rfl (fun _ h => h.1) rfl h5_16) (sw0 []) ?_
      refine dt 18 524287 rfl trivial (y_sub rfl rfl) (sw0 []) ?_
      refine dt 19 1048575 rfl trivial (y_assign rfl) (sw0 []) ?_
      refine d_done (by kernel_rfl) ?_
      refine a_en [(1, v1), (3, .pointer (some ⟨b0_0, 0, none⟩)), (5, .pointer (some ⟨b0_1, 0, none⟩)), (7, .int .i64 yj2_7), (8, .int .i64 yj2_8), (9, .int .i64 (IntKind.i64.wrap (x5_9 - x5_14.Damp.Low)))] ?_
      refine a_then ?_
      refine a_seq ?_
      refine a_region rfl ?_
      refine ap (y_assign rfl) ?_
      refine a_nil ?_
      refine a_then ?_
      obtain ⟨s_j4, hs_j4, hm_j4⟩ := bind_some hm
      refine a_join (fun a_ w_ => ∃ (yj4_7 : Int), yj4_7 = s_j4 ∧ Ag 53 [] [(1, v1), (3, .pointer (some ⟨b0_0, 0, none⟩)), (5, .pointer (some ⟨b0_1, 0, none⟩)), (7, .int .i64 yj4_7), (8, .int .i64 yj2_8)] a_ ∧ St (Kp.mk w H noX) Hb0_0 [] w_) ?_ ?_
      · have hm := hs_j4
        refine a_block ?_
        refine a_loop (fun n_j5 a_ w_ => ∃ (yj5_7 : Int), ∃ (yj5_10 : Int), law03_dryness_lj5 k p2 yj2_8 x5_9 x5_14 n_j5 yj5_7 yj5_10 = some s_j4 ∧ Ag 53 [] [(1, v1), (3, .pointer (some ⟨b0_0, 0, none⟩)), (5, .pointer (some ⟨b0_1, 0, none⟩)), (7, .int .i64 yj5_7), (8, .int .i64 yj2_8), (9, .int .i64 (IntKind.i64.wrap (x5_9 - x5_14.Damp.Low))), (10, .int .i64 yj5_10)] a_ ∧ St (Kp.mk w H noX) Hb0_0 [] w_) k ?_ ?_
        · intro a_ w_ ha_ hs_
          exact ⟨yj2_7, 0, hm, ha_.weaken ⟨rfl, rfl, rfl, rfl, rfl, rfl, rfl, trivial⟩, hs_.reix [] (by decide)⟩
        rintro (_ | n_j5) a_ w_ ⟨yj5_7, yj5_10, hm, ha_, hs_⟩
        · rw [law03_dryness_lj5.eq_1] at hm; cases hm
        rw [law03_dryness_lj5.eq_2] at hm
        refine a_start ha_ hs_ ?_
        refine a_seq ?_
        refine a_seq ?_
        obtain ⟨s_j6, hs_j6, hm_j6⟩ := bind_some hm
        refine a_join (fun a_ w_ => ∃ (yj6_46 : Bool), yj6_46 = s_j6 ∧ Ag 53 [] [(1, v1), (3, .pointer (some ⟨b0_0, 0, none⟩)), (5, .pointer (some ⟨b0_1, 0, none⟩)), (7, .int .i64 yj5_7), (8, .int .i64 yj2_8), (9, .int .i64 (IntKind.i64.wrap (x5_9 - x5_14.Damp.Low))), (10, .int .i64 yj5_10), (46, .bool yj6_46)] a_ ∧ St (Kp.mk w H noX) Hb0_0 [] w_) ?_ ?_
        · have hm := hs_j6
          refine a_region rfl ?_
          refine ap (y_move rfl) ?_
          refine ap (y_gtr rfl rfl) ?_
          refine ap (y_move rfl) ?_
          rcases Bool.eq_false_or_eq_true (decide ((IntKind.i64.wrap (x5_9 - x5_14.Damp.Low)) > 0)) with k7_3 | k7_3
          · have hm := cond_t k7_3 hm
            refine ag ⟨_, _, rfl, rfl, k7_3⟩ (y_move rfl) ?_
            have h7_4 := TunnelFrame.at_Stay hb0_1
            refine ag ⟨_, _, rfl, rfl, k7_3⟩ (y_fieldAddr fo55_0 rfl) ?_
            obtain ⟨v7_5, h7_5, c7_5⟩ := PAt.sl h7_4
            refine ag ⟨_, _, rfl, rfl, k7_3⟩ (y_load_one ty26 rfl (fun _ h => h.sub) rfl c7_5) ?_
            refine ag ⟨_, _, rfl, rfl, k7_3⟩ (y_move rfl) ?_
            obtain ⟨x7_7, q7_7, hm⟩ := bind_some hm
            obtain ⟨b7_7, o7_7, c7_7, e7_7, h7_7⟩ := Sl.elemZ 1 rfl h7_5 q7_7
            refine ag ⟨_, _, rfl, rfl, k7_3⟩ (y_index Tryd.underlying26 ty3 rfl e7_7 rfl (nth_in q7_7)) ?_
            refine ag ⟨_, _, rfl, rfl, k7_3⟩ (y_load_int ty3 rfl (fun _ h => h.sub) rfl h7_7) ?_
            refine ag ⟨_, _, rfl, rfl, k7_3⟩ (y_lss rfl rfl) ?_
            refine ap (y_pick_t rfl k7_3 rfl) ?_
            refine a_nil ?_
            refine a_en [(1, v1), (3, .pointer (some ⟨b0_0, 0, none⟩)), (5, .pointer (some ⟨b0_1, 0, none⟩)), (7, .int .i64 yj5_7), (8, .int .i64 yj2_8), (9, .int .i64 (IntKind.i64.wrap (x5_9 - x5_14.Damp.Low))), (10, .int .i64 yj5_10), (39, .int .i64 yj5_10), (40, .pointer (some ⟨b0_1, 0 + 0, none⟩)), (41, v7_5), (42, .int .i64 yj2_8), (43, .pointer (some ⟨b7_7, o7_7 + (yj2_8).toNat * 1, none⟩)), (44, .int .i64 x7_7), (45, .bool (decide (yj5_10 < x7_7))), (46, .bool (decide (yj5_10 < x7_7)))] ?_
            refine a_cut ?_
            intro a_ w_ ha_ hs_
            exact ⟨decide (yj5_10 < x7_7), Option.some.inj hm, ha_.weaken ⟨rfl, rfl, rfl, rfl, rfl, rfl, rfl, rfl, trivial⟩, hs_.reix [] (by decide)⟩
          have hm := cond_f k7_3 hm
          refine as1 (sk1 rfl rfl k7_3) ?_
          refine as1 (sk1 rfl rfl k7_3) ?_
          refine as1 (sk1 rfl rfl k7_3) ?_
          refine as1 (sk1 rfl rfl k7_3) ?_
          refine as1 (sk1 rfl rfl k7_3) ?_
          refine as1 (sk1 rfl rfl k7_3) ?_
          refine as1 (sk1 rfl rfl k7_3) ?_
          refine ap (y_pick_f rfl k7_3 rfl) ?_
          refine a_nil ?_
          refine a_en [(1, v1), (3, .pointer (some ⟨b0_0, 0, none⟩)), (5, .pointer (some ⟨b0_1, 0, none⟩)), (7, .int .i64 yj5_7), (8, .int .i64 yj2_8), (9, .int .i64 (IntKind.i64.wrap (x5_9 - x5_14.Damp.Low))), (10, .int .i64 yj5_10), (39, undef), (40, undef), (41, undef), (42, undef), (43, undef), (44, undef), (45, undef), (46, .bool false)] ?_
          refine a_cut ?_
          intro a_ w_ ha_ hs_
          exact ⟨false, Option.some.inj hm, ha_.weaken ⟨rfl, rfl, rfl, rfl, rfl, rfl, rfl, rfl, trivial⟩, hs_.reix [] (by decide)⟩
        have hm := hm_j6
        rintro a_ w_ ⟨yj6_46, rfl, ha_, hs_⟩
        try dsimp only at hm
        refine a_start ha_ hs_ ?_
        refine a_then ?_
        refine a_cond rfl (fun k_7 => ?_) (fun k_7 => ?_)
        · have hm := cond_t k_7 hm
          refine a_skip ?_
          refine a_then ?_
          refine a_seq ?_
          refine a_block ?_
          refine a_region rfl ?_
          refine ap (y_move rfl) ?_
          refine ap (y_move rfl) ?_
          refine ap (y_add rfl rfl) ?_
          refine ap (y_assign rfl) ?_
          refine a_nil ?_
          refine a_en [(1, v1), (3, .pointer (some ⟨b0_0, 0, none⟩)), (5, .pointer (some ⟨b0_1, 0, none⟩)), (7, .int .i64 (IntKind.i64.wrap (yj5_7 + (IntKind.i64.wrap (x5_9 - x5_14.Damp.Low))))), (8, .int .i64 yj2_8), (9, .int .i64 (IntKind.i64.wrap (x5_9 - x5_14.Damp.Low))), (10, .int .i64 yj5_10)] ?_
          refine a_block_normal ?_
          refine a_then ?_
          refine a_region rfl ?_
          refine ap (y_move rfl) ?_
          refine ap (y_add rfl rfl) ?_
          refine ap (y_assign rfl) ?_
          refine a_nil ?_
          refine a_en [(1, v1), (3, .pointer (some ⟨b0_0, 0, none⟩)), (5, .pointer (some ⟨b0_1, 0, none⟩)), (7, .int .i64 (IntKind.i64.wrap (yj5_7 + (IntKind.i64.wrap (x5_9 - x5_14.Damp.Low))))), (8, .int .i64 yj2_8), (9, .int .i64 (IntKind.i64.wrap (x5_9 - x5_14.Damp.Low))), (10, .int .i64 (IntKind.i64.wrap (yj5_10 + 1)))] ?_
          refine a_then ?_
          intro a_ w_ ha_ hs_
          exact ⟨n_j5, Nat.lt_succ_self _, IntKind.i64.wrap (yj5_7 + (IntKind.i64.wrap (x5_9 - x5_14.Damp.Low))), IntKind.i64.wrap (yj5_10 + 1), hm, ha_.weaken ⟨rfl, rfl, rfl, rfl, rfl, rfl, rfl, trivial⟩, hs_.reix [] (by decide)⟩
        have hm := cond_f k_7 hm
        refine a_exit ?_
        refine a_then_exit ?_
        refine a_then_exit ?_
        refine a_block_hit ?_
        refine a_cut ?_
        intro a_ w_ ha_ hs_
        exact ⟨yj5_7, Option.some.inj hm, ha_.weaken ⟨rfl, rfl, rfl, rfl, rfl, trivial⟩, hs_.reix [] (by decide)⟩
      have hm := hm_j4
      rintro a_ w_ ⟨yj4_7, rfl, ha_, hs_⟩
      try dsimp only at hm
      refine a_start ha_ hs_ ?_
      refine a_block_normal ?_
      refine a_then ?_
      refine a_region rfl ?_
      refine ap (y_move rfl) ?_
      refine ap (y_add rfl rfl) ?_
      refine ap (y_assign rfl) ?_
      refine a_nil ?_
      refine a_en [(1, v1), (3, .pointer (some ⟨b0_0, 0, none⟩)), (5, .pointer (some ⟨b0_1, 0, none⟩)), (7, .int .i64 yj4_7), (8, .int .i64 (IntKind.i64.wrap (yj2_8 + 1)))] ?_
      refine a_then ?_
      intro a_ w_ ha_ hs_
      exact ⟨n_j2, Nat.lt_succ_self _, yj4_7, IntKind.i64.wrap (yj2_8 + 1), hm, ha_.weaken ⟨rfl, rfl, rfl, rfl, rfl, trivial⟩, hs_.reix [] (by decide)⟩
    have hm := cond_f k_3 hm
    refine a_exit ?_
    refine a_then_exit ?_
    refine a_then_exit ?_
    refine a_block_hit ?_
    refine a_cut ?_
    intro a_ w_ ha_ hs_
    exact ⟨yj2_7, Option.some.inj hm, ha_.weaken ⟨rfl, trivial⟩, hs_.reix [] (by decide)⟩
  have hm := hm_j1
  rintro a_ w_ ⟨yj1_7, rfl, ha_, hs_⟩
  try dsimp only at hm
  refine a_start ha_ hs_ ?_
  refine a_then ?_
  refine a_seq ?_
  refine a_region rfl ?_
  refine ap (y_move rfl) ?_
  refine ap (y_assign rfl) ?_
  refine a_nil ?_
  refine a_en [(6, .int .i64 yj1_7)] ?_
  refine a_then ?_
  refine a_ret ?_
  refine a_done (v := .int .i64 yj1_7) (.inl rfl) rfl ?_ ?_
  · intro a_ w_ ha_ hs_; exact run_results (P := Tryd.prog) (fn := Tryd.f47) (rs := [.tmp 6]) (vs := [.int .i64 yj1_7]) rfl (.cons (rv_tmp ha_ rfl) (All2.nil))
  · intro _ _; obtain rfl := Option.some.inj hm
    rfl

def law03_TunnelEnds_lj4 (k : Nat) (p0 : TunnelBook) : Nat → (List TunnelPart) → (List TunnelPart) → Int → Option ((List TunnelPart) × (List TunnelPart))
 | 0, _, _, _ => none
 | n_j4 + 1, yj4_b3_2_0, yj4_b3_3_0, yj4_9 =>
 bif decide (yj4_9 < (p0.Parts.length : Int)) then
 (nth p0.Parts yj4_9).bind fun x8_9 =>
 (ref00_Only k x8_9.Damp.High).bind fun x8_13 =>
 (nth p0.Parts yj4_9).bind fun x8_17 =>
 (ref00_Only k x8_17.Damp.Low).bind fun x8_21 =>
 (nth yj4_b3_2_0 yj4_9).bind fun x8_22 =>
 (nth yj4_b3_3_0 yj4_9).bind fun x8_25 =>
 law03_TunnelEnds_lj4 k p0 n_j4 ((yj4_b3_2_0).set (yj4_9).toNat (⟨x8_22.Heat, x8_13⟩ : TunnelPart)) ((yj4_b3_3_0).set (yj4_9).toNat (⟨x8_25.Heat, x8_21⟩ : TunnelPart)) (IntKind.i64.wrap (yj4_9 + 1))
 else
 some ((yj4_b3_2_0, yj4_b3_3_0))
def law03_TunnelEnds (k : Nat) (p0 : TunnelBook) (p1 : List Int) (p2 : Int) : Option Bool :=
 ((law03_sound k p0).bind fun x1_1 =>
 bif !x1_1 then
 some (true)
 else
 some (((p0.Frames.length : Int) == 0))).bind fun yj1_26 =>
 bif yj1_26 then
 (law03_warmed k).bind fun x2_0 =>
 some (x2_0)
 else
 (app ([] : List TunnelPart) p0.Parts).bind fun x4_3 =>
 (app ([] : List TunnelPart) p0.Parts).bind fun x4_7 =>
 (law03_TunnelEnds_lj4 k p0 k x4_3 x4_7 0).bind fun (yj3_b3_2_0, yj3_b3_3_0) =>
 (ref00_Spin k p2 (p0.Frames.length : Int)).bind fun x9_4 =>
 (law03_setting k p0 p1).bind fun x9_7 =>
 (tunnel_Dries k p0 x9_7 x9_4).bind fun x10_3 =>
 (tunnel_Kind k p0 x9_7 x9_4).bind fun x11_3 =>
 (nth p0.Frames x9_4).bind fun x12_3 =>
 (law03_dryness k (⟨yj3_b3_2_0, p0.Frames⟩ : TunnelBook) x9_7 x12_3).bind fun x14_3 =>
 (bif decide (x14_3 < x12_3.Need.Low) then
 some (1)
 else
 some (0)).bind fun yj6_17 =>
 (law03_dryness k (⟨yj3_b3_3_0, p0.Frames⟩ : TunnelBook) x9_7 x12_3).bind fun x16_3 =>
 (bif decide (x16_3 > x12_3.Need.High) then
 some ((IntKind.i64.wrap (yj6_17 + 2)))
 else
 some (yj6_17)).bind fun yj8_17 =>
 (bif x10_3.2 == 0 then
 bif x11_3.2 == 0 then
 (law03_dryness k (⟨yj3_b3_2_0, p0.Frames⟩ : TunnelBook) x9_7 x12_3).bind fun x18_11 =>
 (law03_dryness k (⟨yj3_b3_3_0, p0.Frames⟩ : TunnelBook) x9_7 x12_3).bind fun x18_15 =>
 (ref00_Sp k x18_11 x18_15).bind fun x18_16 =>
 bif decide (x10_3.1 = x18_16) then
 bif x11_3.1 == yj8_17 then
 (law03_warmed k).bind fun x18_25 =>
 some (x18_25)
 else
 some (false)
 else
 some (false)
 else
 some (false)
 else
 some (false)).bind fun yj10_6 =>
 some (yj10_6)
theorem ok_7 {k : Nat} {H : Hp} {w : World} {p0 : TunnelBook} {p1 : List Int} {p2 : Int} {c0 : List Value} {v1 : Value} {r : Bool} (hsub : Sub H w) (h0 : Rp.rep (α := TunnelBook) H c0 p0) (h1 : Sl (α := Int) H v1 p1) (hg : Glob H) (hm : law03_TunnelEnds k p0 p1 p2 = some r) : Calls Tryd.prog 7 [.agg c0.toArray, v1, .int .i64 p2].toArray w (PostV w H (.bool r)) := by
  unfold law03_TunnelEnds at hm
  refine start (n := 145) (E := [(0, .agg c0.toArray), (1, v1), (2, .int .i64 p2)]) Tryd.func7 rfl rfl ⟨rfl, rfl, rfl, trivial⟩ rfl hsub ?_
  refine a_seq ?_
  refine a_region rfl ?_
  refine a_cons (e_box (cs := c0) trivial rfl rfl rfl ?_)
  intro b0_0
  refine ap (y_assign rfl) ?_
  refine a_nil ?_
  refine a_freeze (α := TunnelBook) (x := p0) (i := 0) rfl h0 ?_
  intro Hb0_0 lb0_0 hb0_0
  have h0 := Rp.mono lb0_0 h0
  have h1 := Sl.mono lb0_0 h1
  have hg := Glob.mono lb0_0 hg
  refine a_en [(1, v1), (2, .int .i64 p2), (3, .pointer (some ⟨b0_0, 0, none⟩))] ?_
  refine a_own [] (by decide) (L' := []) rfl ?_
  refine a_then ?_
  refine a_seq ?_
  refine a_seq ?_
  obtain ⟨s_j1, hs_j1, hm_j1⟩ := bind_some hm
  refine a_join (fun a_ w_ => ∃ (yj1_26 : Bool), yj1_26 = s_j1 ∧ Ag 145 [] [(1, v1), (2, .int .i64 p2), (3, .pointer (some ⟨b0_0, 0, none⟩)), (26, .bool yj1_26)] a_ ∧ St (Kp.mk w H noX) Hb0_0 [] w_) ?_ ?_
  · have hm := hs_j1
    refine a_region rfl ?_
    obtain ⟨u1_0, h1_0, c1_0⟩ := PAt.one hb0_0
    refine ap (y_load_cells ty25 rfl (fun _ h => h.sub) rfl c1_0 (Rp.len h1_0)) ?_
    obtain ⟨x1_1, q1_1, hm⟩ := bind_some hm
    refine a_cons (e_callV (all := [.agg u1_0.toArray]) (v := .bool x1_1) trivial rfl Tryd.func43 rfl rfl rfl rfl rfl (fun w hw => ok_43 hw h1_0 q1_1) ?_)
    refine ap (y_not rfl) ?_
    refine ap (y_move rfl) ?_
    rcases Bool.eq_false_or_eq_true (!x1_1) with k1_4 | k1_4
    · have hm := cond_t k1_4 hm
      refine as1 (sk1 rfl rfl k1_4) ?_
      refine as1 (sk1 rfl rfl k1_4) ?_
      refine as1 (sk1 rfl rfl k1_4) ?_
      refine as1 (sk1 rfl rfl k1_4) ?_
      refine ap (y_pick_t rfl k1_4 rfl) ?_
      refine a_nil ?_
      refine a_en [(1, v1), (2, .int .i64 p2), (3, .pointer (some ⟨b0_0, 0, none⟩)), (26, .bool true)] ?_
      refine a_cut ?_
      intro a_ w_ ha_ hs_
      exact ⟨true, Option.some.inj hm, ha_.weaken ⟨rfl, rfl, rfl, rfl, trivial⟩, hs_.reix [] (by decide)⟩
    have hm := cond_f k1_4 hm
    have h1_4 := TunnelBook.at_Frames hb0_0
    refine ag ⟨_, _, rfl, rfl, k1_4⟩ (y_fieldAddr fo25_1 rfl) ?_
    obtain ⟨v1_5, h1_5, c1_5⟩ := PAt.sl h1_4
    refine ag ⟨_, _, rfl, rfl, k1_4⟩ (y_load_one ty23 rfl (fun _ h => h.sub) rfl c1_5) ?_
    refine ag ⟨_, _, rfl, rfl, k1_4⟩ (y_len_sl Tryd.underlying23 rfl h1_5) ?_
    refine ag ⟨_, _, rfl, rfl, k1_4⟩ (y_eql rfl rfl) ?_
    refine ap (y_pick_f rfl k1_4 rfl) ?_
    refine a_nil ?_
    refine a_en [(1, v1), (2, .int .i64 p2), (3, .pointer (some ⟨b0_0, 0, none⟩)), (26, .bool ((p0.Frames.length : Int) == 0))] ?_
    refine a_cut ?_
    intro a_ w_ ha_ hs_
    exact ⟨(p0.Frames.length : Int) == 0, Option.some.inj hm, ha_.weaken ⟨rfl, rfl, rfl, rfl, trivial⟩, hs_.reix [] (by decide)⟩
  have hm := hm_j1
  rintro a_ w_ ⟨yj1_26, rfl, ha_, hs_⟩
  try dsimp only at hm
  refine a_start ha_ hs_ ?_
  refine a_then ?_
  refine a_cond rfl (fun k_2 => ?_) (fun k_2 => ?_)
  · have hm := cond_t k_2 hm
    refine a_seq ?_
    refine a_region rfl ?_
    obtain ⟨x2_0, q2_0, hm⟩ := bind_some hm
    refine a_cons (e_callV (all := []) (v := .bool x2_0) trivial rfl Tryd.func30 rfl rfl rfl rfl rfl (fun w hw => ok_30 hw hg q2_0) ?_)
    refine ap (y_assign rfl) ?_
    refine a_nil ?_
    refine a_en [(6, .bool x2_0)] ?_
    refine a_then ?_
    refine a_ret ?_
    refine a_then_ret ?_
    refine a_done (v := .bool x2_0) (.inl rfl) rfl ?_ ?_
    · intro a_ w_ ha_ hs_; exact run_results (P := Tryd.prog) (fn := Tryd.f7) (rs := [.tmp 6]) (vs := [.bool x2_0]) rfl (.cons (rv_tmp ha_ rfl) (All2.nil))
    · intro _ _; obtain rfl := Option.some.inj hm
      rfl
  have hm := cond_f k_2 hm
  refine a_skip ?_
  refine a_then ?_
  refine a_seq ?_
  refine d_region (S := Sw Hb0_0 []) (n := 6) (listed := (bits 6 0)) mixed (by kernel_rfl) rfl (by kernel_rfl) ?_
  refine d_abs fun U3 hU3 => ?_
  have N3_0 (Hn3_5 : Hp) (ln3_5 : HLe Hb0_0 Hn3_5) (b3_2 : Nat) (b3_3 : Nat) (u3_0 : List Value) (u3_1 : List Value) (h3_0 : Rp.rep (α := TunnelBook) Hn3_5 u3_0 p0) (h3_1 : Rp.rep (α := TunnelBook) Hn3_5 u3_1 p0) : At 145 [] (Kp.mk w H noX) [(1, v1), (2, .int .i64 p2), (3, .pointer (some ⟨b0_0, 0, none⟩)), (7, .pointer (some ⟨b3_2, 0, none⟩)), (8, .pointer (some ⟨b3_3, 0, none⟩))] Hn3_5 [.box b3_2 u3_0 25, .box b3_3 u3_1 25] (U3 (Sw Hn3_5 []) 0 (bits 6 63)) := by
    refine d_fwd hU3 ?_
    have h1 := Sl.mono ln3_5 h1
    have hb0_0 := PAt.mono ln3_5 hb0_0
    have hg := Glob.mono ln3_5 hg
    refine d_done (by kernel_rfl) ?_
    obtain ⟨v3o3_2_0, v3o3_2_1, rfl, h3o3_2_0, h3o3_2_1⟩ := TunnelBook.opened h3_0
    obtain ⟨v3o3_3_0, v3o3_3_1, rfl, h3o3_3_0, h3o3_3_1⟩ := TunnelBook.opened h3_1
    refine a_then ?_
    refine a_seq ?_
    obtain ⟨x4_3, q4_3, hm⟩ := bind_some hm
    obtain ⟨x4_7, q4_7, hm⟩ := bind_some hm
    refine d_region (S := Sw Hn3_5 []) (n := 12) (listed := (bits 12 0)) mixed (by kernel_rfl) rfl (by kernel_rfl) ?_
    refine d_abs fun U4 hU4 => ?_
    have N4_0 (Hn4_7 : Hp) (ln4_7 : HLe Hn3_5 Hn4_7) (v4_3 : Value) (u4_3 : List Value) (v4_7 : Value) (u4_7 : List Value) (h4_3 : RepL (α := TunnelPart) Hn4_7 u4_3 x4_3) (h4_7 : RepL (α := TunnelPart) Hn4_7 u4_7 x4_7) : At 145 [] (Kp.mk w H noX) [(1, v1), (2, .int .i64 p2), (3, .pointer (some ⟨b0_0, 0, none⟩)), (7, .pointer (some ⟨b3_2, 0, none⟩)), (8, .pointer (some ⟨b3_3, 0, none⟩))] Hn4_7 ([.box b3_2 [v4_3, v3o3_2_1] 25, .box b3_3 [v4_7, v3o3_3_1] 25, .row v4_3 u4_3 64 6, .row v4_7 u4_7 64 6]) (U4 (Sw Hn4_7 []) 0 (bits 12 4095)) := by
      refine d_fwd hU4 ?_
      have h1 := Sl.mono ln4_7 h1
      have hb0_0 := PAt.mono ln4_7 hb0_0
      have h3o3_3_1 := Sl.mono ln4_7 h3o3_3_1
      have h3o3_2_1 := Sl.mono ln4_7 h3o3_2_1
      have hg := Glob.mono ln4_7 hg
      refine d_done (by kernel_rfl) ?_
      refine a_then ?_
      refine a_seq ?_
      refine a_seq ?_
      refine a_region rfl ?_
      refine ap (y_assign rfl) ?_
      refine a_nil ?_
      refine a_then ?_
      obtain ⟨s_j3, hs_j3, hm_j3⟩ := bind_some hm
      refine a_join (fun a_ w_ => ∃ (yj3_b3_2_0 : List TunnelPart), ∃ (yj3_b3_3_0 : List TunnelPart), ∃ (vj3_b3_2_0 : Value), ∃ (uj3_b3_2_0 : List Value), ∃ (vj3_b3_3_0 : Value), ∃ (uj3_b3_3_0 : List Value), (yj3_b3_2_0, yj3_b3_3_0) = s_j3 ∧ RepL (α := TunnelPart) Hn4_7 uj3_b3_2_0 yj3_b3_2_0 ∧ RepL (α := TunnelPart) Hn4_7 uj3_b3_3_0 yj3_b3_3_0 ∧ Ag 145 [] [(1, v1), (2, .int .i64 p2), (3, .pointer (some ⟨b0_0, 0, none⟩)), (7, .pointer (some ⟨b3_2, 0, none⟩)), (8, .pointer (some ⟨b3_3, 0, none⟩))] a_ ∧ St (Kp.mk w H noX) Hn4_7 ([.row vj3_b3_2_0 uj3_b3_2_0 64 6, .box b3_2 [vj3_b3_2_0, v3o3_2_1] 25, .row vj3_b3_3_0 uj3_b3_3_0 64 6, .box b3_3 [vj3_b3_3_0, v3o3_3_1] 25]) w_) ?_ ?_
      · have hm := hs_j3
        refine a_block ?_
        refine a_loop (fun n_j4 a_ w_ => ∃ (yj4_b3_2_0 : List TunnelPart), ∃ (yj4_b3_3_0 : List TunnelPart), ∃ (yj4_9 : Int), ∃ (vj4_b3_2_0 : Value), ∃ (uj4_b3_2_0 : List Value), ∃ (vj4_b3_3_0 : Value), ∃ (uj4_b3_3_0 : List Value), law03_TunnelEnds_lj4 k p0 n_j4 yj4_b3_2_0 yj4_b3_3_0 yj4_9 = some s_j3 ∧ RepL (α := TunnelPart) Hn4_7 uj4_b3_2_0 yj4_b3_2_0 ∧ RepL (α := TunnelPart) Hn4_7 uj4_b3_3_0 yj4_b3_3_0 ∧ Ag 145 [] [(1, v1), (2, .int .i64 p2), (3, .pointer (some ⟨b0_0, 0, none⟩)), (7, .pointer (some ⟨b3_2, 0, none⟩)), (8, .pointer (some ⟨b3_3, 0, none⟩)), (9, .int .i64 yj4_9)] a_ ∧ St (Kp.mk w H noX) Hn4_7 ([.row vj4_b3_2_0 uj4_b3_2_0 64 6, .box b3_2 [vj4_b3_2_0, v3o3_2_1] 25, .row vj4_b3_3_0 uj4_b3_3_0 64 6, .box b3_3 [vj4_b3_3_0, v3o3_3_1] 25]) w_) k ?_ ?_
        · intro a_ w_ ha_ hs_
          exact ⟨x4_3, x4_7, 0, v4_3, u4_3, v4_7, u4_7, hm, h4_3, h4_7, ha_.weaken ⟨rfl, rfl, rfl, rfl, rfl, rfl, trivial⟩, hs_.reix [2, 0, 3, 1] (by decide)⟩
        rintro (_ | n_j4) a_ w_ ⟨yj4_b3_2_0, yj4_b3_3_0, yj4_9, vj4_b3_2_0, uj4_b3_2_0, vj4_b3_3_0, uj4_b3_3_0, hm, hj4_b3_2_0, hj4_b3_3_0, ha_, hs_⟩
        · rw [law03_TunnelEnds_lj4.eq_1] at hm; cases hm
        rw [law03_TunnelEnds_lj4.eq_2] at hm
        refine a_start ha_ hs_ ?_
        refine a_seq ?_
        refine a_seq ?_
        refine a_region rfl ?_
        refine ap (y_move rfl) ?_
        have h6_1 := TunnelBook.at_Parts hb0_0
        refine ap (y_fieldAddr fo25_0 rfl) ?_
        obtain ⟨v6_2, h6_2, c6_2⟩ := PAt.sl h6_1
        refine ap (y_load_one ty22 rfl (fun _ h => h.sub) rfl c6_2) ?_
        refine ap (y_len_sl Tryd.underlying22 rfl h6_2) ?_
        refine ap (y_lss rfl rfl) ?_
        refine a_nil ?_
        refine a_en [(1, v1), (2, .int .i64 p2), (3, .pointer (some ⟨b0_0, 0, none⟩)), (7, .pointer (some ⟨b3_2, 0, none⟩)), (8, .pointer (some ⟨b3_3, 0, none⟩)), (9, .int .i64 yj4_9), (44, .bool (decide (yj4_9 < (p0.Parts.length : Int))))] ?_
        refine a_then ?_
        refine a_cond rfl (fun k_5 => ?_) (fun k_5 => ?_)
        · have hm := cond_t k_5 hm
          refine a_skip ?_
          refine a_then ?_
          refine a_seq ?_
          refine a_block ?_
          obtain ⟨x8_9, q8_9, hm⟩ := bind_some hm
          obtain ⟨x8_13, q8_13, hm⟩ := bind_some hm
          obtain ⟨x8_17, q8_17, hm⟩ := bind_some hm
          obtain ⟨x8_21, q8_21, hm⟩ := bind_some hm
          obtain ⟨x8_22, q8_22, hm⟩ := bind_some hm
          obtain ⟨x8_25, q8_25, hm⟩ := bind_some hm
          refine d_region (S := Sw Hn4_7 [.box b3_2 [vj4_b3_2_0, v3o3_2_1] 25, .box b3_3 [vj4_b3_3_0, v3o3_3_1] 25]) (n := 28) (listed := (bits 28 0)) mixed (by kernel_rfl) rfl (by kernel_rfl) ?_
          refine dt 0 1 rfl trivial (y_fieldAddr fo25_0 rfl) (sw0 [1, 3]) ?_
          refine dt 1 3 rfl trivial (y_load_box ty22 rfl (knows_sw (i := 0) rfl) rfl rfl) (sw0 [1, 3]) ?_
          refine dt 2 7 rfl trivial (y_move rfl) (sw0 [1, 3]) ?_
          refine dt 3 15 rfl trivial (y_fieldAddr fo25_0 rfl) (sw0 [1, 3]) ?_
          refine dt 4 31 rfl trivial (y_load_box ty22 rfl (knows_sw (i := 1) rfl) rfl rfl) (sw0 [1, 3]) ?_
          refine dt 5 63 rfl trivial (y_move rfl) (sw0 [1, 3]) ?_
          have h8_6 := TunnelBook.at_Parts hb0_0
          refine dt 6 127 rfl trivial (y_fieldAddr fo25_0 rfl) (sw0 [1, 3]) ?_
          obtain ⟨v8_7, h8_7, c8_7⟩ := PAt.sl h8_6
          refine dt 7 255 rfl trivial (y_load_one ty22 rfl (fun _ h => h.1) rfl c8_7) (sw0 [1, 3]) ?_
          refine dt 8 511 rfl trivial (y_move rfl) (sw0 [1, 3]) ?_
          obtain ⟨b8_9, o8_9, c8_9, e8_9, h8_9⟩ := Sl.elemZ 6 rfl h8_7 q8_9
          refine dt 9 1023 rfl trivial (y_index Tryd.underlying22 ty64 rfl e8_9 rfl (nth_in q8_9)) (sw0 [1, 3]) ?_
          have h8_10 := TunnelPart.at_Damp h8_9
          refine dt 10 2047 rfl trivial (y_fieldAddr fo64_1 rfl) (sw0 [1, 3]) ?_
          have h8_11 := Span.at_High h8_10
          refine dt 11 4095 rfl trivial (y_fieldAddr fo32_1 rfl) (sw0 [1, 3]) ?_
          refine dt 12 8191 rfl trivial (y_load_int ty3 rfl (fun _ h => h.1) rfl h8_11) (sw0 [1, 3]) ?_
          have h8_14 := TunnelBook.at_Parts hb0_0
          refine dt 14 24575 rfl trivial (y_fieldAddr fo25_0 rfl) (sw0 [1, 3]) ?_
          obtain ⟨v8_15, h8_15, c8_15⟩ := PAt.sl h8_14
          refine dt 15 57343 rfl trivial (y_load_one ty22 rfl (fun _ h => h.1) rfl c8_15) (sw0 [1, 3]) ?_
          refine dt 16 122879 rfl trivial (y_move rfl) (sw0 [1, 3]) ?_
          obtain ⟨b8_17, o8_17, c8_17, e8_17, h8_17⟩ := Sl.elemZ 6 rfl h8_15 q8_17
          refine dt 17 253951 rfl trivial (y_index Tryd.underlying22 ty64 rfl e8_17 rfl (nth_in q8_17)) (sw0 [1, 3]) ?_
          have h8_18 := TunnelPart.at_Damp h8_17
          refine dt 18 516095 rfl trivial (y_fieldAddr fo64_1 rfl) (sw0 [1, 3]) ?_
          have h8_19 := Span.at_Low h8_18
          refine dt 19 1040383 rfl trivial (y_fieldAddr fo32_0 rfl) (sw0 [1, 3]) ?_
          refine dt 20 2088959 rfl trivial (y_load_int ty3 rfl (fun _ h => h.1) rfl h8_19) (sw0 [1, 3]) ?_
          refine d1 13 rfl (e_callV (all := [.int .i64 x8_9.Damp.High]) (v := .agg x8_13.cells.toArray) trivial rfl Tryd.func51 rfl rfl rfl rfl rfl (fun w hw => ok_51 hw q8_13) ?_)
          refine dn 2097151 (sw0 [1, 3]) ?_
          refine d1 21 rfl (e_callV (all := [.int .i64 x8_17.Damp.Low]) (v := .agg x8_21.cells.toArray) trivial rfl Tryd.func51 rfl rfl rfl rfl rfl (fun w hw => ok_51 hw q8_21) ?_)
          refine dn 4194303 (sw0 [1, 3]) ?_
          refine a_rowplace (i := 0) rfl rfl rfl hj4_b3_2_0 q8_22 ?_
          rintro b8_22 c8_22 rfl
          refine d1 22 rfl (p_pure trivial rfl rfl (y_index Tryd.underlying22 ty64 rfl rfl rfl (nth_in q8_22)) ?_)
          refine dn 8388607 (sw0 [1, 3]) ?_
          refine dt 23 16777215 rfl trivial (y_fieldAddr fo64_1 rfl) (sw0 [1, 3]) ?_
          refine d1 24 rfl (e_storeRow (α := TunnelPart) (i := 0) (ds := x8_13.cells) (l' := (yj4_b3_2_0).set (yj4_9).toNat (⟨x8_22.Heat, x8_13⟩ : TunnelPart)) trivial ty32 rfl rfl rfl rfl rfl ((Rp.one (Span.rep_mk (fun _ => none) x8_13))) rfl hj4_b3_2_0 (PutL.at0 6 rfl q8_22 (TunnelPart.put_Damp (s := x8_22) (Put.here (Span.rep_mk _ x8_13)))) ?_)
          intro u8_24 h8_24
          refine dn 33554431 (sw0 [1, 3]) ?_
          refine a_rowplace (i := 2) rfl rfl rfl hj4_b3_3_0 q8_25 ?_
          rintro b8_25 c8_25 rfl
          refine d1 25 rfl (p_pure trivial rfl rfl (y_index Tryd.underlying22 ty64 rfl rfl rfl (nth_in q8_25)) ?_)
          refine dn 67108863 (sw0 [1, 3]) ?_
          refine dt 26 134217727 rfl trivial (y_fieldAddr fo64_1 rfl) (sw0 [1, 3]) ?_
          refine d1 27 rfl (e_storeRow (α := TunnelPart) (i := 2) (ds := x8_21.cells) (l' := (yj4_b3_3_0).set (yj4_9).toNat (⟨x8_25.Heat, x8_21⟩ : TunnelPart)) trivial ty32 rfl rfl rfl rfl rfl ((Rp.one (Span.rep_mk (fun _ => none) x8_21))) rfl hj4_b3_3_0 (PutL.at0 6 rfl q8_25 (TunnelPart.put_Damp (s := x8_25) (Put.here (Span.rep_mk _ x8_21)))) ?_)
          intro u8_27 h8_27
          refine dn 268435455 (sw0 [1, 3]) ?_
          refine d_done (by kernel_rfl) ?_
          refine a_en [(1, v1), (2, .int .i64 p2), (3, .pointer (some ⟨b0_0, 0, none⟩)), (7, .pointer (some ⟨b3_2, 0, none⟩)), (8, .pointer (some ⟨b3_3, 0, none⟩)), (9, .int .i64 yj4_9)] ?_
          refine a_block_normal ?_
          refine a_then ?_
          refine a_region rfl ?_
          refine ap (y_move rfl) ?_
          refine ap (y_add rfl rfl) ?_
          refine ap (y_assign rfl) ?_
          refine a_nil ?_
          refine a_en [(1, v1), (2, .int .i64 p2), (3, .pointer (some ⟨b0_0, 0, none⟩)), (7, .pointer (some ⟨b3_2, 0, none⟩)), (8, .pointer (some ⟨b3_3, 0, none⟩)), (9, .int .i64 (IntKind.i64.wrap (yj4_9 + 1)))] ?_
          refine a_then ?_
          intro a_ w_ ha_ hs_
          exact ⟨n_j4, Nat.lt_succ_self _, (yj4_b3_2_0).set (yj4_9).toNat (⟨x8_22.Heat, x8_13⟩ : TunnelPart), (yj4_b3_3_0).set (yj4_9).toNat (⟨x8_25.Heat, x8_21⟩ : TunnelPart), IntKind.i64.wrap (yj4_9 + 1), .slice (some ⟨b8_22, 0, none⟩) (yj4_b3_2_0).length c8_22, u8_24, .slice (some ⟨b8_25, 0, none⟩) (yj4_b3_3_0).length c8_25, u8_27, hm, h8_24, h8_27, ha_.weaken ⟨rfl, rfl, rfl, rfl, rfl, rfl, trivial⟩, hs_.reix [0, 1, 2, 3] (by decide)⟩
        have hm := cond_f k_5 hm
        refine a_exit ?_
        refine a_then_exit ?_
        refine a_then_exit ?_
        refine a_block_hit ?_
        refine a_cut ?_
        intro a_ w_ ha_ hs_
        exact ⟨yj4_b3_2_0, yj4_b3_3_0, vj4_b3_2_0, uj4_b3_2_0, vj4_b3_3_0, uj4_b3_3_0, Option.some.inj hm, hj4_b3_2_0, hj4_b3_3_0, ha_.weaken ⟨rfl, rfl, rfl, rfl, rfl, trivial⟩, hs_.reix [0, 1, 2, 3] (by decide)⟩
      have hm := hm_j3
      rintro a_ w_ ⟨yj3_b3_2_0, yj3_b3_3_0, vj3_b3_2_0, uj3_b3_2_0, vj3_b3_3_0, uj3_b3_3_0, rfl, hj3_b3_2_0, hj3_b3_3_0, ha_, hs_⟩
      try dsimp only at hm
      refine a_start ha_ hs_ ?_
      refine a_then ?_
      refine a_seq ?_
      obtain ⟨x9_4, q9_4, hm⟩ := bind_some hm
      obtain ⟨x9_7, q9_7, hm⟩ := bind_some hm
      refine d_region (S := Sw Hn4_7 [.box b3_2 [vj3_b3_2_0, v3o3_2_1] 25, .box b3_3 [vj3_b3_3_0, v3o3_3_1] 25]) (n := 10) (listed := (bits 10 0)) mixed (by kernel_rfl) rfl (by kernel_rfl) ?_
      refine dt 0 1 rfl trivial (y_move rfl) (sw0 [1, 3]) ?_
      have h9_1 := TunnelBook.at_Frames hb0_0
      refine dt 1 3 rfl trivial (y_fieldAddr fo25_1 rfl) (sw0 [1, 3]) ?_
      obtain ⟨v9_2, h9_2, c9_2⟩ := PAt.sl h9_1
      refine dt 2 7 rfl trivial (y_load_one ty23 rfl (fun _ h => h.1) rfl c9_2) (sw0 [1, 3]) ?_
      refine dt 3 15 rfl trivial (y_len_sl Tryd.underlying23 rfl h9_2) (sw0 [1, 3]) ?_
      obtain ⟨u9_5, h9_5, c9_5⟩ := PAt.one hb0_0
      refine dt 5 47 rfl trivial (y_load_cells ty25 rfl (fun _ h => h.1) rfl c9_5 (Rp.len h9_5)) (sw0 [1, 3]) ?_
      refine dt 6 111 rfl trivial (y_move rfl) (sw0 [1, 3]) ?_
      refine d1 4 rfl (e_callV (all := [.int .i64 p2, .int .i64 (p0.Frames.length : Int)]) (v := .int .i64 x9_4) trivial rfl Tryd.func52 rfl rfl rfl rfl rfl (fun w hw => ok_52 hw q9_4) ?_)
      refine dn 127 (sw0 [1, 3]) ?_
      refine d1 7 rfl (e_callH (all := [.agg u9_5.toArray, v1]) trivial rfl Tryd.func45 rfl rfl rfl rfl rfl (fun w hw => ok_45 hw h9_5 h1 q9_7) ?_)
      rintro v9_7r0 H9_7 l9_7 ⟨_, rfl, h9_7r0⟩
      have h1 := Sl.mono l9_7 h1
      have hb0_0 := PAt.mono l9_7 hb0_0
      have h9_1 := PAt.mono l9_7 h9_1
      have h9_2 := Sl.mono l9_7 h9_2
      have h9_5 := Rp.mono l9_7 h9_5
      have h3o3_2_1 := Sl.mono l9_7 h3o3_2_1
      have h3o3_3_1 := Sl.mono l9_7 h3o3_3_1
      have hj3_b3_2_0 := RepL.mono l9_7 hj3_b3_2_0
      have hj3_b3_3_0 := RepL.mono l9_7 hj3_b3_3_0
      have hg := Glob.mono l9_7 hg
      refine dn 255 (swl l9_7 [1, 3]) ?_
      refine d_weaken (S' := Sw H9_7 [.box b3_2 [vj3_b3_2_0, v3o3_2_1] 25, .box b3_3 [vj3_b3_3_0, v3o3_3_1] 25]) (sw_sw l9_7 [0, 1] rfl) ?_
      refine dt 8 511 rfl trivial (y_assign rfl) (sw0 [1, 3]) ?_
      refine dt 9 1023 rfl trivial (y_assign rfl) (sw0 [1, 3]) ?_
      refine d_done (by kernel_rfl) ?_
      refine a_en [(3, .pointer (some ⟨b0_0, 0, none⟩)), (7, .pointer (some ⟨b3_2, 0, none⟩)), (8, .pointer (some ⟨b3_3, 0, none⟩)), (10, .int .i64 x9_4), (11, v9_7r0)] ?_
      refine a_then ?_
      refine a_seq ?_
      refine a_region rfl ?_
      obtain ⟨u10_0, h10_0, c10_0⟩ := PAt.one hb0_0
      refine ap (y_load_cells ty25 rfl (fun _ h => h.sub) rfl c10_0 (Rp.len h10_0)) ?_
      refine ap (y_move rfl) ?_
      refine ap (y_move rfl) ?_
      obtain ⟨x10_3, q10_3, hm⟩ := bind_some hm
      refine a_cons (e_callV (all := [.agg u10_0.toArray, v9_7r0, .int .i64 x9_4]) (v := .tuple #[.agg x10_3.1.cells.toArray, .int .i64 x10_3.2]) trivial rfl Tryd.func23 rfl rfl rfl rfl rfl (fun w hw => ok_23 hw h10_0 h9_7r0 hg q10_3) ?_)
      refine ap (y_move rfl) ?_
      refine ap (y_extract rfl rfl) ?_
      refine ap (y_extract rfl rfl) ?_
      refine a_cons (e_alloc (cs := [.int .i64 0, .int .i64 0]) trivial rfl ty32 rfl ?_)
      intro b10_7
      refine a_cons (e_storeWhole (i := 0) (ds := x10_3.1.cells) trivial ty32 rfl rfl rfl rfl rfl ((Rp.one (Span.rep_mk (fun _ => none) x10_3.1))) rfl ?_)
      refine ap (y_assign rfl) ?_
      refine a_nil ?_
      refine a_freeze (α := Span) (x := x10_3.1) (i := 0) rfl (Span.rep_mk _ x10_3.1) ?_
      intro Hb10_7 lb10_7 hb10_7
      have hb0_0 := PAt.mono lb10_7 hb0_0
      have h9_7r0 := Sl.mono lb10_7 h9_7r0
      have h10_0 := Rp.mono lb10_7 h10_0
      have h3o3_2_1 := Sl.mono lb10_7 h3o3_2_1
      have h3o3_3_1 := Sl.mono lb10_7 h3o3_3_1
      have hj3_b3_2_0 := RepL.mono lb10_7 hj3_b3_2_0
      have hj3_b3_3_0 := RepL.mono lb10_7 hj3_b3_3_0
      have hg := Glob.mono lb10_7 hg
      refine a_en [(3, .pointer (some ⟨b0_0, 0, none⟩)), (7, .pointer (some ⟨b3_2, 0, none⟩)), (8, .pointer (some ⟨b3_3, 0, none⟩)), (10, .int .i64 x9_4), (11, v9_7r0), (12, .pointer (some ⟨b10_7, 0, none⟩)), (13, .int .i64 x10_3.2)] ?_
      refine a_own [1, 2, 3, 4] (by decide) (L' := [.row vj3_b3_2_0 uj3_b3_2_0 64 6, .box b3_2 [vj3_b3_2_0, v3o3_2_1] 25, .row vj3_b3_3_0 uj3_b3_3_0 64 6, .box b3_3 [vj3_b3_3_0, v3o3_3_1] 25]) rfl ?_
      refine a_then ?_
      refine a_seq ?_
      refine a_region rfl ?_
      obtain ⟨u11_0, h11_0, c11_0⟩ := PAt.one hb0_0
      refine ap (y_load_cells ty25 rfl (fun _ h => h.sub) rfl c11_0 (Rp.len h11_0)) ?_
      refine ap (y_move rfl) ?_
      refine ap (y_move rfl) ?_
      obtain ⟨x11_3, q11_3, hm⟩ := bind_some hm
      refine a_cons (e_callV (all := [.agg u11_0.toArray, v9_7r0, .int .i64 x9_4]) (v := .tuple #[.int .i64 x11_3.1, .int .i64 x11_3.2]) trivial rfl Tryd.func25 rfl rfl rfl rfl rfl (fun w hw => ok_25 hw h11_0 h9_7r0 hg q11_3) ?_)
      refine ap (y_move rfl) ?_
      refine ap (y_extract rfl rfl) ?_
      refine ap (y_extract rfl rfl) ?_
      refine ap (y_assign rfl) ?_
      refine ap (y_assign rfl) ?_
      refine a_nil ?_
      refine a_en [(3, .pointer (some ⟨b0_0, 0, none⟩)), (7, .pointer (some ⟨b3_2, 0, none⟩)), (8, .pointer (some ⟨b3_3, 0, none⟩)), (10, .int .i64 x9_4), (11, v9_7r0), (12, .pointer (some ⟨b10_7, 0, none⟩)), (13, .int .i64 x10_3.2), (14, .int .i64 x11_3.1), (15, .int .i64 x11_3.2)] ?_
      refine a_then ?_
      refine a_seq ?_
      refine a_region rfl ?_
      have h12_0 := TunnelBook.at_Frames hb0_0
      refine ap (y_fieldAddr fo25_1 rfl) ?_
      obtain ⟨v12_1, h12_1, c12_1⟩ := PAt.sl h12_0
      refine ap (y_load_one ty23 rfl (fun _ h => h.sub) rfl c12_1) ?_
      refine ap (y_move rfl) ?_
      obtain ⟨x12_3, q12_3, hm⟩ := bind_some hm
      obtain ⟨b12_3, o12_3, c12_3, e12_3, h12_3⟩ := Sl.elemZ 3 rfl h12_1 q12_3
      refine ap (y_index Tryd.underlying23 ty55 rfl e12_3 rfl (nth_in q12_3)) ?_
      obtain ⟨u12_4, h12_4, c12_4⟩ := PAt.one h12_3
      refine ap (y_load_cells ty55 rfl (fun _ h => h.sub) rfl c12_4 (Rp.len h12_4)) ?_
      refine a_cons (e_alloc (cs := [.slice none 0 0, .int .i64 0, .int .i64 0]) trivial rfl ty55 rfl ?_)
      intro b12_5
      refine a_cons (e_storeWhole (i := 0) (ds := u12_4) trivial ty55 rfl rfl rfl rfl (Rp.len h12_4) ((Rp.one h12_4)) rfl ?_)
      refine a_nil ?_
      refine a_freeze (α := TunnelFrame) (x := x12_3) (i := 0) rfl h12_4 ?_
      intro Hb12_5 lb12_5 hb12_5
      have hb0_0 := PAt.mono lb12_5 hb0_0
      have h9_7r0 := Sl.mono lb12_5 h9_7r0
      have hb10_7 := PAt.mono lb12_5 hb10_7
      have h12_0 := PAt.mono lb12_5 h12_0
      have h12_1 := Sl.mono lb12_5 h12_1
      have h12_3 := PAt.mono lb12_5 h12_3
      have h12_4 := Rp.mono lb12_5 h12_4
      have h3o3_2_1 := Sl.mono lb12_5 h3o3_2_1
      have h3o3_3_1 := Sl.mono lb12_5 h3o3_3_1
      have hj3_b3_2_0 := RepL.mono lb12_5 hj3_b3_2_0
      have hj3_b3_3_0 := RepL.mono lb12_5 hj3_b3_3_0
      have hg := Glob.mono lb12_5 hg
      refine a_en [(7, .pointer (some ⟨b3_2, 0, none⟩)), (8, .pointer (some ⟨b3_3, 0, none⟩)), (11, v9_7r0), (12, .pointer (some ⟨b10_7, 0, none⟩)), (13, .int .i64 x10_3.2), (14, .int .i64 x11_3.1), (15, .int .i64 x11_3.2), (16, .pointer (some ⟨b12_5, 0, none⟩))] ?_
      refine a_own [1, 2, 3, 4] (by decide) (L' := [.row vj3_b3_2_0 uj3_b3_2_0 64 6, .box b3_2 [vj3_b3_2_0, v3o3_2_1] 25, .row vj3_b3_3_0 uj3_b3_3_0 64 6, .box b3_3 [vj3_b3_3_0, v3o3_3_1] 25]) rfl ?_
      refine a_then ?_
      refine a_seq ?_
      refine a_region rfl ?_
      refine ap (y_assign rfl) ?_
      refine a_nil ?_
      refine a_then ?_
      refine a_seq ?_
      refine a_seq ?_
      obtain ⟨x14_3, q14_3, hm⟩ := bind_some hm
      refine d_region (S := Sw Hb12_5 [.box b3_2 [vj3_b3_2_0, v3o3_2_1] 25, .box b3_3 [vj3_b3_3_0, v3o3_3_1] 25]) (n := 8) (listed := (bits 8 0)) mixed (by kernel_rfl) rfl (by kernel_rfl) ?_
      refine dt 0 1 rfl trivial (y_load_boxagg ty25 rfl (knows_sw (i := 0) rfl) rfl rfl rfl) (sw0 [1, 3]) ?_
      refine dt 1 3 rfl trivial (y_move rfl) (sw0 [1, 3]) ?_
      obtain ⟨u14_2, h14_2, c14_2⟩ := PAt.one hb12_5
      refine dt 2 7 rfl trivial (y_load_cells ty55 rfl (fun _ h => h.1) rfl c14_2 (Rp.len h14_2)) (sw0 [1, 3]) ?_
      have h14_4 := TunnelFrame.at_Need hb12_5
      refine dt 4 23 rfl trivial (y_fieldAddr fo55_1 rfl) (sw0 [1, 3]) ?_
      have h14_5 := Span.at_Low h14_4
      refine dt 5 55 rfl trivial (y_fieldAddr fo32_0 rfl) (sw0 [1, 3]) ?_
      refine dt 6 119 rfl trivial (y_load_int ty3 rfl (fun _ h => h.1) rfl h14_5) (sw0 [1, 3]) ?_
      refine a_frow (i := 0) rfl rfl hj3_b3_2_0 rfl ?_
      intro H14_3q0f l14_3q0f h14_3q0f
      have h9_7r0 := Sl.mono l14_3q0f h9_7r0
      have hb10_7 := PAt.mono l14_3q0f hb10_7
      have hb12_5 := PAt.mono l14_3q0f hb12_5
      have h3o3_2_1 := Sl.mono l14_3q0f h3o3_2_1
      have h14_2 := Rp.mono l14_3q0f h14_2
      have h14_4 := PAt.mono l14_3q0f h14_4
      have h14_5 := PAt.mono l14_3q0f h14_5
      have h3o3_3_1 := Sl.mono l14_3q0f h3o3_3_1
      have hj3_b3_3_0 := RepL.mono l14_3q0f hj3_b3_3_0
      have hg := Glob.mono l14_3q0f hg
      have m14_3g0l : Rp.rep H14_3q0f [vj3_b3_2_0, v3o3_2_1] (⟨yj3_b3_2_0, p0.Frames⟩ : TunnelBook) := ⟨_, _, rfl, ⟨_, rfl, h14_3q0f⟩, ⟨_, rfl, h3o3_2_1⟩⟩
      refine d1 3 rfl (e_callV (all := [.agg [vj3_b3_2_0, v3o3_2_1].toArray, v9_7r0, .agg u14_2.toArray]) (v := .int .i64 x14_3) trivial rfl Tryd.func47 rfl rfl rfl rfl rfl (fun w hw => ok_47 hw m14_3g0l h9_7r0 h14_2 q14_3) ?_)
      refine dn 127 (swl l14_3q0f [1, 3]) ?_
      refine d_weaken (S' := Sw H14_3q0f [.box b3_2 [vj3_b3_2_0, v3o3_2_1] 25, .box b3_3 [vj3_b3_3_0, v3o3_3_1] 25]) (sw_sw l14_3q0f [0, 1] rfl) ?_
      refine dt 7 255 rfl trivial (y_lss rfl rfl) (sw0 [1, 3]) ?_
      refine d_done (by kernel_rfl) ?_
      refine a_en [(7, .pointer (some ⟨b3_2, 0, none⟩)), (8, .pointer (some ⟨b3_3, 0, none⟩)), (11, v9_7r0), (12, .pointer (some ⟨b10_7, 0, none⟩)), (13, .int .i64 x10_3.2), (14, .int .i64 x11_3.1), (15, .int .i64 x11_3.2), (16, .pointer (some ⟨b12_5, 0, none⟩)), (17, .int .i64 0), (107, .bool (decide (x14_3 < x12_3.Need.Low)))] ?_
      refine a_own [1, 2, 3] (by decide) (L' := [.box b3_2 [vj3_b3_2_0, v3o3_2_1] 25, .row vj3_b3_3_0 uj3_b3_3_0 64 6, .box b3_3 [vj3_b3_3_0, v3o3_3_1] 25]) rfl ?_
      refine a_then ?_
      obtain ⟨s_j6, hs_j6, hm_j6⟩ := bind_some hm
      refine a_join (fun a_ w_ => ∃ (yj6_17 : Int), yj6_17 = s_j6 ∧ Ag 145 [] [(7, .pointer (some ⟨b3_2, 0, none⟩)), (8, .pointer (some ⟨b3_3, 0, none⟩)), (11, v9_7r0), (12, .pointer (some ⟨b10_7, 0, none⟩)), (13, .int .i64 x10_3.2), (14, .int .i64 x11_3.1), (15, .int .i64 x11_3.2), (16, .pointer (some ⟨b12_5, 0, none⟩)), (17, .int .i64 yj6_17)] a_ ∧ St (Kp.mk w H noX) H14_3q0f ([.box b3_2 [vj3_b3_2_0, v3o3_2_1] 25, .row vj3_b3_3_0 uj3_b3_3_0 64 6, .box b3_3 [vj3_b3_3_0, v3o3_3_1] 25]) w_) ?_ ?_
      · have hm := hs_j6
        refine a_cond rfl (fun k_7 => ?_) (fun k_7 => ?_)
        · have hm := cond_t k_7 hm
          refine a_region rfl ?_
          refine ap (y_assign rfl) ?_
          refine a_nil ?_
          refine a_en [(7, .pointer (some ⟨b3_2, 0, none⟩)), (8, .pointer (some ⟨b3_3, 0, none⟩)), (11, v9_7r0), (12, .pointer (some ⟨b10_7, 0, none⟩)), (13, .int .i64 x10_3.2), (14, .int .i64 x11_3.1), (15, .int .i64 x11_3.2), (16, .pointer (some ⟨b12_5, 0, none⟩)), (17, .int .i64 1)] ?_
          refine a_cut ?_
          intro a_ w_ ha_ hs_
          exact ⟨1, Option.some.inj hm, ha_.weaken ⟨rfl, rfl, rfl, rfl, rfl, rfl, rfl, rfl, rfl, trivial⟩, hs_.reix [0, 1, 2] (by decide)⟩
        have hm := cond_f k_7 hm
        refine a_skip ?_
        refine a_cut ?_
        intro a_ w_ ha_ hs_
        exact ⟨0, Option.some.inj hm, ha_.weaken ⟨rfl, rfl, rfl, rfl, rfl, rfl, rfl, rfl, rfl, trivial⟩, hs_.reix [0, 1, 2] (by decide)⟩
      have hm := hm_j6
      rintro a_ w_ ⟨yj6_17, rfl, ha_, hs_⟩
      try dsimp only at hm
      refine a_start ha_ hs_ ?_
      refine a_then ?_
      refine a_seq ?_
      refine a_seq ?_
      obtain ⟨x16_3, q16_3, hm⟩ := bind_some hm
      refine d_region (S := Sw H14_3q0f [.box b3_2 [vj3_b3_2_0, v3o3_2_1] 25, .box b3_3 [vj3_b3_3_0, v3o3_3_1] 25]) (n := 8) (listed := (bits 8 0)) mixed (by kernel_rfl) rfl (by kernel_rfl) ?_
      refine dt 0 1 rfl trivial (y_load_boxagg ty25 rfl (knows_sw (i := 1) rfl) rfl rfl rfl) (sw0 [0, 2]) ?_
      refine dt 1 3 rfl trivial (y_move rfl) (sw0 [0, 2]) ?_
      obtain ⟨u16_2, h16_2, c16_2⟩ := PAt.one hb12_5
      refine dt 2 7 rfl trivial (y_load_cells ty55 rfl (fun _ h => h.1) rfl c16_2 (Rp.len h16_2)) (sw0 [0, 2]) ?_
      have h16_4 := TunnelFrame.at_Need hb12_5
      refine dt 4 23 rfl trivial (y_fieldAddr fo55_1 rfl) (sw0 [0, 2]) ?_
      have h16_5 := Span.at_High h16_4
      refine dt 5 55 rfl trivial (y_fieldAddr fo32_1 rfl) (sw0 [0, 2]) ?_
      refine dt 6 119 rfl trivial (y_load_int ty3 rfl (fun _ h => h.1) rfl h16_5) (sw0 [0, 2]) ?_
      refine a_frow (i := 1) rfl rfl hj3_b3_3_0 rfl ?_
      intro H16_3q0f l16_3q0f h16_3q0f
      have h9_7r0 := Sl.mono l16_3q0f h9_7r0
      have hb10_7 := PAt.mono l16_3q0f hb10_7
      have hb12_5 := PAt.mono l16_3q0f hb12_5
      have h3o3_3_1 := Sl.mono l16_3q0f h3o3_3_1
      have h16_2 := Rp.mono l16_3q0f h16_2
      have h16_4 := PAt.mono l16_3q0f h16_4
      have h16_5 := PAt.mono l16_3q0f h16_5
      have h14_3q0f := Sl.mono l16_3q0f h14_3q0f
      have h3o3_2_1 := Sl.mono l16_3q0f h3o3_2_1
      have hg := Glob.mono l16_3q0f hg
      have m16_3g0l : Rp.rep H16_3q0f [vj3_b3_3_0, v3o3_3_1] (⟨yj3_b3_3_0, p0.Frames⟩ : TunnelBook) := ⟨_, _, rfl, ⟨_, rfl, h16_3q0f⟩, ⟨_, rfl, h3o3_3_1⟩⟩
      refine d1 3 rfl (e_callV (all := [.agg [vj3_b3_3_0, v3o3_3_1].toArray, v9_7r0, .agg u16_2.toArray]) (v := .int .i64 x16_3) trivial rfl Tryd.func47 rfl rfl rfl rfl rfl (fun w hw => ok_47 hw m16_3g0l h9_7r0 h16_2 q16_3) ?_)
      refine dn 127 (swl l16_3q0f [0, 2]) ?_
      refine d_weaken (S' := Sw H16_3q0f [.box b3_2 [vj3_b3_2_0, v3o3_2_1] 25, .box b3_3 [vj3_b3_3_0, v3o3_3_1] 25]) (sw_sw l16_3q0f [0, 1] rfl) ?_
      refine dt 7 255 rfl trivial (y_gtr rfl rfl) (sw0 [0, 2]) ?_
      refine d_done (by kernel_rfl) ?_
      refine a_en [(7, .pointer (some ⟨b3_2, 0, none⟩)), (8, .pointer (some ⟨b3_3, 0, none⟩)), (11, v9_7r0), (12, .pointer (some ⟨b10_7, 0, none⟩)), (13, .int .i64 x10_3.2), (14, .int .i64 x11_3.1), (15, .int .i64 x11_3.2), (16, .pointer (some ⟨b12_5, 0, none⟩)), (17, .int .i64 yj6_17), (115, .bool (decide (x16_3 > x12_3.Need.High)))] ?_
      refine a_own [0, 2] (by decide) (L' := [.box b3_2 [vj3_b3_2_0, v3o3_2_1] 25, .box b3_3 [vj3_b3_3_0, v3o3_3_1] 25]) rfl ?_
      refine a_then ?_
      obtain ⟨s_j8, hs_j8, hm_j8⟩ := bind_some hm
      refine a_join (fun a_ w_ => ∃ (yj8_17 : Int), yj8_17 = s_j8 ∧ Ag 145 [] [(7, .pointer (some ⟨b3_2, 0, none⟩)), (8, .pointer (some ⟨b3_3, 0, none⟩)), (11, v9_7r0), (12, .pointer (some ⟨b10_7, 0, none⟩)), (13, .int .i64 x10_3.2), (14, .int .i64 x11_3.1), (15, .int .i64 x11_3.2), (16, .pointer (some ⟨b12_5, 0, none⟩)), (17, .int .i64 yj8_17)] a_ ∧ St (Kp.mk w H noX) H16_3q0f ([.box b3_2 [vj3_b3_2_0, v3o3_2_1] 25, .box b3_3 [vj3_b3_3_0, v3o3_3_1] 25]) w_) ?_ ?_
      · have hm := hs_j8
        refine a_cond rfl (fun k_9 => ?_) (fun k_9 => ?_)
        · have hm := cond_t k_9 hm
          refine a_region rfl ?_
          refine ap (y_move rfl) ?_
          refine ap (y_add rfl rfl) ?_
          refine ap (y_assign rfl) ?_
          refine a_nil ?_
          refine a_en [(7, .pointer (some ⟨b3_2, 0, none⟩)), (8, .pointer (some ⟨b3_3, 0, none⟩)), (11, v9_7r0), (12, .pointer (some ⟨b10_7, 0, none⟩)), (13, .int .i64 x10_3.2), (14, .int .i64 x11_3.1), (15, .int .i64 x11_3.2), (16, .pointer (some ⟨b12_5, 0, none⟩)), (17, .int .i64 (IntKind.i64.wrap (yj6_17 + 2)))] ?_
          refine a_cut ?_
          intro a_ w_ ha_ hs_
          exact ⟨IntKind.i64.wrap (yj6_17 + 2), Option.some.inj hm, ha_.weaken ⟨rfl, rfl, rfl, rfl, rfl, rfl, rfl, rfl, rfl, trivial⟩, hs_.reix [0, 1] (by decide)⟩
        have hm := cond_f k_9 hm
        refine a_skip ?_
        refine a_cut ?_
        intro a_ w_ ha_ hs_
        exact ⟨yj6_17, Option.some.inj hm, ha_.weaken ⟨rfl, rfl, rfl, rfl, rfl, rfl, rfl, rfl, rfl, trivial⟩, hs_.reix [0, 1] (by decide)⟩
      have hm := hm_j8
      rintro a_ w_ ⟨yj8_17, rfl, ha_, hs_⟩
      try dsimp only at hm
      refine a_start ha_ hs_ ?_
      refine a_then ?_
      refine a_seq ?_
      obtain ⟨s_j10, hs_j10, hm_j10⟩ := bind_some hm
      refine a_join (fun a_ w_ => ∃ (yj10_6 : Bool), yj10_6 = s_j10 ∧ Ag 145 [] [(6, .bool yj10_6)] a_ ∧ St (Kp.mk w H noX) H16_3q0f [] w_) ?_ ?_
      · have hm := hs_j10
        rcases Bool.eq_false_or_eq_true (x10_3.2 == 0) with k18_3 | k18_3
        · have hm := cond_t k18_3 hm
          rcases Bool.eq_false_or_eq_true (x11_3.2 == 0) with k18_7 | k18_7
          · have hm := cond_t k18_7 hm
            obtain ⟨x18_11, q18_11, hm⟩ := bind_some hm
            obtain ⟨x18_15, q18_15, hm⟩ := bind_some hm
            obtain ⟨x18_16, q18_16, hm⟩ := bind_some hm
            rcases Bool.eq_false_or_eq_true (decide (x10_3.1 = x18_16)) with k18_20 | k18_20
            · have hm := cond_t k18_20 hm
              rcases Bool.eq_false_or_eq_true (x11_3.1 == yj8_17) with k18_25 | k18_25
              · have hm := cond_t k18_25 hm
                obtain ⟨x18_25, q18_25, hm⟩ := bind_some hm
                refine d_region (S := Sw H16_3q0f [.box b3_2 [vj3_b3_2_0, v3o3_2_1] 25, .box b3_3 [vj3_b3_3_0, v3o3_3_1] 25]) (n := 28) (listed := (bits 28 0)) mixed (by kernel_rfl) rfl (by kernel_rfl) ?_
                refine dt 0 1 rfl trivial (y_move rfl) (sw0 [0, 1]) ?_
                refine dt 1 3 rfl trivial (y_eql rfl rfl) (sw0 [0, 1]) ?_
                refine dt 2 7 rfl trivial (y_move rfl) (sw0 [0, 1]) ?_
                refine dt 3 15 rfl ⟨_, _, rfl, rfl, k18_3⟩ (y_move rfl) (sw0 [0, 1]) ?_
                refine dt 4 31 rfl ⟨_, _, rfl, rfl, k18_3⟩ (y_eql rfl rfl) (sw0 [0, 1]) ?_
                refine dt 5 63 rfl trivial (y_pick_t rfl k18_3 rfl) (sw0 [0, 1]) ?_
                refine dt 6 127 rfl trivial (y_move rfl) (sw0 [0, 1]) ?_
                obtain ⟨u18_7, h18_7, c18_7⟩ := PAt.one hb10_7
                refine dt 7 255 rfl ⟨_, _, rfl, rfl, k18_7⟩ (y_load_cells ty32 rfl (fun _ h => h.1) rfl c18_7 (Rp.len h18_7)) (sw0 [0, 1]) ?_
                have m18_8 : Rp.rep H16_3q0f [vj3_b3_2_0, v3o3_2_1] (⟨yj3_b3_2_0, p0.Frames⟩ : TunnelBook) := ⟨_, _, rfl, ⟨_, rfl, h14_3q0f⟩, ⟨_, rfl, h3o3_2_1⟩⟩
                refine dt 8 511 rfl ⟨_, _, rfl, rfl, k18_7⟩ (y_load_boxagg ty25 rfl (knows_sw (i := 0) rfl) rfl rfl rfl) (sw0 [0, 1]) ?_
                refine dt 9 1023 rfl ⟨_, _, rfl, rfl, k18_7⟩ (y_move rfl) (sw0 [0, 1]) ?_
                obtain ⟨u18_10, h18_10, c18_10⟩ := PAt.one hb12_5
                refine dt 10 2047 rfl ⟨_, _, rfl, rfl, k18_7⟩ (y_load_cells ty55 rfl (fun _ h => h.1) rfl c18_10 (Rp.len h18_10)) (sw0 [0, 1]) ?_
                have m18_12 : Rp.rep H16_3q0f [vj3_b3_3_0, v3o3_3_1] (⟨yj3_b3_3_0, p0.Frames⟩ : TunnelBook) := ⟨_, _, rfl, ⟨_, rfl, h16_3q0f⟩, ⟨_, rfl, h3o3_3_1⟩⟩
                refine dt 12 6143 rfl ⟨_, _, rfl, rfl, k18_7⟩ (y_load_boxagg ty25 rfl (knows_sw (i := 1) rfl) rfl rfl rfl) (sw0 [0, 1]) ?_
                refine dt 13 14335 rfl ⟨_, _, rfl, rfl, k18_7⟩ (y_move rfl) (sw0 [0, 1]) ?_
                obtain ⟨u18_14, h18_14, c18_14⟩ := PAt.one hb12_5
                refine dt 14 30719 rfl ⟨_, _, rfl, rfl, k18_7⟩ (y_load_cells ty55 rfl (fun _ h => h.1) rfl c18_14 (Rp.len h18_14)) (sw0 [0, 1]) ?_
                refine d1 11 rfl (e_callV (all := [.agg [vj3_b3_2_0, v3o3_2_1].toArray, v9_7r0, .agg u18_10.toArray]) (v := .int .i64 x18_11) ⟨_, _, rfl, rfl, k18_7⟩ rfl Tryd.func47 rfl rfl rfl rfl rfl (fun w hw => ok_47 hw m18_8 h9_7r0 h18_10 q18_11) ?_)
                refine dn 32767 (sw0 [0, 1]) ?_
                refine d1 15 rfl (e_callV (all := [.agg [vj3_b3_3_0, v3o3_3_1].toArray, v9_7r0, .agg u18_14.toArray]) (v := .int .i64 x18_15) ⟨_, _, rfl, rfl, k18_7⟩ rfl Tryd.func47 rfl rfl rfl rfl rfl (fun w hw => ok_47 hw m18_12 h9_7r0 h18_14 q18_15) ?_)
                refine dn 65535 (sw0 [0, 1]) ?_
                refine d1 16 rfl (e_callV (all := [.int .i64 x18_11, .int .i64 x18_15]) (v := .agg x18_16.cells.toArray) ⟨_, _, rfl, rfl, k18_7⟩ rfl Tryd.func53 rfl rfl rfl rfl rfl (fun w hw => ok_53 hw q18_16) ?_)
                refine dn 131071 (sw0 [0, 1]) ?_
                refine dt 17 262143 rfl ⟨_, _, rfl, rfl, k18_7⟩ (y_eq32_eql rfl rfl h18_7 (Span.rep_mk H16_3q0f x18_16)) (sw0 [0, 1]) ?_
                refine dt 18 524287 rfl trivial (y_pick_t rfl k18_7 rfl) (sw0 [0, 1]) ?_
                refine dt 19 1048575 rfl trivial (y_move rfl) (sw0 [0, 1]) ?_
                refine dt 20 2097151 rfl ⟨_, _, rfl, rfl, k18_20⟩ (y_move rfl) (sw0 [0, 1]) ?_
                refine dt 21 4194303 rfl ⟨_, _, rfl, rfl, k18_20⟩ (y_move rfl) (sw0 [0, 1]) ?_
                refine dt 22 8388607 rfl ⟨_, _, rfl, rfl, k18_20⟩ (y_eql rfl rfl) (sw0 [0, 1]) ?_
                refine dt 23 16777215 rfl trivial (y_pick_t rfl k18_20 rfl) (sw0 [0, 1]) ?_
                refine dt 24 33554431 rfl trivial (y_move rfl) (sw0 [0, 1]) ?_
                refine d1 25 rfl (e_callV (all := []) (v := .bool x18_25) ⟨_, _, rfl, rfl, k18_25⟩ rfl Tryd.func30 rfl rfl rfl rfl rfl (fun w hw => ok_30 hw hg q18_25) ?_)
                refine dn 67108863 (sw0 [0, 1]) ?_
                refine dt 26 134217727 rfl trivial (y_pick_t rfl k18_25 rfl) (sw0 [0, 1]) ?_
                refine dt 27 268435455 rfl trivial (y_assign rfl) (sw0 [0, 1]) ?_
                refine d_done (by kernel_rfl) ?_
                refine a_en [(6, .bool x18_25)] ?_
                refine a_own [] (by decide) (L' := []) rfl ?_
                refine a_cut ?_
                intro a_ w_ ha_ hs_
                exact ⟨x18_25, Option.some.inj hm, ha_.weaken ⟨rfl, trivial⟩, hs_.reix [] (by decide)⟩
              have hm := cond_f k18_25 hm
              refine d_region (S := Sw H16_3q0f [.box b3_2 [vj3_b3_2_0, v3o3_2_1] 25, .box b3_3 [vj3_b3_3_0, v3o3_3_1] 25]) (n := 28) (listed := (bits 28 0)) mixed (by kernel_rfl) rfl (by kernel_rfl) ?_
              refine dt 0 1 rfl trivial (y_move rfl) (sw0 [0, 1]) ?_
              refine dt 1 3 rfl trivial (y_eql rfl rfl) (sw0 [0, 1]) ?_
              refine dt 2 7 rfl trivial (y_move rfl) (sw0 [0, 1]) ?_
              refine dt 3 15 rfl ⟨_, _, rfl, rfl, k18_3⟩ (y_move rfl) (sw0 [0, 1]) ?_
              refine dt 4 31 rfl ⟨_, _, rfl, rfl, k18_3⟩ (y_eql rfl rfl) (sw0 [0, 1]) ?_
              refine dt 5 63 rfl trivial (y_pick_t rfl k18_3 rfl) (sw0 [0, 1]) ?_
              refine dt 6 127 rfl trivial (y_move rfl) (sw0 [0, 1]) ?_
              obtain ⟨u18_7, h18_7, c18_7⟩ := PAt.one hb10_7
              refine dt 7 255 rfl ⟨_, _, rfl, rfl, k18_7⟩ (y_load_cells ty32 rfl (fun _ h => h.1) rfl c18_7 (Rp.len h18_7)) (sw0 [0, 1]) ?_
              have m18_8 : Rp.rep H16_3q0f [vj3_b3_2_0, v3o3_2_1] (⟨yj3_b3_2_0, p0.Frames⟩ : TunnelBook) := ⟨_, _, rfl, ⟨_, rfl, h14_3q0f⟩, ⟨_, rfl, h3o3_2_1⟩⟩
              refine dt 8 511 rfl ⟨_, _, rfl, rfl, k18_7⟩ (y_load_boxagg ty25 rfl (knows_sw (i := 0) rfl) rfl rfl rfl) (sw0 [0, 1]) ?_
              refine dt 9 1023 rfl ⟨_, _, rfl, rfl, k18_7⟩ (y_move rfl) (sw0 [0, 1]) ?_
              obtain ⟨u18_10, h18_10, c18_10⟩ := PAt.one hb12_5
              refine dt 10 2047 rfl ⟨_, _, rfl, rfl, k18_7⟩ (y_load_cells ty55 rfl (fun _ h => h.1) rfl c18_10 (Rp.len h18_10)) (sw0 [0, 1]) ?_
              have m18_12 : Rp.rep H16_3q0f [vj3_b3_3_0, v3o3_3_1] (⟨yj3_b3_3_0, p0.Frames⟩ : TunnelBook) := ⟨_, _, rfl, ⟨_, rfl, h16_3q0f⟩, ⟨_, rfl, h3o3_3_1⟩⟩
              refine dt 12 6143 rfl ⟨_, _, rfl, rfl, k18_7⟩ (y_load_boxagg ty25 rfl (knows_sw (i := 1) rfl) rfl rfl rfl) (sw0 [0, 1]) ?_
              refine dt 13 14335 rfl ⟨_, _, rfl, rfl, k18_7⟩ (y_move rfl) (sw0 [0, 1]) ?_
              obtain ⟨u18_14, h18_14, c18_14⟩ := PAt.one hb12_5
              refine dt 14 30719 rfl ⟨_, _, rfl, rfl, k18_7⟩ (y_load_cells ty55 rfl (fun _ h => h.1) rfl c18_14 (Rp.len h18_14)) (sw0 [0, 1]) ?_
              refine d1 11 rfl (e_callV (all := [.agg [vj3_b3_2_0, v3o3_2_1].toArray, v9_7r0, .agg u18_10.toArray]) (v := .int .i64 x18_11) ⟨_, _, rfl, rfl, k18_7⟩ rfl Tryd.func47 rfl rfl rfl rfl rfl (fun w hw => ok_47 hw m18_8 h9_7r0 h18_10 q18_11) ?_)
              refine dn 32767 (sw0 [0, 1]) ?_
              refine d1 15 rfl (e_callV (all := [.agg [vj3_b3_3_0, v3o3_3_1].toArray, v9_7r0, .agg u18_14.toArray]) (v := .int .i64 x18_15) ⟨_, _, rfl, rfl, k18_7⟩ rfl Tryd.func47 rfl rfl rfl rfl rfl (fun w hw => ok_47 hw m18_12 h9_7r0 h18_14 q18_15) ?_)
              refine dn 65535 (sw0 [0, 1]) ?_
              refine d1 16 rfl (e_callV (all := [.int .i64 x18_11, .int .i64 x18_15]) (v := .agg x18_16.cells.toArray) ⟨_, _, rfl, rfl, k18_7⟩ rfl Tryd.func53 rfl rfl rfl rfl rfl (fun w hw => ok_53 hw q18_16) ?_)
              refine dn 131071 (sw0 [0, 1]) ?_
              refine dt 17 262143 rfl ⟨_, _, rfl, rfl, k18_7⟩ (y_eq32_eql rfl rfl h18_7 (Span.rep_mk H16_3q0f x18_16)) (sw0 [0, 1]) ?_
              refine dt 18 524287 rfl trivial (y_pick_t rfl k18_7 rfl) (sw0 [0, 1]) ?_
              refine dt 19 1048575 rfl trivial (y_move rfl) (sw0 [0, 1]) ?_
              refine dt 20 2097151 rfl ⟨_, _, rfl, rfl, k18_20⟩ (y_move rfl) (sw0 [0, 1]) ?_
              refine dt 21 4194303 rfl ⟨_, _, rfl, rfl, k18_20⟩ (y_move rfl) (sw0 [0, 1]) ?_
              refine dt 22 8388607 rfl ⟨_, _, rfl, rfl, k18_20⟩ (y_eql rfl rfl) (sw0 [0, 1]) ?_
              refine dt 23 16777215 rfl trivial (y_pick_t rfl k18_20 rfl) (sw0 [0, 1]) ?_
              refine dt 24 33554431 rfl trivial (y_move rfl) (sw0 [0, 1]) ?_
              refine d1 25 rfl (p_skip (sk1 rfl rfl k18_25) rfl rfl ?_)
              refine dn 67108863 (sw0 [0, 1]) ?_
              refine dt 26 134217727 rfl trivial (y_pick_f rfl k18_25 rfl) (sw0 [0, 1]) ?_
              refine dt 27 268435455 rfl trivial (y_assign rfl) (sw0 [0, 1]) ?_
              refine d_done (by kernel_rfl) ?_
              refine a_en [(6, .bool false)] ?_
              refine a_own [] (by decide) (L' := []) rfl ?_
              refine a_cut ?_
              intro a_ w_ ha_ hs_
              exact ⟨false, Option.some.inj hm, ha_.weaken ⟨rfl, trivial⟩, hs_.reix [] (by decide)⟩
            have hm := cond_f k18_20 hm
            refine d_region (S := Sw H16_3q0f [.box b3_2 [vj3_b3_2_0, v3o3_2_1] 25, .box b3_3 [vj3_b3_3_0, v3o3_3_1] 25]) (n := 28) (listed := (bits 28 0)) mixed (by kernel_rfl) rfl (by kernel_rfl) ?_
            refine dt 0 1 rfl trivial (y_move rfl) (sw0 [0, 1]) ?_
            refine dt 1 3 rfl trivial (y_eql rfl rfl) (sw0 [0, 1]) ?_
            refine dt 2 7 rfl trivial (y_move rfl) (sw0 [0, 1]) ?_
            refine dt 3 15 rfl ⟨_, _, rfl, rfl, k18_3⟩ (y_move rfl) (sw0 [0, 1]) ?_
            refine dt 4 31 rfl ⟨_, _, rfl, rfl, k18_3⟩ (y_eql rfl rfl) (sw0 [0, 1]) ?_
            refine dt 5 63 rfl trivial (y_pick_t rfl k18_3 rfl) (sw0 [0, 1]) ?_
            refine dt 6 127 rfl trivial (y_move rfl) (sw0 [0, 1]) ?_
            obtain ⟨u18_7, h18_7, c18_7⟩ := PAt.one hb10_7
            refine dt 7 255 rfl ⟨_, _, rfl, rfl, k18_7⟩ (y_load_cells ty32 rfl (fun _ h => h.1) rfl c18_7 (Rp.len h18_7)) (sw0 [0, 1]) ?_
            have m18_8 : Rp.rep H16_3q0f [vj3_b3_2_0, v3o3_2_1] (⟨yj3_b3_2_0, p0.Frames⟩ : TunnelBook) := ⟨_, _, rfl, ⟨_, rfl, h14_3q0f⟩, ⟨_, rfl, h3o3_2_1⟩⟩
            refine dt 8 511 rfl ⟨_, _, rfl, rfl, k18_7⟩ (y_load_boxagg ty25 rfl (knows_sw (i := 0) rfl) rfl rfl rfl) (sw0 [0, 1]) ?_
            refine dt 9 1023 rfl ⟨_, _, rfl, rfl, k18_7⟩ (y_move rfl) (sw0 [0, 1]) ?_
            obtain ⟨u18_10, h18_10, c18_10⟩ := PAt.one hb12_5
            refine dt 10 2047 rfl ⟨_, _, rfl, rfl, k18_7⟩ (y_load_cells ty55 rfl (fun _ h => h.1) rfl c18_10 (Rp.len h18_10)) (sw0 [0, 1]) ?_
            have m18_12 : Rp.rep H16_3q0f [vj3_b3_3_0, v3o3_3_1] (⟨yj3_b3_3_0, p0.Frames⟩ : TunnelBook) := ⟨_, _, rfl, ⟨_, rfl, h16_3q0f⟩, ⟨_, rfl, h3o3_3_1⟩⟩
            refine dt 12 6143 rfl ⟨_, _, rfl, rfl, k18_7⟩ (y_load_boxagg ty25 rfl (knows_sw (i := 1) rfl) rfl rfl rfl) (sw0 [0, 1]) ?_
            refine dt 13 14335 rfl ⟨_, _, rfl, rfl, k18_7⟩ (y_move rfl) (sw0 [0, 1]) ?_
            obtain ⟨u18_14, h18_14, c18_14⟩ := PAt.one hb12_5
            refine dt 14 30719 rfl ⟨_, _, rfl, rfl, k18_7⟩ (y_load_cells ty55 rfl (fun _ h => h.1) rfl c18_14 (Rp.len h18_14)) (sw0 [0, 1]) ?_
            refine d1 11 rfl (e_callV (all := [.agg [vj3_b3_2_0, v3o3_2_1].toArray, v9_7r0, .agg u18_10.toArray]) (v := .int .i64 x18_11) ⟨_, _, rfl, rfl, k18_7⟩ rfl Tryd.func47 rfl rfl rfl rfl rfl (fun w hw => ok_47 hw m18_8 h9_7r0 h18_10 q18_11) ?_)
            refine dn 32767 (sw0 [0, 1]) ?_
            refine d1 15 rfl (e_callV (all := [.agg [vj3_b3_3_0, v3o3_3_1].toArray, v9_7r0, .agg u18_14.toArray]) (v := .int .i64 x18_15) ⟨_, _, rfl, rfl, k18_7⟩ rfl Tryd.func47 rfl rfl rfl rfl rfl (fun w hw => ok_47 hw m18_12 h9_7r0 h18_14 q18_15) ?_)
            refine dn 65535 (sw0 [0, 1]) ?_
            refine d1 16 rfl (e_callV (all := [.int .i64 x18_11, .int .i64 x18_15]) (v := .agg x18_16.cells.toArray) ⟨_, _, rfl, rfl, k18_7⟩ rfl Tryd.func53 rfl rfl rfl rfl rfl (fun w hw => ok_53 hw q18_16) ?_)
            refine dn 131071 (sw0 [0, 1]) ?_
            refine dt 17 262143 rfl ⟨_, _, rfl, rfl, k18_7⟩ (y_eq32_eql rfl rfl h18_7 (Span.rep_mk H16_3q0f x18_16)) (sw0 [0, 1]) ?_
            refine dt 18 524287 rfl trivial (y_pick_t rfl k18_7 rfl) (sw0 [0, 1]) ?_
            refine dt 19 1048575 rfl trivial (y_move rfl) (sw0 [0, 1]) ?_
            refine dk 20 2097151 rfl (sk1 rfl rfl k18_20) (sw0 [0, 1]) ?_
            refine dk 21 4194303 rfl (sk1 rfl rfl k18_20) (sw0 [0, 1]) ?_
            refine dk 22 8388607 rfl (sk1 rfl rfl k18_20) (sw0 [0, 1]) ?_
            refine dt 23 16777215 rfl trivial (y_pick_f rfl k18_20 rfl) (sw0 [0, 1]) ?_
            refine dt 24 33554431 rfl trivial (y_move rfl) (sw0 [0, 1]) ?_
            refine d1 25 rfl (p_skip (sk1 rfl rfl rfl) rfl rfl ?_)
            refine dn 67108863 (sw0 [0, 1]) ?_
            refine dt 26 134217727 rfl trivial (y_pick_f rfl rfl rfl) (sw0 [0, 1]) ?_
            refine dt 27 268435455 rfl trivial (y_assign rfl) (sw0 [0, 1]) ?_
            refine d_done (by kernel_rfl) ?_
            refine a_en [(6, .bool false)] ?_
            refine a_own [] (by decide) (L' := []) rfl ?_
            refine a_cut ?_
            intro a_ w_ ha_ hs_
            exact ⟨false, Option.some.inj hm, ha_.weaken ⟨rfl, trivial⟩, hs_.reix [] (by decide)⟩
          have hm := cond_f k18_7 hm
          refine d_region (S := Sw H16_3q0f [.box b3_2 [vj3_b3_2_0, v3o3_2_1] 25, .box b3_3 [vj3_b3_3_0, v3o3_3_1] 25]) (n := 28) (listed := (bits 28 0)) mixed (by kernel_rfl) rfl (by kernel_rfl) ?_
          refine dt 0 1 rfl trivial (y_move rfl) (sw0 [0, 1]) ?_
          refine dt 1 3 rfl trivial (y_eql rfl rfl) (sw0 [0, 1]) ?_
          refine dt 2 7 rfl trivial (y_move rfl) (sw0 [0, 1]) ?_
          refine dt 3 15 rfl ⟨_, _, rfl, rfl, k18_3⟩ (y_move rfl) (sw0 [0, 1]) ?_
          refine dt 4 31 rfl ⟨_, _, rfl, rfl, k18_3⟩ (y_eql rfl rfl) (sw0 [0, 1]) ?_
          refine dt 5 63 rfl trivial (y_pick_t rfl k18_3 rfl) (sw0 [0, 1]) ?_
          refine dt 6 127 rfl trivial (y_move rfl) (sw0 [0, 1]) ?_
          refine dk 7 255 rfl (sk1 rfl rfl k18_7) (sw0 [0, 1]) ?_
          refine dk 8 511 rfl (sk1 rfl rfl k18_7) (sw0 [0, 1]) ?_
          refine dk 9 1023 rfl (sk1 rfl rfl k18_7) (sw0 [0, 1]) ?_
          refine dk 10 2047 rfl (sk1 rfl rfl k18_7) (sw0 [0, 1]) ?_
          refine dk 12 6143 rfl (sk1 rfl rfl k18_7) (sw0 [0, 1]) ?_
          refine dk 13 14335 rfl (sk1 rfl rfl k18_7) (sw0 [0, 1]) ?_
          refine dk 14 30719 rfl (sk1 rfl rfl k18_7) (sw0 [0, 1]) ?_
          refine d1 11 rfl (p_skip (sk1 rfl rfl k18_7) rfl rfl ?_)
          refine dn 32767 (sw0 [0, 1]) ?_
          refine d1 15 rfl (p_skip (sk1 rfl rfl k18_7) rfl rfl ?_)
          refine dn 65535 (sw0 [0, 1]) ?_
          refine d1 16 rfl (p_skip (sk1 rfl rfl k18_7) rfl rfl ?_)
          refine dn 131071 (sw0 [0, 1]) ?_
          refine dk 17 262143 rfl (sk1 rfl rfl k18_7) (sw0 [0, 1]) ?_
          refine dt 18 524287 rfl trivial (y_pick_f rfl k18_7 rfl) (sw0 [0, 1]) ?_
          refine dt 19 1048575 rfl trivial (y_move rfl) (sw0 [0, 1]) ?_
          refine dk 20 2097151 rfl (sk1 rfl rfl rfl) (sw0 [0, 1]) ?_
          refine dk 21 4194303 rfl (sk1 rfl rfl rfl) (sw0 [0, 1]) ?_
          refine dk 22 8388607 rfl (sk1 rfl rfl rfl) (sw0 [0, 1]) ?_
          refine dt 23 16777215 rfl trivial (y_pick_f rfl rfl rfl) (sw0 [0, 1]) ?_
          refine dt 24 33554431 rfl trivial (y_move rfl) (sw0 [0, 1]) ?_
          refine d1 25 rfl (p_skip (sk1 rfl rfl rfl) rfl rfl ?_)
          refine dn 67108863 (sw0 [0, 1]) ?_
          refine dt 26 134217727 rfl trivial (y_pick_f rfl rfl rfl) (sw0 [0, 1]) ?_
          refine dt 27 268435455 rfl trivial (y_assign rfl) (sw0 [0, 1]) ?_
          refine d_done (by kernel_rfl) ?_
          refine a_en [(6, .bool false)] ?_
          refine a_own [] (by decide) (L' := []) rfl ?_
          refine a_cut ?_
          intro a_ w_ ha_ hs_
          exact ⟨false, Option.some.inj hm, ha_.weaken ⟨rfl, trivial⟩, hs_.reix [] (by decide)⟩
        have hm := cond_f k18_3 hm
        refine d_region (S := Sw H16_3q0f [.box b3_2 [vj3_b3_2_0, v3o3_2_1] 25, .box b3_3 [vj3_b3_3_0, v3o3_3_1] 25]) (n := 28) (listed := (bits 28 0)) mixed (by kernel_rfl) rfl (by kernel_rfl) ?_
        refine dt 0 1 rfl trivial (y_move rfl) (sw0 [0, 1]) ?_
        refine dt 1 3 rfl trivial (y_eql rfl rfl) (sw0 [0, 1]) ?_
        refine dt 2 7 rfl trivial (y_move rfl) (sw0 [0, 1]) ?_
        refine dk 3 15 rfl (sk1 rfl rfl k18_3) (sw0 [0, 1]) ?_
        refine dk 4 31 rfl (sk1 rfl rfl k18_3) (sw0 [0, 1]) ?_
        refine dt 5 63 rfl trivial (y_pick_f rfl k18_3 rfl) (sw0 [0, 1]) ?_
        refine dt 6 127 rfl trivial (y_move rfl) (sw0 [0, 1]) ?_
        refine dk 7 255 rfl (sk1 rfl rfl rfl) (sw0 [0, 1]) ?_
        refine dk 8 511 rfl (sk1 rfl rfl rfl) (sw0 [0, 1]) ?_
        refine dk 9 1023 rfl (sk1 rfl rfl rfl) (sw0 [0, 1]) ?_
        refine dk 10 2047 rfl (sk1 rfl rfl rfl) (sw0 [0, 1]) ?_
        refine dk 12 6143 rfl (sk1 rfl rfl rfl) (sw0 [0, 1]) ?_
        refine dk 13 14335 rfl (sk1 rfl rfl rfl) (sw0 [0, 1]) ?_
        refine dk 14 30719 rfl (sk1 rfl rfl rfl) (sw0 [0, 1]) ?_
        refine d1 11 rfl (p_skip (sk1 rfl rfl rfl) rfl rfl ?_)
        refine dn 32767 (sw0 [0, 1]) ?_
        refine d1 15 rfl (p_skip (sk1 rfl rfl rfl) rfl rfl ?_)
        refine dn 65535 (sw0 [0, 1]) ?_
        refine d1 16 rfl (p_skip (sk1 rfl rfl rfl) rfl rfl ?_)
        refine dn 131071 (sw0 [0, 1]) ?_
        refine dk 17 262143 rfl (sk1 rfl rfl rfl) (sw0 [0, 1]) ?_
        refine dt 18 524287 rfl trivial (y_pick_f rfl rfl rfl) (sw0 [0, 1]) ?_
        refine dt 19 1048575 rfl trivial (y_move rfl) (sw0 [0, 1]) ?_
        refine dk 20 2097151 rfl (sk1 rfl rfl rfl) (sw0 [0, 1]) ?_
        refine dk 21 4194303 rfl (sk1 rfl rfl rfl) (sw0 [0, 1]) ?_
        refine dk 22 8388607 rfl (sk1 rfl rfl rfl) (sw0 [0, 1]) ?_
        refine dt 23 16777215 rfl trivial (y_pick_f rfl rfl rfl) (sw0 [0, 1]) ?_
        refine dt 24 33554431 rfl trivial (y_move rfl) (sw0 [0, 1]) ?_
        refine d1 25 rfl (p_skip (sk1 rfl rfl rfl) rfl rfl ?_)
        refine dn 67108863 (sw0 [0, 1]) ?_
        refine dt 26 134217727 rfl trivial (y_pick_f rfl rfl rfl) (sw0 [0, 1]) ?_
        refine dt 27 268435455 rfl trivial (y_assign rfl) (sw0 [0, 1]) ?_
        refine d_done (by kernel_rfl) ?_
        refine a_en [(6, .bool false)] ?_
        refine a_own [] (by decide) (L' := []) rfl ?_
        refine a_cut ?_
        intro a_ w_ ha_ hs_
        exact ⟨false, Option.some.inj hm, ha_.weaken ⟨rfl, trivial⟩, hs_.reix [] (by decide)⟩
      have hm := hm_j10
      rintro a_ w_ ⟨yj10_6, rfl, ha_, hs_⟩
      try dsimp only at hm
      refine a_start ha_ hs_ ?_
      refine a_then ?_
      refine a_ret ?_
      refine a_done (v := .bool yj10_6) (.inl rfl) rfl ?_ ?_
      · intro a_ w_ ha_ hs_; exact run_results (P := Tryd.prog) (fn := Tryd.f7) (rs := [.tmp 6]) (vs := [.bool yj10_6]) rfl (.cons (rv_tmp ha_ rfl) (All2.nil))
      · intro _ _; obtain rfl := Option.some.inj hm
        rfl
    have N4_1 (Hn4_6 : Hp) (ln4_6 : HLe Hn3_5 Hn4_6) (v4_3 : Value) (u4_3 : List Value) (v4_7 : Value) (u4_7 : List Value) (h4_3 : RepL (α := TunnelPart) Hn4_6 u4_3 x4_3) (h4_7 : RepL (α := TunnelPart) Hn4_6 u4_7 x4_7) : At 145 [] (Kp.mk w H noX) [(1, v1), (2, .int .i64 p2), (3, .pointer (some ⟨b0_0, 0, none⟩)), (7, .pointer (some ⟨b3_2, 0, none⟩)), (8, .pointer (some ⟨b3_3, 0, none⟩)), (37, v4_7)] Hn4_6 ([.box b3_2 [v4_3, v3o3_2_1] 25, .box b3_3 [v3o3_3_0, v3o3_3_1] 25, .row v4_3 u4_3 64 6, .row v4_7 u4_7 64 6]) (U4 (Sw Hn4_6 []) 2 (bits 12 1023)) := by
      refine d_fwd hU4 ?_
      have h1 := Sl.mono ln4_6 h1
      have hb0_0 := PAt.mono ln4_6 hb0_0
      have h3o3_3_0 := Sl.mono ln4_6 h3o3_3_0
      have h3o3_3_1 := Sl.mono ln4_6 h3o3_3_1
      have h3o3_2_1 := Sl.mono ln4_6 h3o3_2_1
      have hg := Glob.mono ln4_6 hg
      refine dt 10 2047 rfl trivial (y_fieldAddr fo25_0 rfl) (sw0 []) ?_
      refine d1 11 rfl (e_storeLR (i := 1) (j := 3) (cs' := [v4_7, v3o3_3_1]) trivial ty22 rfl rfl rfl rfl (Nat.le_of_ble_eq_true rfl) rfl ?_)
      refine dn 4095 (sw0 []) ?_
      exact d_edge hU4 (N4_0 Hn4_6 ln4_6 v4_3 u4_3 v4_7 u4_7 h4_3 h4_7) ⟨rfl, rfl, rfl, rfl, rfl, trivial⟩ [0, 1, 2, 3] (by decide) rfl (fun _ h => h)
    have N4_2 (Hn4_5 : Hp) (ln4_5 : HLe Hn3_5 Hn4_5) (v4_3 : Value) (u4_3 : List Value) (v4_7 : Value) (u4_7 : List Value) (h4_3 : RepL (α := TunnelPart) Hn4_5 u4_3 x4_3) (h4_7 : RepL (α := TunnelPart) Hn4_5 u4_7 x4_7) : At 145 [] (Kp.mk w H noX) [(1, v1), (2, .int .i64 p2), (3, .pointer (some ⟨b0_0, 0, none⟩)), (7, .pointer (some ⟨b3_2, 0, none⟩)), (8, .pointer (some ⟨b3_3, 0, none⟩)), (33, v4_3), (37, v4_7), (38, .pointer (some ⟨b3_2, 0, none⟩))] Hn4_5 ([.box b3_2 [v3o3_2_0, v3o3_2_1] 25, .box b3_3 [v3o3_3_0, v3o3_3_1] 25, .row v4_3 u4_3 64 6, .row v4_7 u4_7 64 6]) (U4 (Sw Hn4_5 []) 3 (bits 12 511)) := by
      refine d_fwd hU4 ?_
      have h1 := Sl.mono ln4_5 h1
      have hb0_0 := PAt.mono ln4_5 hb0_0
      have h3o3_3_0 := Sl.mono ln4_5 h3o3_3_0
      have h3o3_3_1 := Sl.mono ln4_5 h3o3_3_1
      have h3o3_2_0 := Sl.mono ln4_5 h3o3_2_0
      have h3o3_2_1 := Sl.mono ln4_5 h3o3_2_1
      have hg := Glob.mono ln4_5 hg
      refine d1 9 rfl (e_storeLR (i := 0) (j := 2) (cs' := [v4_3, v3o3_2_1]) trivial ty22 rfl rfl rfl rfl (Nat.le_of_ble_eq_true rfl) rfl ?_)
      refine dn 1023 (sw0 []) ?_
      exact d_edge hU4 (N4_1 Hn4_5 ln4_5 v4_3 u4_3 v4_7 u4_7 h4_3 h4_7) ⟨rfl, rfl, rfl, rfl, rfl, rfl, trivial⟩ [0, 1, 2, 3] (by decide) rfl (fun _ h => h)
    have N4_3 (Hn4_9 : Hp) (ln4_9 : HLe Hn3_5 Hn4_9) (v4_6 : Value) (v4_3 : Value) (u4_3 : List Value) (v4_4 : Value) (h4_6 : Sl (α := TunnelPart) Hn4_9 v4_6 p0.Parts) (h4_3 : RepL (α := TunnelPart) Hn4_9 u4_3 x4_3) (h4_4 : RepL (α := TunnelPart) Hn4_9 [] ([] : List TunnelPart)) : At 145 [] (Kp.mk w H noX) [(1, v1), (2, .int .i64 p2), (3, .pointer (some ⟨b0_0, 0, none⟩)), (7, .pointer (some ⟨b3_2, 0, none⟩)), (8, .pointer (some ⟨b3_3, 0, none⟩)), (33, v4_3), (34, v4_4), (36, v4_6), (38, .pointer (some ⟨b3_2, 0, none⟩))] Hn4_9 ([.box b3_2 [v3o3_2_0, v3o3_2_1] 25, .box b3_3 [v3o3_3_0, v3o3_3_1] 25, .row v4_3 u4_3 64 6, .row v4_4 [] 64 6]) (U4 (Sw Hn4_9 []) 4 (bits 12 383)) := by
      refine d_fwd hU4 ?_
      have h1 := Sl.mono ln4_9 h1
      have hb0_0 := PAt.mono ln4_9 hb0_0
      have h3o3_3_0 := Sl.mono ln4_9 h3o3_3_0
      have h3o3_3_1 := Sl.mono ln4_9 h3o3_3_1
      have h3o3_2_0 := Sl.mono ln4_9 h3o3_2_0
      have h3o3_2_1 := Sl.mono ln4_9 h3o3_2_1
      have hg := Glob.mono ln4_9 hg
      refine d1 7 rfl (e_app_sl (i := 3) trivial rfl Tryd.underlying22 Tryd.underlying22 ty64 rfl rfl rfl rfl rfl rfl rfl rfl h4_4 h4_6 q4_7 ?_)
      intro v4_7 u4_7 h4_7
      refine dn 511 (sw0 []) ?_
      exact d_edge hU4 (N4_2 Hn4_9 ln4_9 v4_3 u4_3 v4_7 u4_7 h4_3 h4_7) ⟨rfl, rfl, rfl, rfl, rfl, rfl, rfl, rfl, trivial⟩ [0, 1, 2, 3] (by decide) rfl (fun _ h => h)
    have N4_4 (Hn4_4 : Hp) (ln4_4 : HLe Hn3_5 Hn4_4) (v4_6 : Value) (v4_3 : Value) (u4_3 : List Value) (v4_4 : Value) (h4_6 : Sl (α := TunnelPart) Hn4_4 v4_6 p0.Parts) (h4_3 : RepL (α := TunnelPart) Hn4_4 u4_3 x4_3) (h4_4 : RepL (α := TunnelPart) Hn4_4 [] ([] : List TunnelPart)) : At 145 [] (Kp.mk w H noX) [(1, v1), (2, .int .i64 p2), (3, .pointer (some ⟨b0_0, 0, none⟩)), (7, .pointer (some ⟨b3_2, 0, none⟩)), (8, .pointer (some ⟨b3_3, 0, none⟩)), (33, v4_3), (34, v4_4), (36, v4_6)] Hn4_4 ([.box b3_2 [v3o3_2_0, v3o3_2_1] 25, .box b3_3 [v3o3_3_0, v3o3_3_1] 25, .row v4_3 u4_3 64 6, .row v4_4 [] 64 6]) (U4 (Sw Hn4_4 []) 5 (bits 12 127)) := by
      refine d_fwd hU4 ?_
      have h1 := Sl.mono ln4_4 h1
      have hb0_0 := PAt.mono ln4_4 hb0_0
      have h3o3_3_0 := Sl.mono ln4_4 h3o3_3_0
      have h3o3_3_1 := Sl.mono ln4_4 h3o3_3_1
      have h3o3_2_0 := Sl.mono ln4_4 h3o3_2_0
      have h3o3_2_1 := Sl.mono ln4_4 h3o3_2_1
      have hg := Glob.mono ln4_4 hg
      refine dt 8 383 rfl trivial (y_fieldAddr fo25_0 rfl) (sw0 []) ?_
      refine d1 7 rfl (e_app_sl (i := 3) trivial rfl Tryd.underlying22 Tryd.underlying22 ty64 rfl rfl rfl rfl rfl rfl rfl rfl h4_4 h4_6 q4_7 ?_)
      intro v4_7 u4_7 h4_7
      refine dn 511 (sw0 []) ?_
      exact d_edge hU4 (N4_2 Hn4_4 ln4_4 v4_3 u4_3 v4_7 u4_7 h4_3 h4_7) ⟨rfl, rfl, rfl, rfl, rfl, rfl, rfl, rfl, trivial⟩ [0, 1, 2, 3] (by decide) rfl (fun _ h => h)
    have N4_5 (Hn4_8 : Hp) (ln4_8 : HLe Hn3_5 Hn4_8) (v4_6 : Value) (v4_3 : Value) (u4_3 : List Value) (h4_6 : Sl (α := TunnelPart) Hn4_8 v4_6 p0.Parts) (h4_3 : RepL (α := TunnelPart) Hn4_8 u4_3 x4_3) : At 145 [] (Kp.mk w H noX) [(1, v1), (2, .int .i64 p2), (3, .pointer (some ⟨b0_0, 0, none⟩)), (7, .pointer (some ⟨b3_2, 0, none⟩)), (8, .pointer (some ⟨b3_3, 0, none⟩)), (33, v4_3), (36, v4_6)] Hn4_8 ([.box b3_2 [v3o3_2_0, v3o3_2_1] 25, .box b3_3 [v3o3_3_0, v3o3_3_1] 25, .row v4_3 u4_3 64 6]) (U4 (Sw Hn4_8 []) 6 (bits 12 111)) := by
      refine d_fwd hU4 ?_
      have h1 := Sl.mono ln4_8 h1
      have hb0_0 := PAt.mono ln4_8 hb0_0
      have h3o3_3_0 := Sl.mono ln4_8 h3o3_3_0
      have h3o3_3_1 := Sl.mono ln4_8 h3o3_3_1
      have h3o3_2_0 := Sl.mono ln4_8 h3o3_2_0
      have h3o3_2_1 := Sl.mono ln4_8 h3o3_2_1
      have hg := Glob.mono ln4_8 hg
      refine dt 8 367 rfl trivial (y_fieldAddr fo25_0 rfl) (sw0 []) ?_
      refine d1 4 rfl (e_buildSlice (xs := []) (cs := []) trivial rfl Tryd.underlying22 ty64 rfl rfl rfl (by simp [Value.cells]) rfl (rfl) ?_)
      intro v4_4
      have h4_4 : RepL (α := TunnelPart) Hn4_8 ([]) [] := (RepL.nil (α := TunnelPart))
      refine dn 383 (sw0 []) ?_
      exact d_edge hU4 (N4_3 Hn4_8 ln4_8 v4_6 v4_3 u4_3 v4_4 h4_6 h4_3 h4_4) ⟨rfl, rfl, rfl, rfl, rfl, rfl, rfl, rfl, rfl, trivial⟩ [1, 2, 3, 0] (by decide) rfl (fun _ h => h)
    have N4_6 (Hn4_3 : Hp) (ln4_3 : HLe Hn3_5 Hn4_3) (v4_2 : Value) (v4_6 : Value) (v4_0 : Value) (v4_4 : Value) (h4_2 : Sl (α := TunnelPart) Hn4_3 v4_2 p0.Parts) (h4_6 : Sl (α := TunnelPart) Hn4_3 v4_6 p0.Parts) (h4_0 : RepL (α := TunnelPart) Hn4_3 [] ([] : List TunnelPart)) (h4_4 : RepL (α := TunnelPart) Hn4_3 [] ([] : List TunnelPart)) : At 145 [] (Kp.mk w H noX) [(1, v1), (2, .int .i64 p2), (3, .pointer (some ⟨b0_0, 0, none⟩)), (7, .pointer (some ⟨b3_2, 0, none⟩)), (8, .pointer (some ⟨b3_3, 0, none⟩)), (30, v4_0), (32, v4_2), (34, v4_4), (36, v4_6)] Hn4_3 ([.box b3_2 [v3o3_2_0, v3o3_2_1] 25, .box b3_3 [v3o3_3_0, v3o3_3_1] 25, .row v4_0 [] 64 6, .row v4_4 [] 64 6]) (U4 (Sw Hn4_3 []) 6 (bits 12 119)) := by
      refine d_fwd hU4 ?_
      have h1 := Sl.mono ln4_3 h1
      have hb0_0 := PAt.mono ln4_3 hb0_0
      have h3o3_3_0 := Sl.mono ln4_3 h3o3_3_0
      have h3o3_3_1 := Sl.mono ln4_3 h3o3_3_1
      have h3o3_2_0 := Sl.mono ln4_3 h3o3_2_0
      have h3o3_2_1 := Sl.mono ln4_3 h3o3_2_1
      have hg := Glob.mono ln4_3 hg
      refine d1 3 rfl (e_app_sl (i := 2) trivial rfl Tryd.underlying22 Tryd.underlying22 ty64 rfl rfl rfl rfl rfl rfl rfl rfl h4_0 h4_2 q4_3 ?_)
      intro v4_3 u4_3 h4_3
      refine dn 127 (sw0 []) ?_
      exact d_edge hU4 (N4_4 Hn4_3 ln4_3 v4_6 v4_3 u4_3 v4_4 h4_6 h4_3 h4_4) ⟨rfl, rfl, rfl, rfl, rfl, rfl, rfl, rfl, trivial⟩ [0, 1, 2, 3] (by decide) rfl (fun _ h => h)
    have N4_7 (Hn4_1 : Hp) (ln4_1 : HLe Hn3_5 Hn4_1) (v4_2 : Value) (v4_6 : Value) (v4_0 : Value) (h4_2 : Sl (α := TunnelPart) Hn4_1 v4_2 p0.Parts) (h4_6 : Sl (α := TunnelPart) Hn4_1 v4_6 p0.Parts) (h4_0 : RepL (α := TunnelPart) Hn4_1 [] ([] : List TunnelPart)) : At 145 [] (Kp.mk w H noX) [(1, v1), (2, .int .i64 p2), (3, .pointer (some ⟨b0_0, 0, none⟩)), (7, .pointer (some ⟨b3_2, 0, none⟩)), (8, .pointer (some ⟨b3_3, 0, none⟩)), (30, v4_0), (32, v4_2), (36, v4_6)] Hn4_1 ([.box b3_2 [v3o3_2_0, v3o3_2_1] 25, .box b3_3 [v3o3_3_0, v3o3_3_1] 25, .row v4_0 [] 64 6]) (U4 (Sw Hn4_1 []) 7 (bits 12 103)) := by
      refine d_fwd hU4 ?_
      have h1 := Sl.mono ln4_1 h1
      have hb0_0 := PAt.mono ln4_1 hb0_0
      have h3o3_3_0 := Sl.mono ln4_1 h3o3_3_0
      have h3o3_3_1 := Sl.mono ln4_1 h3o3_3_1
      have h3o3_2_0 := Sl.mono ln4_1 h3o3_2_0
      have h3o3_2_1 := Sl.mono ln4_1 h3o3_2_1
      have hg := Glob.mono ln4_1 hg
      refine d_all (rs := [3, 4]) (by kernel_rfl) rfl ⟨⟨_, rfl, ?_⟩, ⟨_, rfl, ?_⟩, trivial⟩
      · refine e_app_sl (i := 2) trivial rfl Tryd.underlying22 Tryd.underlying22 ty64 rfl rfl rfl rfl rfl rfl rfl rfl h4_0 h4_2 q4_3 ?_
        intro v4_3 u4_3 h4_3
        refine dn 111 (sw0 []) ?_
        exact d_edge hU4 (N4_5 Hn4_1 ln4_1 v4_6 v4_3 u4_3 h4_6 h4_3) ⟨rfl, rfl, rfl, rfl, rfl, rfl, rfl, trivial⟩ [0, 1, 2] (by decide) rfl (fun _ h => h)
      refine e_buildSlice (xs := []) (cs := []) trivial rfl Tryd.underlying22 ty64 rfl rfl rfl (by simp [Value.cells]) rfl (rfl) ?_
      intro v4_4
      have h4_4 : RepL (α := TunnelPart) Hn4_1 ([]) [] := (RepL.nil (α := TunnelPart))
      refine dn 119 (sw0 []) ?_
      exact d_edge hU4 (N4_6 Hn4_1 ln4_1 v4_2 v4_6 v4_0 v4_4 h4_2 h4_6 h4_0 h4_4) ⟨rfl, rfl, rfl, rfl, rfl, rfl, rfl, rfl, rfl, trivial⟩ [1, 2, 3, 0] (by decide) rfl (fun _ h => h)
    have N4_8 (Hn4_2 : Hp) (ln4_2 : HLe Hn3_5 Hn4_2) (v4_2 : Value) (v4_6 : Value) (v4_4 : Value) (h4_2 : Sl (α := TunnelPart) Hn4_2 v4_2 p0.Parts) (h4_6 : Sl (α := TunnelPart) Hn4_2 v4_6 p0.Parts) (h4_4 : RepL (α := TunnelPart) Hn4_2 [] ([] : List TunnelPart)) : At 145 [] (Kp.mk w H noX) [(1, v1), (2, .int .i64 p2), (3, .pointer (some ⟨b0_0, 0, none⟩)), (7, .pointer (some ⟨b3_2, 0, none⟩)), (8, .pointer (some ⟨b3_3, 0, none⟩)), (32, v4_2), (34, v4_4), (36, v4_6)] Hn4_2 ([.box b3_2 [v3o3_2_0, v3o3_2_1] 25, .box b3_3 [v3o3_3_0, v3o3_3_1] 25, .row v4_4 [] 64 6]) (U4 (Sw Hn4_2 []) 7 (bits 12 118)) := by
      refine d_fwd hU4 ?_
      have h1 := Sl.mono ln4_2 h1
      have hb0_0 := PAt.mono ln4_2 hb0_0
      have h3o3_3_0 := Sl.mono ln4_2 h3o3_3_0
      have h3o3_3_1 := Sl.mono ln4_2 h3o3_3_1
      have h3o3_2_0 := Sl.mono ln4_2 h3o3_2_0
      have h3o3_2_1 := Sl.mono ln4_2 h3o3_2_1
      have hg := Glob.mono ln4_2 hg
      refine d1 0 rfl (e_buildSlice (xs := []) (cs := []) trivial rfl Tryd.underlying22 ty64 rfl rfl rfl (by simp [Value.cells]) rfl (rfl) ?_)
      intro v4_0
      have h4_0 : RepL (α := TunnelPart) Hn4_2 ([]) [] := (RepL.nil (α := TunnelPart))
      refine dn 119 (sw0 []) ?_
      exact d_edge hU4 (N4_6 Hn4_2 ln4_2 v4_2 v4_6 v4_0 v4_4 h4_2 h4_6 h4_0 h4_4) ⟨rfl, rfl, rfl, rfl, rfl, rfl, rfl, rfl, rfl, trivial⟩ [1, 2, 0, 3] (by decide) rfl (fun _ h => h)
    refine d_fwd hU4 ?_
    have h4_1 := TunnelBook.at_Parts hb0_0
    refine dt 1 2 rfl trivial (y_fieldAddr fo25_0 rfl) (sw0 []) ?_
    obtain ⟨v4_2, h4_2, c4_2⟩ := PAt.sl h4_1
    refine dt 2 6 rfl trivial (y_load_one ty22 rfl (fun _ h => h.1) rfl c4_2) (sw0 []) ?_
    have h4_5 := TunnelBook.at_Parts hb0_0
    refine dt 5 38 rfl trivial (y_fieldAddr fo25_0 rfl) (sw0 []) ?_
    obtain ⟨v4_6, h4_6, c4_6⟩ := PAt.sl h4_5
    refine dt 6 102 rfl trivial (y_load_one ty22 rfl (fun _ h => h.1) rfl c4_6) (sw0 []) ?_
    refine d_all (rs := [0, 4]) (by kernel_rfl) rfl ⟨⟨_, rfl, ?_⟩, ⟨_, rfl, ?_⟩, trivial⟩
    · refine e_buildSlice (xs := []) (cs := []) trivial rfl Tryd.underlying22 ty64 rfl rfl rfl (by simp [Value.cells]) rfl (rfl) ?_
      intro v4_0
      have h4_0 : RepL (α := TunnelPart) Hn3_5 ([]) [] := (RepL.nil (α := TunnelPart))
      refine dn 103 (sw0 []) ?_
      exact d_edge hU4 (N4_7 Hn3_5 (HLe.refl _) v4_2 v4_6 v4_0 h4_2 h4_6 h4_0) ⟨rfl, rfl, rfl, rfl, rfl, rfl, rfl, rfl, trivial⟩ [1, 2, 0] (by decide) rfl (fun _ h => h)
    refine e_buildSlice (xs := []) (cs := []) trivial rfl Tryd.underlying22 ty64 rfl rfl rfl (by simp [Value.cells]) rfl (rfl) ?_
    intro v4_4
    have h4_4 : RepL (α := TunnelPart) Hn3_5 ([]) [] := (RepL.nil (α := TunnelPart))
    refine dn 118 (sw0 []) ?_
    exact d_edge hU4 (N4_8 Hn3_5 (HLe.refl _) v4_2 v4_6 v4_4 h4_2 h4_6 h4_4) ⟨rfl, rfl, rfl, rfl, rfl, rfl, rfl, rfl, trivial⟩ [1, 2, 0] (by decide) rfl (fun _ h => h)
  have N3_1 (Hn3_4 : Hp) (ln3_4 : HLe Hb0_0 Hn3_4) (b3_2 : Nat) (b3_3 : Nat) (u3_1 : List Value) (u3_0 : List Value) (h3_1 : Rp.rep (α := TunnelBook) Hn3_4 u3_1 p0) (h3_0 : Rp.rep (α := TunnelBook) Hn3_4 u3_0 p0) : At 145 [] (Kp.mk w H noX) [(1, v1), (2, .int .i64 p2), (3, .pointer (some ⟨b0_0, 0, none⟩)), (7, .pointer (some ⟨b3_2, 0, none⟩)), (8, .pointer (some ⟨b3_3, 0, none⟩)), (29, .agg u3_1.toArray)] Hn3_4 ([.box b3_2 u3_0 25, .box b3_3 [.slice none 0 0, .slice none 0 0] 25]) (U3 (Sw Hn3_4 []) 1 (bits 6 31)) := by
    refine d_fwd hU3 ?_
    have h1 := Sl.mono ln3_4 h1
    have hb0_0 := PAt.mono ln3_4 hb0_0
    have hg := Glob.mono ln3_4 hg
    refine d1 5 rfl (e_storeWhole (i := 1) (ds := u3_1) trivial ty25 rfl rfl rfl rfl (Rp.len h3_1) ((Rp.one h3_1)) rfl ?_)
    refine dn 63 (sw0 []) ?_
    exact d_edge hU3 (N3_0 Hn3_4 ln3_4 b3_2 b3_3 u3_0 u3_1 h3_0 h3_1) ⟨rfl, rfl, rfl, rfl, rfl, trivial⟩ [0, 1] (by decide) rfl (fun _ h => h)
  have N3_2 (Hn3_3 : Hp) (ln3_3 : HLe Hb0_0 Hn3_3) (b3_2 : Nat) (b3_3 : Nat) (u3_0 : List Value) (u3_1 : List Value) (h3_0 : Rp.rep (α := TunnelBook) Hn3_3 u3_0 p0) (h3_1 : Rp.rep (α := TunnelBook) Hn3_3 u3_1 p0) : At 145 [] (Kp.mk w H noX) [(1, v1), (2, .int .i64 p2), (3, .pointer (some ⟨b0_0, 0, none⟩)), (7, .pointer (some ⟨b3_2, 0, none⟩)), (8, .pointer (some ⟨b3_3, 0, none⟩)), (28, .agg u3_0.toArray), (29, .agg u3_1.toArray)] Hn3_3 ([.box b3_2 [.slice none 0 0, .slice none 0 0] 25, .box b3_3 [.slice none 0 0, .slice none 0 0] 25]) (U3 (Sw Hn3_3 []) 2 (bits 6 15)) := by
    refine d_fwd hU3 ?_
    have h1 := Sl.mono ln3_3 h1
    have hb0_0 := PAt.mono ln3_3 hb0_0
    have hg := Glob.mono ln3_3 hg
    refine d1 4 rfl (e_storeWhole (i := 0) (ds := u3_0) trivial ty25 rfl rfl rfl rfl (Rp.len h3_0) ((Rp.one h3_0)) rfl ?_)
    refine dn 31 (sw0 []) ?_
    exact d_edge hU3 (N3_1 Hn3_3 ln3_3 b3_2 b3_3 u3_1 u3_0 h3_1 h3_0) ⟨rfl, rfl, rfl, rfl, rfl, rfl, trivial⟩ [0, 1] (by decide) rfl (fun _ h => h)
  have N3_3 (Hn3_1 : Hp) (ln3_1 : HLe Hb0_0 Hn3_1) (b3_2 : Nat) (u3_0 : List Value) (u3_1 : List Value) (h3_0 : Rp.rep (α := TunnelBook) Hn3_1 u3_0 p0) (h3_1 : Rp.rep (α := TunnelBook) Hn3_1 u3_1 p0) : At 145 [] (Kp.mk w H noX) [(1, v1), (2, .int .i64 p2), (3, .pointer (some ⟨b0_0, 0, none⟩)), (7, .pointer (some ⟨b3_2, 0, none⟩)), (28, .agg u3_0.toArray), (29, .agg u3_1.toArray)] Hn3_1 ([.box b3_2 [.slice none 0 0, .slice none 0 0] 25]) (U3 (Sw Hn3_1 []) 3 (bits 6 7)) := by
    refine d_fwd hU3 ?_
    have h1 := Sl.mono ln3_1 h1
    have hb0_0 := PAt.mono ln3_1 hb0_0
    have hg := Glob.mono ln3_1 hg
    refine d1 3 rfl (e_alloc (cs := [.slice none 0 0, .slice none 0 0]) trivial rfl ty25 rfl ?_)
    intro b3_3
    refine dn 15 (sw0 []) ?_
    exact d_edge hU3 (N3_2 Hn3_1 ln3_1 b3_2 b3_3 u3_0 u3_1 h3_0 h3_1) ⟨rfl, rfl, rfl, rfl, rfl, rfl, rfl, trivial⟩ [1, 0] (by decide) rfl (fun _ h => h)
  have N3_4 (Hn3_2 : Hp) (ln3_2 : HLe Hb0_0 Hn3_2) (b3_3 : Nat) (u3_0 : List Value) (u3_1 : List Value) (h3_0 : Rp.rep (α := TunnelBook) Hn3_2 u3_0 p0) (h3_1 : Rp.rep (α := TunnelBook) Hn3_2 u3_1 p0) : At 145 [] (Kp.mk w H noX) [(1, v1), (2, .int .i64 p2), (3, .pointer (some ⟨b0_0, 0, none⟩)), (8, .pointer (some ⟨b3_3, 0, none⟩)), (28, .agg u3_0.toArray), (29, .agg u3_1.toArray)] Hn3_2 ([.box b3_3 [.slice none 0 0, .slice none 0 0] 25]) (U3 (Sw Hn3_2 []) 3 (bits 6 11)) := by
    refine d_fwd hU3 ?_
    have h1 := Sl.mono ln3_2 h1
    have hb0_0 := PAt.mono ln3_2 hb0_0
    have hg := Glob.mono ln3_2 hg
    refine d1 2 rfl (e_alloc (cs := [.slice none 0 0, .slice none 0 0]) trivial rfl ty25 rfl ?_)
    intro b3_2
    refine dn 15 (sw0 []) ?_
    exact d_edge hU3 (N3_2 Hn3_2 ln3_2 b3_2 b3_3 u3_0 u3_1 h3_0 h3_1) ⟨rfl, rfl, rfl, rfl, rfl, rfl, rfl, trivial⟩ [0, 1] (by decide) rfl (fun _ h => h)
  refine d_fwd hU3 ?_
  obtain ⟨u3_0, h3_0, c3_0⟩ := PAt.one hb0_0
  refine dt 0 1 rfl trivial (y_load_cells ty25 rfl (fun _ h => h.1) rfl c3_0 (Rp.len h3_0)) (sw0 []) ?_
  obtain ⟨u3_1, h3_1, c3_1⟩ := PAt.one hb0_0
  refine dt 1 3 rfl trivial (y_load_cells ty25 rfl (fun _ h => h.1) rfl c3_1 (Rp.len h3_1)) (sw0 []) ?_
  refine d_all (rs := [2, 3]) (by kernel_rfl) rfl ⟨⟨_, rfl, ?_⟩, ⟨_, rfl, ?_⟩, trivial⟩
  · refine e_alloc (cs := [.slice none 0 0, .slice none 0 0]) trivial rfl ty25 rfl ?_
    intro b3_2
    refine dn 7 (sw0 []) ?_
    exact d_edge hU3 (N3_3 Hb0_0 (HLe.refl _) b3_2 u3_0 u3_1 h3_0 h3_1) ⟨rfl, rfl, rfl, rfl, rfl, rfl, trivial⟩ [0] (by decide) rfl (fun _ h => h)
  refine e_alloc (cs := [.slice none 0 0, .slice none 0 0]) trivial rfl ty25 rfl ?_
  intro b3_3
  refine dn 11 (sw0 []) ?_
  exact d_edge hU3 (N3_4 Hb0_0 (HLe.refl _) b3_3 u3_0 u3_1 h3_0 h3_1) ⟨rfl, rfl, rfl, rfl, rfl, rfl, trivial⟩ [0] (by decide) rfl (fun _ h => h)
end Go.Lu
