/- Of each further function that the law TunnelLess reaches, part 1: what it computes, and the walk that shows it. -/
import Derived.Test.YtbcabikaaadiiaaDoorLuW3
namespace Go.Lu
open Go Go.Proofs
set_option linter.unusedVariables false
set_option maxRecDepth 100000
set_option maxHeartbeats 8000000
def ref00_Fits (k : Nat) (p0 : Int) (p1 : Int) (p2 : Int) : Option Bool :=
 (bif decide (p1 ≤ p0) then
 some ((decide (p0 ≤ p2)))
 else
 some (false)).bind fun yj1_6 =>
 some (yj1_6)
theorem ok_50 {k : Nat} {H : Hp} {w : World} {p0 : Int} {p1 : Int} {p2 : Int} {r : Bool} (hsub : Sub H w)  (hm : ref00_Fits k p0 p1 p2 = some r) : Calls Tryd.prog 50 [.int .i64 p0, .int .i64 p1, .int .i64 p2].toArray w (PostV w H (.bool r)) := by
  unfold ref00_Fits at hm
  refine start (n := 15) (E := [(0, .int .i64 p0), (1, .int .i64 p1), (2, .int .i64 p2)]) Tryd.func50 rfl rfl ⟨rfl, rfl, rfl, trivial⟩ rfl hsub ?_
  refine a_seq ?_
  refine a_region rfl ?_
  refine ap (y_assign rfl) ?_
  refine a_nil ?_
  refine a_en [(0, .int .i64 p0), (1, .int .i64 p1), (2, .int .i64 p2)] ?_
  refine a_then ?_
  refine a_seq ?_
  obtain ⟨s_j1, hs_j1, hm_j1⟩ := bind_some hm
  refine a_join (fun a_ w_ => ∃ (yj1_6 : Bool), yj1_6 = s_j1 ∧ Ag 15 [] [(6, .bool yj1_6)] a_ ∧ St (Kp.mk w H noX) H [] w_) ?_ ?_
  · have hm := hs_j1
    refine a_region rfl ?_
    refine ap (y_move rfl) ?_
    refine ap (y_move rfl) ?_
    refine ap (y_leq rfl rfl) ?_
    refine ap (y_move rfl) ?_
    rcases Bool.eq_false_or_eq_true (decide (p1 ≤ p0)) with k1_4 | k1_4
    · have hm := cond_t k1_4 hm
      refine ag ⟨_, _, rfl, rfl, k1_4⟩ (y_move rfl) ?_
      refine ag ⟨_, _, rfl, rfl, k1_4⟩ (y_move rfl) ?_
      refine ag ⟨_, _, rfl, rfl, k1_4⟩ (y_leq rfl rfl) ?_
      refine ap (y_pick_t rfl k1_4 rfl) ?_
      refine ap (y_assign rfl) ?_
      refine a_nil ?_
      refine a_en [(6, .bool (decide (p0 ≤ p2)))] ?_
      refine a_cut ?_
      intro a_ w_ ha_ hs_
      exact ⟨decide (p0 ≤ p2), Option.some.inj hm, ha_.weaken ⟨rfl, trivial⟩, hs_.reix [] (by decide)⟩
    have hm := cond_f k1_4 hm
    refine as1 (sk1 rfl rfl k1_4) ?_
    refine as1 (sk1 rfl rfl k1_4) ?_
    refine as1 (sk1 rfl rfl k1_4) ?_
    refine ap (y_pick_f rfl k1_4 rfl) ?_
    refine ap (y_assign rfl) ?_
    refine a_nil ?_
    refine a_en [(6, .bool false)] ?_
    refine a_cut ?_
    intro a_ w_ ha_ hs_
    exact ⟨false, Option.some.inj hm, ha_.weaken ⟨rfl, trivial⟩, hs_.reix [] (by decide)⟩
  have hm := hm_j1
  rintro a_ w_ ⟨yj1_6, rfl, ha_, hs_⟩
  try dsimp only at hm
  refine a_start ha_ hs_ ?_
  refine a_then ?_
  refine a_ret ?_
  refine a_done (v := .bool yj1_6) (.inl rfl) rfl ?_ ?_
  · intro a_ w_ ha_ hs_; exact run_results (P := Tryd.prog) (fn := Tryd.f50) (rs := [.tmp 6]) (vs := [.bool yj1_6]) rfl (.cons (rv_tmp ha_ rfl) (All2.nil))
  · intro _ _; obtain rfl := Option.some.inj hm
    rfl

def ref00_Right (k : Nat) (p0 : Span) (p1 : Int) (p2 : Int) : Option Bool :=
 (bif decide (p1 ≤ p0.Low) then
 bif decide (p0.Low ≤ p0.High) then
 some ((decide (p0.High ≤ p2)))
 else
 some (false)
 else
 some (false)).bind fun yj1_6 =>
 some (yj1_6)
theorem ok_87 {k : Nat} {H : Hp} {w : World} {p0 : Span} {p1 : Int} {p2 : Int} {c0 : List Value} {r : Bool} (hsub : Sub H w) (h0 : Rp.rep (α := Span) H c0 p0) (hm : ref00_Right k p0 p1 p2 = some r) : Calls Tryd.prog 87 [.agg c0.toArray, .int .i64 p1, .int .i64 p2].toArray w (PostV w H (.bool r)) := by
  unfold ref00_Right at hm
  refine start (n := 24) (E := [(0, .agg c0.toArray), (1, .int .i64 p1), (2, .int .i64 p2)]) Tryd.func87 rfl rfl ⟨rfl, rfl, rfl, trivial⟩ rfl hsub ?_
  refine a_seq ?_
  refine a_region rfl ?_
  refine a_cons (e_box (cs := c0) trivial rfl rfl rfl ?_)
  intro b0_0
  refine ap (y_assign rfl) ?_
  refine a_nil ?_
  refine a_freeze (α := Span) (x := p0) (i := 0) rfl h0 ?_
  intro Hb0_0 lb0_0 hb0_0
  have h0 := Rp.mono lb0_0 h0
  refine a_en [(1, .int .i64 p1), (2, .int .i64 p2), (3, .pointer (some ⟨b0_0, 0, none⟩))] ?_
  refine a_own [] (by decide) (L' := []) rfl ?_
  refine a_then ?_
  refine a_seq ?_
  obtain ⟨s_j1, hs_j1, hm_j1⟩ := bind_some hm
  refine a_join (fun a_ w_ => ∃ (yj1_6 : Bool), yj1_6 = s_j1 ∧ Ag 24 [] [(6, .bool yj1_6)] a_ ∧ St (Kp.mk w H noX) Hb0_0 [] w_) ?_ ?_
  · have hm := hs_j1
    refine a_region rfl ?_
    refine ap (y_move rfl) ?_
    have h1_1 := Span.at_Low hb0_0
    refine ap (y_fieldAddr fo32_0 rfl) ?_
    refine ap (y_load_int ty3 rfl (fun _ h => h.sub) rfl h1_1) ?_
    refine ap (y_leq rfl rfl) ?_
    refine ap (y_move rfl) ?_
    rcases Bool.eq_false_or_eq_true (decide (p1 ≤ p0.Low)) with k1_5 | k1_5
    · have hm := cond_t k1_5 hm
      have h1_5 := Span.at_Low hb0_0
      refine ag ⟨_, _, rfl, rfl, k1_5⟩ (y_fieldAddr fo32_0 rfl) ?_
      refine ag ⟨_, _, rfl, rfl, k1_5⟩ (y_load_int ty3 rfl (fun _ h => h.sub) rfl h1_5) ?_
      have h1_7 := Span.at_High hb0_0
      refine ag ⟨_, _, rfl, rfl, k1_5⟩ (y_fieldAddr fo32_1 rfl) ?_
      refine ag ⟨_, _, rfl, rfl, k1_5⟩ (y_load_int ty3 rfl (fun _ h => h.sub) rfl h1_7) ?_
      refine ag ⟨_, _, rfl, rfl, k1_5⟩ (y_leq rfl rfl) ?_
      refine ap (y_pick_t rfl k1_5 rfl) ?_
      refine ap (y_move rfl) ?_
      rcases Bool.eq_false_or_eq_true (decide (p0.Low ≤ p0.High)) with k1_12 | k1_12
      · have hm := cond_t k1_12 hm
        have h1_12 := Span.at_High hb0_0
        refine ag ⟨_, _, rfl, rfl, k1_12⟩ (y_fieldAddr fo32_1 rfl) ?_
        refine ag ⟨_, _, rfl, rfl, k1_12⟩ (y_load_int ty3 rfl (fun _ h => h.sub) rfl h1_12) ?_
        refine ag ⟨_, _, rfl, rfl, k1_12⟩ (y_move rfl) ?_
        refine ag ⟨_, _, rfl, rfl, k1_12⟩ (y_leq rfl rfl) ?_
        refine ap (y_pick_t rfl k1_12 rfl) ?_
        refine ap (y_assign rfl) ?_
        refine a_nil ?_
        refine a_en [(6, .bool (decide (p0.High ≤ p2)))] ?_
        refine a_cut ?_
        intro a_ w_ ha_ hs_
        exact ⟨decide (p0.High ≤ p2), Option.some.inj hm, ha_.weaken ⟨rfl, trivial⟩, hs_.reix [] (by decide)⟩
      have hm := cond_f k1_12 hm
      refine as1 (sk1 rfl rfl k1_12) ?_
      refine as1 (sk1 rfl rfl k1_12) ?_
      refine as1 (sk1 rfl rfl k1_12) ?_
      refine as1 (sk1 rfl rfl k1_12) ?_
      refine ap (y_pick_f rfl k1_12 rfl) ?_
      refine ap (y_assign rfl) ?_
      refine a_nil ?_
      refine a_en [(6, .bool false)] ?_
      refine a_cut ?_
      intro a_ w_ ha_ hs_
      exact ⟨false, Option.some.inj hm, ha_.weaken ⟨rfl, trivial⟩, hs_.reix [] (by decide)⟩
    have hm := cond_f k1_5 hm
    refine as1 (sk1 rfl rfl k1_5) ?_
    refine as1 (sk1 rfl rfl k1_5) ?_
    refine as1 (sk1 rfl rfl k1_5) ?_
    refine as1 (sk1 rfl rfl k1_5) ?_
    refine as1 (sk1 rfl rfl k1_5) ?_
    refine ap (y_pick_f rfl k1_5 rfl) ?_
    refine ap (y_move rfl) ?_
    refine as1 (sk1 rfl rfl rfl) ?_
    refine as1 (sk1 rfl rfl rfl) ?_
    refine as1 (sk1 rfl rfl rfl) ?_
    refine as1 (sk1 rfl rfl rfl) ?_
    refine ap (y_pick_f rfl rfl rfl) ?_
    refine ap (y_assign rfl) ?_
    refine a_nil ?_
    refine a_en [(6, .bool false)] ?_
    refine a_cut ?_
    intro a_ w_ ha_ hs_
    exact ⟨false, Option.some.inj hm, ha_.weaken ⟨rfl, trivial⟩, hs_.reix [] (by decide)⟩
  have hm := hm_j1
  rintro a_ w_ ⟨yj1_6, rfl, ha_, hs_⟩
  try dsimp only at hm
  refine a_start ha_ hs_ ?_
  refine a_then ?_
  refine a_ret ?_
  refine a_done (v := .bool yj1_6) (.inl rfl) rfl ?_ ?_
  · intro a_ w_ ha_ hs_; exact run_results (P := Tryd.prog) (fn := Tryd.f87) (rs := [.tmp 6]) (vs := [.bool yj1_6]) rfl (.cons (rv_tmp ha_ rfl) (All2.nil))
  · intro _ _; obtain rfl := Option.some.inj hm
    rfl

def law03_sound_lj8 (k : Nat) (x5_3 : TunnelPart) : Nat → Bool → Int → Option Bool
 | 0, _, _ => none
 | n_j8 + 1, yj8_3, yj8_6 =>
 bif decide (yj8_6 ≤ 3) then
 (bif yj8_3 then
 (nth x5_3.Heat yj8_6).bind fun x10_4 =>
 (ref00_Fits k x10_4 0 20).bind fun x10_6 =>
 some (x10_6)
 else
 some (false)).bind fun yj10_3 =>
 law03_sound_lj8 k x5_3 n_j8 yj10_3 (IntKind.i64.wrap (yj8_6 + 1))
 else
 some (yj8_3)
def law03_sound_lj3 (k : Nat) (p0 : TunnelBook) : Nat → Bool → Int → Option Bool
 | 0, _, _ => none
 | n_j3 + 1, yj3_3, yj3_4 =>
 (bif yj3_3 then
 some ((decide (yj3_4 < (p0.Parts.length : Int))))
 else
 some (false)).bind fun yj4_32 =>
 bif yj4_32 then
 (nth p0.Parts yj3_4).bind fun x5_3 =>
 ((ref00_Right k x5_3.Damp 0 20).bind fun x6_2 =>
 bif x6_2 then
 some ((decide ((IntKind.i64.wrap (x5_3.Damp.High - x5_3.Damp.Low)) ≤ 3)))
 else
 some (false)).bind fun yj6_3 =>
 (law03_sound_lj8 k x5_3 k yj6_3 0).bind fun yj7_3 =>
 law03_sound_lj3 k p0 n_j3 yj7_3 (IntKind.i64.wrap (yj3_4 + 1))
 else
 some (yj3_3)
def law03_sound_lj17 (k : Nat) (x14_3 : TunnelFrame) : Nat → Bool → Int → Option Bool
 | 0, _, _ => none
 | n_j17 + 1, yj17_3, yj17_9 =>
 (bif yj17_3 then
 some ((decide (yj17_9 < (x14_3.Stay.length : Int))))
 else
 some (false)).bind fun yj18_99 =>
 bif yj18_99 then
 (nth x14_3.Stay yj17_9).bind fun x19_3 =>
 (ref00_Fits k x19_3 0 20).bind fun x19_5 =>
 law03_sound_lj17 k x14_3 n_j17 x19_5 (IntKind.i64.wrap (yj17_9 + 1))
 else
 some (yj17_3)
def law03_sound_lj12 (k : Nat) (p0 : TunnelBook) : Nat → Bool → Int → Option Bool
 | 0, _, _ => none
 | n_j12 + 1, yj12_3, yj12_7 =>
 (bif yj12_3 then
 some ((decide (yj12_7 < (p0.Frames.length : Int))))
 else
 some (false)).bind fun yj13_72 =>
 bif yj13_72 then
 (nth p0.Frames yj12_7).bind fun x14_3 =>
 (bif (x14_3.Stay.length : Int) == (p0.Parts.length : Int) then
 (ref00_Right k x14_3.Need 0 999).bind fun x15_10 =>
 some (x15_10)
 else
 some (false)).bind fun yj15_3 =>
 (law03_sound_lj17 k x14_3 k yj15_3 0).bind fun yj16_3 =>
 law03_sound_lj12 k p0 n_j12 yj16_3 (IntKind.i64.wrap (yj12_7 + 1))
 else
 some (yj12_3)
def law03_sound (k : Nat) (p0 : TunnelBook) : Option Bool :=
 ((tunnel_Check k p0).bind fun x1_1 =>
 bif x1_1 == 0 then
 (ref00_Fits k (p0.Parts.length : Int) 1 4).bind fun x1_7 =>
 bif x1_7 then
 some ((decide ((p0.Frames.length : Int) ≤ 5)))
 else
 some (false)
 else
 some (false)).bind fun yj1_3 =>
 (law03_sound_lj3 k p0 k yj1_3 0).bind fun yj2_3 =>
 (law03_sound_lj12 k p0 k yj2_3 0).bind fun yj11_3 =>
 some (yj11_3)
theorem ok_43 {k : Nat} {H : Hp} {w : World} {p0 : TunnelBook} {c0 : List Value} {r : Bool} (hsub : Sub H w) (h0 : Rp.rep (α := TunnelBook) H c0 p0) (hm : law03_sound k p0 = some r) : Calls Tryd.prog 43 [.agg c0.toArray].toArray w (PostV w H (.bool r)) := by
  unfold law03_sound at hm
  refine start (n := 109) (E := [(0, .agg c0.toArray)]) Tryd.func43 rfl rfl ⟨rfl, trivial⟩ rfl hsub ?_
  refine a_seq ?_
  refine a_region rfl ?_
  refine a_cons (e_box (cs := c0) trivial rfl rfl rfl ?_)
  intro b0_0
  refine ap (y_assign rfl) ?_
  refine a_nil ?_
  refine a_freeze (α := TunnelBook) (x := p0) (i := 0) rfl h0 ?_
  intro Hb0_0 lb0_0 hb0_0
  have h0 := Rp.mono lb0_0 h0
  refine a_en [(1, .pointer (some ⟨b0_0, 0, none⟩))] ?_
  refine a_own [] (by decide) (L' := []) rfl ?_
  refine a_then ?_
  refine a_seq ?_
  obtain ⟨s_j1, hs_j1, hm_j1⟩ := bind_some hm
  refine a_join (fun a_ w_ => ∃ (yj1_3 : Bool), yj1_3 = s_j1 ∧ Ag 109 [] [(1, .pointer (some ⟨b0_0, 0, none⟩)), (3, .bool yj1_3)] a_ ∧ St (Kp.mk w H noX) Hb0_0 [] w_) ?_ ?_
  · have hm := hs_j1
    refine a_region rfl ?_
    obtain ⟨u1_0, h1_0, c1_0⟩ := PAt.one hb0_0
    refine ap (y_load_cells ty25 rfl (fun _ h => h.sub) rfl c1_0 (Rp.len h1_0)) ?_
    obtain ⟨x1_1, q1_1, hm⟩ := bind_some hm
    refine a_cons (e_callV (all := [.agg u1_0.toArray]) (v := .int .i64 x1_1) trivial rfl Tryd.func21 rfl rfl rfl rfl rfl (fun w hw => ok_21 hw h1_0 q1_1) ?_)
    refine ap (y_eql rfl rfl) ?_
    refine ap (y_move rfl) ?_
    rcases Bool.eq_false_or_eq_true (x1_1 == 0) with k1_4 | k1_4
    · have hm := cond_t k1_4 hm
      have h1_4 := TunnelBook.at_Parts hb0_0
      refine ag ⟨_, _, rfl, rfl, k1_4⟩ (y_fieldAddr fo25_0 rfl) ?_
      obtain ⟨v1_5, h1_5, c1_5⟩ := PAt.sl h1_4
      refine ag ⟨_, _, rfl, rfl, k1_4⟩ (y_load_one ty22 rfl (fun _ h => h.sub) rfl c1_5) ?_
      refine ag ⟨_, _, rfl, rfl, k1_4⟩ (y_len_sl Tryd.underlying22 rfl h1_5) ?_
      obtain ⟨x1_7, q1_7, hm⟩ := bind_some hm
      refine a_cons (e_callV (all := [.int .i64 (p0.Parts.length : Int), .int .i64 1, .int .i64 4]) (v := .bool x1_7) ⟨_, _, rfl, rfl, k1_4⟩ rfl Tryd.func50 rfl rfl rfl rfl rfl (fun w hw => ok_50 hw q1_7) ?_)
      refine ap (y_pick_t rfl k1_4 rfl) ?_
      refine ap (y_move rfl) ?_
      rcases Bool.eq_false_or_eq_true (x1_7) with k1_10 | k1_10
      · have hm := cond_t k1_10 hm
        have h1_10 := TunnelBook.at_Frames hb0_0
        refine ag ⟨_, _, rfl, rfl, k1_10⟩ (y_fieldAddr fo25_1 rfl) ?_
        obtain ⟨v1_11, h1_11, c1_11⟩ := PAt.sl h1_10
        refine ag ⟨_, _, rfl, rfl, k1_10⟩ (y_load_one ty23 rfl (fun _ h => h.sub) rfl c1_11) ?_
        refine ag ⟨_, _, rfl, rfl, k1_10⟩ (y_len_sl Tryd.underlying23 rfl h1_11) ?_
        refine ag ⟨_, _, rfl, rfl, k1_10⟩ (y_leq rfl rfl) ?_
        refine ap (y_pick_t rfl k1_10 rfl) ?_
        refine ap (y_assign rfl) ?_
        refine a_nil ?_
        refine a_en [(1, .pointer (some ⟨b0_0, 0, none⟩)), (3, .bool (decide ((p0.Frames.length : Int) ≤ 5)))] ?_
        refine a_cut ?_
        intro a_ w_ ha_ hs_
        exact ⟨decide ((p0.Frames.length : Int) ≤ 5), Option.some.inj hm, ha_.weaken ⟨rfl, rfl, trivial⟩, hs_.reix [] (by decide)⟩
      have hm := cond_f k1_10 hm
      refine as1 (sk1 rfl rfl k1_10) ?_
      refine as1 (sk1 rfl rfl k1_10) ?_
      refine as1 (sk1 rfl rfl k1_10) ?_
      refine as1 (sk1 rfl rfl k1_10) ?_
      refine ap (y_pick_f rfl k1_10 rfl) ?_
      refine ap (y_assign rfl) ?_
      refine a_nil ?_
      refine a_en [(1, .pointer (some ⟨b0_0, 0, none⟩)), (3, .bool false)] ?_
      refine a_cut ?_
      intro a_ w_ ha_ hs_
      exact ⟨false, Option.some.inj hm, ha_.weaken ⟨rfl, rfl, trivial⟩, hs_.reix [] (by decide)⟩
    have hm := cond_f k1_4 hm
    refine as1 (sk1 rfl rfl k1_4) ?_
    refine as1 (sk1 rfl rfl k1_4) ?_
    refine as1 (sk1 rfl rfl k1_4) ?_
    refine as1 (sk1 rfl rfl k1_4) ?_
    refine ap (y_pick_f rfl k1_4 rfl) ?_
    refine ap (y_move rfl) ?_
    refine as1 (sk1 rfl rfl rfl) ?_
    refine as1 (sk1 rfl rfl rfl) ?_
    refine as1 (sk1 rfl rfl rfl) ?_
    refine as1 (sk1 rfl rfl rfl) ?_
    refine ap (y_pick_f rfl rfl rfl) ?_
    refine ap (y_assign rfl) ?_
    refine a_nil ?_
    refine a_en [(1, .pointer (some ⟨b0_0, 0, none⟩)), (3, .bool false)] ?_
    refine a_cut ?_
    intro a_ w_ ha_ hs_
    exact ⟨false, Option.some.inj hm, ha_.weaken ⟨rfl, rfl, trivial⟩, hs_.reix [] (by decide)⟩
  have hm := hm_j1
  rintro a_ w_ ⟨yj1_3, rfl, ha_, hs_⟩
  try dsimp only at hm
  refine a_start ha_ hs_ ?_
  refine a_then ?_
  refine a_seq ?_
  refine a_seq ?_
  refine a_region rfl ?_
  refine ap (y_assign rfl) ?_
  refine a_nil ?_
  refine a_then ?_
  obtain ⟨s_j2, hs_j2, hm_j2⟩ := bind_some hm
  refine a_join (fun a_ w_ => ∃ (Hj2 : Hp), ∃ (_ : HLe Hb0_0 Hj2), ∃ (yj2_3 : Bool), yj2_3 = s_j2 ∧ Ag 109 [] [(1, .pointer (some ⟨b0_0, 0, none⟩)), (3, .bool yj2_3)] a_ ∧ St (Kp.mk w H noX) Hj2 [] w_) ?_ ?_
  · have hm := hs_j2
    refine a_block ?_
    refine a_loop (fun n_j3 a_ w_ => ∃ (Hj3 : Hp), ∃ (_ : HLe Hb0_0 Hj3), ∃ (yj3_3 : Bool), ∃ (yj3_4 : Int), law03_sound_lj3 k p0 n_j3 yj3_3 yj3_4 = some s_j2 ∧ Ag 109 [] [(1, .pointer (some ⟨b0_0, 0, none⟩)), (3, .bool yj3_3), (4, .int .i64 yj3_4)] a_ ∧ St (Kp.mk w H noX) Hj3 [] w_) k ?_ ?_
    · intro a_ w_ ha_ hs_
      exact ⟨Hb0_0, (HLe.refl _), yj1_3, 0, hm, ha_.weaken ⟨rfl, rfl, rfl, trivial⟩, hs_.reix [] (by decide)⟩
    rintro (_ | n_j3) a_ w_ ⟨Hj3, lj3, yj3_3, yj3_4, hm, ha_, hs_⟩
    · rw [law03_sound_lj3.eq_1] at hm; cases hm
    rw [law03_sound_lj3.eq_2] at hm
    refine a_start ha_ hs_ ?_
    have hb0_0 := PAt.mono lj3 hb0_0
    refine a_seq ?_
    refine a_seq ?_
    obtain ⟨s_j4, hs_j4, hm_j4⟩ := bind_some hm
    refine a_join (fun a_ w_ => ∃ (yj4_32 : Bool), yj4_32 = s_j4 ∧ Ag 109 [] [(1, .pointer (some ⟨b0_0, 0, none⟩)), (3, .bool yj3_3), (4, .int .i64 yj3_4), (32, .bool yj4_32)] a_ ∧ St (Kp.mk w H noX) Hj3 [] w_) ?_ ?_
    · have hm := hs_j4
      refine a_region rfl ?_
      refine ap (y_move rfl) ?_
      refine ap (y_move rfl) ?_
      rcases Bool.eq_false_or_eq_true (yj3_3) with k3_2 | k3_2
      · have hm := cond_t k3_2 hm
        refine ag ⟨_, _, rfl, rfl, k3_2⟩ (y_move rfl) ?_
        have h3_3 := TunnelBook.at_Parts hb0_0
        refine ag ⟨_, _, rfl, rfl, k3_2⟩ (y_fieldAddr fo25_0 rfl) ?_
        obtain ⟨v3_4, h3_4, c3_4⟩ := PAt.sl h3_3
        refine ag ⟨_, _, rfl, rfl, k3_2⟩ (y_load_one ty22 rfl (fun _ h => h.sub) rfl c3_4) ?_
        refine ag ⟨_, _, rfl, rfl, k3_2⟩ (y_len_sl Tryd.underlying22 rfl h3_4) ?_
        refine ag ⟨_, _, rfl, rfl, k3_2⟩ (y_lss rfl rfl) ?_
        refine ap (y_pick_t rfl k3_2 rfl) ?_
        refine a_nil ?_
        refine a_en [(1, .pointer (some ⟨b0_0, 0, none⟩)), (3, .bool yj3_3), (4, .int .i64 yj3_4), (27, .int .i64 yj3_4), (28, .pointer (some ⟨b0_0, 0 + 0, none⟩)), (29, v3_4), (30, .int .i64 (p0.Parts.length : Int)), (31, .bool (decide (yj3_4 < (p0.Parts.length : Int)))), (32, .bool (decide (yj3_4 < (p0.Parts.length : Int))))] ?_
        refine a_cut ?_
        intro a_ w_ ha_ hs_
        exact ⟨decide (yj3_4 < (p0.Parts.length : Int)), Option.some.inj hm, ha_.weaken ⟨rfl, rfl, rfl, rfl, trivial⟩, hs_.reix [] (by decide)⟩
      have hm := cond_f k3_2 hm
      refine as1 (sk1 rfl rfl k3_2) ?_
      refine as1 (sk1 rfl rfl k3_2) ?_
      refine as1 (sk1 rfl rfl k3_2) ?_
      refine as1 (sk1 rfl rfl k3_2) ?_
      refine as1 (sk1 rfl rfl k3_2) ?_
      refine ap (y_pick_f rfl k3_2 rfl) ?_
      refine a_nil ?_
      refine a_en [(1, .pointer (some ⟨b0_0, 0, none⟩)), (3, .bool yj3_3), (4, .int .i64 yj3_4), (27, undef), (28, undef), (29, undef), (30, undef), (31, undef), (32, .bool false)] ?_
      refine a_cut ?_
      intro a_ w_ ha_ hs_
      exact ⟨false, Option.some.inj hm, ha_.weaken ⟨rfl, rfl, rfl, rfl, trivial⟩, hs_.reix [] (by decide)⟩
    have hm := hm_j4
    rintro a_ w_ ⟨yj4_32, rfl, ha_, hs_⟩
    try dsimp only at hm
    refine a_start ha_ hs_ ?_
    refine a_then ?_
    refine a_cond rfl (fun k_5 => ?_) (fun k_5 => ?_)
    · have hm := cond_t k_5 hm
      refine a_skip ?_
      refine a_then ?_
      refine a_seq ?_
      refine a_block ?_
      refine a_seq ?_
      refine a_region rfl ?_
      have h5_0 := TunnelBook.at_Parts hb0_0
      refine ap (y_fieldAddr fo25_0 rfl) ?_
      obtain ⟨v5_1, h5_1, c5_1⟩ := PAt.sl h5_0
      refine ap (y_load_one ty22 rfl (fun _ h => h.sub) rfl c5_1) ?_
      refine ap (y_move rfl) ?_
      obtain ⟨x5_3, q5_3, hm⟩ := bind_some hm
      obtain ⟨b5_3, o5_3, c5_3, e5_3, h5_3⟩ := Sl.elemZ 6 rfl h5_1 q5_3
      refine ap (y_index Tryd.underlying22 ty64 rfl e5_3 rfl (nth_in q5_3)) ?_
      obtain ⟨u5_4, h5_4, c5_4⟩ := PAt.one h5_3
      refine ap (y_load_cells ty64 rfl (fun _ h => h.sub) rfl c5_4 (Rp.len h5_4)) ?_
      refine a_cons (e_alloc (cs := [.int .i64 0, .int .i64 0, .int .i64 0, .int .i64 0, .int .i64 0, .int .i64 0]) trivial rfl ty64 rfl ?_)
      intro b5_5
      have mz5_5 : Rp.rep (α := TunnelPart) Hj3 [.int .i64 0, .int .i64 0, .int .i64 0, .int .i64 0, .int .i64 0, .int .i64 0] (⟨[0, 0, 0, 0], ⟨0, 0⟩⟩ : TunnelPart) := ⟨_, _, rfl, ⟨(RepL.cons (c := [_]) rfl (RepL.cons (c := [_]) rfl (RepL.cons (c := [_]) rfl (RepL.cons (c := [_]) rfl RepL.nil)))), rfl⟩, ⟨_, _, rfl, rfl, rfl⟩⟩
      refine a_cons (e_storeWhole (i := 0) (ds := u5_4) trivial ty64 rfl rfl rfl rfl (Rp.len h5_4) ((Rp.one h5_4)) rfl ?_)
      refine a_nil ?_
      refine a_freeze (α := TunnelPart) (x := x5_3) (i := 0) rfl h5_4 ?_
      intro Hb5_5 lb5_5 hb5_5
      have hb0_0 := PAt.mono lb5_5 hb0_0
      have h5_0 := PAt.mono lb5_5 h5_0
      have h5_1 := Sl.mono lb5_5 h5_1
      have h5_3 := PAt.mono lb5_5 h5_3
      have h5_4 := Rp.mono lb5_5 h5_4
      refine a_en [(1, .pointer (some ⟨b0_0, 0, none⟩)), (4, .int .i64 yj3_4), (5, .pointer (some ⟨b5_5, 0, none⟩))] ?_
      refine a_own [] (by decide) (L' := []) rfl ?_
      refine a_then ?_
      refine a_seq ?_
      obtain ⟨s_j6, hs_j6, hm_j6⟩ := bind_some hm
      refine a_join (fun a_ w_ => ∃ (yj6_3 : Bool), yj6_3 = s_j6 ∧ Ag 109 [] [(1, .pointer (some ⟨b0_0, 0, none⟩)), (3, .bool yj6_3), (4, .int .i64 yj3_4), (5, .pointer (some ⟨b5_5, 0, none⟩))] a_ ∧ St (Kp.mk w H noX) Hb5_5 [] w_) ?_ ?_
      · have hm := hs_j6
        refine a_region rfl ?_
        have h6_0 := TunnelPart.at_Damp hb5_5
        refine ap (y_fieldAddr fo64_1 rfl) ?_
        obtain ⟨u6_1, h6_1, c6_1⟩ := PAt.one h6_0
        refine ap (y_load_cells ty32 rfl (fun _ h => h.sub) rfl c6_1 (Rp.len h6_1)) ?_
        obtain ⟨x6_2, q6_2, hm⟩ := bind_some hm
        refine a_cons (e_callV (all := [.agg u6_1.toArray, .int .i64 0, .int .i64 20]) (v := .bool x6_2) trivial rfl Tryd.func87 rfl rfl rfl rfl rfl (fun w hw => ok_87 hw h6_1 q6_2) ?_)
        refine ap (y_move rfl) ?_
        rcases Bool.eq_false_or_eq_true (x6_2) with k6_4 | k6_4
        · have hm := cond_t k6_4 hm
          have h6_4 := TunnelPart.at_Damp hb5_5
          refine ag ⟨_, _, rfl, rfl, k6_4⟩ (y_fieldAddr fo64_1 rfl) ?_
          have h6_5 := Span.at_High h6_4
          refine ag ⟨_, _, rfl, rfl, k6_4⟩ (y_fieldAddr fo32_1 rfl) ?_
          refine ag ⟨_, _, rfl, rfl, k6_4⟩ (y_load_int ty3 rfl (fun _ h => h.sub) rfl h6_5) ?_
          have h6_7 := TunnelPart.at_Damp hb5_5
          refine ag ⟨_, _, rfl, rfl, k6_4⟩ (y_fieldAddr fo64_1 rfl) ?_
          have h6_8 := Span.at_Low h6_7
          refine ag ⟨_, _, rfl, rfl, k6_4⟩ (y_fieldAddr fo32_0 rfl) ?_
          refine ag ⟨_, _, rfl, rfl, k6_4⟩ (y_load_int ty3 rfl (fun _ h => h.sub) rfl h6_8) ?_
          refine ag ⟨_, _, rfl, rfl, k6_4⟩ (y_sub rfl rfl) ?_
          refine ag ⟨_, _, rfl, rfl, k6_4⟩ (y_leq rfl rfl) ?_
          refine ap (y_pick_t rfl k6_4 rfl) ?_
          refine ap (y_assign rfl) ?_
          refine a_nil ?_
          refine a_en [(1, .pointer (some ⟨b0_0, 0, none⟩)), (3, .bool (decide ((IntKind.i64.wrap (x5_3.Damp.High - x5_3.Damp.Low)) ≤ 3))), (4, .int .i64 yj3_4), (5, .pointer (some ⟨b5_5, 0, none⟩)), (44, .pointer (some ⟨b5_5, 0 + 4, none⟩)), (45, .pointer (some ⟨b5_5, 0 + 4 + 1, none⟩)), (46, .int .i64 x5_3.Damp.High), (47, .pointer (some ⟨b5_5, 0 + 4, none⟩)), (48, .pointer (some ⟨b5_5, 0 + 4 + 0, none⟩)), (49, .int .i64 x5_3.Damp.Low), (50, .int .i64 (IntKind.i64.wrap (x5_3.Damp.High - x5_3.Damp.Low))), (51, .bool (decide ((IntKind.i64.wrap (x5_3.Damp.High - x5_3.Damp.Low)) ≤ 3)))] ?_
          refine a_cut ?_
          intro a_ w_ ha_ hs_
          exact ⟨decide ((IntKind.i64.wrap (x5_3.Damp.High - x5_3.Damp.Low)) ≤ 3), Option.some.inj hm, ha_.weaken ⟨rfl, rfl, rfl, rfl, trivial⟩, hs_.reix [] (by decide)⟩
        have hm := cond_f k6_4 hm
        refine as1 (sk1 rfl rfl k6_4) ?_
        refine as1 (sk1 rfl rfl k6_4) ?_
        refine as1 (sk1 rfl rfl k6_4) ?_
        refine as1 (sk1 rfl rfl k6_4) ?_
        refine as1 (sk1 rfl rfl k6_4) ?_
        refine as1 (sk1 rfl rfl k6_4) ?_
        refine as1 (sk1 rfl rfl k6_4) ?_
        refine as1 (sk1 rfl rfl k6_4) ?_
        refine ap (y_pick_f rfl k6_4 rfl) ?_
        refine ap (y_assign rfl) ?_
        refine a_nil ?_
        refine a_en [(1, .pointer (some ⟨b0_0, 0, none⟩)), (3, .bool false), (4, .int .i64 yj3_4), (5, .pointer (some ⟨b5_5, 0, none⟩)), (44, undef), (45, undef), (46, undef), (47, undef), (48, undef), (49, undef), (50, undef), (51, undef)] ?_
        refine a_cut ?_
        intro a_ w_ ha_ hs_
        exact ⟨false, Option.some.inj hm, ha_.weaken ⟨rfl, rfl, rfl, rfl, trivial⟩, hs_.reix [] (by decide)⟩
      have hm := hm_j6
      rintro a_ w_ ⟨yj6_3, rfl, ha_, hs_⟩
      try dsimp only at hm
      refine a_start ha_ hs_ ?_
      refine a_then ?_
      refine a_seq ?_
      refine a_region rfl ?_
      refine ap (y_assign rfl) ?_
      refine a_nil ?_
      refine a_then ?_
      obtain ⟨s_j7, hs_j7, hm_j7⟩ := bind_some hm
      refine a_join (fun a_ w_ => ∃ (yj7_3 : Bool), yj7_3 = s_j7 ∧ Ag 109 [] [(1, .pointer (some ⟨b0_0, 0, none⟩)), (3, .bool yj7_3), (4, .int .i64 yj3_4)] a_ ∧ St (Kp.mk w H noX) Hb5_5 [] w_) ?_ ?_
      · have hm := hs_j7
        refine a_block ?_
        refine a_loop (fun n_j8 a_ w_ => ∃ (yj8_3 : Bool), ∃ (yj8_6 : Int), law03_sound_lj8 k x5_3 n_j8 yj8_3 yj8_6 = some s_j7 ∧ Ag 109 [] [(1, .pointer (some ⟨b0_0, 0, none⟩)), (3, .bool yj8_3), (4, .int .i64 yj3_4), (5, .pointer (some ⟨b5_5, 0, none⟩)), (6, .int .i64 yj8_6)] a_ ∧ St (Kp.mk w H noX) Hb5_5 [] w_) k ?_ ?_
        · intro a_ w_ ha_ hs_
          exact ⟨yj6_3, 0, hm, ha_.weaken ⟨rfl, rfl, rfl, rfl, rfl, trivial⟩, hs_.reix [] (by decide)⟩
        rintro (_ | n_j8) a_ w_ ⟨yj8_3, yj8_6, hm, ha_, hs_⟩
        · rw [law03_sound_lj8.eq_1] at hm; cases hm
        rw [law03_sound_lj8.eq_2] at hm
        refine a_start ha_ hs_ ?_
        refine a_seq ?_
        refine a_seq ?_
        refine a_region rfl ?_
        refine ap (y_move rfl) ?_
        refine ap (y_leq rfl rfl) ?_
        refine a_nil ?_
        refine a_en [(1, .pointer (some ⟨b0_0, 0, none⟩)), (3, .bool yj8_3), (4, .int .i64 yj3_4), (5, .pointer (some ⟨b5_5, 0, none⟩)), (6, .int .i64 yj8_6), (54, .bool (decide (yj8_6 ≤ 3)))] ?_
        refine a_then ?_
        refine a_cond rfl (fun k_9 => ?_) (fun k_9 => ?_)
        · have hm := cond_t k_9 hm
          refine a_skip ?_
          refine a_then ?_
          refine a_seq ?_
          refine a_block ?_
          obtain ⟨s_j10, hs_j10, hm_j10⟩ := bind_some hm
          refine a_join (fun a_ w_ => ∃ (yj10_3 : Bool), yj10_3 = s_j10 ∧ Ag 109 [] [(1, .pointer (some ⟨b0_0, 0, none⟩)), (3, .bool yj10_3), (4, .int .i64 yj3_4), (5, .pointer (some ⟨b5_5, 0, none⟩)), (6, .int .i64 yj8_6)] a_ ∧ St (Kp.mk w H noX) Hb5_5 [] w_) ?_ ?_
          · have hm := hs_j10
            refine a_region rfl ?_
            refine ap (y_move rfl) ?_
            refine ap (y_move rfl) ?_
            rcases Bool.eq_false_or_eq_true (yj8_3) with k10_2 | k10_2
            · have hm := cond_t k10_2 hm
              refine ag ⟨_, _, rfl, rfl, k10_2⟩ (y_move rfl) ?_
              have h10_3 := TunnelPart.at_Heat hb5_5
              refine ag ⟨_, _, rfl, rfl, k10_2⟩ (y_fieldAddr fo64_0 rfl) ?_
              obtain ⟨x10_4, q10_4, hm⟩ := bind_some hm
              have h10_4 := PAt.arrZ 1 rfl h10_3 q10_4
              have k10_4 := PAt.arrIn h10_3 q10_4
              refine ag ⟨_, _, rfl, rfl, k10_2⟩ (y_index_arrp Tryd.underlying62 ty3 rfl rfl k10_4) ?_
              refine ag ⟨_, _, rfl, rfl, k10_2⟩ (y_load_int ty3 rfl (fun _ h => h.sub) rfl h10_4) ?_
              obtain ⟨x10_6, q10_6, hm⟩ := bind_some hm
              refine a_cons (e_callV (all := [.int .i64 x10_4, .int .i64 0, .int .i64 20]) (v := .bool x10_6) ⟨_, _, rfl, rfl, k10_2⟩ rfl Tryd.func50 rfl rfl rfl rfl rfl (fun w hw => ok_50 hw q10_6) ?_)
              refine ap (y_pick_t rfl k10_2 rfl) ?_
              refine ap (y_assign rfl) ?_
              refine a_nil ?_
              refine a_en [(1, .pointer (some ⟨b0_0, 0, none⟩)), (3, .bool x10_6), (4, .int .i64 yj3_4), (5, .pointer (some ⟨b5_5, 0, none⟩)), (6, .int .i64 yj8_6), (59, .int .i64 yj8_6), (60, .pointer (some ⟨b5_5, 0 + 0, none⟩)), (61, .pointer (some ⟨b5_5, 0 + 0 + (yj8_6).toNat * 1, none⟩)), (62, .int .i64 x10_4), (63, .bool x10_6)] ?_
              refine a_cut ?_
              intro a_ w_ ha_ hs_
              exact ⟨x10_6, Option.some.inj hm, ha_.weaken ⟨rfl, rfl, rfl, rfl, rfl, trivial⟩, hs_.reix [] (by decide)⟩
            have hm := cond_f k10_2 hm
            refine as1 (sk1 rfl rfl k10_2) ?_
            refine as1 (sk1 rfl rfl k10_2) ?_
            refine as1 (sk1 rfl rfl k10_2) ?_
            refine as1 (sk1 rfl rfl k10_2) ?_
            refine as1 (sk1 rfl rfl k10_2) ?_
            refine ap (y_pick_f rfl k10_2 rfl) ?_
            refine ap (y_assign rfl) ?_
            refine a_nil ?_
            refine a_en [(1, .pointer (some ⟨b0_0, 0, none⟩)), (3, .bool false), (4, .int .i64 yj3_4), (5, .pointer (some ⟨b5_5, 0, none⟩)), (6, .int .i64 yj8_6), (59, undef), (60, undef), (61, undef), (62, undef), (63, undef)] ?_
            refine a_cut ?_
            intro a_ w_ ha_ hs_
            exact ⟨false, Option.some.inj hm, ha_.weaken ⟨rfl, rfl, rfl, rfl, rfl, trivial⟩, hs_.reix [] (by decide)⟩
          have hm := hm_j10
          rintro a_ w_ ⟨yj10_3, rfl, ha_, hs_⟩
          try dsimp only at hm
          refine a_start ha_ hs_ ?_
          refine a_block_normal ?_
          refine a_then ?_
          refine a_region rfl ?_
          refine ap (y_move rfl) ?_
          refine ap (y_add rfl rfl) ?_
          refine ap (y_assign rfl) ?_
          refine a_nil ?_
          refine a_en [(1, .pointer (some ⟨b0_0, 0, none⟩)), (3, .bool yj10_3), (4, .int .i64 yj3_4), (5, .pointer (some ⟨b5_5, 0, none⟩)), (6, .int .i64 (IntKind.i64.wrap (yj8_6 + 1)))] ?_
          refine a_then ?_
          intro a_ w_ ha_ hs_
          exact ⟨n_j8, Nat.lt_succ_self _, yj10_3, IntKind.i64.wrap (yj8_6 + 1), hm, ha_.weaken ⟨rfl, rfl, rfl, rfl, rfl, trivial⟩, hs_.reix [] (by decide)⟩
        have hm := cond_f k_9 hm
        refine a_exit ?_
        refine a_then_exit ?_
        refine a_then_exit ?_
        refine a_block_hit ?_
        refine a_cut ?_
        intro a_ w_ ha_ hs_
        exact ⟨yj8_3, Option.some.inj hm, ha_.weaken ⟨rfl, rfl, rfl, trivial⟩, hs_.reix [] (by decide)⟩
      have hm := hm_j7
      rintro a_ w_ ⟨yj7_3, rfl, ha_, hs_⟩
      try dsimp only at hm
      refine a_start ha_ hs_ ?_
      refine a_block_normal ?_
      refine a_then ?_
      refine a_region rfl ?_
      refine ap (y_move rfl) ?_
      refine ap (y_add rfl rfl) ?_
      refine ap (y_assign rfl) ?_
      refine a_nil ?_
      refine a_en [(1, .pointer (some ⟨b0_0, 0, none⟩)), (3, .bool yj7_3), (4, .int .i64 (IntKind.i64.wrap (yj3_4 + 1)))] ?_
      refine a_then ?_
      intro a_ w_ ha_ hs_
      exact ⟨n_j3, Nat.lt_succ_self _, Hb5_5, (lj3.trans lb5_5), yj7_3, IntKind.i64.wrap (yj3_4 + 1), hm, ha_.weaken ⟨rfl, rfl, rfl, trivial⟩, hs_.reix [] (by decide)⟩
    have hm := cond_f k_5 hm
    refine a_exit ?_
    refine a_then_exit ?_
    refine a_then_exit ?_
    refine a_block_hit ?_
    refine a_cut ?_
    intro a_ w_ ha_ hs_
    exact ⟨Hj3, lj3, yj3_3, Option.some.inj hm, ha_.weaken ⟨rfl, rfl, trivial⟩, hs_.reix [] (by decide)⟩
  have hm := hm_j2
  rintro a_ w_ ⟨Hj2, lj2, yj2_3, rfl, ha_, hs_⟩
  try dsimp only at hm
  refine a_start ha_ hs_ ?_
  have hb0_0 := PAt.mono lj2 hb0_0
  refine a_then ?_
  refine a_seq ?_
  refine a_seq ?_
  refine a_region rfl ?_
  refine ap (y_assign rfl) ?_
  refine a_nil ?_
  refine a_then ?_
  obtain ⟨s_j11, hs_j11, hm_j11⟩ := bind_some hm
  refine a_join (fun a_ w_ => ∃ (Hj11 : Hp), ∃ (_ : HLe Hj2 Hj11), ∃ (yj11_3 : Bool), yj11_3 = s_j11 ∧ Ag 109 [] [(3, .bool yj11_3)] a_ ∧ St (Kp.mk w H noX) Hj11 [] w_) ?_ ?_
  · have hm := hs_j11
    refine a_block ?_
    refine a_loop (fun n_j12 a_ w_ => ∃ (Hj12 : Hp), ∃ (_ : HLe Hj2 Hj12), ∃ (yj12_3 : Bool), ∃ (yj12_7 : Int), law03_sound_lj12 k p0 n_j12 yj12_3 yj12_7 = some s_j11 ∧ Ag 109 [] [(1, .pointer (some ⟨b0_0, 0, none⟩)), (3, .bool yj12_3), (7, .int .i64 yj12_7)] a_ ∧ St (Kp.mk w H noX) Hj12 [] w_) k ?_ ?_
    · intro a_ w_ ha_ hs_
      exact ⟨Hj2, (HLe.refl _), yj2_3, 0, hm, ha_.weaken ⟨rfl, rfl, rfl, trivial⟩, hs_.reix [] (by decide)⟩
    rintro (_ | n_j12) a_ w_ ⟨Hj12, lj12, yj12_3, yj12_7, hm, ha_, hs_⟩
    · rw [law03_sound_lj12.eq_1] at hm; cases hm
    rw [law03_sound_lj12.eq_2] at hm
    refine a_start ha_ hs_ ?_
    have hb0_0 := PAt.mono lj12 hb0_0
    refine a_seq ?_
    refine a_seq ?_
    obtain ⟨s_j13, hs_j13, hm_j13⟩ := bind_some hm
    refine a_join (fun a_ w_ => ∃ (yj13_72 : Bool), yj13_72 = s_j13 ∧ Ag 109 [] [(1, .pointer (some ⟨b0_0, 0, none⟩)), (3, .bool yj12_3), (7, .int .i64 yj12_7), (72, .bool yj13_72)] a_ ∧ St (Kp.mk w H noX) Hj12 [] w_) ?_ ?_
    · have hm := hs_j13
      refine a_region rfl ?_
      refine ap (y_move rfl) ?_
      refine ap (y_move rfl) ?_
      rcases Bool.eq_false_or_eq_true (yj12_3) with k12_2 | k12_2
      · have hm := cond_t k12_2 hm
        refine ag ⟨_, _, rfl, rfl, k12_2⟩ (y_move rfl) ?_
        have h12_3 := TunnelBook.at_Frames hb0_0
        refine ag ⟨_, _, rfl, rfl, k12_2⟩ (y_fieldAddr fo25_1 rfl) ?_
        obtain ⟨v12_4, h12_4, c12_4⟩ := PAt.sl h12_3
        refine ag ⟨_, _, rfl, rfl, k12_2⟩ (y_load_one ty23 rfl (fun _ h => h.sub) rfl c12_4) ?_
        refine ag ⟨_, _, rfl, rfl, k12_2⟩ (y_len_sl Tryd.underlying23 rfl h12_4) ?_
        refine ag ⟨_, _, rfl, rfl, k12_2⟩ (y_lss rfl rfl) ?_
        refine ap (y_pick_t rfl k12_2 rfl) ?_
        refine a_nil ?_
        refine a_en [(1, .pointer (some ⟨b0_0, 0, none⟩)), (3, .bool yj12_3), (7, .int .i64 yj12_7), (67, .int .i64 yj12_7), (68, .pointer (some ⟨b0_0, 0 + 1, none⟩)), (69, v12_4), (70, .int .i64 (p0.Frames.length : Int)), (71, .bool (decide (yj12_7 < (p0.Frames.length : Int)))), (72, .bool (decide (yj12_7 < (p0.Frames.length : Int))))] ?_
        refine a_cut ?_
        intro a_ w_ ha_ hs_
        exact ⟨decide (yj12_7 < (p0.Frames.length : Int)), Option.some.inj hm, ha_.weaken ⟨rfl, rfl, rfl, rfl, trivial⟩, hs_.reix [] (by decide)⟩
      have hm := cond_f k12_2 hm
      refine as1 (sk1 rfl rfl k12_2) ?_
      refine as1 (sk1 rfl rfl k12_2) ?_
      refine as1 (sk1 rfl rfl k12_2) ?_
      refine as1 (sk1 rfl rfl k12_2) ?_
      refine as1 (sk1 rfl rfl k12_2) ?_
      refine ap (y_pick_f rfl k12_2 rfl) ?_
      refine a_nil ?_
      refine a_en [(1, .pointer (some ⟨b0_0, 0, none⟩)), (3, .bool yj12_3), (7, .int .i64 yj12_7), (67, undef), (68, undef), (69, undef), (70, undef), (71, undef), (72, .bool false)] ?_
      refine a_cut ?_
      intro a_ w_ ha_ hs_
      exact ⟨false, Option.some.inj hm, ha_.weaken ⟨rfl, rfl, rfl, rfl, trivial⟩, hs_.reix [] (by decide)⟩
    have hm := hm_j13
    rintro a_ w_ ⟨yj13_72, rfl, ha_, hs_⟩
    try dsimp only at hm
    refine a_start ha_ hs_ ?_
    refine a_then ?_
    refine a_cond rfl (fun k_14 => ?_) (fun k_14 => ?_)
    · have hm := cond_t k_14 hm
      refine a_skip ?_
      refine a_then ?_
      refine a_seq ?_
      refine a_block ?_
      refine a_seq ?_
      refine a_region rfl ?_
      have h14_0 := TunnelBook.at_Frames hb0_0
      refine ap (y_fieldAddr fo25_1 rfl) ?_
      obtain ⟨v14_1, h14_1, c14_1⟩ := PAt.sl h14_0
      refine ap (y_load_one ty23 rfl (fun _ h => h.sub) rfl c14_1) ?_
      refine ap (y_move rfl) ?_
      obtain ⟨x14_3, q14_3, hm⟩ := bind_some hm
      obtain ⟨b14_3, o14_3, c14_3, e14_3, h14_3⟩ := Sl.elemZ 3 rfl h14_1 q14_3
      refine ap (y_index Tryd.underlying23 ty55 rfl e14_3 rfl (nth_in q14_3)) ?_
      obtain ⟨u14_4, h14_4, c14_4⟩ := PAt.one h14_3
      refine ap (y_load_cells ty55 rfl (fun _ h => h.sub) rfl c14_4 (Rp.len h14_4)) ?_
      refine a_cons (e_alloc (cs := [.slice none 0 0, .int .i64 0, .int .i64 0]) trivial rfl ty55 rfl ?_)
      intro b14_5
      refine a_cons (e_storeWhole (i := 0) (ds := u14_4) trivial ty55 rfl rfl rfl rfl (Rp.len h14_4) ((Rp.one h14_4)) rfl ?_)
      refine a_nil ?_
      refine a_freeze (α := TunnelFrame) (x := x14_3) (i := 0) rfl h14_4 ?_
      intro Hb14_5 lb14_5 hb14_5
      have hb0_0 := PAt.mono lb14_5 hb0_0
      have h14_0 := PAt.mono lb14_5 h14_0
      have h14_1 := Sl.mono lb14_5 h14_1
      have h14_3 := PAt.mono lb14_5 h14_3
      have h14_4 := Rp.mono lb14_5 h14_4
      refine a_en [(1, .pointer (some ⟨b0_0, 0, none⟩)), (7, .int .i64 yj12_7), (8, .pointer (some ⟨b14_5, 0, none⟩))] ?_
      refine a_own [] (by decide) (L' := []) rfl ?_
      refine a_then ?_
      refine a_seq ?_
      obtain ⟨s_j15, hs_j15, hm_j15⟩ := bind_some hm
      refine a_join (fun a_ w_ => ∃ (yj15_3 : Bool), yj15_3 = s_j15 ∧ Ag 109 [] [(1, .pointer (some ⟨b0_0, 0, none⟩)), (3, .bool yj15_3), (7, .int .i64 yj12_7), (8, .pointer (some ⟨b14_5, 0, none⟩))] a_ ∧ St (Kp.mk w H noX) Hb14_5 [] w_) ?_ ?_
      · have hm := hs_j15
        refine a_region rfl ?_
        have h15_0 := TunnelFrame.at_Stay hb14_5
        refine ap (y_fieldAddr fo55_0 rfl) ?_
        obtain ⟨v15_1, h15_1, c15_1⟩ := PAt.sl h15_0
        refine ap (y_load_one ty26 rfl (fun _ h => h.sub) rfl c15_1) ?_
        refine ap (y_len_sl Tryd.underlying26 rfl h15_1) ?_
        have h15_3 := TunnelBook.at_Parts hb0_0
        refine ap (y_fieldAddr fo25_0 rfl) ?_
        obtain ⟨v15_4, h15_4, c15_4⟩ := PAt.sl h15_3
        refine ap (y_load_one ty22 rfl (fun _ h => h.sub) rfl c15_4) ?_
        refine ap (y_len_sl Tryd.underlying22 rfl h15_4) ?_
        refine ap (y_eql rfl rfl) ?_
        refine ap (y_move rfl) ?_
        rcases Bool.eq_false_or_eq_true ((x14_3.Stay.length : Int) == (p0.Parts.length : Int)) with k15_8 | k15_8
        · have hm := cond_t k15_8 hm
          have h15_8 := TunnelFrame.at_Need hb14_5
          refine ag ⟨_, _, rfl, rfl, k15_8⟩ (y_fieldAddr fo55_1 rfl) ?_
          obtain ⟨u15_9, h15_9, c15_9⟩ := PAt.one h15_8
          refine ag ⟨_, _, rfl, rfl, k15_8⟩ (y_load_cells ty32 rfl (fun _ h => h.sub) rfl c15_9 (Rp.len h15_9)) ?_
          obtain ⟨x15_10, q15_10, hm⟩ := bind_some hm
          refine a_cons (e_callV (all := [.agg u15_9.toArray, .int .i64 0, .int .i64 999]) (v := .bool x15_10) ⟨_, _, rfl, rfl, k15_8⟩ rfl Tryd.func87 rfl rfl rfl rfl rfl (fun w hw => ok_87 hw h15_9 q15_10) ?_)
          refine ap (y_pick_t rfl k15_8 rfl) ?_
          refine ap (y_assign rfl) ?_
          refine a_nil ?_
          refine a_en [(1, .pointer (some ⟨b0_0, 0, none⟩)), (3, .bool x15_10), (7, .int .i64 yj12_7), (8, .pointer (some ⟨b14_5, 0, none⟩)), (88, .pointer (some ⟨b14_5, 0 + 1, none⟩)), (89, .agg u15_9.toArray), (90, .bool x15_10)] ?_
          refine a_cut ?_
          intro a_ w_ ha_ hs_
          exact ⟨x15_10, Option.some.inj hm, ha_.weaken ⟨rfl, rfl, rfl, rfl, trivial⟩, hs_.reix [] (by decide)⟩
        have hm := cond_f k15_8 hm
        refine as1 (sk1 rfl rfl k15_8) ?_
        refine as1 (sk1 rfl rfl k15_8) ?_
        refine as1 (sk1 rfl rfl k15_8) ?_
        refine ap (y_pick_f rfl k15_8 rfl) ?_
        refine ap (y_assign rfl) ?_
        refine a_nil ?_
        refine a_en [(1, .pointer (some ⟨b0_0, 0, none⟩)), (3, .bool false), (7, .int .i64 yj12_7), (8, .pointer (some ⟨b14_5, 0, none⟩)), (88, undef), (89, undef), (90, undef)] ?_
        refine a_cut ?_
        intro a_ w_ ha_ hs_
        exact ⟨false, Option.some.inj hm, ha_.weaken ⟨rfl, rfl, rfl, rfl, trivial⟩, hs_.reix [] (by decide)⟩
      have hm := hm_j15
      rintro a_ w_ ⟨yj15_3, rfl, ha_, hs_⟩
      try dsimp only at hm
      refine a_start ha_ hs_ ?_
      refine a_then ?_
      refine a_seq ?_
      refine a_region rfl ?_
      refine ap (y_assign rfl) ?_
      refine a_nil ?_
      refine a_then ?_
      obtain ⟨s_j16, hs_j16, hm_j16⟩ := bind_some hm
      refine a_join (fun a_ w_ => ∃ (yj16_3 : Bool), yj16_3 = s_j16 ∧ Ag 109 [] [(1, .pointer (some ⟨b0_0, 0, none⟩)), (3, .bool yj16_3), (7, .int .i64 yj12_7)] a_ ∧ St (Kp.mk w H noX) Hb14_5 [] w_) ?_ ?_
      · have hm := hs_j16
        refine a_block ?_
        refine a_loop (fun n_j17 a_ w_ => ∃ (yj17_3 : Bool), ∃ (yj17_9 : Int), law03_sound_lj17 k x14_3 n_j17 yj17_3 yj17_9 = some s_j16 ∧ Ag 109 [] [(1, .pointer (some ⟨b0_0, 0, none⟩)), (3, .bool yj17_3), (7, .int .i64 yj12_7), (8, .pointer (some ⟨b14_5, 0, none⟩)), (9, .int .i64 yj17_9)] a_ ∧ St (Kp.mk w H noX) Hb14_5 [] w_) k ?_ ?_
        · intro a_ w_ ha_ hs_
          exact ⟨yj15_3, 0, hm, ha_.weaken ⟨rfl, rfl, rfl, rfl, rfl, trivial⟩, hs_.reix [] (by decide)⟩
        rintro (_ | n_j17) a_ w_ ⟨yj17_3, yj17_9, hm, ha_, hs_⟩
        · rw [law03_sound_lj17.eq_1] at hm; cases hm
        rw [law03_sound_lj17.eq_2] at hm
        refine a_start ha_ hs_ ?_
        refine a_seq ?_
        refine a_seq ?_
        obtain ⟨s_j18, hs_j18, hm_j18⟩ := bind_some hm
        refine a_join (fun a_ w_ => ∃ (yj18_99 : Bool), yj18_99 = s_j18 ∧ Ag 109 [] [(1, .pointer (some ⟨b0_0, 0, none⟩)), (3, .bool yj17_3), (7, .int .i64 yj12_7), (8, .pointer (some ⟨b14_5, 0, none⟩)), (9, .int .i64 yj17_9), (99, .bool yj18_99)] a_ ∧ St (Kp.mk w H noX) Hb14_5 [] w_) ?_ ?_
        · have hm := hs_j18
          refine a_region rfl ?_
          refine ap (y_move rfl) ?_
          refine ap (y_move rfl) ?_
          rcases Bool.eq_false_or_eq_true (yj17_3) with k17_2 | k17_2
          · have hm := cond_t k17_2 hm
            refine ag ⟨_, _, rfl, rfl, k17_2⟩ (y_move rfl) ?_
            have h17_3 := TunnelFrame.at_Stay hb14_5
            refine ag ⟨_, _, rfl, rfl, k17_2⟩ (y_fieldAddr fo55_0 rfl) ?_
            obtain ⟨v17_4, h17_4, c17_4⟩ := PAt.sl h17_3
            refine ag ⟨_, _, rfl, rfl, k17_2⟩ (y_load_one ty26 rfl (fun _ h => h.sub) rfl c17_4) ?_
            refine ag ⟨_, _, rfl, rfl, k17_2⟩ (y_len_sl Tryd.underlying26 rfl h17_4) ?_
            refine ag ⟨_, _, rfl, rfl, k17_2⟩ (y_lss rfl rfl) ?_
            refine ap (y_pick_t rfl k17_2 rfl) ?_
            refine a_nil ?_
            refine a_en [(1, .pointer (some ⟨b0_0, 0, none⟩)), (3, .bool yj17_3), (7, .int .i64 yj12_7), (8, .pointer (some ⟨b14_5, 0, none⟩)), (9, .int .i64 yj17_9), (94, .int .i64 yj17_9), (95, .pointer (some ⟨b14_5, 0 + 0, none⟩)), (96, v17_4), (97, .int .i64 (x14_3.Stay.length : Int)), (98, .bool (decide (yj17_9 < (x14_3.Stay.length : Int)))), (99, .bool (decide (yj17_9 < (x14_3.Stay.length : Int))))] ?_
            refine a_cut ?_
            intro a_ w_ ha_ hs_
            exact ⟨decide (yj17_9 < (x14_3.Stay.length : Int)), Option.some.inj hm, ha_.weaken ⟨rfl, rfl, rfl, rfl, rfl, rfl, trivial⟩, hs_.reix [] (by decide)⟩
          have hm := cond_f k17_2 hm
          refine as1 (sk1 rfl rfl k17_2) ?_
          refine as1 (sk1 rfl rfl k17_2) ?_
          refine as1 (sk1 rfl rfl k17_2) ?_
          refine as1 (sk1 rfl rfl k17_2) ?_
          refine as1 (sk1 rfl rfl k17_2) ?_
          refine ap (y_pick_f rfl k17_2 rfl) ?_
          refine a_nil ?_
          refine a_en [(1, .pointer (some ⟨b0_0, 0, none⟩)), (3, .bool yj17_3), (7, .int .i64 yj12_7), (8, .pointer (some ⟨b14_5, 0, none⟩)), (9, .int .i64 yj17_9), (94, undef), (95, undef), (96, undef), (97, undef), (98, undef), (99, .bool false)] ?_
          refine a_cut ?_
          intro a_ w_ ha_ hs_
          exact ⟨false, Option.some.inj hm, ha_.weaken ⟨rfl, rfl, rfl, rfl, rfl, rfl, trivial⟩, hs_.reix [] (by decide)⟩
        have hm := hm_j18
        rintro a_ w_ ⟨yj18_99, rfl, ha_, hs_⟩
        try dsimp only at hm
        refine a_start ha_ hs_ ?_
        refine a_then ?_
        refine a_cond rfl (fun k_19 => ?_) (fun k_19 => ?_)
        · have hm := cond_t k_19 hm
          refine a_skip ?_
          refine a_then ?_
          refine a_seq ?_
          refine a_block ?_
          refine a_region rfl ?_
          have h19_0 := TunnelFrame.at_Stay hb14_5
          refine ap (y_fieldAddr fo55_0 rfl) ?_
          obtain ⟨v19_1, h19_1, c19_1⟩ := PAt.sl h19_0
          refine ap (y_load_one ty26 rfl (fun _ h => h.sub) rfl c19_1) ?_
          refine ap (y_move rfl) ?_
          obtain ⟨x19_3, q19_3, hm⟩ := bind_some hm
          obtain ⟨b19_3, o19_3, c19_3, e19_3, h19_3⟩ := Sl.elemZ 1 rfl h19_1 q19_3
          refine ap (y_index Tryd.underlying26 ty3 rfl e19_3 rfl (nth_in q19_3)) ?_
          refine ap (y_load_int ty3 rfl (fun _ h => h.sub) rfl h19_3) ?_
          obtain ⟨x19_5, q19_5, hm⟩ := bind_some hm
          refine a_cons (e_callV (all := [.int .i64 x19_3, .int .i64 0, .int .i64 20]) (v := .bool x19_5) trivial rfl Tryd.func50 rfl rfl rfl rfl rfl (fun w hw => ok_50 hw q19_5) ?_)
          refine ap (y_assign rfl) ?_
          refine a_nil ?_
          refine a_en [(1, .pointer (some ⟨b0_0, 0, none⟩)), (3, .bool x19_5), (7, .int .i64 yj12_7), (8, .pointer (some ⟨b14_5, 0, none⟩)), (9, .int .i64 yj17_9)] ?_
          refine a_block_normal ?_
          refine a_then ?_
          refine a_region rfl ?_
          refine ap (y_move rfl) ?_
          refine ap (y_add rfl rfl) ?_
          refine ap (y_assign rfl) ?_
          refine a_nil ?_
          refine a_en [(1, .pointer (some ⟨b0_0, 0, none⟩)), (3, .bool x19_5), (7, .int .i64 yj12_7), (8, .pointer (some ⟨b14_5, 0, none⟩)), (9, .int .i64 (IntKind.i64.wrap (yj17_9 + 1)))] ?_
          refine a_then ?_
          intro a_ w_ ha_ hs_
          exact ⟨n_j17, Nat.lt_succ_self _, x19_5, IntKind.i64.wrap (yj17_9 + 1), hm, ha_.weaken ⟨rfl, rfl, rfl, rfl, rfl, trivial⟩, hs_.reix [] (by decide)⟩
        have hm := cond_f k_19 hm
        refine a_exit ?_
        refine a_then_exit ?_
        refine a_then_exit ?_
        refine a_block_hit ?_
        refine a_cut ?_
        intro a_ w_ ha_ hs_
        exact ⟨yj17_3, Option.some.inj hm, ha_.weaken ⟨rfl, rfl, rfl, trivial⟩, hs_.reix [] (by decide)⟩
      have hm := hm_j16
      rintro a_ w_ ⟨yj16_3, rfl, ha_, hs_⟩
      try dsimp only at hm
      refine a_start ha_ hs_ ?_
      refine a_block_normal ?_
      refine a_then ?_
      refine a_region rfl ?_
      refine ap (y_move rfl) ?_
      refine ap (y_add rfl rfl) ?_
      refine ap (y_assign rfl) ?_
      refine a_nil ?_
      refine a_en [(1, .pointer (some ⟨b0_0, 0, none⟩)), (3, .bool yj16_3), (7, .int .i64 (IntKind.i64.wrap (yj12_7 + 1)))] ?_
      refine a_then ?_
      intro a_ w_ ha_ hs_
      exact ⟨n_j12, Nat.lt_succ_self _, Hb14_5, (lj12.trans lb14_5), yj16_3, IntKind.i64.wrap (yj12_7 + 1), hm, ha_.weaken ⟨rfl, rfl, rfl, trivial⟩, hs_.reix [] (by decide)⟩
    have hm := cond_f k_14 hm
    refine a_exit ?_
    refine a_then_exit ?_
    refine a_then_exit ?_
    refine a_block_hit ?_
    refine a_cut ?_
    intro a_ w_ ha_ hs_
    exact ⟨Hj12, lj12, yj12_3, Option.some.inj hm, ha_.weaken ⟨rfl, trivial⟩, hs_.reix [] (by decide)⟩
  have hm := hm_j11
  rintro a_ w_ ⟨Hj11, lj11, yj11_3, rfl, ha_, hs_⟩
  try dsimp only at hm
  refine a_start ha_ hs_ ?_
  refine a_then ?_
  refine a_seq ?_
  refine a_region rfl ?_
  refine ap (y_move rfl) ?_
  refine ap (y_assign rfl) ?_
  refine a_nil ?_
  refine a_en [(2, .bool yj11_3)] ?_
  refine a_then ?_
  refine a_ret ?_
  refine a_done (v := .bool yj11_3) (.inl rfl) rfl ?_ ?_
  · intro a_ w_ ha_ hs_; exact run_results (P := Tryd.prog) (fn := Tryd.f43) (rs := [.tmp 2]) (vs := [.bool yj11_3]) rfl (.cons (rv_tmp ha_ rfl) (All2.nil))
  · intro _ _; obtain rfl := Option.some.inj hm
    rfl

def ref00_Spin (k : Nat) (p0 : Int) (p1 : Int) : Option Int :=
 bif decide (p1 < 1) then
 some (0)
 else
 (rem p0 p1).bind fun x3_2 =>
 bif decide (x3_2 < 0) then
 some ((IntKind.i64.wrap (x3_2 + p1)))
 else
 some (x3_2)
theorem ok_52 {k : Nat} {H : Hp} {w : World} {p0 : Int} {p1 : Int} {r : Int} (hsub : Sub H w)  (hm : ref00_Spin k p0 p1 = some r) : Calls Tryd.prog 52 [.int .i64 p0, .int .i64 p1].toArray w (PostV w H (.int .i64 r)) := by
  unfold ref00_Spin at hm
  refine start (n := 17) (E := [(0, .int .i64 p0), (1, .int .i64 p1)]) Tryd.func52 rfl rfl ⟨rfl, rfl, trivial⟩ rfl hsub ?_
  refine a_seq ?_
  refine a_region rfl ?_
  refine ap (y_assign rfl) ?_
  refine a_nil ?_
  refine a_en [(0, .int .i64 p0), (1, .int .i64 p1)] ?_
  refine a_then ?_
  refine a_seq ?_
  refine a_seq ?_
  refine a_region rfl ?_
  refine ap (y_move rfl) ?_
  refine ap (y_lss rfl rfl) ?_
  refine a_nil ?_
  refine a_en [(0, .int .i64 p0), (1, .int .i64 p1), (7, .bool (decide (p1 < 1)))] ?_
  refine a_then ?_
  refine a_cond rfl (fun k_1 => ?_) (fun k_1 => ?_)
  · have hm := cond_t k_1 hm
    refine a_seq ?_
    refine a_region rfl ?_
    refine ap (y_assign rfl) ?_
    refine a_nil ?_
    refine a_en [(4, .int .i64 0)] ?_
    refine a_then ?_
    refine a_ret ?_
    refine a_then_ret ?_
    refine a_done (v := .int .i64 0) (.inl rfl) rfl ?_ ?_
    · intro a_ w_ ha_ hs_; exact run_results (P := Tryd.prog) (fn := Tryd.f52) (rs := [.tmp 4]) (vs := [.int .i64 0]) rfl (.cons (rv_tmp ha_ rfl) (All2.nil))
    · intro _ _; obtain rfl := Option.some.inj hm
      rfl
  have hm := cond_f k_1 hm
  refine a_skip ?_
  refine a_then ?_
  refine a_seq ?_
  refine a_region rfl ?_
  refine ap (y_move rfl) ?_
  refine ap (y_move rfl) ?_
  obtain ⟨x3_2, q3_2, hm⟩ := bind_some hm
  refine ap (y_rem_some rfl rfl q3_2) ?_
  refine ap (y_assign rfl) ?_
  refine a_nil ?_
  refine a_en [(1, .int .i64 p1), (5, .int .i64 x3_2)] ?_
  refine a_then ?_
  refine a_seq ?_
  refine a_seq ?_
  refine a_region rfl ?_
  refine ap (y_move rfl) ?_
  refine ap (y_lss rfl rfl) ?_
  refine a_nil ?_
  refine a_en [(1, .int .i64 p1), (5, .int .i64 x3_2), (12, .bool (decide (x3_2 < 0)))] ?_
  refine a_then ?_
  refine a_cond rfl (fun k_2 => ?_) (fun k_2 => ?_)
  · have hm := cond_t k_2 hm
    refine a_region rfl ?_
    refine ap (y_move rfl) ?_
    refine ap (y_move rfl) ?_
    refine ap (y_add rfl rfl) ?_
    refine ap (y_assign rfl) ?_
    refine a_nil ?_
    refine a_en [(5, .int .i64 (IntKind.i64.wrap (x3_2 + p1)))] ?_
    refine a_then ?_
    refine a_seq ?_
    refine a_region rfl ?_
    refine ap (y_move rfl) ?_
    refine ap (y_assign rfl) ?_
    refine a_nil ?_
    refine a_en [(4, .int .i64 (IntKind.i64.wrap (x3_2 + p1)))] ?_
    refine a_then ?_
    refine a_ret ?_
    refine a_done (v := .int .i64 (IntKind.i64.wrap (x3_2 + p1))) (.inl rfl) rfl ?_ ?_
    · intro a_ w_ ha_ hs_; exact run_results (P := Tryd.prog) (fn := Tryd.f52) (rs := [.tmp 4]) (vs := [.int .i64 (IntKind.i64.wrap (x3_2 + p1))]) rfl (.cons (rv_tmp ha_ rfl) (All2.nil))
    · intro _ _; obtain rfl := Option.some.inj hm
      rfl
  have hm := cond_f k_2 hm
  refine a_skip ?_
  refine a_then ?_
  refine a_seq ?_
  refine a_region rfl ?_
  refine ap (y_move rfl) ?_
  refine ap (y_assign rfl) ?_
  refine a_nil ?_
  refine a_en [(4, .int .i64 x3_2)] ?_
  refine a_then ?_
  refine a_ret ?_
  refine a_done (v := .int .i64 x3_2) (.inl rfl) rfl ?_ ?_
  · intro a_ w_ ha_ hs_; exact run_results (P := Tryd.prog) (fn := Tryd.f52) (rs := [.tmp 4]) (vs := [.int .i64 x3_2]) rfl (.cons (rv_tmp ha_ rfl) (All2.nil))
  · intro _ _; obtain rfl := Option.some.inj hm
    rfl

def ref00_Drawn (k : Nat) (p0 : Span) (p1 : Int) : Option Int :=
 (ref00_Spin k p1 (IntKind.i64.wrap ((IntKind.i64.wrap (p0.High - p0.Low)) + 1))).bind fun x1_9 =>
 some ((IntKind.i64.wrap (p0.Low + x1_9)))
theorem ok_62 {k : Nat} {H : Hp} {w : World} {p0 : Span} {p1 : Int} {c0 : List Value} {r : Int} (hsub : Sub H w) (h0 : Rp.rep (α := Span) H c0 p0) (hm : ref00_Drawn k p0 p1 = some r) : Calls Tryd.prog 62 [.agg c0.toArray, .int .i64 p1].toArray w (PostV w H (.int .i64 r)) := by
  unfold ref00_Drawn at hm
  refine start (n := 16) (E := [(0, .agg c0.toArray), (1, .int .i64 p1)]) Tryd.func62 rfl rfl ⟨rfl, rfl, trivial⟩ rfl hsub ?_
  refine a_seq ?_
  refine a_region rfl ?_
  refine a_cons (e_box (cs := c0) trivial rfl rfl rfl ?_)
  intro b0_0
  refine ap (y_assign rfl) ?_
  refine a_nil ?_
  refine a_freeze (α := Span) (x := p0) (i := 0) rfl h0 ?_
  intro Hb0_0 lb0_0 hb0_0
  have h0 := Rp.mono lb0_0 h0
  refine a_en [(1, .int .i64 p1), (2, .pointer (some ⟨b0_0, 0, none⟩))] ?_
  refine a_own [] (by decide) (L' := []) rfl ?_
  refine a_then ?_
  refine a_seq ?_
  obtain ⟨x1_9, q1_9, hm⟩ := bind_some hm
  refine d_region (S := Sw Hb0_0 []) (n := 12) (listed := (bits 12 0)) mixed (by kernel_rfl) rfl (by kernel_rfl) ?_
  have h1_0 := Span.at_Low hb0_0
  refine dt 0 1 rfl trivial (y_fieldAddr fo32_0 rfl) (sw0 []) ?_
  refine dt 1 3 rfl trivial (y_load_int ty3 rfl (fun _ h => h.1) rfl h1_0) (sw0 []) ?_
  refine dt 2 7 rfl trivial (y_move rfl) (sw0 []) ?_
  have h1_3 := Span.at_High hb0_0
  refine dt 3 15 rfl trivial (y_fieldAddr fo32_1 rfl) (sw0 []) ?_
  refine dt 4 31 rfl trivial (y_load_int ty3 rfl (fun _ h => h.1) rfl h1_3) (sw0 []) ?_
  have h1_5 := Span.at_Low hb0_0
  refine dt 5 63 rfl trivial (y_fieldAddr fo32_0 rfl) (sw0 []) ?_
  refine dt 6 127 rfl trivial (y_load_int ty3 rfl (fun _ h => h.1) rfl h1_5) (sw0 []) ?_
  refine dt 7 255 rfl trivial (y_sub rfl rfl) (sw0 []) ?_
  refine dt 8 511 rfl trivial (y_add rfl rfl) (sw0 []) ?_
  refine d1 9 rfl (e_callV (all := [.int .i64 p1, .int .i64 (IntKind.i64.wrap ((IntKind.i64.wrap (p0.High - p0.Low)) + 1))]) (v := .int .i64 x1_9) trivial rfl Tryd.func52 rfl rfl rfl rfl rfl (fun w hw => ok_52 hw q1_9) ?_)
  refine dn 1023 (sw0 []) ?_
  refine dt 10 2047 rfl trivial (y_add rfl rfl) (sw0 []) ?_
  refine dt 11 4095 rfl trivial (y_assign rfl) (sw0 []) ?_
  refine d_done (by kernel_rfl) ?_
  refine a_en [(4, .int .i64 (IntKind.i64.wrap (p0.Low + x1_9)))] ?_
  refine a_then ?_
  refine a_ret ?_
  refine a_done (v := .int .i64 (IntKind.i64.wrap (p0.Low + x1_9))) (.inl rfl) rfl ?_ ?_
  · intro a_ w_ ha_ hs_; exact run_results (P := Tryd.prog) (fn := Tryd.f62) (rs := [.tmp 4]) (vs := [.int .i64 (IntKind.i64.wrap (p0.Low + x1_9))]) rfl (.cons (rv_tmp ha_ rfl) (All2.nil))
  · intro _ _; obtain rfl := Option.some.inj hm
    rfl

def law03_TunnelLess (k : Nat) (p0 : TunnelBook) (p1 : List Int) : Option Bool :=
 ((law03_sound k p0).bind fun x1_1 =>
 bif !x1_1 then
 some (true)
 else
 some (((p0.Frames.length : Int) == 0))).bind fun yj1_33 =>
 bif yj1_33 then
 (law03_warmed k).bind fun x2_0 =>
 some (x2_0)
 else
 (nth p1 (1 : Int)).bind fun x3_0 =>
 (ref00_Spin k x3_0 (p0.Frames.length : Int)).bind fun x3_5 =>
 (nth p1 (1 : Int)).bind fun x3_6 =>
 (ref00_Spin k x3_6 (p0.Parts.length : Int)).bind fun x3_11 =>
 (app ([] : List TunnelFrame) p0.Frames).bind fun x5_3 =>
 (app ([] : List TunnelPart) p0.Parts).bind fun x5_7 =>
 (nth p1 (0 : Int)).bind fun x7_0 =>
 (ref00_Spin k x7_0 3).bind fun x7_2 =>
 (bif x7_2 == 0 then
 (cut p0.Frames 0 x3_5).bind fun x11_4 =>
 (app ([] : List TunnelFrame) x11_4).bind fun x11_5 =>
 (cut p0.Frames (IntKind.i64.wrap (x3_5 + 1)) (p0.Frames.length : Int)).bind fun x11_10 =>
 (app x11_5 x11_10).bind fun x11_11 =>
 some ((x5_7, x11_11, 1))
 else
 bif x7_2 == 1 then
 (nth p0.Frames x3_5).bind fun x14_3 =>
 (nth p1 (2 : Int)).bind fun x15_5 =>
 (ref00_Spin k x15_5 9).bind fun x15_7 =>
 (nth p1 (3 : Int)).bind fun x15_12 =>
 (ref00_Spin k x15_12 9).bind fun x15_14 =>
 (ref00_Sp k (max 0 (IntKind.i64.wrap (x14_3.Need.Low - x15_7))) (min 999 (IntKind.i64.wrap (x14_3.Need.High + x15_14)))).bind fun x15_17 =>
 (nth x5_3 x3_5).bind fun x15_18 =>
 some ((x5_7, (x5_3).set (x3_5).toNat (⟨x15_18.Stay, x15_17⟩ : TunnelFrame), 0))
 else
 (nth p0.Parts x3_11).bind fun x8_3 =>
 (nth p1 (2 : Int)).bind fun x8_6 =>
 (ref00_Drawn k x8_3.Damp x8_6).bind fun x8_8 =>
 (nth p0.Parts x3_11).bind fun x9_8 =>
 (ref00_Sp k x8_8 x9_8.Damp.High).bind fun x9_12 =>
 (nth p1 (3 : Int)).bind fun x9_13 =>
 (ref00_Drawn k x9_12 x9_13).bind fun x9_15 =>
 (ref00_Sp k x8_8 x9_15).bind fun x9_16 =>
 (nth x5_7 x3_11).bind fun x9_17 =>
 some (((x5_7).set (x3_11).toNat (⟨x9_17.Heat, x9_16⟩ : TunnelPart), x5_3, 0))).bind fun (yj3_b4_1_0, yj3_b4_1_1, yj3_8) =>
 (tunnel_Best k p0).bind fun x16_1 =>
 (tunnel_Best k (⟨yj3_b4_1_0, yj3_b4_1_1⟩ : TunnelBook)).bind fun x17_1 =>
 (tunnel_Most k p0).bind fun x18_1 =>
 (tunnel_Most k (⟨yj3_b4_1_0, yj3_b4_1_1⟩ : TunnelBook)).bind fun x19_1 =>
 (bif x18_1.2.2 != 0 then
 some (true)
 else
 bif x19_1.2.2 != 0 then
 some (true)
 else
 bif decide ((x19_1.2.1.length : Int) < (IntKind.i64.wrap ((x18_1.2.1.length : Int) - yj3_8))) then
 some (true)
 else
 bif x16_1.2 != 0 then
 bif x16_1.2 != 4 then
 some (true)
 else
 bif x17_1.2 != 0 then
 bif x17_1.2 != 4 then
 some (true)
 else
 some ((x16_1.2 == 0))
 else
 some (false)
 else
 bif x17_1.2 != 0 then
 bif x17_1.2 != 4 then
 some (true)
 else
 some ((x16_1.2 == 0))
 else
 some (false)).bind fun yj6_188 =>
 bif yj6_188 then
 some (false)
 else
 bif x16_1.2 != 0 then
 (law03_warmed k).bind fun x23_0 =>
 some (x23_0)
 else
 (tunnel_Heat k p0 x16_1.1).bind fun x24_2 =>
 (tunnel_Heat k (⟨yj3_b4_1_0, yj3_b4_1_1⟩ : TunnelBook) x17_1.1).bind fun x25_2 =>
 (bif x24_2.2 == 0 then
 bif x25_2.2 == 0 then
 bif decide (x25_2.1 ≤ x24_2.1) then
 (law03_warmed k).bind fun x26_12 =>
 some (x26_12)
 else
 some (false)
 else
 some (false)
 else
 some (false)).bind fun yj9_4 =>
 some (yj9_4)
theorem ok_11 {k : Nat} {H : Hp} {w : World} {p0 : TunnelBook} {p1 : List Int} {c0 : List Value} {c1 : List Value} {r : Bool} (hsub : Sub H w) (h0 : Rp.rep (α := TunnelBook) H c0 p0) (h1 : Rp.rep (α := Arr 4 Int) H c1 p1) (hg : Glob H) (hm : law03_TunnelLess k p0 p1 = some r) : Calls Tryd.prog 11 [.agg c0.toArray, .agg c1.toArray].toArray w (PostV w H (.bool r)) := by
  unfold law03_TunnelLess at hm
  refine start (n := 218) (E := [(0, .agg c0.toArray), (1, .agg c1.toArray)]) Tryd.func11 rfl rfl ⟨rfl, rfl, trivial⟩ rfl hsub ?_
  refine a_seq ?_
  refine a_region rfl ?_
  refine a_cons (e_box (cs := c0) trivial rfl rfl rfl ?_)
  intro b0_0
  refine a_cons (e_box (cs := c1) trivial rfl rfl rfl ?_)
  intro b0_1
  refine ap (y_assign rfl) ?_
  refine a_nil ?_
  refine a_freeze (α := Arr 4 Int) (x := p1) (i := 0) rfl h1 ?_
  intro Hb0_1 lb0_1 hb0_1
  have h0 := Rp.mono lb0_1 h0
  have h1 := Rp.mono lb0_1 h1
  have hg := Glob.mono lb0_1 hg
  refine a_freeze (α := TunnelBook) (x := p0) (i := 1) rfl h0 ?_
  intro Hb0_0 lb0_0 hb0_0
  have h0 := Rp.mono lb0_0 h0
  have h1 := Rp.mono lb0_0 h1
  have hb0_1 := PAt.mono lb0_0 hb0_1
  have hg := Glob.mono lb0_0 hg
  refine a_en [(2, .pointer (some ⟨b0_0, 0, none⟩)), (3, .pointer (some ⟨b0_1, 0, none⟩))] ?_
  refine a_own [] (by decide) (L' := []) rfl ?_
  refine a_then ?_
  refine a_seq ?_
  refine a_seq ?_
  obtain ⟨s_j1, hs_j1, hm_j1⟩ := bind_some hm
  refine a_join (fun a_ w_ => ∃ (yj1_33 : Bool), yj1_33 = s_j1 ∧ Ag 218 [] [(2, .pointer (some ⟨b0_0, 0, none⟩)), (3, .pointer (some ⟨b0_1, 0, none⟩)), (33, .bool yj1_33)] a_ ∧ St (Kp.mk w H noX) Hb0_0 [] w_) ?_ ?_
  · have hm := hs_j1
    refine a_region rfl ?_
    obtain ⟨u1_0, h1_0, c1_0⟩ := PAt.one hb0_0
    refine ap (y_load_cells ty25 rfl (fun _ h => h.sub) rfl c1_0 (Rp.len h1_0)) ?_
    obtain ⟨x1_1, q1_1, hm⟩ := bind_some hm
    refine a_cons (e_callV (all := [.agg u1_0.toArray]) (v := .bool x1_1) trivial rfl Tryd.func43 rfl rfl rfl rfl rfl (fun w hw => ok_43 hw h1_0 q1_1) ?_)
    refine ap (y_not rfl) ?_
    refine ap (y_move rfl) ?_
    rcases Bool.eq_false_or_eq_true (!x1_1) with k1_4 | k1_4
    · have hm := cond_t k1_4 hm
      refine as1 (sk1 rfl rfl k1_4) ?_
      refine as1 (sk1 rfl rfl k1_4) ?_
      refine as1 (sk1 rfl rfl k1_4) ?_
      refine as1 (sk1 rfl rfl k1_4) ?_
      refine ap (y_pick_t rfl k1_4 rfl) ?_
      refine a_nil ?_
      refine a_en [(2, .pointer (some ⟨b0_0, 0, none⟩)), (3, .pointer (some ⟨b0_1, 0, none⟩)), (33, .bool true)] ?_
      refine a_cut ?_
      intro a_ w_ ha_ hs_
      exact ⟨true, Option.some.inj hm, ha_.weaken ⟨rfl, rfl, rfl, trivial⟩, hs_.reix [] (by decide)⟩
    have hm := cond_f k1_4 hm
    have h1_4 := TunnelBook.at_Frames hb0_0
    refine ag ⟨_, _, rfl, rfl, k1_4⟩ (y_fieldAddr fo25_1 rfl) ?_
    obtain ⟨v1_5, h1_5, c1_5⟩ := PAt.sl h1_4
    refine ag ⟨_, _, rfl, rfl, k1_4⟩ (y_load_one ty23 rfl (fun _ h => h.sub) rfl c1_5) ?_
    refine ag ⟨_, _, rfl, rfl, k1_4⟩ (y_len_sl Tryd.underlying23 rfl h1_5) ?_
    refine ag ⟨_, _, rfl, rfl, k1_4⟩ (y_eql rfl rfl) ?_
    refine ap (y_pick_f rfl k1_4 rfl) ?_
    refine a_nil ?_
    refine a_en [(2, .pointer (some ⟨b0_0, 0, none⟩)), (3, .pointer (some ⟨b0_1, 0, none⟩)), (33, .bool ((p0.Frames.length : Int) == 0))] ?_
    refine a_cut ?_
    intro a_ w_ ha_ hs_
    exact ⟨(p0.Frames.length : Int) == 0, Option.some.inj hm, ha_.weaken ⟨rfl, rfl, rfl, trivial⟩, hs_.reix [] (by decide)⟩
  have hm := hm_j1
  rintro a_ w_ ⟨yj1_33, rfl, ha_, hs_⟩
  try dsimp only at hm
  refine a_start ha_ hs_ ?_
  refine a_then ?_
  refine a_cond rfl (fun k_2 => ?_) (fun k_2 => ?_)
  · have hm := cond_t k_2 hm
    refine a_seq ?_
    refine a_region rfl ?_
    obtain ⟨x2_0, q2_0, hm⟩ := bind_some hm
    refine a_cons (e_callV (all := []) (v := .bool x2_0) trivial rfl Tryd.func30 rfl rfl rfl rfl rfl (fun w hw => ok_30 hw hg q2_0) ?_)
    refine ap (y_assign rfl) ?_
    refine a_nil ?_
    refine a_en [(4, .bool x2_0)] ?_
    refine a_then ?_
    refine a_ret ?_
    refine a_then_ret ?_
    refine a_done (v := .bool x2_0) (.inl rfl) rfl ?_ ?_
    · intro a_ w_ ha_ hs_; exact run_results (P := Tryd.prog) (fn := Tryd.f11) (rs := [.tmp 4]) (vs := [.bool x2_0]) rfl (.cons (rv_tmp ha_ rfl) (All2.nil))
    · intro _ _; obtain rfl := Option.some.inj hm
      rfl
  have hm := cond_f k_2 hm
  refine a_skip ?_
  refine a_then ?_
  refine a_seq ?_
  obtain ⟨x3_0, q3_0, hm⟩ := bind_some hm
  obtain ⟨x3_5, q3_5, hm⟩ := bind_some hm
  obtain ⟨x3_6, q3_6, hm⟩ := bind_some hm
  obtain ⟨x3_11, q3_11, hm⟩ := bind_some hm
  refine d_region (S := Sw Hb0_0 []) (n := 14) (listed := (bits 14 0)) mixed (by kernel_rfl) rfl (by kernel_rfl) ?_
  have h3_0 := PAt.arrZ 1 rfl hb0_1 q3_0
  have k3_0 := PAt.arrIn hb0_1 q3_0
  refine dt 0 1 rfl trivial (y_index_arrp Tryd.underlying62 ty3 rfl rfl k3_0) (sw0 []) ?_
  refine dt 1 3 rfl trivial (y_load_int ty3 rfl (fun _ h => h.1) rfl h3_0) (sw0 []) ?_
  have h3_2 := TunnelBook.at_Frames hb0_0
  refine dt 2 7 rfl trivial (y_fieldAddr fo25_1 rfl) (sw0 []) ?_
  obtain ⟨v3_3, h3_3, c3_3⟩ := PAt.sl h3_2
  refine dt 3 15 rfl trivial (y_load_one ty23 rfl (fun _ h => h.1) rfl c3_3) (sw0 []) ?_
  refine dt 4 31 rfl trivial (y_len_sl Tryd.underlying23 rfl h3_3) (sw0 []) ?_
  have h3_6 := PAt.arrZ 1 rfl hb0_1 q3_6
  have k3_6 := PAt.arrIn hb0_1 q3_6
  refine dt 6 95 rfl trivial (y_index_arrp Tryd.underlying62 ty3 rfl rfl k3_6) (sw0 []) ?_
  refine dt 7 223 rfl trivial (y_load_int ty3 rfl (fun _ h => h.1) rfl h3_6) (sw0 []) ?_
  have h3_8 := TunnelBook.at_Parts hb0_0
  refine dt 8 479 rfl trivial (y_fieldAddr fo25_0 rfl) (sw0 []) ?_
  obtain ⟨v3_9, h3_9, c3_9⟩ := PAt.sl h3_8
  refine dt 9 991 rfl trivial (y_load_one ty22 rfl (fun _ h => h.1) rfl c3_9) (sw0 []) ?_
  refine dt 10 2015 rfl trivial (y_len_sl Tryd.underlying22 rfl h3_9) (sw0 []) ?_
  refine d1 5 rfl (e_callV (all := [.int .i64 x3_0, .int .i64 (p0.Frames.length : Int)]) (v := .int .i64 x3_5) trivial rfl Tryd.func52 rfl rfl rfl rfl rfl (fun w hw => ok_52 hw q3_5) ?_)
  refine dn 2047 (sw0 []) ?_
  refine d1 11 rfl (e_callV (all := [.int .i64 x3_6, .int .i64 (p0.Parts.length : Int)]) (v := .int .i64 x3_11) trivial rfl Tryd.func52 rfl rfl rfl rfl rfl (fun w hw => ok_52 hw q3_11) ?_)
  refine dn 4095 (sw0 []) ?_
  refine dt 12 8191 rfl trivial (y_assign rfl) (sw0 []) ?_
  refine dt 13 16383 rfl trivial (y_assign rfl) (sw0 []) ?_
  refine d_done (by kernel_rfl) ?_
  refine a_en [(2, .pointer (some ⟨b0_0, 0, none⟩)), (3, .pointer (some ⟨b0_1, 0, none⟩)), (5, .int .i64 x3_5), (6, .int .i64 x3_11)] ?_
  refine a_then ?_
  refine a_seq ?_
  refine a_region rfl ?_
  obtain ⟨u4_0, h4_0, c4_0⟩ := PAt.one hb0_0
  refine ap (y_load_cells ty25 rfl (fun _ h => h.sub) rfl c4_0 (Rp.len h4_0)) ?_
  refine a_cons (e_alloc (cs := [.slice none 0 0, .slice none 0 0]) trivial rfl ty25 rfl ?_)
  intro b4_1
  refine a_cons (e_storeWhole (i := 0) (ds := u4_0) trivial ty25 rfl rfl rfl rfl (Rp.len h4_0) ((Rp.one h4_0)) rfl ?_)
  refine a_nil ?_
  obtain ⟨v4o4_1_0, v4o4_1_1, rfl, h4o4_1_0, h4o4_1_1⟩ := TunnelBook.opened h4_0
  refine a_en [(2, .pointer (some ⟨b0_0, 0, none⟩)), (3, .pointer (some ⟨b0_1, 0, none⟩)), (5, .int .i64 x3_5), (6, .int .i64 x3_11), (7, .pointer (some ⟨b4_1, 0, none⟩))] ?_
  refine a_then ?_
  refine a_seq ?_
  obtain ⟨x5_3, q5_3, hm⟩ := bind_some hm
  obtain ⟨x5_7, q5_7, hm⟩ := bind_some hm
  refine d_region (S := Sw Hb0_0 []) (n := 12) (listed := (bits 12 0)) mixed (by kernel_rfl) rfl (by kernel_rfl) ?_
  refine d_abs fun U5 hU5 => ?_
  have N5_0 (Hn5_7 : Hp) (ln5_7 : HLe Hb0_0 Hn5_7) (v5_3 : Value) (u5_3 : List Value) (v5_7 : Value) (u5_7 : List Value) (h5_3 : RepL (α := TunnelFrame) Hn5_7 u5_3 x5_3) (h5_7 : RepL (α := TunnelPart) Hn5_7 u5_7 x5_7) : At 218 [] (Kp.mk w H noX) [(2, .pointer (some ⟨b0_0, 0, none⟩)), (3, .pointer (some ⟨b0_1, 0, none⟩)), (5, .int .i64 x3_5), (6, .int .i64 x3_11), (7, .pointer (some ⟨b4_1, 0, none⟩))] Hn5_7 ([.box b4_1 [v5_7, v5_3] 25, .row v5_3 u5_3 55 3, .row v5_7 u5_7 64 6]) (U5 (Sw Hn5_7 []) 0 (bits 12 4095)) := by
    refine d_fwd hU5 ?_
    have hb0_0 := PAt.mono ln5_7 hb0_0
    have hb0_1 := PAt.mono ln5_7 hb0_1
    have hg := Glob.mono ln5_7 hg
    refine d_done (by kernel_rfl) ?_
    refine a_then ?_
    refine a_seq ?_
    refine a_region rfl ?_
    refine ap (y_assign rfl) ?_
    refine a_nil ?_
    refine a_then ?_
    refine a_seq ?_
    refine a_seq ?_
    refine a_region rfl ?_
    obtain ⟨x7_0, q7_0, hm⟩ := bind_some hm
    have h7_0 := PAt.arrZ 1 rfl hb0_1 q7_0
    have k7_0 := PAt.arrIn hb0_1 q7_0
    refine ap (y_index_arrp Tryd.underlying62 ty3 rfl rfl k7_0) ?_
    refine ap (y_load_int ty3 rfl (fun _ h => h.sub) rfl h7_0) ?_
    obtain ⟨x7_2, q7_2, hm⟩ := bind_some hm
    refine a_cons (e_callV (all := [.int .i64 x7_0, .int .i64 3]) (v := .int .i64 x7_2) trivial rfl Tryd.func52 rfl rfl rfl rfl rfl (fun w hw => ok_52 hw q7_2) ?_)
    refine a_nil ?_
    refine a_en [(2, .pointer (some ⟨b0_0, 0, none⟩)), (3, .pointer (some ⟨b0_1, 0, none⟩)), (5, .int .i64 x3_5), (6, .int .i64 x3_11), (7, .pointer (some ⟨b4_1, 0, none⟩)), (8, .int .i64 0), (60, .int .i64 x7_2)] ?_
    refine a_then ?_
    refine a_block ?_
    refine a_seq ?_
    refine a_region rfl ?_
    refine ap (y_eql rfl rfl) ?_
    refine ap (y_assign rfl) ?_
    refine a_nil ?_
    refine a_en [(2, .pointer (some ⟨b0_0, 0, none⟩)), (3, .pointer (some ⟨b0_1, 0, none⟩)), (5, .int .i64 x3_5), (6, .int .i64 x3_11), (7, .pointer (some ⟨b4_1, 0, none⟩)), (8, .int .i64 0), (60, .int .i64 x7_2), (89, .bool (x7_2 == 0))] ?_
    refine a_then ?_
    obtain ⟨s_j3, hs_j3, hm_j3⟩ := bind_some hm
    refine a_join (fun a_ w_ => ∃ (Hj3 : Hp), ∃ (_ : HLe Hn5_7 Hj3), ∃ (yj3_b4_1_0 : List TunnelPart), ∃ (yj3_b4_1_1 : List TunnelFrame), ∃ (yj3_8 : Int), ∃ (vj3_b4_1_0 : Value), ∃ (uj3_b4_1_0 : List Value), ∃ (vj3_b4_1_1 : Value), ∃ (uj3_b4_1_1 : List Value), (yj3_b4_1_0, yj3_b4_1_1, yj3_8) = s_j3 ∧ RepL (α := TunnelPart) Hj3 uj3_b4_1_0 yj3_b4_1_0 ∧ RepL (α := TunnelFrame) Hj3 uj3_b4_1_1 yj3_b4_1_1 ∧ Ag 218 [] [(2, .pointer (some ⟨b0_0, 0, none⟩)), (7, .pointer (some ⟨b4_1, 0, none⟩)), (8, .int .i64 yj3_8)] a_ ∧ St (Kp.mk w H noX) Hj3 ([.row vj3_b4_1_0 uj3_b4_1_0 64 6, .row vj3_b4_1_1 uj3_b4_1_1 55 3, .box b4_1 [vj3_b4_1_0, vj3_b4_1_1] 25]) w_) ?_ ?_
    · have hm := hs_j3
      refine a_cond rfl (fun k_4 => ?_) (fun k_4 => ?_)
      · have hm := cond_t k_4 hm
        refine a_seq ?_
        obtain ⟨x11_4, q11_4, hm⟩ := bind_some hm
        obtain ⟨x11_5, q11_5, hm⟩ := bind_some hm
        obtain ⟨x11_10, q11_10, hm⟩ := bind_some hm
        obtain ⟨x11_11, q11_11, hm⟩ := bind_some hm
        refine d_region (S := Sw Hn5_7 []) (n := 14) (listed := (bits 14 0)) mixed (by kernel_rfl) rfl (by kernel_rfl) ?_
        have h11_1 := TunnelBook.at_Frames hb0_0
        refine dt 1 2 rfl trivial (y_fieldAddr fo25_1 rfl) (sw0 []) ?_
        obtain ⟨v11_2, h11_2, c11_2⟩ := PAt.sl h11_1
        refine dt 2 6 rfl trivial (y_load_one ty23 rfl (fun _ h => h.1) rfl c11_2) (sw0 []) ?_
        refine dt 3 14 rfl trivial (y_move rfl) (sw0 []) ?_
        obtain ⟨v11_4, h11_4, r11_4⟩ := Sl.cut (k := .i64) (lo := none) (hi := (some x3_5)) (mx := none) h11_2 Tryd.underlying23 ty55 (fun h => nomatch h) q11_4 (fun _ h => by cases h)
        refine dt 4 30 rfl trivial (y_slice (vlo := none) (vhi := (some (.int .i64 x3_5))) (vmx := none) rfl rfl rfl rfl r11_4) (sw0 []) ?_
        have h11_6 := TunnelBook.at_Frames hb0_0
        refine dt 6 94 rfl trivial (y_fieldAddr fo25_1 rfl) (sw0 []) ?_
        obtain ⟨v11_7, h11_7, c11_7⟩ := PAt.sl h11_6
        refine dt 7 222 rfl trivial (y_load_one ty23 rfl (fun _ h => h.1) rfl c11_7) (sw0 []) ?_
        refine dt 8 478 rfl trivial (y_move rfl) (sw0 []) ?_
        refine dt 9 990 rfl trivial (y_add rfl rfl) (sw0 []) ?_
        obtain ⟨v11_10, h11_10, r11_10⟩ := Sl.cut (k := .i64) (lo := (some (IntKind.i64.wrap (x3_5 + 1)))) (hi := none) (mx := none) h11_7 Tryd.underlying23 ty55 (fun h => nomatch h) q11_10 (fun _ h => by cases h)
        refine dt 10 2014 rfl trivial (y_slice (vlo := (some (.int .i64 (IntKind.i64.wrap (x3_5 + 1))))) (vhi := none) (vmx := none) rfl rfl rfl rfl r11_10) (sw0 []) ?_
        refine d1 0 rfl (e_buildSlice (xs := []) (cs := []) trivial rfl Tryd.underlying23 ty55 rfl rfl rfl (by simp [Value.cells]) rfl (rfl) ?_)
        intro v11_0
        have h11_0 : RepL (α := TunnelFrame) Hn5_7 ([]) [] := (RepL.nil (α := TunnelFrame))
        refine dn 2015 (sw0 []) ?_
        refine d1 5 rfl (e_app_sl (i := 0) trivial rfl Tryd.underlying23 Tryd.underlying23 ty55 rfl rfl rfl rfl rfl rfl rfl rfl h11_0 h11_4 q11_5 ?_)
        intro v11_5 u11_5 h11_5
        refine dn 2047 (sw0 []) ?_
        refine d1 11 rfl (e_app_sl (i := 0) trivial rfl Tryd.underlying23 Tryd.underlying23 ty55 rfl rfl rfl rfl rfl rfl rfl rfl h11_5 h11_10 q11_11 ?_)
        intro v11_11 u11_11 h11_11
        refine dn 4095 (sw0 []) ?_
        refine dt 12 8191 rfl trivial (y_fieldAddr fo25_1 rfl) (sw0 []) ?_
        refine d1 13 rfl (e_storeLR (i := 1) (j := 0) (cs' := [v5_7, v11_11]) trivial ty23 rfl rfl rfl rfl (Nat.le_of_ble_eq_true rfl) rfl ?_)
        refine dn 16383 (sw0 []) ?_
        refine d_done (by kernel_rfl) ?_
        refine a_en [(2, .pointer (some ⟨b0_0, 0, none⟩)), (7, .pointer (some ⟨b4_1, 0, none⟩))] ?_
        refine a_own [0, 1, 3] (by decide) (L' := [.row v11_11 u11_11 55 3, .box b4_1 [v5_7, v11_11] 25, .row v5_7 u5_7 64 6]) rfl ?_
        refine a_then ?_
        refine a_region rfl ?_
        refine ap (y_assign rfl) ?_
        refine a_nil ?_
        refine a_cut ?_
        intro a_ w_ ha_ hs_
        exact ⟨Hn5_7, (HLe.refl _), x5_7, x11_11, 1, v5_7, u5_7, v11_11, u11_11, Option.some.inj hm, h5_7, h11_11, ha_.weaken ⟨rfl, rfl, rfl, trivial⟩, hs_.reix [2, 0, 1] (by decide)⟩
      have hm := cond_f k_4 hm
      refine a_seq ?_
      refine a_region rfl ?_
      refine ap (y_eql rfl rfl) ?_
      refine ap (y_assign rfl) ?_
      refine a_nil ?_
      refine a_en [(2, .pointer (some ⟨b0_0, 0, none⟩)), (3, .pointer (some ⟨b0_1, 0, none⟩)), (5, .int .i64 x3_5), (6, .int .i64 x3_11), (7, .pointer (some ⟨b4_1, 0, none⟩)), (8, .int .i64 0), (104, .bool (x7_2 == 1))] ?_
      refine a_then ?_
      refine a_cond rfl (fun k_5 => ?_) (fun k_5 => ?_)
      · have hm := cond_t k_5 hm
        refine a_seq ?_
        refine a_region rfl ?_
        have h14_0 := TunnelBook.at_Frames hb0_0
        refine ap (y_fieldAddr fo25_1 rfl) ?_
        obtain ⟨v14_1, h14_1, c14_1⟩ := PAt.sl h14_0
        refine ap (y_load_one ty23 rfl (fun _ h => h.sub) rfl c14_1) ?_
        refine ap (y_move rfl) ?_
        obtain ⟨x14_3, q14_3, hm⟩ := bind_some hm
        obtain ⟨b14_3, o14_3, c14_3, e14_3, h14_3⟩ := Sl.elemZ 3 rfl h14_1 q14_3
        refine ap (y_index Tryd.underlying23 ty55 rfl e14_3 rfl (nth_in q14_3)) ?_
        have h14_4 := TunnelFrame.at_Need h14_3
        refine ap (y_fieldAddr fo55_1 rfl) ?_
        obtain ⟨u14_5, h14_5, c14_5⟩ := PAt.one h14_4
        refine ap (y_load_cells ty32 rfl (fun _ h => h.sub) rfl c14_5 (Rp.len h14_5)) ?_
        refine a_cons (e_alloc (cs := [.int .i64 0, .int .i64 0]) trivial rfl ty32 rfl ?_)
        intro b14_6
        refine a_cons (e_storeWhole (i := 0) (ds := u14_5) trivial ty32 rfl rfl rfl rfl (Rp.len h14_5) ((Rp.one h14_5)) rfl ?_)
        refine a_nil ?_
        refine a_freeze (α := Span) (x := x14_3.Need) (i := 0) rfl h14_5 ?_
        intro Hb14_6 lb14_6 hb14_6
        have hb0_0 := PAt.mono lb14_6 hb0_0
        have hb0_1 := PAt.mono lb14_6 hb0_1
        have h14_0 := PAt.mono lb14_6 h14_0
        have h14_1 := Sl.mono lb14_6 h14_1
        have h14_3 := PAt.mono lb14_6 h14_3
        have h14_4 := PAt.mono lb14_6 h14_4
        have h14_5 := Rp.mono lb14_6 h14_5
        have h5_3 := RepL.mono lb14_6 h5_3
        have h5_7 := RepL.mono lb14_6 h5_7
        have hg := Glob.mono lb14_6 hg
        refine a_en [(2, .pointer (some ⟨b0_0, 0, none⟩)), (3, .pointer (some ⟨b0_1, 0, none⟩)), (5, .int .i64 x3_5), (7, .pointer (some ⟨b4_1, 0, none⟩)), (8, .int .i64 0), (9, .pointer (some ⟨b14_6, 0, none⟩))] ?_
        refine a_own [1, 2, 3] (by decide) (L' := [.box b4_1 [v5_7, v5_3] 25, .row v5_3 u5_3 55 3, .row v5_7 u5_7 64 6]) rfl ?_
        refine a_then ?_
        obtain ⟨x15_5, q15_5, hm⟩ := bind_some hm
        obtain ⟨x15_7, q15_7, hm⟩ := bind_some hm
        obtain ⟨x15_12, q15_12, hm⟩ := bind_some hm
        obtain ⟨x15_14, q15_14, hm⟩ := bind_some hm
        obtain ⟨x15_17, q15_17, hm⟩ := bind_some hm
        obtain ⟨x15_18, q15_18, hm⟩ := bind_some hm
        refine d_region (S := Sw Hb14_6 [.box b4_1 [v5_7, v5_3] 25]) (n := 21) (listed := (bits 21 0)) mixed (by kernel_rfl) rfl (by kernel_rfl) ?_
        refine dt 0 1 rfl trivial (y_fieldAddr fo25_1 rfl) (sw0 [0]) ?_
        refine dt 1 3 rfl trivial (y_load_box ty23 rfl (knows_sw (i := 0) rfl) rfl rfl) (sw0 [0]) ?_
        refine dt 2 7 rfl trivial (y_move rfl) (sw0 [0]) ?_
        have h15_3 := Span.at_Low hb14_6
        refine dt 3 15 rfl trivial (y_fieldAddr fo32_0 rfl) (sw0 [0]) ?_
        refine dt 4 31 rfl trivial (y_load_int ty3 rfl (fun _ h => h.1) rfl h15_3) (sw0 [0]) ?_
        have h15_5 := PAt.arrZ 1 rfl hb0_1 q15_5
        have k15_5 := PAt.arrIn hb0_1 q15_5
        refine dt 5 63 rfl trivial (y_index_arrp Tryd.underlying62 ty3 rfl rfl k15_5) (sw0 [0]) ?_
        refine dt 6 127 rfl trivial (y_load_int ty3 rfl (fun _ h => h.1) rfl h15_5) (sw0 [0]) ?_
        have h15_10 := Span.at_High hb14_6
        refine dt 10 1151 rfl trivial (y_fieldAddr fo32_1 rfl) (sw0 [0]) ?_
        refine dt 11 3199 rfl trivial (y_load_int ty3 rfl (fun _ h => h.1) rfl h15_10) (sw0 [0]) ?_
        have h15_12 := PAt.arrZ 1 rfl hb0_1 q15_12
        have k15_12 := PAt.arrIn hb0_1 q15_12
        refine dt 12 7295 rfl trivial (y_index_arrp Tryd.underlying62 ty3 rfl rfl k15_12) (sw0 [0]) ?_
        refine dt 13 15487 rfl trivial (y_load_int ty3 rfl (fun _ h => h.1) rfl h15_12) (sw0 [0]) ?_
        refine d1 7 rfl (e_callV (all := [.int .i64 x15_5, .int .i64 9]) (v := .int .i64 x15_7) trivial rfl Tryd.func52 rfl rfl rfl rfl rfl (fun w hw => ok_52 hw q15_7) ?_)
        refine dn 15615 (sw0 [0]) ?_
        refine dt 8 15871 rfl trivial (y_sub rfl rfl) (sw0 [0]) ?_
        refine dt 9 16383 rfl trivial (y_max rfl rfl) (sw0 [0]) ?_
        refine d1 14 rfl (e_callV (all := [.int .i64 x15_12, .int .i64 9]) (v := .int .i64 x15_14) trivial rfl Tryd.func52 rfl rfl rfl rfl rfl (fun w hw => ok_52 hw q15_14) ?_)
        refine dn 32767 (sw0 [0]) ?_
        refine dt 15 65535 rfl trivial (y_add rfl rfl) (sw0 [0]) ?_
        refine dt 16 131071 rfl trivial (y_min rfl rfl) (sw0 [0]) ?_
        refine d1 17 rfl (e_callV (all := [.int .i64 (max 0 (IntKind.i64.wrap (x14_3.Need.Low - x15_7))), .int .i64 (min 999 (IntKind.i64.wrap (x14_3.Need.High + x15_14)))]) (v := .agg x15_17.cells.toArray) trivial rfl Tryd.func53 rfl rfl rfl rfl rfl (fun w hw => ok_53 hw q15_17) ?_)
        refine dn 262143 (sw0 [0]) ?_
        refine a_rowplace (i := 1) rfl rfl rfl h5_3 q15_18 ?_
        rintro b15_18 c15_18 rfl
        refine d1 18 rfl (p_pure trivial rfl rfl (y_index Tryd.underlying23 ty55 rfl rfl rfl (nth_in q15_18)) ?_)
        refine dn 524287 (sw0 [0]) ?_
        refine dt 19 1048575 rfl trivial (y_fieldAddr fo55_1 rfl) (sw0 [0]) ?_
        refine d1 20 rfl (e_storeRow (α := TunnelFrame) (i := 1) (ds := x15_17.cells) (l' := (x5_3).set (x3_5).toNat (⟨x15_18.Stay, x15_17⟩ : TunnelFrame)) trivial ty32 rfl rfl rfl rfl rfl ((Rp.one (Span.rep_mk (fun _ => none) x15_17))) rfl h5_3 (PutL.at0 3 rfl q15_18 (TunnelFrame.put_Need (s := x15_18) (Put.here (Span.rep_mk _ x15_17)))) ?_)
        intro u15_20 h15_20
        refine dn 2097151 (sw0 [0]) ?_
        refine d_done (by kernel_rfl) ?_
        refine a_en [(2, .pointer (some ⟨b0_0, 0, none⟩)), (7, .pointer (some ⟨b4_1, 0, none⟩)), (8, .int .i64 0)] ?_
        refine a_cut ?_
        intro a_ w_ ha_ hs_
        exact ⟨Hb14_6, lb14_6, x5_7, (x5_3).set (x3_5).toNat (⟨x15_18.Stay, x15_17⟩ : TunnelFrame), 0, v5_7, u5_7, .slice (some ⟨b15_18, 0, none⟩) (x5_3).length c15_18, u15_20, Option.some.inj hm, h5_7, h15_20, ha_.weaken ⟨rfl, rfl, rfl, trivial⟩, hs_.reix [2, 1, 0] (by decide)⟩
      have hm := cond_f k_5 hm
      refine a_seq ?_
      obtain ⟨x8_3, q8_3, hm⟩ := bind_some hm
      obtain ⟨x8_6, q8_6, hm⟩ := bind_some hm
      obtain ⟨x8_8, q8_8, hm⟩ := bind_some hm
      refine d_region (S := Sw Hn5_7 [.box b4_1 [v5_7, v5_3] 25]) (n := 10) (listed := (bits 10 0)) mixed (by kernel_rfl) rfl (by kernel_rfl) ?_
      have h8_0 := TunnelBook.at_Parts hb0_0
      refine dt 0 1 rfl trivial (y_fieldAddr fo25_0 rfl) (sw0 [0]) ?_
      obtain ⟨v8_1, h8_1, c8_1⟩ := PAt.sl h8_0
      refine dt 1 3 rfl trivial (y_load_one ty22 rfl (fun _ h => h.1) rfl c8_1) (sw0 [0]) ?_
      refine dt 2 7 rfl trivial (y_move rfl) (sw0 [0]) ?_
      obtain ⟨b8_3, o8_3, c8_3, e8_3, h8_3⟩ := Sl.elemZ 6 rfl h8_1 q8_3
      refine dt 3 15 rfl trivial (y_index Tryd.underlying22 ty64 rfl e8_3 rfl (nth_in q8_3)) (sw0 [0]) ?_
      have h8_4 := TunnelPart.at_Damp h8_3
      refine dt 4 31 rfl trivial (y_fieldAddr fo64_1 rfl) (sw0 [0]) ?_
      obtain ⟨u8_5, h8_5, c8_5⟩ := PAt.one h8_4
      refine dt 5 63 rfl trivial (y_load_cells ty32 rfl (fun _ h => h.1) rfl c8_5 (Rp.len h8_5)) (sw0 [0]) ?_
      have h8_6 := PAt.arrZ 1 rfl hb0_1 q8_6
      have k8_6 := PAt.arrIn hb0_1 q8_6
      refine dt 6 127 rfl trivial (y_index_arrp Tryd.underlying62 ty3 rfl rfl k8_6) (sw0 [0]) ?_
      refine dt 7 255 rfl trivial (y_load_int ty3 rfl (fun _ h => h.1) rfl h8_6) (sw0 [0]) ?_
      refine d1 8 rfl (e_callV (all := [.agg u8_5.toArray, .int .i64 x8_6]) (v := .int .i64 x8_8) trivial rfl Tryd.func62 rfl rfl rfl rfl rfl (fun w hw => ok_62 hw h8_5 q8_8) ?_)
      refine dn 511 (sw0 [0]) ?_
      refine dt 9 1023 rfl trivial (y_assign rfl) (sw0 [0]) ?_
      refine d_done (by kernel_rfl) ?_
      refine a_en [(2, .pointer (some ⟨b0_0, 0, none⟩)), (3, .pointer (some ⟨b0_1, 0, none⟩)), (6, .int .i64 x3_11), (7, .pointer (some ⟨b4_1, 0, none⟩)), (8, .int .i64 0), (10, .int .i64 x8_8)] ?_
      refine a_then ?_
      obtain ⟨x9_8, q9_8, hm⟩ := bind_some hm
      obtain ⟨x9_12, q9_12, hm⟩ := bind_some hm
      obtain ⟨x9_13, q9_13, hm⟩ := bind_some hm
      obtain ⟨x9_15, q9_15, hm⟩ := bind_some hm
      obtain ⟨x9_16, q9_16, hm⟩ := bind_some hm
      obtain ⟨x9_17, q9_17, hm⟩ := bind_some hm
      refine d_region (S := Sw Hn5_7 [.box b4_1 [v5_7, v5_3] 25]) (n := 20) (listed := (bits 20 0)) mixed (by kernel_rfl) rfl (by kernel_rfl) ?_
      refine dt 0 1 rfl trivial (y_fieldAddr fo25_0 rfl) (sw0 [0]) ?_
      refine dt 1 3 rfl trivial (y_load_box ty22 rfl (knows_sw (i := 0) rfl) rfl rfl) (sw0 [0]) ?_
      refine dt 2 7 rfl trivial (y_move rfl) (sw0 [0]) ?_
      refine dt 3 15 rfl trivial (y_move rfl) (sw0 [0]) ?_
      refine dt 4 31 rfl trivial (y_move rfl) (sw0 [0]) ?_
      have h9_5 := TunnelBook.at_Parts hb0_0
      refine dt 5 63 rfl trivial (y_fieldAddr fo25_0 rfl) (sw0 [0]) ?_
      obtain ⟨v9_6, h9_6, c9_6⟩ := PAt.sl h9_5
      refine dt 6 127 rfl trivial (y_load_one ty22 rfl (fun _ h => h.1) rfl c9_6) (sw0 [0]) ?_
      refine dt 7 255 rfl trivial (y_move rfl) (sw0 [0]) ?_
      obtain ⟨b9_8, o9_8, c9_8, e9_8, h9_8⟩ := Sl.elemZ 6 rfl h9_6 q9_8
      refine dt 8 511 rfl trivial (y_index Tryd.underlying22 ty64 rfl e9_8 rfl (nth_in q9_8)) (sw0 [0]) ?_
      have h9_9 := TunnelPart.at_Damp h9_8
      refine dt 9 1023 rfl trivial (y_fieldAddr fo64_1 rfl) (sw0 [0]) ?_
      have h9_10 := Span.at_High h9_9
      refine dt 10 2047 rfl trivial (y_fieldAddr fo32_1 rfl) (sw0 [0]) ?_
      refine dt 11 4095 rfl trivial (y_load_int ty3 rfl (fun _ h => h.1) rfl h9_10) (sw0 [0]) ?_
      have h9_13 := PAt.arrZ 1 rfl hb0_1 q9_13
      have k9_13 := PAt.arrIn hb0_1 q9_13
      refine dt 13 12287 rfl trivial (y_index_arrp Tryd.underlying62 ty3 rfl rfl k9_13) (sw0 [0]) ?_
      refine dt 14 28671 rfl trivial (y_load_int ty3 rfl (fun _ h => h.1) rfl h9_13) (sw0 [0]) ?_
      refine d1 12 rfl (e_callV (all := [.int .i64 x8_8, .int .i64 x9_8.Damp.High]) (v := .agg x9_12.cells.toArray) trivial rfl Tryd.func53 rfl rfl rfl rfl rfl (fun w hw => ok_53 hw q9_12) ?_)
      refine dn 32767 (sw0 [0]) ?_
      refine d1 15 rfl (e_callV (all := [.agg x9_12.cells.toArray, .int .i64 x9_13]) (v := .int .i64 x9_15) trivial rfl Tryd.func62 rfl rfl rfl rfl rfl (fun w hw => ok_62 hw (Span.rep_mk Hn5_7 x9_12) q9_15) ?_)
      refine dn 65535 (sw0 [0]) ?_
      refine d1 16 rfl (e_callV (all := [.int .i64 x8_8, .int .i64 x9_15]) (v := .agg x9_16.cells.toArray) trivial rfl Tryd.func53 rfl rfl rfl rfl rfl (fun w hw => ok_53 hw q9_16) ?_)
      refine dn 131071 (sw0 [0]) ?_
      refine a_rowplace (i := 2) rfl rfl rfl h5_7 q9_17 ?_
      rintro b9_17 c9_17 rfl
      refine d1 17 rfl (p_pure trivial rfl rfl (y_index Tryd.underlying22 ty64 rfl rfl rfl (nth_in q9_17)) ?_)
      refine dn 262143 (sw0 [0]) ?_
      refine dt 18 524287 rfl trivial (y_fieldAddr fo64_1 rfl) (sw0 [0]) ?_
      refine d1 19 rfl (e_storeRow (α := TunnelPart) (i := 2) (ds := x9_16.cells) (l' := (x5_7).set (x3_11).toNat (⟨x9_17.Heat, x9_16⟩ : TunnelPart)) trivial ty32 rfl rfl rfl rfl rfl ((Rp.one (Span.rep_mk (fun _ => none) x9_16))) rfl h5_7 (PutL.at0 6 rfl q9_17 (TunnelPart.put_Damp (s := x9_17) (Put.here (Span.rep_mk _ x9_16)))) ?_)
      intro u9_19 h9_19
      refine dn 1048575 (sw0 [0]) ?_
      refine d_done (by kernel_rfl) ?_
      refine a_en [(2, .pointer (some ⟨b0_0, 0, none⟩)), (7, .pointer (some ⟨b4_1, 0, none⟩)), (8, .int .i64 0)] ?_
      refine a_cut ?_
      intro a_ w_ ha_ hs_
      exact ⟨Hn5_7, (HLe.refl _), (x5_7).set (x3_11).toNat (⟨x9_17.Heat, x9_16⟩ : TunnelPart), x5_3, 0, .slice (some ⟨b9_17, 0, none⟩) (x5_7).length c9_17, u9_19, v5_3, u5_3, Option.some.inj hm, h9_19, h5_3, ha_.weaken ⟨rfl, rfl, rfl, trivial⟩, hs_.reix [2, 1, 0] (by decide)⟩
    have hm := hm_j3
    rintro a_ w_ ⟨Hj3, lj3, yj3_b4_1_0, yj3_b4_1_1, yj3_8, vj3_b4_1_0, uj3_b4_1_0, vj3_b4_1_1, uj3_b4_1_1, rfl, hj3_b4_1_0, hj3_b4_1_1, ha_, hs_⟩
    try dsimp only at hm
    refine a_start ha_ hs_ ?_
    have hb0_0 := PAt.mono lj3 hb0_0
    have hg := Glob.mono lj3 hg
    refine a_block_normal ?_
    refine a_then ?_
    refine a_seq ?_
    refine a_region rfl ?_
    obtain ⟨u16_0, h16_0, c16_0⟩ := PAt.one hb0_0
    refine ap (y_load_cells ty25 rfl (fun _ h => h.sub) rfl c16_0 (Rp.len h16_0)) ?_
    obtain ⟨x16_1, q16_1, hm⟩ := bind_some hm
    refine a_cons (e_callH (all := [.agg u16_0.toArray]) trivial rfl Tryd.func31 rfl rfl rfl rfl rfl (fun w hw => ok_31 hw h16_0 hg q16_1) ?_)
    rintro _ H16_1 l16_1 ⟨v16_1r0, rfl, h16_1r0⟩
    have hb0_0 := PAt.mono l16_1 hb0_0
    have h16_0 := Rp.mono l16_1 h16_0
    have hj3_b4_1_0 := RepL.mono l16_1 hj3_b4_1_0
    have hj3_b4_1_1 := RepL.mono l16_1 hj3_b4_1_1
    have hg := Glob.mono l16_1 hg
    refine ap (y_move rfl) ?_
    refine ap (y_extract rfl rfl) ?_
    refine ap (y_extract rfl rfl) ?_
    refine ap (y_assign rfl) ?_
    refine ap (y_assign rfl) ?_
    refine a_nil ?_
    refine a_en [(2, .pointer (some ⟨b0_0, 0, none⟩)), (7, .pointer (some ⟨b4_1, 0, none⟩)), (8, .int .i64 yj3_8), (11, v16_1r0), (12, .int .i64 x16_1.2)] ?_
    refine a_then ?_
    refine a_seq ?_
    refine a_region rfl ?_
    refine ap (y_load_boxagg ty25 rfl (knows_box (i := 2) rfl) rfl rfl rfl) ?_
    refine a_frow (i := 0) rfl rfl hj3_b4_1_0 rfl ?_
    intro H17_1q0f l17_1q0f h17_1q0f
    have hb0_0 := PAt.mono l17_1q0f hb0_0
    have h16_1r0 := Sl.mono l17_1q0f h16_1r0
    have hj3_b4_1_1 := RepL.mono l17_1q0f hj3_b4_1_1
    have hg := Glob.mono l17_1q0f hg
    refine a_frow (i := 1) rfl rfl hj3_b4_1_1 rfl ?_
    intro H17_1q1f l17_1q1f h17_1q1f
    have hb0_0 := PAt.mono l17_1q1f hb0_0
    have h16_1r0 := Sl.mono l17_1q1f h16_1r0
    have h17_1q0f := Sl.mono l17_1q1f h17_1q0f
    have hg := Glob.mono l17_1q1f hg
    have m17_1g0l : Rp.rep H17_1q1f [vj3_b4_1_0, vj3_b4_1_1] (⟨yj3_b4_1_0, yj3_b4_1_1⟩ : TunnelBook) := ⟨_, _, rfl, ⟨_, rfl, h17_1q0f⟩, ⟨_, rfl, h17_1q1f⟩⟩
    obtain ⟨x17_1, q17_1, hm⟩ := bind_some hm
    refine a_cons (e_callH (all := [.agg [vj3_b4_1_0, vj3_b4_1_1].toArray]) trivial rfl Tryd.func31 rfl rfl rfl rfl rfl (fun w hw => ok_31 hw m17_1g0l hg q17_1) ?_)
    rintro _ H17_1 l17_1 ⟨v17_1r0, rfl, h17_1r0⟩
    have hb0_0 := PAt.mono l17_1 hb0_0
    have h16_1r0 := Sl.mono l17_1 h16_1r0
    have h17_1q0f := Sl.mono l17_1 h17_1q0f
    have h17_1q1f := Sl.mono l17_1 h17_1q1f
    have hg := Glob.mono l17_1 hg
    refine ap (y_move rfl) ?_
    refine ap (y_extract rfl rfl) ?_
    refine ap (y_extract rfl rfl) ?_
    refine ap (y_assign rfl) ?_
    refine ap (y_assign rfl) ?_
    refine a_nil ?_
    refine a_en [(2, .pointer (some ⟨b0_0, 0, none⟩)), (7, .pointer (some ⟨b4_1, 0, none⟩)), (8, .int .i64 yj3_8), (11, v16_1r0), (12, .int .i64 x16_1.2), (13, v17_1r0), (14, .int .i64 x17_1.2)] ?_
    refine a_own [2] (by decide) (L' := [.box b4_1 [vj3_b4_1_0, vj3_b4_1_1] 25]) rfl ?_
    refine a_then ?_
    refine a_seq ?_
    refine a_region rfl ?_
    obtain ⟨u18_0, h18_0, c18_0⟩ := PAt.one hb0_0
    refine ap (y_load_cells ty25 rfl (fun _ h => h.sub) rfl c18_0 (Rp.len h18_0)) ?_
    obtain ⟨x18_1, q18_1, hm⟩ := bind_some hm
    refine a_cons (e_callH (all := [.agg u18_0.toArray]) trivial rfl Tryd.func33 rfl rfl rfl rfl rfl (fun w hw => ok_33 hw h18_0 hg q18_1) ?_)
    rintro _ H18_1 l18_1 ⟨v18_1r0, v18_1r1, rfl, h18_1r0, h18_1r1⟩
    have hb0_0 := PAt.mono l18_1 hb0_0
    have h16_1r0 := Sl.mono l18_1 h16_1r0
    have h17_1r0 := Sl.mono l18_1 h17_1r0
    have h18_0 := Rp.mono l18_1 h18_0
    have h17_1q0f := Sl.mono l18_1 h17_1q0f
    have h17_1q1f := Sl.mono l18_1 h17_1q1f
    have hg := Glob.mono l18_1 hg
    refine ap (y_move rfl) ?_
    refine ap (y_extract rfl rfl) ?_
    refine ap (y_extract rfl rfl) ?_
    refine ap (y_extract rfl rfl) ?_
    refine ap (y_assign rfl) ?_
    refine ap (y_assign rfl) ?_
    refine ap (y_assign rfl) ?_
    refine a_nil ?_
    refine a_en [(2, .pointer (some ⟨b0_0, 0, none⟩)), (7, .pointer (some ⟨b4_1, 0, none⟩)), (8, .int .i64 yj3_8), (11, v16_1r0), (12, .int .i64 x16_1.2), (13, v17_1r0), (14, .int .i64 x17_1.2), (16, v18_1r1), (17, .int .i64 x18_1.2.2)] ?_
    refine a_then ?_
    refine a_seq ?_
    refine a_region rfl ?_
    have m19_0 : Rp.rep H18_1 [vj3_b4_1_0, vj3_b4_1_1] (⟨yj3_b4_1_0, yj3_b4_1_1⟩ : TunnelBook) := ⟨_, _, rfl, ⟨_, rfl, h17_1q0f⟩, ⟨_, rfl, h17_1q1f⟩⟩
    refine ap (y_load_boxagg ty25 rfl (knows_box (i := 0) rfl) rfl rfl rfl) ?_
    obtain ⟨x19_1, q19_1, hm⟩ := bind_some hm
    refine a_cons (e_callH (all := [.agg [vj3_b4_1_0, vj3_b4_1_1].toArray]) trivial rfl Tryd.func33 rfl rfl rfl rfl rfl (fun w hw => ok_33 hw m19_0 hg q19_1) ?_)
    rintro _ H19_1 l19_1 ⟨v19_1r0, v19_1r1, rfl, h19_1r0, h19_1r1⟩
    have hb0_0 := PAt.mono l19_1 hb0_0
    have h16_1r0 := Sl.mono l19_1 h16_1r0
    have h17_1r0 := Sl.mono l19_1 h17_1r0
    have h18_1r1 := Sl.mono l19_1 h18_1r1
    have m19_0 := Rp.mono l19_1 m19_0
    have h17_1q0f := Sl.mono l19_1 h17_1q0f
    have h17_1q1f := Sl.mono l19_1 h17_1q1f
    have hg := Glob.mono l19_1 hg
    refine ap (y_move rfl) ?_
    refine ap (y_extract rfl rfl) ?_
    refine ap (y_extract rfl rfl) ?_
    refine ap (y_extract rfl rfl) ?_
    refine ap (y_assign rfl) ?_
    refine ap (y_assign rfl) ?_
    refine ap (y_assign rfl) ?_
    refine a_nil ?_
    refine a_en [(2, .pointer (some ⟨b0_0, 0, none⟩)), (7, .pointer (some ⟨b4_1, 0, none⟩)), (8, .int .i64 yj3_8), (11, v16_1r0), (12, .int .i64 x16_1.2), (13, v17_1r0), (14, .int .i64 x17_1.2), (16, v18_1r1), (17, .int .i64 x18_1.2.2), (19, v19_1r1), (20, .int .i64 x19_1.2.2)] ?_
    refine a_then ?_
    refine a_seq ?_
    refine a_seq ?_
    obtain ⟨s_j6, hs_j6, hm_j6⟩ := bind_some hm
    refine a_join (fun a_ w_ => ∃ (yj6_188 : Bool), yj6_188 = s_j6 ∧ Ag 218 [] [(2, .pointer (some ⟨b0_0, 0, none⟩)), (7, .pointer (some ⟨b4_1, 0, none⟩)), (11, v16_1r0), (12, .int .i64 x16_1.2), (13, v17_1r0), (188, .bool yj6_188)] a_ ∧ St (Kp.mk w H noX) H19_1 ([.box b4_1 [vj3_b4_1_0, vj3_b4_1_1] 25]) w_) ?_ ?_
    · have hm := hs_j6
      refine a_region rfl ?_
      refine ap (y_move rfl) ?_
      refine ap (y_neq rfl rfl) ?_
      refine ap (y_move rfl) ?_
      rcases Bool.eq_false_or_eq_true (x18_1.2.2 != 0) with k20_3 | k20_3
      · have hm := cond_t k20_3 hm
        refine as1 (sk1 rfl rfl k20_3) ?_
        refine as1 (sk1 rfl rfl k20_3) ?_
        refine ap (y_pick_t rfl k20_3 rfl) ?_
        refine ap (y_move rfl) ?_
        refine as1 (sk1 rfl rfl rfl) ?_
        refine as1 (sk1 rfl rfl rfl) ?_
        refine as1 (sk1 rfl rfl rfl) ?_
        refine as1 (sk1 rfl rfl rfl) ?_
        refine as1 (sk1 rfl rfl rfl) ?_
        refine as1 (sk1 rfl rfl rfl) ?_
        refine as1 (sk1 rfl rfl rfl) ?_
        refine ap (y_pick_t rfl rfl rfl) ?_
        refine ap (y_move rfl) ?_
        refine as1 (sk1 rfl rfl rfl) ?_
        refine as1 (sk1 rfl rfl rfl) ?_
        refine as1 (sk1 rfl rfl rfl) ?_
        refine as1 (sku rfl rfl) ?_
        refine as1 (sku rfl rfl) ?_
        refine as1 (sk1 rfl rfl rfl) ?_
        refine ap (y_pick_t rfl rfl rfl) ?_
        refine ap (y_move rfl) ?_
        refine as1 (sk1 rfl rfl rfl) ?_
        refine as1 (sk1 rfl rfl rfl) ?_
        refine as1 (sk1 rfl rfl rfl) ?_
        refine as1 (sku rfl rfl) ?_
        refine as1 (sku rfl rfl) ?_
        refine as1 (sku rfl rfl) ?_
        refine as1 (sku rfl rfl) ?_
        refine as1 (sku rfl rfl) ?_
        refine as1 (sku rfl rfl) ?_
        refine as1 (sk1 rfl rfl rfl) ?_
        refine ap (y_pick_t rfl rfl rfl) ?_
        refine a_nil ?_
        refine a_en [(2, .pointer (some ⟨b0_0, 0, none⟩)), (7, .pointer (some ⟨b4_1, 0, none⟩)), (11, v16_1r0), (12, .int .i64 x16_1.2), (13, v17_1r0), (188, .bool true)] ?_
        refine a_cut ?_
        intro a_ w_ ha_ hs_
        exact ⟨true, Option.some.inj hm, ha_.weaken ⟨rfl, rfl, rfl, rfl, rfl, rfl, trivial⟩, hs_.reix [0] (by decide)⟩
      have hm := cond_f k20_3 hm
      refine ag ⟨_, _, rfl, rfl, k20_3⟩ (y_move rfl) ?_
      refine ag ⟨_, _, rfl, rfl, k20_3⟩ (y_neq rfl rfl) ?_
      refine ap (y_pick_f rfl k20_3 rfl) ?_
      refine ap (y_move rfl) ?_
      rcases Bool.eq_false_or_eq_true (x19_1.2.2 != 0) with k20_7 | k20_7
      · have hm := cond_t k20_7 hm
        refine as1 (sk1 rfl rfl k20_7) ?_
        refine as1 (sk1 rfl rfl k20_7) ?_
        refine as1 (sk1 rfl rfl k20_7) ?_
        refine as1 (sk1 rfl rfl k20_7) ?_
        refine as1 (sk1 rfl rfl k20_7) ?_
        refine as1 (sk1 rfl rfl k20_7) ?_
        refine as1 (sk1 rfl rfl k20_7) ?_
        refine ap (y_pick_t rfl k20_7 rfl) ?_
        refine ap (y_move rfl) ?_
        refine as1 (sk1 rfl rfl rfl) ?_
        refine as1 (sk1 rfl rfl rfl) ?_
        refine as1 (sk1 rfl rfl rfl) ?_
        refine as1 (sku rfl rfl) ?_
        refine as1 (sku rfl rfl) ?_
        refine as1 (sk1 rfl rfl rfl) ?_
        refine ap (y_pick_t rfl rfl rfl) ?_
        refine ap (y_move rfl) ?_
        refine as1 (sk1 rfl rfl rfl) ?_
        refine as1 (sk1 rfl rfl rfl) ?_
        refine as1 (sk1 rfl rfl rfl) ?_
        refine as1 (sku rfl rfl) ?_
        refine as1 (sku rfl rfl) ?_
        refine as1 (sku rfl rfl) ?_
        refine as1 (sku rfl rfl) ?_
        refine as1 (sku rfl rfl) ?_
        refine as1 (sku rfl rfl) ?_
        refine as1 (sk1 rfl rfl rfl) ?_
        refine ap (y_pick_t rfl rfl rfl) ?_
        refine a_nil ?_
        refine a_en [(2, .pointer (some ⟨b0_0, 0, none⟩)), (7, .pointer (some ⟨b4_1, 0, none⟩)), (11, v16_1r0), (12, .int .i64 x16_1.2), (13, v17_1r0), (188, .bool true)] ?_
        refine a_cut ?_
        intro a_ w_ ha_ hs_
        exact ⟨true, Option.some.inj hm, ha_.weaken ⟨rfl, rfl, rfl, rfl, rfl, rfl, trivial⟩, hs_.reix [0] (by decide)⟩
      have hm := cond_f k20_7 hm
      refine ag ⟨_, _, rfl, rfl, k20_7⟩ (y_move rfl) ?_
      refine ag ⟨_, _, rfl, rfl, k20_7⟩ (y_len_sl Tryd.underlying26 rfl h19_1r1) ?_
      refine ag ⟨_, _, rfl, rfl, k20_7⟩ (y_move rfl) ?_
      refine ag ⟨_, _, rfl, rfl, k20_7⟩ (y_len_sl Tryd.underlying26 rfl h18_1r1) ?_
      refine ag ⟨_, _, rfl, rfl, k20_7⟩ (y_move rfl) ?_
      refine ag ⟨_, _, rfl, rfl, k20_7⟩ (y_sub rfl rfl) ?_
      refine ag ⟨_, _, rfl, rfl, k20_7⟩ (y_lss rfl rfl) ?_
      refine ap (y_pick_f rfl k20_7 rfl) ?_
      refine ap (y_move rfl) ?_
      rcases Bool.eq_false_or_eq_true (decide ((x19_1.2.1.length : Int) < (IntKind.i64.wrap ((x18_1.2.1.length : Int) - yj3_8)))) with k20_16 | k20_16
      · have hm := cond_t k20_16 hm
        refine as1 (sk1 rfl rfl k20_16) ?_
        refine as1 (sk1 rfl rfl k20_16) ?_
        refine as1 (sk1 rfl rfl k20_16) ?_
        refine as1 (sku rfl rfl) ?_
        refine as1 (sku rfl rfl) ?_
        refine as1 (sk1 rfl rfl k20_16) ?_
        refine ap (y_pick_t rfl k20_16 rfl) ?_
        refine ap (y_move rfl) ?_
        refine as1 (sk1 rfl rfl rfl) ?_
        refine as1 (sk1 rfl rfl rfl) ?_
        refine as1 (sk1 rfl rfl rfl) ?_
        refine as1 (sku rfl rfl) ?_
        refine as1 (sku rfl rfl) ?_
        refine as1 (sku rfl rfl) ?_
        refine as1 (sku rfl rfl) ?_
        refine as1 (sku rfl rfl) ?_
        refine as1 (sku rfl rfl) ?_
        refine as1 (sk1 rfl rfl rfl) ?_
        refine ap (y_pick_t rfl rfl rfl) ?_
        refine a_nil ?_
        refine a_en [(2, .pointer (some ⟨b0_0, 0, none⟩)), (7, .pointer (some ⟨b4_1, 0, none⟩)), (11, v16_1r0), (12, .int .i64 x16_1.2), (13, v17_1r0), (188, .bool true)] ?_
        refine a_cut ?_
        intro a_ w_ ha_ hs_
        exact ⟨true, Option.some.inj hm, ha_.weaken ⟨rfl, rfl, rfl, rfl, rfl, rfl, trivial⟩, hs_.reix [0] (by decide)⟩
      have hm := cond_f k20_16 hm
      refine ag ⟨_, _, rfl, rfl, k20_16⟩ (y_move rfl) ?_
      refine ag ⟨_, _, rfl, rfl, k20_16⟩ (y_neq rfl rfl) ?_
      refine ag ⟨_, _, rfl, rfl, k20_16⟩ (y_move rfl) ?_
      rcases Bool.eq_false_or_eq_true (x16_1.2 != 0) with k20_19 | k20_19
      · have hm := cond_t k20_19 hm
        refine ag ⟨_, _, rfl, rfl, k20_19⟩ (y_move rfl) ?_
        refine ag ⟨_, _, rfl, rfl, k20_19⟩ (y_neq rfl rfl) ?_
        refine ag ⟨_, _, rfl, rfl, k20_16⟩ (y_pick_t rfl k20_19 rfl) ?_
        refine ap (y_pick_f rfl k20_16 rfl) ?_
        refine ap (y_move rfl) ?_
        rcases Bool.eq_false_or_eq_true (x16_1.2 != 4) with k20_24 | k20_24
        · have hm := cond_t k20_24 hm
          refine as1 (sk1 rfl rfl k20_24) ?_
          refine as1 (sk1 rfl rfl k20_24) ?_
          refine as1 (sk1 rfl rfl k20_24) ?_
          refine as1 (sku rfl rfl) ?_
          refine as1 (sku rfl rfl) ?_
          refine as1 (sku rfl rfl) ?_
          refine as1 (sku rfl rfl) ?_
          refine as1 (sku rfl rfl) ?_
          refine as1 (sku rfl rfl) ?_
          refine as1 (sk1 rfl rfl k20_24) ?_
          refine ap (y_pick_t rfl k20_24 rfl) ?_
          refine a_nil ?_
          refine a_en [(2, .pointer (some ⟨b0_0, 0, none⟩)), (7, .pointer (some ⟨b4_1, 0, none⟩)), (11, v16_1r0), (12, .int .i64 x16_1.2), (13, v17_1r0), (188, .bool true)] ?_
          refine a_cut ?_
          intro a_ w_ ha_ hs_
          exact ⟨true, Option.some.inj hm, ha_.weaken ⟨rfl, rfl, rfl, rfl, rfl, rfl, trivial⟩, hs_.reix [0] (by decide)⟩
        have hm := cond_f k20_24 hm
        refine ag ⟨_, _, rfl, rfl, k20_24⟩ (y_move rfl) ?_
        refine ag ⟨_, _, rfl, rfl, k20_24⟩ (y_neq rfl rfl) ?_
        refine ag ⟨_, _, rfl, rfl, k20_24⟩ (y_move rfl) ?_
        rcases Bool.eq_false_or_eq_true (x17_1.2 != 0) with k20_27 | k20_27
        · have hm := cond_t k20_27 hm
          refine ag ⟨_, _, rfl, rfl, k20_27⟩ (y_move rfl) ?_
          refine ag ⟨_, _, rfl, rfl, k20_27⟩ (y_neq rfl rfl) ?_
          refine ag ⟨_, _, rfl, rfl, k20_27⟩ (y_move rfl) ?_
          rcases Bool.eq_false_or_eq_true (x17_1.2 != 4) with k20_30 | k20_30
          · have hm := cond_t k20_30 hm
            refine as1 (sk1 rfl rfl k20_30) ?_
            refine as1 (sk1 rfl rfl k20_30) ?_
            refine ag ⟨_, _, rfl, rfl, k20_27⟩ (y_pick_t rfl k20_30 rfl) ?_
            refine ag ⟨_, _, rfl, rfl, k20_24⟩ (y_pick_t rfl k20_27 rfl) ?_
            refine ap (y_pick_f rfl k20_24 rfl) ?_
            refine a_nil ?_
            refine a_en [(2, .pointer (some ⟨b0_0, 0, none⟩)), (7, .pointer (some ⟨b4_1, 0, none⟩)), (11, v16_1r0), (12, .int .i64 x16_1.2), (13, v17_1r0), (188, .bool true)] ?_
            refine a_cut ?_
            intro a_ w_ ha_ hs_
            exact ⟨true, Option.some.inj hm, ha_.weaken ⟨rfl, rfl, rfl, rfl, rfl, rfl, trivial⟩, hs_.reix [0] (by decide)⟩
          have hm := cond_f k20_30 hm
          refine ag ⟨_, _, rfl, rfl, k20_30⟩ (y_move rfl) ?_
          refine ag ⟨_, _, rfl, rfl, k20_30⟩ (y_eql rfl rfl) ?_
          refine ag ⟨_, _, rfl, rfl, k20_27⟩ (y_pick_f rfl k20_30 rfl) ?_
          refine ag ⟨_, _, rfl, rfl, k20_24⟩ (y_pick_t rfl k20_27 rfl) ?_
          refine ap (y_pick_f rfl k20_24 rfl) ?_
          refine a_nil ?_
          refine a_en [(2, .pointer (some ⟨b0_0, 0, none⟩)), (7, .pointer (some ⟨b4_1, 0, none⟩)), (11, v16_1r0), (12, .int .i64 x16_1.2), (13, v17_1r0), (188, .bool (x16_1.2 == 0))] ?_
          refine a_cut ?_
          intro a_ w_ ha_ hs_
          exact ⟨x16_1.2 == 0, Option.some.inj hm, ha_.weaken ⟨rfl, rfl, rfl, rfl, rfl, rfl, trivial⟩, hs_.reix [0] (by decide)⟩
        have hm := cond_f k20_27 hm
        refine as1 (sk1 rfl rfl k20_27) ?_
        refine as1 (sk1 rfl rfl k20_27) ?_
        refine as1 (sk1 rfl rfl k20_27) ?_
        refine as1 (sku rfl rfl) ?_
        refine as1 (sku rfl rfl) ?_
        refine as1 (sk1 rfl rfl k20_27) ?_
        refine ag ⟨_, _, rfl, rfl, k20_24⟩ (y_pick_f rfl k20_27 rfl) ?_
        refine ap (y_pick_f rfl k20_24 rfl) ?_
        refine a_nil ?_
        refine a_en [(2, .pointer (some ⟨b0_0, 0, none⟩)), (7, .pointer (some ⟨b4_1, 0, none⟩)), (11, v16_1r0), (12, .int .i64 x16_1.2), (13, v17_1r0), (188, .bool false)] ?_
        refine a_cut ?_
        intro a_ w_ ha_ hs_
        exact ⟨false, Option.some.inj hm, ha_.weaken ⟨rfl, rfl, rfl, rfl, rfl, rfl, trivial⟩, hs_.reix [0] (by decide)⟩
      have hm := cond_f k20_19 hm
      refine as1 (sk1 rfl rfl k20_19) ?_
      refine as1 (sk1 rfl rfl k20_19) ?_
      refine ag ⟨_, _, rfl, rfl, k20_16⟩ (y_pick_f rfl k20_19 rfl) ?_
      refine ap (y_pick_f rfl k20_16 rfl) ?_
      refine ap (y_move rfl) ?_
      refine ag ⟨_, _, rfl, rfl, rfl⟩ (y_move rfl) ?_
      refine ag ⟨_, _, rfl, rfl, rfl⟩ (y_neq rfl rfl) ?_
      refine ag ⟨_, _, rfl, rfl, rfl⟩ (y_move rfl) ?_
      rcases Bool.eq_false_or_eq_true (x17_1.2 != 0) with k20_27 | k20_27
      · have hm := cond_t k20_27 hm
        refine ag ⟨_, _, rfl, rfl, k20_27⟩ (y_move rfl) ?_
        refine ag ⟨_, _, rfl, rfl, k20_27⟩ (y_neq rfl rfl) ?_
        refine ag ⟨_, _, rfl, rfl, k20_27⟩ (y_move rfl) ?_
        rcases Bool.eq_false_or_eq_true (x17_1.2 != 4) with k20_30 | k20_30
        · have hm := cond_t k20_30 hm
          refine as1 (sk1 rfl rfl k20_30) ?_
          refine as1 (sk1 rfl rfl k20_30) ?_
          refine ag ⟨_, _, rfl, rfl, k20_27⟩ (y_pick_t rfl k20_30 rfl) ?_
          refine ag ⟨_, _, rfl, rfl, rfl⟩ (y_pick_t rfl k20_27 rfl) ?_
          refine ap (y_pick_f rfl rfl rfl) ?_
          refine a_nil ?_
          refine a_en [(2, .pointer (some ⟨b0_0, 0, none⟩)), (7, .pointer (some ⟨b4_1, 0, none⟩)), (11, v16_1r0), (12, .int .i64 x16_1.2), (13, v17_1r0), (188, .bool true)] ?_
          refine a_cut ?_
          intro a_ w_ ha_ hs_
          exact ⟨true, Option.some.inj hm, ha_.weaken ⟨rfl, rfl, rfl, rfl, rfl, rfl, trivial⟩, hs_.reix [0] (by decide)⟩
        have hm := cond_f k20_30 hm
        refine ag ⟨_, _, rfl, rfl, k20_30⟩ (y_move rfl) ?_
        refine ag ⟨_, _, rfl, rfl, k20_30⟩ (y_eql rfl rfl) ?_
        refine ag ⟨_, _, rfl, rfl, k20_27⟩ (y_pick_f rfl k20_30 rfl) ?_
        refine ag ⟨_, _, rfl, rfl, rfl⟩ (y_pick_t rfl k20_27 rfl) ?_
        refine ap (y_pick_f rfl rfl rfl) ?_
        refine a_nil ?_
        refine a_en [(2, .pointer (some ⟨b0_0, 0, none⟩)), (7, .pointer (some ⟨b4_1, 0, none⟩)), (11, v16_1r0), (12, .int .i64 x16_1.2), (13, v17_1r0), (188, .bool (x16_1.2 == 0))] ?_
        refine a_cut ?_
        intro a_ w_ ha_ hs_
        exact ⟨x16_1.2 == 0, Option.some.inj hm, ha_.weaken ⟨rfl, rfl, rfl, rfl, rfl, rfl, trivial⟩, hs_.reix [0] (by decide)⟩
      have hm := cond_f k20_27 hm
      refine as1 (sk1 rfl rfl k20_27) ?_
      refine as1 (sk1 rfl rfl k20_27) ?_
      refine as1 (sk1 rfl rfl k20_27) ?_
      refine as1 (sku rfl rfl) ?_
      refine as1 (sku rfl rfl) ?_
      refine as1 (sk1 rfl rfl k20_27) ?_
      refine ag ⟨_, _, rfl, rfl, rfl⟩ (y_pick_f rfl k20_27 rfl) ?_
      refine ap (y_pick_f rfl rfl rfl) ?_
      refine a_nil ?_
      refine a_en [(2, .pointer (some ⟨b0_0, 0, none⟩)), (7, .pointer (some ⟨b4_1, 0, none⟩)), (11, v16_1r0), (12, .int .i64 x16_1.2), (13, v17_1r0), (188, .bool false)] ?_
      refine a_cut ?_
      intro a_ w_ ha_ hs_
      exact ⟨false, Option.some.inj hm, ha_.weaken ⟨rfl, rfl, rfl, rfl, rfl, rfl, trivial⟩, hs_.reix [0] (by decide)⟩
    have hm := hm_j6
    rintro a_ w_ ⟨yj6_188, rfl, ha_, hs_⟩
    try dsimp only at hm
    refine a_start ha_ hs_ ?_
    refine a_then ?_
    refine a_cond rfl (fun k_7 => ?_) (fun k_7 => ?_)
    · have hm := cond_t k_7 hm
      refine a_seq ?_
      refine a_region rfl ?_
      refine ap (y_assign rfl) ?_
      refine a_nil ?_
      refine a_en [(4, .bool false)] ?_
      refine a_own [] (by decide) (L' := []) rfl ?_
      refine a_then ?_
      refine a_ret ?_
      refine a_then_ret ?_
      refine a_done (v := .bool false) (.inl rfl) rfl ?_ ?_
      · intro a_ w_ ha_ hs_; exact run_results (P := Tryd.prog) (fn := Tryd.f11) (rs := [.tmp 4]) (vs := [.bool false]) rfl (.cons (rv_tmp ha_ rfl) (All2.nil))
      · intro _ _; obtain rfl := Option.some.inj hm
        rfl
    have hm := cond_f k_7 hm
    refine a_skip ?_
    refine a_then ?_
    refine a_seq ?_
    refine a_seq ?_
    refine a_region rfl ?_
    refine ap (y_move rfl) ?_
    refine ap (y_neq rfl rfl) ?_
    refine a_nil ?_
    refine a_en [(2, .pointer (some ⟨b0_0, 0, none⟩)), (7, .pointer (some ⟨b4_1, 0, none⟩)), (11, v16_1r0), (13, v17_1r0), (190, .bool (x16_1.2 != 0))] ?_
    refine a_then ?_
    refine a_cond rfl (fun k_8 => ?_) (fun k_8 => ?_)
    · have hm := cond_t k_8 hm
      refine a_seq ?_
      refine a_region rfl ?_
      obtain ⟨x23_0, q23_0, hm⟩ := bind_some hm
      refine a_cons (e_callV (all := []) (v := .bool x23_0) trivial rfl Tryd.func30 rfl rfl rfl rfl rfl (fun w hw => ok_30 hw hg q23_0) ?_)
      refine ap (y_assign rfl) ?_
      refine a_nil ?_
      refine a_en [(4, .bool x23_0)] ?_
      refine a_own [] (by decide) (L' := []) rfl ?_
      refine a_then ?_
      refine a_ret ?_
      refine a_then_ret ?_
      refine a_done (v := .bool x23_0) (.inl rfl) rfl ?_ ?_
      · intro a_ w_ ha_ hs_; exact run_results (P := Tryd.prog) (fn := Tryd.f11) (rs := [.tmp 4]) (vs := [.bool x23_0]) rfl (.cons (rv_tmp ha_ rfl) (All2.nil))
      · intro _ _; obtain rfl := Option.some.inj hm
        rfl
    have hm := cond_f k_8 hm
    refine a_skip ?_
    refine a_then ?_
    refine a_seq ?_
    refine a_region rfl ?_
    obtain ⟨u24_0, h24_0, c24_0⟩ := PAt.one hb0_0
    refine ap (y_load_cells ty25 rfl (fun _ h => h.sub) rfl c24_0 (Rp.len h24_0)) ?_
    refine ap (y_move rfl) ?_
    obtain ⟨x24_2, q24_2, hm⟩ := bind_some hm
    refine a_cons (e_callV (all := [.agg u24_0.toArray, v16_1r0]) (v := .tuple #[.int .i64 x24_2.1, .int .i64 x24_2.2]) trivial rfl Tryd.func19 rfl rfl rfl rfl rfl (fun w hw => ok_19 hw h24_0 h16_1r0 q24_2) ?_)
    refine ap (y_move rfl) ?_
    refine ap (y_extract rfl rfl) ?_
    refine ap (y_extract rfl rfl) ?_
    refine ap (y_assign rfl) ?_
    refine ap (y_assign rfl) ?_
    refine a_nil ?_
    refine a_en [(7, .pointer (some ⟨b4_1, 0, none⟩)), (13, v17_1r0), (21, .int .i64 x24_2.1), (22, .int .i64 x24_2.2)] ?_
    refine a_then ?_
    refine a_seq ?_
    refine a_region rfl ?_
    have m25_0 : Rp.rep H19_1 [vj3_b4_1_0, vj3_b4_1_1] (⟨yj3_b4_1_0, yj3_b4_1_1⟩ : TunnelBook) := ⟨_, _, rfl, ⟨_, rfl, h17_1q0f⟩, ⟨_, rfl, h17_1q1f⟩⟩
    refine ap (y_load_boxagg ty25 rfl (knows_box (i := 0) rfl) rfl rfl rfl) ?_
    refine ap (y_move rfl) ?_
    obtain ⟨x25_2, q25_2, hm⟩ := bind_some hm
    refine a_cons (e_callV (all := [.agg [vj3_b4_1_0, vj3_b4_1_1].toArray, v17_1r0]) (v := .tuple #[.int .i64 x25_2.1, .int .i64 x25_2.2]) trivial rfl Tryd.func19 rfl rfl rfl rfl rfl (fun w hw => ok_19 hw m25_0 h17_1r0 q25_2) ?_)
    refine ap (y_move rfl) ?_
    refine ap (y_extract rfl rfl) ?_
    refine ap (y_extract rfl rfl) ?_
    refine ap (y_assign rfl) ?_
    refine ap (y_assign rfl) ?_
    refine a_nil ?_
    refine a_en [(21, .int .i64 x24_2.1), (22, .int .i64 x24_2.2), (23, .int .i64 x25_2.1), (24, .int .i64 x25_2.2)] ?_
    refine a_own [] (by decide) (L' := []) rfl ?_
    refine a_then ?_
    refine a_seq ?_
    obtain ⟨s_j9, hs_j9, hm_j9⟩ := bind_some hm
    refine a_join (fun a_ w_ => ∃ (yj9_4 : Bool), yj9_4 = s_j9 ∧ Ag 218 [] [(4, .bool yj9_4)] a_ ∧ St (Kp.mk w H noX) H19_1 [] w_) ?_ ?_
    · have hm := hs_j9
      refine a_region rfl ?_
      refine ap (y_move rfl) ?_
      refine ap (y_eql rfl rfl) ?_
      refine ap (y_move rfl) ?_
      rcases Bool.eq_false_or_eq_true (x24_2.2 == 0) with k26_3 | k26_3
      · have hm := cond_t k26_3 hm
        refine ag ⟨_, _, rfl, rfl, k26_3⟩ (y_move rfl) ?_
        refine ag ⟨_, _, rfl, rfl, k26_3⟩ (y_eql rfl rfl) ?_
        refine ap (y_pick_t rfl k26_3 rfl) ?_
        refine ap (y_move rfl) ?_
        rcases Bool.eq_false_or_eq_true (x25_2.2 == 0) with k26_7 | k26_7
        · have hm := cond_t k26_7 hm
          refine ag ⟨_, _, rfl, rfl, k26_7⟩ (y_move rfl) ?_
          refine ag ⟨_, _, rfl, rfl, k26_7⟩ (y_move rfl) ?_
          refine ag ⟨_, _, rfl, rfl, k26_7⟩ (y_leq rfl rfl) ?_
          refine ap (y_pick_t rfl k26_7 rfl) ?_
          refine ap (y_move rfl) ?_
          rcases Bool.eq_false_or_eq_true (decide (x25_2.1 ≤ x24_2.1)) with k26_12 | k26_12
          · have hm := cond_t k26_12 hm
            obtain ⟨x26_12, q26_12, hm⟩ := bind_some hm
            refine a_cons (e_callV (all := []) (v := .bool x26_12) ⟨_, _, rfl, rfl, k26_12⟩ rfl Tryd.func30 rfl rfl rfl rfl rfl (fun w hw => ok_30 hw hg q26_12) ?_)
            refine ap (y_pick_t rfl k26_12 rfl) ?_
            refine ap (y_assign rfl) ?_
            refine a_nil ?_
            refine a_en [(4, .bool x26_12)] ?_
            refine a_cut ?_
            intro a_ w_ ha_ hs_
            exact ⟨x26_12, Option.some.inj hm, ha_.weaken ⟨rfl, trivial⟩, hs_.reix [] (by decide)⟩
          have hm := cond_f k26_12 hm
          refine as1 (sk1 rfl rfl k26_12) ?_
          refine ap (y_pick_f rfl k26_12 rfl) ?_
          refine ap (y_assign rfl) ?_
          refine a_nil ?_
          refine a_en [(4, .bool false)] ?_
          refine a_cut ?_
          intro a_ w_ ha_ hs_
          exact ⟨false, Option.some.inj hm, ha_.weaken ⟨rfl, trivial⟩, hs_.reix [] (by decide)⟩
        have hm := cond_f k26_7 hm
        refine as1 (sk1 rfl rfl k26_7) ?_
        refine as1 (sk1 rfl rfl k26_7) ?_
        refine as1 (sk1 rfl rfl k26_7) ?_
        refine ap (y_pick_f rfl k26_7 rfl) ?_
        refine ap (y_move rfl) ?_
        refine as1 (sk1 rfl rfl rfl) ?_
        refine ap (y_pick_f rfl rfl rfl) ?_
        refine ap (y_assign rfl) ?_
        refine a_nil ?_
        refine a_en [(4, .bool false)] ?_
        refine a_cut ?_
        intro a_ w_ ha_ hs_
        exact ⟨false, Option.some.inj hm, ha_.weaken ⟨rfl, trivial⟩, hs_.reix [] (by decide)⟩
      have hm := cond_f k26_3 hm
      refine as1 (sk1 rfl rfl k26_3) ?_
      refine as1 (sk1 rfl rfl k26_3) ?_
      refine ap (y_pick_f rfl k26_3 rfl) ?_
      refine ap (y_move rfl) ?_
      refine as1 (sk1 rfl rfl rfl) ?_
      refine as1 (sk1 rfl rfl rfl) ?_
      refine as1 (sk1 rfl rfl rfl) ?_
      refine ap (y_pick_f rfl rfl rfl) ?_
      refine ap (y_move rfl) ?_
      refine as1 (sk1 rfl rfl rfl) ?_
      refine ap (y_pick_f rfl rfl rfl) ?_
      refine ap (y_assign rfl) ?_
      refine a_nil ?_
      refine a_en [(4, .bool false)] ?_
      refine a_cut ?_
      intro a_ w_ ha_ hs_
      exact ⟨false, Option.some.inj hm, ha_.weaken ⟨rfl, trivial⟩, hs_.reix [] (by decide)⟩
    have hm := hm_j9
    rintro a_ w_ ⟨yj9_4, rfl, ha_, hs_⟩
    try dsimp only at hm
    refine a_start ha_ hs_ ?_
    refine a_then ?_
    refine a_ret ?_
    refine a_done (v := .bool yj9_4) (.inl rfl) rfl ?_ ?_
    · intro a_ w_ ha_ hs_; exact run_results (P := Tryd.prog) (fn := Tryd.f11) (rs := [.tmp 4]) (vs := [.bool yj9_4]) rfl (.cons (rv_tmp ha_ rfl) (All2.nil))
    · intro _ _; obtain rfl := Option.some.inj hm
      rfl
  have N5_1 (Hn5_6 : Hp) (ln5_6 : HLe Hb0_0 Hn5_6) (v5_3 : Value) (u5_3 : List Value) (v5_7 : Value) (u5_7 : List Value) (h5_3 : RepL (α := TunnelFrame) Hn5_6 u5_3 x5_3) (h5_7 : RepL (α := TunnelPart) Hn5_6 u5_7 x5_7) : At 218 [] (Kp.mk w H noX) [(2, .pointer (some ⟨b0_0, 0, none⟩)), (3, .pointer (some ⟨b0_1, 0, none⟩)), (5, .int .i64 x3_5), (6, .int .i64 x3_11), (7, .pointer (some ⟨b4_1, 0, none⟩)), (55, v5_7)] Hn5_6 ([.box b4_1 [v4o4_1_0, v5_3] 25, .row v5_3 u5_3 55 3, .row v5_7 u5_7 64 6]) (U5 (Sw Hn5_6 []) 2 (bits 12 1023)) := by
    refine d_fwd hU5 ?_
    have hb0_0 := PAt.mono ln5_6 hb0_0
    have hb0_1 := PAt.mono ln5_6 hb0_1
    have h4o4_1_0 := Sl.mono ln5_6 h4o4_1_0
    have hg := Glob.mono ln5_6 hg
    refine dt 10 2047 rfl trivial (y_fieldAddr fo25_0 rfl) (sw0 []) ?_
    refine d1 11 rfl (e_storeLR (i := 0) (j := 2) (cs' := [v5_7, v5_3]) trivial ty22 rfl rfl rfl rfl (Nat.le_of_ble_eq_true rfl) rfl ?_)
    refine dn 4095 (sw0 []) ?_
    exact d_edge hU5 (N5_0 Hn5_6 ln5_6 v5_3 u5_3 v5_7 u5_7 h5_3 h5_7) ⟨rfl, rfl, rfl, rfl, rfl, trivial⟩ [0, 1, 2] (by decide) rfl (fun _ h => h)
  have N5_2 (Hn5_5 : Hp) (ln5_5 : HLe Hb0_0 Hn5_5) (v5_3 : Value) (u5_3 : List Value) (v5_7 : Value) (u5_7 : List Value) (h5_3 : RepL (α := TunnelFrame) Hn5_5 u5_3 x5_3) (h5_7 : RepL (α := TunnelPart) Hn5_5 u5_7 x5_7) : At 218 [] (Kp.mk w H noX) [(2, .pointer (some ⟨b0_0, 0, none⟩)), (3, .pointer (some ⟨b0_1, 0, none⟩)), (5, .int .i64 x3_5), (6, .int .i64 x3_11), (7, .pointer (some ⟨b4_1, 0, none⟩)), (51, v5_3), (55, v5_7), (56, .pointer (some ⟨b4_1, 1, none⟩))] Hn5_5 ([.box b4_1 [v4o4_1_0, v4o4_1_1] 25, .row v5_3 u5_3 55 3, .row v5_7 u5_7 64 6]) (U5 (Sw Hn5_5 []) 3 (bits 12 511)) := by
    refine d_fwd hU5 ?_
    have hb0_0 := PAt.mono ln5_5 hb0_0
    have hb0_1 := PAt.mono ln5_5 hb0_1
    have h4o4_1_0 := Sl.mono ln5_5 h4o4_1_0
    have h4o4_1_1 := Sl.mono ln5_5 h4o4_1_1
    have hg := Glob.mono ln5_5 hg
    refine d1 9 rfl (e_storeLR (i := 0) (j := 1) (cs' := [v4o4_1_0, v5_3]) trivial ty23 rfl rfl rfl rfl (Nat.le_of_ble_eq_true rfl) rfl ?_)
    refine dn 1023 (sw0 []) ?_
    exact d_edge hU5 (N5_1 Hn5_5 ln5_5 v5_3 u5_3 v5_7 u5_7 h5_3 h5_7) ⟨rfl, rfl, rfl, rfl, rfl, rfl, trivial⟩ [0, 1, 2] (by decide) rfl (fun _ h => h)
  have N5_3 (Hn5_9 : Hp) (ln5_9 : HLe Hb0_0 Hn5_9) (v5_6 : Value) (v5_3 : Value) (u5_3 : List Value) (v5_4 : Value) (h5_6 : Sl (α := TunnelPart) Hn5_9 v5_6 p0.Parts) (h5_3 : RepL (α := TunnelFrame) Hn5_9 u5_3 x5_3) (h5_4 : RepL (α := TunnelPart) Hn5_9 [] ([] : List TunnelPart)) : At 218 [] (Kp.mk w H noX) [(2, .pointer (some ⟨b0_0, 0, none⟩)), (3, .pointer (some ⟨b0_1, 0, none⟩)), (5, .int .i64 x3_5), (6, .int .i64 x3_11), (7, .pointer (some ⟨b4_1, 0, none⟩)), (51, v5_3), (52, v5_4), (54, v5_6), (56, .pointer (some ⟨b4_1, 1, none⟩))] Hn5_9 ([.box b4_1 [v4o4_1_0, v4o4_1_1] 25, .row v5_3 u5_3 55 3, .row v5_4 [] 64 6]) (U5 (Sw Hn5_9 []) 4 (bits 12 383)) := by
    refine d_fwd hU5 ?_
    have hb0_0 := PAt.mono ln5_9 hb0_0
    have hb0_1 := PAt.mono ln5_9 hb0_1
    have h4o4_1_0 := Sl.mono ln5_9 h4o4_1_0
    have h4o4_1_1 := Sl.mono ln5_9 h4o4_1_1
    have hg := Glob.mono ln5_9 hg
    refine d1 7 rfl (e_app_sl (i := 2) trivial rfl Tryd.underlying22 Tryd.underlying22 ty64 rfl rfl rfl rfl rfl rfl rfl rfl h5_4 h5_6 q5_7 ?_)
    intro v5_7 u5_7 h5_7
    refine dn 511 (sw0 []) ?_
    exact d_edge hU5 (N5_2 Hn5_9 ln5_9 v5_3 u5_3 v5_7 u5_7 h5_3 h5_7) ⟨rfl, rfl, rfl, rfl, rfl, rfl, rfl, rfl, trivial⟩ [0, 1, 2] (by decide) rfl (fun _ h => h)
  have N5_4 (Hn5_4 : Hp) (ln5_4 : HLe Hb0_0 Hn5_4) (v5_6 : Value) (v5_3 : Value) (u5_3 : List Value) (v5_4 : Value) (h5_6 : Sl (α := TunnelPart) Hn5_4 v5_6 p0.Parts) (h5_3 : RepL (α := TunnelFrame) Hn5_4 u5_3 x5_3) (h5_4 : RepL (α := TunnelPart) Hn5_4 [] ([] : List TunnelPart)) : At 218 [] (Kp.mk w H noX) [(2, .pointer (some ⟨b0_0, 0, none⟩)), (3, .pointer (some ⟨b0_1, 0, none⟩)), (5, .int .i64 x3_5), (6, .int .i64 x3_11), (7, .pointer (some ⟨b4_1, 0, none⟩)), (51, v5_3), (52, v5_4), (54, v5_6)] Hn5_4 ([.box b4_1 [v4o4_1_0, v4o4_1_1] 25, .row v5_3 u5_3 55 3, .row v5_4 [] 64 6]) (U5 (Sw Hn5_4 []) 5 (bits 12 127)) := by
    refine d_fwd hU5 ?_
    have hb0_0 := PAt.mono ln5_4 hb0_0
    have hb0_1 := PAt.mono ln5_4 hb0_1
    have h4o4_1_0 := Sl.mono ln5_4 h4o4_1_0
    have h4o4_1_1 := Sl.mono ln5_4 h4o4_1_1
    have hg := Glob.mono ln5_4 hg
    refine dt 8 383 rfl trivial (y_fieldAddr fo25_1 rfl) (sw0 []) ?_
    refine d1 7 rfl (e_app_sl (i := 2) trivial rfl Tryd.underlying22 Tryd.underlying22 ty64 rfl rfl rfl rfl rfl rfl rfl rfl h5_4 h5_6 q5_7 ?_)
    intro v5_7 u5_7 h5_7
    refine dn 511 (sw0 []) ?_
    exact d_edge hU5 (N5_2 Hn5_4 ln5_4 v5_3 u5_3 v5_7 u5_7 h5_3 h5_7) ⟨rfl, rfl, rfl, rfl, rfl, rfl, rfl, rfl, trivial⟩ [0, 1, 2] (by decide) rfl (fun _ h => h)
  have N5_5 (Hn5_8 : Hp) (ln5_8 : HLe Hb0_0 Hn5_8) (v5_6 : Value) (v5_3 : Value) (u5_3 : List Value) (h5_6 : Sl (α := TunnelPart) Hn5_8 v5_6 p0.Parts) (h5_3 : RepL (α := TunnelFrame) Hn5_8 u5_3 x5_3) : At 218 [] (Kp.mk w H noX) [(2, .pointer (some ⟨b0_0, 0, none⟩)), (3, .pointer (some ⟨b0_1, 0, none⟩)), (5, .int .i64 x3_5), (6, .int .i64 x3_11), (7, .pointer (some ⟨b4_1, 0, none⟩)), (51, v5_3), (54, v5_6)] Hn5_8 ([.box b4_1 [v4o4_1_0, v4o4_1_1] 25, .row v5_3 u5_3 55 3]) (U5 (Sw Hn5_8 []) 6 (bits 12 111)) := by
    refine d_fwd hU5 ?_
    have hb0_0 := PAt.mono ln5_8 hb0_0
    have hb0_1 := PAt.mono ln5_8 hb0_1
    have h4o4_1_0 := Sl.mono ln5_8 h4o4_1_0
    have h4o4_1_1 := Sl.mono ln5_8 h4o4_1_1
    have hg := Glob.mono ln5_8 hg
    refine dt 8 367 rfl trivial (y_fieldAddr fo25_1 rfl) (sw0 []) ?_
    refine d1 4 rfl (e_buildSlice (xs := []) (cs := []) trivial rfl Tryd.underlying22 ty64 rfl rfl rfl (by simp [Value.cells]) rfl (rfl) ?_)
    intro v5_4
    have h5_4 : RepL (α := TunnelPart) Hn5_8 ([]) [] := (RepL.nil (α := TunnelPart))
    refine dn 383 (sw0 []) ?_
    exact d_edge hU5 (N5_3 Hn5_8 ln5_8 v5_6 v5_3 u5_3 v5_4 h5_6 h5_3 h5_4) ⟨rfl, rfl, rfl, rfl, rfl, rfl, rfl, rfl, rfl, trivial⟩ [1, 2, 0] (by decide) rfl (fun _ h => h)
  have N5_6 (Hn5_3 : Hp) (ln5_3 : HLe Hb0_0 Hn5_3) (v5_2 : Value) (v5_6 : Value) (v5_0 : Value) (v5_4 : Value) (h5_2 : Sl (α := TunnelFrame) Hn5_3 v5_2 p0.Frames) (h5_6 : Sl (α := TunnelPart) Hn5_3 v5_6 p0.Parts) (h5_0 : RepL (α := TunnelFrame) Hn5_3 [] ([] : List TunnelFrame)) (h5_4 : RepL (α := TunnelPart) Hn5_3 [] ([] : List TunnelPart)) : At 218 [] (Kp.mk w H noX) [(2, .pointer (some ⟨b0_0, 0, none⟩)), (3, .pointer (some ⟨b0_1, 0, none⟩)), (5, .int .i64 x3_5), (6, .int .i64 x3_11), (7, .pointer (some ⟨b4_1, 0, none⟩)), (48, v5_0), (50, v5_2), (52, v5_4), (54, v5_6)] Hn5_3 ([.box b4_1 [v4o4_1_0, v4o4_1_1] 25, .row v5_0 [] 55 3, .row v5_4 [] 64 6]) (U5 (Sw Hn5_3 []) 6 (bits 12 119)) := by
    refine d_fwd hU5 ?_
    have hb0_0 := PAt.mono ln5_3 hb0_0
    have hb0_1 := PAt.mono ln5_3 hb0_1
    have h4o4_1_0 := Sl.mono ln5_3 h4o4_1_0
    have h4o4_1_1 := Sl.mono ln5_3 h4o4_1_1
    have hg := Glob.mono ln5_3 hg
    refine d1 3 rfl (e_app_sl (i := 1) trivial rfl Tryd.underlying23 Tryd.underlying23 ty55 rfl rfl rfl rfl rfl rfl rfl rfl h5_0 h5_2 q5_3 ?_)
    intro v5_3 u5_3 h5_3
    refine dn 127 (sw0 []) ?_
    exact d_edge hU5 (N5_4 Hn5_3 ln5_3 v5_6 v5_3 u5_3 v5_4 h5_6 h5_3 h5_4) ⟨rfl, rfl, rfl, rfl, rfl, rfl, rfl, rfl, trivial⟩ [0, 1, 2] (by decide) rfl (fun _ h => h)
  have N5_7 (Hn5_1 : Hp) (ln5_1 : HLe Hb0_0 Hn5_1) (v5_2 : Value) (v5_6 : Value) (v5_0 : Value) (h5_2 : Sl (α := TunnelFrame) Hn5_1 v5_2 p0.Frames) (h5_6 : Sl (α := TunnelPart) Hn5_1 v5_6 p0.Parts) (h5_0 : RepL (α := TunnelFrame) Hn5_1 [] ([] : List TunnelFrame)) : At 218 [] (Kp.mk w H noX) [(2, .pointer (some ⟨b0_0, 0, none⟩)), (3, .pointer (some ⟨b0_1, 0, none⟩)), (5, .int .i64 x3_5), (6, .int .i64 x3_11), (7, .pointer (some ⟨b4_1, 0, none⟩)), (48, v5_0), (50, v5_2), (54, v5_6)] Hn5_1 ([.box b4_1 [v4o4_1_0, v4o4_1_1] 25, .row v5_0 [] 55 3]) (U5 (Sw Hn5_1 []) 7 (bits 12 103)) := by
    refine d_fwd hU5 ?_
    have hb0_0 := PAt.mono ln5_1 hb0_0
    have hb0_1 := PAt.mono ln5_1 hb0_1
    have h4o4_1_0 := Sl.mono ln5_1 h4o4_1_0
    have h4o4_1_1 := Sl.mono ln5_1 h4o4_1_1
    have hg := Glob.mono ln5_1 hg
    refine d_all (rs := [3, 4]) (by kernel_rfl) rfl ⟨⟨_, rfl, ?_⟩, ⟨_, rfl, ?_⟩, trivial⟩
    · refine e_app_sl (i := 1) trivial rfl Tryd.underlying23 Tryd.underlying23 ty55 rfl rfl rfl rfl rfl rfl rfl rfl h5_0 h5_2 q5_3 ?_
      intro v5_3 u5_3 h5_3
      refine dn 111 (sw0 []) ?_
      exact d_edge hU5 (N5_5 Hn5_1 ln5_1 v5_6 v5_3 u5_3 h5_6 h5_3) ⟨rfl, rfl, rfl, rfl, rfl, rfl, rfl, trivial⟩ [0, 1] (by decide) rfl (fun _ h => h)
    refine e_buildSlice (xs := []) (cs := []) trivial rfl Tryd.underlying22 ty64 rfl rfl rfl (by simp [Value.cells]) rfl (rfl) ?_
    intro v5_4
    have h5_4 : RepL (α := TunnelPart) Hn5_1 ([]) [] := (RepL.nil (α := TunnelPart))
    refine dn 119 (sw0 []) ?_
    exact d_edge hU5 (N5_6 Hn5_1 ln5_1 v5_2 v5_6 v5_0 v5_4 h5_2 h5_6 h5_0 h5_4) ⟨rfl, rfl, rfl, rfl, rfl, rfl, rfl, rfl, rfl, trivial⟩ [1, 2, 0] (by decide) rfl (fun _ h => h)
  have N5_8 (Hn5_2 : Hp) (ln5_2 : HLe Hb0_0 Hn5_2) (v5_2 : Value) (v5_6 : Value) (v5_4 : Value) (h5_2 : Sl (α := TunnelFrame) Hn5_2 v5_2 p0.Frames) (h5_6 : Sl (α := TunnelPart) Hn5_2 v5_6 p0.Parts) (h5_4 : RepL (α := TunnelPart) Hn5_2 [] ([] : List TunnelPart)) : At 218 [] (Kp.mk w H noX) [(2, .pointer (some ⟨b0_0, 0, none⟩)), (3, .pointer (some ⟨b0_1, 0, none⟩)), (5, .int .i64 x3_5), (6, .int .i64 x3_11), (7, .pointer (some ⟨b4_1, 0, none⟩)), (50, v5_2), (52, v5_4), (54, v5_6)] Hn5_2 ([.box b4_1 [v4o4_1_0, v4o4_1_1] 25, .row v5_4 [] 64 6]) (U5 (Sw Hn5_2 []) 7 (bits 12 118)) := by
    refine d_fwd hU5 ?_
    have hb0_0 := PAt.mono ln5_2 hb0_0
    have hb0_1 := PAt.mono ln5_2 hb0_1
    have h4o4_1_0 := Sl.mono ln5_2 h4o4_1_0
    have h4o4_1_1 := Sl.mono ln5_2 h4o4_1_1
    have hg := Glob.mono ln5_2 hg
    refine d1 0 rfl (e_buildSlice (xs := []) (cs := []) trivial rfl Tryd.underlying23 ty55 rfl rfl rfl (by simp [Value.cells]) rfl (rfl) ?_)
    intro v5_0
    have h5_0 : RepL (α := TunnelFrame) Hn5_2 ([]) [] := (RepL.nil (α := TunnelFrame))
    refine dn 119 (sw0 []) ?_
    exact d_edge hU5 (N5_6 Hn5_2 ln5_2 v5_2 v5_6 v5_0 v5_4 h5_2 h5_6 h5_0 h5_4) ⟨rfl, rfl, rfl, rfl, rfl, rfl, rfl, rfl, rfl, trivial⟩ [1, 0, 2] (by decide) rfl (fun _ h => h)
  refine d_fwd hU5 ?_
  have h5_1 := TunnelBook.at_Frames hb0_0
  refine dt 1 2 rfl trivial (y_fieldAddr fo25_1 rfl) (sw0 []) ?_
  obtain ⟨v5_2, h5_2, c5_2⟩ := PAt.sl h5_1
  refine dt 2 6 rfl trivial (y_load_one ty23 rfl (fun _ h => h.1) rfl c5_2) (sw0 []) ?_
  have h5_5 := TunnelBook.at_Parts hb0_0
  refine dt 5 38 rfl trivial (y_fieldAddr fo25_0 rfl) (sw0 []) ?_
  obtain ⟨v5_6, h5_6, c5_6⟩ := PAt.sl h5_5
  refine dt 6 102 rfl trivial (y_load_one ty22 rfl (fun _ h => h.1) rfl c5_6) (sw0 []) ?_
  refine d_all (rs := [0, 4]) (by kernel_rfl) rfl ⟨⟨_, rfl, ?_⟩, ⟨_, rfl, ?_⟩, trivial⟩
  · refine e_buildSlice (xs := []) (cs := []) trivial rfl Tryd.underlying23 ty55 rfl rfl rfl (by simp [Value.cells]) rfl (rfl) ?_
    intro v5_0
    have h5_0 : RepL (α := TunnelFrame) Hb0_0 ([]) [] := (RepL.nil (α := TunnelFrame))
    refine dn 103 (sw0 []) ?_
    exact d_edge hU5 (N5_7 Hb0_0 (HLe.refl _) v5_2 v5_6 v5_0 h5_2 h5_6 h5_0) ⟨rfl, rfl, rfl, rfl, rfl, rfl, rfl, rfl, trivial⟩ [1, 0] (by decide) rfl (fun _ h => h)
  refine e_buildSlice (xs := []) (cs := []) trivial rfl Tryd.underlying22 ty64 rfl rfl rfl (by simp [Value.cells]) rfl (rfl) ?_
  intro v5_4
  have h5_4 : RepL (α := TunnelPart) Hb0_0 ([]) [] := (RepL.nil (α := TunnelPart))
  refine dn 118 (sw0 []) ?_
  exact d_edge hU5 (N5_8 Hb0_0 (HLe.refl _) v5_2 v5_6 v5_4 h5_2 h5_6 h5_4) ⟨rfl, rfl, rfl, rfl, rfl, rfl, rfl, rfl, trivial⟩ [1, 0] (by decide) rfl (fun _ h => h)
end Go.Lu
