/- Of each further function that the law TunnelLonger reaches, part 1: what it computes, and the walk that shows it. -/
import Derived.Test.YtbcabikaaadiiaaDoorLuW3
namespace Go.Lu
open Go Go.Proofs
set_option linter.unusedVariables false
set_option maxRecDepth 100000
set_option maxHeartbeats 8000000
def ref00_Fits (k : Nat) (p0 : Int) (p1 : Int) (p2 : Int) : Option Bool :=
 (bif decide (p1 ≤ p0) then
 some ((decide (p0 ≤ p2)))
 else
 some (false)).bind fun yj1_6 =>
 some (yj1_6)
theorem ok_50 {k : Nat} {H : Hp} {w : World} {p0 : Int} {p1 : Int} {p2 : Int} {r : Bool} (hsub : Sub H w)  (hm : ref00_Fits k p0 p1 p2 = some r) : Calls Tryd.prog 50 [.int .i64 p0, .int .i64 p1, .int .i64 p2].toArray w (PostV w H (.bool r)) := by
  unfold ref00_Fits at hm
  refine start (n := 15) (E := [(0, .int .i64 p0), (1, .int .i64 p1), (2, .int .i64 p2)]) Tryd.func50 rfl rfl ⟨rfl, rfl, rfl, trivial⟩ rfl hsub ?_
  refine a_seq ?_
  refine a_region rfl ?_
  refine ap (y_assign rfl) ?_
  refine a_nil ?_
  refine a_en [(0, .int .i64 p0), (1, .int .i64 p1), (2, .int .i64 p2)] ?_
  refine a_then ?_
  refine a_seq ?_
  obtain ⟨s_j1, hs_j1, hm_j1⟩ := bind_some hm
  refine a_join (fun a_ w_ => ∃ (yj1_6 : Bool), yj1_6 = s_j1 ∧ Ag 15 [] [(6, .bool yj1_6)] a_ ∧ St (Kp.mk w H noX) H [] w_) ?_ ?_
  · have hm := hs_j1
    refine a_region rfl ?_
    refine ap (y_move rfl) ?_
    refine ap (y_move rfl) ?_
    refine ap (y_leq rfl rfl) ?_
    refine ap (y_move rfl) ?_
    rcases Bool.eq_false_or_eq_true (decide (p1 ≤ p0)) with k1_4 | k1_4
    · have hm := cond_t k1_4 hm
      refine ag ⟨_, _, rfl, rfl, k1_4⟩ (y_move rfl) ?_
      refine ag ⟨_, _, rfl, rfl, k1_4⟩ (y_move rfl) ?_
      refine ag ⟨_, _, rfl, rfl, k1_4⟩ (y_leq rfl rfl) ?_
      refine ap (y_pick_t rfl k1_4 rfl) ?_
      refine ap (y_assign rfl) ?_
      refine a_nil ?_
      refine a_en [(6, .bool (decide (p0 ≤ p2)))] ?_
      refine a_cut ?_
      intro a_ w_ ha_ hs_
      exact ⟨decide (p0 ≤ p2), Option.some.inj hm, ha_.weaken ⟨rfl, trivial⟩, hs_.reix [] (by decide)⟩
    have hm := cond_f k1_4 hm
    refine as1 (sk1 rfl rfl k1_4) ?_
    refine as1 (sk1 rfl rfl k1_4) ?_
    refine as1 (sk1 rfl rfl k1_4) ?_
    refine ap (y_pick_f rfl k1_4 rfl) ?_
    refine ap (y_assign rfl) ?_
    refine a_nil ?_
    refine a_en [(6, .bool false)] ?_
    refine a_cut ?_
    intro a_ w_ ha_ hs_
    exact ⟨false, Option.some.inj hm, ha_.weaken ⟨rfl, trivial⟩, hs_.reix [] (by decide)⟩
  have hm := hm_j1
  rintro a_ w_ ⟨yj1_6, rfl, ha_, hs_⟩
  try dsimp only at hm
  refine a_start ha_ hs_ ?_
  refine a_then ?_
  refine a_ret ?_
  refine a_done (v := .bool yj1_6) (.inl rfl) rfl ?_ ?_
  · intro a_ w_ ha_ hs_; exact run_results (P := Tryd.prog) (fn := Tryd.f50) (rs := [.tmp 6]) (vs := [.bool yj1_6]) rfl (.cons (rv_tmp ha_ rfl) (All2.nil))
  · intro _ _; obtain rfl := Option.some.inj hm
    rfl

def ref00_Right (k : Nat) (p0 : Span) (p1 : Int) (p2 : Int) : Option Bool :=
 (bif decide (p1 ≤ p0.Low) then
 bif decide (p0.Low ≤ p0.High) then
 some ((decide (p0.High ≤ p2)))
 else
 some (false)
 else
 some (false)).bind fun yj1_6 =>
 some (yj1_6)
theorem ok_87 {k : Nat} {H : Hp} {w : World} {p0 : Span} {p1 : Int} {p2 : Int} {c0 : List Value} {r : Bool} (hsub : Sub H w) (h0 : Rp.rep (α := Span) H c0 p0) (hm : ref00_Right k p0 p1 p2 = some r) : Calls Tryd.prog 87 [.agg c0.toArray, .int .i64 p1, .int .i64 p2].toArray w (PostV w H (.bool r)) := by
  unfold ref00_Right at hm
  refine start (n := 24) (E := [(0, .agg c0.toArray), (1, .int .i64 p1), (2, .int .i64 p2)]) Tryd.func87 rfl rfl ⟨rfl, rfl, rfl, trivial⟩ rfl hsub ?_
  refine a_seq ?_
  refine a_region rfl ?_
  refine a_cons (e_box (cs := c0) trivial rfl rfl rfl ?_)
  intro b0_0
  refine ap (y_assign rfl) ?_
  refine a_nil ?_
  refine a_freeze (α := Span) (x := p0) (i := 0) rfl h0 ?_
  intro Hb0_0 lb0_0 hb0_0
  have h0 := Rp.mono lb0_0 h0
  refine a_en [(1, .int .i64 p1), (2, .int .i64 p2), (3, .pointer (some ⟨b0_0, 0, none⟩))] ?_
  refine a_own [] (by decide) (L' := []) rfl ?_
  refine a_then ?_
  refine a_seq ?_
  obtain ⟨s_j1, hs_j1, hm_j1⟩ := bind_some hm
  refine a_join (fun a_ w_ => ∃ (yj1_6 : Bool), yj1_6 = s_j1 ∧ Ag 24 [] [(6, .bool yj1_6)] a_ ∧ St (Kp.mk w H noX) Hb0_0 [] w_) ?_ ?_
  · have hm := hs_j1
    refine a_region rfl ?_
    refine ap (y_move rfl) ?_
    have h1_1 := Span.at_Low hb0_0
    refine ap (y_fieldAddr fo32_0 rfl) ?_
    refine ap (y_load_int ty3 rfl (fun _ h => h.sub) rfl h1_1) ?_
    refine ap (y_leq rfl rfl) ?_
    refine ap (y_move rfl) ?_
    rcases Bool.eq_false_or_eq_true (decide (p1 ≤ p0.Low)) with k1_5 | k1_5
    · have hm := cond_t k1_5 hm
      have h1_5 := Span.at_Low hb0_0
      refine ag ⟨_, _, rfl, rfl, k1_5⟩ (y_fieldAddr fo32_0 rfl) ?_
      refine ag ⟨_, _, rfl, rfl, k1_5⟩ (y_load_int ty3 rfl (fun _ h => h.sub) rfl h1_5) ?_
      have h1_7 := Span.at_High hb0_0
      refine ag ⟨_, _, rfl, rfl, k1_5⟩ (y_fieldAddr fo32_1 rfl) ?_
      refine ag ⟨_, _, rfl, rfl, k1_5⟩ (y_load_int ty3 rfl (fun _ h => h.sub) rfl h1_7) ?_
      refine ag ⟨_, _, rfl, rfl, k1_5⟩ (y_leq rfl rfl) ?_
      refine ap (y_pick_t rfl k1_5 rfl) ?_
      refine ap (y_move rfl) ?_
      rcases Bool.eq_false_or_eq_true (decide (p0.Low ≤ p0.High)) with k1_12 | k1_12
      · have hm := cond_t k1_12 hm
        have h1_12 := Span.at_High hb0_0
        refine ag ⟨_, _, rfl, rfl, k1_12⟩ (y_fieldAddr fo32_1 rfl) ?_
        refine ag ⟨_, _, rfl, rfl, k1_12⟩ (y_load_int ty3 rfl (fun _ h => h.sub) rfl h1_12) ?_
        refine ag ⟨_, _, rfl, rfl, k1_12⟩ (y_move rfl) ?_
        refine ag ⟨_, _, rfl, rfl, k1_12⟩ (y_leq rfl rfl) ?_
        refine ap (y_pick_t rfl k1_12 rfl) ?_
        refine ap (y_assign rfl) ?_
        refine a_nil ?_
        refine a_en [(6, .bool (decide (p0.High ≤ p2)))] ?_
        refine a_cut ?_
        intro a_ w_ ha_ hs_
        exact ⟨decide (p0.High ≤ p2), Option.some.inj hm, ha_.weaken ⟨rfl, trivial⟩, hs_.reix [] (by decide)⟩
      have hm := cond_f k1_12 hm
      refine as1 (sk1 rfl rfl k1_12) ?_
      refine as1 (sk1 rfl rfl k1_12) ?_
      refine as1 (sk1 rfl rfl k1_12) ?_
      refine as1 (sk1 rfl rfl k1_12) ?_
      refine ap (y_pick_f rfl k1_12 rfl) ?_
      refine ap (y_assign rfl) ?_
      refine a_nil ?_
      refine a_en [(6, .bool false)] ?_
      refine a_cut ?_
      intro a_ w_ ha_ hs_
      exact ⟨false, Option.some.inj hm, ha_.weaken ⟨rfl, trivial⟩, hs_.reix [] (by decide)⟩
    have hm := cond_f k1_5 hm
    refine as1 (sk1 rfl rfl k1_5) ?_
    refine as1 (sk1 rfl rfl k1_5) ?_
    refine as1 (sk1 rfl rfl k1_5) ?_
    refine as1 (sk1 rfl rfl k1_5) ?_
    refine as1 (sk1 rfl rfl k1_5) ?_
    refine ap (y_pick_f rfl k1_5 rfl) ?_
    refine ap (y_move rfl) ?_
    refine as1 (sk1 rfl rfl rfl) ?_
    refine as1 (sk1 rfl rfl rfl) ?_
    refine as1 (sk1 rfl rfl rfl) ?_
    refine as1 (sk1 rfl rfl rfl) ?_
    refine ap (y_pick_f rfl rfl rfl) ?_
    refine ap (y_assign rfl) ?_
    refine a_nil ?_
    refine a_en [(6, .bool false)] ?_
    refine a_cut ?_
    intro a_ w_ ha_ hs_
    exact ⟨false, Option.some.inj hm, ha_.weaken ⟨rfl, trivial⟩, hs_.reix [] (by decide)⟩
  have hm := hm_j1
  rintro a_ w_ ⟨yj1_6, rfl, ha_, hs_⟩
  try dsimp only at hm
  refine a_start ha_ hs_ ?_
  refine a_then ?_
  refine a_ret ?_
  refine a_done (v := .bool yj1_6) (.inl rfl) rfl ?_ ?_
  · intro a_ w_ ha_ hs_; exact run_results (P := Tryd.prog) (fn := Tryd.f87) (rs := [.tmp 6]) (vs := [.bool yj1_6]) rfl (.cons (rv_tmp ha_ rfl) (All2.nil))
  · intro _ _; obtain rfl := Option.some.inj hm
    rfl

def law03_sound_lj8 (k : Nat) (x5_3 : TunnelPart) : Nat → Bool → Int → Option Bool
 | 0, _, _ => none
 | n_j8 + 1, yj8_3, yj8_6 =>
 bif decide (yj8_6 ≤ 3) then
 (bif yj8_3 then
 (nth x5_3.Heat yj8_6).bind fun x10_4 =>
 (ref00_Fits k x10_4 0 20).bind fun x10_6 =>
 some (x10_6)
 else
 some (false)).bind fun yj10_3 =>
 law03_sound_lj8 k x5_3 n_j8 yj10_3 (IntKind.i64.wrap (yj8_6 + 1))
 else
 some (yj8_3)
def law03_sound_lj3 (k : Nat) (p0 : TunnelBook) : Nat → Bool → Int → Option Bool
 | 0, _, _ => none
 | n_j3 + 1, yj3_3, yj3_4 =>
 (bif yj3_3 then
 some ((decide (yj3_4 < (p0.Parts.length : Int))))
 else
 some (false)).bind fun yj4_32 =>
 bif yj4_32 then
 (nth p0.Parts yj3_4).bind fun x5_3 =>
 ((ref00_Right k x5_3.Damp 0 20).bind fun x6_2 =>
 bif x6_2 then
 some ((decide ((IntKind.i64.wrap (x5_3.Damp.High - x5_3.Damp.Low)) ≤ 3)))
 else
 some (false)).bind fun yj6_3 =>
 (law03_sound_lj8 k x5_3 k yj6_3 0).bind fun yj7_3 =>
 law03_sound_lj3 k p0 n_j3 yj7_3 (IntKind.i64.wrap (yj3_4 + 1))
 else
 some (yj3_3)
def law03_sound_lj17 (k : Nat) (x14_3 : TunnelFrame) : Nat → Bool → Int → Option Bool
 | 0, _, _ => none
 | n_j17 + 1, yj17_3, yj17_9 =>
 (bif yj17_3 then
 some ((decide (yj17_9 < (x14_3.Stay.length : Int))))
 else
 some (false)).bind fun yj18_99 =>
 bif yj18_99 then
 (nth x14_3.Stay yj17_9).bind fun x19_3 =>
 (ref00_Fits k x19_3 0 20).bind fun x19_5 =>
 law03_sound_lj17 k x14_3 n_j17 x19_5 (IntKind.i64.wrap (yj17_9 + 1))
 else
 some (yj17_3)
def law03_sound_lj12 (k : Nat) (p0 : TunnelBook) : Nat → Bool → Int → Option Bool
 | 0, _, _ => none
 | n_j12 + 1, yj12_3, yj12_7 =>
 (bif yj12_3 then
 some ((decide (yj12_7 < (p0.Frames.length : Int))))
 else
 some (false)).bind fun yj13_72 =>
 bif yj13_72 then
 (nth p0.Frames yj12_7).bind fun x14_3 =>
 (bif (x14_3.Stay.length : Int) == (p0.Parts.length : Int) then
 (ref00_Right k x14_3.Need 0 999).bind fun x15_10 =>
 some (x15_10)
 else
 some (false)).bind fun yj15_3 =>
 (law03_sound_lj17 k x14_3 k yj15_3 0).bind fun yj16_3 =>
 law03_sound_lj12 k p0 n_j12 yj16_3 (IntKind.i64.wrap (yj12_7 + 1))
 else
 some (yj12_3)
def law03_sound (k : Nat) (p0 : TunnelBook) : Option Bool :=
 ((tunnel_Check k p0).bind fun x1_1 =>
 bif x1_1 == 0 then
 (ref00_Fits k (p0.Parts.length : Int) 1 4).bind fun x1_7 =>
 bif x1_7 then
 some ((decide ((p0.Frames.length : Int) ≤ 5)))
 else
 some (false)
 else
 some (false)).bind fun yj1_3 =>
 (law03_sound_lj3 k p0 k yj1_3 0).bind fun yj2_3 =>
 (law03_sound_lj12 k p0 k yj2_3 0).bind fun yj11_3 =>
 some (yj11_3)
theorem ok_43 {k : Nat} {H : Hp} {w : World} {p0 : TunnelBook} {c0 : List Value} {r : Bool} (hsub : Sub H w) (h0 : Rp.rep (α := TunnelBook) H c0 p0) (hm : law03_sound k p0 = some r) : Calls Tryd.prog 43 [.agg c0.toArray].toArray w (PostV w H (.bool r)) := by
  unfold law03_sound at hm
  refine start (n := 109) (E := [(0, .agg c0.toArray)]) Tryd.func43 rfl rfl ⟨rfl, trivial⟩ rfl hsub ?_
  refine a_seq ?_
  refine a_region rfl ?_
  refine a_cons (e_box (cs := c0) trivial rfl rfl rfl ?_)
  intro b0_0
  refine ap (y_assign rfl) ?_
  refine a_nil ?_
  refine a_freeze (α := TunnelBook) (x := p0) (i := 0) rfl h0 ?_
  intro Hb0_0 lb0_0 hb0_0
  have h0 := Rp.mono lb0_0 h0
  refine a_en [(1, .pointer (some ⟨b0_0, 0, none⟩))] ?_
  refine a_own [] (by decide) (L' := []) rfl ?_
  refine a_then ?_
  refine a_seq ?_
  obtain ⟨s_j1, hs_j1, hm_j1⟩ := bind_some hm
  refine a_join (fun a_ w_ => ∃ (yj1_3 : Bool), yj1_3 = s_j1 ∧ Ag 109 [] [(1, .pointer (some ⟨b0_0, 0, none⟩)), (3, .bool yj1_3)] a_ ∧ St (Kp.mk w H noX) Hb0_0 [] w_) ?_ ?_
  · have hm := hs_j1
    refine a_region rfl ?_
    obtain ⟨u1_0, h1_0, c1_0⟩ := PAt.one hb0_0
    refine ap (y_load_cells ty25 rfl (fun _ h => h.sub) rfl c1_0 (Rp.len h1_0)) ?_
    obtain ⟨x1_1, q1_1, hm⟩ := bind_some hm
    refine a_cons (e_callV (all := [.agg u1_0.toArray]) (v := .int .i64 x1_1) trivial rfl Tryd.func21 rfl rfl rfl rfl rfl (fun w hw => ok_21 hw h1_0 q1_1) ?_)
    refine ap (y_eql rfl rfl) ?_
    refine ap (y_move rfl) ?_
    rcases Bool.eq_false_or_eq_true (x1_1 == 0) with k1_4 | k1_4
    · have hm := cond_t k1_4 hm
      have h1_4 := TunnelBook.at_Parts hb0_0
      refine ag ⟨_, _, rfl, rfl, k1_4⟩ (y_fieldAddr fo25_0 rfl) ?_
      obtain ⟨v1_5, h1_5, c1_5⟩ := PAt.sl h1_4
      refine ag ⟨_, _, rfl, rfl, k1_4⟩ (y_load_one ty22 rfl (fun _ h => h.sub) rfl c1_5) ?_
      refine ag ⟨_, _, rfl, rfl, k1_4⟩ (y_len_sl Tryd.underlying22 rfl h1_5) ?_
      obtain ⟨x1_7, q1_7, hm⟩ := bind_some hm
      refine a_cons (e_callV (all := [.int .i64 (p0.Parts.length : Int), .int .i64 1, .int .i64 4]) (v := .bool x1_7) ⟨_, _, rfl, rfl, k1_4⟩ rfl Tryd.func50 rfl rfl rfl rfl rfl (fun w hw => ok_50 hw q1_7) ?_)
      refine ap (y_pick_t rfl k1_4 rfl) ?_
      refine ap (y_move rfl) ?_
      rcases Bool.eq_false_or_eq_true (x1_7) with k1_10 | k1_10
      · have hm := cond_t k1_10 hm
        have h1_10 := TunnelBook.at_Frames hb0_0
        refine ag ⟨_, _, rfl, rfl, k1_10⟩ (y_fieldAddr fo25_1 rfl) ?_
        obtain ⟨v1_11, h1_11, c1_11⟩ := PAt.sl h1_10
        refine ag ⟨_, _, rfl, rfl, k1_10⟩ (y_load_one ty23 rfl (fun _ h => h.sub) rfl c1_11) ?_
        refine ag ⟨_, _, rfl, rfl, k1_10⟩ (y_len_sl Tryd.underlying23 rfl h1_11) ?_
        refine ag ⟨_, _, rfl, rfl, k1_10⟩ (y_leq rfl rfl) ?_
        refine ap (y_pick_t rfl k1_10 rfl) ?_
        refine ap (y_assign rfl) ?_
        refine a_nil ?_
        refine a_en [(1, .pointer (some ⟨b0_0, 0, none⟩)), (3, .bool (decide ((p0.Frames.length : Int) ≤ 5)))] ?_
        refine a_cut ?_
        intro a_ w_ ha_ hs_
        exact ⟨decide ((p0.Frames.length : Int) ≤ 5), Option.some.inj hm, ha_.weaken ⟨rfl, rfl, trivial⟩, hs_.reix [] (by decide)⟩
      have hm := cond_f k1_10 hm
      refine as1 (sk1 rfl rfl k1_10) ?_
      refine as1 (sk1 rfl rfl k1_10) ?_
      refine as1 (sk1 rfl rfl k1_10) ?_
      refine as1 (sk1 rfl rfl k1_10) ?_
      refine ap (y_pick_f rfl k1_10 rfl) ?_
      refine ap (y_assign rfl) ?_
      refine a_nil ?_
      refine a_en [(1, .pointer (some ⟨b0_0, 0, none⟩)), (3, .bool false)] ?_
      refine a_cut ?_
      intro a_ w_ ha_ hs_
      exact ⟨false, Option.some.inj hm, ha_.weaken ⟨rfl, rfl, trivial⟩, hs_.reix [] (by decide)⟩
    have hm := cond_f k1_4 hm
    refine as1 (sk1 rfl rfl k1_4) ?_
    refine as1 (sk1 rfl rfl k1_4) ?_
    refine as1 (sk1 rfl rfl k1_4) ?_
    refine as1 (sk1 rfl rfl k1_4) ?_
    refine ap (y_pick_f rfl k1_4 rfl) ?_
    refine ap (y_move rfl) ?_
    refine as1 (sk1 rfl rfl rfl) ?_
    refine as1 (sk1 rfl rfl rfl) ?_
    refine as1 (sk1 rfl rfl rfl) ?_
    refine as1 (sk1 rfl rfl rfl) ?_
    refine ap (y_pick_f rfl rfl rfl) ?_
    refine ap (y_assign rfl) ?_
    refine a_nil ?_
    refine a_en [(1, .pointer (some ⟨b0_0, 0, none⟩)), (3, .bool false)] ?_
    refine a_cut ?_
    intro a_ w_ ha_ hs_
    exact ⟨false, Option.some.inj hm, ha_.weaken ⟨rfl, rfl, trivial⟩, hs_.reix [] (by decide)⟩
  have hm := hm_j1
  rintro a_ w_ ⟨yj1_3, rfl, ha_, hs_⟩
  try dsimp only at hm
  refine a_start ha_ hs_ ?_
  refine a_then ?_
  refine a_seq ?_
  refine a_seq ?_
  refine a_region rfl ?_
  refine ap (y_assign rfl) ?_
  refine a_nil ?_
  refine a_then ?_
  obtain ⟨s_j2, hs_j2, hm_j2⟩ := bind_some hm
  refine a_join (fun a_ w_ => ∃ (Hj2 : Hp), ∃ (_ : HLe Hb0_0 Hj2), ∃ (yj2_3 : Bool), yj2_3 = s_j2 ∧ Ag 109 [] [(1, .pointer (some ⟨b0_0, 0, none⟩)), (3, .bool yj2_3)] a_ ∧ St (Kp.mk w H noX) Hj2 [] w_) ?_ ?_
  · have hm := hs_j2
    refine a_block ?_
    refine a_loop (fun n_j3 a_ w_ => ∃ (Hj3 : Hp), ∃ (_ : HLe Hb0_0 Hj3), ∃ (yj3_3 : Bool), ∃ (yj3_4 : Int), law03_sound_lj3 k p0 n_j3 yj3_3 yj3_4 = some s_j2 ∧ Ag 109 [] [(1, .pointer (some ⟨b0_0, 0, none⟩)), (3, .bool yj3_3), (4, .int .i64 yj3_4)] a_ ∧ St (Kp.mk w H noX) Hj3 [] w_) k ?_ ?_
    · intro a_ w_ ha_ hs_
      exact ⟨Hb0_0, (HLe.refl _), yj1_3, 0, hm, ha_.weaken ⟨rfl, rfl, rfl, trivial⟩, hs_.reix [] (by decide)⟩
    rintro (_ | n_j3) a_ w_ ⟨Hj3, lj3, yj3_3, yj3_4, hm, ha_, hs_⟩
    · rw [law03_sound_lj3.eq_1] at hm; cases hm
    rw [law03_sound_lj3.eq_2] at hm
    refine a_start ha_ hs_ ?_
    have hb0_0 := PAt.mono lj3 hb0_0
    refine a_seq ?_
    refine a_seq ?_
    obtain ⟨s_j4, hs_j4, hm_j4⟩ := bind_some hm
    refine a_join (fun a_ w_ => ∃ (yj4_32 : Bool), yj4_32 = s_j4 ∧ Ag 109 [] [(1, .pointer (some ⟨b0_0, 0, none⟩)), (3, .bool yj3_3), (4, .int .i64 yj3_4), (32, .bool yj4_32)] a_ ∧ St (Kp.mk w H noX) Hj3 [] w_) ?_ ?_
    · have hm := hs_j4
      refine a_region rfl ?_
      refine ap (y_move rfl) ?_
      refine ap (y_move rfl) ?_
      rcases Bool.eq_false_or_eq_true (yj3_3) with k3_2 | k3_2
      · have hm := cond_t k3_2 hm
        refine ag ⟨_, _, rfl, rfl, k3_2⟩ (y_move rfl) ?_
        have h3_3 := TunnelBook.at_Parts hb0_0
        refine ag ⟨_, _, rfl, rfl, k3_2⟩ (y_fieldAddr fo25_0 rfl) ?_
        obtain ⟨v3_4, h3_4, c3_4⟩ := PAt.sl h3_3
        refine ag ⟨_, _, rfl, rfl, k3_2⟩ (y_load_one ty22 rfl (fun _ h => h.sub) rfl c3_4) ?_
        refine ag ⟨_, _, rfl, rfl, k3_2⟩ (y_len_sl Tryd.underlying22 rfl h3_4) ?_
        refine ag ⟨_, _, rfl, rfl, k3_2⟩ (y_lss rfl rfl) ?_
        refine ap (y_pick_t rfl k3_2 rfl) ?_
        refine a_nil ?_
        refine a_en [(1, .pointer (some ⟨b0_0, 0, none⟩)), (3, .bool yj3_3), (4, .int .i64 yj3_4), (27, .int .i64 yj3_4), (28, .pointer (some ⟨b0_0, 0 + 0, none⟩)), (29, v3_4), (30, .int .i64 (p0.Parts.length : Int)), (31, .bool (decide (yj3_4 < (p0.Parts.length : Int)))), (32, .bool (decide (yj3_4 < (p0.Parts.length : Int))))] ?_
        refine a_cut ?_
        intro a_ w_ ha_ hs_
        exact ⟨decide (yj3_4 < (p0.Parts.length : Int)), Option.some.inj hm, ha_.weaken ⟨rfl, rfl, rfl, rfl, trivial⟩, hs_.reix [] (by decide)⟩
      have hm := cond_f k3_2 hm
      refine as1 (sk1 rfl rfl k3_2) ?_
      refine as1 (sk1 rfl rfl k3_2) ?_
      refine as1 (sk1 rfl rfl k3_2) ?_
      refine as1 (sk1 rfl rfl k3_2) ?_
      refine as1 (sk1 rfl rfl k3_2) ?_
      refine ap (y_pick_f rfl k3_2 rfl) ?_
      refine a_nil ?_
      refine a_en [(1, .pointer (some ⟨b0_0, 0, none⟩)), (3, .bool yj3_3), (4, .int .i64 yj3_4), (27, undef), (28, undef), (29, undef), (30, undef), (31, undef), (32, .bool false)] ?_
      refine a_cut ?_
      intro a_ w_ ha_ hs_
      exact ⟨false, Option.some.inj hm, ha_.weaken ⟨rfl, rfl, rfl, rfl, trivial⟩, hs_.reix [] (by decide)⟩
    have hm := hm_j4
    rintro a_ w_ ⟨yj4_32, rfl, ha_, hs_⟩
    try dsimp only at hm
    refine a_start ha_ hs_ ?_
    refine a_then ?_
    refine a_cond rfl (fun k_5 => ?_) (fun k_5 => ?_)
    · have hm := cond_t k_5 hm
      refine a_skip ?_
      refine a_then ?_
      refine a_seq ?_
      refine a_block ?_
      refine a_seq ?_
      refine a_region rfl ?_
      have h5_0 := TunnelBook.at_Parts hb0_0
      refine ap (y_fieldAddr fo25_0 rfl) ?_
      obtain ⟨v5_1, h5_1, c5_1⟩ := PAt.sl h5_0
      refine ap (y_load_one ty22 rfl (fun _ h => h.sub) rfl c5_1) ?_
      refine ap (y_move rfl) ?_
      obtain ⟨x5_3, q5_3, hm⟩ := bind_some hm
      obtain ⟨b5_3, o5_3, c5_3, e5_3, h5_3⟩ := Sl.elemZ 6 rfl h5_1 q5_3
      refine ap (y_index Tryd.underlying22 ty64 rfl e5_3 rfl (nth_in q5_3)) ?_
      obtain ⟨u5_4, h5_4, c5_4⟩ := PAt.one h5_3
      refine ap (y_load_cells ty64 rfl (fun _ h => h.sub) rfl c5_4 (Rp.len h5_4)) ?_
      refine a_cons (e_alloc (cs := [.int .i64 0, .int .i64 0, .int .i64 0, .int .i64 0, .int .i64 0, .int .i64 0]) trivial rfl ty64 rfl ?_)
      intro b5_5
      have mz5_5 : Rp.rep (α := TunnelPart) Hj3 [.int .i64 0, .int .i64 0, .int .i64 0, .int .i64 0, .int .i64 0, .int .i64 0] (⟨[0, 0, 0, 0], ⟨0, 0⟩⟩ : TunnelPart) := ⟨_, _, rfl, ⟨(RepL.cons (c := [_]) rfl (RepL.cons (c := [_]) rfl (RepL.cons (c := [_]) rfl (RepL.cons (c := [_]) rfl RepL.nil)))), rfl⟩, ⟨_, _, rfl, rfl, rfl⟩⟩
      refine a_cons (e_storeWhole (i := 0) (ds := u5_4) trivial ty64 rfl rfl rfl rfl (Rp.len h5_4) ((Rp.one h5_4)) rfl ?_)
      refine a_nil ?_
      refine a_freeze (α := TunnelPart) (x := x5_3) (i := 0) rfl h5_4 ?_
      intro Hb5_5 lb5_5 hb5_5
      have hb0_0 := PAt.mono lb5_5 hb0_0
      have h5_0 := PAt.mono lb5_5 h5_0
      have h5_1 := Sl.mono lb5_5 h5_1
      have h5_3 := PAt.mono lb5_5 h5_3
      have h5_4 := Rp.mono lb5_5 h5_4
      refine a_en [(1, .pointer (some ⟨b0_0, 0, none⟩)), (4, .int .i64 yj3_4), (5, .pointer (some ⟨b5_5, 0, none⟩))] ?_
      refine a_own [] (by decide) (L' := []) rfl ?_
      refine a_then ?_
      refine a_seq ?_
      obtain ⟨s_j6, hs_j6, hm_j6⟩ := bind_some hm
      refine a_join (fun a_ w_ => ∃ (yj6_3 : Bool), yj6_3 = s_j6 ∧ Ag 109 [] [(1, .pointer (some ⟨b0_0, 0, none⟩)), (3, .bool yj6_3), (4, .int .i64 yj3_4), (5, .pointer (some ⟨b5_5, 0, none⟩))] a_ ∧ St (Kp.mk w H noX) Hb5_5 [] w_) ?_ ?_
      · have hm := hs_j6
        refine a_region rfl ?_
        have h6_0 := TunnelPart.at_Damp hb5_5
        refine ap (y_fieldAddr fo64_1 rfl) ?_
        obtain ⟨u6_1, h6_1, c6_1⟩ := PAt.one h6_0
        refine ap (y_load_cells ty32 rfl (fun _ h => h.sub) rfl c6_1 (Rp.len h6_1)) ?_
        obtain ⟨x6_2, q6_2, hm⟩ := bind_some hm
        refine a_cons (e_callV (all := [.agg u6_1.toArray, .int .i64 0, .int .i64 20]) (v := .bool x6_2) trivial rfl Tryd.func87 rfl rfl rfl rfl rfl (fun w hw => ok_87 hw h6_1 q6_2) ?_)
        refine ap (y_move rfl) ?_
        rcases Bool.eq_false_or_eq_true (x6_2) with k6_4 | k6_4
        · have hm := cond_t k6_4 hm
          have h6_4 := TunnelPart.at_Damp hb5_5
          refine ag ⟨_, _, rfl, rfl, k6_4⟩ (y_fieldAddr fo64_1 rfl) ?_
          have h6_5 := Span.at_High h6_4
          refine ag ⟨_, _, rfl, rfl, k6_4⟩ (y_fieldAddr fo32_1 rfl) ?_
          refine ag ⟨_, _, rfl, rfl, k6_4⟩ (y_load_int ty3 rfl (fun _ h => h.sub) rfl h6_5) ?_
          have h6_7 := TunnelPart.at_Damp hb5_5
          refine ag ⟨_, _, rfl, rfl, k6_4⟩ (y_fieldAddr fo64_1 rfl) ?_
          have h6_8 := Span.at_Low h6_7
          refine ag ⟨_, _, rfl, rfl, k6_4⟩ (y_fieldAddr fo32_0 rfl) ?_
          refine ag ⟨_, _, rfl, rfl, k6_4⟩ (y_load_int ty3 rfl (fun _ h => h.sub) rfl h6_8) ?_
          refine ag ⟨_, _, rfl, rfl, k6_4⟩ (y_sub rfl rfl) ?_
          refine ag ⟨_, _, rfl, rfl, k6_4⟩ (y_leq rfl rfl) ?_
          refine ap (y_pick_t rfl k6_4 rfl) ?_
          refine ap (y_assign rfl) ?_
          refine a_nil ?_
          refine a_en [(1, .pointer (some ⟨b0_0, 0, none⟩)), (3, .bool (decide ((IntKind.i64.wrap (x5_3.Damp.High - x5_3.Damp.Low)) ≤ 3))), (4, .int .i64 yj3_4), (5, .pointer (some ⟨b5_5, 0, none⟩)), (44, .pointer (some ⟨b5_5, 0 + 4, none⟩)), (45, .pointer (some ⟨b5_5, 0 + 4 + 1, none⟩)), (46, .int .i64 x5_3.Damp.High), (47, .pointer (some ⟨b5_5, 0 + 4, none⟩)), (48, .pointer (some ⟨b5_5, 0 + 4 + 0, none⟩)), (49, .int .i64 x5_3.Damp.Low), (50, .int .i64 (IntKind.i64.wrap (x5_3.Damp.High - x5_3.Damp.Low))), (51, .bool (decide ((IntKind.i64.wrap (x5_3.Damp.High - x5_3.Damp.Low)) ≤ 3)))] ?_
          refine a_cut ?_
          intro a_ w_ ha_ hs_
          exact ⟨decide ((IntKind.i64.wrap (x5_3.Damp.High - x5_3.Damp.Low)) ≤ 3), Option.some.inj hm, ha_.weaken ⟨rfl, rfl, rfl, rfl, trivial⟩, hs_.reix [] (by decide)⟩
        have hm := cond_f k6_4 hm
        refine as1 (sk1 rfl rfl k6_4) ?_
        refine as1 (sk1 rfl rfl k6_4) ?_
        refine as1 (sk1 rfl rfl k6_4) ?_
        refine as1 (sk1 rfl rfl k6_4) ?_
        refine as1 (sk1 rfl rfl k6_4) ?_
        refine as1 (sk1 rfl rfl k6_4) ?_
        refine as1 (sk1 rfl rfl k6_4) ?_
        refine as1 (sk1 rfl rfl k6_4) ?_
        refine ap (y_pick_f rfl k6_4 rfl) ?_
        refine ap (y_assign rfl) ?_
        refine a_nil ?_
        refine a_en [(1, .pointer (some ⟨b0_0, 0, none⟩)), (3, .bool false), (4, .int .i64 yj3_4), (5, .pointer (some ⟨b5_5, 0, none⟩)), (44, undef), (45, undef), (46, undef), (47, undef), (48, undef), (49, undef), (50, undef), (51, undef)] ?_
        refine a_cut ?_
        intro a_ w_ ha_ hs_
        exact ⟨false, Option.some.inj hm, ha_.weaken ⟨rfl, rfl, rfl, rfl, trivial⟩, hs_.reix [] (by decide)⟩
      have hm := hm_j6
      rintro a_ w_ ⟨yj6_3, rfl, ha_, hs_⟩
      try dsimp only at hm
      refine a_start ha_ hs_ ?_
      refine a_then ?_
      refine a_seq ?_
      refine a_region rfl ?_
      refine ap (y_assign rfl) ?_
      refine a_nil ?_
      refine a_then ?_
      obtain ⟨s_j7, hs_j7, hm_j7⟩ := bind_some hm
      refine a_join (fun a_ w_ => ∃ (yj7_3 : Bool), yj7_3 = s_j7 ∧ Ag 109 [] [(1, .pointer (some ⟨b0_0, 0, none⟩)), (3, .bool yj7_3), (4, .int .i64 yj3_4)] a_ ∧ St (Kp.mk w H noX) Hb5_5 [] w_) ?_ ?_
      · have hm := hs_j7
        refine a_block ?_
        refine a_loop (fun n_j8 a_ w_ => ∃ (yj8_3 : Bool), ∃ (yj8_6 : Int), law03_sound_lj8 k x5_3 n_j8 yj8_3 yj8_6 = some s_j7 ∧ Ag 109 [] [(1, .pointer (some ⟨b0_0, 0, none⟩)), (3, .bool yj8_3), (4, .int .i64 yj3_4), (5, .pointer (some ⟨b5_5, 0, none⟩)), (6, .int .i64 yj8_6)] a_ ∧ St (Kp.mk w H noX) Hb5_5 [] w_) k ?_ ?_
        · intro a_ w_ ha_ hs_
          exact ⟨yj6_3, 0, hm, ha_.weaken ⟨rfl, rfl, rfl, rfl, rfl, trivial⟩, hs_.reix [] (by decide)⟩
        rintro (_ | n_j8) a_ w_ ⟨yj8_3, yj8_6, hm, ha_, hs_⟩
        · rw [law03_sound_lj8.eq_1] at hm; cases hm
        rw [law03_sound_lj8.eq_2] at hm
        refine a_start ha_ hs_ ?_
        refine a_seq ?_
        refine a_seq ?_
        refine a_region rfl ?_
        refine ap (y_move rfl) ?_
        refine ap (y_leq rfl rfl) ?_
        refine a_nil ?_
        refine a_en [(1, .pointer (some ⟨b0_0, 0, none⟩)), (3, .bool yj8_3), (4, .int .i64 yj3_4), (5, .pointer (some ⟨b5_5, 0, none⟩)), (6, .int .i64 yj8_6), (54, .bool (decide (yj8_6 ≤ 3)))] ?_
        refine a_then ?_
        refine a_cond rfl (fun k_9 => ?_) (fun k_9 => ?_)
        · have hm := cond_t k_9 hm
          refine a_skip ?_
          refine a_then ?_
          refine a_seq ?_
          refine a_block ?_
          obtain ⟨s_j10, hs_j10, hm_j10⟩ := bind_some hm
          refine a_join (fun a_ w_ => ∃ (yj10_3 : Bool), yj10_3 = s_j10 ∧ Ag 109 [] [(1, .pointer (some ⟨b0_0, 0, none⟩)), (3, .bool yj10_3), (4, .int .i64 yj3_4), (5, .pointer (some ⟨b5_5, 0, none⟩)), (6, .int .i64 yj8_6)] a_ ∧ St (Kp.mk w H noX) Hb5_5 [] w_) ?_ ?_
          · have hm := hs_j10
            refine a_region rfl ?_
            refine ap (y_move rfl) ?_
            refine ap (y_move rfl) ?_
            rcases Bool.eq_false_or_eq_true (yj8_3) with k10_2 | k10_2
            · have hm := cond_t k10_2 hm
              refine ag ⟨_, _, rfl, rfl, k10_2⟩ (y_move rfl) ?_
              have h10_3 := TunnelPart.at_Heat hb5_5
              refine ag ⟨_, _, rfl, rfl, k10_2⟩ (y_fieldAddr fo64_0 rfl) ?_
              obtain ⟨x10_4, q10_4, hm⟩ := bind_some hm
              have h10_4 := PAt.arrZ 1 rfl h10_3 q10_4
              have k10_4 := PAt.arrIn h10_3 q10_4
              refine ag ⟨_, _, rfl, rfl, k10_2⟩ (y_index_arrp Tryd.underlying62 ty3 rfl rfl k10_4) ?_
              refine ag ⟨_, _, rfl, rfl, k10_2⟩ (y_load_int ty3 rfl (fun _ h => h.sub) rfl h10_4) ?_
              obtain ⟨x10_6, q10_6, hm⟩ := bind_some hm
              refine a_cons (e_callV (all := [.int .i64 x10_4, .int .i64 0, .int .i64 20]) (v := .bool x10_6) ⟨_, _, rfl, rfl, k10_2⟩ rfl Tryd.func50 rfl rfl rfl rfl rfl (fun w hw => ok_50 hw q10_6) ?_)
              refine ap (y_pick_t rfl k10_2 rfl) ?_
              refine ap (y_assign rfl) ?_
              refine a_nil ?_
              refine a_en [(1, .pointer (some ⟨b0_0, 0, none⟩)), (3, .bool x10_6), (4, .int .i64 yj3_4), (5, .pointer (some ⟨b5_5, 0, none⟩)), (6, .int .i64 yj8_6), (59, .int .i64 yj8_6), (60, .pointer (some ⟨b5_5, 0 + 0, none⟩)), (61, .pointer (some ⟨b5_5, 0 + 0 + (yj8_6).toNat * 1, none⟩)), (62, .int .i64 x10_4), (63, .bool x10_6)] ?_
              refine a_cut ?_
              intro a_ w_ ha_ hs_
              exact ⟨x10_6, Option.some.inj hm, ha_.weaken ⟨rfl, rfl, rfl, rfl, rfl, trivial⟩, hs_.reix [] (by decide)⟩
            have hm := cond_f k10_2 hm
            refine as1 (sk1 rfl rfl k10_2) ?_
            refine as1 (sk1 rfl rfl k10_2) ?_
            refine as1 (sk1 rfl rfl k10_2) ?_
            refine as1 (sk1 rfl rfl k10_2) ?_
            refine as1 (sk1 rfl rfl k10_2) ?_
            refine ap (y_pick_f rfl k10_2 rfl) ?_
            refine ap (y_assign rfl) ?_
            refine a_nil ?_
            refine a_en [(1, .pointer (some ⟨b0_0, 0, none⟩)), (3, .bool false), (4, .int .i64 yj3_4), (5, .pointer (some ⟨b5_5, 0, none⟩)), (6, .int .i64 yj8_6), (59, undef), (60, undef), (61, undef), (62, undef), (63, undef)] ?_
            refine a_cut ?_
            intro a_ w_ ha_ hs_
            exact ⟨false, Option.some.inj hm, ha_.weaken ⟨rfl, rfl, rfl, rfl, rfl, trivial⟩, hs_.reix [] (by decide)⟩
          have hm := hm_j10
          rintro a_ w_ ⟨yj10_3, rfl, ha_, hs_⟩
          try dsimp only at hm
          refine a_start ha_ hs_ ?_
          refine a_block_normal ?_
          refine a_then ?_
          refine a_region rfl ?_
          refine ap (y_move rfl) ?_
          refine ap (y_add rfl rfl) ?_
          refine ap (y_assign rfl) ?_
          refine a_nil ?_
          refine a_en [(1, .pointer (some ⟨b0_0, 0, none⟩)), (3, .bool yj10_3), (4, .int .i64 yj3_4), (5, .pointer (some ⟨b5_5, 0, none⟩)), (6, .int .i64 (IntKind.i64.wrap (yj8_6 + 1)))] ?_
          refine a_then ?_
          intro a_ w_ ha_ hs_
          exact ⟨n_j8, Nat.lt_succ_self _, yj10_3, IntKind.i64.wrap (yj8_6 + 1), hm, ha_.weaken ⟨rfl, rfl, rfl, rfl, rfl, trivial⟩, hs_.reix [] (by decide)⟩
        have hm := cond_f k_9 hm
        refine a_exit ?_
        refine a_then_exit ?_
        refine a_then_exit ?_
        refine a_block_hit ?_
        refine a_cut ?_
        intro a_ w_ ha_ hs_
        exact ⟨yj8_3, Option.some.inj hm, ha_.weaken ⟨rfl, rfl, rfl, trivial⟩, hs_.reix [] (by decide)⟩
      have hm := hm_j7
      rintro a_ w_ ⟨yj7_3, rfl, ha_, hs_⟩
      try dsimp only at hm
      refine a_start ha_ hs_ ?_
      refine a_block_normal ?_
      refine a_then ?_
      refine a_region rfl ?_
      refine ap (y_move rfl) ?_
      refine ap (y_add rfl rfl) ?_
      refine ap (y_assign rfl) ?_
      refine a_nil ?_
      refine a_en [(1, .pointer (some ⟨b0_0, 0, none⟩)), (3, .bool yj7_3), (4, .int .i64 (IntKind.i64.wrap (yj3_4 + 1)))] ?_
      refine a_then ?_
      intro a_ w_ ha_ hs_
      exact ⟨n_j3, Nat.lt_succ_self _, Hb5_5, (lj3.trans lb5_5), yj7_3, IntKind.i64.wrap (yj3_4 + 1), hm, ha_.weaken ⟨rfl, rfl, rfl, trivial⟩, hs_.reix [] (by decide)⟩
    have hm := cond_f k_5 hm
    refine a_exit ?_
    refine a_then_exit ?_
    refine a_then_exit ?_
    refine a_block_hit ?_
    refine a_cut ?_
    intro a_ w_ ha_ hs_
    exact ⟨Hj3, lj3, yj3_3, Option.some.inj hm, ha_.weaken ⟨rfl, rfl, trivial⟩, hs_.reix [] (by decide)⟩
  have hm := hm_j2
  rintro a_ w_ ⟨Hj2, lj2, yj2_3, rfl, ha_, hs_⟩
  try dsimp only at hm
  refine a_start ha_ hs_ ?_
  have hb0_0 := PAt.mono lj2 hb0_0
  refine a_then ?_
  refine a_seq ?_
  refine a_seq ?_
  refine a_region rfl ?_
  refine ap (y_assign rfl) ?_
  refine a_nil ?_
  refine a_then ?_
  obtain ⟨s_j11, hs_j11, hm_j11⟩ := bind_some hm
  refine a_join (fun a_ w_ => ∃ (Hj11 : Hp), ∃ (_ : HLe Hj2 Hj11), ∃ (yj11_3 : Bool), yj11_3 = s_j11 ∧ Ag 109 [] [(3, .bool yj11_3)] a_ ∧ St (Kp.mk w H noX) Hj11 [] w_) ?_ ?_
  · have hm := hs_j11
    refine a_block ?_
    refine a_loop (fun n_j12 a_ w_ => ∃ (Hj12 : Hp), ∃ (_ : HLe Hj2 Hj12), ∃ (yj12_3 : Bool), ∃ (yj12_7 : Int), law03_sound_lj12 k p0 n_j12 yj12_3 yj12_7 = some s_j11 ∧ Ag 109 [] [(1, .pointer (some ⟨b0_0, 0, none⟩)), (3, .bool yj12_3), (7, .int .i64 yj12_7)] a_ ∧ St (Kp.mk w H noX) Hj12 [] w_) k ?_ ?_
    · intro a_ w_ ha_ hs_
      exact ⟨Hj2, (HLe.refl _), yj2_3, 0, hm, ha_.weaken ⟨rfl, rfl, rfl, trivial⟩, hs_.reix [] (by decide)⟩
    rintro (_ | n_j12) a_ w_ ⟨Hj12, lj12, yj12_3, yj12_7, hm, ha_, hs_⟩
    · rw [law03_sound_lj12.eq_1] at hm; cases hm
    rw [law03_sound_lj12.eq_2] at hm
    refine a_start ha_ hs_ ?_
    have hb0_0 := PAt.mono lj12 hb0_0
    refine a_seq ?_
    refine a_seq ?_
    obtain ⟨s_j13, hs_j13, hm_j13⟩ := bind_some hm
    refine a_join (fun a_ w_ => ∃ (yj13_72 : Bool), yj13_72 = s_j13 ∧ Ag 109 [] [(1, .pointer (some ⟨b0_0, 0, none⟩)), (3, .bool yj12_3), (7, .int .i64 yj12_7), (72, .bool yj13_72)] a_ ∧ St (Kp.mk w H noX) Hj12 [] w_) ?_ ?_
    · have hm := hs_j13
      refine a_region rfl ?_
      refine ap (y_move rfl) ?_
      refine ap (y_move rfl) ?_
      rcases Bool.eq_false_or_eq_true (yj12_3) with k12_2 | k12_2
      · have hm := cond_t k12_2 hm
        refine ag ⟨_, _, rfl, rfl, k12_2⟩ (y_move rfl) ?_
        have h12_3 := TunnelBook.at_Frames hb0_0
        refine ag ⟨_, _, rfl, rfl, k12_2⟩ (y_fieldAddr fo25_1 rfl) ?_
        obtain ⟨v12_4, h12_4, c12_4⟩ := PAt.sl h12_3
        refine ag ⟨_, _, rfl, rfl, k12_2⟩ (y_load_one ty23 rfl (fun _ h => h.sub) rfl c12_4) ?_
        refine ag ⟨_, _, rfl, rfl, k12_2⟩ (y_len_sl Tryd.underlying23 rfl h12_4) ?_
        refine ag ⟨_, _, rfl, rfl, k12_2⟩ (y_lss rfl rfl) ?_
        refine ap (y_pick_t rfl k12_2 rfl) ?_
        refine a_nil ?_
        refine a_en [(1, .pointer (some ⟨b0_0, 0, none⟩)), (3, .bool yj12_3), (7, .int .i64 yj12_7), (67, .int .i64 yj12_7), (68, .pointer (some ⟨b0_0, 0 + 1, none⟩)), (69, v12_4), (70, .int .i64 (p0.Frames.length : Int)), (71, .bool (decide (yj12_7 < (p0.Frames.length : Int)))), (72, .bool (decide (yj12_7 < (p0.Frames.length : Int))))] ?_
        refine a_cut ?_
        intro a_ w_ ha_ hs_
        exact ⟨decide (yj12_7 < (p0.Frames.length : Int)), Option.some.inj hm, ha_.weaken ⟨rfl, rfl, rfl, rfl, trivial⟩, hs_.reix [] (by decide)⟩
      have hm := cond_f k12_2 hm
      refine as1 (sk1 rfl rfl k12_2) ?_
      refine as1 (sk1 rfl rfl k12_2) ?_
      refine as1 (sk1 rfl rfl k12_2) ?_
      refine as1 (sk1 rfl rfl k12_2) ?_
      refine as1 (sk1 rfl rfl k12_2) ?_
      refine ap (y_pick_f rfl k12_2 rfl) ?_
      refine a_nil ?_
      refine a_en [(1, .pointer (some ⟨b0_0, 0, none⟩)), (3, .bool yj12_3), (7, .int .i64 yj12_7), (67, undef), (68, undef), (69, undef), (70, undef), (71, undef), (72, .bool false)] ?_
      refine a_cut ?_
      intro a_ w_ ha_ hs_
      exact ⟨false, Option.some.inj hm, ha_.weaken ⟨rfl, rfl, rfl, rfl, trivial⟩, hs_.reix [] (by decide)⟩
    have hm := hm_j13
    rintro a_ w_ ⟨yj13_72, rfl, ha_, hs_⟩
    try dsimp only at hm
    refine a_start ha_ hs_ ?_
    refine a_then ?_
    refine a_cond rfl (fun k_14 => ?_) (fun k_14 => ?_)
    · have hm := cond_t k_14 hm
      refine a_skip ?_
      refine a_then ?_
      refine a_seq ?_
      refine a_block ?_
      refine a_seq ?_
      refine a_region rfl ?_
      have h14_0 := TunnelBook.at_Frames hb0_0
      refine ap (y_fieldAddr fo25_1 rfl) ?_
      obtain ⟨v14_1, h14_1, c14_1⟩ := PAt.sl h14_0
      refine ap (y_load_one ty23 rfl (fun _ h => h.sub) rfl c14_1) ?_
      refine ap (y_move rfl) ?_
      obtain ⟨x14_3, q14_3, hm⟩ := bind_some hm
      obtain ⟨b14_3, o14_3, c14_3, e14_3, h14_3⟩ := Sl.elemZ 3 rfl h14_1 q14_3
      refine ap (y_index Tryd.underlying23 ty55 rfl e14_3 rfl (nth_in q14_3)) ?_
      obtain ⟨u14_4, h14_4, c14_4⟩ := PAt.one h14_3
      refine ap (y_load_cells ty55 rfl (fun _ h => h.sub) rfl c14_4 (Rp.len h14_4)) ?_
      refine a_cons (e_alloc (cs := [.slice none 0 0, .int .i64 0, .int .i64 0]) trivial rfl ty55 rfl ?_)
      intro b14_5
      refine a_cons (e_storeWhole (i := 0) (ds := u14_4) trivial ty55 rfl rfl rfl rfl (Rp.len h14_4) ((Rp.one h14_4)) rfl ?_)
      refine a_nil ?_
      refine a_freeze (α := TunnelFrame) (x := x14_3) (i := 0) rfl h14_4 ?_
      intro Hb14_5 lb14_5 hb14_5
      have hb0_0 := PAt.mono lb14_5 hb0_0
      have h14_0 := PAt.mono lb14_5 h14_0
      have h14_1 := Sl.mono lb14_5 h14_1
      have h14_3 := PAt.mono lb14_5 h14_3
      have h14_4 := Rp.mono lb14_5 h14_4
      refine a_en [(1, .pointer (some ⟨b0_0, 0, none⟩)), (7, .int .i64 yj12_7), (8, .pointer (some ⟨b14_5, 0, none⟩))] ?_
      refine a_own [] (by decide) (L' := []) rfl ?_
      refine a_then ?_
      refine a_seq ?_
      obtain ⟨s_j15, hs_j15, hm_j15⟩ := bind_some hm
      refine a_join (fun a_ w_ => ∃ (yj15_3 : Bool), yj15_3 = s_j15 ∧ Ag 109 [] [(1, .pointer (some ⟨b0_0, 0, none⟩)), (3, .bool yj15_3), (7, .int .i64 yj12_7), (8, .pointer (some ⟨b14_5, 0, none⟩))] a_ ∧ St (Kp.mk w H noX) Hb14_5 [] w_) ?_ ?_
      · have hm := hs_j15
        refine a_region rfl ?_
        have h15_0 := TunnelFrame.at_Stay hb14_5
        refine ap (y_fieldAddr fo55_0 rfl) ?_
        obtain ⟨v15_1, h15_1, c15_1⟩ := PAt.sl h15_0
        refine ap (y_load_one ty26 rfl (fun _ h => h.sub) rfl c15_1) ?_
        refine ap (y_len_sl Tryd.underlying26 rfl h15_1) ?_
        have h15_3 := TunnelBook.at_Parts hb0_0
        refine ap (y_fieldAddr fo25_0 rfl) ?_
        obtain ⟨v15_4, h15_4, c15_4⟩ := PAt.sl h15_3
        refine ap (y_load_one ty22 rfl (fun _ h => h.sub) rfl c15_4) ?_
        refine ap (y_len_sl Tryd.underlying22 rfl h15_4) ?_
        refine ap (y_eql rfl rfl) ?_
        refine ap (y_move rfl) ?_
        rcases Bool.eq_false_or_eq_true ((x14_3.Stay.length : Int) == (p0.Parts.length : Int)) with k15_8 | k15_8
        · have hm := cond_t k15_8 hm
          have h15_8 := TunnelFrame.at_Need hb14_5
          refine ag ⟨_, _, rfl, rfl, k15_8⟩ (y_fieldAddr fo55_1 rfl) ?_
          obtain ⟨u15_9, h15_9, c15_9⟩ := PAt.one h15_8
          refine ag ⟨_, _, rfl, rfl, k15_8⟩ (y_load_cells ty32 rfl (fun _ h => h.sub) rfl c15_9 (Rp.len h15_9)) ?_
          obtain ⟨x15_10, q15_10, hm⟩ := bind_some hm
          refine a_cons (e_callV (all := [.agg u15_9.toArray, .int .i64 0, .int .i64 999]) (v := .bool x15_10) ⟨_, _, rfl, rfl, k15_8⟩ rfl Tryd.func87 rfl rfl rfl rfl rfl (fun w hw => ok_87 hw h15_9 q15_10) ?_)
          refine ap (y_pick_t rfl k15_8 rfl) ?_
          refine ap (y_assign rfl) ?_
          refine a_nil ?_
          refine a_en [(1, .pointer (some ⟨b0_0, 0, none⟩)), (3, .bool x15_10), (7, .int .i64 yj12_7), (8, .pointer (some ⟨b14_5, 0, none⟩)), (88, .pointer (some ⟨b14_5, 0 + 1, none⟩)), (89, .agg u15_9.toArray), (90, .bool x15_10)] ?_
          refine a_cut ?_
          intro a_ w_ ha_ hs_
          exact ⟨x15_10, Option.some.inj hm, ha_.weaken ⟨rfl, rfl, rfl, rfl, trivial⟩, hs_.reix [] (by decide)⟩
        have hm := cond_f k15_8 hm
        refine as1 (sk1 rfl rfl k15_8) ?_
        refine as1 (sk1 rfl rfl k15_8) ?_
        refine as1 (sk1 rfl rfl k15_8) ?_
        refine ap (y_pick_f rfl k15_8 rfl) ?_
        refine ap (y_assign rfl) ?_
        refine a_nil ?_
        refine a_en [(1, .pointer (some ⟨b0_0, 0, none⟩)), (3, .bool false), (7, .int .i64 yj12_7), (8, .pointer (some ⟨b14_5, 0, none⟩)), (88, undef), (89, undef), (90, undef)] ?_
        refine a_cut ?_
        intro a_ w_ ha_ hs_
        exact ⟨false, Option.some.inj hm, ha_.weaken ⟨rfl, rfl, rfl, rfl, trivial⟩, hs_.reix [] (by decide)⟩
      have hm := hm_j15
      rintro a_ w_ ⟨yj15_3, rfl, ha_, hs_⟩
      try dsimp only at hm
      refine a_start ha_ hs_ ?_
      refine a_then ?_
      refine a_seq ?_
      refine a_region rfl ?_
      refine ap (y_assign rfl) ?_
      refine a_nil ?_
      refine a_then ?_
      obtain ⟨s_j16, hs_j16, hm_j16⟩ := bind_some hm
      refine a_join (fun a_ w_ => ∃ (yj16_3 : Bool), yj16_3 = s_j16 ∧ Ag 109 [] [(1, .pointer (some ⟨b0_0, 0, none⟩)), (3, .bool yj16_3), (7, .int .i64 yj12_7)] a_ ∧ St (Kp.mk w H noX) Hb14_5 [] w_) ?_ ?_
      · have hm := hs_j16
        refine a_block ?_
        refine a_loop (fun n_j17 a_ w_ => ∃ (yj17_3 : Bool), ∃ (yj17_9 : Int), law03_sound_lj17 k x14_3 n_j17 yj17_3 yj17_9 = some s_j16 ∧ Ag 109 [] [(1, .pointer (some ⟨b0_0, 0, none⟩)), (3, .bool yj17_3), (7, .int .i64 yj12_7), (8, .pointer (some ⟨b14_5, 0, none⟩)), (9, .int .i64 yj17_9)] a_ ∧ St (Kp.mk w H noX) Hb14_5 [] w_) k ?_ ?_
        · intro a_ w_ ha_ hs_
          exact ⟨yj15_3, 0, hm, ha_.weaken ⟨rfl, rfl, rfl, rfl, rfl, trivial⟩, hs_.reix [] (by decide)⟩
        rintro (_ | n_j17) a_ w_ ⟨yj17_3, yj17_9, hm, ha_, hs_⟩
        · rw [law03_sound_lj17.eq_1] at hm; cases hm
        rw [law03_sound_lj17.eq_2] at hm
        refine a_start ha_ hs_ ?_
        refine a_seq ?_
        refine a_seq ?_
        obtain ⟨s_j18, hs_j18, hm_j18⟩ := bind_some hm
        refine a_join (fun a_ w_ => ∃ (yj18_99 : Bool), yj18_99 = s_j18 ∧ Ag 109 [] [(1, .pointer (some ⟨b0_0, 0, none⟩)), (3, .bool yj17_3), (7, .int .i64 yj12_7), (8, .pointer (some ⟨b14_5, 0, none⟩)), (9, .int .i64 yj17_9), (99, .bool yj18_99)] a_ ∧ St (Kp.mk w H noX) Hb14_5 [] w_) ?_ ?_
        · have hm := hs_j18
          refine a_region rfl ?_
          refine ap (y_move rfl) ?_
          refine ap (y_move rfl) ?_
          rcases Bool.eq_false_or_eq_true (yj17_3) with k17_2 | k17_2
          · have hm := cond_t k17_2 hm
            refine ag ⟨_, _, rfl, rfl, k17_2⟩ (y_move rfl) ?_
            have h17_3 := TunnelFrame.at_Stay hb14_5
            refine ag ⟨_, _, rfl, rfl, k17_2⟩ (y_fieldAddr fo55_0 rfl) ?_
            obtain ⟨v17_4, h17_4, c17_4⟩ := PAt.sl h17_3
            refine ag ⟨_, _, rfl, rfl, k17_2⟩ (y_load_one ty26 rfl (fun _ h => h.sub) rfl c17_4) ?_
            refine ag ⟨_, _, rfl, rfl, k17_2⟩ (y_len_sl Tryd.underlying26 rfl h17_4) ?_
            refine ag ⟨_, _, rfl, rfl, k17_2⟩ (y_lss rfl rfl) ?_
            refine ap (y_pick_t rfl k17_2 rfl) ?_
            refine a_nil ?_
            refine a_en [(1, .pointer (some ⟨b0_0, 0, none⟩)), (3, .bool yj17_3), (7, .int .i64 yj12_7), (8, .pointer (some ⟨b14_5, 0, none⟩)), (9, .int .i64 yj17_9), (94, .int .i64 yj17_9), (95, .pointer (some ⟨b14_5, 0 + 0, none⟩)), (96, v17_4), (97, .int .i64 (x14_3.Stay.length : Int)), (98, .bool (decide (yj17_9 < (x14_3.Stay.length : Int)))), (99, .bool (decide (yj17_9 < (x14_3.Stay.length : Int))))] ?_
            refine a_cut ?_
            intro a_ w_ ha_ hs_
            exact ⟨decide (yj17_9 < (x14_3.Stay.length : Int)), Option.some.inj hm, ha_.weaken ⟨rfl, rfl, rfl, rfl, rfl, rfl, trivial⟩, hs_.reix [] (by decide)⟩
          have hm := cond_f k17_2 hm
          refine as1 (sk1 rfl rfl k17_2) ?_
          refine as1 (sk1 rfl rfl k17_2) ?_
          refine as1 (sk1 rfl rfl k17_2) ?_
          refine as1 (sk1 rfl rfl k17_2) ?_
          refine as1 (sk1 rfl rfl k17_2) ?_
          refine ap (y_pick_f rfl k17_2 rfl) ?_
          refine a_nil ?_
          refine a_en [(1, .pointer (some ⟨b0_0, 0, none⟩)), (3, .bool yj17_3), (7, .int .i64 yj12_7), (8, .pointer (some ⟨b14_5, 0, none⟩)), (9, .int .i64 yj17_9), (94, undef), (95, undef), (96, undef), (97, undef), (98, undef), (99, .bool false)] ?_
          refine a_cut ?_
          intro a_ w_ ha_ hs_
          exact ⟨false, Option.some.inj hm, ha_.weaken ⟨rfl, rfl, rfl, rfl, rfl, rfl, trivial⟩, hs_.reix [] (by decide)⟩
        have hm := hm_j18
        rintro a_ w_ ⟨yj18_99, rfl, ha_, hs_⟩
        try dsimp only at hm
        refine a_start ha_ hs_ ?_
        refine a_then ?_
        refine a_cond rfl (fun k_19 => ?_) (fun k_19 => ?_)
        · have hm := cond_t k_19 hm
          refine a_skip ?_
          refine a_then ?_
          refine a_seq ?_
          refine a_block ?_
          refine a_region rfl ?_
          have h19_0 := TunnelFrame.at_Stay hb14_5
          refine ap (y_fieldAddr fo55_0 rfl) ?_
          obtain ⟨v19_1, h19_1, c19_1⟩ := PAt.sl h19_0
          refine ap (y_load_one ty26 rfl (fun _ h => h.sub) rfl c19_1) ?_
          refine ap (y_move rfl) ?_
          obtain ⟨x19_3, q19_3, hm⟩ := bind_some hm
          obtain ⟨b19_3, o19_3, c19_3, e19_3, h19_3⟩ := Sl.elemZ 1 rfl h19_1 q19_3
          refine ap (y_index Tryd.underlying26 ty3 rfl e19_3 rfl (nth_in q19_3)) ?_
          refine ap (y_load_int ty3 rfl (fun _ h => h.sub) rfl h19_3) ?_
          obtain ⟨x19_5, q19_5, hm⟩ := bind_some hm
          refine a_cons (e_callV (all := [.int .i64 x19_3, .int .i64 0, .int .i64 20]) (v := .bool x19_5) trivial rfl Tryd.func50 rfl rfl rfl rfl rfl (fun w hw => ok_50 hw q19_5) ?_)
          refine ap (y_assign rfl) ?_
          refine a_nil ?_
          refine a_en [(1, .pointer (some ⟨b0_0, 0, none⟩)), (3, .bool x19_5), (7, .int .i64 yj12_7), (8, .pointer (some ⟨b14_5, 0, none⟩)), (9, .int .i64 yj17_9)] ?_
          refine a_block_normal ?_
          refine a_then ?_
          refine a_region rfl ?_
          refine ap (y_move rfl) ?_
          refine ap (y_add rfl rfl) ?_
          refine ap (y_assign rfl) ?_
          refine a_nil ?_
          refine a_en [(1, .pointer (some ⟨b0_0, 0, none⟩)), (3, .bool x19_5), (7, .int .i64 yj12_7), (8, .pointer (some ⟨b14_5, 0, none⟩)), (9, .int .i64 (IntKind.i64.wrap (yj17_9 + 1)))] ?_
          refine a_then ?_
          intro a_ w_ ha_ hs_
          exact ⟨n_j17, Nat.lt_succ_self _, x19_5, IntKind.i64.wrap (yj17_9 + 1), hm, ha_.weaken ⟨rfl, rfl, rfl, rfl, rfl, trivial⟩, hs_.reix [] (by decide)⟩
        have hm := cond_f k_19 hm
        refine a_exit ?_
        refine a_then_exit ?_
        refine a_then_exit ?_
        refine a_block_hit ?_
        refine a_cut ?_
        intro a_ w_ ha_ hs_
        exact ⟨yj17_3, Option.some.inj hm, ha_.weaken ⟨rfl, rfl, rfl, trivial⟩, hs_.reix [] (by decide)⟩
      have hm := hm_j16
      rintro a_ w_ ⟨yj16_3, rfl, ha_, hs_⟩
      try dsimp only at hm
      refine a_start ha_ hs_ ?_
      refine a_block_normal ?_
      refine a_then ?_
      refine a_region rfl ?_
      refine ap (y_move rfl) ?_
      refine ap (y_add rfl rfl) ?_
      refine ap (y_assign rfl) ?_
      refine a_nil ?_
      refine a_en [(1, .pointer (some ⟨b0_0, 0, none⟩)), (3, .bool yj16_3), (7, .int .i64 (IntKind.i64.wrap (yj12_7 + 1)))] ?_
      refine a_then ?_
      intro a_ w_ ha_ hs_
      exact ⟨n_j12, Nat.lt_succ_self _, Hb14_5, (lj12.trans lb14_5), yj16_3, IntKind.i64.wrap (yj12_7 + 1), hm, ha_.weaken ⟨rfl, rfl, rfl, trivial⟩, hs_.reix [] (by decide)⟩
    have hm := cond_f k_14 hm
    refine a_exit ?_
    refine a_then_exit ?_
    refine a_then_exit ?_
    refine a_block_hit ?_
    refine a_cut ?_
    intro a_ w_ ha_ hs_
    exact ⟨Hj12, lj12, yj12_3, Option.some.inj hm, ha_.weaken ⟨rfl, trivial⟩, hs_.reix [] (by decide)⟩
  have hm := hm_j11
  rintro a_ w_ ⟨Hj11, lj11, yj11_3, rfl, ha_, hs_⟩
  try dsimp only at hm
  refine a_start ha_ hs_ ?_
  refine a_then ?_
  refine a_seq ?_
  refine a_region rfl ?_
  refine ap (y_move rfl) ?_
  refine ap (y_assign rfl) ?_
  refine a_nil ?_
  refine a_en [(2, .bool yj11_3)] ?_
  refine a_then ?_
  refine a_ret ?_
  refine a_done (v := .bool yj11_3) (.inl rfl) rfl ?_ ?_
  · intro a_ w_ ha_ hs_; exact run_results (P := Tryd.prog) (fn := Tryd.f43) (rs := [.tmp 2]) (vs := [.bool yj11_3]) rfl (.cons (rv_tmp ha_ rfl) (All2.nil))
  · intro _ _; obtain rfl := Option.some.inj hm
    rfl

def ref00_Spin (k : Nat) (p0 : Int) (p1 : Int) : Option Int :=
 bif decide (p1 < 1) then
 some (0)
 else
 (rem p0 p1).bind fun x3_2 =>
 bif decide (x3_2 < 0) then
 some ((IntKind.i64.wrap (x3_2 + p1)))
 else
 some (x3_2)
theorem ok_52 {k : Nat} {H : Hp} {w : World} {p0 : Int} {p1 : Int} {r : Int} (hsub : Sub H w)  (hm : ref00_Spin k p0 p1 = some r) : Calls Tryd.prog 52 [.int .i64 p0, .int .i64 p1].toArray w (PostV w H (.int .i64 r)) := by
  unfold ref00_Spin at hm
  refine start (n := 17) (E := [(0, .int .i64 p0), (1, .int .i64 p1)]) Tryd.func52 rfl rfl ⟨rfl, rfl, trivial⟩ rfl hsub ?_
  refine a_seq ?_
  refine a_region rfl ?_
  refine ap (y_assign rfl) ?_
  refine a_nil ?_
  refine a_en [(0, .int .i64 p0), (1, .int .i64 p1)] ?_
  refine a_then ?_
  refine a_seq ?_
  refine a_seq ?_
  refine a_region rfl ?_
  refine ap (y_move rfl) ?_
  refine ap (y_lss rfl rfl) ?_
  refine a_nil ?_
  refine a_en [(0, .int .i64 p0), (1, .int .i64 p1), (7, .bool (decide (p1 < 1)))] ?_
  refine a_then ?_
  refine a_cond rfl (fun k_1 => ?_) (fun k_1 => ?_)
  · have hm := cond_t k_1 hm
    refine a_seq ?_
    refine a_region rfl ?_
    refine ap (y_assign rfl) ?_
    refine a_nil ?_
    refine a_en [(4, .int .i64 0)] ?_
    refine a_then ?_
    refine a_ret ?_
    refine a_then_ret ?_
    refine a_done (v := .int .i64 0) (.inl rfl) rfl ?_ ?_
    · intro a_ w_ ha_ hs_; exact run_results (P := Tryd.prog) (fn := Tryd.f52) (rs := [.tmp 4]) (vs := [.int .i64 0]) rfl (.cons (rv_tmp ha_ rfl) (All2.nil))
    · intro _ _; obtain rfl := Option.some.inj hm
      rfl
  have hm := cond_f k_1 hm
  refine a_skip ?_
  refine a_then ?_
  refine a_seq ?_
  refine a_region rfl ?_
  refine ap (y_move rfl) ?_
  refine ap (y_move rfl) ?_
  obtain ⟨x3_2, q3_2, hm⟩ := bind_some hm
  refine ap (y_rem_some rfl rfl q3_2) ?_
  refine ap (y_assign rfl) ?_
  refine a_nil ?_
  refine a_en [(1, .int .i64 p1), (5, .int .i64 x3_2)] ?_
  refine a_then ?_
  refine a_seq ?_
  refine a_seq ?_
  refine a_region rfl ?_
  refine ap (y_move rfl) ?_
  refine ap (y_lss rfl rfl) ?_
  refine a_nil ?_
  refine a_en [(1, .int .i64 p1), (5, .int .i64 x3_2), (12, .bool (decide (x3_2 < 0)))] ?_
  refine a_then ?_
  refine a_cond rfl (fun k_2 => ?_) (fun k_2 => ?_)
  · have hm := cond_t k_2 hm
    refine a_region rfl ?_
    refine ap (y_move rfl) ?_
    refine ap (y_move rfl) ?_
    refine ap (y_add rfl rfl) ?_
    refine ap (y_assign rfl) ?_
    refine a_nil ?_
    refine a_en [(5, .int .i64 (IntKind.i64.wrap (x3_2 + p1)))] ?_
    refine a_then ?_
    refine a_seq ?_
    refine a_region rfl ?_
    refine ap (y_move rfl) ?_
    refine ap (y_assign rfl) ?_
    refine a_nil ?_
    refine a_en [(4, .int .i64 (IntKind.i64.wrap (x3_2 + p1)))] ?_
    refine a_then ?_
    refine a_ret ?_
    refine a_done (v := .int .i64 (IntKind.i64.wrap (x3_2 + p1))) (.inl rfl) rfl ?_ ?_
    · intro a_ w_ ha_ hs_; exact run_results (P := Tryd.prog) (fn := Tryd.f52) (rs := [.tmp 4]) (vs := [.int .i64 (IntKind.i64.wrap (x3_2 + p1))]) rfl (.cons (rv_tmp ha_ rfl) (All2.nil))
    · intro _ _; obtain rfl := Option.some.inj hm
      rfl
  have hm := cond_f k_2 hm
  refine a_skip ?_
  refine a_then ?_
  refine a_seq ?_
  refine a_region rfl ?_
  refine ap (y_move rfl) ?_
  refine ap (y_assign rfl) ?_
  refine a_nil ?_
  refine a_en [(4, .int .i64 x3_2)] ?_
  refine a_then ?_
  refine a_ret ?_
  refine a_done (v := .int .i64 x3_2) (.inl rfl) rfl ?_ ?_
  · intro a_ w_ ha_ hs_; exact run_results (P := Tryd.prog) (fn := Tryd.f52) (rs := [.tmp 4]) (vs := [.int .i64 x3_2]) rfl (.cons (rv_tmp ha_ rfl) (All2.nil))
  · intro _ _; obtain rfl := Option.some.inj hm
    rfl

def ref00_Item (k : Nat) (p0 : List Int) (p1 : Int) : Option Int :=
 bif (p0.length : Int) == 0 then
 some (0)
 else
 (ref00_Spin k p1 (p0.length : Int)).bind fun x3_4 =>
 (nth p0 x3_4).bind fun x3_5 =>
 some (x3_5)
theorem ok_57 {k : Nat} {H : Hp} {w : World} {p0 : List Int} {p1 : Int} {v0 : Value} {r : Int} (hsub : Sub H w) (h0 : Sl (α := Int) H v0 p0) (hm : ref00_Item k p0 p1 = some r) : Calls Tryd.prog 57 [v0, .int .i64 p1].toArray w (PostV w H (.int .i64 r)) := by
  unfold ref00_Item at hm
  refine start (n := 15) (E := [(0, v0), (1, .int .i64 p1)]) Tryd.func57 rfl rfl ⟨rfl, rfl, trivial⟩ rfl hsub ?_
  refine a_seq ?_
  refine a_region rfl ?_
  refine ap (y_assign rfl) ?_
  refine a_nil ?_
  refine a_en [(0, v0), (1, .int .i64 p1)] ?_
  refine a_then ?_
  refine a_seq ?_
  refine a_seq ?_
  refine a_region rfl ?_
  refine ap (y_move rfl) ?_
  refine ap (y_len_sl Tryd.underlying26 rfl h0) ?_
  refine ap (y_eql rfl rfl) ?_
  refine a_nil ?_
  refine a_en [(0, v0), (1, .int .i64 p1), (7, .bool ((p0.length : Int) == 0))] ?_
  refine a_then ?_
  refine a_cond rfl (fun k_1 => ?_) (fun k_1 => ?_)
  · have hm := cond_t k_1 hm
    refine a_seq ?_
    refine a_region rfl ?_
    refine ap (y_assign rfl) ?_
    refine a_nil ?_
    refine a_en [(4, .int .i64 0)] ?_
    refine a_then ?_
    refine a_ret ?_
    refine a_then_ret ?_
    refine a_done (v := .int .i64 0) (.inl rfl) rfl ?_ ?_
    · intro a_ w_ ha_ hs_; exact run_results (P := Tryd.prog) (fn := Tryd.f57) (rs := [.tmp 4]) (vs := [.int .i64 0]) rfl (.cons (rv_tmp ha_ rfl) (All2.nil))
    · intro _ _; obtain rfl := Option.some.inj hm
      rfl
  have hm := cond_f k_1 hm
  refine a_skip ?_
  refine a_then ?_
  refine a_seq ?_
  refine a_region rfl ?_
  refine ap (y_move rfl) ?_
  refine ap (y_move rfl) ?_
  refine ap (y_move rfl) ?_
  refine ap (y_len_sl Tryd.underlying26 rfl h0) ?_
  obtain ⟨x3_4, q3_4, hm⟩ := bind_some hm
  refine a_cons (e_callV (all := [.int .i64 p1, .int .i64 (p0.length : Int)]) (v := .int .i64 x3_4) trivial rfl Tryd.func52 rfl rfl rfl rfl rfl (fun w hw => ok_52 hw q3_4) ?_)
  obtain ⟨x3_5, q3_5, hm⟩ := bind_some hm
  obtain ⟨b3_5, o3_5, c3_5, e3_5, h3_5⟩ := Sl.elemZ 1 rfl h0 q3_5
  refine ap (y_index Tryd.underlying26 ty3 rfl e3_5 rfl (nth_in q3_5)) ?_
  refine ap (y_load_int ty3 rfl (fun _ h => h.sub) rfl h3_5) ?_
  refine ap (y_assign rfl) ?_
  refine a_nil ?_
  refine a_en [(4, .int .i64 x3_5)] ?_
  refine a_then ?_
  refine a_ret ?_
  refine a_done (v := .int .i64 x3_5) (.inl rfl) rfl ?_ ?_
  · intro a_ w_ ha_ hs_; exact run_results (P := Tryd.prog) (fn := Tryd.f57) (rs := [.tmp 4]) (vs := [.int .i64 x3_5]) rfl (.cons (rv_tmp ha_ rfl) (All2.nil))
  · intro _ _; obtain rfl := Option.some.inj hm
    rfl

def law03_setting_lj2 (k : Nat) (p0 : TunnelBook) (p1 : List Int) : Nat → (List Int) → Int → Option (List Int)
 | 0, _, _ => none
 | n_j2 + 1, yj2_5, yj2_6 =>
 bif decide (yj2_6 < (p0.Parts.length : Int)) then
 (ref00_Item k p1 yj2_6).bind fun x5_3 =>
 (ref00_Spin k x5_3 4).bind fun x5_4 =>
 (app yj2_5 [x5_4]).bind fun x5_6 =>
 law03_setting_lj2 k p0 p1 n_j2 x5_6 (IntKind.i64.wrap (yj2_6 + 1))
 else
 some (yj2_5)
def law03_setting (k : Nat) (p0 : TunnelBook) (p1 : List Int) : Option (List Int) :=
 (law03_setting_lj2 k p0 p1 k ([] : List Int) 0).bind fun yj1_5 =>
 some (yj1_5)
theorem ok_45 {k : Nat} {H : Hp} {w : World} {p0 : TunnelBook} {p1 : List Int} {c0 : List Value} {v1 : Value} {r : List Int} (hsub : Sub H w) (h0 : Rp.rep (α := TunnelBook) H c0 p0) (h1 : Sl (α := Int) H v1 p1) (hm : law03_setting k p0 p1 = some r) : Calls Tryd.prog 45 [.agg c0.toArray, v1].toArray w (PostH w H fun v H' => ∃ v0, v = v0 ∧ Sl (α := Int) H' v0 r) := by
  unfold law03_setting at hm
  refine start (n := 22) (E := [(0, .agg c0.toArray), (1, v1)]) Tryd.func45 rfl rfl ⟨rfl, rfl, trivial⟩ rfl hsub ?_
  refine a_seq ?_
  refine a_region rfl ?_
  refine a_cons (e_box (cs := c0) trivial rfl rfl rfl ?_)
  intro b0_0
  refine ap (y_assign rfl) ?_
  refine a_nil ?_
  refine a_freeze (α := TunnelBook) (x := p0) (i := 0) rfl h0 ?_
  intro Hb0_0 lb0_0 hb0_0
  have h0 := Rp.mono lb0_0 h0
  have h1 := Sl.mono lb0_0 h1
  refine a_en [(1, v1), (2, .pointer (some ⟨b0_0, 0, none⟩))] ?_
  refine a_own [] (by decide) (L' := []) rfl ?_
  refine a_then ?_
  refine a_seq ?_
  refine a_region rfl ?_
  refine ap (y_assign rfl) ?_
  refine a_nil ?_
  refine a_then ?_
  refine a_seq ?_
  refine a_seq ?_
  refine a_region rfl ?_
  refine ap (y_assign rfl) ?_
  refine a_nil ?_
  refine a_then ?_
  obtain ⟨s_j1, hs_j1, hm_j1⟩ := bind_some hm
  refine a_join (fun a_ w_ => ∃ (yj1_5 : List Int), ∃ (vj1_5 : Value), ∃ (uj1_5 : List Value), yj1_5 = s_j1 ∧ RepL (α := Int) Hb0_0 uj1_5 yj1_5 ∧ Ag 22 [] [(5, vj1_5)] a_ ∧ St (Kp.mk w H noX) Hb0_0 [.row vj1_5 uj1_5 3 1] w_) ?_ ?_
  · have hm := hs_j1
    refine a_block ?_
    refine a_loop (fun n_j2 a_ w_ => ∃ (yj2_5 : List Int), ∃ (yj2_6 : Int), ∃ (vj2_5 : Value), ∃ (uj2_5 : List Value), law03_setting_lj2 k p0 p1 n_j2 yj2_5 yj2_6 = some s_j1 ∧ RepL (α := Int) Hb0_0 uj2_5 yj2_5 ∧ Ag 22 [] [(1, v1), (2, .pointer (some ⟨b0_0, 0, none⟩)), (5, vj2_5), (6, .int .i64 yj2_6)] a_ ∧ St (Kp.mk w H noX) Hb0_0 [.row vj2_5 uj2_5 3 1] w_) k ?_ ?_
    · refine a_nilrow (x := none) (T := 3) (sz := 1) ?_
      have hzrj2_5 : RepL (α := Int) Hb0_0 [] [] := RepL.nil
      intro a_ w_ ha_ hs_
      exact ⟨([] : List Int), 0, .slice none 0 0, [], hm, hzrj2_5, ha_.weaken ⟨rfl, rfl, rfl, rfl, trivial⟩, hs_.reix [0] (by decide)⟩
    rintro (_ | n_j2) a_ w_ ⟨yj2_5, yj2_6, vj2_5, uj2_5, hm, hj2_5, ha_, hs_⟩
    · rw [law03_setting_lj2.eq_1] at hm; cases hm
    rw [law03_setting_lj2.eq_2] at hm
    refine a_start ha_ hs_ ?_
    refine a_seq ?_
    refine a_seq ?_
    refine a_region rfl ?_
    refine ap (y_move rfl) ?_
    have h3_1 := TunnelBook.at_Parts hb0_0
    refine ap (y_fieldAddr fo25_0 rfl) ?_
    obtain ⟨v3_2, h3_2, c3_2⟩ := PAt.sl h3_1
    refine ap (y_load_one ty22 rfl (fun _ h => h.sub) rfl c3_2) ?_
    refine ap (y_len_sl Tryd.underlying22 rfl h3_2) ?_
    refine ap (y_lss rfl rfl) ?_
    refine a_nil ?_
    refine a_en [(1, v1), (2, .pointer (some ⟨b0_0, 0, none⟩)), (5, vj2_5), (6, .int .i64 yj2_6), (11, .bool (decide (yj2_6 < (p0.Parts.length : Int))))] ?_
    refine a_then ?_
    refine a_cond rfl (fun k_3 => ?_) (fun k_3 => ?_)
    · have hm := cond_t k_3 hm
      refine a_skip ?_
      refine a_then ?_
      refine a_seq ?_
      refine a_block ?_
      refine a_region rfl ?_
      refine ap (y_move rfl) ?_
      refine ap (y_move rfl) ?_
      refine ap (y_move rfl) ?_
      obtain ⟨x5_3, q5_3, hm⟩ := bind_some hm
      refine a_cons (e_callV (all := [v1, .int .i64 yj2_6]) (v := .int .i64 x5_3) trivial rfl Tryd.func57 rfl rfl rfl rfl rfl (fun w hw => ok_57 hw h1 q5_3) ?_)
      obtain ⟨x5_4, q5_4, hm⟩ := bind_some hm
      refine a_cons (e_callV (all := [.int .i64 x5_3, .int .i64 4]) (v := .int .i64 x5_4) trivial rfl Tryd.func52 rfl rfl rfl rfl rfl (fun w hw => ok_52 hw q5_4) ?_)
      refine a_cons (e_buildSlice (xs := [.tmp 18]) (cs := [.int .i64 x5_4]) trivial rfl Tryd.underlying26 ty3 rfl rfl rfl (by simp [Value.cells]) rfl (rfl) ?_)
      intro v5_5
      have h5_5 : RepL (α := Int) Hb0_0 ([.int .i64 x5_4]) [x5_4] := (RepL.cons (α := Int) (c := [.int .i64 x5_4]) rfl (RepL.nil (α := Int)))
      obtain ⟨x5_6, q5_6, hm⟩ := bind_some hm
      refine a_cons (e_app_row (i := 1) (j := 0) trivial rfl Tryd.underlying26 Tryd.underlying26 ty3 rfl rfl rfl rfl rfl rfl rfl rfl hj2_5 rfl h5_5 q5_6 ?_)
      intro v5_6 u5_6 h5_6
      refine ap (y_assign rfl) ?_
      refine a_nil ?_
      refine a_en [(1, v1), (2, .pointer (some ⟨b0_0, 0, none⟩)), (5, v5_6), (6, .int .i64 yj2_6)] ?_
      refine a_own [1] (by decide) (L' := [.row v5_6 u5_6 3 1]) rfl ?_
      refine a_block_normal ?_
      refine a_then ?_
      refine a_region rfl ?_
      refine ap (y_move rfl) ?_
      refine ap (y_add rfl rfl) ?_
      refine ap (y_assign rfl) ?_
      refine a_nil ?_
      refine a_en [(1, v1), (2, .pointer (some ⟨b0_0, 0, none⟩)), (5, v5_6), (6, .int .i64 (IntKind.i64.wrap (yj2_6 + 1)))] ?_
      refine a_then ?_
      intro a_ w_ ha_ hs_
      exact ⟨n_j2, Nat.lt_succ_self _, x5_6, IntKind.i64.wrap (yj2_6 + 1), v5_6, u5_6, hm, h5_6, ha_.weaken ⟨rfl, rfl, rfl, rfl, trivial⟩, hs_.reix [0] (by decide)⟩
    have hm := cond_f k_3 hm
    refine a_exit ?_
    refine a_then_exit ?_
    refine a_then_exit ?_
    refine a_block_hit ?_
    refine a_cut ?_
    intro a_ w_ ha_ hs_
    exact ⟨yj2_5, vj2_5, uj2_5, Option.some.inj hm, hj2_5, ha_.weaken ⟨rfl, trivial⟩, hs_.reix [0] (by decide)⟩
  have hm := hm_j1
  rintro a_ w_ ⟨yj1_5, vj1_5, uj1_5, rfl, hj1_5, ha_, hs_⟩
  try dsimp only at hm
  refine a_start ha_ hs_ ?_
  refine a_then ?_
  refine a_seq ?_
  refine a_region rfl ?_
  refine ap (y_move rfl) ?_
  refine ap (y_assign rfl) ?_
  refine a_nil ?_
  refine a_en [(4, vj1_5)] ?_
  refine a_then ?_
  refine a_ret ?_
  refine a_frow (i := 0) rfl rfl hj1_5 rfl ?_
  intro Hef lef hef
  refine a_done (v := vj1_5) (.inl rfl) rfl ?_ ?_
  · intro a_ w_ ha_ hs_; exact run_results (P := Tryd.prog) (fn := Tryd.f45) (rs := [.tmp 4]) (vs := [vj1_5]) rfl (.cons (rv_tmp ha_ rfl) (All2.nil))
  · intro _ _; obtain rfl := Option.some.inj hm; exact ⟨vj1_5, rfl, hef⟩

def law03_stays (k : Nat) (p0 : TunnelBook) (p1 : Int) (p2 : Int) (p3 : Int) : Option TunnelBook :=
 (app ([] : List TunnelFrame) p0.Frames).bind fun x2_3 =>
 (nth p0.Frames p1).bind fun x3_7 =>
 (app ([] : List Int) x3_7.Stay).bind fun x3_10 =>
 (nth x2_3 p1).bind fun x3_11 =>
 (nth x2_3 p1).bind fun x4_3 =>
 (nth x3_10 p2).bind fun x4_8 =>
 some (((⟨p0.Parts, (x2_3).set (p1).toNat ((⟨(x3_10).set (p2).toNat p3, x3_11.Need⟩ : TunnelFrame))⟩ : TunnelBook)))
theorem ok_63 {k : Nat} {H : Hp} {w : World} {p0 : TunnelBook} {p1 : Int} {p2 : Int} {p3 : Int} {c0 : List Value} {r : TunnelBook} (hsub : Sub H w) (h0 : Rp.rep (α := TunnelBook) H c0 p0) (hm : law03_stays k p0 p1 p2 p3 = some r) : Calls Tryd.prog 63 [.agg c0.toArray, .int .i64 p1, .int .i64 p2, .int .i64 p3].toArray w (PostH w H fun v H' => ∃ c0, v = .agg c0.toArray ∧ Rp.rep (α := TunnelBook) H' c0 r) := by
  unfold law03_stays at hm
  refine start (n := 39) (E := [(0, .agg c0.toArray), (1, .int .i64 p1), (2, .int .i64 p2), (3, .int .i64 p3)]) Tryd.func63 rfl rfl ⟨rfl, rfl, rfl, rfl, trivial⟩ rfl hsub ?_
  refine a_seq ?_
  refine a_region rfl ?_
  refine a_cons (e_box (cs := c0) trivial rfl rfl rfl ?_)
  intro b0_0
  refine a_cons (e_alloc (cs := [.slice none 0 0, .slice none 0 0]) trivial rfl ty25 rfl ?_)
  intro b0_1
  refine a_nil ?_
  refine a_freeze (α := TunnelBook) (x := p0) (i := 1) rfl h0 ?_
  intro Hb0_0 lb0_0 hb0_0
  have h0 := Rp.mono lb0_0 h0
  refine a_en [(1, .int .i64 p1), (2, .int .i64 p2), (3, .int .i64 p3), (4, .pointer (some ⟨b0_0, 0, none⟩)), (8, .pointer (some ⟨b0_1, 0, none⟩))] ?_
  refine a_own [0] (by decide) (L' := [.box b0_1 [.slice none 0 0, .slice none 0 0] 25]) rfl ?_
  refine a_then ?_
  refine a_seq ?_
  refine a_region rfl ?_
  obtain ⟨u1_0, h1_0, c1_0⟩ := PAt.one hb0_0
  refine ap (y_load_cells ty25 rfl (fun _ h => h.sub) rfl c1_0 (Rp.len h1_0)) ?_
  refine a_cons (e_alloc (cs := [.slice none 0 0, .slice none 0 0]) trivial rfl ty25 rfl ?_)
  intro b1_1
  refine a_cons (e_storeWhole (i := 0) (ds := u1_0) trivial ty25 rfl rfl rfl rfl (Rp.len h1_0) ((Rp.one h1_0)) rfl ?_)
  refine a_nil ?_
  obtain ⟨v1o1_1_0, v1o1_1_1, rfl, h1o1_1_0, h1o1_1_1⟩ := TunnelBook.opened h1_0
  refine a_en [(1, .int .i64 p1), (2, .int .i64 p2), (3, .int .i64 p3), (4, .pointer (some ⟨b0_0, 0, none⟩)), (8, .pointer (some ⟨b0_1, 0, none⟩)), (9, .pointer (some ⟨b1_1, 0, none⟩))] ?_
  refine a_then ?_
  refine a_seq ?_
  refine a_region rfl ?_
  refine a_cons (e_buildSlice (xs := []) (cs := []) trivial rfl Tryd.underlying23 ty55 rfl rfl rfl (by simp [Value.cells]) rfl (rfl) ?_)
  intro v2_0
  have h2_0 : RepL (α := TunnelFrame) Hb0_0 ([]) [] := (RepL.nil (α := TunnelFrame))
  have h2_1 := TunnelBook.at_Frames hb0_0
  refine ap (y_fieldAddr fo25_1 rfl) ?_
  obtain ⟨v2_2, h2_2, c2_2⟩ := PAt.sl h2_1
  refine ap (y_load_one ty23 rfl (fun _ h => h.sub) rfl c2_2) ?_
  obtain ⟨x2_3, q2_3, hm⟩ := bind_some hm
  refine a_cons (e_app_sl (i := 0) trivial rfl Tryd.underlying23 Tryd.underlying23 ty55 rfl rfl rfl rfl rfl rfl rfl rfl h2_0 h2_2 q2_3 ?_)
  intro v2_3 u2_3 h2_3
  refine ap (y_fieldAddr fo25_1 rfl) ?_
  refine a_cons (e_storeLR (i := 1) (j := 0) (cs' := [v1o1_1_0, v2_3]) trivial ty23 rfl rfl rfl rfl (Nat.le_of_ble_eq_true rfl) rfl ?_)
  refine a_nil ?_
  refine a_en [(1, .int .i64 p1), (2, .int .i64 p2), (3, .int .i64 p3), (4, .pointer (some ⟨b0_0, 0, none⟩)), (8, .pointer (some ⟨b0_1, 0, none⟩)), (9, .pointer (some ⟨b1_1, 0, none⟩))] ?_
  refine a_then ?_
  refine a_seq ?_
  obtain ⟨x3_7, q3_7, hm⟩ := bind_some hm
  obtain ⟨x3_10, q3_10, hm⟩ := bind_some hm
  obtain ⟨x3_11, q3_11, hm⟩ := bind_some hm
  refine d_region (S := Sw Hb0_0 [.box b1_1 [v1o1_1_0, v2_3] 25, .box b0_1 [.slice none 0 0, .slice none 0 0] 25]) (n := 14) (listed := (bits 14 0)) mixed (by kernel_rfl) rfl (by kernel_rfl) ?_
  refine dt 0 1 rfl trivial (y_fieldAddr fo25_1 rfl) (sw0 [1, 2]) ?_
  refine dt 1 3 rfl trivial (y_load_box ty23 rfl (knows_sw (i := 0) rfl) rfl rfl) (sw0 [1, 2]) ?_
  refine dt 2 7 rfl trivial (y_move rfl) (sw0 [1, 2]) ?_
  have h3_4 := TunnelBook.at_Frames hb0_0
  refine dt 4 23 rfl trivial (y_fieldAddr fo25_1 rfl) (sw0 [1, 2]) ?_
  obtain ⟨v3_5, h3_5, c3_5⟩ := PAt.sl h3_4
  refine dt 5 55 rfl trivial (y_load_one ty23 rfl (fun _ h => h.1) rfl c3_5) (sw0 [1, 2]) ?_
  refine dt 6 119 rfl trivial (y_move rfl) (sw0 [1, 2]) ?_
  obtain ⟨b3_7, o3_7, c3_7, e3_7, h3_7⟩ := Sl.elemZ 3 rfl h3_5 q3_7
  refine dt 7 247 rfl trivial (y_index Tryd.underlying23 ty55 rfl e3_7 rfl (nth_in q3_7)) (sw0 [1, 2]) ?_
  have h3_8 := TunnelFrame.at_Stay h3_7
  refine dt 8 503 rfl trivial (y_fieldAddr fo55_0 rfl) (sw0 [1, 2]) ?_
  obtain ⟨v3_9, h3_9, c3_9⟩ := PAt.sl h3_8
  refine dt 9 1015 rfl trivial (y_load_one ty26 rfl (fun _ h => h.1) rfl c3_9) (sw0 [1, 2]) ?_
  refine d1 3 rfl (e_buildSlice (xs := []) (cs := []) trivial rfl Tryd.underlying26 ty3 rfl rfl rfl (by simp [Value.cells]) rfl (rfl) ?_)
  intro v3_3
  have h3_3 : RepL (α := Int) Hb0_0 ([]) [] := (RepL.nil (α := Int))
  refine dn 1023 (sw0 [2, 3]) ?_
  refine d1 10 rfl (e_app_sl (i := 0) trivial rfl Tryd.underlying26 Tryd.underlying26 ty3 rfl rfl rfl rfl rfl rfl rfl rfl h3_3 h3_9 q3_10 ?_)
  intro v3_10 u3_10 h3_10
  refine dn 2047 (sw0 [2, 3]) ?_
  refine a_rowplace (i := 1) rfl rfl rfl h2_3 q3_11 ?_
  rintro b3_11 c3_11 rfl
  refine d1 11 rfl (p_pure trivial rfl rfl (y_index Tryd.underlying23 ty55 rfl rfl rfl (nth_in q3_11)) ?_)
  refine dn 4095 (sw0 [2, 3]) ?_
  refine dt 12 8191 rfl trivial (y_fieldAddr fo55_0 rfl) (sw0 [2, 3]) ?_
  have hl3_13 : (0 + (p1).toNat * 3 + 0) + 1 ≤ (u2_3).length := by rw [RepL.len h2_3]; exact (PutL.at0 3 rfl q3_11 (TunnelFrame.put_Stay (s := x3_11) (Put.here (α := List Int) (H := Hb0_0) (ds := [.slice none 0 0]) (v := []) ⟨_, rfl, sl_nil _ none 0⟩))).le
  refine d1 13 rfl (e_storeRowP (i := 1) (j := 0) trivial ty26 rfl rfl rfl rfl (.inr trivial) hl3_13 ?_)
  rintro u3_13 hc3_13
  refine dn 16383 (sw0 [2, 3]) ?_
  refine d_done (by kernel_rfl) ?_
  refine a_en [(1, .int .i64 p1), (2, .int .i64 p2), (3, .int .i64 p3), (8, .pointer (some ⟨b0_1, 0, none⟩)), (9, .pointer (some ⟨b1_1, 0, none⟩))] ?_
  refine a_then ?_
  refine a_seq ?_
  refine a_region rfl ?_
  refine ap (y_fieldAddr fo25_1 rfl) ?_
  refine ap (y_load_box ty23 rfl (knows_box (i := 2) rfl) rfl rfl) ?_
  refine ap (y_move rfl) ?_
  obtain ⟨x4_3, q4_3, hm⟩ := bind_some hm
  refine ap (y_index Tryd.underlying23 ty55 rfl rfl rfl (nth_in q4_3)) ?_
  refine ap (y_fieldAddr fo55_0 rfl) ?_
  refine ap (y_load_row (i := 1) ty26 rfl rfl rfl (take_get' hc3_13 hl3_13)) ?_
  refine ap (y_move rfl) ?_
  refine ap (y_move rfl) ?_
  obtain ⟨x4_8, q4_8, hm⟩ := bind_some hm
  refine a_rowplace (i := 0) rfl rfl rfl h3_10 q4_8 ?_
  rintro b4_8 c4_8 rfl
  refine ap (y_index Tryd.underlying26 ty3 rfl rfl rfl (nth_in q4_8)) ?_
  refine a_cons (e_storeRow (α := Int) (i := 0) (ds := [.int .i64 p3]) (l' := (x3_10).set (p2).toNat p3) trivial ty3 rfl rfl rfl rfl rfl (cells_one_int _) rfl h3_10 (PutL.at00 1 rfl q4_8 rfl) ?_)
  intro u4_9 h4_9
  refine a_nil ?_
  refine a_en [(8, .pointer (some ⟨b0_1, 0, none⟩)), (9, .pointer (some ⟨b1_1, 0, none⟩))] ?_
  refine a_then ?_
  refine a_seq ?_
  refine a_region rfl ?_
  refine ap (y_load_boxagg ty25 rfl (knows_box (i := 2) rfl) rfl rfl rfl) ?_
  refine a_cons (e_storeWholeL (i := 3) (ds := [v1o1_1_0, .slice (some ⟨b3_11, 0, none⟩) (x2_3).length c3_11]) trivial ty25 rfl rfl rfl rfl rfl ⟨.inl (cells_one_sl h1o1_1_0 _ (by simp)), ⟨.inr ⟨_, _, _, List.mem_of_getElem? (i := 1) rfl⟩, trivial⟩⟩ rfl ?_)
  refine a_nil ?_
  refine a_en [(8, .pointer (some ⟨b0_1, 0, none⟩))] ?_
  refine a_own [0, 1, 3] (by decide) (L' := [.row (.slice (some ⟨b4_8, 0, none⟩) (x3_10).length c4_8) u4_9 3 1, .row (.slice (some ⟨b3_11, 0, none⟩) (x2_3).length c3_11) u3_13 55 3, .box b0_1 [v1o1_1_0, .slice (some ⟨b3_11, 0, none⟩) (x2_3).length c3_11] 25]) rfl ?_
  refine a_then ?_
  refine a_ret ?_
  refine a_frow (i := 0) rfl rfl h4_9 rfl ?_
  intro He8r2_3pf le8r2_3pf he8r2_3pf
  have h1o1_1_0 := Sl.mono le8r2_3pf h1o1_1_0
  have h2_3 := RepL.mono le8r2_3pf h2_3
  have hse8r2_3 : RepL (α := TunnelFrame) He8r2_3pf u3_13 ((x2_3).set (p1).toNat ((⟨(x3_10).set (p2).toNat p3, x3_11.Need⟩ : TunnelFrame))) := by rw [hc3_13]; exact (PutL.put (PutL.at0 3 rfl q3_11 (TunnelFrame.put_Stay (s := x3_11) (Put.here ⟨_, rfl, he8r2_3pf⟩))) _ h2_3)
  refine a_frow (i := 1) rfl rfl hse8r2_3 rfl ?_
  intro He8r2_3f le8r2_3f he8r2_3f
  have h1o1_1_0 := Sl.mono le8r2_3f h1o1_1_0
  have me8l : Rp.rep He8r2_3f [v1o1_1_0, .slice (some ⟨b3_11, 0, none⟩) (x2_3).length c3_11] (⟨p0.Parts, (x2_3).set (p1).toNat ((⟨(x3_10).set (p2).toNat p3, x3_11.Need⟩ : TunnelFrame))⟩ : TunnelBook) := ⟨_, _, rfl, ⟨_, rfl, h1o1_1_0⟩, ⟨_, rfl, he8r2_3f⟩⟩
  refine a_done (v := .agg [v1o1_1_0, .slice (some ⟨b3_11, 0, none⟩) (x2_3).length c3_11].toArray) (.inl rfl) rfl ?_ ?_
  · intro a_ w_ ha_ hs_; exact run_results (P := Tryd.prog) (fn := Tryd.f63) (rs := [.cell 8 25]) (vs := [.agg [v1o1_1_0, .slice (some ⟨b3_11, 0, none⟩) (x2_3).length c3_11].toArray]) rfl (.cons (rv_cell ha_ rfl (run_loadSt (i := 2) ty25 rfl hs_ rfl rfl)) (All2.nil))
  · intro _ _; obtain rfl := Option.some.inj hm; exact ⟨[v1o1_1_0, .slice (some ⟨b3_11, 0, none⟩) (x2_3).length c3_11], rfl, me8l⟩

def law03_TunnelLonger (k : Nat) (p0 : TunnelBook) (p1 : List Int) (p2 : List Int) : Option Bool :=
 ((law03_sound k p0).bind fun x1_1 =>
 bif !x1_1 then
 some (true)
 else
 some (((p0.Frames.length : Int) == 0))).bind fun yj1_24 =>
 bif yj1_24 then
 (law03_warmed k).bind fun x2_0 =>
 some (x2_0)
 else
 (law03_setting k p0 p1).bind fun x3_2 =>
 (nth p2 (0 : Int)).bind fun x3_3 =>
 (ref00_Spin k x3_3 (p0.Frames.length : Int)).bind fun x3_8 =>
 (nth p2 (1 : Int)).bind fun x3_9 =>
 (ref00_Spin k x3_9 (p0.Parts.length : Int)).bind fun x3_14 =>
 (tunnel_Longer k p0 x3_2 x3_8 x3_14).bind fun x4_4 =>
 (tunnel_Kind k p0 x3_2 x3_8).bind fun x5_3 =>
 (bif x5_3.2 != 0 then
 some (true)
 else
 bif (x4_4.2 == 4) != (x5_3.1 != 0) then
 some (true)
 else
 bif x4_4.2 != 0 then
 bif x4_4.2 != 4 then
 some (true)
 else
 some ((x4_4.1 != 0))
 else
 some (false)).bind fun yj3_76 =>
 bif yj3_76 then
 some (false)
 else
 bif x4_4.2 != 0 then
 (law03_warmed k).bind fun x9_0 =>
 some (x9_0)
 else
 (nth p0.Frames x3_8).bind fun x10_3 =>
 (nth x10_3.Stay x3_14).bind fun x10_7 =>
 (ref00_Fits k x4_4.1 0 (IntKind.i64.wrap (20 - x10_7))).bind fun x11_3 =>
 bif !x11_3 then
 some (false)
 else
 (law03_stays k p0 x3_8 x3_14 (IntKind.i64.wrap (x10_7 + x4_4.1))).bind fun x13_6 =>
 (tunnel_Kind k x13_6 x3_2 x3_8).bind fun x14_3 =>
 (bif x14_3.2 != 0 then
 some (true)
 else
 some ((x14_3.1 != 0))).bind fun yj7_113 =>
 bif yj7_113 then
 some (false)
 else
 bif (IntKind.i64.wrap (x10_7 + x4_4.1)) == 20 then
 (law03_warmed k).bind fun x18_0 =>
 some (x18_0)
 else
 (law03_stays k p0 x3_8 x3_14 (IntKind.i64.wrap ((IntKind.i64.wrap (x10_7 + x4_4.1)) + 1))).bind fun x19_7 =>
 (tunnel_Kind k x19_7 x3_2 x3_8).bind fun x19_10 =>
 (bif x19_10.2 == 0 then
 bif x19_10.1 != 0 then
 (law03_warmed k).bind fun x20_7 =>
 some (x20_7)
 else
 some (false)
 else
 some (false)).bind fun yj10_6 =>
 some (yj10_6)
theorem ok_12 {k : Nat} {H : Hp} {w : World} {p0 : TunnelBook} {p1 : List Int} {p2 : List Int} {c0 : List Value} {v1 : Value} {c2 : List Value} {r : Bool} (hsub : Sub H w) (h0 : Rp.rep (α := TunnelBook) H c0 p0) (h1 : Sl (α := Int) H v1 p1) (h2 : Rp.rep (α := Arr 2 Int) H c2 p2) (hg : Glob H) (hm : law03_TunnelLonger k p0 p1 p2 = some r) : Calls Tryd.prog 12 [.agg c0.toArray, v1, .agg c2.toArray].toArray w (PostV w H (.bool r)) := by
  unfold law03_TunnelLonger at hm
  refine start (n := 142) (E := [(0, .agg c0.toArray), (1, v1), (2, .agg c2.toArray)]) Tryd.func12 rfl rfl ⟨rfl, rfl, rfl, trivial⟩ rfl hsub ?_
  refine a_seq ?_
  refine a_region rfl ?_
  refine a_cons (e_box (cs := c0) trivial rfl rfl rfl ?_)
  intro b0_0
  refine a_cons (e_box (cs := c2) trivial rfl rfl rfl ?_)
  intro b0_1
  refine ap (y_assign rfl) ?_
  refine a_nil ?_
  refine a_freeze (α := Arr 2 Int) (x := p2) (i := 0) rfl h2 ?_
  intro Hb0_1 lb0_1 hb0_1
  have h0 := Rp.mono lb0_1 h0
  have h1 := Sl.mono lb0_1 h1
  have h2 := Rp.mono lb0_1 h2
  have hg := Glob.mono lb0_1 hg
  refine a_freeze (α := TunnelBook) (x := p0) (i := 1) rfl h0 ?_
  intro Hb0_0 lb0_0 hb0_0
  have h0 := Rp.mono lb0_0 h0
  have h1 := Sl.mono lb0_0 h1
  have h2 := Rp.mono lb0_0 h2
  have hb0_1 := PAt.mono lb0_0 hb0_1
  have hg := Glob.mono lb0_0 hg
  refine a_en [(1, v1), (3, .pointer (some ⟨b0_0, 0, none⟩)), (5, .pointer (some ⟨b0_1, 0, none⟩))] ?_
  refine a_own [] (by decide) (L' := []) rfl ?_
  refine a_then ?_
  refine a_seq ?_
  refine a_seq ?_
  obtain ⟨s_j1, hs_j1, hm_j1⟩ := bind_some hm
  refine a_join (fun a_ w_ => ∃ (yj1_24 : Bool), yj1_24 = s_j1 ∧ Ag 142 [] [(1, v1), (3, .pointer (some ⟨b0_0, 0, none⟩)), (5, .pointer (some ⟨b0_1, 0, none⟩)), (24, .bool yj1_24)] a_ ∧ St (Kp.mk w H noX) Hb0_0 [] w_) ?_ ?_
  · have hm := hs_j1
    refine a_region rfl ?_
    obtain ⟨u1_0, h1_0, c1_0⟩ := PAt.one hb0_0
    refine ap (y_load_cells ty25 rfl (fun _ h => h.sub) rfl c1_0 (Rp.len h1_0)) ?_
    obtain ⟨x1_1, q1_1, hm⟩ := bind_some hm
    refine a_cons (e_callV (all := [.agg u1_0.toArray]) (v := .bool x1_1) trivial rfl Tryd.func43 rfl rfl rfl rfl rfl (fun w hw => ok_43 hw h1_0 q1_1) ?_)
    refine ap (y_not rfl) ?_
    refine ap (y_move rfl) ?_
    rcases Bool.eq_false_or_eq_true (!x1_1) with k1_4 | k1_4
    · have hm := cond_t k1_4 hm
      refine as1 (sk1 rfl rfl k1_4) ?_
      refine as1 (sk1 rfl rfl k1_4) ?_
      refine as1 (sk1 rfl rfl k1_4) ?_
      refine as1 (sk1 rfl rfl k1_4) ?_
      refine ap (y_pick_t rfl k1_4 rfl) ?_
      refine a_nil ?_
      refine a_en [(1, v1), (3, .pointer (some ⟨b0_0, 0, none⟩)), (5, .pointer (some ⟨b0_1, 0, none⟩)), (24, .bool true)] ?_
      refine a_cut ?_
      intro a_ w_ ha_ hs_
      exact ⟨true, Option.some.inj hm, ha_.weaken ⟨rfl, rfl, rfl, rfl, trivial⟩, hs_.reix [] (by decide)⟩
    have hm := cond_f k1_4 hm
    have h1_4 := TunnelBook.at_Frames hb0_0
    refine ag ⟨_, _, rfl, rfl, k1_4⟩ (y_fieldAddr fo25_1 rfl) ?_
    obtain ⟨v1_5, h1_5, c1_5⟩ := PAt.sl h1_4
    refine ag ⟨_, _, rfl, rfl, k1_4⟩ (y_load_one ty23 rfl (fun _ h => h.sub) rfl c1_5) ?_
    refine ag ⟨_, _, rfl, rfl, k1_4⟩ (y_len_sl Tryd.underlying23 rfl h1_5) ?_
    refine ag ⟨_, _, rfl, rfl, k1_4⟩ (y_eql rfl rfl) ?_
    refine ap (y_pick_f rfl k1_4 rfl) ?_
    refine a_nil ?_
    refine a_en [(1, v1), (3, .pointer (some ⟨b0_0, 0, none⟩)), (5, .pointer (some ⟨b0_1, 0, none⟩)), (24, .bool ((p0.Frames.length : Int) == 0))] ?_
    refine a_cut ?_
    intro a_ w_ ha_ hs_
    exact ⟨(p0.Frames.length : Int) == 0, Option.some.inj hm, ha_.weaken ⟨rfl, rfl, rfl, rfl, trivial⟩, hs_.reix [] (by decide)⟩
  have hm := hm_j1
  rintro a_ w_ ⟨yj1_24, rfl, ha_, hs_⟩
  try dsimp only at hm
  refine a_start ha_ hs_ ?_
  refine a_then ?_
  refine a_cond rfl (fun k_2 => ?_) (fun k_2 => ?_)
  · have hm := cond_t k_2 hm
    refine a_seq ?_
    refine a_region rfl ?_
    obtain ⟨x2_0, q2_0, hm⟩ := bind_some hm
    refine a_cons (e_callV (all := []) (v := .bool x2_0) trivial rfl Tryd.func30 rfl rfl rfl rfl rfl (fun w hw => ok_30 hw hg q2_0) ?_)
    refine ap (y_assign rfl) ?_
    refine a_nil ?_
    refine a_en [(6, .bool x2_0)] ?_
    refine a_then ?_
    refine a_ret ?_
    refine a_then_ret ?_
    refine a_done (v := .bool x2_0) (.inl rfl) rfl ?_ ?_
    · intro a_ w_ ha_ hs_; exact run_results (P := Tryd.prog) (fn := Tryd.f12) (rs := [.tmp 6]) (vs := [.bool x2_0]) rfl (.cons (rv_tmp ha_ rfl) (All2.nil))
    · intro _ _; obtain rfl := Option.some.inj hm
      rfl
  have hm := cond_f k_2 hm
  refine a_skip ?_
  refine a_then ?_
  refine a_seq ?_
  obtain ⟨x3_2, q3_2, hm⟩ := bind_some hm
  obtain ⟨x3_3, q3_3, hm⟩ := bind_some hm
  obtain ⟨x3_8, q3_8, hm⟩ := bind_some hm
  obtain ⟨x3_9, q3_9, hm⟩ := bind_some hm
  obtain ⟨x3_14, q3_14, hm⟩ := bind_some hm
  refine d_region (S := Sw Hb0_0 []) (n := 18) (listed := (bits 18 0)) mixed (by kernel_rfl) rfl (by kernel_rfl) ?_
  obtain ⟨u3_0, h3_0, c3_0⟩ := PAt.one hb0_0
  refine dt 0 1 rfl trivial (y_load_cells ty25 rfl (fun _ h => h.1) rfl c3_0 (Rp.len h3_0)) (sw0 []) ?_
  refine dt 1 3 rfl trivial (y_move rfl) (sw0 []) ?_
  have h3_3 := PAt.arrZ 1 rfl hb0_1 q3_3
  have k3_3 := PAt.arrIn hb0_1 q3_3
  refine dt 3 11 rfl trivial (y_index_arrp Tryd.underlying47 ty3 rfl rfl k3_3) (sw0 []) ?_
  refine dt 4 27 rfl trivial (y_load_int ty3 rfl (fun _ h => h.1) rfl h3_3) (sw0 []) ?_
  have h3_5 := TunnelBook.at_Frames hb0_0
  refine dt 5 59 rfl trivial (y_fieldAddr fo25_1 rfl) (sw0 []) ?_
  obtain ⟨v3_6, h3_6, c3_6⟩ := PAt.sl h3_5
  refine dt 6 123 rfl trivial (y_load_one ty23 rfl (fun _ h => h.1) rfl c3_6) (sw0 []) ?_
  refine dt 7 251 rfl trivial (y_len_sl Tryd.underlying23 rfl h3_6) (sw0 []) ?_
  have h3_9 := PAt.arrZ 1 rfl hb0_1 q3_9
  have k3_9 := PAt.arrIn hb0_1 q3_9
  refine dt 9 763 rfl trivial (y_index_arrp Tryd.underlying47 ty3 rfl rfl k3_9) (sw0 []) ?_
  refine dt 10 1787 rfl trivial (y_load_int ty3 rfl (fun _ h => h.1) rfl h3_9) (sw0 []) ?_
  have h3_11 := TunnelBook.at_Parts hb0_0
  refine dt 11 3835 rfl trivial (y_fieldAddr fo25_0 rfl) (sw0 []) ?_
  obtain ⟨v3_12, h3_12, c3_12⟩ := PAt.sl h3_11
  refine dt 12 7931 rfl trivial (y_load_one ty22 rfl (fun _ h => h.1) rfl c3_12) (sw0 []) ?_
  refine dt 13 16123 rfl trivial (y_len_sl Tryd.underlying22 rfl h3_12) (sw0 []) ?_
  refine d1 2 rfl (e_callH (all := [.agg u3_0.toArray, v1]) trivial rfl Tryd.func45 rfl rfl rfl rfl rfl (fun w hw => ok_45 hw h3_0 h1 q3_2) ?_)
  rintro v3_2r0 H3_2 l3_2 ⟨_, rfl, h3_2r0⟩
  have h1 := Sl.mono l3_2 h1
  have hb0_0 := PAt.mono l3_2 hb0_0
  have hb0_1 := PAt.mono l3_2 hb0_1
  have h3_0 := Rp.mono l3_2 h3_0
  have h3_3 := PAt.mono l3_2 h3_3
  have h3_5 := PAt.mono l3_2 h3_5
  have h3_6 := Sl.mono l3_2 h3_6
  have h3_9 := PAt.mono l3_2 h3_9
  have h3_11 := PAt.mono l3_2 h3_11
  have h3_12 := Sl.mono l3_2 h3_12
  have hg := Glob.mono l3_2 hg
  refine dn 16127 (swl l3_2 []) ?_
  refine d1 8 rfl (e_callV (all := [.int .i64 x3_3, .int .i64 (p0.Frames.length : Int)]) (v := .int .i64 x3_8) trivial rfl Tryd.func52 rfl rfl rfl rfl rfl (fun w hw => ok_52 hw q3_8) ?_)
  refine dn 16383 (swl l3_2 []) ?_
  refine d1 14 rfl (e_callV (all := [.int .i64 x3_9, .int .i64 (p0.Parts.length : Int)]) (v := .int .i64 x3_14) trivial rfl Tryd.func52 rfl rfl rfl rfl rfl (fun w hw => ok_52 hw q3_14) ?_)
  refine dn 32767 (swl l3_2 []) ?_
  refine d_weaken (S' := Sw H3_2 []) (sw_sw l3_2 [] rfl) ?_
  refine dt 15 65535 rfl trivial (y_assign rfl) (sw0 []) ?_
  refine dt 16 131071 rfl trivial (y_assign rfl) (sw0 []) ?_
  refine dt 17 262143 rfl trivial (y_assign rfl) (sw0 []) ?_
  refine d_done (by kernel_rfl) ?_
  refine a_en [(3, .pointer (some ⟨b0_0, 0, none⟩)), (7, v3_2r0), (8, .int .i64 x3_8), (9, .int .i64 x3_14)] ?_
  refine a_then ?_
  refine a_seq ?_
  refine a_region rfl ?_
  obtain ⟨u4_0, h4_0, c4_0⟩ := PAt.one hb0_0
  refine ap (y_load_cells ty25 rfl (fun _ h => h.sub) rfl c4_0 (Rp.len h4_0)) ?_
  refine ap (y_move rfl) ?_
  refine ap (y_move rfl) ?_
  refine ap (y_move rfl) ?_
  obtain ⟨x4_4, q4_4, hm⟩ := bind_some hm
  refine a_cons (e_callV (all := [.agg u4_0.toArray, v3_2r0, .int .i64 x3_8, .int .i64 x3_14]) (v := .tuple #[.int .i64 x4_4.1, .int .i64 x4_4.2]) trivial rfl Tryd.func39 rfl rfl rfl rfl rfl (fun w hw => ok_39 hw h4_0 h3_2r0 hg q4_4) ?_)
  refine ap (y_move rfl) ?_
  refine ap (y_extract rfl rfl) ?_
  refine ap (y_extract rfl rfl) ?_
  refine ap (y_assign rfl) ?_
  refine ap (y_assign rfl) ?_
  refine a_nil ?_
  refine a_en [(3, .pointer (some ⟨b0_0, 0, none⟩)), (7, v3_2r0), (8, .int .i64 x3_8), (9, .int .i64 x3_14), (10, .int .i64 x4_4.1), (11, .int .i64 x4_4.2)] ?_
  refine a_then ?_
  refine a_seq ?_
  refine a_region rfl ?_
  obtain ⟨u5_0, h5_0, c5_0⟩ := PAt.one hb0_0
  refine ap (y_load_cells ty25 rfl (fun _ h => h.sub) rfl c5_0 (Rp.len h5_0)) ?_
  refine ap (y_move rfl) ?_
  refine ap (y_move rfl) ?_
  obtain ⟨x5_3, q5_3, hm⟩ := bind_some hm
  refine a_cons (e_callV (all := [.agg u5_0.toArray, v3_2r0, .int .i64 x3_8]) (v := .tuple #[.int .i64 x5_3.1, .int .i64 x5_3.2]) trivial rfl Tryd.func25 rfl rfl rfl rfl rfl (fun w hw => ok_25 hw h5_0 h3_2r0 hg q5_3) ?_)
  refine ap (y_move rfl) ?_
  refine ap (y_extract rfl rfl) ?_
  refine ap (y_extract rfl rfl) ?_
  refine ap (y_assign rfl) ?_
  refine ap (y_assign rfl) ?_
  refine a_nil ?_
  refine a_en [(3, .pointer (some ⟨b0_0, 0, none⟩)), (7, v3_2r0), (8, .int .i64 x3_8), (9, .int .i64 x3_14), (10, .int .i64 x4_4.1), (11, .int .i64 x4_4.2), (12, .int .i64 x5_3.1), (13, .int .i64 x5_3.2)] ?_
  refine a_then ?_
  refine a_seq ?_
  refine a_seq ?_
  obtain ⟨s_j3, hs_j3, hm_j3⟩ := bind_some hm
  refine a_join (fun a_ w_ => ∃ (yj3_76 : Bool), yj3_76 = s_j3 ∧ Ag 142 [] [(3, .pointer (some ⟨b0_0, 0, none⟩)), (7, v3_2r0), (8, .int .i64 x3_8), (9, .int .i64 x3_14), (10, .int .i64 x4_4.1), (11, .int .i64 x4_4.2), (76, .bool yj3_76)] a_ ∧ St (Kp.mk w H noX) H3_2 [] w_) ?_ ?_
  · have hm := hs_j3
    refine a_region rfl ?_
    refine ap (y_move rfl) ?_
    refine ap (y_neq rfl rfl) ?_
    refine ap (y_move rfl) ?_
    rcases Bool.eq_false_or_eq_true (x5_3.2 != 0) with k6_3 | k6_3
    · have hm := cond_t k6_3 hm
      refine as1 (sk1 rfl rfl k6_3) ?_
      refine as1 (sk1 rfl rfl k6_3) ?_
      refine as1 (sk1 rfl rfl k6_3) ?_
      refine as1 (sk1 rfl rfl k6_3) ?_
      refine as1 (sk1 rfl rfl k6_3) ?_
      refine ap (y_pick_t rfl k6_3 rfl) ?_
      refine ap (y_move rfl) ?_
      refine as1 (sk1 rfl rfl rfl) ?_
      refine as1 (sk1 rfl rfl rfl) ?_
      refine as1 (sk1 rfl rfl rfl) ?_
      refine as1 (sku rfl rfl) ?_
      refine as1 (sku rfl rfl) ?_
      refine as1 (sku rfl rfl) ?_
      refine as1 (sku rfl rfl) ?_
      refine as1 (sku rfl rfl) ?_
      refine as1 (sku rfl rfl) ?_
      refine as1 (sk1 rfl rfl rfl) ?_
      refine ap (y_pick_t rfl rfl rfl) ?_
      refine a_nil ?_
      refine a_en [(3, .pointer (some ⟨b0_0, 0, none⟩)), (7, v3_2r0), (8, .int .i64 x3_8), (9, .int .i64 x3_14), (10, .int .i64 x4_4.1), (11, .int .i64 x4_4.2), (76, .bool true)] ?_
      refine a_cut ?_
      intro a_ w_ ha_ hs_
      exact ⟨true, Option.some.inj hm, ha_.weaken ⟨rfl, rfl, rfl, rfl, rfl, rfl, rfl, trivial⟩, hs_.reix [] (by decide)⟩
    have hm := cond_f k6_3 hm
    refine ag ⟨_, _, rfl, rfl, k6_3⟩ (y_move rfl) ?_
    refine ag ⟨_, _, rfl, rfl, k6_3⟩ (y_eql rfl rfl) ?_
    refine ag ⟨_, _, rfl, rfl, k6_3⟩ (y_move rfl) ?_
    refine ag ⟨_, _, rfl, rfl, k6_3⟩ (y_neq rfl rfl) ?_
    refine ag ⟨_, _, rfl, rfl, k6_3⟩ (y_neq_bool Tryd.underlying4 rfl rfl) ?_
    refine ap (y_pick_f rfl k6_3 rfl) ?_
    refine ap (y_move rfl) ?_
    rcases Bool.eq_false_or_eq_true ((x4_4.2 == 4) != (x5_3.1 != 0)) with k6_10 | k6_10
    · have hm := cond_t k6_10 hm
      refine as1 (sk1 rfl rfl k6_10) ?_
      refine as1 (sk1 rfl rfl k6_10) ?_
      refine as1 (sk1 rfl rfl k6_10) ?_
      refine as1 (sku rfl rfl) ?_
      refine as1 (sku rfl rfl) ?_
      refine as1 (sku rfl rfl) ?_
      refine as1 (sku rfl rfl) ?_
      refine as1 (sku rfl rfl) ?_
      refine as1 (sku rfl rfl) ?_
      refine as1 (sk1 rfl rfl k6_10) ?_
      refine ap (y_pick_t rfl k6_10 rfl) ?_
      refine a_nil ?_
      refine a_en [(3, .pointer (some ⟨b0_0, 0, none⟩)), (7, v3_2r0), (8, .int .i64 x3_8), (9, .int .i64 x3_14), (10, .int .i64 x4_4.1), (11, .int .i64 x4_4.2), (76, .bool true)] ?_
      refine a_cut ?_
      intro a_ w_ ha_ hs_
      exact ⟨true, Option.some.inj hm, ha_.weaken ⟨rfl, rfl, rfl, rfl, rfl, rfl, rfl, trivial⟩, hs_.reix [] (by decide)⟩
    have hm := cond_f k6_10 hm
    refine ag ⟨_, _, rfl, rfl, k6_10⟩ (y_move rfl) ?_
    refine ag ⟨_, _, rfl, rfl, k6_10⟩ (y_neq rfl rfl) ?_
    refine ag ⟨_, _, rfl, rfl, k6_10⟩ (y_move rfl) ?_
    rcases Bool.eq_false_or_eq_true (x4_4.2 != 0) with k6_13 | k6_13
    · have hm := cond_t k6_13 hm
      refine ag ⟨_, _, rfl, rfl, k6_13⟩ (y_move rfl) ?_
      refine ag ⟨_, _, rfl, rfl, k6_13⟩ (y_neq rfl rfl) ?_
      refine ag ⟨_, _, rfl, rfl, k6_13⟩ (y_move rfl) ?_
      rcases Bool.eq_false_or_eq_true (x4_4.2 != 4) with k6_16 | k6_16
      · have hm := cond_t k6_16 hm
        refine as1 (sk1 rfl rfl k6_16) ?_
        refine as1 (sk1 rfl rfl k6_16) ?_
        refine ag ⟨_, _, rfl, rfl, k6_13⟩ (y_pick_t rfl k6_16 rfl) ?_
        refine ag ⟨_, _, rfl, rfl, k6_10⟩ (y_pick_t rfl k6_13 rfl) ?_
        refine ap (y_pick_f rfl k6_10 rfl) ?_
        refine a_nil ?_
        refine a_en [(3, .pointer (some ⟨b0_0, 0, none⟩)), (7, v3_2r0), (8, .int .i64 x3_8), (9, .int .i64 x3_14), (10, .int .i64 x4_4.1), (11, .int .i64 x4_4.2), (76, .bool true)] ?_
        refine a_cut ?_
        intro a_ w_ ha_ hs_
        exact ⟨true, Option.some.inj hm, ha_.weaken ⟨rfl, rfl, rfl, rfl, rfl, rfl, rfl, trivial⟩, hs_.reix [] (by decide)⟩
      have hm := cond_f k6_16 hm
      refine ag ⟨_, _, rfl, rfl, k6_16⟩ (y_move rfl) ?_
      refine ag ⟨_, _, rfl, rfl, k6_16⟩ (y_neq rfl rfl) ?_
      refine ag ⟨_, _, rfl, rfl, k6_13⟩ (y_pick_f rfl k6_16 rfl) ?_
      refine ag ⟨_, _, rfl, rfl, k6_10⟩ (y_pick_t rfl k6_13 rfl) ?_
      refine ap (y_pick_f rfl k6_10 rfl) ?_
      refine a_nil ?_
      refine a_en [(3, .pointer (some ⟨b0_0, 0, none⟩)), (7, v3_2r0), (8, .int .i64 x3_8), (9, .int .i64 x3_14), (10, .int .i64 x4_4.1), (11, .int .i64 x4_4.2), (76, .bool (x4_4.1 != 0))] ?_
      refine a_cut ?_
      intro a_ w_ ha_ hs_
      exact ⟨x4_4.1 != 0, Option.some.inj hm, ha_.weaken ⟨rfl, rfl, rfl, rfl, rfl, rfl, rfl, trivial⟩, hs_.reix [] (by decide)⟩
    have hm := cond_f k6_13 hm
    refine as1 (sk1 rfl rfl k6_13) ?_
    refine as1 (sk1 rfl rfl k6_13) ?_
    refine as1 (sk1 rfl rfl k6_13) ?_
    refine as1 (sku rfl rfl) ?_
    refine as1 (sku rfl rfl) ?_
    refine as1 (sk1 rfl rfl k6_13) ?_
    refine ag ⟨_, _, rfl, rfl, k6_10⟩ (y_pick_f rfl k6_13 rfl) ?_
    refine ap (y_pick_f rfl k6_10 rfl) ?_
    refine a_nil ?_
    refine a_en [(3, .pointer (some ⟨b0_0, 0, none⟩)), (7, v3_2r0), (8, .int .i64 x3_8), (9, .int .i64 x3_14), (10, .int .i64 x4_4.1), (11, .int .i64 x4_4.2), (76, .bool false)] ?_
    refine a_cut ?_
    intro a_ w_ ha_ hs_
    exact ⟨false, Option.some.inj hm, ha_.weaken ⟨rfl, rfl, rfl, rfl, rfl, rfl, rfl, trivial⟩, hs_.reix [] (by decide)⟩
  have hm := hm_j3
  rintro a_ w_ ⟨yj3_76, rfl, ha_, hs_⟩
  try dsimp only at hm
  refine a_start ha_ hs_ ?_
  refine a_then ?_
  refine a_cond rfl (fun k_4 => ?_) (fun k_4 => ?_)
  · have hm := cond_t k_4 hm
    refine a_seq ?_
    refine a_region rfl ?_
    refine ap (y_assign rfl) ?_
    refine a_nil ?_
    refine a_en [(6, .bool false)] ?_
    refine a_then ?_
    refine a_ret ?_
    refine a_then_ret ?_
    refine a_done (v := .bool false) (.inl rfl) rfl ?_ ?_
    · intro a_ w_ ha_ hs_; exact run_results (P := Tryd.prog) (fn := Tryd.f12) (rs := [.tmp 6]) (vs := [.bool false]) rfl (.cons (rv_tmp ha_ rfl) (All2.nil))
    · intro _ _; obtain rfl := Option.some.inj hm
      rfl
  have hm := cond_f k_4 hm
  refine a_skip ?_
  refine a_then ?_
  refine a_seq ?_
  refine a_seq ?_
  refine a_region rfl ?_
  refine ap (y_move rfl) ?_
  refine ap (y_neq rfl rfl) ?_
  refine a_nil ?_
  refine a_en [(3, .pointer (some ⟨b0_0, 0, none⟩)), (7, v3_2r0), (8, .int .i64 x3_8), (9, .int .i64 x3_14), (10, .int .i64 x4_4.1), (78, .bool (x4_4.2 != 0))] ?_
  refine a_then ?_
  refine a_cond rfl (fun k_5 => ?_) (fun k_5 => ?_)
  · have hm := cond_t k_5 hm
    refine a_seq ?_
    refine a_region rfl ?_
    obtain ⟨x9_0, q9_0, hm⟩ := bind_some hm
    refine a_cons (e_callV (all := []) (v := .bool x9_0) trivial rfl Tryd.func30 rfl rfl rfl rfl rfl (fun w hw => ok_30 hw hg q9_0) ?_)
    refine ap (y_assign rfl) ?_
    refine a_nil ?_
    refine a_en [(6, .bool x9_0)] ?_
    refine a_then ?_
    refine a_ret ?_
    refine a_then_ret ?_
    refine a_done (v := .bool x9_0) (.inl rfl) rfl ?_ ?_
    · intro a_ w_ ha_ hs_; exact run_results (P := Tryd.prog) (fn := Tryd.f12) (rs := [.tmp 6]) (vs := [.bool x9_0]) rfl (.cons (rv_tmp ha_ rfl) (All2.nil))
    · intro _ _; obtain rfl := Option.some.inj hm
      rfl
  have hm := cond_f k_5 hm
  refine a_skip ?_
  refine a_then ?_
  refine a_seq ?_
  refine a_region rfl ?_
  have h10_0 := TunnelBook.at_Frames hb0_0
  refine ap (y_fieldAddr fo25_1 rfl) ?_
  obtain ⟨v10_1, h10_1, c10_1⟩ := PAt.sl h10_0
  refine ap (y_load_one ty23 rfl (fun _ h => h.sub) rfl c10_1) ?_
  refine ap (y_move rfl) ?_
  obtain ⟨x10_3, q10_3, hm⟩ := bind_some hm
  obtain ⟨b10_3, o10_3, c10_3, e10_3, h10_3⟩ := Sl.elemZ 3 rfl h10_1 q10_3
  refine ap (y_index Tryd.underlying23 ty55 rfl e10_3 rfl (nth_in q10_3)) ?_
  have h10_4 := TunnelFrame.at_Stay h10_3
  refine ap (y_fieldAddr fo55_0 rfl) ?_
  obtain ⟨v10_5, h10_5, c10_5⟩ := PAt.sl h10_4
  refine ap (y_load_one ty26 rfl (fun _ h => h.sub) rfl c10_5) ?_
  refine ap (y_move rfl) ?_
  obtain ⟨x10_7, q10_7, hm⟩ := bind_some hm
  obtain ⟨b10_7, o10_7, c10_7, e10_7, h10_7⟩ := Sl.elemZ 1 rfl h10_5 q10_7
  refine ap (y_index Tryd.underlying26 ty3 rfl e10_7 rfl (nth_in q10_7)) ?_
  refine ap (y_load_int ty3 rfl (fun _ h => h.sub) rfl h10_7) ?_
  refine ap (y_assign rfl) ?_
  refine a_nil ?_
  refine a_en [(3, .pointer (some ⟨b0_0, 0, none⟩)), (7, v3_2r0), (8, .int .i64 x3_8), (9, .int .i64 x3_14), (10, .int .i64 x4_4.1), (14, .int .i64 x10_7)] ?_
  refine a_then ?_
  refine a_seq ?_
  refine a_seq ?_
  refine a_region rfl ?_
  refine ap (y_move rfl) ?_
  refine ap (y_move rfl) ?_
  refine ap (y_sub rfl rfl) ?_
  obtain ⟨x11_3, q11_3, hm⟩ := bind_some hm
  refine a_cons (e_callV (all := [.int .i64 x4_4.1, .int .i64 0, .int .i64 (IntKind.i64.wrap (20 - x10_7))]) (v := .bool x11_3) trivial rfl Tryd.func50 rfl rfl rfl rfl rfl (fun w hw => ok_50 hw q11_3) ?_)
  refine ap (y_not rfl) ?_
  refine a_nil ?_
  refine a_en [(3, .pointer (some ⟨b0_0, 0, none⟩)), (7, v3_2r0), (8, .int .i64 x3_8), (9, .int .i64 x3_14), (10, .int .i64 x4_4.1), (14, .int .i64 x10_7), (93, .bool (!x11_3))] ?_
  refine a_then ?_
  refine a_cond rfl (fun k_6 => ?_) (fun k_6 => ?_)
  · have hm := cond_t k_6 hm
    refine a_seq ?_
    refine a_region rfl ?_
    refine ap (y_assign rfl) ?_
    refine a_nil ?_
    refine a_en [(6, .bool false)] ?_
    refine a_then ?_
    refine a_ret ?_
    refine a_then_ret ?_
    refine a_done (v := .bool false) (.inl rfl) rfl ?_ ?_
    · intro a_ w_ ha_ hs_; exact run_results (P := Tryd.prog) (fn := Tryd.f12) (rs := [.tmp 6]) (vs := [.bool false]) rfl (.cons (rv_tmp ha_ rfl) (All2.nil))
    · intro _ _; obtain rfl := Option.some.inj hm
      rfl
  have hm := cond_f k_6 hm
  refine a_skip ?_
  refine a_then ?_
  refine a_seq ?_
  refine a_region rfl ?_
  obtain ⟨u13_0, h13_0, c13_0⟩ := PAt.one hb0_0
  refine ap (y_load_cells ty25 rfl (fun _ h => h.sub) rfl c13_0 (Rp.len h13_0)) ?_
  refine ap (y_move rfl) ?_
  refine ap (y_move rfl) ?_
  refine ap (y_move rfl) ?_
  refine ap (y_move rfl) ?_
  refine ap (y_add rfl rfl) ?_
  obtain ⟨x13_6, q13_6, hm⟩ := bind_some hm
  refine a_cons (e_callH (all := [.agg u13_0.toArray, .int .i64 x3_8, .int .i64 x3_14, .int .i64 (IntKind.i64.wrap (x10_7 + x4_4.1))]) trivial rfl Tryd.func63 rfl rfl rfl rfl rfl (fun w hw => ok_63 hw h13_0 q13_6) ?_)
  rintro _ H13_6 l13_6 ⟨c13_6r0, rfl, h13_6r0⟩
  have hb0_0 := PAt.mono l13_6 hb0_0
  have h3_2r0 := Sl.mono l13_6 h3_2r0
  have h13_0 := Rp.mono l13_6 h13_0
  have hg := Glob.mono l13_6 hg
  refine a_cons (e_alloc (cs := [.slice none 0 0, .slice none 0 0]) trivial rfl ty25 rfl ?_)
  intro b13_7
  refine a_cons (e_storeWhole (i := 0) (ds := c13_6r0) trivial ty25 rfl rfl rfl rfl (Rp.len h13_6r0) ((Rp.one h13_6r0)) rfl ?_)
  refine a_nil ?_
  refine a_freeze (α := TunnelBook) (x := x13_6) (i := 0) rfl h13_6r0 ?_
  intro Hb13_7 lb13_7 hb13_7
  have hb0_0 := PAt.mono lb13_7 hb0_0
  have h3_2r0 := Sl.mono lb13_7 h3_2r0
  have h13_0 := Rp.mono lb13_7 h13_0
  have h13_6r0 := Rp.mono lb13_7 h13_6r0
  have hg := Glob.mono lb13_7 hg
  refine a_en [(3, .pointer (some ⟨b0_0, 0, none⟩)), (7, v3_2r0), (8, .int .i64 x3_8), (9, .int .i64 x3_14), (10, .int .i64 x4_4.1), (14, .int .i64 x10_7), (15, .pointer (some ⟨b13_7, 0, none⟩))] ?_
  refine a_own [] (by decide) (L' := []) rfl ?_
  refine a_then ?_
  refine a_seq ?_
  refine a_region rfl ?_
  obtain ⟨u14_0, h14_0, c14_0⟩ := PAt.one hb13_7
  refine ap (y_load_cells ty25 rfl (fun _ h => h.sub) rfl c14_0 (Rp.len h14_0)) ?_
  refine ap (y_move rfl) ?_
  refine ap (y_move rfl) ?_
  obtain ⟨x14_3, q14_3, hm⟩ := bind_some hm
  refine a_cons (e_callV (all := [.agg u14_0.toArray, v3_2r0, .int .i64 x3_8]) (v := .tuple #[.int .i64 x14_3.1, .int .i64 x14_3.2]) trivial rfl Tryd.func25 rfl rfl rfl rfl rfl (fun w hw => ok_25 hw h14_0 h3_2r0 hg q14_3) ?_)
  refine ap (y_move rfl) ?_
  refine ap (y_extract rfl rfl) ?_
  refine ap (y_extract rfl rfl) ?_
  refine ap (y_assign rfl) ?_
  refine ap (y_assign rfl) ?_
  refine a_nil ?_
  refine a_en [(3, .pointer (some ⟨b0_0, 0, none⟩)), (7, v3_2r0), (8, .int .i64 x3_8), (9, .int .i64 x3_14), (10, .int .i64 x4_4.1), (12, .int .i64 x14_3.1), (13, .int .i64 x14_3.2), (14, .int .i64 x10_7)] ?_
  refine a_then ?_
  refine a_seq ?_
  refine a_seq ?_
  obtain ⟨s_j7, hs_j7, hm_j7⟩ := bind_some hm
  refine a_join (fun a_ w_ => ∃ (yj7_113 : Bool), yj7_113 = s_j7 ∧ Ag 142 [] [(3, .pointer (some ⟨b0_0, 0, none⟩)), (7, v3_2r0), (8, .int .i64 x3_8), (9, .int .i64 x3_14), (10, .int .i64 x4_4.1), (14, .int .i64 x10_7), (113, .bool yj7_113)] a_ ∧ St (Kp.mk w H noX) Hb13_7 [] w_) ?_ ?_
  · have hm := hs_j7
    refine a_region rfl ?_
    refine ap (y_move rfl) ?_
    refine ap (y_neq rfl rfl) ?_
    refine ap (y_move rfl) ?_
    rcases Bool.eq_false_or_eq_true (x14_3.2 != 0) with k15_3 | k15_3
    · have hm := cond_t k15_3 hm
      refine as1 (sk1 rfl rfl k15_3) ?_
      refine as1 (sk1 rfl rfl k15_3) ?_
      refine ap (y_pick_t rfl k15_3 rfl) ?_
      refine a_nil ?_
      refine a_en [(3, .pointer (some ⟨b0_0, 0, none⟩)), (7, v3_2r0), (8, .int .i64 x3_8), (9, .int .i64 x3_14), (10, .int .i64 x4_4.1), (14, .int .i64 x10_7), (113, .bool true)] ?_
      refine a_cut ?_
      intro a_ w_ ha_ hs_
      exact ⟨true, Option.some.inj hm, ha_.weaken ⟨rfl, rfl, rfl, rfl, rfl, rfl, rfl, trivial⟩, hs_.reix [] (by decide)⟩
    have hm := cond_f k15_3 hm
    refine ag ⟨_, _, rfl, rfl, k15_3⟩ (y_move rfl) ?_
    refine ag ⟨_, _, rfl, rfl, k15_3⟩ (y_neq rfl rfl) ?_
    refine ap (y_pick_f rfl k15_3 rfl) ?_
    refine a_nil ?_
    refine a_en [(3, .pointer (some ⟨b0_0, 0, none⟩)), (7, v3_2r0), (8, .int .i64 x3_8), (9, .int .i64 x3_14), (10, .int .i64 x4_4.1), (14, .int .i64 x10_7), (113, .bool (x14_3.1 != 0))] ?_
    refine a_cut ?_
    intro a_ w_ ha_ hs_
    exact ⟨x14_3.1 != 0, Option.some.inj hm, ha_.weaken ⟨rfl, rfl, rfl, rfl, rfl, rfl, rfl, trivial⟩, hs_.reix [] (by decide)⟩
  have hm := hm_j7
  rintro a_ w_ ⟨yj7_113, rfl, ha_, hs_⟩
  try dsimp only at hm
  refine a_start ha_ hs_ ?_
  refine a_then ?_
  refine a_cond rfl (fun k_8 => ?_) (fun k_8 => ?_)
  · have hm := cond_t k_8 hm
    refine a_seq ?_
    refine a_region rfl ?_
    refine ap (y_assign rfl) ?_
    refine a_nil ?_
    refine a_en [(6, .bool false)] ?_
    refine a_then ?_
    refine a_ret ?_
    refine a_then_ret ?_
    refine a_done (v := .bool false) (.inl rfl) rfl ?_ ?_
    · intro a_ w_ ha_ hs_; exact run_results (P := Tryd.prog) (fn := Tryd.f12) (rs := [.tmp 6]) (vs := [.bool false]) rfl (.cons (rv_tmp ha_ rfl) (All2.nil))
    · intro _ _; obtain rfl := Option.some.inj hm
      rfl
  have hm := cond_f k_8 hm
  refine a_skip ?_
  refine a_then ?_
  refine a_seq ?_
  refine a_seq ?_
  refine a_region rfl ?_
  refine ap (y_move rfl) ?_
  refine ap (y_move rfl) ?_
  refine ap (y_add rfl rfl) ?_
  refine ap (y_eql rfl rfl) ?_
  refine a_nil ?_
  refine a_en [(3, .pointer (some ⟨b0_0, 0, none⟩)), (7, v3_2r0), (8, .int .i64 x3_8), (9, .int .i64 x3_14), (10, .int .i64 x4_4.1), (14, .int .i64 x10_7), (117, .bool ((IntKind.i64.wrap (x10_7 + x4_4.1)) == 20))] ?_
  refine a_then ?_
  refine a_cond rfl (fun k_9 => ?_) (fun k_9 => ?_)
  · have hm := cond_t k_9 hm
    refine a_seq ?_
    refine a_region rfl ?_
    obtain ⟨x18_0, q18_0, hm⟩ := bind_some hm
    refine a_cons (e_callV (all := []) (v := .bool x18_0) trivial rfl Tryd.func30 rfl rfl rfl rfl rfl (fun w hw => ok_30 hw hg q18_0) ?_)
    refine ap (y_assign rfl) ?_
    refine a_nil ?_
    refine a_en [(6, .bool x18_0)] ?_
    refine a_then ?_
    refine a_ret ?_
    refine a_then_ret ?_
    refine a_done (v := .bool x18_0) (.inl rfl) rfl ?_ ?_
    · intro a_ w_ ha_ hs_; exact run_results (P := Tryd.prog) (fn := Tryd.f12) (rs := [.tmp 6]) (vs := [.bool x18_0]) rfl (.cons (rv_tmp ha_ rfl) (All2.nil))
    · intro _ _; obtain rfl := Option.some.inj hm
      rfl
  have hm := cond_f k_9 hm
  refine a_skip ?_
  refine a_then ?_
  refine a_seq ?_
  refine a_region rfl ?_
  obtain ⟨u19_0, h19_0, c19_0⟩ := PAt.one hb0_0
  refine ap (y_load_cells ty25 rfl (fun _ h => h.sub) rfl c19_0 (Rp.len h19_0)) ?_
  refine ap (y_move rfl) ?_
  refine ap (y_move rfl) ?_
  refine ap (y_move rfl) ?_
  refine ap (y_move rfl) ?_
  refine ap (y_add rfl rfl) ?_
  refine ap (y_add rfl rfl) ?_
  obtain ⟨x19_7, q19_7, hm⟩ := bind_some hm
  refine a_cons (e_callH (all := [.agg u19_0.toArray, .int .i64 x3_8, .int .i64 x3_14, .int .i64 (IntKind.i64.wrap ((IntKind.i64.wrap (x10_7 + x4_4.1)) + 1))]) trivial rfl Tryd.func63 rfl rfl rfl rfl rfl (fun w hw => ok_63 hw h19_0 q19_7) ?_)
  rintro _ H19_7 l19_7 ⟨c19_7r0, rfl, h19_7r0⟩
  have hb0_0 := PAt.mono l19_7 hb0_0
  have h3_2r0 := Sl.mono l19_7 h3_2r0
  have h19_0 := Rp.mono l19_7 h19_0
  have hg := Glob.mono l19_7 hg
  refine ap (y_move rfl) ?_
  refine ap (y_move rfl) ?_
  obtain ⟨x19_10, q19_10, hm⟩ := bind_some hm
  refine a_cons (e_callV (all := [.agg c19_7r0.toArray, v3_2r0, .int .i64 x3_8]) (v := .tuple #[.int .i64 x19_10.1, .int .i64 x19_10.2]) trivial rfl Tryd.func25 rfl rfl rfl rfl rfl (fun w hw => ok_25 hw h19_7r0 h3_2r0 hg q19_10) ?_)
  refine ap (y_move rfl) ?_
  refine ap (y_extract rfl rfl) ?_
  refine ap (y_extract rfl rfl) ?_
  refine ap (y_assign rfl) ?_
  refine ap (y_assign rfl) ?_
  refine a_nil ?_
  refine a_en [(12, .int .i64 x19_10.1), (13, .int .i64 x19_10.2)] ?_
  refine a_then ?_
  refine a_seq ?_
  obtain ⟨s_j10, hs_j10, hm_j10⟩ := bind_some hm
  refine a_join (fun a_ w_ => ∃ (yj10_6 : Bool), yj10_6 = s_j10 ∧ Ag 142 [] [(6, .bool yj10_6)] a_ ∧ St (Kp.mk w H noX) H19_7 [] w_) ?_ ?_
  · have hm := hs_j10
    refine a_region rfl ?_
    refine ap (y_move rfl) ?_
    refine ap (y_eql rfl rfl) ?_
    refine ap (y_move rfl) ?_
    rcases Bool.eq_false_or_eq_true (x19_10.2 == 0) with k20_3 | k20_3
    · have hm := cond_t k20_3 hm
      refine ag ⟨_, _, rfl, rfl, k20_3⟩ (y_move rfl) ?_
      refine ag ⟨_, _, rfl, rfl, k20_3⟩ (y_neq rfl rfl) ?_
      refine ap (y_pick_t rfl k20_3 rfl) ?_
      refine ap (y_move rfl) ?_
      rcases Bool.eq_false_or_eq_true (x19_10.1 != 0) with k20_7 | k20_7
      · have hm := cond_t k20_7 hm
        obtain ⟨x20_7, q20_7, hm⟩ := bind_some hm
        refine a_cons (e_callV (all := []) (v := .bool x20_7) ⟨_, _, rfl, rfl, k20_7⟩ rfl Tryd.func30 rfl rfl rfl rfl rfl (fun w hw => ok_30 hw hg q20_7) ?_)
        refine ap (y_pick_t rfl k20_7 rfl) ?_
        refine ap (y_assign rfl) ?_
        refine a_nil ?_
        refine a_en [(6, .bool x20_7)] ?_
        refine a_cut ?_
        intro a_ w_ ha_ hs_
        exact ⟨x20_7, Option.some.inj hm, ha_.weaken ⟨rfl, trivial⟩, hs_.reix [] (by decide)⟩
      have hm := cond_f k20_7 hm
      refine as1 (sk1 rfl rfl k20_7) ?_
      refine ap (y_pick_f rfl k20_7 rfl) ?_
      refine ap (y_assign rfl) ?_
      refine a_nil ?_
      refine a_en [(6, .bool false)] ?_
      refine a_cut ?_
      intro a_ w_ ha_ hs_
      exact ⟨false, Option.some.inj hm, ha_.weaken ⟨rfl, trivial⟩, hs_.reix [] (by decide)⟩
    have hm := cond_f k20_3 hm
    refine as1 (sk1 rfl rfl k20_3) ?_
    refine as1 (sk1 rfl rfl k20_3) ?_
    refine ap (y_pick_f rfl k20_3 rfl) ?_
    refine ap (y_move rfl) ?_
    refine as1 (sk1 rfl rfl rfl) ?_
    refine ap (y_pick_f rfl rfl rfl) ?_
    refine ap (y_assign rfl) ?_
    refine a_nil ?_
    refine a_en [(6, .bool false)] ?_
    refine a_cut ?_
    intro a_ w_ ha_ hs_
    exact ⟨false, Option.some.inj hm, ha_.weaken ⟨rfl, trivial⟩, hs_.reix [] (by decide)⟩
  have hm := hm_j10
  rintro a_ w_ ⟨yj10_6, rfl, ha_, hs_⟩
  try dsimp only at hm
  refine a_start ha_ hs_ ?_
  refine a_then ?_
  refine a_ret ?_
  refine a_done (v := .bool yj10_6) (.inl rfl) rfl ?_ ?_
  · intro a_ w_ ha_ hs_; exact run_results (P := Tryd.prog) (fn := Tryd.f12) (rs := [.tmp 6]) (vs := [.bool yj10_6]) rfl (.cons (rv_tmp ha_ rfl) (All2.nil))
  · intro _ _; obtain rfl := Option.some.inj hm
    rfl
end Go.Lu
