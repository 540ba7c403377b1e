/- Of each further function that the law TunnelClash reaches, part 1: what it computes, and the walk that shows it. -/
import Derived.Test.YtbcabikaaadiiaaDoorLuW3
namespace Go.Lu
open Go Go.Proofs
set_option linter.unusedVariables false
set_option maxRecDepth 100000
set_option maxHeartbeats 8000000
def ref00_Fits (k : Nat) (p0 : Int) (p1 : Int) (p2 : Int) : Option Bool :=
 (bif decide (p1 ≤ p0) then
 some ((decide (p0 ≤ p2)))
 else
 some (false)).bind fun yj1_6 =>
 some (yj1_6)
theorem ok_50 {k : Nat} {H : Hp} {w : World} {p0 : Int} {p1 : Int} {p2 : Int} {r : Bool} (hsub : Sub H w)  (hm : ref00_Fits k p0 p1 p2 = some r) : Calls Tryd.prog 50 [.int .i64 p0, .int .i64 p1, .int .i64 p2].toArray w (PostV w H (.bool r)) := by
  unfold ref00_Fits at hm
  refine start (n := 15) (E := [(0, .int .i64 p0), (1, .int .i64 p1), (2, .int .i64 p2)]) Tryd.func50 rfl rfl ⟨rfl, rfl, rfl, trivial⟩ rfl hsub ?_
  refine a_seq ?_
  refine a_region rfl ?_
  refine ap (y_assign rfl) ?_
  refine a_nil ?_
  refine a_en [(0, .int .i64 p0), (1, .int .i64 p1), (2, .int .i64 p2)] ?_
  refine a_then ?_
  refine a_seq ?_
  obtain ⟨s_j1, hs_j1, hm_j1⟩ := bind_some hm
  refine a_join (fun a_ w_ => ∃ (yj1_6 : Bool), yj1_6 = s_j1 ∧ Ag 15 [] [(6, .bool yj1_6)] a_ ∧ St (Kp.mk w H noX) H [] w_) ?_ ?_
  · have hm := hs_j1
    refine a_region rfl ?_
    refine ap (y_move rfl) ?_
    refine ap (y_move rfl) ?_
    refine ap (y_leq rfl rfl) ?_
    refine ap (y_move rfl) ?_
    rcases Bool.eq_false_or_eq_true (decide (p1 ≤ p0)) with k1_4 | k1_4
    · have hm := cond_t k1_4 hm
      refine ag ⟨_, _, rfl, rfl, k1_4⟩ (y_move rfl) ?_
      refine ag ⟨_, _, rfl, rfl, k1_4⟩ (y_move rfl) ?_
      refine ag ⟨_, _, rfl, rfl, k1_4⟩ (y_leq rfl rfl) ?_
      refine ap (y_pick_t rfl k1_4 rfl) ?_
      refine ap (y_assign rfl) ?_
      refine a_nil ?_
      refine a_en [(6, .bool (decide (p0 ≤ p2)))] ?_
      refine a_cut ?_
      intro a_ w_ ha_ hs_
      exact ⟨decide (p0 ≤ p2), Option.some.inj hm, ha_.weaken ⟨rfl, trivial⟩, hs_.reix [] (by decide)⟩
    have hm := cond_f k1_4 hm
    refine as1 (sk1 rfl rfl k1_4) ?_
    refine as1 (sk1 rfl rfl k1_4) ?_
    refine as1 (sk1 rfl rfl k1_4) ?_
    refine ap (y_pick_f rfl k1_4 rfl) ?_
    refine ap (y_assign rfl) ?_
    refine a_nil ?_
    refine a_en [(6, .bool false)] ?_
    refine a_cut ?_
    intro a_ w_ ha_ hs_
    exact ⟨false, Option.some.inj hm, ha_.weaken ⟨rfl, trivial⟩, hs_.reix [] (by decide)⟩
  have hm := hm_j1
  rintro a_ w_ ⟨yj1_6, rfl, ha_, hs_⟩
  try dsimp only at hm
  refine a_start ha_ hs_ ?_
  refine a_then ?_
  refine a_ret ?_
  refine a_done (v := .bool yj1_6) (.inl rfl) rfl ?_ ?_
  · intro a_ w_ ha_ hs_; exact run_results (P := Tryd.prog) (fn := Tryd.f50) (rs := [.tmp 6]) (vs := [.bool yj1_6]) rfl (.cons (rv_tmp ha_ rfl) (All2.nil))
  · intro _ _; obtain rfl := Option.some.inj hm
    rfl

def ref00_Right (k : Nat) (p0 : Span) (p1 : Int) (p2 : Int) : Option Bool :=
 (bif decide (p1 ≤ p0.Low) then
 bif decide (p0.Low ≤ p0.High) then
 some ((decide (p0.High ≤ p2)))
 else
 some (false)
 else
 some (false)).bind fun yj1_6 =>
 some (yj1_6)
theorem ok_87 {k : Nat} {H : Hp} {w : World} {p0 : Span} {p1 : Int} {p2 : Int} {c0 : List Value} {r : Bool} (hsub : Sub H w) (h0 : Rp.rep (α := Span) H c0 p0) (hm : ref00_Right k p0 p1 p2 = some r) : Calls Tryd.prog 87 [.agg c0.toArray, .int .i64 p1, .int .i64 p2].toArray w (PostV w H (.bool r)) := by
  unfold ref00_Right at hm
  refine start (n := 24) (E := [(0, .agg c0.toArray), (1, .int .i64 p1), (2, .int .i64 p2)]) Tryd.func87 rfl rfl ⟨rfl, rfl, rfl, trivial⟩ rfl hsub ?_
  refine a_seq ?_
  refine a_region rfl ?_
  refine a_cons (e_box (cs := c0) trivial rfl rfl rfl ?_)
  intro b0_0
  refine ap (y_assign rfl) ?_
  refine a_nil ?_
  refine a_freeze (α := Span) (x := p0) (i := 0) rfl h0 ?_
  intro Hb0_0 lb0_0 hb0_0
  have h0 := Rp.mono lb0_0 h0
  refine a_en [(1, .int .i64 p1), (2, .int .i64 p2), (3, .pointer (some ⟨b0_0, 0, none⟩))] ?_
  refine a_own [] (by decide) (L' := []) rfl ?_
  refine a_then ?_
  refine a_seq ?_
  obtain ⟨s_j1, hs_j1, hm_j1⟩ := bind_some hm
  refine a_join (fun a_ w_ => ∃ (yj1_6 : Bool), yj1_6 = s_j1 ∧ Ag 24 [] [(6, .bool yj1_6)] a_ ∧ St (Kp.mk w H noX) Hb0_0 [] w_) ?_ ?_
  · have hm := hs_j1
    refine a_region rfl ?_
    refine ap (y_move rfl) ?_
    have h1_1 := Span.at_Low hb0_0
    refine ap (y_fieldAddr fo32_0 rfl) ?_
    refine ap (y_load_int ty3 rfl (fun _ h => h.sub) rfl h1_1) ?_
    refine ap (y_leq rfl rfl) ?_
    refine ap (y_move rfl) ?_
    rcases Bool.eq_false_or_eq_true (decide (p1 ≤ p0.Low)) with k1_5 | k1_5
    · have hm := cond_t k1_5 hm
      have h1_5 := Span.at_Low hb0_0
      refine ag ⟨_, _, rfl, rfl, k1_5⟩ (y_fieldAddr fo32_0 rfl) ?_
      refine ag ⟨_, _, rfl, rfl, k1_5⟩ (y_load_int ty3 rfl (fun _ h => h.sub) rfl h1_5) ?_
      have h1_7 := Span.at_High hb0_0
      refine ag ⟨_, _, rfl, rfl, k1_5⟩ (y_fieldAddr fo32_1 rfl) ?_
      refine ag ⟨_, _, rfl, rfl, k1_5⟩ (y_load_int ty3 rfl (fun _ h => h.sub) rfl h1_7) ?_
      refine ag ⟨_, _, rfl, rfl, k1_5⟩ (y_leq rfl rfl) ?_
      refine ap (y_pick_t rfl k1_5 rfl) ?_
      refine ap (y_move rfl) ?_
      rcases Bool.eq_false_or_eq_true (decide (p0.Low ≤ p0.High)) with k1_12 | k1_12
      · have hm := cond_t k1_12 hm
        have h1_12 := Span.at_High hb0_0
        refine ag ⟨_, _, rfl, rfl, k1_12⟩ (y_fieldAddr fo32_1 rfl) ?_
        refine ag ⟨_, _, rfl, rfl, k1_12⟩ (y_load_int ty3 rfl (fun _ h => h.sub) rfl h1_12) ?_
        refine ag ⟨_, _, rfl, rfl, k1_12⟩ (y_move rfl) ?_
        refine ag ⟨_, _, rfl, rfl, k1_12⟩ (y_leq rfl rfl) ?_
        refine ap (y_pick_t rfl k1_12 rfl) ?_
        refine ap (y_assign rfl) ?_
        refine a_nil ?_
        refine a_en [(6, .bool (decide (p0.High ≤ p2)))] ?_
        refine a_cut ?_
        intro a_ w_ ha_ hs_
        exact ⟨decide (p0.High ≤ p2), Option.some.inj hm, ha_.weaken ⟨rfl, trivial⟩, hs_.reix [] (by decide)⟩
      have hm := cond_f k1_12 hm
      refine as1 (sk1 rfl rfl k1_12) ?_
      refine as1 (sk1 rfl rfl k1_12) ?_
      refine as1 (sk1 rfl rfl k1_12) ?_
      refine as1 (sk1 rfl rfl k1_12) ?_
      refine ap (y_pick_f rfl k1_12 rfl) ?_
      refine ap (y_assign rfl) ?_
      refine a_nil ?_
      refine a_en [(6, .bool false)] ?_
      refine a_cut ?_
      intro a_ w_ ha_ hs_
      exact ⟨false, Option.some.inj hm, ha_.weaken ⟨rfl, trivial⟩, hs_.reix [] (by decide)⟩
    have hm := cond_f k1_5 hm
    refine as1 (sk1 rfl rfl k1_5) ?_
    refine as1 (sk1 rfl rfl k1_5) ?_
    refine as1 (sk1 rfl rfl k1_5) ?_
    refine as1 (sk1 rfl rfl k1_5) ?_
    refine as1 (sk1 rfl rfl k1_5) ?_
    refine ap (y_pick_f rfl k1_5 rfl) ?_
    refine ap (y_move rfl) ?_
    refine as1 (sk1 rfl rfl rfl) ?_
    refine as1 (sk1 rfl rfl rfl) ?_
    refine as1 (sk1 rfl rfl rfl) ?_
    refine as1 (sk1 rfl rfl rfl) ?_
    refine ap (y_pick_f rfl rfl rfl) ?_
    refine ap (y_assign rfl) ?_
    refine a_nil ?_
    refine a_en [(6, .bool false)] ?_
    refine a_cut ?_
    intro a_ w_ ha_ hs_
    exact ⟨false, Option.some.inj hm, ha_.weaken ⟨rfl, trivial⟩, hs_.reix [] (by decide)⟩
  have hm := hm_j1
  rintro a_ w_ ⟨yj1_6, rfl, ha_, hs_⟩
  try dsimp only at hm
  refine a_start ha_ hs_ ?_
  refine a_then ?_
  refine a_ret ?_
  refine a_done (v := .bool yj1_6) (.inl rfl) rfl ?_ ?_
  · intro a_ w_ ha_ hs_; exact run_results (P := Tryd.prog) (fn := Tryd.f87) (rs := [.tmp 6]) (vs := [.bool yj1_6]) rfl (.cons (rv_tmp ha_ rfl) (All2.nil))
  · intro _ _; obtain rfl := Option.some.inj hm
    rfl

def law03_sound_lj8 (k : Nat) (x5_3 : TunnelPart) : Nat → Bool → Int → Option Bool
 | 0, _, _ => none
 | n_j8 + 1, yj8_3, yj8_6 =>
 bif decide (yj8_6 ≤ 3) then
 (bif yj8_3 then
 (nth x5_3.Heat yj8_6).bind fun x10_4 =>
 (ref00_Fits k x10_4 0 20).bind fun x10_6 =>
 some (x10_6)
 else
 some (false)).bind fun yj10_3 =>
 law03_sound_lj8 k x5_3 n_j8 yj10_3 (IntKind.i64.wrap (yj8_6 + 1))
 else
 some (yj8_3)
def law03_sound_lj3 (k : Nat) (p0 : TunnelBook) : Nat → Bool → Int → Option Bool
 | 0, _, _ => none
 | n_j3 + 1, yj3_3, yj3_4 =>
 (bif yj3_3 then
 some ((decide (yj3_4 < (p0.Parts.length : Int))))
 else
 some (false)).bind fun yj4_32 =>
 bif yj4_32 then
 (nth p0.Parts yj3_4).bind fun x5_3 =>
 ((ref00_Right k x5_3.Damp 0 20).bind fun x6_2 =>
 bif x6_2 then
 some ((decide ((IntKind.i64.wrap (x5_3.Damp.High - x5_3.Damp.Low)) ≤ 3)))
 else
 some (false)).bind fun yj6_3 =>
 (law03_sound_lj8 k x5_3 k yj6_3 0).bind fun yj7_3 =>
 law03_sound_lj3 k p0 n_j3 yj7_3 (IntKind.i64.wrap (yj3_4 + 1))
 else
 some (yj3_3)
def law03_sound_lj17 (k : Nat) (x14_3 : TunnelFrame) : Nat → Bool → Int → Option Bool
 | 0, _, _ => none
 | n_j17 + 1, yj17_3, yj17_9 =>
 (bif yj17_3 then
 some ((decide (yj17_9 < (x14_3.Stay.length : Int))))
 else
 some (false)).bind fun yj18_99 =>
 bif yj18_99 then
 (nth x14_3.Stay yj17_9).bind fun x19_3 =>
 (ref00_Fits k x19_3 0 20).bind fun x19_5 =>
 law03_sound_lj17 k x14_3 n_j17 x19_5 (IntKind.i64.wrap (yj17_9 + 1))
 else
 some (yj17_3)
def law03_sound_lj12 (k : Nat) (p0 : TunnelBook) : Nat → Bool → Int → Option Bool
 | 0, _, _ => none
 | n_j12 + 1, yj12_3, yj12_7 =>
 (bif yj12_3 then
 some ((decide (yj12_7 < (p0.Frames.length : Int))))
 else
 some (false)).bind fun yj13_72 =>
 bif yj13_72 then
 (nth p0.Frames yj12_7).bind fun x14_3 =>
 (bif (x14_3.Stay.length : Int) == (p0.Parts.length : Int) then
 (ref00_Right k x14_3.Need 0 999).bind fun x15_10 =>
 some (x15_10)
 else
 some (false)).bind fun yj15_3 =>
 (law03_sound_lj17 k x14_3 k yj15_3 0).bind fun yj16_3 =>
 law03_sound_lj12 k p0 n_j12 yj16_3 (IntKind.i64.wrap (yj12_7 + 1))
 else
 some (yj12_3)
def law03_sound (k : Nat) (p0 : TunnelBook) : Option Bool :=
 ((tunnel_Check k p0).bind fun x1_1 =>
 bif x1_1 == 0 then
 (ref00_Fits k (p0.Parts.length : Int) 1 4).bind fun x1_7 =>
 bif x1_7 then
 some ((decide ((p0.Frames.length : Int) ≤ 5)))
 else
 some (false)
 else
 some (false)).bind fun yj1_3 =>
 (law03_sound_lj3 k p0 k yj1_3 0).bind fun yj2_3 =>
 (law03_sound_lj12 k p0 k yj2_3 0).bind fun yj11_3 =>
 some (yj11_3)
theorem ok_43 {k : Nat} {H : Hp} {w : World} {p0 : TunnelBook} {c0 : List Value} {r : Bool} (hsub : Sub H w) (h0 : Rp.rep (α := TunnelBook) H c0 p0) (hm : law03_sound k p0 = some r) : Calls Tryd.prog 43 [.agg c0.toArray].toArray w (PostV w H (.bool r)) := by
  unfold law03_sound at hm
  refine start (n := 109) (E := [(0, .agg c0.toArray)]) Tryd.func43 rfl rfl ⟨rfl, trivial⟩ rfl hsub ?_
  refine a_seq ?_
  refine a_region rfl ?_
  refine a_cons (e_box (cs := c0) trivial rfl rfl rfl ?_)
  intro b0_0
  refine ap (y_assign rfl) ?_
  refine a_nil ?_
  refine a_freeze (α := TunnelBook) (x := p0) (i := 0) rfl h0 ?_
  intro Hb0_0 lb0_0 hb0_0
  have h0 := Rp.mono lb0_0 h0
  refine a_en [(1, .pointer (some ⟨b0_0, 0, none⟩))] ?_
  refine a_own [] (by decide) (L' := []) rfl ?_
  refine a_then ?_
  refine a_seq ?_
  obtain ⟨s_j1, hs_j1, hm_j1⟩ := bind_some hm
  refine a_join (fun a_ w_ => ∃ (yj1_3 : Bool), yj1_3 = s_j1 ∧ Ag 109 [] [(1, .pointer (some ⟨b0_0, 0, none⟩)), (3, .bool yj1_3)] a_ ∧ St (Kp.mk w H noX) Hb0_0 [] w_) ?_ ?_
  · have hm := hs_j1
    refine a_region rfl ?_
    obtain ⟨u1_0, h1_0, c1_0⟩ := PAt.one hb0_0
    refine ap (y_load_cells ty25 rfl (fun _ h => h.sub) rfl c1_0 (Rp.len h1_0)) ?_
    obtain ⟨x1_1, q1_1, hm⟩ := bind_some hm
    refine a_cons (e_callV (all := [.agg u1_0.toArray]) (v := .int .i64 x1_1) trivial rfl Tryd.func21 rfl rfl rfl rfl rfl (fun w hw => ok_21 hw h1_0 q1_1) ?_)
    refine ap (y_eql rfl rfl) ?_
    refine ap (y_move rfl) ?_
    rcases Bool.eq_false_or_eq_true (x1_1 == 0) with k1_4 | k1_4
    · have hm := cond_t k1_4 hm
      have h1_4 := TunnelBook.at_Parts hb0_0
      refine ag ⟨_, _, rfl, rfl, k1_4⟩ (y_fieldAddr fo25_0 rfl) ?_
      obtain ⟨v1_5, h1_5, c1_5⟩ := PAt.sl h1_4
      refine ag ⟨_, _, rfl, rfl, k1_4⟩ (y_load_one ty22 rfl (fun _ h => h.sub) rfl c1_5) ?_
      refine ag ⟨_, _, rfl, rfl, k1_4⟩ (y_len_sl Tryd.underlying22 rfl h1_5) ?_
      obtain ⟨x1_7, q1_7, hm⟩ := bind_some hm
      refine a_cons (e_callV (all := [.int .i64 (p0.Parts.length : Int), .int .i64 1, .int .i64 4]) (v := .bool x1_7) ⟨_, _, rfl, rfl, k1_4⟩ rfl Tryd.func50 rfl rfl rfl rfl rfl (fun w hw => ok_50 hw q1_7) ?_)
      refine ap (y_pick_t rfl k1_4 rfl) ?_
      refine ap (y_move rfl) ?_
      rcases Bool.eq_false_or_eq_true (x1_7) with k1_10 | k1_10
      · have hm := cond_t k1_10 hm
        have h1_10 := TunnelBook.at_Frames hb0_0
        refine ag ⟨_, _, rfl, rfl, k1_10⟩ (y_fieldAddr fo25_1 rfl) ?_
        obtain ⟨v1_11, h1_11, c1_11⟩ := PAt.sl h1_10
        refine ag ⟨_, _, rfl, rfl, k1_10⟩ (y_load_one ty23 rfl (fun _ h => h.sub) rfl c1_11) ?_
        refine ag ⟨_, _, rfl, rfl, k1_10⟩ (y_len_sl Tryd.underlying23 rfl h1_11) ?_
        refine ag ⟨_, _, rfl, rfl, k1_10⟩ (y_leq rfl rfl) ?_
        refine ap (y_pick_t rfl k1_10 rfl) ?_
        refine ap (y_assign rfl) ?_
        refine a_nil ?_
        refine a_en [(1, .pointer (some ⟨b0_0, 0, none⟩)), (3, .bool (decide ((p0.Frames.length : Int) ≤ 5)))] ?_
        refine a_cut ?_
        intro a_ w_ ha_ hs_
        exact ⟨decide ((p0.Frames.length : Int) ≤ 5), Option.some.inj hm, ha_.weaken ⟨rfl, rfl, trivial⟩, hs_.reix [] (by decide)⟩
      have hm := cond_f k1_10 hm
      refine as1 (sk1 rfl rfl k1_10) ?_
      refine as1 (sk1 rfl rfl k1_10) ?_
      refine as1 (sk1 rfl rfl k1_10) ?_
      refine as1 (sk1 rfl rfl k1_10) ?_
      refine ap (y_pick_f rfl k1_10 rfl) ?_
      refine ap (y_assign rfl) ?_
      refine a_nil ?_
      refine a_en [(1, .pointer (some ⟨b0_0, 0, none⟩)), (3, .bool false)] ?_
      refine a_cut ?_
      intro a_ w_ ha_ hs_
      exact ⟨false, Option.some.inj hm, ha_.weaken ⟨rfl, rfl, trivial⟩, hs_.reix [] (by decide)⟩
    have hm := cond_f k1_4 hm
    refine as1 (sk1 rfl rfl k1_4) ?_
    refine as1 (sk1 rfl rfl k1_4) ?_
    refine as1 (sk1 rfl rfl k1_4) ?_
    refine as1 (sk1 rfl rfl k1_4) ?_
    refine ap (y_pick_f rfl k1_4 rfl) ?_
    refine ap (y_move rfl) ?_
    refine as1 (sk1 rfl rfl rfl) ?_
    refine as1 (sk1 rfl rfl rfl) ?_
    refine as1 (sk1 rfl rfl rfl) ?_
    refine as1 (sk1 rfl rfl rfl) ?_
    refine ap (y_pick_f rfl rfl rfl) ?_
    refine ap (y_assign rfl) ?_
    refine a_nil ?_
    refine a_en [(1, .pointer (some ⟨b0_0, 0, none⟩)), (3, .bool false)] ?_
    refine a_cut ?_
    intro a_ w_ ha_ hs_
    exact ⟨false, Option.some.inj hm, ha_.weaken ⟨rfl, rfl, trivial⟩, hs_.reix [] (by decide)⟩
  have hm := hm_j1
  rintro a_ w_ ⟨yj1_3, rfl, ha_, hs_⟩
  try dsimp only at hm
  refine a_start ha_ hs_ ?_
  refine a_then ?_
  refine a_seq ?_
  refine a_seq ?_
  refine a_region rfl ?_
  refine ap (y_assign rfl) ?_
  refine a_nil ?_
  refine a_then ?_
  obtain ⟨s_j2, hs_j2, hm_j2⟩ := bind_some hm
  refine a_join (fun a_ w_ => ∃ (Hj2 : Hp), ∃ (_ : HLe Hb0_0 Hj2), ∃ (yj2_3 : Bool), yj2_3 = s_j2 ∧ Ag 109 [] [(1, .pointer (some ⟨b0_0, 0, none⟩)), (3, .bool yj2_3)] a_ ∧ St (Kp.mk w H noX) Hj2 [] w_) ?_ ?_
  · have hm := hs_j2
    refine a_block ?_
    refine a_loop (fun n_j3 a_ w_ => ∃ (Hj3 : Hp), ∃ (_ : HLe Hb0_0 Hj3), ∃ (yj3_3 : Bool), ∃ (yj3_4 : Int), law03_sound_lj3 k p0 n_j3 yj3_3 yj3_4 = some s_j2 ∧ Ag 109 [] [(1, .pointer (some ⟨b0_0, 0, none⟩)), (3, .bool yj3_3), (4, .int .i64 yj3_4)] a_ ∧ St (Kp.mk w H noX) Hj3 [] w_) k ?_ ?_
    · intro a_ w_ ha_ hs_
      exact ⟨Hb0_0, (HLe.refl _), yj1_3, 0, hm, ha_.weaken ⟨rfl, rfl, rfl, trivial⟩, hs_.reix [] (by decide)⟩
    rintro (_ | n_j3) a_ w_ ⟨Hj3, lj3, yj3_3, yj3_4, hm, ha_, hs_⟩
    · rw [law03_sound_lj3.eq_1] at hm; cases hm
    rw [law03_sound_lj3.eq_2] at hm
    refine a_start ha_ hs_ ?_
    have hb0_0 := PAt.mono lj3 hb0_0
    refine a_seq ?_
    refine a_seq ?_
    obtain ⟨s_j4, hs_j4, hm_j4⟩ := bind_some hm
    refine a_join (fun a_ w_ => ∃ (yj4_32 : Bool), yj4_32 = s_j4 ∧ Ag 109 [] [(1, .pointer (some ⟨b0_0, 0, none⟩)), (3, .bool yj3_3), (4, .int .i64 yj3_4), (32, .bool yj4_32)] a_ ∧ St (Kp.mk w H noX) Hj3 [] w_) ?_ ?_
    · have hm := hs_j4
      refine a_region rfl ?_
      refine ap (y_move rfl) ?_
      refine ap (y_move rfl) ?_
      rcases Bool.eq_false_or_eq_true (yj3_3) with k3_2 | k3_2
      · have hm := cond_t k3_2 hm
        refine ag ⟨_, _, rfl, rfl, k3_2⟩ (y_move rfl) ?_
        have h3_3 := TunnelBook.at_Parts hb0_0
        refine ag ⟨_, _, rfl, rfl, k3_2⟩ (y_fieldAddr fo25_0 rfl) ?_
        obtain ⟨v3_4, h3_4, c3_4⟩ := PAt.sl h3_3
        refine ag ⟨_, _, rfl, rfl, k3_2⟩ (y_load_one ty22 rfl (fun _ h => h.sub) rfl c3_4) ?_
        refine ag ⟨_, _, rfl, rfl, k3_2⟩ (y_len_sl Tryd.underlying22 rfl h3_4) ?_
        refine ag ⟨_, _, rfl, rfl, k3_2⟩ (y_lss rfl rfl) ?_
        refine ap (y_pick_t rfl k3_2 rfl) ?_
        refine a_nil ?_
        refine a_en [(1, .pointer (some ⟨b0_0, 0, none⟩)), (3, .bool yj3_3), (4, .int .i64 yj3_4), (27, .int .i64 yj3_4), (28, .pointer (some ⟨b0_0, 0 + 0, none⟩)), (29, v3_4), (30, .int .i64 (p0.Parts.length : Int)), (31, .bool (decide (yj3_4 < (p0.Parts.length : Int)))), (32, .bool (decide (yj3_4 < (p0.Parts.length : Int))))] ?_
        refine a_cut ?_
        intro a_ w_ ha_ hs_
        exact ⟨decide (yj3_4 < (p0.Parts.length : Int)), Option.some.inj hm, ha_.weaken ⟨rfl, rfl, rfl, rfl, trivial⟩, hs_.reix [] (by decide)⟩
      have hm := cond_f k3_2 hm
      refine as1 (sk1 rfl rfl k3_2) ?_
      refine as1 (sk1 rfl rfl k3_2) ?_
      refine as1 (sk1 rfl rfl k3_2) ?_
      refine as1 (sk1 rfl rfl k3_2) ?_
      refine as1 (sk1 rfl rfl k3_2) ?_
      refine ap (y_pick_f rfl k3_2 rfl) ?_
      refine a_nil ?_
      refine a_en [(1, .pointer (some ⟨b0_0, 0, none⟩)), (3, .bool yj3_3), (4, .int .i64 yj3_4), (27, undef), (28, undef), (29, undef), (30, undef), (31, undef), (32, .bool false)] ?_
      refine a_cut ?_
      intro a_ w_ ha_ hs_
      exact ⟨false, Option.some.inj hm, ha_.weaken ⟨rfl, rfl, rfl, rfl, trivial⟩, hs_.reix [] (by decide)⟩
    have hm := hm_j4
    rintro a_ w_ ⟨yj4_32, rfl, ha_, hs_⟩
    try dsimp only at hm
    refine a_start ha_ hs_ ?_
    refine a_then ?_
    refine a_cond rfl (fun k_5 => ?_) (fun k_5 => ?_)
    · have hm := cond_t k_5 hm
      refine a_skip ?_
      refine a_then ?_
      refine a_seq ?_
      refine a_block ?_
      refine a_seq ?_
      refine a_region rfl ?_
      have h5_0 := TunnelBook.at_Parts hb0_0
      refine ap (y_fieldAddr fo25_0 rfl) ?_
      obtain ⟨v5_1, h5_1, c5_1⟩ := PAt.sl h5_0
      refine ap (y_load_one ty22 rfl (fun _ h => h.sub) rfl c5_1) ?_
      refine ap (y_move rfl) ?_
      obtain ⟨x5_3, q5_3, hm⟩ := bind_some hm
      obtain ⟨b5_3, o5_3, c5_3, e5_3, h5_3⟩ := Sl.elemZ 6 rfl h5_1 q5_3
      refine ap (y_index Tryd.underlying22 ty64 rfl e5_3 rfl (nth_in q5_3)) ?_
      obtain ⟨u5_4, h5_4, c5_4⟩ := PAt.one h5_3
      refine ap (y_load_cells ty64 rfl (fun _ h => h.sub) rfl c5_4 (Rp.len h5_4)) ?_
      refine a_cons (e_alloc (cs := [.int .i64 0, .int .i64 0, .int .i64 0, .int .i64 0, .int .i64 0, .int .i64 0]) trivial rfl ty64 rfl ?_)
      intro b5_5
      have mz5_5 : Rp.rep (α := TunnelPart) Hj3 [.int .i64 0, .int .i64 0, .int .i64 0, .int .i64 0, .int .i64 0, .int .i64 0] (⟨[0, 0, 0, 0], ⟨0, 0⟩⟩ : TunnelPart) := ⟨_, _, rfl, ⟨(RepL.cons (c := [_]) rfl (RepL.cons (c := [_]) rfl (RepL.cons (c := [_]) rfl (RepL.cons (c := [_]) rfl RepL.nil)))), rfl⟩, ⟨_, _, rfl, rfl, rfl⟩⟩
      refine a_cons (e_storeWhole (i := 0) (ds := u5_4) trivial ty64 rfl rfl rfl rfl (Rp.len h5_4) ((Rp.one h5_4)) rfl ?_)
      refine a_nil ?_
      refine a_freeze (α := TunnelPart) (x := x5_3) (i := 0) rfl h5_4 ?_
      intro Hb5_5 lb5_5 hb5_5
      have hb0_0 := PAt.mono lb5_5 hb0_0
      have h5_0 := PAt.mono lb5_5 h5_0
      have h5_1 := Sl.mono lb5_5 h5_1
      have h5_3 := PAt.mono lb5_5 h5_3
      have h5_4 := Rp.mono lb5_5 h5_4
      refine a_en [(1, .pointer (some ⟨b0_0, 0, none⟩)), (4, .int .i64 yj3_4), (5, .pointer (some ⟨b5_5, 0, none⟩))] ?_
      refine a_own [] (by decide) (L' := []) rfl ?_
      refine a_then ?_
      refine a_seq ?_
      obtain ⟨s_j6, hs_j6, hm_j6⟩ := bind_some hm
      refine a_join (fun a_ w_ => ∃ (yj6_3 : Bool), yj6_3 = s_j6 ∧ Ag 109 [] [(1, .pointer (some ⟨b0_0, 0, none⟩)), (3, .bool yj6_3), (4, .int .i64 yj3_4), (5, .pointer (some ⟨b5_5, 0, none⟩))] a_ ∧ St (Kp.mk w H noX) Hb5_5 [] w_) ?_ ?_
      · have hm := hs_j6
        refine a_region rfl ?_
        have h6_0 := TunnelPart.at_Damp hb5_5
        refine ap (y_fieldAddr fo64_1 rfl) ?_
        obtain ⟨u6_1, h6_1, c6_1⟩ := PAt.one h6_0
        refine ap (y_load_cells ty32 rfl (fun _ h => h.sub) rfl c6_1 (Rp.len h6_1)) ?_
        obtain ⟨x6_2, q6_2, hm⟩ := bind_some hm
        refine a_cons (e_callV (all := [.agg u6_1.toArray, .int .i64 0, .int .i64 20]) (v := .bool x6_2) trivial rfl Tryd.func87 rfl rfl rfl rfl rfl (fun w hw => ok_87 hw h6_1 q6_2) ?_)
        refine ap (y_move rfl) ?_
        rcases Bool.eq_false_or_eq_true (x6_2) with k6_4 | k6_4
        · have hm := cond_t k6_4 hm
          have h6_4 := TunnelPart.at_Damp hb5_5
          refine ag ⟨_, _, rfl, rfl, k6_4⟩ (y_fieldAddr fo64_1 rfl) ?_
          have h6_5 := Span.at_High h6_4
          refine ag ⟨_, _, rfl, rfl, k6_4⟩ (y_fieldAddr fo32_1 rfl) ?_
          refine ag ⟨_, _, rfl, rfl, k6_4⟩ (y_load_int ty3 rfl (fun _ h => h.sub) rfl h6_5) ?_
          have h6_7 := TunnelPart.at_Damp hb5_5
          refine ag ⟨_, _, rfl, rfl, k6_4⟩ (y_fieldAddr fo64_1 rfl) ?_
          have h6_8 := Span.at_Low h6_7
          refine ag ⟨_, _, rfl, rfl, k6_4⟩ (y_fieldAddr fo32_0 rfl) ?_
          refine ag ⟨_, _, rfl, rfl, k6_4⟩ (y_load_int ty3 rfl (fun _ h => h.sub) rfl h6_8) ?_
          refine ag ⟨_, _, rfl, rfl, k6_4⟩ (y_sub rfl rfl) ?_
          refine ag ⟨_, _, rfl, rfl, k6_4⟩ (y_leq rfl rfl) ?_
          refine ap (y_pick_t rfl k6_4 rfl) ?_
          refine ap (y_assign rfl) ?_
          refine a_nil ?_
          refine a_en [(1, .pointer (some ⟨b0_0, 0, none⟩)), (3, .bool (decide ((IntKind.i64.wrap (x5_3.Damp.High - x5_3.Damp.Low)) ≤ 3))), (4, .int .i64 yj3_4), (5, .pointer (some ⟨b5_5, 0, none⟩)), (44, .pointer (some ⟨b5_5, 0 + 4, none⟩)), (45, .pointer (some ⟨b5_5, 0 + 4 + 1, none⟩)), (46, .int .i64 x5_3.Damp.High), (47, .pointer (some ⟨b5_5, 0 + 4, none⟩)), (48, .pointer (some ⟨b5_5, 0 + 4 + 0, none⟩)), (49, .int .i64 x5_3.Damp.Low), (50, .int .i64 (IntKind.i64.wrap (x5_3.Damp.High - x5_3.Damp.Low))), (51, .bool (decide ((IntKind.i64.wrap (x5_3.Damp.High - x5_3.Damp.Low)) ≤ 3)))] ?_
          refine a_cut ?_
          intro a_ w_ ha_ hs_
          exact ⟨decide ((IntKind.i64.wrap (x5_3.Damp.High - x5_3.Damp.Low)) ≤ 3), Option.some.inj hm, ha_.weaken ⟨rfl, rfl, rfl, rfl, trivial⟩, hs_.reix [] (by decide)⟩
        have hm := cond_f k6_4 hm
        refine as1 (sk1 rfl rfl k6_4) ?_
        refine as1 (sk1 rfl rfl k6_4) ?_
        refine as1 (sk1 rfl rfl k6_4) ?_
        refine as1 (sk1 rfl rfl k6_4) ?_
        refine as1 (sk1 rfl rfl k6_4) ?_
        refine as1 (sk1 rfl rfl k6_4) ?_
        refine as1 (sk1 rfl rfl k6_4) ?_
        refine as1 (sk1 rfl rfl k6_4) ?_
        refine ap (y_pick_f rfl k6_4 rfl) ?_
        refine ap (y_assign rfl) ?_
        refine a_nil ?_
        refine a_en [(1, .pointer (some ⟨b0_0, 0, none⟩)), (3, .bool false), (4, .int .i64 yj3_4), (5, .pointer (some ⟨b5_5, 0, none⟩)), (44, undef), (45, undef), (46, undef), (47, undef), (48, undef), (49, undef), (50, undef), (51, undef)] ?_
        refine a_cut ?_
        intro a_ w_ ha_ hs_
        exact ⟨false, Option.some.inj hm, ha_.weaken ⟨rfl, rfl, rfl, rfl, trivial⟩, hs_.reix [] (by decide)⟩
      have hm := hm_j6
      rintro a_ w_ ⟨yj6_3, rfl, ha_, hs_⟩
      try dsimp only at hm
      refine a_start ha_ hs_ ?_
      refine a_then ?_
      refine a_seq ?_
      refine a_region rfl ?_
      refine ap (y_assign rfl) ?_
      refine a_nil ?_
      refine a_then ?_
      obtain ⟨s_j7, hs_j7, hm_j7⟩ := bind_some hm
      refine a_join (fun a_ w_ => ∃ (yj7_3 : Bool), yj7_3 = s_j7 ∧ Ag 109 [] [(1, .pointer (some ⟨b0_0, 0, none⟩)), (3, .bool yj7_3), (4, .int .i64 yj3_4)] a_ ∧ St (Kp.mk w H noX) Hb5_5 [] w_) ?_ ?_
      · have hm := hs_j7
        refine a_block ?_
        refine a_loop (fun n_j8 a_ w_ => ∃ (yj8_3 : Bool), ∃ (yj8_6 : Int), law03_sound_lj8 k x5_3 n_j8 yj8_3 yj8_6 = some s_j7 ∧ Ag 109 [] [(1, .pointer (some ⟨b0_0, 0, none⟩)), (3, .bool yj8_3), (4, .int .i64 yj3_4), (5, .pointer (some ⟨b5_5, 0, none⟩)), (6, .int .i64 yj8_6)] a_ ∧ St (Kp.mk w H noX) Hb5_5 [] w_) k ?_ ?_
        · intro a_ w_ ha_ hs_
          exact ⟨yj6_3, 0, hm, ha_.weaken ⟨rfl, rfl, rfl, rfl, rfl, trivial⟩, hs_.reix [] (by decide)⟩
        rintro (_ | n_j8) a_ w_ ⟨yj8_3, yj8_6, hm, ha_, hs_⟩
        · rw [law03_sound_lj8.eq_1] at hm; cases hm
        rw [law03_sound_lj8.eq_2] at hm
        refine a_start ha_ hs_ ?_
        refine a_seq ?_
        refine a_seq ?_
        refine a_region rfl ?_
        refine ap (y_move rfl) ?_
        refine ap (y_leq rfl rfl) ?_
        refine a_nil ?_
        refine a_en [(1, .pointer (some ⟨b0_0, 0, none⟩)), (3, .bool yj8_3), (4, .int .i64 yj3_4), (5, .pointer (some ⟨b5_5, 0, none⟩)), (6, .int .i64 yj8_6), (54, .bool (decide (yj8_6 ≤ 3)))] ?_
        refine a_then ?_
        refine a_cond rfl (fun k_9 => ?_) (fun k_9 => ?_)
        · have hm := cond_t k_9 hm
          refine a_skip ?_
          refine a_then ?_
          refine a_seq ?_
          refine a_block ?_
          obtain ⟨s_j10, hs_j10, hm_j10⟩ := bind_some hm
          refine a_join (fun a_ w_ => ∃ (yj10_3 : Bool), yj10_3 = s_j10 ∧ Ag 109 [] [(1, .pointer (some ⟨b0_0, 0, none⟩)), (3, .bool yj10_3), (4, .int .i64 yj3_4), (5, .pointer (some ⟨b5_5, 0, none⟩)), (6, .int .i64 yj8_6)] a_ ∧ St (Kp.mk w H noX) Hb5_5 [] w_) ?_ ?_
          · have hm := hs_j10
            refine a_region rfl ?_
            refine ap (y_move rfl) ?_
            refine ap (y_move rfl) ?_
            rcases Bool.eq_false_or_eq_true (yj8_3) with k10_2 | k10_2
            · have hm := cond_t k10_2 hm
              refine ag ⟨_, _, rfl, rfl, k10_2⟩ (y_move rfl) ?_
              have h10_3 := TunnelPart.at_Heat hb5_5
              refine ag ⟨_, _, rfl, rfl, k10_2⟩ (y_fieldAddr fo64_0 rfl) ?_
              obtain ⟨x10_4, q10_4, hm⟩ := bind_some hm
              have h10_4 := PAt.arrZ 1 rfl h10_3 q10_4
              have k10_4 := PAt.arrIn h10_3 q10_4
              refine ag ⟨_, _, rfl, rfl, k10_2⟩ (y_index_arrp Tryd.underlying62 ty3 rfl rfl k10_4) ?_
              refine ag ⟨_, _, rfl, rfl, k10_2⟩ (y_load_int ty3 rfl (fun _ h => h.sub) rfl h10_4) ?_
              obtain ⟨x10_6, q10_6, hm⟩ := bind_some hm
              refine a_cons (e_callV (all := [.int .i64 x10_4, .int .i64 0, .int .i64 20]) (v := .bool x10_6) ⟨_, _, rfl, rfl, k10_2⟩ rfl Tryd.func50 rfl rfl rfl rfl rfl (fun w hw => ok_50 hw q10_6) ?_)
              refine ap (y_pick_t rfl k10_2 rfl) ?_
              refine ap (y_assign rfl) ?_
              refine a_nil ?_
              refine a_en [(1, .pointer (some ⟨b0_0, 0, none⟩)), (3, .bool x10_6), (4, .int .i64 yj3_4), (5, .pointer (some ⟨b5_5, 0, none⟩)), (6, .int .i64 yj8_6), (59, .int .i64 yj8_6), (60, .pointer (some ⟨b5_5, 0 + 0, none⟩)), (61, .pointer (some ⟨b5_5, 0 + 0 + (yj8_6).toNat * 1, none⟩)), (62, .int .i64 x10_4), (63, .bool x10_6)] ?_
              refine a_cut ?_
              intro a_ w_ ha_ hs_
              exact ⟨x10_6, Option.some.inj hm, ha_.weaken ⟨rfl, rfl, rfl, rfl, rfl, trivial⟩, hs_.reix [] (by decide)⟩
            have hm := cond_f k10_2 hm
            refine as1 (sk1 rfl rfl k10_2) ?_
            refine as1 (sk1 rfl rfl k10_2) ?_
            refine as1 (sk1 rfl rfl k10_2) ?_
            refine as1 (sk1 rfl rfl k10_2) ?_
            refine as1 (sk1 rfl rfl k10_2) ?_
            refine ap (y_pick_f rfl k10_2 rfl) ?_
            refine ap (y_assign rfl) ?_
            refine a_nil ?_
            refine a_en [(1, .pointer (some ⟨b0_0, 0, none⟩)), (3, .bool false), (4, .int .i64 yj3_4), (5, .pointer (some ⟨b5_5, 0, none⟩)), (6, .int .i64 yj8_6), (59, undef), (60, undef), (61, undef), (62, undef), (63, undef)] ?_
            refine a_cut ?_
            intro a_ w_ ha_ hs_
            exact ⟨false, Option.some.inj hm, ha_.weaken ⟨rfl, rfl, rfl, rfl, rfl, trivial⟩, hs_.reix [] (by decide)⟩
          have hm := hm_j10
          rintro a_ w_ ⟨yj10_3, rfl, ha_, hs_⟩
          try dsimp only at hm
          refine a_start ha_ hs_ ?_
          refine a_block_normal ?_
          refine a_then ?_
          refine a_region rfl ?_
          refine ap (y_move rfl) ?_
          refine ap (y_add rfl rfl) ?_
          refine ap (y_assign rfl) ?_
          refine a_nil ?_
          refine a_en [(1, .pointer (some ⟨b0_0, 0, none⟩)), (3, .bool yj10_3), (4, .int .i64 yj3_4), (5, .pointer (some ⟨b5_5, 0, none⟩)), (6, .int .i64 (IntKind.i64.wrap (yj8_6 + 1)))] ?_
          refine a_then ?_
          intro a_ w_ ha_ hs_
          exact ⟨n_j8, Nat.lt_succ_self _, yj10_3, IntKind.i64.wrap (yj8_6 + 1), hm, ha_.weaken ⟨rfl, rfl, rfl, rfl, rfl, trivial⟩, hs_.reix [] (by decide)⟩
        have hm := cond_f k_9 hm
        refine a_exit ?_
        refine a_then_exit ?_
        refine a_then_exit ?_
        refine a_block_hit ?_
        refine a_cut ?_
        intro a_ w_ ha_ hs_
        exact ⟨yj8_3, Option.some.inj hm, ha_.weaken ⟨rfl, rfl, rfl, trivial⟩, hs_.reix [] (by decide)⟩
      have hm := hm_j7
      rintro a_ w_ ⟨yj7_3, rfl, ha_, hs_⟩
      try dsimp only at hm
      refine a_start ha_ hs_ ?_
      refine a_block_normal ?_
      refine a_then ?_
      refine a_region rfl ?_
      refine ap (y_move rfl) ?_
      refine ap (y_add rfl rfl) ?_
      refine ap (y_assign rfl) ?_
      refine a_nil ?_
      refine a_en [(1, .pointer (some ⟨b0_0, 0, none⟩)), (3, .bool yj7_3), (4, .int .i64 (IntKind.i64.wrap (yj3_4 + 1)))] ?_
      refine a_then ?_
      intro a_ w_ ha_ hs_
      exact ⟨n_j3, Nat.lt_succ_self _, Hb5_5, (lj3.trans lb5_5), yj7_3, IntKind.i64.wrap (yj3_4 + 1), hm, ha_.weaken ⟨rfl, rfl, rfl, trivial⟩, hs_.reix [] (by decide)⟩
    have hm := cond_f k_5 hm
    refine a_exit ?_
    refine a_then_exit ?_
    refine a_then_exit ?_
    refine a_block_hit ?_
    refine a_cut ?_
    intro a_ w_ ha_ hs_
    exact ⟨Hj3, lj3, yj3_3, Option.some.inj hm, ha_.weaken ⟨rfl, rfl, trivial⟩, hs_.reix [] (by decide)⟩
  have hm := hm_j2
  rintro a_ w_ ⟨Hj2, lj2, yj2_3, rfl, ha_, hs_⟩
  try dsimp only at hm
  refine a_start ha_ hs_ ?_
  have hb0_0 := PAt.mono lj2 hb0_0
  refine a_then ?_
  refine a_seq ?_
  refine a_seq ?_
  refine a_region rfl ?_
  refine ap (y_assign rfl) ?_
  refine a_nil ?_
  refine a_then ?_
  obtain ⟨s_j11, hs_j11, hm_j11⟩ := bind_some hm
  refine a_join (fun a_ w_ => ∃ (Hj11 : Hp), ∃ (_ : HLe Hj2 Hj11), ∃ (yj11_3 : Bool), yj11_3 = s_j11 ∧ Ag 109 [] [(3, .bool yj11_3)] a_ ∧ St (Kp.mk w H noX) Hj11 [] w_) ?_ ?_
  · have hm := hs_j11
    refine a_block ?_
    refine a_loop (fun n_j12 a_ w_ => ∃ (Hj12 : Hp), ∃ (_ : HLe Hj2 Hj12), ∃ (yj12_3 : Bool), ∃ (yj12_7 : Int), law03_sound_lj12 k p0 n_j12 yj12_3 yj12_7 = some s_j11 ∧ Ag 109 [] [(1, .pointer (some ⟨b0_0, 0, none⟩)), (3, .bool yj12_3), (7, .int .i64 yj12_7)] a_ ∧ St (Kp.mk w H noX) Hj12 [] w_) k ?_ ?_
    · intro a_ w_ ha_ hs_
      exact ⟨Hj2, (HLe.refl _), yj2_3, 0, hm, ha_.weaken ⟨rfl, rfl, rfl, trivial⟩, hs_.reix [] (by decide)⟩
    rintro (_ | n_j12) a_ w_ ⟨Hj12, lj12, yj12_3, yj12_7, hm, ha_, hs_⟩
    · rw [law03_sound_lj12.eq_1] at hm; cases hm
    rw [law03_sound_lj12.eq_2] at hm
    refine a_start ha_ hs_ ?_
    have hb0_0 := PAt.mono lj12 hb0_0
    refine a_seq ?_
    refine a_seq ?_
    obtain ⟨s_j13, hs_j13, hm_j13⟩ := bind_some hm
    refine a_join (fun a_ w_ => ∃ (yj13_72 : Bool), yj13_72 = s_j13 ∧ Ag 109 [] [(1, .pointer (some ⟨b0_0, 0, none⟩)), (3, .bool yj12_3), (7, .int .i64 yj12_7), (72, .bool yj13_72)] a_ ∧ St (Kp.mk w H noX) Hj12 [] w_) ?_ ?_
    · have hm := hs_j13
      refine a_region rfl ?_
      refine ap (y_move rfl) ?_
      refine ap (y_move rfl) ?_
      rcases Bool.eq_false_or_eq_true (yj12_3) with k12_2 | k12_2
      · have hm := cond_t k12_2 hm
        refine ag ⟨_, _, rfl, rfl, k12_2⟩ (y_move rfl) ?_
        have h12_3 := TunnelBook.at_Frames hb0_0
        refine ag ⟨_, _, rfl, rfl, k12_2⟩ (y_fieldAddr fo25_1 rfl) ?_
        obtain ⟨v12_4, h12_4, c12_4⟩ := PAt.sl h12_3
        refine ag ⟨_, _, rfl, rfl, k12_2⟩ (y_load_one ty23 rfl (fun _ h => h.sub) rfl c12_4) ?_
        refine ag ⟨_, _, rfl, rfl, k12_2⟩ (y_len_sl Tryd.underlying23 rfl h12_4) ?_
        refine ag ⟨_, _, rfl, rfl, k12_2⟩ (y_lss rfl rfl) ?_
        refine ap (y_pick_t rfl k12_2 rfl) ?_
        refine a_nil ?_
        refine a_en [(1, .pointer (some ⟨b0_0, 0, none⟩)), (3, .bool yj12_3), (7, .int .i64 yj12_7), (67, .int .i64 yj12_7), (68, .pointer (some ⟨b0_0, 0 + 1, none⟩)), (69, v12_4), (70, .int .i64 (p0.Frames.length : Int)), (71, .bool (decide (yj12_7 < (p0.Frames.length : Int)))), (72, .bool (decide (yj12_7 < (p0.Frames.length : Int))))] ?_
        refine a_cut ?_
        intro a_ w_ ha_ hs_
        exact ⟨decide (yj12_7 < (p0.Frames.length : Int)), Option.some.inj hm, ha_.weaken ⟨rfl, rfl, rfl, rfl, trivial⟩, hs_.reix [] (by decide)⟩
      have hm := cond_f k12_2 hm
      refine as1 (sk1 rfl rfl k12_2) ?_
      refine as1 (sk1 rfl rfl k12_2) ?_
      refine as1 (sk1 rfl rfl k12_2) ?_
      refine as1 (sk1 rfl rfl k12_2) ?_
      refine as1 (sk1 rfl rfl k12_2) ?_
      refine ap (y_pick_f rfl k12_2 rfl) ?_
      refine a_nil ?_
      refine a_en [(1, .pointer (some ⟨b0_0, 0, none⟩)), (3, .bool yj12_3), (7, .int .i64 yj12_7), (67, undef), (68, undef), (69, undef), (70, undef), (71, undef), (72, .bool false)] ?_
      refine a_cut ?_
      intro a_ w_ ha_ hs_
      exact ⟨false, Option.some.inj hm, ha_.weaken ⟨rfl, rfl, rfl, rfl, trivial⟩, hs_.reix [] (by decide)⟩
    have hm := hm_j13
    rintro a_ w_ ⟨yj13_72, rfl, ha_, hs_⟩
    try dsimp only at hm
    refine a_start ha_ hs_ ?_
    refine a_then ?_
    refine a_cond rfl (fun k_14 => ?_) (fun k_14 => ?_)
    · have hm := cond_t k_14 hm
      refine a_skip ?_
      refine a_then ?_
      refine a_seq ?_
      refine a_block ?_
      refine a_seq ?_
      refine a_region rfl ?_
      have h14_0 := TunnelBook.at_Frames hb0_0
      refine ap (y_fieldAddr fo25_1 rfl) ?_
      obtain ⟨v14_1, h14_1, c14_1⟩ := PAt.sl h14_0
      refine ap (y_load_one ty23 rfl (fun _ h => h.sub) rfl c14_1) ?_
      refine ap (y_move rfl) ?_
      obtain ⟨x14_3, q14_3, hm⟩ := bind_some hm
      obtain ⟨b14_3, o14_3, c14_3, e14_3, h14_3⟩ := Sl.elemZ 3 rfl h14_1 q14_3
      refine ap (y_index Tryd.underlying23 ty55 rfl e14_3 rfl (nth_in q14_3)) ?_
      obtain ⟨u14_4, h14_4, c14_4⟩ := PAt.one h14_3
      refine ap (y_load_cells ty55 rfl (fun _ h => h.sub) rfl c14_4 (Rp.len h14_4)) ?_
      refine a_cons (e_alloc (cs := [.slice none 0 0, .int .i64 0, .int .i64 0]) trivial rfl ty55 rfl ?_)
      intro b14_5
      refine a_cons (e_storeWhole (i := 0) (ds := u14_4) trivial ty55 rfl rfl rfl rfl (Rp.len h14_4) ((Rp.one h14_4)) rfl ?_)
      refine a_nil ?_
      refine a_freeze (α := TunnelFrame) (x := x14_3) (i := 0) rfl h14_4 ?_
      intro Hb14_5 lb14_5 hb14_5
      have hb0_0 := PAt.mono lb14_5 hb0_0
      have h14_0 := PAt.mono lb14_5 h14_0
      have h14_1 := Sl.mono lb14_5 h14_1
      have h14_3 := PAt.mono lb14_5 h14_3
      have h14_4 := Rp.mono lb14_5 h14_4
      refine a_en [(1, .pointer (some ⟨b0_0, 0, none⟩)), (7, .int .i64 yj12_7), (8, .pointer (some ⟨b14_5, 0, none⟩))] ?_
      refine a_own [] (by decide) (L' := []) rfl ?_
      refine a_then ?_
      refine a_seq ?_
      obtain ⟨s_j15, hs_j15, hm_j15⟩ := bind_some hm
      refine a_join (fun a_ w_ => ∃ (yj15_3 : Bool), yj15_3 = s_j15 ∧ Ag 109 [] [(1, .pointer (some ⟨b0_0, 0, none⟩)), (3, .bool yj15_3), (7, .int .i64 yj12_7), (8, .pointer (some ⟨b14_5, 0, none⟩))] a_ ∧ St (Kp.mk w H noX) Hb14_5 [] w_) ?_ ?_
      · have hm := hs_j15
        refine a_region rfl ?_
        have h15_0 := TunnelFrame.at_Stay hb14_5
        refine ap (y_fieldAddr fo55_0 rfl) ?_
        obtain ⟨v15_1, h15_1, c15_1⟩ := PAt.sl h15_0
        refine ap (y_load_one ty26 rfl (fun _ h => h.sub) rfl c15_1) ?_
        refine ap (y_len_sl Tryd.underlying26 rfl h15_1) ?_
        have h15_3 := TunnelBook.at_Parts hb0_0
        refine ap (y_fieldAddr fo25_0 rfl) ?_
        obtain ⟨v15_4, h15_4, c15_4⟩ := PAt.sl h15_3
        refine ap (y_load_one ty22 rfl (fun _ h => h.sub) rfl c15_4) ?_
        refine ap (y_len_sl Tryd.underlying22 rfl h15_4) ?_
        refine ap (y_eql rfl rfl) ?_
        refine ap (y_move rfl) ?_
        rcases Bool.eq_false_or_eq_true ((x14_3.Stay.length : Int) == (p0.Parts.length : Int)) with k15_8 | k15_8
        · have hm := cond_t k15_8 hm
          have h15_8 := TunnelFrame.at_Need hb14_5
          refine ag ⟨_, _, rfl, rfl, k15_8⟩ (y_fieldAddr fo55_1 rfl) ?_
          obtain ⟨u15_9, h15_9, c15_9⟩ := PAt.one h15_8
          refine ag ⟨_, _, rfl, rfl, k15_8⟩ (y_load_cells ty32 rfl (fun _ h => h.sub) rfl c15_9 (Rp.len h15_9)) ?_
          obtain ⟨x15_10, q15_10, hm⟩ := bind_some hm
          refine a_cons (e_callV (all := [.agg u15_9.toArray, .int .i64 0, .int .i64 999]) (v := .bool x15_10) ⟨_, _, rfl, rfl, k15_8⟩ rfl Tryd.func87 rfl rfl rfl rfl rfl (fun w hw => ok_87 hw h15_9 q15_10) ?_)
          refine ap (y_pick_t rfl k15_8 rfl) ?_
          refine ap (y_assign rfl) ?_
          refine a_nil ?_
          refine a_en [(1, .pointer (some ⟨b0_0, 0, none⟩)), (3, .bool x15_10), (7, .int .i64 yj12_7), (8, .pointer (some ⟨b14_5, 0, none⟩)), (88, .pointer (some ⟨b14_5, 0 + 1, none⟩)), (89, .agg u15_9.toArray), (90, .bool x15_10)] ?_
          refine a_cut ?_
          intro a_ w_ ha_ hs_
          exact ⟨x15_10, Option.some.inj hm, ha_.weaken ⟨rfl, rfl, rfl, rfl, trivial⟩, hs_.reix [] (by decide)⟩
        have hm := cond_f k15_8 hm
        refine as1 (sk1 rfl rfl k15_8) ?_
        refine as1 (sk1 rfl rfl k15_8) ?_
        refine as1 (sk1 rfl rfl k15_8) ?_
        refine ap (y_pick_f rfl k15_8 rfl) ?_
        refine ap (y_assign rfl) ?_
        refine a_nil ?_
        refine a_en [(1, .pointer (some ⟨b0_0, 0, none⟩)), (3, .bool false), (7, .int .i64 yj12_7), (8, .pointer (some ⟨b14_5, 0, none⟩)), (88, undef), (89, undef), (90, undef)] ?_
        refine a_cut ?_
        intro a_ w_ ha_ hs_
        exact ⟨false, Option.some.inj hm, ha_.weaken ⟨rfl, rfl, rfl, rfl, trivial⟩, hs_.reix [] (by decide)⟩
      have hm := hm_j15
      rintro a_ w_ ⟨yj15_3, rfl, ha_, hs_⟩
      try dsimp only at hm
      refine a_start ha_ hs_ ?_
      refine a_then ?_
      refine a_seq ?_
      refine a_region rfl ?_
      refine ap (y_assign rfl) ?_
      refine a_nil ?_
      refine a_then ?_
      obtain ⟨s_j16, hs_j16, hm_j16⟩ := bind_some hm
      refine a_join (fun a_ w_ => ∃ (yj16_3 : Bool), yj16_3 = s_j16 ∧ Ag 109 [] [(1, .pointer (some ⟨b0_0, 0, none⟩)), (3, .bool yj16_3), (7, .int .i64 yj12_7)] a_ ∧ St (Kp.mk w H noX) Hb14_5 [] w_) ?_ ?_
      · have hm := hs_j16
        refine a_block ?_
        refine a_loop (fun n_j17 a_ w_ => ∃ (yj17_3 : Bool), ∃ (yj17_9 : Int), law03_sound_lj17 k x14_3 n_j17 yj17_3 yj17_9 = some s_j16 ∧ Ag 109 [] [(1, .pointer (some ⟨b0_0, 0, none⟩)), (3, .bool yj17_3), (7, .int .i64 yj12_7), (8, .pointer (some ⟨b14_5, 0, none⟩)), (9, .int .i64 yj17_9)] a_ ∧ St (Kp.mk w H noX) Hb14_5 [] w_) k ?_ ?_
        · intro a_ w_ ha_ hs_
          exact ⟨yj15_3, 0, hm, ha_.weaken ⟨rfl, rfl, rfl, rfl, rfl, trivial⟩, hs_.reix [] (by decide)⟩
        rintro (_ | n_j17) a_ w_ ⟨yj17_3, yj17_9, hm, ha_, hs_⟩
        · rw [law03_sound_lj17.eq_1] at hm; cases hm
        rw [law03_sound_lj17.eq_2] at hm
        refine a_start ha_ hs_ ?_
        refine a_seq ?_
        refine a_seq ?_
        obtain ⟨s_j18, hs_j18, hm_j18⟩ := bind_some hm
        refine a_join (fun a_ w_ => ∃ (yj18_99 : Bool), yj18_99 = s_j18 ∧ Ag 109 [] [(1, .pointer (some ⟨b0_0, 0, none⟩)), (3, .bool yj17_3), (7, .int .i64 yj12_7), (8, .pointer (some ⟨b14_5, 0, none⟩)), (9, .int .i64 yj17_9), (99, .bool yj18_99)] a_ ∧ St (Kp.mk w H noX) Hb14_5 [] w_) ?_ ?_
        · have hm := hs_j18
          refine a_region rfl ?_
          refine ap (y_move rfl) ?_
          refine ap (y_move rfl) ?_
          rcases Bool.eq_false_or_eq_true (yj17_3) with k17_2 | k17_2
          · have hm := cond_t k17_2 hm
            refine ag ⟨_, _, rfl, rfl, k17_2⟩ (y_move rfl) ?_
            have h17_3 := TunnelFrame.at_Stay hb14_5
            refine ag ⟨_, _, rfl, rfl, k17_2⟩ (y_fieldAddr fo55_0 rfl) ?_
            obtain ⟨v17_4, h17_4, c17_4⟩ := PAt.sl h17_3
            refine ag ⟨_, _, rfl, rfl, k17_2⟩ (y_load_one ty26 rfl (fun _ h => h.sub) rfl c17_4) ?_
            refine ag ⟨_, _, rfl, rfl, k17_2⟩ (y_len_sl Tryd.underlying26 rfl h17_4) ?_
            refine ag ⟨_, _, rfl, rfl, k17_2⟩ (y_lss rfl rfl) ?_
            refine ap (y_pick_t rfl k17_2 rfl) ?_
            refine a_nil ?_
            refine a_en [(1, .pointer (some ⟨b0_0, 0, none⟩)), (3, .bool yj17_3), (7, .int .i64 yj12_7), (8, .pointer (some ⟨b14_5, 0, none⟩)), (9, .int .i64 yj17_9), (94, .int .i64 yj17_9), (95, .pointer (some ⟨b14_5, 0 + 0, none⟩)), (96, v17_4), (97, .int .i64 (x14_3.Stay.length : Int)), (98, .bool (decide (yj17_9 < (x14_3.Stay.length : Int)))), (99, .bool (decide (yj17_9 < (x14_3.Stay.length : Int))))] ?_
            refine a_cut ?_
            intro a_ w_ ha_ hs_
            exact ⟨decide (yj17_9 < (x14_3.Stay.length : Int)), Option.some.inj hm, ha_.weaken ⟨rfl, rfl, rfl, rfl, rfl, rfl, trivial⟩, hs_.reix [] (by decide)⟩
          have hm := cond_f k17_2 hm
          refine as1 (sk1 rfl rfl k17_2) ?_
          refine as1 (sk1 rfl rfl k17_2) ?_
          refine as1 (sk1 rfl rfl k17_2) ?_
          refine as1 (sk1 rfl rfl k17_2) ?_
          refine as1 (sk1 rfl rfl k17_2) ?_
          refine ap (y_pick_f rfl k17_2 rfl) ?_
          refine a_nil ?_
          refine a_en [(1, .pointer (some ⟨b0_0, 0, none⟩)), (3, .bool yj17_3), (7, .int .i64 yj12_7), (8, .pointer (some ⟨b14_5, 0, none⟩)), (9, .int .i64 yj17_9), (94, undef), (95, undef), (96, undef), (97, undef), (98, undef), (99, .bool false)] ?_
          refine a_cut ?_
          intro a_ w_ ha_ hs_
          exact ⟨false, Option.some.inj hm, ha_.weaken ⟨rfl, rfl, rfl, rfl, rfl, rfl, trivial⟩, hs_.reix [] (by decide)⟩
        have hm := hm_j18
        rintro a_ w_ ⟨yj18_99, rfl, ha_, hs_⟩
        try dsimp only at hm
        refine a_start ha_ hs_ ?_
        refine a_then ?_
        refine a_cond rfl (fun k_19 => ?_) (fun k_19 => ?_)
        · have hm := cond_t k_19 hm
          refine a_skip ?_
          refine a_then ?_
          refine a_seq ?_
          refine a_block ?_
          refine a_region rfl ?_
          have h19_0 := TunnelFrame.at_Stay hb14_5
          refine ap (y_fieldAddr fo55_0 rfl) ?_
          obtain ⟨v19_1, h19_1, c19_1⟩ := PAt.sl h19_0
          refine ap (y_load_one ty26 rfl (fun _ h => h.sub) rfl c19_1) ?_
          refine ap (y_move rfl) ?_
          obtain ⟨x19_3, q19_3, hm⟩ := bind_some hm
          obtain ⟨b19_3, o19_3, c19_3, e19_3, h19_3⟩ := Sl.elemZ 1 rfl h19_1 q19_3
          refine ap (y_index Tryd.underlying26 ty3 rfl e19_3 rfl (nth_in q19_3)) ?_
          refine ap (y_load_int ty3 rfl (fun _ h => h.sub) rfl h19_3) ?_
          obtain ⟨x19_5, q19_5, hm⟩ := bind_some hm
          refine a_cons (e_callV (all := [.int .i64 x19_3, .int .i64 0, .int .i64 20]) (v := .bool x19_5) trivial rfl Tryd.func50 rfl rfl rfl rfl rfl (fun w hw => ok_50 hw q19_5) ?_)
          refine ap (y_assign rfl) ?_
          refine a_nil ?_
          refine a_en [(1, .pointer (some ⟨b0_0, 0, none⟩)), (3, .bool x19_5), (7, .int .i64 yj12_7), (8, .pointer (some ⟨b14_5, 0, none⟩)), (9, .int .i64 yj17_9)] ?_
          refine a_block_normal ?_
          refine a_then ?_
          refine a_region rfl ?_
          refine ap (y_move rfl) ?_
          refine ap (y_add rfl rfl) ?_
          refine ap (y_assign rfl) ?_
          refine a_nil ?_
          refine a_en [(1, .pointer (some ⟨b0_0, 0, none⟩)), (3, .bool x19_5), (7, .int .i64 yj12_7), (8, .pointer (some ⟨b14_5, 0, none⟩)), (9, .int .i64 (IntKind.i64.wrap (yj17_9 + 1)))] ?_
          refine a_then ?_
          intro a_ w_ ha_ hs_
          exact ⟨n_j17, Nat.lt_succ_self _, x19_5, IntKind.i64.wrap (yj17_9 + 1), hm, ha_.weaken ⟨rfl, rfl, rfl, rfl, rfl, trivial⟩, hs_.reix [] (by decide)⟩
        have hm := cond_f k_19 hm
        refine a_exit ?_
        refine a_then_exit ?_
        refine a_then_exit ?_
        refine a_block_hit ?_
        refine a_cut ?_
        intro a_ w_ ha_ hs_
        exact ⟨yj17_3, Option.some.inj hm, ha_.weaken ⟨rfl, rfl, rfl, trivial⟩, hs_.reix [] (by decide)⟩
      have hm := hm_j16
      rintro a_ w_ ⟨yj16_3, rfl, ha_, hs_⟩
      try dsimp only at hm
      refine a_start ha_ hs_ ?_
      refine a_block_normal ?_
      refine a_then ?_
      refine a_region rfl ?_
      refine ap (y_move rfl) ?_
      refine ap (y_add rfl rfl) ?_
      refine ap (y_assign rfl) ?_
      refine a_nil ?_
      refine a_en [(1, .pointer (some ⟨b0_0, 0, none⟩)), (3, .bool yj16_3), (7, .int .i64 (IntKind.i64.wrap (yj12_7 + 1)))] ?_
      refine a_then ?_
      intro a_ w_ ha_ hs_
      exact ⟨n_j12, Nat.lt_succ_self _, Hb14_5, (lj12.trans lb14_5), yj16_3, IntKind.i64.wrap (yj12_7 + 1), hm, ha_.weaken ⟨rfl, rfl, rfl, trivial⟩, hs_.reix [] (by decide)⟩
    have hm := cond_f k_14 hm
    refine a_exit ?_
    refine a_then_exit ?_
    refine a_then_exit ?_
    refine a_block_hit ?_
    refine a_cut ?_
    intro a_ w_ ha_ hs_
    exact ⟨Hj12, lj12, yj12_3, Option.some.inj hm, ha_.weaken ⟨rfl, trivial⟩, hs_.reix [] (by decide)⟩
  have hm := hm_j11
  rintro a_ w_ ⟨Hj11, lj11, yj11_3, rfl, ha_, hs_⟩
  try dsimp only at hm
  refine a_start ha_ hs_ ?_
  refine a_then ?_
  refine a_seq ?_
  refine a_region rfl ?_
  refine ap (y_move rfl) ?_
  refine ap (y_assign rfl) ?_
  refine a_nil ?_
  refine a_en [(2, .bool yj11_3)] ?_
  refine a_then ?_
  refine a_ret ?_
  refine a_done (v := .bool yj11_3) (.inl rfl) rfl ?_ ?_
  · intro a_ w_ ha_ hs_; exact run_results (P := Tryd.prog) (fn := Tryd.f43) (rs := [.tmp 2]) (vs := [.bool yj11_3]) rfl (.cons (rv_tmp ha_ rfl) (All2.nil))
  · intro _ _; obtain rfl := Option.some.inj hm
    rfl

def ref00_Spin (k : Nat) (p0 : Int) (p1 : Int) : Option Int :=
 bif decide (p1 < 1) then
 some (0)
 else
 (rem p0 p1).bind fun x3_2 =>
 bif decide (x3_2 < 0) then
 some ((IntKind.i64.wrap (x3_2 + p1)))
 else
 some (x3_2)
theorem ok_52 {k : Nat} {H : Hp} {w : World} {p0 : Int} {p1 : Int} {r : Int} (hsub : Sub H w)  (hm : ref00_Spin k p0 p1 = some r) : Calls Tryd.prog 52 [.int .i64 p0, .int .i64 p1].toArray w (PostV w H (.int .i64 r)) := by
  unfold ref00_Spin at hm
  refine start (n := 17) (E := [(0, .int .i64 p0), (1, .int .i64 p1)]) Tryd.func52 rfl rfl ⟨rfl, rfl, trivial⟩ rfl hsub ?_
  refine a_seq ?_
  refine a_region rfl ?_
  refine ap (y_assign rfl) ?_
  refine a_nil ?_
  refine a_en [(0, .int .i64 p0), (1, .int .i64 p1)] ?_
  refine a_then ?_
  refine a_seq ?_
  refine a_seq ?_
  refine a_region rfl ?_
  refine ap (y_move rfl) ?_
  refine ap (y_lss rfl rfl) ?_
  refine a_nil ?_
  refine a_en [(0, .int .i64 p0), (1, .int .i64 p1), (7, .bool (decide (p1 < 1)))] ?_
  refine a_then ?_
  refine a_cond rfl (fun k_1 => ?_) (fun k_1 => ?_)
  · have hm := cond_t k_1 hm
    refine a_seq ?_
    refine a_region rfl ?_
    refine ap (y_assign rfl) ?_
    refine a_nil ?_
    refine a_en [(4, .int .i64 0)] ?_
    refine a_then ?_
    refine a_ret ?_
    refine a_then_ret ?_
    refine a_done (v := .int .i64 0) (.inl rfl) rfl ?_ ?_
    · intro a_ w_ ha_ hs_; exact run_results (P := Tryd.prog) (fn := Tryd.f52) (rs := [.tmp 4]) (vs := [.int .i64 0]) rfl (.cons (rv_tmp ha_ rfl) (All2.nil))
    · intro _ _; obtain rfl := Option.some.inj hm
      rfl
  have hm := cond_f k_1 hm
  refine a_skip ?_
  refine a_then ?_
  refine a_seq ?_
  refine a_region rfl ?_
  refine ap (y_move rfl) ?_
  refine ap (y_move rfl) ?_
  obtain ⟨x3_2, q3_2, hm⟩ := bind_some hm
  refine ap (y_rem_some rfl rfl q3_2) ?_
  refine ap (y_assign rfl) ?_
  refine a_nil ?_
  refine a_en [(1, .int .i64 p1), (5, .int .i64 x3_2)] ?_
  refine a_then ?_
  refine a_seq ?_
  refine a_seq ?_
  refine a_region rfl ?_
  refine ap (y_move rfl) ?_
  refine ap (y_lss rfl rfl) ?_
  refine a_nil ?_
  refine a_en [(1, .int .i64 p1), (5, .int .i64 x3_2), (12, .bool (decide (x3_2 < 0)))] ?_
  refine a_then ?_
  refine a_cond rfl (fun k_2 => ?_) (fun k_2 => ?_)
  · have hm := cond_t k_2 hm
    refine a_region rfl ?_
    refine ap (y_move rfl) ?_
    refine ap (y_move rfl) ?_
    refine ap (y_add rfl rfl) ?_
    refine ap (y_assign rfl) ?_
    refine a_nil ?_
    refine a_en [(5, .int .i64 (IntKind.i64.wrap (x3_2 + p1)))] ?_
    refine a_then ?_
    refine a_seq ?_
    refine a_region rfl ?_
    refine ap (y_move rfl) ?_
    refine ap (y_assign rfl) ?_
    refine a_nil ?_
    refine a_en [(4, .int .i64 (IntKind.i64.wrap (x3_2 + p1)))] ?_
    refine a_then ?_
    refine a_ret ?_
    refine a_done (v := .int .i64 (IntKind.i64.wrap (x3_2 + p1))) (.inl rfl) rfl ?_ ?_
    · intro a_ w_ ha_ hs_; exact run_results (P := Tryd.prog) (fn := Tryd.f52) (rs := [.tmp 4]) (vs := [.int .i64 (IntKind.i64.wrap (x3_2 + p1))]) rfl (.cons (rv_tmp ha_ rfl) (All2.nil))
    · intro _ _; obtain rfl := Option.some.inj hm
      rfl
  have hm := cond_f k_2 hm
  refine a_skip ?_
  refine a_then ?_
  refine a_seq ?_
  refine a_region rfl ?_
  refine ap (y_move rfl) ?_
  refine ap (y_assign rfl) ?_
  refine a_nil ?_
  refine a_en [(4, .int .i64 x3_2)] ?_
  refine a_then ?_
  refine a_ret ?_
  refine a_done (v := .int .i64 x3_2) (.inl rfl) rfl ?_ ?_
  · intro a_ w_ ha_ hs_; exact run_results (P := Tryd.prog) (fn := Tryd.f52) (rs := [.tmp 4]) (vs := [.int .i64 x3_2]) rfl (.cons (rv_tmp ha_ rfl) (All2.nil))
  · intro _ _; obtain rfl := Option.some.inj hm
    rfl

def ref00_Item (k : Nat) (p0 : List Int) (p1 : Int) : Option Int :=
 bif (p0.length : Int) == 0 then
 some (0)
 else
 (ref00_Spin k p1 (p0.length : Int)).bind fun x3_4 =>
 (nth p0 x3_4).bind fun x3_5 =>
 some (x3_5)
theorem ok_57 {k : Nat} {H : Hp} {w : World} {p0 : List Int} {p1 : Int} {v0 : Value} {r : Int} (hsub : Sub H w) (h0 : Sl (α := Int) H v0 p0) (hm : ref00_Item k p0 p1 = some r) : Calls Tryd.prog 57 [v0, .int .i64 p1].toArray w (PostV w H (.int .i64 r)) := by
  unfold ref00_Item at hm
  refine start (n := 15) (E := [(0, v0), (1, .int .i64 p1)]) Tryd.func57 rfl rfl ⟨rfl, rfl, trivial⟩ rfl hsub ?_
  refine a_seq ?_
  refine a_region rfl ?_
  refine ap (y_assign rfl) ?_
  refine a_nil ?_
  refine a_en [(0, v0), (1, .int .i64 p1)] ?_
  refine a_then ?_
  refine a_seq ?_
  refine a_seq ?_
  refine a_region rfl ?_
  refine ap (y_move rfl) ?_
  refine ap (y_len_sl Tryd.underlying26 rfl h0) ?_
  refine ap (y_eql rfl rfl) ?_
  refine a_nil ?_
  refine a_en [(0, v0), (1, .int .i64 p1), (7, .bool ((p0.length : Int) == 0))] ?_
  refine a_then ?_
  refine a_cond rfl (fun k_1 => ?_) (fun k_1 => ?_)
  · have hm := cond_t k_1 hm
    refine a_seq ?_
    refine a_region rfl ?_
    refine ap (y_assign rfl) ?_
    refine a_nil ?_
    refine a_en [(4, .int .i64 0)] ?_
    refine a_then ?_
    refine a_ret ?_
    refine a_then_ret ?_
    refine a_done (v := .int .i64 0) (.inl rfl) rfl ?_ ?_
    · intro a_ w_ ha_ hs_; exact run_results (P := Tryd.prog) (fn := Tryd.f57) (rs := [.tmp 4]) (vs := [.int .i64 0]) rfl (.cons (rv_tmp ha_ rfl) (All2.nil))
    · intro _ _; obtain rfl := Option.some.inj hm
      rfl
  have hm := cond_f k_1 hm
  refine a_skip ?_
  refine a_then ?_
  refine a_seq ?_
  refine a_region rfl ?_
  refine ap (y_move rfl) ?_
  refine ap (y_move rfl) ?_
  refine ap (y_move rfl) ?_
  refine ap (y_len_sl Tryd.underlying26 rfl h0) ?_
  obtain ⟨x3_4, q3_4, hm⟩ := bind_some hm
  refine a_cons (e_callV (all := [.int .i64 p1, .int .i64 (p0.length : Int)]) (v := .int .i64 x3_4) trivial rfl Tryd.func52 rfl rfl rfl rfl rfl (fun w hw => ok_52 hw q3_4) ?_)
  obtain ⟨x3_5, q3_5, hm⟩ := bind_some hm
  obtain ⟨b3_5, o3_5, c3_5, e3_5, h3_5⟩ := Sl.elemZ 1 rfl h0 q3_5
  refine ap (y_index Tryd.underlying26 ty3 rfl e3_5 rfl (nth_in q3_5)) ?_
  refine ap (y_load_int ty3 rfl (fun _ h => h.sub) rfl h3_5) ?_
  refine ap (y_assign rfl) ?_
  refine a_nil ?_
  refine a_en [(4, .int .i64 x3_5)] ?_
  refine a_then ?_
  refine a_ret ?_
  refine a_done (v := .int .i64 x3_5) (.inl rfl) rfl ?_ ?_
  · intro a_ w_ ha_ hs_; exact run_results (P := Tryd.prog) (fn := Tryd.f57) (rs := [.tmp 4]) (vs := [.int .i64 x3_5]) rfl (.cons (rv_tmp ha_ rfl) (All2.nil))
  · intro _ _; obtain rfl := Option.some.inj hm
    rfl

def law03_setting_lj2 (k : Nat) (p0 : TunnelBook) (p1 : List Int) : Nat → (List Int) → Int → Option (List Int)
 | 0, _, _ => none
 | n_j2 + 1, yj2_5, yj2_6 =>
 bif decide (yj2_6 < (p0.Parts.length : Int)) then
 (ref00_Item k p1 yj2_6).bind fun x5_3 =>
 (ref00_Spin k x5_3 4).bind fun x5_4 =>
 (app yj2_5 [x5_4]).bind fun x5_6 =>
 law03_setting_lj2 k p0 p1 n_j2 x5_6 (IntKind.i64.wrap (yj2_6 + 1))
 else
 some (yj2_5)
def law03_setting (k : Nat) (p0 : TunnelBook) (p1 : List Int) : Option (List Int) :=
 (law03_setting_lj2 k p0 p1 k ([] : List Int) 0).bind fun yj1_5 =>
 some (yj1_5)
theorem ok_45 {k : Nat} {H : Hp} {w : World} {p0 : TunnelBook} {p1 : List Int} {c0 : List Value} {v1 : Value} {r : List Int} (hsub : Sub H w) (h0 : Rp.rep (α := TunnelBook) H c0 p0) (h1 : Sl (α := Int) H v1 p1) (hm : law03_setting k p0 p1 = some r) : Calls Tryd.prog 45 [.agg c0.toArray, v1].toArray w (PostH w H fun v H' => ∃ v0, v = v0 ∧ Sl (α := Int) H' v0 r) := by
  unfold law03_setting at hm
  refine start (n := 22) (E := [(0, .agg c0.toArray), (1, v1)]) Tryd.func45 rfl rfl ⟨rfl, rfl, trivial⟩ rfl hsub ?_
  refine a_seq ?_
  refine a_region rfl ?_
  refine a_cons (e_box (cs := c0) trivial rfl rfl rfl ?_)
  intro b0_0
  refine ap (y_assign rfl) ?_
  refine a_nil ?_
  refine a_freeze (α := TunnelBook) (x := p0) (i := 0) rfl h0 ?_
  intro Hb0_0 lb0_0 hb0_0
  have h0 := Rp.mono lb0_0 h0
  have h1 := Sl.mono lb0_0 h1
  refine a_en [(1, v1), (2, .pointer (some ⟨b0_0, 0, none⟩))] ?_
  refine a_own [] (by decide) (L' := []) rfl ?_
  refine a_then ?_
  refine a_seq ?_
  refine a_region rfl ?_
  refine ap (y_assign rfl) ?_
  refine a_nil ?_
  refine a_then ?_
  refine a_seq ?_
  refine a_seq ?_
  refine a_region rfl ?_
  refine ap (y_assign rfl) ?_
  refine a_nil ?_
  refine a_then ?_
  obtain ⟨s_j1, hs_j1, hm_j1⟩ := bind_some hm
  refine a_join (fun a_ w_ => ∃ (yj1_5 : List Int), ∃ (vj1_5 : Value), ∃ (uj1_5 : List Value), yj1_5 = s_j1 ∧ RepL (α := Int) Hb0_0 uj1_5 yj1_5 ∧ Ag 22 [] [(5, vj1_5)] a_ ∧ St (Kp.mk w H noX) Hb0_0 [.row vj1_5 uj1_5 3 1] w_) ?_ ?_
  · have hm := hs_j1
    refine a_block ?_
    refine a_loop (fun n_j2 a_ w_ => ∃ (yj2_5 : List Int), ∃ (yj2_6 : Int), ∃ (vj2_5 : Value), ∃ (uj2_5 : List Value), law03_setting_lj2 k p0 p1 n_j2 yj2_5 yj2_6 = some s_j1 ∧ RepL (α := Int) Hb0_0 uj2_5 yj2_5 ∧ Ag 22 [] [(1, v1), (2, .pointer (some ⟨b0_0, 0, none⟩)), (5, vj2_5), (6, .int .i64 yj2_6)] a_ ∧ St (Kp.mk w H noX) Hb0_0 [.row vj2_5 uj2_5 3 1] w_) k ?_ ?_
    · refine a_nilrow (x := none) (T := 3) (sz := 1) ?_
      have hzrj2_5 : RepL (α := Int) Hb0_0 [] [] := RepL.nil
      intro a_ w_ ha_ hs_
      exact ⟨([] : List Int), 0, .slice none 0 0, [], hm, hzrj2_5, ha_.weaken ⟨rfl, rfl, rfl, rfl, trivial⟩, hs_.reix [0] (by decide)⟩
    rintro (_ | n_j2) a_ w_ ⟨yj2_5, yj2_6, vj2_5, uj2_5, hm, hj2_5, ha_, hs_⟩
    · rw [law03_setting_lj2.eq_1] at hm; cases hm
    rw [law03_setting_lj2.eq_2] at hm
    refine a_start ha_ hs_ ?_
    refine a_seq ?_
    refine a_seq ?_
    refine a_region rfl ?_
    refine ap (y_move rfl) ?_
    have h3_1 := TunnelBook.at_Parts hb0_0
    refine ap (y_fieldAddr fo25_0 rfl) ?_
    obtain ⟨v3_2, h3_2, c3_2⟩ := PAt.sl h3_1
    refine ap (y_load_one ty22 rfl (fun _ h => h.sub) rfl c3_2) ?_
    refine ap (y_len_sl Tryd.underlying22 rfl h3_2) ?_
    refine ap (y_lss rfl rfl) ?_
    refine a_nil ?_
    refine a_en [(1, v1), (2, .pointer (some ⟨b0_0, 0, none⟩)), (5, vj2_5), (6, .int .i64 yj2_6), (11, .bool (decide (yj2_6 < (p0.Parts.length : Int))))] ?_
    refine a_then ?_
    refine a_cond rfl (fun k_3 => ?_) (fun k_3 => ?_)
    · have hm := cond_t k_3 hm
      refine a_skip ?_
      refine a_then ?_
      refine a_seq ?_
      refine a_block ?_
      refine a_region rfl ?_
      refine ap (y_move rfl) ?_
      refine ap (y_move rfl) ?_
      refine ap (y_move rfl) ?_
      obtain ⟨x5_3, q5_3, hm⟩ := bind_some hm
      refine a_cons (e_callV (all := [v1, .int .i64 yj2_6]) (v := .int .i64 x5_3) trivial rfl Tryd.func57 rfl rfl rfl rfl rfl (fun w hw => ok_57 hw h1 q5_3) ?_)
      obtain ⟨x5_4, q5_4, hm⟩ := bind_some hm
      refine a_cons (e_callV (all := [.int .i64 x5_3, .int .i64 4]) (v := .int .i64 x5_4) trivial rfl Tryd.func52 rfl rfl rfl rfl rfl (fun w hw => ok_52 hw q5_4) ?_)
      refine a_cons (e_buildSlice (xs := [.tmp 18]) (cs := [.int .i64 x5_4]) trivial rfl Tryd.underlying26 ty3 rfl rfl rfl (by simp [Value.cells]) rfl (rfl) ?_)
      intro v5_5
      have h5_5 : RepL (α := Int) Hb0_0 ([.int .i64 x5_4]) [x5_4] := (RepL.cons (α := Int) (c := [.int .i64 x5_4]) rfl (RepL.nil (α := Int)))
      obtain ⟨x5_6, q5_6, hm⟩ := bind_some hm
      refine a_cons (e_app_row (i := 1) (j := 0) trivial rfl Tryd.underlying26 Tryd.underlying26 ty3 rfl rfl rfl rfl rfl rfl rfl rfl hj2_5 rfl h5_5 q5_6 ?_)
      intro v5_6 u5_6 h5_6
      refine ap (y_assign rfl) ?_
      refine a_nil ?_
      refine a_en [(1, v1), (2, .pointer (some ⟨b0_0, 0, none⟩)), (5, v5_6), (6, .int .i64 yj2_6)] ?_
      refine a_own [1] (by decide) (L' := [.row v5_6 u5_6 3 1]) rfl ?_
      refine a_block_normal ?_
      refine a_then ?_
      refine a_region rfl ?_
      refine ap (y_move rfl) ?_
      refine ap (y_add rfl rfl) ?_
      refine ap (y_assign rfl) ?_
      refine a_nil ?_
      refine a_en [(1, v1), (2, .pointer (some ⟨b0_0, 0, none⟩)), (5, v5_6), (6, .int .i64 (IntKind.i64.wrap (yj2_6 + 1)))] ?_
      refine a_then ?_
      intro a_ w_ ha_ hs_
      exact ⟨n_j2, Nat.lt_succ_self _, x5_6, IntKind.i64.wrap (yj2_6 + 1), v5_6, u5_6, hm, h5_6, ha_.weaken ⟨rfl, rfl, rfl, rfl, trivial⟩, hs_.reix [0] (by decide)⟩
    have hm := cond_f k_3 hm
    refine a_exit ?_
    refine a_then_exit ?_
    refine a_then_exit ?_
    refine a_block_hit ?_
    refine a_cut ?_
    intro a_ w_ ha_ hs_
    exact ⟨yj2_5, vj2_5, uj2_5, Option.some.inj hm, hj2_5, ha_.weaken ⟨rfl, trivial⟩, hs_.reix [0] (by decide)⟩
  have hm := hm_j1
  rintro a_ w_ ⟨yj1_5, vj1_5, uj1_5, rfl, hj1_5, ha_, hs_⟩
  try dsimp only at hm
  refine a_start ha_ hs_ ?_
  refine a_then ?_
  refine a_seq ?_
  refine a_region rfl ?_
  refine ap (y_move rfl) ?_
  refine ap (y_assign rfl) ?_
  refine a_nil ?_
  refine a_en [(4, vj1_5)] ?_
  refine a_then ?_
  refine a_ret ?_
  refine a_frow (i := 0) rfl rfl hj1_5 rfl ?_
  intro Hef lef hef
  refine a_done (v := vj1_5) (.inl rfl) rfl ?_ ?_
  · intro a_ w_ ha_ hs_; exact run_results (P := Tryd.prog) (fn := Tryd.f45) (rs := [.tmp 4]) (vs := [vj1_5]) rfl (.cons (rv_tmp ha_ rfl) (All2.nil))
  · intro _ _; obtain rfl := Option.some.inj hm; exact ⟨vj1_5, rfl, hef⟩

def ref00_Grows_lj2 (k : Nat) (p0 : List Int) (p1 : Int) : Nat → Int → Option (Sum Bool Unit)
 | 0, _ => none
 | n_j2 + 1, yj2_5 =>
 bif decide (yj2_5 < (p0.length : Int)) then
 ((nth p0 yj2_5).bind fun x4_2 =>
 (ref00_Fits k x4_2 0 (IntKind.i64.wrap (p1 - 1))).bind fun x4_6 =>
 bif !x4_6 then
 some (true)
 else
 bif decide (yj2_5 > 0) then
 (nth p0 yj2_5).bind fun x4_14 =>
 (nth p0 (IntKind.i64.wrap (yj2_5 - 1))).bind fun x4_19 =>
 some ((decide (x4_14 ≤ x4_19)))
 else
 some (false)).bind fun yj4_35 =>
 bif yj4_35 then
 some (Sum.inl false)
 else
 ref00_Grows_lj2 k p0 p1 n_j2 (IntKind.i64.wrap (yj2_5 + 1))
 else
 some (Sum.inr ())
def ref00_Grows (k : Nat) (p0 : List Int) (p1 : Int) : Option Bool :=
 (ref00_Grows_lj2 k p0 p1 k 0).bind fun o => (match o with
 | .inl r => some r
 | .inr _ =>
 some (true))
theorem ok_46 {k : Nat} {H : Hp} {w : World} {p0 : List Int} {p1 : Int} {v0 : Value} {r : Bool} (hsub : Sub H w) (h0 : Sl (α := Int) H v0 p0) (hm : ref00_Grows k p0 p1 = some r) : Calls Tryd.prog 46 [v0, .int .i64 p1].toArray w (PostV w H (.bool r)) := by
  unfold ref00_Grows at hm
  refine start (n := 36) (E := [(0, v0), (1, .int .i64 p1)]) Tryd.func46 rfl rfl ⟨rfl, rfl, trivial⟩ rfl hsub ?_
  refine a_seq ?_
  refine a_region rfl ?_
  refine ap (y_assign rfl) ?_
  refine a_nil ?_
  refine a_en [(0, v0), (1, .int .i64 p1)] ?_
  refine a_then ?_
  refine a_seq ?_
  refine a_seq ?_
  refine a_region rfl ?_
  refine ap (y_assign rfl) ?_
  refine a_nil ?_
  refine a_then ?_
  obtain ⟨s_j1, hs_j1, hm_j1⟩ := bind_some hm
  refine a_join (fun a_ w_ => Sum.inr () = s_j1 ∧ Ag 36 [] [] a_ ∧ St (Kp.mk w H noX) H [] w_) ?_ ?_
  · have hm := hs_j1
    refine a_block ?_
    refine a_loop (fun n_j2 a_ w_ => ∃ (yj2_5 : Int), ref00_Grows_lj2 k p0 p1 n_j2 yj2_5 = some s_j1 ∧ Ag 36 [] [(0, v0), (1, .int .i64 p1), (5, .int .i64 yj2_5)] a_ ∧ St (Kp.mk w H noX) H [] w_) k ?_ ?_
    · intro a_ w_ ha_ hs_
      exact ⟨0, hm, ha_.weaken ⟨rfl, rfl, rfl, trivial⟩, hs_.reix [] (by decide)⟩
    rintro (_ | n_j2) a_ w_ ⟨yj2_5, hm, ha_, hs_⟩
    · rw [ref00_Grows_lj2.eq_1] at hm; cases hm
    rw [ref00_Grows_lj2.eq_2] at hm
    refine a_start ha_ hs_ ?_
    refine a_seq ?_
    refine a_seq ?_
    refine a_region rfl ?_
    refine ap (y_move rfl) ?_
    refine ap (y_move rfl) ?_
    refine ap (y_len_sl Tryd.underlying26 rfl h0) ?_
    refine ap (y_lss rfl rfl) ?_
    refine a_nil ?_
    refine a_en [(0, v0), (1, .int .i64 p1), (5, .int .i64 yj2_5), (9, .bool (decide (yj2_5 < (p0.length : Int))))] ?_
    refine a_then ?_
    refine a_cond rfl (fun k_3 => ?_) (fun k_3 => ?_)
    · have hm := cond_t k_3 hm
      refine a_skip ?_
      refine a_then ?_
      refine a_seq ?_
      refine a_block ?_
      refine a_seq ?_
      obtain ⟨s_j4, hs_j4, hm_j4⟩ := bind_some hm
      refine a_join (fun a_ w_ => ∃ (yj4_35 : Bool), yj4_35 = s_j4 ∧ Ag 36 [] [(0, v0), (1, .int .i64 p1), (5, .int .i64 yj2_5), (35, .bool yj4_35)] a_ ∧ St (Kp.mk w H noX) H [] w_) ?_ ?_
      · have hm := hs_j4
        obtain ⟨x4_2, q4_2, hm⟩ := bind_some hm
        obtain ⟨x4_6, q4_6, hm⟩ := bind_some hm
        rcases Bool.eq_false_or_eq_true (!x4_6) with k4_9 | k4_9
        · have hm := cond_t k4_9 hm
          refine d_region (S := Sw H []) (n := 24) (listed := (bits 24 0)) mixed (by kernel_rfl) rfl (by kernel_rfl) ?_
          refine dt 0 1 rfl trivial (y_move rfl) (sw0 []) ?_
          refine dt 1 3 rfl trivial (y_move rfl) (sw0 []) ?_
          obtain ⟨b4_2, o4_2, c4_2, e4_2, h4_2⟩ := Sl.elemZ 1 rfl h0 q4_2
          refine dt 2 7 rfl trivial (y_index Tryd.underlying26 ty3 rfl e4_2 rfl (nth_in q4_2)) (sw0 []) ?_
          refine dt 3 15 rfl trivial (y_load_int ty3 rfl (fun _ h => h.1) rfl h4_2) (sw0 []) ?_
          refine dt 4 31 rfl trivial (y_move rfl) (sw0 []) ?_
          refine dt 5 63 rfl trivial (y_sub rfl rfl) (sw0 []) ?_
          refine d1 6 rfl (e_callV (all := [.int .i64 x4_2, .int .i64 0, .int .i64 (IntKind.i64.wrap (p1 - 1))]) (v := .bool x4_6) trivial rfl Tryd.func50 rfl rfl rfl rfl rfl (fun w hw => ok_50 hw q4_6) ?_)
          refine dn 127 (sw0 []) ?_
          refine dt 7 255 rfl trivial (y_not rfl) (sw0 []) ?_
          refine dt 8 511 rfl trivial (y_move rfl) (sw0 []) ?_
          refine dk 9 1023 rfl (sk1 rfl rfl k4_9) (sw0 []) ?_
          refine dk 10 2047 rfl (sk1 rfl rfl k4_9) (sw0 []) ?_
          refine dk 11 4095 rfl (sk1 rfl rfl k4_9) (sw0 []) ?_
          refine dk 12 8191 rfl (sku rfl rfl) (sw0 []) ?_
          refine dk 13 16383 rfl (sku rfl rfl) (sw0 []) ?_
          refine dk 14 32767 rfl (sku rfl rfl) (sw0 []) ?_
          refine dk 15 65535 rfl (sku rfl rfl) (sw0 []) ?_
          refine dk 16 131071 rfl (sku rfl rfl) (sw0 []) ?_
          refine dk 17 262143 rfl (sku rfl rfl) (sw0 []) ?_
          refine dk 18 524287 rfl (sku rfl rfl) (sw0 []) ?_
          refine dk 19 1048575 rfl (sku rfl rfl) (sw0 []) ?_
          refine dk 20 2097151 rfl (sku rfl rfl) (sw0 []) ?_
          refine dk 21 4194303 rfl (sku rfl rfl) (sw0 []) ?_
          refine dk 22 8388607 rfl (sk1 rfl rfl k4_9) (sw0 []) ?_
          refine dt 23 16777215 rfl trivial (y_pick_t rfl k4_9 rfl) (sw0 []) ?_
          refine d_done (by kernel_rfl) ?_
          refine a_en [(0, v0), (1, .int .i64 p1), (5, .int .i64 yj2_5), (21, undef), (22, undef), (23, undef), (24, undef), (25, undef), (26, undef), (27, undef), (28, undef), (29, undef), (30, undef), (31, undef), (32, undef), (33, undef), (34, undef), (35, .bool true)] ?_
          refine a_cut ?_
          intro a_ w_ ha_ hs_
          exact ⟨true, Option.some.inj hm, ha_.weaken ⟨rfl, rfl, rfl, rfl, trivial⟩, hs_.reix [] (by decide)⟩
        have hm := cond_f k4_9 hm
        rcases Bool.eq_false_or_eq_true (decide (yj2_5 > 0)) with k4_12 | k4_12
        · have hm := cond_t k4_12 hm
          obtain ⟨x4_14, q4_14, hm⟩ := bind_some hm
          obtain ⟨x4_19, q4_19, hm⟩ := bind_some hm
          refine d_region (S := Sw H []) (n := 24) (listed := (bits 24 0)) mixed (by kernel_rfl) rfl (by kernel_rfl) ?_
          refine dt 0 1 rfl trivial (y_move rfl) (sw0 []) ?_
          refine dt 1 3 rfl trivial (y_move rfl) (sw0 []) ?_
          obtain ⟨b4_2, o4_2, c4_2, e4_2, h4_2⟩ := Sl.elemZ 1 rfl h0 q4_2
          refine dt 2 7 rfl trivial (y_index Tryd.underlying26 ty3 rfl e4_2 rfl (nth_in q4_2)) (sw0 []) ?_
          refine dt 3 15 rfl trivial (y_load_int ty3 rfl (fun _ h => h.1) rfl h4_2) (sw0 []) ?_
          refine dt 4 31 rfl trivial (y_move rfl) (sw0 []) ?_
          refine dt 5 63 rfl trivial (y_sub rfl rfl) (sw0 []) ?_
          refine d1 6 rfl (e_callV (all := [.int .i64 x4_2, .int .i64 0, .int .i64 (IntKind.i64.wrap (p1 - 1))]) (v := .bool x4_6) trivial rfl Tryd.func50 rfl rfl rfl rfl rfl (fun w hw => ok_50 hw q4_6) ?_)
          refine dn 127 (sw0 []) ?_
          refine dt 7 255 rfl trivial (y_not rfl) (sw0 []) ?_
          refine dt 8 511 rfl trivial (y_move rfl) (sw0 []) ?_
          refine dt 9 1023 rfl ⟨_, _, rfl, rfl, k4_9⟩ (y_move rfl) (sw0 []) ?_
          refine dt 10 2047 rfl ⟨_, _, rfl, rfl, k4_9⟩ (y_gtr rfl rfl) (sw0 []) ?_
          refine dt 11 4095 rfl ⟨_, _, rfl, rfl, k4_9⟩ (y_move rfl) (sw0 []) ?_
          refine dt 12 8191 rfl ⟨_, _, rfl, rfl, k4_12⟩ (y_move rfl) (sw0 []) ?_
          refine dt 13 16383 rfl ⟨_, _, rfl, rfl, k4_12⟩ (y_move rfl) (sw0 []) ?_
          obtain ⟨b4_14, o4_14, c4_14, e4_14, h4_14⟩ := Sl.elemZ 1 rfl h0 q4_14
          refine dt 14 32767 rfl ⟨_, _, rfl, rfl, k4_12⟩ (y_index Tryd.underlying26 ty3 rfl e4_14 rfl (nth_in q4_14)) (sw0 []) ?_
          refine dt 15 65535 rfl ⟨_, _, rfl, rfl, k4_12⟩ (y_load_int ty3 rfl (fun _ h => h.1) rfl h4_14) (sw0 []) ?_
          refine dt 16 131071 rfl ⟨_, _, rfl, rfl, k4_12⟩ (y_move rfl) (sw0 []) ?_
          refine dt 17 262143 rfl ⟨_, _, rfl, rfl, k4_12⟩ (y_move rfl) (sw0 []) ?_
          refine dt 18 524287 rfl ⟨_, _, rfl, rfl, k4_12⟩ (y_sub rfl rfl) (sw0 []) ?_
          obtain ⟨b4_19, o4_19, c4_19, e4_19, h4_19⟩ := Sl.elemZ 1 rfl h0 q4_19
          refine dt 19 1048575 rfl ⟨_, _, rfl, rfl, k4_12⟩ (y_index Tryd.underlying26 ty3 rfl e4_19 rfl (nth_in q4_19)) (sw0 []) ?_
          refine dt 20 2097151 rfl ⟨_, _, rfl, rfl, k4_12⟩ (y_load_int ty3 rfl (fun _ h => h.1) rfl h4_19) (sw0 []) ?_
          refine dt 21 4194303 rfl ⟨_, _, rfl, rfl, k4_12⟩ (y_leq rfl rfl) (sw0 []) ?_
          refine dt 22 8388607 rfl ⟨_, _, rfl, rfl, k4_9⟩ (y_pick_t rfl k4_12 rfl) (sw0 []) ?_
          refine dt 23 16777215 rfl trivial (y_pick_f rfl k4_9 rfl) (sw0 []) ?_
          refine d_done (by kernel_rfl) ?_
          refine a_en [(0, v0), (1, .int .i64 p1), (5, .int .i64 yj2_5), (21, .int .i64 yj2_5), (22, .bool (decide (yj2_5 > 0))), (23, .bool (decide (yj2_5 > 0))), (24, v0), (25, .int .i64 yj2_5), (26, .pointer (some ⟨b4_14, o4_14 + (yj2_5).toNat * 1, none⟩)), (27, .int .i64 x4_14), (28, v0), (29, .int .i64 yj2_5), (30, .int .i64 (IntKind.i64.wrap (yj2_5 - 1))), (31, .pointer (some ⟨b4_19, o4_19 + (IntKind.i64.wrap (yj2_5 - 1)).toNat * 1, none⟩)), (32, .int .i64 x4_19), (33, .bool (decide (x4_14 ≤ x4_19))), (34, .bool (decide (x4_14 ≤ x4_19))), (35, .bool (decide (x4_14 ≤ x4_19)))] ?_
          refine a_cut ?_
          intro a_ w_ ha_ hs_
          exact ⟨decide (x4_14 ≤ x4_19), Option.some.inj hm, ha_.weaken ⟨rfl, rfl, rfl, rfl, trivial⟩, hs_.reix [] (by decide)⟩
        have hm := cond_f k4_12 hm
        refine d_region (S := Sw H []) (n := 24) (listed := (bits 24 0)) mixed (by kernel_rfl) rfl (by kernel_rfl) ?_
        refine dt 0 1 rfl trivial (y_move rfl) (sw0 []) ?_
        refine dt 1 3 rfl trivial (y_move rfl) (sw0 []) ?_
        obtain ⟨b4_2, o4_2, c4_2, e4_2, h4_2⟩ := Sl.elemZ 1 rfl h0 q4_2
        refine dt 2 7 rfl trivial (y_index Tryd.underlying26 ty3 rfl e4_2 rfl (nth_in q4_2)) (sw0 []) ?_
        refine dt 3 15 rfl trivial (y_load_int ty3 rfl (fun _ h => h.1) rfl h4_2) (sw0 []) ?_
        refine dt 4 31 rfl trivial (y_move rfl) (sw0 []) ?_
        refine dt 5 63 rfl trivial (y_sub rfl rfl) (sw0 []) ?_
        refine d1 6 rfl (e_callV (all := [.int .i64 x4_2, .int .i64 0, .int .i64 (IntKind.i64.wrap (p1 - 1))]) (v := .bool x4_6) trivial rfl Tryd.func50 rfl rfl rfl rfl rfl (fun w hw => ok_50 hw q4_6) ?_)
        refine dn 127 (sw0 []) ?_
        refine dt 7 255 rfl trivial (y_not rfl) (sw0 []) ?_
        refine dt 8 511 rfl trivial (y_move rfl) (sw0 []) ?_
        refine dt 9 1023 rfl ⟨_, _, rfl, rfl, k4_9⟩ (y_move rfl) (sw0 []) ?_
        refine dt 10 2047 rfl ⟨_, _, rfl, rfl, k4_9⟩ (y_gtr rfl rfl) (sw0 []) ?_
        refine dt 11 4095 rfl ⟨_, _, rfl, rfl, k4_9⟩ (y_move rfl) (sw0 []) ?_
        refine dk 12 8191 rfl (sk1 rfl rfl k4_12) (sw0 []) ?_
        refine dk 13 16383 rfl (sk1 rfl rfl k4_12) (sw0 []) ?_
        refine dk 14 32767 rfl (sk1 rfl rfl k4_12) (sw0 []) ?_
        refine dk 15 65535 rfl (sk1 rfl rfl k4_12) (sw0 []) ?_
        refine dk 16 131071 rfl (sk1 rfl rfl k4_12) (sw0 []) ?_
        refine dk 17 262143 rfl (sk1 rfl rfl k4_12) (sw0 []) ?_
        refine dk 18 524287 rfl (sk1 rfl rfl k4_12) (sw0 []) ?_
        refine dk 19 1048575 rfl (sk1 rfl rfl k4_12) (sw0 []) ?_
        refine dk 20 2097151 rfl (sk1 rfl rfl k4_12) (sw0 []) ?_
        refine dk 21 4194303 rfl (sk1 rfl rfl k4_12) (sw0 []) ?_
        refine dt 22 8388607 rfl ⟨_, _, rfl, rfl, k4_9⟩ (y_pick_f rfl k4_12 rfl) (sw0 []) ?_
        refine dt 23 16777215 rfl trivial (y_pick_f rfl k4_9 rfl) (sw0 []) ?_
        refine d_done (by kernel_rfl) ?_
        refine a_en [(0, v0), (1, .int .i64 p1), (5, .int .i64 yj2_5), (21, .int .i64 yj2_5), (22, .bool (decide (yj2_5 > 0))), (23, .bool (decide (yj2_5 > 0))), (24, undef), (25, undef), (26, undef), (27, undef), (28, undef), (29, undef), (30, undef), (31, undef), (32, undef), (33, undef), (34, .bool false), (35, .bool false)] ?_
        refine a_cut ?_
        intro a_ w_ ha_ hs_
        exact ⟨false, Option.some.inj hm, ha_.weaken ⟨rfl, rfl, rfl, rfl, trivial⟩, hs_.reix [] (by decide)⟩
      have hm := hm_j4
      rintro a_ w_ ⟨yj4_35, rfl, ha_, hs_⟩
      try dsimp only at hm
      refine a_start ha_ hs_ ?_
      refine a_then ?_
      refine a_cond rfl (fun k_5 => ?_) (fun k_5 => ?_)
      · have hm := cond_t k_5 hm
        refine a_seq ?_
        refine a_region rfl ?_
        refine ap (y_assign rfl) ?_
        refine a_nil ?_
        refine a_en [(4, .bool false)] ?_
        refine a_then ?_
        refine a_ret ?_
        refine a_block_ret ?_
        refine a_then_ret ?_
        refine a_then_ret ?_
        refine a_block_ret ?_
        refine a_cut_ret ?_
        refine a_then_ret ?_
        obtain rfl := Option.some.inj hm
        have hm := hm_j1
        try dsimp only at hm
        refine a_done (v := .bool false) (.inl rfl) rfl ?_ ?_
        · intro a_ w_ ha_ hs_; exact run_results (P := Tryd.prog) (fn := Tryd.f46) (rs := [.tmp 4]) (vs := [.bool false]) rfl (.cons (rv_tmp ha_ rfl) (All2.nil))
        · intro _ _; obtain rfl := Option.some.inj hm
          rfl
      have hm := cond_f k_5 hm
      refine a_skip ?_
      refine a_block_normal ?_
      refine a_then ?_
      refine a_region rfl ?_
      refine ap (y_move rfl) ?_
      refine ap (y_add rfl rfl) ?_
      refine ap (y_assign rfl) ?_
      refine a_nil ?_
      refine a_en [(0, v0), (1, .int .i64 p1), (5, .int .i64 (IntKind.i64.wrap (yj2_5 + 1)))] ?_
      refine a_then ?_
      intro a_ w_ ha_ hs_
      exact ⟨n_j2, Nat.lt_succ_self _, IntKind.i64.wrap (yj2_5 + 1), hm, ha_.weaken ⟨rfl, rfl, rfl, trivial⟩, hs_.reix [] (by decide)⟩
    have hm := cond_f k_3 hm
    refine a_exit ?_
    refine a_then_exit ?_
    refine a_then_exit ?_
    refine a_block_hit ?_
    refine a_cut ?_
    intro a_ w_ ha_ hs_
    exact ⟨Option.some.inj hm, ha_.weaken trivial, hs_.reix [] (by decide)⟩
  have hm := hm_j1
  rintro a_ w_ ⟨rfl, ha_, hs_⟩
  try dsimp only at hm
  refine a_start ha_ hs_ ?_
  refine a_then ?_
  refine a_seq ?_
  refine a_region rfl ?_
  refine ap (y_assign rfl) ?_
  refine a_nil ?_
  refine a_then ?_
  refine a_ret ?_
  refine a_done (v := .bool true) (.inl rfl) rfl ?_ ?_
  · intro a_ w_ ha_ hs_; exact run_results (P := Tryd.prog) (fn := Tryd.f46) (rs := [.tmp 4]) (vs := [.bool true]) rfl (.cons (rv_tmp ha_ rfl) (All2.nil))
  · intro _ _; obtain rfl := Option.some.inj hm
    rfl

def ref00_Index_lj2 (k : Nat) (p0 : List Int) (p1 : Int) : Nat → Int → Option (Sum Int Unit)
 | 0, _ => none
 | n_j2 + 1, yj2_5 =>
 bif decide (yj2_5 < (p0.length : Int)) then
 (nth p0 yj2_5).bind fun x4_2 =>
 bif x4_2 == p1 then
 some (Sum.inl yj2_5)
 else
 ref00_Index_lj2 k p0 p1 n_j2 (IntKind.i64.wrap (yj2_5 + 1))
 else
 some (Sum.inr ())
def ref00_Index (k : Nat) (p0 : List Int) (p1 : Int) : Option Int :=
 (ref00_Index_lj2 k p0 p1 k 0).bind fun o => (match o with
 | .inl r => some r
 | .inr _ =>
 some ((-1)))
theorem ok_49 {k : Nat} {H : Hp} {w : World} {p0 : List Int} {p1 : Int} {v0 : Value} {r : Int} (hsub : Sub H w) (h0 : Sl (α := Int) H v0 p0) (hm : ref00_Index k p0 p1 = some r) : Calls Tryd.prog 49 [v0, .int .i64 p1].toArray w (PostV w H (.int .i64 r)) := by
  unfold ref00_Index at hm
  refine start (n := 19) (E := [(0, v0), (1, .int .i64 p1)]) Tryd.func49 rfl rfl ⟨rfl, rfl, trivial⟩ rfl hsub ?_
  refine a_seq ?_
  refine a_region rfl ?_
  refine ap (y_assign rfl) ?_
  refine a_nil ?_
  refine a_en [(0, v0), (1, .int .i64 p1)] ?_
  refine a_then ?_
  refine a_seq ?_
  refine a_seq ?_
  refine a_region rfl ?_
  refine ap (y_assign rfl) ?_
  refine a_nil ?_
  refine a_then ?_
  obtain ⟨s_j1, hs_j1, hm_j1⟩ := bind_some hm
  refine a_join (fun a_ w_ => Sum.inr () = s_j1 ∧ Ag 19 [] [] a_ ∧ St (Kp.mk w H noX) H [] w_) ?_ ?_
  · have hm := hs_j1
    refine a_block ?_
    refine a_loop (fun n_j2 a_ w_ => ∃ (yj2_5 : Int), ref00_Index_lj2 k p0 p1 n_j2 yj2_5 = some s_j1 ∧ Ag 19 [] [(0, v0), (1, .int .i64 p1), (5, .int .i64 yj2_5)] a_ ∧ St (Kp.mk w H noX) H [] w_) k ?_ ?_
    · intro a_ w_ ha_ hs_
      exact ⟨0, hm, ha_.weaken ⟨rfl, rfl, rfl, trivial⟩, hs_.reix [] (by decide)⟩
    rintro (_ | n_j2) a_ w_ ⟨yj2_5, hm, ha_, hs_⟩
    · rw [ref00_Index_lj2.eq_1] at hm; cases hm
    rw [ref00_Index_lj2.eq_2] at hm
    refine a_start ha_ hs_ ?_
    refine a_seq ?_
    refine a_seq ?_
    refine a_region rfl ?_
    refine ap (y_move rfl) ?_
    refine ap (y_move rfl) ?_
    refine ap (y_len_sl Tryd.underlying26 rfl h0) ?_
    refine ap (y_lss rfl rfl) ?_
    refine a_nil ?_
    refine a_en [(0, v0), (1, .int .i64 p1), (5, .int .i64 yj2_5), (9, .bool (decide (yj2_5 < (p0.length : Int))))] ?_
    refine a_then ?_
    refine a_cond rfl (fun k_3 => ?_) (fun k_3 => ?_)
    · have hm := cond_t k_3 hm
      refine a_skip ?_
      refine a_then ?_
      refine a_seq ?_
      refine a_block ?_
      refine a_seq ?_
      refine a_region rfl ?_
      refine ap (y_move rfl) ?_
      refine ap (y_move rfl) ?_
      obtain ⟨x4_2, q4_2, hm⟩ := bind_some hm
      obtain ⟨b4_2, o4_2, c4_2, e4_2, h4_2⟩ := Sl.elemZ 1 rfl h0 q4_2
      refine ap (y_index Tryd.underlying26 ty3 rfl e4_2 rfl (nth_in q4_2)) ?_
      refine ap (y_load_int ty3 rfl (fun _ h => h.sub) rfl h4_2) ?_
      refine ap (y_move rfl) ?_
      refine ap (y_eql rfl rfl) ?_
      refine a_nil ?_
      refine a_en [(0, v0), (1, .int .i64 p1), (5, .int .i64 yj2_5), (17, .bool (x4_2 == p1))] ?_
      refine a_then ?_
      refine a_cond rfl (fun k_4 => ?_) (fun k_4 => ?_)
      · have hm := cond_t k_4 hm
        refine a_seq ?_
        refine a_region rfl ?_
        refine ap (y_move rfl) ?_
        refine ap (y_assign rfl) ?_
        refine a_nil ?_
        refine a_en [(4, .int .i64 yj2_5)] ?_
        refine a_then ?_
        refine a_ret ?_
        refine a_block_ret ?_
        refine a_then_ret ?_
        refine a_then_ret ?_
        refine a_block_ret ?_
        refine a_cut_ret ?_
        refine a_then_ret ?_
        obtain rfl := Option.some.inj hm
        have hm := hm_j1
        try dsimp only at hm
        refine a_done (v := .int .i64 yj2_5) (.inl rfl) rfl ?_ ?_
        · intro a_ w_ ha_ hs_; exact run_results (P := Tryd.prog) (fn := Tryd.f49) (rs := [.tmp 4]) (vs := [.int .i64 yj2_5]) rfl (.cons (rv_tmp ha_ rfl) (All2.nil))
        · intro _ _; obtain rfl := Option.some.inj hm
          rfl
      have hm := cond_f k_4 hm
      refine a_skip ?_
      refine a_block_normal ?_
      refine a_then ?_
      refine a_region rfl ?_
      refine ap (y_move rfl) ?_
      refine ap (y_add rfl rfl) ?_
      refine ap (y_assign rfl) ?_
      refine a_nil ?_
      refine a_en [(0, v0), (1, .int .i64 p1), (5, .int .i64 (IntKind.i64.wrap (yj2_5 + 1)))] ?_
      refine a_then ?_
      intro a_ w_ ha_ hs_
      exact ⟨n_j2, Nat.lt_succ_self _, IntKind.i64.wrap (yj2_5 + 1), hm, ha_.weaken ⟨rfl, rfl, rfl, trivial⟩, hs_.reix [] (by decide)⟩
    have hm := cond_f k_3 hm
    refine a_exit ?_
    refine a_then_exit ?_
    refine a_then_exit ?_
    refine a_block_hit ?_
    refine a_cut ?_
    intro a_ w_ ha_ hs_
    exact ⟨Option.some.inj hm, ha_.weaken trivial, hs_.reix [] (by decide)⟩
  have hm := hm_j1
  rintro a_ w_ ⟨rfl, ha_, hs_⟩
  try dsimp only at hm
  refine a_start ha_ hs_ ?_
  refine a_then ?_
  refine a_seq ?_
  refine a_region rfl ?_
  refine ap (y_assign rfl) ?_
  refine a_nil ?_
  refine a_then ?_
  refine a_ret ?_
  refine a_done (v := .int .i64 (-1)) (.inl rfl) rfl ?_ ?_
  · intro a_ w_ ha_ hs_; exact run_results (P := Tryd.prog) (fn := Tryd.f49) (rs := [.tmp 4]) (vs := [.int .i64 (-1)]) rfl (.cons (rv_tmp ha_ rfl) (All2.nil))
  · intro _ _; obtain rfl := Option.some.inj hm
    rfl

def law03_TunnelClash_lj5 (k : Nat) (x3_1 : (List Int) × Int) (x5_4 : (List Int) × Int) : Nat → Int → Option (Sum Bool Unit)
 | 0, _ => none
 | n_j5 + 1, yj5_14 =>
 bif decide (yj5_14 < (x3_1.1.length : Int)) then
 (nth x3_1.1 yj5_14).bind fun x11_3 =>
 (ref00_Index k x5_4.1 x11_3).bind fun x11_5 =>
 bif decide (x11_5 ≥ 0) then
 some (Sum.inl false)
 else
 law03_TunnelClash_lj5 k x3_1 x5_4 n_j5 (IntKind.i64.wrap (yj5_14 + 1))
 else
 some (Sum.inr ())
def law03_TunnelClash (k : Nat) (p0 : TunnelBook) (p1 : List Int) (p2 : List Int) : Option Bool :=
 (law03_sound k p0).bind fun x1_1 =>
 bif !x1_1 then
 (law03_warmed k).bind fun x2_0 =>
 some (x2_0)
 else
 (tunnel_Lost k p0).bind fun x3_1 =>
 (tunnel_Clash k p0).bind fun x4_1 =>
 (law03_setting k p0 p1).bind fun x5_3 =>
 (tunnel_Good k p0 x5_3).bind fun x5_4 =>
 (bif x3_1.2 != 0 then
 some (true)
 else
 bif x5_4.2 != 0 then
 some (true)
 else
 (ref00_Grows k x3_1.1 (p0.Frames.length : Int)).bind fun x6_11 =>
 bif !x6_11 then
 some (true)
 else
 bif (x4_1.2.2 == 32) != (decide ((x3_1.1.length : Int) > 0)) then
 some (true)
 else
 bif x4_1.2.2 != 0 then
 bif x4_1.2.2 != 32 then
 bif x4_1.2.2 != 4 then
 some (true)
 else
 bif x4_1.1 != 0 then
 some (true)
 else
 some ((x4_1.2.1 != 0))
 else
 bif x4_1.1 != 0 then
 some (true)
 else
 some ((x4_1.2.1 != 0))
 else
 some (false)).bind fun yj2_85 =>
 bif yj2_85 then
 some (false)
 else
 (law03_TunnelClash_lj5 k x3_1 x5_4 k 0).bind fun o => (match o with
 | .inl r => some r
 | .inr _ =>
 (bif x4_1.2.2 == 0 then
 (ref00_Fits k x4_1.2.1 1 (IntKind.i64.wrap ((p0.Frames.length : Int) - 1))).bind fun x13_8 =>
 bif !x13_8 then
 some (true)
 else
 (ref00_Fits k x4_1.1 0 (IntKind.i64.wrap (x4_1.2.1 - 1))).bind fun x13_14 =>
 bif !x13_14 then
 some (true)
 else
 (ref00_Index k x5_4.1 x4_1.1).bind fun x13_20 =>
 bif decide (x13_20 ≥ 0) then
 (ref00_Index k x5_4.1 x4_1.2.1).bind fun x13_25 =>
 some ((decide (x13_25 ≥ 0)))
 else
 some (false)
 else
 some (false)).bind fun yj8_128 =>
 bif yj8_128 then
 some (false)
 else
 (bif decide ((p0.Frames.length : Int) < 2) then
 some (true)
 else
 some ((x4_1.2.2 == 32))).bind fun yj10_136 =>
 bif yj10_136 then
 (law03_warmed k).bind fun x16_0 =>
 some (x16_0)
 else
 (nth p2 (0 : Int)).bind fun x17_0 =>
 (ref00_Spin k x17_0 (p0.Frames.length : Int)).bind fun x17_5 =>
 (nth p2 (1 : Int)).bind fun x18_2 =>
 (ref00_Spin k x18_2 (IntKind.i64.wrap ((p0.Frames.length : Int) - 1))).bind fun x18_8 =>
 (ref00_Spin k (IntKind.i64.wrap ((IntKind.i64.wrap (x17_5 + 1)) + x18_8)) (p0.Frames.length : Int)).bind fun x18_13 =>
 (nth p0.Frames (min x17_5 x18_13)).bind fun x21_3 =>
 (nth p0.Frames (max x17_5 x18_13)).bind fun x21_8 =>
 (tunnel_Most k (⟨p0.Parts, [x21_3, x21_8]⟩ : TunnelBook)).bind fun x22_1 =>
 (bif x22_1.2.2 != 0 then
 some (true)
 else
 some (((x22_1.2.1.length : Int) == 0))).bind fun yj12_189 =>
 bif yj12_189 then
 some (false)
 else
 bif (x22_1.2.1.length : Int) == 2 then
 (bif x4_1.2.2 != 0 then
 (law03_warmed k).bind fun x26_13 =>
 some (x26_13)
 else
 bif (min x17_5 x18_13) != x4_1.1 then
 (law03_warmed k).bind fun x26_13 =>
 some (x26_13)
 else
 bif (max x17_5 x18_13) != x4_1.2.1 then
 (law03_warmed k).bind fun x26_13 =>
 some (x26_13)
 else
 some (false)).bind fun yj15_6 =>
 some (yj15_6)
 else
 (bif x4_1.2.2 == 0 then
 bif decide (x4_1.1 < (min x17_5 x18_13)) then
 (law03_warmed k).bind fun x27_18 =>
 some (x27_18)
 else
 bif x4_1.1 == (min x17_5 x18_13) then
 bif decide (x4_1.2.1 ≤ (max x17_5 x18_13)) then
 (law03_warmed k).bind fun x27_18 =>
 some (x27_18)
 else
 some (false)
 else
 some (false)
 else
 some (false)).bind fun yj16_6 =>
 some (yj16_6))
theorem ok_9 {k : Nat} {H : Hp} {w : World} {p0 : TunnelBook} {p1 : List Int} {p2 : List Int} {c0 : List Value} {v1 : Value} {c2 : List Value} {r : Bool} (hsub : Sub H w) (h0 : Rp.rep (α := TunnelBook) H c0 p0) (h1 : Sl (α := Int) H v1 p1) (h2 : Rp.rep (α := Arr 2 Int) H c2 p2) (hg : Glob H) (hm : law03_TunnelClash k p0 p1 p2 = some r) : Calls Tryd.prog 9 [.agg c0.toArray, v1, .agg c2.toArray].toArray w (PostV w H (.bool r)) := by
  unfold law03_TunnelClash at hm
  refine start (n := 228) (E := [(0, .agg c0.toArray), (1, v1), (2, .agg c2.toArray)]) Tryd.func9 rfl rfl ⟨rfl, rfl, rfl, trivial⟩ rfl hsub ?_
  refine a_seq ?_
  refine a_region rfl ?_
  refine a_cons (e_box (cs := c0) trivial rfl rfl rfl ?_)
  intro b0_0
  refine a_cons (e_box (cs := c2) trivial rfl rfl rfl ?_)
  intro b0_1
  refine ap (y_assign rfl) ?_
  refine a_nil ?_
  refine a_freeze (α := Arr 2 Int) (x := p2) (i := 0) rfl h2 ?_
  intro Hb0_1 lb0_1 hb0_1
  have h0 := Rp.mono lb0_1 h0
  have h1 := Sl.mono lb0_1 h1
  have h2 := Rp.mono lb0_1 h2
  have hg := Glob.mono lb0_1 hg
  refine a_freeze (α := TunnelBook) (x := p0) (i := 1) rfl h0 ?_
  intro Hb0_0 lb0_0 hb0_0
  have h0 := Rp.mono lb0_0 h0
  have h1 := Sl.mono lb0_0 h1
  have h2 := Rp.mono lb0_0 h2
  have hb0_1 := PAt.mono lb0_0 hb0_1
  have hg := Glob.mono lb0_0 hg
  refine a_en [(1, v1), (3, .pointer (some ⟨b0_0, 0, none⟩)), (5, .pointer (some ⟨b0_1, 0, none⟩))] ?_
  refine a_own [] (by decide) (L' := []) rfl ?_
  refine a_then ?_
  refine a_seq ?_
  refine a_seq ?_
  refine a_region rfl ?_
  obtain ⟨u1_0, h1_0, c1_0⟩ := PAt.one hb0_0
  refine ap (y_load_cells ty25 rfl (fun _ h => h.sub) rfl c1_0 (Rp.len h1_0)) ?_
  obtain ⟨x1_1, q1_1, hm⟩ := bind_some hm
  refine a_cons (e_callV (all := [.agg u1_0.toArray]) (v := .bool x1_1) trivial rfl Tryd.func43 rfl rfl rfl rfl rfl (fun w hw => ok_43 hw h1_0 q1_1) ?_)
  refine ap (y_not rfl) ?_
  refine a_nil ?_
  refine a_en [(1, v1), (3, .pointer (some ⟨b0_0, 0, none⟩)), (5, .pointer (some ⟨b0_1, 0, none⟩)), (23, .bool (!x1_1))] ?_
  refine a_then ?_
  refine a_cond rfl (fun k_1 => ?_) (fun k_1 => ?_)
  · have hm := cond_t k_1 hm
    refine a_seq ?_
    refine a_region rfl ?_
    obtain ⟨x2_0, q2_0, hm⟩ := bind_some hm
    refine a_cons (e_callV (all := []) (v := .bool x2_0) trivial rfl Tryd.func30 rfl rfl rfl rfl rfl (fun w hw => ok_30 hw hg q2_0) ?_)
    refine ap (y_assign rfl) ?_
    refine a_nil ?_
    refine a_en [(6, .bool x2_0)] ?_
    refine a_then ?_
    refine a_ret ?_
    refine a_then_ret ?_
    refine a_done (v := .bool x2_0) (.inl rfl) rfl ?_ ?_
    · intro a_ w_ ha_ hs_; exact run_results (P := Tryd.prog) (fn := Tryd.f9) (rs := [.tmp 6]) (vs := [.bool x2_0]) rfl (.cons (rv_tmp ha_ rfl) (All2.nil))
    · intro _ _; obtain rfl := Option.some.inj hm
      rfl
  have hm := cond_f k_1 hm
  refine a_skip ?_
  refine a_then ?_
  refine a_seq ?_
  refine a_region rfl ?_
  obtain ⟨u3_0, h3_0, c3_0⟩ := PAt.one hb0_0
  refine ap (y_load_cells ty25 rfl (fun _ h => h.sub) rfl c3_0 (Rp.len h3_0)) ?_
  obtain ⟨x3_1, q3_1, hm⟩ := bind_some hm
  refine a_cons (e_callH (all := [.agg u3_0.toArray]) trivial rfl Tryd.func35 rfl rfl rfl rfl rfl (fun w hw => ok_35 hw h3_0 hg q3_1) ?_)
  rintro _ H3_1 l3_1 ⟨v3_1r0, rfl, h3_1r0⟩
  have h1 := Sl.mono l3_1 h1
  have hb0_0 := PAt.mono l3_1 hb0_0
  have hb0_1 := PAt.mono l3_1 hb0_1
  have h3_0 := Rp.mono l3_1 h3_0
  have hg := Glob.mono l3_1 hg
  refine ap (y_move rfl) ?_
  refine ap (y_extract rfl rfl) ?_
  refine ap (y_extract rfl rfl) ?_
  refine ap (y_assign rfl) ?_
  refine ap (y_assign rfl) ?_
  refine a_nil ?_
  refine a_en [(1, v1), (3, .pointer (some ⟨b0_0, 0, none⟩)), (5, .pointer (some ⟨b0_1, 0, none⟩)), (7, v3_1r0), (8, .int .i64 x3_1.2)] ?_
  refine a_then ?_
  refine a_seq ?_
  refine a_region rfl ?_
  obtain ⟨u4_0, h4_0, c4_0⟩ := PAt.one hb0_0
  refine ap (y_load_cells ty25 rfl (fun _ h => h.sub) rfl c4_0 (Rp.len h4_0)) ?_
  obtain ⟨x4_1, q4_1, hm⟩ := bind_some hm
  refine a_cons (e_callV (all := [.agg u4_0.toArray]) (v := .tuple #[.int .i64 x4_1.1, .int .i64 x4_1.2.1, .int .i64 x4_1.2.2]) trivial rfl Tryd.func37 rfl rfl rfl rfl rfl (fun w hw => ok_37 hw h4_0 hg q4_1) ?_)
  refine ap (y_move rfl) ?_
  refine ap (y_extract rfl rfl) ?_
  refine ap (y_extract rfl rfl) ?_
  refine ap (y_extract rfl rfl) ?_
  refine ap (y_assign rfl) ?_
  refine ap (y_assign rfl) ?_
  refine ap (y_assign rfl) ?_
  refine a_nil ?_
  refine a_en [(1, v1), (3, .pointer (some ⟨b0_0, 0, none⟩)), (5, .pointer (some ⟨b0_1, 0, none⟩)), (7, v3_1r0), (8, .int .i64 x3_1.2), (9, .int .i64 x4_1.1), (10, .int .i64 x4_1.2.1), (11, .int .i64 x4_1.2.2)] ?_
  refine a_then ?_
  refine a_seq ?_
  obtain ⟨x5_3, q5_3, hm⟩ := bind_some hm
  obtain ⟨x5_4, q5_4, hm⟩ := bind_some hm
  refine d_region (S := Sw H3_1 []) (n := 10) (listed := (bits 10 0)) mixed (by kernel_rfl) rfl (by kernel_rfl) ?_
  obtain ⟨u5_0, h5_0, c5_0⟩ := PAt.one hb0_0
  refine dt 0 1 rfl trivial (y_load_cells ty25 rfl (fun _ h => h.1) rfl c5_0 (Rp.len h5_0)) (sw0 []) ?_
  obtain ⟨u5_1, h5_1, c5_1⟩ := PAt.one hb0_0
  refine dt 1 3 rfl trivial (y_load_cells ty25 rfl (fun _ h => h.1) rfl c5_1 (Rp.len h5_1)) (sw0 []) ?_
  refine dt 2 7 rfl trivial (y_move rfl) (sw0 []) ?_
  refine d1 3 rfl (e_callH (all := [.agg u5_1.toArray, v1]) trivial rfl Tryd.func45 rfl rfl rfl rfl rfl (fun w hw => ok_45 hw h5_1 h1 q5_3) ?_)
  rintro v5_3r0 H5_3 l5_3 ⟨_, rfl, h5_3r0⟩
  have h1 := Sl.mono l5_3 h1
  have hb0_0 := PAt.mono l5_3 hb0_0
  have hb0_1 := PAt.mono l5_3 hb0_1
  have h3_1r0 := Sl.mono l5_3 h3_1r0
  have h5_0 := Rp.mono l5_3 h5_0
  have h5_1 := Rp.mono l5_3 h5_1
  have hg := Glob.mono l5_3 hg
  refine dn 15 (swl l5_3 []) ?_
  refine d1 4 rfl (e_callH (all := [.agg u5_0.toArray, v5_3r0]) trivial rfl Tryd.func27 rfl rfl rfl rfl rfl (fun w hw => ok_27 hw h5_0 h5_3r0 hg q5_4) ?_)
  rintro _ H5_4 l5_4 ⟨v5_4r0, rfl, h5_4r0⟩
  have h1 := Sl.mono l5_4 h1
  have hb0_0 := PAt.mono l5_4 hb0_0
  have hb0_1 := PAt.mono l5_4 hb0_1
  have h3_1r0 := Sl.mono l5_4 h3_1r0
  have h5_0 := Rp.mono l5_4 h5_0
  have h5_1 := Rp.mono l5_4 h5_1
  have h5_3r0 := Sl.mono l5_4 h5_3r0
  have hg := Glob.mono l5_4 hg
  refine dn 31 (swl (l5_3.trans l5_4) []) ?_
  refine d_weaken (S' := Sw H5_4 []) (sw_sw (l5_3.trans l5_4) [] rfl) ?_
  refine dt 5 63 rfl trivial (y_move rfl) (sw0 []) ?_
  refine dt 6 127 rfl trivial (y_extract rfl rfl) (sw0 []) ?_
  refine dt 7 255 rfl trivial (y_extract rfl rfl) (sw0 []) ?_
  refine dt 8 511 rfl trivial (y_assign rfl) (sw0 []) ?_
  refine dt 9 1023 rfl trivial (y_assign rfl) (sw0 []) ?_
  refine d_done (by kernel_rfl) ?_
  refine a_en [(3, .pointer (some ⟨b0_0, 0, none⟩)), (5, .pointer (some ⟨b0_1, 0, none⟩)), (7, v3_1r0), (8, .int .i64 x3_1.2), (9, .int .i64 x4_1.1), (10, .int .i64 x4_1.2.1), (11, .int .i64 x4_1.2.2), (12, v5_4r0), (13, .int .i64 x5_4.2)] ?_
  refine a_then ?_
  refine a_seq ?_
  refine a_seq ?_
  obtain ⟨s_j2, hs_j2, hm_j2⟩ := bind_some hm
  refine a_join (fun a_ w_ => ∃ (yj2_85 : Bool), yj2_85 = s_j2 ∧ Ag 228 [] [(3, .pointer (some ⟨b0_0, 0, none⟩)), (5, .pointer (some ⟨b0_1, 0, none⟩)), (7, v3_1r0), (9, .int .i64 x4_1.1), (10, .int .i64 x4_1.2.1), (11, .int .i64 x4_1.2.2), (12, v5_4r0), (85, .bool yj2_85)] a_ ∧ St (Kp.mk w H noX) H5_4 [] w_) ?_ ?_
  · have hm := hs_j2
    refine a_region rfl ?_
    refine ap (y_move rfl) ?_
    refine ap (y_neq rfl rfl) ?_
    refine ap (y_move rfl) ?_
    rcases Bool.eq_false_or_eq_true (x3_1.2 != 0) with k6_3 | k6_3
    · have hm := cond_t k6_3 hm
      refine as1 (sk1 rfl rfl k6_3) ?_
      refine as1 (sk1 rfl rfl k6_3) ?_
      refine ap (y_pick_t rfl k6_3 rfl) ?_
      refine ap (y_move rfl) ?_
      refine as1 (sk1 rfl rfl rfl) ?_
      refine as1 (sk1 rfl rfl rfl) ?_
      refine as1 (sk1 rfl rfl rfl) ?_
      refine as1 (sk1 rfl rfl rfl) ?_
      refine as1 (sk1 rfl rfl rfl) ?_
      refine as1 (sk1 rfl rfl rfl) ?_
      refine ap (y_pick_t rfl rfl rfl) ?_
      refine ap (y_move rfl) ?_
      refine as1 (sk1 rfl rfl rfl) ?_
      refine as1 (sk1 rfl rfl rfl) ?_
      refine as1 (sk1 rfl rfl rfl) ?_
      refine as1 (sk1 rfl rfl rfl) ?_
      refine as1 (sk1 rfl rfl rfl) ?_
      refine as1 (sk1 rfl rfl rfl) ?_
      refine ap (y_pick_t rfl rfl rfl) ?_
      refine ap (y_move rfl) ?_
      refine as1 (sk1 rfl rfl rfl) ?_
      refine as1 (sk1 rfl rfl rfl) ?_
      refine as1 (sk1 rfl rfl rfl) ?_
      refine as1 (sku rfl rfl) ?_
      refine as1 (sku rfl rfl) ?_
      refine as1 (sku rfl rfl) ?_
      refine as1 (sku rfl rfl) ?_
      refine as1 (sku rfl rfl) ?_
      refine as1 (sku rfl rfl) ?_
      refine as1 (sku rfl rfl) ?_
      refine as1 (sku rfl rfl) ?_
      refine as1 (sku rfl rfl) ?_
      refine as1 (sku rfl rfl) ?_
      refine as1 (sku rfl rfl) ?_
      refine as1 (sku rfl rfl) ?_
      refine as1 (sku rfl rfl) ?_
      refine as1 (sku rfl rfl) ?_
      refine as1 (sk1 rfl rfl rfl) ?_
      refine ap (y_pick_t rfl rfl rfl) ?_
      refine a_nil ?_
      refine a_en [(3, .pointer (some ⟨b0_0, 0, none⟩)), (5, .pointer (some ⟨b0_1, 0, none⟩)), (7, v3_1r0), (9, .int .i64 x4_1.1), (10, .int .i64 x4_1.2.1), (11, .int .i64 x4_1.2.2), (12, v5_4r0), (85, .bool true)] ?_
      refine a_cut ?_
      intro a_ w_ ha_ hs_
      exact ⟨true, Option.some.inj hm, ha_.weaken ⟨rfl, rfl, rfl, rfl, rfl, rfl, rfl, rfl, trivial⟩, hs_.reix [] (by decide)⟩
    have hm := cond_f k6_3 hm
    refine ag ⟨_, _, rfl, rfl, k6_3⟩ (y_move rfl) ?_
    refine ag ⟨_, _, rfl, rfl, k6_3⟩ (y_neq rfl rfl) ?_
    refine ap (y_pick_f rfl k6_3 rfl) ?_
    refine ap (y_move rfl) ?_
    rcases Bool.eq_false_or_eq_true (x5_4.2 != 0) with k6_7 | k6_7
    · have hm := cond_t k6_7 hm
      refine as1 (sk1 rfl rfl k6_7) ?_
      refine as1 (sk1 rfl rfl k6_7) ?_
      refine as1 (sk1 rfl rfl k6_7) ?_
      refine as1 (sk1 rfl rfl k6_7) ?_
      refine as1 (sk1 rfl rfl k6_7) ?_
      refine as1 (sk1 rfl rfl k6_7) ?_
      refine ap (y_pick_t rfl k6_7 rfl) ?_
      refine ap (y_move rfl) ?_
      refine as1 (sk1 rfl rfl rfl) ?_
      refine as1 (sk1 rfl rfl rfl) ?_
      refine as1 (sk1 rfl rfl rfl) ?_
      refine as1 (sk1 rfl rfl rfl) ?_
      refine as1 (sk1 rfl rfl rfl) ?_
      refine as1 (sk1 rfl rfl rfl) ?_
      refine ap (y_pick_t rfl rfl rfl) ?_
      refine ap (y_move rfl) ?_
      refine as1 (sk1 rfl rfl rfl) ?_
      refine as1 (sk1 rfl rfl rfl) ?_
      refine as1 (sk1 rfl rfl rfl) ?_
      refine as1 (sku rfl rfl) ?_
      refine as1 (sku rfl rfl) ?_
      refine as1 (sku rfl rfl) ?_
      refine as1 (sku rfl rfl) ?_
      refine as1 (sku rfl rfl) ?_
      refine as1 (sku rfl rfl) ?_
      refine as1 (sku rfl rfl) ?_
      refine as1 (sku rfl rfl) ?_
      refine as1 (sku rfl rfl) ?_
      refine as1 (sku rfl rfl) ?_
      refine as1 (sku rfl rfl) ?_
      refine as1 (sku rfl rfl) ?_
      refine as1 (sku rfl rfl) ?_
      refine as1 (sku rfl rfl) ?_
      refine as1 (sk1 rfl rfl rfl) ?_
      refine ap (y_pick_t rfl rfl rfl) ?_
      refine a_nil ?_
      refine a_en [(3, .pointer (some ⟨b0_0, 0, none⟩)), (5, .pointer (some ⟨b0_1, 0, none⟩)), (7, v3_1r0), (9, .int .i64 x4_1.1), (10, .int .i64 x4_1.2.1), (11, .int .i64 x4_1.2.2), (12, v5_4r0), (85, .bool true)] ?_
      refine a_cut ?_
      intro a_ w_ ha_ hs_
      exact ⟨true, Option.some.inj hm, ha_.weaken ⟨rfl, rfl, rfl, rfl, rfl, rfl, rfl, rfl, trivial⟩, hs_.reix [] (by decide)⟩
    have hm := cond_f k6_7 hm
    refine ag ⟨_, _, rfl, rfl, k6_7⟩ (y_move rfl) ?_
    have h6_8 := TunnelBook.at_Frames hb0_0
    refine ag ⟨_, _, rfl, rfl, k6_7⟩ (y_fieldAddr fo25_1 rfl) ?_
    obtain ⟨v6_9, h6_9, c6_9⟩ := PAt.sl h6_8
    refine ag ⟨_, _, rfl, rfl, k6_7⟩ (y_load_one ty23 rfl (fun _ h => h.sub) rfl c6_9) ?_
    refine ag ⟨_, _, rfl, rfl, k6_7⟩ (y_len_sl Tryd.underlying23 rfl h6_9) ?_
    obtain ⟨x6_11, q6_11, hm⟩ := bind_some hm
    refine a_cons (e_callV (all := [v3_1r0, .int .i64 (p0.Frames.length : Int)]) (v := .bool x6_11) ⟨_, _, rfl, rfl, k6_7⟩ rfl Tryd.func46 rfl rfl rfl rfl rfl (fun w hw => ok_46 hw h3_1r0 q6_11) ?_)
    refine ag ⟨_, _, rfl, rfl, k6_7⟩ (y_not rfl) ?_
    refine ap (y_pick_f rfl k6_7 rfl) ?_
    refine ap (y_move rfl) ?_
    rcases Bool.eq_false_or_eq_true (!x6_11) with k6_15 | k6_15
    · have hm := cond_t k6_15 hm
      refine as1 (sk1 rfl rfl k6_15) ?_
      refine as1 (sk1 rfl rfl k6_15) ?_
      refine as1 (sk1 rfl rfl k6_15) ?_
      refine as1 (sk1 rfl rfl k6_15) ?_
      refine as1 (sk1 rfl rfl k6_15) ?_
      refine as1 (sk1 rfl rfl k6_15) ?_
      refine ap (y_pick_t rfl k6_15 rfl) ?_
      refine ap (y_move rfl) ?_
      refine as1 (sk1 rfl rfl rfl) ?_
      refine as1 (sk1 rfl rfl rfl) ?_
      refine as1 (sk1 rfl rfl rfl) ?_
      refine as1 (sku rfl rfl) ?_
      refine as1 (sku rfl rfl) ?_
      refine as1 (sku rfl rfl) ?_
      refine as1 (sku rfl rfl) ?_
      refine as1 (sku rfl rfl) ?_
      refine as1 (sku rfl rfl) ?_
      refine as1 (sku rfl rfl) ?_
      refine as1 (sku rfl rfl) ?_
      refine as1 (sku rfl rfl) ?_
      refine as1 (sku rfl rfl) ?_
      refine as1 (sku rfl rfl) ?_
      refine as1 (sku rfl rfl) ?_
      refine as1 (sku rfl rfl) ?_
      refine as1 (sku rfl rfl) ?_
      refine as1 (sk1 rfl rfl rfl) ?_
      refine ap (y_pick_t rfl rfl rfl) ?_
      refine a_nil ?_
      refine a_en [(3, .pointer (some ⟨b0_0, 0, none⟩)), (5, .pointer (some ⟨b0_1, 0, none⟩)), (7, v3_1r0), (9, .int .i64 x4_1.1), (10, .int .i64 x4_1.2.1), (11, .int .i64 x4_1.2.2), (12, v5_4r0), (85, .bool true)] ?_
      refine a_cut ?_
      intro a_ w_ ha_ hs_
      exact ⟨true, Option.some.inj hm, ha_.weaken ⟨rfl, rfl, rfl, rfl, rfl, rfl, rfl, rfl, trivial⟩, hs_.reix [] (by decide)⟩
    have hm := cond_f k6_15 hm
    refine ag ⟨_, _, rfl, rfl, k6_15⟩ (y_move rfl) ?_
    refine ag ⟨_, _, rfl, rfl, k6_15⟩ (y_eql rfl rfl) ?_
    refine ag ⟨_, _, rfl, rfl, k6_15⟩ (y_move rfl) ?_
    refine ag ⟨_, _, rfl, rfl, k6_15⟩ (y_len_sl Tryd.underlying26 rfl h3_1r0) ?_
    refine ag ⟨_, _, rfl, rfl, k6_15⟩ (y_gtr rfl rfl) ?_
    refine ag ⟨_, _, rfl, rfl, k6_15⟩ (y_neq_bool Tryd.underlying4 rfl rfl) ?_
    refine ap (y_pick_f rfl k6_15 rfl) ?_
    refine ap (y_move rfl) ?_
    rcases Bool.eq_false_or_eq_true ((x4_1.2.2 == 32) != (decide ((x3_1.1.length : Int) > 0))) with k6_23 | k6_23
    · have hm := cond_t k6_23 hm
      refine as1 (sk1 rfl rfl k6_23) ?_
      refine as1 (sk1 rfl rfl k6_23) ?_
      refine as1 (sk1 rfl rfl k6_23) ?_
      refine as1 (sku rfl rfl) ?_
      refine as1 (sku rfl rfl) ?_
      refine as1 (sku rfl rfl) ?_
      refine as1 (sku rfl rfl) ?_
      refine as1 (sku rfl rfl) ?_
      refine as1 (sku rfl rfl) ?_
      refine as1 (sku rfl rfl) ?_
      refine as1 (sku rfl rfl) ?_
      refine as1 (sku rfl rfl) ?_
      refine as1 (sku rfl rfl) ?_
      refine as1 (sku rfl rfl) ?_
      refine as1 (sku rfl rfl) ?_
      refine as1 (sku rfl rfl) ?_
      refine as1 (sku rfl rfl) ?_
      refine as1 (sk1 rfl rfl k6_23) ?_
      refine ap (y_pick_t rfl k6_23 rfl) ?_
      refine a_nil ?_
      refine a_en [(3, .pointer (some ⟨b0_0, 0, none⟩)), (5, .pointer (some ⟨b0_1, 0, none⟩)), (7, v3_1r0), (9, .int .i64 x4_1.1), (10, .int .i64 x4_1.2.1), (11, .int .i64 x4_1.2.2), (12, v5_4r0), (85, .bool true)] ?_
      refine a_cut ?_
      intro a_ w_ ha_ hs_
      exact ⟨true, Option.some.inj hm, ha_.weaken ⟨rfl, rfl, rfl, rfl, rfl, rfl, rfl, rfl, trivial⟩, hs_.reix [] (by decide)⟩
    have hm := cond_f k6_23 hm
    refine ag ⟨_, _, rfl, rfl, k6_23⟩ (y_move rfl) ?_
    refine ag ⟨_, _, rfl, rfl, k6_23⟩ (y_neq rfl rfl) ?_
    refine ag ⟨_, _, rfl, rfl, k6_23⟩ (y_move rfl) ?_
    rcases Bool.eq_false_or_eq_true (x4_1.2.2 != 0) with k6_26 | k6_26
    · have hm := cond_t k6_26 hm
      refine ag ⟨_, _, rfl, rfl, k6_26⟩ (y_move rfl) ?_
      refine ag ⟨_, _, rfl, rfl, k6_26⟩ (y_neq rfl rfl) ?_
      refine ag ⟨_, _, rfl, rfl, k6_26⟩ (y_move rfl) ?_
      rcases Bool.eq_false_or_eq_true (x4_1.2.2 != 32) with k6_29 | k6_29
      · have hm := cond_t k6_29 hm
        refine ag ⟨_, _, rfl, rfl, k6_29⟩ (y_move rfl) ?_
        refine ag ⟨_, _, rfl, rfl, k6_29⟩ (y_neq rfl rfl) ?_
        refine ag ⟨_, _, rfl, rfl, k6_26⟩ (y_pick_t rfl k6_29 rfl) ?_
        refine ag ⟨_, _, rfl, rfl, k6_26⟩ (y_move rfl) ?_
        rcases Bool.eq_false_or_eq_true (x4_1.2.2 != 4) with k6_33 | k6_33
        · have hm := cond_t k6_33 hm
          refine as1 (sk1 rfl rfl k6_33) ?_
          refine as1 (sk1 rfl rfl k6_33) ?_
          refine ag ⟨_, _, rfl, rfl, k6_26⟩ (y_pick_t rfl k6_33 rfl) ?_
          refine ag ⟨_, _, rfl, rfl, k6_26⟩ (y_move rfl) ?_
          refine as1 (sk1 rfl rfl rfl) ?_
          refine as1 (sk1 rfl rfl rfl) ?_
          refine ag ⟨_, _, rfl, rfl, k6_26⟩ (y_pick_t rfl rfl rfl) ?_
          refine ag ⟨_, _, rfl, rfl, k6_23⟩ (y_pick_t rfl k6_26 rfl) ?_
          refine ap (y_pick_f rfl k6_23 rfl) ?_
          refine a_nil ?_
          refine a_en [(3, .pointer (some ⟨b0_0, 0, none⟩)), (5, .pointer (some ⟨b0_1, 0, none⟩)), (7, v3_1r0), (9, .int .i64 x4_1.1), (10, .int .i64 x4_1.2.1), (11, .int .i64 x4_1.2.2), (12, v5_4r0), (85, .bool true)] ?_
          refine a_cut ?_
          intro a_ w_ ha_ hs_
          exact ⟨true, Option.some.inj hm, ha_.weaken ⟨rfl, rfl, rfl, rfl, rfl, rfl, rfl, rfl, trivial⟩, hs_.reix [] (by decide)⟩
        have hm := cond_f k6_33 hm
        refine ag ⟨_, _, rfl, rfl, k6_33⟩ (y_move rfl) ?_
        refine ag ⟨_, _, rfl, rfl, k6_33⟩ (y_neq rfl rfl) ?_
        refine ag ⟨_, _, rfl, rfl, k6_26⟩ (y_pick_f rfl k6_33 rfl) ?_
        refine ag ⟨_, _, rfl, rfl, k6_26⟩ (y_move rfl) ?_
        rcases Bool.eq_false_or_eq_true (x4_1.1 != 0) with k6_37 | k6_37
        · have hm := cond_t k6_37 hm
          refine as1 (sk1 rfl rfl k6_37) ?_
          refine as1 (sk1 rfl rfl k6_37) ?_
          refine ag ⟨_, _, rfl, rfl, k6_26⟩ (y_pick_t rfl k6_37 rfl) ?_
          refine ag ⟨_, _, rfl, rfl, k6_23⟩ (y_pick_t rfl k6_26 rfl) ?_
          refine ap (y_pick_f rfl k6_23 rfl) ?_
          refine a_nil ?_
          refine a_en [(3, .pointer (some ⟨b0_0, 0, none⟩)), (5, .pointer (some ⟨b0_1, 0, none⟩)), (7, v3_1r0), (9, .int .i64 x4_1.1), (10, .int .i64 x4_1.2.1), (11, .int .i64 x4_1.2.2), (12, v5_4r0), (85, .bool true)] ?_
          refine a_cut ?_
          intro a_ w_ ha_ hs_
          exact ⟨true, Option.some.inj hm, ha_.weaken ⟨rfl, rfl, rfl, rfl, rfl, rfl, rfl, rfl, trivial⟩, hs_.reix [] (by decide)⟩
        have hm := cond_f k6_37 hm
        refine ag ⟨_, _, rfl, rfl, k6_37⟩ (y_move rfl) ?_
        refine ag ⟨_, _, rfl, rfl, k6_37⟩ (y_neq rfl rfl) ?_
        refine ag ⟨_, _, rfl, rfl, k6_26⟩ (y_pick_f rfl k6_37 rfl) ?_
        refine ag ⟨_, _, rfl, rfl, k6_23⟩ (y_pick_t rfl k6_26 rfl) ?_
        refine ap (y_pick_f rfl k6_23 rfl) ?_
        refine a_nil ?_
        refine a_en [(3, .pointer (some ⟨b0_0, 0, none⟩)), (5, .pointer (some ⟨b0_1, 0, none⟩)), (7, v3_1r0), (9, .int .i64 x4_1.1), (10, .int .i64 x4_1.2.1), (11, .int .i64 x4_1.2.2), (12, v5_4r0), (85, .bool (x4_1.2.1 != 0))] ?_
        refine a_cut ?_
        intro a_ w_ ha_ hs_
        exact ⟨x4_1.2.1 != 0, Option.some.inj hm, ha_.weaken ⟨rfl, rfl, rfl, rfl, rfl, rfl, rfl, rfl, trivial⟩, hs_.reix [] (by decide)⟩
      have hm := cond_f k6_29 hm
      refine as1 (sk1 rfl rfl k6_29) ?_
      refine as1 (sk1 rfl rfl k6_29) ?_
      refine ag ⟨_, _, rfl, rfl, k6_26⟩ (y_pick_f rfl k6_29 rfl) ?_
      refine ag ⟨_, _, rfl, rfl, k6_26⟩ (y_move rfl) ?_
      refine ag ⟨_, _, rfl, rfl, rfl⟩ (y_move rfl) ?_
      refine ag ⟨_, _, rfl, rfl, rfl⟩ (y_neq rfl rfl) ?_
      refine ag ⟨_, _, rfl, rfl, k6_26⟩ (y_pick_f rfl rfl rfl) ?_
      refine ag ⟨_, _, rfl, rfl, k6_26⟩ (y_move rfl) ?_
      rcases Bool.eq_false_or_eq_true (x4_1.1 != 0) with k6_37 | k6_37
      · have hm := cond_t k6_37 hm
        refine as1 (sk1 rfl rfl k6_37) ?_
        refine as1 (sk1 rfl rfl k6_37) ?_
        refine ag ⟨_, _, rfl, rfl, k6_26⟩ (y_pick_t rfl k6_37 rfl) ?_
        refine ag ⟨_, _, rfl, rfl, k6_23⟩ (y_pick_t rfl k6_26 rfl) ?_
        refine ap (y_pick_f rfl k6_23 rfl) ?_
        refine a_nil ?_
        refine a_en [(3, .pointer (some ⟨b0_0, 0, none⟩)), (5, .pointer (some ⟨b0_1, 0, none⟩)), (7, v3_1r0), (9, .int .i64 x4_1.1), (10, .int .i64 x4_1.2.1), (11, .int .i64 x4_1.2.2), (12, v5_4r0), (85, .bool true)] ?_
        refine a_cut ?_
        intro a_ w_ ha_ hs_
        exact ⟨true, Option.some.inj hm, ha_.weaken ⟨rfl, rfl, rfl, rfl, rfl, rfl, rfl, rfl, trivial⟩, hs_.reix [] (by decide)⟩
      have hm := cond_f k6_37 hm
      refine ag ⟨_, _, rfl, rfl, k6_37⟩ (y_move rfl) ?_
      refine ag ⟨_, _, rfl, rfl, k6_37⟩ (y_neq rfl rfl) ?_
      refine ag ⟨_, _, rfl, rfl, k6_26⟩ (y_pick_f rfl k6_37 rfl) ?_
      refine ag ⟨_, _, rfl, rfl, k6_23⟩ (y_pick_t rfl k6_26 rfl) ?_
      refine ap (y_pick_f rfl k6_23 rfl) ?_
      refine a_nil ?_
      refine a_en [(3, .pointer (some ⟨b0_0, 0, none⟩)), (5, .pointer (some ⟨b0_1, 0, none⟩)), (7, v3_1r0), (9, .int .i64 x4_1.1), (10, .int .i64 x4_1.2.1), (11, .int .i64 x4_1.2.2), (12, v5_4r0), (85, .bool (x4_1.2.1 != 0))] ?_
      refine a_cut ?_
      intro a_ w_ ha_ hs_
      exact ⟨x4_1.2.1 != 0, Option.some.inj hm, ha_.weaken ⟨rfl, rfl, rfl, rfl, rfl, rfl, rfl, rfl, trivial⟩, hs_.reix [] (by decide)⟩
    have hm := cond_f k6_26 hm
    refine as1 (sk1 rfl rfl k6_26) ?_
    refine as1 (sk1 rfl rfl k6_26) ?_
    refine as1 (sk1 rfl rfl k6_26) ?_
    refine as1 (sku rfl rfl) ?_
    refine as1 (sku rfl rfl) ?_
    refine as1 (sk1 rfl rfl k6_26) ?_
    refine as1 (sk1 rfl rfl k6_26) ?_
    refine as1 (sku rfl rfl) ?_
    refine as1 (sku rfl rfl) ?_
    refine as1 (sk1 rfl rfl k6_26) ?_
    refine as1 (sk1 rfl rfl k6_26) ?_
    refine as1 (sku rfl rfl) ?_
    refine as1 (sku rfl rfl) ?_
    refine as1 (sk1 rfl rfl k6_26) ?_
    refine ag ⟨_, _, rfl, rfl, k6_23⟩ (y_pick_f rfl k6_26 rfl) ?_
    refine ap (y_pick_f rfl k6_23 rfl) ?_
    refine a_nil ?_
    refine a_en [(3, .pointer (some ⟨b0_0, 0, none⟩)), (5, .pointer (some ⟨b0_1, 0, none⟩)), (7, v3_1r0), (9, .int .i64 x4_1.1), (10, .int .i64 x4_1.2.1), (11, .int .i64 x4_1.2.2), (12, v5_4r0), (85, .bool false)] ?_
    refine a_cut ?_
    intro a_ w_ ha_ hs_
    exact ⟨false, Option.some.inj hm, ha_.weaken ⟨rfl, rfl, rfl, rfl, rfl, rfl, rfl, rfl, trivial⟩, hs_.reix [] (by decide)⟩
  have hm := hm_j2
  rintro a_ w_ ⟨yj2_85, rfl, ha_, hs_⟩
  try dsimp only at hm
  refine a_start ha_ hs_ ?_
  refine a_then ?_
  refine a_cond rfl (fun k_3 => ?_) (fun k_3 => ?_)
  · have hm := cond_t k_3 hm
    refine a_seq ?_
    refine a_region rfl ?_
    refine ap (y_assign rfl) ?_
    refine a_nil ?_
    refine a_en [(6, .bool false)] ?_
    refine a_then ?_
    refine a_ret ?_
    refine a_then_ret ?_
    refine a_done (v := .bool false) (.inl rfl) rfl ?_ ?_
    · intro a_ w_ ha_ hs_; exact run_results (P := Tryd.prog) (fn := Tryd.f9) (rs := [.tmp 6]) (vs := [.bool false]) rfl (.cons (rv_tmp ha_ rfl) (All2.nil))
    · intro _ _; obtain rfl := Option.some.inj hm
      rfl
  have hm := cond_f k_3 hm
  refine a_skip ?_
  refine a_then ?_
  refine a_seq ?_
  refine a_seq ?_
  refine a_region rfl ?_
  refine ap (y_assign rfl) ?_
  refine a_nil ?_
  refine a_en [(3, .pointer (some ⟨b0_0, 0, none⟩)), (5, .pointer (some ⟨b0_1, 0, none⟩)), (7, v3_1r0), (9, .int .i64 x4_1.1), (10, .int .i64 x4_1.2.1), (11, .int .i64 x4_1.2.2), (12, v5_4r0), (14, .int .i64 0)] ?_
  refine a_then ?_
  obtain ⟨s_j4, hs_j4, hm_j4⟩ := bind_some hm
  refine a_join (fun a_ w_ => Sum.inr () = s_j4 ∧ Ag 228 [] [(3, .pointer (some ⟨b0_0, 0, none⟩)), (5, .pointer (some ⟨b0_1, 0, none⟩)), (9, .int .i64 x4_1.1), (10, .int .i64 x4_1.2.1), (11, .int .i64 x4_1.2.2), (12, v5_4r0)] a_ ∧ St (Kp.mk w H noX) H5_4 [] w_) ?_ ?_
  · have hm := hs_j4
    refine a_block ?_
    refine a_loop (fun n_j5 a_ w_ => ∃ (yj5_14 : Int), law03_TunnelClash_lj5 k x3_1 x5_4 n_j5 yj5_14 = some s_j4 ∧ Ag 228 [] [(3, .pointer (some ⟨b0_0, 0, none⟩)), (5, .pointer (some ⟨b0_1, 0, none⟩)), (7, v3_1r0), (9, .int .i64 x4_1.1), (10, .int .i64 x4_1.2.1), (11, .int .i64 x4_1.2.2), (12, v5_4r0), (14, .int .i64 yj5_14)] a_ ∧ St (Kp.mk w H noX) H5_4 [] w_) k ?_ ?_
    · intro a_ w_ ha_ hs_
      exact ⟨0, hm, ha_.weaken ⟨rfl, rfl, rfl, rfl, rfl, rfl, rfl, rfl, trivial⟩, hs_.reix [] (by decide)⟩
    rintro (_ | n_j5) a_ w_ ⟨yj5_14, hm, ha_, hs_⟩
    · rw [law03_TunnelClash_lj5.eq_1] at hm; cases hm
    rw [law03_TunnelClash_lj5.eq_2] at hm
    refine a_start ha_ hs_ ?_
    refine a_seq ?_
    refine a_seq ?_
    refine a_region rfl ?_
    refine ap (y_move rfl) ?_
    refine ap (y_move rfl) ?_
    refine ap (y_len_sl Tryd.underlying26 rfl h3_1r0) ?_
    refine ap (y_lss rfl rfl) ?_
    refine a_nil ?_
    refine a_en [(3, .pointer (some ⟨b0_0, 0, none⟩)), (5, .pointer (some ⟨b0_1, 0, none⟩)), (7, v3_1r0), (9, .int .i64 x4_1.1), (10, .int .i64 x4_1.2.1), (11, .int .i64 x4_1.2.2), (12, v5_4r0), (14, .int .i64 yj5_14), (89, .bool (decide (yj5_14 < (x3_1.1.length : Int))))] ?_
    refine a_then ?_
    refine a_cond rfl (fun k_6 => ?_) (fun k_6 => ?_)
    · have hm := cond_t k_6 hm
      refine a_skip ?_
      refine a_then ?_
      refine a_seq ?_
      refine a_block ?_
      refine a_seq ?_
      refine a_region rfl ?_
      refine ap (y_move rfl) ?_
      refine ap (y_move rfl) ?_
      refine ap (y_move rfl) ?_
      obtain ⟨x11_3, q11_3, hm⟩ := bind_some hm
      obtain ⟨b11_3, o11_3, c11_3, e11_3, h11_3⟩ := Sl.elemZ 1 rfl h3_1r0 q11_3
      refine ap (y_index Tryd.underlying26 ty3 rfl e11_3 rfl (nth_in q11_3)) ?_
      refine ap (y_load_int ty3 rfl (fun _ h => h.sub) rfl h11_3) ?_
      obtain ⟨x11_5, q11_5, hm⟩ := bind_some hm
      refine a_cons (e_callV (all := [v5_4r0, .int .i64 x11_3]) (v := .int .i64 x11_5) trivial rfl Tryd.func49 rfl rfl rfl rfl rfl (fun w hw => ok_49 hw h5_4r0 q11_5) ?_)
      refine ap (y_geq rfl rfl) ?_
      refine a_nil ?_
      refine a_en [(3, .pointer (some ⟨b0_0, 0, none⟩)), (5, .pointer (some ⟨b0_1, 0, none⟩)), (7, v3_1r0), (9, .int .i64 x4_1.1), (10, .int .i64 x4_1.2.1), (11, .int .i64 x4_1.2.2), (12, v5_4r0), (14, .int .i64 yj5_14), (98, .bool (decide (x11_5 ≥ 0)))] ?_
      refine a_then ?_
      refine a_cond rfl (fun k_7 => ?_) (fun k_7 => ?_)
      · have hm := cond_t k_7 hm
        refine a_seq ?_
        refine a_region rfl ?_
        refine ap (y_assign rfl) ?_
        refine a_nil ?_
        refine a_en [(6, .bool false)] ?_
        refine a_then ?_
        refine a_ret ?_
        refine a_block_ret ?_
        refine a_then_ret ?_
        refine a_then_ret ?_
        refine a_block_ret ?_
        refine a_cut_ret ?_
        refine a_then_ret ?_
        obtain rfl := Option.some.inj hm
        have hm := hm_j4
        try dsimp only at hm
        refine a_done (v := .bool false) (.inl rfl) rfl ?_ ?_
        · intro a_ w_ ha_ hs_; exact run_results (P := Tryd.prog) (fn := Tryd.f9) (rs := [.tmp 6]) (vs := [.bool false]) rfl (.cons (rv_tmp ha_ rfl) (All2.nil))
        · intro _ _; obtain rfl := Option.some.inj hm
          rfl
      have hm := cond_f k_7 hm
      refine a_skip ?_
      refine a_block_normal ?_
      refine a_then ?_
      refine a_region rfl ?_
      refine ap (y_move rfl) ?_
      refine ap (y_add rfl rfl) ?_
      refine ap (y_assign rfl) ?_
      refine a_nil ?_
      refine a_en [(3, .pointer (some ⟨b0_0, 0, none⟩)), (5, .pointer (some ⟨b0_1, 0, none⟩)), (7, v3_1r0), (9, .int .i64 x4_1.1), (10, .int .i64 x4_1.2.1), (11, .int .i64 x4_1.2.2), (12, v5_4r0), (14, .int .i64 (IntKind.i64.wrap (yj5_14 + 1)))] ?_
      refine a_then ?_
      intro a_ w_ ha_ hs_
      exact ⟨n_j5, Nat.lt_succ_self _, IntKind.i64.wrap (yj5_14 + 1), hm, ha_.weaken ⟨rfl, rfl, rfl, rfl, rfl, rfl, rfl, rfl, trivial⟩, hs_.reix [] (by decide)⟩
    have hm := cond_f k_6 hm
    refine a_exit ?_
    refine a_then_exit ?_
    refine a_then_exit ?_
    refine a_block_hit ?_
    refine a_cut ?_
    intro a_ w_ ha_ hs_
    exact ⟨Option.some.inj hm, ha_.weaken ⟨rfl, rfl, rfl, rfl, rfl, rfl, trivial⟩, hs_.reix [] (by decide)⟩
  have hm := hm_j4
  rintro a_ w_ ⟨rfl, ha_, hs_⟩
  try dsimp only at hm
  refine a_start ha_ hs_ ?_
  refine a_then ?_
  refine a_seq ?_
  refine a_seq ?_
  obtain ⟨s_j8, hs_j8, hm_j8⟩ := bind_some hm
  refine a_join (fun a_ w_ => ∃ (yj8_128 : Bool), yj8_128 = s_j8 ∧ Ag 228 [] [(3, .pointer (some ⟨b0_0, 0, none⟩)), (5, .pointer (some ⟨b0_1, 0, none⟩)), (9, .int .i64 x4_1.1), (10, .int .i64 x4_1.2.1), (11, .int .i64 x4_1.2.2), (128, .bool yj8_128)] a_ ∧ St (Kp.mk w H noX) H5_4 [] w_) ?_ ?_
  · have hm := hs_j8
    refine a_region rfl ?_
    refine ap (y_move rfl) ?_
    refine ap (y_eql rfl rfl) ?_
    refine ap (y_move rfl) ?_
    rcases Bool.eq_false_or_eq_true (x4_1.2.2 == 0) with k13_3 | k13_3
    · have hm := cond_t k13_3 hm
      refine ag ⟨_, _, rfl, rfl, k13_3⟩ (y_move rfl) ?_
      have h13_4 := TunnelBook.at_Frames hb0_0
      refine ag ⟨_, _, rfl, rfl, k13_3⟩ (y_fieldAddr fo25_1 rfl) ?_
      obtain ⟨v13_5, h13_5, c13_5⟩ := PAt.sl h13_4
      refine ag ⟨_, _, rfl, rfl, k13_3⟩ (y_load_one ty23 rfl (fun _ h => h.sub) rfl c13_5) ?_
      refine ag ⟨_, _, rfl, rfl, k13_3⟩ (y_len_sl Tryd.underlying23 rfl h13_5) ?_
      refine ag ⟨_, _, rfl, rfl, k13_3⟩ (y_sub rfl rfl) ?_
      obtain ⟨x13_8, q13_8, hm⟩ := bind_some hm
      refine a_cons (e_callV (all := [.int .i64 x4_1.2.1, .int .i64 1, .int .i64 (IntKind.i64.wrap ((p0.Frames.length : Int) - 1))]) (v := .bool x13_8) ⟨_, _, rfl, rfl, k13_3⟩ rfl Tryd.func50 rfl rfl rfl rfl rfl (fun w hw => ok_50 hw q13_8) ?_)
      refine ag ⟨_, _, rfl, rfl, k13_3⟩ (y_not rfl) ?_
      refine ag ⟨_, _, rfl, rfl, k13_3⟩ (y_move rfl) ?_
      rcases Bool.eq_false_or_eq_true (!x13_8) with k13_11 | k13_11
      · have hm := cond_t k13_11 hm
        refine as1 (sk1 rfl rfl k13_11) ?_
        refine as1 (sk1 rfl rfl k13_11) ?_
        refine as1 (sk1 rfl rfl k13_11) ?_
        refine as1 (sk1 rfl rfl k13_11) ?_
        refine as1 (sk1 rfl rfl k13_11) ?_
        refine ag ⟨_, _, rfl, rfl, k13_3⟩ (y_pick_t rfl k13_11 rfl) ?_
        refine ag ⟨_, _, rfl, rfl, k13_3⟩ (y_move rfl) ?_
        refine as1 (sk1 rfl rfl rfl) ?_
        refine as1 (sk1 rfl rfl rfl) ?_
        refine as1 (sk1 rfl rfl rfl) ?_
        refine as1 (sk1 rfl rfl rfl) ?_
        refine as1 (sk1 rfl rfl rfl) ?_
        refine as1 (sku rfl rfl) ?_
        refine as1 (sku rfl rfl) ?_
        refine as1 (sku rfl rfl) ?_
        refine as1 (sku rfl rfl) ?_
        refine as1 (sk1 rfl rfl rfl) ?_
        refine ag ⟨_, _, rfl, rfl, k13_3⟩ (y_pick_t rfl rfl rfl) ?_
        refine ap (y_pick_t rfl k13_3 rfl) ?_
        refine a_nil ?_
        refine a_en [(3, .pointer (some ⟨b0_0, 0, none⟩)), (5, .pointer (some ⟨b0_1, 0, none⟩)), (9, .int .i64 x4_1.1), (10, .int .i64 x4_1.2.1), (11, .int .i64 x4_1.2.2), (128, .bool true)] ?_
        refine a_cut ?_
        intro a_ w_ ha_ hs_
        exact ⟨true, Option.some.inj hm, ha_.weaken ⟨rfl, rfl, rfl, rfl, rfl, rfl, trivial⟩, hs_.reix [] (by decide)⟩
      have hm := cond_f k13_11 hm
      refine ag ⟨_, _, rfl, rfl, k13_11⟩ (y_move rfl) ?_
      refine ag ⟨_, _, rfl, rfl, k13_11⟩ (y_move rfl) ?_
      refine ag ⟨_, _, rfl, rfl, k13_11⟩ (y_sub rfl rfl) ?_
      obtain ⟨x13_14, q13_14, hm⟩ := bind_some hm
      refine a_cons (e_callV (all := [.int .i64 x4_1.1, .int .i64 0, .int .i64 (IntKind.i64.wrap (x4_1.2.1 - 1))]) (v := .bool x13_14) ⟨_, _, rfl, rfl, k13_11⟩ rfl Tryd.func50 rfl rfl rfl rfl rfl (fun w hw => ok_50 hw q13_14) ?_)
      refine ag ⟨_, _, rfl, rfl, k13_11⟩ (y_not rfl) ?_
      refine ag ⟨_, _, rfl, rfl, k13_3⟩ (y_pick_f rfl k13_11 rfl) ?_
      refine ag ⟨_, _, rfl, rfl, k13_3⟩ (y_move rfl) ?_
      rcases Bool.eq_false_or_eq_true (!x13_14) with k13_18 | k13_18
      · have hm := cond_t k13_18 hm
        refine as1 (sk1 rfl rfl k13_18) ?_
        refine as1 (sk1 rfl rfl k13_18) ?_
        refine as1 (sk1 rfl rfl k13_18) ?_
        refine as1 (sk1 rfl rfl k13_18) ?_
        refine as1 (sk1 rfl rfl k13_18) ?_
        refine as1 (sku rfl rfl) ?_
        refine as1 (sku rfl rfl) ?_
        refine as1 (sku rfl rfl) ?_
        refine as1 (sku rfl rfl) ?_
        refine as1 (sk1 rfl rfl k13_18) ?_
        refine ag ⟨_, _, rfl, rfl, k13_3⟩ (y_pick_t rfl k13_18 rfl) ?_
        refine ap (y_pick_t rfl k13_3 rfl) ?_
        refine a_nil ?_
        refine a_en [(3, .pointer (some ⟨b0_0, 0, none⟩)), (5, .pointer (some ⟨b0_1, 0, none⟩)), (9, .int .i64 x4_1.1), (10, .int .i64 x4_1.2.1), (11, .int .i64 x4_1.2.2), (128, .bool true)] ?_
        refine a_cut ?_
        intro a_ w_ ha_ hs_
        exact ⟨true, Option.some.inj hm, ha_.weaken ⟨rfl, rfl, rfl, rfl, rfl, rfl, trivial⟩, hs_.reix [] (by decide)⟩
      have hm := cond_f k13_18 hm
      refine ag ⟨_, _, rfl, rfl, k13_18⟩ (y_move rfl) ?_
      refine ag ⟨_, _, rfl, rfl, k13_18⟩ (y_move rfl) ?_
      obtain ⟨x13_20, q13_20, hm⟩ := bind_some hm
      refine a_cons (e_callV (all := [v5_4r0, .int .i64 x4_1.1]) (v := .int .i64 x13_20) ⟨_, _, rfl, rfl, k13_18⟩ rfl Tryd.func49 rfl rfl rfl rfl rfl (fun w hw => ok_49 hw h5_4r0 q13_20) ?_)
      refine ag ⟨_, _, rfl, rfl, k13_18⟩ (y_geq rfl rfl) ?_
      refine ag ⟨_, _, rfl, rfl, k13_18⟩ (y_move rfl) ?_
      rcases Bool.eq_false_or_eq_true (decide (x13_20 ≥ 0)) with k13_23 | k13_23
      · have hm := cond_t k13_23 hm
        refine ag ⟨_, _, rfl, rfl, k13_23⟩ (y_move rfl) ?_
        refine ag ⟨_, _, rfl, rfl, k13_23⟩ (y_move rfl) ?_
        obtain ⟨x13_25, q13_25, hm⟩ := bind_some hm
        refine a_cons (e_callV (all := [v5_4r0, .int .i64 x4_1.2.1]) (v := .int .i64 x13_25) ⟨_, _, rfl, rfl, k13_23⟩ rfl Tryd.func49 rfl rfl rfl rfl rfl (fun w hw => ok_49 hw h5_4r0 q13_25) ?_)
        refine ag ⟨_, _, rfl, rfl, k13_23⟩ (y_geq rfl rfl) ?_
        refine ag ⟨_, _, rfl, rfl, k13_18⟩ (y_pick_t rfl k13_23 rfl) ?_
        refine ag ⟨_, _, rfl, rfl, k13_3⟩ (y_pick_f rfl k13_18 rfl) ?_
        refine ap (y_pick_t rfl k13_3 rfl) ?_
        refine a_nil ?_
        refine a_en [(3, .pointer (some ⟨b0_0, 0, none⟩)), (5, .pointer (some ⟨b0_1, 0, none⟩)), (9, .int .i64 x4_1.1), (10, .int .i64 x4_1.2.1), (11, .int .i64 x4_1.2.2), (128, .bool (decide (x13_25 ≥ 0)))] ?_
        refine a_cut ?_
        intro a_ w_ ha_ hs_
        exact ⟨decide (x13_25 ≥ 0), Option.some.inj hm, ha_.weaken ⟨rfl, rfl, rfl, rfl, rfl, rfl, trivial⟩, hs_.reix [] (by decide)⟩
      have hm := cond_f k13_23 hm
      refine as1 (sk1 rfl rfl k13_23) ?_
      refine as1 (sk1 rfl rfl k13_23) ?_
      refine as1 (sk1 rfl rfl k13_23) ?_
      refine as1 (sk1 rfl rfl k13_23) ?_
      refine ag ⟨_, _, rfl, rfl, k13_18⟩ (y_pick_f rfl k13_23 rfl) ?_
      refine ag ⟨_, _, rfl, rfl, k13_3⟩ (y_pick_f rfl k13_18 rfl) ?_
      refine ap (y_pick_t rfl k13_3 rfl) ?_
      refine a_nil ?_
      refine a_en [(3, .pointer (some ⟨b0_0, 0, none⟩)), (5, .pointer (some ⟨b0_1, 0, none⟩)), (9, .int .i64 x4_1.1), (10, .int .i64 x4_1.2.1), (11, .int .i64 x4_1.2.2), (128, .bool false)] ?_
      refine a_cut ?_
      intro a_ w_ ha_ hs_
      exact ⟨false, Option.some.inj hm, ha_.weaken ⟨rfl, rfl, rfl, rfl, rfl, rfl, trivial⟩, hs_.reix [] (by decide)⟩
    have hm := cond_f k13_3 hm
    refine as1 (sk1 rfl rfl k13_3) ?_
    refine as1 (sk1 rfl rfl k13_3) ?_
    refine as1 (sk1 rfl rfl k13_3) ?_
    refine as1 (sk1 rfl rfl k13_3) ?_
    refine as1 (sk1 rfl rfl k13_3) ?_
    refine as1 (sk1 rfl rfl k13_3) ?_
    refine as1 (sk1 rfl rfl k13_3) ?_
    refine as1 (sk1 rfl rfl k13_3) ?_
    refine as1 (sku rfl rfl) ?_
    refine as1 (sku rfl rfl) ?_
    refine as1 (sku rfl rfl) ?_
    refine as1 (sku rfl rfl) ?_
    refine as1 (sku rfl rfl) ?_
    refine as1 (sk1 rfl rfl k13_3) ?_
    refine as1 (sk1 rfl rfl k13_3) ?_
    refine as1 (sku rfl rfl) ?_
    refine as1 (sku rfl rfl) ?_
    refine as1 (sku rfl rfl) ?_
    refine as1 (sku rfl rfl) ?_
    refine as1 (sku rfl rfl) ?_
    refine as1 (sku rfl rfl) ?_
    refine as1 (sku rfl rfl) ?_
    refine as1 (sku rfl rfl) ?_
    refine as1 (sku rfl rfl) ?_
    refine as1 (sku rfl rfl) ?_
    refine as1 (sk1 rfl rfl k13_3) ?_
    refine ap (y_pick_f rfl k13_3 rfl) ?_
    refine a_nil ?_
    refine a_en [(3, .pointer (some ⟨b0_0, 0, none⟩)), (5, .pointer (some ⟨b0_1, 0, none⟩)), (9, .int .i64 x4_1.1), (10, .int .i64 x4_1.2.1), (11, .int .i64 x4_1.2.2), (128, .bool false)] ?_
    refine a_cut ?_
    intro a_ w_ ha_ hs_
    exact ⟨false, Option.some.inj hm, ha_.weaken ⟨rfl, rfl, rfl, rfl, rfl, rfl, trivial⟩, hs_.reix [] (by decide)⟩
  have hm := hm_j8
  rintro a_ w_ ⟨yj8_128, rfl, ha_, hs_⟩
  try dsimp only at hm
  refine a_start ha_ hs_ ?_
  refine a_then ?_
  refine a_cond rfl (fun k_9 => ?_) (fun k_9 => ?_)
  · have hm := cond_t k_9 hm
    refine a_seq ?_
    refine a_region rfl ?_
    refine ap (y_assign rfl) ?_
    refine a_nil ?_
    refine a_en [(6, .bool false)] ?_
    refine a_then ?_
    refine a_ret ?_
    refine a_then_ret ?_
    refine a_done (v := .bool false) (.inl rfl) rfl ?_ ?_
    · intro a_ w_ ha_ hs_; exact run_results (P := Tryd.prog) (fn := Tryd.f9) (rs := [.tmp 6]) (vs := [.bool false]) rfl (.cons (rv_tmp ha_ rfl) (All2.nil))
    · intro _ _; obtain rfl := Option.some.inj hm
      rfl
  have hm := cond_f k_9 hm
  refine a_skip ?_
  refine a_then ?_
  refine a_seq ?_
  refine a_seq ?_
  obtain ⟨s_j10, hs_j10, hm_j10⟩ := bind_some hm
  refine a_join (fun a_ w_ => ∃ (yj10_136 : Bool), yj10_136 = s_j10 ∧ Ag 228 [] [(3, .pointer (some ⟨b0_0, 0, none⟩)), (5, .pointer (some ⟨b0_1, 0, none⟩)), (9, .int .i64 x4_1.1), (10, .int .i64 x4_1.2.1), (11, .int .i64 x4_1.2.2), (136, .bool yj10_136)] a_ ∧ St (Kp.mk w H noX) H5_4 [] w_) ?_ ?_
  · have hm := hs_j10
    refine a_region rfl ?_
    have h15_0 := TunnelBook.at_Frames hb0_0
    refine ap (y_fieldAddr fo25_1 rfl) ?_
    obtain ⟨v15_1, h15_1, c15_1⟩ := PAt.sl h15_0
    refine ap (y_load_one ty23 rfl (fun _ h => h.sub) rfl c15_1) ?_
    refine ap (y_len_sl Tryd.underlying23 rfl h15_1) ?_
    refine ap (y_lss rfl rfl) ?_
    refine ap (y_move rfl) ?_
    rcases Bool.eq_false_or_eq_true (decide ((p0.Frames.length : Int) < 2)) with k15_5 | k15_5
    · have hm := cond_t k15_5 hm
      refine as1 (sk1 rfl rfl k15_5) ?_
      refine as1 (sk1 rfl rfl k15_5) ?_
      refine ap (y_pick_t rfl k15_5 rfl) ?_
      refine a_nil ?_
      refine a_en [(3, .pointer (some ⟨b0_0, 0, none⟩)), (5, .pointer (some ⟨b0_1, 0, none⟩)), (9, .int .i64 x4_1.1), (10, .int .i64 x4_1.2.1), (11, .int .i64 x4_1.2.2), (136, .bool true)] ?_
      refine a_cut ?_
      intro a_ w_ ha_ hs_
      exact ⟨true, Option.some.inj hm, ha_.weaken ⟨rfl, rfl, rfl, rfl, rfl, rfl, trivial⟩, hs_.reix [] (by decide)⟩
    have hm := cond_f k15_5 hm
    refine ag ⟨_, _, rfl, rfl, k15_5⟩ (y_move rfl) ?_
    refine ag ⟨_, _, rfl, rfl, k15_5⟩ (y_eql rfl rfl) ?_
    refine ap (y_pick_f rfl k15_5 rfl) ?_
    refine a_nil ?_
    refine a_en [(3, .pointer (some ⟨b0_0, 0, none⟩)), (5, .pointer (some ⟨b0_1, 0, none⟩)), (9, .int .i64 x4_1.1), (10, .int .i64 x4_1.2.1), (11, .int .i64 x4_1.2.2), (136, .bool (x4_1.2.2 == 32))] ?_
    refine a_cut ?_
    intro a_ w_ ha_ hs_
    exact ⟨x4_1.2.2 == 32, Option.some.inj hm, ha_.weaken ⟨rfl, rfl, rfl, rfl, rfl, rfl, trivial⟩, hs_.reix [] (by decide)⟩
  have hm := hm_j10
  rintro a_ w_ ⟨yj10_136, rfl, ha_, hs_⟩
  try dsimp only at hm
  refine a_start ha_ hs_ ?_
  refine a_then ?_
  refine a_cond rfl (fun k_11 => ?_) (fun k_11 => ?_)
  · have hm := cond_t k_11 hm
    refine a_seq ?_
    refine a_region rfl ?_
    obtain ⟨x16_0, q16_0, hm⟩ := bind_some hm
    refine a_cons (e_callV (all := []) (v := .bool x16_0) trivial rfl Tryd.func30 rfl rfl rfl rfl rfl (fun w hw => ok_30 hw hg q16_0) ?_)
    refine ap (y_assign rfl) ?_
    refine a_nil ?_
    refine a_en [(6, .bool x16_0)] ?_
    refine a_then ?_
    refine a_ret ?_
    refine a_then_ret ?_
    refine a_done (v := .bool x16_0) (.inl rfl) rfl ?_ ?_
    · intro a_ w_ ha_ hs_; exact run_results (P := Tryd.prog) (fn := Tryd.f9) (rs := [.tmp 6]) (vs := [.bool x16_0]) rfl (.cons (rv_tmp ha_ rfl) (All2.nil))
    · intro _ _; obtain rfl := Option.some.inj hm
      rfl
  have hm := cond_f k_11 hm
  refine a_skip ?_
  refine a_then ?_
  refine a_seq ?_
  refine a_region rfl ?_
  obtain ⟨x17_0, q17_0, hm⟩ := bind_some hm
  have h17_0 := PAt.arrZ 1 rfl hb0_1 q17_0
  have k17_0 := PAt.arrIn hb0_1 q17_0
  refine ap (y_index_arrp Tryd.underlying47 ty3 rfl rfl k17_0) ?_
  refine ap (y_load_int ty3 rfl (fun _ h => h.sub) rfl h17_0) ?_
  have h17_2 := TunnelBook.at_Frames hb0_0
  refine ap (y_fieldAddr fo25_1 rfl) ?_
  obtain ⟨v17_3, h17_3, c17_3⟩ := PAt.sl h17_2
  refine ap (y_load_one ty23 rfl (fun _ h => h.sub) rfl c17_3) ?_
  refine ap (y_len_sl Tryd.underlying23 rfl h17_3) ?_
  obtain ⟨x17_5, q17_5, hm⟩ := bind_some hm
  refine a_cons (e_callV (all := [.int .i64 x17_0, .int .i64 (p0.Frames.length : Int)]) (v := .int .i64 x17_5) trivial rfl Tryd.func52 rfl rfl rfl rfl rfl (fun w hw => ok_52 hw q17_5) ?_)
  refine ap (y_assign rfl) ?_
  refine a_nil ?_
  refine a_en [(3, .pointer (some ⟨b0_0, 0, none⟩)), (5, .pointer (some ⟨b0_1, 0, none⟩)), (9, .int .i64 x4_1.1), (10, .int .i64 x4_1.2.1), (11, .int .i64 x4_1.2.2), (15, .int .i64 x17_5)] ?_
  refine a_then ?_
  refine a_seq ?_
  obtain ⟨x18_2, q18_2, hm⟩ := bind_some hm
  obtain ⟨x18_8, q18_8, hm⟩ := bind_some hm
  obtain ⟨x18_13, q18_13, hm⟩ := bind_some hm
  refine d_region (S := Sw H5_4 []) (n := 15) (listed := (bits 15 0)) mixed (by kernel_rfl) rfl (by kernel_rfl) ?_
  refine dt 0 1 rfl trivial (y_move rfl) (sw0 []) ?_
  refine dt 1 3 rfl trivial (y_add rfl rfl) (sw0 []) ?_
  have h18_2 := PAt.arrZ 1 rfl hb0_1 q18_2
  have k18_2 := PAt.arrIn hb0_1 q18_2
  refine dt 2 7 rfl trivial (y_index_arrp Tryd.underlying47 ty3 rfl rfl k18_2) (sw0 []) ?_
  refine dt 3 15 rfl trivial (y_load_int ty3 rfl (fun _ h => h.1) rfl h18_2) (sw0 []) ?_
  have h18_4 := TunnelBook.at_Frames hb0_0
  refine dt 4 31 rfl trivial (y_fieldAddr fo25_1 rfl) (sw0 []) ?_
  obtain ⟨v18_5, h18_5, c18_5⟩ := PAt.sl h18_4
  refine dt 5 63 rfl trivial (y_load_one ty23 rfl (fun _ h => h.1) rfl c18_5) (sw0 []) ?_
  refine dt 6 127 rfl trivial (y_len_sl Tryd.underlying23 rfl h18_5) (sw0 []) ?_
  refine dt 7 255 rfl trivial (y_sub rfl rfl) (sw0 []) ?_
  have h18_10 := TunnelBook.at_Frames hb0_0
  refine dt 10 1279 rfl trivial (y_fieldAddr fo25_1 rfl) (sw0 []) ?_
  obtain ⟨v18_11, h18_11, c18_11⟩ := PAt.sl h18_10
  refine dt 11 3327 rfl trivial (y_load_one ty23 rfl (fun _ h => h.1) rfl c18_11) (sw0 []) ?_
  refine dt 12 7423 rfl trivial (y_len_sl Tryd.underlying23 rfl h18_11) (sw0 []) ?_
  refine d1 8 rfl (e_callV (all := [.int .i64 x18_2, .int .i64 (IntKind.i64.wrap ((p0.Frames.length : Int) - 1))]) (v := .int .i64 x18_8) trivial rfl Tryd.func52 rfl rfl rfl rfl rfl (fun w hw => ok_52 hw q18_8) ?_)
  refine dn 7679 (sw0 []) ?_
  refine dt 9 8191 rfl trivial (y_add rfl rfl) (sw0 []) ?_
  refine d1 13 rfl (e_callV (all := [.int .i64 (IntKind.i64.wrap ((IntKind.i64.wrap (x17_5 + 1)) + x18_8)), .int .i64 (p0.Frames.length : Int)]) (v := .int .i64 x18_13) trivial rfl Tryd.func52 rfl rfl rfl rfl rfl (fun w hw => ok_52 hw q18_13) ?_)
  refine dn 16383 (sw0 []) ?_
  refine dt 14 32767 rfl trivial (y_assign rfl) (sw0 []) ?_
  refine d_done (by kernel_rfl) ?_
  refine a_en [(3, .pointer (some ⟨b0_0, 0, none⟩)), (9, .int .i64 x4_1.1), (10, .int .i64 x4_1.2.1), (11, .int .i64 x4_1.2.2), (15, .int .i64 x17_5), (16, .int .i64 x18_13)] ?_
  refine a_then ?_
  refine a_seq ?_
  refine a_region rfl ?_
  refine ap (y_move rfl) ?_
  refine ap (y_move rfl) ?_
  refine ap (y_min rfl rfl) ?_
  refine ap (y_move rfl) ?_
  refine ap (y_move rfl) ?_
  refine ap (y_max rfl rfl) ?_
  refine ap (y_assign rfl) ?_
  refine ap (y_assign rfl) ?_
  refine a_nil ?_
  refine a_en [(3, .pointer (some ⟨b0_0, 0, none⟩)), (9, .int .i64 x4_1.1), (10, .int .i64 x4_1.2.1), (11, .int .i64 x4_1.2.2), (15, .int .i64 (min x17_5 x18_13)), (16, .int .i64 (max x17_5 x18_13))] ?_
  refine a_then ?_
  refine a_seq ?_
  refine a_region rfl ?_
  obtain ⟨u20_0, h20_0, c20_0⟩ := PAt.one hb0_0
  refine ap (y_load_cells ty25 rfl (fun _ h => h.sub) rfl c20_0 (Rp.len h20_0)) ?_
  refine a_cons (e_alloc (cs := [.slice none 0 0, .slice none 0 0]) trivial rfl ty25 rfl ?_)
  intro b20_1
  refine a_cons (e_storeWhole (i := 0) (ds := u20_0) trivial ty25 rfl rfl rfl rfl (Rp.len h20_0) ((Rp.one h20_0)) rfl ?_)
  refine a_nil ?_
  obtain ⟨v20o20_1_0, v20o20_1_1, rfl, h20o20_1_0, h20o20_1_1⟩ := TunnelBook.opened h20_0
  refine a_en [(3, .pointer (some ⟨b0_0, 0, none⟩)), (9, .int .i64 x4_1.1), (10, .int .i64 x4_1.2.1), (11, .int .i64 x4_1.2.2), (15, .int .i64 (min x17_5 x18_13)), (16, .int .i64 (max x17_5 x18_13)), (17, .pointer (some ⟨b20_1, 0, none⟩))] ?_
  refine a_then ?_
  refine a_seq ?_
  obtain ⟨x21_3, q21_3, hm⟩ := bind_some hm
  obtain ⟨x21_8, q21_8, hm⟩ := bind_some hm
  refine d_region (S := Sw H5_4 []) (n := 13) (listed := (bits 13 0)) mixed (by kernel_rfl) rfl (by kernel_rfl) ?_
  have h21_0 := TunnelBook.at_Frames hb0_0
  refine dt 0 1 rfl trivial (y_fieldAddr fo25_1 rfl) (sw0 []) ?_
  obtain ⟨v21_1, h21_1, c21_1⟩ := PAt.sl h21_0
  refine dt 1 3 rfl trivial (y_load_one ty23 rfl (fun _ h => h.1) rfl c21_1) (sw0 []) ?_
  refine dt 2 7 rfl trivial (y_move rfl) (sw0 []) ?_
  obtain ⟨b21_3, o21_3, c21_3, e21_3, h21_3⟩ := Sl.elemZ 3 rfl h21_1 q21_3
  refine dt 3 15 rfl trivial (y_index Tryd.underlying23 ty55 rfl e21_3 rfl (nth_in q21_3)) (sw0 []) ?_
  obtain ⟨u21_4, h21_4, c21_4⟩ := PAt.one h21_3
  refine dt 4 31 rfl trivial (y_load_cells ty55 rfl (fun _ h => h.1) rfl c21_4 (Rp.len h21_4)) (sw0 []) ?_
  have h21_5 := TunnelBook.at_Frames hb0_0
  refine dt 5 63 rfl trivial (y_fieldAddr fo25_1 rfl) (sw0 []) ?_
  obtain ⟨v21_6, h21_6, c21_6⟩ := PAt.sl h21_5
  refine dt 6 127 rfl trivial (y_load_one ty23 rfl (fun _ h => h.1) rfl c21_6) (sw0 []) ?_
  refine dt 7 255 rfl trivial (y_move rfl) (sw0 []) ?_
  obtain ⟨b21_8, o21_8, c21_8, e21_8, h21_8⟩ := Sl.elemZ 3 rfl h21_6 q21_8
  refine dt 8 511 rfl trivial (y_index Tryd.underlying23 ty55 rfl e21_8 rfl (nth_in q21_8)) (sw0 []) ?_
  obtain ⟨u21_9, h21_9, c21_9⟩ := PAt.one h21_8
  refine dt 9 1023 rfl trivial (y_load_cells ty55 rfl (fun _ h => h.1) rfl c21_9 (Rp.len h21_9)) (sw0 []) ?_
  refine d1 10 rfl (e_buildSlice (xs := [.tmp 169, .tmp 174]) (cs := u21_4 ++ (u21_9 ++ ([]))) trivial rfl Tryd.underlying23 ty55 rfl rfl rfl (by simp [Value.cells, Rp.len h21_4, Rp.len h21_9, Rp.sz]) rfl (rfl) ?_)
  intro v21_10
  have h21_10 : RepL (α := TunnelFrame) H5_4 (u21_4 ++ (u21_9 ++ ([]))) [x21_3, x21_8] := (RepL.cons (α := TunnelFrame) (c := u21_4) h21_4 (RepL.cons (α := TunnelFrame) (c := u21_9) h21_9 (RepL.nil (α := TunnelFrame))))
  refine dn 2047 (sw0 []) ?_
  refine dt 11 4095 rfl trivial (y_fieldAddr fo25_1 rfl) (sw0 []) ?_
  refine d1 12 rfl (e_storeLR (i := 1) (j := 0) (cs' := [v20o20_1_0, v21_10]) trivial ty23 rfl rfl rfl rfl (Nat.le_of_ble_eq_true rfl) rfl ?_)
  refine dn 8191 (sw0 []) ?_
  refine d_done (by kernel_rfl) ?_
  refine a_en [(9, .int .i64 x4_1.1), (10, .int .i64 x4_1.2.1), (11, .int .i64 x4_1.2.2), (15, .int .i64 (min x17_5 x18_13)), (16, .int .i64 (max x17_5 x18_13)), (17, .pointer (some ⟨b20_1, 0, none⟩))] ?_
  refine a_then ?_
  refine a_seq ?_
  refine a_region rfl ?_
  refine ap (y_load_boxagg ty25 rfl (knows_box (i := 1) rfl) rfl rfl rfl) ?_
  refine a_frow (i := 0) rfl rfl h21_10 rfl ?_
  intro H22_1q0f l22_1q0f h22_1q0f
  have h20o20_1_0 := Sl.mono l22_1q0f h20o20_1_0
  have hg := Glob.mono l22_1q0f hg
  have m22_1g0l : Rp.rep H22_1q0f [v20o20_1_0, v21_10] (⟨p0.Parts, [x21_3, x21_8]⟩ : TunnelBook) := ⟨_, _, rfl, ⟨_, rfl, h20o20_1_0⟩, ⟨_, rfl, h22_1q0f⟩⟩
  obtain ⟨x22_1, q22_1, hm⟩ := bind_some hm
  refine a_cons (e_callH (all := [.agg [v20o20_1_0, v21_10].toArray]) trivial rfl Tryd.func33 rfl rfl rfl rfl rfl (fun w hw => ok_33 hw m22_1g0l hg q22_1) ?_)
  rintro _ H22_1 l22_1 ⟨v22_1r0, v22_1r1, rfl, h22_1r0, h22_1r1⟩
  have h20o20_1_0 := Sl.mono l22_1 h20o20_1_0
  have h22_1q0f := Sl.mono l22_1 h22_1q0f
  have hg := Glob.mono l22_1 hg
  refine ap (y_move rfl) ?_
  refine ap (y_extract rfl rfl) ?_
  refine ap (y_extract rfl rfl) ?_
  refine ap (y_extract rfl rfl) ?_
  refine ap (y_assign rfl) ?_
  refine ap (y_assign rfl) ?_
  refine ap (y_assign rfl) ?_
  refine a_nil ?_
  refine a_en [(9, .int .i64 x4_1.1), (10, .int .i64 x4_1.2.1), (11, .int .i64 x4_1.2.2), (15, .int .i64 (min x17_5 x18_13)), (16, .int .i64 (max x17_5 x18_13)), (19, v22_1r1), (20, .int .i64 x22_1.2.2)] ?_
  refine a_own [] (by decide) (L' := []) rfl ?_
  refine a_then ?_
  refine a_seq ?_
  refine a_seq ?_
  obtain ⟨s_j12, hs_j12, hm_j12⟩ := bind_some hm
  refine a_join (fun a_ w_ => ∃ (yj12_189 : Bool), yj12_189 = s_j12 ∧ Ag 228 [] [(9, .int .i64 x4_1.1), (10, .int .i64 x4_1.2.1), (11, .int .i64 x4_1.2.2), (15, .int .i64 (min x17_5 x18_13)), (16, .int .i64 (max x17_5 x18_13)), (19, v22_1r1), (189, .bool yj12_189)] a_ ∧ St (Kp.mk w H noX) H22_1 [] w_) ?_ ?_
  · have hm := hs_j12
    refine a_region rfl ?_
    refine ap (y_move rfl) ?_
    refine ap (y_neq rfl rfl) ?_
    refine ap (y_move rfl) ?_
    rcases Bool.eq_false_or_eq_true (x22_1.2.2 != 0) with k23_3 | k23_3
    · have hm := cond_t k23_3 hm
      refine as1 (sk1 rfl rfl k23_3) ?_
      refine as1 (sk1 rfl rfl k23_3) ?_
      refine as1 (sk1 rfl rfl k23_3) ?_
      refine ap (y_pick_t rfl k23_3 rfl) ?_
      refine a_nil ?_
      refine a_en [(9, .int .i64 x4_1.1), (10, .int .i64 x4_1.2.1), (11, .int .i64 x4_1.2.2), (15, .int .i64 (min x17_5 x18_13)), (16, .int .i64 (max x17_5 x18_13)), (19, v22_1r1), (189, .bool true)] ?_
      refine a_cut ?_
      intro a_ w_ ha_ hs_
      exact ⟨true, Option.some.inj hm, ha_.weaken ⟨rfl, rfl, rfl, rfl, rfl, rfl, rfl, trivial⟩, hs_.reix [] (by decide)⟩
    have hm := cond_f k23_3 hm
    refine ag ⟨_, _, rfl, rfl, k23_3⟩ (y_move rfl) ?_
    refine ag ⟨_, _, rfl, rfl, k23_3⟩ (y_len_sl Tryd.underlying26 rfl h22_1r1) ?_
    refine ag ⟨_, _, rfl, rfl, k23_3⟩ (y_eql rfl rfl) ?_
    refine ap (y_pick_f rfl k23_3 rfl) ?_
    refine a_nil ?_
    refine a_en [(9, .int .i64 x4_1.1), (10, .int .i64 x4_1.2.1), (11, .int .i64 x4_1.2.2), (15, .int .i64 (min x17_5 x18_13)), (16, .int .i64 (max x17_5 x18_13)), (19, v22_1r1), (189, .bool ((x22_1.2.1.length : Int) == 0))] ?_
    refine a_cut ?_
    intro a_ w_ ha_ hs_
    exact ⟨(x22_1.2.1.length : Int) == 0, Option.some.inj hm, ha_.weaken ⟨rfl, rfl, rfl, rfl, rfl, rfl, rfl, trivial⟩, hs_.reix [] (by decide)⟩
  have hm := hm_j12
  rintro a_ w_ ⟨yj12_189, rfl, ha_, hs_⟩
  try dsimp only at hm
  refine a_start ha_ hs_ ?_
  refine a_then ?_
  refine a_cond rfl (fun k_13 => ?_) (fun k_13 => ?_)
  · have hm := cond_t k_13 hm
    refine a_seq ?_
    refine a_region rfl ?_
    refine ap (y_assign rfl) ?_
    refine a_nil ?_
    refine a_en [(6, .bool false)] ?_
    refine a_then ?_
    refine a_ret ?_
    refine a_then_ret ?_
    refine a_done (v := .bool false) (.inl rfl) rfl ?_ ?_
    · intro a_ w_ ha_ hs_; exact run_results (P := Tryd.prog) (fn := Tryd.f9) (rs := [.tmp 6]) (vs := [.bool false]) rfl (.cons (rv_tmp ha_ rfl) (All2.nil))
    · intro _ _; obtain rfl := Option.some.inj hm
      rfl
  have hm := cond_f k_13 hm
  refine a_skip ?_
  refine a_then ?_
  refine a_seq ?_
  refine a_seq ?_
  refine a_region rfl ?_
  refine ap (y_move rfl) ?_
  refine ap (y_len_sl Tryd.underlying26 rfl h22_1r1) ?_
  refine ap (y_eql rfl rfl) ?_
  refine a_nil ?_
  refine a_en [(9, .int .i64 x4_1.1), (10, .int .i64 x4_1.2.1), (11, .int .i64 x4_1.2.2), (15, .int .i64 (min x17_5 x18_13)), (16, .int .i64 (max x17_5 x18_13)), (192, .bool ((x22_1.2.1.length : Int) == 2))] ?_
  refine a_then ?_
  refine a_cond rfl (fun k_14 => ?_) (fun k_14 => ?_)
  · have hm := cond_t k_14 hm
    refine a_seq ?_
    obtain ⟨s_j15, hs_j15, hm_j15⟩ := bind_some hm
    refine a_join (fun a_ w_ => ∃ (yj15_6 : Bool), yj15_6 = s_j15 ∧ Ag 228 [] [(6, .bool yj15_6)] a_ ∧ St (Kp.mk w H noX) H22_1 [] w_) ?_ ?_
    · have hm := hs_j15
      refine a_region rfl ?_
      refine ap (y_move rfl) ?_
      refine ap (y_neq rfl rfl) ?_
      refine ap (y_move rfl) ?_
      rcases Bool.eq_false_or_eq_true (x4_1.2.2 != 0) with k26_3 | k26_3
      · have hm := cond_t k26_3 hm
        refine as1 (sk1 rfl rfl k26_3) ?_
        refine as1 (sk1 rfl rfl k26_3) ?_
        refine as1 (sk1 rfl rfl k26_3) ?_
        refine ap (y_pick_t rfl k26_3 rfl) ?_
        refine ap (y_move rfl) ?_
        refine as1 (sk1 rfl rfl rfl) ?_
        refine as1 (sk1 rfl rfl rfl) ?_
        refine as1 (sk1 rfl rfl rfl) ?_
        refine ap (y_pick_t rfl rfl rfl) ?_
        refine ap (y_move rfl) ?_
        obtain ⟨x26_13, q26_13, hm⟩ := bind_some hm
        refine a_cons (e_callV (all := []) (v := .bool x26_13) ⟨_, _, rfl, rfl, rfl⟩ rfl Tryd.func30 rfl rfl rfl rfl rfl (fun w hw => ok_30 hw hg q26_13) ?_)
        refine ap (y_pick_t rfl rfl rfl) ?_
        refine ap (y_assign rfl) ?_
        refine a_nil ?_
        refine a_en [(6, .bool x26_13)] ?_
        refine a_cut ?_
        intro a_ w_ ha_ hs_
        exact ⟨x26_13, Option.some.inj hm, ha_.weaken ⟨rfl, trivial⟩, hs_.reix [] (by decide)⟩
      have hm := cond_f k26_3 hm
      refine ag ⟨_, _, rfl, rfl, k26_3⟩ (y_move rfl) ?_
      refine ag ⟨_, _, rfl, rfl, k26_3⟩ (y_move rfl) ?_
      refine ag ⟨_, _, rfl, rfl, k26_3⟩ (y_neq rfl rfl) ?_
      refine ap (y_pick_f rfl k26_3 rfl) ?_
      refine ap (y_move rfl) ?_
      rcases Bool.eq_false_or_eq_true ((min x17_5 x18_13) != x4_1.1) with k26_8 | k26_8
      · have hm := cond_t k26_8 hm
        refine as1 (sk1 rfl rfl k26_8) ?_
        refine as1 (sk1 rfl rfl k26_8) ?_
        refine as1 (sk1 rfl rfl k26_8) ?_
        refine ap (y_pick_t rfl k26_8 rfl) ?_
        refine ap (y_move rfl) ?_
        obtain ⟨x26_13, q26_13, hm⟩ := bind_some hm
        refine a_cons (e_callV (all := []) (v := .bool x26_13) ⟨_, _, rfl, rfl, rfl⟩ rfl Tryd.func30 rfl rfl rfl rfl rfl (fun w hw => ok_30 hw hg q26_13) ?_)
        refine ap (y_pick_t rfl rfl rfl) ?_
        refine ap (y_assign rfl) ?_
        refine a_nil ?_
        refine a_en [(6, .bool x26_13)] ?_
        refine a_cut ?_
        intro a_ w_ ha_ hs_
        exact ⟨x26_13, Option.some.inj hm, ha_.weaken ⟨rfl, trivial⟩, hs_.reix [] (by decide)⟩
      have hm := cond_f k26_8 hm
      refine ag ⟨_, _, rfl, rfl, k26_8⟩ (y_move rfl) ?_
      refine ag ⟨_, _, rfl, rfl, k26_8⟩ (y_move rfl) ?_
      refine ag ⟨_, _, rfl, rfl, k26_8⟩ (y_neq rfl rfl) ?_
      refine ap (y_pick_f rfl k26_8 rfl) ?_
      refine ap (y_move rfl) ?_
      rcases Bool.eq_false_or_eq_true ((max x17_5 x18_13) != x4_1.2.1) with k26_13 | k26_13
      · have hm := cond_t k26_13 hm
        obtain ⟨x26_13, q26_13, hm⟩ := bind_some hm
        refine a_cons (e_callV (all := []) (v := .bool x26_13) ⟨_, _, rfl, rfl, k26_13⟩ rfl Tryd.func30 rfl rfl rfl rfl rfl (fun w hw => ok_30 hw hg q26_13) ?_)
        refine ap (y_pick_t rfl k26_13 rfl) ?_
        refine ap (y_assign rfl) ?_
        refine a_nil ?_
        refine a_en [(6, .bool x26_13)] ?_
        refine a_cut ?_
        intro a_ w_ ha_ hs_
        exact ⟨x26_13, Option.some.inj hm, ha_.weaken ⟨rfl, trivial⟩, hs_.reix [] (by decide)⟩
      have hm := cond_f k26_13 hm
      refine as1 (sk1 rfl rfl k26_13) ?_
      refine ap (y_pick_f rfl k26_13 rfl) ?_
      refine ap (y_assign rfl) ?_
      refine a_nil ?_
      refine a_en [(6, .bool false)] ?_
      refine a_cut ?_
      intro a_ w_ ha_ hs_
      exact ⟨false, Option.some.inj hm, ha_.weaken ⟨rfl, trivial⟩, hs_.reix [] (by decide)⟩
    have hm := hm_j15
    rintro a_ w_ ⟨yj15_6, rfl, ha_, hs_⟩
    try dsimp only at hm
    refine a_start ha_ hs_ ?_
    refine a_then ?_
    refine a_ret ?_
    refine a_then_ret ?_
    refine a_done (v := .bool yj15_6) (.inl rfl) rfl ?_ ?_
    · intro a_ w_ ha_ hs_; exact run_results (P := Tryd.prog) (fn := Tryd.f9) (rs := [.tmp 6]) (vs := [.bool yj15_6]) rfl (.cons (rv_tmp ha_ rfl) (All2.nil))
    · intro _ _; obtain rfl := Option.some.inj hm
      rfl
  have hm := cond_f k_14 hm
  refine a_skip ?_
  refine a_then ?_
  refine a_seq ?_
  obtain ⟨s_j16, hs_j16, hm_j16⟩ := bind_some hm
  refine a_join (fun a_ w_ => ∃ (yj16_6 : Bool), yj16_6 = s_j16 ∧ Ag 228 [] [(6, .bool yj16_6)] a_ ∧ St (Kp.mk w H noX) H22_1 [] w_) ?_ ?_
  · have hm := hs_j16
    refine a_region rfl ?_
    refine ap (y_move rfl) ?_
    refine ap (y_eql rfl rfl) ?_
    refine ap (y_move rfl) ?_
    rcases Bool.eq_false_or_eq_true (x4_1.2.2 == 0) with k27_3 | k27_3
    · have hm := cond_t k27_3 hm
      refine ag ⟨_, _, rfl, rfl, k27_3⟩ (y_move rfl) ?_
      refine ag ⟨_, _, rfl, rfl, k27_3⟩ (y_move rfl) ?_
      refine ag ⟨_, _, rfl, rfl, k27_3⟩ (y_lss rfl rfl) ?_
      refine ag ⟨_, _, rfl, rfl, k27_3⟩ (y_move rfl) ?_
      rcases Bool.eq_false_or_eq_true (decide (x4_1.1 < (min x17_5 x18_13))) with k27_7 | k27_7
      · have hm := cond_t k27_7 hm
        refine as1 (sk1 rfl rfl k27_7) ?_
        refine as1 (sk1 rfl rfl k27_7) ?_
        refine as1 (sk1 rfl rfl k27_7) ?_
        refine as1 (sk1 rfl rfl k27_7) ?_
        refine as1 (sku rfl rfl) ?_
        refine as1 (sku rfl rfl) ?_
        refine as1 (sku rfl rfl) ?_
        refine as1 (sk1 rfl rfl k27_7) ?_
        refine ag ⟨_, _, rfl, rfl, k27_3⟩ (y_pick_t rfl k27_7 rfl) ?_
        refine ap (y_pick_t rfl k27_3 rfl) ?_
        refine ap (y_move rfl) ?_
        obtain ⟨x27_18, q27_18, hm⟩ := bind_some hm
        refine a_cons (e_callV (all := []) (v := .bool x27_18) ⟨_, _, rfl, rfl, rfl⟩ rfl Tryd.func30 rfl rfl rfl rfl rfl (fun w hw => ok_30 hw hg q27_18) ?_)
        refine ap (y_pick_t rfl rfl rfl) ?_
        refine ap (y_assign rfl) ?_
        refine a_nil ?_
        refine a_en [(6, .bool x27_18)] ?_
        refine a_cut ?_
        intro a_ w_ ha_ hs_
        exact ⟨x27_18, Option.some.inj hm, ha_.weaken ⟨rfl, trivial⟩, hs_.reix [] (by decide)⟩
      have hm := cond_f k27_7 hm
      refine ag ⟨_, _, rfl, rfl, k27_7⟩ (y_move rfl) ?_
      refine ag ⟨_, _, rfl, rfl, k27_7⟩ (y_move rfl) ?_
      refine ag ⟨_, _, rfl, rfl, k27_7⟩ (y_eql rfl rfl) ?_
      refine ag ⟨_, _, rfl, rfl, k27_7⟩ (y_move rfl) ?_
      rcases Bool.eq_false_or_eq_true (x4_1.1 == (min x17_5 x18_13)) with k27_11 | k27_11
      · have hm := cond_t k27_11 hm
        refine ag ⟨_, _, rfl, rfl, k27_11⟩ (y_move rfl) ?_
        refine ag ⟨_, _, rfl, rfl, k27_11⟩ (y_move rfl) ?_
        refine ag ⟨_, _, rfl, rfl, k27_11⟩ (y_leq rfl rfl) ?_
        refine ag ⟨_, _, rfl, rfl, k27_7⟩ (y_pick_t rfl k27_11 rfl) ?_
        refine ag ⟨_, _, rfl, rfl, k27_3⟩ (y_pick_f rfl k27_7 rfl) ?_
        refine ap (y_pick_t rfl k27_3 rfl) ?_
        refine ap (y_move rfl) ?_
        rcases Bool.eq_false_or_eq_true (decide (x4_1.2.1 ≤ (max x17_5 x18_13))) with k27_18 | k27_18
        · have hm := cond_t k27_18 hm
          obtain ⟨x27_18, q27_18, hm⟩ := bind_some hm
          refine a_cons (e_callV (all := []) (v := .bool x27_18) ⟨_, _, rfl, rfl, k27_18⟩ rfl Tryd.func30 rfl rfl rfl rfl rfl (fun w hw => ok_30 hw hg q27_18) ?_)
          refine ap (y_pick_t rfl k27_18 rfl) ?_
          refine ap (y_assign rfl) ?_
          refine a_nil ?_
          refine a_en [(6, .bool x27_18)] ?_
          refine a_cut ?_
          intro a_ w_ ha_ hs_
          exact ⟨x27_18, Option.some.inj hm, ha_.weaken ⟨rfl, trivial⟩, hs_.reix [] (by decide)⟩
        have hm := cond_f k27_18 hm
        refine as1 (sk1 rfl rfl k27_18) ?_
        refine ap (y_pick_f rfl k27_18 rfl) ?_
        refine ap (y_assign rfl) ?_
        refine a_nil ?_
        refine a_en [(6, .bool false)] ?_
        refine a_cut ?_
        intro a_ w_ ha_ hs_
        exact ⟨false, Option.some.inj hm, ha_.weaken ⟨rfl, trivial⟩, hs_.reix [] (by decide)⟩
      have hm := cond_f k27_11 hm
      refine as1 (sk1 rfl rfl k27_11) ?_
      refine as1 (sk1 rfl rfl k27_11) ?_
      refine as1 (sk1 rfl rfl k27_11) ?_
      refine ag ⟨_, _, rfl, rfl, k27_7⟩ (y_pick_f rfl k27_11 rfl) ?_
      refine ag ⟨_, _, rfl, rfl, k27_3⟩ (y_pick_f rfl k27_7 rfl) ?_
      refine ap (y_pick_t rfl k27_3 rfl) ?_
      refine ap (y_move rfl) ?_
      refine as1 (sk1 rfl rfl rfl) ?_
      refine ap (y_pick_f rfl rfl rfl) ?_
      refine ap (y_assign rfl) ?_
      refine a_nil ?_
      refine a_en [(6, .bool false)] ?_
      refine a_cut ?_
      intro a_ w_ ha_ hs_
      exact ⟨false, Option.some.inj hm, ha_.weaken ⟨rfl, trivial⟩, hs_.reix [] (by decide)⟩
    have hm := cond_f k27_3 hm
    refine as1 (sk1 rfl rfl k27_3) ?_
    refine as1 (sk1 rfl rfl k27_3) ?_
    refine as1 (sk1 rfl rfl k27_3) ?_
    refine as1 (sk1 rfl rfl k27_3) ?_
    refine as1 (sku rfl rfl) ?_
    refine as1 (sku rfl rfl) ?_
    refine as1 (sku rfl rfl) ?_
    refine as1 (sku rfl rfl) ?_
    refine as1 (sku rfl rfl) ?_
    refine as1 (sku rfl rfl) ?_
    refine as1 (sku rfl rfl) ?_
    refine as1 (sku rfl rfl) ?_
    refine as1 (sk1 rfl rfl k27_3) ?_
    refine ap (y_pick_f rfl k27_3 rfl) ?_
    refine ap (y_move rfl) ?_
    refine as1 (sk1 rfl rfl rfl) ?_
    refine ap (y_pick_f rfl rfl rfl) ?_
    refine ap (y_assign rfl) ?_
    refine a_nil ?_
    refine a_en [(6, .bool false)] ?_
    refine a_cut ?_
    intro a_ w_ ha_ hs_
    exact ⟨false, Option.some.inj hm, ha_.weaken ⟨rfl, trivial⟩, hs_.reix [] (by decide)⟩
  have hm := hm_j16
  rintro a_ w_ ⟨yj16_6, rfl, ha_, hs_⟩
  try dsimp only at hm
  refine a_start ha_ hs_ ?_
  refine a_then ?_
  refine a_ret ?_
  refine a_done (v := .bool yj16_6) (.inl rfl) rfl ?_ ?_
  · intro a_ w_ ha_ hs_; exact run_results (P := Tryd.prog) (fn := Tryd.f9) (rs := [.tmp 6]) (vs := [.bool yj16_6]) rfl (.cons (rv_tmp ha_ rfl) (All2.nil))
  · intro _ _; obtain rfl := Option.some.inj hm
    rfl
end Go.Lu
