/- Of each further function that the law TunnelAsk reaches, part 1: what it computes, and the walk that shows it. -/
import Derived.Test.YtbcabikaaadiiaaDoorLuW3
namespace Go.Lu
open Go Go.Proofs
set_option linter.unusedVariables false
set_option maxRecDepth 100000
set_option maxHeartbeats 8000000
def ref00_Fits (k : Nat) (p0 : Int) (p1 : Int) (p2 : Int) : Option Bool :=
 (bif decide (p1 ≤ p0) then
 some ((decide (p0 ≤ p2)))
 else
 some (false)).bind fun yj1_6 =>
 some (yj1_6)
theorem ok_50 {k : Nat} {H : Hp} {w : World} {p0 : Int} {p1 : Int} {p2 : Int} {r : Bool} (hsub : Sub H w)  (hm : ref00_Fits k p0 p1 p2 = some r) : Calls Tryd.prog 50 [.int .i64 p0, .int .i64 p1, .int .i64 p2].toArray w (PostV w H (.bool r)) := by
  unfold ref00_Fits at hm
  refine start (n := 15) (E := [(0, .int .i64 p0), (1, .int .i64 p1), (2, .int .i64 p2)]) Tryd.func50 rfl rfl ⟨rfl, rfl, rfl, trivial⟩ rfl hsub ?_
  refine a_seq ?_
  refine a_region rfl ?_
  refine ap (y_assign rfl) ?_
  refine a_nil ?_
  refine a_en [(0, .int .i64 p0), (1, .int .i64 p1), (2, .int .i64 p2)] ?_
  refine a_then ?_
  refine a_seq ?_
  obtain ⟨s_j1, hs_j1, hm_j1⟩ := bind_some hm
  refine a_join (fun a_ w_ => ∃ (yj1_6 : Bool), yj1_6 = s_j1 ∧ Ag 15 [] [(6, .bool yj1_6)] a_ ∧ St (Kp.mk w H noX) H [] w_) ?_ ?_
  · have hm := hs_j1
    refine a_region rfl ?_
    refine ap (y_move rfl) ?_
    refine ap (y_move rfl) ?_
    refine ap (y_leq rfl rfl) ?_
    refine ap (y_move rfl) ?_
    rcases Bool.eq_false_or_eq_true (decide (p1 ≤ p0)) with k1_4 | k1_4
    · have hm := cond_t k1_4 hm
      refine ag ⟨_, _, rfl, rfl, k1_4⟩ (y_move rfl) ?_
      refine ag ⟨_, _, rfl, rfl, k1_4⟩ (y_move rfl) ?_
      refine ag ⟨_, _, rfl, rfl, k1_4⟩ (y_leq rfl rfl) ?_
      refine ap (y_pick_t rfl k1_4 rfl) ?_
      refine ap (y_assign rfl) ?_
      refine a_nil ?_
      refine a_en [(6, .bool (decide (p0 ≤ p2)))] ?_
      refine a_cut ?_
      intro a_ w_ ha_ hs_
      exact ⟨decide (p0 ≤ p2), Option.some.inj hm, ha_.weaken ⟨rfl, trivial⟩, hs_.reix [] (by decide)⟩
    have hm := cond_f k1_4 hm
    refine as1 (sk1 rfl rfl k1_4) ?_
    refine as1 (sk1 rfl rfl k1_4) ?_
    refine as1 (sk1 rfl rfl k1_4) ?_
    refine ap (y_pick_f rfl k1_4 rfl) ?_
    refine ap (y_assign rfl) ?_
    refine a_nil ?_
    refine a_en [(6, .bool false)] ?_
    refine a_cut ?_
    intro a_ w_ ha_ hs_
    exact ⟨false, Option.some.inj hm, ha_.weaken ⟨rfl, trivial⟩, hs_.reix [] (by decide)⟩
  have hm := hm_j1
  rintro a_ w_ ⟨yj1_6, rfl, ha_, hs_⟩
  try dsimp only at hm
  refine a_start ha_ hs_ ?_
  refine a_then ?_
  refine a_ret ?_
  refine a_done (v := .bool yj1_6) (.inl rfl) rfl ?_ ?_
  · intro a_ w_ ha_ hs_; exact run_results (P := Tryd.prog) (fn := Tryd.f50) (rs := [.tmp 6]) (vs := [.bool yj1_6]) rfl (.cons (rv_tmp ha_ rfl) (All2.nil))
  · intro _ _; obtain rfl := Option.some.inj hm
    rfl

def ref00_Right (k : Nat) (p0 : Span) (p1 : Int) (p2 : Int) : Option Bool :=
 (bif decide (p1 ≤ p0.Low) then
 bif decide (p0.Low ≤ p0.High) then
 some ((decide (p0.High ≤ p2)))
 else
 some (false)
 else
 some (false)).bind fun yj1_6 =>
 some (yj1_6)
theorem ok_87 {k : Nat} {H : Hp} {w : World} {p0 : Span} {p1 : Int} {p2 : Int} {c0 : List Value} {r : Bool} (hsub : Sub H w) (h0 : Rp.rep (α := Span) H c0 p0) (hm : ref00_Right k p0 p1 p2 = some r) : Calls Tryd.prog 87 [.agg c0.toArray, .int .i64 p1, .int .i64 p2].toArray w (PostV w H (.bool r)) := by
  unfold ref00_Right at hm
  refine start (n := 24) (E := [(0, .agg c0.toArray), (1, .int .i64 p1), (2, .int .i64 p2)]) Tryd.func87 rfl rfl ⟨rfl, rfl, rfl, trivial⟩ rfl hsub ?_
  refine a_seq ?_
  refine a_region rfl ?_
  refine a_cons (e_box (cs := c0) trivial rfl rfl rfl ?_)
  intro b0_0
  refine ap (y_assign rfl) ?_
  refine a_nil ?_
  refine a_freeze (α := Span) (x := p0) (i := 0) rfl h0 ?_
  intro Hb0_0 lb0_0 hb0_0
  have h0 := Rp.mono lb0_0 h0
  refine a_en [(1, .int .i64 p1), (2, .int .i64 p2), (3, .pointer (some ⟨b0_0, 0, none⟩))] ?_
  refine a_own [] (by decide) (L' := []) rfl ?_
  refine a_then ?_
  refine a_seq ?_
  obtain ⟨s_j1, hs_j1, hm_j1⟩ := bind_some hm
  refine a_join (fun a_ w_ => ∃ (yj1_6 : Bool), yj1_6 = s_j1 ∧ Ag 24 [] [(6, .bool yj1_6)] a_ ∧ St (Kp.mk w H noX) Hb0_0 [] w_) ?_ ?_
  · have hm := hs_j1
    refine a_region rfl ?_
    refine ap (y_move rfl) ?_
    have h1_1 := Span.at_Low hb0_0
    refine ap (y_fieldAddr fo32_0 rfl) ?_
    refine ap (y_load_int ty3 rfl (fun _ h => h.sub) rfl h1_1) ?_
    refine ap (y_leq rfl rfl) ?_
    refine ap (y_move rfl) ?_
    rcases Bool.eq_false_or_eq_true (decide (p1 ≤ p0.Low)) with k1_5 | k1_5
    · have hm := cond_t k1_5 hm
      have h1_5 := Span.at_Low hb0_0
      refine ag ⟨_, _, rfl, rfl, k1_5⟩ (y_fieldAddr fo32_0 rfl) ?_
      refine ag ⟨_, _, rfl, rfl, k1_5⟩ (y_load_int ty3 rfl (fun _ h => h.sub) rfl h1_5) ?_
      have h1_7 := Span.at_High hb0_0
      refine ag ⟨_, _, rfl, rfl, k1_5⟩ (y_fieldAddr fo32_1 rfl) ?_
      refine ag ⟨_, _, rfl, rfl, k1_5⟩ (y_load_int ty3 rfl (fun _ h => h.sub) rfl h1_7) ?_
      refine ag ⟨_, _, rfl, rfl, k1_5⟩ (y_leq rfl rfl) ?_
      refine ap (y_pick_t rfl k1_5 rfl) ?_
      refine ap (y_move rfl) ?_
      rcases Bool.eq_false_or_eq_true (decide (p0.Low ≤ p0.High)) with k1_12 | k1_12
      · have hm := cond_t k1_12 hm
        have h1_12 := Span.at_High hb0_0
        refine ag ⟨_, _, rfl, rfl, k1_12⟩ (y_fieldAddr fo32_1 rfl) ?_
        refine ag ⟨_, _, rfl, rfl, k1_12⟩ (y_load_int ty3 rfl (fun _ h => h.sub) rfl h1_12) ?_
        refine ag ⟨_, _, rfl, rfl, k1_12⟩ (y_move rfl) ?_
        refine ag ⟨_, _, rfl, rfl, k1_12⟩ (y_leq rfl rfl) ?_
        refine ap (y_pick_t rfl k1_12 rfl) ?_
        refine ap (y_assign rfl) ?_
        refine a_nil ?_
        refine a_en [(6, .bool (decide (p0.High ≤ p2)))] ?_
        refine a_cut ?_
        intro a_ w_ ha_ hs_
        exact ⟨decide (p0.High ≤ p2), Option.some.inj hm, ha_.weaken ⟨rfl, trivial⟩, hs_.reix [] (by decide)⟩
      have hm := cond_f k1_12 hm
      refine as1 (sk1 rfl rfl k1_12) ?_
      refine as1 (sk1 rfl rfl k1_12) ?_
      refine as1 (sk1 rfl rfl k1_12) ?_
      refine as1 (sk1 rfl rfl k1_12) ?_
      refine ap (y_pick_f rfl k1_12 rfl) ?_
      refine ap (y_assign rfl) ?_
      refine a_nil ?_
      refine a_en [(6, .bool false)] ?_
      refine a_cut ?_
      intro a_ w_ ha_ hs_
      exact ⟨false, Option.some.inj hm, ha_.weaken ⟨rfl, trivial⟩, hs_.reix [] (by decide)⟩
    have hm := cond_f k1_5 hm
    refine as1 (sk1 rfl rfl k1_5) ?_
    refine as1 (sk1 rfl rfl k1_5) ?_
    refine as1 (sk1 rfl rfl k1_5) ?_
    refine as1 (sk1 rfl rfl k1_5) ?_
    refine as1 (sk1 rfl rfl k1_5) ?_
    refine ap (y_pick_f rfl k1_5 rfl) ?_
    refine ap (y_move rfl) ?_
    refine as1 (sk1 rfl rfl rfl) ?_
    refine as1 (sk1 rfl rfl rfl) ?_
    refine as1 (sk1 rfl rfl rfl) ?_
    refine as1 (sk1 rfl rfl rfl) ?_
    refine ap (y_pick_f rfl rfl rfl) ?_
    refine ap (y_assign rfl) ?_
    refine a_nil ?_
    refine a_en [(6, .bool false)] ?_
    refine a_cut ?_
    intro a_ w_ ha_ hs_
    exact ⟨false, Option.some.inj hm, ha_.weaken ⟨rfl, trivial⟩, hs_.reix [] (by decide)⟩
  have hm := hm_j1
  rintro a_ w_ ⟨yj1_6, rfl, ha_, hs_⟩
  try dsimp only at hm
  refine a_start ha_ hs_ ?_
  refine a_then ?_
  refine a_ret ?_
  refine a_done (v := .bool yj1_6) (.inl rfl) rfl ?_ ?_
  · intro a_ w_ ha_ hs_; exact run_results (P := Tryd.prog) (fn := Tryd.f87) (rs := [.tmp 6]) (vs := [.bool yj1_6]) rfl (.cons (rv_tmp ha_ rfl) (All2.nil))
  · intro _ _; obtain rfl := Option.some.inj hm
    rfl

def law03_sound_lj8 (k : Nat) (x5_3 : TunnelPart) : Nat → Bool → Int → Option Bool
 | 0, _, _ => none
 | n_j8 + 1, yj8_3, yj8_6 =>
 bif decide (yj8_6 ≤ 3) then
 (bif yj8_3 then
 (nth x5_3.Heat yj8_6).bind fun x10_4 =>
 (ref00_Fits k x10_4 0 20).bind fun x10_6 =>
 some (x10_6)
 else
 some (false)).bind fun yj10_3 =>
 law03_sound_lj8 k x5_3 n_j8 yj10_3 (IntKind.i64.wrap (yj8_6 + 1))
 else
 some (yj8_3)
def law03_sound_lj3 (k : Nat) (p0 : TunnelBook) : Nat → Bool → Int → Option Bool
 | 0, _, _ => none
 | n_j3 + 1, yj3_3, yj3_4 =>
 (bif yj3_3 then
 some ((decide (yj3_4 < (p0.Parts.length : Int))))
 else
 some (false)).bind fun yj4_32 =>
 bif yj4_32 then
 (nth p0.Parts yj3_4).bind fun x5_3 =>
 ((ref00_Right k x5_3.Damp 0 20).bind fun x6_2 =>
 bif x6_2 then
 some ((decide ((IntKind.i64.wrap (x5_3.Damp.High - x5_3.Damp.Low)) ≤ 3)))
 else
 some (false)).bind fun yj6_3 =>
 (law03_sound_lj8 k x5_3 k yj6_3 0).bind fun yj7_3 =>
 law03_sound_lj3 k p0 n_j3 yj7_3 (IntKind.i64.wrap (yj3_4 + 1))
 else
 some (yj3_3)
def law03_sound_lj17 (k : Nat) (x14_3 : TunnelFrame) : Nat → Bool → Int → Option Bool
 | 0, _, _ => none
 | n_j17 + 1, yj17_3, yj17_9 =>
 (bif yj17_3 then
 some ((decide (yj17_9 < (x14_3.Stay.length : Int))))
 else
 some (false)).bind fun yj18_99 =>
 bif yj18_99 then
 (nth x14_3.Stay yj17_9).bind fun x19_3 =>
 (ref00_Fits k x19_3 0 20).bind fun x19_5 =>
 law03_sound_lj17 k x14_3 n_j17 x19_5 (IntKind.i64.wrap (yj17_9 + 1))
 else
 some (yj17_3)
def law03_sound_lj12 (k : Nat) (p0 : TunnelBook) : Nat → Bool → Int → Option Bool
 | 0, _, _ => none
 | n_j12 + 1, yj12_3, yj12_7 =>
 (bif yj12_3 then
 some ((decide (yj12_7 < (p0.Frames.length : Int))))
 else
 some (false)).bind fun yj13_72 =>
 bif yj13_72 then
 (nth p0.Frames yj12_7).bind fun x14_3 =>
 (bif (x14_3.Stay.length : Int) == (p0.Parts.length : Int) then
 (ref00_Right k x14_3.Need 0 999).bind fun x15_10 =>
 some (x15_10)
 else
 some (false)).bind fun yj15_3 =>
 (law03_sound_lj17 k x14_3 k yj15_3 0).bind fun yj16_3 =>
 law03_sound_lj12 k p0 n_j12 yj16_3 (IntKind.i64.wrap (yj12_7 + 1))
 else
 some (yj12_3)
def law03_sound (k : Nat) (p0 : TunnelBook) : Option Bool :=
 ((tunnel_Check k p0).bind fun x1_1 =>
 bif x1_1 == 0 then
 (ref00_Fits k (p0.Parts.length : Int) 1 4).bind fun x1_7 =>
 bif x1_7 then
 some ((decide ((p0.Frames.length : Int) ≤ 5)))
 else
 some (false)
 else
 some (false)).bind fun yj1_3 =>
 (law03_sound_lj3 k p0 k yj1_3 0).bind fun yj2_3 =>
 (law03_sound_lj12 k p0 k yj2_3 0).bind fun yj11_3 =>
 some (yj11_3)
theorem ok_43 {k : Nat} {H : Hp} {w : World} {p0 : TunnelBook} {c0 : List Value} {r : Bool} (hsub : Sub H w) (h0 : Rp.rep (α := TunnelBook) H c0 p0) (hm : law03_sound k p0 = some r) : Calls Tryd.prog 43 [.agg c0.toArray].toArray w (PostV w H (.bool r)) := by
  unfold law03_sound at hm
  refine start (n := 109) (E := [(0, .agg c0.toArray)]) Tryd.func43 rfl rfl ⟨rfl, trivial⟩ rfl hsub ?_
  refine a_seq ?_
  refine a_region rfl ?_
  refine a_cons (e_box (cs := c0) trivial rfl rfl rfl ?_)
  intro b0_0
  refine ap (y_assign rfl) ?_
  refine a_nil ?_
  refine a_freeze (α := TunnelBook) (x := p0) (i := 0) rfl h0 ?_
  intro Hb0_0 lb0_0 hb0_0
  have h0 := Rp.mono lb0_0 h0
  refine a_en [(1, .pointer (some ⟨b0_0, 0, none⟩))] ?_
  refine a_own [] (by decide) (L' := []) rfl ?_
  refine a_then ?_
  refine a_seq ?_
  obtain ⟨s_j1, hs_j1, hm_j1⟩ := bind_some hm
  refine a_join (fun a_ w_ => ∃ (yj1_3 : Bool), yj1_3 = s_j1 ∧ Ag 109 [] [(1, .pointer (some ⟨b0_0, 0, none⟩)), (3, .bool yj1_3)] a_ ∧ St (Kp.mk w H noX) Hb0_0 [] w_) ?_ ?_
  · have hm := hs_j1
    refine a_region rfl ?_
    obtain ⟨u1_0, h1_0, c1_0⟩ := PAt.one hb0_0
    refine ap (y_load_cells ty25 rfl (fun _ h => h.sub) rfl c1_0 (Rp.len h1_0)) ?_
    obtain ⟨x1_1, q1_1, hm⟩ := bind_some hm
    refine a_cons (e_callV (all := [.agg u1_0.toArray]) (v := .int .i64 x1_1) trivial rfl Tryd.func21 rfl rfl rfl rfl rfl (fun w hw => ok_21 hw h1_0 q1_1) ?_)
    refine ap (y_eql rfl rfl) ?_
    refine ap (y_move rfl) ?_
    rcases Bool.eq_false_or_eq_true (x1_1 == 0) with k1_4 | k1_4
    · have hm := cond_t k1_4 hm
      have h1_4 := TunnelBook.at_Parts hb0_0
      refine ag ⟨_, _, rfl, rfl, k1_4⟩ (y_fieldAddr fo25_0 rfl) ?_
      obtain ⟨v1_5, h1_5, c1_5⟩ := PAt.sl h1_4
      refine ag ⟨_, _, rfl, rfl, k1_4⟩ (y_load_one ty22 rfl (fun _ h => h.sub) rfl c1_5) ?_
      refine ag ⟨_, _, rfl, rfl, k1_4⟩ (y_len_sl Tryd.underlying22 rfl h1_5) ?_
      obtain ⟨x1_7, q1_7, hm⟩ := bind_some hm
      refine a_cons (e_callV (all := [.int .i64 (p0.Parts.length : Int), .int .i64 1, .int .i64 4]) (v := .bool x1_7) ⟨_, _, rfl, rfl, k1_4⟩ rfl Tryd.func50 rfl rfl rfl rfl rfl (fun w hw => ok_50 hw q1_7) ?_)
      refine ap (y_pick_t rfl k1_4 rfl) ?_
      refine ap (y_move rfl) ?_
      rcases Bool.eq_false_or_eq_true (x1_7) with k1_10 | k1_10
      · have hm := cond_t k1_10 hm
        have h1_10 := TunnelBook.at_Frames hb0_0
        refine ag ⟨_, _, rfl, rfl, k1_10⟩ (y_fieldAddr fo25_1 rfl) ?_
        obtain ⟨v1_11, h1_11, c1_11⟩ := PAt.sl h1_10
        refine ag ⟨_, _, rfl, rfl, k1_10⟩ (y_load_one ty23 rfl (fun _ h => h.sub) rfl c1_11) ?_
        refine ag ⟨_, _, rfl, rfl, k1_10⟩ (y_len_sl Tryd.underlying23 rfl h1_11) ?_
        refine ag ⟨_, _, rfl, rfl, k1_10⟩ (y_leq rfl rfl) ?_
        refine ap (y_pick_t rfl k1_10 rfl) ?_
        refine ap (y_assign rfl) ?_
        refine a_nil ?_
        refine a_en [(1, .pointer (some ⟨b0_0, 0, none⟩)), (3, .bool (decide ((p0.Frames.length : Int) ≤ 5)))] ?_
        refine a_cut ?_
        intro a_ w_ ha_ hs_
        exact ⟨decide ((p0.Frames.length : Int) ≤ 5), Option.some.inj hm, ha_.weaken ⟨rfl, rfl, trivial⟩, hs_.reix [] (by decide)⟩
      have hm := cond_f k1_10 hm
      refine as1 (sk1 rfl rfl k1_10) ?_
      refine as1 (sk1 rfl rfl k1_10) ?_
      refine as1 (sk1 rfl rfl k1_10) ?_
      refine as1 (sk1 rfl rfl k1_10) ?_
      refine ap (y_pick_f rfl k1_10 rfl) ?_
      refine ap (y_assign rfl) ?_
      refine a_nil ?_
      refine a_en [(1, .pointer (some ⟨b0_0, 0, none⟩)), (3, .bool false)] ?_
      refine a_cut ?_
      intro a_ w_ ha_ hs_
      exact ⟨false, Option.some.inj hm, ha_.weaken ⟨rfl, rfl, trivial⟩, hs_.reix [] (by decide)⟩
    have hm := cond_f k1_4 hm
    refine as1 (sk1 rfl rfl k1_4) ?_
    refine as1 (sk1 rfl rfl k1_4) ?_
    refine as1 (sk1 rfl rfl k1_4) ?_
    refine as1 (sk1 rfl rfl k1_4) ?_
    refine ap (y_pick_f rfl k1_4 rfl) ?_
    refine ap (y_move rfl) ?_
    refine as1 (sk1 rfl rfl rfl) ?_
    refine as1 (sk1 rfl rfl rfl) ?_
    refine as1 (sk1 rfl rfl rfl) ?_
    refine as1 (sk1 rfl rfl rfl) ?_
    refine ap (y_pick_f rfl rfl rfl) ?_
    refine ap (y_assign rfl) ?_
    refine a_nil ?_
    refine a_en [(1, .pointer (some ⟨b0_0, 0, none⟩)), (3, .bool false)] ?_
    refine a_cut ?_
    intro a_ w_ ha_ hs_
    exact ⟨false, Option.some.inj hm, ha_.weaken ⟨rfl, rfl, trivial⟩, hs_.reix [] (by decide)⟩
  have hm := hm_j1
  rintro a_ w_ ⟨yj1_3, rfl, ha_, hs_⟩
  try dsimp only at hm
  refine a_start ha_ hs_ ?_
  refine a_then ?_
  refine a_seq ?_
  refine a_seq ?_
  refine a_region rfl ?_
  refine ap (y_assign rfl) ?_
  refine a_nil ?_
  refine a_then ?_
  obtain ⟨s_j2, hs_j2, hm_j2⟩ := bind_some hm
  refine a_join (fun a_ w_ => ∃ (Hj2 : Hp), ∃ (_ : HLe Hb0_0 Hj2), ∃ (yj2_3 : Bool), yj2_3 = s_j2 ∧ Ag 109 [] [(1, .pointer (some ⟨b0_0, 0, none⟩)), (3, .bool yj2_3)] a_ ∧ St (Kp.mk w H noX) Hj2 [] w_) ?_ ?_
  · have hm := hs_j2
    refine a_block ?_
    refine a_loop (fun n_j3 a_ w_ => ∃ (Hj3 : Hp), ∃ (_ : HLe Hb0_0 Hj3), ∃ (yj3_3 : Bool), ∃ (yj3_4 : Int), law03_sound_lj3 k p0 n_j3 yj3_3 yj3_4 = some s_j2 ∧ Ag 109 [] [(1, .pointer (some ⟨b0_0, 0, none⟩)), (3, .bool yj3_3), (4, .int .i64 yj3_4)] a_ ∧ St (Kp.mk w H noX) Hj3 [] w_) k ?_ ?_
    · intro a_ w_ ha_ hs_
      exact ⟨Hb0_0, (HLe.refl _), yj1_3, 0, hm, ha_.weaken ⟨rfl, rfl, rfl, trivial⟩, hs_.reix [] (by decide)⟩
    rintro (_ | n_j3) a_ w_ ⟨Hj3, lj3, yj3_3, yj3_4, hm, ha_, hs_⟩
    · rw [law03_sound_lj3.eq_1] at hm; cases hm
    rw [law03_sound_lj3.eq_2] at hm
    refine a_start ha_ hs_ ?_
    have hb0_0 := PAt.mono lj3 hb0_0
    refine a_seq ?_
    refine a_seq ?_
    obtain ⟨s_j4, hs_j4, hm_j4⟩ := bind_some hm
    refine a_join (fun a_ w_ => ∃ (yj4_32 : Bool), yj4_32 = s_j4 ∧ Ag 109 [] [(1, .pointer (some ⟨b0_0, 0, none⟩)), (3, .bool yj3_3), (4, .int .i64 yj3_4), (32, .bool yj4_32)] a_ ∧ St (Kp.mk w H noX) Hj3 [] w_) ?_ ?_
    · have hm := hs_j4
      refine a_region rfl ?_
      refine ap (y_move rfl) ?_
      refine ap (y_move rfl) ?_
      rcases Bool.eq_false_or_eq_true (yj3_3) with k3_2 | k3_2
      · have hm := cond_t k3_2 hm
        refine ag ⟨_, _, rfl, rfl, k3_2⟩ (y_move rfl) ?_
        have h3_3 := TunnelBook.at_Parts hb0_0
        refine ag ⟨_, _, rfl, rfl, k3_2⟩ (y_fieldAddr fo25_0 rfl) ?_
        obtain ⟨v3_4, h3_4, c3_4⟩ := PAt.sl h3_3
        refine ag ⟨_, _, rfl, rfl, k3_2⟩ (y_load_one ty22 rfl (fun _ h => h.sub) rfl c3_4) ?_
        refine ag ⟨_, _, rfl, rfl, k3_2⟩ (y_len_sl Tryd.underlying22 rfl h3_4) ?_
        refine ag ⟨_, _, rfl, rfl, k3_2⟩ (y_lss rfl rfl) ?_
        refine ap (y_pick_t rfl k3_2 rfl) ?_
        refine a_nil ?_
        refine a_en [(1, .pointer (some ⟨b0_0, 0, none⟩)), (3, .bool yj3_3), (4, .int .i64 yj3_4), (27, .int .i64 yj3_4), (28, .pointer (some ⟨b0_0, 0 + 0, none⟩)), (29, v3_4), (30, .int .i64 (p0.Parts.length : Int)), (31, .bool (decide (yj3_4 < (p0.Parts.length : Int)))), (32, .bool (decide (yj3_4 < (p0.Parts.length : Int))))] ?_
        refine a_cut ?_
        intro a_ w_ ha_ hs_
        exact ⟨decide (yj3_4 < (p0.Parts.length : Int)), Option.some.inj hm, ha_.weaken ⟨rfl, rfl, rfl, rfl, trivial⟩, hs_.reix [] (by decide)⟩
      have hm := cond_f k3_2 hm
      refine as1 (sk1 rfl rfl k3_2) ?_
      refine as1 (sk1 rfl rfl k3_2) ?_
      refine as1 (sk1 rfl rfl k3_2) ?_
      refine as1 (sk1 rfl rfl k3_2) ?_
      refine as1 (sk1 rfl rfl k3_2) ?_
      refine ap (y_pick_f rfl k3_2 rfl) ?_
      refine a_nil ?_
      refine a_en [(1, .pointer (some ⟨b0_0, 0, none⟩)), (3, .bool yj3_3), (4, .int .i64 yj3_4), (27, undef), (28, undef), (29, undef), (30, undef), (31, undef), (32, .bool false)] ?_
      refine a_cut ?_
      intro a_ w_ ha_ hs_
      exact ⟨false, Option.some.inj hm, ha_.weaken ⟨rfl, rfl, rfl, rfl, trivial⟩, hs_.reix [] (by decide)⟩
    have hm := hm_j4
    rintro a_ w_ ⟨yj4_32, rfl, ha_, hs_⟩
    try dsimp only at hm
    refine a_start ha_ hs_ ?_
    refine a_then ?_
    refine a_cond rfl (fun k_5 => ?_) (fun k_5 => ?_)
    · have hm := cond_t k_5 hm
      refine a_skip ?_
      refine a_then ?_
      refine a_seq ?_
      refine a_block ?_
      refine a_seq ?_
      refine a_region rfl ?_
      have h5_0 := TunnelBook.at_Parts hb0_0
      refine ap (y_fieldAddr fo25_0 rfl) ?_
      obtain ⟨v5_1, h5_1, c5_1⟩ := PAt.sl h5_0
      refine ap (y_load_one ty22 rfl (fun _ h => h.sub) rfl c5_1) ?_
      refine ap (y_move rfl) ?_
      obtain ⟨x5_3, q5_3, hm⟩ := bind_some hm
      obtain ⟨b5_3, o5_3, c5_3, e5_3, h5_3⟩ := Sl.elemZ 6 rfl h5_1 q5_3
      refine ap (y_index Tryd.underlying22 ty64 rfl e5_3 rfl (nth_in q5_3)) ?_
      obtain ⟨u5_4, h5_4, c5_4⟩ := PAt.one h5_3
      refine ap (y_load_cells ty64 rfl (fun _ h => h.sub) rfl c5_4 (Rp.len h5_4)) ?_
      refine a_cons (e_alloc (cs := [.int .i64 0, .int .i64 0, .int .i64 0, .int .i64 0, .int .i64 0, .int .i64 0]) trivial rfl ty64 rfl ?_)
      intro b5_5
      have mz5_5 : Rp.rep (α := TunnelPart) Hj3 [.int .i64 0, .int .i64 0, .int .i64 0, .int .i64 0, .int .i64 0, .int .i64 0] (⟨[0, 0, 0, 0], ⟨0, 0⟩⟩ : TunnelPart) := ⟨_, _, rfl, ⟨(RepL.cons (c := [_]) rfl (RepL.cons (c := [_]) rfl (RepL.cons (c := [_]) rfl (RepL.cons (c := [_]) rfl RepL.nil)))), rfl⟩, ⟨_, _, rfl, rfl, rfl⟩⟩
      refine a_cons (e_storeWhole (i := 0) (ds := u5_4) trivial ty64 rfl rfl rfl rfl (Rp.len h5_4) ((Rp.one h5_4)) rfl ?_)
      refine a_nil ?_
      refine a_freeze (α := TunnelPart) (x := x5_3) (i := 0) rfl h5_4 ?_
      intro Hb5_5 lb5_5 hb5_5
      have hb0_0 := PAt.mono lb5_5 hb0_0
      have h5_0 := PAt.mono lb5_5 h5_0
      have h5_1 := Sl.mono lb5_5 h5_1
      have h5_3 := PAt.mono lb5_5 h5_3
      have h5_4 := Rp.mono lb5_5 h5_4
      refine a_en [(1, .pointer (some ⟨b0_0, 0, none⟩)), (4, .int .i64 yj3_4), (5, .pointer (some ⟨b5_5, 0, none⟩))] ?_
      refine a_own [] (by decide) (L' := []) rfl ?_
      refine a_then ?_
      refine a_seq ?_
      obtain ⟨s_j6, hs_j6, hm_j6⟩ := bind_some hm
      refine a_join (fun a_ w_ => ∃ (yj6_3 : Bool), yj6_3 = s_j6 ∧ Ag 109 [] [(1, .pointer (some ⟨b0_0, 0, none⟩)), (3, .bool yj6_3), (4, .int .i64 yj3_4), (5, .pointer (some ⟨b5_5, 0, none⟩))] a_ ∧ St (Kp.mk w H noX) Hb5_5 [] w_) ?_ ?_
      · have hm := hs_j6
        refine a_region rfl ?_
        have h6_0 := TunnelPart.at_Damp hb5_5
        refine ap (y_fieldAddr fo64_1 rfl) ?_
        obtain ⟨u6_1, h6_1, c6_1⟩ := PAt.one h6_0
        refine ap (y_load_cells ty32 rfl (fun _ h => h.sub) rfl c6_1 (Rp.len h6_1)) ?_
        obtain ⟨x6_2, q6_2, hm⟩ := bind_some hm
        refine a_cons (e_callV (all := [.agg u6_1.toArray, .int .i64 0, .int .i64 20]) (v := .bool x6_2) trivial rfl Tryd.func87 rfl rfl rfl rfl rfl (fun w hw => ok_87 hw h6_1 q6_2) ?_)
        refine ap (y_move rfl) ?_
        rcases Bool.eq_false_or_eq_true (x6_2) with k6_4 | k6_4
        · have hm := cond_t k6_4 hm
          have h6_4 := TunnelPart.at_Damp hb5_5
          refine ag ⟨_, _, rfl, rfl, k6_4⟩ (y_fieldAddr fo64_1 rfl) ?_
          have h6_5 := Span.at_High h6_4
          refine ag ⟨_, _, rfl, rfl, k6_4⟩ (y_fieldAddr fo32_1 rfl) ?_
          refine ag ⟨_, _, rfl, rfl, k6_4⟩ (y_load_int ty3 rfl (fun _ h => h.sub) rfl h6_5) ?_
          have h6_7 := TunnelPart.at_Damp hb5_5
          refine ag ⟨_, _, rfl, rfl, k6_4⟩ (y_fieldAddr fo64_1 rfl) ?_
          have h6_8 := Span.at_Low h6_7
          refine ag ⟨_, _, rfl, rfl, k6_4⟩ (y_fieldAddr fo32_0 rfl) ?_
          refine ag ⟨_, _, rfl, rfl, k6_4⟩ (y_load_int ty3 rfl (fun _ h => h.sub) rfl h6_8) ?_
          refine ag ⟨_, _, rfl, rfl, k6_4⟩ (y_sub rfl rfl) ?_
          refine ag ⟨_, _, rfl, rfl, k6_4⟩ (y_leq rfl rfl) ?_
          refine ap (y_pick_t rfl k6_4 rfl) ?_
          refine ap (y_assign rfl) ?_
          refine a_nil ?_
          refine a_en [(1, .pointer (some ⟨b0_0, 0, none⟩)), (3, .bool (decide ((IntKind.i64.wrap (x5_3.Damp.High - x5_3.Damp.Low)) ≤ 3))), (4, .int .i64 yj3_4), (5, .pointer (some ⟨b5_5, 0, none⟩)), (44, .pointer (some ⟨b5_5, 0 + 4, none⟩)), (45, .pointer (some ⟨b5_5, 0 + 4 + 1, none⟩)), (46, .int .i64 x5_3.Damp.High), (47, .pointer (some ⟨b5_5, 0 + 4, none⟩)), (48, .pointer (some ⟨b5_5, 0 + 4 + 0, none⟩)), (49, .int .i64 x5_3.Damp.Low), (50, .int .i64 (IntKind.i64.wrap (x5_3.Damp.High - x5_3.Damp.Low))), (51, .bool (decide ((IntKind.i64.wrap (x5_3.Damp.High - x5_3.Damp.Low)) ≤ 3)))] ?_
          refine a_cut ?_
          intro a_ w_ ha_ hs_
          exact ⟨decide ((IntKind.i64.wrap (x5_3.Damp.High - x5_3.Damp.Low)) ≤ 3), Option.some.inj hm, ha_.weaken ⟨rfl, rfl, rfl, rfl, trivial⟩, hs_.reix [] (by decide)⟩
        have hm := cond_f k6_4 hm
        refine as1 (sk1 rfl rfl k6_4) ?_
        refine as1 (sk1 rfl rfl k6_4) ?_
        refine as1 (sk1 rfl rfl k6_4) ?_
        refine as1 (sk1 rfl rfl k6_4) ?_
        refine as1 (sk1 rfl rfl k6_4) ?_
        refine as1 (sk1 rfl rfl k6_4) ?_
        refine as1 (sk1 rfl rfl k6_4) ?_
        refine as1 (sk1 rfl rfl k6_4) ?_
        refine ap (y_pick_f rfl k6_4 rfl) ?_
        refine ap (y_assign rfl) ?_
        refine a_nil ?_
        refine a_en [(1, .pointer (some ⟨b0_0, 0, none⟩)), (3, .bool false), (4, .int .i64 yj3_4), (5, .pointer (some ⟨b5_5, 0, none⟩)), (44, undef), (45, undef), (46, undef), (47, undef), (48, undef), (49, undef), (50, undef), (51, undef)] ?_
        refine a_cut ?_
        intro a_ w_ ha_ hs_
        exact ⟨false, Option.some.inj hm, ha_.weaken ⟨rfl, rfl, rfl, rfl, trivial⟩, hs_.reix [] (by decide)⟩
      have hm := hm_j6
      rintro a_ w_ ⟨yj6_3, rfl, ha_, hs_⟩
      try dsimp only at hm
      refine a_start ha_ hs_ ?_
      refine a_then ?_
      refine a_seq ?_
      refine a_region rfl ?_
      refine ap (y_assign rfl) ?_
      refine a_nil ?_
      refine a_then ?_
      obtain ⟨s_j7, hs_j7, hm_j7⟩ := bind_some hm
      refine a_join (fun a_ w_ => ∃ (yj7_3 : Bool), yj7_3 = s_j7 ∧ Ag 109 [] [(1, .pointer (some ⟨b0_0, 0, none⟩)), (3, .bool yj7_3), (4, .int .i64 yj3_4)] a_ ∧ St (Kp.mk w H noX) Hb5_5 [] w_) ?_ ?_
      · have hm := hs_j7
        refine a_block ?_
        refine a_loop (fun n_j8 a_ w_ => ∃ (yj8_3 : Bool), ∃ (yj8_6 : Int), law03_sound_lj8 k x5_3 n_j8 yj8_3 yj8_6 = some s_j7 ∧ Ag 109 [] [(1, .pointer (some ⟨b0_0, 0, none⟩)), (3, .bool yj8_3), (4, .int .i64 yj3_4), (5, .pointer (some ⟨b5_5, 0, none⟩)), (6, .int .i64 yj8_6)] a_ ∧ St (Kp.mk w H noX) Hb5_5 [] w_) k ?_ ?_
        · intro a_ w_ ha_ hs_
          exact ⟨yj6_3, 0, hm, ha_.weaken ⟨rfl, rfl, rfl, rfl, rfl, trivial⟩, hs_.reix [] (by decide)⟩
        rintro (_ | n_j8) a_ w_ ⟨yj8_3, yj8_6, hm, ha_, hs_⟩
        · rw [law03_sound_lj8.eq_1] at hm; cases hm
        rw [law03_sound_lj8.eq_2] at hm
        refine a_start ha_ hs_ ?_
        refine a_seq ?_
        refine a_seq ?_
        refine a_region rfl ?_
        refine ap (y_move rfl) ?_
        refine ap (y_leq rfl rfl) ?_
        refine a_nil ?_
        refine a_en [(1, .pointer (some ⟨b0_0, 0, none⟩)), (3, .bool yj8_3), (4, .int .i64 yj3_4), (5, .pointer (some ⟨b5_5, 0, none⟩)), (6, .int .i64 yj8_6), (54, .bool (decide (yj8_6 ≤ 3)))] ?_
        refine a_then ?_
        refine a_cond rfl (fun k_9 => ?_) (fun k_9 => ?_)
        · have hm := cond_t k_9 hm
          refine a_skip ?_
          refine a_then ?_
          refine a_seq ?_
          refine a_block ?_
          obtain ⟨s_j10, hs_j10, hm_j10⟩ := bind_some hm
          refine a_join (fun a_ w_ => ∃ (yj10_3 : Bool), yj10_3 = s_j10 ∧ Ag 109 [] [(1, .pointer (some ⟨b0_0, 0, none⟩)), (3, .bool yj10_3), (4, .int .i64 yj3_4), (5, .pointer (some ⟨b5_5, 0, none⟩)), (6, .int .i64 yj8_6)] a_ ∧ St (Kp.mk w H noX) Hb5_5 [] w_) ?_ ?_
          · have hm := hs_j10
            refine a_region rfl ?_
            refine ap (y_move rfl) ?_
            refine ap (y_move rfl) ?_
            rcases Bool.eq_false_or_eq_true (yj8_3) with k10_2 | k10_2
            · have hm := cond_t k10_2 hm
              refine ag ⟨_, _, rfl, rfl, k10_2⟩ (y_move rfl) ?_
              have h10_3 := TunnelPart.at_Heat hb5_5
              refine ag ⟨_, _, rfl, rfl, k10_2⟩ (y_fieldAddr fo64_0 rfl) ?_
              obtain ⟨x10_4, q10_4, hm⟩ := bind_some hm
              have h10_4 := PAt.arrZ 1 rfl h10_3 q10_4
              have k10_4 := PAt.arrIn h10_3 q10_4
              refine ag ⟨_, _, rfl, rfl, k10_2⟩ (y_index_arrp Tryd.underlying62 ty3 rfl rfl k10_4) ?_
              refine ag ⟨_, _, rfl, rfl, k10_2⟩ (y_load_int ty3 rfl (fun _ h => h.sub) rfl h10_4) ?_
              obtain ⟨x10_6, q10_6, hm⟩ := bind_some hm
              refine a_cons (e_callV (all := [.int .i64 x10_4, .int .i64 0, .int .i64 20]) (v := .bool x10_6) ⟨_, _, rfl, rfl, k10_2⟩ rfl Tryd.func50 rfl rfl rfl rfl rfl (fun w hw => ok_50 hw q10_6) ?_)
              refine ap (y_pick_t rfl k10_2 rfl) ?_
              refine ap (y_assign rfl) ?_
              refine a_nil ?_
              refine a_en [(1, .pointer (some ⟨b0_0, 0, none⟩)), (3, .bool x10_6), (4, .int .i64 yj3_4), (5, .pointer (some ⟨b5_5, 0, none⟩)), (6, .int .i64 yj8_6), (59, .int .i64 yj8_6), (60, .pointer (some ⟨b5_5, 0 + 0, none⟩)), (61, .pointer (some ⟨b5_5, 0 + 0 + (yj8_6).toNat * 1, none⟩)), (62, .int .i64 x10_4), (63, .bool x10_6)] ?_
              refine a_cut ?_
              intro a_ w_ ha_ hs_
              exact ⟨x10_6, Option.some.inj hm, ha_.weaken ⟨rfl, rfl, rfl, rfl, rfl, trivial⟩, hs_.reix [] (by decide)⟩
            have hm := cond_f k10_2 hm
            refine as1 (sk1 rfl rfl k10_2) ?_
            refine as1 (sk1 rfl rfl k10_2) ?_
            refine as1 (sk1 rfl rfl k10_2) ?_
            refine as1 (sk1 rfl rfl k10_2) ?_
            refine as1 (sk1 rfl rfl k10_2) ?_
            refine ap (y_pick_f rfl k10_2 rfl) ?_
            refine ap (y_assign rfl) ?_
            refine a_nil ?_
            refine a_en [(1, .pointer (some ⟨b0_0, 0, none⟩)), (3, .bool false), (4, .int .i64 yj3_4), (5, .pointer (some ⟨b5_5, 0, none⟩)), (6, .int .i64 yj8_6), (59, undef), (60, undef), (61, undef), (62, undef), (63, undef)] ?_
            refine a_cut ?_
            intro a_ w_ ha_ hs_
            exact ⟨false, Option.some.inj hm, ha_.weaken ⟨rfl, rfl, rfl, rfl, rfl, trivial⟩, hs_.reix [] (by decide)⟩
          have hm := hm_j10
          rintro a_ w_ ⟨yj10_3, rfl, ha_, hs_⟩
          try dsimp only at hm
          refine a_start ha_ hs_ ?_
          refine a_block_normal ?_
          refine a_then ?_
          refine a_region rfl ?_
          refine ap (y_move rfl) ?_
          refine ap (y_add rfl rfl) ?_
          refine ap (y_assign rfl) ?_
          refine a_nil ?_
          refine a_en [(1, .pointer (some ⟨b0_0, 0, none⟩)), (3, .bool yj10_3), (4, .int .i64 yj3_4), (5, .pointer (some ⟨b5_5, 0, none⟩)), (6, .int .i64 (IntKind.i64.wrap (yj8_6 + 1)))] ?_
          refine a_then ?_
          intro a_ w_ ha_ hs_
          exact ⟨n_j8, Nat.lt_succ_self _, yj10_3, IntKind.i64.wrap (yj8_6 + 1), hm, ha_.weaken ⟨rfl, rfl, rfl, rfl, rfl, trivial⟩, hs_.reix [] (by decide)⟩
        have hm := cond_f k_9 hm
        refine a_exit ?_
        refine a_then_exit ?_
        refine a_then_exit ?_
        refine a_block_hit ?_
        refine a_cut ?_
        intro a_ w_ ha_ hs_
        exact ⟨yj8_3, Option.some.inj hm, ha_.weaken ⟨rfl, rfl, rfl, trivial⟩, hs_.reix [] (by decide)⟩
      have hm := hm_j7
      rintro a_ w_ ⟨yj7_3, rfl, ha_, hs_⟩
      try dsimp only at hm
      refine a_start ha_ hs_ ?_
      refine a_block_normal ?_
      refine a_then ?_
      refine a_region rfl ?_
      refine ap (y_move rfl) ?_
      refine ap (y_add rfl rfl) ?_
      refine ap (y_assign rfl) ?_
      refine a_nil ?_
      refine a_en [(1, .pointer (some ⟨b0_0, 0, none⟩)), (3, .bool yj7_3), (4, .int .i64 (IntKind.i64.wrap (yj3_4 + 1)))] ?_
      refine a_then ?_
      intro a_ w_ ha_ hs_
      exact ⟨n_j3, Nat.lt_succ_self _, Hb5_5, (lj3.trans lb5_5), yj7_3, IntKind.i64.wrap (yj3_4 + 1), hm, ha_.weaken ⟨rfl, rfl, rfl, trivial⟩, hs_.reix [] (by decide)⟩
    have hm := cond_f k_5 hm
    refine a_exit ?_
    refine a_then_exit ?_
    refine a_then_exit ?_
    refine a_block_hit ?_
    refine a_cut ?_
    intro a_ w_ ha_ hs_
    exact ⟨Hj3, lj3, yj3_3, Option.some.inj hm, ha_.weaken ⟨rfl, rfl, trivial⟩, hs_.reix [] (by decide)⟩
  have hm := hm_j2
  rintro a_ w_ ⟨Hj2, lj2, yj2_3, rfl, ha_, hs_⟩
  try dsimp only at hm
  refine a_start ha_ hs_ ?_
  have hb0_0 := PAt.mono lj2 hb0_0
  refine a_then ?_
  refine a_seq ?_
  refine a_seq ?_
  refine a_region rfl ?_
  refine ap (y_assign rfl) ?_
  refine a_nil ?_
  refine a_then ?_
  obtain ⟨s_j11, hs_j11, hm_j11⟩ := bind_some hm
  refine a_join (fun a_ w_ => ∃ (Hj11 : Hp), ∃ (_ : HLe Hj2 Hj11), ∃ (yj11_3 : Bool), yj11_3 = s_j11 ∧ Ag 109 [] [(3, .bool yj11_3)] a_ ∧ St (Kp.mk w H noX) Hj11 [] w_) ?_ ?_
  · have hm := hs_j11
    refine a_block ?_
    refine a_loop (fun n_j12 a_ w_ => ∃ (Hj12 : Hp), ∃ (_ : HLe Hj2 Hj12), ∃ (yj12_3 : Bool), ∃ (yj12_7 : Int), law03_sound_lj12 k p0 n_j12 yj12_3 yj12_7 = some s_j11 ∧ Ag 109 [] [(1, .pointer (some ⟨b0_0, 0, none⟩)), (3, .bool yj12_3), (7, .int .i64 yj12_7)] a_ ∧ St (Kp.mk w H noX) Hj12 [] w_) k ?_ ?_
    · intro a_ w_ ha_ hs_
      exact ⟨Hj2, (HLe.refl _), yj2_3, 0, hm, ha_.weaken ⟨rfl, rfl, rfl, trivial⟩, hs_.reix [] (by decide)⟩
    rintro (_ | n_j12) a_ w_ ⟨Hj12, lj12, yj12_3, yj12_7, hm, ha_, hs_⟩
    · rw [law03_sound_lj12.eq_1] at hm; cases hm
    rw [law03_sound_lj12.eq_2] at hm
    refine a_start ha_ hs_ ?_
    have hb0_0 := PAt.mono lj12 hb0_0
    refine a_seq ?_
    refine a_seq ?_
    obtain ⟨s_j13, hs_j13, hm_j13⟩ := bind_some hm
    refine a_join (fun a_ w_ => ∃ (yj13_72 : Bool), yj13_72 = s_j13 ∧ Ag 109 [] [(1, .pointer (some ⟨b0_0, 0, none⟩)), (3, .bool yj12_3), (7, .int .i64 yj12_7), (72, .bool yj13_72)] a_ ∧ St (Kp.mk w H noX) Hj12 [] w_) ?_ ?_
    · have hm := hs_j13
      refine a_region rfl ?_
      refine ap (y_move rfl) ?_
      refine ap (y_move rfl) ?_
      rcases Bool.eq_false_or_eq_true (yj12_3) with k12_2 | k12_2
      · have hm := cond_t k12_2 hm
        refine ag ⟨_, _, rfl, rfl, k12_2⟩ (y_move rfl) ?_
        have h12_3 := TunnelBook.at_Frames hb0_0
        refine ag ⟨_, _, rfl, rfl, k12_2⟩ (y_fieldAddr fo25_1 rfl) ?_
        obtain ⟨v12_4, h12_4, c12_4⟩ := PAt.sl h12_3
        refine ag ⟨_, _, rfl, rfl, k12_2⟩ (y_load_one ty23 rfl (fun _ h => h.sub) rfl c12_4) ?_
        refine ag ⟨_, _, rfl, rfl, k12_2⟩ (y_len_sl Tryd.underlying23 rfl h12_4) ?_
        refine ag ⟨_, _, rfl, rfl, k12_2⟩ (y_lss rfl rfl) ?_
        refine ap (y_pick_t rfl k12_2 rfl) ?_
        refine a_nil ?_
        refine a_en [(1, .pointer (some ⟨b0_0, 0, none⟩)), (3, .bool yj12_3), (7, .int .i64 yj12_7), (67, .int .i64 yj12_7), (68, .pointer (some ⟨b0_0, 0 + 1, none⟩)), (69, v12_4), (70, .int .i64 (p0.Frames.length : Int)), (71, .bool (decide (yj12_7 < (p0.Frames.length : Int)))), (72, .bool (decide (yj12_7 < (p0.Frames.length : Int))))] ?_
        refine a_cut ?_
        intro a_ w_ ha_ hs_
        exact ⟨decide (yj12_7 < (p0.Frames.length : Int)), Option.some.inj hm, ha_.weaken ⟨rfl, rfl, rfl, rfl, trivial⟩, hs_.reix [] (by decide)⟩
      have hm := cond_f k12_2 hm
      refine as1 (sk1 rfl rfl k12_2) ?_
      refine as1 (sk1 rfl rfl k12_2) ?_
      refine as1 (sk1 rfl rfl k12_2) ?_
      refine as1 (sk1 rfl rfl k12_2) ?_
      refine as1 (sk1 rfl rfl k12_2) ?_
      refine ap (y_pick_f rfl k12_2 rfl) ?_
      refine a_nil ?_
      refine a_en [(1, .pointer (some ⟨b0_0, 0, none⟩)), (3, .bool yj12_3), (7, .int .i64 yj12_7), (67, undef), (68, undef), (69, undef), (70, undef), (71, undef), (72, .bool false)] ?_
      refine a_cut ?_
      intro a_ w_ ha_ hs_
      exact ⟨false, Option.some.inj hm, ha_.weaken ⟨rfl, rfl, rfl, rfl, trivial⟩, hs_.reix [] (by decide)⟩
    have hm := hm_j13
    rintro a_ w_ ⟨yj13_72, rfl, ha_, hs_⟩
    try dsimp only at hm
    refine a_start ha_ hs_ ?_
    refine a_then ?_
    refine a_cond rfl (fun k_14 => ?_) (fun k_14 => ?_)
    · have hm := cond_t k_14 hm
      refine a_skip ?_
      refine a_then ?_
      refine a_seq ?_
      refine a_block ?_
      refine a_seq ?_
      refine a_region rfl ?_
      have h14_0 := TunnelBook.at_Frames hb0_0
      refine ap (y_fieldAddr fo25_1 rfl) ?_
      obtain ⟨v14_1, h14_1, c14_1⟩ := PAt.sl h14_0
      refine ap (y_load_one ty23 rfl (fun _ h => h.sub) rfl c14_1) ?_
      refine ap (y_move rfl) ?_
      obtain ⟨x14_3, q14_3, hm⟩ := bind_some hm
      obtain ⟨b14_3, o14_3, c14_3, e14_3, h14_3⟩ := Sl.elemZ 3 rfl h14_1 q14_3
      refine ap (y_index Tryd.underlying23 ty55 rfl e14_3 rfl (nth_in q14_3)) ?_
      obtain ⟨u14_4, h14_4, c14_4⟩ := PAt.one h14_3
      refine ap (y_load_cells ty55 rfl (fun _ h => h.sub) rfl c14_4 (Rp.len h14_4)) ?_
      refine a_cons (e_alloc (cs := [.slice none 0 0, .int .i64 0, .int .i64 0]) trivial rfl ty55 rfl ?_)
      intro b14_5
      refine a_cons (e_storeWhole (i := 0) (ds := u14_4) trivial ty55 rfl rfl rfl rfl (Rp.len h14_4) ((Rp.one h14_4)) rfl ?_)
      refine a_nil ?_
      refine a_freeze (α := TunnelFrame) (x := x14_3) (i := 0) rfl h14_4 ?_
      intro Hb14_5 lb14_5 hb14_5
      have hb0_0 := PAt.mono lb14_5 hb0_0
      have h14_0 := PAt.mono lb14_5 h14_0
      have h14_1 := Sl.mono lb14_5 h14_1
      have h14_3 := PAt.mono lb14_5 h14_3
      have h14_4 := Rp.mono lb14_5 h14_4
      refine a_en [(1, .pointer (some ⟨b0_0, 0, none⟩)), (7, .int .i64 yj12_7), (8, .pointer (some ⟨b14_5, 0, none⟩))] ?_
      refine a_own [] (by decide) (L' := []) rfl ?_
      refine a_then ?_
      refine a_seq ?_
      obtain ⟨s_j15, hs_j15, hm_j15⟩ := bind_some hm
      refine a_join (fun a_ w_ => ∃ (yj15_3 : Bool), yj15_3 = s_j15 ∧ Ag 109 [] [(1, .pointer (some ⟨b0_0, 0, none⟩)), (3, .bool yj15_3), (7, .int .i64 yj12_7), (8, .pointer (some ⟨b14_5, 0, none⟩))] a_ ∧ St (Kp.mk w H noX) Hb14_5 [] w_) ?_ ?_
      · have hm := hs_j15
        refine a_region rfl ?_
        have h15_0 := TunnelFrame.at_Stay hb14_5
        refine ap (y_fieldAddr fo55_0 rfl) ?_
        obtain ⟨v15_1, h15_1, c15_1⟩ := PAt.sl h15_0
        refine ap (y_load_one ty26 rfl (fun _ h => h.sub) rfl c15_1) ?_
        refine ap (y_len_sl Tryd.underlying26 rfl h15_1) ?_
        have h15_3 := TunnelBook.at_Parts hb0_0
        refine ap (y_fieldAddr fo25_0 rfl) ?_
        obtain ⟨v15_4, h15_4, c15_4⟩ := PAt.sl h15_3
        refine ap (y_load_one ty22 rfl (fun _ h => h.sub) rfl c15_4) ?_
        refine ap (y_len_sl Tryd.underlying22 rfl h15_4) ?_
        refine ap (y_eql rfl rfl) ?_
        refine ap (y_move rfl) ?_
        rcases Bool.eq_false_or_eq_true ((x14_3.Stay.length : Int) == (p0.Parts.length : Int)) with k15_8 | k15_8
        · have hm := cond_t k15_8 hm
          have h15_8 := TunnelFrame.at_Need hb14_5
          refine ag ⟨_, _, rfl, rfl, k15_8⟩ (y_fieldAddr fo55_1 rfl) ?_
          obtain ⟨u15_9, h15_9, c15_9⟩ := PAt.one h15_8
          refine ag ⟨_, _, rfl, rfl, k15_8⟩ (y_load_cells ty32 rfl (fun _ h => h.sub) rfl c15_9 (Rp.len h15_9)) ?_
          obtain ⟨x15_10, q15_10, hm⟩ := bind_some hm
          refine a_cons (e_callV (all := [.agg u15_9.toArray, .int .i64 0, .int .i64 999]) (v := .bool x15_10) ⟨_, _, rfl, rfl, k15_8⟩ rfl Tryd.func87 rfl rfl rfl rfl rfl (fun w hw => ok_87 hw h15_9 q15_10) ?_)
          refine ap (y_pick_t rfl k15_8 rfl) ?_
          refine ap (y_assign rfl) ?_
          refine a_nil ?_
          refine a_en [(1, .pointer (some ⟨b0_0, 0, none⟩)), (3, .bool x15_10), (7, .int .i64 yj12_7), (8, .pointer (some ⟨b14_5, 0, none⟩)), (88, .pointer (some ⟨b14_5, 0 + 1, none⟩)), (89, .agg u15_9.toArray), (90, .bool x15_10)] ?_
          refine a_cut ?_
          intro a_ w_ ha_ hs_
          exact ⟨x15_10, Option.some.inj hm, ha_.weaken ⟨rfl, rfl, rfl, rfl, trivial⟩, hs_.reix [] (by decide)⟩
        have hm := cond_f k15_8 hm
        refine as1 (sk1 rfl rfl k15_8) ?_
        refine as1 (sk1 rfl rfl k15_8) ?_
        refine as1 (sk1 rfl rfl k15_8) ?_
        refine ap (y_pick_f rfl k15_8 rfl) ?_
        refine ap (y_assign rfl) ?_
        refine a_nil ?_
        refine a_en [(1, .pointer (some ⟨b0_0, 0, none⟩)), (3, .bool false), (7, .int .i64 yj12_7), (8, .pointer (some ⟨b14_5, 0, none⟩)), (88, undef), (89, undef), (90, undef)] ?_
        refine a_cut ?_
        intro a_ w_ ha_ hs_
        exact ⟨false, Option.some.inj hm, ha_.weaken ⟨rfl, rfl, rfl, rfl, trivial⟩, hs_.reix [] (by decide)⟩
      have hm := hm_j15
      rintro a_ w_ ⟨yj15_3, rfl, ha_, hs_⟩
      try dsimp only at hm
      refine a_start ha_ hs_ ?_
      refine a_then ?_
      refine a_seq ?_
      refine a_region rfl ?_
      refine ap (y_assign rfl) ?_
      refine a_nil ?_
      refine a_then ?_
      obtain ⟨s_j16, hs_j16, hm_j16⟩ := bind_some hm
      refine a_join (fun a_ w_ => ∃ (yj16_3 : Bool), yj16_3 = s_j16 ∧ Ag 109 [] [(1, .pointer (some ⟨b0_0, 0, none⟩)), (3, .bool yj16_3), (7, .int .i64 yj12_7)] a_ ∧ St (Kp.mk w H noX) Hb14_5 [] w_) ?_ ?_
      · have hm := hs_j16
        refine a_block ?_
        refine a_loop (fun n_j17 a_ w_ => ∃ (yj17_3 : Bool), ∃ (yj17_9 : Int), law03_sound_lj17 k x14_3 n_j17 yj17_3 yj17_9 = some s_j16 ∧ Ag 109 [] [(1, .pointer (some ⟨b0_0, 0, none⟩)), (3, .bool yj17_3), (7, .int .i64 yj12_7), (8, .pointer (some ⟨b14_5, 0, none⟩)), (9, .int .i64 yj17_9)] a_ ∧ St (Kp.mk w H noX) Hb14_5 [] w_) k ?_ ?_
        · intro a_ w_ ha_ hs_
          exact ⟨yj15_3, 0, hm, ha_.weaken ⟨rfl, rfl, rfl, rfl, rfl, trivial⟩, hs_.reix [] (by decide)⟩
        rintro (_ | n_j17) a_ w_ ⟨yj17_3, yj17_9, hm, ha_, hs_⟩
        · rw [law03_sound_lj17.eq_1] at hm; cases hm
        rw [law03_sound_lj17.eq_2] at hm
        refine a_start ha_ hs_ ?_
        refine a_seq ?_
        refine a_seq ?_
        obtain ⟨s_j18, hs_j18, hm_j18⟩ := bind_some hm
        refine a_join (fun a_ w_ => ∃ (yj18_99 : Bool), yj18_99 = s_j18 ∧ Ag 109 [] [(1, .pointer (some ⟨b0_0, 0, none⟩)), (3, .bool yj17_3), (7, .int .i64 yj12_7), (8, .pointer (some ⟨b14_5, 0, none⟩)), (9, .int .i64 yj17_9), (99, .bool yj18_99)] a_ ∧ St (Kp.mk w H noX) Hb14_5 [] w_) ?_ ?_
        · have hm := hs_j18
          refine a_region rfl ?_
          refine ap (y_move rfl) ?_
          refine ap (y_move rfl) ?_
          rcases Bool.eq_false_or_eq_true (yj17_3) with k17_2 | k17_2
          · have hm := cond_t k17_2 hm
            refine ag ⟨_, _, rfl, rfl, k17_2⟩ (y_move rfl) ?_
            have h17_3 := TunnelFrame.at_Stay hb14_5
            refine ag ⟨_, _, rfl, rfl, k17_2⟩ (y_fieldAddr fo55_0 rfl) ?_
            obtain ⟨v17_4, h17_4, c17_4⟩ := PAt.sl h17_3
            refine ag ⟨_, _, rfl, rfl, k17_2⟩ (y_load_one ty26 rfl (fun _ h => h.sub) rfl c17_4) ?_
            refine ag ⟨_, _, rfl, rfl, k17_2⟩ (y_len_sl Tryd.underlying26 rfl h17_4) ?_
            refine ag ⟨_, _, rfl, rfl, k17_2⟩ (y_lss rfl rfl) ?_
            refine ap (y_pick_t rfl k17_2 rfl) ?_
            refine a_nil ?_
            refine a_en [(1, .pointer (some ⟨b0_0, 0, none⟩)), (3, .bool yj17_3), (7, .int .i64 yj12_7), (8, .pointer (some ⟨b14_5, 0, none⟩)), (9, .int .i64 yj17_9), (94, .int .i64 yj17_9), (95, .pointer (some ⟨b14_5, 0 + 0, none⟩)), (96, v17_4), (97, .int .i64 (x14_3.Stay.length : Int)), (98, .bool (decide (yj17_9 < (x14_3.Stay.length : Int)))), (99, .bool (decide (yj17_9 < (x14_3.Stay.length : Int))))] ?_
            refine a_cut ?_
            intro a_ w_ ha_ hs_
            exact ⟨decide (yj17_9 < (x14_3.Stay.length : Int)), Option.some.inj hm, ha_.weaken ⟨rfl, rfl, rfl, rfl, rfl, rfl, trivial⟩, hs_.reix [] (by decide)⟩
          have hm := cond_f k17_2 hm
          refine as1 (sk1 rfl rfl k17_2) ?_
          refine as1 (sk1 rfl rfl k17_2) ?_
          refine as1 (sk1 rfl rfl k17_2) ?_
          refine as1 (sk1 rfl rfl k17_2) ?_
          refine as1 (sk1 rfl rfl k17_2) ?_
          refine ap (y_pick_f rfl k17_2 rfl) ?_
          refine a_nil ?_
          refine a_en [(1, .pointer (some ⟨b0_0, 0, none⟩)), (3, .bool yj17_3), (7, .int .i64 yj12_7), (8, .pointer (some ⟨b14_5, 0, none⟩)), (9, .int .i64 yj17_9), (94, undef), (95, undef), (96, undef), (97, undef), (98, undef), (99, .bool false)] ?_
          refine a_cut ?_
          intro a_ w_ ha_ hs_
          exact ⟨false, Option.some.inj hm, ha_.weaken ⟨rfl, rfl, rfl, rfl, rfl, rfl, trivial⟩, hs_.reix [] (by decide)⟩
        have hm := hm_j18
        rintro a_ w_ ⟨yj18_99, rfl, ha_, hs_⟩
        try dsimp only at hm
        refine a_start ha_ hs_ ?_
        refine a_then ?_
        refine a_cond rfl (fun k_19 => ?_) (fun k_19 => ?_)
        · have hm := cond_t k_19 hm
          refine a_skip ?_
          refine a_then ?_
          refine a_seq ?_
          refine a_block ?_
          refine a_region rfl ?_
          have h19_0 := TunnelFrame.at_Stay hb14_5
          refine ap (y_fieldAddr fo55_0 rfl) ?_
          obtain ⟨v19_1, h19_1, c19_1⟩ := PAt.sl h19_0
          refine ap (y_load_one ty26 rfl (fun _ h => h.sub) rfl c19_1) ?_
          refine ap (y_move rfl) ?_
          obtain ⟨x19_3, q19_3, hm⟩ := bind_some hm
          obtain ⟨b19_3, o19_3, c19_3, e19_3, h19_3⟩ := Sl.elemZ 1 rfl h19_1 q19_3
          refine ap (y_index Tryd.underlying26 ty3 rfl e19_3 rfl (nth_in q19_3)) ?_
          refine ap (y_load_int ty3 rfl (fun _ h => h.sub) rfl h19_3) ?_
          obtain ⟨x19_5, q19_5, hm⟩ := bind_some hm
          refine a_cons (e_callV (all := [.int .i64 x19_3, .int .i64 0, .int .i64 20]) (v := .bool x19_5) trivial rfl Tryd.func50 rfl rfl rfl rfl rfl (fun w hw => ok_50 hw q19_5) ?_)
          refine ap (y_assign rfl) ?_
          refine a_nil ?_
          refine a_en [(1, .pointer (some ⟨b0_0, 0, none⟩)), (3, .bool x19_5), (7, .int .i64 yj12_7), (8, .pointer (some ⟨b14_5, 0, none⟩)), (9, .int .i64 yj17_9)] ?_
          refine a_block_normal ?_
          refine a_then ?_
          refine a_region rfl ?_
          refine ap (y_move rfl) ?_
          refine ap (y_add rfl rfl) ?_
          refine ap (y_assign rfl) ?_
          refine a_nil ?_
          refine a_en [(1, .pointer (some ⟨b0_0, 0, none⟩)), (3, .bool x19_5), (7, .int .i64 yj12_7), (8, .pointer (some ⟨b14_5, 0, none⟩)), (9, .int .i64 (IntKind.i64.wrap (yj17_9 + 1)))] ?_
          refine a_then ?_
          intro a_ w_ ha_ hs_
          exact ⟨n_j17, Nat.lt_succ_self _, x19_5, IntKind.i64.wrap (yj17_9 + 1), hm, ha_.weaken ⟨rfl, rfl, rfl, rfl, rfl, trivial⟩, hs_.reix [] (by decide)⟩
        have hm := cond_f k_19 hm
        refine a_exit ?_
        refine a_then_exit ?_
        refine a_then_exit ?_
        refine a_block_hit ?_
        refine a_cut ?_
        intro a_ w_ ha_ hs_
        exact ⟨yj17_3, Option.some.inj hm, ha_.weaken ⟨rfl, rfl, rfl, trivial⟩, hs_.reix [] (by decide)⟩
      have hm := hm_j16
      rintro a_ w_ ⟨yj16_3, rfl, ha_, hs_⟩
      try dsimp only at hm
      refine a_start ha_ hs_ ?_
      refine a_block_normal ?_
      refine a_then ?_
      refine a_region rfl ?_
      refine ap (y_move rfl) ?_
      refine ap (y_add rfl rfl) ?_
      refine ap (y_assign rfl) ?_
      refine a_nil ?_
      refine a_en [(1, .pointer (some ⟨b0_0, 0, none⟩)), (3, .bool yj16_3), (7, .int .i64 (IntKind.i64.wrap (yj12_7 + 1)))] ?_
      refine a_then ?_
      intro a_ w_ ha_ hs_
      exact ⟨n_j12, Nat.lt_succ_self _, Hb14_5, (lj12.trans lb14_5), yj16_3, IntKind.i64.wrap (yj12_7 + 1), hm, ha_.weaken ⟨rfl, rfl, rfl, trivial⟩, hs_.reix [] (by decide)⟩
    have hm := cond_f k_14 hm
    refine a_exit ?_
    refine a_then_exit ?_
    refine a_then_exit ?_
    refine a_block_hit ?_
    refine a_cut ?_
    intro a_ w_ ha_ hs_
    exact ⟨Hj12, lj12, yj12_3, Option.some.inj hm, ha_.weaken ⟨rfl, trivial⟩, hs_.reix [] (by decide)⟩
  have hm := hm_j11
  rintro a_ w_ ⟨Hj11, lj11, yj11_3, rfl, ha_, hs_⟩
  try dsimp only at hm
  refine a_start ha_ hs_ ?_
  refine a_then ?_
  refine a_seq ?_
  refine a_region rfl ?_
  refine ap (y_move rfl) ?_
  refine ap (y_assign rfl) ?_
  refine a_nil ?_
  refine a_en [(2, .bool yj11_3)] ?_
  refine a_then ?_
  refine a_ret ?_
  refine a_done (v := .bool yj11_3) (.inl rfl) rfl ?_ ?_
  · intro a_ w_ ha_ hs_; exact run_results (P := Tryd.prog) (fn := Tryd.f43) (rs := [.tmp 2]) (vs := [.bool yj11_3]) rfl (.cons (rv_tmp ha_ rfl) (All2.nil))
  · intro _ _; obtain rfl := Option.some.inj hm
    rfl

def ref00_Spin (k : Nat) (p0 : Int) (p1 : Int) : Option Int :=
 bif decide (p1 < 1) then
 some (0)
 else
 (rem p0 p1).bind fun x3_2 =>
 bif decide (x3_2 < 0) then
 some ((IntKind.i64.wrap (x3_2 + p1)))
 else
 some (x3_2)
theorem ok_52 {k : Nat} {H : Hp} {w : World} {p0 : Int} {p1 : Int} {r : Int} (hsub : Sub H w)  (hm : ref00_Spin k p0 p1 = some r) : Calls Tryd.prog 52 [.int .i64 p0, .int .i64 p1].toArray w (PostV w H (.int .i64 r)) := by
  unfold ref00_Spin at hm
  refine start (n := 17) (E := [(0, .int .i64 p0), (1, .int .i64 p1)]) Tryd.func52 rfl rfl ⟨rfl, rfl, trivial⟩ rfl hsub ?_
  refine a_seq ?_
  refine a_region rfl ?_
  refine ap (y_assign rfl) ?_
  refine a_nil ?_
  refine a_en [(0, .int .i64 p0), (1, .int .i64 p1)] ?_
  refine a_then ?_
  refine a_seq ?_
  refine a_seq ?_
  refine a_region rfl ?_
  refine ap (y_move rfl) ?_
  refine ap (y_lss rfl rfl) ?_
  refine a_nil ?_
  refine a_en [(0, .int .i64 p0), (1, .int .i64 p1), (7, .bool (decide (p1 < 1)))] ?_
  refine a_then ?_
  refine a_cond rfl (fun k_1 => ?_) (fun k_1 => ?_)
  · have hm := cond_t k_1 hm
    refine a_seq ?_
    refine a_region rfl ?_
    refine ap (y_assign rfl) ?_
    refine a_nil ?_
    refine a_en [(4, .int .i64 0)] ?_
    refine a_then ?_
    refine a_ret ?_
    refine a_then_ret ?_
    refine a_done (v := .int .i64 0) (.inl rfl) rfl ?_ ?_
    · intro a_ w_ ha_ hs_; exact run_results (P := Tryd.prog) (fn := Tryd.f52) (rs := [.tmp 4]) (vs := [.int .i64 0]) rfl (.cons (rv_tmp ha_ rfl) (All2.nil))
    · intro _ _; obtain rfl := Option.some.inj hm
      rfl
  have hm := cond_f k_1 hm
  refine a_skip ?_
  refine a_then ?_
  refine a_seq ?_
  refine a_region rfl ?_
  refine ap (y_move rfl) ?_
  refine ap (y_move rfl) ?_
  obtain ⟨x3_2, q3_2, hm⟩ := bind_some hm
  refine ap (y_rem_some rfl rfl q3_2) ?_
  refine ap (y_assign rfl) ?_
  refine a_nil ?_
  refine a_en [(1, .int .i64 p1), (5, .int .i64 x3_2)] ?_
  refine a_then ?_
  refine a_seq ?_
  refine a_seq ?_
  refine a_region rfl ?_
  refine ap (y_move rfl) ?_
  refine ap (y_lss rfl rfl) ?_
  refine a_nil ?_
  refine a_en [(1, .int .i64 p1), (5, .int .i64 x3_2), (12, .bool (decide (x3_2 < 0)))] ?_
  refine a_then ?_
  refine a_cond rfl (fun k_2 => ?_) (fun k_2 => ?_)
  · have hm := cond_t k_2 hm
    refine a_region rfl ?_
    refine ap (y_move rfl) ?_
    refine ap (y_move rfl) ?_
    refine ap (y_add rfl rfl) ?_
    refine ap (y_assign rfl) ?_
    refine a_nil ?_
    refine a_en [(5, .int .i64 (IntKind.i64.wrap (x3_2 + p1)))] ?_
    refine a_then ?_
    refine a_seq ?_
    refine a_region rfl ?_
    refine ap (y_move rfl) ?_
    refine ap (y_assign rfl) ?_
    refine a_nil ?_
    refine a_en [(4, .int .i64 (IntKind.i64.wrap (x3_2 + p1)))] ?_
    refine a_then ?_
    refine a_ret ?_
    refine a_done (v := .int .i64 (IntKind.i64.wrap (x3_2 + p1))) (.inl rfl) rfl ?_ ?_
    · intro a_ w_ ha_ hs_; exact run_results (P := Tryd.prog) (fn := Tryd.f52) (rs := [.tmp 4]) (vs := [.int .i64 (IntKind.i64.wrap (x3_2 + p1))]) rfl (.cons (rv_tmp ha_ rfl) (All2.nil))
    · intro _ _; obtain rfl := Option.some.inj hm
      rfl
  have hm := cond_f k_2 hm
  refine a_skip ?_
  refine a_then ?_
  refine a_seq ?_
  refine a_region rfl ?_
  refine ap (y_move rfl) ?_
  refine ap (y_assign rfl) ?_
  refine a_nil ?_
  refine a_en [(4, .int .i64 x3_2)] ?_
  refine a_then ?_
  refine a_ret ?_
  refine a_done (v := .int .i64 x3_2) (.inl rfl) rfl ?_ ?_
  · intro a_ w_ ha_ hs_; exact run_results (P := Tryd.prog) (fn := Tryd.f52) (rs := [.tmp 4]) (vs := [.int .i64 x3_2]) rfl (.cons (rv_tmp ha_ rfl) (All2.nil))
  · intro _ _; obtain rfl := Option.some.inj hm
    rfl

def ref00_Only (k : Nat) (p0 : Int) : Option Span :=
 (ref00_Sp k p0 p0).bind fun x1_2 =>
 some (x1_2)
theorem ok_51 {k : Nat} {H : Hp} {w : World} {p0 : Int} {r : Span} (hsub : Sub H w)  (hm : ref00_Only k p0 = some r) : Calls Tryd.prog 51 [.int .i64 p0].toArray w (PostV w H (.agg r.cells.toArray)) := by
  unfold ref00_Only at hm
  refine start (n := 6) (E := [(0, .int .i64 p0)]) Tryd.func51 rfl rfl ⟨rfl, trivial⟩ rfl hsub ?_
  refine a_seq ?_
  refine a_region rfl ?_
  refine a_cons (e_alloc (cs := [.int .i64 0, .int .i64 0]) trivial rfl ty32 rfl ?_)
  intro b0_0
  refine a_nil ?_
  refine a_then ?_
  refine a_seq ?_
  refine a_region rfl ?_
  refine ap (y_move rfl) ?_
  refine ap (y_move rfl) ?_
  obtain ⟨x1_2, q1_2, hm⟩ := bind_some hm
  refine a_cons (e_callV (all := [.int .i64 p0, .int .i64 p0]) (v := .agg x1_2.cells.toArray) trivial rfl Tryd.func53 rfl rfl rfl rfl rfl (fun w hw => ok_53 hw q1_2) ?_)
  refine a_cons (e_storeWhole (i := 0) (ds := x1_2.cells) trivial ty32 rfl rfl rfl rfl rfl ((Rp.one (Span.rep_mk (fun _ => none) x1_2))) rfl ?_)
  refine a_nil ?_
  refine a_freeze (α := Span) (x := x1_2) (i := 0) rfl (Span.rep_mk _ x1_2) ?_
  intro Hb0_0 lb0_0 hb0_0
  refine a_en [(2, .pointer (some ⟨b0_0, 0, none⟩))] ?_
  refine a_own [] (by decide) (L' := []) rfl ?_
  refine a_then ?_
  refine a_ret ?_
  obtain ⟨ce2, re2, le2⟩ := PAt.one hb0_0
  refine a_done (v := .agg ce2.toArray) (.inl rfl) rfl ?_ ?_
  · intro a_ w_ ha_ hs_; exact run_results (P := Tryd.prog) (fn := Tryd.f51) (rs := [.cell 2 32]) (vs := [.agg ce2.toArray]) rfl (.cons (rv_cell ha_ rfl (run_loadVar_agg ty32 rfl (le2 _ hs_.sub) (Rp.len re2))) (All2.nil))
  · intro _ _; obtain rfl := Option.some.inj hm
    rw [Span.rep_eq re2]

def law03_worst_lj2 (k : Nat) (p0 : TunnelBook) (p1 : Int) : Nat → Int → Int → Option (Sum Int Int)
 | 0, _, _ => none
 | n_j2 + 1, yj2_5, yj2_6 =>
 (nth p0.Parts p1).bind fun x3_4 =>
 bif decide (yj2_6 ≤ x3_4.Damp.High) then
 (app ([] : List TunnelPart) p0.Parts).bind fun x6_3 =>
 (ref00_Only k yj2_6).bind fun x7_4 =>
 (nth x6_3 p1).bind fun x7_5 =>
 (tunnel_Most k ((⟨(x6_3).set (p1).toNat (⟨x7_5.Heat, x7_4⟩ : TunnelPart), p0.Frames⟩ : TunnelBook))).bind fun x8_1 =>
 bif x8_1.2.2 != 0 then
 some (Sum.inl (-1))
 else
 law03_worst_lj2 k p0 p1 n_j2 (min yj2_5 (x8_1.2.1.length : Int)) (IntKind.i64.wrap (yj2_6 + 1))
 else
 some (Sum.inr yj2_5)
def law03_worst (k : Nat) (p0 : TunnelBook) (p1 : Int) : Option Int :=
 (nth p0.Parts p1).bind fun x2_3 =>
 (law03_worst_lj2 k p0 p1 k (p0.Frames.length : Int) x2_3.Damp.Low).bind fun o => (match o with
 | .inl r => some r
 | .inr yj1_5 =>
 some (yj1_5))
theorem ok_68 {k : Nat} {H : Hp} {w : World} {p0 : TunnelBook} {p1 : Int} {c0 : List Value} {r : Int} (hsub : Sub H w) (h0 : Rp.rep (α := TunnelBook) H c0 p0) (hg : Glob H) (hm : law03_worst k p0 p1 = some r) : Calls Tryd.prog 68 [.agg c0.toArray, .int .i64 p1].toArray w (PostV w H (.int .i64 r)) := by
  unfold law03_worst at hm
  refine start (n := 58) (E := [(0, .agg c0.toArray), (1, .int .i64 p1)]) Tryd.func68 rfl rfl ⟨rfl, rfl, trivial⟩ rfl hsub ?_
  refine a_seq ?_
  refine a_region rfl ?_
  refine a_cons (e_box (cs := c0) trivial rfl rfl rfl ?_)
  intro b0_0
  refine ap (y_assign rfl) ?_
  refine a_nil ?_
  refine a_freeze (α := TunnelBook) (x := p0) (i := 0) rfl h0 ?_
  intro Hb0_0 lb0_0 hb0_0
  have h0 := Rp.mono lb0_0 h0
  have hg := Glob.mono lb0_0 hg
  refine a_en [(1, .int .i64 p1), (2, .pointer (some ⟨b0_0, 0, none⟩))] ?_
  refine a_own [] (by decide) (L' := []) rfl ?_
  refine a_then ?_
  refine a_seq ?_
  refine a_region rfl ?_
  have h1_0 := TunnelBook.at_Frames hb0_0
  refine ap (y_fieldAddr fo25_1 rfl) ?_
  obtain ⟨v1_1, h1_1, c1_1⟩ := PAt.sl h1_0
  refine ap (y_load_one ty23 rfl (fun _ h => h.sub) rfl c1_1) ?_
  refine ap (y_len_sl Tryd.underlying23 rfl h1_1) ?_
  refine ap (y_assign rfl) ?_
  refine a_nil ?_
  refine a_en [(1, .int .i64 p1), (2, .pointer (some ⟨b0_0, 0, none⟩)), (5, .int .i64 (p0.Frames.length : Int))] ?_
  refine a_then ?_
  refine a_seq ?_
  refine a_seq ?_
  refine a_region rfl ?_
  have h2_0 := TunnelBook.at_Parts hb0_0
  refine ap (y_fieldAddr fo25_0 rfl) ?_
  obtain ⟨v2_1, h2_1, c2_1⟩ := PAt.sl h2_0
  refine ap (y_load_one ty22 rfl (fun _ h => h.sub) rfl c2_1) ?_
  refine ap (y_move rfl) ?_
  obtain ⟨x2_3, q2_3, hm⟩ := bind_some hm
  obtain ⟨b2_3, o2_3, c2_3, e2_3, h2_3⟩ := Sl.elemZ 6 rfl h2_1 q2_3
  refine ap (y_index Tryd.underlying22 ty64 rfl e2_3 rfl (nth_in q2_3)) ?_
  have h2_4 := TunnelPart.at_Damp h2_3
  refine ap (y_fieldAddr fo64_1 rfl) ?_
  have h2_5 := Span.at_Low h2_4
  refine ap (y_fieldAddr fo32_0 rfl) ?_
  refine ap (y_load_int ty3 rfl (fun _ h => h.sub) rfl h2_5) ?_
  refine ap (y_assign rfl) ?_
  refine a_nil ?_
  refine a_en [(1, .int .i64 p1), (2, .pointer (some ⟨b0_0, 0, none⟩)), (5, .int .i64 (p0.Frames.length : Int)), (6, .int .i64 x2_3.Damp.Low)] ?_
  refine a_then ?_
  obtain ⟨s_j1, hs_j1, hm_j1⟩ := bind_some hm
  refine a_join (fun a_ w_ => ∃ (Hj1 : Hp), ∃ (_ : HLe Hb0_0 Hj1), ∃ (yj1_5 : Int), Sum.inr yj1_5 = s_j1 ∧ Ag 58 [] [(5, .int .i64 yj1_5)] a_ ∧ St (Kp.mk w H noX) Hj1 [] w_) ?_ ?_
  · have hm := hs_j1
    refine a_block ?_
    refine a_loop (fun n_j2 a_ w_ => ∃ (Hj2 : Hp), ∃ (_ : HLe Hb0_0 Hj2), ∃ (yj2_5 : Int), ∃ (yj2_6 : Int), law03_worst_lj2 k p0 p1 n_j2 yj2_5 yj2_6 = some s_j1 ∧ Ag 58 [] [(1, .int .i64 p1), (2, .pointer (some ⟨b0_0, 0, none⟩)), (5, .int .i64 yj2_5), (6, .int .i64 yj2_6)] a_ ∧ St (Kp.mk w H noX) Hj2 [] w_) k ?_ ?_
    · intro a_ w_ ha_ hs_
      exact ⟨Hb0_0, (HLe.refl _), (p0.Frames.length : Int), x2_3.Damp.Low, hm, ha_.weaken ⟨rfl, rfl, rfl, rfl, trivial⟩, hs_.reix [] (by decide)⟩
    rintro (_ | n_j2) a_ w_ ⟨Hj2, lj2, yj2_5, yj2_6, hm, ha_, hs_⟩
    · rw [law03_worst_lj2.eq_1] at hm; cases hm
    rw [law03_worst_lj2.eq_2] at hm
    refine a_start ha_ hs_ ?_
    have hb0_0 := PAt.mono lj2 hb0_0
    have hg := Glob.mono lj2 hg
    refine a_seq ?_
    refine a_seq ?_
    refine a_region rfl ?_
    refine ap (y_move rfl) ?_
    have h3_1 := TunnelBook.at_Parts hb0_0
    refine ap (y_fieldAddr fo25_0 rfl) ?_
    obtain ⟨v3_2, h3_2, c3_2⟩ := PAt.sl h3_1
    refine ap (y_load_one ty22 rfl (fun _ h => h.sub) rfl c3_2) ?_
    refine ap (y_move rfl) ?_
    obtain ⟨x3_4, q3_4, hm⟩ := bind_some hm
    obtain ⟨b3_4, o3_4, c3_4, e3_4, h3_4⟩ := Sl.elemZ 6 rfl h3_2 q3_4
    refine ap (y_index Tryd.underlying22 ty64 rfl e3_4 rfl (nth_in q3_4)) ?_
    have h3_5 := TunnelPart.at_Damp h3_4
    refine ap (y_fieldAddr fo64_1 rfl) ?_
    have h3_6 := Span.at_High h3_5
    refine ap (y_fieldAddr fo32_1 rfl) ?_
    refine ap (y_load_int ty3 rfl (fun _ h => h.sub) rfl h3_6) ?_
    refine ap (y_leq rfl rfl) ?_
    refine a_nil ?_
    refine a_en [(1, .int .i64 p1), (2, .pointer (some ⟨b0_0, 0, none⟩)), (5, .int .i64 yj2_5), (6, .int .i64 yj2_6), (29, .bool (decide (yj2_6 ≤ x3_4.Damp.High)))] ?_
    refine a_then ?_
    refine a_cond rfl (fun k_3 => ?_) (fun k_3 => ?_)
    · have hm := cond_t k_3 hm
      refine a_skip ?_
      refine a_then ?_
      refine a_seq ?_
      refine a_block ?_
      refine a_seq ?_
      refine a_region rfl ?_
      obtain ⟨u5_0, h5_0, c5_0⟩ := PAt.one hb0_0
      refine ap (y_load_cells ty25 rfl (fun _ h => h.sub) rfl c5_0 (Rp.len h5_0)) ?_
      refine a_cons (e_alloc (cs := [.slice none 0 0, .slice none 0 0]) trivial rfl ty25 rfl ?_)
      intro b5_1
      refine a_cons (e_storeWhole (i := 0) (ds := u5_0) trivial ty25 rfl rfl rfl rfl (Rp.len h5_0) ((Rp.one h5_0)) rfl ?_)
      refine a_nil ?_
      obtain ⟨v5o5_1_0, v5o5_1_1, rfl, h5o5_1_0, h5o5_1_1⟩ := TunnelBook.opened h5_0
      refine a_en [(1, .int .i64 p1), (2, .pointer (some ⟨b0_0, 0, none⟩)), (5, .int .i64 yj2_5), (6, .int .i64 yj2_6), (7, .pointer (some ⟨b5_1, 0, none⟩))] ?_
      refine a_then ?_
      refine a_seq ?_
      refine a_region rfl ?_
      refine a_cons (e_buildSlice (xs := []) (cs := []) trivial rfl Tryd.underlying22 ty64 rfl rfl rfl (by simp [Value.cells]) rfl (rfl) ?_)
      intro v6_0
      have h6_0 : RepL (α := TunnelPart) Hj2 ([]) [] := (RepL.nil (α := TunnelPart))
      have h6_1 := TunnelBook.at_Parts hb0_0
      refine ap (y_fieldAddr fo25_0 rfl) ?_
      obtain ⟨v6_2, h6_2, c6_2⟩ := PAt.sl h6_1
      refine ap (y_load_one ty22 rfl (fun _ h => h.sub) rfl c6_2) ?_
      obtain ⟨x6_3, q6_3, hm⟩ := bind_some hm
      refine a_cons (e_app_sl (i := 0) trivial rfl Tryd.underlying22 Tryd.underlying22 ty64 rfl rfl rfl rfl rfl rfl rfl rfl h6_0 h6_2 q6_3 ?_)
      intro v6_3 u6_3 h6_3
      refine ap (y_fieldAddr fo25_0 rfl) ?_
      refine a_cons (e_storeLR (i := 1) (j := 0) (cs' := [v6_3, v5o5_1_1]) trivial ty22 rfl rfl rfl rfl (Nat.le_of_ble_eq_true rfl) rfl ?_)
      refine a_nil ?_
      refine a_en [(1, .int .i64 p1), (2, .pointer (some ⟨b0_0, 0, none⟩)), (5, .int .i64 yj2_5), (6, .int .i64 yj2_6), (7, .pointer (some ⟨b5_1, 0, none⟩))] ?_
      refine a_then ?_
      refine a_seq ?_
      obtain ⟨x7_4, q7_4, hm⟩ := bind_some hm
      obtain ⟨x7_5, q7_5, hm⟩ := bind_some hm
      refine d_region (S := Sw Hj2 [.box b5_1 [v6_3, v5o5_1_1] 25]) (n := 8) (listed := (bits 8 0)) mixed (by kernel_rfl) rfl (by kernel_rfl) ?_
      refine dt 0 1 rfl trivial (y_fieldAddr fo25_0 rfl) (sw0 [1]) ?_
      refine dt 1 3 rfl trivial (y_load_box ty22 rfl (knows_sw (i := 0) rfl) rfl rfl) (sw0 [1]) ?_
      refine dt 2 7 rfl trivial (y_move rfl) (sw0 [1]) ?_
      refine dt 3 15 rfl trivial (y_move rfl) (sw0 [1]) ?_
      refine d1 4 rfl (e_callV (all := [.int .i64 yj2_6]) (v := .agg x7_4.cells.toArray) trivial rfl Tryd.func51 rfl rfl rfl rfl rfl (fun w hw => ok_51 hw q7_4) ?_)
      refine dn 31 (sw0 [1]) ?_
      refine a_rowplace (i := 0) rfl rfl rfl h6_3 q7_5 ?_
      rintro b7_5 c7_5 rfl
      refine d1 5 rfl (p_pure trivial rfl rfl (y_index Tryd.underlying22 ty64 rfl rfl rfl (nth_in q7_5)) ?_)
      refine dn 63 (sw0 [1]) ?_
      refine dt 6 127 rfl trivial (y_fieldAddr fo64_1 rfl) (sw0 [1]) ?_
      refine d1 7 rfl (e_storeRow (α := TunnelPart) (i := 0) (ds := x7_4.cells) (l' := (x6_3).set (p1).toNat (⟨x7_5.Heat, x7_4⟩ : TunnelPart)) trivial ty32 rfl rfl rfl rfl rfl ((Rp.one (Span.rep_mk (fun _ => none) x7_4))) rfl h6_3 (PutL.at0 6 rfl q7_5 (TunnelPart.put_Damp (s := x7_5) (Put.here (Span.rep_mk _ x7_4)))) ?_)
      intro u7_7 h7_7
      refine dn 255 (sw0 [1]) ?_
      refine d_done (by kernel_rfl) ?_
      refine a_en [(1, .int .i64 p1), (2, .pointer (some ⟨b0_0, 0, none⟩)), (5, .int .i64 yj2_5), (6, .int .i64 yj2_6), (7, .pointer (some ⟨b5_1, 0, none⟩))] ?_
      refine a_then ?_
      refine a_seq ?_
      refine a_region rfl ?_
      refine ap (y_load_boxagg ty25 rfl (knows_box (i := 1) rfl) rfl rfl rfl) ?_
      refine a_frow (i := 0) rfl rfl h7_7 rfl ?_
      intro H8_1q0f l8_1q0f h8_1q0f
      have hb0_0 := PAt.mono l8_1q0f hb0_0
      have h5o5_1_1 := Sl.mono l8_1q0f h5o5_1_1
      have hg := Glob.mono l8_1q0f hg
      have m8_1g0l : Rp.rep H8_1q0f [.slice (some ⟨b7_5, 0, none⟩) (x6_3).length c7_5, v5o5_1_1] (⟨(x6_3).set (p1).toNat (⟨x7_5.Heat, x7_4⟩ : TunnelPart), p0.Frames⟩ : TunnelBook) := ⟨_, _, rfl, ⟨_, rfl, h8_1q0f⟩, ⟨_, rfl, h5o5_1_1⟩⟩
      obtain ⟨x8_1, q8_1, hm⟩ := bind_some hm
      refine a_cons (e_callH (all := [.agg [.slice (some ⟨b7_5, 0, none⟩) (x6_3).length c7_5, v5o5_1_1].toArray]) trivial rfl Tryd.func33 rfl rfl rfl rfl rfl (fun w hw => ok_33 hw m8_1g0l hg q8_1) ?_)
      rintro _ H8_1 l8_1 ⟨v8_1r0, v8_1r1, rfl, h8_1r0, h8_1r1⟩
      have hb0_0 := PAt.mono l8_1 hb0_0
      have h8_1q0f := Sl.mono l8_1 h8_1q0f
      have h5o5_1_1 := Sl.mono l8_1 h5o5_1_1
      have hg := Glob.mono l8_1 hg
      refine ap (y_move rfl) ?_
      refine ap (y_extract rfl rfl) ?_
      refine ap (y_extract rfl rfl) ?_
      refine ap (y_extract rfl rfl) ?_
      refine ap (y_assign rfl) ?_
      refine ap (y_assign rfl) ?_
      refine ap (y_assign rfl) ?_
      refine a_nil ?_
      refine a_en [(1, .int .i64 p1), (2, .pointer (some ⟨b0_0, 0, none⟩)), (5, .int .i64 yj2_5), (6, .int .i64 yj2_6), (9, v8_1r1), (10, .int .i64 x8_1.2.2)] ?_
      refine a_own [] (by decide) (L' := []) rfl ?_
      refine a_then ?_
      refine a_seq ?_
      refine a_seq ?_
      refine a_region rfl ?_
      refine ap (y_move rfl) ?_
      refine ap (y_neq rfl rfl) ?_
      refine a_nil ?_
      refine a_en [(1, .int .i64 p1), (2, .pointer (some ⟨b0_0, 0, none⟩)), (5, .int .i64 yj2_5), (6, .int .i64 yj2_6), (9, v8_1r1), (52, .bool (x8_1.2.2 != 0))] ?_
      refine a_then ?_
      refine a_cond rfl (fun k_4 => ?_) (fun k_4 => ?_)
      · have hm := cond_t k_4 hm
        refine a_seq ?_
        refine a_region rfl ?_
        refine ap (y_assign rfl) ?_
        refine a_nil ?_
        refine a_en [(4, .int .i64 (-1))] ?_
        refine a_then ?_
        refine a_ret ?_
        refine a_then_ret ?_
        refine a_block_ret ?_
        refine a_then_ret ?_
        refine a_then_ret ?_
        refine a_block_ret ?_
        refine a_cut_ret ?_
        refine a_then_ret ?_
        obtain rfl := Option.some.inj hm
        have hm := hm_j1
        try dsimp only at hm
        refine a_done (v := .int .i64 (-1)) (.inl rfl) rfl ?_ ?_
        · intro a_ w_ ha_ hs_; exact run_results (P := Tryd.prog) (fn := Tryd.f68) (rs := [.tmp 4]) (vs := [.int .i64 (-1)]) rfl (.cons (rv_tmp ha_ rfl) (All2.nil))
        · intro _ _; obtain rfl := Option.some.inj hm
          rfl
      have hm := cond_f k_4 hm
      refine a_skip ?_
      refine a_then ?_
      refine a_region rfl ?_
      refine ap (y_move rfl) ?_
      refine ap (y_move rfl) ?_
      refine ap (y_len_sl Tryd.underlying26 rfl h8_1r1) ?_
      refine ap (y_min rfl rfl) ?_
      refine ap (y_assign rfl) ?_
      refine a_nil ?_
      refine a_en [(1, .int .i64 p1), (2, .pointer (some ⟨b0_0, 0, none⟩)), (5, .int .i64 (min yj2_5 (x8_1.2.1.length : Int))), (6, .int .i64 yj2_6)] ?_
      refine a_block_normal ?_
      refine a_then ?_
      refine a_region rfl ?_
      refine ap (y_move rfl) ?_
      refine ap (y_add rfl rfl) ?_
      refine ap (y_assign rfl) ?_
      refine a_nil ?_
      refine a_en [(1, .int .i64 p1), (2, .pointer (some ⟨b0_0, 0, none⟩)), (5, .int .i64 (min yj2_5 (x8_1.2.1.length : Int))), (6, .int .i64 (IntKind.i64.wrap (yj2_6 + 1)))] ?_
      refine a_then ?_
      intro a_ w_ ha_ hs_
      exact ⟨n_j2, Nat.lt_succ_self _, H8_1, (lj2.trans (l8_1q0f.trans l8_1)), min yj2_5 (x8_1.2.1.length : Int), IntKind.i64.wrap (yj2_6 + 1), hm, ha_.weaken ⟨rfl, rfl, rfl, rfl, trivial⟩, hs_.reix [] (by decide)⟩
    have hm := cond_f k_3 hm
    refine a_exit ?_
    refine a_then_exit ?_
    refine a_then_exit ?_
    refine a_block_hit ?_
    refine a_cut ?_
    intro a_ w_ ha_ hs_
    exact ⟨Hj2, lj2, yj2_5, Option.some.inj hm, ha_.weaken ⟨rfl, trivial⟩, hs_.reix [] (by decide)⟩
  have hm := hm_j1
  rintro a_ w_ ⟨Hj1, lj1, yj1_5, rfl, ha_, hs_⟩
  try dsimp only at hm
  refine a_start ha_ hs_ ?_
  have hg := Glob.mono lj1 hg
  refine a_then ?_
  refine a_seq ?_
  refine a_region rfl ?_
  refine ap (y_move rfl) ?_
  refine ap (y_assign rfl) ?_
  refine a_nil ?_
  refine a_en [(4, .int .i64 yj1_5)] ?_
  refine a_then ?_
  refine a_ret ?_
  refine a_done (v := .int .i64 yj1_5) (.inl rfl) rfl ?_ ?_
  · intro a_ w_ ha_ hs_; exact run_results (P := Tryd.prog) (fn := Tryd.f68) (rs := [.tmp 4]) (vs := [.int .i64 yj1_5]) rfl (.cons (rv_tmp ha_ rfl) (All2.nil))
  · intro _ _; obtain rfl := Option.some.inj hm
    rfl

def law03_TunnelAsk (k : Nat) (p0 : TunnelBook) (p1 : Int) : Option Bool :=
 (law03_sound k p0).bind fun x1_1 =>
 bif !x1_1 then
 (law03_warmed k).bind fun x2_0 =>
 some (x2_0)
 else
 (tunnel_Ask k p0).bind fun x3_1 =>
 (tunnel_Most k p0).bind fun x4_1 =>
 (bif x3_1.2 != 0 then
 some (true)
 else
 bif x4_1.2.2 != 0 then
 some (true)
 else
 (ref00_Fits k x3_1.1 0 (IntKind.i64.wrap ((p0.Parts.length : Int) - 1))).bind fun x5_12 =>
 some ((!x5_12))).bind fun yj2_42 =>
 bif yj2_42 then
 some (false)
 else
 (ref00_Spin k p1 (p0.Parts.length : Int)).bind fun x7_4 =>
 (law03_worst k p0 x3_1.1).bind fun x8_2 =>
 (law03_worst k p0 x7_4).bind fun x8_5 =>
 (bif decide (x8_2 ≥ (x4_1.2.1.length : Int)) then
 bif decide (x8_2 > x8_5) then
 (law03_warmed k).bind fun x9_20 =>
 some (x9_20)
 else
 bif x8_2 == x8_5 then
 bif decide (x3_1.1 ≤ x7_4) then
 (law03_warmed k).bind fun x9_20 =>
 some (x9_20)
 else
 some (false)
 else
 some (false)
 else
 some (false)).bind fun yj4_4 =>
 some (yj4_4)
theorem ok_15 {k : Nat} {H : Hp} {w : World} {p0 : TunnelBook} {p1 : Int} {c0 : List Value} {r : Bool} (hsub : Sub H w) (h0 : Rp.rep (α := TunnelBook) H c0 p0) (hg : Glob H) (hm : law03_TunnelAsk k p0 p1 = some r) : Calls Tryd.prog 15 [.agg c0.toArray, .int .i64 p1].toArray w (PostV w H (.bool r)) := by
  unfold law03_TunnelAsk at hm
  refine start (n := 76) (E := [(0, .agg c0.toArray), (1, .int .i64 p1)]) Tryd.func15 rfl rfl ⟨rfl, rfl, trivial⟩ rfl hsub ?_
  refine a_seq ?_
  refine a_region rfl ?_
  refine a_cons (e_box (cs := c0) trivial rfl rfl rfl ?_)
  intro b0_0
  refine ap (y_assign rfl) ?_
  refine a_nil ?_
  refine a_freeze (α := TunnelBook) (x := p0) (i := 0) rfl h0 ?_
  intro Hb0_0 lb0_0 hb0_0
  have h0 := Rp.mono lb0_0 h0
  have hg := Glob.mono lb0_0 hg
  refine a_en [(1, .int .i64 p1), (2, .pointer (some ⟨b0_0, 0, none⟩))] ?_
  refine a_own [] (by decide) (L' := []) rfl ?_
  refine a_then ?_
  refine a_seq ?_
  refine a_seq ?_
  refine a_region rfl ?_
  obtain ⟨u1_0, h1_0, c1_0⟩ := PAt.one hb0_0
  refine ap (y_load_cells ty25 rfl (fun _ h => h.sub) rfl c1_0 (Rp.len h1_0)) ?_
  obtain ⟨x1_1, q1_1, hm⟩ := bind_some hm
  refine a_cons (e_callV (all := [.agg u1_0.toArray]) (v := .bool x1_1) trivial rfl Tryd.func43 rfl rfl rfl rfl rfl (fun w hw => ok_43 hw h1_0 q1_1) ?_)
  refine ap (y_not rfl) ?_
  refine a_nil ?_
  refine a_en [(1, .int .i64 p1), (2, .pointer (some ⟨b0_0, 0, none⟩)), (15, .bool (!x1_1))] ?_
  refine a_then ?_
  refine a_cond rfl (fun k_1 => ?_) (fun k_1 => ?_)
  · have hm := cond_t k_1 hm
    refine a_seq ?_
    refine a_region rfl ?_
    obtain ⟨x2_0, q2_0, hm⟩ := bind_some hm
    refine a_cons (e_callV (all := []) (v := .bool x2_0) trivial rfl Tryd.func30 rfl rfl rfl rfl rfl (fun w hw => ok_30 hw hg q2_0) ?_)
    refine ap (y_assign rfl) ?_
    refine a_nil ?_
    refine a_en [(4, .bool x2_0)] ?_
    refine a_then ?_
    refine a_ret ?_
    refine a_then_ret ?_
    refine a_done (v := .bool x2_0) (.inl rfl) rfl ?_ ?_
    · intro a_ w_ ha_ hs_; exact run_results (P := Tryd.prog) (fn := Tryd.f15) (rs := [.tmp 4]) (vs := [.bool x2_0]) rfl (.cons (rv_tmp ha_ rfl) (All2.nil))
    · intro _ _; obtain rfl := Option.some.inj hm
      rfl
  have hm := cond_f k_1 hm
  refine a_skip ?_
  refine a_then ?_
  refine a_seq ?_
  refine a_region rfl ?_
  obtain ⟨u3_0, h3_0, c3_0⟩ := PAt.one hb0_0
  refine ap (y_load_cells ty25 rfl (fun _ h => h.sub) rfl c3_0 (Rp.len h3_0)) ?_
  obtain ⟨x3_1, q3_1, hm⟩ := bind_some hm
  refine a_cons (e_callV (all := [.agg u3_0.toArray]) (v := .tuple #[.int .i64 x3_1.1, .int .i64 x3_1.2]) trivial rfl Tryd.func41 rfl rfl rfl rfl rfl (fun w hw => ok_41 hw h3_0 hg q3_1) ?_)
  refine ap (y_move rfl) ?_
  refine ap (y_extract rfl rfl) ?_
  refine ap (y_extract rfl rfl) ?_
  refine ap (y_assign rfl) ?_
  refine ap (y_assign rfl) ?_
  refine a_nil ?_
  refine a_en [(1, .int .i64 p1), (2, .pointer (some ⟨b0_0, 0, none⟩)), (5, .int .i64 x3_1.1), (6, .int .i64 x3_1.2)] ?_
  refine a_then ?_
  refine a_seq ?_
  refine a_region rfl ?_
  obtain ⟨u4_0, h4_0, c4_0⟩ := PAt.one hb0_0
  refine ap (y_load_cells ty25 rfl (fun _ h => h.sub) rfl c4_0 (Rp.len h4_0)) ?_
  obtain ⟨x4_1, q4_1, hm⟩ := bind_some hm
  refine a_cons (e_callH (all := [.agg u4_0.toArray]) trivial rfl Tryd.func33 rfl rfl rfl rfl rfl (fun w hw => ok_33 hw h4_0 hg q4_1) ?_)
  rintro _ H4_1 l4_1 ⟨v4_1r0, v4_1r1, rfl, h4_1r0, h4_1r1⟩
  have hb0_0 := PAt.mono l4_1 hb0_0
  have h4_0 := Rp.mono l4_1 h4_0
  have hg := Glob.mono l4_1 hg
  refine ap (y_move rfl) ?_
  refine ap (y_extract rfl rfl) ?_
  refine ap (y_extract rfl rfl) ?_
  refine ap (y_extract rfl rfl) ?_
  refine ap (y_assign rfl) ?_
  refine ap (y_assign rfl) ?_
  refine ap (y_assign rfl) ?_
  refine a_nil ?_
  refine a_en [(1, .int .i64 p1), (2, .pointer (some ⟨b0_0, 0, none⟩)), (5, .int .i64 x3_1.1), (6, .int .i64 x3_1.2), (8, v4_1r1), (9, .int .i64 x4_1.2.2)] ?_
  refine a_then ?_
  refine a_seq ?_
  refine a_seq ?_
  obtain ⟨s_j2, hs_j2, hm_j2⟩ := bind_some hm
  refine a_join (fun a_ w_ => ∃ (yj2_42 : Bool), yj2_42 = s_j2 ∧ Ag 76 [] [(1, .int .i64 p1), (2, .pointer (some ⟨b0_0, 0, none⟩)), (5, .int .i64 x3_1.1), (8, v4_1r1), (42, .bool yj2_42)] a_ ∧ St (Kp.mk w H noX) H4_1 [] w_) ?_ ?_
  · have hm := hs_j2
    refine a_region rfl ?_
    refine ap (y_move rfl) ?_
    refine ap (y_neq rfl rfl) ?_
    refine ap (y_move rfl) ?_
    rcases Bool.eq_false_or_eq_true (x3_1.2 != 0) with k5_3 | k5_3
    · have hm := cond_t k5_3 hm
      refine as1 (sk1 rfl rfl k5_3) ?_
      refine as1 (sk1 rfl rfl k5_3) ?_
      refine ap (y_pick_t rfl k5_3 rfl) ?_
      refine ap (y_move rfl) ?_
      refine as1 (sk1 rfl rfl rfl) ?_
      refine as1 (sk1 rfl rfl rfl) ?_
      refine as1 (sk1 rfl rfl rfl) ?_
      refine as1 (sk1 rfl rfl rfl) ?_
      refine as1 (sk1 rfl rfl rfl) ?_
      refine as1 (sk1 rfl rfl rfl) ?_
      refine as1 (sk1 rfl rfl rfl) ?_
      refine ap (y_pick_t rfl rfl rfl) ?_
      refine a_nil ?_
      refine a_en [(1, .int .i64 p1), (2, .pointer (some ⟨b0_0, 0, none⟩)), (5, .int .i64 x3_1.1), (8, v4_1r1), (42, .bool true)] ?_
      refine a_cut ?_
      intro a_ w_ ha_ hs_
      exact ⟨true, Option.some.inj hm, ha_.weaken ⟨rfl, rfl, rfl, rfl, rfl, trivial⟩, hs_.reix [] (by decide)⟩
    have hm := cond_f k5_3 hm
    refine ag ⟨_, _, rfl, rfl, k5_3⟩ (y_move rfl) ?_
    refine ag ⟨_, _, rfl, rfl, k5_3⟩ (y_neq rfl rfl) ?_
    refine ap (y_pick_f rfl k5_3 rfl) ?_
    refine ap (y_move rfl) ?_
    rcases Bool.eq_false_or_eq_true (x4_1.2.2 != 0) with k5_7 | k5_7
    · have hm := cond_t k5_7 hm
      refine as1 (sk1 rfl rfl k5_7) ?_
      refine as1 (sk1 rfl rfl k5_7) ?_
      refine as1 (sk1 rfl rfl k5_7) ?_
      refine as1 (sk1 rfl rfl k5_7) ?_
      refine as1 (sk1 rfl rfl k5_7) ?_
      refine as1 (sk1 rfl rfl k5_7) ?_
      refine as1 (sk1 rfl rfl k5_7) ?_
      refine ap (y_pick_t rfl k5_7 rfl) ?_
      refine a_nil ?_
      refine a_en [(1, .int .i64 p1), (2, .pointer (some ⟨b0_0, 0, none⟩)), (5, .int .i64 x3_1.1), (8, v4_1r1), (42, .bool true)] ?_
      refine a_cut ?_
      intro a_ w_ ha_ hs_
      exact ⟨true, Option.some.inj hm, ha_.weaken ⟨rfl, rfl, rfl, rfl, rfl, trivial⟩, hs_.reix [] (by decide)⟩
    have hm := cond_f k5_7 hm
    refine ag ⟨_, _, rfl, rfl, k5_7⟩ (y_move rfl) ?_
    have h5_8 := TunnelBook.at_Parts hb0_0
    refine ag ⟨_, _, rfl, rfl, k5_7⟩ (y_fieldAddr fo25_0 rfl) ?_
    obtain ⟨v5_9, h5_9, c5_9⟩ := PAt.sl h5_8
    refine ag ⟨_, _, rfl, rfl, k5_7⟩ (y_load_one ty22 rfl (fun _ h => h.sub) rfl c5_9) ?_
    refine ag ⟨_, _, rfl, rfl, k5_7⟩ (y_len_sl Tryd.underlying22 rfl h5_9) ?_
    refine ag ⟨_, _, rfl, rfl, k5_7⟩ (y_sub rfl rfl) ?_
    obtain ⟨x5_12, q5_12, hm⟩ := bind_some hm
    refine a_cons (e_callV (all := [.int .i64 x3_1.1, .int .i64 0, .int .i64 (IntKind.i64.wrap ((p0.Parts.length : Int) - 1))]) (v := .bool x5_12) ⟨_, _, rfl, rfl, k5_7⟩ rfl Tryd.func50 rfl rfl rfl rfl rfl (fun w hw => ok_50 hw q5_12) ?_)
    refine ag ⟨_, _, rfl, rfl, k5_7⟩ (y_not rfl) ?_
    refine ap (y_pick_f rfl k5_7 rfl) ?_
    refine a_nil ?_
    refine a_en [(1, .int .i64 p1), (2, .pointer (some ⟨b0_0, 0, none⟩)), (5, .int .i64 x3_1.1), (8, v4_1r1), (42, .bool (!x5_12))] ?_
    refine a_cut ?_
    intro a_ w_ ha_ hs_
    exact ⟨!x5_12, Option.some.inj hm, ha_.weaken ⟨rfl, rfl, rfl, rfl, rfl, trivial⟩, hs_.reix [] (by decide)⟩
  have hm := hm_j2
  rintro a_ w_ ⟨yj2_42, rfl, ha_, hs_⟩
  try dsimp only at hm
  refine a_start ha_ hs_ ?_
  refine a_then ?_
  refine a_cond rfl (fun k_3 => ?_) (fun k_3 => ?_)
  · have hm := cond_t k_3 hm
    refine a_seq ?_
    refine a_region rfl ?_
    refine ap (y_assign rfl) ?_
    refine a_nil ?_
    refine a_en [(4, .bool false)] ?_
    refine a_then ?_
    refine a_ret ?_
    refine a_then_ret ?_
    refine a_done (v := .bool false) (.inl rfl) rfl ?_ ?_
    · intro a_ w_ ha_ hs_; exact run_results (P := Tryd.prog) (fn := Tryd.f15) (rs := [.tmp 4]) (vs := [.bool false]) rfl (.cons (rv_tmp ha_ rfl) (All2.nil))
    · intro _ _; obtain rfl := Option.some.inj hm
      rfl
  have hm := cond_f k_3 hm
  refine a_skip ?_
  refine a_then ?_
  refine a_seq ?_
  refine a_region rfl ?_
  refine ap (y_move rfl) ?_
  have h7_1 := TunnelBook.at_Parts hb0_0
  refine ap (y_fieldAddr fo25_0 rfl) ?_
  obtain ⟨v7_2, h7_2, c7_2⟩ := PAt.sl h7_1
  refine ap (y_load_one ty22 rfl (fun _ h => h.sub) rfl c7_2) ?_
  refine ap (y_len_sl Tryd.underlying22 rfl h7_2) ?_
  obtain ⟨x7_4, q7_4, hm⟩ := bind_some hm
  refine a_cons (e_callV (all := [.int .i64 p1, .int .i64 (p0.Parts.length : Int)]) (v := .int .i64 x7_4) trivial rfl Tryd.func52 rfl rfl rfl rfl rfl (fun w hw => ok_52 hw q7_4) ?_)
  refine ap (y_assign rfl) ?_
  refine a_nil ?_
  refine a_en [(2, .pointer (some ⟨b0_0, 0, none⟩)), (5, .int .i64 x3_1.1), (8, v4_1r1), (10, .int .i64 x7_4)] ?_
  refine a_then ?_
  refine a_seq ?_
  obtain ⟨x8_2, q8_2, hm⟩ := bind_some hm
  obtain ⟨x8_5, q8_5, hm⟩ := bind_some hm
  refine d_region (S := Sw H4_1 []) (n := 8) (listed := (bits 8 0)) mixed (by kernel_rfl) rfl (by kernel_rfl) ?_
  obtain ⟨u8_0, h8_0, c8_0⟩ := PAt.one hb0_0
  refine dt 0 1 rfl trivial (y_load_cells ty25 rfl (fun _ h => h.1) rfl c8_0 (Rp.len h8_0)) (sw0 []) ?_
  refine dt 1 3 rfl trivial (y_move rfl) (sw0 []) ?_
  obtain ⟨u8_3, h8_3, c8_3⟩ := PAt.one hb0_0
  refine dt 3 11 rfl trivial (y_load_cells ty25 rfl (fun _ h => h.1) rfl c8_3 (Rp.len h8_3)) (sw0 []) ?_
  refine dt 4 27 rfl trivial (y_move rfl) (sw0 []) ?_
  refine d1 2 rfl (e_callV (all := [.agg u8_0.toArray, .int .i64 x3_1.1]) (v := .int .i64 x8_2) trivial rfl Tryd.func68 rfl rfl rfl rfl rfl (fun w hw => ok_68 hw h8_0 hg q8_2) ?_)
  refine dn 31 (sw0 []) ?_
  refine d1 5 rfl (e_callV (all := [.agg u8_3.toArray, .int .i64 x7_4]) (v := .int .i64 x8_5) trivial rfl Tryd.func68 rfl rfl rfl rfl rfl (fun w hw => ok_68 hw h8_3 hg q8_5) ?_)
  refine dn 63 (sw0 []) ?_
  refine dt 6 127 rfl trivial (y_assign rfl) (sw0 []) ?_
  refine dt 7 255 rfl trivial (y_assign rfl) (sw0 []) ?_
  refine d_done (by kernel_rfl) ?_
  refine a_en [(5, .int .i64 x3_1.1), (8, v4_1r1), (10, .int .i64 x7_4), (11, .int .i64 x8_2), (12, .int .i64 x8_5)] ?_
  refine a_then ?_
  refine a_seq ?_
  obtain ⟨s_j4, hs_j4, hm_j4⟩ := bind_some hm
  refine a_join (fun a_ w_ => ∃ (yj4_4 : Bool), yj4_4 = s_j4 ∧ Ag 76 [] [(4, .bool yj4_4)] a_ ∧ St (Kp.mk w H noX) H4_1 [] w_) ?_ ?_
  · have hm := hs_j4
    refine a_region rfl ?_
    refine ap (y_move rfl) ?_
    refine ap (y_move rfl) ?_
    refine ap (y_len_sl Tryd.underlying26 rfl h4_1r1) ?_
    refine ap (y_geq rfl rfl) ?_
    refine ap (y_move rfl) ?_
    rcases Bool.eq_false_or_eq_true (decide (x8_2 ≥ (x4_1.2.1.length : Int))) with k9_5 | k9_5
    · have hm := cond_t k9_5 hm
      refine ag ⟨_, _, rfl, rfl, k9_5⟩ (y_move rfl) ?_
      refine ag ⟨_, _, rfl, rfl, k9_5⟩ (y_move rfl) ?_
      refine ag ⟨_, _, rfl, rfl, k9_5⟩ (y_gtr rfl rfl) ?_
      refine ag ⟨_, _, rfl, rfl, k9_5⟩ (y_move rfl) ?_
      rcases Bool.eq_false_or_eq_true (decide (x8_2 > x8_5)) with k9_9 | k9_9
      · have hm := cond_t k9_9 hm
        refine as1 (sk1 rfl rfl k9_9) ?_
        refine as1 (sk1 rfl rfl k9_9) ?_
        refine as1 (sk1 rfl rfl k9_9) ?_
        refine as1 (sk1 rfl rfl k9_9) ?_
        refine as1 (sku rfl rfl) ?_
        refine as1 (sku rfl rfl) ?_
        refine as1 (sku rfl rfl) ?_
        refine as1 (sk1 rfl rfl k9_9) ?_
        refine ag ⟨_, _, rfl, rfl, k9_5⟩ (y_pick_t rfl k9_9 rfl) ?_
        refine ap (y_pick_t rfl k9_5 rfl) ?_
        refine ap (y_move rfl) ?_
        obtain ⟨x9_20, q9_20, hm⟩ := bind_some hm
        refine a_cons (e_callV (all := []) (v := .bool x9_20) ⟨_, _, rfl, rfl, rfl⟩ rfl Tryd.func30 rfl rfl rfl rfl rfl (fun w hw => ok_30 hw hg q9_20) ?_)
        refine ap (y_pick_t rfl rfl rfl) ?_
        refine ap (y_assign rfl) ?_
        refine a_nil ?_
        refine a_en [(4, .bool x9_20)] ?_
        refine a_cut ?_
        intro a_ w_ ha_ hs_
        exact ⟨x9_20, Option.some.inj hm, ha_.weaken ⟨rfl, trivial⟩, hs_.reix [] (by decide)⟩
      have hm := cond_f k9_9 hm
      refine ag ⟨_, _, rfl, rfl, k9_9⟩ (y_move rfl) ?_
      refine ag ⟨_, _, rfl, rfl, k9_9⟩ (y_move rfl) ?_
      refine ag ⟨_, _, rfl, rfl, k9_9⟩ (y_eql rfl rfl) ?_
      refine ag ⟨_, _, rfl, rfl, k9_9⟩ (y_move rfl) ?_
      rcases Bool.eq_false_or_eq_true (x8_2 == x8_5) with k9_13 | k9_13
      · have hm := cond_t k9_13 hm
        refine ag ⟨_, _, rfl, rfl, k9_13⟩ (y_move rfl) ?_
        refine ag ⟨_, _, rfl, rfl, k9_13⟩ (y_move rfl) ?_
        refine ag ⟨_, _, rfl, rfl, k9_13⟩ (y_leq rfl rfl) ?_
        refine ag ⟨_, _, rfl, rfl, k9_9⟩ (y_pick_t rfl k9_13 rfl) ?_
        refine ag ⟨_, _, rfl, rfl, k9_5⟩ (y_pick_f rfl k9_9 rfl) ?_
        refine ap (y_pick_t rfl k9_5 rfl) ?_
        refine ap (y_move rfl) ?_
        rcases Bool.eq_false_or_eq_true (decide (x3_1.1 ≤ x7_4)) with k9_20 | k9_20
        · have hm := cond_t k9_20 hm
          obtain ⟨x9_20, q9_20, hm⟩ := bind_some hm
          refine a_cons (e_callV (all := []) (v := .bool x9_20) ⟨_, _, rfl, rfl, k9_20⟩ rfl Tryd.func30 rfl rfl rfl rfl rfl (fun w hw => ok_30 hw hg q9_20) ?_)
          refine ap (y_pick_t rfl k9_20 rfl) ?_
          refine ap (y_assign rfl) ?_
          refine a_nil ?_
          refine a_en [(4, .bool x9_20)] ?_
          refine a_cut ?_
          intro a_ w_ ha_ hs_
          exact ⟨x9_20, Option.some.inj hm, ha_.weaken ⟨rfl, trivial⟩, hs_.reix [] (by decide)⟩
        have hm := cond_f k9_20 hm
        refine as1 (sk1 rfl rfl k9_20) ?_
        refine ap (y_pick_f rfl k9_20 rfl) ?_
        refine ap (y_assign rfl) ?_
        refine a_nil ?_
        refine a_en [(4, .bool false)] ?_
        refine a_cut ?_
        intro a_ w_ ha_ hs_
        exact ⟨false, Option.some.inj hm, ha_.weaken ⟨rfl, trivial⟩, hs_.reix [] (by decide)⟩
      have hm := cond_f k9_13 hm
      refine as1 (sk1 rfl rfl k9_13) ?_
      refine as1 (sk1 rfl rfl k9_13) ?_
      refine as1 (sk1 rfl rfl k9_13) ?_
      refine ag ⟨_, _, rfl, rfl, k9_9⟩ (y_pick_f rfl k9_13 rfl) ?_
      refine ag ⟨_, _, rfl, rfl, k9_5⟩ (y_pick_f rfl k9_9 rfl) ?_
      refine ap (y_pick_t rfl k9_5 rfl) ?_
      refine ap (y_move rfl) ?_
      refine as1 (sk1 rfl rfl rfl) ?_
      refine ap (y_pick_f rfl rfl rfl) ?_
      refine ap (y_assign rfl) ?_
      refine a_nil ?_
      refine a_en [(4, .bool false)] ?_
      refine a_cut ?_
      intro a_ w_ ha_ hs_
      exact ⟨false, Option.some.inj hm, ha_.weaken ⟨rfl, trivial⟩, hs_.reix [] (by decide)⟩
    have hm := cond_f k9_5 hm
    refine as1 (sk1 rfl rfl k9_5) ?_
    refine as1 (sk1 rfl rfl k9_5) ?_
    refine as1 (sk1 rfl rfl k9_5) ?_
    refine as1 (sk1 rfl rfl k9_5) ?_
    refine as1 (sku rfl rfl) ?_
    refine as1 (sku rfl rfl) ?_
    refine as1 (sku rfl rfl) ?_
    refine as1 (sku rfl rfl) ?_
    refine as1 (sku rfl rfl) ?_
    refine as1 (sku rfl rfl) ?_
    refine as1 (sku rfl rfl) ?_
    refine as1 (sku rfl rfl) ?_
    refine as1 (sk1 rfl rfl k9_5) ?_
    refine ap (y_pick_f rfl k9_5 rfl) ?_
    refine ap (y_move rfl) ?_
    refine as1 (sk1 rfl rfl rfl) ?_
    refine ap (y_pick_f rfl rfl rfl) ?_
    refine ap (y_assign rfl) ?_
    refine a_nil ?_
    refine a_en [(4, .bool false)] ?_
    refine a_cut ?_
    intro a_ w_ ha_ hs_
    exact ⟨false, Option.some.inj hm, ha_.weaken ⟨rfl, trivial⟩, hs_.reix [] (by decide)⟩
  have hm := hm_j4
  rintro a_ w_ ⟨yj4_4, rfl, ha_, hs_⟩
  try dsimp only at hm
  refine a_start ha_ hs_ ?_
  refine a_then ?_
  refine a_ret ?_
  refine a_done (v := .bool yj4_4) (.inl rfl) rfl ?_ ?_
  · intro a_ w_ ha_ hs_; exact run_results (P := Tryd.prog) (fn := Tryd.f15) (rs := [.tmp 4]) (vs := [.bool yj4_4]) rfl (.cons (rv_tmp ha_ rfl) (All2.nil))
  · intro _ _; obtain rfl := Option.some.inj hm
    rfl
end Go.Lu
