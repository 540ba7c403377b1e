/- Of each further function that the law TunnelTrue reaches, part 1: what it computes, and the walk that shows it. -/
import Derived.Test.YtbcabikaaadiiaaDoorLuW3
namespace Go.Lu
open Go Go.Proofs
set_option linter.unusedVariables false
set_option maxRecDepth 100000
set_option maxHeartbeats 8000000
def ref00_Fits (k : Nat) (p0 : Int) (p1 : Int) (p2 : Int) : Option Bool :=
 (bif decide (p1 ≤ p0) then
 some ((decide (p0 ≤ p2)))
 else
 some (false)).bind fun yj1_6 =>
 some (yj1_6)
theorem ok_50 {k : Nat} {H : Hp} {w : World} {p0 : Int} {p1 : Int} {p2 : Int} {r : Bool} (hsub : Sub H w)  (hm : ref00_Fits k p0 p1 p2 = some r) : Calls Tryd.prog 50 [.int .i64 p0, .int .i64 p1, .int .i64 p2].toArray w (PostV w H (.bool r)) := by
  unfold ref00_Fits at hm
  refine start (n := 15) (E := [(0, .int .i64 p0), (1, .int .i64 p1), (2, .int .i64 p2)]) Tryd.func50 rfl rfl ⟨rfl, rfl, rfl, trivial⟩ rfl hsub ?_
  refine a_seq ?_
  refine a_region rfl ?_
  refine ap (y_assign rfl) ?_
  refine a_nil ?_
  refine a_en [(0, .int .i64 p0), (1, .int .i64 p1), (2, .int .i64 p2)] ?_
  refine a_then ?_
  refine a_seq ?_
  obtain ⟨s_j1, hs_j1, hm_j1⟩ := bind_some hm
  refine a_join (fun a_ w_ => ∃ (yj1_6 : Bool), yj1_6 = s_j1 ∧ Ag 15 [] [(6, .bool yj1_6)] a_ ∧ St (Kp.mk w H noX) H [] w_) ?_ ?_
  · have hm := hs_j1
    refine a_region rfl ?_
    refine ap (y_move rfl) ?_
    refine ap (y_move rfl) ?_
    refine ap (y_leq rfl rfl) ?_
    refine ap (y_move rfl) ?_
    rcases Bool.eq_false_or_eq_true (decide (p1 ≤ p0)) with k1_4 | k1_4
    · have hm := cond_t k1_4 hm
      refine ag ⟨_, _, rfl, rfl, k1_4⟩ (y_move rfl) ?_
      refine ag ⟨_, _, rfl, rfl, k1_4⟩ (y_move rfl) ?_
      refine ag ⟨_, _, rfl, rfl, k1_4⟩ (y_leq rfl rfl) ?_
      refine ap (y_pick_t rfl k1_4 rfl) ?_
      refine ap (y_assign rfl) ?_
      refine a_nil ?_
      refine a_en [(6, .bool (decide (p0 ≤ p2)))] ?_
      refine a_cut ?_
      intro a_ w_ ha_ hs_
      exact ⟨decide (p0 ≤ p2), Option.some.inj hm, ha_.weaken ⟨rfl, trivial⟩, hs_.reix [] (by decide)⟩
    have hm := cond_f k1_4 hm
    refine as1 (sk1 rfl rfl k1_4) ?_
    refine as1 (sk1 rfl rfl k1_4) ?_
    refine as1 (sk1 rfl rfl k1_4) ?_
    refine ap (y_pick_f rfl k1_4 rfl) ?_
    refine ap (y_assign rfl) ?_
    refine a_nil ?_
    refine a_en [(6, .bool false)] ?_
    refine a_cut ?_
    intro a_ w_ ha_ hs_
    exact ⟨false, Option.some.inj hm, ha_.weaken ⟨rfl, trivial⟩, hs_.reix [] (by decide)⟩
  have hm := hm_j1
  rintro a_ w_ ⟨yj1_6, rfl, ha_, hs_⟩
  try dsimp only at hm
  refine a_start ha_ hs_ ?_
  refine a_then ?_
  refine a_ret ?_
  refine a_done (v := .bool yj1_6) (.inl rfl) rfl ?_ ?_
  · intro a_ w_ ha_ hs_; exact run_results (P := Tryd.prog) (fn := Tryd.f50) (rs := [.tmp 6]) (vs := [.bool yj1_6]) rfl (.cons (rv_tmp ha_ rfl) (All2.nil))
  · intro _ _; obtain rfl := Option.some.inj hm
    rfl

def ref00_Right (k : Nat) (p0 : Span) (p1 : Int) (p2 : Int) : Option Bool :=
 (bif decide (p1 ≤ p0.Low) then
 bif decide (p0.Low ≤ p0.High) then
 some ((decide (p0.High ≤ p2)))
 else
 some (false)
 else
 some (false)).bind fun yj1_6 =>
 some (yj1_6)
theorem ok_87 {k : Nat} {H : Hp} {w : World} {p0 : Span} {p1 : Int} {p2 : Int} {c0 : List Value} {r : Bool} (hsub : Sub H w) (h0 : Rp.rep (α := Span) H c0 p0) (hm : ref00_Right k p0 p1 p2 = some r) : Calls Tryd.prog 87 [.agg c0.toArray, .int .i64 p1, .int .i64 p2].toArray w (PostV w H (.bool r)) := by
  unfold ref00_Right at hm
  refine start (n := 24) (E := [(0, .agg c0.toArray), (1, .int .i64 p1), (2, .int .i64 p2)]) Tryd.func87 rfl rfl ⟨rfl, rfl, rfl, trivial⟩ rfl hsub ?_
  refine a_seq ?_
  refine a_region rfl ?_
  refine a_cons (e_box (cs := c0) trivial rfl rfl rfl ?_)
  intro b0_0
  refine ap (y_assign rfl) ?_
  refine a_nil ?_
  refine a_freeze (α := Span) (x := p0) (i := 0) rfl h0 ?_
  intro Hb0_0 lb0_0 hb0_0
  have h0 := Rp.mono lb0_0 h0
  refine a_en [(1, .int .i64 p1), (2, .int .i64 p2), (3, .pointer (some ⟨b0_0, 0, none⟩))] ?_
  refine a_own [] (by decide) (L' := []) rfl ?_
  refine a_then ?_
  refine a_seq ?_
  obtain ⟨s_j1, hs_j1, hm_j1⟩ := bind_some hm
  refine a_join (fun a_ w_ => ∃ (yj1_6 : Bool), yj1_6 = s_j1 ∧ Ag 24 [] [(6, .bool yj1_6)] a_ ∧ St (Kp.mk w H noX) Hb0_0 [] w_) ?_ ?_
  · have hm := hs_j1
    refine a_region rfl ?_
    refine ap (y_move rfl) ?_
    have h1_1 := Span.at_Low hb0_0
    refine ap (y_fieldAddr fo32_0 rfl) ?_
    refine ap (y_load_int ty3 rfl (fun _ h => h.sub) rfl h1_1) ?_
    refine ap (y_leq rfl rfl) ?_
    refine ap (y_move rfl) ?_
    rcases Bool.eq_false_or_eq_true (decide (p1 ≤ p0.Low)) with k1_5 | k1_5
    · have hm := cond_t k1_5 hm
      have h1_5 := Span.at_Low hb0_0
      refine ag ⟨_, _, rfl, rfl, k1_5⟩ (y_fieldAddr fo32_0 rfl) ?_
      refine ag ⟨_, _, rfl, rfl, k1_5⟩ (y_load_int ty3 rfl (fun _ h => h.sub) rfl h1_5) ?_
      have h1_7 := Span.at_High hb0_0
      refine ag ⟨_, _, rfl, rfl, k1_5⟩ (y_fieldAddr fo32_1 rfl) ?_
      refine ag ⟨_, _, rfl, rfl, k1_5⟩ (y_load_int ty3 rfl (fun _ h => h.sub) rfl h1_7) ?_
      refine ag ⟨_, _, rfl, rfl, k1_5⟩ (y_leq rfl rfl) ?_
      refine ap (y_pick_t rfl k1_5 rfl) ?_
      refine ap (y_move rfl) ?_
      rcases Bool.eq_false_or_eq_true (decide (p0.Low ≤ p0.High)) with k1_12 | k1_12
      · have hm := cond_t k1_12 hm
        have h1_12 := Span.at_High hb0_0
        refine ag ⟨_, _, rfl, rfl, k1_12⟩ (y_fieldAddr fo32_1 rfl) ?_
        refine ag ⟨_, _, rfl, rfl, k1_12⟩ (y_load_int ty3 rfl (fun _ h => h.sub) rfl h1_12) ?_
        refine ag ⟨_, _, rfl, rfl, k1_12⟩ (y_move rfl) ?_
        refine ag ⟨_, _, rfl, rfl, k1_12⟩ (y_leq rfl rfl) ?_
        refine ap (y_pick_t rfl k1_12 rfl) ?_
        refine ap (y_assign rfl) ?_
        refine a_nil ?_
        refine a_en [(6, .bool (decide (p0.High ≤ p2)))] ?_
        refine a_cut ?_
        intro a_ w_ ha_ hs_
        exact ⟨decide (p0.High ≤ p2), Option.some.inj hm, ha_.weaken ⟨rfl, trivial⟩, hs_.reix [] (by decide)⟩
      have hm := cond_f k1_12 hm
      refine as1 (sk1 rfl rfl k1_12) ?_
      refine as1 (sk1 rfl rfl k1_12) ?_
      refine as1 (sk1 rfl rfl k1_12) ?_
      refine as1 (sk1 rfl rfl k1_12) ?_
      refine ap (y_pick_f rfl k1_12 rfl) ?_
      refine ap (y_assign rfl) ?_
      refine a_nil ?_
      refine a_en [(6, .bool false)] ?_
      refine a_cut ?_
      intro a_ w_ ha_ hs_
      exact ⟨false, Option.some.inj hm, ha_.weaken ⟨rfl, trivial⟩, hs_.reix [] (by decide)⟩
    have hm := cond_f k1_5 hm
    refine as1 (sk1 rfl rfl k1_5) ?_
    refine as1 (sk1 rfl rfl k1_5) ?_
    refine as1 (sk1 rfl rfl k1_5) ?_
    refine as1 (sk1 rfl rfl k1_5) ?_
    refine as1 (sk1 rfl rfl k1_5) ?_
    refine ap (y_pick_f rfl k1_5 rfl) ?_
    refine ap (y_move rfl) ?_
    refine as1 (sk1 rfl rfl rfl) ?_
    refine as1 (sk1 rfl rfl rfl) ?_
    refine as1 (sk1 rfl rfl rfl) ?_
    refine as1 (sk1 rfl rfl rfl) ?_
    refine ap (y_pick_f rfl rfl rfl) ?_
    refine ap (y_assign rfl) ?_
    refine a_nil ?_
    refine a_en [(6, .bool false)] ?_
    refine a_cut ?_
    intro a_ w_ ha_ hs_
    exact ⟨false, Option.some.inj hm, ha_.weaken ⟨rfl, trivial⟩, hs_.reix [] (by decide)⟩
  have hm := hm_j1
  rintro a_ w_ ⟨yj1_6, rfl, ha_, hs_⟩
  try dsimp only at hm
  refine a_start ha_ hs_ ?_
  refine a_then ?_
  refine a_ret ?_
  refine a_done (v := .bool yj1_6) (.inl rfl) rfl ?_ ?_
  · intro a_ w_ ha_ hs_; exact run_results (P := Tryd.prog) (fn := Tryd.f87) (rs := [.tmp 6]) (vs := [.bool yj1_6]) rfl (.cons (rv_tmp ha_ rfl) (All2.nil))
  · intro _ _; obtain rfl := Option.some.inj hm
    rfl

def law03_sound_lj8 (k : Nat) (x5_3 : TunnelPart) : Nat → Bool → Int → Option Bool
 | 0, _, _ => none
 | n_j8 + 1, yj8_3, yj8_6 =>
 bif decide (yj8_6 ≤ 3) then
 (bif yj8_3 then
 (nth x5_3.Heat yj8_6).bind fun x10_4 =>
 (ref00_Fits k x10_4 0 20).bind fun x10_6 =>
 some (x10_6)
 else
 some (false)).bind fun yj10_3 =>
 law03_sound_lj8 k x5_3 n_j8 yj10_3 (IntKind.i64.wrap (yj8_6 + 1))
 else
 some (yj8_3)
def law03_sound_lj3 (k : Nat) (p0 : TunnelBook) : Nat → Bool → Int → Option Bool
 | 0, _, _ => none
 | n_j3 + 1, yj3_3, yj3_4 =>
 (bif yj3_3 then
 some ((decide (yj3_4 < (p0.Parts.length : Int))))
 else
 some (false)).bind fun yj4_32 =>
 bif yj4_32 then
 (nth p0.Parts yj3_4).bind fun x5_3 =>
 ((ref00_Right k x5_3.Damp 0 20).bind fun x6_2 =>
 bif x6_2 then
 some ((decide ((IntKind.i64.wrap (x5_3.Damp.High - x5_3.Damp.Low)) ≤ 3)))
 else
 some (false)).bind fun yj6_3 =>
 (law03_sound_lj8 k x5_3 k yj6_3 0).bind fun yj7_3 =>
 law03_sound_lj3 k p0 n_j3 yj7_3 (IntKind.i64.wrap (yj3_4 + 1))
 else
 some (yj3_3)
def law03_sound_lj17 (k : Nat) (x14_3 : TunnelFrame) : Nat → Bool → Int → Option Bool
 | 0, _, _ => none
 | n_j17 + 1, yj17_3, yj17_9 =>
 (bif yj17_3 then
 some ((decide (yj17_9 < (x14_3.Stay.length : Int))))
 else
 some (false)).bind fun yj18_99 =>
 bif yj18_99 then
 (nth x14_3.Stay yj17_9).bind fun x19_3 =>
 (ref00_Fits k x19_3 0 20).bind fun x19_5 =>
 law03_sound_lj17 k x14_3 n_j17 x19_5 (IntKind.i64.wrap (yj17_9 + 1))
 else
 some (yj17_3)
def law03_sound_lj12 (k : Nat) (p0 : TunnelBook) : Nat → Bool → Int → Option Bool
 | 0, _, _ => none
 | n_j12 + 1, yj12_3, yj12_7 =>
 (bif yj12_3 then
 some ((decide (yj12_7 < (p0.Frames.length : Int))))
 else
 some (false)).bind fun yj13_72 =>
 bif yj13_72 then
 (nth p0.Frames yj12_7).bind fun x14_3 =>
 (bif (x14_3.Stay.length : Int) == (p0.Parts.length : Int) then
 (ref00_Right k x14_3.Need 0 999).bind fun x15_10 =>
 some (x15_10)
 else
 some (false)).bind fun yj15_3 =>
 (law03_sound_lj17 k x14_3 k yj15_3 0).bind fun yj16_3 =>
 law03_sound_lj12 k p0 n_j12 yj16_3 (IntKind.i64.wrap (yj12_7 + 1))
 else
 some (yj12_3)
def law03_sound (k : Nat) (p0 : TunnelBook) : Option Bool :=
 ((tunnel_Check k p0).bind fun x1_1 =>
 bif x1_1 == 0 then
 (ref00_Fits k (p0.Parts.length : Int) 1 4).bind fun x1_7 =>
 bif x1_7 then
 some ((decide ((p0.Frames.length : Int) ≤ 5)))
 else
 some (false)
 else
 some (false)).bind fun yj1_3 =>
 (law03_sound_lj3 k p0 k yj1_3 0).bind fun yj2_3 =>
 (law03_sound_lj12 k p0 k yj2_3 0).bind fun yj11_3 =>
 some (yj11_3)
theorem ok_43 {k : Nat} {H : Hp} {w : World} {p0 : TunnelBook} {c0 : List Value} {r : Bool} (hsub : Sub H w) (h0 : Rp.rep (α := TunnelBook) H c0 p0) (hm : law03_sound k p0 = some r) : Calls Tryd.prog 43 [.agg c0.toArray].toArray w (PostV w H (.bool r)) := by
  unfold law03_sound at hm
  refine start (n := 109) (E := [(0, .agg c0.toArray)]) Tryd.func43 rfl rfl ⟨rfl, trivial⟩ rfl hsub ?_
  refine a_seq ?_
  refine a_region rfl ?_
  refine a_cons (e_box (cs := c0) trivial rfl rfl rfl ?_)
  intro b0_0
  refine ap (y_assign rfl) ?_
  refine a_nil ?_
  refine a_freeze (α := TunnelBook) (x := p0) (i := 0) rfl h0 ?_
  intro Hb0_0 lb0_0 hb0_0
  have h0 := Rp.mono lb0_0 h0
  refine a_en [(1, .pointer (some ⟨b0_0, 0, none⟩))] ?_
  refine a_own [] (by decide) (L' := []) rfl ?_
  refine a_then ?_
  refine a_seq ?_
  obtain ⟨s_j1, hs_j1, hm_j1⟩ := bind_some hm
  refine a_join (fun a_ w_ => ∃ (yj1_3 : Bool), yj1_3 = s_j1 ∧ Ag 109 [] [(1, .pointer (some ⟨b0_0, 0, none⟩)), (3, .bool yj1_3)] a_ ∧ St (Kp.mk w H noX) Hb0_0 [] w_) ?_ ?_
  · have hm := hs_j1
    refine a_region rfl ?_
    obtain ⟨u1_0, h1_0, c1_0⟩ := PAt.one hb0_0
    refine ap (y_load_cells ty25 rfl (fun _ h => h.sub) rfl c1_0 (Rp.len h1_0)) ?_
    obtain ⟨x1_1, q1_1, hm⟩ := bind_some hm
    refine a_cons (e_callV (all := [.agg u1_0.toArray]) (v := .int .i64 x1_1) trivial rfl Tryd.func21 rfl rfl rfl rfl rfl (fun w hw => ok_21 hw h1_0 q1_1) ?_)
    refine ap (y_eql rfl rfl) ?_
    refine ap (y_move rfl) ?_
    rcases Bool.eq_false_or_eq_true (x1_1 == 0) with k1_4 | k1_4
    · have hm := cond_t k1_4 hm
      have h1_4 := TunnelBook.at_Parts hb0_0
      refine ag ⟨_, _, rfl, rfl, k1_4⟩ (y_fieldAddr fo25_0 rfl) ?_
      obtain ⟨v1_5, h1_5, c1_5⟩ := PAt.sl h1_4
      refine ag ⟨_, _, rfl, rfl, k1_4⟩ (y_load_one ty22 rfl (fun _ h => h.sub) rfl c1_5) ?_
      refine ag ⟨_, _, rfl, rfl, k1_4⟩ (y_len_sl Tryd.underlying22 rfl h1_5) ?_
      obtain ⟨x1_7, q1_7, hm⟩ := bind_some hm
      refine a_cons (e_callV (all := [.int .i64 (p0.Parts.length : Int), .int .i64 1, .int .i64 4]) (v := .bool x1_7) ⟨_, _, rfl, rfl, k1_4⟩ rfl Tryd.func50 rfl rfl rfl rfl rfl (fun w hw => ok_50 hw q1_7) ?_)
      refine ap (y_pick_t rfl k1_4 rfl) ?_
      refine ap (y_move rfl) ?_
      rcases Bool.eq_false_or_eq_true (x1_7) with k1_10 | k1_10
      · have hm := cond_t k1_10 hm
        have h1_10 := TunnelBook.at_Frames hb0_0
        refine ag ⟨_, _, rfl, rfl, k1_10⟩ (y_fieldAddr fo25_1 rfl) ?_
        obtain ⟨v1_11, h1_11, c1_11⟩ := PAt.sl h1_10
        refine ag ⟨_, _, rfl, rfl, k1_10⟩ (y_load_one ty23 rfl (fun _ h => h.sub) rfl c1_11) ?_
        refine ag ⟨_, _, rfl, rfl, k1_10⟩ (y_len_sl Tryd.underlying23 rfl h1_11) ?_
        refine ag ⟨_, _, rfl, rfl, k1_10⟩ (y_leq rfl rfl) ?_
        refine ap (y_pick_t rfl k1_10 rfl) ?_
        refine ap (y_assign rfl) ?_
        refine a_nil ?_
        refine a_en [(1, .pointer (some ⟨b0_0, 0, none⟩)), (3, .bool (decide ((p0.Frames.length : Int) ≤ 5)))] ?_
        refine a_cut ?_
        intro a_ w_ ha_ hs_
        exact ⟨decide ((p0.Frames.length : Int) ≤ 5), Option.some.inj hm, ha_.weaken ⟨rfl, rfl, trivial⟩, hs_.reix [] (by decide)⟩
      have hm := cond_f k1_10 hm
      refine as1 (sk1 rfl rfl k1_10) ?_
      refine as1 (sk1 rfl rfl k1_10) ?_
      refine as1 (sk1 rfl rfl k1_10) ?_
      refine as1 (sk1 rfl rfl k1_10) ?_
      refine ap (y_pick_f rfl k1_10 rfl) ?_
      refine ap (y_assign rfl) ?_
      refine a_nil ?_
      refine a_en [(1, .pointer (some ⟨b0_0, 0, none⟩)), (3, .bool false)] ?_
      refine a_cut ?_
      intro a_ w_ ha_ hs_
      exact ⟨false, Option.some.inj hm, ha_.weaken ⟨rfl, rfl, trivial⟩, hs_.reix [] (by decide)⟩
    have hm := cond_f k1_4 hm
    refine as1 (sk1 rfl rfl k1_4) ?_
    refine as1 (sk1 rfl rfl k1_4) ?_
    refine as1 (sk1 rfl rfl k1_4) ?_
    refine as1 (sk1 rfl rfl k1_4) ?_
    refine ap (y_pick_f rfl k1_4 rfl) ?_
    refine ap (y_move rfl) ?_
    refine as1 (sk1 rfl rfl rfl) ?_
    refine as1 (sk1 rfl rfl rfl) ?_
    refine as1 (sk1 rfl rfl rfl) ?_
    refine as1 (sk1 rfl rfl rfl) ?_
    refine ap (y_pick_f rfl rfl rfl) ?_
    refine ap (y_assign rfl) ?_
    refine a_nil ?_
    refine a_en [(1, .pointer (some ⟨b0_0, 0, none⟩)), (3, .bool false)] ?_
    refine a_cut ?_
    intro a_ w_ ha_ hs_
    exact ⟨false, Option.some.inj hm, ha_.weaken ⟨rfl, rfl, trivial⟩, hs_.reix [] (by decide)⟩
  have hm := hm_j1
  rintro a_ w_ ⟨yj1_3, rfl, ha_, hs_⟩
  try dsimp only at hm
  refine a_start ha_ hs_ ?_
  refine a_then ?_
  refine a_seq ?_
  refine a_seq ?_
  refine a_region rfl ?_
  refine ap (y_assign rfl) ?_
  refine a_nil ?_
  refine a_then ?_
  obtain ⟨s_j2, hs_j2, hm_j2⟩ := bind_some hm
  refine a_join (fun a_ w_ => ∃ (Hj2 : Hp), ∃ (_ : HLe Hb0_0 Hj2), ∃ (yj2_3 : Bool), yj2_3 = s_j2 ∧ Ag 109 [] [(1, .pointer (some ⟨b0_0, 0, none⟩)), (3, .bool yj2_3)] a_ ∧ St (Kp.mk w H noX) Hj2 [] w_) ?_ ?_
  · have hm := hs_j2
    refine a_block ?_
    refine a_loop (fun n_j3 a_ w_ => ∃ (Hj3 : Hp), ∃ (_ : HLe Hb0_0 Hj3), ∃ (yj3_3 : Bool), ∃ (yj3_4 : Int), law03_sound_lj3 k p0 n_j3 yj3_3 yj3_4 = some s_j2 ∧ Ag 109 [] [(1, .pointer (some ⟨b0_0, 0, none⟩)), (3, .bool yj3_3), (4, .int .i64 yj3_4)] a_ ∧ St (Kp.mk w H noX) Hj3 [] w_) k ?_ ?_
    · intro a_ w_ ha_ hs_
      exact ⟨Hb0_0, (HLe.refl _), yj1_3, 0, hm, ha_.weaken ⟨rfl, rfl, rfl, trivial⟩, hs_.reix [] (by decide)⟩
    rintro (_ | n_j3) a_ w_ ⟨Hj3, lj3, yj3_3, yj3_4, hm, ha_, hs_⟩
    · rw [law03_sound_lj3.eq_1] at hm; cases hm
    rw [law03_sound_lj3.eq_2] at hm
    refine a_start ha_ hs_ ?_
    have hb0_0 := PAt.mono lj3 hb0_0
    refine a_seq ?_
    refine a_seq ?_
    obtain ⟨s_j4, hs_j4, hm_j4⟩ := bind_some hm
    refine a_join (fun a_ w_ => ∃ (yj4_32 : Bool), yj4_32 = s_j4 ∧ Ag 109 [] [(1, .pointer (some ⟨b0_0, 0, none⟩)), (3, .bool yj3_3), (4, .int .i64 yj3_4), (32, .bool yj4_32)] a_ ∧ St (Kp.mk w H noX) Hj3 [] w_) ?_ ?_
    · have hm := hs_j4
      refine a_region rfl ?_
      refine ap (y_move rfl) ?_
      refine ap (y_move rfl) ?_
      rcases Bool.eq_false_or_eq_true (yj3_3) with k3_2 | k3_2
      · have hm := cond_t k3_2 hm
        refine ag ⟨_, _, rfl, rfl, k3_2⟩ (y_move rfl) ?_
        have h3_3 := TunnelBook.at_Parts hb0_0
        refine ag ⟨_, _, rfl, rfl, k3_2⟩ (y_fieldAddr fo25_0 rfl) ?_
        obtain ⟨v3_4, h3_4, c3_4⟩ := PAt.sl h3_3
        refine ag ⟨_, _, rfl, rfl, k3_2⟩ (y_load_one ty22 rfl (fun _ h => h.sub) rfl c3_4) ?_
        refine ag ⟨_, _, rfl, rfl, k3_2⟩ (y_len_sl Tryd.underlying22 rfl h3_4) ?_
        refine ag ⟨_, _, rfl, rfl, k3_2⟩ (y_lss rfl rfl) ?_
        refine ap (y_pick_t rfl k3_2 rfl) ?_
        refine a_nil ?_
        refine a_en [(1, .pointer (some ⟨b0_0, 0, none⟩)), (3, .bool yj3_3), (4, .int .i64 yj3_4), (27, .int .i64 yj3_4), (28, .pointer (some ⟨b0_0, 0 + 0, none⟩)), (29, v3_4), (30, .int .i64 (p0.Parts.length : Int)), (31, .bool (decide (yj3_4 < (p0.Parts.length : Int)))), (32, .bool (decide (yj3_4 < (p0.Parts.length : Int))))] ?_
        refine a_cut ?_
        intro a_ w_ ha_ hs_
        exact ⟨decide (yj3_4 < (p0.Parts.length : Int)), Option.some.inj hm, ha_.weaken ⟨rfl, rfl, rfl, rfl, trivial⟩, hs_.reix [] (by decide)⟩
      have hm := cond_f k3_2 hm
      refine as1 (sk1 rfl rfl k3_2) ?_
      refine as1 (sk1 rfl rfl k3_2) ?_
      refine as1 (sk1 rfl rfl k3_2) ?_
      refine as1 (sk1 rfl rfl k3_2) ?_
      refine as1 (sk1 rfl rfl k3_2) ?_
      refine ap (y_pick_f rfl k3_2 rfl) ?_
      refine a_nil ?_
      refine a_en [(1, .pointer (some ⟨b0_0, 0, none⟩)), (3, .bool yj3_3), (4, .int .i64 yj3_4), (27, undef), (28, undef), (29, undef), (30, undef), (31, undef), (32, .bool false)] ?_
      refine a_cut ?_
      intro a_ w_ ha_ hs_
      exact ⟨false, Option.some.inj hm, ha_.weaken ⟨rfl, rfl, rfl, rfl, trivial⟩, hs_.reix [] (by decide)⟩
    have hm := hm_j4
    rintro a_ w_ ⟨yj4_32, rfl, ha_, hs_⟩
    try dsimp only at hm
    refine a_start ha_ hs_ ?_
    refine a_then ?_
    refine a_cond rfl (fun k_5 => ?_) (fun k_5 => ?_)
    · have hm := cond_t k_5 hm
      refine a_skip ?_
      refine a_then ?_
      refine a_seq ?_
      refine a_block ?_
      refine a_seq ?_
      refine a_region rfl ?_
      have h5_0 := TunnelBook.at_Parts hb0_0
      refine ap (y_fieldAddr fo25_0 rfl) ?_
      obtain ⟨v5_1, h5_1, c5_1⟩ := PAt.sl h5_0
      refine ap (y_load_one ty22 rfl (fun _ h => h.sub) rfl c5_1) ?_
      refine ap (y_move rfl) ?_
      obtain ⟨x5_3, q5_3, hm⟩ := bind_some hm
      obtain ⟨b5_3, o5_3, c5_3, e5_3, h5_3⟩ := Sl.elemZ 6 rfl h5_1 q5_3
      refine ap (y_index Tryd.underlying22 ty64 rfl e5_3 rfl (nth_in q5_3)) ?_
      obtain ⟨u5_4, h5_4, c5_4⟩ := PAt.one h5_3
      refine ap (y_load_cells ty64 rfl (fun _ h => h.sub) rfl c5_4 (Rp.len h5_4)) ?_
      refine a_cons (e_alloc (cs := [.int .i64 0, .int .i64 0, .int .i64 0, .int .i64 0, .int .i64 0, .int .i64 0]) trivial rfl ty64 rfl ?_)
      intro b5_5
      have mz5_5 : Rp.rep (α := TunnelPart) Hj3 [.int .i64 0, .int .i64 0, .int .i64 0, .int .i64 0, .int .i64 0, .int .i64 0] (⟨[0, 0, 0, 0], ⟨0, 0⟩⟩ : TunnelPart) := ⟨_, _, rfl, ⟨(RepL.cons (c := [_]) rfl (RepL.cons (c := [_]) rfl (RepL.cons (c := [_]) rfl (RepL.cons (c := [_]) rfl RepL.nil)))), rfl⟩, ⟨_, _, rfl, rfl, rfl⟩⟩
      refine a_cons (e_storeWhole (i := 0) (ds := u5_4) trivial ty64 rfl rfl rfl rfl (Rp.len h5_4) ((Rp.one h5_4)) rfl ?_)
      refine a_nil ?_
      refine a_freeze (α := TunnelPart) (x := x5_3) (i := 0) rfl h5_4 ?_
      intro Hb5_5 lb5_5 hb5_5
      have hb0_0 := PAt.mono lb5_5 hb0_0
      have h5_0 := PAt.mono lb5_5 h5_0
      have h5_1 := Sl.mono lb5_5 h5_1
      have h5_3 := PAt.mono lb5_5 h5_3
      have h5_4 := Rp.mono lb5_5 h5_4
      refine a_en [(1, .pointer (some ⟨b0_0, 0, none⟩)), (4, .int .i64 yj3_4), (5, .pointer (some ⟨b5_5, 0, none⟩))] ?_
      refine a_own [] (by decide) (L' := []) rfl ?_
      refine a_then ?_
      refine a_seq ?_
      obtain ⟨s_j6, hs_j6, hm_j6⟩ := bind_some hm
      refine a_join (fun a_ w_ => ∃ (yj6_3 : Bool), yj6_3 = s_j6 ∧ Ag 109 [] [(1, .pointer (some ⟨b0_0, 0, none⟩)), (3, .bool yj6_3), (4, .int .i64 yj3_4), (5, .pointer (some ⟨b5_5, 0, none⟩))] a_ ∧ St (Kp.mk w H noX) Hb5_5 [] w_) ?_ ?_
      · have hm := hs_j6
        refine a_region rfl ?_
        have h6_0 := TunnelPart.at_Damp hb5_5
        refine ap (y_fieldAddr fo64_1 rfl) ?_
        obtain ⟨u6_1, h6_1, c6_1⟩ := PAt.one h6_0
        refine ap (y_load_cells ty32 rfl (fun _ h => h.sub) rfl c6_1 (Rp.len h6_1)) ?_
        obtain ⟨x6_2, q6_2, hm⟩ := bind_some hm
        refine a_cons (e_callV (all := [.agg u6_1.toArray, .int .i64 0, .int .i64 20]) (v := .bool x6_2) trivial rfl Tryd.func87 rfl rfl rfl rfl rfl (fun w hw => ok_87 hw h6_1 q6_2) ?_)
        refine ap (y_move rfl) ?_
        rcases Bool.eq_false_or_eq_true (x6_2) with k6_4 | k6_4
        · have hm := cond_t k6_4 hm
          have h6_4 := TunnelPart.at_Damp hb5_5
          refine ag ⟨_, _, rfl, rfl, k6_4⟩ (y_fieldAddr fo64_1 rfl) ?_
          have h6_5 := Span.at_High h6_4
          refine ag ⟨_, _, rfl, rfl, k6_4⟩ (y_fieldAddr fo32_1 rfl) ?_
          refine ag ⟨_, _, rfl, rfl, k6_4⟩ (y_load_int ty3 rfl (fun _ h => h.sub) rfl h6_5) ?_
          have h6_7 := TunnelPart.at_Damp hb5_5
          refine ag ⟨_, _, rfl, rfl, k6_4⟩ (y_fieldAddr fo64_1 rfl) ?_
          have h6_8 := Span.at_Low h6_7
          refine ag ⟨_, _, rfl, rfl, k6_4⟩ (y_fieldAddr fo32_0 rfl) ?_
          refine ag ⟨_, _, rfl, rfl, k6_4⟩ (y_load_int ty3 rfl (fun _ h => h.sub) rfl h6_8) ?_
          refine ag ⟨_, _, rfl, rfl, k6_4⟩ (y_sub rfl rfl) ?_
          refine ag ⟨_, _, rfl, rfl, k6_4⟩ (y_leq rfl rfl) ?_
          refine ap (y_pick_t rfl k6_4 rfl) ?_
          refine ap (y_assign rfl) ?_
          refine a_nil ?_
          refine a_en [(1, .pointer (some ⟨b0_0, 0, none⟩)), (3, .bool (decide ((IntKind.i64.wrap (x5_3.Damp.High - x5_3.Damp.Low)) ≤ 3))), (4, .int .i64 yj3_4), (5, .pointer (some ⟨b5_5, 0, none⟩)), (44, .pointer (some ⟨b5_5, 0 + 4, none⟩)), (45, .pointer (some ⟨b5_5, 0 + 4 + 1, none⟩)), (46, .int .i64 x5_3.Damp.High), (47, .pointer (some ⟨b5_5, 0 + 4, none⟩)), (48, .pointer (some ⟨b5_5, 0 + 4 + 0, none⟩)), (49, .int .i64 x5_3.Damp.Low), (50, .int .i64 (IntKind.i64.wrap (x5_3.Damp.High - x5_3.Damp.Low))), (51, .bool (decide ((IntKind.i64.wrap (x5_3.Damp.High - x5_3.Damp.Low)) ≤ 3)))] ?_
          refine a_cut ?_
          intro a_ w_ ha_ hs_
          exact ⟨decide ((IntKind.i64.wrap (x5_3.Damp.High - x5_3.Damp.Low)) ≤ 3), Option.some.inj hm, ha_.weaken ⟨rfl, rfl, rfl, rfl, trivial⟩, hs_.reix [] (by decide)⟩
        have hm := cond_f k6_4 hm
        refine as1 (sk1 rfl rfl k6_4) ?_
        refine as1 (sk1 rfl rfl k6_4) ?_
        refine as1 (sk1 rfl rfl k6_4) ?_
        refine as1 (sk1 rfl rfl k6_4) ?_
        refine as1 (sk1 rfl rfl k6_4) ?_
        refine as1 (sk1 rfl rfl k6_4) ?_
        refine as1 (sk1 rfl rfl k6_4) ?_
        refine as1 (sk1 rfl rfl k6_4) ?_
        refine ap (y_pick_f rfl k6_4 rfl) ?_
        refine ap (y_assign rfl) ?_
        refine a_nil ?_
        refine a_en [(1, .pointer (some ⟨b0_0, 0, none⟩)), (3, .bool false), (4, .int .i64 yj3_4), (5, .pointer (some ⟨b5_5, 0, none⟩)), (44, undef), (45, undef), (46, undef), (47, undef), (48, undef), (49, undef), (50, undef), (51, undef)] ?_
        refine a_cut ?_
        intro a_ w_ ha_ hs_
        exact ⟨false, Option.some.inj hm, ha_.weaken ⟨rfl, rfl, rfl, rfl, trivial⟩, hs_.reix [] (by decide)⟩
      have hm := hm_j6
      rintro a_ w_ ⟨yj6_3, rfl, ha_, hs_⟩
      try dsimp only at hm
      refine a_start ha_ hs_ ?_
      refine a_then ?_
      refine a_seq ?_
      refine a_region rfl ?_
      refine ap (y_assign rfl) ?_
      refine a_nil ?_
      refine a_then ?_
      obtain ⟨s_j7, hs_j7, hm_j7⟩ := bind_some hm
      refine a_join (fun a_ w_ => ∃ (yj7_3 : Bool), yj7_3 = s_j7 ∧ Ag 109 [] [(1, .pointer (some ⟨b0_0, 0, none⟩)), (3, .bool yj7_3), (4, .int .i64 yj3_4)] a_ ∧ St (Kp.mk w H noX) Hb5_5 [] w_) ?_ ?_
      · have hm := hs_j7
        refine a_block ?_
        refine a_loop (fun n_j8 a_ w_ => ∃ (yj8_3 : Bool), ∃ (yj8_6 : Int), law03_sound_lj8 k x5_3 n_j8 yj8_3 yj8_6 = some s_j7 ∧ Ag 109 [] [(1, .pointer (some ⟨b0_0, 0, none⟩)), (3, .bool yj8_3), (4, .int .i64 yj3_4), (5, .pointer (some ⟨b5_5, 0, none⟩)), (6, .int .i64 yj8_6)] a_ ∧ St (Kp.mk w H noX) Hb5_5 [] w_) k ?_ ?_
        · intro a_ w_ ha_ hs_
          exact ⟨yj6_3, 0, hm, ha_.weaken ⟨rfl, rfl, rfl, rfl, rfl, trivial⟩, hs_.reix [] (by decide)⟩
        rintro (_ | n_j8) a_ w_ ⟨yj8_3, yj8_6, hm, ha_, hs_⟩
        · rw [law03_sound_lj8.eq_1] at hm; cases hm
        rw [law03_sound_lj8.eq_2] at hm
        refine a_start ha_ hs_ ?_
        refine a_seq ?_
        refine a_seq ?_
        refine a_region rfl ?_
        refine ap (y_move rfl) ?_
        refine ap (y_leq rfl rfl) ?_
        refine a_nil ?_
        refine a_en [(1, .pointer (some ⟨b0_0, 0, none⟩)), (3, .bool yj8_3), (4, .int .i64 yj3_4), (5, .pointer (some ⟨b5_5, 0, none⟩)), (6, .int .i64 yj8_6), (54, .bool (decide (yj8_6 ≤ 3)))] ?_
        refine a_then ?_
        refine a_cond rfl (fun k_9 => ?_) (fun k_9 => ?_)
        · have hm := cond_t k_9 hm
          refine a_skip ?_
          refine a_then ?_
          refine a_seq ?_
          refine a_block ?_
          obtain ⟨s_j10, hs_j10, hm_j10⟩ := bind_some hm
          refine a_join (fun a_ w_ => ∃ (yj10_3 : Bool), yj10_3 = s_j10 ∧ Ag 109 [] [(1, .pointer (some ⟨b0_0, 0, none⟩)), (3, .bool yj10_3), (4, .int .i64 yj3_4), (5, .pointer (some ⟨b5_5, 0, none⟩)), (6, .int .i64 yj8_6)] a_ ∧ St (Kp.mk w H noX) Hb5_5 [] w_) ?_ ?_
          · have hm := hs_j10
            refine a_region rfl ?_
            refine ap (y_move rfl) ?_
            refine ap (y_move rfl) ?_
            rcases Bool.eq_false_or_eq_true (yj8_3) with k10_2 | k10_2
            · have hm := cond_t k10_2 hm
              refine ag ⟨_, _, rfl, rfl, k10_2⟩ (y_move rfl) ?_
              have h10_3 := TunnelPart.at_Heat hb5_5
              refine ag ⟨_, _, rfl, rfl, k10_2⟩ (y_fieldAddr fo64_0 rfl) ?_
              obtain ⟨x10_4, q10_4, hm⟩ := bind_some hm
              have h10_4 := PAt.arrZ 1 rfl h10_3 q10_4
              have k10_4 := PAt.arrIn h10_3 q10_4
              refine ag ⟨_, _, rfl, rfl, k10_2⟩ (y_index_arrp Tryd.underlying62 ty3 rfl rfl k10_4) ?_
              refine ag ⟨_, _, rfl, rfl, k10_2⟩ (y_load_int ty3 rfl (fun _ h => h.sub) rfl h10_4) ?_
              obtain ⟨x10_6, q10_6, hm⟩ := bind_some hm
              refine a_cons (e_callV (all := [.int .i64 x10_4, .int .i64 0, .int .i64 20]) (v := .bool x10_6) ⟨_, _, rfl, rfl, k10_2⟩ rfl Tryd.func50 rfl rfl rfl rfl rfl (fun w hw => ok_50 hw q10_6) ?_)
              refine ap (y_pick_t rfl k10_2 rfl) ?_
              refine ap (y_assign rfl) ?_
              refine a_nil ?_
              refine a_en [(1, .pointer (some ⟨b0_0, 0, none⟩)), (3, .bool x10_6), (4, .int .i64 yj3_4), (5, .pointer (some ⟨b5_5, 0, none⟩)), (6, .int .i64 yj8_6), (59, .int .i64 yj8_6), (60, .pointer (some ⟨b5_5, 0 + 0, none⟩)), (61, .pointer (some ⟨b5_5, 0 + 0 + (yj8_6).toNat * 1, none⟩)), (62, .int .i64 x10_4), (63, .bool x10_6)] ?_
              refine a_cut ?_
              intro a_ w_ ha_ hs_
              exact ⟨x10_6, Option.some.inj hm, ha_.weaken ⟨rfl, rfl, rfl, rfl, rfl, trivial⟩, hs_.reix [] (by decide)⟩
            have hm := cond_f k10_2 hm
            refine as1 (sk1 rfl rfl k10_2) ?_
            refine as1 (sk1 rfl rfl k10_2) ?_
            refine as1 (sk1 rfl rfl k10_2) ?_
            refine as1 (sk1 rfl rfl k10_2) ?_
            refine as1 (sk1 rfl rfl k10_2) ?_
            refine ap (y_pick_f rfl k10_2 rfl) ?_
            refine ap (y_assign rfl) ?_
            refine a_nil ?_
            refine a_en [(1, .pointer (some ⟨b0_0, 0, none⟩)), (3, .bool false), (4, .int .i64 yj3_4), (5, .pointer (some ⟨b5_5, 0, none⟩)), (6, .int .i64 yj8_6), (59, undef), (60, undef), (61, undef), (62, undef), (63, undef)] ?_
            refine a_cut ?_
            intro a_ w_ ha_ hs_
            exact ⟨false, Option.some.inj hm, ha_.weaken ⟨rfl, rfl, rfl, rfl, rfl, trivial⟩, hs_.reix [] (by decide)⟩
          have hm := hm_j10
          rintro a_ w_ ⟨yj10_3, rfl, ha_, hs_⟩
          try dsimp only at hm
          refine a_start ha_ hs_ ?_
          refine a_block_normal ?_
          refine a_then ?_
          refine a_region rfl ?_
          refine ap (y_move rfl) ?_
          refine ap (y_add rfl rfl) ?_
          refine ap (y_assign rfl) ?_
          refine a_nil ?_
          refine a_en [(1, .pointer (some ⟨b0_0, 0, none⟩)), (3, .bool yj10_3), (4, .int .i64 yj3_4), (5, .pointer (some ⟨b5_5, 0, none⟩)), (6, .int .i64 (IntKind.i64.wrap (yj8_6 + 1)))] ?_
          refine a_then ?_
          intro a_ w_ ha_ hs_
          exact ⟨n_j8, Nat.lt_succ_self _, yj10_3, IntKind.i64.wrap (yj8_6 + 1), hm, ha_.weaken ⟨rfl, rfl, rfl, rfl, rfl, trivial⟩, hs_.reix [] (by decide)⟩
        have hm := cond_f k_9 hm
        refine a_exit ?_
        refine a_then_exit ?_
        refine a_then_exit ?_
        refine a_block_hit ?_
        refine a_cut ?_
        intro a_ w_ ha_ hs_
        exact ⟨yj8_3, Option.some.inj hm, ha_.weaken ⟨rfl, rfl, rfl, trivial⟩, hs_.reix [] (by decide)⟩
      have hm := hm_j7
      rintro a_ w_ ⟨yj7_3, rfl, ha_, hs_⟩
      try dsimp only at hm
      refine a_start ha_ hs_ ?_
      refine a_block_normal ?_
      refine a_then ?_
      refine a_region rfl ?_
      refine ap (y_move rfl) ?_
      refine ap (y_add rfl rfl) ?_
      refine ap (y_assign rfl) ?_
      refine a_nil ?_
      refine a_en [(1, .pointer (some ⟨b0_0, 0, none⟩)), (3, .bool yj7_3), (4, .int .i64 (IntKind.i64.wrap (yj3_4 + 1)))] ?_
      refine a_then ?_
      intro a_ w_ ha_ hs_
      exact ⟨n_j3, Nat.lt_succ_self _, Hb5_5, (lj3.trans lb5_5), yj7_3, IntKind.i64.wrap (yj3_4 + 1), hm, ha_.weaken ⟨rfl, rfl, rfl, trivial⟩, hs_.reix [] (by decide)⟩
    have hm := cond_f k_5 hm
    refine a_exit ?_
    refine a_then_exit ?_
    refine a_then_exit ?_
    refine a_block_hit ?_
    refine a_cut ?_
    intro a_ w_ ha_ hs_
    exact ⟨Hj3, lj3, yj3_3, Option.some.inj hm, ha_.weaken ⟨rfl, rfl, trivial⟩, hs_.reix [] (by decide)⟩
  have hm := hm_j2
  rintro a_ w_ ⟨Hj2, lj2, yj2_3, rfl, ha_, hs_⟩
  try dsimp only at hm
  refine a_start ha_ hs_ ?_
  have hb0_0 := PAt.mono lj2 hb0_0
  refine a_then ?_
  refine a_seq ?_
  refine a_seq ?_
  refine a_region rfl ?_
  refine ap (y_assign rfl) ?_
  refine a_nil ?_
  refine a_then ?_
  obtain ⟨s_j11, hs_j11, hm_j11⟩ := bind_some hm
  refine a_join (fun a_ w_ => ∃ (Hj11 : Hp), ∃ (_ : HLe Hj2 Hj11), ∃ (yj11_3 : Bool), yj11_3 = s_j11 ∧ Ag 109 [] [(3, .bool yj11_3)] a_ ∧ St (Kp.mk w H noX) Hj11 [] w_) ?_ ?_
  · have hm := hs_j11
    refine a_block ?_
    refine a_loop (fun n_j12 a_ w_ => ∃ (Hj12 : Hp), ∃ (_ : HLe Hj2 Hj12), ∃ (yj12_3 : Bool), ∃ (yj12_7 : Int), law03_sound_lj12 k p0 n_j12 yj12_3 yj12_7 = some s_j11 ∧ Ag 109 [] [(1, .pointer (some ⟨b0_0, 0, none⟩)), (3, .bool yj12_3), (7, .int .i64 yj12_7)] a_ ∧ St (Kp.mk w H noX) Hj12 [] w_) k ?_ ?_
    · intro a_ w_ ha_ hs_
      exact ⟨Hj2, (HLe.refl _), yj2_3, 0, hm, ha_.weaken ⟨rfl, rfl, rfl, trivial⟩, hs_.reix [] (by decide)⟩
    rintro (_ | n_j12) a_ w_ ⟨Hj12, lj12, yj12_3, yj12_7, hm, ha_, hs_⟩
    · rw [law03_sound_lj12.eq_1] at hm; cases hm
    rw [law03_sound_lj12.eq_2] at hm
    refine a_start ha_ hs_ ?_
    have hb0_0 := PAt.mono lj12 hb0_0
    refine a_seq ?_
    refine a_seq ?_
    obtain ⟨s_j13, hs_j13, hm_j13⟩ := bind_some hm
    refine a_join (fun a_ w_ => ∃ (yj13_72 : Bool), yj13_72 = s_j13 ∧ Ag 109 [] [(1, .pointer (some ⟨b0_0, 0, none⟩)), (3, .bool yj12_3), (7, .int .i64 yj12_7), (72, .bool yj13_72)] a_ ∧ St (Kp.mk w H noX) Hj12 [] w_) ?_ ?_
    · have hm := hs_j13
      refine a_region rfl ?_
      refine ap (y_move rfl) ?_
      refine ap (y_move rfl) ?_
      rcases Bool.eq_false_or_eq_true (yj12_3) with k12_2 | k12_2
      · have hm := cond_t k12_2 hm
        refine ag ⟨_, _, rfl, rfl, k12_2⟩ (y_move rfl) ?_
        have h12_3 := TunnelBook.at_Frames hb0_0
        refine ag ⟨_, _, rfl, rfl, k12_2⟩ (y_fieldAddr fo25_1 rfl) ?_
        obtain ⟨v12_4, h12_4, c12_4⟩ := PAt.sl h12_3
        refine ag ⟨_, _, rfl, rfl, k12_2⟩ (y_load_one ty23 rfl (fun _ h => h.sub) rfl c12_4) ?_
        refine ag ⟨_, _, rfl, rfl, k12_2⟩ (y_len_sl Tryd.underlying23 rfl h12_4) ?_
        refine ag ⟨_, _, rfl, rfl, k12_2⟩ (y_lss rfl rfl) ?_
        refine ap (y_pick_t rfl k12_2 rfl) ?_
        refine a_nil ?_
        refine a_en [(1, .pointer (some ⟨b0_0, 0, none⟩)), (3, .bool yj12_3), (7, .int .i64 yj12_7), (67, .int .i64 yj12_7), (68, .pointer (some ⟨b0_0, 0 + 1, none⟩)), (69, v12_4), (70, .int .i64 (p0.Frames.length : Int)), (71, .bool (decide (yj12_7 < (p0.Frames.length : Int)))), (72, .bool (decide (yj12_7 < (p0.Frames.length : Int))))] ?_
        refine a_cut ?_
        intro a_ w_ ha_ hs_
        exact ⟨decide (yj12_7 < (p0.Frames.length : Int)), Option.some.inj hm, ha_.weaken ⟨rfl, rfl, rfl, rfl, trivial⟩, hs_.reix [] (by decide)⟩
      have hm := cond_f k12_2 hm
      refine as1 (sk1 rfl rfl k12_2) ?_
      refine as1 (sk1 rfl rfl k12_2) ?_
      refine as1 (sk1 rfl rfl k12_2) ?_
      refine as1 (sk1 rfl rfl k12_2) ?_
      refine as1 (sk1 rfl rfl k12_2) ?_
      refine ap (y_pick_f rfl k12_2 rfl) ?_
      refine a_nil ?_
      refine a_en [(1, .pointer (some ⟨b0_0, 0, none⟩)), (3, .bool yj12_3), (7, .int .i64 yj12_7), (67, undef), (68, undef), (69, undef), (70, undef), (71, undef), (72, .bool false)] ?_
      refine a_cut ?_
      intro a_ w_ ha_ hs_
      exact ⟨false, Option.some.inj hm, ha_.weaken ⟨rfl, rfl, rfl, rfl, trivial⟩, hs_.reix [] (by decide)⟩
    have hm := hm_j13
    rintro a_ w_ ⟨yj13_72, rfl, ha_, hs_⟩
    try dsimp only at hm
    refine a_start ha_ hs_ ?_
    refine a_then ?_
    refine a_cond rfl (fun k_14 => ?_) (fun k_14 => ?_)
    · have hm := cond_t k_14 hm
      refine a_skip ?_
      refine a_then ?_
      refine a_seq ?_
      refine a_block ?_
      refine a_seq ?_
      refine a_region rfl ?_
      have h14_0 := TunnelBook.at_Frames hb0_0
      refine ap (y_fieldAddr fo25_1 rfl) ?_
      obtain ⟨v14_1, h14_1, c14_1⟩ := PAt.sl h14_0
      refine ap (y_load_one ty23 rfl (fun _ h => h.sub) rfl c14_1) ?_
      refine ap (y_move rfl) ?_
      obtain ⟨x14_3, q14_3, hm⟩ := bind_some hm
      obtain ⟨b14_3, o14_3, c14_3, e14_3, h14_3⟩ := Sl.elemZ 3 rfl h14_1 q14_3
      refine ap (y_index Tryd.underlying23 ty55 rfl e14_3 rfl (nth_in q14_3)) ?_
      obtain ⟨u14_4, h14_4, c14_4⟩ := PAt.one h14_3
      refine ap (y_load_cells ty55 rfl (fun _ h => h.sub) rfl c14_4 (Rp.len h14_4)) ?_
      refine a_cons (e_alloc (cs := [.slice none 0 0, .int .i64 0, .int .i64 0]) trivial rfl ty55 rfl ?_)
      intro b14_5
      refine a_cons (e_storeWhole (i := 0) (ds := u14_4) trivial ty55 rfl rfl rfl rfl (Rp.len h14_4) ((Rp.one h14_4)) rfl ?_)
      refine a_nil ?_
      refine a_freeze (α := TunnelFrame) (x := x14_3) (i := 0) rfl h14_4 ?_
      intro Hb14_5 lb14_5 hb14_5
      have hb0_0 := PAt.mono lb14_5 hb0_0
      have h14_0 := PAt.mono lb14_5 h14_0
      have h14_1 := Sl.mono lb14_5 h14_1
      have h14_3 := PAt.mono lb14_5 h14_3
      have h14_4 := Rp.mono lb14_5 h14_4
      refine a_en [(1, .pointer (some ⟨b0_0, 0, none⟩)), (7, .int .i64 yj12_7), (8, .pointer (some ⟨b14_5, 0, none⟩))] ?_
      refine a_own [] (by decide) (L' := []) rfl ?_
      refine a_then ?_
      refine a_seq ?_
      obtain ⟨s_j15, hs_j15, hm_j15⟩ := bind_some hm
      refine a_join (fun a_ w_ => ∃ (yj15_3 : Bool), yj15_3 = s_j15 ∧ Ag 109 [] [(1, .pointer (some ⟨b0_0, 0, none⟩)), (3, .bool yj15_3), (7, .int .i64 yj12_7), (8, .pointer (some ⟨b14_5, 0, none⟩))] a_ ∧ St (Kp.mk w H noX) Hb14_5 [] w_) ?_ ?_
      · have hm := hs_j15
        refine a_region rfl ?_
        have h15_0 := TunnelFrame.at_Stay hb14_5
        refine ap (y_fieldAddr fo55_0 rfl) ?_
        obtain ⟨v15_1, h15_1, c15_1⟩ := PAt.sl h15_0
        refine ap (y_load_one ty26 rfl (fun _ h => h.sub) rfl c15_1) ?_
        refine ap (y_len_sl Tryd.underlying26 rfl h15_1) ?_
        have h15_3 := TunnelBook.at_Parts hb0_0
        refine ap (y_fieldAddr fo25_0 rfl) ?_
        obtain ⟨v15_4, h15_4, c15_4⟩ := PAt.sl h15_3
        refine ap (y_load_one ty22 rfl (fun _ h => h.sub) rfl c15_4) ?_
        refine ap (y_len_sl Tryd.underlying22 rfl h15_4) ?_
        refine ap (y_eql rfl rfl) ?_
        refine ap (y_move rfl) ?_
        rcases Bool.eq_false_or_eq_true ((x14_3.Stay.length : Int) == (p0.Parts.length : Int)) with k15_8 | k15_8
        · have hm := cond_t k15_8 hm
          have h15_8 := TunnelFrame.at_Need hb14_5
          refine ag ⟨_, _, rfl, rfl, k15_8⟩ (y_fieldAddr fo55_1 rfl) ?_
          obtain ⟨u15_9, h15_9, c15_9⟩ := PAt.one h15_8
          refine ag ⟨_, _, rfl, rfl, k15_8⟩ (y_load_cells ty32 rfl (fun _ h => h.sub) rfl c15_9 (Rp.len h15_9)) ?_
          obtain ⟨x15_10, q15_10, hm⟩ := bind_some hm
          refine a_cons (e_callV (all := [.agg u15_9.toArray, .int .i64 0, .int .i64 999]) (v := .bool x15_10) ⟨_, _, rfl, rfl, k15_8⟩ rfl Tryd.func87 rfl rfl rfl rfl rfl (fun w hw => ok_87 hw h15_9 q15_10) ?_)
          refine ap (y_pick_t rfl k15_8 rfl) ?_
          refine ap (y_assign rfl) ?_
          refine a_nil ?_
          refine a_en [(1, .pointer (some ⟨b0_0, 0, none⟩)), (3, .bool x15_10), (7, .int .i64 yj12_7), (8, .pointer (some ⟨b14_5, 0, none⟩)), (88, .pointer (some ⟨b14_5, 0 + 1, none⟩)), (89, .agg u15_9.toArray), (90, .bool x15_10)] ?_
          refine a_cut ?_
          intro a_ w_ ha_ hs_
          exact ⟨x15_10, Option.some.inj hm, ha_.weaken ⟨rfl, rfl, rfl, rfl, trivial⟩, hs_.reix [] (by decide)⟩
        have hm := cond_f k15_8 hm
        refine as1 (sk1 rfl rfl k15_8) ?_
        refine as1 (sk1 rfl rfl k15_8) ?_
        refine as1 (sk1 rfl rfl k15_8) ?_
        refine ap (y_pick_f rfl k15_8 rfl) ?_
        refine ap (y_assign rfl) ?_
        refine a_nil ?_
        refine a_en [(1, .pointer (some ⟨b0_0, 0, none⟩)), (3, .bool false), (7, .int .i64 yj12_7), (8, .pointer (some ⟨b14_5, 0, none⟩)), (88, undef), (89, undef), (90, undef)] ?_
        refine a_cut ?_
        intro a_ w_ ha_ hs_
        exact ⟨false, Option.some.inj hm, ha_.weaken ⟨rfl, rfl, rfl, rfl, trivial⟩, hs_.reix [] (by decide)⟩
      have hm := hm_j15
      rintro a_ w_ ⟨yj15_3, rfl, ha_, hs_⟩
      try dsimp only at hm
      refine a_start ha_ hs_ ?_
      refine a_then ?_
      refine a_seq ?_
      refine a_region rfl ?_
      refine ap (y_assign rfl) ?_
      refine a_nil ?_
      refine a_then ?_
      obtain ⟨s_j16, hs_j16, hm_j16⟩ := bind_some hm
      refine a_join (fun a_ w_ => ∃ (yj16_3 : Bool), yj16_3 = s_j16 ∧ Ag 109 [] [(1, .pointer (some ⟨b0_0, 0, none⟩)), (3, .bool yj16_3), (7, .int .i64 yj12_7)] a_ ∧ St (Kp.mk w H noX) Hb14_5 [] w_) ?_ ?_
      · have hm := hs_j16
        refine a_block ?_
        refine a_loop (fun n_j17 a_ w_ => ∃ (yj17_3 : Bool), ∃ (yj17_9 : Int), law03_sound_lj17 k x14_3 n_j17 yj17_3 yj17_9 = some s_j16 ∧ Ag 109 [] [(1, .pointer (some ⟨b0_0, 0, none⟩)), (3, .bool yj17_3), (7, .int .i64 yj12_7), (8, .pointer (some ⟨b14_5, 0, none⟩)), (9, .int .i64 yj17_9)] a_ ∧ St (Kp.mk w H noX) Hb14_5 [] w_) k ?_ ?_
        · intro a_ w_ ha_ hs_
          exact ⟨yj15_3, 0, hm, ha_.weaken ⟨rfl, rfl, rfl, rfl, rfl, trivial⟩, hs_.reix [] (by decide)⟩
        rintro (_ | n_j17) a_ w_ ⟨yj17_3, yj17_9, hm, ha_, hs_⟩
        · rw [law03_sound_lj17.eq_1] at hm; cases hm
        rw [law03_sound_lj17.eq_2] at hm
        refine a_start ha_ hs_ ?_
        refine a_seq ?_
        refine a_seq ?_
        obtain ⟨s_j18, hs_j18, hm_j18⟩ := bind_some hm
        refine a_join (fun a_ w_ => ∃ (yj18_99 : Bool), yj18_99 = s_j18 ∧ Ag 109 [] [(1, .pointer (some ⟨b0_0, 0, none⟩)), (3, .bool yj17_3), (7, .int .i64 yj12_7), (8, .pointer (some ⟨b14_5, 0, none⟩)), (9, .int .i64 yj17_9), (99, .bool yj18_99)] a_ ∧ St (Kp.mk w H noX) Hb14_5 [] w_) ?_ ?_
        · have hm := hs_j18
          refine a_region rfl ?_
          refine ap (y_move rfl) ?_
          refine ap (y_move rfl) ?_
          rcases Bool.eq_false_or_eq_true (yj17_3) with k17_2 | k17_2
          · have hm := cond_t k17_2 hm
            refine ag ⟨_, _, rfl, rfl, k17_2⟩ (y_move rfl) ?_
            have h17_3 := TunnelFrame.at_Stay hb14_5
            refine ag ⟨_, _, rfl, rfl, k17_2⟩ (y_fieldAddr fo55_0 rfl) ?_
            obtain ⟨v17_4, h17_4, c17_4⟩ := PAt.sl h17_3
            refine ag ⟨_, _, rfl, rfl, k17_2⟩ (y_load_one ty26 rfl (fun _ h => h.sub) rfl c17_4) ?_
            refine ag ⟨_, _, rfl, rfl, k17_2⟩ (y_len_sl Tryd.underlying26 rfl h17_4) ?_
            refine ag ⟨_, _, rfl, rfl, k17_2⟩ (y_lss rfl rfl) ?_
            refine ap (y_pick_t rfl k17_2 rfl) ?_
            refine a_nil ?_
            refine a_en [(1, .pointer (some ⟨b0_0, 0, none⟩)), (3, .bool yj17_3), (7, .int .i64 yj12_7), (8, .pointer (some ⟨b14_5, 0, none⟩)), (9, .int .i64 yj17_9), (94, .int .i64 yj17_9), (95, .pointer (some ⟨b14_5, 0 + 0, none⟩)), (96, v17_4), (97, .int .i64 (x14_3.Stay.length : Int)), (98, .bool (decide (yj17_9 < (x14_3.Stay.length : Int)))), (99, .bool (decide (yj17_9 < (x14_3.Stay.length : Int))))] ?_
            refine a_cut ?_
            intro a_ w_ ha_ hs_
            exact ⟨decide (yj17_9 < (x14_3.Stay.length : Int)), Option.some.inj hm, ha_.weaken ⟨rfl, rfl, rfl, rfl, rfl, rfl, trivial⟩, hs_.reix [] (by decide)⟩
          have hm := cond_f k17_2 hm
          refine as1 (sk1 rfl rfl k17_2) ?_
          refine as1 (sk1 rfl rfl k17_2) ?_
          refine as1 (sk1 rfl rfl k17_2) ?_
          refine as1 (sk1 rfl rfl k17_2) ?_
          refine as1 (sk1 rfl rfl k17_2) ?_
          refine ap (y_pick_f rfl k17_2 rfl) ?_
          refine a_nil ?_
          refine a_en [(1, .pointer (some ⟨b0_0, 0, none⟩)), (3, .bool yj17_3), (7, .int .i64 yj12_7), (8, .pointer (some ⟨b14_5, 0, none⟩)), (9, .int .i64 yj17_9), (94, undef), (95, undef), (96, undef), (97, undef), (98, undef), (99, .bool false)] ?_
          refine a_cut ?_
          intro a_ w_ ha_ hs_
          exact ⟨false, Option.some.inj hm, ha_.weaken ⟨rfl, rfl, rfl, rfl, rfl, rfl, trivial⟩, hs_.reix [] (by decide)⟩
        have hm := hm_j18
        rintro a_ w_ ⟨yj18_99, rfl, ha_, hs_⟩
        try dsimp only at hm
        refine a_start ha_ hs_ ?_
        refine a_then ?_
        refine a_cond rfl (fun k_19 => ?_) (fun k_19 => ?_)
        · have hm := cond_t k_19 hm
          refine a_skip ?_
          refine a_then ?_
          refine a_seq ?_
          refine a_block ?_
          refine a_region rfl ?_
          have h19_0 := TunnelFrame.at_Stay hb14_5
          refine ap (y_fieldAddr fo55_0 rfl) ?_
          obtain ⟨v19_1, h19_1, c19_1⟩ := PAt.sl h19_0
          refine ap (y_load_one ty26 rfl (fun _ h => h.sub) rfl c19_1) ?_
          refine ap (y_move rfl) ?_
          obtain ⟨x19_3, q19_3, hm⟩ := bind_some hm
          obtain ⟨b19_3, o19_3, c19_3, e19_3, h19_3⟩ := Sl.elemZ 1 rfl h19_1 q19_3
          refine ap (y_index Tryd.underlying26 ty3 rfl e19_3 rfl (nth_in q19_3)) ?_
          refine ap (y_load_int ty3 rfl (fun _ h => h.sub) rfl h19_3) ?_
          obtain ⟨x19_5, q19_5, hm⟩ := bind_some hm
          refine a_cons (e_callV (all := [.int .i64 x19_3, .int .i64 0, .int .i64 20]) (v := .bool x19_5) trivial rfl Tryd.func50 rfl rfl rfl rfl rfl (fun w hw => ok_50 hw q19_5) ?_)
          refine ap (y_assign rfl) ?_
          refine a_nil ?_
          refine a_en [(1, .pointer (some ⟨b0_0, 0, none⟩)), (3, .bool x19_5), (7, .int .i64 yj12_7), (8, .pointer (some ⟨b14_5, 0, none⟩)), (9, .int .i64 yj17_9)] ?_
          refine a_block_normal ?_
          refine a_then ?_
          refine a_region rfl ?_
          refine ap (y_move rfl) ?_
          refine ap (y_add rfl rfl) ?_
          refine ap (y_assign rfl) ?_
          refine a_nil ?_
          refine a_en [(1, .pointer (some ⟨b0_0, 0, none⟩)), (3, .bool x19_5), (7, .int .i64 yj12_7), (8, .pointer (some ⟨b14_5, 0, none⟩)), (9, .int .i64 (IntKind.i64.wrap (yj17_9 + 1)))] ?_
          refine a_then ?_
          intro a_ w_ ha_ hs_
          exact ⟨n_j17, Nat.lt_succ_self _, x19_5, IntKind.i64.wrap (yj17_9 + 1), hm, ha_.weaken ⟨rfl, rfl, rfl, rfl, rfl, trivial⟩, hs_.reix [] (by decide)⟩
        have hm := cond_f k_19 hm
        refine a_exit ?_
        refine a_then_exit ?_
        refine a_then_exit ?_
        refine a_block_hit ?_
        refine a_cut ?_
        intro a_ w_ ha_ hs_
        exact ⟨yj17_3, Option.some.inj hm, ha_.weaken ⟨rfl, rfl, rfl, trivial⟩, hs_.reix [] (by decide)⟩
      have hm := hm_j16
      rintro a_ w_ ⟨yj16_3, rfl, ha_, hs_⟩
      try dsimp only at hm
      refine a_start ha_ hs_ ?_
      refine a_block_normal ?_
      refine a_then ?_
      refine a_region rfl ?_
      refine ap (y_move rfl) ?_
      refine ap (y_add rfl rfl) ?_
      refine ap (y_assign rfl) ?_
      refine a_nil ?_
      refine a_en [(1, .pointer (some ⟨b0_0, 0, none⟩)), (3, .bool yj16_3), (7, .int .i64 (IntKind.i64.wrap (yj12_7 + 1)))] ?_
      refine a_then ?_
      intro a_ w_ ha_ hs_
      exact ⟨n_j12, Nat.lt_succ_self _, Hb14_5, (lj12.trans lb14_5), yj16_3, IntKind.i64.wrap (yj12_7 + 1), hm, ha_.weaken ⟨rfl, rfl, rfl, trivial⟩, hs_.reix [] (by decide)⟩
    have hm := cond_f k_14 hm
    refine a_exit ?_
    refine a_then_exit ?_
    refine a_then_exit ?_
    refine a_block_hit ?_
    refine a_cut ?_
    intro a_ w_ ha_ hs_
    exact ⟨Hj12, lj12, yj12_3, Option.some.inj hm, ha_.weaken ⟨rfl, trivial⟩, hs_.reix [] (by decide)⟩
  have hm := hm_j11
  rintro a_ w_ ⟨Hj11, lj11, yj11_3, rfl, ha_, hs_⟩
  try dsimp only at hm
  refine a_start ha_ hs_ ?_
  refine a_then ?_
  refine a_seq ?_
  refine a_region rfl ?_
  refine ap (y_move rfl) ?_
  refine ap (y_assign rfl) ?_
  refine a_nil ?_
  refine a_en [(2, .bool yj11_3)] ?_
  refine a_then ?_
  refine a_ret ?_
  refine a_done (v := .bool yj11_3) (.inl rfl) rfl ?_ ?_
  · intro a_ w_ ha_ hs_; exact run_results (P := Tryd.prog) (fn := Tryd.f43) (rs := [.tmp 2]) (vs := [.bool yj11_3]) rfl (.cons (rv_tmp ha_ rfl) (All2.nil))
  · intro _ _; obtain rfl := Option.some.inj hm
    rfl

def ref00_Spin (k : Nat) (p0 : Int) (p1 : Int) : Option Int :=
 bif decide (p1 < 1) then
 some (0)
 else
 (rem p0 p1).bind fun x3_2 =>
 bif decide (x3_2 < 0) then
 some ((IntKind.i64.wrap (x3_2 + p1)))
 else
 some (x3_2)
theorem ok_52 {k : Nat} {H : Hp} {w : World} {p0 : Int} {p1 : Int} {r : Int} (hsub : Sub H w)  (hm : ref00_Spin k p0 p1 = some r) : Calls Tryd.prog 52 [.int .i64 p0, .int .i64 p1].toArray w (PostV w H (.int .i64 r)) := by
  unfold ref00_Spin at hm
  refine start (n := 17) (E := [(0, .int .i64 p0), (1, .int .i64 p1)]) Tryd.func52 rfl rfl ⟨rfl, rfl, trivial⟩ rfl hsub ?_
  refine a_seq ?_
  refine a_region rfl ?_
  refine ap (y_assign rfl) ?_
  refine a_nil ?_
  refine a_en [(0, .int .i64 p0), (1, .int .i64 p1)] ?_
  refine a_then ?_
  refine a_seq ?_
  refine a_seq ?_
  refine a_region rfl ?_
  refine ap (y_move rfl) ?_
  refine ap (y_lss rfl rfl) ?_
  refine a_nil ?_
  refine a_en [(0, .int .i64 p0), (1, .int .i64 p1), (7, .bool (decide (p1 < 1)))] ?_
  refine a_then ?_
  refine a_cond rfl (fun k_1 => ?_) (fun k_1 => ?_)
  · have hm := cond_t k_1 hm
    refine a_seq ?_
    refine a_region rfl ?_
    refine ap (y_assign rfl) ?_
    refine a_nil ?_
    refine a_en [(4, .int .i64 0)] ?_
    refine a_then ?_
    refine a_ret ?_
    refine a_then_ret ?_
    refine a_done (v := .int .i64 0) (.inl rfl) rfl ?_ ?_
    · intro a_ w_ ha_ hs_; exact run_results (P := Tryd.prog) (fn := Tryd.f52) (rs := [.tmp 4]) (vs := [.int .i64 0]) rfl (.cons (rv_tmp ha_ rfl) (All2.nil))
    · intro _ _; obtain rfl := Option.some.inj hm
      rfl
  have hm := cond_f k_1 hm
  refine a_skip ?_
  refine a_then ?_
  refine a_seq ?_
  refine a_region rfl ?_
  refine ap (y_move rfl) ?_
  refine ap (y_move rfl) ?_
  obtain ⟨x3_2, q3_2, hm⟩ := bind_some hm
  refine ap (y_rem_some rfl rfl q3_2) ?_
  refine ap (y_assign rfl) ?_
  refine a_nil ?_
  refine a_en [(1, .int .i64 p1), (5, .int .i64 x3_2)] ?_
  refine a_then ?_
  refine a_seq ?_
  refine a_seq ?_
  refine a_region rfl ?_
  refine ap (y_move rfl) ?_
  refine ap (y_lss rfl rfl) ?_
  refine a_nil ?_
  refine a_en [(1, .int .i64 p1), (5, .int .i64 x3_2), (12, .bool (decide (x3_2 < 0)))] ?_
  refine a_then ?_
  refine a_cond rfl (fun k_2 => ?_) (fun k_2 => ?_)
  · have hm := cond_t k_2 hm
    refine a_region rfl ?_
    refine ap (y_move rfl) ?_
    refine ap (y_move rfl) ?_
    refine ap (y_add rfl rfl) ?_
    refine ap (y_assign rfl) ?_
    refine a_nil ?_
    refine a_en [(5, .int .i64 (IntKind.i64.wrap (x3_2 + p1)))] ?_
    refine a_then ?_
    refine a_seq ?_
    refine a_region rfl ?_
    refine ap (y_move rfl) ?_
    refine ap (y_assign rfl) ?_
    refine a_nil ?_
    refine a_en [(4, .int .i64 (IntKind.i64.wrap (x3_2 + p1)))] ?_
    refine a_then ?_
    refine a_ret ?_
    refine a_done (v := .int .i64 (IntKind.i64.wrap (x3_2 + p1))) (.inl rfl) rfl ?_ ?_
    · intro a_ w_ ha_ hs_; exact run_results (P := Tryd.prog) (fn := Tryd.f52) (rs := [.tmp 4]) (vs := [.int .i64 (IntKind.i64.wrap (x3_2 + p1))]) rfl (.cons (rv_tmp ha_ rfl) (All2.nil))
    · intro _ _; obtain rfl := Option.some.inj hm
      rfl
  have hm := cond_f k_2 hm
  refine a_skip ?_
  refine a_then ?_
  refine a_seq ?_
  refine a_region rfl ?_
  refine ap (y_move rfl) ?_
  refine ap (y_assign rfl) ?_
  refine a_nil ?_
  refine a_en [(4, .int .i64 x3_2)] ?_
  refine a_then ?_
  refine a_ret ?_
  refine a_done (v := .int .i64 x3_2) (.inl rfl) rfl ?_ ?_
  · intro a_ w_ ha_ hs_; exact run_results (P := Tryd.prog) (fn := Tryd.f52) (rs := [.tmp 4]) (vs := [.int .i64 x3_2]) rfl (.cons (rv_tmp ha_ rfl) (All2.nil))
  · intro _ _; obtain rfl := Option.some.inj hm
    rfl

def ref00_Item (k : Nat) (p0 : List Int) (p1 : Int) : Option Int :=
 bif (p0.length : Int) == 0 then
 some (0)
 else
 (ref00_Spin k p1 (p0.length : Int)).bind fun x3_4 =>
 (nth p0 x3_4).bind fun x3_5 =>
 some (x3_5)
theorem ok_57 {k : Nat} {H : Hp} {w : World} {p0 : List Int} {p1 : Int} {v0 : Value} {r : Int} (hsub : Sub H w) (h0 : Sl (α := Int) H v0 p0) (hm : ref00_Item k p0 p1 = some r) : Calls Tryd.prog 57 [v0, .int .i64 p1].toArray w (PostV w H (.int .i64 r)) := by
  unfold ref00_Item at hm
  refine start (n := 15) (E := [(0, v0), (1, .int .i64 p1)]) Tryd.func57 rfl rfl ⟨rfl, rfl, trivial⟩ rfl hsub ?_
  refine a_seq ?_
  refine a_region rfl ?_
  refine ap (y_assign rfl) ?_
  refine a_nil ?_
  refine a_en [(0, v0), (1, .int .i64 p1)] ?_
  refine a_then ?_
  refine a_seq ?_
  refine a_seq ?_
  refine a_region rfl ?_
  refine ap (y_move rfl) ?_
  refine ap (y_len_sl Tryd.underlying26 rfl h0) ?_
  refine ap (y_eql rfl rfl) ?_
  refine a_nil ?_
  refine a_en [(0, v0), (1, .int .i64 p1), (7, .bool ((p0.length : Int) == 0))] ?_
  refine a_then ?_
  refine a_cond rfl (fun k_1 => ?_) (fun k_1 => ?_)
  · have hm := cond_t k_1 hm
    refine a_seq ?_
    refine a_region rfl ?_
    refine ap (y_assign rfl) ?_
    refine a_nil ?_
    refine a_en [(4, .int .i64 0)] ?_
    refine a_then ?_
    refine a_ret ?_
    refine a_then_ret ?_
    refine a_done (v := .int .i64 0) (.inl rfl) rfl ?_ ?_
    · intro a_ w_ ha_ hs_; exact run_results (P := Tryd.prog) (fn := Tryd.f57) (rs := [.tmp 4]) (vs := [.int .i64 0]) rfl (.cons (rv_tmp ha_ rfl) (All2.nil))
    · intro _ _; obtain rfl := Option.some.inj hm
      rfl
  have hm := cond_f k_1 hm
  refine a_skip ?_
  refine a_then ?_
  refine a_seq ?_
  refine a_region rfl ?_
  refine ap (y_move rfl) ?_
  refine ap (y_move rfl) ?_
  refine ap (y_move rfl) ?_
  refine ap (y_len_sl Tryd.underlying26 rfl h0) ?_
  obtain ⟨x3_4, q3_4, hm⟩ := bind_some hm
  refine a_cons (e_callV (all := [.int .i64 p1, .int .i64 (p0.length : Int)]) (v := .int .i64 x3_4) trivial rfl Tryd.func52 rfl rfl rfl rfl rfl (fun w hw => ok_52 hw q3_4) ?_)
  obtain ⟨x3_5, q3_5, hm⟩ := bind_some hm
  obtain ⟨b3_5, o3_5, c3_5, e3_5, h3_5⟩ := Sl.elemZ 1 rfl h0 q3_5
  refine ap (y_index Tryd.underlying26 ty3 rfl e3_5 rfl (nth_in q3_5)) ?_
  refine ap (y_load_int ty3 rfl (fun _ h => h.sub) rfl h3_5) ?_
  refine ap (y_assign rfl) ?_
  refine a_nil ?_
  refine a_en [(4, .int .i64 x3_5)] ?_
  refine a_then ?_
  refine a_ret ?_
  refine a_done (v := .int .i64 x3_5) (.inl rfl) rfl ?_ ?_
  · intro a_ w_ ha_ hs_; exact run_results (P := Tryd.prog) (fn := Tryd.f57) (rs := [.tmp 4]) (vs := [.int .i64 x3_5]) rfl (.cons (rv_tmp ha_ rfl) (All2.nil))
  · intro _ _; obtain rfl := Option.some.inj hm
    rfl

def ref00_Drawn (k : Nat) (p0 : Span) (p1 : Int) : Option Int :=
 (ref00_Spin k p1 (IntKind.i64.wrap ((IntKind.i64.wrap (p0.High - p0.Low)) + 1))).bind fun x1_9 =>
 some ((IntKind.i64.wrap (p0.Low + x1_9)))
theorem ok_62 {k : Nat} {H : Hp} {w : World} {p0 : Span} {p1 : Int} {c0 : List Value} {r : Int} (hsub : Sub H w) (h0 : Rp.rep (α := Span) H c0 p0) (hm : ref00_Drawn k p0 p1 = some r) : Calls Tryd.prog 62 [.agg c0.toArray, .int .i64 p1].toArray w (PostV w H (.int .i64 r)) := by
  unfold ref00_Drawn at hm
  refine start (n := 16) (E := [(0, .agg c0.toArray), (1, .int .i64 p1)]) Tryd.func62 rfl rfl ⟨rfl, rfl, trivial⟩ rfl hsub ?_
  refine a_seq ?_
  refine a_region rfl ?_
  refine a_cons (e_box (cs := c0) trivial rfl rfl rfl ?_)
  intro b0_0
  refine ap (y_assign rfl) ?_
  refine a_nil ?_
  refine a_freeze (α := Span) (x := p0) (i := 0) rfl h0 ?_
  intro Hb0_0 lb0_0 hb0_0
  have h0 := Rp.mono lb0_0 h0
  refine a_en [(1, .int .i64 p1), (2, .pointer (some ⟨b0_0, 0, none⟩))] ?_
  refine a_own [] (by decide) (L' := []) rfl ?_
  refine a_then ?_
  refine a_seq ?_
  obtain ⟨x1_9, q1_9, hm⟩ := bind_some hm
  refine d_region (S := Sw Hb0_0 []) (n := 12) (listed := (bits 12 0)) mixed (by kernel_rfl) rfl (by kernel_rfl) ?_
  have h1_0 := Span.at_Low hb0_0
  refine dt 0 1 rfl trivial (y_fieldAddr fo32_0 rfl) (sw0 []) ?_
  refine dt 1 3 rfl trivial (y_load_int ty3 rfl (fun _ h => h.1) rfl h1_0) (sw0 []) ?_
  refine dt 2 7 rfl trivial (y_move rfl) (sw0 []) ?_
  have h1_3 := Span.at_High hb0_0
  refine dt 3 15 rfl trivial (y_fieldAddr fo32_1 rfl) (sw0 []) ?_
  refine dt 4 31 rfl trivial (y_load_int ty3 rfl (fun _ h => h.1) rfl h1_3) (sw0 []) ?_
  have h1_5 := Span.at_Low hb0_0
  refine dt 5 63 rfl trivial (y_fieldAddr fo32_0 rfl) (sw0 []) ?_
  refine dt 6 127 rfl trivial (y_load_int ty3 rfl (fun _ h => h.1) rfl h1_5) (sw0 []) ?_
  refine dt 7 255 rfl trivial (y_sub rfl rfl) (sw0 []) ?_
  refine dt 8 511 rfl trivial (y_add rfl rfl) (sw0 []) ?_
  refine d1 9 rfl (e_callV (all := [.int .i64 p1, .int .i64 (IntKind.i64.wrap ((IntKind.i64.wrap (p0.High - p0.Low)) + 1))]) (v := .int .i64 x1_9) trivial rfl Tryd.func52 rfl rfl rfl rfl rfl (fun w hw => ok_52 hw q1_9) ?_)
  refine dn 1023 (sw0 []) ?_
  refine dt 10 2047 rfl trivial (y_add rfl rfl) (sw0 []) ?_
  refine dt 11 4095 rfl trivial (y_assign rfl) (sw0 []) ?_
  refine d_done (by kernel_rfl) ?_
  refine a_en [(4, .int .i64 (IntKind.i64.wrap (p0.Low + x1_9)))] ?_
  refine a_then ?_
  refine a_ret ?_
  refine a_done (v := .int .i64 (IntKind.i64.wrap (p0.Low + x1_9))) (.inl rfl) rfl ?_ ?_
  · intro a_ w_ ha_ hs_; exact run_results (P := Tryd.prog) (fn := Tryd.f62) (rs := [.tmp 4]) (vs := [.int .i64 (IntKind.i64.wrap (p0.Low + x1_9))]) rfl (.cons (rv_tmp ha_ rfl) (All2.nil))
  · intro _ _; obtain rfl := Option.some.inj hm
    rfl

def ref00_Only (k : Nat) (p0 : Int) : Option Span :=
 (ref00_Sp k p0 p0).bind fun x1_2 =>
 some (x1_2)
theorem ok_51 {k : Nat} {H : Hp} {w : World} {p0 : Int} {r : Span} (hsub : Sub H w)  (hm : ref00_Only k p0 = some r) : Calls Tryd.prog 51 [.int .i64 p0].toArray w (PostV w H (.agg r.cells.toArray)) := by
  unfold ref00_Only at hm
  refine start (n := 6) (E := [(0, .int .i64 p0)]) Tryd.func51 rfl rfl ⟨rfl, trivial⟩ rfl hsub ?_
  refine a_seq ?_
  refine a_region rfl ?_
  refine a_cons (e_alloc (cs := [.int .i64 0, .int .i64 0]) trivial rfl ty32 rfl ?_)
  intro b0_0
  refine a_nil ?_
  refine a_then ?_
  refine a_seq ?_
  refine a_region rfl ?_
  refine ap (y_move rfl) ?_
  refine ap (y_move rfl) ?_
  obtain ⟨x1_2, q1_2, hm⟩ := bind_some hm
  refine a_cons (e_callV (all := [.int .i64 p0, .int .i64 p0]) (v := .agg x1_2.cells.toArray) trivial rfl Tryd.func53 rfl rfl rfl rfl rfl (fun w hw => ok_53 hw q1_2) ?_)
  refine a_cons (e_storeWhole (i := 0) (ds := x1_2.cells) trivial ty32 rfl rfl rfl rfl rfl ((Rp.one (Span.rep_mk (fun _ => none) x1_2))) rfl ?_)
  refine a_nil ?_
  refine a_freeze (α := Span) (x := x1_2) (i := 0) rfl (Span.rep_mk _ x1_2) ?_
  intro Hb0_0 lb0_0 hb0_0
  refine a_en [(2, .pointer (some ⟨b0_0, 0, none⟩))] ?_
  refine a_own [] (by decide) (L' := []) rfl ?_
  refine a_then ?_
  refine a_ret ?_
  obtain ⟨ce2, re2, le2⟩ := PAt.one hb0_0
  refine a_done (v := .agg ce2.toArray) (.inl rfl) rfl ?_ ?_
  · intro a_ w_ ha_ hs_; exact run_results (P := Tryd.prog) (fn := Tryd.f51) (rs := [.cell 2 32]) (vs := [.agg ce2.toArray]) rfl (.cons (rv_cell ha_ rfl (run_loadVar_agg ty32 rfl (le2 _ hs_.sub) (Rp.len re2))) (All2.nil))
  · intro _ _; obtain rfl := Option.some.inj hm
    rw [Span.rep_eq re2]

def law03_truly_lj2 (k : Nat) (p0 : TunnelBook) (p1 : List Int) : Nat → (List TunnelPart) → Int → Option (List TunnelPart)
 | 0, _, _ => none
 | n_j2 + 1, yj2_b1_1_0, yj2_6 =>
 bif decide (yj2_6 < (yj2_b1_1_0.length : Int)) then
 (nth p0.Parts yj2_6).bind fun x6_6 =>
 (ref00_Item k p1 yj2_6).bind fun x6_11 =>
 (ref00_Drawn k x6_6.Damp x6_11).bind fun x6_12 =>
 (ref00_Only k x6_12).bind fun x6_13 =>
 (nth yj2_b1_1_0 yj2_6).bind fun x6_14 =>
 law03_truly_lj2 k p0 p1 n_j2 ((yj2_b1_1_0).set (yj2_6).toNat (⟨x6_14.Heat, x6_13⟩ : TunnelPart)) (IntKind.i64.wrap (yj2_6 + 1))
 else
 some (yj2_b1_1_0)
def law03_truly (k : Nat) (p0 : TunnelBook) (p1 : List Int) : Option TunnelBook :=
 (app ([] : List TunnelPart) p0.Parts).bind fun x2_3 =>
 (law03_truly_lj2 k p0 p1 k x2_3 0).bind fun yj1_b1_1_0 =>
 some ((⟨yj1_b1_1_0, p0.Frames⟩ : TunnelBook))
theorem ok_44 {k : Nat} {H : Hp} {w : World} {p0 : TunnelBook} {p1 : List Int} {c0 : List Value} {v1 : Value} {r : TunnelBook} (hsub : Sub H w) (h0 : Rp.rep (α := TunnelBook) H c0 p0) (h1 : Sl (α := Int) H v1 p1) (hm : law03_truly k p0 p1 = some r) : Calls Tryd.prog 44 [.agg c0.toArray, v1].toArray w (PostH w H fun v H' => ∃ c0, v = .agg c0.toArray ∧ Rp.rep (α := TunnelBook) H' c0 r) := by
  unfold law03_truly at hm
  refine start (n := 37) (E := [(0, .agg c0.toArray), (1, v1)]) Tryd.func44 rfl rfl ⟨rfl, rfl, trivial⟩ rfl hsub ?_
  refine a_seq ?_
  refine a_region rfl ?_
  refine a_cons (e_box (cs := c0) trivial rfl rfl rfl ?_)
  intro b0_0
  refine a_cons (e_alloc (cs := [.slice none 0 0, .slice none 0 0]) trivial rfl ty25 rfl ?_)
  intro b0_1
  refine a_nil ?_
  refine a_freeze (α := TunnelBook) (x := p0) (i := 1) rfl h0 ?_
  intro Hb0_0 lb0_0 hb0_0
  have h0 := Rp.mono lb0_0 h0
  have h1 := Sl.mono lb0_0 h1
  refine a_en [(1, v1), (2, .pointer (some ⟨b0_0, 0, none⟩)), (4, .pointer (some ⟨b0_1, 0, none⟩))] ?_
  refine a_own [0] (by decide) (L' := [.box b0_1 [.slice none 0 0, .slice none 0 0] 25]) rfl ?_
  refine a_then ?_
  refine a_seq ?_
  refine a_region rfl ?_
  obtain ⟨u1_0, h1_0, c1_0⟩ := PAt.one hb0_0
  refine ap (y_load_cells ty25 rfl (fun _ h => h.sub) rfl c1_0 (Rp.len h1_0)) ?_
  refine a_cons (e_alloc (cs := [.slice none 0 0, .slice none 0 0]) trivial rfl ty25 rfl ?_)
  intro b1_1
  refine a_cons (e_storeWhole (i := 0) (ds := u1_0) trivial ty25 rfl rfl rfl rfl (Rp.len h1_0) ((Rp.one h1_0)) rfl ?_)
  refine a_nil ?_
  obtain ⟨v1o1_1_0, v1o1_1_1, rfl, h1o1_1_0, h1o1_1_1⟩ := TunnelBook.opened h1_0
  refine a_en [(1, v1), (2, .pointer (some ⟨b0_0, 0, none⟩)), (4, .pointer (some ⟨b0_1, 0, none⟩)), (5, .pointer (some ⟨b1_1, 0, none⟩))] ?_
  refine a_then ?_
  refine a_seq ?_
  refine a_region rfl ?_
  refine a_cons (e_buildSlice (xs := []) (cs := []) trivial rfl Tryd.underlying22 ty64 rfl rfl rfl (by simp [Value.cells]) rfl (rfl) ?_)
  intro v2_0
  have h2_0 : RepL (α := TunnelPart) Hb0_0 ([]) [] := (RepL.nil (α := TunnelPart))
  have h2_1 := TunnelBook.at_Parts hb0_0
  refine ap (y_fieldAddr fo25_0 rfl) ?_
  obtain ⟨v2_2, h2_2, c2_2⟩ := PAt.sl h2_1
  refine ap (y_load_one ty22 rfl (fun _ h => h.sub) rfl c2_2) ?_
  obtain ⟨x2_3, q2_3, hm⟩ := bind_some hm
  refine a_cons (e_app_sl (i := 0) trivial rfl Tryd.underlying22 Tryd.underlying22 ty64 rfl rfl rfl rfl rfl rfl rfl rfl h2_0 h2_2 q2_3 ?_)
  intro v2_3 u2_3 h2_3
  refine ap (y_fieldAddr fo25_0 rfl) ?_
  refine a_cons (e_storeLR (i := 1) (j := 0) (cs' := [v2_3, v1o1_1_1]) trivial ty22 rfl rfl rfl rfl (Nat.le_of_ble_eq_true rfl) rfl ?_)
  refine a_nil ?_
  refine a_en [(1, v1), (2, .pointer (some ⟨b0_0, 0, none⟩)), (4, .pointer (some ⟨b0_1, 0, none⟩)), (5, .pointer (some ⟨b1_1, 0, none⟩))] ?_
  refine a_then ?_
  refine a_seq ?_
  refine a_seq ?_
  refine a_region rfl ?_
  refine ap (y_assign rfl) ?_
  refine a_nil ?_
  refine a_then ?_
  obtain ⟨s_j1, hs_j1, hm_j1⟩ := bind_some hm
  refine a_join (fun a_ w_ => ∃ (yj1_b1_1_0 : List TunnelPart), ∃ (vj1_b1_1_0 : Value), ∃ (uj1_b1_1_0 : List Value), yj1_b1_1_0 = s_j1 ∧ RepL (α := TunnelPart) Hb0_0 uj1_b1_1_0 yj1_b1_1_0 ∧ Ag 37 [] [(4, .pointer (some ⟨b0_1, 0, none⟩)), (5, .pointer (some ⟨b1_1, 0, none⟩))] a_ ∧ St (Kp.mk w H noX) Hb0_0 ([.box b0_1 [.slice none 0 0, .slice none 0 0] 25, .row vj1_b1_1_0 uj1_b1_1_0 64 6, .box b1_1 [vj1_b1_1_0, v1o1_1_1] 25]) w_) ?_ ?_
  · have hm := hs_j1
    refine a_block ?_
    refine a_loop (fun n_j2 a_ w_ => ∃ (yj2_b1_1_0 : List TunnelPart), ∃ (yj2_6 : Int), ∃ (vj2_b1_1_0 : Value), ∃ (uj2_b1_1_0 : List Value), law03_truly_lj2 k p0 p1 n_j2 yj2_b1_1_0 yj2_6 = some s_j1 ∧ RepL (α := TunnelPart) Hb0_0 uj2_b1_1_0 yj2_b1_1_0 ∧ Ag 37 [] [(1, v1), (2, .pointer (some ⟨b0_0, 0, none⟩)), (4, .pointer (some ⟨b0_1, 0, none⟩)), (5, .pointer (some ⟨b1_1, 0, none⟩)), (6, .int .i64 yj2_6)] a_ ∧ St (Kp.mk w H noX) Hb0_0 ([.box b0_1 [.slice none 0 0, .slice none 0 0] 25, .row vj2_b1_1_0 uj2_b1_1_0 64 6, .box b1_1 [vj2_b1_1_0, v1o1_1_1] 25]) w_) k ?_ ?_
    · intro a_ w_ ha_ hs_
      exact ⟨x2_3, 0, v2_3, u2_3, hm, h2_3, ha_.weaken ⟨rfl, rfl, rfl, rfl, rfl, trivial⟩, hs_.reix [2, 0, 1] (by decide)⟩
    rintro (_ | n_j2) a_ w_ ⟨yj2_b1_1_0, yj2_6, vj2_b1_1_0, uj2_b1_1_0, hm, hj2_b1_1_0, ha_, hs_⟩
    · rw [law03_truly_lj2.eq_1] at hm; cases hm
    rw [law03_truly_lj2.eq_2] at hm
    refine a_start ha_ hs_ ?_
    refine a_seq ?_
    refine a_seq ?_
    refine a_region rfl ?_
    refine ap (y_move rfl) ?_
    refine ap (y_fieldAddr fo25_0 rfl) ?_
    refine ap (y_load_box ty22 rfl (knows_box (i := 2) rfl) rfl rfl) ?_
    refine ap (y_len_rowZ (i := 1) Tryd.underlying22 rfl rfl rfl hj2_b1_1_0 rfl) ?_
    refine ap (y_lss rfl rfl) ?_
    refine a_nil ?_
    refine a_en [(1, v1), (2, .pointer (some ⟨b0_0, 0, none⟩)), (4, .pointer (some ⟨b0_1, 0, none⟩)), (5, .pointer (some ⟨b1_1, 0, none⟩)), (6, .int .i64 yj2_6), (17, .bool (decide (yj2_6 < (yj2_b1_1_0.length : Int))))] ?_
    refine a_then ?_
    refine a_cond rfl (fun k_3 => ?_) (fun k_3 => ?_)
    · have hm := cond_t k_3 hm
      refine a_skip ?_
      refine a_then ?_
      refine a_seq ?_
      refine a_block ?_
      obtain ⟨x6_6, q6_6, hm⟩ := bind_some hm
      obtain ⟨x6_11, q6_11, hm⟩ := bind_some hm
      obtain ⟨x6_12, q6_12, hm⟩ := bind_some hm
      obtain ⟨x6_13, q6_13, hm⟩ := bind_some hm
      obtain ⟨x6_14, q6_14, hm⟩ := bind_some hm
      refine d_region (S := Sw Hb0_0 [.box b0_1 [.slice none 0 0, .slice none 0 0] 25, .box b1_1 [vj2_b1_1_0, v1o1_1_1] 25]) (n := 17) (listed := (bits 17 0)) mixed (by kernel_rfl) rfl (by kernel_rfl) ?_
      refine dt 0 1 rfl trivial (y_fieldAddr fo25_0 rfl) (sw0 [0, 2]) ?_
      refine dt 1 3 rfl trivial (y_load_box ty22 rfl (knows_sw (i := 1) rfl) rfl rfl) (sw0 [0, 2]) ?_
      refine dt 2 7 rfl trivial (y_move rfl) (sw0 [0, 2]) ?_
      have h6_3 := TunnelBook.at_Parts hb0_0
      refine dt 3 15 rfl trivial (y_fieldAddr fo25_0 rfl) (sw0 [0, 2]) ?_
      obtain ⟨v6_4, h6_4, c6_4⟩ := PAt.sl h6_3
      refine dt 4 31 rfl trivial (y_load_one ty22 rfl (fun _ h => h.1) rfl c6_4) (sw0 [0, 2]) ?_
      refine dt 5 63 rfl trivial (y_move rfl) (sw0 [0, 2]) ?_
      obtain ⟨b6_6, o6_6, c6_6, e6_6, h6_6⟩ := Sl.elemZ 6 rfl h6_4 q6_6
      refine dt 6 127 rfl trivial (y_index Tryd.underlying22 ty64 rfl e6_6 rfl (nth_in q6_6)) (sw0 [0, 2]) ?_
      have h6_7 := TunnelPart.at_Damp h6_6
      refine dt 7 255 rfl trivial (y_fieldAddr fo64_1 rfl) (sw0 [0, 2]) ?_
      obtain ⟨u6_8, h6_8, c6_8⟩ := PAt.one h6_7
      refine dt 8 511 rfl trivial (y_load_cells ty32 rfl (fun _ h => h.1) rfl c6_8 (Rp.len h6_8)) (sw0 [0, 2]) ?_
      refine dt 9 1023 rfl trivial (y_move rfl) (sw0 [0, 2]) ?_
      refine dt 10 2047 rfl trivial (y_move rfl) (sw0 [0, 2]) ?_
      refine d1 11 rfl (e_callV (all := [v1, .int .i64 yj2_6]) (v := .int .i64 x6_11) trivial rfl Tryd.func57 rfl rfl rfl rfl rfl (fun w hw => ok_57 hw h1 q6_11) ?_)
      refine dn 4095 (sw0 [0, 2]) ?_
      refine d1 12 rfl (e_callV (all := [.agg u6_8.toArray, .int .i64 x6_11]) (v := .int .i64 x6_12) trivial rfl Tryd.func62 rfl rfl rfl rfl rfl (fun w hw => ok_62 hw h6_8 q6_12) ?_)
      refine dn 8191 (sw0 [0, 2]) ?_
      refine d1 13 rfl (e_callV (all := [.int .i64 x6_12]) (v := .agg x6_13.cells.toArray) trivial rfl Tryd.func51 rfl rfl rfl rfl rfl (fun w hw => ok_51 hw q6_13) ?_)
      refine dn 16383 (sw0 [0, 2]) ?_
      refine a_rowplace (i := 1) rfl rfl rfl hj2_b1_1_0 q6_14 ?_
      rintro b6_14 c6_14 rfl
      refine d1 14 rfl (p_pure trivial rfl rfl (y_index Tryd.underlying22 ty64 rfl rfl rfl (nth_in q6_14)) ?_)
      refine dn 32767 (sw0 [0, 2]) ?_
      refine dt 15 65535 rfl trivial (y_fieldAddr fo64_1 rfl) (sw0 [0, 2]) ?_
      refine d1 16 rfl (e_storeRow (α := TunnelPart) (i := 1) (ds := x6_13.cells) (l' := (yj2_b1_1_0).set (yj2_6).toNat (⟨x6_14.Heat, x6_13⟩ : TunnelPart)) trivial ty32 rfl rfl rfl rfl rfl ((Rp.one (Span.rep_mk (fun _ => none) x6_13))) rfl hj2_b1_1_0 (PutL.at0 6 rfl q6_14 (TunnelPart.put_Damp (s := x6_14) (Put.here (Span.rep_mk _ x6_13)))) ?_)
      intro u6_16 h6_16
      refine dn 131071 (sw0 [0, 2]) ?_
      refine d_done (by kernel_rfl) ?_
      refine a_en [(1, v1), (2, .pointer (some ⟨b0_0, 0, none⟩)), (4, .pointer (some ⟨b0_1, 0, none⟩)), (5, .pointer (some ⟨b1_1, 0, none⟩)), (6, .int .i64 yj2_6)] ?_
      refine a_block_normal ?_
      refine a_then ?_
      refine a_region rfl ?_
      refine ap (y_move rfl) ?_
      refine ap (y_add rfl rfl) ?_
      refine ap (y_assign rfl) ?_
      refine a_nil ?_
      refine a_en [(1, v1), (2, .pointer (some ⟨b0_0, 0, none⟩)), (4, .pointer (some ⟨b0_1, 0, none⟩)), (5, .pointer (some ⟨b1_1, 0, none⟩)), (6, .int .i64 (IntKind.i64.wrap (yj2_6 + 1)))] ?_
      refine a_then ?_
      intro a_ w_ ha_ hs_
      exact ⟨n_j2, Nat.lt_succ_self _, (yj2_b1_1_0).set (yj2_6).toNat (⟨x6_14.Heat, x6_13⟩ : TunnelPart), IntKind.i64.wrap (yj2_6 + 1), .slice (some ⟨b6_14, 0, none⟩) (yj2_b1_1_0).length c6_14, u6_16, hm, h6_16, ha_.weaken ⟨rfl, rfl, rfl, rfl, rfl, trivial⟩, hs_.reix [0, 1, 2] (by decide)⟩
    have hm := cond_f k_3 hm
    refine a_exit ?_
    refine a_then_exit ?_
    refine a_then_exit ?_
    refine a_block_hit ?_
    refine a_cut ?_
    intro a_ w_ ha_ hs_
    exact ⟨yj2_b1_1_0, vj2_b1_1_0, uj2_b1_1_0, Option.some.inj hm, hj2_b1_1_0, ha_.weaken ⟨rfl, rfl, trivial⟩, hs_.reix [0, 1, 2] (by decide)⟩
  have hm := hm_j1
  rintro a_ w_ ⟨yj1_b1_1_0, vj1_b1_1_0, uj1_b1_1_0, rfl, hj1_b1_1_0, ha_, hs_⟩
  try dsimp only at hm
  refine a_start ha_ hs_ ?_
  refine a_then ?_
  refine a_seq ?_
  refine a_region rfl ?_
  refine ap (y_load_boxagg ty25 rfl (knows_box (i := 2) rfl) rfl rfl rfl) ?_
  refine a_cons (e_storeWholeL (i := 0) (ds := [vj1_b1_1_0, v1o1_1_1]) trivial ty25 rfl rfl rfl rfl rfl ⟨.inr ⟨_, _, _, List.mem_of_getElem? (i := 1) rfl⟩, ⟨.inl (cells_one_sl h1o1_1_1 _ (by simp)), trivial⟩⟩ rfl ?_)
  refine a_nil ?_
  refine a_en [(4, .pointer (some ⟨b0_1, 0, none⟩))] ?_
  refine a_own [0, 1] (by decide) (L' := [.box b0_1 [vj1_b1_1_0, v1o1_1_1] 25, .row vj1_b1_1_0 uj1_b1_1_0 64 6]) rfl ?_
  refine a_then ?_
  refine a_ret ?_
  refine a_frow (i := 1) rfl rfl hj1_b1_1_0 rfl ?_
  intro He4rj1_b1_1_0f le4rj1_b1_1_0f he4rj1_b1_1_0f
  have h1o1_1_1 := Sl.mono le4rj1_b1_1_0f h1o1_1_1
  have me4l : Rp.rep He4rj1_b1_1_0f [vj1_b1_1_0, v1o1_1_1] (⟨yj1_b1_1_0, p0.Frames⟩ : TunnelBook) := ⟨_, _, rfl, ⟨_, rfl, he4rj1_b1_1_0f⟩, ⟨_, rfl, h1o1_1_1⟩⟩
  refine a_done (v := .agg [vj1_b1_1_0, v1o1_1_1].toArray) (.inl rfl) rfl ?_ ?_
  · intro a_ w_ ha_ hs_; exact run_results (P := Tryd.prog) (fn := Tryd.f44) (rs := [.cell 4 25]) (vs := [.agg [vj1_b1_1_0, v1o1_1_1].toArray]) rfl (.cons (rv_cell ha_ rfl (run_loadSt (i := 0) ty25 rfl hs_ rfl rfl)) (All2.nil))
  · intro _ _; obtain rfl := Option.some.inj hm; exact ⟨[vj1_b1_1_0, v1o1_1_1], rfl, me4l⟩

def law03_setting_lj2 (k : Nat) (p0 : TunnelBook) (p1 : List Int) : Nat → (List Int) → Int → Option (List Int)
 | 0, _, _ => none
 | n_j2 + 1, yj2_5, yj2_6 =>
 bif decide (yj2_6 < (p0.Parts.length : Int)) then
 (ref00_Item k p1 yj2_6).bind fun x5_3 =>
 (ref00_Spin k x5_3 4).bind fun x5_4 =>
 (app yj2_5 [x5_4]).bind fun x5_6 =>
 law03_setting_lj2 k p0 p1 n_j2 x5_6 (IntKind.i64.wrap (yj2_6 + 1))
 else
 some (yj2_5)
def law03_setting (k : Nat) (p0 : TunnelBook) (p1 : List Int) : Option (List Int) :=
 (law03_setting_lj2 k p0 p1 k ([] : List Int) 0).bind fun yj1_5 =>
 some (yj1_5)
theorem ok_45 {k : Nat} {H : Hp} {w : World} {p0 : TunnelBook} {p1 : List Int} {c0 : List Value} {v1 : Value} {r : List Int} (hsub : Sub H w) (h0 : Rp.rep (α := TunnelBook) H c0 p0) (h1 : Sl (α := Int) H v1 p1) (hm : law03_setting k p0 p1 = some r) : Calls Tryd.prog 45 [.agg c0.toArray, v1].toArray w (PostH w H fun v H' => ∃ v0, v = v0 ∧ Sl (α := Int) H' v0 r) := by
  unfold law03_setting at hm
  refine start (n := 22) (E := [(0, .agg c0.toArray), (1, v1)]) Tryd.func45 rfl rfl ⟨rfl, rfl, trivial⟩ rfl hsub ?_
  refine a_seq ?_
  refine a_region rfl ?_
  refine a_cons (e_box (cs := c0) trivial rfl rfl rfl ?_)
  intro b0_0
  refine ap (y_assign rfl) ?_
  refine a_nil ?_
  refine a_freeze (α := TunnelBook) (x := p0) (i := 0) rfl h0 ?_
  intro Hb0_0 lb0_0 hb0_0
  have h0 := Rp.mono lb0_0 h0
  have h1 := Sl.mono lb0_0 h1
  refine a_en [(1, v1), (2, .pointer (some ⟨b0_0, 0, none⟩))] ?_
  refine a_own [] (by decide) (L' := []) rfl ?_
  refine a_then ?_
  refine a_seq ?_
  refine a_region rfl ?_
  refine ap (y_assign rfl) ?_
  refine a_nil ?_
  refine a_then ?_
  refine a_seq ?_
  refine a_seq ?_
  refine a_region rfl ?_
  refine ap (y_assign rfl) ?_
  refine a_nil ?_
  refine a_then ?_
  obtain ⟨s_j1, hs_j1, hm_j1⟩ := bind_some hm
  refine a_join (fun a_ w_ => ∃ (yj1_5 : List Int), ∃ (vj1_5 : Value), ∃ (uj1_5 : List Value), yj1_5 = s_j1 ∧ RepL (α := Int) Hb0_0 uj1_5 yj1_5 ∧ Ag 22 [] [(5, vj1_5)] a_ ∧ St (Kp.mk w H noX) Hb0_0 [.row vj1_5 uj1_5 3 1] w_) ?_ ?_
  · have hm := hs_j1
    refine a_block ?_
    refine a_loop (fun n_j2 a_ w_ => ∃ (yj2_5 : List Int), ∃ (yj2_6 : Int), ∃ (vj2_5 : Value), ∃ (uj2_5 : List Value), law03_setting_lj2 k p0 p1 n_j2 yj2_5 yj2_6 = some s_j1 ∧ RepL (α := Int) Hb0_0 uj2_5 yj2_5 ∧ Ag 22 [] [(1, v1), (2, .pointer (some ⟨b0_0, 0, none⟩)), (5, vj2_5), (6, .int .i64 yj2_6)] a_ ∧ St (Kp.mk w H noX) Hb0_0 [.row vj2_5 uj2_5 3 1] w_) k ?_ ?_
    · refine a_nilrow (x := none) (T := 3) (sz := 1) ?_
      have hzrj2_5 : RepL (α := Int) Hb0_0 [] [] := RepL.nil
      intro a_ w_ ha_ hs_
      exact ⟨([] : List Int), 0, .slice none 0 0, [], hm, hzrj2_5, ha_.weaken ⟨rfl, rfl, rfl, rfl, trivial⟩, hs_.reix [0] (by decide)⟩
    rintro (_ | n_j2) a_ w_ ⟨yj2_5, yj2_6, vj2_5, uj2_5, hm, hj2_5, ha_, hs_⟩
    · rw [law03_setting_lj2.eq_1] at hm; cases hm
    rw [law03_setting_lj2.eq_2] at hm
    refine a_start ha_ hs_ ?_
    refine a_seq ?_
    refine a_seq ?_
    refine a_region rfl ?_
    refine ap (y_move rfl) ?_
    have h3_1 := TunnelBook.at_Parts hb0_0
    refine ap (y_fieldAddr fo25_0 rfl) ?_
    obtain ⟨v3_2, h3_2, c3_2⟩ := PAt.sl h3_1
    refine ap (y_load_one ty22 rfl (fun _ h => h.sub) rfl c3_2) ?_
    refine ap (y_len_sl Tryd.underlying22 rfl h3_2) ?_
    refine ap (y_lss rfl rfl) ?_
    refine a_nil ?_
    refine a_en [(1, v1), (2, .pointer (some ⟨b0_0, 0, none⟩)), (5, vj2_5), (6, .int .i64 yj2_6), (11, .bool (decide (yj2_6 < (p0.Parts.length : Int))))] ?_
    refine a_then ?_
    refine a_cond rfl (fun k_3 => ?_) (fun k_3 => ?_)
    · have hm := cond_t k_3 hm
      refine a_skip ?_
      refine a_then ?_
      refine a_seq ?_
      refine a_block ?_
      refine a_region rfl ?_
      refine ap (y_move rfl) ?_
      refine ap (y_move rfl) ?_
      refine ap (y_move rfl) ?_
      obtain ⟨x5_3, q5_3, hm⟩ := bind_some hm
      refine a_cons (e_callV (all := [v1, .int .i64 yj2_6]) (v := .int .i64 x5_3) trivial rfl Tryd.func57 rfl rfl rfl rfl rfl (fun w hw => ok_57 hw h1 q5_3) ?_)
      obtain ⟨x5_4, q5_4, hm⟩ := bind_some hm
      refine a_cons (e_callV (all := [.int .i64 x5_3, .int .i64 4]) (v := .int .i64 x5_4) trivial rfl Tryd.func52 rfl rfl rfl rfl rfl (fun w hw => ok_52 hw q5_4) ?_)
      refine a_cons (e_buildSlice (xs := [.tmp 18]) (cs := [.int .i64 x5_4]) trivial rfl Tryd.underlying26 ty3 rfl rfl rfl (by simp [Value.cells]) rfl (rfl) ?_)
      intro v5_5
      have h5_5 : RepL (α := Int) Hb0_0 ([.int .i64 x5_4]) [x5_4] := (RepL.cons (α := Int) (c := [.int .i64 x5_4]) rfl (RepL.nil (α := Int)))
      obtain ⟨x5_6, q5_6, hm⟩ := bind_some hm
      refine a_cons (e_app_row (i := 1) (j := 0) trivial rfl Tryd.underlying26 Tryd.underlying26 ty3 rfl rfl rfl rfl rfl rfl rfl rfl hj2_5 rfl h5_5 q5_6 ?_)
      intro v5_6 u5_6 h5_6
      refine ap (y_assign rfl) ?_
      refine a_nil ?_
      refine a_en [(1, v1), (2, .pointer (some ⟨b0_0, 0, none⟩)), (5, v5_6), (6, .int .i64 yj2_6)] ?_
      refine a_own [1] (by decide) (L' := [.row v5_6 u5_6 3 1]) rfl ?_
      refine a_block_normal ?_
      refine a_then ?_
      refine a_region rfl ?_
      refine ap (y_move rfl) ?_
      refine ap (y_add rfl rfl) ?_
      refine ap (y_assign rfl) ?_
      refine a_nil ?_
      refine a_en [(1, v1), (2, .pointer (some ⟨b0_0, 0, none⟩)), (5, v5_6), (6, .int .i64 (IntKind.i64.wrap (yj2_6 + 1)))] ?_
      refine a_then ?_
      intro a_ w_ ha_ hs_
      exact ⟨n_j2, Nat.lt_succ_self _, x5_6, IntKind.i64.wrap (yj2_6 + 1), v5_6, u5_6, hm, h5_6, ha_.weaken ⟨rfl, rfl, rfl, rfl, trivial⟩, hs_.reix [0] (by decide)⟩
    have hm := cond_f k_3 hm
    refine a_exit ?_
    refine a_then_exit ?_
    refine a_then_exit ?_
    refine a_block_hit ?_
    refine a_cut ?_
    intro a_ w_ ha_ hs_
    exact ⟨yj2_5, vj2_5, uj2_5, Option.some.inj hm, hj2_5, ha_.weaken ⟨rfl, trivial⟩, hs_.reix [0] (by decide)⟩
  have hm := hm_j1
  rintro a_ w_ ⟨yj1_5, vj1_5, uj1_5, rfl, hj1_5, ha_, hs_⟩
  try dsimp only at hm
  refine a_start ha_ hs_ ?_
  refine a_then ?_
  refine a_seq ?_
  refine a_region rfl ?_
  refine ap (y_move rfl) ?_
  refine ap (y_assign rfl) ?_
  refine a_nil ?_
  refine a_en [(4, vj1_5)] ?_
  refine a_then ?_
  refine a_ret ?_
  refine a_frow (i := 0) rfl rfl hj1_5 rfl ?_
  intro Hef lef hef
  refine a_done (v := vj1_5) (.inl rfl) rfl ?_ ?_
  · intro a_ w_ ha_ hs_; exact run_results (P := Tryd.prog) (fn := Tryd.f45) (rs := [.tmp 4]) (vs := [vj1_5]) rfl (.cons (rv_tmp ha_ rfl) (All2.nil))
  · intro _ _; obtain rfl := Option.some.inj hm; exact ⟨vj1_5, rfl, hef⟩

def ref00_Grows_lj2 (k : Nat) (p0 : List Int) (p1 : Int) : Nat → Int → Option (Sum Bool Unit)
 | 0, _ => none
 | n_j2 + 1, yj2_5 =>
 bif decide (yj2_5 < (p0.length : Int)) then
 ((nth p0 yj2_5).bind fun x4_2 =>
 (ref00_Fits k x4_2 0 (IntKind.i64.wrap (p1 - 1))).bind fun x4_6 =>
 bif !x4_6 then
 some (true)
 else
 bif decide (yj2_5 > 0) then
 (nth p0 yj2_5).bind fun x4_14 =>
 (nth p0 (IntKind.i64.wrap (yj2_5 - 1))).bind fun x4_19 =>
 some ((decide (x4_14 ≤ x4_19)))
 else
 some (false)).bind fun yj4_35 =>
 bif yj4_35 then
 some (Sum.inl false)
 else
 ref00_Grows_lj2 k p0 p1 n_j2 (IntKind.i64.wrap (yj2_5 + 1))
 else
 some (Sum.inr ())
def ref00_Grows (k : Nat) (p0 : List Int) (p1 : Int) : Option Bool :=
 (ref00_Grows_lj2 k p0 p1 k 0).bind fun o => (match o with
 | .inl r => some r
 | .inr _ =>
 some (true))
theorem ok_46 {k : Nat} {H : Hp} {w : World} {p0 : List Int} {p1 : Int} {v0 : Value} {r : Bool} (hsub : Sub H w) (h0 : Sl (α := Int) H v0 p0) (hm : ref00_Grows k p0 p1 = some r) : Calls Tryd.prog 46 [v0, .int .i64 p1].toArray w (PostV w H (.bool r)) := by
  unfold ref00_Grows at hm
  refine start (n := 36) (E := [(0, v0), (1, .int .i64 p1)]) Tryd.func46 rfl rfl ⟨rfl, rfl, trivial⟩ rfl hsub ?_
  refine a_seq ?_
  refine a_region rfl ?_
  refine ap (y_assign rfl) ?_
  refine a_nil ?_
  refine a_en [(0, v0), (1, .int .i64 p1)] ?_
  refine a_then ?_
  refine a_seq ?_
  refine a_seq ?_
  refine a_region rfl ?_
  refine ap (y_assign rfl) ?_
  refine a_nil ?_
  refine a_then ?_
  obtain ⟨s_j1, hs_j1, hm_j1⟩ := bind_some hm
  refine a_join (fun a_ w_ => Sum.inr () = s_j1 ∧ Ag 36 [] [] a_ ∧ St (Kp.mk w H noX) H [] w_) ?_ ?_
  · have hm := hs_j1
    refine a_block ?_
    refine a_loop (fun n_j2 a_ w_ => ∃ (yj2_5 : Int), ref00_Grows_lj2 k p0 p1 n_j2 yj2_5 = some s_j1 ∧ Ag 36 [] [(0, v0), (1, .int .i64 p1), (5, .int .i64 yj2_5)] a_ ∧ St (Kp.mk w H noX) H [] w_) k ?_ ?_
    · intro a_ w_ ha_ hs_
      exact ⟨0, hm, ha_.weaken ⟨rfl, rfl, rfl, trivial⟩, hs_.reix [] (by decide)⟩
    rintro (_ | n_j2) a_ w_ ⟨yj2_5, hm, ha_, hs_⟩
    · rw [ref00_Grows_lj2.eq_1] at hm; cases hm
    rw [ref00_Grows_lj2.eq_2] at hm
    refine a_start ha_ hs_ ?_
    refine a_seq ?_
    refine a_seq ?_
    refine a_region rfl ?_
    refine ap (y_move rfl) ?_
    refine ap (y_move rfl) ?_
    refine ap (y_len_sl Tryd.underlying26 rfl h0) ?_
    refine ap (y_lss rfl rfl) ?_
    refine a_nil ?_
    refine a_en [(0, v0), (1, .int .i64 p1), (5, .int .i64 yj2_5), (9, .bool (decide (yj2_5 < (p0.length : Int))))] ?_
    refine a_then ?_
    refine a_cond rfl (fun k_3 => ?_) (fun k_3 => ?_)
    · have hm := cond_t k_3 hm
      refine a_skip ?_
      refine a_then ?_
      refine a_seq ?_
      refine a_block ?_
      refine a_seq ?_
      obtain ⟨s_j4, hs_j4, hm_j4⟩ := bind_some hm
      refine a_join (fun a_ w_ => ∃ (yj4_35 : Bool), yj4_35 = s_j4 ∧ Ag 36 [] [(0, v0), (1, .int .i64 p1), (5, .int .i64 yj2_5), (35, .bool yj4_35)] a_ ∧ St (Kp.mk w H noX) H [] w_) ?_ ?_
      · have hm := hs_j4
        obtain ⟨x4_2, q4_2, hm⟩ := bind_some hm
        obtain ⟨x4_6, q4_6, hm⟩ := bind_some hm
        rcases Bool.eq_false_or_eq_true (!x4_6) with k4_9 | k4_9
        · have hm := cond_t k4_9 hm
          refine d_region (S := Sw H []) (n := 24) (listed := (bits 24 0)) mixed (by kernel_rfl) rfl (by kernel_rfl) ?_
          refine dt 0 1 rfl trivial (y_move rfl) (sw0 []) ?_
          refine dt 1 3 rfl trivial (y_move rfl) (sw0 []) ?_
          obtain ⟨b4_2, o4_2, c4_2, e4_2, h4_2⟩ := Sl.elemZ 1 rfl h0 q4_2
          refine dt 2 7 rfl trivial (y_index Tryd.underlying26 ty3 rfl e4_2 rfl (nth_in q4_2)) (sw0 []) ?_
          refine dt 3 15 rfl trivial (y_load_int ty3 rfl (fun _ h => h.1) rfl h4_2) (sw0 []) ?_
          refine dt 4 31 rfl trivial (y_move rfl) (sw0 []) ?_
          refine dt 5 63 rfl trivial (y_sub rfl rfl) (sw0 []) ?_
          refine d1 6 rfl (e_callV (all := [.int .i64 x4_2, .int .i64 0, .int .i64 (IntKind.i64.wrap (p1 - 1))]) (v := .bool x4_6) trivial rfl Tryd.func50 rfl rfl rfl rfl rfl (fun w hw => ok_50 hw q4_6) ?_)
          refine dn 127 (sw0 []) ?_
          refine dt 7 255 rfl trivial (y_not rfl) (sw0 []) ?_
          refine dt 8 511 rfl trivial (y_move rfl) (sw0 []) ?_
          refine dk 9 1023 rfl (sk1 rfl rfl k4_9) (sw0 []) ?_
          refine dk 10 2047 rfl (sk1 rfl rfl k4_9) (sw0 []) ?_
          refine dk 11 4095 rfl (sk1 rfl rfl k4_9) (sw0 []) ?_
          refine dk 12 8191 rfl (sku rfl rfl) (sw0 []) ?_
          refine dk 13 16383 rfl (sku rfl rfl) (sw0 []) ?_
          refine dk 14 32767 rfl (sku rfl rfl) (sw0 []) ?_
          refine dk 15 65535 rfl (sku rfl rfl) (sw0 []) ?_
          refine dk 16 131071 rfl (sku rfl rfl) (sw0 []) ?_
          refine dk 17 262143 rfl (sku rfl rfl) (sw0 []) ?_
          refine dk 18 524287 rfl (sku rfl rfl) (sw0 []) ?_
          refine dk 19 1048575 rfl (sku rfl rfl) (sw0 []) ?_
          refine dk 20 2097151 rfl (sku rfl rfl) (sw0 []) ?_
          refine dk 21 4194303 rfl (sku rfl rfl) (sw0 []) ?_
          refine dk 22 8388607 rfl (sk1 rfl rfl k4_9) (sw0 []) ?_
          refine dt 23 16777215 rfl trivial (y_pick_t rfl k4_9 rfl) (sw0 []) ?_
          refine d_done (by kernel_rfl) ?_
          refine a_en [(0, v0), (1, .int .i64 p1), (5, .int .i64 yj2_5), (21, undef), (22, undef), (23, undef), (24, undef), (25, undef), (26, undef), (27, undef), (28, undef), (29, undef), (30, undef), (31, undef), (32, undef), (33, undef), (34, undef), (35, .bool true)] ?_
          refine a_cut ?_
          intro a_ w_ ha_ hs_
          exact ⟨true, Option.some.inj hm, ha_.weaken ⟨rfl, rfl, rfl, rfl, trivial⟩, hs_.reix [] (by decide)⟩
        have hm := cond_f k4_9 hm
        rcases Bool.eq_false_or_eq_true (decide (yj2_5 > 0)) with k4_12 | k4_12
        · have hm := cond_t k4_12 hm
          obtain ⟨x4_14, q4_14, hm⟩ := bind_some hm
          obtain ⟨x4_19, q4_19, hm⟩ := bind_some hm
          refine d_region (S := Sw H []) (n := 24) (listed := (bits 24 0)) mixed (by kernel_rfl) rfl (by kernel_rfl) ?_
          refine dt 0 1 rfl trivial (y_move rfl) (sw0 []) ?_
          refine dt 1 3 rfl trivial (y_move rfl) (sw0 []) ?_
          obtain ⟨b4_2, o4_2, c4_2, e4_2, h4_2⟩ := Sl.elemZ 1 rfl h0 q4_2
          refine dt 2 7 rfl trivial (y_index Tryd.underlying26 ty3 rfl e4_2 rfl (nth_in q4_2)) (sw0 []) ?_
          refine dt 3 15 rfl trivial (y_load_int ty3 rfl (fun _ h => h.1) rfl h4_2) (sw0 []) ?_
          refine dt 4 31 rfl trivial (y_move rfl) (sw0 []) ?_
          refine dt 5 63 rfl trivial (y_sub rfl rfl) (sw0 []) ?_
          refine d1 6 rfl (e_callV (all := [.int .i64 x4_2, .int .i64 0, .int .i64 (IntKind.i64.wrap (p1 - 1))]) (v := .bool x4_6) trivial rfl Tryd.func50 rfl rfl rfl rfl rfl (fun w hw => ok_50 hw q4_6) ?_)
          refine dn 127 (sw0 []) ?_
          refine dt 7 255 rfl trivial (y_not rfl) (sw0 []) ?_
          refine dt 8 511 rfl trivial (y_move rfl) (sw0 []) ?_
          refine dt 9 1023 rfl ⟨_, _, rfl, rfl, k4_9⟩ (y_move rfl) (sw0 []) ?_
          refine dt 10 2047 rfl ⟨_, _, rfl, rfl, k4_9⟩ (y_gtr rfl rfl) (sw0 []) ?_
          refine dt 11 4095 rfl ⟨_, _, rfl, rfl, k4_9⟩ (y_move rfl) (sw0 []) ?_
          refine dt 12 8191 rfl ⟨_, _, rfl, rfl, k4_12⟩ (y_move rfl) (sw0 []) ?_
          refine dt 13 16383 rfl ⟨_, _, rfl, rfl, k4_12⟩ (y_move rfl) (sw0 []) ?_
          obtain ⟨b4_14, o4_14, c4_14, e4_14, h4_14⟩ := Sl.elemZ 1 rfl h0 q4_14
          refine dt 14 32767 rfl ⟨_, _, rfl, rfl, k4_12⟩ (y_index Tryd.underlying26 ty3 rfl e4_14 rfl (nth_in q4_14)) (sw0 []) ?_
          refine dt 15 65535 rfl ⟨_, _, rfl, rfl, k4_12⟩ (y_load_int ty3 rfl (fun _ h => h.1) rfl h4_14) (sw0 []) ?_
          refine dt 16 131071 rfl ⟨_, _, rfl, rfl, k4_12⟩ (y_move rfl) (sw0 []) ?_
          refine dt 17 262143 rfl ⟨_, _, rfl, rfl, k4_12⟩ (y_move rfl) (sw0 []) ?_
          refine dt 18 524287 rfl ⟨_, _, rfl, rfl, k4_12⟩ (y_sub rfl rfl) (sw0 []) ?_
          obtain ⟨b4_19, o4_19, c4_19, e4_19, h4_19⟩ := Sl.elemZ 1 rfl h0 q4_19
          refine dt 19 1048575 rfl ⟨_, _, rfl, rfl, k4_12⟩ (y_index Tryd.underlying26 ty3 rfl e4_19 rfl (nth_in q4_19)) (sw0 []) ?_
          refine dt 20 2097151 rfl ⟨_, _, rfl, rfl, k4_12⟩ (y_load_int ty3 rfl (fun _ h => h.1) rfl h4_19) (sw0 []) ?_
          refine dt 21 4194303 rfl ⟨_, _, rfl, rfl, k4_12⟩ (y_leq rfl rfl) (sw0 []) ?_
          refine dt 22 8388607 rfl ⟨_, _, rfl, rfl, k4_9⟩ (y_pick_t rfl k4_12 rfl) (sw0 []) ?_
          refine dt 23 16777215 rfl trivial (y_pick_f rfl k4_9 rfl) (sw0 []) ?_
          refine d_done (by kernel_rfl) ?_
          refine a_en [(0, v0), (1, .int .i64 p1), (5, .int .i64 yj2_5), (21, .int .i64 yj2_5), (22, .bool (decide (yj2_5 > 0))), (23, .bool (decide (yj2_5 > 0))), (24, v0), (25, .int .i64 yj2_5), (26, .pointer (some ⟨b4_14, o4_14 + (yj2_5).toNat * 1, none⟩)), (27, .int .i64 x4_14), (28, v0), (29, .int .i64 yj2_5), (30, .int .i64 (IntKind.i64.wrap (yj2_5 - 1))), (31, .pointer (some ⟨b4_19, o4_19 + (IntKind.i64.wrap (yj2_5 - 1)).toNat * 1, none⟩)), (32, .int .i64 x4_19), (33, .bool (decide (x4_14 ≤ x4_19))), (34, .bool (decide (x4_14 ≤ x4_19))), (35, .bool (decide (x4_14 ≤ x4_19)))] ?_
          refine a_cut ?_
          intro a_ w_ ha_ hs_
          exact ⟨decide (x4_14 ≤ x4_19), Option.some.inj hm, ha_.weaken ⟨rfl, rfl, rfl, rfl, trivial⟩, hs_.reix [] (by decide)⟩
        have hm := cond_f k4_12 hm
        refine d_region (S := Sw H []) (n := 24) (listed := (bits 24 0)) mixed (by kernel_rfl) rfl (by kernel_rfl) ?_
        refine dt 0 1 rfl trivial (y_move rfl) (sw0 []) ?_
        refine dt 1 3 rfl trivial (y_move rfl) (sw0 []) ?_
        obtain ⟨b4_2, o4_2, c4_2, e4_2, h4_2⟩ := Sl.elemZ 1 rfl h0 q4_2
        refine dt 2 7 rfl trivial (y_index Tryd.underlying26 ty3 rfl e4_2 rfl (nth_in q4_2)) (sw0 []) ?_
        refine dt 3 15 rfl trivial (y_load_int ty3 rfl (fun _ h => h.1) rfl h4_2) (sw0 []) ?_
        refine dt 4 31 rfl trivial (y_move rfl) (sw0 []) ?_
        refine dt 5 63 rfl trivial (y_sub rfl rfl) (sw0 []) ?_
        refine d1 6 rfl (e_callV (all := [.int .i64 x4_2, .int .i64 0, .int .i64 (IntKind.i64.wrap (p1 - 1))]) (v := .bool x4_6) trivial rfl Tryd.func50 rfl rfl rfl rfl rfl (fun w hw => ok_50 hw q4_6) ?_)
        refine dn 127 (sw0 []) ?_
        refine dt 7 255 rfl trivial (y_not rfl) (sw0 []) ?_
        refine dt 8 511 rfl trivial (y_move rfl) (sw0 []) ?_
        refine dt 9 1023 rfl ⟨_, _, rfl, rfl, k4_9⟩ (y_move rfl) (sw0 []) ?_
        refine dt 10 2047 rfl ⟨_, _, rfl, rfl, k4_9⟩ (y_gtr rfl rfl) (sw0 []) ?_
        refine dt 11 4095 rfl ⟨_, _, rfl, rfl, k4_9⟩ (y_move rfl) (sw0 []) ?_
        refine dk 12 8191 rfl (sk1 rfl rfl k4_12) (sw0 []) ?_
        refine dk 13 16383 rfl (sk1 rfl rfl k4_12) (sw0 []) ?_
        refine dk 14 32767 rfl (sk1 rfl rfl k4_12) (sw0 []) ?_
        refine dk 15 65535 rfl (sk1 rfl rfl k4_12) (sw0 []) ?_
        refine dk 16 131071 rfl (sk1 rfl rfl k4_12) (sw0 []) ?_
        refine dk 17 262143 rfl (sk1 rfl rfl k4_12) (sw0 []) ?_
        refine dk 18 524287 rfl (sk1 rfl rfl k4_12) (sw0 []) ?_
        refine dk 19 1048575 rfl (sk1 rfl rfl k4_12) (sw0 []) ?_
        refine dk 20 2097151 rfl (sk1 rfl rfl k4_12) (sw0 []) ?_
        refine dk 21 4194303 rfl (sk1 rfl rfl k4_12) (sw0 []) ?_
        refine dt 22 8388607 rfl ⟨_, _, rfl, rfl, k4_9⟩ (y_pick_f rfl k4_12 rfl) (sw0 []) ?_
        refine dt 23 16777215 rfl trivial (y_pick_f rfl k4_9 rfl) (sw0 []) ?_
        refine d_done (by kernel_rfl) ?_
        refine a_en [(0, v0), (1, .int .i64 p1), (5, .int .i64 yj2_5), (21, .int .i64 yj2_5), (22, .bool (decide (yj2_5 > 0))), (23, .bool (decide (yj2_5 > 0))), (24, undef), (25, undef), (26, undef), (27, undef), (28, undef), (29, undef), (30, undef), (31, undef), (32, undef), (33, undef), (34, .bool false), (35, .bool false)] ?_
        refine a_cut ?_
        intro a_ w_ ha_ hs_
        exact ⟨false, Option.some.inj hm, ha_.weaken ⟨rfl, rfl, rfl, rfl, trivial⟩, hs_.reix [] (by decide)⟩
      have hm := hm_j4
      rintro a_ w_ ⟨yj4_35, rfl, ha_, hs_⟩
      try dsimp only at hm
      refine a_start ha_ hs_ ?_
      refine a_then ?_
      refine a_cond rfl (fun k_5 => ?_) (fun k_5 => ?_)
      · have hm := cond_t k_5 hm
        refine a_seq ?_
        refine a_region rfl ?_
        refine ap (y_assign rfl) ?_
        refine a_nil ?_
        refine a_en [(4, .bool false)] ?_
        refine a_then ?_
        refine a_ret ?_
        refine a_block_ret ?_
        refine a_then_ret ?_
        refine a_then_ret ?_
        refine a_block_ret ?_
        refine a_cut_ret ?_
        refine a_then_ret ?_
        obtain rfl := Option.some.inj hm
        have hm := hm_j1
        try dsimp only at hm
        refine a_done (v := .bool false) (.inl rfl) rfl ?_ ?_
        · intro a_ w_ ha_ hs_; exact run_results (P := Tryd.prog) (fn := Tryd.f46) (rs := [.tmp 4]) (vs := [.bool false]) rfl (.cons (rv_tmp ha_ rfl) (All2.nil))
        · intro _ _; obtain rfl := Option.some.inj hm
          rfl
      have hm := cond_f k_5 hm
      refine a_skip ?_
      refine a_block_normal ?_
      refine a_then ?_
      refine a_region rfl ?_
      refine ap (y_move rfl) ?_
      refine ap (y_add rfl rfl) ?_
      refine ap (y_assign rfl) ?_
      refine a_nil ?_
      refine a_en [(0, v0), (1, .int .i64 p1), (5, .int .i64 (IntKind.i64.wrap (yj2_5 + 1)))] ?_
      refine a_then ?_
      intro a_ w_ ha_ hs_
      exact ⟨n_j2, Nat.lt_succ_self _, IntKind.i64.wrap (yj2_5 + 1), hm, ha_.weaken ⟨rfl, rfl, rfl, trivial⟩, hs_.reix [] (by decide)⟩
    have hm := cond_f k_3 hm
    refine a_exit ?_
    refine a_then_exit ?_
    refine a_then_exit ?_
    refine a_block_hit ?_
    refine a_cut ?_
    intro a_ w_ ha_ hs_
    exact ⟨Option.some.inj hm, ha_.weaken trivial, hs_.reix [] (by decide)⟩
  have hm := hm_j1
  rintro a_ w_ ⟨rfl, ha_, hs_⟩
  try dsimp only at hm
  refine a_start ha_ hs_ ?_
  refine a_then ?_
  refine a_seq ?_
  refine a_region rfl ?_
  refine ap (y_assign rfl) ?_
  refine a_nil ?_
  refine a_then ?_
  refine a_ret ?_
  refine a_done (v := .bool true) (.inl rfl) rfl ?_ ?_
  · intro a_ w_ ha_ hs_; exact run_results (P := Tryd.prog) (fn := Tryd.f46) (rs := [.tmp 4]) (vs := [.bool true]) rfl (.cons (rv_tmp ha_ rfl) (All2.nil))
  · intro _ _; obtain rfl := Option.some.inj hm
    rfl

def law03_dryness_lj5 (k : Nat) (p2 : TunnelFrame) (yj2_8 : Int) (x5_9 : Int) (x5_14 : TunnelPart) : Nat → Int → Int → Option Int
 | 0, _, _ => none
 | n_j5 + 1, yj5_7, yj5_10 =>
 (bif decide ((IntKind.i64.wrap (x5_9 - x5_14.Damp.Low)) > 0) then
 (nth p2.Stay yj2_8).bind fun x7_7 =>
 some ((decide (yj5_10 < x7_7)))
 else
 some (false)).bind fun yj6_46 =>
 bif yj6_46 then
 law03_dryness_lj5 k p2 yj2_8 x5_9 x5_14 n_j5 (IntKind.i64.wrap (yj5_7 + (IntKind.i64.wrap (x5_9 - x5_14.Damp.Low)))) (IntKind.i64.wrap (yj5_10 + 1))
 else
 some (yj5_7)
def law03_dryness_lj2 (k : Nat) (p0 : TunnelBook) (p1 : List Int) (p2 : TunnelFrame) : Nat → Int → Int → Option Int
 | 0, _, _ => none
 | n_j2 + 1, yj2_7, yj2_8 =>
 bif decide (yj2_8 < (p1.length : Int)) then
 (nth p1 yj2_8).bind fun x5_5 =>
 (nth p0.Parts yj2_8).bind fun x5_7 =>
 (nth x5_7.Heat x5_5).bind fun x5_9 =>
 (nth p0.Parts yj2_8).bind fun x5_14 =>
 (law03_dryness_lj5 k p2 yj2_8 x5_9 x5_14 k yj2_7 0).bind fun yj4_7 =>
 law03_dryness_lj2 k p0 p1 p2 n_j2 yj4_7 (IntKind.i64.wrap (yj2_8 + 1))
 else
 some (yj2_7)
def law03_dryness (k : Nat) (p0 : TunnelBook) (p1 : List Int) (p2 : TunnelFrame) : Option Int :=
 (law03_dryness_lj2 k p0 p1 p2 k 0 0).bind fun yj1_7 =>
 some (yj1_7)
theorem ok_47 {k : Nat} {H : Hp} {w : World} {p0 : TunnelBook} {p1 : List Int} {p2 : TunnelFrame} {c0 : List Value} {v1 : Value} {c2 : List Value} {r : Int} (hsub : Sub H w) (h0 : Rp.rep (α := TunnelBook) H c0 p0) (h1 : Sl (α := Int) H v1 p1) (h2 : Rp.rep (α := TunnelFrame) H c2 p2) (hm : law03_dryness k p0 p1 p2 = some r) : Calls Tryd.prog 47 [.agg c0.toArray, v1, .agg c2.toArray].toArray w (PostV w H (.int .i64 r)) := by
  unfold law03_dryness at hm
  refine start (n := 53) (E := [(0, .agg c0.toArray), (1, v1), (2, .agg c2.toArray)]) Tryd.func47 rfl rfl ⟨rfl, rfl, rfl, trivial⟩ rfl hsub ?_
  refine a_seq ?_
  refine a_region rfl ?_
  refine a_cons (e_box (cs := c0) trivial rfl rfl rfl ?_)
  intro b0_0
  refine a_cons (e_box (cs := c2) trivial rfl rfl rfl ?_)
  intro b0_1
  refine ap (y_assign rfl) ?_
  refine a_nil ?_
  refine a_freeze (α := TunnelFrame) (x := p2) (i := 0) rfl h2 ?_
  intro Hb0_1 lb0_1 hb0_1
  have h0 := Rp.mono lb0_1 h0
  have h1 := Sl.mono lb0_1 h1
  have h2 := Rp.mono lb0_1 h2
  refine a_freeze (α := TunnelBook) (x := p0) (i := 1) rfl h0 ?_
  intro Hb0_0 lb0_0 hb0_0
  have h0 := Rp.mono lb0_0 h0
  have h1 := Sl.mono lb0_0 h1
  have h2 := Rp.mono lb0_0 h2
  have hb0_1 := PAt.mono lb0_0 hb0_1
  refine a_en [(1, v1), (3, .pointer (some ⟨b0_0, 0, none⟩)), (5, .pointer (some ⟨b0_1, 0, none⟩))] ?_
  refine a_own [] (by decide) (L' := []) rfl ?_
  refine a_then ?_
  refine a_seq ?_
  refine a_region rfl ?_
  refine ap (y_assign rfl) ?_
  refine a_nil ?_
  refine a_then ?_
  refine a_seq ?_
  refine a_seq ?_
  refine a_region rfl ?_
  refine ap (y_assign rfl) ?_
  refine a_nil ?_
  refine a_then ?_
  obtain ⟨s_j1, hs_j1, hm_j1⟩ := bind_some hm
  refine a_join (fun a_ w_ => ∃ (yj1_7 : Int), yj1_7 = s_j1 ∧ Ag 53 [] [(7, .int .i64 yj1_7)] a_ ∧ St (Kp.mk w H noX) Hb0_0 [] w_) ?_ ?_
  · have hm := hs_j1
    refine a_block ?_
    refine a_loop (fun n_j2 a_ w_ => ∃ (yj2_7 : Int), ∃ (yj2_8 : Int), law03_dryness_lj2 k p0 p1 p2 n_j2 yj2_7 yj2_8 = some s_j1 ∧ Ag 53 [] [(1, v1), (3, .pointer (some ⟨b0_0, 0, none⟩)), (5, .pointer (some ⟨b0_1, 0, none⟩)), (7, .int .i64 yj2_7), (8, .int .i64 yj2_8)] a_ ∧ St (Kp.mk w H noX) Hb0_0 [] w_) k ?_ ?_
    · intro a_ w_ ha_ hs_
      exact ⟨0, 0, hm, ha_.weaken ⟨rfl, rfl, rfl, rfl, rfl, trivial⟩, hs_.reix [] (by decide)⟩
    rintro (_ | n_j2) a_ w_ ⟨yj2_7, yj2_8, hm, ha_, hs_⟩
    · rw [law03_dryness_lj2.eq_1] at hm; cases hm
    rw [law03_dryness_lj2.eq_2] at hm
    refine a_start ha_ hs_ ?_
    refine a_seq ?_
    refine a_seq ?_
    refine a_region rfl ?_
    refine ap (y_move rfl) ?_
    refine ap (y_move rfl) ?_
    refine ap (y_len_sl Tryd.underlying26 rfl h1) ?_
    refine ap (y_lss rfl rfl) ?_
    refine a_nil ?_
    refine a_en [(1, v1), (3, .pointer (some ⟨b0_0, 0, none⟩)), (5, .pointer (some ⟨b0_1, 0, none⟩)), (7, .int .i64 yj2_7), (8, .int .i64 yj2_8), (14, .bool (decide (yj2_8 < (p1.length : Int))))] ?_
    refine a_then ?_
    refine a_cond rfl (fun k_3 => ?_) (fun k_3 => ?_)
    · have hm := cond_t k_3 hm
      refine a_skip ?_
      refine a_then ?_
      refine a_seq ?_
      refine a_block ?_
      refine a_seq ?_
      obtain ⟨x5_5, q5_5, hm⟩ := bind_some hm
      obtain ⟨x5_7, q5_7, hm⟩ := bind_some hm
      obtain ⟨x5_9, q5_9, hm⟩ := bind_some hm
      obtain ⟨x5_14, q5_14, hm⟩ := bind_some hm
      refine d_region (S := Sw Hb0_0 []) (n := 20) (listed := (bits 20 0)) mixed (by kernel_rfl) rfl (by kernel_rfl) ?_
      have h5_0 := TunnelBook.at_Parts hb0_0
      refine dt 0 1 rfl trivial (y_fieldAddr fo25_0 rfl) (sw0 []) ?_
      obtain ⟨v5_1, h5_1, c5_1⟩ := PAt.sl h5_0
      refine dt 1 3 rfl trivial (y_load_one ty22 rfl (fun _ h => h.1) rfl c5_1) (sw0 []) ?_
      refine dt 2 7 rfl trivial (y_move rfl) (sw0 []) ?_
      refine dt 3 15 rfl trivial (y_move rfl) (sw0 []) ?_
      refine dt 4 31 rfl trivial (y_move rfl) (sw0 []) ?_
      obtain ⟨b5_5, o5_5, c5_5, e5_5, h5_5⟩ := Sl.elemZ 1 rfl h1 q5_5
      refine dt 5 63 rfl trivial (y_index Tryd.underlying26 ty3 rfl e5_5 rfl (nth_in q5_5)) (sw0 []) ?_
      refine dt 6 127 rfl trivial (y_load_int ty3 rfl (fun _ h => h.1) rfl h5_5) (sw0 []) ?_
      obtain ⟨b5_7, o5_7, c5_7, e5_7, h5_7⟩ := Sl.elemZ 6 rfl h5_1 q5_7
      refine dt 7 255 rfl trivial (y_index Tryd.underlying22 ty64 rfl e5_7 rfl (nth_in q5_7)) (sw0 []) ?_
      have h5_8 := TunnelPart.at_Heat h5_7
      refine dt 8 511 rfl trivial (y_fieldAddr fo64_0 rfl) (sw0 []) ?_
      have h5_9 := PAt.arrZ 1 rfl h5_8 q5_9
      have k5_9 := PAt.arrIn h5_8 q5_9
      refine dt 9 1023 rfl trivial (y_index_arrp Tryd.underlying62 ty3 rfl rfl k5_9) (sw0 []) ?_
      refine dt 10 2047 rfl trivial (y_load_int ty3 rfl (fun _ h => h.1) rfl h5_9) (sw0 []) ?_
      have h5_11 := TunnelBook.at_Parts hb0_0
      refine dt 11 4095 rfl trivial (y_fieldAddr fo25_0 rfl) (sw0 []) ?_
      obtain ⟨v5_12, h5_12, c5_12⟩ := PAt.sl h5_11
      refine dt 12 8191 rfl trivial (y_load_one ty22 rfl (fun _ h => h.1) rfl c5_12) (sw0 []) ?_
      refine dt 13 16383 rfl trivial (y_move rfl) (sw0 []) ?_
      obtain ⟨b5_14, o5_14, c5_14, e5_14, h5_14⟩ := Sl.elemZ 6 rfl h5_12 q5_14
      refine dt 14 32767 rfl trivial (y_index Tryd.underlying22 ty64 rfl e5_14 rfl (nth_in q5_14)) (sw0 []) ?_
      have h5_15 := TunnelPart.at_Damp h5_14
      refine dt 15 65535 rfl trivial (y_fieldAddr fo64_1 rfl) (sw0 []) ?_
      have h5_16 := Span.at_Low h5_15
      refine dt 16 131071 rfl trivial (y_fieldAddr fo32_0 rfl) (sw0 []) ?_
      refine dt 17 262143 rfl trivial (y_load_int ty3 rfl (fun _ h => h.1) rfl h5_16) (sw0 []) ?_
      refine dt 18 524287 rfl trivial (y_sub rfl rfl) (sw0 []) ?_
      refine dt 19 1048575 rfl trivial (y_assign rfl) (sw0 []) ?_
      refine d_done (by kernel_rfl) ?_
      refine a_en [(1, v1), (3, .pointer (some ⟨b0_0, 0, none⟩)), (5, .pointer (some ⟨b0_1, 0, none⟩)), (7, .int .i64 yj2_7), (8, .int .i64 yj2_8), (9, .int .i64 (IntKind.i64.wrap (x5_9 - x5_14.Damp.Low)))] ?_
      refine a_then ?_
      refine a_seq ?_
      refine a_region rfl ?_
      refine ap (y_assign rfl) ?_
      refine a_nil ?_
      refine a_then ?_
      obtain ⟨s_j4, hs_j4, hm_j4⟩ := bind_some hm
      refine a_join (fun a_ w_ => ∃ (yj4_7 : Int), yj4_7 = s_j4 ∧ Ag 53 [] [(1, v1), (3, .pointer (some ⟨b0_0, 0, none⟩)), (5, .pointer (some ⟨b0_1, 0, none⟩)), (7, .int .i64 yj4_7), (8, .int .i64 yj2_8)] a_ ∧ St (Kp.mk w H noX) Hb0_0 [] w_) ?_ ?_
      · have hm := hs_j4
        refine a_block ?_
        refine a_loop (fun n_j5 a_ w_ => ∃ (yj5_7 : Int), ∃ (yj5_10 : Int), law03_dryness_lj5 k p2 yj2_8 x5_9 x5_14 n_j5 yj5_7 yj5_10 = some s_j4 ∧ Ag 53 [] [(1, v1), (3, .pointer (some ⟨b0_0, 0, none⟩)), (5, .pointer (some ⟨b0_1, 0, none⟩)), (7, .int .i64 yj5_7), (8, .int .i64 yj2_8), (9, .int .i64 (IntKind.i64.wrap (x5_9 - x5_14.Damp.Low))), (10, .int .i64 yj5_10)] a_ ∧ St (Kp.mk w H noX) Hb0_0 [] w_) k ?_ ?_
        · intro a_ w_ ha_ hs_
          exact ⟨yj2_7, 0, hm, ha_.weaken ⟨rfl, rfl, rfl, rfl, rfl, rfl, rfl, trivial⟩, hs_.reix [] (by decide)⟩
        rintro (_ | n_j5) a_ w_ ⟨yj5_7, yj5_10, hm, ha_, hs_⟩
        · rw [law03_dryness_lj5.eq_1] at hm; cases hm
        rw [law03_dryness_lj5.eq_2] at hm
        refine a_start ha_ hs_ ?_
        refine a_seq ?_
        refine a_seq ?_
        obtain ⟨s_j6, hs_j6, hm_j6⟩ := bind_some hm
        refine a_join (fun a_ w_ => ∃ (yj6_46 : Bool), yj6_46 = s_j6 ∧ Ag 53 [] [(1, v1), (3, .pointer (some ⟨b0_0, 0, none⟩)), (5, .pointer (some ⟨b0_1, 0, none⟩)), (7, .int .i64 yj5_7), (8, .int .i64 yj2_8), (9, .int .i64 (IntKind.i64.wrap (x5_9 - x5_14.Damp.Low))), (10, .int .i64 yj5_10), (46, .bool yj6_46)] a_ ∧ St (Kp.mk w H noX) Hb0_0 [] w_) ?_ ?_
        · have hm := hs_j6
          refine a_region rfl ?_
          refine ap (y_move rfl) ?_
          refine ap (y_gtr rfl rfl) ?_
          refine ap (y_move rfl) ?_
          rcases Bool.eq_false_or_eq_true (decide ((IntKind.i64.wrap (x5_9 - x5_14.Damp.Low)) > 0)) with k7_3 | k7_3
          · have hm := cond_t k7_3 hm
            refine ag ⟨_, _, rfl, rfl, k7_3⟩ (y_move rfl) ?_
            have h7_4 := TunnelFrame.at_Stay hb0_1
            refine ag ⟨_, _, rfl, rfl, k7_3⟩ (y_fieldAddr fo55_0 rfl) ?_
            obtain ⟨v7_5, h7_5, c7_5⟩ := PAt.sl h7_4
            refine ag ⟨_, _, rfl, rfl, k7_3⟩ (y_load_one ty26 rfl (fun _ h => h.sub) rfl c7_5) ?_
            refine ag ⟨_, _, rfl, rfl, k7_3⟩ (y_move rfl) ?_
            obtain ⟨x7_7, q7_7, hm⟩ := bind_some hm
            obtain ⟨b7_7, o7_7, c7_7, e7_7, h7_7⟩ := Sl.elemZ 1 rfl h7_5 q7_7
            refine ag ⟨_, _, rfl, rfl, k7_3⟩ (y_index Tryd.underlying26 ty3 rfl e7_7 rfl (nth_in q7_7)) ?_
            refine ag ⟨_, _, rfl, rfl, k7_3⟩ (y_load_int ty3 rfl (fun _ h => h.sub) rfl h7_7) ?_
            refine ag ⟨_, _, rfl, rfl, k7_3⟩ (y_lss rfl rfl) ?_
            refine ap (y_pick_t rfl k7_3 rfl) ?_
            refine a_nil ?_
            refine a_en [(1, v1), (3, .pointer (some ⟨b0_0, 0, none⟩)), (5, .pointer (some ⟨b0_1, 0, none⟩)), (7, .int .i64 yj5_7), (8, .int .i64 yj2_8), (9, .int .i64 (IntKind.i64.wrap (x5_9 - x5_14.Damp.Low))), (10, .int .i64 yj5_10), (39, .int .i64 yj5_10), (40, .pointer (some ⟨b0_1, 0 + 0, none⟩)), (41, v7_5), (42, .int .i64 yj2_8), (43, .pointer (some ⟨b7_7, o7_7 + (yj2_8).toNat * 1, none⟩)), (44, .int .i64 x7_7), (45, .bool (decide (yj5_10 < x7_7))), (46, .bool (decide (yj5_10 < x7_7)))] ?_
            refine a_cut ?_
            intro a_ w_ ha_ hs_
            exact ⟨decide (yj5_10 < x7_7), Option.some.inj hm, ha_.weaken ⟨rfl, rfl, rfl, rfl, rfl, rfl, rfl, rfl, trivial⟩, hs_.reix [] (by decide)⟩
          have hm := cond_f k7_3 hm
          refine as1 (sk1 rfl rfl k7_3) ?_
          refine as1 (sk1 rfl rfl k7_3) ?_
          refine as1 (sk1 rfl rfl k7_3) ?_
          refine as1 (sk1 rfl rfl k7_3) ?_
          refine as1 (sk1 rfl rfl k7_3) ?_
          refine as1 (sk1 rfl rfl k7_3) ?_
          refine as1 (sk1 rfl rfl k7_3) ?_
          refine ap (y_pick_f rfl k7_3 rfl) ?_
          refine a_nil ?_
          refine a_en [(1, v1), (3, .pointer (some ⟨b0_0, 0, none⟩)), (5, .pointer (some ⟨b0_1, 0, none⟩)), (7, .int .i64 yj5_7), (8, .int .i64 yj2_8), (9, .int .i64 (IntKind.i64.wrap (x5_9 - x5_14.Damp.Low))), (10, .int .i64 yj5_10), (39, undef), (40, undef), (41, undef), (42, undef), (43, undef), (44, undef), (45, undef), (46, .bool false)] ?_
          refine a_cut ?_
          intro a_ w_ ha_ hs_
          exact ⟨false, Option.some.inj hm, ha_.weaken ⟨rfl, rfl, rfl, rfl, rfl, rfl, rfl, rfl, trivial⟩, hs_.reix [] (by decide)⟩
        have hm := hm_j6
        rintro a_ w_ ⟨yj6_46, rfl, ha_, hs_⟩
        try dsimp only at hm
        refine a_start ha_ hs_ ?_
        refine a_then ?_
        refine a_cond rfl (fun k_7 => ?_) (fun k_7 => ?_)
        · have hm := cond_t k_7 hm
          refine a_skip ?_
          refine a_then ?_
          refine a_seq ?_
          refine a_block ?_
          refine a_region rfl ?_
          refine ap (y_move rfl) ?_
          refine ap (y_move rfl) ?_
          refine ap (y_add rfl rfl) ?_
          refine ap (y_assign rfl) ?_
          refine a_nil ?_
          refine a_en [(1, v1), (3, .pointer (some ⟨b0_0, 0, none⟩)), (5, .pointer (some ⟨b0_1, 0, none⟩)), (7, .int .i64 (IntKind.i64.wrap (yj5_7 + (IntKind.i64.wrap (x5_9 - x5_14.Damp.Low))))), (8, .int .i64 yj2_8), (9, .int .i64 (IntKind.i64.wrap (x5_9 - x5_14.Damp.Low))), (10, .int .i64 yj5_10)] ?_
          refine a_block_normal ?_
          refine a_then ?_
          refine a_region rfl ?_
          refine ap (y_move rfl) ?_
          refine ap (y_add rfl rfl) ?_
          refine ap (y_assign rfl) ?_
          refine a_nil ?_
          refine a_en [(1, v1), (3, .pointer (some ⟨b0_0, 0, none⟩)), (5, .pointer (some ⟨b0_1, 0, none⟩)), (7, .int .i64 (IntKind.i64.wrap (yj5_7 + (IntKind.i64.wrap (x5_9 - x5_14.Damp.Low))))), (8, .int .i64 yj2_8), (9, .int .i64 (IntKind.i64.wrap (x5_9 - x5_14.Damp.Low))), (10, .int .i64 (IntKind.i64.wrap (yj5_10 + 1)))] ?_
          refine a_then ?_
          intro a_ w_ ha_ hs_
          exact ⟨n_j5, Nat.lt_succ_self _, IntKind.i64.wrap (yj5_7 + (IntKind.i64.wrap (x5_9 - x5_14.Damp.Low))), IntKind.i64.wrap (yj5_10 + 1), hm, ha_.weaken ⟨rfl, rfl, rfl, rfl, rfl, rfl, rfl, trivial⟩, hs_.reix [] (by decide)⟩
        have hm := cond_f k_7 hm
        refine a_exit ?_
        refine a_then_exit ?_
        refine a_then_exit ?_
        refine a_block_hit ?_
        refine a_cut ?_
        intro a_ w_ ha_ hs_
        exact ⟨yj5_7, Option.some.inj hm, ha_.weaken ⟨rfl, rfl, rfl, rfl, rfl, trivial⟩, hs_.reix [] (by decide)⟩
      have hm := hm_j4
      rintro a_ w_ ⟨yj4_7, rfl, ha_, hs_⟩
      try dsimp only at hm
      refine a_start ha_ hs_ ?_
      refine a_block_normal ?_
      refine a_then ?_
      refine a_region rfl ?_
      refine ap (y_move rfl) ?_
      refine ap (y_add rfl rfl) ?_
      refine ap (y_assign rfl) ?_
      refine a_nil ?_
      refine a_en [(1, v1), (3, .pointer (some ⟨b0_0, 0, none⟩)), (5, .pointer (some ⟨b0_1, 0, none⟩)), (7, .int .i64 yj4_7), (8, .int .i64 (IntKind.i64.wrap (yj2_8 + 1)))] ?_
      refine a_then ?_
      intro a_ w_ ha_ hs_
      exact ⟨n_j2, Nat.lt_succ_self _, yj4_7, IntKind.i64.wrap (yj2_8 + 1), hm, ha_.weaken ⟨rfl, rfl, rfl, rfl, rfl, trivial⟩, hs_.reix [] (by decide)⟩
    have hm := cond_f k_3 hm
    refine a_exit ?_
    refine a_then_exit ?_
    refine a_then_exit ?_
    refine a_block_hit ?_
    refine a_cut ?_
    intro a_ w_ ha_ hs_
    exact ⟨yj2_7, Option.some.inj hm, ha_.weaken ⟨rfl, trivial⟩, hs_.reix [] (by decide)⟩
  have hm := hm_j1
  rintro a_ w_ ⟨yj1_7, rfl, ha_, hs_⟩
  try dsimp only at hm
  refine a_start ha_ hs_ ?_
  refine a_then ?_
  refine a_seq ?_
  refine a_region rfl ?_
  refine ap (y_move rfl) ?_
  refine ap (y_assign rfl) ?_
  refine a_nil ?_
  refine a_en [(6, .int .i64 yj1_7)] ?_
  refine a_then ?_
  refine a_ret ?_
  refine a_done (v := .int .i64 yj1_7) (.inl rfl) rfl ?_ ?_
  · intro a_ w_ ha_ hs_; exact run_results (P := Tryd.prog) (fn := Tryd.f47) (rs := [.tmp 6]) (vs := [.int .i64 yj1_7]) rfl (.cons (rv_tmp ha_ rfl) (All2.nil))
  · intro _ _; obtain rfl := Option.some.inj hm
    rfl

def ref00_Has (k : Nat) (p0 : Span) (p1 : Int) : Option Bool :=
 (ref00_Fits k p1 p0.Low p0.High).bind fun x1_5 =>
 some (x1_5)
theorem ok_48 {k : Nat} {H : Hp} {w : World} {p0 : Span} {p1 : Int} {c0 : List Value} {r : Bool} (hsub : Sub H w) (h0 : Rp.rep (α := Span) H c0 p0) (hm : ref00_Has k p0 p1 = some r) : Calls Tryd.prog 48 [.agg c0.toArray, .int .i64 p1].toArray w (PostV w H (.bool r)) := by
  unfold ref00_Has at hm
  refine start (n := 11) (E := [(0, .agg c0.toArray), (1, .int .i64 p1)]) Tryd.func48 rfl rfl ⟨rfl, rfl, trivial⟩ rfl hsub ?_
  refine a_seq ?_
  refine a_region rfl ?_
  refine a_cons (e_box (cs := c0) trivial rfl rfl rfl ?_)
  intro b0_0
  refine ap (y_assign rfl) ?_
  refine a_nil ?_
  refine a_freeze (α := Span) (x := p0) (i := 0) rfl h0 ?_
  intro Hb0_0 lb0_0 hb0_0
  have h0 := Rp.mono lb0_0 h0
  refine a_en [(1, .int .i64 p1), (2, .pointer (some ⟨b0_0, 0, none⟩))] ?_
  refine a_own [] (by decide) (L' := []) rfl ?_
  refine a_then ?_
  refine a_seq ?_
  refine a_region rfl ?_
  refine ap (y_move rfl) ?_
  have h1_1 := Span.at_Low hb0_0
  refine ap (y_fieldAddr fo32_0 rfl) ?_
  refine ap (y_load_int ty3 rfl (fun _ h => h.sub) rfl h1_1) ?_
  have h1_3 := Span.at_High hb0_0
  refine ap (y_fieldAddr fo32_1 rfl) ?_
  refine ap (y_load_int ty3 rfl (fun _ h => h.sub) rfl h1_3) ?_
  obtain ⟨x1_5, q1_5, hm⟩ := bind_some hm
  refine a_cons (e_callV (all := [.int .i64 p1, .int .i64 p0.Low, .int .i64 p0.High]) (v := .bool x1_5) trivial rfl Tryd.func50 rfl rfl rfl rfl rfl (fun w hw => ok_50 hw q1_5) ?_)
  refine ap (y_assign rfl) ?_
  refine a_nil ?_
  refine a_en [(4, .bool x1_5)] ?_
  refine a_then ?_
  refine a_ret ?_
  refine a_done (v := .bool x1_5) (.inl rfl) rfl ?_ ?_
  · intro a_ w_ ha_ hs_; exact run_results (P := Tryd.prog) (fn := Tryd.f48) (rs := [.tmp 4]) (vs := [.bool x1_5]) rfl (.cons (rv_tmp ha_ rfl) (All2.nil))
  · intro _ _; obtain rfl := Option.some.inj hm
    rfl

def ref00_Index_lj2 (k : Nat) (p0 : List Int) (p1 : Int) : Nat → Int → Option (Sum Int Unit)
 | 0, _ => none
 | n_j2 + 1, yj2_5 =>
 bif decide (yj2_5 < (p0.length : Int)) then
 (nth p0 yj2_5).bind fun x4_2 =>
 bif x4_2 == p1 then
 some (Sum.inl yj2_5)
 else
 ref00_Index_lj2 k p0 p1 n_j2 (IntKind.i64.wrap (yj2_5 + 1))
 else
 some (Sum.inr ())
def ref00_Index (k : Nat) (p0 : List Int) (p1 : Int) : Option Int :=
 (ref00_Index_lj2 k p0 p1 k 0).bind fun o => (match o with
 | .inl r => some r
 | .inr _ =>
 some ((-1)))
theorem ok_49 {k : Nat} {H : Hp} {w : World} {p0 : List Int} {p1 : Int} {v0 : Value} {r : Int} (hsub : Sub H w) (h0 : Sl (α := Int) H v0 p0) (hm : ref00_Index k p0 p1 = some r) : Calls Tryd.prog 49 [v0, .int .i64 p1].toArray w (PostV w H (.int .i64 r)) := by
  unfold ref00_Index at hm
  refine start (n := 19) (E := [(0, v0), (1, .int .i64 p1)]) Tryd.func49 rfl rfl ⟨rfl, rfl, trivial⟩ rfl hsub ?_
  refine a_seq ?_
  refine a_region rfl ?_
  refine ap (y_assign rfl) ?_
  refine a_nil ?_
  refine a_en [(0, v0), (1, .int .i64 p1)] ?_
  refine a_then ?_
  refine a_seq ?_
  refine a_seq ?_
  refine a_region rfl ?_
  refine ap (y_assign rfl) ?_
  refine a_nil ?_
  refine a_then ?_
  obtain ⟨s_j1, hs_j1, hm_j1⟩ := bind_some hm
  refine a_join (fun a_ w_ => Sum.inr () = s_j1 ∧ Ag 19 [] [] a_ ∧ St (Kp.mk w H noX) H [] w_) ?_ ?_
  · have hm := hs_j1
    refine a_block ?_
    refine a_loop (fun n_j2 a_ w_ => ∃ (yj2_5 : Int), ref00_Index_lj2 k p0 p1 n_j2 yj2_5 = some s_j1 ∧ Ag 19 [] [(0, v0), (1, .int .i64 p1), (5, .int .i64 yj2_5)] a_ ∧ St (Kp.mk w H noX) H [] w_) k ?_ ?_
    · intro a_ w_ ha_ hs_
      exact ⟨0, hm, ha_.weaken ⟨rfl, rfl, rfl, trivial⟩, hs_.reix [] (by decide)⟩
    rintro (_ | n_j2) a_ w_ ⟨yj2_5, hm, ha_, hs_⟩
    · rw [ref00_Index_lj2.eq_1] at hm; cases hm
    rw [ref00_Index_lj2.eq_2] at hm
    refine a_start ha_ hs_ ?_
    refine a_seq ?_
    refine a_seq ?_
    refine a_region rfl ?_
    refine ap (y_move rfl) ?_
    refine ap (y_move rfl) ?_
    refine ap (y_len_sl Tryd.underlying26 rfl h0) ?_
    refine ap (y_lss rfl rfl) ?_
    refine a_nil ?_
    refine a_en [(0, v0), (1, .int .i64 p1), (5, .int .i64 yj2_5), (9, .bool (decide (yj2_5 < (p0.length : Int))))] ?_
    refine a_then ?_
    refine a_cond rfl (fun k_3 => ?_) (fun k_3 => ?_)
    · have hm := cond_t k_3 hm
      refine a_skip ?_
      refine a_then ?_
      refine a_seq ?_
      refine a_block ?_
      refine a_seq ?_
      refine a_region rfl ?_
      refine ap (y_move rfl) ?_
      refine ap (y_move rfl) ?_
      obtain ⟨x4_2, q4_2, hm⟩ := bind_some hm
      obtain ⟨b4_2, o4_2, c4_2, e4_2, h4_2⟩ := Sl.elemZ 1 rfl h0 q4_2
      refine ap (y_index Tryd.underlying26 ty3 rfl e4_2 rfl (nth_in q4_2)) ?_
      refine ap (y_load_int ty3 rfl (fun _ h => h.sub) rfl h4_2) ?_
      refine ap (y_move rfl) ?_
      refine ap (y_eql rfl rfl) ?_
      refine a_nil ?_
      refine a_en [(0, v0), (1, .int .i64 p1), (5, .int .i64 yj2_5), (17, .bool (x4_2 == p1))] ?_
      refine a_then ?_
      refine a_cond rfl (fun k_4 => ?_) (fun k_4 => ?_)
      · have hm := cond_t k_4 hm
        refine a_seq ?_
        refine a_region rfl ?_
        refine ap (y_move rfl) ?_
        refine ap (y_assign rfl) ?_
        refine a_nil ?_
        refine a_en [(4, .int .i64 yj2_5)] ?_
        refine a_then ?_
        refine a_ret ?_
        refine a_block_ret ?_
        refine a_then_ret ?_
        refine a_then_ret ?_
        refine a_block_ret ?_
        refine a_cut_ret ?_
        refine a_then_ret ?_
        obtain rfl := Option.some.inj hm
        have hm := hm_j1
        try dsimp only at hm
        refine a_done (v := .int .i64 yj2_5) (.inl rfl) rfl ?_ ?_
        · intro a_ w_ ha_ hs_; exact run_results (P := Tryd.prog) (fn := Tryd.f49) (rs := [.tmp 4]) (vs := [.int .i64 yj2_5]) rfl (.cons (rv_tmp ha_ rfl) (All2.nil))
        · intro _ _; obtain rfl := Option.some.inj hm
          rfl
      have hm := cond_f k_4 hm
      refine a_skip ?_
      refine a_block_normal ?_
      refine a_then ?_
      refine a_region rfl ?_
      refine ap (y_move rfl) ?_
      refine ap (y_add rfl rfl) ?_
      refine ap (y_assign rfl) ?_
      refine a_nil ?_
      refine a_en [(0, v0), (1, .int .i64 p1), (5, .int .i64 (IntKind.i64.wrap (yj2_5 + 1)))] ?_
      refine a_then ?_
      intro a_ w_ ha_ hs_
      exact ⟨n_j2, Nat.lt_succ_self _, IntKind.i64.wrap (yj2_5 + 1), hm, ha_.weaken ⟨rfl, rfl, rfl, trivial⟩, hs_.reix [] (by decide)⟩
    have hm := cond_f k_3 hm
    refine a_exit ?_
    refine a_then_exit ?_
    refine a_then_exit ?_
    refine a_block_hit ?_
    refine a_cut ?_
    intro a_ w_ ha_ hs_
    exact ⟨Option.some.inj hm, ha_.weaken trivial, hs_.reix [] (by decide)⟩
  have hm := hm_j1
  rintro a_ w_ ⟨rfl, ha_, hs_⟩
  try dsimp only at hm
  refine a_start ha_ hs_ ?_
  refine a_then ?_
  refine a_seq ?_
  refine a_region rfl ?_
  refine ap (y_assign rfl) ?_
  refine a_nil ?_
  refine a_then ?_
  refine a_ret ?_
  refine a_done (v := .int .i64 (-1)) (.inl rfl) rfl ?_ ?_
  · intro a_ w_ ha_ hs_; exact run_results (P := Tryd.prog) (fn := Tryd.f49) (rs := [.tmp 4]) (vs := [.int .i64 (-1)]) rfl (.cons (rv_tmp ha_ rfl) (All2.nil))
  · intro _ _; obtain rfl := Option.some.inj hm
    rfl

def law03_TunnelTrue_lj11 (k : Nat) (x5_1 : (List Int) × Int) : Nat → Int → Option (Sum Bool Unit)
 | 0, _ => none
 | n_j11 + 1, yj11_20 =>
 bif decide (yj11_20 < (x5_1.1.length : Int)) then
 (nth x5_1.1 yj11_20).bind fun x21_2 =>
 (ref00_Fits k x21_2 0 3).bind fun x21_4 =>
 bif !x21_4 then
 some (Sum.inl false)
 else
 law03_TunnelTrue_lj11 k x5_1 n_j11 (IntKind.i64.wrap (yj11_20 + 1))
 else
 some (Sum.inr ())
def law03_TunnelTrue_lj5 (k : Nat) (p0 : TunnelBook) (x3_2 : TunnelBook) (x3_5 : List Int) (x4_2 : (List Int) × Int) (x5_1 : (List Int) × Int) : Nat → Int → Option (Sum Bool Unit)
 | 0, _ => none
 | n_j5 + 1, yj5_13 =>
 bif decide (yj5_13 < (p0.Frames.length : Int)) then
 (nth p0.Frames yj5_13).bind fun x11_3 =>
 (law03_dryness k x3_2 x3_5 x11_3).bind fun x12_3 =>
 (tunnel_Dries k p0 x3_5 yj5_13).bind fun x13_3 =>
 (tunnel_Kind k p0 x3_5 yj5_13).bind fun x14_3 =>
 (bif x13_3.2 != 0 then
 some (true)
 else
 bif x14_3.2 != 0 then
 some (true)
 else
 (ref00_Has k x13_3.1 x12_3).bind fun x15_9 =>
 bif !x15_9 then
 some (true)
 else
 (ref00_Index k x4_2.1 yj5_13).bind fun x15_15 =>
 bif (decide (x15_15 ≥ 0)) != (x14_3.1 == 0) then
 some (true)
 else
 bif decide (x12_3 < x11_3.Need.Low) then
 (rem x14_3.1 2).bind fun x15_29 =>
 bif x15_29 == 0 then
 some (true)
 else
 bif decide (x12_3 > x11_3.Need.High) then
 some ((decide (x14_3.1 < 2)))
 else
 some (false)
 else
 bif decide (x12_3 > x11_3.Need.High) then
 some ((decide (x14_3.1 < 2)))
 else
 some (false)).bind fun yj7_150 =>
 bif yj7_150 then
 some (Sum.inl false)
 else
 bif x5_1.2 != 0 then
 law03_TunnelTrue_lj5 k p0 x3_2 x3_5 x4_2 x5_1 n_j5 (IntKind.i64.wrap (yj5_13 + 1))
 else
 (law03_TunnelTrue_lj11 k x5_1 k 0).bind fun o => (match o with
 | .inl r => some (Sum.inl r)
 | .inr _ =>
 (law03_dryness k x3_2 x5_1.1 x11_3).bind fun x23_5 =>
 (ref00_Has k x11_3.Need x23_5).bind fun x23_6 =>
 bif !x23_6 then
 some (Sum.inl false)
 else
 law03_TunnelTrue_lj5 k p0 x3_2 x3_5 x4_2 x5_1 n_j5 (IntKind.i64.wrap (yj5_13 + 1)))
 else
 some (Sum.inr ())
def law03_TunnelTrue (k : Nat) (p0 : TunnelBook) (p1 : List Int) (p2 : List Int) : Option Bool :=
 (law03_sound k p0).bind fun x1_1 =>
 bif !x1_1 then
 (law03_warmed k).bind fun x2_0 =>
 some (x2_0)
 else
 (law03_truly k p0 p1).bind fun x3_2 =>
 (law03_setting k p0 p2).bind fun x3_5 =>
 (tunnel_Good k p0 x3_5).bind fun x4_2 =>
 (tunnel_Best k p0).bind fun x5_1 =>
 (bif x4_2.2 != 0 then
 some (true)
 else
 (ref00_Grows k x4_2.1 (p0.Frames.length : Int)).bind fun x6_7 =>
 bif !x6_7 then
 some (true)
 else
 bif x5_1.2 != 0 then
 bif x5_1.2 != 4 then
 some (true)
 else
 bif (x5_1.1.length : Int) != 0 then
 some (true)
 else
 bif x5_1.2 == 0 then
 some (((x5_1.1.length : Int) != (p0.Parts.length : Int)))
 else
 some (false)
 else
 bif x5_1.2 == 0 then
 some (((x5_1.1.length : Int) != (p0.Parts.length : Int)))
 else
 some (false)).bind fun yj2_76 =>
 bif yj2_76 then
 some (false)
 else
 (law03_TunnelTrue_lj5 k p0 x3_2 x3_5 x4_2 x5_1 k 0).bind fun o => (match o with
 | .inl r => some r
 | .inr _ =>
 (law03_warmed k).bind fun x25_0 =>
 some (x25_0))
theorem ok_6 {k : Nat} {H : Hp} {w : World} {p0 : TunnelBook} {p1 : List Int} {p2 : List Int} {c0 : List Value} {v1 : Value} {v2 : Value} {r : Bool} (hsub : Sub H w) (h0 : Rp.rep (α := TunnelBook) H c0 p0) (h1 : Sl (α := Int) H v1 p1) (h2 : Sl (α := Int) H v2 p2) (hg : Glob H) (hm : law03_TunnelTrue k p0 p1 p2 = some r) : Calls Tryd.prog 6 [.agg c0.toArray, v1, v2].toArray w (PostV w H (.bool r)) := by
  unfold law03_TunnelTrue at hm
  refine start (n := 174) (E := [(0, .agg c0.toArray), (1, v1), (2, v2)]) Tryd.func6 rfl rfl ⟨rfl, rfl, rfl, trivial⟩ rfl hsub ?_
  refine a_seq ?_
  refine a_region rfl ?_
  refine a_cons (e_box (cs := c0) trivial rfl rfl rfl ?_)
  intro b0_0
  refine ap (y_assign rfl) ?_
  refine a_nil ?_
  refine a_freeze (α := TunnelBook) (x := p0) (i := 0) rfl h0 ?_
  intro Hb0_0 lb0_0 hb0_0
  have h0 := Rp.mono lb0_0 h0
  have h1 := Sl.mono lb0_0 h1
  have h2 := Sl.mono lb0_0 h2
  have hg := Glob.mono lb0_0 hg
  refine a_en [(1, v1), (2, v2), (3, .pointer (some ⟨b0_0, 0, none⟩))] ?_
  refine a_own [] (by decide) (L' := []) rfl ?_
  refine a_then ?_
  refine a_seq ?_
  refine a_seq ?_
  refine a_region rfl ?_
  obtain ⟨u1_0, h1_0, c1_0⟩ := PAt.one hb0_0
  refine ap (y_load_cells ty25 rfl (fun _ h => h.sub) rfl c1_0 (Rp.len h1_0)) ?_
  obtain ⟨x1_1, q1_1, hm⟩ := bind_some hm
  refine a_cons (e_callV (all := [.agg u1_0.toArray]) (v := .bool x1_1) trivial rfl Tryd.func43 rfl rfl rfl rfl rfl (fun w hw => ok_43 hw h1_0 q1_1) ?_)
  refine ap (y_not rfl) ?_
  refine a_nil ?_
  refine a_en [(1, v1), (2, v2), (3, .pointer (some ⟨b0_0, 0, none⟩)), (23, .bool (!x1_1))] ?_
  refine a_then ?_
  refine a_cond rfl (fun k_1 => ?_) (fun k_1 => ?_)
  · have hm := cond_t k_1 hm
    refine a_seq ?_
    refine a_region rfl ?_
    obtain ⟨x2_0, q2_0, hm⟩ := bind_some hm
    refine a_cons (e_callV (all := []) (v := .bool x2_0) trivial rfl Tryd.func30 rfl rfl rfl rfl rfl (fun w hw => ok_30 hw hg q2_0) ?_)
    refine ap (y_assign rfl) ?_
    refine a_nil ?_
    refine a_en [(6, .bool x2_0)] ?_
    refine a_then ?_
    refine a_ret ?_
    refine a_then_ret ?_
    refine a_done (v := .bool x2_0) (.inl rfl) rfl ?_ ?_
    · intro a_ w_ ha_ hs_; exact run_results (P := Tryd.prog) (fn := Tryd.f6) (rs := [.tmp 6]) (vs := [.bool x2_0]) rfl (.cons (rv_tmp ha_ rfl) (All2.nil))
    · intro _ _; obtain rfl := Option.some.inj hm
      rfl
  have hm := cond_f k_1 hm
  refine a_skip ?_
  refine a_then ?_
  refine a_seq ?_
  obtain ⟨x3_2, q3_2, hm⟩ := bind_some hm
  obtain ⟨x3_5, q3_5, hm⟩ := bind_some hm
  refine d_region (S := Sw Hb0_0 []) (n := 9) (listed := (bits 9 0)) mixed (by kernel_rfl) rfl (by kernel_rfl) ?_
  refine d_abs fun U3 hU3 => ?_
  have N3_0 (Hn3_5 : Hp) (ln3_5 : HLe Hb0_0 Hn3_5) (b3_6 : Nat) (v3_5r0 : Value) (c3_2r0 : List Value) (h3_5r0 : Sl (α := Int) Hn3_5 v3_5r0 x3_5) (h3_2r0 : Rp.rep (α := TunnelBook) Hn3_5 c3_2r0 x3_2) : At 174 [] (Kp.mk w H noX) [(3, .pointer (some ⟨b0_0, 0, none⟩)), (7, .pointer (some ⟨b3_6, 0, none⟩)), (30, v3_5r0)] Hn3_5 [.box b3_6 c3_2r0 25] (U3 (Sw Hn3_5 []) 1 (bits 9 255)) := by
    refine d_fwd hU3 ?_
    have hb0_0 := PAt.mono ln3_5 hb0_0
    have hg := Glob.mono ln3_5 hg
    refine dt 8 511 rfl trivial (y_assign rfl) (sw0 []) ?_
    refine d_done (by kernel_rfl) ?_
    refine a_freeze (α := TunnelBook) (x := x3_2) (i := 0) rfl h3_2r0 ?_
    intro Hb3_6 lb3_6 hb3_6
    have hb0_0 := PAt.mono lb3_6 hb0_0
    have h3_5r0 := Sl.mono lb3_6 h3_5r0
    have hg := Glob.mono lb3_6 hg
    refine a_en [(3, .pointer (some ⟨b0_0, 0, none⟩)), (7, .pointer (some ⟨b3_6, 0, none⟩)), (8, v3_5r0)] ?_
    refine a_own [] (by decide) (L' := []) rfl ?_
    refine a_then ?_
    refine a_seq ?_
    refine a_region rfl ?_
    obtain ⟨u4_0, h4_0, c4_0⟩ := PAt.one hb0_0
    refine ap (y_load_cells ty25 rfl (fun _ h => h.sub) rfl c4_0 (Rp.len h4_0)) ?_
    refine ap (y_move rfl) ?_
    obtain ⟨x4_2, q4_2, hm⟩ := bind_some hm
    refine a_cons (e_callH (all := [.agg u4_0.toArray, v3_5r0]) trivial rfl Tryd.func27 rfl rfl rfl rfl rfl (fun w hw => ok_27 hw h4_0 h3_5r0 hg q4_2) ?_)
    rintro _ H4_2 l4_2 ⟨v4_2r0, rfl, h4_2r0⟩
    have hb0_0 := PAt.mono l4_2 hb0_0
    have hb3_6 := PAt.mono l4_2 hb3_6
    have h3_5r0 := Sl.mono l4_2 h3_5r0
    have h4_0 := Rp.mono l4_2 h4_0
    have hg := Glob.mono l4_2 hg
    refine ap (y_move rfl) ?_
    refine ap (y_extract rfl rfl) ?_
    refine ap (y_extract rfl rfl) ?_
    refine ap (y_assign rfl) ?_
    refine ap (y_assign rfl) ?_
    refine a_nil ?_
    refine a_en [(3, .pointer (some ⟨b0_0, 0, none⟩)), (7, .pointer (some ⟨b3_6, 0, none⟩)), (8, v3_5r0), (9, v4_2r0), (10, .int .i64 x4_2.2)] ?_
    refine a_then ?_
    refine a_seq ?_
    refine a_region rfl ?_
    obtain ⟨u5_0, h5_0, c5_0⟩ := PAt.one hb0_0
    refine ap (y_load_cells ty25 rfl (fun _ h => h.sub) rfl c5_0 (Rp.len h5_0)) ?_
    obtain ⟨x5_1, q5_1, hm⟩ := bind_some hm
    refine a_cons (e_callH (all := [.agg u5_0.toArray]) trivial rfl Tryd.func31 rfl rfl rfl rfl rfl (fun w hw => ok_31 hw h5_0 hg q5_1) ?_)
    rintro _ H5_1 l5_1 ⟨v5_1r0, rfl, h5_1r0⟩
    have hb0_0 := PAt.mono l5_1 hb0_0
    have hb3_6 := PAt.mono l5_1 hb3_6
    have h3_5r0 := Sl.mono l5_1 h3_5r0
    have h4_2r0 := Sl.mono l5_1 h4_2r0
    have h5_0 := Rp.mono l5_1 h5_0
    have hg := Glob.mono l5_1 hg
    refine ap (y_move rfl) ?_
    refine ap (y_extract rfl rfl) ?_
    refine ap (y_extract rfl rfl) ?_
    refine ap (y_assign rfl) ?_
    refine ap (y_assign rfl) ?_
    refine a_nil ?_
    refine a_en [(3, .pointer (some ⟨b0_0, 0, none⟩)), (7, .pointer (some ⟨b3_6, 0, none⟩)), (8, v3_5r0), (9, v4_2r0), (10, .int .i64 x4_2.2), (11, v5_1r0), (12, .int .i64 x5_1.2)] ?_
    refine a_then ?_
    refine a_seq ?_
    refine a_seq ?_
    obtain ⟨s_j2, hs_j2, hm_j2⟩ := bind_some hm
    refine a_join (fun a_ w_ => ∃ (yj2_76 : Bool), yj2_76 = s_j2 ∧ Ag 174 [] [(3, .pointer (some ⟨b0_0, 0, none⟩)), (7, .pointer (some ⟨b3_6, 0, none⟩)), (8, v3_5r0), (9, v4_2r0), (11, v5_1r0), (12, .int .i64 x5_1.2), (76, .bool yj2_76)] a_ ∧ St (Kp.mk w H noX) H5_1 [] w_) ?_ ?_
    · have hm := hs_j2
      refine a_region rfl ?_
      refine ap (y_move rfl) ?_
      refine ap (y_neq rfl rfl) ?_
      refine ap (y_move rfl) ?_
      rcases Bool.eq_false_or_eq_true (x4_2.2 != 0) with k6_3 | k6_3
      · have hm := cond_t k6_3 hm
        refine as1 (sk1 rfl rfl k6_3) ?_
        refine as1 (sk1 rfl rfl k6_3) ?_
        refine as1 (sk1 rfl rfl k6_3) ?_
        refine as1 (sk1 rfl rfl k6_3) ?_
        refine as1 (sk1 rfl rfl k6_3) ?_
        refine as1 (sk1 rfl rfl k6_3) ?_
        refine ap (y_pick_t rfl k6_3 rfl) ?_
        refine ap (y_move rfl) ?_
        refine as1 (sk1 rfl rfl rfl) ?_
        refine as1 (sk1 rfl rfl rfl) ?_
        refine as1 (sk1 rfl rfl rfl) ?_
        refine as1 (sku rfl rfl) ?_
        refine as1 (sku rfl rfl) ?_
        refine as1 (sku rfl rfl) ?_
        refine as1 (sku rfl rfl) ?_
        refine as1 (sku rfl rfl) ?_
        refine as1 (sku rfl rfl) ?_
        refine as1 (sku rfl rfl) ?_
        refine as1 (sk1 rfl rfl rfl) ?_
        refine ap (y_pick_t rfl rfl rfl) ?_
        refine ap (y_move rfl) ?_
        refine as1 (sk1 rfl rfl rfl) ?_
        refine as1 (sk1 rfl rfl rfl) ?_
        refine as1 (sk1 rfl rfl rfl) ?_
        refine as1 (sku rfl rfl) ?_
        refine as1 (sku rfl rfl) ?_
        refine as1 (sku rfl rfl) ?_
        refine as1 (sku rfl rfl) ?_
        refine as1 (sku rfl rfl) ?_
        refine as1 (sku rfl rfl) ?_
        refine as1 (sk1 rfl rfl rfl) ?_
        refine ap (y_pick_t rfl rfl rfl) ?_
        refine a_nil ?_
        refine a_en [(3, .pointer (some ⟨b0_0, 0, none⟩)), (7, .pointer (some ⟨b3_6, 0, none⟩)), (8, v3_5r0), (9, v4_2r0), (11, v5_1r0), (12, .int .i64 x5_1.2), (76, .bool true)] ?_
        refine a_cut ?_
        intro a_ w_ ha_ hs_
        exact ⟨true, Option.some.inj hm, ha_.weaken ⟨rfl, rfl, rfl, rfl, rfl, rfl, rfl, trivial⟩, hs_.reix [] (by decide)⟩
      have hm := cond_f k6_3 hm
      refine ag ⟨_, _, rfl, rfl, k6_3⟩ (y_move rfl) ?_
      have h6_4 := TunnelBook.at_Frames hb0_0
      refine ag ⟨_, _, rfl, rfl, k6_3⟩ (y_fieldAddr fo25_1 rfl) ?_
      obtain ⟨v6_5, h6_5, c6_5⟩ := PAt.sl h6_4
      refine ag ⟨_, _, rfl, rfl, k6_3⟩ (y_load_one ty23 rfl (fun _ h => h.sub) rfl c6_5) ?_
      refine ag ⟨_, _, rfl, rfl, k6_3⟩ (y_len_sl Tryd.underlying23 rfl h6_5) ?_
      obtain ⟨x6_7, q6_7, hm⟩ := bind_some hm
      refine a_cons (e_callV (all := [v4_2r0, .int .i64 (p0.Frames.length : Int)]) (v := .bool x6_7) ⟨_, _, rfl, rfl, k6_3⟩ rfl Tryd.func46 rfl rfl rfl rfl rfl (fun w hw => ok_46 hw h4_2r0 q6_7) ?_)
      refine ag ⟨_, _, rfl, rfl, k6_3⟩ (y_not rfl) ?_
      refine ap (y_pick_f rfl k6_3 rfl) ?_
      refine ap (y_move rfl) ?_
      rcases Bool.eq_false_or_eq_true (!x6_7) with k6_11 | k6_11
      · have hm := cond_t k6_11 hm
        refine as1 (sk1 rfl rfl k6_11) ?_
        refine as1 (sk1 rfl rfl k6_11) ?_
        refine as1 (sk1 rfl rfl k6_11) ?_
        refine as1 (sku rfl rfl) ?_
        refine as1 (sku rfl rfl) ?_
        refine as1 (sku rfl rfl) ?_
        refine as1 (sku rfl rfl) ?_
        refine as1 (sku rfl rfl) ?_
        refine as1 (sku rfl rfl) ?_
        refine as1 (sku rfl rfl) ?_
        refine as1 (sk1 rfl rfl k6_11) ?_
        refine ap (y_pick_t rfl k6_11 rfl) ?_
        refine ap (y_move rfl) ?_
        refine as1 (sk1 rfl rfl rfl) ?_
        refine as1 (sk1 rfl rfl rfl) ?_
        refine as1 (sk1 rfl rfl rfl) ?_
        refine as1 (sku rfl rfl) ?_
        refine as1 (sku rfl rfl) ?_
        refine as1 (sku rfl rfl) ?_
        refine as1 (sku rfl rfl) ?_
        refine as1 (sku rfl rfl) ?_
        refine as1 (sku rfl rfl) ?_
        refine as1 (sk1 rfl rfl rfl) ?_
        refine ap (y_pick_t rfl rfl rfl) ?_
        refine a_nil ?_
        refine a_en [(3, .pointer (some ⟨b0_0, 0, none⟩)), (7, .pointer (some ⟨b3_6, 0, none⟩)), (8, v3_5r0), (9, v4_2r0), (11, v5_1r0), (12, .int .i64 x5_1.2), (76, .bool true)] ?_
        refine a_cut ?_
        intro a_ w_ ha_ hs_
        exact ⟨true, Option.some.inj hm, ha_.weaken ⟨rfl, rfl, rfl, rfl, rfl, rfl, rfl, trivial⟩, hs_.reix [] (by decide)⟩
      have hm := cond_f k6_11 hm
      refine ag ⟨_, _, rfl, rfl, k6_11⟩ (y_move rfl) ?_
      refine ag ⟨_, _, rfl, rfl, k6_11⟩ (y_neq rfl rfl) ?_
      refine ag ⟨_, _, rfl, rfl, k6_11⟩ (y_move rfl) ?_
      rcases Bool.eq_false_or_eq_true (x5_1.2 != 0) with k6_14 | k6_14
      · have hm := cond_t k6_14 hm
        refine ag ⟨_, _, rfl, rfl, k6_14⟩ (y_move rfl) ?_
        refine ag ⟨_, _, rfl, rfl, k6_14⟩ (y_neq rfl rfl) ?_
        refine ag ⟨_, _, rfl, rfl, k6_14⟩ (y_move rfl) ?_
        rcases Bool.eq_false_or_eq_true (x5_1.2 != 4) with k6_17 | k6_17
        · have hm := cond_t k6_17 hm
          refine as1 (sk1 rfl rfl k6_17) ?_
          refine as1 (sk1 rfl rfl k6_17) ?_
          refine as1 (sk1 rfl rfl k6_17) ?_
          refine ag ⟨_, _, rfl, rfl, k6_14⟩ (y_pick_t rfl k6_17 rfl) ?_
          refine ag ⟨_, _, rfl, rfl, k6_11⟩ (y_pick_t rfl k6_14 rfl) ?_
          refine ap (y_pick_f rfl k6_11 rfl) ?_
          refine ap (y_move rfl) ?_
          refine as1 (sk1 rfl rfl rfl) ?_
          refine as1 (sk1 rfl rfl rfl) ?_
          refine as1 (sk1 rfl rfl rfl) ?_
          refine as1 (sku rfl rfl) ?_
          refine as1 (sku rfl rfl) ?_
          refine as1 (sku rfl rfl) ?_
          refine as1 (sku rfl rfl) ?_
          refine as1 (sku rfl rfl) ?_
          refine as1 (sku rfl rfl) ?_
          refine as1 (sk1 rfl rfl rfl) ?_
          refine ap (y_pick_t rfl rfl rfl) ?_
          refine a_nil ?_
          refine a_en [(3, .pointer (some ⟨b0_0, 0, none⟩)), (7, .pointer (some ⟨b3_6, 0, none⟩)), (8, v3_5r0), (9, v4_2r0), (11, v5_1r0), (12, .int .i64 x5_1.2), (76, .bool true)] ?_
          refine a_cut ?_
          intro a_ w_ ha_ hs_
          exact ⟨true, Option.some.inj hm, ha_.weaken ⟨rfl, rfl, rfl, rfl, rfl, rfl, rfl, trivial⟩, hs_.reix [] (by decide)⟩
        have hm := cond_f k6_17 hm
        refine ag ⟨_, _, rfl, rfl, k6_17⟩ (y_move rfl) ?_
        refine ag ⟨_, _, rfl, rfl, k6_17⟩ (y_len_sl Tryd.underlying26 rfl h5_1r0) ?_
        refine ag ⟨_, _, rfl, rfl, k6_17⟩ (y_neq rfl rfl) ?_
        refine ag ⟨_, _, rfl, rfl, k6_14⟩ (y_pick_f rfl k6_17 rfl) ?_
        refine ag ⟨_, _, rfl, rfl, k6_11⟩ (y_pick_t rfl k6_14 rfl) ?_
        refine ap (y_pick_f rfl k6_11 rfl) ?_
        refine ap (y_move rfl) ?_
        rcases Bool.eq_false_or_eq_true ((x5_1.1.length : Int) != 0) with k6_24 | k6_24
        · have hm := cond_t k6_24 hm
          refine as1 (sk1 rfl rfl k6_24) ?_
          refine as1 (sk1 rfl rfl k6_24) ?_
          refine as1 (sk1 rfl rfl k6_24) ?_
          refine as1 (sku rfl rfl) ?_
          refine as1 (sku rfl rfl) ?_
          refine as1 (sku rfl rfl) ?_
          refine as1 (sku rfl rfl) ?_
          refine as1 (sku rfl rfl) ?_
          refine as1 (sku rfl rfl) ?_
          refine as1 (sk1 rfl rfl k6_24) ?_
          refine ap (y_pick_t rfl k6_24 rfl) ?_
          refine a_nil ?_
          refine a_en [(3, .pointer (some ⟨b0_0, 0, none⟩)), (7, .pointer (some ⟨b3_6, 0, none⟩)), (8, v3_5r0), (9, v4_2r0), (11, v5_1r0), (12, .int .i64 x5_1.2), (76, .bool true)] ?_
          refine a_cut ?_
          intro a_ w_ ha_ hs_
          exact ⟨true, Option.some.inj hm, ha_.weaken ⟨rfl, rfl, rfl, rfl, rfl, rfl, rfl, trivial⟩, hs_.reix [] (by decide)⟩
        have hm := cond_f k6_24 hm
        refine ag ⟨_, _, rfl, rfl, k6_24⟩ (y_move rfl) ?_
        refine ag ⟨_, _, rfl, rfl, k6_24⟩ (y_eql rfl rfl) ?_
        refine ag ⟨_, _, rfl, rfl, k6_24⟩ (y_move rfl) ?_
        rcases Bool.eq_false_or_eq_true (x5_1.2 == 0) with k6_27 | k6_27
        · have hm := cond_t k6_27 hm
          refine ag ⟨_, _, rfl, rfl, k6_27⟩ (y_move rfl) ?_
          refine ag ⟨_, _, rfl, rfl, k6_27⟩ (y_len_sl Tryd.underlying26 rfl h5_1r0) ?_
          have h6_29 := TunnelBook.at_Parts hb0_0
          refine ag ⟨_, _, rfl, rfl, k6_27⟩ (y_fieldAddr fo25_0 rfl) ?_
          obtain ⟨v6_30, h6_30, c6_30⟩ := PAt.sl h6_29
          refine ag ⟨_, _, rfl, rfl, k6_27⟩ (y_load_one ty22 rfl (fun _ h => h.sub) rfl c6_30) ?_
          refine ag ⟨_, _, rfl, rfl, k6_27⟩ (y_len_sl Tryd.underlying22 rfl h6_30) ?_
          refine ag ⟨_, _, rfl, rfl, k6_27⟩ (y_neq rfl rfl) ?_
          refine ag ⟨_, _, rfl, rfl, k6_24⟩ (y_pick_t rfl k6_27 rfl) ?_
          refine ap (y_pick_f rfl k6_24 rfl) ?_
          refine a_nil ?_
          refine a_en [(3, .pointer (some ⟨b0_0, 0, none⟩)), (7, .pointer (some ⟨b3_6, 0, none⟩)), (8, v3_5r0), (9, v4_2r0), (11, v5_1r0), (12, .int .i64 x5_1.2), (76, .bool ((x5_1.1.length : Int) != (p0.Parts.length : Int)))] ?_
          refine a_cut ?_
          intro a_ w_ ha_ hs_
          exact ⟨(x5_1.1.length : Int) != (p0.Parts.length : Int), Option.some.inj hm, ha_.weaken ⟨rfl, rfl, rfl, rfl, rfl, rfl, rfl, trivial⟩, hs_.reix [] (by decide)⟩
        have hm := cond_f k6_27 hm
        refine as1 (sk1 rfl rfl k6_27) ?_
        refine as1 (sk1 rfl rfl k6_27) ?_
        refine as1 (sk1 rfl rfl k6_27) ?_
        refine as1 (sk1 rfl rfl k6_27) ?_
        refine as1 (sk1 rfl rfl k6_27) ?_
        refine as1 (sk1 rfl rfl k6_27) ?_
        refine ag ⟨_, _, rfl, rfl, k6_24⟩ (y_pick_f rfl k6_27 rfl) ?_
        refine ap (y_pick_f rfl k6_24 rfl) ?_
        refine a_nil ?_
        refine a_en [(3, .pointer (some ⟨b0_0, 0, none⟩)), (7, .pointer (some ⟨b3_6, 0, none⟩)), (8, v3_5r0), (9, v4_2r0), (11, v5_1r0), (12, .int .i64 x5_1.2), (76, .bool false)] ?_
        refine a_cut ?_
        intro a_ w_ ha_ hs_
        exact ⟨false, Option.some.inj hm, ha_.weaken ⟨rfl, rfl, rfl, rfl, rfl, rfl, rfl, trivial⟩, hs_.reix [] (by decide)⟩
      have hm := cond_f k6_14 hm
      refine as1 (sk1 rfl rfl k6_14) ?_
      refine as1 (sk1 rfl rfl k6_14) ?_
      refine as1 (sk1 rfl rfl k6_14) ?_
      refine as1 (sku rfl rfl) ?_
      refine as1 (sku rfl rfl) ?_
      refine as1 (sku rfl rfl) ?_
      refine as1 (sk1 rfl rfl k6_14) ?_
      refine ag ⟨_, _, rfl, rfl, k6_11⟩ (y_pick_f rfl k6_14 rfl) ?_
      refine ap (y_pick_f rfl k6_11 rfl) ?_
      refine ap (y_move rfl) ?_
      refine ag ⟨_, _, rfl, rfl, rfl⟩ (y_move rfl) ?_
      refine ag ⟨_, _, rfl, rfl, rfl⟩ (y_eql rfl rfl) ?_
      refine ag ⟨_, _, rfl, rfl, rfl⟩ (y_move rfl) ?_
      rcases Bool.eq_false_or_eq_true (x5_1.2 == 0) with k6_27 | k6_27
      · have hm := cond_t k6_27 hm
        refine ag ⟨_, _, rfl, rfl, k6_27⟩ (y_move rfl) ?_
        refine ag ⟨_, _, rfl, rfl, k6_27⟩ (y_len_sl Tryd.underlying26 rfl h5_1r0) ?_
        have h6_29 := TunnelBook.at_Parts hb0_0
        refine ag ⟨_, _, rfl, rfl, k6_27⟩ (y_fieldAddr fo25_0 rfl) ?_
        obtain ⟨v6_30, h6_30, c6_30⟩ := PAt.sl h6_29
        refine ag ⟨_, _, rfl, rfl, k6_27⟩ (y_load_one ty22 rfl (fun _ h => h.sub) rfl c6_30) ?_
        refine ag ⟨_, _, rfl, rfl, k6_27⟩ (y_len_sl Tryd.underlying22 rfl h6_30) ?_
        refine ag ⟨_, _, rfl, rfl, k6_27⟩ (y_neq rfl rfl) ?_
        refine ag ⟨_, _, rfl, rfl, rfl⟩ (y_pick_t rfl k6_27 rfl) ?_
        refine ap (y_pick_f rfl rfl rfl) ?_
        refine a_nil ?_
        refine a_en [(3, .pointer (some ⟨b0_0, 0, none⟩)), (7, .pointer (some ⟨b3_6, 0, none⟩)), (8, v3_5r0), (9, v4_2r0), (11, v5_1r0), (12, .int .i64 x5_1.2), (76, .bool ((x5_1.1.length : Int) != (p0.Parts.length : Int)))] ?_
        refine a_cut ?_
        intro a_ w_ ha_ hs_
        exact ⟨(x5_1.1.length : Int) != (p0.Parts.length : Int), Option.some.inj hm, ha_.weaken ⟨rfl, rfl, rfl, rfl, rfl, rfl, rfl, trivial⟩, hs_.reix [] (by decide)⟩
      have hm := cond_f k6_27 hm
      refine as1 (sk1 rfl rfl k6_27) ?_
      refine as1 (sk1 rfl rfl k6_27) ?_
      refine as1 (sk1 rfl rfl k6_27) ?_
      refine as1 (sk1 rfl rfl k6_27) ?_
      refine as1 (sk1 rfl rfl k6_27) ?_
      refine as1 (sk1 rfl rfl k6_27) ?_
      refine ag ⟨_, _, rfl, rfl, rfl⟩ (y_pick_f rfl k6_27 rfl) ?_
      refine ap (y_pick_f rfl rfl rfl) ?_
      refine a_nil ?_
      refine a_en [(3, .pointer (some ⟨b0_0, 0, none⟩)), (7, .pointer (some ⟨b3_6, 0, none⟩)), (8, v3_5r0), (9, v4_2r0), (11, v5_1r0), (12, .int .i64 x5_1.2), (76, .bool false)] ?_
      refine a_cut ?_
      intro a_ w_ ha_ hs_
      exact ⟨false, Option.some.inj hm, ha_.weaken ⟨rfl, rfl, rfl, rfl, rfl, rfl, rfl, trivial⟩, hs_.reix [] (by decide)⟩
    have hm := hm_j2
    rintro a_ w_ ⟨yj2_76, rfl, ha_, hs_⟩
    try dsimp only at hm
    refine a_start ha_ hs_ ?_
    refine a_then ?_
    refine a_cond rfl (fun k_3 => ?_) (fun k_3 => ?_)
    · have hm := cond_t k_3 hm
      refine a_seq ?_
      refine a_region rfl ?_
      refine ap (y_assign rfl) ?_
      refine a_nil ?_
      refine a_en [(6, .bool false)] ?_
      refine a_then ?_
      refine a_ret ?_
      refine a_then_ret ?_
      refine a_done (v := .bool false) (.inl rfl) rfl ?_ ?_
      · intro a_ w_ ha_ hs_; exact run_results (P := Tryd.prog) (fn := Tryd.f6) (rs := [.tmp 6]) (vs := [.bool false]) rfl (.cons (rv_tmp ha_ rfl) (All2.nil))
      · intro _ _; obtain rfl := Option.some.inj hm
        rfl
    have hm := cond_f k_3 hm
    refine a_skip ?_
    refine a_then ?_
    refine a_seq ?_
    refine a_seq ?_
    refine a_region rfl ?_
    refine ap (y_assign rfl) ?_
    refine a_nil ?_
    refine a_en [(3, .pointer (some ⟨b0_0, 0, none⟩)), (7, .pointer (some ⟨b3_6, 0, none⟩)), (8, v3_5r0), (9, v4_2r0), (11, v5_1r0), (12, .int .i64 x5_1.2), (13, .int .i64 0)] ?_
    refine a_then ?_
    obtain ⟨s_j4, hs_j4, hm_j4⟩ := bind_some hm
    refine a_join (fun a_ w_ => ∃ (Hj4 : Hp), ∃ (_ : HLe H5_1 Hj4), Sum.inr () = s_j4 ∧ Ag 174 [] [] a_ ∧ St (Kp.mk w H noX) Hj4 [] w_) ?_ ?_
    · have hm := hs_j4
      refine a_block ?_
      refine a_loop (fun n_j5 a_ w_ => ∃ (Hj5 : Hp), ∃ (_ : HLe H5_1 Hj5), ∃ (yj5_13 : Int), law03_TunnelTrue_lj5 k p0 x3_2 x3_5 x4_2 x5_1 n_j5 yj5_13 = some s_j4 ∧ Ag 174 [] [(3, .pointer (some ⟨b0_0, 0, none⟩)), (7, .pointer (some ⟨b3_6, 0, none⟩)), (8, v3_5r0), (9, v4_2r0), (11, v5_1r0), (12, .int .i64 x5_1.2), (13, .int .i64 yj5_13)] a_ ∧ St (Kp.mk w H noX) Hj5 [] w_) k ?_ ?_
      · intro a_ w_ ha_ hs_
        exact ⟨H5_1, (HLe.refl _), 0, hm, ha_.weaken ⟨rfl, rfl, rfl, rfl, rfl, rfl, rfl, trivial⟩, hs_.reix [] (by decide)⟩
      rintro (_ | n_j5) a_ w_ ⟨Hj5, lj5, yj5_13, hm, ha_, hs_⟩
      · rw [law03_TunnelTrue_lj5.eq_1] at hm; cases hm
      rw [law03_TunnelTrue_lj5.eq_2] at hm
      refine a_start ha_ hs_ ?_
      have hb0_0 := PAt.mono lj5 hb0_0
      have hb3_6 := PAt.mono lj5 hb3_6
      have h3_5r0 := Sl.mono lj5 h3_5r0
      have h4_2r0 := Sl.mono lj5 h4_2r0
      have h5_1r0 := Sl.mono lj5 h5_1r0
      have hg := Glob.mono lj5 hg
      refine a_seq ?_
      refine a_seq ?_
      refine a_region rfl ?_
      refine ap (y_move rfl) ?_
      have h9_1 := TunnelBook.at_Frames hb0_0
      refine ap (y_fieldAddr fo25_1 rfl) ?_
      obtain ⟨v9_2, h9_2, c9_2⟩ := PAt.sl h9_1
      refine ap (y_load_one ty23 rfl (fun _ h => h.sub) rfl c9_2) ?_
      refine ap (y_len_sl Tryd.underlying23 rfl h9_2) ?_
      refine ap (y_lss rfl rfl) ?_
      refine a_nil ?_
      refine a_en [(3, .pointer (some ⟨b0_0, 0, none⟩)), (7, .pointer (some ⟨b3_6, 0, none⟩)), (8, v3_5r0), (9, v4_2r0), (11, v5_1r0), (12, .int .i64 x5_1.2), (13, .int .i64 yj5_13), (81, .bool (decide (yj5_13 < (p0.Frames.length : Int))))] ?_
      refine a_then ?_
      refine a_cond rfl (fun k_6 => ?_) (fun k_6 => ?_)
      · have hm := cond_t k_6 hm
        refine a_skip ?_
        refine a_then ?_
        refine a_seq ?_
        refine a_block ?_
        refine a_seq ?_
        refine a_region rfl ?_
        have h11_0 := TunnelBook.at_Frames hb0_0
        refine ap (y_fieldAddr fo25_1 rfl) ?_
        obtain ⟨v11_1, h11_1, c11_1⟩ := PAt.sl h11_0
        refine ap (y_load_one ty23 rfl (fun _ h => h.sub) rfl c11_1) ?_
        refine ap (y_move rfl) ?_
        obtain ⟨x11_3, q11_3, hm⟩ := bind_some hm
        obtain ⟨b11_3, o11_3, c11_3, e11_3, h11_3⟩ := Sl.elemZ 3 rfl h11_1 q11_3
        refine ap (y_index Tryd.underlying23 ty55 rfl e11_3 rfl (nth_in q11_3)) ?_
        obtain ⟨u11_4, h11_4, c11_4⟩ := PAt.one h11_3
        refine ap (y_load_cells ty55 rfl (fun _ h => h.sub) rfl c11_4 (Rp.len h11_4)) ?_
        refine a_cons (e_alloc (cs := [.slice none 0 0, .int .i64 0, .int .i64 0]) trivial rfl ty55 rfl ?_)
        intro b11_5
        refine a_cons (e_storeWhole (i := 0) (ds := u11_4) trivial ty55 rfl rfl rfl rfl (Rp.len h11_4) ((Rp.one h11_4)) rfl ?_)
        refine a_nil ?_
        refine a_freeze (α := TunnelFrame) (x := x11_3) (i := 0) rfl h11_4 ?_
        intro Hb11_5 lb11_5 hb11_5
        have hb0_0 := PAt.mono lb11_5 hb0_0
        have hb3_6 := PAt.mono lb11_5 hb3_6
        have h3_5r0 := Sl.mono lb11_5 h3_5r0
        have h4_2r0 := Sl.mono lb11_5 h4_2r0
        have h5_1r0 := Sl.mono lb11_5 h5_1r0
        have h11_0 := PAt.mono lb11_5 h11_0
        have h11_1 := Sl.mono lb11_5 h11_1
        have h11_3 := PAt.mono lb11_5 h11_3
        have h11_4 := Rp.mono lb11_5 h11_4
        have hg := Glob.mono lb11_5 hg
        refine a_en [(3, .pointer (some ⟨b0_0, 0, none⟩)), (7, .pointer (some ⟨b3_6, 0, none⟩)), (8, v3_5r0), (9, v4_2r0), (11, v5_1r0), (12, .int .i64 x5_1.2), (13, .int .i64 yj5_13), (14, .pointer (some ⟨b11_5, 0, none⟩))] ?_
        refine a_own [] (by decide) (L' := []) rfl ?_
        refine a_then ?_
        refine a_seq ?_
        refine a_region rfl ?_
        obtain ⟨u12_0, h12_0, c12_0⟩ := PAt.one hb3_6
        refine ap (y_load_cells ty25 rfl (fun _ h => h.sub) rfl c12_0 (Rp.len h12_0)) ?_
        refine ap (y_move rfl) ?_
        obtain ⟨u12_2, h12_2, c12_2⟩ := PAt.one hb11_5
        refine ap (y_load_cells ty55 rfl (fun _ h => h.sub) rfl c12_2 (Rp.len h12_2)) ?_
        obtain ⟨x12_3, q12_3, hm⟩ := bind_some hm
        refine a_cons (e_callV (all := [.agg u12_0.toArray, v3_5r0, .agg u12_2.toArray]) (v := .int .i64 x12_3) trivial rfl Tryd.func47 rfl rfl rfl rfl rfl (fun w hw => ok_47 hw h12_0 h3_5r0 h12_2 q12_3) ?_)
        refine ap (y_assign rfl) ?_
        refine a_nil ?_
        refine a_en [(3, .pointer (some ⟨b0_0, 0, none⟩)), (7, .pointer (some ⟨b3_6, 0, none⟩)), (8, v3_5r0), (9, v4_2r0), (11, v5_1r0), (12, .int .i64 x5_1.2), (13, .int .i64 yj5_13), (14, .pointer (some ⟨b11_5, 0, none⟩)), (15, .int .i64 x12_3)] ?_
        refine a_then ?_
        refine a_seq ?_
        refine a_region rfl ?_
        obtain ⟨u13_0, h13_0, c13_0⟩ := PAt.one hb0_0
        refine ap (y_load_cells ty25 rfl (fun _ h => h.sub) rfl c13_0 (Rp.len h13_0)) ?_
        refine ap (y_move rfl) ?_
        refine ap (y_move rfl) ?_
        obtain ⟨x13_3, q13_3, hm⟩ := bind_some hm
        refine a_cons (e_callV (all := [.agg u13_0.toArray, v3_5r0, .int .i64 yj5_13]) (v := .tuple #[.agg x13_3.1.cells.toArray, .int .i64 x13_3.2]) trivial rfl Tryd.func23 rfl rfl rfl rfl rfl (fun w hw => ok_23 hw h13_0 h3_5r0 hg q13_3) ?_)
        refine ap (y_move rfl) ?_
        refine ap (y_extract rfl rfl) ?_
        refine ap (y_extract rfl rfl) ?_
        refine a_cons (e_alloc (cs := [.int .i64 0, .int .i64 0]) trivial rfl ty32 rfl ?_)
        intro b13_7
        refine a_cons (e_storeWhole (i := 0) (ds := x13_3.1.cells) trivial ty32 rfl rfl rfl rfl rfl ((Rp.one (Span.rep_mk (fun _ => none) x13_3.1))) rfl ?_)
        refine ap (y_assign rfl) ?_
        refine a_nil ?_
        refine a_freeze (α := Span) (x := x13_3.1) (i := 0) rfl (Span.rep_mk _ x13_3.1) ?_
        intro Hb13_7 lb13_7 hb13_7
        have hb0_0 := PAt.mono lb13_7 hb0_0
        have hb3_6 := PAt.mono lb13_7 hb3_6
        have h3_5r0 := Sl.mono lb13_7 h3_5r0
        have h4_2r0 := Sl.mono lb13_7 h4_2r0
        have h5_1r0 := Sl.mono lb13_7 h5_1r0
        have hb11_5 := PAt.mono lb13_7 hb11_5
        have h13_0 := Rp.mono lb13_7 h13_0
        have hg := Glob.mono lb13_7 hg
        refine a_en [(3, .pointer (some ⟨b0_0, 0, none⟩)), (7, .pointer (some ⟨b3_6, 0, none⟩)), (8, v3_5r0), (9, v4_2r0), (11, v5_1r0), (12, .int .i64 x5_1.2), (13, .int .i64 yj5_13), (14, .pointer (some ⟨b11_5, 0, none⟩)), (15, .int .i64 x12_3), (16, .pointer (some ⟨b13_7, 0, none⟩)), (17, .int .i64 x13_3.2)] ?_
        refine a_own [] (by decide) (L' := []) rfl ?_
        refine a_then ?_
        refine a_seq ?_
        refine a_region rfl ?_
        obtain ⟨u14_0, h14_0, c14_0⟩ := PAt.one hb0_0
        refine ap (y_load_cells ty25 rfl (fun _ h => h.sub) rfl c14_0 (Rp.len h14_0)) ?_
        refine ap (y_move rfl) ?_
        refine ap (y_move rfl) ?_
        obtain ⟨x14_3, q14_3, hm⟩ := bind_some hm
        refine a_cons (e_callV (all := [.agg u14_0.toArray, v3_5r0, .int .i64 yj5_13]) (v := .tuple #[.int .i64 x14_3.1, .int .i64 x14_3.2]) trivial rfl Tryd.func25 rfl rfl rfl rfl rfl (fun w hw => ok_25 hw h14_0 h3_5r0 hg q14_3) ?_)
        refine ap (y_move rfl) ?_
        refine ap (y_extract rfl rfl) ?_
        refine ap (y_extract rfl rfl) ?_
        refine ap (y_assign rfl) ?_
        refine ap (y_assign rfl) ?_
        refine a_nil ?_
        refine a_en [(3, .pointer (some ⟨b0_0, 0, none⟩)), (7, .pointer (some ⟨b3_6, 0, none⟩)), (8, v3_5r0), (9, v4_2r0), (11, v5_1r0), (12, .int .i64 x5_1.2), (13, .int .i64 yj5_13), (14, .pointer (some ⟨b11_5, 0, none⟩)), (15, .int .i64 x12_3), (16, .pointer (some ⟨b13_7, 0, none⟩)), (17, .int .i64 x13_3.2), (18, .int .i64 x14_3.1), (19, .int .i64 x14_3.2)] ?_
        refine a_then ?_
        refine a_seq ?_
        refine a_seq ?_
        obtain ⟨s_j7, hs_j7, hm_j7⟩ := bind_some hm
        refine a_join (fun a_ w_ => ∃ (yj7_150 : Bool), yj7_150 = s_j7 ∧ Ag 174 [] [(3, .pointer (some ⟨b0_0, 0, none⟩)), (7, .pointer (some ⟨b3_6, 0, none⟩)), (8, v3_5r0), (9, v4_2r0), (11, v5_1r0), (12, .int .i64 x5_1.2), (13, .int .i64 yj5_13), (14, .pointer (some ⟨b11_5, 0, none⟩)), (150, .bool yj7_150)] a_ ∧ St (Kp.mk w H noX) Hb13_7 [] w_) ?_ ?_
        · have hm := hs_j7
          refine a_region rfl ?_
          refine ap (y_move rfl) ?_
          refine ap (y_neq rfl rfl) ?_
          refine ap (y_move rfl) ?_
          rcases Bool.eq_false_or_eq_true (x13_3.2 != 0) with k15_3 | k15_3
          · have hm := cond_t k15_3 hm
            refine as1 (sk1 rfl rfl k15_3) ?_
            refine as1 (sk1 rfl rfl k15_3) ?_
            refine ap (y_pick_t rfl k15_3 rfl) ?_
            refine ap (y_move rfl) ?_
            refine as1 (sk1 rfl rfl rfl) ?_
            refine as1 (sk1 rfl rfl rfl) ?_
            refine as1 (sk1 rfl rfl rfl) ?_
            refine as1 (sk1 rfl rfl rfl) ?_
            refine ap (y_pick_t rfl rfl rfl) ?_
            refine ap (y_move rfl) ?_
            refine as1 (sk1 rfl rfl rfl) ?_
            refine as1 (sk1 rfl rfl rfl) ?_
            refine as1 (sk1 rfl rfl rfl) ?_
            refine as1 (sk1 rfl rfl rfl) ?_
            refine as1 (sk1 rfl rfl rfl) ?_
            refine as1 (sk1 rfl rfl rfl) ?_
            refine as1 (sk1 rfl rfl rfl) ?_
            refine ap (y_pick_t rfl rfl rfl) ?_
            refine ap (y_move rfl) ?_
            refine as1 (sk1 rfl rfl rfl) ?_
            refine as1 (sk1 rfl rfl rfl) ?_
            refine as1 (sk1 rfl rfl rfl) ?_
            refine as1 (sk1 rfl rfl rfl) ?_
            refine as1 (sk1 rfl rfl rfl) ?_
            refine as1 (sk1 rfl rfl rfl) ?_
            refine as1 (sku rfl rfl) ?_
            refine as1 (sku rfl rfl) ?_
            refine as1 (sku rfl rfl) ?_
            refine as1 (sk1 rfl rfl rfl) ?_
            refine ap (y_pick_t rfl rfl rfl) ?_
            refine ap (y_move rfl) ?_
            refine as1 (sk1 rfl rfl rfl) ?_
            refine as1 (sk1 rfl rfl rfl) ?_
            refine as1 (sk1 rfl rfl rfl) ?_
            refine as1 (sk1 rfl rfl rfl) ?_
            refine as1 (sk1 rfl rfl rfl) ?_
            refine as1 (sk1 rfl rfl rfl) ?_
            refine as1 (sku rfl rfl) ?_
            refine as1 (sku rfl rfl) ?_
            refine as1 (sk1 rfl rfl rfl) ?_
            refine ap (y_pick_t rfl rfl rfl) ?_
            refine a_nil ?_
            refine a_en [(3, .pointer (some ⟨b0_0, 0, none⟩)), (7, .pointer (some ⟨b3_6, 0, none⟩)), (8, v3_5r0), (9, v4_2r0), (11, v5_1r0), (12, .int .i64 x5_1.2), (13, .int .i64 yj5_13), (14, .pointer (some ⟨b11_5, 0, none⟩)), (110, undef), (111, undef), (114, undef), (115, undef), (116, undef), (117, undef), (120, undef), (121, undef), (122, undef), (123, undef), (124, undef), (125, undef), (126, undef), (129, undef), (130, undef), (131, undef), (132, undef), (133, undef), (134, undef), (135, undef), (136, undef), (137, undef), (138, undef), (141, undef), (142, undef), (143, undef), (144, undef), (145, undef), (146, undef), (147, undef), (148, undef), (149, undef), (150, .bool true)] ?_
            refine a_cut ?_
            intro a_ w_ ha_ hs_
            exact ⟨true, Option.some.inj hm, ha_.weaken ⟨rfl, rfl, rfl, rfl, rfl, rfl, rfl, rfl, rfl, trivial⟩, hs_.reix [] (by decide)⟩
          have hm := cond_f k15_3 hm
          refine ag ⟨_, _, rfl, rfl, k15_3⟩ (y_move rfl) ?_
          refine ag ⟨_, _, rfl, rfl, k15_3⟩ (y_neq rfl rfl) ?_
          refine ap (y_pick_f rfl k15_3 rfl) ?_
          refine ap (y_move rfl) ?_
          rcases Bool.eq_false_or_eq_true (x14_3.2 != 0) with k15_7 | k15_7
          · have hm := cond_t k15_7 hm
            refine as1 (sk1 rfl rfl k15_7) ?_
            refine as1 (sk1 rfl rfl k15_7) ?_
            refine as1 (sk1 rfl rfl k15_7) ?_
            refine as1 (sk1 rfl rfl k15_7) ?_
            refine ap (y_pick_t rfl k15_7 rfl) ?_
            refine ap (y_move rfl) ?_
            refine as1 (sk1 rfl rfl rfl) ?_
            refine as1 (sk1 rfl rfl rfl) ?_
            refine as1 (sk1 rfl rfl rfl) ?_
            refine as1 (sk1 rfl rfl rfl) ?_
            refine as1 (sk1 rfl rfl rfl) ?_
            refine as1 (sk1 rfl rfl rfl) ?_
            refine as1 (sk1 rfl rfl rfl) ?_
            refine ap (y_pick_t rfl rfl rfl) ?_
            refine ap (y_move rfl) ?_
            refine as1 (sk1 rfl rfl rfl) ?_
            refine as1 (sk1 rfl rfl rfl) ?_
            refine as1 (sk1 rfl rfl rfl) ?_
            refine as1 (sk1 rfl rfl rfl) ?_
            refine as1 (sk1 rfl rfl rfl) ?_
            refine as1 (sk1 rfl rfl rfl) ?_
            refine as1 (sku rfl rfl) ?_
            refine as1 (sku rfl rfl) ?_
            refine as1 (sku rfl rfl) ?_
            refine as1 (sk1 rfl rfl rfl) ?_
            refine ap (y_pick_t rfl rfl rfl) ?_
            refine ap (y_move rfl) ?_
            refine as1 (sk1 rfl rfl rfl) ?_
            refine as1 (sk1 rfl rfl rfl) ?_
            refine as1 (sk1 rfl rfl rfl) ?_
            refine as1 (sk1 rfl rfl rfl) ?_
            refine as1 (sk1 rfl rfl rfl) ?_
            refine as1 (sk1 rfl rfl rfl) ?_
            refine as1 (sku rfl rfl) ?_
            refine as1 (sku rfl rfl) ?_
            refine as1 (sk1 rfl rfl rfl) ?_
            refine ap (y_pick_t rfl rfl rfl) ?_
            refine a_nil ?_
            refine a_en [(3, .pointer (some ⟨b0_0, 0, none⟩)), (7, .pointer (some ⟨b3_6, 0, none⟩)), (8, v3_5r0), (9, v4_2r0), (11, v5_1r0), (12, .int .i64 x5_1.2), (13, .int .i64 yj5_13), (14, .pointer (some ⟨b11_5, 0, none⟩)), (110, .int .i64 x14_3.2), (111, .bool (x14_3.2 != 0)), (114, undef), (115, undef), (116, undef), (117, undef), (120, undef), (121, undef), (122, undef), (123, undef), (124, undef), (125, undef), (126, undef), (129, undef), (130, undef), (131, undef), (132, undef), (133, undef), (134, undef), (135, undef), (136, undef), (137, undef), (138, undef), (141, undef), (142, undef), (143, undef), (144, undef), (145, undef), (146, undef), (147, undef), (148, undef), (149, undef), (150, .bool true)] ?_
            refine a_cut ?_
            intro a_ w_ ha_ hs_
            exact ⟨true, Option.some.inj hm, ha_.weaken ⟨rfl, rfl, rfl, rfl, rfl, rfl, rfl, rfl, rfl, trivial⟩, hs_.reix [] (by decide)⟩
          have hm := cond_f k15_7 hm
          obtain ⟨u15_7, h15_7, c15_7⟩ := PAt.one hb13_7
          refine ag ⟨_, _, rfl, rfl, k15_7⟩ (y_load_cells ty32 rfl (fun _ h => h.sub) rfl c15_7 (Rp.len h15_7)) ?_
          refine ag ⟨_, _, rfl, rfl, k15_7⟩ (y_move rfl) ?_
          obtain ⟨x15_9, q15_9, hm⟩ := bind_some hm
          refine a_cons (e_callV (all := [.agg u15_7.toArray, .int .i64 x12_3]) (v := .bool x15_9) ⟨_, _, rfl, rfl, k15_7⟩ rfl Tryd.func48 rfl rfl rfl rfl rfl (fun w hw => ok_48 hw h15_7 q15_9) ?_)
          refine ag ⟨_, _, rfl, rfl, k15_7⟩ (y_not rfl) ?_
          refine ap (y_pick_f rfl k15_7 rfl) ?_
          refine ap (y_move rfl) ?_
          rcases Bool.eq_false_or_eq_true (!x15_9) with k15_13 | k15_13
          · have hm := cond_t k15_13 hm
            refine as1 (sk1 rfl rfl k15_13) ?_
            refine as1 (sk1 rfl rfl k15_13) ?_
            refine as1 (sk1 rfl rfl k15_13) ?_
            refine as1 (sk1 rfl rfl k15_13) ?_
            refine as1 (sk1 rfl rfl k15_13) ?_
            refine as1 (sk1 rfl rfl k15_13) ?_
            refine as1 (sk1 rfl rfl k15_13) ?_
            refine ap (y_pick_t rfl k15_13 rfl) ?_
            refine ap (y_move rfl) ?_
            refine as1 (sk1 rfl rfl rfl) ?_
            refine as1 (sk1 rfl rfl rfl) ?_
            refine as1 (sk1 rfl rfl rfl) ?_
            refine as1 (sk1 rfl rfl rfl) ?_
            refine as1 (sk1 rfl rfl rfl) ?_
            refine as1 (sk1 rfl rfl rfl) ?_
            refine as1 (sku rfl rfl) ?_
            refine as1 (sku rfl rfl) ?_
            refine as1 (sku rfl rfl) ?_
            refine as1 (sk1 rfl rfl rfl) ?_
            refine ap (y_pick_t rfl rfl rfl) ?_
            refine ap (y_move rfl) ?_
            refine as1 (sk1 rfl rfl rfl) ?_
            refine as1 (sk1 rfl rfl rfl) ?_
            refine as1 (sk1 rfl rfl rfl) ?_
            refine as1 (sk1 rfl rfl rfl) ?_
            refine as1 (sk1 rfl rfl rfl) ?_
            refine as1 (sk1 rfl rfl rfl) ?_
            refine as1 (sku rfl rfl) ?_
            refine as1 (sku rfl rfl) ?_
            refine as1 (sk1 rfl rfl rfl) ?_
            refine ap (y_pick_t rfl rfl rfl) ?_
            refine a_nil ?_
            refine a_en [(3, .pointer (some ⟨b0_0, 0, none⟩)), (7, .pointer (some ⟨b3_6, 0, none⟩)), (8, v3_5r0), (9, v4_2r0), (11, v5_1r0), (12, .int .i64 x5_1.2), (13, .int .i64 yj5_13), (14, .pointer (some ⟨b11_5, 0, none⟩)), (110, .int .i64 x14_3.2), (111, .bool (x14_3.2 != 0)), (114, .agg u15_7.toArray), (115, .int .i64 x12_3), (116, .bool x15_9), (117, .bool (!x15_9)), (120, undef), (121, undef), (122, undef), (123, undef), (124, undef), (125, undef), (126, undef), (129, undef), (130, undef), (131, undef), (132, undef), (133, undef), (134, undef), (135, undef), (136, undef), (137, undef), (138, undef), (141, undef), (142, undef), (143, undef), (144, undef), (145, undef), (146, undef), (147, undef), (148, undef), (149, undef), (150, .bool true)] ?_
            refine a_cut ?_
            intro a_ w_ ha_ hs_
            exact ⟨true, Option.some.inj hm, ha_.weaken ⟨rfl, rfl, rfl, rfl, rfl, rfl, rfl, rfl, rfl, trivial⟩, hs_.reix [] (by decide)⟩
          have hm := cond_f k15_13 hm
          refine ag ⟨_, _, rfl, rfl, k15_13⟩ (y_move rfl) ?_
          refine ag ⟨_, _, rfl, rfl, k15_13⟩ (y_move rfl) ?_
          obtain ⟨x15_15, q15_15, hm⟩ := bind_some hm
          refine a_cons (e_callV (all := [v4_2r0, .int .i64 yj5_13]) (v := .int .i64 x15_15) ⟨_, _, rfl, rfl, k15_13⟩ rfl Tryd.func49 rfl rfl rfl rfl rfl (fun w hw => ok_49 hw h4_2r0 q15_15) ?_)
          refine ag ⟨_, _, rfl, rfl, k15_13⟩ (y_geq rfl rfl) ?_
          refine ag ⟨_, _, rfl, rfl, k15_13⟩ (y_move rfl) ?_
          refine ag ⟨_, _, rfl, rfl, k15_13⟩ (y_eql rfl rfl) ?_
          refine ag ⟨_, _, rfl, rfl, k15_13⟩ (y_neq_bool Tryd.underlying4 rfl rfl) ?_
          refine ap (y_pick_f rfl k15_13 rfl) ?_
          refine ap (y_move rfl) ?_
          rcases Bool.eq_false_or_eq_true ((decide (x15_15 ≥ 0)) != (x14_3.1 == 0)) with k15_22 | k15_22
          · have hm := cond_t k15_22 hm
            refine as1 (sk1 rfl rfl k15_22) ?_
            refine as1 (sk1 rfl rfl k15_22) ?_
            refine as1 (sk1 rfl rfl k15_22) ?_
            refine as1 (sk1 rfl rfl k15_22) ?_
            refine as1 (sk1 rfl rfl k15_22) ?_
            refine as1 (sk1 rfl rfl k15_22) ?_
            refine as1 (sku rfl rfl) ?_
            refine as1 (sku rfl rfl) ?_
            refine as1 (sku rfl rfl) ?_
            refine as1 (sk1 rfl rfl k15_22) ?_
            refine ap (y_pick_t rfl k15_22 rfl) ?_
            refine ap (y_move rfl) ?_
            refine as1 (sk1 rfl rfl rfl) ?_
            refine as1 (sk1 rfl rfl rfl) ?_
            refine as1 (sk1 rfl rfl rfl) ?_
            refine as1 (sk1 rfl rfl rfl) ?_
            refine as1 (sk1 rfl rfl rfl) ?_
            refine as1 (sk1 rfl rfl rfl) ?_
            refine as1 (sku rfl rfl) ?_
            refine as1 (sku rfl rfl) ?_
            refine as1 (sk1 rfl rfl rfl) ?_
            refine ap (y_pick_t rfl rfl rfl) ?_
            refine a_nil ?_
            refine a_en [(3, .pointer (some ⟨b0_0, 0, none⟩)), (7, .pointer (some ⟨b3_6, 0, none⟩)), (8, v3_5r0), (9, v4_2r0), (11, v5_1r0), (12, .int .i64 x5_1.2), (13, .int .i64 yj5_13), (14, .pointer (some ⟨b11_5, 0, none⟩)), (110, .int .i64 x14_3.2), (111, .bool (x14_3.2 != 0)), (114, .agg u15_7.toArray), (115, .int .i64 x12_3), (116, .bool x15_9), (117, .bool (!x15_9)), (120, v4_2r0), (121, .int .i64 yj5_13), (122, .int .i64 x15_15), (123, .bool (decide (x15_15 ≥ 0))), (124, .int .i64 x14_3.1), (125, .bool (x14_3.1 == 0)), (126, .bool ((decide (x15_15 ≥ 0)) != (x14_3.1 == 0))), (129, undef), (130, undef), (131, undef), (132, undef), (133, undef), (134, undef), (135, undef), (136, undef), (137, undef), (138, undef), (141, undef), (142, undef), (143, undef), (144, undef), (145, undef), (146, undef), (147, undef), (148, undef), (149, undef), (150, .bool true)] ?_
            refine a_cut ?_
            intro a_ w_ ha_ hs_
            exact ⟨true, Option.some.inj hm, ha_.weaken ⟨rfl, rfl, rfl, rfl, rfl, rfl, rfl, rfl, rfl, trivial⟩, hs_.reix [] (by decide)⟩
          have hm := cond_f k15_22 hm
          refine ag ⟨_, _, rfl, rfl, k15_22⟩ (y_move rfl) ?_
          have h15_23 := TunnelFrame.at_Need hb11_5
          refine ag ⟨_, _, rfl, rfl, k15_22⟩ (y_fieldAddr fo55_1 rfl) ?_
          have h15_24 := Span.at_Low h15_23
          refine ag ⟨_, _, rfl, rfl, k15_22⟩ (y_fieldAddr fo32_0 rfl) ?_
          refine ag ⟨_, _, rfl, rfl, k15_22⟩ (y_load_int ty3 rfl (fun _ h => h.sub) rfl h15_24) ?_
          refine ag ⟨_, _, rfl, rfl, k15_22⟩ (y_lss rfl rfl) ?_
          refine ag ⟨_, _, rfl, rfl, k15_22⟩ (y_move rfl) ?_
          rcases Bool.eq_false_or_eq_true (decide (x12_3 < x11_3.Need.Low)) with k15_28 | k15_28
          · have hm := cond_t k15_28 hm
            refine ag ⟨_, _, rfl, rfl, k15_28⟩ (y_move rfl) ?_
            obtain ⟨x15_29, q15_29, hm⟩ := bind_some hm
            refine ag ⟨_, _, rfl, rfl, k15_28⟩ (y_rem_some rfl rfl q15_29) ?_
            refine ag ⟨_, _, rfl, rfl, k15_28⟩ (y_eql rfl rfl) ?_
            refine ag ⟨_, _, rfl, rfl, k15_22⟩ (y_pick_t rfl k15_28 rfl) ?_
            refine ap (y_pick_f rfl k15_22 rfl) ?_
            refine ap (y_move rfl) ?_
            rcases Bool.eq_false_or_eq_true (x15_29 == 0) with k15_34 | k15_34
            · have hm := cond_t k15_34 hm
              refine as1 (sk1 rfl rfl k15_34) ?_
              refine as1 (sk1 rfl rfl k15_34) ?_
              refine as1 (sk1 rfl rfl k15_34) ?_
              refine as1 (sk1 rfl rfl k15_34) ?_
              refine as1 (sk1 rfl rfl k15_34) ?_
              refine as1 (sk1 rfl rfl k15_34) ?_
              refine as1 (sku rfl rfl) ?_
              refine as1 (sku rfl rfl) ?_
              refine as1 (sk1 rfl rfl k15_34) ?_
              refine ap (y_pick_t rfl k15_34 rfl) ?_
              refine a_nil ?_
              refine a_en [(3, .pointer (some ⟨b0_0, 0, none⟩)), (7, .pointer (some ⟨b3_6, 0, none⟩)), (8, v3_5r0), (9, v4_2r0), (11, v5_1r0), (12, .int .i64 x5_1.2), (13, .int .i64 yj5_13), (14, .pointer (some ⟨b11_5, 0, none⟩)), (110, .int .i64 x14_3.2), (111, .bool (x14_3.2 != 0)), (114, .agg u15_7.toArray), (115, .int .i64 x12_3), (116, .bool x15_9), (117, .bool (!x15_9)), (120, v4_2r0), (121, .int .i64 yj5_13), (122, .int .i64 x15_15), (123, .bool (decide (x15_15 ≥ 0))), (124, .int .i64 x14_3.1), (125, .bool (x14_3.1 == 0)), (126, .bool ((decide (x15_15 ≥ 0)) != (x14_3.1 == 0))), (129, .int .i64 x12_3), (130, .pointer (some ⟨b11_5, 0 + 1, none⟩)), (131, .pointer (some ⟨b11_5, 0 + 1 + 0, none⟩)), (132, .int .i64 x11_3.Need.Low), (133, .bool (decide (x12_3 < x11_3.Need.Low))), (134, .bool (decide (x12_3 < x11_3.Need.Low))), (135, .int .i64 x14_3.1), (136, .int .i64 x15_29), (137, .bool (x15_29 == 0)), (138, .bool (x15_29 == 0)), (141, undef), (142, undef), (143, undef), (144, undef), (145, undef), (146, undef), (147, undef), (148, undef), (149, undef), (150, .bool true)] ?_
              refine a_cut ?_
              intro a_ w_ ha_ hs_
              exact ⟨true, Option.some.inj hm, ha_.weaken ⟨rfl, rfl, rfl, rfl, rfl, rfl, rfl, rfl, rfl, trivial⟩, hs_.reix [] (by decide)⟩
            have hm := cond_f k15_34 hm
            refine ag ⟨_, _, rfl, rfl, k15_34⟩ (y_move rfl) ?_
            have h15_35 := TunnelFrame.at_Need hb11_5
            refine ag ⟨_, _, rfl, rfl, k15_34⟩ (y_fieldAddr fo55_1 rfl) ?_
            have h15_36 := Span.at_High h15_35
            refine ag ⟨_, _, rfl, rfl, k15_34⟩ (y_fieldAddr fo32_1 rfl) ?_
            refine ag ⟨_, _, rfl, rfl, k15_34⟩ (y_load_int ty3 rfl (fun _ h => h.sub) rfl h15_36) ?_
            refine ag ⟨_, _, rfl, rfl, k15_34⟩ (y_gtr rfl rfl) ?_
            refine ag ⟨_, _, rfl, rfl, k15_34⟩ (y_move rfl) ?_
            rcases Bool.eq_false_or_eq_true (decide (x12_3 > x11_3.Need.High)) with k15_40 | k15_40
            · have hm := cond_t k15_40 hm
              refine ag ⟨_, _, rfl, rfl, k15_40⟩ (y_move rfl) ?_
              refine ag ⟨_, _, rfl, rfl, k15_40⟩ (y_lss rfl rfl) ?_
              refine ag ⟨_, _, rfl, rfl, k15_34⟩ (y_pick_t rfl k15_40 rfl) ?_
              refine ap (y_pick_f rfl k15_34 rfl) ?_
              refine a_nil ?_
              refine a_en [(3, .pointer (some ⟨b0_0, 0, none⟩)), (7, .pointer (some ⟨b3_6, 0, none⟩)), (8, v3_5r0), (9, v4_2r0), (11, v5_1r0), (12, .int .i64 x5_1.2), (13, .int .i64 yj5_13), (14, .pointer (some ⟨b11_5, 0, none⟩)), (110, .int .i64 x14_3.2), (111, .bool (x14_3.2 != 0)), (114, .agg u15_7.toArray), (115, .int .i64 x12_3), (116, .bool x15_9), (117, .bool (!x15_9)), (120, v4_2r0), (121, .int .i64 yj5_13), (122, .int .i64 x15_15), (123, .bool (decide (x15_15 ≥ 0))), (124, .int .i64 x14_3.1), (125, .bool (x14_3.1 == 0)), (126, .bool ((decide (x15_15 ≥ 0)) != (x14_3.1 == 0))), (129, .int .i64 x12_3), (130, .pointer (some ⟨b11_5, 0 + 1, none⟩)), (131, .pointer (some ⟨b11_5, 0 + 1 + 0, none⟩)), (132, .int .i64 x11_3.Need.Low), (133, .bool (decide (x12_3 < x11_3.Need.Low))), (134, .bool (decide (x12_3 < x11_3.Need.Low))), (135, .int .i64 x14_3.1), (136, .int .i64 x15_29), (137, .bool (x15_29 == 0)), (138, .bool (x15_29 == 0)), (141, .int .i64 x12_3), (142, .pointer (some ⟨b11_5, 0 + 1, none⟩)), (143, .pointer (some ⟨b11_5, 0 + 1 + 1, none⟩)), (144, .int .i64 x11_3.Need.High), (145, .bool (decide (x12_3 > x11_3.Need.High))), (146, .bool (decide (x12_3 > x11_3.Need.High))), (147, .int .i64 x14_3.1), (148, .bool (decide (x14_3.1 < 2))), (149, .bool (decide (x14_3.1 < 2))), (150, .bool (decide (x14_3.1 < 2)))] ?_
              refine a_cut ?_
              intro a_ w_ ha_ hs_
              exact ⟨decide (x14_3.1 < 2), Option.some.inj hm, ha_.weaken ⟨rfl, rfl, rfl, rfl, rfl, rfl, rfl, rfl, rfl, trivial⟩, hs_.reix [] (by decide)⟩
            have hm := cond_f k15_40 hm
            refine as1 (sk1 rfl rfl k15_40) ?_
            refine as1 (sk1 rfl rfl k15_40) ?_
            refine ag ⟨_, _, rfl, rfl, k15_34⟩ (y_pick_f rfl k15_40 rfl) ?_
            refine ap (y_pick_f rfl k15_34 rfl) ?_
            refine a_nil ?_
            refine a_en [(3, .pointer (some ⟨b0_0, 0, none⟩)), (7, .pointer (some ⟨b3_6, 0, none⟩)), (8, v3_5r0), (9, v4_2r0), (11, v5_1r0), (12, .int .i64 x5_1.2), (13, .int .i64 yj5_13), (14, .pointer (some ⟨b11_5, 0, none⟩)), (110, .int .i64 x14_3.2), (111, .bool (x14_3.2 != 0)), (114, .agg u15_7.toArray), (115, .int .i64 x12_3), (116, .bool x15_9), (117, .bool (!x15_9)), (120, v4_2r0), (121, .int .i64 yj5_13), (122, .int .i64 x15_15), (123, .bool (decide (x15_15 ≥ 0))), (124, .int .i64 x14_3.1), (125, .bool (x14_3.1 == 0)), (126, .bool ((decide (x15_15 ≥ 0)) != (x14_3.1 == 0))), (129, .int .i64 x12_3), (130, .pointer (some ⟨b11_5, 0 + 1, none⟩)), (131, .pointer (some ⟨b11_5, 0 + 1 + 0, none⟩)), (132, .int .i64 x11_3.Need.Low), (133, .bool (decide (x12_3 < x11_3.Need.Low))), (134, .bool (decide (x12_3 < x11_3.Need.Low))), (135, .int .i64 x14_3.1), (136, .int .i64 x15_29), (137, .bool (x15_29 == 0)), (138, .bool (x15_29 == 0)), (141, .int .i64 x12_3), (142, .pointer (some ⟨b11_5, 0 + 1, none⟩)), (143, .pointer (some ⟨b11_5, 0 + 1 + 1, none⟩)), (144, .int .i64 x11_3.Need.High), (145, .bool (decide (x12_3 > x11_3.Need.High))), (146, .bool (decide (x12_3 > x11_3.Need.High))), (147, undef), (148, undef), (149, .bool false), (150, .bool false)] ?_
            refine a_cut ?_
            intro a_ w_ ha_ hs_
            exact ⟨false, Option.some.inj hm, ha_.weaken ⟨rfl, rfl, rfl, rfl, rfl, rfl, rfl, rfl, rfl, trivial⟩, hs_.reix [] (by decide)⟩
          have hm := cond_f k15_28 hm
          refine as1 (sk1 rfl rfl k15_28) ?_
          refine as1 (sk1 rfl rfl k15_28) ?_
          refine as1 (sk1 rfl rfl k15_28) ?_
          refine ag ⟨_, _, rfl, rfl, k15_22⟩ (y_pick_f rfl k15_28 rfl) ?_
          refine ap (y_pick_f rfl k15_22 rfl) ?_
          refine ap (y_move rfl) ?_
          refine ag ⟨_, _, rfl, rfl, rfl⟩ (y_move rfl) ?_
          have h15_35 := TunnelFrame.at_Need hb11_5
          refine ag ⟨_, _, rfl, rfl, rfl⟩ (y_fieldAddr fo55_1 rfl) ?_
          have h15_36 := Span.at_High h15_35
          refine ag ⟨_, _, rfl, rfl, rfl⟩ (y_fieldAddr fo32_1 rfl) ?_
          refine ag ⟨_, _, rfl, rfl, rfl⟩ (y_load_int ty3 rfl (fun _ h => h.sub) rfl h15_36) ?_
          refine ag ⟨_, _, rfl, rfl, rfl⟩ (y_gtr rfl rfl) ?_
          refine ag ⟨_, _, rfl, rfl, rfl⟩ (y_move rfl) ?_
          rcases Bool.eq_false_or_eq_true (decide (x12_3 > x11_3.Need.High)) with k15_40 | k15_40
          · have hm := cond_t k15_40 hm
            refine ag ⟨_, _, rfl, rfl, k15_40⟩ (y_move rfl) ?_
            refine ag ⟨_, _, rfl, rfl, k15_40⟩ (y_lss rfl rfl) ?_
            refine ag ⟨_, _, rfl, rfl, rfl⟩ (y_pick_t rfl k15_40 rfl) ?_
            refine ap (y_pick_f rfl rfl rfl) ?_
            refine a_nil ?_
            refine a_en [(3, .pointer (some ⟨b0_0, 0, none⟩)), (7, .pointer (some ⟨b3_6, 0, none⟩)), (8, v3_5r0), (9, v4_2r0), (11, v5_1r0), (12, .int .i64 x5_1.2), (13, .int .i64 yj5_13), (14, .pointer (some ⟨b11_5, 0, none⟩)), (110, .int .i64 x14_3.2), (111, .bool (x14_3.2 != 0)), (114, .agg u15_7.toArray), (115, .int .i64 x12_3), (116, .bool x15_9), (117, .bool (!x15_9)), (120, v4_2r0), (121, .int .i64 yj5_13), (122, .int .i64 x15_15), (123, .bool (decide (x15_15 ≥ 0))), (124, .int .i64 x14_3.1), (125, .bool (x14_3.1 == 0)), (126, .bool ((decide (x15_15 ≥ 0)) != (x14_3.1 == 0))), (129, .int .i64 x12_3), (130, .pointer (some ⟨b11_5, 0 + 1, none⟩)), (131, .pointer (some ⟨b11_5, 0 + 1 + 0, none⟩)), (132, .int .i64 x11_3.Need.Low), (133, .bool (decide (x12_3 < x11_3.Need.Low))), (134, .bool (decide (x12_3 < x11_3.Need.Low))), (135, undef), (136, undef), (137, undef), (138, .bool false), (141, .int .i64 x12_3), (142, .pointer (some ⟨b11_5, 0 + 1, none⟩)), (143, .pointer (some ⟨b11_5, 0 + 1 + 1, none⟩)), (144, .int .i64 x11_3.Need.High), (145, .bool (decide (x12_3 > x11_3.Need.High))), (146, .bool (decide (x12_3 > x11_3.Need.High))), (147, .int .i64 x14_3.1), (148, .bool (decide (x14_3.1 < 2))), (149, .bool (decide (x14_3.1 < 2))), (150, .bool (decide (x14_3.1 < 2)))] ?_
            refine a_cut ?_
            intro a_ w_ ha_ hs_
            exact ⟨decide (x14_3.1 < 2), Option.some.inj hm, ha_.weaken ⟨rfl, rfl, rfl, rfl, rfl, rfl, rfl, rfl, rfl, trivial⟩, hs_.reix [] (by decide)⟩
          have hm := cond_f k15_40 hm
          refine as1 (sk1 rfl rfl k15_40) ?_
          refine as1 (sk1 rfl rfl k15_40) ?_
          refine ag ⟨_, _, rfl, rfl, rfl⟩ (y_pick_f rfl k15_40 rfl) ?_
          refine ap (y_pick_f rfl rfl rfl) ?_
          refine a_nil ?_
          refine a_en [(3, .pointer (some ⟨b0_0, 0, none⟩)), (7, .pointer (some ⟨b3_6, 0, none⟩)), (8, v3_5r0), (9, v4_2r0), (11, v5_1r0), (12, .int .i64 x5_1.2), (13, .int .i64 yj5_13), (14, .pointer (some ⟨b11_5, 0, none⟩)), (110, .int .i64 x14_3.2), (111, .bool (x14_3.2 != 0)), (114, .agg u15_7.toArray), (115, .int .i64 x12_3), (116, .bool x15_9), (117, .bool (!x15_9)), (120, v4_2r0), (121, .int .i64 yj5_13), (122, .int .i64 x15_15), (123, .bool (decide (x15_15 ≥ 0))), (124, .int .i64 x14_3.1), (125, .bool (x14_3.1 == 0)), (126, .bool ((decide (x15_15 ≥ 0)) != (x14_3.1 == 0))), (129, .int .i64 x12_3), (130, .pointer (some ⟨b11_5, 0 + 1, none⟩)), (131, .pointer (some ⟨b11_5, 0 + 1 + 0, none⟩)), (132, .int .i64 x11_3.Need.Low), (133, .bool (decide (x12_3 < x11_3.Need.Low))), (134, .bool (decide (x12_3 < x11_3.Need.Low))), (135, undef), (136, undef), (137, undef), (138, .bool false), (141, .int .i64 x12_3), (142, .pointer (some ⟨b11_5, 0 + 1, none⟩)), (143, .pointer (some ⟨b11_5, 0 + 1 + 1, none⟩)), (144, .int .i64 x11_3.Need.High), (145, .bool (decide (x12_3 > x11_3.Need.High))), (146, .bool (decide (x12_3 > x11_3.Need.High))), (147, undef), (148, undef), (149, .bool false), (150, .bool false)] ?_
          refine a_cut ?_
          intro a_ w_ ha_ hs_
          exact ⟨false, Option.some.inj hm, ha_.weaken ⟨rfl, rfl, rfl, rfl, rfl, rfl, rfl, rfl, rfl, trivial⟩, hs_.reix [] (by decide)⟩
        have hm := hm_j7
        rintro a_ w_ ⟨yj7_150, rfl, ha_, hs_⟩
        try dsimp only at hm
        refine a_start ha_ hs_ ?_
        refine a_then ?_
        refine a_cond rfl (fun k_8 => ?_) (fun k_8 => ?_)
        · have hm := cond_t k_8 hm
          refine a_seq ?_
          refine a_region rfl ?_
          refine ap (y_assign rfl) ?_
          refine a_nil ?_
          refine a_en [(6, .bool false)] ?_
          refine a_then ?_
          refine a_ret ?_
          refine a_then_ret ?_
          refine a_block_ret ?_
          refine a_then_ret ?_
          refine a_then_ret ?_
          refine a_block_ret ?_
          refine a_cut_ret ?_
          refine a_then_ret ?_
          obtain rfl := Option.some.inj hm
          have hm := hm_j4
          try dsimp only at hm
          refine a_done (v := .bool false) (.inl rfl) rfl ?_ ?_
          · intro a_ w_ ha_ hs_; exact run_results (P := Tryd.prog) (fn := Tryd.f6) (rs := [.tmp 6]) (vs := [.bool false]) rfl (.cons (rv_tmp ha_ rfl) (All2.nil))
          · intro _ _; obtain rfl := Option.some.inj hm
            rfl
        have hm := cond_f k_8 hm
        refine a_skip ?_
        refine a_then ?_
        refine a_seq ?_
        refine a_seq ?_
        refine a_region rfl ?_
        refine ap (y_move rfl) ?_
        refine ap (y_neq rfl rfl) ?_
        refine a_nil ?_
        refine a_en [(3, .pointer (some ⟨b0_0, 0, none⟩)), (7, .pointer (some ⟨b3_6, 0, none⟩)), (8, v3_5r0), (9, v4_2r0), (11, v5_1r0), (12, .int .i64 x5_1.2), (13, .int .i64 yj5_13), (14, .pointer (some ⟨b11_5, 0, none⟩)), (152, .bool (x5_1.2 != 0))] ?_
        refine a_then ?_
        refine a_cond rfl (fun k_9 => ?_) (fun k_9 => ?_)
        · have hm := cond_t k_9 hm
          refine a_exit ?_
          refine a_then_exit ?_
          refine a_block_hit ?_
          refine a_then ?_
          refine a_region rfl ?_
          refine ap (y_move rfl) ?_
          refine ap (y_add rfl rfl) ?_
          refine ap (y_assign rfl) ?_
          refine a_nil ?_
          refine a_en [(3, .pointer (some ⟨b0_0, 0, none⟩)), (7, .pointer (some ⟨b3_6, 0, none⟩)), (8, v3_5r0), (9, v4_2r0), (11, v5_1r0), (12, .int .i64 x5_1.2), (13, .int .i64 (IntKind.i64.wrap (yj5_13 + 1)))] ?_
          refine a_then ?_
          intro a_ w_ ha_ hs_
          exact ⟨n_j5, Nat.lt_succ_self _, Hb13_7, (lj5.trans (lb11_5.trans lb13_7)), IntKind.i64.wrap (yj5_13 + 1), hm, ha_.weaken ⟨rfl, rfl, rfl, rfl, rfl, rfl, rfl, trivial⟩, hs_.reix [] (by decide)⟩
        have hm := cond_f k_9 hm
        refine a_skip ?_
        refine a_then ?_
        refine a_seq ?_
        refine a_seq ?_
        refine a_region rfl ?_
        refine ap (y_assign rfl) ?_
        refine a_nil ?_
        refine a_en [(3, .pointer (some ⟨b0_0, 0, none⟩)), (7, .pointer (some ⟨b3_6, 0, none⟩)), (8, v3_5r0), (9, v4_2r0), (11, v5_1r0), (12, .int .i64 x5_1.2), (13, .int .i64 yj5_13), (14, .pointer (some ⟨b11_5, 0, none⟩)), (20, .int .i64 0)] ?_
        refine a_then ?_
        obtain ⟨s_j10, hs_j10, hm_j10⟩ := bind_some hm
        refine a_join (fun a_ w_ => Sum.inr () = s_j10 ∧ Ag 174 [] [(3, .pointer (some ⟨b0_0, 0, none⟩)), (7, .pointer (some ⟨b3_6, 0, none⟩)), (8, v3_5r0), (9, v4_2r0), (11, v5_1r0), (12, .int .i64 x5_1.2), (13, .int .i64 yj5_13), (14, .pointer (some ⟨b11_5, 0, none⟩))] a_ ∧ St (Kp.mk w H noX) Hb13_7 [] w_) ?_ ?_
        · have hm := hs_j10
          refine a_block ?_
          refine a_loop (fun n_j11 a_ w_ => ∃ (yj11_20 : Int), law03_TunnelTrue_lj11 k x5_1 n_j11 yj11_20 = some s_j10 ∧ Ag 174 [] [(3, .pointer (some ⟨b0_0, 0, none⟩)), (7, .pointer (some ⟨b3_6, 0, none⟩)), (8, v3_5r0), (9, v4_2r0), (11, v5_1r0), (12, .int .i64 x5_1.2), (13, .int .i64 yj5_13), (14, .pointer (some ⟨b11_5, 0, none⟩)), (20, .int .i64 yj11_20)] a_ ∧ St (Kp.mk w H noX) Hb13_7 [] w_) k ?_ ?_
          · intro a_ w_ ha_ hs_
            exact ⟨0, hm, ha_.weaken ⟨rfl, rfl, rfl, rfl, rfl, rfl, rfl, rfl, rfl, trivial⟩, hs_.reix [] (by decide)⟩
          rintro (_ | n_j11) a_ w_ ⟨yj11_20, hm, ha_, hs_⟩
          · rw [law03_TunnelTrue_lj11.eq_1] at hm; cases hm
          rw [law03_TunnelTrue_lj11.eq_2] at hm
          refine a_start ha_ hs_ ?_
          refine a_seq ?_
          refine a_seq ?_
          refine a_region rfl ?_
          refine ap (y_move rfl) ?_
          refine ap (y_move rfl) ?_
          refine ap (y_len_sl Tryd.underlying26 rfl h5_1r0) ?_
          refine ap (y_lss rfl rfl) ?_
          refine a_nil ?_
          refine a_en [(3, .pointer (some ⟨b0_0, 0, none⟩)), (7, .pointer (some ⟨b3_6, 0, none⟩)), (8, v3_5r0), (9, v4_2r0), (11, v5_1r0), (12, .int .i64 x5_1.2), (13, .int .i64 yj5_13), (14, .pointer (some ⟨b11_5, 0, none⟩)), (20, .int .i64 yj11_20), (156, .bool (decide (yj11_20 < (x5_1.1.length : Int))))] ?_
          refine a_then ?_
          refine a_cond rfl (fun k_12 => ?_) (fun k_12 => ?_)
          · have hm := cond_t k_12 hm
            refine a_skip ?_
            refine a_then ?_
            refine a_seq ?_
            refine a_block ?_
            refine a_seq ?_
            refine a_region rfl ?_
            refine ap (y_move rfl) ?_
            refine ap (y_move rfl) ?_
            obtain ⟨x21_2, q21_2, hm⟩ := bind_some hm
            obtain ⟨b21_2, o21_2, c21_2, e21_2, h21_2⟩ := Sl.elemZ 1 rfl h5_1r0 q21_2
            refine ap (y_index Tryd.underlying26 ty3 rfl e21_2 rfl (nth_in q21_2)) ?_
            refine ap (y_load_int ty3 rfl (fun _ h => h.sub) rfl h21_2) ?_
            obtain ⟨x21_4, q21_4, hm⟩ := bind_some hm
            refine a_cons (e_callV (all := [.int .i64 x21_2, .int .i64 0, .int .i64 3]) (v := .bool x21_4) trivial rfl Tryd.func50 rfl rfl rfl rfl rfl (fun w hw => ok_50 hw q21_4) ?_)
            refine ap (y_not rfl) ?_
            refine a_nil ?_
            refine a_en [(3, .pointer (some ⟨b0_0, 0, none⟩)), (7, .pointer (some ⟨b3_6, 0, none⟩)), (8, v3_5r0), (9, v4_2r0), (11, v5_1r0), (12, .int .i64 x5_1.2), (13, .int .i64 yj5_13), (14, .pointer (some ⟨b11_5, 0, none⟩)), (20, .int .i64 yj11_20), (164, .bool (!x21_4))] ?_
            refine a_then ?_
            refine a_cond rfl (fun k_13 => ?_) (fun k_13 => ?_)
            · have hm := cond_t k_13 hm
              refine a_seq ?_
              refine a_region rfl ?_
              refine ap (y_assign rfl) ?_
              refine a_nil ?_
              refine a_en [(6, .bool false)] ?_
              refine a_then ?_
              refine a_ret ?_
              refine a_block_ret ?_
              refine a_then_ret ?_
              refine a_then_ret ?_
              refine a_block_ret ?_
              refine a_cut_ret ?_
              refine a_then_ret ?_
              refine a_block_ret ?_
              refine a_then_ret ?_
              refine a_then_ret ?_
              refine a_block_ret ?_
              refine a_cut_ret ?_
              refine a_then_ret ?_
              obtain rfl := Option.some.inj hm
              have hm := hm_j10
              try dsimp only at hm
              obtain rfl := Option.some.inj hm
              have hm := hm_j4
              try dsimp only at hm
              refine a_done (v := .bool false) (.inl rfl) rfl ?_ ?_
              · intro a_ w_ ha_ hs_; exact run_results (P := Tryd.prog) (fn := Tryd.f6) (rs := [.tmp 6]) (vs := [.bool false]) rfl (.cons (rv_tmp ha_ rfl) (All2.nil))
              · intro _ _; obtain rfl := Option.some.inj hm
                rfl
            have hm := cond_f k_13 hm
            refine a_skip ?_
            refine a_block_normal ?_
            refine a_then ?_
            refine a_region rfl ?_
            refine ap (y_move rfl) ?_
            refine ap (y_add rfl rfl) ?_
            refine ap (y_assign rfl) ?_
            refine a_nil ?_
            refine a_en [(3, .pointer (some ⟨b0_0, 0, none⟩)), (7, .pointer (some ⟨b3_6, 0, none⟩)), (8, v3_5r0), (9, v4_2r0), (11, v5_1r0), (12, .int .i64 x5_1.2), (13, .int .i64 yj5_13), (14, .pointer (some ⟨b11_5, 0, none⟩)), (20, .int .i64 (IntKind.i64.wrap (yj11_20 + 1)))] ?_
            refine a_then ?_
            intro a_ w_ ha_ hs_
            exact ⟨n_j11, Nat.lt_succ_self _, IntKind.i64.wrap (yj11_20 + 1), hm, ha_.weaken ⟨rfl, rfl, rfl, rfl, rfl, rfl, rfl, rfl, rfl, trivial⟩, hs_.reix [] (by decide)⟩
          have hm := cond_f k_12 hm
          refine a_exit ?_
          refine a_then_exit ?_
          refine a_then_exit ?_
          refine a_block_hit ?_
          refine a_cut ?_
          intro a_ w_ ha_ hs_
          exact ⟨Option.some.inj hm, ha_.weaken ⟨rfl, rfl, rfl, rfl, rfl, rfl, rfl, rfl, trivial⟩, hs_.reix [] (by decide)⟩
        have hm := hm_j10
        rintro a_ w_ ⟨rfl, ha_, hs_⟩
        try dsimp only at hm
        refine a_start ha_ hs_ ?_
        refine a_then ?_
        refine a_seq ?_
        obtain ⟨x23_5, q23_5, hm⟩ := bind_some hm
        obtain ⟨x23_6, q23_6, hm⟩ := bind_some hm
        refine d_region (S := Sw Hb13_7 []) (n := 8) (listed := (bits 8 0)) mixed (by kernel_rfl) rfl (by kernel_rfl) ?_
        have h23_0 := TunnelFrame.at_Need hb11_5
        refine dt 0 1 rfl trivial (y_fieldAddr fo55_1 rfl) (sw0 []) ?_
        obtain ⟨u23_1, h23_1, c23_1⟩ := PAt.one h23_0
        refine dt 1 3 rfl trivial (y_load_cells ty32 rfl (fun _ h => h.1) rfl c23_1 (Rp.len h23_1)) (sw0 []) ?_
        obtain ⟨u23_2, h23_2, c23_2⟩ := PAt.one hb3_6
        refine dt 2 7 rfl trivial (y_load_cells ty25 rfl (fun _ h => h.1) rfl c23_2 (Rp.len h23_2)) (sw0 []) ?_
        refine dt 3 15 rfl trivial (y_move rfl) (sw0 []) ?_
        obtain ⟨u23_4, h23_4, c23_4⟩ := PAt.one hb11_5
        refine dt 4 31 rfl trivial (y_load_cells ty55 rfl (fun _ h => h.1) rfl c23_4 (Rp.len h23_4)) (sw0 []) ?_
        refine d1 5 rfl (e_callV (all := [.agg u23_2.toArray, v5_1r0, .agg u23_4.toArray]) (v := .int .i64 x23_5) trivial rfl Tryd.func47 rfl rfl rfl rfl rfl (fun w hw => ok_47 hw h23_2 h5_1r0 h23_4 q23_5) ?_)
        refine dn 63 (sw0 []) ?_
        refine d1 6 rfl (e_callV (all := [.agg u23_1.toArray, .int .i64 x23_5]) (v := .bool x23_6) trivial rfl Tryd.func48 rfl rfl rfl rfl rfl (fun w hw => ok_48 hw h23_1 q23_6) ?_)
        refine dn 127 (sw0 []) ?_
        refine dt 7 255 rfl trivial (y_not rfl) (sw0 []) ?_
        refine d_done (by kernel_rfl) ?_
        refine a_en [(3, .pointer (some ⟨b0_0, 0, none⟩)), (7, .pointer (some ⟨b3_6, 0, none⟩)), (8, v3_5r0), (9, v4_2r0), (11, v5_1r0), (12, .int .i64 x5_1.2), (13, .int .i64 yj5_13), (172, .bool (!x23_6))] ?_
        refine a_then ?_
        refine a_cond rfl (fun k_14 => ?_) (fun k_14 => ?_)
        · have hm := cond_t k_14 hm
          refine a_seq ?_
          refine a_region rfl ?_
          refine ap (y_assign rfl) ?_
          refine a_nil ?_
          refine a_en [(6, .bool false)] ?_
          refine a_then ?_
          refine a_ret ?_
          refine a_block_ret ?_
          refine a_then_ret ?_
          refine a_then_ret ?_
          refine a_block_ret ?_
          refine a_cut_ret ?_
          refine a_then_ret ?_
          obtain rfl := Option.some.inj hm
          have hm := hm_j4
          try dsimp only at hm
          refine a_done (v := .bool false) (.inl rfl) rfl ?_ ?_
          · intro a_ w_ ha_ hs_; exact run_results (P := Tryd.prog) (fn := Tryd.f6) (rs := [.tmp 6]) (vs := [.bool false]) rfl (.cons (rv_tmp ha_ rfl) (All2.nil))
          · intro _ _; obtain rfl := Option.some.inj hm
            rfl
        have hm := cond_f k_14 hm
        refine a_skip ?_
        refine a_block_normal ?_
        refine a_then ?_
        refine a_region rfl ?_
        refine ap (y_move rfl) ?_
        refine ap (y_add rfl rfl) ?_
        refine ap (y_assign rfl) ?_
        refine a_nil ?_
        refine a_en [(3, .pointer (some ⟨b0_0, 0, none⟩)), (7, .pointer (some ⟨b3_6, 0, none⟩)), (8, v3_5r0), (9, v4_2r0), (11, v5_1r0), (12, .int .i64 x5_1.2), (13, .int .i64 (IntKind.i64.wrap (yj5_13 + 1)))] ?_
        refine a_then ?_
        intro a_ w_ ha_ hs_
        exact ⟨n_j5, Nat.lt_succ_self _, Hb13_7, (lj5.trans (lb11_5.trans lb13_7)), IntKind.i64.wrap (yj5_13 + 1), hm, ha_.weaken ⟨rfl, rfl, rfl, rfl, rfl, rfl, rfl, trivial⟩, hs_.reix [] (by decide)⟩
      have hm := cond_f k_6 hm
      refine a_exit ?_
      refine a_then_exit ?_
      refine a_then_exit ?_
      refine a_block_hit ?_
      refine a_cut ?_
      intro a_ w_ ha_ hs_
      exact ⟨Hj5, lj5, Option.some.inj hm, ha_.weaken trivial, hs_.reix [] (by decide)⟩
    have hm := hm_j4
    rintro a_ w_ ⟨Hj4, lj4, rfl, ha_, hs_⟩
    try dsimp only at hm
    refine a_start ha_ hs_ ?_
    have hg := Glob.mono lj4 hg
    refine a_then ?_
    refine a_seq ?_
    refine a_region rfl ?_
    obtain ⟨x25_0, q25_0, hm⟩ := bind_some hm
    refine a_cons (e_callV (all := []) (v := .bool x25_0) trivial rfl Tryd.func30 rfl rfl rfl rfl rfl (fun w hw => ok_30 hw hg q25_0) ?_)
    refine ap (y_assign rfl) ?_
    refine a_nil ?_
    refine a_en [(6, .bool x25_0)] ?_
    refine a_then ?_
    refine a_ret ?_
    refine a_done (v := .bool x25_0) (.inl rfl) rfl ?_ ?_
    · intro a_ w_ ha_ hs_; exact run_results (P := Tryd.prog) (fn := Tryd.f6) (rs := [.tmp 6]) (vs := [.bool x25_0]) rfl (.cons (rv_tmp ha_ rfl) (All2.nil))
    · intro _ _; obtain rfl := Option.some.inj hm
      rfl
  have N3_1 (Hn3_4 : Hp) (ln3_4 : HLe Hb0_0 Hn3_4) (b3_6 : Nat) (c3_2r0 : List Value) (v3_5r0 : Value) (h3_2r0 : Rp.rep (α := TunnelBook) Hn3_4 c3_2r0 x3_2) (h3_5r0 : Sl (α := Int) Hn3_4 v3_5r0 x3_5) : At 174 [] (Kp.mk w H noX) [(3, .pointer (some ⟨b0_0, 0, none⟩)), (7, .pointer (some ⟨b3_6, 0, none⟩)), (27, .agg c3_2r0.toArray), (30, v3_5r0)] Hn3_4 ([.box b3_6 [.slice none 0 0, .slice none 0 0] 25]) (U3 (Sw Hn3_4 []) 2 (bits 9 127)) := by
    refine d_fwd hU3 ?_
    have hb0_0 := PAt.mono ln3_4 hb0_0
    have hg := Glob.mono ln3_4 hg
    refine d1 7 rfl (e_storeWhole (i := 0) (ds := c3_2r0) trivial ty25 rfl rfl rfl rfl (Rp.len h3_2r0) ((Rp.one h3_2r0)) rfl ?_)
    refine dn 255 (sw0 []) ?_
    exact d_edge hU3 (N3_0 Hn3_4 ln3_4 b3_6 v3_5r0 c3_2r0 h3_5r0 h3_2r0) ⟨rfl, rfl, rfl, trivial⟩ [0] (by decide) rfl (fun _ h => h)
  have N3_2 (Hn3_6 : Hp) (ln3_6 : HLe Hb0_0 Hn3_6) (c3_2r0 : List Value) (v3_5r0 : Value) (h3_2r0 : Rp.rep (α := TunnelBook) Hn3_6 c3_2r0 x3_2) (h3_5r0 : Sl (α := Int) Hn3_6 v3_5r0 x3_5) : At 174 [] (Kp.mk w H noX) [(3, .pointer (some ⟨b0_0, 0, none⟩)), (27, .agg c3_2r0.toArray), (30, v3_5r0)] Hn3_6 [] (U3 (Sw Hn3_6 []) 3 (bits 9 63)) := by
    refine d_fwd hU3 ?_
    have hb0_0 := PAt.mono ln3_6 hb0_0
    have hg := Glob.mono ln3_6 hg
    refine d1 6 rfl (e_alloc (cs := [.slice none 0 0, .slice none 0 0]) trivial rfl ty25 rfl ?_)
    intro b3_6
    refine dn 127 (sw0 []) ?_
    exact d_edge hU3 (N3_1 Hn3_6 ln3_6 b3_6 c3_2r0 v3_5r0 h3_2r0 h3_5r0) ⟨rfl, rfl, rfl, rfl, trivial⟩ [0] (by decide) rfl (fun _ h => h)
  have N3_3 (Hn3_3 : Hp) (ln3_3 : HLe Hb0_0 Hn3_3) (b3_6 : Nat) (c3_2r0 : List Value) (u3_3 : List Value) (h3_2r0 : Rp.rep (α := TunnelBook) Hn3_3 c3_2r0 x3_2) (h3_3 : Rp.rep (α := TunnelBook) Hn3_3 u3_3 p0) : At 174 [] (Kp.mk w H noX) [(3, .pointer (some ⟨b0_0, 0, none⟩)), (7, .pointer (some ⟨b3_6, 0, none⟩)), (27, .agg c3_2r0.toArray), (28, .agg u3_3.toArray), (29, v2)] Hn3_3 ([.box b3_6 [.slice none 0 0, .slice none 0 0] 25]) (U3 (Sw Hn3_3 []) 3 (bits 9 95)) := by
    refine d_fwd hU3 ?_
    have hb0_0 := PAt.mono ln3_3 hb0_0
    have h2 := Sl.mono ln3_3 h2
    have hg := Glob.mono ln3_3 hg
    refine d1 5 rfl (e_callH (all := [.agg u3_3.toArray, v2]) trivial rfl Tryd.func45 rfl rfl rfl rfl rfl (fun w hw => ok_45 hw h3_3 h2 q3_5) ?_)
    rintro v3_5r0 H3_5 l3_5 ⟨_, rfl, h3_5r0⟩
    have hb0_0 := PAt.mono l3_5 hb0_0
    have h3_3 := Rp.mono l3_5 h3_3
    have h2 := Sl.mono l3_5 h2
    have h3_2r0 := Rp.mono l3_5 h3_2r0
    have hg := Glob.mono l3_5 hg
    refine dn 127 (swl l3_5 []) ?_
    exact d_edge hU3 (N3_1 H3_5 (ln3_3.trans l3_5) b3_6 c3_2r0 v3_5r0 h3_2r0 h3_5r0) ⟨rfl, rfl, rfl, rfl, trivial⟩ [0] (by decide) rfl (sw_sw l3_5 [] rfl)
  have N3_4 (Hn3_1 : Hp) (ln3_1 : HLe Hb0_0 Hn3_1) (c3_2r0 : List Value) (u3_3 : List Value) (h3_2r0 : Rp.rep (α := TunnelBook) Hn3_1 c3_2r0 x3_2) (h3_3 : Rp.rep (α := TunnelBook) Hn3_1 u3_3 p0) : At 174 [] (Kp.mk w H noX) [(3, .pointer (some ⟨b0_0, 0, none⟩)), (27, .agg c3_2r0.toArray), (28, .agg u3_3.toArray), (29, v2)] Hn3_1 [] (U3 (Sw Hn3_1 []) 4 (bits 9 31)) := by
    refine d_fwd hU3 ?_
    have hb0_0 := PAt.mono ln3_1 hb0_0
    have h2 := Sl.mono ln3_1 h2
    have hg := Glob.mono ln3_1 hg
    refine d_all (rs := [5, 6]) (by kernel_rfl) rfl ⟨⟨_, rfl, ?_⟩, ⟨_, rfl, ?_⟩, trivial⟩
    · refine e_callH (all := [.agg u3_3.toArray, v2]) trivial rfl Tryd.func45 rfl rfl rfl rfl rfl (fun w hw => ok_45 hw h3_3 h2 q3_5) ?_
      rintro v3_5r0 H3_5 l3_5 ⟨_, rfl, h3_5r0⟩
      have hb0_0 := PAt.mono l3_5 hb0_0
      have h3_3 := Rp.mono l3_5 h3_3
      have h2 := Sl.mono l3_5 h2
      have h3_2r0 := Rp.mono l3_5 h3_2r0
      have hg := Glob.mono l3_5 hg
      refine dn 63 (swl l3_5 []) ?_
      exact d_edge hU3 (N3_2 H3_5 (ln3_1.trans l3_5) c3_2r0 v3_5r0 h3_2r0 h3_5r0) ⟨rfl, rfl, rfl, trivial⟩ [] (by decide) rfl (sw_sw l3_5 [] rfl)
    refine e_alloc (cs := [.slice none 0 0, .slice none 0 0]) trivial rfl ty25 rfl ?_
    intro b3_6
    refine dn 95 (sw0 []) ?_
    exact d_edge hU3 (N3_3 Hn3_1 ln3_1 b3_6 c3_2r0 u3_3 h3_2r0 h3_3) ⟨rfl, rfl, rfl, rfl, rfl, trivial⟩ [0] (by decide) rfl (fun _ h => h)
  have N3_5 (Hn3_2 : Hp) (ln3_2 : HLe Hb0_0 Hn3_2) (b3_6 : Nat) (u3_0 : List Value) (u3_3 : List Value) (h3_0 : Rp.rep (α := TunnelBook) Hn3_2 u3_0 p0) (h3_3 : Rp.rep (α := TunnelBook) Hn3_2 u3_3 p0) : At 174 [] (Kp.mk w H noX) [(3, .pointer (some ⟨b0_0, 0, none⟩)), (7, .pointer (some ⟨b3_6, 0, none⟩)), (25, .agg u3_0.toArray), (26, v1), (28, .agg u3_3.toArray), (29, v2)] Hn3_2 ([.box b3_6 [.slice none 0 0, .slice none 0 0] 25]) (U3 (Sw Hn3_2 []) 4 (bits 9 91)) := by
    refine d_fwd hU3 ?_
    have hb0_0 := PAt.mono ln3_2 hb0_0
    have h1 := Sl.mono ln3_2 h1
    have h2 := Sl.mono ln3_2 h2
    have hg := Glob.mono ln3_2 hg
    refine d1 2 rfl (e_callH (all := [.agg u3_0.toArray, v1]) trivial rfl Tryd.func44 rfl rfl rfl rfl rfl (fun w hw => ok_44 hw h3_0 h1 q3_2) ?_)
    rintro _ H3_2 l3_2 ⟨c3_2r0, rfl, h3_2r0⟩
    have hb0_0 := PAt.mono l3_2 hb0_0
    have h3_0 := Rp.mono l3_2 h3_0
    have h1 := Sl.mono l3_2 h1
    have h3_3 := Rp.mono l3_2 h3_3
    have h2 := Sl.mono l3_2 h2
    have hg := Glob.mono l3_2 hg
    refine dn 95 (swl l3_2 []) ?_
    exact d_edge hU3 (N3_3 H3_2 (ln3_2.trans l3_2) b3_6 c3_2r0 u3_3 h3_2r0 h3_3) ⟨rfl, rfl, rfl, rfl, rfl, trivial⟩ [0] (by decide) rfl (sw_sw l3_2 [] rfl)
  refine d_fwd hU3 ?_
  obtain ⟨u3_0, h3_0, c3_0⟩ := PAt.one hb0_0
  refine dt 0 1 rfl trivial (y_load_cells ty25 rfl (fun _ h => h.1) rfl c3_0 (Rp.len h3_0)) (sw0 []) ?_
  refine dt 1 3 rfl trivial (y_move rfl) (sw0 []) ?_
  obtain ⟨u3_3, h3_3, c3_3⟩ := PAt.one hb0_0
  refine dt 3 11 rfl trivial (y_load_cells ty25 rfl (fun _ h => h.1) rfl c3_3 (Rp.len h3_3)) (sw0 []) ?_
  refine dt 4 27 rfl trivial (y_move rfl) (sw0 []) ?_
  refine d_all (rs := [2, 6]) (by kernel_rfl) rfl ⟨⟨_, rfl, ?_⟩, ⟨_, rfl, ?_⟩, trivial⟩
  · refine e_callH (all := [.agg u3_0.toArray, v1]) trivial rfl Tryd.func44 rfl rfl rfl rfl rfl (fun w hw => ok_44 hw h3_0 h1 q3_2) ?_
    rintro _ H3_2 l3_2 ⟨c3_2r0, rfl, h3_2r0⟩
    have h1 := Sl.mono l3_2 h1
    have h2 := Sl.mono l3_2 h2
    have hb0_0 := PAt.mono l3_2 hb0_0
    have h3_0 := Rp.mono l3_2 h3_0
    have h3_3 := Rp.mono l3_2 h3_3
    have hg := Glob.mono l3_2 hg
    refine dn 31 (swl l3_2 []) ?_
    exact d_edge hU3 (N3_4 H3_2 l3_2 c3_2r0 u3_3 h3_2r0 h3_3) ⟨rfl, rfl, rfl, rfl, trivial⟩ [] (by decide) rfl (sw_sw l3_2 [] rfl)
  refine e_alloc (cs := [.slice none 0 0, .slice none 0 0]) trivial rfl ty25 rfl ?_
  intro b3_6
  refine dn 91 (sw0 []) ?_
  exact d_edge hU3 (N3_5 Hb0_0 (HLe.refl _) b3_6 u3_0 u3_3 h3_0 h3_3) ⟨rfl, rfl, rfl, rfl, rfl, rfl, trivial⟩ [0] (by decide) rfl (fun _ h => h)
end Go.Lu
