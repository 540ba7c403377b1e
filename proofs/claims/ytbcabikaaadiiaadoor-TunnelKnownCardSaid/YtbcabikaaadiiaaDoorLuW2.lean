/- Of each function that the example reaches, part 2: what it computes (a plain function: none where the code would panic, or fuel is used up), and the walk that shows it. -/
import Derived.Test.YtbcabikaaadiiaaDoorLuW1
namespace Go.Lu
open Go Go.Proofs
set_option linter.unusedVariables false
set_option maxRecDepth 100000
set_option maxHeartbeats 8000000
def tunnel_book_best_lj2 (k : Nat) (p0 : TunnelBook) (p1 : List Int) (sc : TunnelChoice) (sf : Bool) (u : List Int) : Nat → Int → Option (Sum (TunnelChoice × Bool) Unit)
 | 0, _ => none
 | n_j2 + 1, yj2_19 =>
 bif decide (yj2_19 < (p1.length : Int)) then
 (nth p1 yj2_19).bind fun x7_0 =>
 (tunnel_book_isDry k p0 (⟨x7_0, u⟩ : TunnelDrying)).bind fun x8_4 =>
 bif !x8_4 then
 some (Sum.inl (sc, sf))
 else
 tunnel_book_best_lj2 k p0 p1 sc sf u n_j2 (IntKind.i64.wrap (yj2_19 + 1))
 else
 some (Sum.inr ())
def tunnel_book_best_step (k : Nat) (p0 : TunnelBook) (p1 : List Int) (sc : TunnelChoice) (sf : Bool) (u : List Int) : Option (TunnelChoice × Bool) :=
 (tunnel_book_best_lj2 k p0 p1 sc sf u k 0).bind fun o => (match o with
 | .inl r => some r
 | .inr _ =>
 (tunnel_book_good k p0 u).bind fun x10_3 =>
 (tunnel_book_heat k p0 u).bind fun x10_7 =>
 (bif !sf then
 some (true)
 else
 (tunnel_most_1 k (⟨u, (x10_3.length : Int), x10_7⟩ : TunnelChoice) sc).bind fun x11_7 =>
 some (x11_7)).bind fun yj5_47 =>
 bif yj5_47 then
 some (((⟨u, (x10_3.length : Int), x10_7⟩ : TunnelChoice), true))
 else
 some ((sc, sf)))
def tunnel_book_best (k : Nat) (p0 : TunnelBook) (p1 : List Int) : Option (TunnelChoice × Bool) :=
 (tunnel_book_settings_1 (σ := TunnelChoice × Bool) (fun s x => tunnel_book_best_step k p0 p1 s.1 s.2 x) p0 k ((⟨[0, 0, 0, 0], 0, 0⟩ : TunnelChoice), false)).bind fun xrf =>
 some ((xrf.1, xrf.2))
theorem ok_96 {k : Nat} {H : Hp} {w : World} {p0 : TunnelBook} {p1 : List Int} {M0 : Nat} {c0 : List Value} {v1 : Value} {r : TunnelChoice × Bool} (hsub : Sub H w) (h0 : Rp.rep (α := Bk (some M0)) H c0 p0) (h1 : Sl (α := Int) H v1 p1) (hg : Glob H) (hM : ∃ o, w.heap[M0]? = some o ∧ Memo p0 o) (hMn : H M0 = none) (hm : tunnel_book_best k p0 p1 = some r) : Calls Tryd.prog 96 [.agg c0.toArray, v1].toArray w (PostM w H M0 (Memo p0) fun v H' => ∃ c0, v = .tuple #[.agg c0.toArray, .bool r.2] ∧ Rp.rep (α := TunnelChoice) H' c0 r.1) := by
  unfold tunnel_book_best at hm
  refine startMm (n := 51) (E := [(0, .agg c0.toArray), (1, v1)]) Tryd.func96 rfl rfl ⟨rfl, rfl, trivial⟩ rfl hsub hM hMn ?_
  refine a_seq (a_region rfl ?_)
  refine a_cons (e_box (cs := c0) trivial rfl rfl rfl ?_)
  intro b0_0
  refine a_cons (e_box (cs := [v1]) trivial rfl rfl (by rw [Sl.cells1 h1]) ?_)
  intro b0_1
  refine a_cons (e_alloc (cs := [.int .i64 0, .int .i64 0, .int .i64 0, .int .i64 0, .int .i64 0, .int .i64 0]) trivial rfl ty125 rfl ?_)
  intro b0_2
  have mz0_2 := z125 H
  refine ap (y_assign rfl) ?_
  refine a_nil ?_
  refine a_freeze (α := List Int) (x := p1) (i := 1) rfl (show Rp.rep (α := List Int) H [v1] p1 from ⟨_, rfl, h1⟩) ?_
  intro Hb0_1 lb0_1 hb0_1
  have h0 := Rp.mono lb0_1 h0
  have h1 := Sl.mono lb0_1 h1
  have mz0_2 := Rp.mono lb0_1 mz0_2
  have hg := Glob.mono lb0_1 hg
  refine a_freeze (α := Bk _) (x := p0) (i := 2) rfl h0 ?_
  intro Hb0_0 lb0_0 hb0_0
  have h0 := Rp.mono lb0_0 h0
  have h1 := Sl.mono lb0_0 h1
  have hb0_1 := PAt.mono lb0_0 hb0_1
  have mz0_2 := Rp.mono lb0_0 mz0_2
  have hg := Glob.mono lb0_0 hg
  refine a_en [(2, .pointer (some ⟨b0_0, 0, none⟩)), (3, .pointer (some ⟨b0_1, 0, none⟩)), (4, .pointer (some ⟨b0_2, 0, none⟩))] ?_
  refine a_own [0, 3] (by decide) (L' := [.box b0_2 [.int .i64 0, .int .i64 0, .int .i64 0, .int .i64 0, .int .i64 0, .int .i64 0] 125, .blk M0 (Memo p0)]) rfl ?_
  refine a_then ?_
  refine a_scoped ?_
  refine a_seq (a_region rfl ?_)
  refine a_cons (e_alloc (cs := [.int .i64 0, .int .i64 0, .int .i64 0, .int .i64 0, .int .i64 0, .int .i64 0]) trivial rfl ty125 rfl ?_)
  intro b1_0
  have mz1_0 := z125 Hb0_0
  refine a_nil (a_then (a_seq (a_region rfl ?_)))
  refine a_cons (e_callV (all := []) (v := .agg #[.func (.func 196) #[] #[]]) trivial rfl Tryd.func154 rfl rfl rfl rfl rfl (fun w hw => ok_154 hw) ?_)
  refine a_cons (e_alloc (cs := [.bool false]) trivial rfl ty4 rfl ?_)
  intro b2_1
  refine a_cons (e_alloc (cs := [.nilFunc]) trivial rfl ty215 rfl ?_)
  intro b2_2
  refine a_cons (e_storeWhole (i := 1) (ds := [.bool false]) trivial ty4 rfl rfl rfl rfl rfl (cells_one_bool _) rfl ?_)
  refine a_cons (e_storeWholeL (i := 0) (ds := [.func (.func 196) #[] #[]]) trivial ty215 rfl rfl rfl rfl rfl ⟨.inl rfl, trivial⟩ rfl ?_)
  refine a_nil ?_
  refine a_en [(2, .pointer (some ⟨b0_0, 0, none⟩)), (3, .pointer (some ⟨b0_1, 0, none⟩)), (4, .pointer (some ⟨b0_2, 0, none⟩)), (6, .pointer (some ⟨b1_0, 0, none⟩)), (7, .pointer (some ⟨b2_1, 0, none⟩)), (8, .pointer (some ⟨b2_2, 0, none⟩))] ?_
  refine a_then (a_seq (a_label (a_then (a_seq (a_seq (a_region rfl ?_))))))
  obtain ⟨u3_0, h3_0, c3_0⟩ := PAt.one hb0_0
  refine ap (y_load_cells ty110 rfl (fun _ h => h.sub) rfl c3_0 (Rp.len h3_0)) ?_
  refine a_cons (e_callH (all := [.agg u3_0.toArray]) trivial rfl Tryd.func155 rfl rfl rfl rfl rfl (fun w hw => ok_155 hw h3_0) ?_)
  rintro _ H3_1 l3_1 ⟨bb3_1, rfl, hbb3_1⟩
  have hb0_0 := PAt.mono l3_1 hb0_0
  have hb0_1 := PAt.mono l3_1 hb0_1
  have h3_0 := Rp.mono l3_1 h3_0
  have mz0_2 := Rp.mono l3_1 mz0_2
  have mz1_0 := Rp.mono l3_1 mz1_0
  have hg := Glob.mono l3_1 hg
  refine a_nil ?_
  refine a_en [(2, .pointer (some ⟨b0_0, 0, none⟩)), (3, .pointer (some ⟨b0_1, 0, none⟩)), (4, .pointer (some ⟨b0_2, 0, none⟩)), (6, .pointer (some ⟨b1_0, 0, none⟩)), (7, .pointer (some ⟨b2_1, 0, none⟩)), (8, .pointer (some ⟨b2_2, 0, none⟩)), (15, .func (.func 197) #[] #[.pointer (some ⟨bb3_1, 0, none⟩)])] ?_
  refine a_then (a_block ?_)
  refine a_toE (i := 2) (q := fun cs => ∀ H, Rp.rep (α := TunnelChoice) H cs (⟨[0, 0, 0, 0], 0, 0⟩ : TunnelChoice)) rfl (fun _ => choice_any mz1_0) ?_
  refine a_toE (i := 1) (q := fun cs => cs = [.bool false]) rfl rfl ?_
  refine a_toE (i := 0) (q := fun cs => cs = [.func (.func 196) #[] #[]]) rfl rfl ?_
  refine a_own [2, 1, 0, 4, 3] (by decide) (L' := LXs (σ := TunnelChoice × Bool) [(b1_0, fun (s : TunnelChoice × Bool) o => ∃ cs, o = .cells cs.toArray 125 (0, 0) ∧ ∀ H, Rp.rep (α := TunnelChoice) H cs s.1), (b2_1, fun (s : TunnelChoice × Bool) o => ∃ cs, o = .cells cs.toArray 4 (0, 0) ∧ cs = [.bool s.2]), (b2_2, fun _ o => ∃ cs, o = .cells cs.toArray 215 (0, 0) ∧ cs = [.func (.func 196) #[] #[]]), (M0, fun _ => Memo p0)] ((⟨[0, 0, 0, 0], 0, 0⟩ : TunnelChoice), false) ++ [.box b0_2 [.int .i64 0, .int .i64 0, .int .i64 0, .int .i64 0, .int .i64 0, .int .i64 0] 125]) rfl ?_
  obtain ⟨xrf, qrf, hm⟩ := bind_some hm
  refine a_rangeFunc (α := Arr 4 Int) (s1 := xrf) (cap := [.pointer (some ⟨bb3_1, 0, none⟩)]) rfl Tryd.func197 rfl rfl rfl (fun s x => tunnel_book_best_step k p0 p1 s.1 s.2 x) (fun l_ Bs w hw hX hy => ?_) ?_ ?_
  · exact (ok_197 hw hX hy hbb3_1 qrf).mono fun e w' ⟨v, H', he, hl, hv, ho⟩ => ⟨v, H', he, hl, ho⟩
  · intro w0 l d rec H1 s_ u_ s1_ cs_ hr1 hr2 hle hst hrep
    obtain ⟨u, rfl⟩ : ∃ u : List Int, u = u_ := ⟨u_, rfl⟩
    obtain ⟨sc, sf⟩ := s_
    have hm : tunnel_book_best_step k p0 p1 sc sf u = some s1_ := hst
    unfold tunnel_book_best_step at hm
    have hb0_0 := PAt.mono hle hb0_0
    have hb0_1 := PAt.mono hle hb0_1
    have hbb3_1 := PAt.mono hle hbb3_1
    have mz0_2 := Rp.mono hle mz0_2
    have mz1_0 := Rp.mono hle mz1_0
    have hg := Glob.mono hle hg
    refine a_openE (i := 2) rfl fun cb0 hb0 => ?_
    refine a_openE (i := 3) rfl fun cb1 hb1 => ?_
    subst hb1
    refine a_openE (i := 4) rfl fun cb2 hb2 => ?_
    subst hb2
    have hb0 := hb0 H1
    refine a_own [0, 1, 2, 3, 4, 5] (by decide) (L' := [.blk l (fun o => o = .loop rec), .blk d (fun o => o = .deferred (some [])), BoxB b1_0 cb0 125, BoxB b2_1 [.bool sf] 4, BoxB b2_2 ([.func (.func 196) #[] #[]]) 215, .blk M0 (Memo p0)]) rfl ?_
    refine a_region rfl ?_
    refine a_cons (e_alloc (cs := [.int .i64 0, .int .i64 0, .int .i64 0, .int .i64 0]) trivial rfl ty111 rfl ?_)
    intro b4_0
    have mz4_0 := z111 H1
    refine a_cons (e_storeWhole (i := 0) (ds := cs_) trivial ty111 rfl rfl rfl rfl (Rp.len hrep) ((Rp.one hrep)) rfl ?_)
    refine a_nil ?_
    refine a_freeze (α := Arr 4 Int) (x := u) (i := 0) rfl hrep ?_
    intro Hb4_0 lb4_0 hb4_0
    have hb0_0 := PAt.mono lb4_0 hb0_0
    have hb0_1 := PAt.mono lb4_0 hb0_1
    have hbb3_1 := PAt.mono lb4_0 hbb3_1
    have hrep := Rp.mono lb4_0 hrep
    have hb0 := Rp.mono lb4_0 hb0
    have hg := Glob.mono lb4_0 hg
    refine a_en [(2, .pointer (some ⟨b0_0, 0, none⟩)), (3, .pointer (some ⟨b0_1, 0, none⟩)), (6, .pointer (some ⟨b1_0, 0, none⟩)), (7, .pointer (some ⟨b2_1, 0, none⟩)), (8, .pointer (some ⟨b2_2, 0, none⟩)), (9, .pointer (some ⟨b4_0, 0, none⟩))] ?_
    refine a_own [1, 2, 3, 4, 5, 6] (by decide) (L' := [.blk l (fun o => o = .loop rec), .blk d (fun o => o = .deferred (some [])), BoxB b1_0 cb0 125, BoxB b2_1 [.bool sf] 4, BoxB b2_2 ([.func (.func 196) #[] #[]]) 215, .blk M0 (Memo p0)]) rfl ?_
    refine a_mid (i := 0) hr1 rfl ?_
    refine a_block (a_seq (a_seq (a_region rfl ?_)))
    obtain ⟨v5_0, h5_0, c5_0⟩ := PAt.sl hb0_1
    refine ap (y_load_one ty26 rfl (fun _ h => h.sub) rfl c5_0) ?_
    refine ap (y_len_sl Tryd.underlying26 rfl h5_0) ?_
    refine ap (y_move rfl) ?_
    refine a_nil ?_
    refine a_en [(2, .pointer (some ⟨b0_0, 0, none⟩)), (6, .pointer (some ⟨b1_0, 0, none⟩)), (7, .pointer (some ⟨b2_1, 0, none⟩)), (8, .pointer (some ⟨b2_2, 0, none⟩)), (9, .pointer (some ⟨b4_0, 0, none⟩)), (17, v5_0), (18, .int .i64 (p1.length : Int)), (19, .int .i64 0)] ?_
    refine a_then ?_
    obtain ⟨s_j1, hs_j1, hm_j1⟩ := bind_some hm
    refine a_join (fun a_ w_ => ∃ (Hj1 : Hp), ∃ (_ : HLe Hb4_0 Hj1), Sum.inr () = s_j1 ∧ Ag 51 [] [(2, .pointer (some ⟨b0_0, 0, none⟩)), (6, .pointer (some ⟨b1_0, 0, none⟩)), (7, .pointer (some ⟨b2_1, 0, none⟩)), (8, .pointer (some ⟨b2_2, 0, none⟩)), (9, .pointer (some ⟨b4_0, 0, none⟩))] a_ ∧ St (Kp.mk w0 H1 (Xs ((l, fun _ o => o = .loop rec) :: (d, fun _ o => o = .deferred (some [])) :: [(b1_0, fun (s : TunnelChoice × Bool) o => ∃ cs, o = .cells cs.toArray 125 (0, 0) ∧ ∀ H, Rp.rep (α := TunnelChoice) H cs s.1), (b2_1, fun (s : TunnelChoice × Bool) o => ∃ cs, o = .cells cs.toArray 4 (0, 0) ∧ cs = [.bool s.2]), (b2_2, fun _ o => ∃ cs, o = .cells cs.toArray 215 (0, 0) ∧ cs = [.func (.func 196) #[] #[]]), (M0, fun _ => Memo p0)]))) Hj1 ([.blk l (fun o => o = .loop { rec with state := .busy }), .blk d (fun o => o = .deferred (some [])), .blk M0 (Memo p0), BoxB b1_0 cb0 125, BoxB b2_1 [.bool sf] 4, BoxB b2_2 ([.func (.func 196) #[] #[]]) 215]) w_) ?_ ?_
    · have hm := hs_j1
      refine a_block ?_
      refine a_loop (fun n_j2 a_ w_ => ∃ (Hj2 : Hp), ∃ (_ : HLe Hb4_0 Hj2), ∃ (yj2_19 : Int), tunnel_book_best_lj2 k p0 p1 sc sf u n_j2 yj2_19 = some s_j1 ∧ Ag 51 [] [(2, .pointer (some ⟨b0_0, 0, none⟩)), (6, .pointer (some ⟨b1_0, 0, none⟩)), (7, .pointer (some ⟨b2_1, 0, none⟩)), (8, .pointer (some ⟨b2_2, 0, none⟩)), (9, .pointer (some ⟨b4_0, 0, none⟩)), (17, v5_0), (18, .int .i64 (p1.length : Int)), (19, .int .i64 yj2_19)] a_ ∧ St (Kp.mk w0 H1 (Xs ((l, fun _ o => o = .loop rec) :: (d, fun _ o => o = .deferred (some [])) :: [(b1_0, fun (s : TunnelChoice × Bool) o => ∃ cs, o = .cells cs.toArray 125 (0, 0) ∧ ∀ H, Rp.rep (α := TunnelChoice) H cs s.1), (b2_1, fun (s : TunnelChoice × Bool) o => ∃ cs, o = .cells cs.toArray 4 (0, 0) ∧ cs = [.bool s.2]), (b2_2, fun _ o => ∃ cs, o = .cells cs.toArray 215 (0, 0) ∧ cs = [.func (.func 196) #[] #[]]), (M0, fun _ => Memo p0)]))) Hj2 ([.blk l (fun o => o = .loop { rec with state := .busy }), .blk d (fun o => o = .deferred (some [])), .blk M0 (Memo p0), BoxB b1_0 cb0 125, BoxB b2_1 [.bool sf] 4, BoxB b2_2 ([.func (.func 196) #[] #[]]) 215]) w_) k ?_ ?_
      · intro a_ w_ ha_ hs_
        exact ⟨Hb4_0, (HLe.refl _), 0, hm, ha_.weaken ⟨rfl, rfl, rfl, rfl, rfl, rfl, rfl, rfl, trivial⟩, hs_.reix [0, 1, 5, 2, 3, 4] (by decide)⟩
      rintro (_ | n_j2) a_ w_ ⟨Hj2, lj2, yj2_19, hm, ha_, hs_⟩
      · rw [tunnel_book_best_lj2.eq_1] at hm; cases hm
      rw [tunnel_book_best_lj2.eq_2] at hm
      refine a_start ha_ hs_ ?_
      have hb0_0 := PAt.mono lj2 hb0_0
      have hb4_0 := PAt.mono lj2 hb4_0
      have h5_0 := Sl.mono lj2 h5_0
      have hb0 := Rp.mono lj2 hb0
      have hg := Glob.mono lj2 hg
      refine a_seq (a_region rfl ?_)
      refine ap (y_lss rfl rfl) ?_
      refine a_nil (a_then (a_seq ?_))
      refine a_cond rfl (fun k_3 => ?_) (fun k_3 => ?_)
      · have hm := cond_t k_3 hm
        refine a_skip (a_then (a_seq (a_block (a_seq (a_region rfl ?_)))))
        obtain ⟨x7_0, q7_0, hm⟩ := bind_some hm
        obtain ⟨b7_0, o7_0, c7_0, e7_0, h7_0⟩ := Sl.elemZ 1 rfl h5_0 q7_0
        refine ap (y_index Tryd.underlying26 ty3 rfl e7_0 rfl (nth_in q7_0)) ?_
        refine ap (y_load_int ty3 rfl (fun _ h => h.sub) rfl h7_0) ?_
        refine ap (y_assign rfl) ?_
        refine a_nil ?_
        refine a_en [(2, .pointer (some ⟨b0_0, 0, none⟩)), (6, .pointer (some ⟨b1_0, 0, none⟩)), (7, .pointer (some ⟨b2_1, 0, none⟩)), (8, .pointer (some ⟨b2_2, 0, none⟩)), (9, .pointer (some ⟨b4_0, 0, none⟩)), (11, .int .i64 x7_0), (17, v5_0), (18, .int .i64 (p1.length : Int)), (19, .int .i64 yj2_19)] ?_
        refine a_then (a_seq (a_region rfl ?_))
        obtain ⟨u8_0, h8_0, c8_0⟩ := PAt.one hb0_0
        refine ap (y_load_cells ty110 rfl (fun _ h => h.sub) rfl c8_0 (Rp.len h8_0)) ?_
        refine ap (y_move rfl) ?_
        obtain ⟨u8_2, h8_2, c8_2⟩ := PAt.one hb4_0
        refine ap (y_load_cells ty111 rfl (fun _ h => h.sub) rfl c8_2 (Rp.len h8_2)) ?_
        have m8_3 : Rp.rep Hj2 ([Value.int .i64 x7_0] ++ (u8_2)) (⟨x7_0, u⟩ : TunnelDrying) := ⟨_, _, rfl, rfl, h8_2⟩
        refine ap (y_build (pl := [(0, 1), (1, 4)]) (xs := [.tmp 24, .tmp 25]) (cs := [Value.int .i64 x7_0] ++ (u8_2)) ty120 (.cons ⟨rfl, ty3.szOf⟩ (.cons ⟨rfl, ty111.szOf⟩ (All2.nil))) rfl rfl ⟨_, rfl, rfl, ⟨_, by show List.length _ = _; exact Rp.len h8_2, rfl, trivial⟩⟩ (by rw [Rp.len m8_3]; rfl) (by simp [Value.cells])) ?_
        obtain ⟨x8_4, q8_4, hm⟩ := bind_some hm
        refine a_cons (e_callM (i := 2) (all := [.agg u8_0.toArray, .agg ([Value.int .i64 x7_0] ++ (u8_2)).toArray]) trivial rfl Tryd.func104 rfl rfl rfl rfl rfl rfl (fun w hw ho hn => ok_104 hw h8_0 m8_3 hg ho hn q8_4) ?_)
        rintro _ H8_4 l8_4 ⟨rfl⟩
        have hb0_0 := PAt.mono l8_4 hb0_0
        have hb4_0 := PAt.mono l8_4 hb4_0
        have h5_0 := Sl.mono l8_4 h5_0
        have h8_0 := Rp.mono l8_4 h8_0
        have h8_2 := Rp.mono l8_4 h8_2
        have m8_3 := Rp.mono l8_4 m8_3
        have hb0 := Rp.mono l8_4 hb0
        have hg := Glob.mono l8_4 hg
        refine ap (y_not rfl) ?_
        refine a_nil ?_
        refine a_en [(2, .pointer (some ⟨b0_0, 0, none⟩)), (6, .pointer (some ⟨b1_0, 0, none⟩)), (7, .pointer (some ⟨b2_1, 0, none⟩)), (8, .pointer (some ⟨b2_2, 0, none⟩)), (9, .pointer (some ⟨b4_0, 0, none⟩)), (17, v5_0), (18, .int .i64 (p1.length : Int)), (19, .int .i64 yj2_19), (28, .bool (!x8_4))] ?_
        refine a_then ?_
        refine a_cond rfl (fun k_4 => ?_) (fun k_4 => ?_)
        · have hm := cond_t k_4 hm
          refine a_exit ?_
          refine a_block_miss rfl ?_
          refine a_then_exit (a_then_exit ?_)
          refine a_block_miss rfl ?_
          refine a_cut_exit ?_
          refine a_then_exit (a_block_hit ?_)
          obtain rfl := Option.some.inj hm
          have hm := hm_j1
          try dsimp only at hm
          obtain rfl := Option.some.inj hm
          refine a_endRound (i := 0) hr2 hr1 rfl ?_
          refine a_shutE (i := 3) (q := fun cs => ∀ H, Rp.rep (α := TunnelChoice) H cs sc) rfl (fun _ => choice_any hb0) ?_
          refine a_shutE (i := 4) (q := fun cs => cs = [.bool sf]) rfl rfl ?_
          refine a_shutE (i := 5) (q := fun cs => cs = [.func (.func 196) #[] #[]]) rfl rfl ?_
          exact a_round [0, 1, 3, 4, 5, 2] (by decide) rfl
        have hm := cond_f k_4 hm
        refine a_skip (a_block_normal (a_then (a_region rfl ?_)))
        refine ap (y_add rfl rfl) ?_
        refine ap (y_move rfl) ?_
        refine a_nil ?_
        refine a_en [(2, .pointer (some ⟨b0_0, 0, none⟩)), (6, .pointer (some ⟨b1_0, 0, none⟩)), (7, .pointer (some ⟨b2_1, 0, none⟩)), (8, .pointer (some ⟨b2_2, 0, none⟩)), (9, .pointer (some ⟨b4_0, 0, none⟩)), (17, v5_0), (18, .int .i64 (p1.length : Int)), (19, .int .i64 (IntKind.i64.wrap (yj2_19 + 1)))] ?_
        refine a_then ?_
        intro a_ w_ ha_ hs_
        exact ⟨n_j2, Nat.lt_succ_self _, H8_4, (lj2.trans l8_4), IntKind.i64.wrap (yj2_19 + 1), hm, ha_.weaken ⟨rfl, rfl, rfl, rfl, rfl, rfl, rfl, rfl, trivial⟩, hs_.reix [0, 1, 2, 3, 4, 5] (by decide)⟩
      have hm := cond_f k_3 hm
      refine a_exit (a_then_exit (a_then_exit (a_block_hit (a_cut ?_))))
      intro a_ w_ ha_ hs_
      exact ⟨Hj2, lj2, Option.some.inj hm, ha_.weaken ⟨rfl, rfl, rfl, rfl, rfl, trivial⟩, hs_.reix [0, 1, 2, 3, 4, 5] (by decide)⟩
    have hm := hm_j1
    rintro a_ w_ ⟨Hj1, lj1, rfl, ha_, hs_⟩
    try dsimp only at hm
    refine a_start ha_ hs_ ?_
    have hb0_0 := PAt.mono lj1 hb0_0
    have hb4_0 := PAt.mono lj1 hb4_0
    have hb0 := Rp.mono lj1 hb0
    have hg := Glob.mono lj1 hg
    refine a_then (a_seq ?_)
    obtain ⟨x10_3, q10_3, hm⟩ := bind_some hm
    obtain ⟨x10_7, q10_7, hm⟩ := bind_some hm
    refine d_region (S := Sw Hj1 [BoxB b1_0 cb0 125, BoxB b2_1 [.bool sf] 4, BoxB b2_2 ([.func (.func 196) #[] #[]]) 215]) (n := 11) (listed := (bits 11 0)) mixed (by kernel_rfl) rfl (by kernel_rfl) ?_
    refine d_abs fun U10 hU10 => ?_
    have N10_0 (Hn10_5 : Hp) (ln10_5 : HLe Hj1 Hn10_5) (b10_9 : Nat) (u10_0 : List Value) (m10_8 : Rp.rep (α := TunnelChoice) Hn10_5 (u10_0 ++ ([Value.int .i64 (x10_3.length : Int)] ++ ([Value.int .i64 x10_7]))) (⟨u, (x10_3.length : Int), x10_7⟩ : TunnelChoice)) : At 51 [] (Kp.mk w0 H1 (Xs ((l, fun _ o => o = .loop rec) :: (d, fun _ o => o = .deferred (some [])) :: [(b1_0, fun (s : TunnelChoice × Bool) o => ∃ cs, o = .cells cs.toArray 125 (0, 0) ∧ ∀ H, Rp.rep (α := TunnelChoice) H cs s.1), (b2_1, fun (s : TunnelChoice × Bool) o => ∃ cs, o = .cells cs.toArray 4 (0, 0) ∧ cs = [.bool s.2]), (b2_2, fun _ o => ∃ cs, o = .cells cs.toArray 215 (0, 0) ∧ cs = [.func (.func 196) #[] #[]]), (M0, fun _ => Memo p0)]))) [(6, .pointer (some ⟨b1_0, 0, none⟩)), (7, .pointer (some ⟨b2_1, 0, none⟩)), (8, .pointer (some ⟨b2_2, 0, none⟩)), (12, .pointer (some ⟨b10_9, 0, none⟩))] Hn10_5 ([.blk M0 (Memo p0), .blk d (fun o => o = .deferred (some [])), .blk l (fun o => o = .loop { rec with state := .busy }), .box b10_9 (u10_0 ++ ([Value.int .i64 (x10_3.length : Int)] ++ ([Value.int .i64 x10_7]))) 125, BoxB b1_0 cb0 125, BoxB b2_1 [.bool sf] 4, BoxB b2_2 ([.func (.func 196) #[] #[]]) 215]) (U10 (Sw Hn10_5 [BoxB b1_0 cb0 125, BoxB b2_1 [.bool sf] 4, BoxB b2_2 ([.func (.func 196) #[] #[]]) 215]) 0 (bits 11 2047)) := by
      refine d_fwd hU10 ?_
      have hb0 := Rp.mono ln10_5 hb0
      have hg := Glob.mono ln10_5 hg
      refine d_done (by kernel_rfl) ?_
      refine a_freeze (α := TunnelChoice) (x := (⟨u, (x10_3.length : Int), x10_7⟩ : TunnelChoice)) (i := 3) rfl m10_8 ?_
      intro Hb10_9 lb10_9 hb10_9
      have hb0 := Rp.mono lb10_9 hb0
      have hg := Glob.mono lb10_9 hg
      refine a_own [0, 1, 2, 4, 5, 6] (by decide) (L' := [.blk M0 (Memo p0), .blk d (fun o => o = .deferred (some [])), .blk l (fun o => o = .loop { rec with state := .busy }), BoxB b1_0 cb0 125, BoxB b2_1 [.bool sf] 4, BoxB b2_2 ([.func (.func 196) #[] #[]]) 215]) rfl ?_
      refine a_then (a_seq ?_)
      obtain ⟨s_j5, hs_j5, hm_j5⟩ := bind_some hm
      refine a_join (fun a_ w_ => ∃ (yj5_47 : Bool), yj5_47 = s_j5 ∧ Ag 51 [] [(6, .pointer (some ⟨b1_0, 0, none⟩)), (7, .pointer (some ⟨b2_1, 0, none⟩)), (12, .pointer (some ⟨b10_9, 0, none⟩)), (47, .bool yj5_47)] a_ ∧ St (Kp.mk w0 H1 (Xs ((l, fun _ o => o = .loop rec) :: (d, fun _ o => o = .deferred (some [])) :: [(b1_0, fun (s : TunnelChoice × Bool) o => ∃ cs, o = .cells cs.toArray 125 (0, 0) ∧ ∀ H, Rp.rep (α := TunnelChoice) H cs s.1), (b2_1, fun (s : TunnelChoice × Bool) o => ∃ cs, o = .cells cs.toArray 4 (0, 0) ∧ cs = [.bool s.2]), (b2_2, fun _ o => ∃ cs, o = .cells cs.toArray 215 (0, 0) ∧ cs = [.func (.func 196) #[] #[]]), (M0, fun _ => Memo p0)]))) Hb10_9 ([.blk M0 (Memo p0), .blk d (fun o => o = .deferred (some [])), .blk l (fun o => o = .loop { rec with state := .busy }), BoxB b1_0 cb0 125, BoxB b2_1 [.bool sf] 4, BoxB b2_2 ([.func (.func 196) #[] #[]]) 215]) w_) ?_ ?_
      · have hm := hs_j5
        refine a_region rfl ?_
        refine ap (y_load_box ty4 rfl (knows_bb (i := 4) rfl) rfl rfl) ?_
        refine ap (y_not rfl) ?_
        refine ap (y_move rfl) ?_
        rcases Bool.eq_false_or_eq_true (!sf) with k11_3 | k11_3
        · have hm := cond_t k11_3 hm
          refine as1 (sk1 rfl rfl k11_3) ?_
          refine as1 (sk1 rfl rfl k11_3) ?_
          refine as1 (sk1 rfl rfl k11_3) ?_
          refine as1 (sk1 rfl rfl k11_3) ?_
          refine as1 (sk1 rfl rfl k11_3) ?_
          refine ap (y_pick_t rfl k11_3 rfl) ?_
          refine a_nil ?_
          refine a_en [(6, .pointer (some ⟨b1_0, 0, none⟩)), (7, .pointer (some ⟨b2_1, 0, none⟩)), (12, .pointer (some ⟨b10_9, 0, none⟩)), (47, .bool true)] ?_
          refine a_cut ?_
          intro a_ w_ ha_ hs_
          exact ⟨true, Option.some.inj hm, ha_.weaken ⟨rfl, rfl, rfl, rfl, trivial⟩, hs_.reix [0, 1, 2, 3, 4, 5] (by decide)⟩
        have hm := cond_f k11_3 hm
        refine ag ⟨_, _, rfl, rfl, k11_3⟩ (y_fieldAddr fo215_0 rfl) ?_
        refine ag ⟨_, _, rfl, rfl, k11_3⟩ (y_load_box ty213 rfl (knows_bb (i := 5) rfl) rfl rfl) ?_
        obtain ⟨u11_5, h11_5, c11_5⟩ := PAt.one hb10_9
        refine ag ⟨_, _, rfl, rfl, k11_3⟩ (y_load_cells ty125 rfl (fun _ h => h.sub) rfl c11_5 (Rp.len h11_5)) ?_
        refine ag ⟨_, _, rfl, rfl, k11_3⟩ (y_load_whole ty125 rfl (knows_bb (i := 3) rfl) rfl (Rp.len hb0)) ?_
        obtain ⟨x11_7, q11_7, hm⟩ := bind_some hm
        refine a_cons (e_callV (all := [.agg u11_5.toArray, .agg cb0.toArray]) (v := .bool x11_7) ⟨_, _, rfl, rfl, k11_3⟩ rfl Tryd.func196 rfl rfl rfl rfl rfl (fun w hw => ok_196 hw h11_5 hb0 q11_7) ?_)
        refine ap (y_pick_f rfl k11_3 rfl) ?_
        refine a_nil ?_
        refine a_en [(6, .pointer (some ⟨b1_0, 0, none⟩)), (7, .pointer (some ⟨b2_1, 0, none⟩)), (12, .pointer (some ⟨b10_9, 0, none⟩)), (47, .bool x11_7)] ?_
        refine a_cut ?_
        intro a_ w_ ha_ hs_
        exact ⟨x11_7, Option.some.inj hm, ha_.weaken ⟨rfl, rfl, rfl, rfl, trivial⟩, hs_.reix [0, 1, 2, 3, 4, 5] (by decide)⟩
      have hm := hm_j5
      rintro a_ w_ ⟨yj5_47, rfl, ha_, hs_⟩
      try dsimp only at hm
      refine a_start ha_ hs_ ?_
      refine a_then ?_
      refine a_cond rfl (fun k_6 => ?_) (fun k_6 => ?_)
      · have hm := cond_t k_6 hm
        refine a_region rfl ?_
        obtain ⟨u12_0, h12_0, c12_0⟩ := PAt.one hb10_9
        refine ap (y_load_cells ty125 rfl (fun _ h => h.sub) rfl c12_0 (Rp.len h12_0)) ?_
        refine a_cons (e_storeBB (i := 3) (ds := u12_0) trivial ty125 rfl rfl rfl rfl (Rp.len h12_0) ((Rp.one h12_0)) (Rp.len hb0) ?_)
        refine a_cons (e_storeBB (i := 4) (ds := [.bool true]) trivial ty4 rfl rfl rfl rfl rfl (cells_one_bool _) rfl ?_)
        refine a_nil ?_
        refine a_en [] ?_
        refine a_block_normal ?_
        obtain rfl := Option.some.inj hm
        refine a_endRound (i := 2) hr2 hr1 rfl ?_
        refine a_shutE (i := 3) (q := fun cs => ∀ H, Rp.rep (α := TunnelChoice) H cs (⟨u, (x10_3.length : Int), x10_7⟩ : TunnelChoice)) rfl (fun _ => choice_any h12_0) ?_
        refine a_shutE (i := 4) (q := fun cs => cs = [.bool true]) rfl rfl ?_
        refine a_shutE (i := 5) (q := fun cs => cs = [.func (.func 196) #[] #[]]) rfl rfl ?_
        exact a_round [2, 1, 3, 4, 5, 0] (by decide) rfl
      have hm := cond_f k_6 hm
      refine a_skip (a_block_normal ?_)
      obtain rfl := Option.some.inj hm
      refine a_endRound (i := 2) hr2 hr1 rfl ?_
      refine a_shutE (i := 3) (q := fun cs => ∀ H, Rp.rep (α := TunnelChoice) H cs sc) rfl (fun _ => choice_any hb0) ?_
      refine a_shutE (i := 4) (q := fun cs => cs = [.bool sf]) rfl rfl ?_
      refine a_shutE (i := 5) (q := fun cs => cs = [.func (.func 196) #[] #[]]) rfl rfl ?_
      exact a_round [2, 1, 3, 4, 5, 0] (by decide) rfl
    have N10_1 (Hn10_8 : Hp) (ln10_8 : HLe Hj1 Hn10_8) (b10_9 : Nat) (u10_0 : List Value) (m10_8 : Rp.rep (α := TunnelChoice) Hn10_8 (u10_0 ++ ([Value.int .i64 (x10_3.length : Int)] ++ ([Value.int .i64 x10_7]))) (⟨u, (x10_3.length : Int), x10_7⟩ : TunnelChoice)) (mz10_9 : Rp.rep (α := TunnelChoice) Hn10_8 [.int .i64 0, .int .i64 0, .int .i64 0, .int .i64 0, .int .i64 0, .int .i64 0] (⟨[0, 0, 0, 0], 0, 0⟩ : TunnelChoice)) : At 51 [] (Kp.mk w0 H1 (Xs ((l, fun _ o => o = .loop rec) :: (d, fun _ o => o = .deferred (some [])) :: [(b1_0, fun (s : TunnelChoice × Bool) o => ∃ cs, o = .cells cs.toArray 125 (0, 0) ∧ ∀ H, Rp.rep (α := TunnelChoice) H cs s.1), (b2_1, fun (s : TunnelChoice × Bool) o => ∃ cs, o = .cells cs.toArray 4 (0, 0) ∧ cs = [.bool s.2]), (b2_2, fun _ o => ∃ cs, o = .cells cs.toArray 215 (0, 0) ∧ cs = [.func (.func 196) #[] #[]]), (M0, fun _ => Memo p0)]))) [(6, .pointer (some ⟨b1_0, 0, none⟩)), (7, .pointer (some ⟨b2_1, 0, none⟩)), (8, .pointer (some ⟨b2_2, 0, none⟩)), (12, .pointer (some ⟨b10_9, 0, none⟩)), (38, .agg (u10_0 ++ ([Value.int .i64 (x10_3.length : Int)] ++ ([Value.int .i64 x10_7]))).toArray)] Hn10_8 ([.blk M0 (Memo p0), .blk d (fun o => o = .deferred (some [])), .blk l (fun o => o = .loop { rec with state := .busy }), .box b10_9 [.int .i64 0, .int .i64 0, .int .i64 0, .int .i64 0, .int .i64 0, .int .i64 0] 125, BoxB b1_0 cb0 125, BoxB b2_1 [.bool sf] 4, BoxB b2_2 ([.func (.func 196) #[] #[]]) 215]) (U10 (Sw Hn10_8 [BoxB b1_0 cb0 125, BoxB b2_1 [.bool sf] 4, BoxB b2_2 ([.func (.func 196) #[] #[]]) 215]) 1 (bits 11 1023)) := by
      refine d_fwd hU10 ?_
      have hb0 := Rp.mono ln10_8 hb0
      have hg := Glob.mono ln10_8 hg
      refine d1 10 rfl (e_storeWhole (i := 3) (ds := u10_0 ++ ([Value.int .i64 (x10_3.length : Int)] ++ ([Value.int .i64 x10_7]))) trivial ty125 rfl rfl rfl rfl (Rp.len m10_8) ((Rp.one m10_8)) rfl ?_)
      refine dn 2047 (sw0 [4, 5, 6]) ?_
      exact d_edge hU10 (N10_0 Hn10_8 ln10_8 b10_9 u10_0 m10_8) ⟨rfl, rfl, rfl, rfl, trivial⟩ [0, 1, 2, 3, 4, 5, 6] (by decide) rfl (fun _ h => h)
    have N10_2 (Hn10_4 : Hp) (ln10_4 : HLe Hj1 Hn10_4) (b10_9 : Nat) (u10_0 : List Value) (h10_0 : Rp.rep (α := Arr 4 Int) Hn10_4 u10_0 u) (mz10_9 : Rp.rep (α := TunnelChoice) Hn10_4 [.int .i64 0, .int .i64 0, .int .i64 0, .int .i64 0, .int .i64 0, .int .i64 0] (⟨[0, 0, 0, 0], 0, 0⟩ : TunnelChoice)) : At 51 [] (Kp.mk w0 H1 (Xs ((l, fun _ o => o = .loop rec) :: (d, fun _ o => o = .deferred (some [])) :: [(b1_0, fun (s : TunnelChoice × Bool) o => ∃ cs, o = .cells cs.toArray 125 (0, 0) ∧ ∀ H, Rp.rep (α := TunnelChoice) H cs s.1), (b2_1, fun (s : TunnelChoice × Bool) o => ∃ cs, o = .cells cs.toArray 4 (0, 0) ∧ cs = [.bool s.2]), (b2_2, fun _ o => ∃ cs, o = .cells cs.toArray 215 (0, 0) ∧ cs = [.func (.func 196) #[] #[]]), (M0, fun _ => Memo p0)]))) [(6, .pointer (some ⟨b1_0, 0, none⟩)), (7, .pointer (some ⟨b2_1, 0, none⟩)), (8, .pointer (some ⟨b2_2, 0, none⟩)), (12, .pointer (some ⟨b10_9, 0, none⟩)), (30, .agg u10_0.toArray), (34, .int .i64 (x10_3.length : Int)), (37, .int .i64 x10_7)] Hn10_4 ([.blk M0 (Memo p0), .blk d (fun o => o = .deferred (some [])), .blk l (fun o => o = .loop { rec with state := .busy }), .box b10_9 [.int .i64 0, .int .i64 0, .int .i64 0, .int .i64 0, .int .i64 0, .int .i64 0] 125, BoxB b1_0 cb0 125, BoxB b2_1 [.bool sf] 4, BoxB b2_2 ([.func (.func 196) #[] #[]]) 215]) (U10 (Sw Hn10_4 [BoxB b1_0 cb0 125, BoxB b2_1 [.bool sf] 4, BoxB b2_2 ([.func (.func 196) #[] #[]]) 215]) 2 (bits 11 767)) := by
      refine d_fwd hU10 ?_
      have hb0 := Rp.mono ln10_4 hb0
      have hg := Glob.mono ln10_4 hg
      have m10_8 : Rp.rep Hn10_4 (u10_0 ++ ([Value.int .i64 (x10_3.length : Int)] ++ ([Value.int .i64 x10_7]))) (⟨u, (x10_3.length : Int), x10_7⟩ : TunnelChoice) := ⟨_, _, rfl, h10_0, ⟨_, _, rfl, rfl, rfl⟩⟩
      refine d_take (i := 8) (listed' := (bits 11 1023)) rfl (by kernel_rfl) (noP_then (noP_block noP_round)) (by kernel_rfl) rfl rfl trivial (y_build (pl := [(0, 4), (4, 1), (5, 1)]) (xs := [.tmp 30, .tmp 34, .tmp 37]) (cs := u10_0 ++ ([Value.int .i64 (x10_3.length : Int)] ++ ([Value.int .i64 x10_7]))) ty125 (.cons ⟨rfl, ty111.szOf⟩ (.cons ⟨rfl, ty3.szOf⟩ (.cons ⟨rfl, ty3.szOf⟩ (All2.nil)))) rfl rfl ⟨_, by show List.length _ = _; exact Rp.len h10_0, rfl, ⟨_, rfl, rfl, ⟨_, rfl, rfl, trivial⟩⟩⟩ (by rw [Rp.len m10_8]; rfl) (by simp [Value.cells])) (sw0 [4, 5, 6]) ?_
      refine d1 10 rfl (e_storeWhole (i := 3) (ds := u10_0 ++ ([Value.int .i64 (x10_3.length : Int)] ++ ([Value.int .i64 x10_7]))) trivial ty125 rfl rfl rfl rfl (Rp.len m10_8) ((Rp.one m10_8)) rfl ?_)
      refine dn 2047 (sw0 [4, 5, 6]) ?_
      exact d_edge hU10 (N10_0 Hn10_4 ln10_4 b10_9 u10_0 m10_8) ⟨rfl, rfl, rfl, rfl, trivial⟩ [0, 1, 2, 3, 4, 5, 6] (by decide) rfl (fun _ h => h)
    have N10_3 (Hn10_6 : Hp) (ln10_6 : HLe Hj1 Hn10_6) (u10_0 : List Value) (h10_0 : Rp.rep (α := Arr 4 Int) Hn10_6 u10_0 u) : At 51 [] (Kp.mk w0 H1 (Xs ((l, fun _ o => o = .loop rec) :: (d, fun _ o => o = .deferred (some [])) :: [(b1_0, fun (s : TunnelChoice × Bool) o => ∃ cs, o = .cells cs.toArray 125 (0, 0) ∧ ∀ H, Rp.rep (α := TunnelChoice) H cs s.1), (b2_1, fun (s : TunnelChoice × Bool) o => ∃ cs, o = .cells cs.toArray 4 (0, 0) ∧ cs = [.bool s.2]), (b2_2, fun _ o => ∃ cs, o = .cells cs.toArray 215 (0, 0) ∧ cs = [.func (.func 196) #[] #[]]), (M0, fun _ => Memo p0)]))) [(6, .pointer (some ⟨b1_0, 0, none⟩)), (7, .pointer (some ⟨b2_1, 0, none⟩)), (8, .pointer (some ⟨b2_2, 0, none⟩)), (30, .agg u10_0.toArray), (34, .int .i64 (x10_3.length : Int)), (37, .int .i64 x10_7)] Hn10_6 ([.blk M0 (Memo p0), .blk d (fun o => o = .deferred (some [])), .blk l (fun o => o = .loop { rec with state := .busy }), BoxB b1_0 cb0 125, BoxB b2_1 [.bool sf] 4, BoxB b2_2 ([.func (.func 196) #[] #[]]) 215]) (U10 (Sw Hn10_6 [BoxB b1_0 cb0 125, BoxB b2_1 [.bool sf] 4, BoxB b2_2 ([.func (.func 196) #[] #[]]) 215]) 3 (bits 11 255)) := by
      refine d_fwd hU10 ?_
      have hb0 := Rp.mono ln10_6 hb0
      have hg := Glob.mono ln10_6 hg
      have m10_8 : Rp.rep Hn10_6 (u10_0 ++ ([Value.int .i64 (x10_3.length : Int)] ++ ([Value.int .i64 x10_7]))) (⟨u, (x10_3.length : Int), x10_7⟩ : TunnelChoice) := ⟨_, _, rfl, h10_0, ⟨_, _, rfl, rfl, rfl⟩⟩
      refine d_take (i := 8) (listed' := (bits 11 511)) rfl (by kernel_rfl) (noP_then (noP_block noP_round)) (by kernel_rfl) rfl rfl trivial (y_build (pl := [(0, 4), (4, 1), (5, 1)]) (xs := [.tmp 30, .tmp 34, .tmp 37]) (cs := u10_0 ++ ([Value.int .i64 (x10_3.length : Int)] ++ ([Value.int .i64 x10_7]))) ty125 (.cons ⟨rfl, ty111.szOf⟩ (.cons ⟨rfl, ty3.szOf⟩ (.cons ⟨rfl, ty3.szOf⟩ (All2.nil)))) rfl rfl ⟨_, by show List.length _ = _; exact Rp.len h10_0, rfl, ⟨_, rfl, rfl, ⟨_, rfl, rfl, trivial⟩⟩⟩ (by rw [Rp.len m10_8]; rfl) (by simp [Value.cells])) (sw0 [3, 4, 5]) ?_
      refine d1 9 rfl (e_alloc (cs := [.int .i64 0, .int .i64 0, .int .i64 0, .int .i64 0, .int .i64 0, .int .i64 0]) trivial rfl ty125 rfl ?_)
      intro b10_9
      have mz10_9 := z125 Hn10_6
      refine dn 1023 (sw0 [4, 5, 6]) ?_
      exact d_edge hU10 (N10_1 Hn10_6 ln10_6 b10_9 u10_0 m10_8 mz10_9) ⟨rfl, rfl, rfl, rfl, rfl, trivial⟩ [1, 2, 3, 0, 4, 5, 6] (by decide) rfl (fun _ h => h)
    have N10_4 (Hn10_7 : Hp) (ln10_7 : HLe Hj1 Hn10_7) (b10_9 : Nat) (u10_0 : List Value) (u10_5 : List Value) (u10_6 : List Value) (h10_0 : Rp.rep (α := Arr 4 Int) Hn10_7 u10_0 u) (h10_5 : Rp.rep (α := Bk (some M0)) Hn10_7 u10_5 p0) (h10_6 : Rp.rep (α := Arr 4 Int) Hn10_7 u10_6 u) (mz10_9 : Rp.rep (α := TunnelChoice) Hn10_7 [.int .i64 0, .int .i64 0, .int .i64 0, .int .i64 0, .int .i64 0, .int .i64 0] (⟨[0, 0, 0, 0], 0, 0⟩ : TunnelChoice)) : At 51 [] (Kp.mk w0 H1 (Xs ((l, fun _ o => o = .loop rec) :: (d, fun _ o => o = .deferred (some [])) :: [(b1_0, fun (s : TunnelChoice × Bool) o => ∃ cs, o = .cells cs.toArray 125 (0, 0) ∧ ∀ H, Rp.rep (α := TunnelChoice) H cs s.1), (b2_1, fun (s : TunnelChoice × Bool) o => ∃ cs, o = .cells cs.toArray 4 (0, 0) ∧ cs = [.bool s.2]), (b2_2, fun _ o => ∃ cs, o = .cells cs.toArray 215 (0, 0) ∧ cs = [.func (.func 196) #[] #[]]), (M0, fun _ => Memo p0)]))) [(6, .pointer (some ⟨b1_0, 0, none⟩)), (7, .pointer (some ⟨b2_1, 0, none⟩)), (8, .pointer (some ⟨b2_2, 0, none⟩)), (12, .pointer (some ⟨b10_9, 0, none⟩)), (30, .agg u10_0.toArray), (34, .int .i64 (x10_3.length : Int)), (35, .agg u10_5.toArray), (36, .agg u10_6.toArray)] Hn10_7 ([.blk M0 (Memo p0), .blk d (fun o => o = .deferred (some [])), .blk l (fun o => o = .loop { rec with state := .busy }), .box b10_9 [.int .i64 0, .int .i64 0, .int .i64 0, .int .i64 0, .int .i64 0, .int .i64 0] 125, BoxB b1_0 cb0 125, BoxB b2_1 [.bool sf] 4, BoxB b2_2 ([.func (.func 196) #[] #[]]) 215]) (U10 (Sw Hn10_7 [BoxB b1_0 cb0 125, BoxB b2_1 [.bool sf] 4, BoxB b2_2 ([.func (.func 196) #[] #[]]) 215]) 3 (bits 11 639)) := by
      refine d_fwd hU10 ?_
      have hb0 := Rp.mono ln10_7 hb0
      have hg := Glob.mono ln10_7 hg
      refine d1 7 rfl (e_callV (all := [.agg u10_5.toArray, .agg u10_6.toArray]) (v := .int .i64 x10_7) trivial rfl Tryd.func81 rfl rfl rfl rfl rfl (fun w hw => ok_81 hw h10_5 h10_6 q10_7) ?_)
      refine dn 767 (sw0 [4, 5, 6]) ?_
      exact d_edge hU10 (N10_2 Hn10_7 ln10_7 b10_9 u10_0 h10_0 mz10_9) ⟨rfl, rfl, rfl, rfl, rfl, rfl, rfl, trivial⟩ [0, 1, 2, 3, 4, 5, 6] (by decide) rfl (fun _ h => h)
    have N10_5 (Hn10_3 : Hp) (ln10_3 : HLe Hj1 Hn10_3) (b10_9 : Nat) (u10_0 : List Value) (v10_3r0 : Value) (u10_5 : List Value) (u10_6 : List Value) (h10_0 : Rp.rep (α := Arr 4 Int) Hn10_3 u10_0 u) (h10_3r0 : Sl (α := Int) Hn10_3 v10_3r0 x10_3) (h10_5 : Rp.rep (α := Bk (some M0)) Hn10_3 u10_5 p0) (h10_6 : Rp.rep (α := Arr 4 Int) Hn10_3 u10_6 u) (mz10_9 : Rp.rep (α := TunnelChoice) Hn10_3 [.int .i64 0, .int .i64 0, .int .i64 0, .int .i64 0, .int .i64 0, .int .i64 0] (⟨[0, 0, 0, 0], 0, 0⟩ : TunnelChoice)) : At 51 [] (Kp.mk w0 H1 (Xs ((l, fun _ o => o = .loop rec) :: (d, fun _ o => o = .deferred (some [])) :: [(b1_0, fun (s : TunnelChoice × Bool) o => ∃ cs, o = .cells cs.toArray 125 (0, 0) ∧ ∀ H, Rp.rep (α := TunnelChoice) H cs s.1), (b2_1, fun (s : TunnelChoice × Bool) o => ∃ cs, o = .cells cs.toArray 4 (0, 0) ∧ cs = [.bool s.2]), (b2_2, fun _ o => ∃ cs, o = .cells cs.toArray 215 (0, 0) ∧ cs = [.func (.func 196) #[] #[]]), (M0, fun _ => Memo p0)]))) [(6, .pointer (some ⟨b1_0, 0, none⟩)), (7, .pointer (some ⟨b2_1, 0, none⟩)), (8, .pointer (some ⟨b2_2, 0, none⟩)), (12, .pointer (some ⟨b10_9, 0, none⟩)), (30, .agg u10_0.toArray), (33, v10_3r0), (35, .agg u10_5.toArray), (36, .agg u10_6.toArray)] Hn10_3 ([.blk M0 (Memo p0), .blk d (fun o => o = .deferred (some [])), .blk l (fun o => o = .loop { rec with state := .busy }), .box b10_9 [.int .i64 0, .int .i64 0, .int .i64 0, .int .i64 0, .int .i64 0, .int .i64 0] 125, BoxB b1_0 cb0 125, BoxB b2_1 [.bool sf] 4, BoxB b2_2 ([.func (.func 196) #[] #[]]) 215]) (U10 (Sw Hn10_3 [BoxB b1_0 cb0 125, BoxB b2_1 [.bool sf] 4, BoxB b2_2 ([.func (.func 196) #[] #[]]) 215]) 4 (bits 11 623)) := by
      refine d_fwd hU10 ?_
      have hb0 := Rp.mono ln10_3 hb0
      have hg := Glob.mono ln10_3 hg
      refine d_take (i := 4) (listed' := (bits 11 639)) rfl (by kernel_rfl) (noP_then (noP_block noP_round)) (by kernel_rfl) rfl rfl trivial (y_len_sl Tryd.underlying26 rfl h10_3r0) (sw0 [4, 5, 6]) ?_
      refine d1 7 rfl (e_callV (all := [.agg u10_5.toArray, .agg u10_6.toArray]) (v := .int .i64 x10_7) trivial rfl Tryd.func81 rfl rfl rfl rfl rfl (fun w hw => ok_81 hw h10_5 h10_6 q10_7) ?_)
      refine dn 767 (sw0 [4, 5, 6]) ?_
      exact d_edge hU10 (N10_2 Hn10_3 ln10_3 b10_9 u10_0 h10_0 mz10_9) ⟨rfl, rfl, rfl, rfl, rfl, rfl, rfl, trivial⟩ [0, 1, 2, 3, 4, 5, 6] (by decide) rfl (fun _ h => h)
    have N10_6 (Hn10_1 : Hp) (ln10_1 : HLe Hj1 Hn10_1) (u10_0 : List Value) (v10_3r0 : Value) (u10_5 : List Value) (u10_6 : List Value) (h10_0 : Rp.rep (α := Arr 4 Int) Hn10_1 u10_0 u) (h10_3r0 : Sl (α := Int) Hn10_1 v10_3r0 x10_3) (h10_5 : Rp.rep (α := Bk (some M0)) Hn10_1 u10_5 p0) (h10_6 : Rp.rep (α := Arr 4 Int) Hn10_1 u10_6 u) : At 51 [] (Kp.mk w0 H1 (Xs ((l, fun _ o => o = .loop rec) :: (d, fun _ o => o = .deferred (some [])) :: [(b1_0, fun (s : TunnelChoice × Bool) o => ∃ cs, o = .cells cs.toArray 125 (0, 0) ∧ ∀ H, Rp.rep (α := TunnelChoice) H cs s.1), (b2_1, fun (s : TunnelChoice × Bool) o => ∃ cs, o = .cells cs.toArray 4 (0, 0) ∧ cs = [.bool s.2]), (b2_2, fun _ o => ∃ cs, o = .cells cs.toArray 215 (0, 0) ∧ cs = [.func (.func 196) #[] #[]]), (M0, fun _ => Memo p0)]))) [(6, .pointer (some ⟨b1_0, 0, none⟩)), (7, .pointer (some ⟨b2_1, 0, none⟩)), (8, .pointer (some ⟨b2_2, 0, none⟩)), (30, .agg u10_0.toArray), (33, v10_3r0), (35, .agg u10_5.toArray), (36, .agg u10_6.toArray)] Hn10_1 ([.blk M0 (Memo p0), .blk d (fun o => o = .deferred (some [])), .blk l (fun o => o = .loop { rec with state := .busy }), BoxB b1_0 cb0 125, BoxB b2_1 [.bool sf] 4, BoxB b2_2 ([.func (.func 196) #[] #[]]) 215]) (U10 (Sw Hn10_1 [BoxB b1_0 cb0 125, BoxB b2_1 [.bool sf] 4, BoxB b2_2 ([.func (.func 196) #[] #[]]) 215]) 5 (bits 11 111)) := by
      refine d_fwd hU10 ?_
      have hb0 := Rp.mono ln10_1 hb0
      have hg := Glob.mono ln10_1 hg
      refine d_take (i := 4) (listed' := (bits 11 127)) rfl (by kernel_rfl) (noP_then (noP_block noP_round)) (by kernel_rfl) rfl rfl trivial (y_len_sl Tryd.underlying26 rfl h10_3r0) (sw0 [3, 4, 5]) ?_
      refine d_all (rs := [7, 9]) (by kernel_rfl) rfl ⟨⟨_, rfl, ?_⟩, ⟨_, rfl, ?_⟩, trivial⟩
      · refine e_callV (all := [.agg u10_5.toArray, .agg u10_6.toArray]) (v := .int .i64 x10_7) trivial rfl Tryd.func81 rfl rfl rfl rfl rfl (fun w hw => ok_81 hw h10_5 h10_6 q10_7) ?_
        refine dn 255 (sw0 [3, 4, 5]) ?_
        exact d_edge hU10 (N10_3 Hn10_1 ln10_1 u10_0 h10_0) ⟨rfl, rfl, rfl, rfl, rfl, rfl, trivial⟩ [0, 1, 2, 3, 4, 5] (by decide) rfl (fun _ h => h)
      refine e_alloc (cs := [.int .i64 0, .int .i64 0, .int .i64 0, .int .i64 0, .int .i64 0, .int .i64 0]) trivial rfl ty125 rfl ?_
      intro b10_9
      have mz10_9 := z125 Hn10_1
      refine dn 639 (sw0 [4, 5, 6]) ?_
      exact d_edge hU10 (N10_4 Hn10_1 ln10_1 b10_9 u10_0 u10_5 u10_6 h10_0 h10_5 h10_6 mz10_9) ⟨rfl, rfl, rfl, rfl, rfl, rfl, rfl, rfl, trivial⟩ [1, 2, 3, 0, 4, 5, 6] (by decide) rfl (fun _ h => h)
    have N10_7 (Hn10_2 : Hp) (ln10_2 : HLe Hj1 Hn10_2) (b10_9 : Nat) (u10_0 : List Value) (u10_1 : List Value) (u10_2 : List Value) (u10_5 : List Value) (u10_6 : List Value) (h10_0 : Rp.rep (α := Arr 4 Int) Hn10_2 u10_0 u) (h10_1 : Rp.rep (α := Bk (some M0)) Hn10_2 u10_1 p0) (h10_2 : Rp.rep (α := Arr 4 Int) Hn10_2 u10_2 u) (h10_5 : Rp.rep (α := Bk (some M0)) Hn10_2 u10_5 p0) (h10_6 : Rp.rep (α := Arr 4 Int) Hn10_2 u10_6 u) (mz10_9 : Rp.rep (α := TunnelChoice) Hn10_2 [.int .i64 0, .int .i64 0, .int .i64 0, .int .i64 0, .int .i64 0, .int .i64 0] (⟨[0, 0, 0, 0], 0, 0⟩ : TunnelChoice)) : At 51 [] (Kp.mk w0 H1 (Xs ((l, fun _ o => o = .loop rec) :: (d, fun _ o => o = .deferred (some [])) :: [(b1_0, fun (s : TunnelChoice × Bool) o => ∃ cs, o = .cells cs.toArray 125 (0, 0) ∧ ∀ H, Rp.rep (α := TunnelChoice) H cs s.1), (b2_1, fun (s : TunnelChoice × Bool) o => ∃ cs, o = .cells cs.toArray 4 (0, 0) ∧ cs = [.bool s.2]), (b2_2, fun _ o => ∃ cs, o = .cells cs.toArray 215 (0, 0) ∧ cs = [.func (.func 196) #[] #[]]), (M0, fun _ => Memo p0)]))) [(6, .pointer (some ⟨b1_0, 0, none⟩)), (7, .pointer (some ⟨b2_1, 0, none⟩)), (8, .pointer (some ⟨b2_2, 0, none⟩)), (12, .pointer (some ⟨b10_9, 0, none⟩)), (30, .agg u10_0.toArray), (31, .agg u10_1.toArray), (32, .agg u10_2.toArray), (35, .agg u10_5.toArray), (36, .agg u10_6.toArray)] Hn10_2 ([.blk M0 (Memo p0), .blk d (fun o => o = .deferred (some [])), .blk l (fun o => o = .loop { rec with state := .busy }), .box b10_9 [.int .i64 0, .int .i64 0, .int .i64 0, .int .i64 0, .int .i64 0, .int .i64 0] 125, BoxB b1_0 cb0 125, BoxB b2_1 [.bool sf] 4, BoxB b2_2 ([.func (.func 196) #[] #[]]) 215]) (U10 (Sw Hn10_2 [BoxB b1_0 cb0 125, BoxB b2_1 [.bool sf] 4, BoxB b2_2 ([.func (.func 196) #[] #[]]) 215]) 5 (bits 11 615)) := by
      refine d_fwd hU10 ?_
      have hb0 := Rp.mono ln10_2 hb0
      have hg := Glob.mono ln10_2 hg
      refine d1 3 rfl (e_callM (i := 0) (all := [.agg u10_1.toArray, .agg u10_2.toArray]) trivial rfl Tryd.func92 rfl rfl rfl rfl rfl rfl (fun w hw ho hn => ok_92 hw h10_1 h10_2 hg ho hn q10_3) ?_)
      rintro v10_3r0 H10_3 l10_3 ⟨_, rfl, h10_3r0⟩
      have h10_0 := Rp.mono l10_3 h10_0
      have h10_1 := Rp.mono l10_3 h10_1
      have h10_2 := Rp.mono l10_3 h10_2
      have h10_5 := Rp.mono l10_3 h10_5
      have h10_6 := Rp.mono l10_3 h10_6
      have hb0 := Rp.mono l10_3 hb0
      have mz10_9 := Rp.mono l10_3 mz10_9
      have hg := Glob.mono l10_3 hg
      refine dn 623 (swl l10_3 [4, 5, 6]) ?_
      exact d_edge hU10 (N10_5 H10_3 (ln10_2.trans l10_3) b10_9 u10_0 v10_3r0 u10_5 u10_6 h10_0 h10_3r0 h10_5 h10_6 mz10_9) ⟨rfl, rfl, rfl, rfl, rfl, rfl, rfl, rfl, trivial⟩ [0, 1, 2, 3, 4, 5, 6] (by decide) rfl (sw_sw l10_3 [0, 1, 2] rfl)
    refine d_fwd hU10 ?_
    obtain ⟨u10_0, h10_0, c10_0⟩ := PAt.one hb4_0
    refine d_take (i := 0) (listed' := (bits 11 1)) rfl (by kernel_rfl) (noP_then (noP_block noP_round)) (by kernel_rfl) rfl rfl trivial (y_load_cells ty111 rfl (fun _ h => h.1) rfl c10_0 (Rp.len h10_0)) (sw0 [3, 4, 5]) ?_
    obtain ⟨u10_1, h10_1, c10_1⟩ := PAt.one hb0_0
    refine d_take (i := 1) (listed' := (bits 11 3)) rfl (by kernel_rfl) (noP_then (noP_block noP_round)) (by kernel_rfl) rfl rfl trivial (y_load_cells ty110 rfl (fun _ h => h.1) rfl c10_1 (Rp.len h10_1)) (sw0 [3, 4, 5]) ?_
    obtain ⟨u10_2, h10_2, c10_2⟩ := PAt.one hb4_0
    refine d_take (i := 2) (listed' := (bits 11 7)) rfl (by kernel_rfl) (noP_then (noP_block noP_round)) (by kernel_rfl) rfl rfl trivial (y_load_cells ty111 rfl (fun _ h => h.1) rfl c10_2 (Rp.len h10_2)) (sw0 [3, 4, 5]) ?_
    obtain ⟨u10_5, h10_5, c10_5⟩ := PAt.one hb0_0
    refine d_take (i := 5) (listed' := (bits 11 39)) rfl (by kernel_rfl) (noP_then (noP_block noP_round)) (by kernel_rfl) rfl rfl trivial (y_load_cells ty110 rfl (fun _ h => h.1) rfl c10_5 (Rp.len h10_5)) (sw0 [3, 4, 5]) ?_
    obtain ⟨u10_6, h10_6, c10_6⟩ := PAt.one hb4_0
    refine d_take (i := 6) (listed' := (bits 11 103)) rfl (by kernel_rfl) (noP_then (noP_block noP_round)) (by kernel_rfl) rfl rfl trivial (y_load_cells ty111 rfl (fun _ h => h.1) rfl c10_6 (Rp.len h10_6)) (sw0 [3, 4, 5]) ?_
    refine d_all (rs := [3, 9]) (by kernel_rfl) rfl ⟨⟨_, rfl, ?_⟩, ⟨_, rfl, ?_⟩, trivial⟩
    · refine e_callM (i := 2) (all := [.agg u10_1.toArray, .agg u10_2.toArray]) trivial rfl Tryd.func92 rfl rfl rfl rfl rfl rfl (fun w hw ho hn => ok_92 hw h10_1 h10_2 hg ho hn q10_3) ?_
      rintro v10_3r0 H10_3 l10_3 ⟨_, rfl, h10_3r0⟩
      have hb0_0 := PAt.mono l10_3 hb0_0
      have hb4_0 := PAt.mono l10_3 hb4_0
      have h10_0 := Rp.mono l10_3 h10_0
      have h10_1 := Rp.mono l10_3 h10_1
      have h10_2 := Rp.mono l10_3 h10_2
      have h10_5 := Rp.mono l10_3 h10_5
      have h10_6 := Rp.mono l10_3 h10_6
      have hb0 := Rp.mono l10_3 hb0
      have hg := Glob.mono l10_3 hg
      refine dn 111 (swl l10_3 [3, 4, 5]) ?_
      exact d_edge hU10 (N10_6 H10_3 l10_3 u10_0 v10_3r0 u10_5 u10_6 h10_0 h10_3r0 h10_5 h10_6) ⟨rfl, rfl, rfl, rfl, rfl, rfl, rfl, trivial⟩ [2, 1, 0, 3, 4, 5] (by decide) rfl (sw_sw l10_3 [0, 1, 2] rfl)
    refine e_alloc (cs := [.int .i64 0, .int .i64 0, .int .i64 0, .int .i64 0, .int .i64 0, .int .i64 0]) trivial rfl ty125 rfl ?_
    intro b10_9
    have mz10_9 := z125 Hj1
    refine dn 615 (sw0 [4, 5, 6]) ?_
    exact d_edge hU10 (N10_7 Hj1 (HLe.refl _) b10_9 u10_0 u10_1 u10_2 u10_5 u10_6 h10_0 h10_1 h10_2 h10_5 h10_6 mz10_9) ⟨rfl, rfl, rfl, rfl, rfl, rfl, rfl, rfl, rfl, trivial⟩ [3, 2, 1, 0, 4, 5, 6] (by decide) rfl (fun _ h => h)
  intro d Hrf lrf
  have hb0_0 := PAt.mono lrf hb0_0
  have hb0_1 := PAt.mono lrf hb0_1
  have hbb3_1 := PAt.mono lrf hbb3_1
  have mz0_2 := Rp.mono lrf mz0_2
  have mz1_0 := Rp.mono lrf mz1_0
  have hg := Glob.mono lrf hg
  refine a_openE (i := 1) rfl fun cz0 hz0 => ?_
  refine a_openE (i := 2) rfl fun cz1 hz1 => ?_
  subst hz1
  refine a_openE (i := 3) rfl fun cz2 hz2 => ?_
  subst hz2
  have hz0 := hz0 Hrf
  refine a_own [0, 1, 2, 3, 4, 5] (by decide) (L' := [.blk d (fun o => o = .deferred (some [])), BoxB b1_0 cz0 125, BoxB b2_1 [.bool xrf.2] 4, BoxB b2_2 ([.func (.func 196) #[] #[]]) 215, .blk M0 (Memo p0), .box b0_2 [.int .i64 0, .int .i64 0, .int .i64 0, .int .i64 0, .int .i64 0, .int .i64 0] 125]) rfl ?_
  refine a_block_normal (a_then (a_seq ?_))
  refine d_region (S := Sw Hrf [BoxB b1_0 cz0 125, BoxB b2_1 [.bool xrf.2] 4, BoxB b2_2 ([.func (.func 196) #[] #[]]) 215]) (n := 4) (listed := (bits 4 0)) mixed (by kernel_rfl) rfl (by kernel_rfl) ?_
  refine d_abs fun U13 hU13 => ?_
  have N13_0 (Hn13_5 : Hp) (ln13_5 : HLe Hrf Hn13_5) : At 51 [{ target := .collected d, args := #[] }] (Kp.mk w H (· = M0)) [(4, .pointer (some ⟨b0_2, 0, none⟩)), (5, .bool xrf.2)] Hn13_5 ([.blk M0 (Memo p0), .blk d (fun o => o = .deferred (some [])), .box b0_2 cz0 125, BoxB b1_0 cz0 125, BoxB b2_1 [.bool xrf.2] 4, BoxB b2_2 ([.func (.func 196) #[] #[]]) 215]) (U13 (Sw Hn13_5 [BoxB b1_0 cz0 125, BoxB b2_1 [.bool xrf.2] 4, BoxB b2_2 ([.func (.func 196) #[] #[]]) 215]) 0 (bits 4 15)) := by
    refine d_fwd hU13 ?_
    have hz0 := Rp.mono ln13_5 hz0
    have hg := Glob.mono ln13_5 hg
    refine d_done (by kernel_rfl) ?_
    refine a_freeze (α := TunnelChoice) (x := xrf.1) (i := 2) rfl hz0 ?_
    intro Hb0_2 lb0_2 hb0_2
    have hz0 := Rp.mono lb0_2 hz0
    have hg := Glob.mono lb0_2 hg
    refine a_own [0, 1, 3, 4, 5] (by decide) (L' := [.blk M0 (Memo p0), .blk d (fun o => o = .deferred (some [])), BoxB b1_0 cz0 125, BoxB b2_1 [.bool xrf.2] 4, BoxB b2_2 ([.func (.func 196) #[] #[]]) 215]) rfl ?_
    refine a_then (a_ret ?_)
    refine a_ng_ret ?_
    obtain ⟨ce4, re4, le4⟩ := PAt.one hb0_2
    obtain rfl := Option.some.inj hm
    exact a_doneMm (i := 0) (j := 1) (v := .tuple #[.agg ce4.toArray, .bool xrf.2]) (.inl rfl) rfl rfl rfl (by decide) (fun a_ w_ ha_ hs_ => run_results (P := Tryd.prog) (fn := Tryd.f96) (rs := [.cell 4 125, .tmp 5]) (vs := [.agg ce4.toArray, .bool xrf.2]) rfl (.cons (rv_cell ha_ rfl (run_loadVar_agg ty125 rfl (le4 _ hs_.sub) (Rp.len re4))) (.cons (rv_tmp ha_ rfl) (All2.nil)))) ⟨ce4, rfl, re4⟩
  have N13_1 (Hn13_4 : Hp) (ln13_4 : HLe Hrf Hn13_4) : At 51 [{ target := .collected d, args := #[] }] (Kp.mk w H (· = M0)) [(4, .pointer (some ⟨b0_2, 0, none⟩)), (50, .bool xrf.2)] Hn13_4 ([.blk M0 (Memo p0), .blk d (fun o => o = .deferred (some [])), .box b0_2 cz0 125, BoxB b1_0 cz0 125, BoxB b2_1 [.bool xrf.2] 4, BoxB b2_2 ([.func (.func 196) #[] #[]]) 215]) (U13 (Sw Hn13_4 [BoxB b1_0 cz0 125, BoxB b2_1 [.bool xrf.2] 4, BoxB b2_2 ([.func (.func 196) #[] #[]]) 215]) 1 (bits 4 7)) := by
    refine d_fwd hU13 ?_
    have hz0 := Rp.mono ln13_4 hz0
    have hg := Glob.mono ln13_4 hg
    refine d1 3 rfl (p_pure trivial rfl rfl (y_assign rfl) ?_)
    refine dn 15 (sw0 [3, 4, 5]) ?_
    exact d_edge hU13 (N13_0 Hn13_4 ln13_4) ⟨rfl, rfl, trivial⟩ [0, 1, 2, 3, 4, 5] (by decide) rfl (fun _ h => h)
  have N13_2 (Hn13_3 : Hp) (ln13_3 : HLe Hrf Hn13_3) : At 51 [{ target := .collected d, args := #[] }] (Kp.mk w H (· = M0)) [(4, .pointer (some ⟨b0_2, 0, none⟩)), (49, .agg cz0.toArray), (50, .bool xrf.2)] Hn13_3 ([.blk M0 (Memo p0), .blk d (fun o => o = .deferred (some [])), .box b0_2 [.int .i64 0, .int .i64 0, .int .i64 0, .int .i64 0, .int .i64 0, .int .i64 0] 125, BoxB b1_0 cz0 125, BoxB b2_1 [.bool xrf.2] 4, BoxB b2_2 ([.func (.func 196) #[] #[]]) 215]) (U13 (Sw Hn13_3 [BoxB b1_0 cz0 125, BoxB b2_1 [.bool xrf.2] 4, BoxB b2_2 ([.func (.func 196) #[] #[]]) 215]) 2 (bits 4 3)) := by
    refine d_fwd hU13 ?_
    have hz0 := Rp.mono ln13_3 hz0
    have mz0_2 := Rp.mono ln13_3 mz0_2
    have hg := Glob.mono ln13_3 hg
    refine d1 2 rfl (e_storeWhole (i := 2) (ds := cz0) trivial ty125 rfl rfl rfl rfl (Rp.len hz0) ((Rp.one hz0)) rfl ?_)
    refine dn 7 (sw0 [3, 4, 5]) ?_
    exact d_edge hU13 (N13_1 Hn13_3 ln13_3) ⟨rfl, rfl, trivial⟩ [0, 1, 2, 3, 4, 5] (by decide) rfl (fun _ h => h)
  have N13_3 (Hn13_6 : Hp) (ln13_6 : HLe Hrf Hn13_6) : At 51 [{ target := .collected d, args := #[] }] (Kp.mk w H (· = M0)) [(4, .pointer (some ⟨b0_2, 0, none⟩)), (7, .pointer (some ⟨b2_1, 0, none⟩))] Hn13_6 ([.blk M0 (Memo p0), .blk d (fun o => o = .deferred (some [])), .box b0_2 cz0 125, BoxB b1_0 cz0 125, BoxB b2_1 [.bool xrf.2] 4, BoxB b2_2 ([.func (.func 196) #[] #[]]) 215]) (U13 (Sw Hn13_6 [BoxB b1_0 cz0 125, BoxB b2_1 [.bool xrf.2] 4, BoxB b2_2 ([.func (.func 196) #[] #[]]) 215]) 2 (bits 4 5)) := by
    refine d_fwd hU13 ?_
    have hz0 := Rp.mono ln13_6 hz0
    have hg := Glob.mono ln13_6 hg
    refine d1 1 rfl (p_pure trivial rfl rfl (y_load_box ty4 rfl (knows_bb (i := 4) rfl) rfl rfl) ?_)
    refine dn 7 (sw0 [3, 4, 5]) ?_
    exact d_edge hU13 (N13_1 Hn13_6 ln13_6) ⟨rfl, rfl, trivial⟩ [0, 1, 2, 3, 4, 5] (by decide) rfl (fun _ h => h)
  have N13_4 (Hn13_1 : Hp) (ln13_1 : HLe Hrf Hn13_1) : At 51 [{ target := .collected d, args := #[] }] (Kp.mk w H (· = M0)) [(4, .pointer (some ⟨b0_2, 0, none⟩)), (7, .pointer (some ⟨b2_1, 0, none⟩)), (49, .agg cz0.toArray)] Hn13_1 ([.blk M0 (Memo p0), .blk d (fun o => o = .deferred (some [])), .box b0_2 [.int .i64 0, .int .i64 0, .int .i64 0, .int .i64 0, .int .i64 0, .int .i64 0] 125, BoxB b1_0 cz0 125, BoxB b2_1 [.bool xrf.2] 4, BoxB b2_2 ([.func (.func 196) #[] #[]]) 215]) (U13 (Sw Hn13_1 [BoxB b1_0 cz0 125, BoxB b2_1 [.bool xrf.2] 4, BoxB b2_2 ([.func (.func 196) #[] #[]]) 215]) 3 (bits 4 1)) := by
    refine d_fwd hU13 ?_
    have hz0 := Rp.mono ln13_1 hz0
    have mz0_2 := Rp.mono ln13_1 mz0_2
    have hg := Glob.mono ln13_1 hg
    refine d_all (rs := [1, 2]) (by kernel_rfl) rfl ⟨⟨_, rfl, ?_⟩, ⟨_, rfl, ?_⟩, trivial⟩
    · refine p_pure trivial rfl rfl (y_load_box ty4 rfl (knows_bb (i := 4) rfl) rfl rfl) ?_
      refine dn 3 (sw0 [3, 4, 5]) ?_
      exact d_edge hU13 (N13_2 Hn13_1 ln13_1) ⟨rfl, rfl, rfl, trivial⟩ [0, 1, 2, 3, 4, 5] (by decide) rfl (fun _ h => h)
    refine e_storeWhole (i := 2) (ds := cz0) trivial ty125 rfl rfl rfl rfl (Rp.len hz0) ((Rp.one hz0)) rfl ?_
    refine dn 5 (sw0 [3, 4, 5]) ?_
    exact d_edge hU13 (N13_3 Hn13_1 ln13_1) ⟨rfl, rfl, trivial⟩ [0, 1, 2, 3, 4, 5] (by decide) rfl (fun _ h => h)
  have N13_5 (Hn13_2 : Hp) (ln13_2 : HLe Hrf Hn13_2) : At 51 [{ target := .collected d, args := #[] }] (Kp.mk w H (· = M0)) [(4, .pointer (some ⟨b0_2, 0, none⟩)), (6, .pointer (some ⟨b1_0, 0, none⟩)), (50, .bool xrf.2)] Hn13_2 ([.blk M0 (Memo p0), .blk d (fun o => o = .deferred (some [])), .box b0_2 [.int .i64 0, .int .i64 0, .int .i64 0, .int .i64 0, .int .i64 0, .int .i64 0] 125, BoxB b1_0 cz0 125, BoxB b2_1 [.bool xrf.2] 4, BoxB b2_2 ([.func (.func 196) #[] #[]]) 215]) (U13 (Sw Hn13_2 [BoxB b1_0 cz0 125, BoxB b2_1 [.bool xrf.2] 4, BoxB b2_2 ([.func (.func 196) #[] #[]]) 215]) 3 (bits 4 2)) := by
    refine d_fwd hU13 ?_
    have mz0_2 := Rp.mono ln13_2 mz0_2
    have hz0 := Rp.mono ln13_2 hz0
    have hg := Glob.mono ln13_2 hg
    refine d1 0 rfl (p_pure trivial rfl rfl (y_load_whole ty125 rfl (knows_bb (i := 3) rfl) rfl (Rp.len hz0)) ?_)
    refine dn 3 (sw0 [3, 4, 5]) ?_
    exact d_edge hU13 (N13_2 Hn13_2 ln13_2) ⟨rfl, rfl, rfl, trivial⟩ [0, 1, 2, 3, 4, 5] (by decide) rfl (fun _ h => h)
  refine d_fwd hU13 ?_
  refine d_all (rs := [0, 1]) (by kernel_rfl) rfl ⟨⟨_, rfl, ?_⟩, ⟨_, rfl, ?_⟩, trivial⟩
  · refine p_pure trivial rfl rfl (y_load_whole ty125 rfl (knows_bb (i := 1) rfl) rfl (Rp.len hz0)) ?_
    refine dn 1 (sw0 [1, 2, 3]) ?_
    exact d_edge hU13 (N13_4 Hrf (HLe.refl _)) ⟨rfl, rfl, rfl, trivial⟩ [4, 0, 5, 1, 2, 3] (by decide) rfl (fun _ h => h)
  refine p_pure trivial rfl rfl (y_load_box ty4 rfl (knows_bb (i := 2) rfl) rfl rfl) ?_
  refine dn 2 (sw0 [1, 2, 3]) ?_
  exact d_edge hU13 (N13_5 Hrf (HLe.refl _)) ⟨rfl, rfl, rfl, trivial⟩ [4, 0, 5, 1, 2, 3] (by decide) rfl (fun _ h => h)

def tunnel_book_listed (k : Nat) (p0 : TunnelBook) (p1 : List Int) : Option (List Int) :=
 (tunnel_closed k).bind fun x1_1 =>
 bif decide (p1 = x1_1) then
 (mkz (p0.Parts.length : Int) (0 : Int)).bind fun x2_4 =>
 some (x2_4)
 else
 (cut p1 0 (p0.Parts.length : Int)).bind fun x3_4 =>
 (app [] x3_4).bind fun x3_5 =>
 (cut x3_5 0 (x3_5.length : Int)).bind fun x4_5 =>
 some (x4_5)
theorem ok_98 {k : Nat} {H : Hp} {w : World} {p0 : TunnelBook} {p1 : List Int} {m0 : Option Nat} {c0 : List Value} {c1 : List Value} {r : List Int} (hsub : Sub H w) (h0 : Rp.rep (α := Bk m0) H c0 p0) (h1 : Rp.rep (α := Arr 4 Int) H c1 p1) (hm : tunnel_book_listed k p0 p1 = some r) : Calls Tryd.prog 98 [.agg c0.toArray, .agg c1.toArray].toArray w (PostH w H fun v H' => ∃ v0, v = v0 ∧ Sl (α := Int) H' v0 r) := by
  unfold tunnel_book_listed at hm
  refine start (n := 26) (E := [(0, .agg c0.toArray), (1, .agg c1.toArray)]) Tryd.func98 rfl rfl ⟨rfl, rfl, trivial⟩ rfl hsub ?_
  refine a_seq (a_region rfl ?_)
  refine a_cons (e_box (cs := c0) trivial rfl rfl rfl ?_)
  intro b0_0
  refine a_cons (e_box (cs := c1) trivial rfl rfl rfl ?_)
  intro b0_1
  refine ap (y_assign rfl) ?_
  refine a_nil ?_
  refine a_freeze (α := Arr 4 Int) (x := p1) (i := 0) rfl h1 ?_
  intro Hb0_1 lb0_1 hb0_1
  have h0 := Rp.mono lb0_1 h0
  have h1 := Rp.mono lb0_1 h1
  refine a_freeze (α := Bk _) (x := p0) (i := 1) rfl h0 ?_
  intro Hb0_0 lb0_0 hb0_0
  have h0 := Rp.mono lb0_0 h0
  have h1 := Rp.mono lb0_0 h1
  have hb0_1 := PAt.mono lb0_0 hb0_1
  refine a_en [(2, .pointer (some ⟨b0_0, 0, none⟩)), (3, .pointer (some ⟨b0_1, 0, none⟩))] ?_
  refine a_own [] (by decide) (L' := []) rfl ?_
  refine a_then (a_seq (a_seq ?_))
  obtain ⟨x1_1, q1_1, hm⟩ := bind_some hm
  refine d_region (S := Sw Hb0_0 []) (n := 3) (listed := (bits 3 0)) mixed (by kernel_rfl) rfl (by kernel_rfl) ?_
  obtain ⟨u1_0, h1_0, c1_0⟩ := PAt.one hb0_1
  refine dt 0 1 rfl trivial (y_load_cells ty111 rfl (fun _ h => h.1) rfl c1_0 (Rp.len h1_0)) (sw0 []) ?_
  refine d1 1 rfl (e_callH (all := []) trivial rfl Tryd.func151 rfl rfl rfl rfl rfl (fun w hw => ok_151 hw q1_1) ?_)
  rintro _ H1_1 l1_1 ⟨c1_1r0, rfl, h1_1r0⟩
  have hb0_0 := PAt.mono l1_1 hb0_0
  have hb0_1 := PAt.mono l1_1 hb0_1
  have h1_0 := Rp.mono l1_1 h1_0
  refine dn 3 (swl l1_1 []) ?_
  refine d_weaken (S' := Sw H1_1 []) (sw_sw l1_1 [] rfl) ?_
  refine dt 2 7 rfl trivial (y_eq111_eql rfl rfl h1_0 h1_1r0) (sw0 []) ?_
  refine d_done (by kernel_rfl) ?_
  refine a_en [(2, .pointer (some ⟨b0_0, 0, none⟩)), (3, .pointer (some ⟨b0_1, 0, none⟩)), (8, .bool (decide (p1 = x1_1)))] ?_
  refine a_then ?_
  refine a_cond rfl (fun k_1 => ?_) (fun k_1 => ?_)
  · have hm := cond_t k_1 hm
    refine a_seq (a_region rfl ?_)
    have h2_0 := Bk.at_b hb0_0
    refine ap (y_fieldAddr fo110_0 rfl) ?_
    have h2_1 := TunnelBook.at_Parts h2_0
    refine ap (y_fieldAddr fo25_0 rfl) ?_
    obtain ⟨v2_2, h2_2, c2_2⟩ := PAt.sl h2_1
    refine ap (y_load_one ty22 rfl (fun _ h => h.sub) rfl c2_2) ?_
    refine ap (y_len_sl Tryd.underlying22 rfl h2_2) ?_
    obtain ⟨x2_4, q2_4, hm⟩ := bind_some hm
    refine a_cons (e_makeSlice (α := Int) (zc := [.int .i64 0]) trivial rfl Tryd.underlying26 ty3 rfl rfl rfl rfl rfl rfl (rfl : Rp.rep (α := Int) H1_1 [.int .i64 0] (0 : Int)) q2_4 ?_)
    intro v2_4 u2_4 h2_4
    refine ap (y_assign rfl) ?_
    refine a_nil ?_
    refine a_en [(4, v2_4)] ?_
    refine a_then (a_ret (a_then_ret ?_))
    refine a_frow (i := 0) rfl rfl h2_4 rfl ?_
    intro Hef lef hef
    refine a_done (v := v2_4) (.inl rfl) rfl ?_ ?_
    · intro a_ w_ ha_ hs_; exact run_results (P := Tryd.prog) (fn := Tryd.f98) (rs := [.tmp 4]) (vs := [v2_4]) rfl (.cons (rv_tmp ha_ rfl) (All2.nil))
    · intro _ _; obtain rfl := Option.some.inj hm; exact ⟨v2_4, rfl, hef⟩
  have hm := cond_f k_1 hm
  refine a_skip (a_then (a_seq (a_region rfl ?_)))
  have h3_0 := Bk.at_b hb0_0
  refine ap (y_fieldAddr fo110_0 rfl) ?_
  have h3_1 := TunnelBook.at_Parts h3_0
  refine ap (y_fieldAddr fo25_0 rfl) ?_
  obtain ⟨v3_2, h3_2, c3_2⟩ := PAt.sl h3_1
  refine ap (y_load_one ty22 rfl (fun _ h => h.sub) rfl c3_2) ?_
  refine ap (y_len_sl Tryd.underlying22 rfl h3_2) ?_
  obtain ⟨x3_4, q3_4, hm⟩ := bind_some hm
  have i3_4 := cut_in q3_4
  have l3_4 := PAt.arrLen (n := 4) hb0_1
  have h3_4 := (PAt.arrSl (n := 4) hb0_1 q3_4 4 (by omega)).1
  refine ap (y_slice_arr Tryd.underlying111 ty3 rfl rfl i3_4.1 (by omega)) ?_
  obtain ⟨x3_5, q3_5, hm⟩ := bind_some hm
  refine a_cons (e_callO (all := [(.slice (some ⟨b0_1, 0, none⟩) ((p0.Parts.length : Int)).toNat 4)]) trivial rfl Tryd.func106 rfl rfl rfl rfl rfl (fun w hw => ok_106 hw h3_4 q3_5) ?_)
  rintro v3_5 H3_5 _ l3_5 ⟨u3_5, rfl, h3_5⟩
  have hb0_0 := PAt.mono l3_5 hb0_0
  have hb0_1 := PAt.mono l3_5 hb0_1
  have h3_0 := PAt.mono l3_5 h3_0
  have h3_1 := PAt.mono l3_5 h3_1
  have h3_2 := Sl.mono l3_5 h3_2
  have h3_4 := Sl.mono l3_5 h3_4
  refine ap (y_assign rfl) ?_
  refine a_nil ?_
  refine a_en [(5, v3_5)] ?_
  refine a_then (a_seq (a_region rfl ?_))
  refine ap (y_move rfl) ?_
  refine ap (y_move rfl) ?_
  refine ap (y_len_rowZ (i := 0) Tryd.underlying26 rfl rfl rfl h3_5 rfl) ?_
  refine ap (y_move rfl) ?_
  refine ap (y_len_rowZ (i := 0) Tryd.underlying26 rfl rfl rfl h3_5 rfl) ?_
  refine a_frow (i := 0) rfl rfl h3_5 rfl ?_
  intro H4_5f l4_5f h4_5f
  obtain ⟨x4_5, q4_5, hm⟩ := bind_some hm
  obtain ⟨v4_5, h4_5, r4_5⟩ := Sl.cut (k := .i64) (lo := none) (hi := (some (x3_5.length : Int))) (mx := (some (x3_5.length : Int))) h4_5f Tryd.underlying26 ty3 (fun _ => rfl) q4_5 (fun _ h => by cases h; exact ⟨Int.le_refl _, Int.le_refl _⟩)
  refine ap (y_slice (vlo := none) (vhi := (some (.int .i64 (x3_5.length : Int)))) (vmx := (some (.int .i64 (x3_5.length : Int)))) rfl rfl rfl rfl r4_5) ?_
  refine ap (y_assign rfl) ?_
  refine a_nil ?_
  refine a_en [(4, v4_5)] ?_
  refine a_own [] (by decide) (L' := []) rfl ?_
  refine a_then (a_ret ?_)
  refine a_done (v := v4_5) (.inl rfl) rfl ?_ ?_
  · intro a_ w_ ha_ hs_; exact run_results (P := Tryd.prog) (fn := Tryd.f98) (rs := [.tmp 4]) (vs := [v4_5]) rfl (.cons (rv_tmp ha_ rfl) (All2.nil))
  · intro _ _; obtain rfl := Option.some.inj hm; exact ⟨v4_5, rfl, h4_5⟩

def tunnel_Best (k : Nat) (p0 : TunnelBook) : Option ((List Int) × Int) :=
 (tunnel_Check k p0).bind fun x1_1 =>
 bif x1_1 != 0 then
 some (([], x1_1))
 else
 (tunnel_book_all k p0).bind fun x5_2 =>
 (tunnel_book_best k p0 x5_2).bind fun x5_3 =>
 bif !x5_3.2 then
 some (([], 4))
 else
 (tunnel_book_listed k p0 x5_3.1.set_).bind fun x8_3 =>
 some ((x8_3, 0))
theorem ok_31 {k : Nat} {H : Hp} {w : World} {p0 : TunnelBook} {c0 : List Value} {r : (List Int) × Int} (hsub : Sub H w) (h0 : Rp.rep (α := TunnelBook) H c0 p0) (hg : Glob H) (hm : tunnel_Best k p0 = some r) : Calls Tryd.prog 31 [.agg c0.toArray].toArray w (PostH w H fun v H' => ∃ v0, v = .tuple #[v0, .int .i64 r.2] ∧ Sl (α := Int) H' v0 r.1) := by
  unfold tunnel_Best at hm
  refine start (n := 28) (E := [(0, .agg c0.toArray)]) Tryd.func31 rfl rfl ⟨rfl, trivial⟩ rfl hsub ?_
  refine a_seq (a_region rfl ?_)
  refine a_cons (e_box (cs := c0) trivial rfl rfl rfl ?_)
  intro b0_0
  refine ap (y_assign rfl) ?_
  refine ap (y_assign rfl) ?_
  refine a_nil ?_
  refine a_freeze (α := TunnelBook) (x := p0) (i := 0) rfl h0 ?_
  intro Hb0_0 lb0_0 hb0_0
  have h0 := Rp.mono lb0_0 h0
  have hg := Glob.mono lb0_0 hg
  refine a_en [(1, .pointer (some ⟨b0_0, 0, none⟩))] ?_
  refine a_own [] (by decide) (L' := []) rfl ?_
  refine a_then (a_seq (a_seq (a_region rfl ?_)))
  obtain ⟨u1_0, h1_0, c1_0⟩ := PAt.one hb0_0
  refine ap (y_load_cells ty25 rfl (fun _ h => h.sub) rfl c1_0 (Rp.len h1_0)) ?_
  obtain ⟨x1_1, q1_1, hm⟩ := bind_some hm
  refine a_cons (e_callV (all := [.agg u1_0.toArray]) (v := .int .i64 x1_1) trivial rfl Tryd.func21 rfl rfl rfl rfl rfl (fun w hw => ok_21 hw h1_0 q1_1) ?_)
  refine ap (y_assign rfl) ?_
  refine a_nil ?_
  refine a_en [(1, .pointer (some ⟨b0_0, 0, none⟩)), (4, .int .i64 x1_1)] ?_
  refine a_then (a_seq (a_region rfl ?_))
  refine ap (y_move rfl) ?_
  refine ap (y_neq rfl rfl) ?_
  refine a_nil ?_
  refine a_en [(1, .pointer (some ⟨b0_0, 0, none⟩)), (4, .int .i64 x1_1), (11, .bool (x1_1 != 0))] ?_
  refine a_then ?_
  refine a_cond rfl (fun k_1 => ?_) (fun k_1 => ?_)
  · have hm := cond_t k_1 hm
    refine a_seq (a_region rfl ?_)
    refine ap (y_move rfl) ?_
    refine ap (y_assign rfl) ?_
    refine ap (y_assign rfl) ?_
    refine a_nil ?_
    refine a_en [(2, .slice none 0 0), (3, .int .i64 x1_1)] ?_
    refine a_then (a_ret (a_then_ret ?_))
    refine a_done (v := .tuple #[.slice none 0 0, .int .i64 x1_1]) (.inl rfl) rfl ?_ ?_
    · intro a_ w_ ha_ hs_; exact run_results (P := Tryd.prog) (fn := Tryd.f31) (rs := [.tmp 2, .tmp 3]) (vs := [.slice none 0 0, .int .i64 x1_1]) rfl (.cons (rv_tmp ha_ rfl) (.cons (rv_tmp ha_ rfl) (All2.nil)))
    · intro _ _; obtain rfl := Option.some.inj hm; exact ⟨.slice none 0 0, rfl, (sl_nil _ none 0)⟩
  have hm := cond_f k_1 hm
  refine a_skip (a_then (a_seq (a_region rfl ?_)))
  obtain ⟨u4_0, h4_0, c4_0⟩ := PAt.one hb0_0
  refine ap (y_load_cells ty25 rfl (fun _ h => h.sub) rfl c4_0 (Rp.len h4_0)) ?_
  refine a_cons (e_callO (all := [.agg u4_0.toArray]) trivial rfl Tryd.func95 rfl rfl rfl rfl rfl (fun w hw => ok_95 hw h4_0 ) ?_)
  rintro _ H4_1 _ l4_1 ⟨M4_1, rfl, rfl⟩
  have hb0_0 := PAt.mono l4_1 hb0_0
  have h4_0 := Rp.mono l4_1 h4_0
  have hg := Glob.mono l4_1 hg
  have m4_1 : Rp.rep (α := Bk (some M4_1)) H4_1 (u4_0 ++ [Value.map (some M4_1)]) p0 := ⟨_, rfl, h4_0⟩
  refine a_cons (e_alloc (cs := [.slice none 0 0, .slice none 0 0, .map none]) trivial rfl ty110 rfl ?_)
  intro b4_2
  refine a_cons (e_storeWhole (i := 0) (ds := u4_0 ++ [Value.map (some M4_1)]) trivial ty110 rfl rfl rfl rfl (Rp.len m4_1) ((Rp.one m4_1)) rfl ?_)
  refine a_nil ?_
  refine a_freeze (α := Bk _) (x := p0) (i := 0) rfl m4_1 ?_
  intro Hb4_2 lb4_2 hb4_2
  have hb0_0 := PAt.mono lb4_2 hb0_0
  have h4_0 := Rp.mono lb4_2 h4_0
  have m4_1 := Rp.mono lb4_2 m4_1
  have hg := Glob.mono lb4_2 hg
  refine a_en [(5, .pointer (some ⟨b4_2, 0, none⟩))] ?_
  refine a_own [1] (by decide) (L' := [.blk M4_1 (Memo p0)]) rfl ?_
  refine a_then (a_seq ?_)
  obtain ⟨x5_2, q5_2, hm⟩ := bind_some hm
  obtain ⟨x5_3, q5_3, hm⟩ := bind_some hm
  refine d_region (S := Sw Hb4_2 []) (n := 10) (listed := (bits 10 0)) mixed (by kernel_rfl) rfl (by kernel_rfl) ?_
  refine d_abs fun U5 hU5 => ?_
  have N5_0 (Hn5_5 : Hp) (ln5_5 : HLe Hb4_2 Hn5_5) (b5_7 : Nat) (c5_3r0 : List Value) (h5_3r0 : Rp.rep (α := TunnelChoice) Hn5_5 c5_3r0 x5_3.1) : At 28 [] (Kp.mk w H noX) [(5, .pointer (some ⟨b4_2, 0, none⟩)), (6, .pointer (some ⟨b5_7, 0, none⟩)), (21, .bool x5_3.2)] Hn5_5 [.blk M4_1 (Memo p0), .box b5_7 c5_3r0 125] (U5 (Sw Hn5_5 []) 1 (bits 10 511)) := by
    refine d_fwd hU5 ?_
    have hb4_2 := PAt.mono ln5_5 hb4_2
    have hg := Glob.mono ln5_5 hg
    refine dt 9 1023 rfl trivial (y_assign rfl) (sw0 []) ?_
    refine d_done (by kernel_rfl) ?_
    refine a_freeze (α := TunnelChoice) (x := x5_3.1) (i := 1) rfl h5_3r0 ?_
    intro Hb5_7 lb5_7 hb5_7
    have hb4_2 := PAt.mono lb5_7 hb4_2
    have hg := Glob.mono lb5_7 hg
    refine a_en [(5, .pointer (some ⟨b4_2, 0, none⟩)), (6, .pointer (some ⟨b5_7, 0, none⟩)), (7, .bool x5_3.2)] ?_
    refine a_own [0] (by decide) (L' := [.blk M4_1 (Memo p0)]) rfl ?_
    refine a_then (a_seq (a_seq (a_region rfl ?_)))
    refine ap (y_move rfl) ?_
    refine ap (y_not rfl) ?_
    refine a_nil ?_
    refine a_en [(5, .pointer (some ⟨b4_2, 0, none⟩)), (6, .pointer (some ⟨b5_7, 0, none⟩)), (23, .bool (!x5_3.2))] ?_
    refine a_then ?_
    refine a_cond rfl (fun k_2 => ?_) (fun k_2 => ?_)
    · have hm := cond_t k_2 hm
      refine a_seq (a_region rfl ?_)
      refine ap (y_assign rfl) ?_
      refine ap (y_assign rfl) ?_
      refine a_nil ?_
      refine a_en [(2, .slice none 0 0), (3, .int .i64 4)] ?_
      refine a_then (a_ret (a_then_ret ?_))
      refine a_done (v := .tuple #[.slice none 0 0, .int .i64 4]) (.inl rfl) rfl ?_ ?_
      · intro a_ w_ ha_ hs_; exact run_results (P := Tryd.prog) (fn := Tryd.f31) (rs := [.tmp 2, .tmp 3]) (vs := [.slice none 0 0, .int .i64 4]) rfl (.cons (rv_tmp ha_ rfl) (.cons (rv_tmp ha_ rfl) (All2.nil)))
      · intro _ _; obtain rfl := Option.some.inj hm; exact ⟨.slice none 0 0, rfl, (sl_nil _ none 0)⟩
    have hm := cond_f k_2 hm
    refine a_skip (a_then (a_seq (a_region rfl ?_)))
    obtain ⟨u8_0, h8_0, c8_0⟩ := PAt.one hb4_2
    refine ap (y_load_cells ty110 rfl (fun _ h => h.sub) rfl c8_0 (Rp.len h8_0)) ?_
    have h8_1 := TunnelChoice.at_set_ hb5_7
    refine ap (y_fieldAddr fo125_0 rfl) ?_
    obtain ⟨u8_2, h8_2, c8_2⟩ := PAt.one h8_1
    refine ap (y_load_cells ty111 rfl (fun _ h => h.sub) rfl c8_2 (Rp.len h8_2)) ?_
    obtain ⟨x8_3, q8_3, hm⟩ := bind_some hm
    refine a_cons (e_callH (all := [.agg u8_0.toArray, .agg u8_2.toArray]) trivial rfl Tryd.func98 rfl rfl rfl rfl rfl (fun w hw => ok_98 hw h8_0 h8_2 q8_3) ?_)
    rintro v8_3r0 H8_3 l8_3 ⟨_, rfl, h8_3r0⟩
    have hb4_2 := PAt.mono l8_3 hb4_2
    have hb5_7 := PAt.mono l8_3 hb5_7
    have h8_0 := Rp.mono l8_3 h8_0
    have h8_1 := PAt.mono l8_3 h8_1
    have h8_2 := Rp.mono l8_3 h8_2
    have hg := Glob.mono l8_3 hg
    refine ap (y_assign rfl) ?_
    refine ap (y_assign rfl) ?_
    refine a_nil ?_
    refine a_en [(2, v8_3r0), (3, .int .i64 0)] ?_
    refine a_then (a_ret ?_)
    refine a_done (v := .tuple #[v8_3r0, .int .i64 0]) (.inl rfl) rfl ?_ ?_
    · intro a_ w_ ha_ hs_; exact run_results (P := Tryd.prog) (fn := Tryd.f31) (rs := [.tmp 2, .tmp 3]) (vs := [v8_3r0, .int .i64 0]) rfl (.cons (rv_tmp ha_ rfl) (.cons (rv_tmp ha_ rfl) (All2.nil)))
    · intro _ _; obtain rfl := Option.some.inj hm; exact ⟨v8_3r0, rfl, h8_3r0⟩
  have N5_1 (Hn5_7 : Hp) (ln5_7 : HLe Hb4_2 Hn5_7) (b5_7 : Nat) (c5_3r0 : List Value) (h5_3r0 : Rp.rep (α := TunnelChoice) Hn5_7 c5_3r0 x5_3.1) (mz5_7 : Rp.rep (α := TunnelChoice) Hn5_7 [.int .i64 0, .int .i64 0, .int .i64 0, .int .i64 0, .int .i64 0, .int .i64 0] (⟨[0, 0, 0, 0], 0, 0⟩ : TunnelChoice)) : At 28 [] (Kp.mk w H noX) [(5, .pointer (some ⟨b4_2, 0, none⟩)), (6, .pointer (some ⟨b5_7, 0, none⟩)), (20, .agg c5_3r0.toArray), (21, .bool x5_3.2)] Hn5_7 ([.blk M4_1 (Memo p0), .box b5_7 [.int .i64 0, .int .i64 0, .int .i64 0, .int .i64 0, .int .i64 0, .int .i64 0] 125]) (U5 (Sw Hn5_7 []) 2 (bits 10 255)) := by
    refine d_fwd hU5 ?_
    have hb4_2 := PAt.mono ln5_7 hb4_2
    have hg := Glob.mono ln5_7 hg
    refine d1 8 rfl (e_storeWhole (i := 1) (ds := c5_3r0) trivial ty125 rfl rfl rfl rfl (Rp.len h5_3r0) ((Rp.one h5_3r0)) rfl ?_)
    refine dn 511 (sw0 []) ?_
    exact d_edge hU5 (N5_0 Hn5_7 ln5_7 b5_7 c5_3r0 h5_3r0) ⟨rfl, rfl, rfl, trivial⟩ [0, 1] (by decide) rfl (fun _ h => h)
  have N5_2 (Hn5_4 : Hp) (ln5_4 : HLe Hb4_2 Hn5_4) (b5_7 : Nat) (c5_3r0 : List Value) (h5_3r0 : Rp.rep (α := TunnelChoice) Hn5_4 c5_3r0 x5_3.1) (mz5_7 : Rp.rep (α := TunnelChoice) Hn5_4 [.int .i64 0, .int .i64 0, .int .i64 0, .int .i64 0, .int .i64 0, .int .i64 0] (⟨[0, 0, 0, 0], 0, 0⟩ : TunnelChoice)) : At 28 [] (Kp.mk w H noX) [(5, .pointer (some ⟨b4_2, 0, none⟩)), (6, .pointer (some ⟨b5_7, 0, none⟩)), (19, .tuple #[.agg c5_3r0.toArray, .bool x5_3.2])] Hn5_4 ([.blk M4_1 (Memo p0), .box b5_7 [.int .i64 0, .int .i64 0, .int .i64 0, .int .i64 0, .int .i64 0, .int .i64 0] 125]) (U5 (Sw Hn5_4 []) 5 (bits 10 143)) := by
    refine d_fwd hU5 ?_
    have hb4_2 := PAt.mono ln5_4 hb4_2
    have hg := Glob.mono ln5_4 hg
    refine dt 4 159 rfl trivial (y_move rfl) (sw0 []) ?_
    refine dt 5 191 rfl trivial (y_extract rfl rfl) (sw0 []) ?_
    refine dt 6 255 rfl trivial (y_extract rfl rfl) (sw0 []) ?_
    refine d1 8 rfl (e_storeWhole (i := 1) (ds := c5_3r0) trivial ty125 rfl rfl rfl rfl (Rp.len h5_3r0) ((Rp.one h5_3r0)) rfl ?_)
    refine dn 511 (sw0 []) ?_
    exact d_edge hU5 (N5_0 Hn5_4 ln5_4 b5_7 c5_3r0 h5_3r0) ⟨rfl, rfl, rfl, trivial⟩ [0, 1] (by decide) rfl (fun _ h => h)
  have N5_3 (Hn5_6 : Hp) (ln5_6 : HLe Hb4_2 Hn5_6) (c5_3r0 : List Value) (h5_3r0 : Rp.rep (α := TunnelChoice) Hn5_6 c5_3r0 x5_3.1) : At 28 [] (Kp.mk w H noX) [(5, .pointer (some ⟨b4_2, 0, none⟩)), (19, .tuple #[.agg c5_3r0.toArray, .bool x5_3.2])] Hn5_6 [.blk M4_1 (Memo p0)] (U5 (Sw Hn5_6 []) 6 (bits 10 15)) := by
    refine d_fwd hU5 ?_
    have hb4_2 := PAt.mono ln5_6 hb4_2
    have hg := Glob.mono ln5_6 hg
    refine dt 4 31 rfl trivial (y_move rfl) (sw0 []) ?_
    refine dt 5 63 rfl trivial (y_extract rfl rfl) (sw0 []) ?_
    refine dt 6 127 rfl trivial (y_extract rfl rfl) (sw0 []) ?_
    refine d1 7 rfl (e_alloc (cs := [.int .i64 0, .int .i64 0, .int .i64 0, .int .i64 0, .int .i64 0, .int .i64 0]) trivial rfl ty125 rfl ?_)
    intro b5_7
    have mz5_7 := z125 Hn5_6
    refine dn 255 (sw0 []) ?_
    exact d_edge hU5 (N5_1 Hn5_6 ln5_6 b5_7 c5_3r0 h5_3r0 mz5_7) ⟨rfl, rfl, rfl, rfl, trivial⟩ [1, 0] (by decide) rfl (fun _ h => h)
  have N5_4 (Hn5_3 : Hp) (ln5_3 : HLe Hb4_2 Hn5_3) (b5_7 : Nat) (u5_0 : List Value) (v5_2r0 : Value) (h5_0 : Rp.rep (α := Bk (some M4_1)) Hn5_3 u5_0 p0) (h5_2r0 : Sl (α := Int) Hn5_3 v5_2r0 x5_2) (mz5_7 : Rp.rep (α := TunnelChoice) Hn5_3 [.int .i64 0, .int .i64 0, .int .i64 0, .int .i64 0, .int .i64 0, .int .i64 0] (⟨[0, 0, 0, 0], 0, 0⟩ : TunnelChoice)) : At 28 [] (Kp.mk w H noX) [(5, .pointer (some ⟨b4_2, 0, none⟩)), (6, .pointer (some ⟨b5_7, 0, none⟩)), (16, .agg u5_0.toArray), (18, v5_2r0)] Hn5_3 ([.blk M4_1 (Memo p0), .box b5_7 [.int .i64 0, .int .i64 0, .int .i64 0, .int .i64 0, .int .i64 0, .int .i64 0] 125]) (U5 (Sw Hn5_3 []) 6 (bits 10 135)) := by
    refine d_fwd hU5 ?_
    have hb4_2 := PAt.mono ln5_3 hb4_2
    have hg := Glob.mono ln5_3 hg
    refine d1 3 rfl (e_callM (i := 0) (all := [.agg u5_0.toArray, v5_2r0]) trivial rfl Tryd.func96 rfl rfl rfl rfl rfl rfl (fun w hw ho hn => ok_96 hw h5_0 h5_2r0 hg ho hn q5_3) ?_)
    rintro _ H5_3 l5_3 ⟨c5_3r0, rfl, h5_3r0⟩
    have hb4_2 := PAt.mono l5_3 hb4_2
    have h5_0 := Rp.mono l5_3 h5_0
    have h5_2r0 := Sl.mono l5_3 h5_2r0
    have mz5_7 := Rp.mono l5_3 mz5_7
    have hg := Glob.mono l5_3 hg
    refine dn 143 (swl l5_3 []) ?_
    exact d_edge hU5 (N5_2 H5_3 (ln5_3.trans l5_3) b5_7 c5_3r0 h5_3r0 mz5_7) ⟨rfl, rfl, rfl, trivial⟩ [0, 1] (by decide) rfl (sw_sw l5_3 [] rfl)
  have N5_5 (Hn5_1 : Hp) (ln5_1 : HLe Hb4_2 Hn5_1) (u5_0 : List Value) (v5_2r0 : Value) (h5_0 : Rp.rep (α := Bk (some M4_1)) Hn5_1 u5_0 p0) (h5_2r0 : Sl (α := Int) Hn5_1 v5_2r0 x5_2) : At 28 [] (Kp.mk w H noX) [(5, .pointer (some ⟨b4_2, 0, none⟩)), (16, .agg u5_0.toArray), (18, v5_2r0)] Hn5_1 [.blk M4_1 (Memo p0)] (U5 (Sw Hn5_1 []) 7 (bits 10 7)) := by
    refine d_fwd hU5 ?_
    have hb4_2 := PAt.mono ln5_1 hb4_2
    have hg := Glob.mono ln5_1 hg
    refine d_all (rs := [3, 7]) (by kernel_rfl) rfl ⟨⟨_, rfl, ?_⟩, ⟨_, rfl, ?_⟩, trivial⟩
    · refine e_callM (i := 0) (all := [.agg u5_0.toArray, v5_2r0]) trivial rfl Tryd.func96 rfl rfl rfl rfl rfl rfl (fun w hw ho hn => ok_96 hw h5_0 h5_2r0 hg ho hn q5_3) ?_
      rintro _ H5_3 l5_3 ⟨c5_3r0, rfl, h5_3r0⟩
      have hb4_2 := PAt.mono l5_3 hb4_2
      have h5_0 := Rp.mono l5_3 h5_0
      have h5_2r0 := Sl.mono l5_3 h5_2r0
      have hg := Glob.mono l5_3 hg
      refine dn 15 (swl l5_3 []) ?_
      exact d_edge hU5 (N5_3 H5_3 (ln5_1.trans l5_3) c5_3r0 h5_3r0) ⟨rfl, rfl, trivial⟩ [0] (by decide) rfl (sw_sw l5_3 [] rfl)
    refine e_alloc (cs := [.int .i64 0, .int .i64 0, .int .i64 0, .int .i64 0, .int .i64 0, .int .i64 0]) trivial rfl ty125 rfl ?_
    intro b5_7
    have mz5_7 := z125 Hn5_1
    refine dn 135 (sw0 []) ?_
    exact d_edge hU5 (N5_4 Hn5_1 ln5_1 b5_7 u5_0 v5_2r0 h5_0 h5_2r0 mz5_7) ⟨rfl, rfl, rfl, rfl, trivial⟩ [1, 0] (by decide) rfl (fun _ h => h)
  have N5_6 (Hn5_2 : Hp) (ln5_2 : HLe Hb4_2 Hn5_2) (b5_7 : Nat) (u5_0 : List Value) (u5_1 : List Value) (h5_0 : Rp.rep (α := Bk (some M4_1)) Hn5_2 u5_0 p0) (h5_1 : Rp.rep (α := Bk (some M4_1)) Hn5_2 u5_1 p0) (mz5_7 : Rp.rep (α := TunnelChoice) Hn5_2 [.int .i64 0, .int .i64 0, .int .i64 0, .int .i64 0, .int .i64 0, .int .i64 0] (⟨[0, 0, 0, 0], 0, 0⟩ : TunnelChoice)) : At 28 [] (Kp.mk w H noX) [(5, .pointer (some ⟨b4_2, 0, none⟩)), (6, .pointer (some ⟨b5_7, 0, none⟩)), (16, .agg u5_0.toArray), (17, .agg u5_1.toArray)] Hn5_2 ([.blk M4_1 (Memo p0), .box b5_7 [.int .i64 0, .int .i64 0, .int .i64 0, .int .i64 0, .int .i64 0, .int .i64 0] 125]) (U5 (Sw Hn5_2 []) 7 (bits 10 131)) := by
    refine d_fwd hU5 ?_
    have hb4_2 := PAt.mono ln5_2 hb4_2
    have hg := Glob.mono ln5_2 hg
    refine d1 2 rfl (e_callH (all := [.agg u5_1.toArray]) trivial rfl Tryd.func97 rfl rfl rfl rfl rfl (fun w hw => ok_97 hw h5_1 q5_2) ?_)
    rintro v5_2r0 H5_2 l5_2 ⟨_, rfl, h5_2r0⟩
    have hb4_2 := PAt.mono l5_2 hb4_2
    have h5_0 := Rp.mono l5_2 h5_0
    have h5_1 := Rp.mono l5_2 h5_1
    have mz5_7 := Rp.mono l5_2 mz5_7
    have hg := Glob.mono l5_2 hg
    refine dn 135 (swl l5_2 []) ?_
    exact d_edge hU5 (N5_4 H5_2 (ln5_2.trans l5_2) b5_7 u5_0 v5_2r0 h5_0 h5_2r0 mz5_7) ⟨rfl, rfl, rfl, rfl, trivial⟩ [0, 1] (by decide) rfl (sw_sw l5_2 [] rfl)
  refine d_fwd hU5 ?_
  obtain ⟨u5_0, h5_0, c5_0⟩ := PAt.one hb4_2
  refine dt 0 1 rfl trivial (y_load_cells ty110 rfl (fun _ h => h.1) rfl c5_0 (Rp.len h5_0)) (sw0 []) ?_
  obtain ⟨u5_1, h5_1, c5_1⟩ := PAt.one hb4_2
  refine dt 1 3 rfl trivial (y_load_cells ty110 rfl (fun _ h => h.1) rfl c5_1 (Rp.len h5_1)) (sw0 []) ?_
  refine d_all (rs := [2, 7]) (by kernel_rfl) rfl ⟨⟨_, rfl, ?_⟩, ⟨_, rfl, ?_⟩, trivial⟩
  · refine e_callH (all := [.agg u5_1.toArray]) trivial rfl Tryd.func97 rfl rfl rfl rfl rfl (fun w hw => ok_97 hw h5_1 q5_2) ?_
    rintro v5_2r0 H5_2 l5_2 ⟨_, rfl, h5_2r0⟩
    have hb4_2 := PAt.mono l5_2 hb4_2
    have h5_0 := Rp.mono l5_2 h5_0
    have h5_1 := Rp.mono l5_2 h5_1
    have hg := Glob.mono l5_2 hg
    refine dn 7 (swl l5_2 []) ?_
    exact d_edge hU5 (N5_5 H5_2 l5_2 u5_0 v5_2r0 h5_0 h5_2r0) ⟨rfl, rfl, rfl, trivial⟩ [0] (by decide) rfl (sw_sw l5_2 [] rfl)
  refine e_alloc (cs := [.int .i64 0, .int .i64 0, .int .i64 0, .int .i64 0, .int .i64 0, .int .i64 0]) trivial rfl ty125 rfl ?_
  intro b5_7
  have mz5_7 := z125 Hb4_2
  refine dn 131 (sw0 []) ?_
  exact d_edge hU5 (N5_6 Hb4_2 (HLe.refl _) b5_7 u5_0 u5_1 h5_0 h5_1 mz5_7) ⟨rfl, rfl, rfl, rfl, trivial⟩ [1, 0] (by decide) rfl (fun _ h => h)

def law03_torn (k : Nat) : Option TunnelBook :=
 (law03_book k).bind fun x1_0 =>
 (ref00_Sp k 18 25).bind fun x2_2 =>
 (nth x1_0.Frames (1 : Int)).bind fun x2_3 =>
 some (((⟨x1_0.Parts, (x1_0.Frames).set ((1 : Int)).toNat (⟨x2_3.Stay, x2_2⟩ : TunnelFrame)⟩ : TunnelBook)))
theorem ok_70 {k : Nat} {H : Hp} {w : World} {r : TunnelBook} (hsub : Sub H w)  (hm : law03_torn k = some r) : Calls Tryd.prog 70 [].toArray w (PostH w H fun v H' => ∃ c0, v = .agg c0.toArray ∧ Rp.rep (α := TunnelBook) H' c0 r) := by
  unfold law03_torn at hm
  refine start (n := 9) (E := []) Tryd.func70 rfl rfl trivial rfl hsub ?_
  refine a_seq (a_region rfl ?_)
  refine a_cons (e_alloc (cs := [.slice none 0 0, .slice none 0 0]) trivial rfl ty25 rfl ?_)
  intro b0_0
  refine a_nil (a_then (a_seq (a_region rfl ?_)))
  obtain ⟨x1_0, q1_0, hm⟩ := bind_some hm
  refine a_cons (e_callO (all := []) trivial rfl Tryd.func69 rfl rfl rfl rfl rfl (fun w hw => ok_69 hw q1_0) ?_)
  rintro _ H1_0 _ l1_0 ⟨vp1_0, vf1_0, cp1_0, cf1_0, rfl, rfl, hp1_0, hf1_0⟩
  refine a_cons (e_alloc (cs := [.slice none 0 0, .slice none 0 0]) trivial rfl ty25 rfl ?_)
  intro b1_1
  refine a_cons (e_storeWholeL (i := 0) (ds := [vp1_0, vf1_0]) trivial ty25 rfl rfl rfl rfl rfl ⟨.inr ⟨_, _, _, List.mem_of_getElem? (i := 1) rfl⟩, ⟨.inr ⟨_, _, _, List.mem_of_getElem? (i := 2) rfl⟩, trivial⟩⟩ rfl ?_)
  refine a_nil ?_
  refine a_en [(0, .pointer (some ⟨b0_0, 0, none⟩)), (1, .pointer (some ⟨b1_1, 0, none⟩))] ?_
  refine a_then (a_seq ?_)
  obtain ⟨x2_2, q2_2, hm⟩ := bind_some hm
  obtain ⟨x2_3, q2_3, hm⟩ := bind_some hm
  refine d_region (S := Sw H1_0 [.box b1_1 [vp1_0, vf1_0] 25, .box b0_0 [.slice none 0 0, .slice none 0 0] 25]) (n := 6) (listed := (bits 6 0)) mixed (by kernel_rfl) rfl (by kernel_rfl) ?_
  refine dt 0 1 rfl trivial (y_fieldAddr fo25_1 rfl) (sw0 [0, 3]) ?_
  refine dt 1 3 rfl trivial (y_load_box ty23 rfl (knows_sw (i := 0) rfl) rfl rfl) (sw0 [0, 3]) ?_
  refine d1 2 rfl (e_callV (all := [.int .i64 18, .int .i64 25]) (v := .agg x2_2.cells.toArray) trivial rfl Tryd.func53 rfl rfl rfl rfl rfl (fun w hw => ok_53 hw q2_2) ?_)
  refine dn 7 (sw0 [0, 3]) ?_
  refine a_rowplace (i := 2) rfl rfl rfl hf1_0 q2_3 ?_
  rintro b2_3 c2_3 rfl
  refine d1 3 rfl (p_pure trivial rfl rfl (y_index Tryd.underlying23 ty55 rfl rfl rfl (nth_in q2_3)) ?_)
  refine dn 15 (sw0 [0, 3]) ?_
  refine dt 4 31 rfl trivial (y_fieldAddr fo55_1 rfl) (sw0 [0, 3]) ?_
  refine d1 5 rfl (e_storeRow (α := TunnelFrame) (i := 2) (ds := x2_2.cells) (l' := (x1_0.Frames).set ((1 : Int)).toNat (⟨x2_3.Stay, x2_2⟩ : TunnelFrame)) trivial ty32 rfl rfl rfl rfl rfl ((Rp.one (Span.rep_mk (fun _ => none) x2_2))) rfl hf1_0 (PutL.at0 3 rfl q2_3 (TunnelFrame.put_Need (s := x2_3) (Put.here (Span.rep_mk _ x2_2)))) ?_)
  intro u2_5 h2_5
  refine dn 63 (sw0 [0, 3]) ?_
  refine d_done (by kernel_rfl) ?_
  refine a_en [(0, .pointer (some ⟨b0_0, 0, none⟩)), (1, .pointer (some ⟨b1_1, 0, none⟩))] ?_
  refine a_then (a_seq (a_region rfl ?_))
  refine ap (y_load_boxagg ty25 rfl (knows_box (i := 0) rfl) rfl rfl rfl) ?_
  refine a_cons (e_storeWholeL (i := 3) (ds := [vp1_0, .slice (some ⟨b2_3, 0, none⟩) (x1_0.Frames).length c2_3]) trivial ty25 rfl rfl rfl rfl rfl ⟨.inr ⟨_, _, _, List.mem_of_getElem? (i := 1) rfl⟩, ⟨.inr ⟨_, _, _, List.mem_of_getElem? (i := 2) rfl⟩, trivial⟩⟩ rfl ?_)
  refine a_nil ?_
  refine a_en [(0, .pointer (some ⟨b0_0, 0, none⟩))] ?_
  refine a_own [1, 2, 3] (by decide) (L' := [.row vp1_0 cp1_0 64 6, .row (.slice (some ⟨b2_3, 0, none⟩) (x1_0.Frames).length c2_3) u2_5 55 3, .box b0_0 [vp1_0, .slice (some ⟨b2_3, 0, none⟩) (x1_0.Frames).length c2_3] 25]) rfl ?_
  refine a_then (a_ret ?_)
  refine a_frow (i := 0) rfl rfl hp1_0 rfl ?_
  intro He0rp1_0f le0rp1_0f he0rp1_0f
  have h2_5 := RepL.mono le0rp1_0f h2_5
  refine a_frow (i := 1) rfl rfl h2_5 rfl ?_
  intro He0rf1_0f le0rf1_0f he0rf1_0f
  have he0rp1_0f := Sl.mono le0rf1_0f he0rp1_0f
  have me0l : Rp.rep He0rf1_0f [vp1_0, .slice (some ⟨b2_3, 0, none⟩) (x1_0.Frames).length c2_3] (⟨x1_0.Parts, (x1_0.Frames).set ((1 : Int)).toNat (⟨x2_3.Stay, x2_2⟩ : TunnelFrame)⟩ : TunnelBook) := ⟨_, _, rfl, ⟨_, rfl, he0rp1_0f⟩, ⟨_, rfl, he0rf1_0f⟩⟩
  refine a_done (v := .agg [vp1_0, .slice (some ⟨b2_3, 0, none⟩) (x1_0.Frames).length c2_3].toArray) (.inl rfl) rfl ?_ ?_
  · intro a_ w_ ha_ hs_; exact run_results (P := Tryd.prog) (fn := Tryd.f70) (rs := [.cell 0 25]) (vs := [.agg [vp1_0, .slice (some ⟨b2_3, 0, none⟩) (x1_0.Frames).length c2_3].toArray]) rfl (.cons (rv_cell ha_ rfl (run_loadSt (i := 2) ty25 rfl hs_ rfl rfl)) (All2.nil))
  · intro _ _; obtain rfl := Option.some.inj hm; exact ⟨[vp1_0, .slice (some ⟨b2_3, 0, none⟩) (x1_0.Frames).length c2_3], rfl, me0l⟩

def tunnel_book_lost_lj2 (k : Nat) (p0 : TunnelBook) : Nat → (List Int) → Int → Option (List Int)
 | 0, _, _ => none
 | n_j2 + 1, yj2_3, yj2_11 =>
 bif decide (yj2_11 < (p0.Frames.length : Int)) then
 (tunnel_book_best k p0 [yj2_11]).bind fun x5_3 =>
 bif !x5_3.2 then
 (app yj2_3 [yj2_11]).bind fun x7_3 =>
 tunnel_book_lost_lj2 k p0 n_j2 x7_3 (IntKind.i64.wrap (yj2_11 + 1))
 else
 tunnel_book_lost_lj2 k p0 n_j2 yj2_3 (IntKind.i64.wrap (yj2_11 + 1))
 else
 some (yj2_3)
def tunnel_book_lost (k : Nat) (p0 : TunnelBook) : Option (List Int) :=
 (tunnel_book_lost_lj2 k p0 k ([] : List Int) 0).bind fun yj1_3 =>
 (cut yj1_3 0 (yj1_3.length : Int)).bind fun x9_5 =>
 some (x9_5)
theorem ok_100 {k : Nat} {H : Hp} {w : World} {p0 : TunnelBook} {M0 : Nat} {c0 : List Value} {r : List Int} (hsub : Sub H w) (h0 : Rp.rep (α := Bk (some M0)) H c0 p0) (hg : Glob H) (hM : ∃ o, w.heap[M0]? = some o ∧ Memo p0 o) (hMn : H M0 = none) (hm : tunnel_book_lost k p0 = some r) : Calls Tryd.prog 100 [.agg c0.toArray].toArray w (PostM w H M0 (Memo p0) fun v H' => ∃ v0, v = v0 ∧ Sl (α := Int) H' v0 r) := by
  unfold tunnel_book_lost at hm
  refine startM (n := 34) (E := [(0, .agg c0.toArray)]) Tryd.func100 rfl rfl ⟨rfl, trivial⟩ rfl hsub hM hMn ?_
  refine a_seq (a_region rfl ?_)
  refine a_cons (e_box (cs := c0) trivial rfl rfl rfl ?_)
  intro b0_0
  refine ap (y_assign rfl) ?_
  refine a_nil ?_
  refine a_freeze (α := Bk _) (x := p0) (i := 0) rfl h0 ?_
  intro Hb0_0 lb0_0 hb0_0
  have h0 := Rp.mono lb0_0 h0
  have hg := Glob.mono lb0_0 hg
  refine a_en [(1, .pointer (some ⟨b0_0, 0, none⟩))] ?_
  refine a_own [1] (by decide) (L' := [.blk M0 (Memo p0)]) rfl ?_
  refine a_then (a_seq (a_region rfl ?_))
  refine ap (y_assign rfl) ?_
  refine a_nil (a_then (a_seq (a_seq (a_region rfl ?_))))
  have h2_0 := Bk.at_b hb0_0
  refine ap (y_fieldAddr fo110_0 rfl) ?_
  have h2_1 := TunnelBook.at_Frames h2_0
  refine ap (y_fieldAddr fo25_1 rfl) ?_
  obtain ⟨v2_2, h2_2, c2_2⟩ := PAt.sl h2_1
  refine ap (y_load_one ty23 rfl (fun _ h => h.sub) rfl c2_2) ?_
  refine ap (y_len_sl Tryd.underlying23 rfl h2_2) ?_
  refine ap (y_move rfl) ?_
  refine a_nil ?_
  refine a_en [(1, .pointer (some ⟨b0_0, 0, none⟩)), (3, .slice none 0 0), (10, .int .i64 (p0.Frames.length : Int)), (11, .int .i64 0)] ?_
  refine a_then ?_
  obtain ⟨s_j1, hs_j1, hm_j1⟩ := bind_some hm
  refine a_join (fun a_ w_ => ∃ (Hj1 : Hp), ∃ (_ : HLe Hb0_0 Hj1), ∃ (yj1_3 : List Int), ∃ (vj1_3 : Value), ∃ (uj1_3 : List Value), yj1_3 = s_j1 ∧ RepL (α := Int) Hj1 uj1_3 yj1_3 ∧ Ag 34 [] [(3, vj1_3)] a_ ∧ St (Kp.mk w H (· = M0)) Hj1 [.blk M0 (Memo p0), .row vj1_3 uj1_3 3 1] w_) ?_ ?_
  · have hm := hs_j1
    refine a_block ?_
    refine a_loop (fun n_j2 a_ w_ => ∃ (Hj2 : Hp), ∃ (_ : HLe Hb0_0 Hj2), ∃ (yj2_3 : List Int), ∃ (yj2_11 : Int), ∃ (vj2_3 : Value), ∃ (uj2_3 : List Value), tunnel_book_lost_lj2 k p0 n_j2 yj2_3 yj2_11 = some s_j1 ∧ RepL (α := Int) Hj2 uj2_3 yj2_3 ∧ Ag 34 [] [(1, .pointer (some ⟨b0_0, 0, none⟩)), (3, vj2_3), (10, .int .i64 (p0.Frames.length : Int)), (11, .int .i64 yj2_11)] a_ ∧ St (Kp.mk w H (· = M0)) Hj2 [.blk M0 (Memo p0), .row vj2_3 uj2_3 3 1] w_) k ?_ ?_
    · refine a_nilrow (x := none) (T := 3) (sz := 1) ?_
      have hzrj2_3 : RepL (α := Int) Hb0_0 [] [] := RepL.nil
      intro a_ w_ ha_ hs_
      exact ⟨Hb0_0, (HLe.refl _), ([] : List Int), 0, .slice none 0 0, [], hm, hzrj2_3, ha_.weaken ⟨rfl, rfl, rfl, rfl, trivial⟩, hs_.reix [1, 0] (by decide)⟩
    rintro (_ | n_j2) a_ w_ ⟨Hj2, lj2, yj2_3, yj2_11, vj2_3, uj2_3, hm, hj2_3, ha_, hs_⟩
    · rw [tunnel_book_lost_lj2.eq_1] at hm; cases hm
    rw [tunnel_book_lost_lj2.eq_2] at hm
    refine a_start ha_ hs_ ?_
    have hb0_0 := PAt.mono lj2 hb0_0
    have hg := Glob.mono lj2 hg
    refine a_seq (a_region rfl ?_)
    refine ap (y_lss rfl rfl) ?_
    refine a_nil (a_then (a_seq ?_))
    refine a_cond rfl (fun k_3 => ?_) (fun k_3 => ?_)
    · have hm := cond_t k_3 hm
      refine a_skip (a_then (a_seq (a_block (a_seq (a_region rfl ?_)))))
      refine ap (y_move rfl) ?_
      refine ap (y_assign rfl) ?_
      refine a_nil ?_
      refine a_en [(1, .pointer (some ⟨b0_0, 0, none⟩)), (3, vj2_3), (4, .int .i64 yj2_11), (10, .int .i64 (p0.Frames.length : Int)), (11, .int .i64 yj2_11)] ?_
      refine a_then (a_seq (a_region rfl ?_))
      obtain ⟨u5_0, h5_0, c5_0⟩ := PAt.one hb0_0
      refine ap (y_load_cells ty110 rfl (fun _ h => h.sub) rfl c5_0 (Rp.len h5_0)) ?_
      refine ap (y_move rfl) ?_
      refine a_cons (e_buildSlice (xs := [.tmp 16]) (cs := [.int .i64 yj2_11]) trivial rfl Tryd.underlying26 ty3 rfl rfl rfl (by simp [Value.cells]) rfl (rfl) ?_)
      intro v5_2
      have h5_2 : RepL (α := Int) Hj2 ([.int .i64 yj2_11]) [yj2_11] := (RepL.cons (α := Int) (c := [.int .i64 yj2_11]) rfl (RepL.nil (α := Int)))
      refine a_frow (i := 0) rfl rfl h5_2 rfl ?_
      intro H5_3g1f l5_3g1f h5_3g1f
      have hb0_0 := PAt.mono l5_3g1f hb0_0
      have h5_0 := Rp.mono l5_3g1f h5_0
      have hj2_3 := RepL.mono l5_3g1f hj2_3
      have hg := Glob.mono l5_3g1f hg
      obtain ⟨x5_3, q5_3, hm⟩ := bind_some hm
      refine a_cons (e_callM (i := 1) (all := [.agg u5_0.toArray, v5_2]) trivial rfl Tryd.func96 rfl rfl rfl rfl rfl rfl (fun w hw ho hn => ok_96 hw h5_0 h5_3g1f hg ho hn q5_3) ?_)
      rintro _ H5_3 l5_3 ⟨c5_3r0, rfl, h5_3r0⟩
      have hb0_0 := PAt.mono l5_3 hb0_0
      have h5_0 := Rp.mono l5_3 h5_0
      have h5_3g1f := Sl.mono l5_3 h5_3g1f
      have hj2_3 := RepL.mono l5_3 hj2_3
      have hg := Glob.mono l5_3 hg
      refine ap (y_move rfl) ?_
      refine ap (y_extract rfl rfl) ?_
      refine ap (y_extract rfl rfl) ?_
      refine a_cons (e_alloc (cs := [.int .i64 0, .int .i64 0, .int .i64 0, .int .i64 0, .int .i64 0, .int .i64 0]) trivial rfl ty125 rfl ?_)
      intro b5_7
      have mz5_7 := z125 H5_3
      refine a_cons (e_storeWhole (i := 0) (ds := c5_3r0) trivial ty125 rfl rfl rfl rfl (Rp.len h5_3r0) ((Rp.one h5_3r0)) rfl ?_)
      refine ap (y_assign rfl) ?_
      refine a_nil ?_
      refine a_freeze (α := TunnelChoice) (x := x5_3.1) (i := 0) rfl h5_3r0 ?_
      intro Hb5_7 lb5_7 hb5_7
      have hb0_0 := PAt.mono lb5_7 hb0_0
      have h5_0 := Rp.mono lb5_7 h5_0
      have h5_3g1f := Sl.mono lb5_7 h5_3g1f
      have h5_3r0 := Rp.mono lb5_7 h5_3r0
      have hj2_3 := RepL.mono lb5_7 hj2_3
      have hg := Glob.mono lb5_7 hg
      refine a_en [(1, .pointer (some ⟨b0_0, 0, none⟩)), (3, vj2_3), (4, .int .i64 yj2_11), (6, .bool x5_3.2), (10, .int .i64 (p0.Frames.length : Int)), (11, .int .i64 yj2_11)] ?_
      refine a_own [2, 3] (by decide) (L' := [.blk M0 (Memo p0), .row vj2_3 uj2_3 3 1]) rfl ?_
      refine a_then (a_seq (a_region rfl ?_))
      refine ap (y_move rfl) ?_
      refine ap (y_not rfl) ?_
      refine a_nil ?_
      refine a_en [(1, .pointer (some ⟨b0_0, 0, none⟩)), (3, vj2_3), (4, .int .i64 yj2_11), (10, .int .i64 (p0.Frames.length : Int)), (11, .int .i64 yj2_11), (22, .bool (!x5_3.2))] ?_
      refine a_then ?_
      refine a_cond rfl (fun k_4 => ?_) (fun k_4 => ?_)
      · have hm := cond_t k_4 hm
        refine a_region rfl ?_
        refine ap (y_move rfl) ?_
        refine ap (y_move rfl) ?_
        refine a_cons (e_buildSlice (xs := [.tmp 24]) (cs := [.int .i64 yj2_11]) trivial rfl Tryd.underlying26 ty3 rfl rfl rfl (by simp [Value.cells]) rfl (rfl) ?_)
        intro v7_2
        have h7_2 : RepL (α := Int) Hb5_7 ([.int .i64 yj2_11]) [yj2_11] := (RepL.cons (α := Int) (c := [.int .i64 yj2_11]) rfl (RepL.nil (α := Int)))
        obtain ⟨x7_3, q7_3, hm⟩ := bind_some hm
        refine a_cons (e_app_row (i := 2) (j := 0) trivial rfl Tryd.underlying26 Tryd.underlying26 ty3 rfl rfl rfl rfl rfl rfl rfl rfl hj2_3 rfl h7_2 q7_3 ?_)
        intro v7_3 u7_3 h7_3
        refine ap (y_assign rfl) ?_
        refine a_nil ?_
        refine a_en [(1, .pointer (some ⟨b0_0, 0, none⟩)), (3, v7_3), (10, .int .i64 (p0.Frames.length : Int)), (11, .int .i64 yj2_11)] ?_
        refine a_own [1, 2] (by decide) (L' := [.blk M0 (Memo p0), .row v7_3 u7_3 3 1]) rfl ?_
        refine a_block_normal (a_then (a_region rfl ?_))
        refine ap (y_add rfl rfl) ?_
        refine ap (y_move rfl) ?_
        refine a_nil ?_
        refine a_en [(1, .pointer (some ⟨b0_0, 0, none⟩)), (3, v7_3), (10, .int .i64 (p0.Frames.length : Int)), (11, .int .i64 (IntKind.i64.wrap (yj2_11 + 1)))] ?_
        refine a_then ?_
        intro a_ w_ ha_ hs_
        exact ⟨n_j2, Nat.lt_succ_self _, Hb5_7, (lj2.trans (l5_3g1f.trans (l5_3.trans lb5_7))), x7_3, IntKind.i64.wrap (yj2_11 + 1), v7_3, u7_3, hm, h7_3, ha_.weaken ⟨rfl, rfl, rfl, rfl, trivial⟩, hs_.reix [0, 1] (by decide)⟩
      have hm := cond_f k_4 hm
      refine a_skip (a_block_normal (a_then (a_region rfl ?_)))
      refine ap (y_add rfl rfl) ?_
      refine ap (y_move rfl) ?_
      refine a_nil ?_
      refine a_en [(1, .pointer (some ⟨b0_0, 0, none⟩)), (3, vj2_3), (10, .int .i64 (p0.Frames.length : Int)), (11, .int .i64 (IntKind.i64.wrap (yj2_11 + 1)))] ?_
      refine a_then ?_
      intro a_ w_ ha_ hs_
      exact ⟨n_j2, Nat.lt_succ_self _, Hb5_7, (lj2.trans (l5_3g1f.trans (l5_3.trans lb5_7))), yj2_3, IntKind.i64.wrap (yj2_11 + 1), vj2_3, uj2_3, hm, hj2_3, ha_.weaken ⟨rfl, rfl, rfl, rfl, trivial⟩, hs_.reix [0, 1] (by decide)⟩
    have hm := cond_f k_3 hm
    refine a_exit (a_then_exit (a_then_exit (a_block_hit (a_cut ?_))))
    intro a_ w_ ha_ hs_
    exact ⟨Hj2, lj2, yj2_3, vj2_3, uj2_3, Option.some.inj hm, hj2_3, ha_.weaken ⟨rfl, trivial⟩, hs_.reix [0, 1] (by decide)⟩
  have hm := hm_j1
  rintro a_ w_ ⟨Hj1, lj1, yj1_3, vj1_3, uj1_3, rfl, hj1_3, ha_, hs_⟩
  try dsimp only at hm
  refine a_start ha_ hs_ ?_
  have hg := Glob.mono lj1 hg
  refine a_then (a_seq (a_region rfl ?_))
  refine ap (y_move rfl) ?_
  refine ap (y_move rfl) ?_
  refine ap (y_len_rowZ (i := 1) Tryd.underlying26 rfl rfl rfl hj1_3 rfl) ?_
  refine ap (y_move rfl) ?_
  refine ap (y_len_rowZ (i := 1) Tryd.underlying26 rfl rfl rfl hj1_3 rfl) ?_
  refine a_frow (i := 1) rfl rfl hj1_3 rfl ?_
  intro H9_5f l9_5f h9_5f
  have hg := Glob.mono l9_5f hg
  obtain ⟨x9_5, q9_5, hm⟩ := bind_some hm
  obtain ⟨v9_5, h9_5, r9_5⟩ := Sl.cut (k := .i64) (lo := none) (hi := (some (yj1_3.length : Int))) (mx := (some (yj1_3.length : Int))) h9_5f Tryd.underlying26 ty3 (fun _ => rfl) q9_5 (fun _ h => by cases h; exact ⟨Int.le_refl _, Int.le_refl _⟩)
  refine ap (y_slice (vlo := none) (vhi := (some (.int .i64 (yj1_3.length : Int)))) (vmx := (some (.int .i64 (yj1_3.length : Int)))) rfl rfl rfl rfl r9_5) ?_
  refine ap (y_assign rfl) ?_
  refine a_nil ?_
  refine a_en [(2, v9_5)] ?_
  refine a_own [0] (by decide) (L' := [.blk M0 (Memo p0)]) rfl ?_
  refine a_then (a_ret ?_)
  obtain rfl := Option.some.inj hm
  exact a_doneM (i := 0) (v := v9_5) (.inl rfl) rfl rfl (fun a_ w_ ha_ hs_ => run_results (P := Tryd.prog) (fn := Tryd.f100) (rs := [.tmp 2]) (vs := [v9_5]) rfl (.cons (rv_tmp ha_ rfl) (All2.nil))) ⟨v9_5, rfl, h9_5⟩

def tunnel_Clash_lj7 (k : Nat) (p0 : TunnelBook) (yj4_26 : Int) : Nat → Int → Option (Sum (Int × Int × Int) Unit)
 | 0, _ => none
 | n_j7 + 1, yj7_8 =>
 bif decide (yj7_8 < (p0.Frames.length : Int)) then
 (tunnel_book_best k p0 [yj4_26, yj7_8]).bind fun x13_4 =>
 bif !x13_4.2 then
 some (Sum.inl (yj4_26, yj7_8, 0))
 else
 tunnel_Clash_lj7 k p0 yj4_26 n_j7 (IntKind.i64.wrap (yj7_8 + 1))
 else
 some (Sum.inr ())
def tunnel_Clash_lj4 (k : Nat) (p0 : TunnelBook) : Nat → Int → Option (Sum (Int × Int × Int) Unit)
 | 0, _ => none
 | n_j4 + 1, yj4_26 =>
 bif decide (yj4_26 < (p0.Frames.length : Int)) then
 (tunnel_Clash_lj7 k p0 yj4_26 k (IntKind.i64.wrap (yj4_26 + 1))).bind fun o => (match o with
 | .inl r => some (Sum.inl r)
 | .inr _ =>
 tunnel_Clash_lj4 k p0 n_j4 (IntKind.i64.wrap (yj4_26 + 1)))
 else
 some (Sum.inr ())
def tunnel_Clash (k : Nat) (p0 : TunnelBook) : Option (Int × Int × Int) :=
 (tunnel_Check k p0).bind fun x1_1 =>
 bif x1_1 != 0 then
 some ((0, 0, x1_1))
 else
 (tunnel_book_lost k p0).bind fun x5_1 =>
 bif decide ((x5_1.length : Int) > 0) then
 some ((0, 0, 32))
 else
 (tunnel_Clash_lj4 k p0 k 0).bind fun o => (match o with
 | .inl r => some r
 | .inr _ =>
 some ((0, 0, 4)))
theorem ok_37 {k : Nat} {H : Hp} {w : World} {p0 : TunnelBook} {c0 : List Value} {r : Int × Int × Int} (hsub : Sub H w) (h0 : Rp.rep (α := TunnelBook) H c0 p0) (hg : Glob H) (hm : tunnel_Clash k p0 = some r) : Calls Tryd.prog 37 [.agg c0.toArray].toArray w (PostV w H (.tuple #[.int .i64 r.1, .int .i64 r.2.1, .int .i64 r.2.2])) := by
  unfold tunnel_Clash at hm
  refine start (n := 52) (E := [(0, .agg c0.toArray)]) Tryd.func37 rfl rfl ⟨rfl, trivial⟩ rfl hsub ?_
  refine a_seq (a_region rfl ?_)
  refine a_cons (e_box (cs := c0) trivial rfl rfl rfl ?_)
  intro b0_0
  refine ap (y_assign rfl) ?_
  refine ap (y_assign rfl) ?_
  refine ap (y_assign rfl) ?_
  refine a_nil ?_
  refine a_freeze (α := TunnelBook) (x := p0) (i := 0) rfl h0 ?_
  intro Hb0_0 lb0_0 hb0_0
  have h0 := Rp.mono lb0_0 h0
  have hg := Glob.mono lb0_0 hg
  refine a_en [(1, .pointer (some ⟨b0_0, 0, none⟩))] ?_
  refine a_own [] (by decide) (L' := []) rfl ?_
  refine a_then (a_seq (a_seq (a_region rfl ?_)))
  obtain ⟨u1_0, h1_0, c1_0⟩ := PAt.one hb0_0
  refine ap (y_load_cells ty25 rfl (fun _ h => h.sub) rfl c1_0 (Rp.len h1_0)) ?_
  obtain ⟨x1_1, q1_1, hm⟩ := bind_some hm
  refine a_cons (e_callV (all := [.agg u1_0.toArray]) (v := .int .i64 x1_1) trivial rfl Tryd.func21 rfl rfl rfl rfl rfl (fun w hw => ok_21 hw h1_0 q1_1) ?_)
  refine ap (y_assign rfl) ?_
  refine a_nil ?_
  refine a_en [(1, .pointer (some ⟨b0_0, 0, none⟩)), (5, .int .i64 x1_1)] ?_
  refine a_then (a_seq (a_region rfl ?_))
  refine ap (y_move rfl) ?_
  refine ap (y_neq rfl rfl) ?_
  refine a_nil ?_
  refine a_en [(1, .pointer (some ⟨b0_0, 0, none⟩)), (5, .int .i64 x1_1), (14, .bool (x1_1 != 0))] ?_
  refine a_then ?_
  refine a_cond rfl (fun k_1 => ?_) (fun k_1 => ?_)
  · have hm := cond_t k_1 hm
    refine a_seq (a_region rfl ?_)
    refine ap (y_move rfl) ?_
    refine ap (y_assign rfl) ?_
    refine ap (y_assign rfl) ?_
    refine ap (y_assign rfl) ?_
    refine a_nil ?_
    refine a_en [(2, .int .i64 0), (3, .int .i64 0), (4, .int .i64 x1_1)] ?_
    refine a_then (a_ret (a_then_ret ?_))
    refine a_done (v := .tuple #[.int .i64 0, .int .i64 0, .int .i64 x1_1]) (.inl rfl) rfl ?_ ?_
    · intro a_ w_ ha_ hs_; exact run_results (P := Tryd.prog) (fn := Tryd.f37) (rs := [.tmp 2, .tmp 3, .tmp 4]) (vs := [.int .i64 0, .int .i64 0, .int .i64 x1_1]) rfl (.cons (rv_tmp ha_ rfl) (.cons (rv_tmp ha_ rfl) (.cons (rv_tmp ha_ rfl) (All2.nil))))
    · intro _ _; obtain rfl := Option.some.inj hm
      rfl
  have hm := cond_f k_1 hm
  refine a_skip (a_then (a_seq (a_region rfl ?_)))
  obtain ⟨u4_0, h4_0, c4_0⟩ := PAt.one hb0_0
  refine ap (y_load_cells ty25 rfl (fun _ h => h.sub) rfl c4_0 (Rp.len h4_0)) ?_
  refine a_cons (e_callO (all := [.agg u4_0.toArray]) trivial rfl Tryd.func95 rfl rfl rfl rfl rfl (fun w hw => ok_95 hw h4_0 ) ?_)
  rintro _ H4_1 _ l4_1 ⟨M4_1, rfl, rfl⟩
  have hb0_0 := PAt.mono l4_1 hb0_0
  have h4_0 := Rp.mono l4_1 h4_0
  have hg := Glob.mono l4_1 hg
  have m4_1 : Rp.rep (α := Bk (some M4_1)) H4_1 (u4_0 ++ [Value.map (some M4_1)]) p0 := ⟨_, rfl, h4_0⟩
  refine a_cons (e_alloc (cs := [.slice none 0 0, .slice none 0 0, .map none]) trivial rfl ty110 rfl ?_)
  intro b4_2
  refine a_cons (e_storeWhole (i := 0) (ds := u4_0 ++ [Value.map (some M4_1)]) trivial ty110 rfl rfl rfl rfl (Rp.len m4_1) ((Rp.one m4_1)) rfl ?_)
  refine a_nil ?_
  refine a_freeze (α := Bk _) (x := p0) (i := 0) rfl m4_1 ?_
  intro Hb4_2 lb4_2 hb4_2
  have hb0_0 := PAt.mono lb4_2 hb0_0
  have h4_0 := Rp.mono lb4_2 h4_0
  have m4_1 := Rp.mono lb4_2 m4_1
  have hg := Glob.mono lb4_2 hg
  refine a_en [(6, .pointer (some ⟨b4_2, 0, none⟩))] ?_
  refine a_own [1] (by decide) (L' := [.blk M4_1 (Memo p0)]) rfl ?_
  refine a_then (a_seq (a_seq (a_region rfl ?_)))
  obtain ⟨u5_0, h5_0, c5_0⟩ := PAt.one hb4_2
  refine ap (y_load_cells ty110 rfl (fun _ h => h.sub) rfl c5_0 (Rp.len h5_0)) ?_
  obtain ⟨x5_1, q5_1, hm⟩ := bind_some hm
  refine a_cons (e_callM (i := 0) (all := [.agg u5_0.toArray]) trivial rfl Tryd.func100 rfl rfl rfl rfl rfl rfl (fun w hw ho hn => ok_100 hw h5_0 hg ho hn q5_1) ?_)
  rintro v5_1r0 H5_1 l5_1 ⟨_, rfl, h5_1r0⟩
  have hb4_2 := PAt.mono l5_1 hb4_2
  have h5_0 := Rp.mono l5_1 h5_0
  have hg := Glob.mono l5_1 hg
  refine ap (y_len_sl Tryd.underlying26 rfl h5_1r0) ?_
  refine ap (y_gtr rfl rfl) ?_
  refine a_nil ?_
  refine a_en [(6, .pointer (some ⟨b4_2, 0, none⟩)), (21, .bool (decide ((x5_1.length : Int) > 0)))] ?_
  refine a_then ?_
  refine a_cond rfl (fun k_2 => ?_) (fun k_2 => ?_)
  · have hm := cond_t k_2 hm
    refine a_seq (a_region rfl ?_)
    refine ap (y_assign rfl) ?_
    refine ap (y_assign rfl) ?_
    refine ap (y_assign rfl) ?_
    refine a_nil ?_
    refine a_en [(2, .int .i64 0), (3, .int .i64 0), (4, .int .i64 32)] ?_
    refine a_then (a_ret (a_then_ret ?_))
    refine a_done (v := .tuple #[.int .i64 0, .int .i64 0, .int .i64 32]) (.inl rfl) rfl ?_ ?_
    · intro a_ w_ ha_ hs_; exact run_results (P := Tryd.prog) (fn := Tryd.f37) (rs := [.tmp 2, .tmp 3, .tmp 4]) (vs := [.int .i64 0, .int .i64 0, .int .i64 32]) rfl (.cons (rv_tmp ha_ rfl) (.cons (rv_tmp ha_ rfl) (.cons (rv_tmp ha_ rfl) (All2.nil))))
    · intro _ _; obtain rfl := Option.some.inj hm
      rfl
  have hm := cond_f k_2 hm
  refine a_skip (a_then (a_seq (a_seq (a_region rfl ?_))))
  have h7_0 := Bk.at_b hb4_2
  refine ap (y_fieldAddr fo110_0 rfl) ?_
  have h7_1 := TunnelBook.at_Frames h7_0
  refine ap (y_fieldAddr fo25_1 rfl) ?_
  obtain ⟨v7_2, h7_2, c7_2⟩ := PAt.sl h7_1
  refine ap (y_load_one ty23 rfl (fun _ h => h.sub) rfl c7_2) ?_
  refine ap (y_len_sl Tryd.underlying23 rfl h7_2) ?_
  refine ap (y_move rfl) ?_
  refine a_nil ?_
  refine a_en [(6, .pointer (some ⟨b4_2, 0, none⟩)), (25, .int .i64 (p0.Frames.length : Int)), (26, .int .i64 0)] ?_
  refine a_then ?_
  obtain ⟨s_j3, hs_j3, hm_j3⟩ := bind_some hm
  refine a_join (fun a_ w_ => ∃ (Hj3 : Hp), ∃ (_ : HLe H5_1 Hj3), Sum.inr () = s_j3 ∧ Ag 52 [] [] a_ ∧ St (Kp.mk w H noX) Hj3 [.blk M4_1 (Memo p0)] w_) ?_ ?_
  · have hm := hs_j3
    refine a_block ?_
    refine a_loop (fun n_j4 a_ w_ => ∃ (Hj4 : Hp), ∃ (_ : HLe H5_1 Hj4), ∃ (yj4_26 : Int), tunnel_Clash_lj4 k p0 n_j4 yj4_26 = some s_j3 ∧ Ag 52 [] [(6, .pointer (some ⟨b4_2, 0, none⟩)), (25, .int .i64 (p0.Frames.length : Int)), (26, .int .i64 yj4_26)] a_ ∧ St (Kp.mk w H noX) Hj4 [.blk M4_1 (Memo p0)] w_) k ?_ ?_
    · intro a_ w_ ha_ hs_
      exact ⟨H5_1, (HLe.refl _), 0, hm, ha_.weaken ⟨rfl, rfl, rfl, trivial⟩, hs_.reix [0] (by decide)⟩
    rintro (_ | n_j4) a_ w_ ⟨Hj4, lj4, yj4_26, hm, ha_, hs_⟩
    · rw [tunnel_Clash_lj4.eq_1] at hm; cases hm
    rw [tunnel_Clash_lj4.eq_2] at hm
    refine a_start ha_ hs_ ?_
    have hb4_2 := PAt.mono lj4 hb4_2
    have hg := Glob.mono lj4 hg
    refine a_seq (a_region rfl ?_)
    refine ap (y_lss rfl rfl) ?_
    refine a_nil (a_then (a_seq ?_))
    refine a_cond rfl (fun k_5 => ?_) (fun k_5 => ?_)
    · have hm := cond_t k_5 hm
      refine a_skip (a_then (a_seq (a_block (a_seq (a_region rfl ?_)))))
      refine ap (y_move rfl) ?_
      refine ap (y_assign rfl) ?_
      refine a_nil ?_
      refine a_en [(6, .pointer (some ⟨b4_2, 0, none⟩)), (7, .int .i64 yj4_26), (25, .int .i64 (p0.Frames.length : Int)), (26, .int .i64 yj4_26)] ?_
      refine a_then (a_seq (a_region rfl ?_))
      refine ap (y_move rfl) ?_
      refine ap (y_add rfl rfl) ?_
      refine ap (y_assign rfl) ?_
      refine a_nil ?_
      refine a_en [(6, .pointer (some ⟨b4_2, 0, none⟩)), (7, .int .i64 yj4_26), (8, .int .i64 (IntKind.i64.wrap (yj4_26 + 1))), (25, .int .i64 (p0.Frames.length : Int)), (26, .int .i64 yj4_26)] ?_
      refine a_then ?_
      obtain ⟨s_j6, hs_j6, hm_j6⟩ := bind_some hm
      refine a_join (fun a_ w_ => ∃ (Hj6 : Hp), ∃ (_ : HLe Hj4 Hj6), Sum.inr () = s_j6 ∧ Ag 52 [] [(6, .pointer (some ⟨b4_2, 0, none⟩)), (25, .int .i64 (p0.Frames.length : Int)), (26, .int .i64 yj4_26)] a_ ∧ St (Kp.mk w H noX) Hj6 [.blk M4_1 (Memo p0)] w_) ?_ ?_
      · have hm := hs_j6
        refine a_block ?_
        refine a_loop (fun n_j7 a_ w_ => ∃ (Hj7 : Hp), ∃ (_ : HLe Hj4 Hj7), ∃ (yj7_8 : Int), tunnel_Clash_lj7 k p0 yj4_26 n_j7 yj7_8 = some s_j6 ∧ Ag 52 [] [(6, .pointer (some ⟨b4_2, 0, none⟩)), (7, .int .i64 yj4_26), (8, .int .i64 yj7_8), (25, .int .i64 (p0.Frames.length : Int)), (26, .int .i64 yj4_26)] a_ ∧ St (Kp.mk w H noX) Hj7 [.blk M4_1 (Memo p0)] w_) k ?_ ?_
        · intro a_ w_ ha_ hs_
          exact ⟨Hj4, (HLe.refl _), IntKind.i64.wrap (yj4_26 + 1), hm, ha_.weaken ⟨rfl, rfl, rfl, rfl, rfl, trivial⟩, hs_.reix [0] (by decide)⟩
        rintro (_ | n_j7) a_ w_ ⟨Hj7, lj7, yj7_8, hm, ha_, hs_⟩
        · rw [tunnel_Clash_lj7.eq_1] at hm; cases hm
        rw [tunnel_Clash_lj7.eq_2] at hm
        refine a_start ha_ hs_ ?_
        have hb4_2 := PAt.mono lj7 hb4_2
        have hg := Glob.mono lj7 hg
        refine a_seq (a_seq (a_region rfl ?_))
        refine ap (y_move rfl) ?_
        have h11_1 := Bk.at_b hb4_2
        refine ap (y_fieldAddr fo110_0 rfl) ?_
        have h11_2 := TunnelBook.at_Frames h11_1
        refine ap (y_fieldAddr fo25_1 rfl) ?_
        obtain ⟨v11_3, h11_3, c11_3⟩ := PAt.sl h11_2
        refine ap (y_load_one ty23 rfl (fun _ h => h.sub) rfl c11_3) ?_
        refine ap (y_len_sl Tryd.underlying23 rfl h11_3) ?_
        refine ap (y_lss rfl rfl) ?_
        refine a_nil ?_
        refine a_en [(6, .pointer (some ⟨b4_2, 0, none⟩)), (7, .int .i64 yj4_26), (8, .int .i64 yj7_8), (25, .int .i64 (p0.Frames.length : Int)), (26, .int .i64 yj4_26), (36, .bool (decide (yj7_8 < (p0.Frames.length : Int))))] ?_
        refine a_then ?_
        refine a_cond rfl (fun k_8 => ?_) (fun k_8 => ?_)
        · have hm := cond_t k_8 hm
          refine a_skip (a_then (a_seq (a_block (a_seq (a_region rfl ?_)))))
          obtain ⟨u13_0, h13_0, c13_0⟩ := PAt.one hb4_2
          refine ap (y_load_cells ty110 rfl (fun _ h => h.sub) rfl c13_0 (Rp.len h13_0)) ?_
          refine ap (y_move rfl) ?_
          refine ap (y_move rfl) ?_
          refine a_cons (e_buildSlice (xs := [.tmp 41, .tmp 42]) (cs := [.int .i64 yj4_26, .int .i64 yj7_8]) trivial rfl Tryd.underlying26 ty3 rfl rfl rfl (by simp [Value.cells]) rfl (rfl) ?_)
          intro v13_3
          have h13_3 : RepL (α := Int) Hj7 ([.int .i64 yj4_26, .int .i64 yj7_8]) [yj4_26, yj7_8] := (RepL.cons (α := Int) (c := [.int .i64 yj4_26]) rfl (RepL.cons (α := Int) (c := [.int .i64 yj7_8]) rfl (RepL.nil (α := Int))))
          refine a_frow (i := 0) rfl rfl h13_3 rfl ?_
          intro H13_4g1f l13_4g1f h13_4g1f
          have hb4_2 := PAt.mono l13_4g1f hb4_2
          have h13_0 := Rp.mono l13_4g1f h13_0
          have hg := Glob.mono l13_4g1f hg
          obtain ⟨x13_4, q13_4, hm⟩ := bind_some hm
          refine a_cons (e_callM (i := 1) (all := [.agg u13_0.toArray, v13_3]) trivial rfl Tryd.func96 rfl rfl rfl rfl rfl rfl (fun w hw ho hn => ok_96 hw h13_0 h13_4g1f hg ho hn q13_4) ?_)
          rintro _ H13_4 l13_4 ⟨c13_4r0, rfl, h13_4r0⟩
          have hb4_2 := PAt.mono l13_4 hb4_2
          have h13_0 := Rp.mono l13_4 h13_0
          have h13_4g1f := Sl.mono l13_4 h13_4g1f
          have hg := Glob.mono l13_4 hg
          refine ap (y_move rfl) ?_
          refine ap (y_extract rfl rfl) ?_
          refine ap (y_extract rfl rfl) ?_
          refine a_cons (e_alloc (cs := [.int .i64 0, .int .i64 0, .int .i64 0, .int .i64 0, .int .i64 0, .int .i64 0]) trivial rfl ty125 rfl ?_)
          intro b13_8
          have mz13_8 := z125 H13_4
          refine a_cons (e_storeWhole (i := 0) (ds := c13_4r0) trivial ty125 rfl rfl rfl rfl (Rp.len h13_4r0) ((Rp.one h13_4r0)) rfl ?_)
          refine ap (y_assign rfl) ?_
          refine a_nil ?_
          refine a_freeze (α := TunnelChoice) (x := x13_4.1) (i := 0) rfl h13_4r0 ?_
          intro Hb13_8 lb13_8 hb13_8
          have hb4_2 := PAt.mono lb13_8 hb4_2
          have h13_0 := Rp.mono lb13_8 h13_0
          have h13_4g1f := Sl.mono lb13_8 h13_4g1f
          have h13_4r0 := Rp.mono lb13_8 h13_4r0
          have hg := Glob.mono lb13_8 hg
          refine a_en [(6, .pointer (some ⟨b4_2, 0, none⟩)), (7, .int .i64 yj4_26), (8, .int .i64 yj7_8), (10, .bool x13_4.2), (25, .int .i64 (p0.Frames.length : Int)), (26, .int .i64 yj4_26)] ?_
          refine a_own [2] (by decide) (L' := [.blk M4_1 (Memo p0)]) rfl ?_
          refine a_then (a_seq (a_region rfl ?_))
          refine ap (y_move rfl) ?_
          refine ap (y_not rfl) ?_
          refine a_nil ?_
          refine a_en [(6, .pointer (some ⟨b4_2, 0, none⟩)), (7, .int .i64 yj4_26), (8, .int .i64 yj7_8), (25, .int .i64 (p0.Frames.length : Int)), (26, .int .i64 yj4_26), (48, .bool (!x13_4.2))] ?_
          refine a_then ?_
          refine a_cond rfl (fun k_9 => ?_) (fun k_9 => ?_)
          · have hm := cond_t k_9 hm
            refine a_seq (a_region rfl ?_)
            refine ap (y_move rfl) ?_
            refine ap (y_move rfl) ?_
            refine ap (y_assign rfl) ?_
            refine ap (y_assign rfl) ?_
            refine ap (y_assign rfl) ?_
            refine a_nil ?_
            refine a_en [(2, .int .i64 yj4_26), (3, .int .i64 yj7_8), (4, .int .i64 0)] ?_
            refine a_then (a_ret (a_block_ret (a_then_ret (a_then_ret (a_block_ret (a_cut_ret (a_block_ret (a_then_ret (a_then_ret (a_block_ret (a_cut_ret (a_then_ret ?_))))))))))))
            obtain rfl := Option.some.inj hm
            have hm := hm_j6
            try dsimp only at hm
            obtain rfl := Option.some.inj hm
            have hm := hm_j3
            try dsimp only at hm
            refine a_done (v := .tuple #[.int .i64 yj4_26, .int .i64 yj7_8, .int .i64 0]) (.inl rfl) rfl ?_ ?_
            · intro a_ w_ ha_ hs_; exact run_results (P := Tryd.prog) (fn := Tryd.f37) (rs := [.tmp 2, .tmp 3, .tmp 4]) (vs := [.int .i64 yj4_26, .int .i64 yj7_8, .int .i64 0]) rfl (.cons (rv_tmp ha_ rfl) (.cons (rv_tmp ha_ rfl) (.cons (rv_tmp ha_ rfl) (All2.nil))))
            · intro _ _; obtain rfl := Option.some.inj hm
              rfl
          have hm := cond_f k_9 hm
          refine a_skip (a_block_normal (a_then (a_region rfl ?_)))
          refine ap (y_move rfl) ?_
          refine ap (y_add rfl rfl) ?_
          refine ap (y_assign rfl) ?_
          refine a_nil ?_
          refine a_en [(6, .pointer (some ⟨b4_2, 0, none⟩)), (7, .int .i64 yj4_26), (8, .int .i64 (IntKind.i64.wrap (yj7_8 + 1))), (25, .int .i64 (p0.Frames.length : Int)), (26, .int .i64 yj4_26)] ?_
          refine a_then ?_
          intro a_ w_ ha_ hs_
          exact ⟨n_j7, Nat.lt_succ_self _, Hb13_8, (lj7.trans (l13_4g1f.trans (l13_4.trans lb13_8))), IntKind.i64.wrap (yj7_8 + 1), hm, ha_.weaken ⟨rfl, rfl, rfl, rfl, rfl, trivial⟩, hs_.reix [0] (by decide)⟩
        have hm := cond_f k_8 hm
        refine a_exit (a_then_exit (a_then_exit (a_block_hit (a_cut ?_))))
        intro a_ w_ ha_ hs_
        exact ⟨Hj7, lj7, Option.some.inj hm, ha_.weaken ⟨rfl, rfl, rfl, trivial⟩, hs_.reix [0] (by decide)⟩
      have hm := hm_j6
      rintro a_ w_ ⟨Hj6, lj6, rfl, ha_, hs_⟩
      try dsimp only at hm
      refine a_start ha_ hs_ ?_
      have hb4_2 := PAt.mono lj6 hb4_2
      have hg := Glob.mono lj6 hg
      refine a_block_normal (a_then (a_region rfl ?_))
      refine ap (y_add rfl rfl) ?_
      refine ap (y_move rfl) ?_
      refine a_nil ?_
      refine a_en [(6, .pointer (some ⟨b4_2, 0, none⟩)), (25, .int .i64 (p0.Frames.length : Int)), (26, .int .i64 (IntKind.i64.wrap (yj4_26 + 1)))] ?_
      refine a_then ?_
      intro a_ w_ ha_ hs_
      exact ⟨n_j4, Nat.lt_succ_self _, Hj6, (lj4.trans lj6), IntKind.i64.wrap (yj4_26 + 1), hm, ha_.weaken ⟨rfl, rfl, rfl, trivial⟩, hs_.reix [0] (by decide)⟩
    have hm := cond_f k_5 hm
    refine a_exit (a_then_exit (a_then_exit (a_block_hit (a_cut ?_))))
    intro a_ w_ ha_ hs_
    exact ⟨Hj4, lj4, Option.some.inj hm, ha_.weaken trivial, hs_.reix [0] (by decide)⟩
  have hm := hm_j3
  rintro a_ w_ ⟨Hj3, lj3, rfl, ha_, hs_⟩
  try dsimp only at hm
  refine a_start ha_ hs_ ?_
  have hg := Glob.mono lj3 hg
  refine a_then (a_seq (a_region rfl ?_))
  refine ap (y_assign rfl) ?_
  refine ap (y_assign rfl) ?_
  refine ap (y_assign rfl) ?_
  refine a_nil (a_then (a_ret ?_))
  refine a_done (v := .tuple #[.int .i64 0, .int .i64 0, .int .i64 4]) (.inl rfl) rfl ?_ ?_
  · intro a_ w_ ha_ hs_; exact run_results (P := Tryd.prog) (fn := Tryd.f37) (rs := [.tmp 2, .tmp 3, .tmp 4]) (vs := [.int .i64 0, .int .i64 0, .int .i64 4]) rfl (.cons (rv_tmp ha_ rfl) (.cons (rv_tmp ha_ rfl) (.cons (rv_tmp ha_ rfl) (All2.nil))))
  · intro _ _; obtain rfl := Option.some.inj hm
    rfl

def tunnel_isPart (k : Nat) (p0 : TunnelBook) (p1 : Int) : Option Bool :=
 (tunnel_in k p1 0 (IntKind.i64.wrap ((p0.Parts.length : Int) - 1))).bind fun x1_5 =>
 some (x1_5)
theorem ok_103 {k : Nat} {H : Hp} {w : World} {p0 : TunnelBook} {p1 : Int} {c0 : List Value} {r : Bool} (hsub : Sub H w) (h0 : Rp.rep (α := TunnelBook) H c0 p0) (hm : tunnel_isPart k p0 p1 = some r) : Calls Tryd.prog 103 [.agg c0.toArray, .int .i64 p1].toArray w (PostV w H (.bool r)) := by
  unfold tunnel_isPart at hm
  refine start (n := 11) (E := [(0, .agg c0.toArray), (1, .int .i64 p1)]) Tryd.func103 rfl rfl ⟨rfl, rfl, trivial⟩ rfl hsub ?_
  refine a_seq (a_region rfl ?_)
  refine a_cons (e_box (cs := c0) trivial rfl rfl rfl ?_)
  intro b0_0
  refine ap (y_assign rfl) ?_
  refine a_nil ?_
  refine a_freeze (α := TunnelBook) (x := p0) (i := 0) rfl h0 ?_
  intro Hb0_0 lb0_0 hb0_0
  have h0 := Rp.mono lb0_0 h0
  refine a_en [(1, .int .i64 p1), (2, .pointer (some ⟨b0_0, 0, none⟩))] ?_
  refine a_own [] (by decide) (L' := []) rfl ?_
  refine a_then (a_seq (a_region rfl ?_))
  refine ap (y_move rfl) ?_
  have h1_1 := TunnelBook.at_Parts hb0_0
  refine ap (y_fieldAddr fo25_0 rfl) ?_
  obtain ⟨v1_2, h1_2, c1_2⟩ := PAt.sl h1_1
  refine ap (y_load_one ty22 rfl (fun _ h => h.sub) rfl c1_2) ?_
  refine ap (y_len_sl Tryd.underlying22 rfl h1_2) ?_
  refine ap (y_sub rfl rfl) ?_
  obtain ⟨x1_5, q1_5, hm⟩ := bind_some hm
  refine a_cons (e_callV (all := [.int .i64 p1, .int .i64 0, .int .i64 (IntKind.i64.wrap ((p0.Parts.length : Int) - 1))]) (v := .bool x1_5) trivial rfl Tryd.func85 rfl rfl rfl rfl rfl (fun w hw => ok_85 hw q1_5) ?_)
  refine ap (y_assign rfl) ?_
  refine a_nil ?_
  refine a_en [(4, .bool x1_5)] ?_
  refine a_then (a_ret ?_)
  refine a_done (v := .bool x1_5) (.inl rfl) rfl ?_ ?_
  · intro a_ w_ ha_ hs_; exact run_results (P := Tryd.prog) (fn := Tryd.f103) (rs := [.tmp 4]) (vs := [.bool x1_5]) rfl (.cons (rv_tmp ha_ rfl) (All2.nil))
  · intro _ _; obtain rfl := Option.some.inj hm
    rfl

def tunnel_Longer_lj3 (k : Nat) (p0 : TunnelBook) (p2 : Int) (p3 : Int) (x1_10 : TunnelBook × (List Int) × Int) : Nat → Int → Option (Sum (Int × Int) Unit)
 | 0, _ => none
 | n_j3 + 1, yj3_13 =>
 bif decide (yj3_13 > 0) then
 (app [] p0.Frames).bind fun x10_2 =>
 (nth p0.Frames p2).bind fun x11_6 =>
 (app [] x11_6.Stay).bind fun x11_9 =>
 (nth x10_2 p2).bind fun x11_10 =>
 (nth x10_2 p2).bind fun x12_3 =>
 (nth x11_9 p3).bind fun x12_7 =>
 (nth x11_9 p3).bind fun x12_11 =>
 (tunnel_book_isDry k ((⟨p0.Parts, (x10_2).set (p2).toNat ((⟨(x11_9).set (p3).toNat (IntKind.i64.wrap (x12_7 + yj3_13)), x11_10.Need⟩ : TunnelFrame))⟩ : TunnelBook)) (⟨p2, x1_10.2.1⟩ : TunnelDrying)).bind fun x13_5 =>
 bif x13_5 then
 some (Sum.inl (yj3_13, 0))
 else
 tunnel_Longer_lj3 k p0 p2 p3 x1_10 n_j3 (IntKind.i64.wrap (yj3_13 - 1))
 else
 some (Sum.inr ())
def tunnel_Longer (k : Nat) (p0 : TunnelBook) (p1 : List Int) (p2 : Int) (p3 : Int) : Option (Int × Int) :=
 (tunnel_isFrame k p0 p2).bind fun x1_4 =>
 bif x1_4 then
 (tunnel_isPart k p0 p3).bind fun x1_8 =>
 (tunnel_asked k p0 p1 x1_8).bind fun x1_10 =>
 bif x1_10.2.2 != 0 then
 some ((0, x1_10.2.2))
 else
 (tunnel_book_isDry k x1_10.1 (⟨p2, x1_10.2.1⟩ : TunnelDrying)).bind fun x4_4 =>
 bif !x4_4 then
 some ((0, 4))
 else
 (nth p0.Frames p2).bind fun x6_3 =>
 (nth x6_3.Stay p3).bind fun x6_7 =>
 (tunnel_Longer_lj3 k p0 p2 p3 x1_10 k (IntKind.i64.wrap (20 - x6_7))).bind fun o => (match o with
 | .inl r => some r
 | .inr _ =>
 some ((0, 0)))
 else
 (tunnel_asked k p0 p1 false).bind fun x1_10 =>
 bif x1_10.2.2 != 0 then
 some ((0, x1_10.2.2))
 else
 none
theorem ok_39 {k : Nat} {H : Hp} {w : World} {p0 : TunnelBook} {p1 : List Int} {p2 : Int} {p3 : Int} {c0 : List Value} {v1 : Value} {r : Int × Int} (hsub : Sub H w) (h0 : Rp.rep (α := TunnelBook) H c0 p0) (h1 : Sl (α := Int) H v1 p1) (hg : Glob H) (hm : tunnel_Longer k p0 p1 p2 p3 = some r) : Calls Tryd.prog 39 [.agg c0.toArray, v1, .int .i64 p2, .int .i64 p3].toArray w (PostV w H (.tuple #[.int .i64 r.1, .int .i64 r.2])) := by
  unfold tunnel_Longer at hm
  refine start (n := 89) (E := [(0, .agg c0.toArray), (1, v1), (2, .int .i64 p2), (3, .int .i64 p3)]) Tryd.func39 rfl rfl ⟨rfl, rfl, rfl, rfl, trivial⟩ rfl hsub ?_
  refine a_seq (a_region rfl ?_)
  refine a_cons (e_box (cs := c0) trivial rfl rfl rfl ?_)
  intro b0_0
  refine ap (y_assign rfl) ?_
  refine ap (y_assign rfl) ?_
  refine a_nil ?_
  refine a_freeze (α := TunnelBook) (x := p0) (i := 0) rfl h0 ?_
  intro Hb0_0 lb0_0 hb0_0
  have h0 := Rp.mono lb0_0 h0
  have h1 := Sl.mono lb0_0 h1
  have hg := Glob.mono lb0_0 hg
  refine a_en [(1, v1), (2, .int .i64 p2), (3, .int .i64 p3), (4, .pointer (some ⟨b0_0, 0, none⟩))] ?_
  refine a_own [] (by decide) (L' := []) rfl ?_
  refine a_then (a_seq ?_)
  obtain ⟨x1_4, q1_4, hm⟩ := bind_some hm
  rcases Bool.eq_false_or_eq_true (x1_4) with k1_6 | k1_6
  · have hm := cond_t k1_6 hm
    obtain ⟨x1_8, q1_8, hm⟩ := bind_some hm
    obtain ⟨x1_10, q1_10, hm⟩ := bind_some hm
    rcases Bool.eq_false_or_eq_true (x1_10.2.2 != 0) with k1_10 | k1_10
    · have hm := cond_t k1_10 hm
      refine d_region (S := Sw Hb0_0 []) (n := 20) (listed := (bits 20 0)) mixed (by kernel_rfl) rfl (by kernel_rfl) ?_
      refine d_abs fun U1 hU1 => ?_
      have N1_0 (Hn1_10 : Hp) (ln1_10 : HLe Hb0_0 Hn1_10) (b1_15 : Nat) (b1_16 : Nat) (cb1_10 : List Value) (cs1_10 : List Value) (hb1_10 : Rp.rep (α := Bk none) Hn1_10 cb1_10 x1_10.1) (hc1_10 : Rp.rep (α := Arr 4 Int) Hn1_10 cs1_10 x1_10.2.1) : At 89 [] (Kp.mk w H noX) [(2, .int .i64 p2), (3, .int .i64 p3), (4, .pointer (some ⟨b0_0, 0, none⟩)), (10, .pointer (some ⟨b1_15, 0, none⟩)), (11, .pointer (some ⟨b1_16, 0, none⟩)), (29, .int .i64 x1_10.2.2)] Hn1_10 [.box b1_15 cb1_10 110, .box b1_16 cs1_10 111] (U1 (Sw Hn1_10 []) 1 (bits 20 524287)) := by
        refine d_fwd hU1 ?_
        have hb0_0 := PAt.mono ln1_10 hb0_0
        have hg := Glob.mono ln1_10 hg
        refine dt 19 1048575 rfl trivial (y_assign rfl) (sw0 []) ?_
        refine d_done (by kernel_rfl) ?_
        refine a_freeze (α := Bk _) (x := x1_10.1) (i := 0) rfl hb1_10 ?_
        intro Hb1_15 lb1_15 hb1_15
        have hb0_0 := PAt.mono lb1_15 hb0_0
        have hc1_10 := Rp.mono lb1_15 hc1_10
        have hg := Glob.mono lb1_15 hg
        refine a_freeze (α := Arr 4 Int) (x := x1_10.2.1) (i := 1) rfl hc1_10 ?_
        intro Hb1_16 lb1_16 hb1_16
        have hb0_0 := PAt.mono lb1_16 hb0_0
        have hb1_15 := PAt.mono lb1_16 hb1_15
        have hg := Glob.mono lb1_16 hg
        refine a_en [(2, .int .i64 p2), (3, .int .i64 p3), (4, .pointer (some ⟨b0_0, 0, none⟩)), (10, .pointer (some ⟨b1_15, 0, none⟩)), (11, .pointer (some ⟨b1_16, 0, none⟩)), (12, .int .i64 x1_10.2.2)] ?_
        refine a_own [] (by decide) (L' := []) rfl ?_
        refine a_then (a_seq (a_seq (a_region rfl ?_)))
        refine ap (y_move rfl) ?_
        refine ap (y_neq rfl rfl) ?_
        refine a_nil ?_
        refine a_en [(2, .int .i64 p2), (3, .int .i64 p3), (4, .pointer (some ⟨b0_0, 0, none⟩)), (10, .pointer (some ⟨b1_15, 0, none⟩)), (11, .pointer (some ⟨b1_16, 0, none⟩)), (12, .int .i64 x1_10.2.2), (31, .bool (x1_10.2.2 != 0))] ?_
        refine a_then ?_
        refine a_cond rfl (fun _ => ?_) (fun h_ => absurd (h_.symm.trans k1_10) (by decide))
        refine a_seq (a_region rfl ?_)
        refine ap (y_move rfl) ?_
        refine ap (y_assign rfl) ?_
        refine ap (y_assign rfl) ?_
        refine a_nil ?_
        refine a_en [(8, .int .i64 0), (9, .int .i64 x1_10.2.2)] ?_
        refine a_then (a_ret (a_then_ret ?_))
        refine a_done (v := .tuple #[.int .i64 0, .int .i64 x1_10.2.2]) (.inl rfl) rfl ?_ ?_
        · intro a_ w_ ha_ hs_; exact run_results (P := Tryd.prog) (fn := Tryd.f39) (rs := [.tmp 8, .tmp 9]) (vs := [.int .i64 0, .int .i64 x1_10.2.2]) rfl (.cons (rv_tmp ha_ rfl) (.cons (rv_tmp ha_ rfl) (All2.nil)))
        · intro _ _; obtain rfl := Option.some.inj hm
          rfl
      have N1_1 (Hn1_9 : Hp) (ln1_9 : HLe Hb0_0 Hn1_9) (b1_15 : Nat) (b1_16 : Nat) (cs1_10 : List Value) (cb1_10 : List Value) (hc1_10 : Rp.rep (α := Arr 4 Int) Hn1_9 cs1_10 x1_10.2.1) (hb1_10 : Rp.rep (α := Bk none) Hn1_9 cb1_10 x1_10.1) (mz1_16 : Rp.rep (α := Arr 4 Int) Hn1_9 [.int .i64 0, .int .i64 0, .int .i64 0, .int .i64 0] [0, 0, 0, 0]) : At 89 [] (Kp.mk w H noX) [(2, .int .i64 p2), (3, .int .i64 p3), (4, .pointer (some ⟨b0_0, 0, none⟩)), (10, .pointer (some ⟨b1_15, 0, none⟩)), (11, .pointer (some ⟨b1_16, 0, none⟩)), (28, .agg cs1_10.toArray), (29, .int .i64 x1_10.2.2)] Hn1_9 ([.box b1_15 cb1_10 110, .box b1_16 [.int .i64 0, .int .i64 0, .int .i64 0, .int .i64 0] 111]) (U1 (Sw Hn1_9 []) 2 (bits 20 262143)) := by
        refine d_fwd hU1 ?_
        have hb0_0 := PAt.mono ln1_9 hb0_0
        have hg := Glob.mono ln1_9 hg
        refine d1 18 rfl (e_storeWhole (i := 1) (ds := cs1_10) trivial ty111 rfl rfl rfl rfl (Rp.len hc1_10) ((Rp.one hc1_10)) rfl ?_)
        refine dn 524287 (sw0 []) ?_
        exact d_edge hU1 (N1_0 Hn1_9 ln1_9 b1_15 b1_16 cb1_10 cs1_10 hb1_10 hc1_10) ⟨rfl, rfl, rfl, rfl, rfl, rfl, trivial⟩ [0, 1] (by decide) rfl (fun _ h => h)
      have N1_2 (Hn1_15 : Hp) (ln1_15 : HLe Hb0_0 Hn1_15) (b1_15 : Nat) (b1_16 : Nat) (cb1_10 : List Value) (cs1_10 : List Value) (hb1_10 : Rp.rep (α := Bk none) Hn1_15 cb1_10 x1_10.1) (hc1_10 : Rp.rep (α := Arr 4 Int) Hn1_15 cs1_10 x1_10.2.1) (mz1_16 : Rp.rep (α := Arr 4 Int) Hn1_15 [.int .i64 0, .int .i64 0, .int .i64 0, .int .i64 0] [0, 0, 0, 0]) : At 89 [] (Kp.mk w H noX) [(2, .int .i64 p2), (3, .int .i64 p3), (4, .pointer (some ⟨b0_0, 0, none⟩)), (10, .pointer (some ⟨b1_15, 0, none⟩)), (11, .pointer (some ⟨b1_16, 0, none⟩)), (27, .agg cb1_10.toArray), (28, .agg cs1_10.toArray), (29, .int .i64 x1_10.2.2)] Hn1_15 ([.box b1_15 [.slice none 0 0, .slice none 0 0, .map none] 110, .box b1_16 [.int .i64 0, .int .i64 0, .int .i64 0, .int .i64 0] 111]) (U1 (Sw Hn1_15 []) 3 (bits 20 131071)) := by
        refine d_fwd hU1 ?_
        have hb0_0 := PAt.mono ln1_15 hb0_0
        have hg := Glob.mono ln1_15 hg
        refine d1 17 rfl (e_storeWhole (i := 0) (ds := cb1_10) trivial ty110 rfl rfl rfl rfl (Rp.len hb1_10) ((Rp.one hb1_10)) rfl ?_)
        refine dn 262143 (sw0 []) ?_
        exact d_edge hU1 (N1_1 Hn1_15 ln1_15 b1_15 b1_16 cs1_10 cb1_10 hc1_10 hb1_10 mz1_16) ⟨rfl, rfl, rfl, rfl, rfl, rfl, rfl, trivial⟩ [0, 1] (by decide) rfl (fun _ h => h)
      have N1_3 (Hn1_25 : Hp) (ln1_25 : HLe Hb0_0 Hn1_25) (b1_15 : Nat) (cb1_10 : List Value) (cs1_10 : List Value) (hb1_10 : Rp.rep (α := Bk none) Hn1_25 cb1_10 x1_10.1) (hc1_10 : Rp.rep (α := Arr 4 Int) Hn1_25 cs1_10 x1_10.2.1) : At 89 [] (Kp.mk w H noX) [(2, .int .i64 p2), (3, .int .i64 p3), (4, .pointer (some ⟨b0_0, 0, none⟩)), (10, .pointer (some ⟨b1_15, 0, none⟩)), (27, .agg cb1_10.toArray), (28, .agg cs1_10.toArray), (29, .int .i64 x1_10.2.2)] Hn1_25 ([.box b1_15 [.slice none 0 0, .slice none 0 0, .map none] 110]) (U1 (Sw Hn1_25 []) 4 (bits 20 65535)) := by
        refine d_fwd hU1 ?_
        have hb0_0 := PAt.mono ln1_25 hb0_0
        have hg := Glob.mono ln1_25 hg
        refine d1 16 rfl (e_alloc (cs := [.int .i64 0, .int .i64 0, .int .i64 0, .int .i64 0]) trivial rfl ty111 rfl ?_)
        intro b1_16
        have mz1_16 := z111 Hn1_25
        refine dn 131071 (sw0 []) ?_
        exact d_edge hU1 (N1_2 Hn1_25 ln1_25 b1_15 b1_16 cb1_10 cs1_10 hb1_10 hc1_10 mz1_16) ⟨rfl, rfl, rfl, rfl, rfl, rfl, rfl, rfl, trivial⟩ [1, 0] (by decide) rfl (fun _ h => h)
      have N1_4 (Hn1_26 : Hp) (ln1_26 : HLe Hb0_0 Hn1_26) (b1_16 : Nat) (cb1_10 : List Value) (cs1_10 : List Value) (hb1_10 : Rp.rep (α := Bk none) Hn1_26 cb1_10 x1_10.1) (hc1_10 : Rp.rep (α := Arr 4 Int) Hn1_26 cs1_10 x1_10.2.1) (mz1_16 : Rp.rep (α := Arr 4 Int) Hn1_26 [.int .i64 0, .int .i64 0, .int .i64 0, .int .i64 0] [0, 0, 0, 0]) : At 89 [] (Kp.mk w H noX) [(2, .int .i64 p2), (3, .int .i64 p3), (4, .pointer (some ⟨b0_0, 0, none⟩)), (11, .pointer (some ⟨b1_16, 0, none⟩)), (27, .agg cb1_10.toArray), (28, .agg cs1_10.toArray), (29, .int .i64 x1_10.2.2)] Hn1_26 ([.box b1_16 [.int .i64 0, .int .i64 0, .int .i64 0, .int .i64 0] 111]) (U1 (Sw Hn1_26 []) 4 (bits 20 98303)) := by
        refine d_fwd hU1 ?_
        have hb0_0 := PAt.mono ln1_26 hb0_0
        have hg := Glob.mono ln1_26 hg
        refine d1 15 rfl (e_alloc (cs := [.slice none 0 0, .slice none 0 0, .map none]) trivial rfl ty110 rfl ?_)
        intro b1_15
        refine dn 131071 (sw0 []) ?_
        exact d_edge hU1 (N1_2 Hn1_26 ln1_26 b1_15 b1_16 cb1_10 cs1_10 hb1_10 hc1_10 mz1_16) ⟨rfl, rfl, rfl, rfl, rfl, rfl, rfl, rfl, trivial⟩ [0, 1] (by decide) rfl (fun _ h => h)
      have N1_5 (Hn1_8 : Hp) (ln1_8 : HLe Hb0_0 Hn1_8) (b1_15 : Nat) (b1_16 : Nat) (cb1_10 : List Value) (cs1_10 : List Value) (hb1_10 : Rp.rep (α := Bk none) Hn1_8 cb1_10 x1_10.1) (hc1_10 : Rp.rep (α := Arr 4 Int) Hn1_8 cs1_10 x1_10.2.1) (mz1_16 : Rp.rep (α := Arr 4 Int) Hn1_8 [.int .i64 0, .int .i64 0, .int .i64 0, .int .i64 0] [0, 0, 0, 0]) : At 89 [] (Kp.mk w H noX) [(2, .int .i64 p2), (3, .int .i64 p3), (4, .pointer (some ⟨b0_0, 0, none⟩)), (10, .pointer (some ⟨b1_15, 0, none⟩)), (11, .pointer (some ⟨b1_16, 0, none⟩)), (26, .tuple #[.agg cb1_10.toArray, .agg cs1_10.toArray, .int .i64 x1_10.2.2])] Hn1_8 ([.box b1_15 [.slice none 0 0, .slice none 0 0, .map none] 110, .box b1_16 [.int .i64 0, .int .i64 0, .int .i64 0, .int .i64 0] 111]) (U1 (Sw Hn1_8 []) 7 (bits 20 100351)) := by
        refine d_fwd hU1 ?_
        have hb0_0 := PAt.mono ln1_8 hb0_0
        have hg := Glob.mono ln1_8 hg
        refine dt 11 102399 rfl trivial (y_move rfl) (sw0 []) ?_
        refine dt 12 106495 rfl trivial (y_extract rfl rfl) (sw0 []) ?_
        refine dt 13 114687 rfl trivial (y_extract rfl rfl) (sw0 []) ?_
        refine dt 14 131071 rfl trivial (y_extract rfl rfl) (sw0 []) ?_
        refine d1 17 rfl (e_storeWhole (i := 0) (ds := cb1_10) trivial ty110 rfl rfl rfl rfl (Rp.len hb1_10) ((Rp.one hb1_10)) rfl ?_)
        refine dn 262143 (sw0 []) ?_
        exact d_edge hU1 (N1_1 Hn1_8 ln1_8 b1_15 b1_16 cs1_10 cb1_10 hc1_10 hb1_10 mz1_16) ⟨rfl, rfl, rfl, rfl, rfl, rfl, rfl, trivial⟩ [0, 1] (by decide) rfl (fun _ h => h)
      have N1_6 (Hn1_18 : Hp) (ln1_18 : HLe Hb0_0 Hn1_18) (b1_15 : Nat) (cb1_10 : List Value) (cs1_10 : List Value) (hb1_10 : Rp.rep (α := Bk none) Hn1_18 cb1_10 x1_10.1) (hc1_10 : Rp.rep (α := Arr 4 Int) Hn1_18 cs1_10 x1_10.2.1) : At 89 [] (Kp.mk w H noX) [(2, .int .i64 p2), (3, .int .i64 p3), (4, .pointer (some ⟨b0_0, 0, none⟩)), (10, .pointer (some ⟨b1_15, 0, none⟩)), (26, .tuple #[.agg cb1_10.toArray, .agg cs1_10.toArray, .int .i64 x1_10.2.2])] Hn1_18 ([.box b1_15 [.slice none 0 0, .slice none 0 0, .map none] 110]) (U1 (Sw Hn1_18 []) 8 (bits 20 34815)) := by
        refine d_fwd hU1 ?_
        have hb0_0 := PAt.mono ln1_18 hb0_0
        have hg := Glob.mono ln1_18 hg
        refine dt 11 36863 rfl trivial (y_move rfl) (sw0 []) ?_
        refine dt 12 40959 rfl trivial (y_extract rfl rfl) (sw0 []) ?_
        refine dt 13 49151 rfl trivial (y_extract rfl rfl) (sw0 []) ?_
        refine dt 14 65535 rfl trivial (y_extract rfl rfl) (sw0 []) ?_
        refine d1 16 rfl (e_alloc (cs := [.int .i64 0, .int .i64 0, .int .i64 0, .int .i64 0]) trivial rfl ty111 rfl ?_)
        intro b1_16
        have mz1_16 := z111 Hn1_18
        refine dn 131071 (sw0 []) ?_
        exact d_edge hU1 (N1_2 Hn1_18 ln1_18 b1_15 b1_16 cb1_10 cs1_10 hb1_10 hc1_10 mz1_16) ⟨rfl, rfl, rfl, rfl, rfl, rfl, rfl, rfl, trivial⟩ [1, 0] (by decide) rfl (fun _ h => h)
      have N1_7 (Hn1_13 : Hp) (ln1_13 : HLe Hb0_0 Hn1_13) (b1_16 : Nat) (cb1_10 : List Value) (cs1_10 : List Value) (hb1_10 : Rp.rep (α := Bk none) Hn1_13 cb1_10 x1_10.1) (hc1_10 : Rp.rep (α := Arr 4 Int) Hn1_13 cs1_10 x1_10.2.1) (mz1_16 : Rp.rep (α := Arr 4 Int) Hn1_13 [.int .i64 0, .int .i64 0, .int .i64 0, .int .i64 0] [0, 0, 0, 0]) : At 89 [] (Kp.mk w H noX) [(2, .int .i64 p2), (3, .int .i64 p3), (4, .pointer (some ⟨b0_0, 0, none⟩)), (11, .pointer (some ⟨b1_16, 0, none⟩)), (26, .tuple #[.agg cb1_10.toArray, .agg cs1_10.toArray, .int .i64 x1_10.2.2])] Hn1_13 ([.box b1_16 [.int .i64 0, .int .i64 0, .int .i64 0, .int .i64 0] 111]) (U1 (Sw Hn1_13 []) 8 (bits 20 67583)) := by
        refine d_fwd hU1 ?_
        have hb0_0 := PAt.mono ln1_13 hb0_0
        have hg := Glob.mono ln1_13 hg
        refine dt 11 69631 rfl trivial (y_move rfl) (sw0 []) ?_
        refine dt 12 73727 rfl trivial (y_extract rfl rfl) (sw0 []) ?_
        refine dt 13 81919 rfl trivial (y_extract rfl rfl) (sw0 []) ?_
        refine dt 14 98303 rfl trivial (y_extract rfl rfl) (sw0 []) ?_
        refine d1 15 rfl (e_alloc (cs := [.slice none 0 0, .slice none 0 0, .map none]) trivial rfl ty110 rfl ?_)
        intro b1_15
        refine dn 131071 (sw0 []) ?_
        exact d_edge hU1 (N1_2 Hn1_13 ln1_13 b1_15 b1_16 cb1_10 cs1_10 hb1_10 hc1_10 mz1_16) ⟨rfl, rfl, rfl, rfl, rfl, rfl, rfl, rfl, trivial⟩ [0, 1] (by decide) rfl (fun _ h => h)
      have N1_8 (Hn1_14 : Hp) (ln1_14 : HLe Hb0_0 Hn1_14) (b1_15 : Nat) (b1_16 : Nat) (u1_0 : List Value) (h1_0 : Rp.rep (α := TunnelBook) Hn1_14 u1_0 p0) (mz1_16 : Rp.rep (α := Arr 4 Int) Hn1_14 [.int .i64 0, .int .i64 0, .int .i64 0, .int .i64 0] [0, 0, 0, 0]) : At 89 [] (Kp.mk w H noX) [(2, .int .i64 p2), (3, .int .i64 p3), (4, .pointer (some ⟨b0_0, 0, none⟩)), (10, .pointer (some ⟨b1_15, 0, none⟩)), (11, .pointer (some ⟨b1_16, 0, none⟩)), (16, .agg u1_0.toArray), (17, v1), (25, .bool x1_8)] Hn1_14 ([.box b1_15 [.slice none 0 0, .slice none 0 0, .map none] 110, .box b1_16 [.int .i64 0, .int .i64 0, .int .i64 0, .int .i64 0] 111]) (U1 (Sw Hn1_14 []) 8 (bits 20 99327)) := by
        refine d_fwd hU1 ?_
        have hb0_0 := PAt.mono ln1_14 hb0_0
        have h1 := Sl.mono ln1_14 h1
        have hg := Glob.mono ln1_14 hg
        refine d1 10 rfl (e_callO (all := [.agg u1_0.toArray, v1, .bool x1_8]) trivial rfl Tryd.func80 rfl rfl rfl rfl rfl (fun w hw => ok_80 hw h1_0 h1 q1_10) ?_)
        rintro _ H1_10 _ l1_10 ⟨cb1_10, cs1_10, mm1_10, rfl, hb1_10, hc1_10, hd1_10⟩
        rcases hd1_10 with ⟨rfl, he1_10, rfl⟩ | ⟨M1_10, rfl, he1_10, rfl⟩
        rotate_left
        · exact absurd k1_10 (by simp [he1_10])
        have hb0_0 := PAt.mono l1_10 hb0_0
        have h1_0 := Rp.mono l1_10 h1_0
        have h1 := Sl.mono l1_10 h1
        have mz1_16 := Rp.mono l1_10 mz1_16
        have hg := Glob.mono l1_10 hg
        refine dn 100351 (swl l1_10 []) ?_
        exact d_edge hU1 (N1_5 H1_10 (ln1_14.trans l1_10) b1_15 b1_16 cb1_10 cs1_10 hb1_10 hc1_10 mz1_16) ⟨rfl, rfl, rfl, rfl, rfl, rfl, trivial⟩ [0, 1] (by decide) rfl (sw_sw l1_10 [] rfl)
      have N1_9 (Hn1_22 : Hp) (ln1_22 : HLe Hb0_0 Hn1_22) (cb1_10 : List Value) (cs1_10 : List Value) (hb1_10 : Rp.rep (α := Bk none) Hn1_22 cb1_10 x1_10.1) (hc1_10 : Rp.rep (α := Arr 4 Int) Hn1_22 cs1_10 x1_10.2.1) : At 89 [] (Kp.mk w H noX) [(2, .int .i64 p2), (3, .int .i64 p3), (4, .pointer (some ⟨b0_0, 0, none⟩)), (26, .tuple #[.agg cb1_10.toArray, .agg cs1_10.toArray, .int .i64 x1_10.2.2])] Hn1_22 [] (U1 (Sw Hn1_22 []) 9 (bits 20 2047)) := by
        refine d_fwd hU1 ?_
        have hb0_0 := PAt.mono ln1_22 hb0_0
        have hg := Glob.mono ln1_22 hg
        refine dt 11 4095 rfl trivial (y_move rfl) (sw0 []) ?_
        refine dt 12 8191 rfl trivial (y_extract rfl rfl) (sw0 []) ?_
        refine dt 13 16383 rfl trivial (y_extract rfl rfl) (sw0 []) ?_
        refine dt 14 32767 rfl trivial (y_extract rfl rfl) (sw0 []) ?_
        refine d_all (rs := [15, 16]) (by kernel_rfl) rfl ⟨⟨_, rfl, ?_⟩, ⟨_, rfl, ?_⟩, trivial⟩
        · refine e_alloc (cs := [.slice none 0 0, .slice none 0 0, .map none]) trivial rfl ty110 rfl ?_
          intro b1_15
          refine dn 65535 (sw0 []) ?_
          exact d_edge hU1 (N1_3 Hn1_22 ln1_22 b1_15 cb1_10 cs1_10 hb1_10 hc1_10) ⟨rfl, rfl, rfl, rfl, rfl, rfl, rfl, trivial⟩ [0] (by decide) rfl (fun _ h => h)
        refine e_alloc (cs := [.int .i64 0, .int .i64 0, .int .i64 0, .int .i64 0]) trivial rfl ty111 rfl ?_
        intro b1_16
        have mz1_16 := z111 Hn1_22
        refine dn 98303 (sw0 []) ?_
        exact d_edge hU1 (N1_4 Hn1_22 ln1_22 b1_16 cb1_10 cs1_10 hb1_10 hc1_10 mz1_16) ⟨rfl, rfl, rfl, rfl, rfl, rfl, rfl, trivial⟩ [0] (by decide) rfl (fun _ h => h)
      have N1_10 (Hn1_23 : Hp) (ln1_23 : HLe Hb0_0 Hn1_23) (b1_15 : Nat) (u1_0 : List Value) (h1_0 : Rp.rep (α := TunnelBook) Hn1_23 u1_0 p0) : At 89 [] (Kp.mk w H noX) [(2, .int .i64 p2), (3, .int .i64 p3), (4, .pointer (some ⟨b0_0, 0, none⟩)), (10, .pointer (some ⟨b1_15, 0, none⟩)), (16, .agg u1_0.toArray), (17, v1), (25, .bool x1_8)] Hn1_23 ([.box b1_15 [.slice none 0 0, .slice none 0 0, .map none] 110]) (U1 (Sw Hn1_23 []) 9 (bits 20 33791)) := by
        refine d_fwd hU1 ?_
        have hb0_0 := PAt.mono ln1_23 hb0_0
        have h1 := Sl.mono ln1_23 h1
        have hg := Glob.mono ln1_23 hg
        refine d_all (rs := [10, 16]) (by kernel_rfl) rfl ⟨⟨_, rfl, ?_⟩, ⟨_, rfl, ?_⟩, trivial⟩
        · refine e_callO (all := [.agg u1_0.toArray, v1, .bool x1_8]) trivial rfl Tryd.func80 rfl rfl rfl rfl rfl (fun w hw => ok_80 hw h1_0 h1 q1_10) ?_
          rintro _ H1_10 _ l1_10 ⟨cb1_10, cs1_10, mm1_10, rfl, hb1_10, hc1_10, hd1_10⟩
          rcases hd1_10 with ⟨rfl, he1_10, rfl⟩ | ⟨M1_10, rfl, he1_10, rfl⟩
          rotate_left
          · exact absurd k1_10 (by simp [he1_10])
          have hb0_0 := PAt.mono l1_10 hb0_0
          have h1_0 := Rp.mono l1_10 h1_0
          have h1 := Sl.mono l1_10 h1
          have hg := Glob.mono l1_10 hg
          refine dn 34815 (swl l1_10 []) ?_
          exact d_edge hU1 (N1_6 H1_10 (ln1_23.trans l1_10) b1_15 cb1_10 cs1_10 hb1_10 hc1_10) ⟨rfl, rfl, rfl, rfl, rfl, trivial⟩ [0] (by decide) rfl (sw_sw l1_10 [] rfl)
        refine e_alloc (cs := [.int .i64 0, .int .i64 0, .int .i64 0, .int .i64 0]) trivial rfl ty111 rfl ?_
        intro b1_16
        have mz1_16 := z111 Hn1_23
        refine dn 99327 (sw0 []) ?_
        exact d_edge hU1 (N1_8 Hn1_23 ln1_23 b1_15 b1_16 u1_0 h1_0 mz1_16) ⟨rfl, rfl, rfl, rfl, rfl, rfl, rfl, rfl, trivial⟩ [1, 0] (by decide) rfl (fun _ h => h)
      have N1_11 (Hn1_24 : Hp) (ln1_24 : HLe Hb0_0 Hn1_24) (b1_16 : Nat) (u1_0 : List Value) (h1_0 : Rp.rep (α := TunnelBook) Hn1_24 u1_0 p0) (mz1_16 : Rp.rep (α := Arr 4 Int) Hn1_24 [.int .i64 0, .int .i64 0, .int .i64 0, .int .i64 0] [0, 0, 0, 0]) : At 89 [] (Kp.mk w H noX) [(2, .int .i64 p2), (3, .int .i64 p3), (4, .pointer (some ⟨b0_0, 0, none⟩)), (11, .pointer (some ⟨b1_16, 0, none⟩)), (16, .agg u1_0.toArray), (17, v1), (25, .bool x1_8)] Hn1_24 ([.box b1_16 [.int .i64 0, .int .i64 0, .int .i64 0, .int .i64 0] 111]) (U1 (Sw Hn1_24 []) 9 (bits 20 66559)) := by
        refine d_fwd hU1 ?_
        have hb0_0 := PAt.mono ln1_24 hb0_0
        have h1 := Sl.mono ln1_24 h1
        have hg := Glob.mono ln1_24 hg
        refine d_all (rs := [10, 15]) (by kernel_rfl) rfl ⟨⟨_, rfl, ?_⟩, ⟨_, rfl, ?_⟩, trivial⟩
        · refine e_callO (all := [.agg u1_0.toArray, v1, .bool x1_8]) trivial rfl Tryd.func80 rfl rfl rfl rfl rfl (fun w hw => ok_80 hw h1_0 h1 q1_10) ?_
          rintro _ H1_10 _ l1_10 ⟨cb1_10, cs1_10, mm1_10, rfl, hb1_10, hc1_10, hd1_10⟩
          rcases hd1_10 with ⟨rfl, he1_10, rfl⟩ | ⟨M1_10, rfl, he1_10, rfl⟩
          rotate_left
          · exact absurd k1_10 (by simp [he1_10])
          have hb0_0 := PAt.mono l1_10 hb0_0
          have h1_0 := Rp.mono l1_10 h1_0
          have h1 := Sl.mono l1_10 h1
          have mz1_16 := Rp.mono l1_10 mz1_16
          have hg := Glob.mono l1_10 hg
          refine dn 67583 (swl l1_10 []) ?_
          exact d_edge hU1 (N1_7 H1_10 (ln1_24.trans l1_10) b1_16 cb1_10 cs1_10 hb1_10 hc1_10 mz1_16) ⟨rfl, rfl, rfl, rfl, rfl, trivial⟩ [0] (by decide) rfl (sw_sw l1_10 [] rfl)
        refine e_alloc (cs := [.slice none 0 0, .slice none 0 0, .map none]) trivial rfl ty110 rfl ?_
        intro b1_15
        refine dn 99327 (sw0 []) ?_
        exact d_edge hU1 (N1_8 Hn1_24 ln1_24 b1_15 b1_16 u1_0 h1_0 mz1_16) ⟨rfl, rfl, rfl, rfl, rfl, rfl, rfl, rfl, trivial⟩ [0, 1] (by decide) rfl (fun _ h => h)
      have N1_12 (Hn1_7 : Hp) (ln1_7 : HLe Hb0_0 Hn1_7) (b1_15 : Nat) (b1_16 : Nat) (u1_0 : List Value) (h1_0 : Rp.rep (α := TunnelBook) Hn1_7 u1_0 p0) (mz1_16 : Rp.rep (α := Arr 4 Int) Hn1_7 [.int .i64 0, .int .i64 0, .int .i64 0, .int .i64 0] [0, 0, 0, 0]) : At 89 [] (Kp.mk w H noX) [(2, .int .i64 p2), (3, .int .i64 p3), (4, .pointer (some ⟨b0_0, 0, none⟩)), (10, .pointer (some ⟨b1_15, 0, none⟩)), (11, .pointer (some ⟨b1_16, 0, none⟩)), (16, .agg u1_0.toArray), (17, v1), (21, .bool x1_4), (24, .bool x1_8)] Hn1_7 ([.box b1_15 [.slice none 0 0, .slice none 0 0, .map none] 110, .box b1_16 [.int .i64 0, .int .i64 0, .int .i64 0, .int .i64 0] 111]) (U1 (Sw Hn1_7 []) 9 (bits 20 98815)) := by
        refine d_fwd hU1 ?_
        have hb0_0 := PAt.mono ln1_7 hb0_0
        have h1 := Sl.mono ln1_7 h1
        have hg := Glob.mono ln1_7 hg
        refine dt 9 99327 rfl trivial (y_pick_t rfl k1_6 rfl) (sw0 []) ?_
        refine d1 10 rfl (e_callO (all := [.agg u1_0.toArray, v1, .bool x1_8]) trivial rfl Tryd.func80 rfl rfl rfl rfl rfl (fun w hw => ok_80 hw h1_0 h1 q1_10) ?_)
        rintro _ H1_10 _ l1_10 ⟨cb1_10, cs1_10, mm1_10, rfl, hb1_10, hc1_10, hd1_10⟩
        rcases hd1_10 with ⟨rfl, he1_10, rfl⟩ | ⟨M1_10, rfl, he1_10, rfl⟩
        rotate_left
        · exact absurd k1_10 (by simp [he1_10])
        have hb0_0 := PAt.mono l1_10 hb0_0
        have h1_0 := Rp.mono l1_10 h1_0
        have h1 := Sl.mono l1_10 h1
        have mz1_16 := Rp.mono l1_10 mz1_16
        have hg := Glob.mono l1_10 hg
        refine dn 100351 (swl l1_10 []) ?_
        exact d_edge hU1 (N1_5 H1_10 (ln1_7.trans l1_10) b1_15 b1_16 cb1_10 cs1_10 hb1_10 hc1_10 mz1_16) ⟨rfl, rfl, rfl, rfl, rfl, rfl, trivial⟩ [0, 1] (by decide) rfl (sw_sw l1_10 [] rfl)
      have N1_13 (Hn1_17 : Hp) (ln1_17 : HLe Hb0_0 Hn1_17) (b1_15 : Nat) (u1_0 : List Value) (h1_0 : Rp.rep (α := TunnelBook) Hn1_17 u1_0 p0) : At 89 [] (Kp.mk w H noX) [(2, .int .i64 p2), (3, .int .i64 p3), (4, .pointer (some ⟨b0_0, 0, none⟩)), (10, .pointer (some ⟨b1_15, 0, none⟩)), (16, .agg u1_0.toArray), (17, v1), (21, .bool x1_4), (24, .bool x1_8)] Hn1_17 ([.box b1_15 [.slice none 0 0, .slice none 0 0, .map none] 110]) (U1 (Sw Hn1_17 []) 10 (bits 20 33279)) := by
        refine d_fwd hU1 ?_
        have hb0_0 := PAt.mono ln1_17 hb0_0
        have h1 := Sl.mono ln1_17 h1
        have hg := Glob.mono ln1_17 hg
        refine dt 9 33791 rfl trivial (y_pick_t rfl k1_6 rfl) (sw0 []) ?_
        refine d_all (rs := [10, 16]) (by kernel_rfl) rfl ⟨⟨_, rfl, ?_⟩, ⟨_, rfl, ?_⟩, trivial⟩
        · refine e_callO (all := [.agg u1_0.toArray, v1, .bool x1_8]) trivial rfl Tryd.func80 rfl rfl rfl rfl rfl (fun w hw => ok_80 hw h1_0 h1 q1_10) ?_
          rintro _ H1_10 _ l1_10 ⟨cb1_10, cs1_10, mm1_10, rfl, hb1_10, hc1_10, hd1_10⟩
          rcases hd1_10 with ⟨rfl, he1_10, rfl⟩ | ⟨M1_10, rfl, he1_10, rfl⟩
          rotate_left
          · exact absurd k1_10 (by simp [he1_10])
          have hb0_0 := PAt.mono l1_10 hb0_0
          have h1_0 := Rp.mono l1_10 h1_0
          have h1 := Sl.mono l1_10 h1
          have hg := Glob.mono l1_10 hg
          refine dn 34815 (swl l1_10 []) ?_
          exact d_edge hU1 (N1_6 H1_10 (ln1_17.trans l1_10) b1_15 cb1_10 cs1_10 hb1_10 hc1_10) ⟨rfl, rfl, rfl, rfl, rfl, trivial⟩ [0] (by decide) rfl (sw_sw l1_10 [] rfl)
        refine e_alloc (cs := [.int .i64 0, .int .i64 0, .int .i64 0, .int .i64 0]) trivial rfl ty111 rfl ?_
        intro b1_16
        have mz1_16 := z111 Hn1_17
        refine dn 99327 (sw0 []) ?_
        exact d_edge hU1 (N1_8 Hn1_17 ln1_17 b1_15 b1_16 u1_0 h1_0 mz1_16) ⟨rfl, rfl, rfl, rfl, rfl, rfl, rfl, rfl, trivial⟩ [1, 0] (by decide) rfl (fun _ h => h)
      have N1_14 (Hn1_11 : Hp) (ln1_11 : HLe Hb0_0 Hn1_11) (b1_16 : Nat) (u1_0 : List Value) (h1_0 : Rp.rep (α := TunnelBook) Hn1_11 u1_0 p0) (mz1_16 : Rp.rep (α := Arr 4 Int) Hn1_11 [.int .i64 0, .int .i64 0, .int .i64 0, .int .i64 0] [0, 0, 0, 0]) : At 89 [] (Kp.mk w H noX) [(2, .int .i64 p2), (3, .int .i64 p3), (4, .pointer (some ⟨b0_0, 0, none⟩)), (11, .pointer (some ⟨b1_16, 0, none⟩)), (16, .agg u1_0.toArray), (17, v1), (21, .bool x1_4), (24, .bool x1_8)] Hn1_11 ([.box b1_16 [.int .i64 0, .int .i64 0, .int .i64 0, .int .i64 0] 111]) (U1 (Sw Hn1_11 []) 10 (bits 20 66047)) := by
        refine d_fwd hU1 ?_
        have hb0_0 := PAt.mono ln1_11 hb0_0
        have h1 := Sl.mono ln1_11 h1
        have hg := Glob.mono ln1_11 hg
        refine dt 9 66559 rfl trivial (y_pick_t rfl k1_6 rfl) (sw0 []) ?_
        refine d_all (rs := [10, 15]) (by kernel_rfl) rfl ⟨⟨_, rfl, ?_⟩, ⟨_, rfl, ?_⟩, trivial⟩
        · refine e_callO (all := [.agg u1_0.toArray, v1, .bool x1_8]) trivial rfl Tryd.func80 rfl rfl rfl rfl rfl (fun w hw => ok_80 hw h1_0 h1 q1_10) ?_
          rintro _ H1_10 _ l1_10 ⟨cb1_10, cs1_10, mm1_10, rfl, hb1_10, hc1_10, hd1_10⟩
          rcases hd1_10 with ⟨rfl, he1_10, rfl⟩ | ⟨M1_10, rfl, he1_10, rfl⟩
          rotate_left
          · exact absurd k1_10 (by simp [he1_10])
          have hb0_0 := PAt.mono l1_10 hb0_0
          have h1_0 := Rp.mono l1_10 h1_0
          have h1 := Sl.mono l1_10 h1
          have mz1_16 := Rp.mono l1_10 mz1_16
          have hg := Glob.mono l1_10 hg
          refine dn 67583 (swl l1_10 []) ?_
          exact d_edge hU1 (N1_7 H1_10 (ln1_11.trans l1_10) b1_16 cb1_10 cs1_10 hb1_10 hc1_10 mz1_16) ⟨rfl, rfl, rfl, rfl, rfl, trivial⟩ [0] (by decide) rfl (sw_sw l1_10 [] rfl)
        refine e_alloc (cs := [.slice none 0 0, .slice none 0 0, .map none]) trivial rfl ty110 rfl ?_
        intro b1_15
        refine dn 99327 (sw0 []) ?_
        exact d_edge hU1 (N1_8 Hn1_11 ln1_11 b1_15 b1_16 u1_0 h1_0 mz1_16) ⟨rfl, rfl, rfl, rfl, rfl, rfl, rfl, rfl, trivial⟩ [0, 1] (by decide) rfl (fun _ h => h)
      have N1_15 (Hn1_12 : Hp) (ln1_12 : HLe Hb0_0 Hn1_12) (b1_15 : Nat) (b1_16 : Nat) (u1_0 : List Value) (u1_6 : List Value) (h1_0 : Rp.rep (α := TunnelBook) Hn1_12 u1_0 p0) (h1_6 : Rp.rep (α := TunnelBook) Hn1_12 u1_6 p0) (mz1_16 : Rp.rep (α := Arr 4 Int) Hn1_12 [.int .i64 0, .int .i64 0, .int .i64 0, .int .i64 0] [0, 0, 0, 0]) : At 89 [] (Kp.mk w H noX) [(2, .int .i64 p2), (3, .int .i64 p3), (4, .pointer (some ⟨b0_0, 0, none⟩)), (10, .pointer (some ⟨b1_15, 0, none⟩)), (11, .pointer (some ⟨b1_16, 0, none⟩)), (16, .agg u1_0.toArray), (17, v1), (21, .bool x1_4), (22, .agg u1_6.toArray), (23, .int .i64 p3)] Hn1_12 ([.box b1_15 [.slice none 0 0, .slice none 0 0, .map none] 110, .box b1_16 [.int .i64 0, .int .i64 0, .int .i64 0, .int .i64 0] 111]) (U1 (Sw Hn1_12 []) 10 (bits 20 98559)) := by
        refine d_fwd hU1 ?_
        have hb0_0 := PAt.mono ln1_12 hb0_0
        have h1 := Sl.mono ln1_12 h1
        have hg := Glob.mono ln1_12 hg
        refine d1 8 rfl (e_callV (all := [.agg u1_6.toArray, .int .i64 p3]) (v := .bool x1_8) ⟨_, _, rfl, rfl, k1_6⟩ rfl Tryd.func103 rfl rfl rfl rfl rfl (fun w hw => ok_103 hw h1_6 q1_8) ?_)
        refine dn 98815 (sw0 []) ?_
        exact d_edge hU1 (N1_12 Hn1_12 ln1_12 b1_15 b1_16 u1_0 h1_0 mz1_16) ⟨rfl, rfl, rfl, rfl, rfl, rfl, rfl, rfl, rfl, trivial⟩ [0, 1] (by decide) rfl (fun _ h => h)
      have N1_16 (Hn1_19 : Hp) (ln1_19 : HLe Hb0_0 Hn1_19) (u1_0 : List Value) (h1_0 : Rp.rep (α := TunnelBook) Hn1_19 u1_0 p0) : At 89 [] (Kp.mk w H noX) [(2, .int .i64 p2), (3, .int .i64 p3), (4, .pointer (some ⟨b0_0, 0, none⟩)), (16, .agg u1_0.toArray), (17, v1), (21, .bool x1_4), (24, .bool x1_8)] Hn1_19 [] (U1 (Sw Hn1_19 []) 11 (bits 20 511)) := by
        refine d_fwd hU1 ?_
        have hb0_0 := PAt.mono ln1_19 hb0_0
        have h1 := Sl.mono ln1_19 h1
        have hg := Glob.mono ln1_19 hg
        refine dt 9 1023 rfl trivial (y_pick_t rfl k1_6 rfl) (sw0 []) ?_
        refine d_all (rs := [10, 15, 16]) (by kernel_rfl) rfl ⟨⟨_, rfl, ?_⟩, ⟨_, rfl, ?_⟩, ⟨_, rfl, ?_⟩, trivial⟩
        · refine e_callO (all := [.agg u1_0.toArray, v1, .bool x1_8]) trivial rfl Tryd.func80 rfl rfl rfl rfl rfl (fun w hw => ok_80 hw h1_0 h1 q1_10) ?_
          rintro _ H1_10 _ l1_10 ⟨cb1_10, cs1_10, mm1_10, rfl, hb1_10, hc1_10, hd1_10⟩
          rcases hd1_10 with ⟨rfl, he1_10, rfl⟩ | ⟨M1_10, rfl, he1_10, rfl⟩
          rotate_left
          · exact absurd k1_10 (by simp [he1_10])
          have hb0_0 := PAt.mono l1_10 hb0_0
          have h1_0 := Rp.mono l1_10 h1_0
          have h1 := Sl.mono l1_10 h1
          have hg := Glob.mono l1_10 hg
          refine dn 2047 (swl l1_10 []) ?_
          exact d_edge hU1 (N1_9 H1_10 (ln1_19.trans l1_10) cb1_10 cs1_10 hb1_10 hc1_10) ⟨rfl, rfl, rfl, rfl, trivial⟩ [] (by decide) rfl (sw_sw l1_10 [] rfl)
        · refine e_alloc (cs := [.slice none 0 0, .slice none 0 0, .map none]) trivial rfl ty110 rfl ?_
          intro b1_15
          refine dn 33791 (sw0 []) ?_
          exact d_edge hU1 (N1_10 Hn1_19 ln1_19 b1_15 u1_0 h1_0) ⟨rfl, rfl, rfl, rfl, rfl, rfl, rfl, trivial⟩ [0] (by decide) rfl (fun _ h => h)
        refine e_alloc (cs := [.int .i64 0, .int .i64 0, .int .i64 0, .int .i64 0]) trivial rfl ty111 rfl ?_
        intro b1_16
        have mz1_16 := z111 Hn1_19
        refine dn 66559 (sw0 []) ?_
        exact d_edge hU1 (N1_11 Hn1_19 ln1_19 b1_16 u1_0 h1_0 mz1_16) ⟨rfl, rfl, rfl, rfl, rfl, rfl, rfl, trivial⟩ [0] (by decide) rfl (fun _ h => h)
      have N1_17 (Hn1_20 : Hp) (ln1_20 : HLe Hb0_0 Hn1_20) (b1_15 : Nat) (u1_0 : List Value) (u1_6 : List Value) (h1_0 : Rp.rep (α := TunnelBook) Hn1_20 u1_0 p0) (h1_6 : Rp.rep (α := TunnelBook) Hn1_20 u1_6 p0) : At 89 [] (Kp.mk w H noX) [(2, .int .i64 p2), (3, .int .i64 p3), (4, .pointer (some ⟨b0_0, 0, none⟩)), (10, .pointer (some ⟨b1_15, 0, none⟩)), (16, .agg u1_0.toArray), (17, v1), (21, .bool x1_4), (22, .agg u1_6.toArray), (23, .int .i64 p3)] Hn1_20 ([.box b1_15 [.slice none 0 0, .slice none 0 0, .map none] 110]) (U1 (Sw Hn1_20 []) 11 (bits 20 33023)) := by
        refine d_fwd hU1 ?_
        have hb0_0 := PAt.mono ln1_20 hb0_0
        have h1 := Sl.mono ln1_20 h1
        have hg := Glob.mono ln1_20 hg
        refine d_all (rs := [8, 16]) (by kernel_rfl) rfl ⟨⟨_, rfl, ?_⟩, ⟨_, rfl, ?_⟩, trivial⟩
        · refine e_callV (all := [.agg u1_6.toArray, .int .i64 p3]) (v := .bool x1_8) ⟨_, _, rfl, rfl, k1_6⟩ rfl Tryd.func103 rfl rfl rfl rfl rfl (fun w hw => ok_103 hw h1_6 q1_8) ?_
          refine dn 33279 (sw0 []) ?_
          exact d_edge hU1 (N1_13 Hn1_20 ln1_20 b1_15 u1_0 h1_0) ⟨rfl, rfl, rfl, rfl, rfl, rfl, rfl, rfl, trivial⟩ [0] (by decide) rfl (fun _ h => h)
        refine e_alloc (cs := [.int .i64 0, .int .i64 0, .int .i64 0, .int .i64 0]) trivial rfl ty111 rfl ?_
        intro b1_16
        have mz1_16 := z111 Hn1_20
        refine dn 98559 (sw0 []) ?_
        exact d_edge hU1 (N1_15 Hn1_20 ln1_20 b1_15 b1_16 u1_0 u1_6 h1_0 h1_6 mz1_16) ⟨rfl, rfl, rfl, rfl, rfl, rfl, rfl, rfl, rfl, rfl, trivial⟩ [1, 0] (by decide) rfl (fun _ h => h)
      have N1_18 (Hn1_21 : Hp) (ln1_21 : HLe Hb0_0 Hn1_21) (b1_16 : Nat) (u1_0 : List Value) (u1_6 : List Value) (h1_0 : Rp.rep (α := TunnelBook) Hn1_21 u1_0 p0) (h1_6 : Rp.rep (α := TunnelBook) Hn1_21 u1_6 p0) (mz1_16 : Rp.rep (α := Arr 4 Int) Hn1_21 [.int .i64 0, .int .i64 0, .int .i64 0, .int .i64 0] [0, 0, 0, 0]) : At 89 [] (Kp.mk w H noX) [(2, .int .i64 p2), (3, .int .i64 p3), (4, .pointer (some ⟨b0_0, 0, none⟩)), (11, .pointer (some ⟨b1_16, 0, none⟩)), (16, .agg u1_0.toArray), (17, v1), (21, .bool x1_4), (22, .agg u1_6.toArray), (23, .int .i64 p3)] Hn1_21 ([.box b1_16 [.int .i64 0, .int .i64 0, .int .i64 0, .int .i64 0] 111]) (U1 (Sw Hn1_21 []) 11 (bits 20 65791)) := by
        refine d_fwd hU1 ?_
        have hb0_0 := PAt.mono ln1_21 hb0_0
        have h1 := Sl.mono ln1_21 h1
        have hg := Glob.mono ln1_21 hg
        refine d_all (rs := [8, 15]) (by kernel_rfl) rfl ⟨⟨_, rfl, ?_⟩, ⟨_, rfl, ?_⟩, trivial⟩
        · refine e_callV (all := [.agg u1_6.toArray, .int .i64 p3]) (v := .bool x1_8) ⟨_, _, rfl, rfl, k1_6⟩ rfl Tryd.func103 rfl rfl rfl rfl rfl (fun w hw => ok_103 hw h1_6 q1_8) ?_
          refine dn 66047 (sw0 []) ?_
          exact d_edge hU1 (N1_14 Hn1_21 ln1_21 b1_16 u1_0 h1_0 mz1_16) ⟨rfl, rfl, rfl, rfl, rfl, rfl, rfl, rfl, trivial⟩ [0] (by decide) rfl (fun _ h => h)
        refine e_alloc (cs := [.slice none 0 0, .slice none 0 0, .map none]) trivial rfl ty110 rfl ?_
        intro b1_15
        refine dn 98559 (sw0 []) ?_
        exact d_edge hU1 (N1_15 Hn1_21 ln1_21 b1_15 b1_16 u1_0 u1_6 h1_0 h1_6 mz1_16) ⟨rfl, rfl, rfl, rfl, rfl, rfl, rfl, rfl, rfl, rfl, trivial⟩ [0, 1] (by decide) rfl (fun _ h => h)
      have N1_19 (Hn1_6 : Hp) (ln1_6 : HLe Hb0_0 Hn1_6) (b1_15 : Nat) (b1_16 : Nat) (u1_0 : List Value) (h1_0 : Rp.rep (α := TunnelBook) Hn1_6 u1_0 p0) (mz1_16 : Rp.rep (α := Arr 4 Int) Hn1_6 [.int .i64 0, .int .i64 0, .int .i64 0, .int .i64 0] [0, 0, 0, 0]) : At 89 [] (Kp.mk w H noX) [(2, .int .i64 p2), (3, .int .i64 p3), (4, .pointer (some ⟨b0_0, 0, none⟩)), (10, .pointer (some ⟨b1_15, 0, none⟩)), (11, .pointer (some ⟨b1_16, 0, none⟩)), (16, .agg u1_0.toArray), (17, v1), (20, .bool x1_4)] Hn1_6 ([.box b1_15 [.slice none 0 0, .slice none 0 0, .map none] 110, .box b1_16 [.int .i64 0, .int .i64 0, .int .i64 0, .int .i64 0] 111]) (U1 (Sw Hn1_6 []) 13 (bits 20 98335)) := by
        refine d_fwd hU1 ?_
        have hb0_0 := PAt.mono ln1_6 hb0_0
        have h1 := Sl.mono ln1_6 h1
        have hg := Glob.mono ln1_6 hg
        refine dt 5 98367 rfl trivial (y_move rfl) (sw0 []) ?_
        obtain ⟨u1_6, h1_6, c1_6⟩ := PAt.one hb0_0
        refine dt 6 98431 rfl ⟨_, _, rfl, rfl, k1_6⟩ (y_load_cells ty25 rfl (fun _ h => h.1) rfl c1_6 (Rp.len h1_6)) (sw0 []) ?_
        refine dt 7 98559 rfl ⟨_, _, rfl, rfl, k1_6⟩ (y_move rfl) (sw0 []) ?_
        refine d1 8 rfl (e_callV (all := [.agg u1_6.toArray, .int .i64 p3]) (v := .bool x1_8) ⟨_, _, rfl, rfl, k1_6⟩ rfl Tryd.func103 rfl rfl rfl rfl rfl (fun w hw => ok_103 hw h1_6 q1_8) ?_)
        refine dn 98815 (sw0 []) ?_
        exact d_edge hU1 (N1_12 Hn1_6 ln1_6 b1_15 b1_16 u1_0 h1_0 mz1_16) ⟨rfl, rfl, rfl, rfl, rfl, rfl, rfl, rfl, rfl, trivial⟩ [0, 1] (by decide) rfl (fun _ h => h)
      have N1_20 (Hn1_16 : Hp) (ln1_16 : HLe Hb0_0 Hn1_16) (b1_15 : Nat) (u1_0 : List Value) (h1_0 : Rp.rep (α := TunnelBook) Hn1_16 u1_0 p0) : At 89 [] (Kp.mk w H noX) [(2, .int .i64 p2), (3, .int .i64 p3), (4, .pointer (some ⟨b0_0, 0, none⟩)), (10, .pointer (some ⟨b1_15, 0, none⟩)), (16, .agg u1_0.toArray), (17, v1), (20, .bool x1_4)] Hn1_16 ([.box b1_15 [.slice none 0 0, .slice none 0 0, .map none] 110]) (U1 (Sw Hn1_16 []) 14 (bits 20 32799)) := by
        refine d_fwd hU1 ?_
        have hb0_0 := PAt.mono ln1_16 hb0_0
        have h1 := Sl.mono ln1_16 h1
        have hg := Glob.mono ln1_16 hg
        refine dt 5 32831 rfl trivial (y_move rfl) (sw0 []) ?_
        obtain ⟨u1_6, h1_6, c1_6⟩ := PAt.one hb0_0
        refine dt 6 32895 rfl ⟨_, _, rfl, rfl, k1_6⟩ (y_load_cells ty25 rfl (fun _ h => h.1) rfl c1_6 (Rp.len h1_6)) (sw0 []) ?_
        refine dt 7 33023 rfl ⟨_, _, rfl, rfl, k1_6⟩ (y_move rfl) (sw0 []) ?_
        refine d_all (rs := [8, 16]) (by kernel_rfl) rfl ⟨⟨_, rfl, ?_⟩, ⟨_, rfl, ?_⟩, trivial⟩
        · refine e_callV (all := [.agg u1_6.toArray, .int .i64 p3]) (v := .bool x1_8) ⟨_, _, rfl, rfl, k1_6⟩ rfl Tryd.func103 rfl rfl rfl rfl rfl (fun w hw => ok_103 hw h1_6 q1_8) ?_
          refine dn 33279 (sw0 []) ?_
          exact d_edge hU1 (N1_13 Hn1_16 ln1_16 b1_15 u1_0 h1_0) ⟨rfl, rfl, rfl, rfl, rfl, rfl, rfl, rfl, trivial⟩ [0] (by decide) rfl (fun _ h => h)
        refine e_alloc (cs := [.int .i64 0, .int .i64 0, .int .i64 0, .int .i64 0]) trivial rfl ty111 rfl ?_
        intro b1_16
        have mz1_16 := z111 Hn1_16
        refine dn 98559 (sw0 []) ?_
        exact d_edge hU1 (N1_15 Hn1_16 ln1_16 b1_15 b1_16 u1_0 u1_6 h1_0 h1_6 mz1_16) ⟨rfl, rfl, rfl, rfl, rfl, rfl, rfl, rfl, rfl, rfl, trivial⟩ [1, 0] (by decide) rfl (fun _ h => h)
      have N1_21 (Hn1_4 : Hp) (ln1_4 : HLe Hb0_0 Hn1_4) (b1_16 : Nat) (u1_0 : List Value) (h1_0 : Rp.rep (α := TunnelBook) Hn1_4 u1_0 p0) (mz1_16 : Rp.rep (α := Arr 4 Int) Hn1_4 [.int .i64 0, .int .i64 0, .int .i64 0, .int .i64 0] [0, 0, 0, 0]) : At 89 [] (Kp.mk w H noX) [(2, .int .i64 p2), (3, .int .i64 p3), (4, .pointer (some ⟨b0_0, 0, none⟩)), (11, .pointer (some ⟨b1_16, 0, none⟩)), (16, .agg u1_0.toArray), (17, v1), (20, .bool x1_4)] Hn1_4 ([.box b1_16 [.int .i64 0, .int .i64 0, .int .i64 0, .int .i64 0] 111]) (U1 (Sw Hn1_4 []) 14 (bits 20 65567)) := by
        refine d_fwd hU1 ?_
        have hb0_0 := PAt.mono ln1_4 hb0_0
        have h1 := Sl.mono ln1_4 h1
        have hg := Glob.mono ln1_4 hg
        refine dt 5 65599 rfl trivial (y_move rfl) (sw0 []) ?_
        obtain ⟨u1_6, h1_6, c1_6⟩ := PAt.one hb0_0
        refine dt 6 65663 rfl ⟨_, _, rfl, rfl, k1_6⟩ (y_load_cells ty25 rfl (fun _ h => h.1) rfl c1_6 (Rp.len h1_6)) (sw0 []) ?_
        refine dt 7 65791 rfl ⟨_, _, rfl, rfl, k1_6⟩ (y_move rfl) (sw0 []) ?_
        refine d_all (rs := [8, 15]) (by kernel_rfl) rfl ⟨⟨_, rfl, ?_⟩, ⟨_, rfl, ?_⟩, trivial⟩
        · refine e_callV (all := [.agg u1_6.toArray, .int .i64 p3]) (v := .bool x1_8) ⟨_, _, rfl, rfl, k1_6⟩ rfl Tryd.func103 rfl rfl rfl rfl rfl (fun w hw => ok_103 hw h1_6 q1_8) ?_
          refine dn 66047 (sw0 []) ?_
          exact d_edge hU1 (N1_14 Hn1_4 ln1_4 b1_16 u1_0 h1_0 mz1_16) ⟨rfl, rfl, rfl, rfl, rfl, rfl, rfl, rfl, trivial⟩ [0] (by decide) rfl (fun _ h => h)
        refine e_alloc (cs := [.slice none 0 0, .slice none 0 0, .map none]) trivial rfl ty110 rfl ?_
        intro b1_15
        refine dn 98559 (sw0 []) ?_
        exact d_edge hU1 (N1_15 Hn1_4 ln1_4 b1_15 b1_16 u1_0 u1_6 h1_0 h1_6 mz1_16) ⟨rfl, rfl, rfl, rfl, rfl, rfl, rfl, rfl, rfl, rfl, trivial⟩ [0, 1] (by decide) rfl (fun _ h => h)
      have N1_22 (Hn1_5 : Hp) (ln1_5 : HLe Hb0_0 Hn1_5) (b1_15 : Nat) (b1_16 : Nat) (u1_0 : List Value) (u1_2 : List Value) (h1_0 : Rp.rep (α := TunnelBook) Hn1_5 u1_0 p0) (h1_2 : Rp.rep (α := TunnelBook) Hn1_5 u1_2 p0) (mz1_16 : Rp.rep (α := Arr 4 Int) Hn1_5 [.int .i64 0, .int .i64 0, .int .i64 0, .int .i64 0] [0, 0, 0, 0]) : At 89 [] (Kp.mk w H noX) [(2, .int .i64 p2), (3, .int .i64 p3), (4, .pointer (some ⟨b0_0, 0, none⟩)), (10, .pointer (some ⟨b1_15, 0, none⟩)), (11, .pointer (some ⟨b1_16, 0, none⟩)), (16, .agg u1_0.toArray), (17, v1), (18, .agg u1_2.toArray), (19, .int .i64 p2)] Hn1_5 ([.box b1_15 [.slice none 0 0, .slice none 0 0, .map none] 110, .box b1_16 [.int .i64 0, .int .i64 0, .int .i64 0, .int .i64 0] 111]) (U1 (Sw Hn1_5 []) 14 (bits 20 98319)) := by
        refine d_fwd hU1 ?_
        have hb0_0 := PAt.mono ln1_5 hb0_0
        have h1 := Sl.mono ln1_5 h1
        have hg := Glob.mono ln1_5 hg
        refine d1 4 rfl (e_callV (all := [.agg u1_2.toArray, .int .i64 p2]) (v := .bool x1_4) trivial rfl Tryd.func88 rfl rfl rfl rfl rfl (fun w hw => ok_88 hw h1_2 q1_4) ?_)
        refine dn 98335 (sw0 []) ?_
        exact d_edge hU1 (N1_19 Hn1_5 ln1_5 b1_15 b1_16 u1_0 h1_0 mz1_16) ⟨rfl, rfl, rfl, rfl, rfl, rfl, rfl, rfl, trivial⟩ [0, 1] (by decide) rfl (fun _ h => h)
      have N1_23 (Hn1_1 : Hp) (ln1_1 : HLe Hb0_0 Hn1_1) (u1_0 : List Value) (h1_0 : Rp.rep (α := TunnelBook) Hn1_1 u1_0 p0) : At 89 [] (Kp.mk w H noX) [(2, .int .i64 p2), (3, .int .i64 p3), (4, .pointer (some ⟨b0_0, 0, none⟩)), (16, .agg u1_0.toArray), (17, v1), (20, .bool x1_4)] Hn1_1 [] (U1 (Sw Hn1_1 []) 15 (bits 20 31)) := by
        refine d_fwd hU1 ?_
        have hb0_0 := PAt.mono ln1_1 hb0_0
        have h1 := Sl.mono ln1_1 h1
        have hg := Glob.mono ln1_1 hg
        refine dt 5 63 rfl trivial (y_move rfl) (sw0 []) ?_
        obtain ⟨u1_6, h1_6, c1_6⟩ := PAt.one hb0_0
        refine dt 6 127 rfl ⟨_, _, rfl, rfl, k1_6⟩ (y_load_cells ty25 rfl (fun _ h => h.1) rfl c1_6 (Rp.len h1_6)) (sw0 []) ?_
        refine dt 7 255 rfl ⟨_, _, rfl, rfl, k1_6⟩ (y_move rfl) (sw0 []) ?_
        refine d_all (rs := [8, 15, 16]) (by kernel_rfl) rfl ⟨⟨_, rfl, ?_⟩, ⟨_, rfl, ?_⟩, ⟨_, rfl, ?_⟩, trivial⟩
        · refine e_callV (all := [.agg u1_6.toArray, .int .i64 p3]) (v := .bool x1_8) ⟨_, _, rfl, rfl, k1_6⟩ rfl Tryd.func103 rfl rfl rfl rfl rfl (fun w hw => ok_103 hw h1_6 q1_8) ?_
          refine dn 511 (sw0 []) ?_
          exact d_edge hU1 (N1_16 Hn1_1 ln1_1 u1_0 h1_0) ⟨rfl, rfl, rfl, rfl, rfl, rfl, rfl, trivial⟩ [] (by decide) rfl (fun _ h => h)
        · refine e_alloc (cs := [.slice none 0 0, .slice none 0 0, .map none]) trivial rfl ty110 rfl ?_
          intro b1_15
          refine dn 33023 (sw0 []) ?_
          exact d_edge hU1 (N1_17 Hn1_1 ln1_1 b1_15 u1_0 u1_6 h1_0 h1_6) ⟨rfl, rfl, rfl, rfl, rfl, rfl, rfl, rfl, rfl, trivial⟩ [0] (by decide) rfl (fun _ h => h)
        refine e_alloc (cs := [.int .i64 0, .int .i64 0, .int .i64 0, .int .i64 0]) trivial rfl ty111 rfl ?_
        intro b1_16
        have mz1_16 := z111 Hn1_1
        refine dn 65791 (sw0 []) ?_
        exact d_edge hU1 (N1_18 Hn1_1 ln1_1 b1_16 u1_0 u1_6 h1_0 h1_6 mz1_16) ⟨rfl, rfl, rfl, rfl, rfl, rfl, rfl, rfl, rfl, trivial⟩ [0] (by decide) rfl (fun _ h => h)
      have N1_24 (Hn1_2 : Hp) (ln1_2 : HLe Hb0_0 Hn1_2) (b1_15 : Nat) (u1_0 : List Value) (u1_2 : List Value) (h1_0 : Rp.rep (α := TunnelBook) Hn1_2 u1_0 p0) (h1_2 : Rp.rep (α := TunnelBook) Hn1_2 u1_2 p0) : At 89 [] (Kp.mk w H noX) [(2, .int .i64 p2), (3, .int .i64 p3), (4, .pointer (some ⟨b0_0, 0, none⟩)), (10, .pointer (some ⟨b1_15, 0, none⟩)), (16, .agg u1_0.toArray), (17, v1), (18, .agg u1_2.toArray), (19, .int .i64 p2)] Hn1_2 ([.box b1_15 [.slice none 0 0, .slice none 0 0, .map none] 110]) (U1 (Sw Hn1_2 []) 15 (bits 20 32783)) := by
        refine d_fwd hU1 ?_
        have hb0_0 := PAt.mono ln1_2 hb0_0
        have h1 := Sl.mono ln1_2 h1
        have hg := Glob.mono ln1_2 hg
        refine d_all (rs := [4, 16]) (by kernel_rfl) rfl ⟨⟨_, rfl, ?_⟩, ⟨_, rfl, ?_⟩, trivial⟩
        · refine e_callV (all := [.agg u1_2.toArray, .int .i64 p2]) (v := .bool x1_4) trivial rfl Tryd.func88 rfl rfl rfl rfl rfl (fun w hw => ok_88 hw h1_2 q1_4) ?_
          refine dn 32799 (sw0 []) ?_
          exact d_edge hU1 (N1_20 Hn1_2 ln1_2 b1_15 u1_0 h1_0) ⟨rfl, rfl, rfl, rfl, rfl, rfl, rfl, trivial⟩ [0] (by decide) rfl (fun _ h => h)
        refine e_alloc (cs := [.int .i64 0, .int .i64 0, .int .i64 0, .int .i64 0]) trivial rfl ty111 rfl ?_
        intro b1_16
        have mz1_16 := z111 Hn1_2
        refine dn 98319 (sw0 []) ?_
        exact d_edge hU1 (N1_22 Hn1_2 ln1_2 b1_15 b1_16 u1_0 u1_2 h1_0 h1_2 mz1_16) ⟨rfl, rfl, rfl, rfl, rfl, rfl, rfl, rfl, rfl, trivial⟩ [1, 0] (by decide) rfl (fun _ h => h)
      have N1_25 (Hn1_3 : Hp) (ln1_3 : HLe Hb0_0 Hn1_3) (b1_16 : Nat) (u1_0 : List Value) (u1_2 : List Value) (h1_0 : Rp.rep (α := TunnelBook) Hn1_3 u1_0 p0) (h1_2 : Rp.rep (α := TunnelBook) Hn1_3 u1_2 p0) (mz1_16 : Rp.rep (α := Arr 4 Int) Hn1_3 [.int .i64 0, .int .i64 0, .int .i64 0, .int .i64 0] [0, 0, 0, 0]) : At 89 [] (Kp.mk w H noX) [(2, .int .i64 p2), (3, .int .i64 p3), (4, .pointer (some ⟨b0_0, 0, none⟩)), (11, .pointer (some ⟨b1_16, 0, none⟩)), (16, .agg u1_0.toArray), (17, v1), (18, .agg u1_2.toArray), (19, .int .i64 p2)] Hn1_3 ([.box b1_16 [.int .i64 0, .int .i64 0, .int .i64 0, .int .i64 0] 111]) (U1 (Sw Hn1_3 []) 15 (bits 20 65551)) := by
        refine d_fwd hU1 ?_
        have hb0_0 := PAt.mono ln1_3 hb0_0
        have h1 := Sl.mono ln1_3 h1
        have hg := Glob.mono ln1_3 hg
        refine d_all (rs := [4, 15]) (by kernel_rfl) rfl ⟨⟨_, rfl, ?_⟩, ⟨_, rfl, ?_⟩, trivial⟩
        · refine e_callV (all := [.agg u1_2.toArray, .int .i64 p2]) (v := .bool x1_4) trivial rfl Tryd.func88 rfl rfl rfl rfl rfl (fun w hw => ok_88 hw h1_2 q1_4) ?_
          refine dn 65567 (sw0 []) ?_
          exact d_edge hU1 (N1_21 Hn1_3 ln1_3 b1_16 u1_0 h1_0 mz1_16) ⟨rfl, rfl, rfl, rfl, rfl, rfl, rfl, trivial⟩ [0] (by decide) rfl (fun _ h => h)
        refine e_alloc (cs := [.slice none 0 0, .slice none 0 0, .map none]) trivial rfl ty110 rfl ?_
        intro b1_15
        refine dn 98319 (sw0 []) ?_
        exact d_edge hU1 (N1_22 Hn1_3 ln1_3 b1_15 b1_16 u1_0 u1_2 h1_0 h1_2 mz1_16) ⟨rfl, rfl, rfl, rfl, rfl, rfl, rfl, rfl, rfl, trivial⟩ [0, 1] (by decide) rfl (fun _ h => h)
      refine d_fwd hU1 ?_
      obtain ⟨u1_0, h1_0, c1_0⟩ := PAt.one hb0_0
      refine dt 0 1 rfl trivial (y_load_cells ty25 rfl (fun _ h => h.1) rfl c1_0 (Rp.len h1_0)) (sw0 []) ?_
      refine dt 1 3 rfl trivial (y_move rfl) (sw0 []) ?_
      obtain ⟨u1_2, h1_2, c1_2⟩ := PAt.one hb0_0
      refine dt 2 7 rfl trivial (y_load_cells ty25 rfl (fun _ h => h.1) rfl c1_2 (Rp.len h1_2)) (sw0 []) ?_
      refine dt 3 15 rfl trivial (y_move rfl) (sw0 []) ?_
      refine d_all (rs := [4, 15, 16]) (by kernel_rfl) rfl ⟨⟨_, rfl, ?_⟩, ⟨_, rfl, ?_⟩, ⟨_, rfl, ?_⟩, trivial⟩
      · refine e_callV (all := [.agg u1_2.toArray, .int .i64 p2]) (v := .bool x1_4) trivial rfl Tryd.func88 rfl rfl rfl rfl rfl (fun w hw => ok_88 hw h1_2 q1_4) ?_
        refine dn 31 (sw0 []) ?_
        exact d_edge hU1 (N1_23 Hb0_0 (HLe.refl _) u1_0 h1_0) ⟨rfl, rfl, rfl, rfl, rfl, rfl, trivial⟩ [] (by decide) rfl (fun _ h => h)
      · refine e_alloc (cs := [.slice none 0 0, .slice none 0 0, .map none]) trivial rfl ty110 rfl ?_
        intro b1_15
        refine dn 32783 (sw0 []) ?_
        exact d_edge hU1 (N1_24 Hb0_0 (HLe.refl _) b1_15 u1_0 u1_2 h1_0 h1_2) ⟨rfl, rfl, rfl, rfl, rfl, rfl, rfl, rfl, trivial⟩ [0] (by decide) rfl (fun _ h => h)
      refine e_alloc (cs := [.int .i64 0, .int .i64 0, .int .i64 0, .int .i64 0]) trivial rfl ty111 rfl ?_
      intro b1_16
      have mz1_16 := z111 Hb0_0
      refine dn 65551 (sw0 []) ?_
      exact d_edge hU1 (N1_25 Hb0_0 (HLe.refl _) b1_16 u1_0 u1_2 h1_0 h1_2 mz1_16) ⟨rfl, rfl, rfl, rfl, rfl, rfl, rfl, rfl, trivial⟩ [0] (by decide) rfl (fun _ h => h)
    have hm := cond_f k1_10 hm
    refine d_region (S := Sw Hb0_0 []) (n := 20) (listed := (bits 20 0)) mixed (by kernel_rfl) rfl (by kernel_rfl) ?_
    refine d_abs fun U1 hU1 => ?_
    have N1_0 (Hn1_10 : Hp) (ln1_10 : HLe Hb0_0 Hn1_10) (b1_15 : Nat) (b1_16 : Nat) (M1_10 : Nat) (cb1_10 : List Value) (cs1_10 : List Value) (hb1_10 : Rp.rep (α := Bk (some M1_10)) Hn1_10 cb1_10 x1_10.1) (hc1_10 : Rp.rep (α := Arr 4 Int) Hn1_10 cs1_10 x1_10.2.1) : At 89 [] (Kp.mk w H noX) [(2, .int .i64 p2), (3, .int .i64 p3), (4, .pointer (some ⟨b0_0, 0, none⟩)), (10, .pointer (some ⟨b1_15, 0, none⟩)), (11, .pointer (some ⟨b1_16, 0, none⟩)), (29, .int .i64 x1_10.2.2)] Hn1_10 [.blk M1_10 (Memo x1_10.1), .box b1_15 cb1_10 110, .box b1_16 cs1_10 111] (U1 (Sw Hn1_10 []) 1 (bits 20 524287)) := by
      refine d_fwd hU1 ?_
      have hb0_0 := PAt.mono ln1_10 hb0_0
      have hg := Glob.mono ln1_10 hg
      refine dt 19 1048575 rfl trivial (y_assign rfl) (sw0 []) ?_
      refine d_done (by kernel_rfl) ?_
      refine a_freeze (α := Bk _) (x := x1_10.1) (i := 1) rfl hb1_10 ?_
      intro Hb1_15 lb1_15 hb1_15
      have hb0_0 := PAt.mono lb1_15 hb0_0
      have hc1_10 := Rp.mono lb1_15 hc1_10
      have hg := Glob.mono lb1_15 hg
      refine a_freeze (α := Arr 4 Int) (x := x1_10.2.1) (i := 2) rfl hc1_10 ?_
      intro Hb1_16 lb1_16 hb1_16
      have hb0_0 := PAt.mono lb1_16 hb0_0
      have hb1_15 := PAt.mono lb1_16 hb1_15
      have hg := Glob.mono lb1_16 hg
      refine a_en [(2, .int .i64 p2), (3, .int .i64 p3), (4, .pointer (some ⟨b0_0, 0, none⟩)), (10, .pointer (some ⟨b1_15, 0, none⟩)), (11, .pointer (some ⟨b1_16, 0, none⟩)), (12, .int .i64 x1_10.2.2)] ?_
      refine a_own [0] (by decide) (L' := [.blk M1_10 (Memo x1_10.1)]) rfl ?_
      refine a_then (a_seq (a_seq (a_region rfl ?_)))
      refine ap (y_move rfl) ?_
      refine ap (y_neq rfl rfl) ?_
      refine a_nil ?_
      refine a_en [(2, .int .i64 p2), (3, .int .i64 p3), (4, .pointer (some ⟨b0_0, 0, none⟩)), (10, .pointer (some ⟨b1_15, 0, none⟩)), (11, .pointer (some ⟨b1_16, 0, none⟩)), (12, .int .i64 x1_10.2.2), (31, .bool (x1_10.2.2 != 0))] ?_
      refine a_then ?_
      refine a_cond rfl (fun h_ => absurd (h_.symm.trans k1_10) (by decide)) (fun _ => ?_)
      refine a_skip (a_then (a_seq (a_seq (a_region rfl ?_))))
      obtain ⟨u4_0, h4_0, c4_0⟩ := PAt.one hb1_15
      refine ap (y_load_cells ty110 rfl (fun _ h => h.sub) rfl c4_0 (Rp.len h4_0)) ?_
      refine ap (y_move rfl) ?_
      obtain ⟨u4_2, h4_2, c4_2⟩ := PAt.one hb1_16
      refine ap (y_load_cells ty111 rfl (fun _ h => h.sub) rfl c4_2 (Rp.len h4_2)) ?_
      have m4_3 : Rp.rep Hb1_16 ([Value.int .i64 p2] ++ (u4_2)) (⟨p2, x1_10.2.1⟩ : TunnelDrying) := ⟨_, _, rfl, rfl, h4_2⟩
      refine ap (y_build (pl := [(0, 1), (1, 4)]) (xs := [.tmp 34, .tmp 35]) (cs := [Value.int .i64 p2] ++ (u4_2)) ty120 (.cons ⟨rfl, ty3.szOf⟩ (.cons ⟨rfl, ty111.szOf⟩ (All2.nil))) rfl rfl ⟨_, rfl, rfl, ⟨_, by show List.length _ = _; exact Rp.len h4_2, rfl, trivial⟩⟩ (by rw [Rp.len m4_3]; rfl) (by simp [Value.cells])) ?_
      obtain ⟨x4_4, q4_4, hm⟩ := bind_some hm
      refine a_cons (e_callM (i := 0) (all := [.agg u4_0.toArray, .agg ([Value.int .i64 p2] ++ (u4_2)).toArray]) trivial rfl Tryd.func104 rfl rfl rfl rfl rfl rfl (fun w hw ho hn => ok_104 hw h4_0 m4_3 hg ho hn q4_4) ?_)
      rintro _ H4_4 l4_4 ⟨rfl⟩
      have hb0_0 := PAt.mono l4_4 hb0_0
      have hb1_15 := PAt.mono l4_4 hb1_15
      have hb1_16 := PAt.mono l4_4 hb1_16
      have h4_0 := Rp.mono l4_4 h4_0
      have h4_2 := Rp.mono l4_4 h4_2
      have m4_3 := Rp.mono l4_4 m4_3
      have hg := Glob.mono l4_4 hg
      refine ap (y_not rfl) ?_
      refine a_nil ?_
      refine a_en [(2, .int .i64 p2), (3, .int .i64 p3), (4, .pointer (some ⟨b0_0, 0, none⟩)), (11, .pointer (some ⟨b1_16, 0, none⟩)), (38, .bool (!x4_4))] ?_
      refine a_then ?_
      refine a_cond rfl (fun k_1 => ?_) (fun k_1 => ?_)
      · have hm := cond_t k_1 hm
        refine a_seq (a_region rfl ?_)
        refine ap (y_assign rfl) ?_
        refine ap (y_assign rfl) ?_
        refine a_nil ?_
        refine a_en [(8, .int .i64 0), (9, .int .i64 4)] ?_
        refine a_then (a_ret (a_then_ret ?_))
        refine a_done (v := .tuple #[.int .i64 0, .int .i64 4]) (.inl rfl) rfl ?_ ?_
        · intro a_ w_ ha_ hs_; exact run_results (P := Tryd.prog) (fn := Tryd.f39) (rs := [.tmp 8, .tmp 9]) (vs := [.int .i64 0, .int .i64 4]) rfl (.cons (rv_tmp ha_ rfl) (.cons (rv_tmp ha_ rfl) (All2.nil)))
        · intro _ _; obtain rfl := Option.some.inj hm
          rfl
      have hm := cond_f k_1 hm
      refine a_skip (a_then (a_seq (a_seq (a_region rfl ?_))))
      have h6_0 := TunnelBook.at_Frames hb0_0
      refine ap (y_fieldAddr fo25_1 rfl) ?_
      obtain ⟨v6_1, h6_1, c6_1⟩ := PAt.sl h6_0
      refine ap (y_load_one ty23 rfl (fun _ h => h.sub) rfl c6_1) ?_
      refine ap (y_move rfl) ?_
      obtain ⟨x6_3, q6_3, hm⟩ := bind_some hm
      obtain ⟨b6_3, o6_3, c6_3, e6_3, h6_3⟩ := Sl.elemZ 3 rfl h6_1 q6_3
      refine ap (y_index Tryd.underlying23 ty55 rfl e6_3 rfl (nth_in q6_3)) ?_
      have h6_4 := TunnelFrame.at_Stay h6_3
      refine ap (y_fieldAddr fo55_0 rfl) ?_
      obtain ⟨v6_5, h6_5, c6_5⟩ := PAt.sl h6_4
      refine ap (y_load_one ty26 rfl (fun _ h => h.sub) rfl c6_5) ?_
      refine ap (y_move rfl) ?_
      obtain ⟨x6_7, q6_7, hm⟩ := bind_some hm
      obtain ⟨b6_7, o6_7, c6_7, e6_7, h6_7⟩ := Sl.elemZ 1 rfl h6_5 q6_7
      refine ap (y_index Tryd.underlying26 ty3 rfl e6_7 rfl (nth_in q6_7)) ?_
      refine ap (y_load_int ty3 rfl (fun _ h => h.sub) rfl h6_7) ?_
      refine ap (y_sub rfl rfl) ?_
      refine ap (y_assign rfl) ?_
      refine a_nil ?_
      refine a_en [(2, .int .i64 p2), (3, .int .i64 p3), (4, .pointer (some ⟨b0_0, 0, none⟩)), (11, .pointer (some ⟨b1_16, 0, none⟩)), (13, .int .i64 (IntKind.i64.wrap (20 - x6_7)))] ?_
      refine a_then ?_
      obtain ⟨s_j2, hs_j2, hm_j2⟩ := bind_some hm
      refine a_join (fun a_ w_ => ∃ (Hj2 : Hp), ∃ (_ : HLe H4_4 Hj2), Sum.inr () = s_j2 ∧ Ag 89 [] [] a_ ∧ St (Kp.mk w H noX) Hj2 [.blk M1_10 (Memo x1_10.1)] w_) ?_ ?_
      · have hm := hs_j2
        refine a_block ?_
        refine a_loop (fun n_j3 a_ w_ => ∃ (Hj3 : Hp), ∃ (_ : HLe H4_4 Hj3), ∃ (yj3_13 : Int), tunnel_Longer_lj3 k p0 p2 p3 x1_10 n_j3 yj3_13 = some s_j2 ∧ Ag 89 [] [(2, .int .i64 p2), (3, .int .i64 p3), (4, .pointer (some ⟨b0_0, 0, none⟩)), (11, .pointer (some ⟨b1_16, 0, none⟩)), (13, .int .i64 yj3_13)] a_ ∧ St (Kp.mk w H noX) Hj3 [.blk M1_10 (Memo x1_10.1)] w_) k ?_ ?_
        · intro a_ w_ ha_ hs_
          exact ⟨H4_4, (HLe.refl _), IntKind.i64.wrap (20 - x6_7), hm, ha_.weaken ⟨rfl, rfl, rfl, rfl, rfl, trivial⟩, hs_.reix [0] (by decide)⟩
        rintro (_ | n_j3) a_ w_ ⟨Hj3, lj3, yj3_13, hm, ha_, hs_⟩
        · rw [tunnel_Longer_lj3.eq_1] at hm; cases hm
        rw [tunnel_Longer_lj3.eq_2] at hm
        refine a_start ha_ hs_ ?_
        have hb0_0 := PAt.mono lj3 hb0_0
        have hb1_16 := PAt.mono lj3 hb1_16
        have hg := Glob.mono lj3 hg
        refine a_seq (a_seq (a_region rfl ?_))
        refine ap (y_move rfl) ?_
        refine ap (y_gtr rfl rfl) ?_
        refine a_nil ?_
        refine a_en [(2, .int .i64 p2), (3, .int .i64 p3), (4, .pointer (some ⟨b0_0, 0, none⟩)), (11, .pointer (some ⟨b1_16, 0, none⟩)), (13, .int .i64 yj3_13), (50, .bool (decide (yj3_13 > 0)))] ?_
        refine a_then ?_
        refine a_cond rfl (fun k_4 => ?_) (fun k_4 => ?_)
        · have hm := cond_t k_4 hm
          refine a_skip (a_then (a_seq (a_block (a_seq (a_region rfl ?_)))))
          obtain ⟨u9_0, h9_0, c9_0⟩ := PAt.one hb0_0
          refine ap (y_load_cells ty25 rfl (fun _ h => h.sub) rfl c9_0 (Rp.len h9_0)) ?_
          refine a_cons (e_alloc (cs := [.slice none 0 0, .slice none 0 0]) trivial rfl ty25 rfl ?_)
          intro b9_1
          refine a_cons (e_storeWhole (i := 0) (ds := u9_0) trivial ty25 rfl rfl rfl rfl (Rp.len h9_0) ((Rp.one h9_0)) rfl ?_)
          refine a_nil ?_
          obtain ⟨v9o9_1_0, v9o9_1_1, rfl, h9o9_1_0, h9o9_1_1⟩ := TunnelBook.opened h9_0
          refine a_en [(2, .int .i64 p2), (3, .int .i64 p3), (4, .pointer (some ⟨b0_0, 0, none⟩)), (11, .pointer (some ⟨b1_16, 0, none⟩)), (13, .int .i64 yj3_13), (14, .pointer (some ⟨b9_1, 0, none⟩))] ?_
          refine a_then (a_seq (a_region rfl ?_))
          have h10_0 := TunnelBook.at_Frames hb0_0
          refine ap (y_fieldAddr fo25_1 rfl) ?_
          obtain ⟨v10_1, h10_1, c10_1⟩ := PAt.sl h10_0
          refine ap (y_load_one ty23 rfl (fun _ h => h.sub) rfl c10_1) ?_
          obtain ⟨x10_2, q10_2, hm⟩ := bind_some hm
          refine a_cons (e_callO (all := [v10_1]) trivial rfl Tryd.func105 rfl rfl rfl rfl rfl (fun w hw => ok_105 hw h10_1 q10_2) ?_)
          rintro v10_2 H10_2 _ l10_2 ⟨u10_2, rfl, h10_2⟩
          have hb0_0 := PAt.mono l10_2 hb0_0
          have hb1_16 := PAt.mono l10_2 hb1_16
          have h10_0 := PAt.mono l10_2 h10_0
          have h10_1 := Sl.mono l10_2 h10_1
          have h9o9_1_0 := Sl.mono l10_2 h9o9_1_0
          have h9o9_1_1 := Sl.mono l10_2 h9o9_1_1
          have hg := Glob.mono l10_2 hg
          refine ap (y_fieldAddr fo25_1 rfl) ?_
          refine a_cons (e_storeLR (i := 1) (j := 0) (cs' := [v9o9_1_0, v10_2]) trivial ty23 rfl rfl rfl rfl (Nat.le_of_ble_eq_true rfl) rfl ?_)
          refine a_nil ?_
          refine a_en [(2, .int .i64 p2), (3, .int .i64 p3), (4, .pointer (some ⟨b0_0, 0, none⟩)), (11, .pointer (some ⟨b1_16, 0, none⟩)), (13, .int .i64 yj3_13), (14, .pointer (some ⟨b9_1, 0, none⟩))] ?_
          refine a_then (a_seq ?_)
          obtain ⟨x11_6, q11_6, hm⟩ := bind_some hm
          obtain ⟨x11_9, q11_9, hm⟩ := bind_some hm
          obtain ⟨x11_10, q11_10, hm⟩ := bind_some hm
          refine d_region (S := Sw H10_2 [.box b9_1 [v9o9_1_0, v10_2] 25]) (n := 13) (listed := (bits 13 0)) mixed (by kernel_rfl) rfl (by kernel_rfl) ?_
          refine dt 0 1 rfl trivial (y_fieldAddr fo25_1 rfl) (sw0 [1]) ?_
          refine dt 1 3 rfl trivial (y_load_box ty23 rfl (knows_sw (i := 0) rfl) rfl rfl) (sw0 [1]) ?_
          refine dt 2 7 rfl trivial (y_move rfl) (sw0 [1]) ?_
          have h11_3 := TunnelBook.at_Frames hb0_0
          refine dt 3 15 rfl trivial (y_fieldAddr fo25_1 rfl) (sw0 [1]) ?_
          obtain ⟨v11_4, h11_4, c11_4⟩ := PAt.sl h11_3
          refine dt 4 31 rfl trivial (y_load_one ty23 rfl (fun _ h => h.1) rfl c11_4) (sw0 [1]) ?_
          refine dt 5 63 rfl trivial (y_move rfl) (sw0 [1]) ?_
          obtain ⟨b11_6, o11_6, c11_6, e11_6, h11_6⟩ := Sl.elemZ 3 rfl h11_4 q11_6
          refine dt 6 127 rfl trivial (y_index Tryd.underlying23 ty55 rfl e11_6 rfl (nth_in q11_6)) (sw0 [1]) ?_
          have h11_7 := TunnelFrame.at_Stay h11_6
          refine dt 7 255 rfl trivial (y_fieldAddr fo55_0 rfl) (sw0 [1]) ?_
          obtain ⟨v11_8, h11_8, c11_8⟩ := PAt.sl h11_7
          refine dt 8 511 rfl trivial (y_load_one ty26 rfl (fun _ h => h.1) rfl c11_8) (sw0 [1]) ?_
          refine d1 9 rfl (e_callO (all := [v11_8]) trivial rfl Tryd.func106 rfl rfl rfl rfl rfl (fun w hw => ok_106 hw h11_8 q11_9) ?_)
          rintro v11_9 H11_9 _ l11_9 ⟨u11_9, rfl, h11_9⟩
          have hb0_0 := PAt.mono l11_9 hb0_0
          have hb1_16 := PAt.mono l11_9 hb1_16
          have h11_3 := PAt.mono l11_9 h11_3
          have h11_4 := Sl.mono l11_9 h11_4
          have h11_6 := PAt.mono l11_9 h11_6
          have h11_7 := PAt.mono l11_9 h11_7
          have h11_8 := Sl.mono l11_9 h11_8
          have h9o9_1_0 := Sl.mono l11_9 h9o9_1_0
          have h10_2 := RepL.mono l11_9 h10_2
          have hg := Glob.mono l11_9 hg
          refine dn 1023 (swl l11_9 [2]) ?_
          refine a_rowplace (i := 1) rfl rfl rfl h10_2 q11_10 ?_
          rintro b11_10 c11_10 rfl
          refine d1 10 rfl (p_pure trivial rfl rfl (y_index Tryd.underlying23 ty55 rfl rfl rfl (nth_in q11_10)) ?_)
          refine dn 2047 (swl l11_9 [2]) ?_
          refine d_weaken (S' := Sw H11_9 [.box b9_1 [v9o9_1_0, .slice (some ⟨b11_10, 0, none⟩) (x10_2).length c11_10] 25]) (sw_sw l11_9 [0] rfl) ?_
          refine dt 11 4095 rfl trivial (y_fieldAddr fo55_0 rfl) (sw0 [2]) ?_
          have hl11_12 : (0 + (p2).toNat * 3 + 0) + 1 ≤ (u10_2).length := by rw [RepL.len h10_2]; exact (PutL.at0 3 rfl q11_10 (TunnelFrame.put_Stay (s := x11_10) (Put.here (α := List Int) (H := H11_9) (ds := [.slice none 0 0]) (v := []) ⟨_, rfl, sl_nil _ none 0⟩))).le
          refine d1 12 rfl (e_storeRowP (i := 1) (j := 0) trivial ty26 rfl rfl rfl rfl (.inr trivial) hl11_12 ?_)
          rintro u11_12 hc11_12
          refine dn 8191 (sw0 [2]) ?_
          refine d_done (by kernel_rfl) ?_
          refine a_en [(2, .int .i64 p2), (3, .int .i64 p3), (4, .pointer (some ⟨b0_0, 0, none⟩)), (11, .pointer (some ⟨b1_16, 0, none⟩)), (13, .int .i64 yj3_13), (14, .pointer (some ⟨b9_1, 0, none⟩))] ?_
          refine a_then (a_seq (a_region rfl ?_))
          refine ap (y_fieldAddr fo25_1 rfl) ?_
          refine ap (y_load_box ty23 rfl (knows_box (i := 2) rfl) rfl rfl) ?_
          refine ap (y_move rfl) ?_
          obtain ⟨x12_3, q12_3, hm⟩ := bind_some hm
          refine ap (y_index Tryd.underlying23 ty55 rfl rfl rfl (nth_in q12_3)) ?_
          refine ap (y_fieldAddr fo55_0 rfl) ?_
          refine ap (y_load_row (i := 1) ty26 rfl rfl rfl (take_get' hc11_12 hl11_12)) ?_
          refine ap (y_move rfl) ?_
          obtain ⟨x12_7, q12_7, hm⟩ := bind_some hm
          refine a_rowplace (i := 0) rfl rfl rfl h11_9 q12_7 ?_
          rintro b12_7 c12_7 rfl
          refine ap (y_index Tryd.underlying26 ty3 rfl rfl rfl (nth_in q12_7)) ?_
          refine ap (y_load_row (i := 0) ty3 rfl rfl rfl (repL_int_get h11_9 q12_7)) ?_
          refine ap (y_move rfl) ?_
          refine ap (y_add rfl rfl) ?_
          obtain ⟨x12_11, q12_11, hm⟩ := bind_some hm
          refine ap (y_index Tryd.underlying26 ty3 rfl rfl rfl (nth_in q12_11)) ?_
          refine a_cons (e_storeRow (α := Int) (i := 0) (ds := [.int .i64 (IntKind.i64.wrap (x12_7 + yj3_13))]) (l' := (x11_9).set (p3).toNat (IntKind.i64.wrap (x12_7 + yj3_13))) trivial ty3 rfl rfl rfl rfl rfl (cells_one_int _) rfl h11_9 (PutL.at00 1 rfl q12_11 rfl) ?_)
          intro u12_12 h12_12
          refine a_nil ?_
          refine a_en [(2, .int .i64 p2), (3, .int .i64 p3), (4, .pointer (some ⟨b0_0, 0, none⟩)), (11, .pointer (some ⟨b1_16, 0, none⟩)), (13, .int .i64 yj3_13), (14, .pointer (some ⟨b9_1, 0, none⟩))] ?_
          refine a_then (a_seq ?_)
          obtain ⟨x13_5, q13_5, hm⟩ := bind_some hm
          refine d_region (S := Sw H11_9 [.box b9_1 [v9o9_1_0, .slice (some ⟨b11_10, 0, none⟩) (x10_2).length c11_10] 25]) (n := 6) (listed := (bits 6 0)) mixed (by kernel_rfl) rfl (by kernel_rfl) ?_
          refine dt 0 1 rfl trivial (y_load_boxagg ty25 rfl (knows_sw (i := 0) rfl) rfl rfl rfl) (sw0 [2]) ?_
          refine dt 2 5 rfl trivial (y_move rfl) (sw0 [2]) ?_
          obtain ⟨u13_3, h13_3, c13_3⟩ := PAt.one hb1_16
          refine dt 3 13 rfl trivial (y_load_cells ty111 rfl (fun _ h => h.1) rfl c13_3 (Rp.len h13_3)) (sw0 [2]) ?_
          have m13_4 : Rp.rep H11_9 ([Value.int .i64 p2] ++ (u13_3)) (⟨p2, x1_10.2.1⟩ : TunnelDrying) := ⟨_, _, rfl, rfl, h13_3⟩
          refine dt 4 29 rfl trivial (y_build (pl := [(0, 1), (1, 4)]) (xs := [.tmp 84, .tmp 85]) (cs := [Value.int .i64 p2] ++ (u13_3)) ty120 (.cons ⟨rfl, ty3.szOf⟩ (.cons ⟨rfl, ty111.szOf⟩ (All2.nil))) rfl rfl ⟨_, rfl, rfl, ⟨_, by show List.length _ = _; exact Rp.len h13_3, rfl, trivial⟩⟩ (by rw [Rp.len m13_4]; rfl) (by simp [Value.cells])) (sw0 [2]) ?_
          refine a_frow (i := 0) rfl rfl h12_12 rfl ?_
          intro H13_1q0pf l13_1q0pf h13_1q0pf
          have hb0_0 := PAt.mono l13_1q0pf hb0_0
          have hb1_16 := PAt.mono l13_1q0pf hb1_16
          have h9o9_1_0 := Sl.mono l13_1q0pf h9o9_1_0
          have h13_3 := Rp.mono l13_1q0pf h13_3
          have m13_4 := Rp.mono l13_1q0pf m13_4
          have h10_2 := RepL.mono l13_1q0pf h10_2
          have hg := Glob.mono l13_1q0pf hg
          have hs13_1q0 : RepL (α := TunnelFrame) H13_1q0pf u11_12 ((x10_2).set (p2).toNat ((⟨(x11_9).set (p3).toNat (IntKind.i64.wrap (x12_7 + yj3_13)), x11_10.Need⟩ : TunnelFrame))) := by rw [hc11_12]; exact (PutL.put (PutL.at0 3 rfl q11_10 (TunnelFrame.put_Stay (s := x11_10) (Put.here ⟨_, rfl, h13_1q0pf⟩))) _ h10_2)
          refine a_frow (i := 1) rfl rfl hs13_1q0 rfl ?_
          intro H13_1q0f l13_1q0f h13_1q0f
          have hb0_0 := PAt.mono l13_1q0f hb0_0
          have hb1_16 := PAt.mono l13_1q0f hb1_16
          have h9o9_1_0 := Sl.mono l13_1q0f h9o9_1_0
          have h13_3 := Rp.mono l13_1q0f h13_3
          have m13_4 := Rp.mono l13_1q0f m13_4
          have hg := Glob.mono l13_1q0f hg
          have m13_1g0l : Rp.rep H13_1q0f [v9o9_1_0, .slice (some ⟨b11_10, 0, none⟩) (x10_2).length c11_10] (⟨p0.Parts, (x10_2).set (p2).toNat ((⟨(x11_9).set (p3).toNat (IntKind.i64.wrap (x12_7 + yj3_13)), x11_10.Need⟩ : TunnelFrame))⟩ : TunnelBook) := ⟨_, _, rfl, ⟨_, rfl, h9o9_1_0⟩, ⟨_, rfl, h13_1q0f⟩⟩
          refine d1 1 rfl (e_callO (all := [.agg [v9o9_1_0, .slice (some ⟨b11_10, 0, none⟩) (x10_2).length c11_10].toArray]) trivial rfl Tryd.func95 rfl rfl rfl rfl rfl (fun w hw => ok_95 hw m13_1g0l ) ?_)
          rintro _ H13_1 _ l13_1 ⟨M13_1, rfl, rfl⟩
          have hb0_0 := PAt.mono l13_1 hb0_0
          have hb1_16 := PAt.mono l13_1 hb1_16
          have h9o9_1_0 := Sl.mono l13_1 h9o9_1_0
          have h13_1q0f := Sl.mono l13_1 h13_1q0f
          have h13_3 := Rp.mono l13_1 h13_3
          have m13_4 := Rp.mono l13_1 m13_4
          have hg := Glob.mono l13_1 hg
          have m13_1g0l := Rp.mono l13_1 m13_1g0l
          have m13_1 : Rp.rep (α := Bk (some M13_1)) H13_1 ([v9o9_1_0, .slice (some ⟨b11_10, 0, none⟩) (x10_2).length c11_10] ++ [Value.map (some M13_1)]) ((⟨p0.Parts, (x10_2).set (p2).toNat ((⟨(x11_9).set (p3).toNat (IntKind.i64.wrap (x12_7 + yj3_13)), x11_10.Need⟩ : TunnelFrame))⟩ : TunnelBook)) := ⟨_, rfl, m13_1g0l⟩
          refine dn 31 (swl (l13_1q0pf.trans (l13_1q0f.trans l13_1)) [3]) ?_
          refine d1 5 rfl (e_callM (i := 0) (all := [.agg ([v9o9_1_0, .slice (some ⟨b11_10, 0, none⟩) (x10_2).length c11_10] ++ [Value.map (some M13_1)]).toArray, .agg ([Value.int .i64 p2] ++ (u13_3)).toArray]) trivial rfl Tryd.func104 rfl rfl rfl rfl rfl rfl (fun w hw ho hn => ok_104 hw m13_1 m13_4 hg ho hn q13_5) ?_)
          rintro _ H13_5 l13_5 ⟨rfl⟩
          have hb0_0 := PAt.mono l13_5 hb0_0
          have hb1_16 := PAt.mono l13_5 hb1_16
          have h9o9_1_0 := Sl.mono l13_5 h9o9_1_0
          have h13_1q0f := Sl.mono l13_5 h13_1q0f
          have h13_3 := Rp.mono l13_5 h13_3
          have m13_4 := Rp.mono l13_5 m13_4
          have m13_1 := Rp.mono l13_5 m13_1
          have hg := Glob.mono l13_5 hg
          refine dn 63 (swl (l13_1q0pf.trans (l13_1q0f.trans (l13_1.trans l13_5))) [3]) ?_
          refine d_done (by kernel_rfl) ?_
          refine a_en [(2, .int .i64 p2), (3, .int .i64 p3), (4, .pointer (some ⟨b0_0, 0, none⟩)), (11, .pointer (some ⟨b1_16, 0, none⟩)), (13, .int .i64 yj3_13), (87, .bool x13_5)] ?_
          refine a_own [0, 4] (by decide) (L' := [.blk M13_1 (Memo ((⟨p0.Parts, (x10_2).set (p2).toNat ((⟨(x11_9).set (p3).toNat (IntKind.i64.wrap (x12_7 + yj3_13)), x11_10.Need⟩ : TunnelFrame))⟩ : TunnelBook))), .blk M1_10 (Memo x1_10.1)]) rfl ?_
          refine a_then ?_
          refine a_cond rfl (fun k_5 => ?_) (fun k_5 => ?_)
          · have hm := cond_t k_5 hm
            refine a_seq (a_region rfl ?_)
            refine ap (y_move rfl) ?_
            refine ap (y_assign rfl) ?_
            refine ap (y_assign rfl) ?_
            refine a_nil ?_
            refine a_en [(8, .int .i64 yj3_13), (9, .int .i64 0)] ?_
            refine a_then (a_ret (a_block_ret (a_then_ret (a_then_ret (a_block_ret (a_cut_ret (a_then_ret ?_)))))))
            obtain rfl := Option.some.inj hm
            have hm := hm_j2
            try dsimp only at hm
            refine a_done (v := .tuple #[.int .i64 yj3_13, .int .i64 0]) (.inl rfl) rfl ?_ ?_
            · intro a_ w_ ha_ hs_; exact run_results (P := Tryd.prog) (fn := Tryd.f39) (rs := [.tmp 8, .tmp 9]) (vs := [.int .i64 yj3_13, .int .i64 0]) rfl (.cons (rv_tmp ha_ rfl) (.cons (rv_tmp ha_ rfl) (All2.nil)))
            · intro _ _; obtain rfl := Option.some.inj hm
              rfl
          have hm := cond_f k_5 hm
          refine a_skip (a_block_normal (a_then (a_region rfl ?_)))
          refine ap (y_move rfl) ?_
          refine ap (y_sub rfl rfl) ?_
          refine ap (y_assign rfl) ?_
          refine a_nil ?_
          refine a_en [(2, .int .i64 p2), (3, .int .i64 p3), (4, .pointer (some ⟨b0_0, 0, none⟩)), (11, .pointer (some ⟨b1_16, 0, none⟩)), (13, .int .i64 (IntKind.i64.wrap (yj3_13 - 1)))] ?_
          refine a_then ?_
          intro a_ w_ ha_ hs_
          exact ⟨n_j3, Nat.lt_succ_self _, H13_5, (lj3.trans (l10_2.trans (l11_9.trans (l13_1q0pf.trans (l13_1q0f.trans (l13_1.trans l13_5)))))), IntKind.i64.wrap (yj3_13 - 1), hm, ha_.weaken ⟨rfl, rfl, rfl, rfl, rfl, trivial⟩, hs_.reix [1] (by decide)⟩
        have hm := cond_f k_4 hm
        refine a_exit (a_then_exit (a_then_exit (a_block_hit (a_cut ?_))))
        intro a_ w_ ha_ hs_
        exact ⟨Hj3, lj3, Option.some.inj hm, ha_.weaken trivial, hs_.reix [0] (by decide)⟩
      have hm := hm_j2
      rintro a_ w_ ⟨Hj2, lj2, rfl, ha_, hs_⟩
      try dsimp only at hm
      refine a_start ha_ hs_ ?_
      have hg := Glob.mono lj2 hg
      refine a_then (a_seq (a_region rfl ?_))
      refine ap (y_assign rfl) ?_
      refine ap (y_assign rfl) ?_
      refine a_nil (a_then (a_ret ?_))
      refine a_done (v := .tuple #[.int .i64 0, .int .i64 0]) (.inl rfl) rfl ?_ ?_
      · intro a_ w_ ha_ hs_; exact run_results (P := Tryd.prog) (fn := Tryd.f39) (rs := [.tmp 8, .tmp 9]) (vs := [.int .i64 0, .int .i64 0]) rfl (.cons (rv_tmp ha_ rfl) (.cons (rv_tmp ha_ rfl) (All2.nil)))
      · intro _ _; obtain rfl := Option.some.inj hm
        rfl
    have N1_1 (Hn1_9 : Hp) (ln1_9 : HLe Hb0_0 Hn1_9) (b1_15 : Nat) (b1_16 : Nat) (cs1_10 : List Value) (M1_10 : Nat) (cb1_10 : List Value) (hc1_10 : Rp.rep (α := Arr 4 Int) Hn1_9 cs1_10 x1_10.2.1) (hb1_10 : Rp.rep (α := Bk (some M1_10)) Hn1_9 cb1_10 x1_10.1) (mz1_16 : Rp.rep (α := Arr 4 Int) Hn1_9 [.int .i64 0, .int .i64 0, .int .i64 0, .int .i64 0] [0, 0, 0, 0]) : At 89 [] (Kp.mk w H noX) [(2, .int .i64 p2), (3, .int .i64 p3), (4, .pointer (some ⟨b0_0, 0, none⟩)), (10, .pointer (some ⟨b1_15, 0, none⟩)), (11, .pointer (some ⟨b1_16, 0, none⟩)), (28, .agg cs1_10.toArray), (29, .int .i64 x1_10.2.2)] Hn1_9 ([.blk M1_10 (Memo x1_10.1), .box b1_15 cb1_10 110, .box b1_16 [.int .i64 0, .int .i64 0, .int .i64 0, .int .i64 0] 111]) (U1 (Sw Hn1_9 []) 2 (bits 20 262143)) := by
      refine d_fwd hU1 ?_
      have hb0_0 := PAt.mono ln1_9 hb0_0
      have hg := Glob.mono ln1_9 hg
      refine d1 18 rfl (e_storeWhole (i := 2) (ds := cs1_10) trivial ty111 rfl rfl rfl rfl (Rp.len hc1_10) ((Rp.one hc1_10)) rfl ?_)
      refine dn 524287 (sw0 []) ?_
      exact d_edge hU1 (N1_0 Hn1_9 ln1_9 b1_15 b1_16 M1_10 cb1_10 cs1_10 hb1_10 hc1_10) ⟨rfl, rfl, rfl, rfl, rfl, rfl, trivial⟩ [0, 1, 2] (by decide) rfl (fun _ h => h)
    have N1_2 (Hn1_15 : Hp) (ln1_15 : HLe Hb0_0 Hn1_15) (b1_15 : Nat) (b1_16 : Nat) (cb1_10 : List Value) (M1_10 : Nat) (cs1_10 : List Value) (hb1_10 : Rp.rep (α := Bk (some M1_10)) Hn1_15 cb1_10 x1_10.1) (hc1_10 : Rp.rep (α := Arr 4 Int) Hn1_15 cs1_10 x1_10.2.1) (mz1_16 : Rp.rep (α := Arr 4 Int) Hn1_15 [.int .i64 0, .int .i64 0, .int .i64 0, .int .i64 0] [0, 0, 0, 0]) : At 89 [] (Kp.mk w H noX) [(2, .int .i64 p2), (3, .int .i64 p3), (4, .pointer (some ⟨b0_0, 0, none⟩)), (10, .pointer (some ⟨b1_15, 0, none⟩)), (11, .pointer (some ⟨b1_16, 0, none⟩)), (27, .agg cb1_10.toArray), (28, .agg cs1_10.toArray), (29, .int .i64 x1_10.2.2)] Hn1_15 ([.blk M1_10 (Memo x1_10.1), .box b1_15 [.slice none 0 0, .slice none 0 0, .map none] 110, .box b1_16 [.int .i64 0, .int .i64 0, .int .i64 0, .int .i64 0] 111]) (U1 (Sw Hn1_15 []) 3 (bits 20 131071)) := by
      refine d_fwd hU1 ?_
      have hb0_0 := PAt.mono ln1_15 hb0_0
      have hg := Glob.mono ln1_15 hg
      refine d1 17 rfl (e_storeWhole (i := 1) (ds := cb1_10) trivial ty110 rfl rfl rfl rfl (Rp.len hb1_10) ((Rp.one hb1_10)) rfl ?_)
      refine dn 262143 (sw0 []) ?_
      exact d_edge hU1 (N1_1 Hn1_15 ln1_15 b1_15 b1_16 cs1_10 M1_10 cb1_10 hc1_10 hb1_10 mz1_16) ⟨rfl, rfl, rfl, rfl, rfl, rfl, rfl, trivial⟩ [0, 1, 2] (by decide) rfl (fun _ h => h)
    have N1_3 (Hn1_25 : Hp) (ln1_25 : HLe Hb0_0 Hn1_25) (b1_15 : Nat) (cb1_10 : List Value) (M1_10 : Nat) (cs1_10 : List Value) (hb1_10 : Rp.rep (α := Bk (some M1_10)) Hn1_25 cb1_10 x1_10.1) (hc1_10 : Rp.rep (α := Arr 4 Int) Hn1_25 cs1_10 x1_10.2.1) : At 89 [] (Kp.mk w H noX) [(2, .int .i64 p2), (3, .int .i64 p3), (4, .pointer (some ⟨b0_0, 0, none⟩)), (10, .pointer (some ⟨b1_15, 0, none⟩)), (27, .agg cb1_10.toArray), (28, .agg cs1_10.toArray), (29, .int .i64 x1_10.2.2)] Hn1_25 ([.blk M1_10 (Memo x1_10.1), .box b1_15 [.slice none 0 0, .slice none 0 0, .map none] 110]) (U1 (Sw Hn1_25 []) 4 (bits 20 65535)) := by
      refine d_fwd hU1 ?_
      have hb0_0 := PAt.mono ln1_25 hb0_0
      have hg := Glob.mono ln1_25 hg
      refine d1 16 rfl (e_alloc (cs := [.int .i64 0, .int .i64 0, .int .i64 0, .int .i64 0]) trivial rfl ty111 rfl ?_)
      intro b1_16
      have mz1_16 := z111 Hn1_25
      refine dn 131071 (sw0 []) ?_
      exact d_edge hU1 (N1_2 Hn1_25 ln1_25 b1_15 b1_16 cb1_10 M1_10 cs1_10 hb1_10 hc1_10 mz1_16) ⟨rfl, rfl, rfl, rfl, rfl, rfl, rfl, rfl, trivial⟩ [1, 2, 0] (by decide) rfl (fun _ h => h)
    have N1_4 (Hn1_26 : Hp) (ln1_26 : HLe Hb0_0 Hn1_26) (b1_16 : Nat) (cb1_10 : List Value) (M1_10 : Nat) (cs1_10 : List Value) (hb1_10 : Rp.rep (α := Bk (some M1_10)) Hn1_26 cb1_10 x1_10.1) (hc1_10 : Rp.rep (α := Arr 4 Int) Hn1_26 cs1_10 x1_10.2.1) (mz1_16 : Rp.rep (α := Arr 4 Int) Hn1_26 [.int .i64 0, .int .i64 0, .int .i64 0, .int .i64 0] [0, 0, 0, 0]) : At 89 [] (Kp.mk w H noX) [(2, .int .i64 p2), (3, .int .i64 p3), (4, .pointer (some ⟨b0_0, 0, none⟩)), (11, .pointer (some ⟨b1_16, 0, none⟩)), (27, .agg cb1_10.toArray), (28, .agg cs1_10.toArray), (29, .int .i64 x1_10.2.2)] Hn1_26 ([.blk M1_10 (Memo x1_10.1), .box b1_16 [.int .i64 0, .int .i64 0, .int .i64 0, .int .i64 0] 111]) (U1 (Sw Hn1_26 []) 4 (bits 20 98303)) := by
      refine d_fwd hU1 ?_
      have hb0_0 := PAt.mono ln1_26 hb0_0
      have hg := Glob.mono ln1_26 hg
      refine d1 15 rfl (e_alloc (cs := [.slice none 0 0, .slice none 0 0, .map none]) trivial rfl ty110 rfl ?_)
      intro b1_15
      refine dn 131071 (sw0 []) ?_
      exact d_edge hU1 (N1_2 Hn1_26 ln1_26 b1_15 b1_16 cb1_10 M1_10 cs1_10 hb1_10 hc1_10 mz1_16) ⟨rfl, rfl, rfl, rfl, rfl, rfl, rfl, rfl, trivial⟩ [1, 0, 2] (by decide) rfl (fun _ h => h)
    have N1_5 (Hn1_8 : Hp) (ln1_8 : HLe Hb0_0 Hn1_8) (b1_15 : Nat) (b1_16 : Nat) (cb1_10 : List Value) (M1_10 : Nat) (cs1_10 : List Value) (hb1_10 : Rp.rep (α := Bk (some M1_10)) Hn1_8 cb1_10 x1_10.1) (hc1_10 : Rp.rep (α := Arr 4 Int) Hn1_8 cs1_10 x1_10.2.1) (mz1_16 : Rp.rep (α := Arr 4 Int) Hn1_8 [.int .i64 0, .int .i64 0, .int .i64 0, .int .i64 0] [0, 0, 0, 0]) : At 89 [] (Kp.mk w H noX) [(2, .int .i64 p2), (3, .int .i64 p3), (4, .pointer (some ⟨b0_0, 0, none⟩)), (10, .pointer (some ⟨b1_15, 0, none⟩)), (11, .pointer (some ⟨b1_16, 0, none⟩)), (26, .tuple #[.agg cb1_10.toArray, .agg cs1_10.toArray, .int .i64 x1_10.2.2])] Hn1_8 ([.blk M1_10 (Memo x1_10.1), .box b1_15 [.slice none 0 0, .slice none 0 0, .map none] 110, .box b1_16 [.int .i64 0, .int .i64 0, .int .i64 0, .int .i64 0] 111]) (U1 (Sw Hn1_8 []) 7 (bits 20 100351)) := by
      refine d_fwd hU1 ?_
      have hb0_0 := PAt.mono ln1_8 hb0_0
      have hg := Glob.mono ln1_8 hg
      refine dt 11 102399 rfl trivial (y_move rfl) (sw0 []) ?_
      refine dt 12 106495 rfl trivial (y_extract rfl rfl) (sw0 []) ?_
      refine dt 13 114687 rfl trivial (y_extract rfl rfl) (sw0 []) ?_
      refine dt 14 131071 rfl trivial (y_extract rfl rfl) (sw0 []) ?_
      refine d1 17 rfl (e_storeWhole (i := 1) (ds := cb1_10) trivial ty110 rfl rfl rfl rfl (Rp.len hb1_10) ((Rp.one hb1_10)) rfl ?_)
      refine dn 262143 (sw0 []) ?_
      exact d_edge hU1 (N1_1 Hn1_8 ln1_8 b1_15 b1_16 cs1_10 M1_10 cb1_10 hc1_10 hb1_10 mz1_16) ⟨rfl, rfl, rfl, rfl, rfl, rfl, rfl, trivial⟩ [0, 1, 2] (by decide) rfl (fun _ h => h)
    have N1_6 (Hn1_18 : Hp) (ln1_18 : HLe Hb0_0 Hn1_18) (b1_15 : Nat) (cb1_10 : List Value) (M1_10 : Nat) (cs1_10 : List Value) (hb1_10 : Rp.rep (α := Bk (some M1_10)) Hn1_18 cb1_10 x1_10.1) (hc1_10 : Rp.rep (α := Arr 4 Int) Hn1_18 cs1_10 x1_10.2.1) : At 89 [] (Kp.mk w H noX) [(2, .int .i64 p2), (3, .int .i64 p3), (4, .pointer (some ⟨b0_0, 0, none⟩)), (10, .pointer (some ⟨b1_15, 0, none⟩)), (26, .tuple #[.agg cb1_10.toArray, .agg cs1_10.toArray, .int .i64 x1_10.2.2])] Hn1_18 ([.blk M1_10 (Memo x1_10.1), .box b1_15 [.slice none 0 0, .slice none 0 0, .map none] 110]) (U1 (Sw Hn1_18 []) 8 (bits 20 34815)) := by
      refine d_fwd hU1 ?_
      have hb0_0 := PAt.mono ln1_18 hb0_0
      have hg := Glob.mono ln1_18 hg
      refine dt 11 36863 rfl trivial (y_move rfl) (sw0 []) ?_
      refine dt 12 40959 rfl trivial (y_extract rfl rfl) (sw0 []) ?_
      refine dt 13 49151 rfl trivial (y_extract rfl rfl) (sw0 []) ?_
      refine dt 14 65535 rfl trivial (y_extract rfl rfl) (sw0 []) ?_
      refine d1 16 rfl (e_alloc (cs := [.int .i64 0, .int .i64 0, .int .i64 0, .int .i64 0]) trivial rfl ty111 rfl ?_)
      intro b1_16
      have mz1_16 := z111 Hn1_18
      refine dn 131071 (sw0 []) ?_
      exact d_edge hU1 (N1_2 Hn1_18 ln1_18 b1_15 b1_16 cb1_10 M1_10 cs1_10 hb1_10 hc1_10 mz1_16) ⟨rfl, rfl, rfl, rfl, rfl, rfl, rfl, rfl, trivial⟩ [1, 2, 0] (by decide) rfl (fun _ h => h)
    have N1_7 (Hn1_13 : Hp) (ln1_13 : HLe Hb0_0 Hn1_13) (b1_16 : Nat) (cb1_10 : List Value) (M1_10 : Nat) (cs1_10 : List Value) (hb1_10 : Rp.rep (α := Bk (some M1_10)) Hn1_13 cb1_10 x1_10.1) (hc1_10 : Rp.rep (α := Arr 4 Int) Hn1_13 cs1_10 x1_10.2.1) (mz1_16 : Rp.rep (α := Arr 4 Int) Hn1_13 [.int .i64 0, .int .i64 0, .int .i64 0, .int .i64 0] [0, 0, 0, 0]) : At 89 [] (Kp.mk w H noX) [(2, .int .i64 p2), (3, .int .i64 p3), (4, .pointer (some ⟨b0_0, 0, none⟩)), (11, .pointer (some ⟨b1_16, 0, none⟩)), (26, .tuple #[.agg cb1_10.toArray, .agg cs1_10.toArray, .int .i64 x1_10.2.2])] Hn1_13 ([.blk M1_10 (Memo x1_10.1), .box b1_16 [.int .i64 0, .int .i64 0, .int .i64 0, .int .i64 0] 111]) (U1 (Sw Hn1_13 []) 8 (bits 20 67583)) := by
      refine d_fwd hU1 ?_
      have hb0_0 := PAt.mono ln1_13 hb0_0
      have hg := Glob.mono ln1_13 hg
      refine dt 11 69631 rfl trivial (y_move rfl) (sw0 []) ?_
      refine dt 12 73727 rfl trivial (y_extract rfl rfl) (sw0 []) ?_
      refine dt 13 81919 rfl trivial (y_extract rfl rfl) (sw0 []) ?_
      refine dt 14 98303 rfl trivial (y_extract rfl rfl) (sw0 []) ?_
      refine d1 15 rfl (e_alloc (cs := [.slice none 0 0, .slice none 0 0, .map none]) trivial rfl ty110 rfl ?_)
      intro b1_15
      refine dn 131071 (sw0 []) ?_
      exact d_edge hU1 (N1_2 Hn1_13 ln1_13 b1_15 b1_16 cb1_10 M1_10 cs1_10 hb1_10 hc1_10 mz1_16) ⟨rfl, rfl, rfl, rfl, rfl, rfl, rfl, rfl, trivial⟩ [1, 0, 2] (by decide) rfl (fun _ h => h)
    have N1_8 (Hn1_14 : Hp) (ln1_14 : HLe Hb0_0 Hn1_14) (b1_15 : Nat) (b1_16 : Nat) (u1_0 : List Value) (h1_0 : Rp.rep (α := TunnelBook) Hn1_14 u1_0 p0) (mz1_16 : Rp.rep (α := Arr 4 Int) Hn1_14 [.int .i64 0, .int .i64 0, .int .i64 0, .int .i64 0] [0, 0, 0, 0]) : At 89 [] (Kp.mk w H noX) [(2, .int .i64 p2), (3, .int .i64 p3), (4, .pointer (some ⟨b0_0, 0, none⟩)), (10, .pointer (some ⟨b1_15, 0, none⟩)), (11, .pointer (some ⟨b1_16, 0, none⟩)), (16, .agg u1_0.toArray), (17, v1), (25, .bool x1_8)] Hn1_14 ([.box b1_15 [.slice none 0 0, .slice none 0 0, .map none] 110, .box b1_16 [.int .i64 0, .int .i64 0, .int .i64 0, .int .i64 0] 111]) (U1 (Sw Hn1_14 []) 8 (bits 20 99327)) := by
      refine d_fwd hU1 ?_
      have hb0_0 := PAt.mono ln1_14 hb0_0
      have h1 := Sl.mono ln1_14 h1
      have hg := Glob.mono ln1_14 hg
      refine d1 10 rfl (e_callO (all := [.agg u1_0.toArray, v1, .bool x1_8]) trivial rfl Tryd.func80 rfl rfl rfl rfl rfl (fun w hw => ok_80 hw h1_0 h1 q1_10) ?_)
      rintro _ H1_10 _ l1_10 ⟨cb1_10, cs1_10, mm1_10, rfl, hb1_10, hc1_10, hd1_10⟩
      rcases hd1_10 with ⟨rfl, he1_10, rfl⟩ | ⟨M1_10, rfl, he1_10, rfl⟩
      · exact absurd k1_10 (by simp [he1_10])
      have hb0_0 := PAt.mono l1_10 hb0_0
      have h1_0 := Rp.mono l1_10 h1_0
      have h1 := Sl.mono l1_10 h1
      have mz1_16 := Rp.mono l1_10 mz1_16
      have hg := Glob.mono l1_10 hg
      refine dn 100351 (swl l1_10 []) ?_
      exact d_edge hU1 (N1_5 H1_10 (ln1_14.trans l1_10) b1_15 b1_16 cb1_10 M1_10 cs1_10 hb1_10 hc1_10 mz1_16) ⟨rfl, rfl, rfl, rfl, rfl, rfl, trivial⟩ [0, 1, 2] (by decide) rfl (sw_sw l1_10 [] rfl)
    have N1_9 (Hn1_22 : Hp) (ln1_22 : HLe Hb0_0 Hn1_22) (cb1_10 : List Value) (M1_10 : Nat) (cs1_10 : List Value) (hb1_10 : Rp.rep (α := Bk (some M1_10)) Hn1_22 cb1_10 x1_10.1) (hc1_10 : Rp.rep (α := Arr 4 Int) Hn1_22 cs1_10 x1_10.2.1) : At 89 [] (Kp.mk w H noX) [(2, .int .i64 p2), (3, .int .i64 p3), (4, .pointer (some ⟨b0_0, 0, none⟩)), (26, .tuple #[.agg cb1_10.toArray, .agg cs1_10.toArray, .int .i64 x1_10.2.2])] Hn1_22 [.blk M1_10 (Memo x1_10.1)] (U1 (Sw Hn1_22 []) 9 (bits 20 2047)) := by
      refine d_fwd hU1 ?_
      have hb0_0 := PAt.mono ln1_22 hb0_0
      have hg := Glob.mono ln1_22 hg
      refine dt 11 4095 rfl trivial (y_move rfl) (sw0 []) ?_
      refine dt 12 8191 rfl trivial (y_extract rfl rfl) (sw0 []) ?_
      refine dt 13 16383 rfl trivial (y_extract rfl rfl) (sw0 []) ?_
      refine dt 14 32767 rfl trivial (y_extract rfl rfl) (sw0 []) ?_
      refine d_all (rs := [15, 16]) (by kernel_rfl) rfl ⟨⟨_, rfl, ?_⟩, ⟨_, rfl, ?_⟩, trivial⟩
      · refine e_alloc (cs := [.slice none 0 0, .slice none 0 0, .map none]) trivial rfl ty110 rfl ?_
        intro b1_15
        refine dn 65535 (sw0 []) ?_
        exact d_edge hU1 (N1_3 Hn1_22 ln1_22 b1_15 cb1_10 M1_10 cs1_10 hb1_10 hc1_10) ⟨rfl, rfl, rfl, rfl, rfl, rfl, rfl, trivial⟩ [1, 0] (by decide) rfl (fun _ h => h)
      refine e_alloc (cs := [.int .i64 0, .int .i64 0, .int .i64 0, .int .i64 0]) trivial rfl ty111 rfl ?_
      intro b1_16
      have mz1_16 := z111 Hn1_22
      refine dn 98303 (sw0 []) ?_
      exact d_edge hU1 (N1_4 Hn1_22 ln1_22 b1_16 cb1_10 M1_10 cs1_10 hb1_10 hc1_10 mz1_16) ⟨rfl, rfl, rfl, rfl, rfl, rfl, rfl, trivial⟩ [1, 0] (by decide) rfl (fun _ h => h)
    have N1_10 (Hn1_23 : Hp) (ln1_23 : HLe Hb0_0 Hn1_23) (b1_15 : Nat) (u1_0 : List Value) (h1_0 : Rp.rep (α := TunnelBook) Hn1_23 u1_0 p0) : At 89 [] (Kp.mk w H noX) [(2, .int .i64 p2), (3, .int .i64 p3), (4, .pointer (some ⟨b0_0, 0, none⟩)), (10, .pointer (some ⟨b1_15, 0, none⟩)), (16, .agg u1_0.toArray), (17, v1), (25, .bool x1_8)] Hn1_23 ([.box b1_15 [.slice none 0 0, .slice none 0 0, .map none] 110]) (U1 (Sw Hn1_23 []) 9 (bits 20 33791)) := by
      refine d_fwd hU1 ?_
      have hb0_0 := PAt.mono ln1_23 hb0_0
      have h1 := Sl.mono ln1_23 h1
      have hg := Glob.mono ln1_23 hg
      refine d_all (rs := [10, 16]) (by kernel_rfl) rfl ⟨⟨_, rfl, ?_⟩, ⟨_, rfl, ?_⟩, trivial⟩
      · refine e_callO (all := [.agg u1_0.toArray, v1, .bool x1_8]) trivial rfl Tryd.func80 rfl rfl rfl rfl rfl (fun w hw => ok_80 hw h1_0 h1 q1_10) ?_
        rintro _ H1_10 _ l1_10 ⟨cb1_10, cs1_10, mm1_10, rfl, hb1_10, hc1_10, hd1_10⟩
        rcases hd1_10 with ⟨rfl, he1_10, rfl⟩ | ⟨M1_10, rfl, he1_10, rfl⟩
        · exact absurd k1_10 (by simp [he1_10])
        have hb0_0 := PAt.mono l1_10 hb0_0
        have h1_0 := Rp.mono l1_10 h1_0
        have h1 := Sl.mono l1_10 h1
        have hg := Glob.mono l1_10 hg
        refine dn 34815 (swl l1_10 []) ?_
        exact d_edge hU1 (N1_6 H1_10 (ln1_23.trans l1_10) b1_15 cb1_10 M1_10 cs1_10 hb1_10 hc1_10) ⟨rfl, rfl, rfl, rfl, rfl, trivial⟩ [0, 1] (by decide) rfl (sw_sw l1_10 [] rfl)
      refine e_alloc (cs := [.int .i64 0, .int .i64 0, .int .i64 0, .int .i64 0]) trivial rfl ty111 rfl ?_
      intro b1_16
      have mz1_16 := z111 Hn1_23
      refine dn 99327 (sw0 []) ?_
      exact d_edge hU1 (N1_8 Hn1_23 ln1_23 b1_15 b1_16 u1_0 h1_0 mz1_16) ⟨rfl, rfl, rfl, rfl, rfl, rfl, rfl, rfl, trivial⟩ [1, 0] (by decide) rfl (fun _ h => h)
    have N1_11 (Hn1_24 : Hp) (ln1_24 : HLe Hb0_0 Hn1_24) (b1_16 : Nat) (u1_0 : List Value) (h1_0 : Rp.rep (α := TunnelBook) Hn1_24 u1_0 p0) (mz1_16 : Rp.rep (α := Arr 4 Int) Hn1_24 [.int .i64 0, .int .i64 0, .int .i64 0, .int .i64 0] [0, 0, 0, 0]) : At 89 [] (Kp.mk w H noX) [(2, .int .i64 p2), (3, .int .i64 p3), (4, .pointer (some ⟨b0_0, 0, none⟩)), (11, .pointer (some ⟨b1_16, 0, none⟩)), (16, .agg u1_0.toArray), (17, v1), (25, .bool x1_8)] Hn1_24 ([.box b1_16 [.int .i64 0, .int .i64 0, .int .i64 0, .int .i64 0] 111]) (U1 (Sw Hn1_24 []) 9 (bits 20 66559)) := by
      refine d_fwd hU1 ?_
      have hb0_0 := PAt.mono ln1_24 hb0_0
      have h1 := Sl.mono ln1_24 h1
      have hg := Glob.mono ln1_24 hg
      refine d_all (rs := [10, 15]) (by kernel_rfl) rfl ⟨⟨_, rfl, ?_⟩, ⟨_, rfl, ?_⟩, trivial⟩
      · refine e_callO (all := [.agg u1_0.toArray, v1, .bool x1_8]) trivial rfl Tryd.func80 rfl rfl rfl rfl rfl (fun w hw => ok_80 hw h1_0 h1 q1_10) ?_
        rintro _ H1_10 _ l1_10 ⟨cb1_10, cs1_10, mm1_10, rfl, hb1_10, hc1_10, hd1_10⟩
        rcases hd1_10 with ⟨rfl, he1_10, rfl⟩ | ⟨M1_10, rfl, he1_10, rfl⟩
        · exact absurd k1_10 (by simp [he1_10])
        have hb0_0 := PAt.mono l1_10 hb0_0
        have h1_0 := Rp.mono l1_10 h1_0
        have h1 := Sl.mono l1_10 h1
        have mz1_16 := Rp.mono l1_10 mz1_16
        have hg := Glob.mono l1_10 hg
        refine dn 67583 (swl l1_10 []) ?_
        exact d_edge hU1 (N1_7 H1_10 (ln1_24.trans l1_10) b1_16 cb1_10 M1_10 cs1_10 hb1_10 hc1_10 mz1_16) ⟨rfl, rfl, rfl, rfl, rfl, trivial⟩ [0, 1] (by decide) rfl (sw_sw l1_10 [] rfl)
      refine e_alloc (cs := [.slice none 0 0, .slice none 0 0, .map none]) trivial rfl ty110 rfl ?_
      intro b1_15
      refine dn 99327 (sw0 []) ?_
      exact d_edge hU1 (N1_8 Hn1_24 ln1_24 b1_15 b1_16 u1_0 h1_0 mz1_16) ⟨rfl, rfl, rfl, rfl, rfl, rfl, rfl, rfl, trivial⟩ [0, 1] (by decide) rfl (fun _ h => h)
    have N1_12 (Hn1_7 : Hp) (ln1_7 : HLe Hb0_0 Hn1_7) (b1_15 : Nat) (b1_16 : Nat) (u1_0 : List Value) (h1_0 : Rp.rep (α := TunnelBook) Hn1_7 u1_0 p0) (mz1_16 : Rp.rep (α := Arr 4 Int) Hn1_7 [.int .i64 0, .int .i64 0, .int .i64 0, .int .i64 0] [0, 0, 0, 0]) : At 89 [] (Kp.mk w H noX) [(2, .int .i64 p2), (3, .int .i64 p3), (4, .pointer (some ⟨b0_0, 0, none⟩)), (10, .pointer (some ⟨b1_15, 0, none⟩)), (11, .pointer (some ⟨b1_16, 0, none⟩)), (16, .agg u1_0.toArray), (17, v1), (21, .bool x1_4), (24, .bool x1_8)] Hn1_7 ([.box b1_15 [.slice none 0 0, .slice none 0 0, .map none] 110, .box b1_16 [.int .i64 0, .int .i64 0, .int .i64 0, .int .i64 0] 111]) (U1 (Sw Hn1_7 []) 9 (bits 20 98815)) := by
      refine d_fwd hU1 ?_
      have hb0_0 := PAt.mono ln1_7 hb0_0
      have h1 := Sl.mono ln1_7 h1
      have hg := Glob.mono ln1_7 hg
      refine dt 9 99327 rfl trivial (y_pick_t rfl k1_6 rfl) (sw0 []) ?_
      refine d1 10 rfl (e_callO (all := [.agg u1_0.toArray, v1, .bool x1_8]) trivial rfl Tryd.func80 rfl rfl rfl rfl rfl (fun w hw => ok_80 hw h1_0 h1 q1_10) ?_)
      rintro _ H1_10 _ l1_10 ⟨cb1_10, cs1_10, mm1_10, rfl, hb1_10, hc1_10, hd1_10⟩
      rcases hd1_10 with ⟨rfl, he1_10, rfl⟩ | ⟨M1_10, rfl, he1_10, rfl⟩
      · exact absurd k1_10 (by simp [he1_10])
      have hb0_0 := PAt.mono l1_10 hb0_0
      have h1_0 := Rp.mono l1_10 h1_0
      have h1 := Sl.mono l1_10 h1
      have mz1_16 := Rp.mono l1_10 mz1_16
      have hg := Glob.mono l1_10 hg
      refine dn 100351 (swl l1_10 []) ?_
      exact d_edge hU1 (N1_5 H1_10 (ln1_7.trans l1_10) b1_15 b1_16 cb1_10 M1_10 cs1_10 hb1_10 hc1_10 mz1_16) ⟨rfl, rfl, rfl, rfl, rfl, rfl, trivial⟩ [0, 1, 2] (by decide) rfl (sw_sw l1_10 [] rfl)
    have N1_13 (Hn1_17 : Hp) (ln1_17 : HLe Hb0_0 Hn1_17) (b1_15 : Nat) (u1_0 : List Value) (h1_0 : Rp.rep (α := TunnelBook) Hn1_17 u1_0 p0) : At 89 [] (Kp.mk w H noX) [(2, .int .i64 p2), (3, .int .i64 p3), (4, .pointer (some ⟨b0_0, 0, none⟩)), (10, .pointer (some ⟨b1_15, 0, none⟩)), (16, .agg u1_0.toArray), (17, v1), (21, .bool x1_4), (24, .bool x1_8)] Hn1_17 ([.box b1_15 [.slice none 0 0, .slice none 0 0, .map none] 110]) (U1 (Sw Hn1_17 []) 10 (bits 20 33279)) := by
      refine d_fwd hU1 ?_
      have hb0_0 := PAt.mono ln1_17 hb0_0
      have h1 := Sl.mono ln1_17 h1
      have hg := Glob.mono ln1_17 hg
      refine dt 9 33791 rfl trivial (y_pick_t rfl k1_6 rfl) (sw0 []) ?_
      refine d_all (rs := [10, 16]) (by kernel_rfl) rfl ⟨⟨_, rfl, ?_⟩, ⟨_, rfl, ?_⟩, trivial⟩
      · refine e_callO (all := [.agg u1_0.toArray, v1, .bool x1_8]) trivial rfl Tryd.func80 rfl rfl rfl rfl rfl (fun w hw => ok_80 hw h1_0 h1 q1_10) ?_
        rintro _ H1_10 _ l1_10 ⟨cb1_10, cs1_10, mm1_10, rfl, hb1_10, hc1_10, hd1_10⟩
        rcases hd1_10 with ⟨rfl, he1_10, rfl⟩ | ⟨M1_10, rfl, he1_10, rfl⟩
        · exact absurd k1_10 (by simp [he1_10])
        have hb0_0 := PAt.mono l1_10 hb0_0
        have h1_0 := Rp.mono l1_10 h1_0
        have h1 := Sl.mono l1_10 h1
        have hg := Glob.mono l1_10 hg
        refine dn 34815 (swl l1_10 []) ?_
        exact d_edge hU1 (N1_6 H1_10 (ln1_17.trans l1_10) b1_15 cb1_10 M1_10 cs1_10 hb1_10 hc1_10) ⟨rfl, rfl, rfl, rfl, rfl, trivial⟩ [0, 1] (by decide) rfl (sw_sw l1_10 [] rfl)
      refine e_alloc (cs := [.int .i64 0, .int .i64 0, .int .i64 0, .int .i64 0]) trivial rfl ty111 rfl ?_
      intro b1_16
      have mz1_16 := z111 Hn1_17
      refine dn 99327 (sw0 []) ?_
      exact d_edge hU1 (N1_8 Hn1_17 ln1_17 b1_15 b1_16 u1_0 h1_0 mz1_16) ⟨rfl, rfl, rfl, rfl, rfl, rfl, rfl, rfl, trivial⟩ [1, 0] (by decide) rfl (fun _ h => h)
    have N1_14 (Hn1_11 : Hp) (ln1_11 : HLe Hb0_0 Hn1_11) (b1_16 : Nat) (u1_0 : List Value) (h1_0 : Rp.rep (α := TunnelBook) Hn1_11 u1_0 p0) (mz1_16 : Rp.rep (α := Arr 4 Int) Hn1_11 [.int .i64 0, .int .i64 0, .int .i64 0, .int .i64 0] [0, 0, 0, 0]) : At 89 [] (Kp.mk w H noX) [(2, .int .i64 p2), (3, .int .i64 p3), (4, .pointer (some ⟨b0_0, 0, none⟩)), (11, .pointer (some ⟨b1_16, 0, none⟩)), (16, .agg u1_0.toArray), (17, v1), (21, .bool x1_4), (24, .bool x1_8)] Hn1_11 ([.box b1_16 [.int .i64 0, .int .i64 0, .int .i64 0, .int .i64 0] 111]) (U1 (Sw Hn1_11 []) 10 (bits 20 66047)) := by
      refine d_fwd hU1 ?_
      have hb0_0 := PAt.mono ln1_11 hb0_0
      have h1 := Sl.mono ln1_11 h1
      have hg := Glob.mono ln1_11 hg
      refine dt 9 66559 rfl trivial (y_pick_t rfl k1_6 rfl) (sw0 []) ?_
      refine d_all (rs := [10, 15]) (by kernel_rfl) rfl ⟨⟨_, rfl, ?_⟩, ⟨_, rfl, ?_⟩, trivial⟩
      · refine e_callO (all := [.agg u1_0.toArray, v1, .bool x1_8]) trivial rfl Tryd.func80 rfl rfl rfl rfl rfl (fun w hw => ok_80 hw h1_0 h1 q1_10) ?_
        rintro _ H1_10 _ l1_10 ⟨cb1_10, cs1_10, mm1_10, rfl, hb1_10, hc1_10, hd1_10⟩
        rcases hd1_10 with ⟨rfl, he1_10, rfl⟩ | ⟨M1_10, rfl, he1_10, rfl⟩
        · exact absurd k1_10 (by simp [he1_10])
        have hb0_0 := PAt.mono l1_10 hb0_0
        have h1_0 := Rp.mono l1_10 h1_0
        have h1 := Sl.mono l1_10 h1
        have mz1_16 := Rp.mono l1_10 mz1_16
        have hg := Glob.mono l1_10 hg
        refine dn 67583 (swl l1_10 []) ?_
        exact d_edge hU1 (N1_7 H1_10 (ln1_11.trans l1_10) b1_16 cb1_10 M1_10 cs1_10 hb1_10 hc1_10 mz1_16) ⟨rfl, rfl, rfl, rfl, rfl, trivial⟩ [0, 1] (by decide) rfl (sw_sw l1_10 [] rfl)
      refine e_alloc (cs := [.slice none 0 0, .slice none 0 0, .map none]) trivial rfl ty110 rfl ?_
      intro b1_15
      refine dn 99327 (sw0 []) ?_
      exact d_edge hU1 (N1_8 Hn1_11 ln1_11 b1_15 b1_16 u1_0 h1_0 mz1_16) ⟨rfl, rfl, rfl, rfl, rfl, rfl, rfl, rfl, trivial⟩ [0, 1] (by decide) rfl (fun _ h => h)
    have N1_15 (Hn1_12 : Hp) (ln1_12 : HLe Hb0_0 Hn1_12) (b1_15 : Nat) (b1_16 : Nat) (u1_0 : List Value) (u1_6 : List Value) (h1_0 : Rp.rep (α := TunnelBook) Hn1_12 u1_0 p0) (h1_6 : Rp.rep (α := TunnelBook) Hn1_12 u1_6 p0) (mz1_16 : Rp.rep (α := Arr 4 Int) Hn1_12 [.int .i64 0, .int .i64 0, .int .i64 0, .int .i64 0] [0, 0, 0, 0]) : At 89 [] (Kp.mk w H noX) [(2, .int .i64 p2), (3, .int .i64 p3), (4, .pointer (some ⟨b0_0, 0, none⟩)), (10, .pointer (some ⟨b1_15, 0, none⟩)), (11, .pointer (some ⟨b1_16, 0, none⟩)), (16, .agg u1_0.toArray), (17, v1), (21, .bool x1_4), (22, .agg u1_6.toArray), (23, .int .i64 p3)] Hn1_12 ([.box b1_15 [.slice none 0 0, .slice none 0 0, .map none] 110, .box b1_16 [.int .i64 0, .int .i64 0, .int .i64 0, .int .i64 0] 111]) (U1 (Sw Hn1_12 []) 10 (bits 20 98559)) := by
      refine d_fwd hU1 ?_
      have hb0_0 := PAt.mono ln1_12 hb0_0
      have h1 := Sl.mono ln1_12 h1
      have hg := Glob.mono ln1_12 hg
      refine d1 8 rfl (e_callV (all := [.agg u1_6.toArray, .int .i64 p3]) (v := .bool x1_8) ⟨_, _, rfl, rfl, k1_6⟩ rfl Tryd.func103 rfl rfl rfl rfl rfl (fun w hw => ok_103 hw h1_6 q1_8) ?_)
      refine dn 98815 (sw0 []) ?_
      exact d_edge hU1 (N1_12 Hn1_12 ln1_12 b1_15 b1_16 u1_0 h1_0 mz1_16) ⟨rfl, rfl, rfl, rfl, rfl, rfl, rfl, rfl, rfl, trivial⟩ [0, 1] (by decide) rfl (fun _ h => h)
    have N1_16 (Hn1_19 : Hp) (ln1_19 : HLe Hb0_0 Hn1_19) (u1_0 : List Value) (h1_0 : Rp.rep (α := TunnelBook) Hn1_19 u1_0 p0) : At 89 [] (Kp.mk w H noX) [(2, .int .i64 p2), (3, .int .i64 p3), (4, .pointer (some ⟨b0_0, 0, none⟩)), (16, .agg u1_0.toArray), (17, v1), (21, .bool x1_4), (24, .bool x1_8)] Hn1_19 [] (U1 (Sw Hn1_19 []) 11 (bits 20 511)) := by
      refine d_fwd hU1 ?_
      have hb0_0 := PAt.mono ln1_19 hb0_0
      have h1 := Sl.mono ln1_19 h1
      have hg := Glob.mono ln1_19 hg
      refine dt 9 1023 rfl trivial (y_pick_t rfl k1_6 rfl) (sw0 []) ?_
      refine d_all (rs := [10, 15, 16]) (by kernel_rfl) rfl ⟨⟨_, rfl, ?_⟩, ⟨_, rfl, ?_⟩, ⟨_, rfl, ?_⟩, trivial⟩
      · refine e_callO (all := [.agg u1_0.toArray, v1, .bool x1_8]) trivial rfl Tryd.func80 rfl rfl rfl rfl rfl (fun w hw => ok_80 hw h1_0 h1 q1_10) ?_
        rintro _ H1_10 _ l1_10 ⟨cb1_10, cs1_10, mm1_10, rfl, hb1_10, hc1_10, hd1_10⟩
        rcases hd1_10 with ⟨rfl, he1_10, rfl⟩ | ⟨M1_10, rfl, he1_10, rfl⟩
        · exact absurd k1_10 (by simp [he1_10])
        have hb0_0 := PAt.mono l1_10 hb0_0
        have h1_0 := Rp.mono l1_10 h1_0
        have h1 := Sl.mono l1_10 h1
        have hg := Glob.mono l1_10 hg
        refine dn 2047 (swl l1_10 []) ?_
        exact d_edge hU1 (N1_9 H1_10 (ln1_19.trans l1_10) cb1_10 M1_10 cs1_10 hb1_10 hc1_10) ⟨rfl, rfl, rfl, rfl, trivial⟩ [0] (by decide) rfl (sw_sw l1_10 [] rfl)
      · refine e_alloc (cs := [.slice none 0 0, .slice none 0 0, .map none]) trivial rfl ty110 rfl ?_
        intro b1_15
        refine dn 33791 (sw0 []) ?_
        exact d_edge hU1 (N1_10 Hn1_19 ln1_19 b1_15 u1_0 h1_0) ⟨rfl, rfl, rfl, rfl, rfl, rfl, rfl, trivial⟩ [0] (by decide) rfl (fun _ h => h)
      refine e_alloc (cs := [.int .i64 0, .int .i64 0, .int .i64 0, .int .i64 0]) trivial rfl ty111 rfl ?_
      intro b1_16
      have mz1_16 := z111 Hn1_19
      refine dn 66559 (sw0 []) ?_
      exact d_edge hU1 (N1_11 Hn1_19 ln1_19 b1_16 u1_0 h1_0 mz1_16) ⟨rfl, rfl, rfl, rfl, rfl, rfl, rfl, trivial⟩ [0] (by decide) rfl (fun _ h => h)
    have N1_17 (Hn1_20 : Hp) (ln1_20 : HLe Hb0_0 Hn1_20) (b1_15 : Nat) (u1_0 : List Value) (u1_6 : List Value) (h1_0 : Rp.rep (α := TunnelBook) Hn1_20 u1_0 p0) (h1_6 : Rp.rep (α := TunnelBook) Hn1_20 u1_6 p0) : At 89 [] (Kp.mk w H noX) [(2, .int .i64 p2), (3, .int .i64 p3), (4, .pointer (some ⟨b0_0, 0, none⟩)), (10, .pointer (some ⟨b1_15, 0, none⟩)), (16, .agg u1_0.toArray), (17, v1), (21, .bool x1_4), (22, .agg u1_6.toArray), (23, .int .i64 p3)] Hn1_20 ([.box b1_15 [.slice none 0 0, .slice none 0 0, .map none] 110]) (U1 (Sw Hn1_20 []) 11 (bits 20 33023)) := by
      refine d_fwd hU1 ?_
      have hb0_0 := PAt.mono ln1_20 hb0_0
      have h1 := Sl.mono ln1_20 h1
      have hg := Glob.mono ln1_20 hg
      refine d_all (rs := [8, 16]) (by kernel_rfl) rfl ⟨⟨_, rfl, ?_⟩, ⟨_, rfl, ?_⟩, trivial⟩
      · refine e_callV (all := [.agg u1_6.toArray, .int .i64 p3]) (v := .bool x1_8) ⟨_, _, rfl, rfl, k1_6⟩ rfl Tryd.func103 rfl rfl rfl rfl rfl (fun w hw => ok_103 hw h1_6 q1_8) ?_
        refine dn 33279 (sw0 []) ?_
        exact d_edge hU1 (N1_13 Hn1_20 ln1_20 b1_15 u1_0 h1_0) ⟨rfl, rfl, rfl, rfl, rfl, rfl, rfl, rfl, trivial⟩ [0] (by decide) rfl (fun _ h => h)
      refine e_alloc (cs := [.int .i64 0, .int .i64 0, .int .i64 0, .int .i64 0]) trivial rfl ty111 rfl ?_
      intro b1_16
      have mz1_16 := z111 Hn1_20
      refine dn 98559 (sw0 []) ?_
      exact d_edge hU1 (N1_15 Hn1_20 ln1_20 b1_15 b1_16 u1_0 u1_6 h1_0 h1_6 mz1_16) ⟨rfl, rfl, rfl, rfl, rfl, rfl, rfl, rfl, rfl, rfl, trivial⟩ [1, 0] (by decide) rfl (fun _ h => h)
    have N1_18 (Hn1_21 : Hp) (ln1_21 : HLe Hb0_0 Hn1_21) (b1_16 : Nat) (u1_0 : List Value) (u1_6 : List Value) (h1_0 : Rp.rep (α := TunnelBook) Hn1_21 u1_0 p0) (h1_6 : Rp.rep (α := TunnelBook) Hn1_21 u1_6 p0) (mz1_16 : Rp.rep (α := Arr 4 Int) Hn1_21 [.int .i64 0, .int .i64 0, .int .i64 0, .int .i64 0] [0, 0, 0, 0]) : At 89 [] (Kp.mk w H noX) [(2, .int .i64 p2), (3, .int .i64 p3), (4, .pointer (some ⟨b0_0, 0, none⟩)), (11, .pointer (some ⟨b1_16, 0, none⟩)), (16, .agg u1_0.toArray), (17, v1), (21, .bool x1_4), (22, .agg u1_6.toArray), (23, .int .i64 p3)] Hn1_21 ([.box b1_16 [.int .i64 0, .int .i64 0, .int .i64 0, .int .i64 0] 111]) (U1 (Sw Hn1_21 []) 11 (bits 20 65791)) := by
      refine d_fwd hU1 ?_
      have hb0_0 := PAt.mono ln1_21 hb0_0
      have h1 := Sl.mono ln1_21 h1
      have hg := Glob.mono ln1_21 hg
      refine d_all (rs := [8, 15]) (by kernel_rfl) rfl ⟨⟨_, rfl, ?_⟩, ⟨_, rfl, ?_⟩, trivial⟩
      · refine e_callV (all := [.agg u1_6.toArray, .int .i64 p3]) (v := .bool x1_8) ⟨_, _, rfl, rfl, k1_6⟩ rfl Tryd.func103 rfl rfl rfl rfl rfl (fun w hw => ok_103 hw h1_6 q1_8) ?_
        refine dn 66047 (sw0 []) ?_
        exact d_edge hU1 (N1_14 Hn1_21 ln1_21 b1_16 u1_0 h1_0 mz1_16) ⟨rfl, rfl, rfl, rfl, rfl, rfl, rfl, rfl, trivial⟩ [0] (by decide) rfl (fun _ h => h)
      refine e_alloc (cs := [.slice none 0 0, .slice none 0 0, .map none]) trivial rfl ty110 rfl ?_
      intro b1_15
      refine dn 98559 (sw0 []) ?_
      exact d_edge hU1 (N1_15 Hn1_21 ln1_21 b1_15 b1_16 u1_0 u1_6 h1_0 h1_6 mz1_16) ⟨rfl, rfl, rfl, rfl, rfl, rfl, rfl, rfl, rfl, rfl, trivial⟩ [0, 1] (by decide) rfl (fun _ h => h)
    have N1_19 (Hn1_6 : Hp) (ln1_6 : HLe Hb0_0 Hn1_6) (b1_15 : Nat) (b1_16 : Nat) (u1_0 : List Value) (h1_0 : Rp.rep (α := TunnelBook) Hn1_6 u1_0 p0) (mz1_16 : Rp.rep (α := Arr 4 Int) Hn1_6 [.int .i64 0, .int .i64 0, .int .i64 0, .int .i64 0] [0, 0, 0, 0]) : At 89 [] (Kp.mk w H noX) [(2, .int .i64 p2), (3, .int .i64 p3), (4, .pointer (some ⟨b0_0, 0, none⟩)), (10, .pointer (some ⟨b1_15, 0, none⟩)), (11, .pointer (some ⟨b1_16, 0, none⟩)), (16, .agg u1_0.toArray), (17, v1), (20, .bool x1_4)] Hn1_6 ([.box b1_15 [.slice none 0 0, .slice none 0 0, .map none] 110, .box b1_16 [.int .i64 0, .int .i64 0, .int .i64 0, .int .i64 0] 111]) (U1 (Sw Hn1_6 []) 13 (bits 20 98335)) := by
      refine d_fwd hU1 ?_
      have hb0_0 := PAt.mono ln1_6 hb0_0
      have h1 := Sl.mono ln1_6 h1
      have hg := Glob.mono ln1_6 hg
      refine dt 5 98367 rfl trivial (y_move rfl) (sw0 []) ?_
      obtain ⟨u1_6, h1_6, c1_6⟩ := PAt.one hb0_0
      refine dt 6 98431 rfl ⟨_, _, rfl, rfl, k1_6⟩ (y_load_cells ty25 rfl (fun _ h => h.1) rfl c1_6 (Rp.len h1_6)) (sw0 []) ?_
      refine dt 7 98559 rfl ⟨_, _, rfl, rfl, k1_6⟩ (y_move rfl) (sw0 []) ?_
      refine d1 8 rfl (e_callV (all := [.agg u1_6.toArray, .int .i64 p3]) (v := .bool x1_8) ⟨_, _, rfl, rfl, k1_6⟩ rfl Tryd.func103 rfl rfl rfl rfl rfl (fun w hw => ok_103 hw h1_6 q1_8) ?_)
      refine dn 98815 (sw0 []) ?_
      exact d_edge hU1 (N1_12 Hn1_6 ln1_6 b1_15 b1_16 u1_0 h1_0 mz1_16) ⟨rfl, rfl, rfl, rfl, rfl, rfl, rfl, rfl, rfl, trivial⟩ [0, 1] (by decide) rfl (fun _ h => h)
    have N1_20 (Hn1_16 : Hp) (ln1_16 : HLe Hb0_0 Hn1_16) (b1_15 : Nat) (u1_0 : List Value) (h1_0 : Rp.rep (α := TunnelBook) Hn1_16 u1_0 p0) : At 89 [] (Kp.mk w H noX) [(2, .int .i64 p2), (3, .int .i64 p3), (4, .pointer (some ⟨b0_0, 0, none⟩)), (10, .pointer (some ⟨b1_15, 0, none⟩)), (16, .agg u1_0.toArray), (17, v1), (20, .bool x1_4)] Hn1_16 ([.box b1_15 [.slice none 0 0, .slice none 0 0, .map none] 110]) (U1 (Sw Hn1_16 []) 14 (bits 20 32799)) := by
      refine d_fwd hU1 ?_
      have hb0_0 := PAt.mono ln1_16 hb0_0
      have h1 := Sl.mono ln1_16 h1
      have hg := Glob.mono ln1_16 hg
      refine dt 5 32831 rfl trivial (y_move rfl) (sw0 []) ?_
      obtain ⟨u1_6, h1_6, c1_6⟩ := PAt.one hb0_0
      refine dt 6 32895 rfl ⟨_, _, rfl, rfl, k1_6⟩ (y_load_cells ty25 rfl (fun _ h => h.1) rfl c1_6 (Rp.len h1_6)) (sw0 []) ?_
      refine dt 7 33023 rfl ⟨_, _, rfl, rfl, k1_6⟩ (y_move rfl) (sw0 []) ?_
      refine d_all (rs := [8, 16]) (by kernel_rfl) rfl ⟨⟨_, rfl, ?_⟩, ⟨_, rfl, ?_⟩, trivial⟩
      · refine e_callV (all := [.agg u1_6.toArray, .int .i64 p3]) (v := .bool x1_8) ⟨_, _, rfl, rfl, k1_6⟩ rfl Tryd.func103 rfl rfl rfl rfl rfl (fun w hw => ok_103 hw h1_6 q1_8) ?_
        refine dn 33279 (sw0 []) ?_
        exact d_edge hU1 (N1_13 Hn1_16 ln1_16 b1_15 u1_0 h1_0) ⟨rfl, rfl, rfl, rfl, rfl, rfl, rfl, rfl, trivial⟩ [0] (by decide) rfl (fun _ h => h)
      refine e_alloc (cs := [.int .i64 0, .int .i64 0, .int .i64 0, .int .i64 0]) trivial rfl ty111 rfl ?_
      intro b1_16
      have mz1_16 := z111 Hn1_16
      refine dn 98559 (sw0 []) ?_
      exact d_edge hU1 (N1_15 Hn1_16 ln1_16 b1_15 b1_16 u1_0 u1_6 h1_0 h1_6 mz1_16) ⟨rfl, rfl, rfl, rfl, rfl, rfl, rfl, rfl, rfl, rfl, trivial⟩ [1, 0] (by decide) rfl (fun _ h => h)
    have N1_21 (Hn1_4 : Hp) (ln1_4 : HLe Hb0_0 Hn1_4) (b1_16 : Nat) (u1_0 : List Value) (h1_0 : Rp.rep (α := TunnelBook) Hn1_4 u1_0 p0) (mz1_16 : Rp.rep (α := Arr 4 Int) Hn1_4 [.int .i64 0, .int .i64 0, .int .i64 0, .int .i64 0] [0, 0, 0, 0]) : At 89 [] (Kp.mk w H noX) [(2, .int .i64 p2), (3, .int .i64 p3), (4, .pointer (some ⟨b0_0, 0, none⟩)), (11, .pointer (some ⟨b1_16, 0, none⟩)), (16, .agg u1_0.toArray), (17, v1), (20, .bool x1_4)] Hn1_4 ([.box b1_16 [.int .i64 0, .int .i64 0, .int .i64 0, .int .i64 0] 111]) (U1 (Sw Hn1_4 []) 14 (bits 20 65567)) := by
      refine d_fwd hU1 ?_
      have hb0_0 := PAt.mono ln1_4 hb0_0
      have h1 := Sl.mono ln1_4 h1
      have hg := Glob.mono ln1_4 hg
      refine dt 5 65599 rfl trivial (y_move rfl) (sw0 []) ?_
      obtain ⟨u1_6, h1_6, c1_6⟩ := PAt.one hb0_0
      refine dt 6 65663 rfl ⟨_, _, rfl, rfl, k1_6⟩ (y_load_cells ty25 rfl (fun _ h => h.1) rfl c1_6 (Rp.len h1_6)) (sw0 []) ?_
      refine dt 7 65791 rfl ⟨_, _, rfl, rfl, k1_6⟩ (y_move rfl) (sw0 []) ?_
      refine d_all (rs := [8, 15]) (by kernel_rfl) rfl ⟨⟨_, rfl, ?_⟩, ⟨_, rfl, ?_⟩, trivial⟩
      · refine e_callV (all := [.agg u1_6.toArray, .int .i64 p3]) (v := .bool x1_8) ⟨_, _, rfl, rfl, k1_6⟩ rfl Tryd.func103 rfl rfl rfl rfl rfl (fun w hw => ok_103 hw h1_6 q1_8) ?_
        refine dn 66047 (sw0 []) ?_
        exact d_edge hU1 (N1_14 Hn1_4 ln1_4 b1_16 u1_0 h1_0 mz1_16) ⟨rfl, rfl, rfl, rfl, rfl, rfl, rfl, rfl, trivial⟩ [0] (by decide) rfl (fun _ h => h)
      refine e_alloc (cs := [.slice none 0 0, .slice none 0 0, .map none]) trivial rfl ty110 rfl ?_
      intro b1_15
      refine dn 98559 (sw0 []) ?_
      exact d_edge hU1 (N1_15 Hn1_4 ln1_4 b1_15 b1_16 u1_0 u1_6 h1_0 h1_6 mz1_16) ⟨rfl, rfl, rfl, rfl, rfl, rfl, rfl, rfl, rfl, rfl, trivial⟩ [0, 1] (by decide) rfl (fun _ h => h)
    have N1_22 (Hn1_5 : Hp) (ln1_5 : HLe Hb0_0 Hn1_5) (b1_15 : Nat) (b1_16 : Nat) (u1_0 : List Value) (u1_2 : List Value) (h1_0 : Rp.rep (α := TunnelBook) Hn1_5 u1_0 p0) (h1_2 : Rp.rep (α := TunnelBook) Hn1_5 u1_2 p0) (mz1_16 : Rp.rep (α := Arr 4 Int) Hn1_5 [.int .i64 0, .int .i64 0, .int .i64 0, .int .i64 0] [0, 0, 0, 0]) : At 89 [] (Kp.mk w H noX) [(2, .int .i64 p2), (3, .int .i64 p3), (4, .pointer (some ⟨b0_0, 0, none⟩)), (10, .pointer (some ⟨b1_15, 0, none⟩)), (11, .pointer (some ⟨b1_16, 0, none⟩)), (16, .agg u1_0.toArray), (17, v1), (18, .agg u1_2.toArray), (19, .int .i64 p2)] Hn1_5 ([.box b1_15 [.slice none 0 0, .slice none 0 0, .map none] 110, .box b1_16 [.int .i64 0, .int .i64 0, .int .i64 0, .int .i64 0] 111]) (U1 (Sw Hn1_5 []) 14 (bits 20 98319)) := by
      refine d_fwd hU1 ?_
      have hb0_0 := PAt.mono ln1_5 hb0_0
      have h1 := Sl.mono ln1_5 h1
      have hg := Glob.mono ln1_5 hg
      refine d1 4 rfl (e_callV (all := [.agg u1_2.toArray, .int .i64 p2]) (v := .bool x1_4) trivial rfl Tryd.func88 rfl rfl rfl rfl rfl (fun w hw => ok_88 hw h1_2 q1_4) ?_)
      refine dn 98335 (sw0 []) ?_
      exact d_edge hU1 (N1_19 Hn1_5 ln1_5 b1_15 b1_16 u1_0 h1_0 mz1_16) ⟨rfl, rfl, rfl, rfl, rfl, rfl, rfl, rfl, trivial⟩ [0, 1] (by decide) rfl (fun _ h => h)
    have N1_23 (Hn1_1 : Hp) (ln1_1 : HLe Hb0_0 Hn1_1) (u1_0 : List Value) (h1_0 : Rp.rep (α := TunnelBook) Hn1_1 u1_0 p0) : At 89 [] (Kp.mk w H noX) [(2, .int .i64 p2), (3, .int .i64 p3), (4, .pointer (some ⟨b0_0, 0, none⟩)), (16, .agg u1_0.toArray), (17, v1), (20, .bool x1_4)] Hn1_1 [] (U1 (Sw Hn1_1 []) 15 (bits 20 31)) := by
      refine d_fwd hU1 ?_
      have hb0_0 := PAt.mono ln1_1 hb0_0
      have h1 := Sl.mono ln1_1 h1
      have hg := Glob.mono ln1_1 hg
      refine dt 5 63 rfl trivial (y_move rfl) (sw0 []) ?_
      obtain ⟨u1_6, h1_6, c1_6⟩ := PAt.one hb0_0
      refine dt 6 127 rfl ⟨_, _, rfl, rfl, k1_6⟩ (y_load_cells ty25 rfl (fun _ h => h.1) rfl c1_6 (Rp.len h1_6)) (sw0 []) ?_
      refine dt 7 255 rfl ⟨_, _, rfl, rfl, k1_6⟩ (y_move rfl) (sw0 []) ?_
      refine d_all (rs := [8, 15, 16]) (by kernel_rfl) rfl ⟨⟨_, rfl, ?_⟩, ⟨_, rfl, ?_⟩, ⟨_, rfl, ?_⟩, trivial⟩
      · refine e_callV (all := [.agg u1_6.toArray, .int .i64 p3]) (v := .bool x1_8) ⟨_, _, rfl, rfl, k1_6⟩ rfl Tryd.func103 rfl rfl rfl rfl rfl (fun w hw => ok_103 hw h1_6 q1_8) ?_
        refine dn 511 (sw0 []) ?_
        exact d_edge hU1 (N1_16 Hn1_1 ln1_1 u1_0 h1_0) ⟨rfl, rfl, rfl, rfl, rfl, rfl, rfl, trivial⟩ [] (by decide) rfl (fun _ h => h)
      · refine e_alloc (cs := [.slice none 0 0, .slice none 0 0, .map none]) trivial rfl ty110 rfl ?_
        intro b1_15
        refine dn 33023 (sw0 []) ?_
        exact d_edge hU1 (N1_17 Hn1_1 ln1_1 b1_15 u1_0 u1_6 h1_0 h1_6) ⟨rfl, rfl, rfl, rfl, rfl, rfl, rfl, rfl, rfl, trivial⟩ [0] (by decide) rfl (fun _ h => h)
      refine e_alloc (cs := [.int .i64 0, .int .i64 0, .int .i64 0, .int .i64 0]) trivial rfl ty111 rfl ?_
      intro b1_16
      have mz1_16 := z111 Hn1_1
      refine dn 65791 (sw0 []) ?_
      exact d_edge hU1 (N1_18 Hn1_1 ln1_1 b1_16 u1_0 u1_6 h1_0 h1_6 mz1_16) ⟨rfl, rfl, rfl, rfl, rfl, rfl, rfl, rfl, rfl, trivial⟩ [0] (by decide) rfl (fun _ h => h)
    have N1_24 (Hn1_2 : Hp) (ln1_2 : HLe Hb0_0 Hn1_2) (b1_15 : Nat) (u1_0 : List Value) (u1_2 : List Value) (h1_0 : Rp.rep (α := TunnelBook) Hn1_2 u1_0 p0) (h1_2 : Rp.rep (α := TunnelBook) Hn1_2 u1_2 p0) : At 89 [] (Kp.mk w H noX) [(2, .int .i64 p2), (3, .int .i64 p3), (4, .pointer (some ⟨b0_0, 0, none⟩)), (10, .pointer (some ⟨b1_15, 0, none⟩)), (16, .agg u1_0.toArray), (17, v1), (18, .agg u1_2.toArray), (19, .int .i64 p2)] Hn1_2 ([.box b1_15 [.slice none 0 0, .slice none 0 0, .map none] 110]) (U1 (Sw Hn1_2 []) 15 (bits 20 32783)) := by
      refine d_fwd hU1 ?_
      have hb0_0 := PAt.mono ln1_2 hb0_0
      have h1 := Sl.mono ln1_2 h1
      have hg := Glob.mono ln1_2 hg
      refine d_all (rs := [4, 16]) (by kernel_rfl) rfl ⟨⟨_, rfl, ?_⟩, ⟨_, rfl, ?_⟩, trivial⟩
      · refine e_callV (all := [.agg u1_2.toArray, .int .i64 p2]) (v := .bool x1_4) trivial rfl Tryd.func88 rfl rfl rfl rfl rfl (fun w hw => ok_88 hw h1_2 q1_4) ?_
        refine dn 32799 (sw0 []) ?_
        exact d_edge hU1 (N1_20 Hn1_2 ln1_2 b1_15 u1_0 h1_0) ⟨rfl, rfl, rfl, rfl, rfl, rfl, rfl, trivial⟩ [0] (by decide) rfl (fun _ h => h)
      refine e_alloc (cs := [.int .i64 0, .int .i64 0, .int .i64 0, .int .i64 0]) trivial rfl ty111 rfl ?_
      intro b1_16
      have mz1_16 := z111 Hn1_2
      refine dn 98319 (sw0 []) ?_
      exact d_edge hU1 (N1_22 Hn1_2 ln1_2 b1_15 b1_16 u1_0 u1_2 h1_0 h1_2 mz1_16) ⟨rfl, rfl, rfl, rfl, rfl, rfl, rfl, rfl, rfl, trivial⟩ [1, 0] (by decide) rfl (fun _ h => h)
    have N1_25 (Hn1_3 : Hp) (ln1_3 : HLe Hb0_0 Hn1_3) (b1_16 : Nat) (u1_0 : List Value) (u1_2 : List Value) (h1_0 : Rp.rep (α := TunnelBook) Hn1_3 u1_0 p0) (h1_2 : Rp.rep (α := TunnelBook) Hn1_3 u1_2 p0) (mz1_16 : Rp.rep (α := Arr 4 Int) Hn1_3 [.int .i64 0, .int .i64 0, .int .i64 0, .int .i64 0] [0, 0, 0, 0]) : At 89 [] (Kp.mk w H noX) [(2, .int .i64 p2), (3, .int .i64 p3), (4, .pointer (some ⟨b0_0, 0, none⟩)), (11, .pointer (some ⟨b1_16, 0, none⟩)), (16, .agg u1_0.toArray), (17, v1), (18, .agg u1_2.toArray), (19, .int .i64 p2)] Hn1_3 ([.box b1_16 [.int .i64 0, .int .i64 0, .int .i64 0, .int .i64 0] 111]) (U1 (Sw Hn1_3 []) 15 (bits 20 65551)) := by
      refine d_fwd hU1 ?_
      have hb0_0 := PAt.mono ln1_3 hb0_0
      have h1 := Sl.mono ln1_3 h1
      have hg := Glob.mono ln1_3 hg
      refine d_all (rs := [4, 15]) (by kernel_rfl) rfl ⟨⟨_, rfl, ?_⟩, ⟨_, rfl, ?_⟩, trivial⟩
      · refine e_callV (all := [.agg u1_2.toArray, .int .i64 p2]) (v := .bool x1_4) trivial rfl Tryd.func88 rfl rfl rfl rfl rfl (fun w hw => ok_88 hw h1_2 q1_4) ?_
        refine dn 65567 (sw0 []) ?_
        exact d_edge hU1 (N1_21 Hn1_3 ln1_3 b1_16 u1_0 h1_0 mz1_16) ⟨rfl, rfl, rfl, rfl, rfl, rfl, rfl, trivial⟩ [0] (by decide) rfl (fun _ h => h)
      refine e_alloc (cs := [.slice none 0 0, .slice none 0 0, .map none]) trivial rfl ty110 rfl ?_
      intro b1_15
      refine dn 98319 (sw0 []) ?_
      exact d_edge hU1 (N1_22 Hn1_3 ln1_3 b1_15 b1_16 u1_0 u1_2 h1_0 h1_2 mz1_16) ⟨rfl, rfl, rfl, rfl, rfl, rfl, rfl, rfl, rfl, trivial⟩ [0, 1] (by decide) rfl (fun _ h => h)
    refine d_fwd hU1 ?_
    obtain ⟨u1_0, h1_0, c1_0⟩ := PAt.one hb0_0
    refine dt 0 1 rfl trivial (y_load_cells ty25 rfl (fun _ h => h.1) rfl c1_0 (Rp.len h1_0)) (sw0 []) ?_
    refine dt 1 3 rfl trivial (y_move rfl) (sw0 []) ?_
    obtain ⟨u1_2, h1_2, c1_2⟩ := PAt.one hb0_0
    refine dt 2 7 rfl trivial (y_load_cells ty25 rfl (fun _ h => h.1) rfl c1_2 (Rp.len h1_2)) (sw0 []) ?_
    refine dt 3 15 rfl trivial (y_move rfl) (sw0 []) ?_
    refine d_all (rs := [4, 15, 16]) (by kernel_rfl) rfl ⟨⟨_, rfl, ?_⟩, ⟨_, rfl, ?_⟩, ⟨_, rfl, ?_⟩, trivial⟩
    · refine e_callV (all := [.agg u1_2.toArray, .int .i64 p2]) (v := .bool x1_4) trivial rfl Tryd.func88 rfl rfl rfl rfl rfl (fun w hw => ok_88 hw h1_2 q1_4) ?_
      refine dn 31 (sw0 []) ?_
      exact d_edge hU1 (N1_23 Hb0_0 (HLe.refl _) u1_0 h1_0) ⟨rfl, rfl, rfl, rfl, rfl, rfl, trivial⟩ [] (by decide) rfl (fun _ h => h)
    · refine e_alloc (cs := [.slice none 0 0, .slice none 0 0, .map none]) trivial rfl ty110 rfl ?_
      intro b1_15
      refine dn 32783 (sw0 []) ?_
      exact d_edge hU1 (N1_24 Hb0_0 (HLe.refl _) b1_15 u1_0 u1_2 h1_0 h1_2) ⟨rfl, rfl, rfl, rfl, rfl, rfl, rfl, rfl, trivial⟩ [0] (by decide) rfl (fun _ h => h)
    refine e_alloc (cs := [.int .i64 0, .int .i64 0, .int .i64 0, .int .i64 0]) trivial rfl ty111 rfl ?_
    intro b1_16
    have mz1_16 := z111 Hb0_0
    refine dn 65551 (sw0 []) ?_
    exact d_edge hU1 (N1_25 Hb0_0 (HLe.refl _) b1_16 u1_0 u1_2 h1_0 h1_2 mz1_16) ⟨rfl, rfl, rfl, rfl, rfl, rfl, rfl, rfl, trivial⟩ [0] (by decide) rfl (fun _ h => h)
  have hm := cond_f k1_6 hm
  obtain ⟨x1_10, q1_10, hm⟩ := bind_some hm
  rcases Bool.eq_false_or_eq_true (x1_10.2.2 != 0) with k1_10 | k1_10
  · have hm := cond_t k1_10 hm
    refine d_region (S := Sw Hb0_0 []) (n := 20) (listed := (bits 20 0)) mixed (by kernel_rfl) rfl (by kernel_rfl) ?_
    refine d_abs fun U1 hU1 => ?_
    have N1_0 (Hn1_10 : Hp) (ln1_10 : HLe Hb0_0 Hn1_10) (b1_15 : Nat) (b1_16 : Nat) (cb1_10 : List Value) (cs1_10 : List Value) (hb1_10 : Rp.rep (α := Bk none) Hn1_10 cb1_10 x1_10.1) (hc1_10 : Rp.rep (α := Arr 4 Int) Hn1_10 cs1_10 x1_10.2.1) : At 89 [] (Kp.mk w H noX) [(2, .int .i64 p2), (3, .int .i64 p3), (4, .pointer (some ⟨b0_0, 0, none⟩)), (10, .pointer (some ⟨b1_15, 0, none⟩)), (11, .pointer (some ⟨b1_16, 0, none⟩)), (29, .int .i64 x1_10.2.2)] Hn1_10 [.box b1_15 cb1_10 110, .box b1_16 cs1_10 111] (U1 (Sw Hn1_10 []) 1 (bits 20 524287)) := by
      refine d_fwd hU1 ?_
      have hb0_0 := PAt.mono ln1_10 hb0_0
      have hg := Glob.mono ln1_10 hg
      refine dt 19 1048575 rfl trivial (y_assign rfl) (sw0 []) ?_
      refine d_done (by kernel_rfl) ?_
      refine a_freeze (α := Bk _) (x := x1_10.1) (i := 0) rfl hb1_10 ?_
      intro Hb1_15 lb1_15 hb1_15
      have hb0_0 := PAt.mono lb1_15 hb0_0
      have hc1_10 := Rp.mono lb1_15 hc1_10
      have hg := Glob.mono lb1_15 hg
      refine a_freeze (α := Arr 4 Int) (x := x1_10.2.1) (i := 1) rfl hc1_10 ?_
      intro Hb1_16 lb1_16 hb1_16
      have hb0_0 := PAt.mono lb1_16 hb0_0
      have hb1_15 := PAt.mono lb1_16 hb1_15
      have hg := Glob.mono lb1_16 hg
      refine a_en [(2, .int .i64 p2), (3, .int .i64 p3), (4, .pointer (some ⟨b0_0, 0, none⟩)), (10, .pointer (some ⟨b1_15, 0, none⟩)), (11, .pointer (some ⟨b1_16, 0, none⟩)), (12, .int .i64 x1_10.2.2)] ?_
      refine a_own [] (by decide) (L' := []) rfl ?_
      refine a_then (a_seq (a_seq (a_region rfl ?_)))
      refine ap (y_move rfl) ?_
      refine ap (y_neq rfl rfl) ?_
      refine a_nil ?_
      refine a_en [(2, .int .i64 p2), (3, .int .i64 p3), (4, .pointer (some ⟨b0_0, 0, none⟩)), (10, .pointer (some ⟨b1_15, 0, none⟩)), (11, .pointer (some ⟨b1_16, 0, none⟩)), (12, .int .i64 x1_10.2.2), (31, .bool (x1_10.2.2 != 0))] ?_
      refine a_then ?_
      refine a_cond rfl (fun _ => ?_) (fun h_ => absurd (h_.symm.trans k1_10) (by decide))
      refine a_seq (a_region rfl ?_)
      refine ap (y_move rfl) ?_
      refine ap (y_assign rfl) ?_
      refine ap (y_assign rfl) ?_
      refine a_nil ?_
      refine a_en [(8, .int .i64 0), (9, .int .i64 x1_10.2.2)] ?_
      refine a_then (a_ret (a_then_ret ?_))
      refine a_done (v := .tuple #[.int .i64 0, .int .i64 x1_10.2.2]) (.inl rfl) rfl ?_ ?_
      · intro a_ w_ ha_ hs_; exact run_results (P := Tryd.prog) (fn := Tryd.f39) (rs := [.tmp 8, .tmp 9]) (vs := [.int .i64 0, .int .i64 x1_10.2.2]) rfl (.cons (rv_tmp ha_ rfl) (.cons (rv_tmp ha_ rfl) (All2.nil)))
      · intro _ _; obtain rfl := Option.some.inj hm
        rfl
    have N1_1 (Hn1_9 : Hp) (ln1_9 : HLe Hb0_0 Hn1_9) (b1_15 : Nat) (b1_16 : Nat) (cs1_10 : List Value) (cb1_10 : List Value) (hc1_10 : Rp.rep (α := Arr 4 Int) Hn1_9 cs1_10 x1_10.2.1) (hb1_10 : Rp.rep (α := Bk none) Hn1_9 cb1_10 x1_10.1) (mz1_16 : Rp.rep (α := Arr 4 Int) Hn1_9 [.int .i64 0, .int .i64 0, .int .i64 0, .int .i64 0] [0, 0, 0, 0]) : At 89 [] (Kp.mk w H noX) [(2, .int .i64 p2), (3, .int .i64 p3), (4, .pointer (some ⟨b0_0, 0, none⟩)), (10, .pointer (some ⟨b1_15, 0, none⟩)), (11, .pointer (some ⟨b1_16, 0, none⟩)), (28, .agg cs1_10.toArray), (29, .int .i64 x1_10.2.2)] Hn1_9 ([.box b1_15 cb1_10 110, .box b1_16 [.int .i64 0, .int .i64 0, .int .i64 0, .int .i64 0] 111]) (U1 (Sw Hn1_9 []) 2 (bits 20 262143)) := by
      refine d_fwd hU1 ?_
      have hb0_0 := PAt.mono ln1_9 hb0_0
      have hg := Glob.mono ln1_9 hg
      refine d1 18 rfl (e_storeWhole (i := 1) (ds := cs1_10) trivial ty111 rfl rfl rfl rfl (Rp.len hc1_10) ((Rp.one hc1_10)) rfl ?_)
      refine dn 524287 (sw0 []) ?_
      exact d_edge hU1 (N1_0 Hn1_9 ln1_9 b1_15 b1_16 cb1_10 cs1_10 hb1_10 hc1_10) ⟨rfl, rfl, rfl, rfl, rfl, rfl, trivial⟩ [0, 1] (by decide) rfl (fun _ h => h)
    have N1_2 (Hn1_15 : Hp) (ln1_15 : HLe Hb0_0 Hn1_15) (b1_15 : Nat) (b1_16 : Nat) (cb1_10 : List Value) (cs1_10 : List Value) (hb1_10 : Rp.rep (α := Bk none) Hn1_15 cb1_10 x1_10.1) (hc1_10 : Rp.rep (α := Arr 4 Int) Hn1_15 cs1_10 x1_10.2.1) (mz1_16 : Rp.rep (α := Arr 4 Int) Hn1_15 [.int .i64 0, .int .i64 0, .int .i64 0, .int .i64 0] [0, 0, 0, 0]) : At 89 [] (Kp.mk w H noX) [(2, .int .i64 p2), (3, .int .i64 p3), (4, .pointer (some ⟨b0_0, 0, none⟩)), (10, .pointer (some ⟨b1_15, 0, none⟩)), (11, .pointer (some ⟨b1_16, 0, none⟩)), (27, .agg cb1_10.toArray), (28, .agg cs1_10.toArray), (29, .int .i64 x1_10.2.2)] Hn1_15 ([.box b1_15 [.slice none 0 0, .slice none 0 0, .map none] 110, .box b1_16 [.int .i64 0, .int .i64 0, .int .i64 0, .int .i64 0] 111]) (U1 (Sw Hn1_15 []) 3 (bits 20 131071)) := by
      refine d_fwd hU1 ?_
      have hb0_0 := PAt.mono ln1_15 hb0_0
      have hg := Glob.mono ln1_15 hg
      refine d1 17 rfl (e_storeWhole (i := 0) (ds := cb1_10) trivial ty110 rfl rfl rfl rfl (Rp.len hb1_10) ((Rp.one hb1_10)) rfl ?_)
      refine dn 262143 (sw0 []) ?_
      exact d_edge hU1 (N1_1 Hn1_15 ln1_15 b1_15 b1_16 cs1_10 cb1_10 hc1_10 hb1_10 mz1_16) ⟨rfl, rfl, rfl, rfl, rfl, rfl, rfl, trivial⟩ [0, 1] (by decide) rfl (fun _ h => h)
    have N1_3 (Hn1_25 : Hp) (ln1_25 : HLe Hb0_0 Hn1_25) (b1_15 : Nat) (cb1_10 : List Value) (cs1_10 : List Value) (hb1_10 : Rp.rep (α := Bk none) Hn1_25 cb1_10 x1_10.1) (hc1_10 : Rp.rep (α := Arr 4 Int) Hn1_25 cs1_10 x1_10.2.1) : At 89 [] (Kp.mk w H noX) [(2, .int .i64 p2), (3, .int .i64 p3), (4, .pointer (some ⟨b0_0, 0, none⟩)), (10, .pointer (some ⟨b1_15, 0, none⟩)), (27, .agg cb1_10.toArray), (28, .agg cs1_10.toArray), (29, .int .i64 x1_10.2.2)] Hn1_25 ([.box b1_15 [.slice none 0 0, .slice none 0 0, .map none] 110]) (U1 (Sw Hn1_25 []) 4 (bits 20 65535)) := by
      refine d_fwd hU1 ?_
      have hb0_0 := PAt.mono ln1_25 hb0_0
      have hg := Glob.mono ln1_25 hg
      refine d1 16 rfl (e_alloc (cs := [.int .i64 0, .int .i64 0, .int .i64 0, .int .i64 0]) trivial rfl ty111 rfl ?_)
      intro b1_16
      have mz1_16 := z111 Hn1_25
      refine dn 131071 (sw0 []) ?_
      exact d_edge hU1 (N1_2 Hn1_25 ln1_25 b1_15 b1_16 cb1_10 cs1_10 hb1_10 hc1_10 mz1_16) ⟨rfl, rfl, rfl, rfl, rfl, rfl, rfl, rfl, trivial⟩ [1, 0] (by decide) rfl (fun _ h => h)
    have N1_4 (Hn1_26 : Hp) (ln1_26 : HLe Hb0_0 Hn1_26) (b1_16 : Nat) (cb1_10 : List Value) (cs1_10 : List Value) (hb1_10 : Rp.rep (α := Bk none) Hn1_26 cb1_10 x1_10.1) (hc1_10 : Rp.rep (α := Arr 4 Int) Hn1_26 cs1_10 x1_10.2.1) (mz1_16 : Rp.rep (α := Arr 4 Int) Hn1_26 [.int .i64 0, .int .i64 0, .int .i64 0, .int .i64 0] [0, 0, 0, 0]) : At 89 [] (Kp.mk w H noX) [(2, .int .i64 p2), (3, .int .i64 p3), (4, .pointer (some ⟨b0_0, 0, none⟩)), (11, .pointer (some ⟨b1_16, 0, none⟩)), (27, .agg cb1_10.toArray), (28, .agg cs1_10.toArray), (29, .int .i64 x1_10.2.2)] Hn1_26 ([.box b1_16 [.int .i64 0, .int .i64 0, .int .i64 0, .int .i64 0] 111]) (U1 (Sw Hn1_26 []) 4 (bits 20 98303)) := by
      refine d_fwd hU1 ?_
      have hb0_0 := PAt.mono ln1_26 hb0_0
      have hg := Glob.mono ln1_26 hg
      refine d1 15 rfl (e_alloc (cs := [.slice none 0 0, .slice none 0 0, .map none]) trivial rfl ty110 rfl ?_)
      intro b1_15
      refine dn 131071 (sw0 []) ?_
      exact d_edge hU1 (N1_2 Hn1_26 ln1_26 b1_15 b1_16 cb1_10 cs1_10 hb1_10 hc1_10 mz1_16) ⟨rfl, rfl, rfl, rfl, rfl, rfl, rfl, rfl, trivial⟩ [0, 1] (by decide) rfl (fun _ h => h)
    have N1_5 (Hn1_8 : Hp) (ln1_8 : HLe Hb0_0 Hn1_8) (b1_15 : Nat) (b1_16 : Nat) (cb1_10 : List Value) (cs1_10 : List Value) (hb1_10 : Rp.rep (α := Bk none) Hn1_8 cb1_10 x1_10.1) (hc1_10 : Rp.rep (α := Arr 4 Int) Hn1_8 cs1_10 x1_10.2.1) (mz1_16 : Rp.rep (α := Arr 4 Int) Hn1_8 [.int .i64 0, .int .i64 0, .int .i64 0, .int .i64 0] [0, 0, 0, 0]) : At 89 [] (Kp.mk w H noX) [(2, .int .i64 p2), (3, .int .i64 p3), (4, .pointer (some ⟨b0_0, 0, none⟩)), (10, .pointer (some ⟨b1_15, 0, none⟩)), (11, .pointer (some ⟨b1_16, 0, none⟩)), (26, .tuple #[.agg cb1_10.toArray, .agg cs1_10.toArray, .int .i64 x1_10.2.2])] Hn1_8 ([.box b1_15 [.slice none 0 0, .slice none 0 0, .map none] 110, .box b1_16 [.int .i64 0, .int .i64 0, .int .i64 0, .int .i64 0] 111]) (U1 (Sw Hn1_8 []) 7 (bits 20 100351)) := by
      refine d_fwd hU1 ?_
      have hb0_0 := PAt.mono ln1_8 hb0_0
      have hg := Glob.mono ln1_8 hg
      refine dt 11 102399 rfl trivial (y_move rfl) (sw0 []) ?_
      refine dt 12 106495 rfl trivial (y_extract rfl rfl) (sw0 []) ?_
      refine dt 13 114687 rfl trivial (y_extract rfl rfl) (sw0 []) ?_
      refine dt 14 131071 rfl trivial (y_extract rfl rfl) (sw0 []) ?_
      refine d1 17 rfl (e_storeWhole (i := 0) (ds := cb1_10) trivial ty110 rfl rfl rfl rfl (Rp.len hb1_10) ((Rp.one hb1_10)) rfl ?_)
      refine dn 262143 (sw0 []) ?_
      exact d_edge hU1 (N1_1 Hn1_8 ln1_8 b1_15 b1_16 cs1_10 cb1_10 hc1_10 hb1_10 mz1_16) ⟨rfl, rfl, rfl, rfl, rfl, rfl, rfl, trivial⟩ [0, 1] (by decide) rfl (fun _ h => h)
    have N1_6 (Hn1_18 : Hp) (ln1_18 : HLe Hb0_0 Hn1_18) (b1_15 : Nat) (cb1_10 : List Value) (cs1_10 : List Value) (hb1_10 : Rp.rep (α := Bk none) Hn1_18 cb1_10 x1_10.1) (hc1_10 : Rp.rep (α := Arr 4 Int) Hn1_18 cs1_10 x1_10.2.1) : At 89 [] (Kp.mk w H noX) [(2, .int .i64 p2), (3, .int .i64 p3), (4, .pointer (some ⟨b0_0, 0, none⟩)), (10, .pointer (some ⟨b1_15, 0, none⟩)), (26, .tuple #[.agg cb1_10.toArray, .agg cs1_10.toArray, .int .i64 x1_10.2.2])] Hn1_18 ([.box b1_15 [.slice none 0 0, .slice none 0 0, .map none] 110]) (U1 (Sw Hn1_18 []) 8 (bits 20 34815)) := by
      refine d_fwd hU1 ?_
      have hb0_0 := PAt.mono ln1_18 hb0_0
      have hg := Glob.mono ln1_18 hg
      refine dt 11 36863 rfl trivial (y_move rfl) (sw0 []) ?_
      refine dt 12 40959 rfl trivial (y_extract rfl rfl) (sw0 []) ?_
      refine dt 13 49151 rfl trivial (y_extract rfl rfl) (sw0 []) ?_
      refine dt 14 65535 rfl trivial (y_extract rfl rfl) (sw0 []) ?_
      refine d1 16 rfl (e_alloc (cs := [.int .i64 0, .int .i64 0, .int .i64 0, .int .i64 0]) trivial rfl ty111 rfl ?_)
      intro b1_16
      have mz1_16 := z111 Hn1_18
      refine dn 131071 (sw0 []) ?_
      exact d_edge hU1 (N1_2 Hn1_18 ln1_18 b1_15 b1_16 cb1_10 cs1_10 hb1_10 hc1_10 mz1_16) ⟨rfl, rfl, rfl, rfl, rfl, rfl, rfl, rfl, trivial⟩ [1, 0] (by decide) rfl (fun _ h => h)
    have N1_7 (Hn1_13 : Hp) (ln1_13 : HLe Hb0_0 Hn1_13) (b1_16 : Nat) (cb1_10 : List Value) (cs1_10 : List Value) (hb1_10 : Rp.rep (α := Bk none) Hn1_13 cb1_10 x1_10.1) (hc1_10 : Rp.rep (α := Arr 4 Int) Hn1_13 cs1_10 x1_10.2.1) (mz1_16 : Rp.rep (α := Arr 4 Int) Hn1_13 [.int .i64 0, .int .i64 0, .int .i64 0, .int .i64 0] [0, 0, 0, 0]) : At 89 [] (Kp.mk w H noX) [(2, .int .i64 p2), (3, .int .i64 p3), (4, .pointer (some ⟨b0_0, 0, none⟩)), (11, .pointer (some ⟨b1_16, 0, none⟩)), (26, .tuple #[.agg cb1_10.toArray, .agg cs1_10.toArray, .int .i64 x1_10.2.2])] Hn1_13 ([.box b1_16 [.int .i64 0, .int .i64 0, .int .i64 0, .int .i64 0] 111]) (U1 (Sw Hn1_13 []) 8 (bits 20 67583)) := by
      refine d_fwd hU1 ?_
      have hb0_0 := PAt.mono ln1_13 hb0_0
      have hg := Glob.mono ln1_13 hg
      refine dt 11 69631 rfl trivial (y_move rfl) (sw0 []) ?_
      refine dt 12 73727 rfl trivial (y_extract rfl rfl) (sw0 []) ?_
      refine dt 13 81919 rfl trivial (y_extract rfl rfl) (sw0 []) ?_
      refine dt 14 98303 rfl trivial (y_extract rfl rfl) (sw0 []) ?_
      refine d1 15 rfl (e_alloc (cs := [.slice none 0 0, .slice none 0 0, .map none]) trivial rfl ty110 rfl ?_)
      intro b1_15
      refine dn 131071 (sw0 []) ?_
      exact d_edge hU1 (N1_2 Hn1_13 ln1_13 b1_15 b1_16 cb1_10 cs1_10 hb1_10 hc1_10 mz1_16) ⟨rfl, rfl, rfl, rfl, rfl, rfl, rfl, rfl, trivial⟩ [0, 1] (by decide) rfl (fun _ h => h)
    have N1_8 (Hn1_14 : Hp) (ln1_14 : HLe Hb0_0 Hn1_14) (b1_15 : Nat) (b1_16 : Nat) (u1_0 : List Value) (h1_0 : Rp.rep (α := TunnelBook) Hn1_14 u1_0 p0) (mz1_16 : Rp.rep (α := Arr 4 Int) Hn1_14 [.int .i64 0, .int .i64 0, .int .i64 0, .int .i64 0] [0, 0, 0, 0]) : At 89 [] (Kp.mk w H noX) [(2, .int .i64 p2), (3, .int .i64 p3), (4, .pointer (some ⟨b0_0, 0, none⟩)), (10, .pointer (some ⟨b1_15, 0, none⟩)), (11, .pointer (some ⟨b1_16, 0, none⟩)), (16, .agg u1_0.toArray), (17, v1), (25, .bool false)] Hn1_14 ([.box b1_15 [.slice none 0 0, .slice none 0 0, .map none] 110, .box b1_16 [.int .i64 0, .int .i64 0, .int .i64 0, .int .i64 0] 111]) (U1 (Sw Hn1_14 []) 8 (bits 20 99327)) := by
      refine d_fwd hU1 ?_
      have hb0_0 := PAt.mono ln1_14 hb0_0
      have h1 := Sl.mono ln1_14 h1
      have hg := Glob.mono ln1_14 hg
      refine d1 10 rfl (e_callO (all := [.agg u1_0.toArray, v1, .bool false]) trivial rfl Tryd.func80 rfl rfl rfl rfl rfl (fun w hw => ok_80 hw h1_0 h1 q1_10) ?_)
      rintro _ H1_10 _ l1_10 ⟨cb1_10, cs1_10, mm1_10, rfl, hb1_10, hc1_10, hd1_10⟩
      rcases hd1_10 with ⟨rfl, he1_10, rfl⟩ | ⟨M1_10, rfl, he1_10, rfl⟩
      rotate_left
      · exact absurd k1_10 (by simp [he1_10])
      have hb0_0 := PAt.mono l1_10 hb0_0
      have h1_0 := Rp.mono l1_10 h1_0
      have h1 := Sl.mono l1_10 h1
      have mz1_16 := Rp.mono l1_10 mz1_16
      have hg := Glob.mono l1_10 hg
      refine dn 100351 (swl l1_10 []) ?_
      exact d_edge hU1 (N1_5 H1_10 (ln1_14.trans l1_10) b1_15 b1_16 cb1_10 cs1_10 hb1_10 hc1_10 mz1_16) ⟨rfl, rfl, rfl, rfl, rfl, rfl, trivial⟩ [0, 1] (by decide) rfl (sw_sw l1_10 [] rfl)
    have N1_9 (Hn1_22 : Hp) (ln1_22 : HLe Hb0_0 Hn1_22) (cb1_10 : List Value) (cs1_10 : List Value) (hb1_10 : Rp.rep (α := Bk none) Hn1_22 cb1_10 x1_10.1) (hc1_10 : Rp.rep (α := Arr 4 Int) Hn1_22 cs1_10 x1_10.2.1) : At 89 [] (Kp.mk w H noX) [(2, .int .i64 p2), (3, .int .i64 p3), (4, .pointer (some ⟨b0_0, 0, none⟩)), (26, .tuple #[.agg cb1_10.toArray, .agg cs1_10.toArray, .int .i64 x1_10.2.2])] Hn1_22 [] (U1 (Sw Hn1_22 []) 9 (bits 20 2047)) := by
      refine d_fwd hU1 ?_
      have hb0_0 := PAt.mono ln1_22 hb0_0
      have hg := Glob.mono ln1_22 hg
      refine dt 11 4095 rfl trivial (y_move rfl) (sw0 []) ?_
      refine dt 12 8191 rfl trivial (y_extract rfl rfl) (sw0 []) ?_
      refine dt 13 16383 rfl trivial (y_extract rfl rfl) (sw0 []) ?_
      refine dt 14 32767 rfl trivial (y_extract rfl rfl) (sw0 []) ?_
      refine d_all (rs := [15, 16]) (by kernel_rfl) rfl ⟨⟨_, rfl, ?_⟩, ⟨_, rfl, ?_⟩, trivial⟩
      · refine e_alloc (cs := [.slice none 0 0, .slice none 0 0, .map none]) trivial rfl ty110 rfl ?_
        intro b1_15
        refine dn 65535 (sw0 []) ?_
        exact d_edge hU1 (N1_3 Hn1_22 ln1_22 b1_15 cb1_10 cs1_10 hb1_10 hc1_10) ⟨rfl, rfl, rfl, rfl, rfl, rfl, rfl, trivial⟩ [0] (by decide) rfl (fun _ h => h)
      refine e_alloc (cs := [.int .i64 0, .int .i64 0, .int .i64 0, .int .i64 0]) trivial rfl ty111 rfl ?_
      intro b1_16
      have mz1_16 := z111 Hn1_22
      refine dn 98303 (sw0 []) ?_
      exact d_edge hU1 (N1_4 Hn1_22 ln1_22 b1_16 cb1_10 cs1_10 hb1_10 hc1_10 mz1_16) ⟨rfl, rfl, rfl, rfl, rfl, rfl, rfl, trivial⟩ [0] (by decide) rfl (fun _ h => h)
    have N1_10 (Hn1_23 : Hp) (ln1_23 : HLe Hb0_0 Hn1_23) (b1_15 : Nat) (u1_0 : List Value) (h1_0 : Rp.rep (α := TunnelBook) Hn1_23 u1_0 p0) : At 89 [] (Kp.mk w H noX) [(2, .int .i64 p2), (3, .int .i64 p3), (4, .pointer (some ⟨b0_0, 0, none⟩)), (10, .pointer (some ⟨b1_15, 0, none⟩)), (16, .agg u1_0.toArray), (17, v1), (25, .bool false)] Hn1_23 ([.box b1_15 [.slice none 0 0, .slice none 0 0, .map none] 110]) (U1 (Sw Hn1_23 []) 9 (bits 20 33791)) := by
      refine d_fwd hU1 ?_
      have hb0_0 := PAt.mono ln1_23 hb0_0
      have h1 := Sl.mono ln1_23 h1
      have hg := Glob.mono ln1_23 hg
      refine d_all (rs := [10, 16]) (by kernel_rfl) rfl ⟨⟨_, rfl, ?_⟩, ⟨_, rfl, ?_⟩, trivial⟩
      · refine e_callO (all := [.agg u1_0.toArray, v1, .bool false]) trivial rfl Tryd.func80 rfl rfl rfl rfl rfl (fun w hw => ok_80 hw h1_0 h1 q1_10) ?_
        rintro _ H1_10 _ l1_10 ⟨cb1_10, cs1_10, mm1_10, rfl, hb1_10, hc1_10, hd1_10⟩
        rcases hd1_10 with ⟨rfl, he1_10, rfl⟩ | ⟨M1_10, rfl, he1_10, rfl⟩
        rotate_left
        · exact absurd k1_10 (by simp [he1_10])
        have hb0_0 := PAt.mono l1_10 hb0_0
        have h1_0 := Rp.mono l1_10 h1_0
        have h1 := Sl.mono l1_10 h1
        have hg := Glob.mono l1_10 hg
        refine dn 34815 (swl l1_10 []) ?_
        exact d_edge hU1 (N1_6 H1_10 (ln1_23.trans l1_10) b1_15 cb1_10 cs1_10 hb1_10 hc1_10) ⟨rfl, rfl, rfl, rfl, rfl, trivial⟩ [0] (by decide) rfl (sw_sw l1_10 [] rfl)
      refine e_alloc (cs := [.int .i64 0, .int .i64 0, .int .i64 0, .int .i64 0]) trivial rfl ty111 rfl ?_
      intro b1_16
      have mz1_16 := z111 Hn1_23
      refine dn 99327 (sw0 []) ?_
      exact d_edge hU1 (N1_8 Hn1_23 ln1_23 b1_15 b1_16 u1_0 h1_0 mz1_16) ⟨rfl, rfl, rfl, rfl, rfl, rfl, rfl, rfl, trivial⟩ [1, 0] (by decide) rfl (fun _ h => h)
    have N1_11 (Hn1_24 : Hp) (ln1_24 : HLe Hb0_0 Hn1_24) (b1_16 : Nat) (u1_0 : List Value) (h1_0 : Rp.rep (α := TunnelBook) Hn1_24 u1_0 p0) (mz1_16 : Rp.rep (α := Arr 4 Int) Hn1_24 [.int .i64 0, .int .i64 0, .int .i64 0, .int .i64 0] [0, 0, 0, 0]) : At 89 [] (Kp.mk w H noX) [(2, .int .i64 p2), (3, .int .i64 p3), (4, .pointer (some ⟨b0_0, 0, none⟩)), (11, .pointer (some ⟨b1_16, 0, none⟩)), (16, .agg u1_0.toArray), (17, v1), (25, .bool false)] Hn1_24 ([.box b1_16 [.int .i64 0, .int .i64 0, .int .i64 0, .int .i64 0] 111]) (U1 (Sw Hn1_24 []) 9 (bits 20 66559)) := by
      refine d_fwd hU1 ?_
      have hb0_0 := PAt.mono ln1_24 hb0_0
      have h1 := Sl.mono ln1_24 h1
      have hg := Glob.mono ln1_24 hg
      refine d_all (rs := [10, 15]) (by kernel_rfl) rfl ⟨⟨_, rfl, ?_⟩, ⟨_, rfl, ?_⟩, trivial⟩
      · refine e_callO (all := [.agg u1_0.toArray, v1, .bool false]) trivial rfl Tryd.func80 rfl rfl rfl rfl rfl (fun w hw => ok_80 hw h1_0 h1 q1_10) ?_
        rintro _ H1_10 _ l1_10 ⟨cb1_10, cs1_10, mm1_10, rfl, hb1_10, hc1_10, hd1_10⟩
        rcases hd1_10 with ⟨rfl, he1_10, rfl⟩ | ⟨M1_10, rfl, he1_10, rfl⟩
        rotate_left
        · exact absurd k1_10 (by simp [he1_10])
        have hb0_0 := PAt.mono l1_10 hb0_0
        have h1_0 := Rp.mono l1_10 h1_0
        have h1 := Sl.mono l1_10 h1
        have mz1_16 := Rp.mono l1_10 mz1_16
        have hg := Glob.mono l1_10 hg
        refine dn 67583 (swl l1_10 []) ?_
        exact d_edge hU1 (N1_7 H1_10 (ln1_24.trans l1_10) b1_16 cb1_10 cs1_10 hb1_10 hc1_10 mz1_16) ⟨rfl, rfl, rfl, rfl, rfl, trivial⟩ [0] (by decide) rfl (sw_sw l1_10 [] rfl)
      refine e_alloc (cs := [.slice none 0 0, .slice none 0 0, .map none]) trivial rfl ty110 rfl ?_
      intro b1_15
      refine dn 99327 (sw0 []) ?_
      exact d_edge hU1 (N1_8 Hn1_24 ln1_24 b1_15 b1_16 u1_0 h1_0 mz1_16) ⟨rfl, rfl, rfl, rfl, rfl, rfl, rfl, rfl, trivial⟩ [0, 1] (by decide) rfl (fun _ h => h)
    have N1_12 (Hn1_7 : Hp) (ln1_7 : HLe Hb0_0 Hn1_7) (b1_15 : Nat) (b1_16 : Nat) (u1_0 : List Value) (h1_0 : Rp.rep (α := TunnelBook) Hn1_7 u1_0 p0) (mz1_16 : Rp.rep (α := Arr 4 Int) Hn1_7 [.int .i64 0, .int .i64 0, .int .i64 0, .int .i64 0] [0, 0, 0, 0]) : At 89 [] (Kp.mk w H noX) [(2, .int .i64 p2), (3, .int .i64 p3), (4, .pointer (some ⟨b0_0, 0, none⟩)), (10, .pointer (some ⟨b1_15, 0, none⟩)), (11, .pointer (some ⟨b1_16, 0, none⟩)), (16, .agg u1_0.toArray), (17, v1), (21, .bool x1_4), (24, undef)] Hn1_7 ([.box b1_15 [.slice none 0 0, .slice none 0 0, .map none] 110, .box b1_16 [.int .i64 0, .int .i64 0, .int .i64 0, .int .i64 0] 111]) (U1 (Sw Hn1_7 []) 9 (bits 20 98815)) := by
      refine d_fwd hU1 ?_
      have hb0_0 := PAt.mono ln1_7 hb0_0
      have h1 := Sl.mono ln1_7 h1
      have hg := Glob.mono ln1_7 hg
      refine dt 9 99327 rfl trivial (y_pick_f rfl k1_6 rfl) (sw0 []) ?_
      refine d1 10 rfl (e_callO (all := [.agg u1_0.toArray, v1, .bool false]) trivial rfl Tryd.func80 rfl rfl rfl rfl rfl (fun w hw => ok_80 hw h1_0 h1 q1_10) ?_)
      rintro _ H1_10 _ l1_10 ⟨cb1_10, cs1_10, mm1_10, rfl, hb1_10, hc1_10, hd1_10⟩
      rcases hd1_10 with ⟨rfl, he1_10, rfl⟩ | ⟨M1_10, rfl, he1_10, rfl⟩
      rotate_left
      · exact absurd k1_10 (by simp [he1_10])
      have hb0_0 := PAt.mono l1_10 hb0_0
      have h1_0 := Rp.mono l1_10 h1_0
      have h1 := Sl.mono l1_10 h1
      have mz1_16 := Rp.mono l1_10 mz1_16
      have hg := Glob.mono l1_10 hg
      refine dn 100351 (swl l1_10 []) ?_
      exact d_edge hU1 (N1_5 H1_10 (ln1_7.trans l1_10) b1_15 b1_16 cb1_10 cs1_10 hb1_10 hc1_10 mz1_16) ⟨rfl, rfl, rfl, rfl, rfl, rfl, trivial⟩ [0, 1] (by decide) rfl (sw_sw l1_10 [] rfl)
    have N1_13 (Hn1_17 : Hp) (ln1_17 : HLe Hb0_0 Hn1_17) (b1_15 : Nat) (u1_0 : List Value) (h1_0 : Rp.rep (α := TunnelBook) Hn1_17 u1_0 p0) : At 89 [] (Kp.mk w H noX) [(2, .int .i64 p2), (3, .int .i64 p3), (4, .pointer (some ⟨b0_0, 0, none⟩)), (10, .pointer (some ⟨b1_15, 0, none⟩)), (16, .agg u1_0.toArray), (17, v1), (21, .bool x1_4), (24, undef)] Hn1_17 ([.box b1_15 [.slice none 0 0, .slice none 0 0, .map none] 110]) (U1 (Sw Hn1_17 []) 10 (bits 20 33279)) := by
      refine d_fwd hU1 ?_
      have hb0_0 := PAt.mono ln1_17 hb0_0
      have h1 := Sl.mono ln1_17 h1
      have hg := Glob.mono ln1_17 hg
      refine dt 9 33791 rfl trivial (y_pick_f rfl k1_6 rfl) (sw0 []) ?_
      refine d_all (rs := [10, 16]) (by kernel_rfl) rfl ⟨⟨_, rfl, ?_⟩, ⟨_, rfl, ?_⟩, trivial⟩
      · refine e_callO (all := [.agg u1_0.toArray, v1, .bool false]) trivial rfl Tryd.func80 rfl rfl rfl rfl rfl (fun w hw => ok_80 hw h1_0 h1 q1_10) ?_
        rintro _ H1_10 _ l1_10 ⟨cb1_10, cs1_10, mm1_10, rfl, hb1_10, hc1_10, hd1_10⟩
        rcases hd1_10 with ⟨rfl, he1_10, rfl⟩ | ⟨M1_10, rfl, he1_10, rfl⟩
        rotate_left
        · exact absurd k1_10 (by simp [he1_10])
        have hb0_0 := PAt.mono l1_10 hb0_0
        have h1_0 := Rp.mono l1_10 h1_0
        have h1 := Sl.mono l1_10 h1
        have hg := Glob.mono l1_10 hg
        refine dn 34815 (swl l1_10 []) ?_
        exact d_edge hU1 (N1_6 H1_10 (ln1_17.trans l1_10) b1_15 cb1_10 cs1_10 hb1_10 hc1_10) ⟨rfl, rfl, rfl, rfl, rfl, trivial⟩ [0] (by decide) rfl (sw_sw l1_10 [] rfl)
      refine e_alloc (cs := [.int .i64 0, .int .i64 0, .int .i64 0, .int .i64 0]) trivial rfl ty111 rfl ?_
      intro b1_16
      have mz1_16 := z111 Hn1_17
      refine dn 99327 (sw0 []) ?_
      exact d_edge hU1 (N1_8 Hn1_17 ln1_17 b1_15 b1_16 u1_0 h1_0 mz1_16) ⟨rfl, rfl, rfl, rfl, rfl, rfl, rfl, rfl, trivial⟩ [1, 0] (by decide) rfl (fun _ h => h)
    have N1_14 (Hn1_11 : Hp) (ln1_11 : HLe Hb0_0 Hn1_11) (b1_16 : Nat) (u1_0 : List Value) (h1_0 : Rp.rep (α := TunnelBook) Hn1_11 u1_0 p0) (mz1_16 : Rp.rep (α := Arr 4 Int) Hn1_11 [.int .i64 0, .int .i64 0, .int .i64 0, .int .i64 0] [0, 0, 0, 0]) : At 89 [] (Kp.mk w H noX) [(2, .int .i64 p2), (3, .int .i64 p3), (4, .pointer (some ⟨b0_0, 0, none⟩)), (11, .pointer (some ⟨b1_16, 0, none⟩)), (16, .agg u1_0.toArray), (17, v1), (21, .bool x1_4), (24, undef)] Hn1_11 ([.box b1_16 [.int .i64 0, .int .i64 0, .int .i64 0, .int .i64 0] 111]) (U1 (Sw Hn1_11 []) 10 (bits 20 66047)) := by
      refine d_fwd hU1 ?_
      have hb0_0 := PAt.mono ln1_11 hb0_0
      have h1 := Sl.mono ln1_11 h1
      have hg := Glob.mono ln1_11 hg
      refine dt 9 66559 rfl trivial (y_pick_f rfl k1_6 rfl) (sw0 []) ?_
      refine d_all (rs := [10, 15]) (by kernel_rfl) rfl ⟨⟨_, rfl, ?_⟩, ⟨_, rfl, ?_⟩, trivial⟩
      · refine e_callO (all := [.agg u1_0.toArray, v1, .bool false]) trivial rfl Tryd.func80 rfl rfl rfl rfl rfl (fun w hw => ok_80 hw h1_0 h1 q1_10) ?_
        rintro _ H1_10 _ l1_10 ⟨cb1_10, cs1_10, mm1_10, rfl, hb1_10, hc1_10, hd1_10⟩
        rcases hd1_10 with ⟨rfl, he1_10, rfl⟩ | ⟨M1_10, rfl, he1_10, rfl⟩
        rotate_left
        · exact absurd k1_10 (by simp [he1_10])
        have hb0_0 := PAt.mono l1_10 hb0_0
        have h1_0 := Rp.mono l1_10 h1_0
        have h1 := Sl.mono l1_10 h1
        have mz1_16 := Rp.mono l1_10 mz1_16
        have hg := Glob.mono l1_10 hg
        refine dn 67583 (swl l1_10 []) ?_
        exact d_edge hU1 (N1_7 H1_10 (ln1_11.trans l1_10) b1_16 cb1_10 cs1_10 hb1_10 hc1_10 mz1_16) ⟨rfl, rfl, rfl, rfl, rfl, trivial⟩ [0] (by decide) rfl (sw_sw l1_10 [] rfl)
      refine e_alloc (cs := [.slice none 0 0, .slice none 0 0, .map none]) trivial rfl ty110 rfl ?_
      intro b1_15
      refine dn 99327 (sw0 []) ?_
      exact d_edge hU1 (N1_8 Hn1_11 ln1_11 b1_15 b1_16 u1_0 h1_0 mz1_16) ⟨rfl, rfl, rfl, rfl, rfl, rfl, rfl, rfl, trivial⟩ [0, 1] (by decide) rfl (fun _ h => h)
    have N1_15 (Hn1_12 : Hp) (ln1_12 : HLe Hb0_0 Hn1_12) (b1_15 : Nat) (b1_16 : Nat) (u1_0 : List Value) (h1_0 : Rp.rep (α := TunnelBook) Hn1_12 u1_0 p0) (mz1_16 : Rp.rep (α := Arr 4 Int) Hn1_12 [.int .i64 0, .int .i64 0, .int .i64 0, .int .i64 0] [0, 0, 0, 0]) : At 89 [] (Kp.mk w H noX) [(2, .int .i64 p2), (3, .int .i64 p3), (4, .pointer (some ⟨b0_0, 0, none⟩)), (10, .pointer (some ⟨b1_15, 0, none⟩)), (11, .pointer (some ⟨b1_16, 0, none⟩)), (16, .agg u1_0.toArray), (17, v1), (21, .bool x1_4), (22, undef), (23, undef)] Hn1_12 ([.box b1_15 [.slice none 0 0, .slice none 0 0, .map none] 110, .box b1_16 [.int .i64 0, .int .i64 0, .int .i64 0, .int .i64 0] 111]) (U1 (Sw Hn1_12 []) 10 (bits 20 98559)) := by
      refine d_fwd hU1 ?_
      have hb0_0 := PAt.mono ln1_12 hb0_0
      have h1 := Sl.mono ln1_12 h1
      have hg := Glob.mono ln1_12 hg
      refine d1 8 rfl (p_skip (sk1 rfl rfl k1_6) rfl rfl ?_)
      refine dn 98815 (sw0 []) ?_
      exact d_edge hU1 (N1_12 Hn1_12 ln1_12 b1_15 b1_16 u1_0 h1_0 mz1_16) ⟨rfl, rfl, rfl, rfl, rfl, rfl, rfl, rfl, rfl, trivial⟩ [0, 1] (by decide) rfl (fun _ h => h)
    have N1_16 (Hn1_19 : Hp) (ln1_19 : HLe Hb0_0 Hn1_19) (u1_0 : List Value) (h1_0 : Rp.rep (α := TunnelBook) Hn1_19 u1_0 p0) : At 89 [] (Kp.mk w H noX) [(2, .int .i64 p2), (3, .int .i64 p3), (4, .pointer (some ⟨b0_0, 0, none⟩)), (16, .agg u1_0.toArray), (17, v1), (21, .bool x1_4), (24, undef)] Hn1_19 [] (U1 (Sw Hn1_19 []) 11 (bits 20 511)) := by
      refine d_fwd hU1 ?_
      have hb0_0 := PAt.mono ln1_19 hb0_0
      have h1 := Sl.mono ln1_19 h1
      have hg := Glob.mono ln1_19 hg
      refine dt 9 1023 rfl trivial (y_pick_f rfl k1_6 rfl) (sw0 []) ?_
      refine d_all (rs := [10, 15, 16]) (by kernel_rfl) rfl ⟨⟨_, rfl, ?_⟩, ⟨_, rfl, ?_⟩, ⟨_, rfl, ?_⟩, trivial⟩
      · refine e_callO (all := [.agg u1_0.toArray, v1, .bool false]) trivial rfl Tryd.func80 rfl rfl rfl rfl rfl (fun w hw => ok_80 hw h1_0 h1 q1_10) ?_
        rintro _ H1_10 _ l1_10 ⟨cb1_10, cs1_10, mm1_10, rfl, hb1_10, hc1_10, hd1_10⟩
        rcases hd1_10 with ⟨rfl, he1_10, rfl⟩ | ⟨M1_10, rfl, he1_10, rfl⟩
        rotate_left
        · exact absurd k1_10 (by simp [he1_10])
        have hb0_0 := PAt.mono l1_10 hb0_0
        have h1_0 := Rp.mono l1_10 h1_0
        have h1 := Sl.mono l1_10 h1
        have hg := Glob.mono l1_10 hg
        refine dn 2047 (swl l1_10 []) ?_
        exact d_edge hU1 (N1_9 H1_10 (ln1_19.trans l1_10) cb1_10 cs1_10 hb1_10 hc1_10) ⟨rfl, rfl, rfl, rfl, trivial⟩ [] (by decide) rfl (sw_sw l1_10 [] rfl)
      · refine e_alloc (cs := [.slice none 0 0, .slice none 0 0, .map none]) trivial rfl ty110 rfl ?_
        intro b1_15
        refine dn 33791 (sw0 []) ?_
        exact d_edge hU1 (N1_10 Hn1_19 ln1_19 b1_15 u1_0 h1_0) ⟨rfl, rfl, rfl, rfl, rfl, rfl, rfl, trivial⟩ [0] (by decide) rfl (fun _ h => h)
      refine e_alloc (cs := [.int .i64 0, .int .i64 0, .int .i64 0, .int .i64 0]) trivial rfl ty111 rfl ?_
      intro b1_16
      have mz1_16 := z111 Hn1_19
      refine dn 66559 (sw0 []) ?_
      exact d_edge hU1 (N1_11 Hn1_19 ln1_19 b1_16 u1_0 h1_0 mz1_16) ⟨rfl, rfl, rfl, rfl, rfl, rfl, rfl, trivial⟩ [0] (by decide) rfl (fun _ h => h)
    have N1_17 (Hn1_20 : Hp) (ln1_20 : HLe Hb0_0 Hn1_20) (b1_15 : Nat) (u1_0 : List Value) (h1_0 : Rp.rep (α := TunnelBook) Hn1_20 u1_0 p0) : At 89 [] (Kp.mk w H noX) [(2, .int .i64 p2), (3, .int .i64 p3), (4, .pointer (some ⟨b0_0, 0, none⟩)), (10, .pointer (some ⟨b1_15, 0, none⟩)), (16, .agg u1_0.toArray), (17, v1), (21, .bool x1_4), (22, undef), (23, undef)] Hn1_20 ([.box b1_15 [.slice none 0 0, .slice none 0 0, .map none] 110]) (U1 (Sw Hn1_20 []) 11 (bits 20 33023)) := by
      refine d_fwd hU1 ?_
      have hb0_0 := PAt.mono ln1_20 hb0_0
      have h1 := Sl.mono ln1_20 h1
      have hg := Glob.mono ln1_20 hg
      refine d_all (rs := [8, 16]) (by kernel_rfl) rfl ⟨⟨_, rfl, ?_⟩, ⟨_, rfl, ?_⟩, trivial⟩
      · refine p_skip (sk1 rfl rfl k1_6) rfl rfl ?_
        refine dn 33279 (sw0 []) ?_
        exact d_edge hU1 (N1_13 Hn1_20 ln1_20 b1_15 u1_0 h1_0) ⟨rfl, rfl, rfl, rfl, rfl, rfl, rfl, rfl, trivial⟩ [0] (by decide) rfl (fun _ h => h)
      refine e_alloc (cs := [.int .i64 0, .int .i64 0, .int .i64 0, .int .i64 0]) trivial rfl ty111 rfl ?_
      intro b1_16
      have mz1_16 := z111 Hn1_20
      refine dn 98559 (sw0 []) ?_
      exact d_edge hU1 (N1_15 Hn1_20 ln1_20 b1_15 b1_16 u1_0 h1_0 mz1_16) ⟨rfl, rfl, rfl, rfl, rfl, rfl, rfl, rfl, rfl, rfl, trivial⟩ [1, 0] (by decide) rfl (fun _ h => h)
    have N1_18 (Hn1_21 : Hp) (ln1_21 : HLe Hb0_0 Hn1_21) (b1_16 : Nat) (u1_0 : List Value) (h1_0 : Rp.rep (α := TunnelBook) Hn1_21 u1_0 p0) (mz1_16 : Rp.rep (α := Arr 4 Int) Hn1_21 [.int .i64 0, .int .i64 0, .int .i64 0, .int .i64 0] [0, 0, 0, 0]) : At 89 [] (Kp.mk w H noX) [(2, .int .i64 p2), (3, .int .i64 p3), (4, .pointer (some ⟨b0_0, 0, none⟩)), (11, .pointer (some ⟨b1_16, 0, none⟩)), (16, .agg u1_0.toArray), (17, v1), (21, .bool x1_4), (22, undef), (23, undef)] Hn1_21 ([.box b1_16 [.int .i64 0, .int .i64 0, .int .i64 0, .int .i64 0] 111]) (U1 (Sw Hn1_21 []) 11 (bits 20 65791)) := by
      refine d_fwd hU1 ?_
      have hb0_0 := PAt.mono ln1_21 hb0_0
      have h1 := Sl.mono ln1_21 h1
      have hg := Glob.mono ln1_21 hg
      refine d_all (rs := [8, 15]) (by kernel_rfl) rfl ⟨⟨_, rfl, ?_⟩, ⟨_, rfl, ?_⟩, trivial⟩
      · refine p_skip (sk1 rfl rfl k1_6) rfl rfl ?_
        refine dn 66047 (sw0 []) ?_
        exact d_edge hU1 (N1_14 Hn1_21 ln1_21 b1_16 u1_0 h1_0 mz1_16) ⟨rfl, rfl, rfl, rfl, rfl, rfl, rfl, rfl, trivial⟩ [0] (by decide) rfl (fun _ h => h)
      refine e_alloc (cs := [.slice none 0 0, .slice none 0 0, .map none]) trivial rfl ty110 rfl ?_
      intro b1_15
      refine dn 98559 (sw0 []) ?_
      exact d_edge hU1 (N1_15 Hn1_21 ln1_21 b1_15 b1_16 u1_0 h1_0 mz1_16) ⟨rfl, rfl, rfl, rfl, rfl, rfl, rfl, rfl, rfl, rfl, trivial⟩ [0, 1] (by decide) rfl (fun _ h => h)
    have N1_19 (Hn1_6 : Hp) (ln1_6 : HLe Hb0_0 Hn1_6) (b1_15 : Nat) (b1_16 : Nat) (u1_0 : List Value) (h1_0 : Rp.rep (α := TunnelBook) Hn1_6 u1_0 p0) (mz1_16 : Rp.rep (α := Arr 4 Int) Hn1_6 [.int .i64 0, .int .i64 0, .int .i64 0, .int .i64 0] [0, 0, 0, 0]) : At 89 [] (Kp.mk w H noX) [(2, .int .i64 p2), (3, .int .i64 p3), (4, .pointer (some ⟨b0_0, 0, none⟩)), (10, .pointer (some ⟨b1_15, 0, none⟩)), (11, .pointer (some ⟨b1_16, 0, none⟩)), (16, .agg u1_0.toArray), (17, v1), (20, .bool x1_4)] Hn1_6 ([.box b1_15 [.slice none 0 0, .slice none 0 0, .map none] 110, .box b1_16 [.int .i64 0, .int .i64 0, .int .i64 0, .int .i64 0] 111]) (U1 (Sw Hn1_6 []) 13 (bits 20 98335)) := by
      refine d_fwd hU1 ?_
      have hb0_0 := PAt.mono ln1_6 hb0_0
      have h1 := Sl.mono ln1_6 h1
      have hg := Glob.mono ln1_6 hg
      refine dt 5 98367 rfl trivial (y_move rfl) (sw0 []) ?_
      refine dk 6 98431 rfl (sk1 rfl rfl k1_6) (sw0 []) ?_
      refine dk 7 98559 rfl (sk1 rfl rfl k1_6) (sw0 []) ?_
      refine d1 8 rfl (p_skip (sk1 rfl rfl k1_6) rfl rfl ?_)
      refine dn 98815 (sw0 []) ?_
      exact d_edge hU1 (N1_12 Hn1_6 ln1_6 b1_15 b1_16 u1_0 h1_0 mz1_16) ⟨rfl, rfl, rfl, rfl, rfl, rfl, rfl, rfl, rfl, trivial⟩ [0, 1] (by decide) rfl (fun _ h => h)
    have N1_20 (Hn1_16 : Hp) (ln1_16 : HLe Hb0_0 Hn1_16) (b1_15 : Nat) (u1_0 : List Value) (h1_0 : Rp.rep (α := TunnelBook) Hn1_16 u1_0 p0) : At 89 [] (Kp.mk w H noX) [(2, .int .i64 p2), (3, .int .i64 p3), (4, .pointer (some ⟨b0_0, 0, none⟩)), (10, .pointer (some ⟨b1_15, 0, none⟩)), (16, .agg u1_0.toArray), (17, v1), (20, .bool x1_4)] Hn1_16 ([.box b1_15 [.slice none 0 0, .slice none 0 0, .map none] 110]) (U1 (Sw Hn1_16 []) 14 (bits 20 32799)) := by
      refine d_fwd hU1 ?_
      have hb0_0 := PAt.mono ln1_16 hb0_0
      have h1 := Sl.mono ln1_16 h1
      have hg := Glob.mono ln1_16 hg
      refine dt 5 32831 rfl trivial (y_move rfl) (sw0 []) ?_
      refine dk 6 32895 rfl (sk1 rfl rfl k1_6) (sw0 []) ?_
      refine dk 7 33023 rfl (sk1 rfl rfl k1_6) (sw0 []) ?_
      refine d_all (rs := [8, 16]) (by kernel_rfl) rfl ⟨⟨_, rfl, ?_⟩, ⟨_, rfl, ?_⟩, trivial⟩
      · refine p_skip (sk1 rfl rfl k1_6) rfl rfl ?_
        refine dn 33279 (sw0 []) ?_
        exact d_edge hU1 (N1_13 Hn1_16 ln1_16 b1_15 u1_0 h1_0) ⟨rfl, rfl, rfl, rfl, rfl, rfl, rfl, rfl, trivial⟩ [0] (by decide) rfl (fun _ h => h)
      refine e_alloc (cs := [.int .i64 0, .int .i64 0, .int .i64 0, .int .i64 0]) trivial rfl ty111 rfl ?_
      intro b1_16
      have mz1_16 := z111 Hn1_16
      refine dn 98559 (sw0 []) ?_
      exact d_edge hU1 (N1_15 Hn1_16 ln1_16 b1_15 b1_16 u1_0 h1_0 mz1_16) ⟨rfl, rfl, rfl, rfl, rfl, rfl, rfl, rfl, rfl, rfl, trivial⟩ [1, 0] (by decide) rfl (fun _ h => h)
    have N1_21 (Hn1_4 : Hp) (ln1_4 : HLe Hb0_0 Hn1_4) (b1_16 : Nat) (u1_0 : List Value) (h1_0 : Rp.rep (α := TunnelBook) Hn1_4 u1_0 p0) (mz1_16 : Rp.rep (α := Arr 4 Int) Hn1_4 [.int .i64 0, .int .i64 0, .int .i64 0, .int .i64 0] [0, 0, 0, 0]) : At 89 [] (Kp.mk w H noX) [(2, .int .i64 p2), (3, .int .i64 p3), (4, .pointer (some ⟨b0_0, 0, none⟩)), (11, .pointer (some ⟨b1_16, 0, none⟩)), (16, .agg u1_0.toArray), (17, v1), (20, .bool x1_4)] Hn1_4 ([.box b1_16 [.int .i64 0, .int .i64 0, .int .i64 0, .int .i64 0] 111]) (U1 (Sw Hn1_4 []) 14 (bits 20 65567)) := by
      refine d_fwd hU1 ?_
      have hb0_0 := PAt.mono ln1_4 hb0_0
      have h1 := Sl.mono ln1_4 h1
      have hg := Glob.mono ln1_4 hg
      refine dt 5 65599 rfl trivial (y_move rfl) (sw0 []) ?_
      refine dk 6 65663 rfl (sk1 rfl rfl k1_6) (sw0 []) ?_
      refine dk 7 65791 rfl (sk1 rfl rfl k1_6) (sw0 []) ?_
      refine d_all (rs := [8, 15]) (by kernel_rfl) rfl ⟨⟨_, rfl, ?_⟩, ⟨_, rfl, ?_⟩, trivial⟩
      · refine p_skip (sk1 rfl rfl k1_6) rfl rfl ?_
        refine dn 66047 (sw0 []) ?_
        exact d_edge hU1 (N1_14 Hn1_4 ln1_4 b1_16 u1_0 h1_0 mz1_16) ⟨rfl, rfl, rfl, rfl, rfl, rfl, rfl, rfl, trivial⟩ [0] (by decide) rfl (fun _ h => h)
      refine e_alloc (cs := [.slice none 0 0, .slice none 0 0, .map none]) trivial rfl ty110 rfl ?_
      intro b1_15
      refine dn 98559 (sw0 []) ?_
      exact d_edge hU1 (N1_15 Hn1_4 ln1_4 b1_15 b1_16 u1_0 h1_0 mz1_16) ⟨rfl, rfl, rfl, rfl, rfl, rfl, rfl, rfl, rfl, rfl, trivial⟩ [0, 1] (by decide) rfl (fun _ h => h)
    have N1_22 (Hn1_5 : Hp) (ln1_5 : HLe Hb0_0 Hn1_5) (b1_15 : Nat) (b1_16 : Nat) (u1_0 : List Value) (u1_2 : List Value) (h1_0 : Rp.rep (α := TunnelBook) Hn1_5 u1_0 p0) (h1_2 : Rp.rep (α := TunnelBook) Hn1_5 u1_2 p0) (mz1_16 : Rp.rep (α := Arr 4 Int) Hn1_5 [.int .i64 0, .int .i64 0, .int .i64 0, .int .i64 0] [0, 0, 0, 0]) : At 89 [] (Kp.mk w H noX) [(2, .int .i64 p2), (3, .int .i64 p3), (4, .pointer (some ⟨b0_0, 0, none⟩)), (10, .pointer (some ⟨b1_15, 0, none⟩)), (11, .pointer (some ⟨b1_16, 0, none⟩)), (16, .agg u1_0.toArray), (17, v1), (18, .agg u1_2.toArray), (19, .int .i64 p2)] Hn1_5 ([.box b1_15 [.slice none 0 0, .slice none 0 0, .map none] 110, .box b1_16 [.int .i64 0, .int .i64 0, .int .i64 0, .int .i64 0] 111]) (U1 (Sw Hn1_5 []) 14 (bits 20 98319)) := by
      refine d_fwd hU1 ?_
      have hb0_0 := PAt.mono ln1_5 hb0_0
      have h1 := Sl.mono ln1_5 h1
      have hg := Glob.mono ln1_5 hg
      refine d1 4 rfl (e_callV (all := [.agg u1_2.toArray, .int .i64 p2]) (v := .bool x1_4) trivial rfl Tryd.func88 rfl rfl rfl rfl rfl (fun w hw => ok_88 hw h1_2 q1_4) ?_)
      refine dn 98335 (sw0 []) ?_
      exact d_edge hU1 (N1_19 Hn1_5 ln1_5 b1_15 b1_16 u1_0 h1_0 mz1_16) ⟨rfl, rfl, rfl, rfl, rfl, rfl, rfl, rfl, trivial⟩ [0, 1] (by decide) rfl (fun _ h => h)
    have N1_23 (Hn1_1 : Hp) (ln1_1 : HLe Hb0_0 Hn1_1) (u1_0 : List Value) (h1_0 : Rp.rep (α := TunnelBook) Hn1_1 u1_0 p0) : At 89 [] (Kp.mk w H noX) [(2, .int .i64 p2), (3, .int .i64 p3), (4, .pointer (some ⟨b0_0, 0, none⟩)), (16, .agg u1_0.toArray), (17, v1), (20, .bool x1_4)] Hn1_1 [] (U1 (Sw Hn1_1 []) 15 (bits 20 31)) := by
      refine d_fwd hU1 ?_
      have hb0_0 := PAt.mono ln1_1 hb0_0
      have h1 := Sl.mono ln1_1 h1
      have hg := Glob.mono ln1_1 hg
      refine dt 5 63 rfl trivial (y_move rfl) (sw0 []) ?_
      refine dk 6 127 rfl (sk1 rfl rfl k1_6) (sw0 []) ?_
      refine dk 7 255 rfl (sk1 rfl rfl k1_6) (sw0 []) ?_
      refine d_all (rs := [8, 15, 16]) (by kernel_rfl) rfl ⟨⟨_, rfl, ?_⟩, ⟨_, rfl, ?_⟩, ⟨_, rfl, ?_⟩, trivial⟩
      · refine p_skip (sk1 rfl rfl k1_6) rfl rfl ?_
        refine dn 511 (sw0 []) ?_
        exact d_edge hU1 (N1_16 Hn1_1 ln1_1 u1_0 h1_0) ⟨rfl, rfl, rfl, rfl, rfl, rfl, rfl, trivial⟩ [] (by decide) rfl (fun _ h => h)
      · refine e_alloc (cs := [.slice none 0 0, .slice none 0 0, .map none]) trivial rfl ty110 rfl ?_
        intro b1_15
        refine dn 33023 (sw0 []) ?_
        exact d_edge hU1 (N1_17 Hn1_1 ln1_1 b1_15 u1_0 h1_0) ⟨rfl, rfl, rfl, rfl, rfl, rfl, rfl, rfl, rfl, trivial⟩ [0] (by decide) rfl (fun _ h => h)
      refine e_alloc (cs := [.int .i64 0, .int .i64 0, .int .i64 0, .int .i64 0]) trivial rfl ty111 rfl ?_
      intro b1_16
      have mz1_16 := z111 Hn1_1
      refine dn 65791 (sw0 []) ?_
      exact d_edge hU1 (N1_18 Hn1_1 ln1_1 b1_16 u1_0 h1_0 mz1_16) ⟨rfl, rfl, rfl, rfl, rfl, rfl, rfl, rfl, rfl, trivial⟩ [0] (by decide) rfl (fun _ h => h)
    have N1_24 (Hn1_2 : Hp) (ln1_2 : HLe Hb0_0 Hn1_2) (b1_15 : Nat) (u1_0 : List Value) (u1_2 : List Value) (h1_0 : Rp.rep (α := TunnelBook) Hn1_2 u1_0 p0) (h1_2 : Rp.rep (α := TunnelBook) Hn1_2 u1_2 p0) : At 89 [] (Kp.mk w H noX) [(2, .int .i64 p2), (3, .int .i64 p3), (4, .pointer (some ⟨b0_0, 0, none⟩)), (10, .pointer (some ⟨b1_15, 0, none⟩)), (16, .agg u1_0.toArray), (17, v1), (18, .agg u1_2.toArray), (19, .int .i64 p2)] Hn1_2 ([.box b1_15 [.slice none 0 0, .slice none 0 0, .map none] 110]) (U1 (Sw Hn1_2 []) 15 (bits 20 32783)) := by
      refine d_fwd hU1 ?_
      have hb0_0 := PAt.mono ln1_2 hb0_0
      have h1 := Sl.mono ln1_2 h1
      have hg := Glob.mono ln1_2 hg
      refine d_all (rs := [4, 16]) (by kernel_rfl) rfl ⟨⟨_, rfl, ?_⟩, ⟨_, rfl, ?_⟩, trivial⟩
      · refine e_callV (all := [.agg u1_2.toArray, .int .i64 p2]) (v := .bool x1_4) trivial rfl Tryd.func88 rfl rfl rfl rfl rfl (fun w hw => ok_88 hw h1_2 q1_4) ?_
        refine dn 32799 (sw0 []) ?_
        exact d_edge hU1 (N1_20 Hn1_2 ln1_2 b1_15 u1_0 h1_0) ⟨rfl, rfl, rfl, rfl, rfl, rfl, rfl, trivial⟩ [0] (by decide) rfl (fun _ h => h)
      refine e_alloc (cs := [.int .i64 0, .int .i64 0, .int .i64 0, .int .i64 0]) trivial rfl ty111 rfl ?_
      intro b1_16
      have mz1_16 := z111 Hn1_2
      refine dn 98319 (sw0 []) ?_
      exact d_edge hU1 (N1_22 Hn1_2 ln1_2 b1_15 b1_16 u1_0 u1_2 h1_0 h1_2 mz1_16) ⟨rfl, rfl, rfl, rfl, rfl, rfl, rfl, rfl, rfl, trivial⟩ [1, 0] (by decide) rfl (fun _ h => h)
    have N1_25 (Hn1_3 : Hp) (ln1_3 : HLe Hb0_0 Hn1_3) (b1_16 : Nat) (u1_0 : List Value) (u1_2 : List Value) (h1_0 : Rp.rep (α := TunnelBook) Hn1_3 u1_0 p0) (h1_2 : Rp.rep (α := TunnelBook) Hn1_3 u1_2 p0) (mz1_16 : Rp.rep (α := Arr 4 Int) Hn1_3 [.int .i64 0, .int .i64 0, .int .i64 0, .int .i64 0] [0, 0, 0, 0]) : At 89 [] (Kp.mk w H noX) [(2, .int .i64 p2), (3, .int .i64 p3), (4, .pointer (some ⟨b0_0, 0, none⟩)), (11, .pointer (some ⟨b1_16, 0, none⟩)), (16, .agg u1_0.toArray), (17, v1), (18, .agg u1_2.toArray), (19, .int .i64 p2)] Hn1_3 ([.box b1_16 [.int .i64 0, .int .i64 0, .int .i64 0, .int .i64 0] 111]) (U1 (Sw Hn1_3 []) 15 (bits 20 65551)) := by
      refine d_fwd hU1 ?_
      have hb0_0 := PAt.mono ln1_3 hb0_0
      have h1 := Sl.mono ln1_3 h1
      have hg := Glob.mono ln1_3 hg
      refine d_all (rs := [4, 15]) (by kernel_rfl) rfl ⟨⟨_, rfl, ?_⟩, ⟨_, rfl, ?_⟩, trivial⟩
      · refine e_callV (all := [.agg u1_2.toArray, .int .i64 p2]) (v := .bool x1_4) trivial rfl Tryd.func88 rfl rfl rfl rfl rfl (fun w hw => ok_88 hw h1_2 q1_4) ?_
        refine dn 65567 (sw0 []) ?_
        exact d_edge hU1 (N1_21 Hn1_3 ln1_3 b1_16 u1_0 h1_0 mz1_16) ⟨rfl, rfl, rfl, rfl, rfl, rfl, rfl, trivial⟩ [0] (by decide) rfl (fun _ h => h)
      refine e_alloc (cs := [.slice none 0 0, .slice none 0 0, .map none]) trivial rfl ty110 rfl ?_
      intro b1_15
      refine dn 98319 (sw0 []) ?_
      exact d_edge hU1 (N1_22 Hn1_3 ln1_3 b1_15 b1_16 u1_0 u1_2 h1_0 h1_2 mz1_16) ⟨rfl, rfl, rfl, rfl, rfl, rfl, rfl, rfl, rfl, trivial⟩ [0, 1] (by decide) rfl (fun _ h => h)
    refine d_fwd hU1 ?_
    obtain ⟨u1_0, h1_0, c1_0⟩ := PAt.one hb0_0
    refine dt 0 1 rfl trivial (y_load_cells ty25 rfl (fun _ h => h.1) rfl c1_0 (Rp.len h1_0)) (sw0 []) ?_
    refine dt 1 3 rfl trivial (y_move rfl) (sw0 []) ?_
    obtain ⟨u1_2, h1_2, c1_2⟩ := PAt.one hb0_0
    refine dt 2 7 rfl trivial (y_load_cells ty25 rfl (fun _ h => h.1) rfl c1_2 (Rp.len h1_2)) (sw0 []) ?_
    refine dt 3 15 rfl trivial (y_move rfl) (sw0 []) ?_
    refine d_all (rs := [4, 15, 16]) (by kernel_rfl) rfl ⟨⟨_, rfl, ?_⟩, ⟨_, rfl, ?_⟩, ⟨_, rfl, ?_⟩, trivial⟩
    · refine e_callV (all := [.agg u1_2.toArray, .int .i64 p2]) (v := .bool x1_4) trivial rfl Tryd.func88 rfl rfl rfl rfl rfl (fun w hw => ok_88 hw h1_2 q1_4) ?_
      refine dn 31 (sw0 []) ?_
      exact d_edge hU1 (N1_23 Hb0_0 (HLe.refl _) u1_0 h1_0) ⟨rfl, rfl, rfl, rfl, rfl, rfl, trivial⟩ [] (by decide) rfl (fun _ h => h)
    · refine e_alloc (cs := [.slice none 0 0, .slice none 0 0, .map none]) trivial rfl ty110 rfl ?_
      intro b1_15
      refine dn 32783 (sw0 []) ?_
      exact d_edge hU1 (N1_24 Hb0_0 (HLe.refl _) b1_15 u1_0 u1_2 h1_0 h1_2) ⟨rfl, rfl, rfl, rfl, rfl, rfl, rfl, rfl, trivial⟩ [0] (by decide) rfl (fun _ h => h)
    refine e_alloc (cs := [.int .i64 0, .int .i64 0, .int .i64 0, .int .i64 0]) trivial rfl ty111 rfl ?_
    intro b1_16
    have mz1_16 := z111 Hb0_0
    refine dn 65551 (sw0 []) ?_
    exact d_edge hU1 (N1_25 Hb0_0 (HLe.refl _) b1_16 u1_0 u1_2 h1_0 h1_2 mz1_16) ⟨rfl, rfl, rfl, rfl, rfl, rfl, rfl, rfl, trivial⟩ [0] (by decide) rfl (fun _ h => h)
  have hm := cond_f k1_10 hm
  cases hm

def law03_lost (k : Nat) : Option TunnelBook :=
 (law03_book k).bind fun x1_0 =>
 (law03_frame k 20 20 0 5).bind fun x2_2 =>
 (app x1_0.Frames [x2_2]).bind fun x2_4 =>
 some ((⟨x1_0.Parts, x2_4⟩ : TunnelBook))
theorem ok_71 {k : Nat} {H : Hp} {w : World} {r : TunnelBook} (hsub : Sub H w)  (hm : law03_lost k = some r) : Calls Tryd.prog 71 [].toArray w (PostH w H fun v H' => ∃ c0, v = .agg c0.toArray ∧ Rp.rep (α := TunnelBook) H' c0 r) := by
  unfold law03_lost at hm
  refine start (n := 10) (E := []) Tryd.func71 rfl rfl trivial rfl hsub ?_
  refine a_seq (a_region rfl ?_)
  refine a_cons (e_alloc (cs := [.slice none 0 0, .slice none 0 0]) trivial rfl ty25 rfl ?_)
  intro b0_0
  refine a_nil (a_then (a_seq (a_region rfl ?_)))
  obtain ⟨x1_0, q1_0, hm⟩ := bind_some hm
  refine a_cons (e_callO (all := []) trivial rfl Tryd.func69 rfl rfl rfl rfl rfl (fun w hw => ok_69 hw q1_0) ?_)
  rintro _ H1_0 _ l1_0 ⟨vp1_0, vf1_0, cp1_0, cf1_0, rfl, rfl, hp1_0, hf1_0⟩
  refine a_cons (e_alloc (cs := [.slice none 0 0, .slice none 0 0]) trivial rfl ty25 rfl ?_)
  intro b1_1
  refine a_cons (e_storeWholeL (i := 0) (ds := [vp1_0, vf1_0]) trivial ty25 rfl rfl rfl rfl rfl ⟨.inr ⟨_, _, _, List.mem_of_getElem? (i := 1) rfl⟩, ⟨.inr ⟨_, _, _, List.mem_of_getElem? (i := 2) rfl⟩, trivial⟩⟩ rfl ?_)
  refine a_nil ?_
  refine a_en [(0, .pointer (some ⟨b0_0, 0, none⟩)), (1, .pointer (some ⟨b1_1, 0, none⟩))] ?_
  refine a_then (a_seq ?_)
  obtain ⟨x2_2, q2_2, hm⟩ := bind_some hm
  obtain ⟨x2_4, q2_4, hm⟩ := bind_some hm
  refine d_region (S := Sw H1_0 [.box b0_0 [.slice none 0 0, .slice none 0 0] 25]) (n := 7) (listed := (bits 7 0)) mixed (by kernel_rfl) rfl (by kernel_rfl) ?_
  refine d_abs fun U2 hU2 => ?_
  have N2_0 (Hn2_7 : Hp) (ln2_7 : HLe H1_0 Hn2_7) (v2_3 : Value) (c2_2r0 : List Value) (v2_4 : Value) (u2_4 : List Value) (h2_3 : RepL (α := TunnelFrame) Hn2_7 (c2_2r0 ++ ([])) [x2_2]) (h2_4 : RepL (α := TunnelFrame) Hn2_7 u2_4 x2_4) : At 10 [] (Kp.mk w H noX) [(0, .pointer (some ⟨b0_0, 0, none⟩)), (1, .pointer (some ⟨b1_1, 0, none⟩))] Hn2_7 ([.box b0_0 [.slice none 0 0, .slice none 0 0] 25, .box b1_1 [vp1_0, v2_4] 25, .row v2_3 (c2_2r0 ++ ([])) 55 3, .row v2_4 u2_4 55 3, .row vp1_0 cp1_0 64 6]) (U2 (Sw Hn2_7 [.box b0_0 [.slice none 0 0, .slice none 0 0] 25]) 0 (bits 7 127)) := by
    refine d_fwd hU2 ?_
    have hp1_0 := RepL.mono ln2_7 hp1_0
    refine d_done (by kernel_rfl) ?_
    refine a_own [0, 1, 3, 4] (by decide) (L' := [.box b0_0 [.slice none 0 0, .slice none 0 0] 25, .box b1_1 [vp1_0, v2_4] 25, .row v2_4 u2_4 55 3, .row vp1_0 cp1_0 64 6]) rfl ?_
    refine a_then (a_seq (a_region rfl ?_))
    refine ap (y_load_boxagg ty25 rfl (knows_box (i := 1) rfl) rfl rfl rfl) ?_
    refine a_cons (e_storeWholeL (i := 0) (ds := [vp1_0, v2_4]) trivial ty25 rfl rfl rfl rfl rfl ⟨.inr ⟨_, _, _, List.mem_of_getElem? (i := 3) rfl⟩, ⟨.inr ⟨_, _, _, List.mem_of_getElem? (i := 2) rfl⟩, trivial⟩⟩ rfl ?_)
    refine a_nil ?_
    refine a_en [(0, .pointer (some ⟨b0_0, 0, none⟩))] ?_
    refine a_own [0, 2, 3] (by decide) (L' := [.box b0_0 [vp1_0, v2_4] 25, .row v2_4 u2_4 55 3, .row vp1_0 cp1_0 64 6]) rfl ?_
    refine a_then (a_ret ?_)
    refine a_frow (i := 2) rfl rfl hp1_0 rfl ?_
    intro He0rp1_0f le0rp1_0f he0rp1_0f
    have h2_4 := RepL.mono le0rp1_0f h2_4
    refine a_frow (i := 1) rfl rfl h2_4 rfl ?_
    intro He0r2_4f le0r2_4f he0r2_4f
    have he0rp1_0f := Sl.mono le0r2_4f he0rp1_0f
    have me0l : Rp.rep He0r2_4f [vp1_0, v2_4] (⟨x1_0.Parts, x2_4⟩ : TunnelBook) := ⟨_, _, rfl, ⟨_, rfl, he0rp1_0f⟩, ⟨_, rfl, he0r2_4f⟩⟩
    refine a_done (v := .agg [vp1_0, v2_4].toArray) (.inl rfl) rfl ?_ ?_
    · intro a_ w_ ha_ hs_; exact run_results (P := Tryd.prog) (fn := Tryd.f71) (rs := [.cell 0 25]) (vs := [.agg [vp1_0, v2_4].toArray]) rfl (.cons (rv_cell ha_ rfl (run_loadSt (i := 0) ty25 rfl hs_ rfl rfl)) (All2.nil))
    · intro _ _; obtain rfl := Option.some.inj hm; exact ⟨[vp1_0, v2_4], rfl, me0l⟩
  have N2_1 (Hn2_6 : Hp) (ln2_6 : HLe H1_0 Hn2_6) (v2_3 : Value) (c2_2r0 : List Value) (v2_4 : Value) (u2_4 : List Value) (h2_3 : RepL (α := TunnelFrame) Hn2_6 (c2_2r0 ++ ([])) [x2_2]) (h2_4 : RepL (α := TunnelFrame) Hn2_6 u2_4 x2_4) : At 10 [] (Kp.mk w H noX) [(0, .pointer (some ⟨b0_0, 0, none⟩)), (1, .pointer (some ⟨b1_1, 0, none⟩)), (7, v2_4)] Hn2_6 ([.box b0_0 [.slice none 0 0, .slice none 0 0] 25, .box b1_1 [vp1_0, vf1_0] 25, .row v2_3 (c2_2r0 ++ ([])) 55 3, .row v2_4 u2_4 55 3, .row vp1_0 cp1_0 64 6]) (U2 (Sw Hn2_6 [.box b0_0 [.slice none 0 0, .slice none 0 0] 25]) 2 (bits 7 31)) := by
    refine d_fwd hU2 ?_
    have hp1_0 := RepL.mono ln2_6 hp1_0
    refine dt 5 63 rfl trivial (y_fieldAddr fo25_1 rfl) (sw0 [0]) ?_
    refine d1 6 rfl (e_storeLR (i := 1) (j := 3) (cs' := [vp1_0, v2_4]) trivial ty23 rfl rfl rfl rfl (Nat.le_of_ble_eq_true rfl) rfl ?_)
    refine dn 127 (sw0 [0]) ?_
    exact d_edge hU2 (N2_0 Hn2_6 ln2_6 v2_3 c2_2r0 v2_4 u2_4 h2_3 h2_4) ⟨rfl, rfl, trivial⟩ [0, 1, 2, 3, 4] (by decide) rfl (fun _ h => h)
  have N2_2 (Hn2_5 : Hp) (ln2_5 : HLe H1_0 Hn2_5) (v2_3 : Value) (c2_2r0 : List Value) (h2_3 : RepL (α := TunnelFrame) Hn2_5 (c2_2r0 ++ ([])) [x2_2]) : At 10 [] (Kp.mk w H noX) [(0, .pointer (some ⟨b0_0, 0, none⟩)), (1, .pointer (some ⟨b1_1, 0, none⟩)), (4, vf1_0), (6, v2_3)] Hn2_5 ([.box b0_0 [.slice none 0 0, .slice none 0 0] 25, .box b1_1 [vp1_0, vf1_0] 25, .row v2_3 (c2_2r0 ++ ([])) 55 3, .row vf1_0 cf1_0 55 3, .row vp1_0 cp1_0 64 6]) (U2 (Sw Hn2_5 [.box b0_0 [.slice none 0 0, .slice none 0 0] 25]) 3 (bits 7 15)) := by
    refine d_fwd hU2 ?_
    have hp1_0 := RepL.mono ln2_5 hp1_0
    have hf1_0 := RepL.mono ln2_5 hf1_0
    refine d1 4 rfl (e_app_row (i := 3) (j := 2) trivial rfl Tryd.underlying23 Tryd.underlying23 ty55 rfl rfl rfl rfl rfl rfl rfl rfl hf1_0 rfl h2_3 q2_4 ?_)
    intro v2_4 u2_4 h2_4
    refine dn 31 (sw0 [0]) ?_
    exact d_edge hU2 (N2_1 Hn2_5 ln2_5 v2_3 c2_2r0 v2_4 u2_4 h2_3 h2_4) ⟨rfl, rfl, rfl, trivial⟩ [0, 1, 2, 3, 4] (by decide) rfl (fun _ h => h)
  have N2_3 (Hn2_3 : Hp) (ln2_3 : HLe H1_0 Hn2_3) (c2_2r0 : List Value) (h2_2r0 : Rp.rep (α := TunnelFrame) Hn2_3 c2_2r0 x2_2) : At 10 [] (Kp.mk w H noX) [(0, .pointer (some ⟨b0_0, 0, none⟩)), (1, .pointer (some ⟨b1_1, 0, none⟩)), (4, vf1_0), (5, .agg c2_2r0.toArray)] Hn2_3 ([.box b0_0 [.slice none 0 0, .slice none 0 0] 25, .box b1_1 [vp1_0, vf1_0] 25, .row vf1_0 cf1_0 55 3, .row vp1_0 cp1_0 64 6]) (U2 (Sw Hn2_3 [.box b0_0 [.slice none 0 0, .slice none 0 0] 25]) 4 (bits 7 7)) := by
    refine d_fwd hU2 ?_
    have hp1_0 := RepL.mono ln2_3 hp1_0
    have hf1_0 := RepL.mono ln2_3 hf1_0
    refine d1 3 rfl (e_buildSlice (xs := [.tmp 5]) (cs := c2_2r0 ++ ([])) trivial rfl Tryd.underlying23 ty55 rfl rfl rfl (by simp [Value.cells, Rp.len h2_2r0, Rp.sz]) rfl (rfl) ?_)
    intro v2_3
    have h2_3 : RepL (α := TunnelFrame) Hn2_3 (c2_2r0 ++ ([])) [x2_2] := (RepL.cons (α := TunnelFrame) (c := c2_2r0) h2_2r0 (RepL.nil (α := TunnelFrame)))
    refine dn 15 (sw0 [1]) ?_
    exact d_edge hU2 (N2_2 Hn2_3 ln2_3 v2_3 c2_2r0 h2_3) ⟨rfl, rfl, rfl, rfl, trivial⟩ [1, 2, 0, 3, 4] (by decide) rfl (fun _ h => h)
  have N2_4 (Hn2_4 : Hp) (ln2_4 : HLe H1_0 Hn2_4) (v2_3 : Value) (c2_2r0 : List Value) (h2_3 : RepL (α := TunnelFrame) Hn2_4 (c2_2r0 ++ ([])) [x2_2]) : At 10 [] (Kp.mk w H noX) [(0, .pointer (some ⟨b0_0, 0, none⟩)), (1, .pointer (some ⟨b1_1, 0, none⟩)), (3, .pointer (some ⟨b1_1, 1, none⟩)), (6, v2_3)] Hn2_4 ([.box b0_0 [.slice none 0 0, .slice none 0 0] 25, .box b1_1 [vp1_0, vf1_0] 25, .row v2_3 (c2_2r0 ++ ([])) 55 3, .row vf1_0 cf1_0 55 3, .row vp1_0 cp1_0 64 6]) (U2 (Sw Hn2_4 [.box b0_0 [.slice none 0 0, .slice none 0 0] 25]) 4 (bits 7 13)) := by
    refine d_fwd hU2 ?_
    have hp1_0 := RepL.mono ln2_4 hp1_0
    have hf1_0 := RepL.mono ln2_4 hf1_0
    refine d1 1 rfl (p_pure trivial rfl rfl (y_load_box ty23 rfl (knows_box (i := 1) rfl) rfl rfl) ?_)
    refine dn 15 (sw0 [0]) ?_
    exact d_edge hU2 (N2_2 Hn2_4 ln2_4 v2_3 c2_2r0 h2_3) ⟨rfl, rfl, rfl, rfl, trivial⟩ [0, 1, 2, 3, 4] (by decide) rfl (fun _ h => h)
  have N2_5 (Hn2_1 : Hp) (ln2_1 : HLe H1_0 Hn2_1) : At 10 [] (Kp.mk w H noX) [(0, .pointer (some ⟨b0_0, 0, none⟩)), (1, .pointer (some ⟨b1_1, 0, none⟩)), (4, vf1_0)] Hn2_1 ([.box b0_0 [.slice none 0 0, .slice none 0 0] 25, .box b1_1 [vp1_0, vf1_0] 25, .row vf1_0 cf1_0 55 3, .row vp1_0 cp1_0 64 6]) (U2 (Sw Hn2_1 [.box b0_0 [.slice none 0 0, .slice none 0 0] 25]) 5 (bits 7 3)) := by
    refine d_fwd hU2 ?_
    have hp1_0 := RepL.mono ln2_1 hp1_0
    have hf1_0 := RepL.mono ln2_1 hf1_0
    refine d1 2 rfl (e_callH (all := [.int .i64 20, .int .i64 20, .int .i64 0, .int .i64 5]) trivial rfl Tryd.func139 rfl rfl rfl rfl rfl (fun w hw => ok_139 hw q2_2) ?_)
    rintro _ H2_2 l2_2 ⟨c2_2r0, rfl, h2_2r0⟩
    have hp1_0 := RepL.mono l2_2 hp1_0
    have hf1_0 := RepL.mono l2_2 hf1_0
    refine dn 7 (swl l2_2 [0]) ?_
    exact d_edge hU2 (N2_3 H2_2 (ln2_1.trans l2_2) c2_2r0 h2_2r0) ⟨rfl, rfl, rfl, rfl, trivial⟩ [0, 1, 2, 3] (by decide) rfl (sw_sw l2_2 [0] rfl)
  have N2_6 (Hn2_2 : Hp) (ln2_2 : HLe H1_0 Hn2_2) (c2_2r0 : List Value) (h2_2r0 : Rp.rep (α := TunnelFrame) Hn2_2 c2_2r0 x2_2) : At 10 [] (Kp.mk w H noX) [(0, .pointer (some ⟨b0_0, 0, none⟩)), (1, .pointer (some ⟨b1_1, 0, none⟩)), (3, .pointer (some ⟨b1_1, 1, none⟩)), (5, .agg c2_2r0.toArray)] Hn2_2 ([.box b0_0 [.slice none 0 0, .slice none 0 0] 25, .box b1_1 [vp1_0, vf1_0] 25, .row vf1_0 cf1_0 55 3, .row vp1_0 cp1_0 64 6]) (U2 (Sw Hn2_2 [.box b0_0 [.slice none 0 0, .slice none 0 0] 25]) 5 (bits 7 5)) := by
    refine d_fwd hU2 ?_
    have hp1_0 := RepL.mono ln2_2 hp1_0
    have hf1_0 := RepL.mono ln2_2 hf1_0
    refine d_all (rs := [1, 3]) (by kernel_rfl) rfl ⟨⟨_, rfl, ?_⟩, ⟨_, rfl, ?_⟩, trivial⟩
    · refine p_pure trivial rfl rfl (y_load_box ty23 rfl (knows_box (i := 1) rfl) rfl rfl) ?_
      refine dn 7 (sw0 [0]) ?_
      exact d_edge hU2 (N2_3 Hn2_2 ln2_2 c2_2r0 h2_2r0) ⟨rfl, rfl, rfl, rfl, trivial⟩ [0, 1, 2, 3] (by decide) rfl (fun _ h => h)
    refine e_buildSlice (xs := [.tmp 5]) (cs := c2_2r0 ++ ([])) trivial rfl Tryd.underlying23 ty55 rfl rfl rfl (by simp [Value.cells, Rp.len h2_2r0, Rp.sz]) rfl (rfl) ?_
    intro v2_3
    have h2_3 : RepL (α := TunnelFrame) Hn2_2 (c2_2r0 ++ ([])) [x2_2] := (RepL.cons (α := TunnelFrame) (c := c2_2r0) h2_2r0 (RepL.nil (α := TunnelFrame)))
    refine dn 13 (sw0 [1]) ?_
    exact d_edge hU2 (N2_4 Hn2_2 ln2_2 v2_3 c2_2r0 h2_3) ⟨rfl, rfl, rfl, rfl, trivial⟩ [1, 2, 0, 3, 4] (by decide) rfl (fun _ h => h)
  refine d_fwd hU2 ?_
  refine dt 0 1 rfl trivial (y_fieldAddr fo25_1 rfl) (sw0 [3]) ?_
  refine d_all (rs := [1, 2]) (by kernel_rfl) rfl ⟨⟨_, rfl, ?_⟩, ⟨_, rfl, ?_⟩, trivial⟩
  · refine p_pure trivial rfl rfl (y_load_box ty23 rfl (knows_box (i := 0) rfl) rfl rfl) ?_
    refine dn 3 (sw0 [3]) ?_
    exact d_edge hU2 (N2_5 H1_0 (HLe.refl _)) ⟨rfl, rfl, rfl, trivial⟩ [3, 0, 2, 1] (by decide) rfl (fun _ h => h)
  refine e_callH (all := [.int .i64 20, .int .i64 20, .int .i64 0, .int .i64 5]) trivial rfl Tryd.func139 rfl rfl rfl rfl rfl (fun w hw => ok_139 hw q2_2) ?_
  rintro _ H2_2 l2_2 ⟨c2_2r0, rfl, h2_2r0⟩
  have hp1_0 := RepL.mono l2_2 hp1_0
  have hf1_0 := RepL.mono l2_2 hf1_0
  refine dn 5 (swl l2_2 [3]) ?_
  exact d_edge hU2 (N2_6 H2_2 l2_2 c2_2r0 h2_2r0) ⟨rfl, rfl, rfl, rfl, trivial⟩ [3, 0, 2, 1] (by decide) rfl (sw_sw l2_2 [0] rfl)

def tunnel_Lost (k : Nat) (p0 : TunnelBook) : Option ((List Int) × Int) :=
 (tunnel_Check k p0).bind fun x1_1 =>
 bif x1_1 != 0 then
 some (([], x1_1))
 else
 (tunnel_book_lost k p0).bind fun x4_2 =>
 some ((x4_2, 0))
theorem ok_35 {k : Nat} {H : Hp} {w : World} {p0 : TunnelBook} {c0 : List Value} {r : (List Int) × Int} (hsub : Sub H w) (h0 : Rp.rep (α := TunnelBook) H c0 p0) (hg : Glob H) (hm : tunnel_Lost k p0 = some r) : Calls Tryd.prog 35 [.agg c0.toArray].toArray w (PostH w H fun v H' => ∃ v0, v = .tuple #[v0, .int .i64 r.2] ∧ Sl (α := Int) H' v0 r.1) := by
  unfold tunnel_Lost at hm
  refine start (n := 13) (E := [(0, .agg c0.toArray)]) Tryd.func35 rfl rfl ⟨rfl, trivial⟩ rfl hsub ?_
  refine a_seq (a_region rfl ?_)
  refine a_cons (e_box (cs := c0) trivial rfl rfl rfl ?_)
  intro b0_0
  refine ap (y_assign rfl) ?_
  refine ap (y_assign rfl) ?_
  refine a_nil ?_
  refine a_freeze (α := TunnelBook) (x := p0) (i := 0) rfl h0 ?_
  intro Hb0_0 lb0_0 hb0_0
  have h0 := Rp.mono lb0_0 h0
  have hg := Glob.mono lb0_0 hg
  refine a_en [(1, .pointer (some ⟨b0_0, 0, none⟩))] ?_
  refine a_own [] (by decide) (L' := []) rfl ?_
  refine a_then (a_seq (a_seq (a_region rfl ?_)))
  obtain ⟨u1_0, h1_0, c1_0⟩ := PAt.one hb0_0
  refine ap (y_load_cells ty25 rfl (fun _ h => h.sub) rfl c1_0 (Rp.len h1_0)) ?_
  obtain ⟨x1_1, q1_1, hm⟩ := bind_some hm
  refine a_cons (e_callV (all := [.agg u1_0.toArray]) (v := .int .i64 x1_1) trivial rfl Tryd.func21 rfl rfl rfl rfl rfl (fun w hw => ok_21 hw h1_0 q1_1) ?_)
  refine ap (y_assign rfl) ?_
  refine a_nil ?_
  refine a_en [(1, .pointer (some ⟨b0_0, 0, none⟩)), (4, .int .i64 x1_1)] ?_
  refine a_then (a_seq (a_region rfl ?_))
  refine ap (y_move rfl) ?_
  refine ap (y_neq rfl rfl) ?_
  refine a_nil ?_
  refine a_en [(1, .pointer (some ⟨b0_0, 0, none⟩)), (4, .int .i64 x1_1), (8, .bool (x1_1 != 0))] ?_
  refine a_then ?_
  refine a_cond rfl (fun k_1 => ?_) (fun k_1 => ?_)
  · have hm := cond_t k_1 hm
    refine a_seq (a_region rfl ?_)
    refine ap (y_move rfl) ?_
    refine ap (y_assign rfl) ?_
    refine ap (y_assign rfl) ?_
    refine a_nil ?_
    refine a_en [(2, .slice none 0 0), (3, .int .i64 x1_1)] ?_
    refine a_then (a_ret (a_then_ret ?_))
    refine a_done (v := .tuple #[.slice none 0 0, .int .i64 x1_1]) (.inl rfl) rfl ?_ ?_
    · intro a_ w_ ha_ hs_; exact run_results (P := Tryd.prog) (fn := Tryd.f35) (rs := [.tmp 2, .tmp 3]) (vs := [.slice none 0 0, .int .i64 x1_1]) rfl (.cons (rv_tmp ha_ rfl) (.cons (rv_tmp ha_ rfl) (All2.nil)))
    · intro _ _; obtain rfl := Option.some.inj hm; exact ⟨.slice none 0 0, rfl, (sl_nil _ none 0)⟩
  have hm := cond_f k_1 hm
  refine a_skip (a_then (a_seq (a_region rfl ?_)))
  obtain ⟨u4_0, h4_0, c4_0⟩ := PAt.one hb0_0
  refine ap (y_load_cells ty25 rfl (fun _ h => h.sub) rfl c4_0 (Rp.len h4_0)) ?_
  refine a_cons (e_callO (all := [.agg u4_0.toArray]) trivial rfl Tryd.func95 rfl rfl rfl rfl rfl (fun w hw => ok_95 hw h4_0 ) ?_)
  rintro _ H4_1 _ l4_1 ⟨M4_1, rfl, rfl⟩
  have hb0_0 := PAt.mono l4_1 hb0_0
  have h4_0 := Rp.mono l4_1 h4_0
  have hg := Glob.mono l4_1 hg
  have m4_1 : Rp.rep (α := Bk (some M4_1)) H4_1 (u4_0 ++ [Value.map (some M4_1)]) p0 := ⟨_, rfl, h4_0⟩
  obtain ⟨x4_2, q4_2, hm⟩ := bind_some hm
  refine a_cons (e_callM (i := 0) (all := [.agg (u4_0 ++ [Value.map (some M4_1)]).toArray]) trivial rfl Tryd.func100 rfl rfl rfl rfl rfl rfl (fun w hw ho hn => ok_100 hw m4_1 hg ho hn q4_2) ?_)
  rintro v4_2r0 H4_2 l4_2 ⟨_, rfl, h4_2r0⟩
  have hb0_0 := PAt.mono l4_2 hb0_0
  have h4_0 := Rp.mono l4_2 h4_0
  have m4_1 := Rp.mono l4_2 m4_1
  have hg := Glob.mono l4_2 hg
  refine ap (y_assign rfl) ?_
  refine ap (y_assign rfl) ?_
  refine a_nil ?_
  refine a_en [(2, v4_2r0), (3, .int .i64 0)] ?_
  refine a_then (a_ret ?_)
  refine a_done (v := .tuple #[v4_2r0, .int .i64 0]) (.inl rfl) rfl ?_ ?_
  · intro a_ w_ ha_ hs_; exact run_results (P := Tryd.prog) (fn := Tryd.f35) (rs := [.tmp 2, .tmp 3]) (vs := [v4_2r0, .int .i64 0]) rfl (.cons (rv_tmp ha_ rfl) (.cons (rv_tmp ha_ rfl) (All2.nil)))
  · intro _ _; obtain rfl := Option.some.inj hm; exact ⟨v4_2r0, rfl, h4_2r0⟩
end Go.Lu
