/-
  Ranging over a function: what the rounds may turn, the call of yield, the statement.
-/
import Derived.Test.YtbcabikaaadiiaaDoorLuP3
import Derived.RangeFuncLeaves
import Derived.RangeFuncRecord
namespace Go.Lu
open Go Go.Proofs
set_option maxRecDepth 100000
set_option linter.unusedVariables false

section
variable {σ : Type}
abbrev Blks (σ : Type) := List (Nat × (σ → Obj → Prop))
def LXs (Bs : Blks σ) (s : σ) : List Ass := Bs.map fun p => .blk p.1 (p.2 s)
def Xs (Bs : Blks σ) : Nat → Prop := fun r => ∃ p ∈ Bs, p.1 = r
def Oks (Bs : Blks σ) (s : σ) (w : World) : Prop := ∀ p ∈ Bs, ∃ o, w.heap[p.1]? = some o ∧ p.2 s o

structure HX (Bs : Blks σ) (s : σ) (H : Hp) (w : World) : Prop where
  ok : Oks Bs s w
  dis : (Bs.map (·.1)).Nodup
  sep : ∀ p ∈ Bs, H p.1 = none

theorem LXs_pair {Bs : Blks σ} {s : σ} (h : (Bs.map (·.1)).Nodup) : (LXs Bs s).Pairwise (fun x y => ∀ b ∈ x.foot, b ∉ y.foot) := by
  unfold LXs
  rw [List.pairwise_map]
  have := List.pairwise_map.1 h
  exact this.imp fun hne b hb hb' => by simp [Ass.foot] at hb hb'; exact hne (hb.symm.trans hb')

variable {K : Kp} {H H' : Hp} {L : List Ass} {w w' : World} {Bs : Blks σ} {s s' : σ}

theorem St.initX (h : Sub H w) (hx : HX Bs s H w) : St ⟨w, H, Xs Bs⟩ H (LXs Bs s) w := by
  refine ⟨h, HLe.refl _, ?_, LXs_pair hx.dis, ?_, ?_, Nat.le_refl _, fun _ _ _ => rfl, fun _ _ => rfl, rfl, rfl⟩
  · intro x hm; obtain ⟨p, hp, rfl⟩ := List.mem_map.1 hm; exact hx.ok p hp
  · intro x hm b hb; obtain ⟨p, hp, rfl⟩ := List.mem_map.1 hm; simp [Ass.foot] at hb; subst hb; exact hx.sep p hp
  · intro x hm; obtain ⟨p, hp, rfl⟩ := List.mem_map.1 hm; exact fun _ => ⟨p, hp, rfl⟩

theorem St.hx (h : St K H (LXs Bs s ++ L) w) : HX Bs s H w := by
  have hm : ∀ p ∈ Bs, Ass.blk p.1 (p.2 s) ∈ LXs Bs s ++ L := fun p hp => List.mem_append.2 (.inl (List.mem_map.2 ⟨p, hp, rfl⟩))
  refine ⟨fun p hp => h.ok _ (hm p hp), ?_, fun p hp => h.sep _ (hm p hp) _ (by simp [Ass.foot])⟩
  have h1 := (List.pairwise_append.1 h.dis).1
  unfold LXs at h1
  rw [List.pairwise_map] at h1
  exact List.pairwise_map.2 (h1.imp fun {a b} hd e => hd a.1 (by simp [Ass.foot]) (by simp [Ass.foot, e]))

theorem St.calledX (h : St K H (LXs Bs s ++ L) w) (hl : Left w H (Xs Bs) H' w') (hok : Oks Bs s' w') : St K H' (LXs Bs s' ++ L) w' := by
  have hlt : ∀ y ∈ LXs Bs s ++ L, ∀ b ∈ y.foot, b < w.heap.size := fun y hy => Ass.ok_lt (h.ok y hy)
  have hmap : ∀ x ∈ LXs Bs s', ∃ y ∈ LXs Bs s, y.foot = x.foot ∧ ∀ n X, y.mine n X → x.mine n X := by
    intro x hx; obtain ⟨p, hp, rfl⟩ := List.mem_map.1 hx
    exact ⟨_, List.mem_map.2 ⟨p, hp, rfl⟩, rfl, fun n X hm => hm⟩
  have hL : ∀ y ∈ L, ∀ b ∈ y.foot, ¬ Xs Bs b := by
    rintro y hy b hb ⟨p, hp, rfl⟩
    exact (List.pairwise_append.1 h.dis).2.2 (.blk p.1 (p.2 s)) (List.mem_map.2 ⟨p, hp, rfl⟩) y hy p.1 (by simp [Ass.foot]) hb
  refine ⟨hl.sub, h.le.trans hl.le, ?_, ?_, ?_, ?_, Nat.le_trans h.size hl.size, ?_, fun r hr => ?_, h.io.trans hl.io⟩
  · intro x hx
    rcases List.mem_append.1 hx with hx | hx
    · obtain ⟨p, hp, rfl⟩ := List.mem_map.1 hx; exact hok p hp
    · exact Ass.ok_of_same (h.ok x (by simp [hx])) fun b hb => hl.keep b (hlt x (by simp [hx]) b hb) (hL x hx b hb)
  · obtain ⟨h1, h2, h3⟩ := List.pairwise_append.1 h.dis
    refine List.pairwise_append.2 ⟨LXs_pair h.hx.dis, h2, fun x hx y hy b hb => ?_⟩
    obtain ⟨z, hz, e, _⟩ := hmap x hx
    exact h3 z hz y hy b (e ▸ hb)
  · intro x hx b hb
    rcases List.mem_append.1 hx with hx | hx
    · obtain ⟨z, hz, e, _⟩ := hmap x hx
      rw [hl.old b (hlt z (by simp [hz]) b (e ▸ hb))]; exact h.sep z (by simp [hz]) b (e ▸ hb)
    · rw [hl.old b (hlt x (by simp [hx]) b hb)]; exact h.sep x (by simp [hx]) b hb
  · intro x hx
    rcases List.mem_append.1 hx with hx | hx
    · obtain ⟨z, hz, _, hm⟩ := hmap x hx; exact hm _ _ (h.mine z (by simp [hz]))
    · exact h.mine x (by simp [hx])
  · intro r hr hX
    rw [hl.keep r (by have := h.size; omega) ?_]
    · exact h.keep r hr hX
    · rintro ⟨p, hp, rfl⟩
      exact hX (h.mine (.blk p.1 (p.2 s)) (by simp [LXs]; exact .inl ⟨p.1, p.2, hp, rfl, rfl⟩) hr)
  · rw [hl.old r (by have := h.size; omega)]; exact h.hpre r hr
end

/-- What a round leaves. -/
abbrev Rnd {σ : Type} (w : World) (H : Hp) (Bs : Blks σ) (s' : σ) : Ending → World → Prop := Post w H (Xs Bs) fun v _ w' => v = .bool true ∧ Oks Bs s' w'

/-- y may be called with a datum x: one round, that takes the state a step on, and asks for more. -/
def Yields {σ α : Type} [Rp α] (P : Program) (y : Value) (Bs : Blks σ) (step : σ → α → Option σ) (Hb : Hp) : Prop :=
  ∀ s x s' cs H w, step s x = some s' → HLe Hb H → Sub H w → Rp.rep H cs x → HX Bs s H w →
    ∃ l fn tmps assign body, y = .func (.yield l) #[] #[] ∧ (Instr.yield l #[.agg cs.toArray]).run P w = .ok (.round l fn tmps assign body) w ∧ RoundIn (FW none) 0 P l fn tmps assign body w (Rnd w H Bs s')

theorem Yields.mono {σ α : Type} [Rp α] {P : Program} {y : Value} {Bs : Blks σ} {step : σ → α → Option σ} {H H' : Hp} (h : Yields P y Bs step H) (hl : HLe H H') : Yields P y Bs step H' :=
  fun s x s' cs H1 w h1 h2 h3 h4 h5 => h s x s' cs H1 w h1 (hl.trans h2) h3 h4 h5

section
variable {P : Program} {r : Option Nat} {N : Nat} {D : List Deferred} {K : Kp} {E : Env} {H : Hp} {L : List Ass} {ops : Array Oper} {Q : Exit → Act → World → Prop} {C : Act → World → Prop}
variable {dst : Option Tmp} {ty : TypeId} {pos : String} {aft : Array Edge} {g : Option (Nat × Bool)} {dd : Nat}
variable {σ α : Type} [Rp α] {Bs : Blks σ} {s s' : σ} {step : σ → α → Option σ}

theorem e_yield {x a0 : Operand} {y : Value} {ts : Array TypeId} {cs : List Value} {u : α} (hw : Wn ops E g) (hd : Nat.blt dd N = true) (hx : ev E x = some y) (ha0 : ev E a0 = some (.agg cs.toArray)) (hu : Rp.rep H cs u) (hy : Yields P y Bs step H) (hs : step s u = some s')
    (k : ∀ H', HLe H H' → At N D K ((dd, .bool true) :: E) H' (LXs Bs s' ++ L) C) : At N D K E H (LXs Bs s ++ L) (uOp P none ops Q ⟨some dd, .call ⟨.value x, #[a0], ts⟩, ty, pos, aft, g⟩ C) := fun a w ha hst => by
  obtain ⟨l, fn, tmps, assign, body, e, hr, hround⟩ := hy s u s' cs H w hs (HLe.refl _) hst.sub hu hst.hx
  subst e
  have hrun : (execOp a.eval ⟨some dd, .call ⟨.value x, #[a0], ts⟩, ty, pos, aft, g⟩).run P w = .ok (.round l fn tmps assign body) w := by
    have e1 : #[a0].map a.eval = #[.agg cs.toArray] := by simp [ha.eval ha0]
    simp only [execOp, resolve, e1, ha.eval hx]
    show ((Deferred.ofValue (.func (.yield l) #[] #[]) #[.agg cs.toArray]) >>= fun d => invoke d.target d.args).run P w = _
    rw [run_then (show (Deferred.ofValue (.func (.yield l) #[] #[]) #[.agg cs.toArray]).run P w = .ok ⟨.fn (.yield l) #[], #[] ++ #[.agg cs.toArray]⟩ w from rfl)]
    show (Instr.yield l (#[] ++ #[.agg cs.toArray])).run P w = _
    simpa using hr
  unfold uOp
  simp only [hw.wanted (o := ⟨some dd, .call ⟨.value x, #[a0], ts⟩, ty, pos, aft, g⟩) ha, if_true, hrun, Oper.uponIn]
  refine ⟨fun h => by simp [FW] at h, RoundIn.mono hround fun e w' he => ?_⟩
  obtain ⟨v, H', rfl, hl, rfl, hok⟩ := he
  exact k H' hl.le _ w' (ha.put _ hd) (hst.calledX hl hok)

/-- Behind the assignments of a round: the record is busy; the body. -/
def Mid (P : Program) (l : Nat) (body : Code) (R : Ending → World → Prop) (a : Act) (w : World) : Prop := ∃ w2, (Instr.beginRound l).run P w = .ok () w2 ∧ Cx P (some l) body (roundPost P l R) a w2

theorem St.put {i l : Nat} {o' : Obj} {p q : Obj → Prop} {w : World} (h : St K H L w) (hi : L[i]? = some (.blk l p)) (hq : q o') : St K H (L.set i (.blk l q)) (w.putObj l o') := by
  have hmem := List.mem_of_getElem? hi
  obtain ⟨o, ho, _⟩ := h.ok _ hmem
  have hlt := (Array.getElem?_eq_some_iff.1 ho).1
  exact h.turnAt (y := .blk l q) hi ⟨o', World.putObj_heap_same hlt, hq⟩ (fun b hb => .inl hb) (fun hlt' => h.mine _ hmem hlt') (by simp) (fun r _ hne => World.putObj_heap_other (by simpa [Ass.foot] using hne))

theorem a_mid {l i : Nat} {body : Code} {R : Ending → World → Prop} {rec : Loop} (hr : rec.state = .ready) (hi : L[i]? = some (.blk l (fun o => o = .loop rec)))
    (k : At N D K E H (L.set i (.blk l (fun o => o = .loop { rec with state := .busy }))) (Cx P (some l) body (roundPost P l R))) : At N D K E H L (Exit.then (Mid P l body R) Q .normal) := fun a w ha hs => by
  obtain ⟨o, ho, rfl⟩ := hs.ok _ (List.mem_of_getElem? hi)
  exact ⟨_, run_beginRound ho hr, k a _ ha (hs.put hi rfl)⟩

theorem a_endRound {l i : Nat} {R : Ending → World → Prop} {rec : Loop} (hp : rec.pending = none) (hr : rec.state = .ready) (hi : L[i]? = some (.blk l (fun o => o = .loop { rec with state := .busy })))
    (k : At N D K E H (L.set i (.blk l (fun o => o = .loop rec))) (fun _ w => R (.returned (.bool true)) w)) : At N D K E H L (roundPost P l R .normal) := fun a w ha hs => by
  obtain ⟨o, ho, rfl⟩ := hs.ok _ (List.mem_of_getElem? hi)
  refine ⟨_, _, run_endRound none ho, k a _ ha ?_⟩
  have : ({ ({ rec with state := .busy } : Loop) with state := if (none : Option Code).isNone then LoopState.ready else .done, pending := none } : Loop) = rec := by cases rec; simp at hp hr; subst hp; subst hr; rfl
  exact hs.put hi (by rw [this])

theorem a_round {w0 : World} {H0 : Hp} (is : List Nat) (hn : is.Nodup) (hL : is.filterMap (L[·]?) = LXs Bs s') : At N D ⟨w0, H0, Xs Bs⟩ E H L (fun _ w => Rnd w0 H0 Bs s' (.returned (.bool true)) w) := fun a w ha hs => by
  have h' := hs.reix is hn
  rw [hL] at h'
  exact ⟨_, H, rfl, h'.left, rfl, (St.hx (L := []) (by simpa using h')).ok⟩

theorem noP_round {l : Nat} {R : Ending → World → Prop} : ∀ c a w, ¬ roundPost P l R (.panic c) a w := fun _ _ _ h => h
theorem noP_false {C : Act → World → Prop} : ∀ c a w, ¬ Exit.then C (fun _ _ _ => False) (.panic c) a w := fun _ _ _ h => h

theorem a_rangeFunc {gf : Nat} {fn' : Func} {cap : List Value} {gop : Operand} {t : Nat} {assign body : Code} {Bs0 : Blks σ} {s0 s1 : σ}
    (hx : ev E gop = some (.func (.func gf) #[] cap.toArray)) (hf : P.funcs[gf]? = some fn') (hb : fn'.body.isNone = false) (hn : (fn'.name == "runtime.NumGoroutine") = false) (ht : Nat.blt t N = true)
    (step : σ → α → Option σ)
    (hiter : ∀ (l : Nat) (Bs : Blks σ) (w : World), Sub H w → HX Bs s0 H w → Yields P (.func (.yield l) #[] #[]) Bs step H → Calls P gf (.func (.yield l) #[] #[] :: cap).toArray w (Post w H (Xs Bs) fun _ _ w' => Oks Bs s1 w'))
    (hround : ∀ (w0 : World) (l d : Nat) (rec : Loop) (H1 : Hp) (s : σ) (x : α) (s' : σ) (cs : List Value), rec.state = .ready → rec.pending = none → HLe H H1 → step s x = some s' → Rp.rep H1 cs x →
      At N [] ⟨w0, H1, Xs ((l, fun _ o => o = .loop rec) :: (d, fun _ o => o = .deferred (some [])) :: Bs0)⟩ ((t, .agg cs.toArray) :: E) H1 (.blk l (fun o => o = .loop rec) :: .blk d (fun o => o = .deferred (some [])) :: LXs Bs0 s)
        (Cx P (some l) assign (Exit.then (Mid P l body (Rnd w0 H1 ((l, fun _ o => o = .loop rec) :: (d, fun _ o => o = .deferred (some [])) :: Bs0) s')) (fun _ _ _ => False))))
    (k : ∀ d H2, HLe H H2 → At N ({ target := .collected d, args := #[] } :: []) K E H2 (.blk d (fun o => o = .deferred (some [])) :: (LXs Bs0 s1 ++ L)) (Q .normal)) :
    At N [] K E H (LXs Bs0 s0 ++ L) (Cx P none (.rangeFunc gop #[t] assign body) Q) := fun a w ha hs => by
  refine wpIn_rangeFunc fun fn hfn => ?_
  obtain ⟨rec, hrec⟩ : ∃ rec : Loop, rec = { state := .ready, pending := none, fn, tmps := a.tmps, params := #[t], assign, body, defers := w.heap.size } := ⟨_, rfl⟩
  obtain ⟨Bs, hBs⟩ : ∃ Bs : Blks σ, Bs = (w.heap.size + 1, fun _ o => o = .loop rec) :: (w.heap.size, fun _ o => o = .deferred (some [])) :: Bs0 := ⟨_, rfl⟩
  obtain ⟨W1, hW1⟩ : ∃ W1, (w.alloc (.deferred (some []))).alloc (.loop rec) = W1 := ⟨_, rfl⟩
  have hsz : (w.alloc (.deferred (some []))).heap.size = w.heap.size + 1 := by simp
  have h1 : St K H (LXs Bs s0 ++ L) W1 := by
    have a1 := hs.alloc (o := .deferred (some [])) (x := .blk w.heap.size (fun o => o = .deferred (some []))) ⟨_, heap_alloc_new _ _, rfl⟩ (fun b hb => by simpa [Ass.foot] using hb) (fun hlt => absurd hs.size (by omega))
    have a2 := a1.alloc (o := .loop rec) (x := .blk (w.heap.size + 1) (fun o => o = .loop rec)) ⟨_, by have := heap_alloc_new (w.alloc (.deferred (some []))) (.loop rec); rwa [hsz] at this, rfl⟩ (fun b hb => by rw [hsz]; simpa [Ass.foot] using hb) (fun hlt => absurd hs.size (by omega))
    rw [hW1] at a2
    subst hBs; exact a2
  have hround' : RoundIn (FW none) 0 = RoundIn (FW none) 0 := rfl
  have hy : Yields P (.func (.yield (w.heap.size + 1)) #[] #[]) Bs step H := by
    intro s x s' cs H1 w1 hst hle hsub hrep hX
    obtain ⟨o, ho, heq⟩ := hX.ok (w.heap.size + 1, fun _ o => o = .loop rec) (by subst hBs; simp)
    simp only at ho heq
    subst heq
    have hyr := run_yield (P := P) (args := #[.agg cs.toArray]) ho (by subst hrec; rfl)
    refine ⟨_, _, _, _, _, rfl, hyr, roundIn_of_wpIn trivial ?_⟩
    have hag : Ag N [] ((t, .agg cs.toArray) :: E) { tmps := (rec.params.zip #[Value.agg cs.toArray]).foldl (fun tmps (t, a) => tmps.setIfInBounds t a) rec.tmps, defers := [] } := by
      subst hrec
      have := ha.put (.agg cs.toArray) ht
      have hd := this.defs
      refine ⟨?_, rfl, ?_⟩
      · simpa [Act.put] using this.size
      · simpa [Act.put] using this.get
    have hR := hround w1 (w.heap.size + 1) w.heap.size rec H1 s x s' cs (by subst hrec; rfl) (by subst hrec; rfl) hle hst hrep _ w1 hag (by have := St.initX hsub hX; subst hBs; exact this)
    subst hBs
    have ea : rec.assign = assign := by subst hrec; rfl
    have eb : rec.body = body := by subst hrec; rfl
    rw [ea, eb]
    exact hR
  refine ⟨w.heap.size + 1, [{ target := .collected w.heap.size, args := #[] }], W1, { target := .fn (.func gf) cap.toArray, args := #[.func (.yield (w.heap.size + 1)) #[] #[]] }, W1, gf,
    #[.func (.yield (w.heap.size + 1)) #[] #[]] ++ cap.toArray, W1, ?_, ?_, ?_, ?_, fun h => by simp [FW] at h, ?_⟩
  · rw [← hW1, hrec]; exact run_enterLoop_outer _ _ _ _ _
  · simp only [resolve, ha.eval hx]
    simp [go_sem]
  · intro f' hf'; trivial
  · exact run_callFunc hf hb hn W1
  · have hc := hiter _ Bs W1 h1.sub h1.hx hy
    refine CallsIn.mono (calls_in none (by simpa using hc)) ?_
    rintro e W2 ⟨v, H2, rfl, hl, hok⟩
    have h2 := h1.calledX hl hok
    obtain ⟨o, ho, heq⟩ := hok (w.heap.size + 1, fun _ o => o = .loop rec) (by subst hBs; simp)
    simp only at ho heq
    subst heq
    refine ⟨_, _, run_endLoop ho (by subst hrec; simp), ?_⟩
    have hp : rec.pending = none := by subst hrec; rfl
    rw [hp]
    have h3 := h2.put (i := 0) (l := w.heap.size + 1) (o' := .loop { rec with state := .exhausted }) (q := fun _ => True) (by subst hBs; rfl) trivial
    rw [hp] at h3
    refine k w.heap.size H2 hl.le _ _ ⟨ha.size, by simp [ha.defs], ha.get⟩ (h3.pick ?_)
    subst hBs
    exact List.Sublist.cons _ (List.Sublist.refl _)
end
end Go.Lu
