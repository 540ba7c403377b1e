/-
  One operation, a list of operations, a region that draws its order: in a fence that lets everything in, in a round or not.
-/
import Derived.Test.YtbcabikaaadiiaaDoorLuCore1
namespace Go.Lu
open Go

abbrev Cx (P : Program) (r : Option Nat) (c : Code) (Q : Exit → Act → World → Prop) : Act → World → Prop := Code.wpIn (FW r) 0 P c Q

def uOp (P : Program) (r : Option Nat) (ops : Array Oper) (Q : Exit → Act → World → Prop) (o : Oper) (K : Act → World → Prop) (a : Act) (w : World) : Prop :=
  if Region.wanted o (yielded ops a.tmps) then o.uponIn (FW r) 0 P a K Q ((execOp a.eval o).run P w) else K (a.put o.dst undef) w

def plainOp (o : Oper) : Bool := match o.op with | .select .. => false | .defer .. => false | _ => true

def plainOps (l : List Oper) : Bool := l.all plainOp

theorem plain_defer {o : Oper} (h : plainOp o = true) : ∀ c, o.op ≠ .defer c := by
  intro c e; simp [plainOp, e] at h
theorem plain_select {o : Oper} (h : plainOp o = true) : ∀ cs b, o.op ≠ .select cs b := by
  intro c b e; simp [plainOp, e] at h

theorem uOp_wpIn {P : Program} {r : Option Nat} {ops : Array Oper} {Q : Exit → Act → World → Prop} {o : Oper} {K : Act → World → Prop} {a : Act} {w : World} (hd : plainOp o = true)
    (hw : Region.wanted o (yielded ops a.tmps) = true) (h : uOp P r ops Q o K a w) : o.wpIn (FW r) 0 P a w K Q := by
  refine ⟨fun _ _ => trivial, ?_⟩
  rw [Oper.semAt_eq _ _ _ (plain_defer hd)]
  simpa [uOp, hw] using h

theorem uOp_mono {P : Program} {r : Option Nat} {ops : Array Oper} {Q : Exit → Act → World → Prop} {o : Oper} {K K' : Act → World → Prop} {a : Act} {w : World}
    (h : ∀ a w, K a w → K' a w) (hh : uOp P r ops Q o K a w) : uOp P r ops Q o K' a w := by
  unfold uOp at *
  split
  · rename_i hw
    simp only [hw, if_true] at hh
    generalize (execOp a.eval o).run P w = r at *
    cases r with
    | ok x w' =>
      cases x <;> simp only [Oper.uponIn] at hh ⊢ <;>
        first
          | exact h _ _ hh
          | exact ⟨hh.1, CallsIn.mono hh.2 (fun e w'' he => by cases e <;> first | exact h _ _ he | exact he)⟩
          | exact ⟨hh.1, RowsIn.mono hh.2 (fun _ _ he => h _ _ he)⟩
          | exact ⟨hh.1, RoundIn.mono hh.2 (fun e w'' he => by cases e <;> first | exact h _ _ he | exact he)⟩
    | halt x w' => cases x <;> simp only [Oper.uponIn] at hh ⊢ <;> exact hh
  · rename_i hw; simp only [hw] at hh; exact h _ _ hh

def uList (P : Program) (r : Option Nat) (ops : Array Oper) (Q : Exit → Act → World → Prop) : List Oper → (Act → World → Prop)
  | [] => Q .normal
  | o :: rest => uOp P r ops Q o (uList P r ops Q rest)

theorem uList_sound {P : Program} {r : Option Nat} {ops : Array Oper} {Q : Exit → Act → World → Prop} : ∀ (l : List Oper) (a : Act) (w : World), plainOps l = true → uList P r ops Q l a w → wpListIn (FW r) 0 P ops Q l a w
  | [], _, _, _, h => h
  | o :: rest, a, w, hd, h => by
    have hd' : plainOp o = true ∧ plainOps rest = true := by simpa [plainOps] using hd
    unfold wpListIn
    have h' : uOp P r ops Q o (wpListIn (FW r) 0 P ops Q rest) a w := uOp_mono (fun a w => uList_sound rest a w hd'.2) h
    split
    · rename_i hw; exact uOp_wpIn hd'.1 hw h'
    · rename_i hw; simp only [uOp, hw] at h'; exact ⟨fun _ _ => trivial, h'⟩

def uAny (P : Program) (r : Option Nat) (ops : Array Oper) (Q : Exit → Act → World → Prop) (S : World → Prop) : Nat → Array Bool → Act → World → Prop
  | 0, listed, a, w => Region.ready .any ops listed = [] ∧ Q .normal a w
  | fuel + 1, listed, a, w =>
    (Region.ready .any ops listed = [] → Q .normal a w) ∧
    ∀ i ∈ Region.ready .any ops listed, ∀ o, ops[i]? = some o → uOp P r ops Q o (fun a' w' => S w' ∧ uAny P r ops Q S fuel (listed.setIfInBounds i true) a' w') a w

theorem uAny_sound {P : Program} {r : Option Nat} {ops : Array Oper} {Q : Exit → Act → World → Prop} {S : World → Prop} (hd : ∀ o ∈ ops.toList, plainOp o = true) :
    ∀ (fuel : Nat) (listed : Array Bool) (a : Act) (w : World), uAny P r ops Q S fuel listed a w → wpAnyIn (FW r) 0 P .any ops Q fuel listed a w
  | 0, _, _, _, h => h
  | fuel + 1, listed, a, w, h => by
    refine ⟨h.1, fun i hi => ?_⟩
    obtain ⟨_, o, ho, _⟩ := mem_ready.1 hi
    have h' := uOp_mono (K' := wpAnyIn (FW r) 0 P .any ops Q fuel (listed.setIfInBounds i true)) (fun a w hh => uAny_sound hd fuel _ a w hh.2) (h.2 i hi o ho)
    have hp : plainOp o = true := hd o (by rw [← Array.getElem?_toList] at ho; exact List.mem_of_getElem? ho)
    unfold wpOpIn
    simp only [ho]
    split
    · rename_i hw; exact uOp_wpIn hp hw h'
    · rename_i hw; simp only [uOp, hw] at h'; exact ⟨fun _ _ => trivial, h'⟩

theorem uAny_weaken {P : Program} {r : Option Nat} {ops : Array Oper} {Q : Exit → Act → World → Prop} {S S' : World → Prop} (hS : ∀ w, S' w → S w) :
    ∀ (fuel : Nat) (listed : Array Bool) (a : Act) (w : World), uAny P r ops Q S' fuel listed a w → uAny P r ops Q S fuel listed a w
  | 0, _, _, _, h => h
  | fuel + 1, _, _, _, h => ⟨h.1, fun i hi o ho => uOp_mono (fun a w hh => ⟨hS _ hh.1, uAny_weaken hS fuel _ a w hh.2⟩) (h.2 i hi o ho)⟩

def YIf (P : Program) (ops : Array Oper) (S : World → Prop) (o : Oper) (v : Value) (a : Act) : Prop :=
  (Region.wanted o (yielded ops a.tmps) = true ∧ ∀ w, S w → (execOp a.eval o).run P w = .ok (.value v) w) ∨
  (Region.wanted o (yielded ops a.tmps) = false ∧ v = undef)

theorem YIf.uOp {P : Program} {r : Option Nat} {ops : Array Oper} {Q : Exit → Act → World → Prop} {S : World → Prop} {o : Oper} {v : Value} {a : Act} (hy : YIf P ops S o v a)
    {K : Act → World → Prop} {w : World} (hS : S w) (h : K (a.put o.dst v) w) : uOp P r ops Q o K a w := by
  unfold Lu.uOp
  rcases hy with ⟨hw, hv⟩ | ⟨hw, rfl⟩
  · simp only [hw, if_true, hv w hS, Oper.uponIn]; exact h
  · simp only [hw, Bool.false_eq_true, if_false]; exact h

theorem YIf.of_same {P : Program} {ops : Array Oper} {S : World → Prop} {o : Oper} {v : Value} {a a' : Act} (hy : YIf P ops S o v a) (he : execOp a'.eval o = execOp a.eval o)
    (hw : Region.wanted o (yielded ops a'.tmps) = Region.wanted o (yielded ops a.tmps)) : YIf P ops S o v a' := by
  unfold YIf at *
  rw [he, hw]
  exact hy

theorem uOp_putIf {P : Program} {r : Option Nat} {ops : Array Oper} {Q : Exit → Act → World → Prop} {S : World → Prop} {oi oj : Oper} {v : Value} (hap : oi.apart ops oj = true)
    (hsi : ∀ cs b, oi.op ≠ .select cs b) (hsj : ∀ cs b, oj.op ≠ .select cs b)
    (hQ : ∀ c a w, ¬ Q (.panic c) a w) {K : Act → World → Prop} {a : Act} {w : World}
    (hy : YIf P ops S oi v a) (h : uOp P r ops Q oj K (a.put oi.dst v) w) :
    uOp P r ops Q oj (fun a' w' => YIf P ops S oi v a' ∧ K (a'.put oi.dst v) w') a w := by
  obtain ⟨h1, h2, h3⟩ := Oper.apart_spec hap
  have keep : ∀ (a : Act), YIf P ops S oi v a → ∀ u, YIf P ops S oi v (a.put oj.dst u) := fun a hy u =>
    hy.of_same (execOp_put oi hsi a oj.dst u h3) (wanted_put oi a oj.dst u h3)
  have keepD : ∀ d, YIf P ops S oi v { a with defers := d :: a.defers } := fun d => hy.of_same rfl rfl
  unfold Lu.uOp at *
  rw [wanted_put oj a oi.dst v h1] at h
  split
  · rename_i hw
    simp only [hw, if_true] at h
    rw [execOp_put oj hsj a oi.dst v h1] at h
    generalize (execOp a.eval oj).run P w = r at *
    cases r with
    | ok n w' =>
      cases n <;> simp only [Oper.uponIn] at h ⊢
      case value u => exact ⟨keep a hy u, by rw [← Act.put_comm a v u h2]; exact h⟩
      case skip => exact ⟨keep a hy _, by rw [← Act.put_comm a v undef h2]; exact h⟩
      case defer d =>
        refine ⟨keep _ (keepD d) _, ?_⟩
        rw [← Act.put_comm _ v undef h2, ← Act.put_defers]
        exact h
      case enter f args =>
        refine ⟨h.1, CallsIn.mono h.2 fun e w'' he => ?_⟩
        cases e with
        | returned u => exact ⟨keep a hy u, by rw [← Act.put_comm a v u h2]; exact he⟩
        | panicked c => exact absurd he (hQ _ _ _)
        | outgrown => exact he
      case row row args => exact ⟨h.1, RowsIn.mono h.2 fun u w'' he => ⟨keep a hy u, by rw [← Act.put_comm a v u h2]; exact he⟩⟩
      case round l f tmps assign body =>
        refine ⟨h.1, RoundIn.mono h.2 fun e w'' he => ?_⟩
        cases e with
        | returned u => exact ⟨keep a hy u, by rw [← Act.put_comm a v u h2]; exact he⟩
        | panicked c => exact absurd he (hQ _ _ _)
        | outgrown => exact he
    | halt x w' =>
      cases x <;> simp only [Oper.uponIn] at h ⊢
      case panic u => exact absurd h (hQ _ _ _)
  · rename_i hw
    simp only [hw] at h
    exact ⟨keep a hy _, by rw [← Act.put_comm a v undef h2]; exact h⟩

theorem uAny_first {P : Program} {r : Option Nat} {ops : Array Oper} {Q : Exit → Act → World → Prop} {S : World → Prop} {i : Nat} {oi : Oper} {v : Value} (hi : ops[i]? = some oi) (hsel : ∀ (j : Nat) (o : Oper) cs b, ops[j]? = some o → o.op ≠ .select cs b)
    (hQ : ∀ c a w, ¬ Q (.panic c) a w) :
    ∀ (fuel : Nat) (listed : Array Bool) (a : Act) (w : World),
      (∀ j oj, ops[j]? = some oj → j ≠ i → listed.getD j true = false → (∀ e ∈ oj.after, Region.binds .any e = true → e.on ≠ i) → oi.apart ops oj = true) →
      i ∈ Region.ready .any ops listed → YIf P ops S oi v a → S w →
      uAny P r ops Q S fuel (listed.setIfInBounds i true) (a.put oi.dst v) w → uAny P r ops Q S (fuel + 1) listed a w := by
  intro fuel
  induction fuel with
  | zero =>
    intro listed a w _ hr hy hS H
    refine ⟨fun h => (by rw [h] at hr; cases hr), fun j hj o ho => ?_⟩
    by_cases hji : j = i
    · subst hji; rw [hi] at ho; cases ho; exact hy.uOp hS ⟨hS, H⟩
    · have := ready_mono hj hji
      rw [H.1] at this
      cases this
  | succ fuel ih =>
    intro listed a w hfree hr hy hS H
    refine ⟨fun h => (by rw [h] at hr; cases hr), fun j hj oj hoj => ?_⟩
    by_cases hji : j = i
    · subst hji; rw [hi] at hoj; cases hoj; exact hy.uOp hS ⟨hS, H⟩
    · have h1 := H.2 j (ready_mono hj hji) oj hoj
      obtain ⟨hjun, oj', hoj', hall⟩ := mem_ready.1 hj
      rw [hoj] at hoj'; cases hoj'
      have hnot : ∀ e ∈ oj.after, Region.binds .any e = true → e.on ≠ i := fun e he hb heq => by
        have h1 := hall e he hb
        have h0 := (mem_ready.1 hr).1
        rw [heq] at h1
        rcases Nat.lt_or_ge i listed.size with h' | h'
        · simp [h'] at h0 h1; rw [h0] at h1; cases h1
        · simp [Array.getElem?_eq_none h'] at h1
      have h2 := uOp_putIf (hfree j oj hoj hji hjun hnot) (fun cs b => hsel i oi cs b hi) (fun cs b => hsel j oj cs b hoj) hQ hy h1
      have hfree' : ∀ k ok, ops[k]? = some ok → k ≠ i → (listed.setIfInBounds j true).getD k true = false →
          (∀ e ∈ ok.after, Region.binds .any e = true → e.on ≠ i) → oi.apart ops ok = true := fun k ok hk hki hun hno => by
        refine hfree k ok hk hki ?_ hno
        by_cases hjk : j = k
        · subst hjk; exact hjun
        · rw [getD_set_ne true hjk] at hun; exact hun
      refine uOp_mono (fun a' w' h3 => ⟨h3.2.1, ih (listed.setIfInBounds j true) a' w' hfree' (ready_mono hr (Ne.symm hji)) h3.1 h3.2.1 ?_⟩) h2
      rw [Array.setIfInBounds_comm _ _ hji]
      exact h3.2.2

/-- Number i may be taken first (a closed check). -/
def mayTake (ops : Array Oper) (listed : Array Bool) (i : Nat) : Bool :=
  ops.toList.all plainOp && Region.free .any ops listed i && (Region.ready .any ops listed).contains i

theorem uAny_take {P : Program} {r : Option Nat} {ops : Array Oper} {Q : Exit → Act → World → Prop} {S : World → Prop} {i : Nat} {oi : Oper} {v : Value} {fuel : Nat} {listed : Array Bool} {a : Act} {w : World} (hi : ops[i]? = some oi)
    (hm : mayTake ops listed i = true) (hQ : ∀ c a w, ¬ Q (.panic c) a w) (hy : YIf P ops S oi v a) (hS : S w)
    (h : uAny P r ops Q S fuel (listed.setIfInBounds i true) (a.put oi.dst v) w) : uAny P r ops Q S (fuel + 1) listed a w := by
  simp only [mayTake, Bool.and_eq_true] at hm
  obtain ⟨⟨h1, h2⟩, h3⟩ := hm
  refine uAny_first hi (fun j o cs b ho => ?_) hQ fuel listed a w (Region.free_spec hi h2) (by simpa using h3) hy hS h
  have : plainOp o = true := List.all_eq_true.1 h1 o (by rw [← Array.getElem?_toList] at ho; exact List.mem_of_getElem? ho)
  exact plain_select this cs b

theorem uAny_done {P : Program} {r : Option Nat} {ops : Array Oper} {Q : Exit → Act → World → Prop} {S : World → Prop} {listed : Array Bool} {a : Act} {w : World} (hr : Region.ready .any ops listed = []) (h : Q .normal a w) :
    ∀ fuel, uAny P r ops Q S fuel listed a w
  | 0 => ⟨hr, h⟩
  | _ + 1 => ⟨fun _ => h, by rw [hr]; simp⟩

def AllReady (P : Program) (r : Option Nat) (ops : Array Oper) (Q : Exit → Act → World → Prop) (S : World → Prop) (fuel : Nat) (listed : Array Bool) (a : Act) (w : World) : List Nat → Prop
  | [] => True
  | i :: is => (∀ o, ops[i]? = some o → uOp P r ops Q o (fun a' w' => S w' ∧ uAny P r ops Q S fuel (listed.setIfInBounds i true) a' w') a w) ∧ AllReady P r ops Q S fuel listed a w is

theorem AllReady.mem {P : Program} {r : Option Nat} {ops : Array Oper} {Q : Exit → Act → World → Prop} {S : World → Prop} {fuel : Nat} {listed : Array Bool} {a : Act} {w : World} : ∀ {is : List Nat}, AllReady P r ops Q S fuel listed a w is → ∀ i ∈ is, ∀ o, ops[i]? = some o → uOp P r ops Q o (fun a' w' => S w' ∧ uAny P r ops Q S fuel (listed.setIfInBounds i true) a' w') a w
  | [], _, i, hi => by cases hi
  | j :: is, h, i, hi => by
    rcases List.mem_cons.1 hi with rfl | hi
    · exact h.1
    · exact AllReady.mem h.2 i hi

theorem uAny_all {P : Program} {r : Option Nat} {ops : Array Oper} {Q : Exit → Act → World → Prop} {S : World → Prop} {rs : List Nat} {fuel : Nat} {listed : Array Bool} {a : Act} {w : World} (hr : Region.ready .any ops listed = rs) (hne : rs ≠ [])
    (h : AllReady P r ops Q S fuel listed a w rs) : uAny P r ops Q S (fuel + 1) listed a w :=
  ⟨fun h0 => absurd (hr ▸ h0) hne, fun i hi o ho => h.mem i (hr ▸ hi) o ho⟩

theorem region_list {P : Program} {r : Option Nat} {id : Nat} {l : List Oper} {Q : Exit → Act → World → Prop} {a : Act} {w : World} (hd : plainOps l = true) (h : uList P r l.toArray Q l a w) : Cx P r (.region id l.toArray false) Q a w :=
  wpIn_region_lit (uList_sound l a w hd h)

theorem region_any {P : Program} {r : Option Nat} {id : Nat} {ops : Array Oper} {Q : Exit → Act → World → Prop} {S : World → Prop} {a : Act} {w : World} (hm : P.follows .mixedOrders = true) (hd : ops.toList.all plainOp = true)
    (h : uAny P r ops Q S ops.size (Array.replicate ops.size false) a { w with drawn := w.drawn + 1 }) : Cx P r (.region id ops true) Q a w :=
  wpIn_region_any hm (uAny_sound (fun o ho => List.all_eq_true.1 hd o ho) _ _ _ _ h)

/-- A loop, by a number that falls. -/
theorem loop_rule {P : Program} {r : Option Nat} {c : Code} {Q : Exit → Act → World → Prop} {a : Act} {w : World} (I : Nat → Act → World → Prop) (k : Nat) (h0 : I k a w)
    (round : ∀ k a w, I k a w → Cx P r c (Exit.then (fun a' w' => ∃ k', k' < k ∧ I k' a' w') Q) a w) : Cx P r (.loop c) Q a w := by
  classical
  let J : Act → World → Prop := fun a w => ∃ k, I k a w
  have least : ∀ a w, J a w → ∃ k, I k a w ∧ ∀ j, I j a w → k ≤ j := by
    intro a w ⟨k, hk⟩
    induction k using Nat.strongRecOn with
    | _ k ih =>
      by_cases hs : ∃ j, j < k ∧ I j a w
      · obtain ⟨j, hj, hI⟩ := hs; exact ih j hj hI
      · exact ⟨k, hk, fun j hj => Nat.le_of_not_lt fun hlt => hs ⟨j, hlt, hj⟩⟩
  let μ : Act → World → Nat := fun a w => if h : J a w then Classical.choose (least a w h) else 0
  refine wpIn_loop J μ ⟨k, h0⟩ fun a w hJ => ?_
  have hc := Classical.choose_spec (least a w hJ)
  have hμ : μ a w = Classical.choose (least a w hJ) := by simp [μ, hJ]
  refine wpIn_mono (round _ a w hc.1) fun e a' w' hq => ?_
  cases e with
  | normal =>
    obtain ⟨k', hlt, hI⟩ := hq
    have hJ' : J a' w' := ⟨k', hI⟩
    refine ⟨hJ', ?_⟩
    have hμ' : μ a' w' = Classical.choose (least a' w' hJ') := by simp [μ, hJ']
    have := (Classical.choose_spec (least a' w' hJ')).2 k' hI
    omega
  | _ => exact hq

end Go.Lu
