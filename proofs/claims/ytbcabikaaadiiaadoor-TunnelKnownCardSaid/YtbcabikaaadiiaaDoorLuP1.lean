/- Rules of the walks. -/
import Derived.Test.YtbcabikaaadiiaaDoorLuCore10
import Derived.Test.YtbcabikaaadiiaaDoorProg
import Derived.Tactics
import Derived.Tactics2
import Derived.StillTactics
import Derived.Laws.Pointers
import Derived.Laws.Small
import Derived.Laws.StructEq
import Derived.Laws.Tables
import Derived.Laws.Cover2
namespace Go.Lu
open Go Go.Proofs
set_option maxRecDepth 100000
theorem eq32 (a b c d : Int) (w : World) : (Op.equalIn 10000 32 (.agg #[.int .i64 a, .int .i64 b]) (.agg #[.int .i64 c, .int .i64 d])).run Tryd.prog w = .ok (a == c && b == d) w := by
  have u3 := Tryd.underlying3
  have a3 := Tryd.isAgg3
  have z3 := Tryd.sizeOf3
  have hS : Tryd.prog.underlying 32 = some (.struct (Tryd.prog.fieldsOf 32)) := by kernel_rfl
  rw [show (10000 : Nat) = 9999 + 1 from rfl, run_equalIn_agg w 9999 32 _ _ hS (by kernel_rfl)]
  simp only [Program.fieldsOf, Tryd.underlying32]
  go_simp
  by_cases h1 : a = c <;> by_cases h2 : b = d <;> simp [h1, h2]
theorem eqA111 (n : Nat) (a b c d a' b' c' d' : Int) (w : World) : (Op.equalIn (n + 2) 111 (.agg #[.int .i64 a, .int .i64 b, .int .i64 c, .int .i64 d]) (.agg #[.int .i64 a', .int .i64 b', .int .i64 c', .int .i64 d'])).run Tryd.prog w = .ok (a == a' && b == b' && c == c' && d == d') w := by
  have u3 := Tryd.underlying3
  have a3 := Tryd.isAgg3
  have z3 := Tryd.sizeOf3
  rw [Op.equalIn]
  simp only [Sem.run_bind, run_underlying Tryd.underlying111, Result.andThen_ok]
  simp only [Std.Legacy.Range.forIn_eq_forIn_range', Std.Legacy.Range.size, Nat.sub_zero, Nat.add_sub_cancel, Nat.div_one, List.range'_succ, List.range'_zero, List.forIn_cons, List.forIn_nil]
  go_simp
  by_cases h1 : a = a' <;> by_cases h2 : b = b' <;> by_cases h3 : c = c' <;> by_cases h4 : d = d' <;> simp [h1, h2, h3, h4]
theorem eq120 (x a b c d x' a' b' c' d' : Int) (w : World) : (Op.equalIn 10000 120 (.agg #[.int .i64 x, .int .i64 a, .int .i64 b, .int .i64 c, .int .i64 d]) (.agg #[.int .i64 x', .int .i64 a', .int .i64 b', .int .i64 c', .int .i64 d'])).run Tryd.prog w = .ok (x == x' && (a == a' && b == b' && c == c' && d == d')) w := by
  have u3 := Tryd.underlying3
  have a3 := Tryd.isAgg3
  have z3 := Tryd.sizeOf3
  have a111 := Tryd.isAgg111
  have z111 := Tryd.sizeOf111
  have hS : Tryd.prog.underlying 120 = some (.struct (Tryd.prog.fieldsOf 120)) := by kernel_rfl
  rw [show (10000 : Nat) = 9999 + 1 from rfl, run_equalIn_agg w 9999 120 _ _ hS (by kernel_rfl)]
  simp only [Program.fieldsOf, Tryd.underlying120]
  have h := fun w => eqA111 9997 a b c d a' b' c' d' w
  go_simp
  by_cases h1 : x = x' <;> by_cases h2 : a = a' <;> by_cases h3 : b = b' <;> by_cases h4 : c = c' <;> by_cases h5 : d = d' <;> simp [h1, h2, h3, h4, h5]

theorem setObj_map {w : World} {r : Nat} {es : Array MapEntry} {cl : Nat} (o' : Obj) (h : w.heap[r]? = some (.map es cl)) : (setObj r o').run Tryd.prog w = .ok () { w with heap := w.heap.setIfInBounds r o' } := by
  simp [setObj, Sem.run, h]
theorem getObj_map {w : World} {r : Nat} {es : Array MapEntry} {cl : Nat} (h : w.heap[r]? = some (.map es cl)) : (getObj r).run Tryd.prog w = .ok (.map es cl) w := by
  simp [getObj, Sem.run, h]

def K5 (f a b c d : Int) : Value := .agg #[.int .i64 f, .int .i64 a, .int .i64 b, .int .i64 c, .int .i64 d]
def V2 (x y : Int) : Value := .agg #[.int .i64 x, .int .i64 y]

/-- A map that remembers what 'good' says. -/
def MemoE (good : Int → List Int → Int → Int → Prop) (e : MapEntry) : Prop := ∃ f a b c d x y, e.key = K5 f a b c d ∧ e.val = V2 x y ∧ good f [a, b, c, d] x y
def MemoO (good : Int → List Int → Int → Int → Prop) (o : Obj) : Prop := ∃ es clock, o = .map es clock ∧ ∀ e ∈ es.toList, MemoE good e

theorem checkKey120 (em : Bool) (f a b c d : Int) (w : World) : (Instr.checkKey em 10000 120 (K5 f a b c d)).run Tryd.prog w = .ok () w := by
  have a3 := Tryd.isAgg3
  have z3 := Tryd.sizeOf3
  have a111 := Tryd.isAgg111
  have z111 := Tryd.sizeOf111
  have k3 : ∀ n v w, (Instr.checkKey em (n + 1) 3 (.int .i64 v)).run Tryd.prog w = .ok () w := by
    intro n v w
    rw [Instr.checkKey, Sem.run_bind, run_underlying Tryd.underlying3]; rfl
  have k111 : ∀ n (p q r s : Int) w, (Instr.checkKey em (n + 2) 111 (.agg #[.int .i64 p, .int .i64 q, .int .i64 r, .int .i64 s])).run Tryd.prog w = .ok () w := by
    intro n p q r s w
    rw [Instr.checkKey]
    simp only [Sem.run_bind, run_underlying Tryd.underlying111, Result.andThen_ok]
    simp only [Std.Legacy.Range.forIn_eq_forIn_range', Std.Legacy.Range.size, Nat.sub_zero, Nat.add_sub_cancel, Nat.div_one, List.range'_succ, List.range'_zero, List.forIn_cons, List.forIn_nil]
    go_simp
  have h1 := fun w => k3 9998 f w
  have h2 := fun w => k111 9997 a b c d w
  rw [show (10000 : Nat) = 9999 + 1 from rfl, K5, Instr.checkKey]
  simp only [Sem.run_bind, run_underlying Tryd.underlying120, Result.andThen_ok]
  rw [← Array.forIn_toList]
  simp only [List.forIn_cons, List.forIn_nil]
  go_simp

section
variable {good : Int → List Int → Int → Int → Prop}

theorem equal120 (f a b c d f' a' b' c' d' : Int) (w : World) : (Op.equal 120 (K5 f a b c d) (K5 f' a' b' c' d')).run Tryd.prog w = .ok (f == f' && (a == a' && b == b' && c == c' && d == d')) w :=
  eq120 _ _ _ _ _ _ _ _ _ _ w

theorem findAsking120 (f a b c d : Int) (w : World) : ∀ (es : List MapEntry) (i : Nat), (∀ e ∈ es, MemoE good e) →
    (Instr.findAsking 120 (K5 f a b c d) es i).run Tryd.prog w = .ok none w ∨
    ∃ j e, es[j]? = some e ∧ e.key = K5 f a b c d ∧ (Instr.findAsking 120 (K5 f a b c d) es i).run Tryd.prog w = .ok (some (i + j, e.val)) w
  | [], i, _ => .inl rfl
  | e :: es, i, h => by
    obtain ⟨f', a', b', c', d', x, y, hk, hv, hg⟩ := h e (by simp)
    have he : (Instr.findAsking 120 (K5 f a b c d) (e :: es) i).run Tryd.prog w = (if (f == f' && (a == a' && b == b' && c == c' && d == d')) then (pure (some (i, e.val)) : Sem _) else Instr.findAsking 120 (K5 f a b c d) es (i + 1)).run Tryd.prog w := by
      rw [Instr.findAsking, Sem.run_bind, hk, equal120]; rfl
    by_cases hq : (f == f' && (a == a' && b == b' && c == c' && d == d')) = true
    · refine .inr ⟨0, e, rfl, ?_, ?_⟩
      · simp at hq; obtain ⟨rfl, ⟨⟨rfl, rfl⟩, rfl⟩, rfl⟩ := hq; exact hk
      · rw [he, if_pos hq]; rfl
    · rw [he, if_neg hq]
      rcases findAsking120 f a b c d w es (i + 1) (fun e he => h e (by simp [he])) with hn | ⟨j, e', h1, h2, h3⟩
      · exact .inl hn
      · exact .inr ⟨j + 1, e', by simpa using h1, h2, by rw [h3]; congr 2; simp; omega⟩

theorem findKey120 (f a b c d : Int) (w : World) (es : List MapEntry) (h : ∀ e ∈ es, MemoE good e) :
    (Instr.findKey 120 (K5 f a b c d) es).run Tryd.prog w = .ok none w ∨
    ∃ j e, es[j]? = some e ∧ e.key = K5 f a b c d ∧ (Instr.findKey 120 (K5 f a b c d) es).run Tryd.prog w = .ok (some (j, e.val)) w := by
  unfold Instr.findKey
  cases es with
  | nil => exact .inl (by rw [Sem.run_bind, run_underlying Tryd.underlying120]; rfl)
  | cons e es =>
    have hs : ∀ fs, Instr.findNow (.struct fs) (K5 f a b c d) (e :: es) 0 = none := fun fs => by rw [Instr.findNow]; rfl
    rw [Sem.run_bind, run_underlying Tryd.underlying120]
    simp only [Result.andThen_ok, hs]
    rcases findAsking120 f a b c d w (e :: es) 0 h with hn | ⟨j, e', h1, h2, h3⟩
    · exact .inl hn
    · exact .inr ⟨j, e', h1, h2, by rw [h3]; simp⟩

theorem lookup108 {w : World} {M : Nat} {o : Obj} (f a b c d : Int) (ho : w.heap[M]? = some o) (hm : MemoO good o) :
    ∃ (found : Bool) (x y : Int), (found = true → good f [a, b, c, d] x y) ∧ (Instr.lookup 108 (.map (some M)) (K5 f a b c d) true).run Tryd.prog w = .ok (.tuple #[V2 x y, .bool found]) w := by
  obtain ⟨es, cl, rfl, hes⟩ := hm
  have hk := fun em => checkKey120 em f a b c d w
  rcases findKey120 f a b c d w es.toList hes with hn | ⟨j, e, h1, h2, h3⟩
  · refine ⟨false, 0, 0, fun h => (by cases h), ?_⟩
    unfold Instr.lookup
    simp only [Sem.run_bind, run_underlying Tryd.underlying108, Result.andThen_ok, getObj_map ho, hk, hn, Sem.run_pure, Tryd.zeroValue32]
    rfl
  · obtain ⟨f', a', b', c', d', x, y, hk', hv, hg⟩ := hes e (List.mem_of_getElem? h1)
    rw [hk'] at h2; simp [K5] at h2; obtain ⟨rfl, rfl, rfl, rfl, rfl⟩ := h2
    refine ⟨true, x, y, fun _ => hg, ?_⟩
    unfold Instr.lookup
    simp only [Sem.run_bind, run_underlying Tryd.underlying108, Result.andThen_ok, getObj_map ho, hk, h3, hv, Sem.run_pure]
    rfl

theorem update108 {w : World} {M : Nat} {o : Obj} {f a b c d x y : Int} (ho : w.heap[M]? = some o) (hm : MemoO good o) (hg : good f [a, b, c, d] x y) :
    ∃ o' w', (Instr.mapUpdate 108 (.map (some M)) (K5 f a b c d) (V2 x y)).run Tryd.prog w = .ok () w' ∧ MemoO good o' ∧ w'.heap = w.heap.setIfInBounds M o' ∧ Io w w' := by
  obtain ⟨es, cl, rfl, hes⟩ := hm
  have hk := fun em => checkKey120 em f a b c d w
  rcases findKey120 f a b c d w es.toList hes with hn | ⟨j, e, h1, h2, h3⟩
  · refine ⟨.map (es.push { key := K5 f a b c d, val := V2 x y, born := cl }) (cl + 1), { w with heap := w.heap.setIfInBounds M (.map (es.push { key := K5 f a b c d, val := V2 x y, born := cl }) (cl + 1)) }, ?_, ⟨_, _, rfl, fun e he => ?_⟩, rfl, rfl, rfl⟩
    · unfold Instr.mapUpdate
      simp only [Sem.run_bind, run_underlying Tryd.underlying108, Result.andThen_ok, getObj_map ho, hk, hn]
      exact setObj_map _ ho
    · simp at he
      rcases he with he | rfl
      · exact hes e (by simpa using he)
      · exact ⟨f, a, b, c, d, x, y, rfl, rfl, hg⟩
  · refine ⟨.map (es.modify j fun e => { e with key := K5 f a b c d, val := V2 x y }) cl, { w with heap := w.heap.setIfInBounds M (.map (es.modify j fun e => { e with key := K5 f a b c d, val := V2 x y }) cl) }, ?_, ⟨_, _, rfl, fun e' he => ?_⟩, rfl, rfl, rfl⟩
    · unfold Instr.mapUpdate
      have hold : ((es[j]?).map (·.key)).getD (K5 f a b c d) = K5 f a b c d := by
        rw [← Array.getElem?_toList, h1]; exact h2
      have hst : (Instr.keyThatStays (K5 f a b c d) (K5 f a b c d)).run Tryd.prog w = .ok (K5 f a b c d) w := by
        unfold Instr.keyThatStays
        have : Instr.sameBits 10000 (K5 f a b c d) (K5 f a b c d) = true := by simp [K5, Instr.sameBits]
        rw [this]; rfl
      simp only [Sem.run_bind, run_underlying Tryd.underlying108, Result.andThen_ok, getObj_map ho, hk, h3, hold, hst]
      exact setObj_map _ ho
    · obtain ⟨i, hi⟩ := List.mem_iff_getElem?.1 he
      rw [Array.getElem?_toList, Array.getElem?_modify] at hi
      split at hi
      · rcases Option.map_eq_some_iff.1 hi with ⟨e0, h0, rfl⟩
        exact ⟨f, a, b, c, d, x, y, rfl, rfl, hg⟩
      · exact hes e' (List.mem_of_getElem? (by rw [Array.getElem?_toList]; exact hi))

theorem makeMap108 (w : World) : (Instr.makeMap 108 none).run Tryd.prog w = .ok (.map (some w.heap.size)) (w.alloc (.map #[] 0)) := rfl
theorem memo_new : MemoO good (.map #[] 0) := ⟨_, _, rfl, fun e he => by simp at he⟩
end
end Go.Lu
