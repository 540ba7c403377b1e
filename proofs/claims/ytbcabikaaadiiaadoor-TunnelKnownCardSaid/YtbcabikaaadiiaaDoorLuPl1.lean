/-
  Plain laws, first part: the first best of a list.
-/
namespace Go.Lu

section
variable {α : Type} (better : α → α → Bool)
/-- The better one of what is held and a new one: the held one if they are alike. -/
def pick1 : Option α → α → Option α
  | none, a => some a
  | some b, a => if better a b then some a else some b
def pick (o : Option α) (l : List α) : Option α := l.foldl (pick1 better) o
/-- Of a list: r is in it, none is better, each one before it is worse. -/
structure First (l : List α) (r : α) : Prop where
  split : ∃ p q, l = p ++ r :: q ∧ (∀ a ∈ p, better r a = true) ∧ ∀ a ∈ q, better a r = false
structure Ord : Prop where
  irr : ∀ a, better a a = false
  tr : ∀ a b c, better a b = true → better b c = true → better a c = true
  neg : ∀ a b c, better a b = false → better b c = false → better a c = false

variable {better}
theorem Ord.asym (h : Ord better) {a b : α} (k : better a b = true) : better b a = false := by
  cases e : better b a with
  | false => rfl
  | true => have := h.tr a b a k e; rw [h.irr] at this; cases this
theorem Ord.mix (h : Ord better) {a b c : α} (k : better a b = true) (l : better c b = false) : better a c = true := by
  cases e : better a c with
  | true => rfl
  | false => have := h.neg a c b e l; rw [k] at this; cases this
theorem Ord.mix' (h : Ord better) {a b c : α} (k : better b a = false) (l : better b c = true) : better a c = true := by
  cases e : better a c with
  | true => rfl
  | false => have := h.neg b a c k e; rw [l] at this; cases this

theorem First.mem {l : List α} {r : α} (h : First better l r) : r ∈ l := by
  obtain ⟨p, q, rfl, _, _⟩ := h.split; simp
theorem First.best (ho : Ord better) {l : List α} {r : α} (h : First better l r) : ∀ a ∈ l, better a r = false := by
  obtain ⟨p, q, rfl, hp, hq⟩ := h.split
  intro a ha
  rcases List.mem_append.1 ha with ha | ha
  · exact ho.asym (hp a ha)
  · rcases List.mem_cons.1 ha with rfl | ha
    · exact ho.irr _
    · exact hq a ha

theorem pick_append (o : Option α) (l m : List α) : pick better o (l ++ m) = pick better (pick better o l) m := by simp [pick]
theorem pick_first (ho : Ord better) : ∀ (l : List α) (pre : List α) (b : α), First better pre b → ∃ r, pick better (some b) l = some r ∧ First better (pre ++ l) r
  | [], pre, b, h => ⟨b, rfl, by simpa using h⟩
  | a :: l, pre, b, h => by
    show ∃ r, pick better (if better a b then some a else some b) l = some r ∧ _
    obtain ⟨p, q, rfl, hp, hq⟩ := h.split
    by_cases hb : better a b = true
    · rw [if_pos hb]
      have := pick_first ho l ((p ++ b :: q) ++ [a]) a ⟨p ++ b :: q, [], rfl, ?_, by simp⟩
      · simpa using this
      · intro x hx
        rcases List.mem_append.1 hx with hx | hx
        · exact ho.tr _ _ _ hb (hp x hx)
        · rcases List.mem_cons.1 hx with rfl | hx
          · exact hb
          · exact ho.mix hb (hq x hx)
    · rw [if_neg hb]
      have := pick_first ho l ((p ++ b :: q) ++ [a]) b ⟨p, q ++ [a], by simp, hp, ?_⟩
      · simpa using this
      · intro x hx
        rcases List.mem_append.1 hx with hx | hx
        · exact hq x hx
        · simp at hx; subst hx; simpa using hb
theorem pick_none (ho : Ord better) : ∀ (l : List α), (l = [] ∧ pick better none l = none) ∨ ∃ r, pick better none l = some r ∧ First better l r
  | [] => .inl ⟨rfl, rfl⟩
  | a :: l => .inr (by
    exact pick_first ho l [a] a ⟨[], [], rfl, by simp, by simp⟩)

/-- There is one first best. -/
theorem First.unique (ho : Ord better) {l : List α} {r s : α} (h : First better l r) (k : First better l s) : r = s := by
  obtain ⟨p, q, e1, hp, hq⟩ := h.split
  obtain ⟨p', q', e2, hp', hq'⟩ := k.split
  have key : p ++ r :: q = p' ++ s :: q' := e1.symm.trans e2
  have hr := h.best ho
  have hs := k.best ho
  rcases List.append_eq_append_iff.1 key with ⟨t, ht1, ht2⟩ | ⟨t, ht1, ht2⟩
  · cases t with
    | nil => simp at ht2; exact ht2.1
    | cons x t =>
      simp at ht2
      obtain ⟨rfl, _⟩ := ht2
      have := hp' r (by simp [ht1])
      rw [hr s k.mem] at this; cases this
  · cases t with
    | nil => simp at ht2; exact ht2.1.symm
    | cons x t =>
      simp at ht2
      obtain ⟨rfl, _⟩ := ht2
      have := hp s (by simp [ht1])
      rw [hs r h.mem] at this; cases this

/-- The first best of some is the first best of those that a test lets through, if it passes the test. -/
theorem First.filter {l : List α} {r : α} {f : α → Bool} (h : First better l r) (hr : f r = true) : First better (l.filter f) r := by
  obtain ⟨p, q, rfl, hp, hq⟩ := h.split
  refine ⟨p.filter f, q.filter f, by simp [hr], ?_, ?_⟩
  · intro a ha; exact hp a (List.mem_filter.1 ha).1
  · intro a ha; exact hq a (List.mem_filter.1 ha).1
end
end Go.Lu
