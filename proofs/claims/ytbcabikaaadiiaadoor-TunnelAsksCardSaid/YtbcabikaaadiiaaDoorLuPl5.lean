/-
  Plain laws, fifth part: what the functions of the program answer, of any book: Check, and what it lets in.
-/
import Derived.Test.YtbcabikaaadiiaaDoorLuPl4
import Derived.Test.YtbcabikaaadiiaaDoorLuG5x1
namespace Go.Lu
open Go
set_option linter.unusedVariables false
set_option linter.unusedSimpArgs false

theorem wrN {i : Nat} (h : i + 1 ≤ maxLen) : IntKind.i64.wrap ((i : Int) + 1) = ((i + 1 : Nat) : Int) := by
  have : maxLen = 9223372036854775807 := by unfold maxLen; omega
  rw [IntKind.wrap_i64]; omega
theorem wr_max {n : Int} (h0 : -9223372036854775808 ≤ n) (h1 : n ≤ 9223372036854775807) : IntKind.i64.wrap n = n := by rw [IntKind.wrap_i64]; omega
theorem bb {c : Bool} {α : Type} {a b : α} : (bif c then some a else some b) = some (bif c then a else b) := by cases c <;> rfl
theorem bind_s {α β : Type} {a : α} {f : α → Option β} : (some a).bind f = f a := rfl
theorem in_eq (k : Nat) (a b c : Int) : tunnel_in k a b c = some (decide (b ≤ a) && decide (a ≤ c)) := by
  unfold tunnel_in; cases decide (b ≤ a) <;> rfl
theorem fits_eq (k : Nat) (a b c : Int) : ref00_Fits k a b c = some (decide (b ≤ a) && decide (a ≤ c)) := by
  unfold ref00_Fits; cases decide (b ≤ a) <;> rfl
theorem spans_eq (k : Nat) (s : Span) (c : Int) : tunnel_spans k s c = some (decide (0 ≤ s.Low) && decide (s.Low ≤ s.High) && decide (s.High ≤ c)) := by
  unfold tunnel_spans; rw [in_eq, bind_s]; cases (decide (0 ≤ s.Low) && decide (s.Low ≤ s.High)) <;> rfl
theorem right_eq (k : Nat) (s : Span) (a c : Int) : ref00_Right k s a c = some (decide (a ≤ s.Low) && decide (s.Low ≤ s.High) && decide (s.High ≤ c)) := by
  unfold ref00_Right; cases decide (a ≤ s.Low) <;> cases decide (s.Low ≤ s.High) <;> rfl

def heatB : Int → List Int → Bool
  | _, [] => true
  | l, h :: t => decide (l ≤ h) && decide (h ≤ 20) && heatB h t
def partB (p : TunnelPart) : Bool := (decide (0 ≤ p.Damp.Low) && decide (p.Damp.Low ≤ p.Damp.High) && decide (p.Damp.High ≤ 20) && decide (p.Damp.High - p.Damp.Low ≤ 3)) && heatB 0 p.Heat
def stayB (l : List Int) : Bool := l.all fun s => decide (0 ≤ s) && decide (s ≤ 20)
def frameB (n : Nat) (f : TunnelFrame) : Bool := ((f.Stay.length : Int) == (n : Int) && (decide (0 ≤ f.Need.Low) && decide (f.Need.Low ≤ f.Need.High) && decide (f.Need.High ≤ 999))) && stayB f.Stay
def bookB (b : TunnelBook) : Bool := (((decide (1 ≤ (b.Parts.length : Int)) && decide ((b.Parts.length : Int) ≤ 4)) && decide ((b.Frames.length : Int) ≤ 5)) && b.Parts.all partB) && b.Frames.all (frameB b.Parts.length)

theorem check_lj7 (k : Nat) (p : TunnelPart) (hl : p.Heat.length = 4) : ∀ (m i n : Nat) (ok : Bool) (least : Int), i + m = 4 → m < n → tunnel_Check_lj7 k p n ok least (i : Int) = some (ok && heatB least (p.Heat.drop i))
  | 0, i, n + 1, ok, least, h, _ => by
    obtain rfl : i = 4 := by omega
    rw [tunnel_Check_lj7.eq_2, List.drop_of_length_le (by omega)]
    simp [heatB]
  | m + 1, i, n + 1, ok, least, h, hn => by
    have hi : i < p.Heat.length := by omega
    have e : (decide ((i : Int) < 4)) = true := by simp; omega
    rw [tunnel_Check_lj7.eq_2, e, cond_true, nth_nat, List.getElem?_eq_getElem hi, bind_s, in_eq, wrN (by unfold maxLen; omega)]
    have ih := check_lj7 k p hl m (i + 1) n
    rw [List.drop_eq_getElem_cons hi]
    cases ok
    · simp only [cond_false, bind_s]
      rw [ih _ _ (by omega) (by omega)]; simp
    · simp only [cond_true, bind_s]
      rw [ih _ _ (by omega) (by omega)]; simp [heatB]
theorem check_lj3 {k : Nat} {b : TunnelBook} (hb : b.Parts.length ≤ maxLen) (hh : ∀ p ∈ b.Parts, p.Heat.length = 4) (hk : 5 ≤ k) : ∀ (m i n : Nat) (ok : Bool), i + m = b.Parts.length → m < n → tunnel_Check_lj3 k b n ok (i : Int) = some (ok && (b.Parts.drop i).all partB)
  | 0, i, n + 1, ok, h, _ => by
    rw [tunnel_Check_lj3.eq_2, List.drop_of_length_le (by omega)]
    have e : decide ((i : Int) < (b.Parts.length : Int)) = false := by simp; omega
    rw [e]; simp
  | m + 1, i, n + 1, ok, h, hn => by
    have hi : i < b.Parts.length := by omega
    have e : decide ((i : Int) < (b.Parts.length : Int)) = true := by simp; omega
    have h7 := fun ok => check_lj7 k b.Parts[i] (hh _ (List.getElem_mem hi)) 4 0 k ok 0 (by omega) (by omega)
    have ih := check_lj3 hb hh hk m (i + 1) n
    rw [tunnel_Check_lj3.eq_2, e, cond_true, nth_nat, List.getElem?_eq_getElem hi, bind_s, spans_eq, wrN (by omega), List.drop_eq_getElem_cons hi]
    generalize b.Parts[i] = p at h7
    have key : (bif ok then (some (decide (0 ≤ p.Damp.Low) && decide (p.Damp.Low ≤ p.Damp.High) && decide (p.Damp.High ≤ 20))).bind fun x5_4 => bif x5_4 then some (decide (IntKind.i64.wrap (p.Damp.High - p.Damp.Low) ≤ 3)) else some false else some false) =
        some (ok && (decide (0 ≤ p.Damp.Low) && decide (p.Damp.Low ≤ p.Damp.High) && decide (p.Damp.High ≤ 20) && decide (p.Damp.High - p.Damp.Low ≤ 3))) := by
      cases ok
      · rfl
      · simp only [cond_true, bind_s, Bool.true_and]
        cases hd : (decide (0 ≤ p.Damp.Low) && decide (p.Damp.Low ≤ p.Damp.High) && decide (p.Damp.High ≤ 20))
        · rfl
        · simp at hd
          rw [wr (by omega) (by omega)]; rfl
    rw [key, bind_s]
    have h7' := h7 (ok && (decide (0 ≤ p.Damp.Low) && decide (p.Damp.Low ≤ p.Damp.High) && decide (p.Damp.High ≤ 20) && decide (p.Damp.High - p.Damp.Low ≤ 3)))
    simp only [Int.natCast_zero, List.drop_zero] at h7'
    rw [h7', bind_s, ih _ (by omega) (by omega)]
    simp [partB, Bool.and_assoc]
theorem check_lj15 {k : Nat} {f : TunnelFrame} (hb : f.Stay.length ≤ maxLen) : ∀ (m i n : Nat) (ok : Bool), i + m = f.Stay.length → m < n → tunnel_Check_lj15 k f n ok (i : Int) = some (ok && stayB (f.Stay.drop i))
  | 0, i, n + 1, ok, h, _ => by
    rw [tunnel_Check_lj15.eq_2, List.drop_of_length_le (by omega)]
    have e : decide ((i : Int) < (f.Stay.length : Int)) = false := by simp; omega
    rw [e]; simp [stayB]
  | m + 1, i, n + 1, ok, h, hn => by
    have hi : i < f.Stay.length := by omega
    have e : decide ((i : Int) < (f.Stay.length : Int)) = true := by simp; omega
    have ih := check_lj15 (k := k) hb m (i + 1) n
    rw [tunnel_Check_lj15.eq_2, e, cond_true, nth_nat, List.getElem?_eq_getElem hi, bind_s, in_eq, wrN (by omega), List.drop_eq_getElem_cons hi]
    cases ok
    · simp only [cond_false, bind_s]
      rw [ih _ (by omega) (by omega)]; simp
    · simp only [cond_true, bind_s]
      rw [ih _ (by omega) (by omega)]; simp only [stayB, List.all_cons, Bool.true_and]
theorem check_lj11 {k : Nat} {b : TunnelBook} (hb : b.Frames.length ≤ maxLen) (hs : ∀ f ∈ b.Frames, f.Stay.length ≤ maxLen ∧ f.Stay.length < k) : ∀ (m i n : Nat) (ok : Bool), i + m = b.Frames.length → m < n → tunnel_Check_lj11 k b n ok (i : Int) = some (ok && (b.Frames.drop i).all (frameB b.Parts.length))
  | 0, i, n + 1, ok, h, _ => by
    rw [tunnel_Check_lj11.eq_2, List.drop_of_length_le (by omega)]
    have e : decide ((i : Int) < (b.Frames.length : Int)) = false := by simp; omega
    rw [e]; simp
  | m + 1, i, n + 1, ok, h, hn => by
    have hi : i < b.Frames.length := by omega
    have e : decide ((i : Int) < (b.Frames.length : Int)) = true := by simp; omega
    obtain ⟨s1, s2⟩ := hs b.Frames[i] (List.getElem_mem hi)
    have h15 := fun ok => check_lj15 (k := k) s1 _ 0 k ok (Nat.zero_add _) s2
    have ih := check_lj11 hb hs m (i + 1) n
    rw [tunnel_Check_lj11.eq_2, e, cond_true, nth_nat, List.getElem?_eq_getElem hi, bind_s, spans_eq, wrN (by omega), List.drop_eq_getElem_cons hi]
    generalize b.Frames[i] = f at h15
    have key : (bif ok then (bif (f.Stay.length : Int) == (b.Parts.length : Int) then (some (decide (0 ≤ f.Need.Low) && decide (f.Need.Low ≤ f.Need.High) && decide (f.Need.High ≤ 999))).bind fun x => some x else some false) else some false) =
        some (ok && ((f.Stay.length : Int) == (b.Parts.length : Int) && (decide (0 ≤ f.Need.Low) && decide (f.Need.Low ≤ f.Need.High) && decide (f.Need.High ≤ 999)))) := by
      cases ok <;> cases ((f.Stay.length : Int) == (b.Parts.length : Int)) <;> rfl
    rw [key, bind_s]
    have h15' := h15 (ok && ((f.Stay.length : Int) == (b.Parts.length : Int) && (decide (0 ≤ f.Need.Low) && decide (f.Need.Low ≤ f.Need.High) && decide (f.Need.High ≤ 999))))
    simp only [Int.natCast_zero, List.drop_zero] at h15'
    rw [h15', bind_s, ih _ (by omega) (by omega)]
    simp [frameB, Bool.and_assoc]

/-- How much fuel a book asks. -/
structure Fuel (k : Nat) (b : TunnelBook) : Prop where
  low : 1000 ≤ k
  parts : b.Parts.length < k
  frames : b.Frames.length < k
  stay : ∀ f ∈ b.Frames, f.Stay.length < k
theorem check_eq {k : Nat} {b : TunnelBook} (hf : Fits b) (hk : Fuel k b) : tunnel_Check k b = some (bif bookB b then 0 else 30) := by
  unfold tunnel_Check
  have h1 : (bif (decide (1 ≤ (b.Parts.length : Int)) && decide ((b.Parts.length : Int) ≤ 4)) then some (decide ((b.Frames.length : Int) ≤ 5)) else some false) = some ((decide (1 ≤ (b.Parts.length : Int)) && decide ((b.Parts.length : Int) ≤ 4)) && decide ((b.Frames.length : Int) ≤ 5)) := by
    cases (decide (1 ≤ (b.Parts.length : Int)) && decide ((b.Parts.length : Int) ≤ 4)) <;> rfl
  have h3 := fun ok => check_lj3 (k := k) hf.parts hf.heat (by have := hk.low; omega) b.Parts.length 0 k ok (by omega) hk.parts
  have h11 := fun ok => check_lj11 (k := k) hf.frames (fun f hm => ⟨hf.stay f hm, hk.stay f hm⟩) b.Frames.length 0 k ok (by omega) hk.frames
  simp only [Int.natCast_zero, List.drop_zero] at h3 h11
  rw [in_eq, bind_s, h1, bind_s, h3, bind_s, h11, bind_s]
  unfold bookB
  cases ((((decide (1 ≤ (b.Parts.length : Int)) && decide ((b.Parts.length : Int) ≤ 4)) && decide ((b.Frames.length : Int) ≤ 5)) && b.Parts.all partB) && b.Frames.all (frameB b.Parts.length)) <;> rfl

theorem heatB_ok : ∀ (l : List Int) (a : Int), heatB a l = true → (∀ h ∈ l, a ≤ h ∧ h ≤ 20) ∧ l.Pairwise (· ≤ ·)
  | [], _, _ => by simp
  | x :: l, a, h => by
    simp [heatB] at h
    obtain ⟨h1, h2⟩ := heatB_ok l x h.2
    refine ⟨fun y hy => ?_, List.pairwise_cons.2 ⟨fun y hy => (h1 y hy).1, h2⟩⟩
    rcases List.mem_cons.1 hy with rfl | hy
    · omega
    · have := h1 y hy; omega
theorem heatB_of : ∀ (l : List Int) (a : Int), (∀ h ∈ l, a ≤ h ∧ h ≤ 20) → l.Pairwise (· ≤ ·) → heatB a l = true
  | [], _, _, _ => rfl
  | x :: l, a, h, hp => by
    obtain ⟨p1, p2⟩ := List.pairwise_cons.1 hp
    have hx := h x (by simp)
    simp [heatB, hx.1, hx.2, heatB_of l x (fun y hy => ⟨p1 y hy, (h y (by simp [hy])).2⟩) p2]
theorem bookB_iff {b : TunnelBook} (hh : ∀ p ∈ b.Parts, p.Heat.length = 4) : bookB b = true ↔ BookOk b := by
  constructor
  · intro h
    simp only [bookB, Bool.and_eq_true, decide_eq_true_eq, List.all_eq_true] at h
    obtain ⟨⟨⟨⟨h1, h2⟩, h3⟩, h4⟩, h5⟩ := h
    refine ⟨by omega, by omega, by omega, fun p hp => ?_, fun f hf => ?_⟩
    · have := h4 p hp
      simp only [partB, Bool.and_eq_true, decide_eq_true_eq] at this
      obtain ⟨⟨⟨⟨a, b'⟩, c⟩, d⟩, e⟩ := this
      obtain ⟨e1, e2⟩ := heatB_ok _ _ e
      exact ⟨hh p hp, e1, e2, a, b', c, d⟩
    · have := h5 f hf
      simp only [frameB, stayB, Bool.and_eq_true, decide_eq_true_eq, List.all_eq_true, beq_iff_eq] at this
      obtain ⟨⟨a, ⟨b', c⟩, d⟩, e⟩ := this
      exact ⟨by omega, e, b', c, d⟩
  · intro h
    simp only [bookB, Bool.and_eq_true, decide_eq_true_eq, List.all_eq_true]
    refine ⟨⟨⟨⟨by have := h.one; omega, by have := h.four; omega⟩, by have := h.five; omega⟩, fun p hp => ?_⟩, fun f hf => ?_⟩
    · have P := h.part p hp
      simp only [partB, Bool.and_eq_true, decide_eq_true_eq]
      exact ⟨⟨⟨⟨P.low, P.le⟩, P.high⟩, P.wide⟩, heatB_of _ _ P.heat P.inc⟩
    · have F := h.frame f hf
      simp only [frameB, stayB, Bool.and_eq_true, decide_eq_true_eq, List.all_eq_true, beq_iff_eq]
      exact ⟨⟨by have := F.len; omega, ⟨F.low, F.le⟩, F.high⟩, F.stay⟩
end Go.Lu
