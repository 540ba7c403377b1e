/-
  Plain laws, eleventh part: a frame that stays longer; Longer.
-/
import Derived.Test.YtbcabikaaadiiaaDoorLuPl8
import Derived.Test.YtbcabikaaadiiaaDoorLuW3
namespace Go.Lu
open Go
set_option linter.unusedVariables false
set_option linter.unusedSimpArgs false

def stayF (f : TunnelFrame) (p : Nat) (st : Int) : TunnelFrame := ⟨f.Stay.set p st, f.Need⟩
def stayB' (b : TunnelBook) (i : Nat) (f : TunnelFrame) (p : Nat) (st : Int) : TunnelBook := ⟨b.Parts, b.Frames.set i (stayF f p st)⟩
theorem stayF_ok {n : Nat} {f : TunnelFrame} (hf : FrameOk n f) {p : Nat} {st : Int} (h0 : 0 ≤ st) (h1 : st ≤ 20) : FrameOk n (stayF f p st) :=
 ⟨by simp [stayF, hf.len], fun x hx => by
   rcases List.mem_or_eq_of_mem_set hx with h | h
   · exact hf.stay x h
   · omega, hf.low, hf.le, hf.high⟩
theorem stayB_ok {b : TunnelBook} (hb : BookOk b) {f : TunnelFrame} (hf : FrameOk b.Parts.length f) (i : Nat) {p : Nat} {st : Int} (h0 : 0 ≤ st) (h1 : st ≤ 20) : BookOk (stayB' b i f p st) :=
 ⟨hb.one, hb.four, by simp [stayB']; exact hb.five, hb.part, fun g hg => by
   rcases List.mem_or_eq_of_mem_set hg with h | h
   · exact hb.frame g h
   · rw [h]; exact stayF_ok hf h0 h1⟩
theorem stayB_dry {k : Nat} {b : TunnelBook} (hb : BookOk b) {s : List Int} (hs : SetOk b.Parts.length s) {i : Nat} (hi : i < b.Frames.length) {p : Nat} {st : Int} (h0 : 0 ≤ st) (h1 : st ≤ 20) :
   tunnel_book_isDry k (stayB' b i b.Frames[i] p st) ⟨(i : Int), pad4 s⟩ = some (dryB b s (stayF b.Frames[i] p st)) := by
 have bx := stayB_ok hb (hb.frame _ (List.getElem_mem hi)) i (p := p) h0 h1
 have hi' : i < (stayB' b i b.Frames[i] p st).Frames.length := by simp [stayB', hi]
 rw [isDry_eq k bx (s := s) hs hi', dryK_nat hi']
 simp [stayB']; rfl
theorem longer_lj3 {k : Nat} {b : TunnelBook} (hb : BookOk b) {s : List Int} (hs : SetOk b.Parts.length s) {i : Nat} (hi : i < b.Frames.length) {p : Nat} (hp : p < b.Frames[i].Stay.length) (e0 : Int) : ∀ (c n : Nat), b.Frames[i].Stay[p] + c ≤ 20 → c < n →
   (∃ m : Nat, 1 ≤ m ∧ m ≤ c ∧ tunnel_Longer_lj3 k b (i : Int) (p : Int) (b, pad4 s, e0) n (c : Int) = some (Sum.inl ((m : Int), 0)) ∧ dryB b s (stayF b.Frames[i] p (b.Frames[i].Stay[p] + m)) = true ∧ ∀ j : Nat, m < j → j ≤ c → dryB b s (stayF b.Frames[i] p (b.Frames[i].Stay[p] + j)) = false) ∨
   (tunnel_Longer_lj3 k b (i : Int) (p : Int) (b, pad4 s, e0) n (c : Int) = some (Sum.inr ()) ∧ ∀ j : Nat, 1 ≤ j → j ≤ c → dryB b s (stayF b.Frames[i] p (b.Frames[i].Stay[p] + j)) = false)
 | 0, n + 1, _, _ => by
   right
   rw [tunnel_Longer_lj3.eq_2]
   exact ⟨rfl, fun j h1 h2 => by omega⟩
 | c + 1, n + 1, h20, hn => by
   have h5 := hb.five
   have h4 := hb.four
   have hf := hb.frame _ (List.getElem_mem hi)
   have hx := hf.stay _ (List.getElem_mem hp)
   have hl := hf.len
   have e : decide ((((c + 1 : Nat) : Int)) > 0) = true := by simp
   have a1 : app [] b.Frames = some b.Frames := by rw [app_eq (by simp; omega)]; rfl
   have a2 : app [] b.Frames[i].Stay = some b.Frames[i].Stay := by rw [app_eq (by simp; omega)]; rfl
   have n1 : nth b.Frames (i : Int) = some b.Frames[i] := by rw [nth_nat, List.getElem?_eq_getElem hi]
   have n2 : nth b.Frames[i].Stay (p : Int) = some b.Frames[i].Stay[p] := by rw [nth_nat, List.getElem?_eq_getElem hp]
   have w1 : IntKind.i64.wrap (b.Frames[i].Stay[p] + ((c + 1 : Nat) : Int)) = b.Frames[i].Stay[p] + ((c + 1 : Nat) : Int) := wr (by omega) (by omega)
   have w2 : IntKind.i64.wrap (((c + 1 : Nat) : Int) - 1) = (c : Int) := by rw [wr (by omega) (by omega)]; omega
   have hd := stayB_dry (k := k) hb hs hi (p := p) (st := b.Frames[i].Stay[p] + ((c + 1 : Nat) : Int)) (by omega) h20
   have hd' : tunnel_book_isDry k ⟨b.Parts, b.Frames.set i ⟨b.Frames[i].Stay.set p (b.Frames[i].Stay[p] + ((c + 1 : Nat) : Int)), b.Frames[i].Need⟩⟩ ⟨(i : Int), pad4 s⟩ = some (dryB b s (stayF b.Frames[i] p (b.Frames[i].Stay[p] + ((c + 1 : Nat) : Int)))) := hd
   have eq : tunnel_Longer_lj3 k b (i : Int) (p : Int) (b, pad4 s, e0) (n + 1) ((c + 1 : Nat) : Int) = (bif dryB b s (stayF b.Frames[i] p (b.Frames[i].Stay[p] + ((c + 1 : Nat) : Int))) then some (Sum.inl (((c + 1 : Nat) : Int), 0)) else tunnel_Longer_lj3 k b (i : Int) (p : Int) (b, pad4 s, e0) n (c : Int)) := by
     rw [tunnel_Longer_lj3.eq_2, e, cond_true]
     simp only [a1, a2, n1, n2, bind_s, Int.toNat_natCast, w1, w2, hd']
   rw [eq]
   cases hdr : dryB b s (stayF b.Frames[i] p (b.Frames[i].Stay[p] + ((c + 1 : Nat) : Int)))
   · rw [cond_false]
     rcases longer_lj3 (k := k) hb hs hi hp e0 c n (by omega) (by omega) with ⟨m, m1, m2, h1, h2, h3⟩ | ⟨h1, h2⟩
     · refine .inl ⟨m, m1, by omega, h1, h2, fun j j1 j2 => ?_⟩
       by_cases ej : j = c + 1
       · rw [ej]; exact hdr
       · exact h3 j j1 (by omega)
     · refine .inr ⟨h1, fun j j1 j2 => ?_⟩
       by_cases ej : j = c + 1
       · rw [ej]; exact hdr
       · exact h2 j j1 (by omega)
   · exact .inl ⟨c + 1, by omega, Nat.le_refl _, rfl, hdr, fun j j1 j2 => by omega⟩
/-- What Longer answers of a right question. -/
theorem Longer_ok {k : Nat} {b : TunnelBook} (A : Asks k b) {s : List Int} (hs : SetOk b.Parts.length s) {i : Nat} (hi : i < b.Frames.length) {p : Nat} (hp : p < b.Frames[i].Stay.length) :
   (dryB b s b.Frames[i] = false ∧ tunnel_Longer k b s (i : Int) (p : Int) = some (0, 4)) ∨
   (dryB b s b.Frames[i] = true ∧ ∃ m : Nat, b.Frames[i].Stay[p] + m ≤ 20 ∧ tunnel_Longer k b s (i : Int) (p : Int) = some ((m : Int), 0) ∧ dryB b s (stayF b.Frames[i] p (b.Frames[i].Stay[p] + m)) = true ∧ ∀ j : Nat, m < j → b.Frames[i].Stay[p] + j ≤ 20 → dryB b s (stayF b.Frames[i] p (b.Frames[i].Stay[p] + j)) = false) := by
 have hf := A.ok.frame _ (List.getElem_mem hi)
 have hx := hf.stay _ (List.getElem_mem hp)
 have hpl : p < b.Parts.length := by rw [← hf.len]; exact hp
 have h4 := A.ok.four
 have q1 : (decide (0 ≤ (p : Int)) && decide ((p : Int) ≤ (b.Parts.length : Int) - 1)) = true := by simp; omega
 have hd := isDry_eq k A.ok hs hi
 rw [dryK_nat hi] at hd
 have n1 : nth b.Frames (i : Int) = some b.Frames[i] := by rw [nth_nat, List.getElem?_eq_getElem hi]
 have n2 : nth b.Frames[i].Stay (p : Int) = some b.Frames[i].Stay[p] := by rw [nth_nat, List.getElem?_eq_getElem hp]
 have hask : tunnel_asked k b s true = some (b, pad4 s, 0) := by rw [asked_eq A.fits A.fuel, askE_ok A.bookB hs rfl]; rfl
 unfold tunnel_Longer
 rw [isFrame_eq k A.fits.frames, bind_s, frame_in hi, cond_true, isPart_eq k A.fits.parts, bind_s, q1, hask, bind_s, show ((0 : Int) != 0) = false from rfl, cond_false, hd, bind_s]
 cases hdr : dryB b s b.Frames[i]
 · exact .inl ⟨rfl, rfl⟩
 · right
   refine ⟨rfl, ?_⟩
   rw [Bool.not_true, cond_false, n1, bind_s, n2, bind_s, wr (by omega) (by omega)]
   have hc : (20 : Int) - b.Frames[i].Stay[p] = (((20 - b.Frames[i].Stay[p]).toNat : Nat) : Int) := by omega
   have hk := A.fuel.low
   rcases longer_lj3 (k := k) A.ok hs hi hp 0 (20 - b.Frames[i].Stay[p]).toNat k (by omega) (by omega) with ⟨m, m1, m2, h1, h2, h3⟩ | ⟨h1, h2⟩
   · rw [hc, h1]
     exact ⟨m, by omega, rfl, h2, fun j j1 j2 => h3 j j1 (by omega)⟩
   · rw [hc, h1]
     refine ⟨0, by omega, rfl, ?_, fun j j1 j2 => h2 j (by omega) (by omega)⟩
     have : stayF b.Frames[i] p (b.Frames[i].Stay[p] + (0 : Nat)) = b.Frames[i] := by unfold stayF; simp
     rw [this]; exact hdr
end Go.Lu
