/-
  Plain laws: a number that is drawn.
-/
import Derived.Test.YtbcabikaaadiiaaDoorLuPl8
namespace Go.Lu
open Go
set_option linter.unusedVariables false
set_option linter.unusedSimpArgs false

theorem drawn_eq (k : Nat) {s : Span} (h0 : 0 ≤ s.Low) (h1 : s.Low ≤ s.High) (h2 : s.High ≤ 1000) (n : Int) : ref00_Drawn k s n = some (s.Low + spinV n (s.High - s.Low + 1)) := by
  unfold ref00_Drawn
  have := spinV_in (n := n) (m := s.High - s.Low + 1) (by omega)
  rw [wr (n := s.High - s.Low) (by omega) (by omega), wr (by omega) (by omega), spin_eq k n (by omega), bind_s, wr (by omega) (by omega)]
end Go.Lu
