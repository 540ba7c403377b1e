/-
  What is said of single books: the closed law, reckoned out.
-/
import Derived.Test.YtbcabikaaadiiaaDoorLuG16x1
namespace Go.Lu
open Go
set_option linter.unusedVariables false
set_option maxRecDepth 100000
theorem known_ok (n : Nat) : law03_TunnelKnown (n + 60) = some true := by kernel_rfl
theorem known_true : ∃ k, law03_TunnelKnown k = some true := ⟨60, known_ok 0⟩
end Go.Lu
