/- Closed facts of the program: it has no looks of its own; its harness. -/
import Derived.Test.YtbcabikaaadiiaaDoorCards
import Derived.SevenTiedAt
import Derived.KernelRfl
namespace Go.Lu
open Go Go.Proofs Go.Proofs.YtbcabikaaadiiaaDoor
set_option maxRecDepth 100000
theorem p_looks : false = Tryd.pinned.checked.prog.looks [] := by kernel_rfl
theorem p_main : Tryd.pinned.checked.prog.mainIs = some (Rows.tunnelHotterCard.stood.harness.1, Rows.tunnelHotterCard.stood.harness.2.toList) := by kernel_rfl
end Go.Lu
