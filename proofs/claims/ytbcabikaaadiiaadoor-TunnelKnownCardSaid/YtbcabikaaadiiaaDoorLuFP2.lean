/- A closed fact of the program: what it lifts. -/
import Derived.Test.YtbcabikaaadiiaaDoorCards
import Derived.JoinedCond
import Derived.Handed
import Derived.KernelRfl
namespace Go.Lu
open Go Go.Proofs Go.Proofs.YtbcabikaaadiiaaDoor
set_option maxRecDepth 100000
theorem p_lifts : (Rows.tunnelHotterRow.lifted == Tryd.prog.liftsFinal) = true := by kernel_rfl
end Go.Lu
