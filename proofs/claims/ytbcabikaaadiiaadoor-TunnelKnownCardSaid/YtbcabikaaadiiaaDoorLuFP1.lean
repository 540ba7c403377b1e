/- A closed fact of the program: it may enter. -/
import Derived.Test.YtbcabikaaadiiaaDoorCards
import Derived.JoinedCond
import Derived.Handed
import Derived.KernelRfl
namespace Go.Lu
open Go Go.Proofs Go.Proofs.YtbcabikaaadiiaaDoor
set_option maxRecDepth 100000
theorem p_mayEnter : Tryd.prog.mayEnter = true := by kernel_rfl
end Go.Lu
