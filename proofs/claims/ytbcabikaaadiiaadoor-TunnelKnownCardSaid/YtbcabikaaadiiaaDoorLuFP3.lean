/- Closed facts of the program: its types are laid out, its maps have rows, its stops are heard. -/
import Derived.Test.YtbcabikaaadiiaaDoorCards
import Derived.JoinedCond
import Derived.Handed
import Derived.KernelRfl
namespace Go.Lu
open Go Go.Proofs Go.Proofs.YtbcabikaaadiiaaDoor
set_option maxRecDepth 100000
theorem p_laidOut : laidOutB Tryd.prog = true := by kernel_rfl
theorem p_mapsRowed : mapsRowed Tryd.prog = true := by kernel_rfl
theorem p_stopsHeard : Tryd.prog.stopsHeard = true := by kernel_rfl
end Go.Lu
