/- Closed facts of the row of TunnelLess: what recurses, which variables are named. -/
import Derived.Test.YtbcabikaaadiiaaDoorCards
import Derived.JoinedCond
import Derived.Handed
import Derived.KernelRfl
namespace Go.Proofs.YtbcabikaaadiiaaDoor.lawTunnelLess
open Go
set_option maxRecDepth 100000
theorem f_recurses : (Rows.tunnelLessRow.recurses == Tryd.prog.recurses 11) = true := by kernel_rfl
theorem f_named : (Rows.tunnelLessRow.named == Tryd.prog.varsNamed 11) = true := by kernel_rfl
end Go.Proofs.YtbcabikaaadiiaaDoor.lawTunnelLess
