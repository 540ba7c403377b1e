/- Closed facts of the row of TunnelAsks: what recurses, which variables are named. -/
import Derived.Test.YtbcabikaaadiiaaDoorCards
import Derived.JoinedCond
import Derived.Handed
import Derived.KernelRfl
namespace Go.Proofs.YtbcabikaaadiiaaDoor.lawTunnelAsks
open Go
set_option maxRecDepth 100000
theorem f_recurses : (Rows.tunnelAsksRow.recurses == Tryd.prog.recurses 5) = true := by kernel_rfl
theorem f_named : (Rows.tunnelAsksRow.named == Tryd.prog.varsNamed 5) = true := by kernel_rfl
end Go.Proofs.YtbcabikaaadiiaaDoor.lawTunnelAsks
