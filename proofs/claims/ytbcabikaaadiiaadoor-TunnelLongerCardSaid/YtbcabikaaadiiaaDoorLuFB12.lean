/- Closed facts of the row of TunnelLonger: what recurses, which variables are named. -/
import Derived.Test.YtbcabikaaadiiaaDoorCards
import Derived.JoinedCond
import Derived.Handed
import Derived.KernelRfl
namespace Go.Proofs.YtbcabikaaadiiaaDoor.lawTunnelLonger
open Go
set_option maxRecDepth 100000
theorem f_recurses : (Rows.tunnelLongerRow.recurses == Tryd.prog.recurses 12) = true := by kernel_rfl
theorem f_named : (Rows.tunnelLongerRow.named == Tryd.prog.varsNamed 12) = true := by kernel_rfl
end Go.Proofs.YtbcabikaaadiiaaDoor.lawTunnelLonger
