/- Closed facts of the row of TunnelAsks: what is in place, what is unfollowed. -/
import Derived.Test.YtbcabikaaadiiaaDoorCards
import Derived.JoinedCond
import Derived.Handed
import Derived.KernelRfl
namespace Go.Proofs.YtbcabikaaadiiaaDoor.lawTunnelAsks
open Go
set_option maxRecDepth 100000
theorem f_inPlace : (Rows.tunnelAsksRow.inPlace == Tryd.prog.inPlace 5) = true := by kernel_rfl
theorem f_unfollowed : (Rows.tunnelAsksRow.unfollowed == Tryd.prog.unfollowed 5) = true := by kernel_rfl
end Go.Proofs.YtbcabikaaadiiaaDoor.lawTunnelAsks
