/- Closed facts of the row of TunnelLonger: what is in place, what is unfollowed. -/
import Derived.Test.YtbcabikaaadiiaaDoorCards
import Derived.JoinedCond
import Derived.Handed
import Derived.KernelRfl
namespace Go.Proofs.YtbcabikaaadiiaaDoor.lawTunnelLonger
open Go
set_option maxRecDepth 100000
theorem f_inPlace : (Rows.tunnelLongerRow.inPlace == Tryd.prog.inPlace 12) = true := by kernel_rfl
theorem f_unfollowed : (Rows.tunnelLongerRow.unfollowed == Tryd.prog.unfollowed 12) = true := by kernel_rfl
end Go.Proofs.YtbcabikaaadiiaaDoor.lawTunnelLonger
