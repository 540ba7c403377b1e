/- Closed facts of the row of TunnelClash: what is in place, what is unfollowed. -/
import Derived.Test.YtbcabikaaadiiaaDoorCards
import Derived.JoinedCond
import Derived.Handed
import Derived.KernelRfl
namespace Go.Proofs.YtbcabikaaadiiaaDoor.lawTunnelClash
open Go
set_option maxRecDepth 100000
theorem f_inPlace : (Rows.tunnelClashRow.inPlace == Tryd.prog.inPlace 9) = true := by kernel_rfl
theorem f_unfollowed : (Rows.tunnelClashRow.unfollowed == Tryd.prog.unfollowed 9) = true := by kernel_rfl
end Go.Proofs.YtbcabikaaadiiaaDoor.lawTunnelClash
