/- Closed facts of the row of TunnelLess: what is in place, what is unfollowed. -/
import Derived.Test.YtbcabikaaadiiaaDoorCards
import Derived.JoinedCond
import Derived.Handed
import Derived.KernelRfl
namespace Go.Proofs.YtbcabikaaadiiaaDoor.lawTunnelLess
open Go
set_option maxRecDepth 100000
theorem f_inPlace : (Rows.tunnelLessRow.inPlace == Tryd.prog.inPlace 11) = true := by kernel_rfl
theorem f_unfollowed : (Rows.tunnelLessRow.unfollowed == Tryd.prog.unfollowed 11) = true := by kernel_rfl
end Go.Proofs.YtbcabikaaadiiaaDoor.lawTunnelLess
