/- Closed facts of the row of TunnelTrue: what is in place, what is unfollowed. -/
import Derived.Test.YtbcabikaaadiiaaDoorCards
import Derived.JoinedCond
import Derived.Handed
import Derived.KernelRfl
namespace Go.Proofs.YtbcabikaaadiiaaDoor.lawTunnelTrue
open Go
set_option maxRecDepth 100000
theorem f_inPlace : (Rows.tunnelTrueRow.inPlace == Tryd.prog.inPlace 6) = true := by kernel_rfl
theorem f_unfollowed : (Rows.tunnelTrueRow.unfollowed == Tryd.prog.unfollowed 6) = true := by kernel_rfl
end Go.Proofs.YtbcabikaaadiiaaDoor.lawTunnelTrue
