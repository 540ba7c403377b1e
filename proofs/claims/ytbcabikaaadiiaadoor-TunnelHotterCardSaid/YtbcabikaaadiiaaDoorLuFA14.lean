/- Closed facts of the row of TunnelHotter: what is in place, what is unfollowed. -/
import Derived.Test.YtbcabikaaadiiaaDoorCards
import Derived.JoinedCond
import Derived.Handed
import Derived.KernelRfl
namespace Go.Proofs.YtbcabikaaadiiaaDoor.lawTunnelHotter
open Go
set_option maxRecDepth 100000
theorem f_inPlace : (Rows.tunnelHotterRow.inPlace == Tryd.prog.inPlace 14) = true := by kernel_rfl
theorem f_unfollowed : (Rows.tunnelHotterRow.unfollowed == Tryd.prog.unfollowed 14) = true := by kernel_rfl
end Go.Proofs.YtbcabikaaadiiaaDoor.lawTunnelHotter
