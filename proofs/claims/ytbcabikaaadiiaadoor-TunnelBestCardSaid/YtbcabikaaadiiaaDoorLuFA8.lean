/- Closed facts of the row of TunnelBest: what is in place, what is unfollowed. -/
import Derived.Test.YtbcabikaaadiiaaDoorCards
import Derived.JoinedCond
import Derived.Handed
import Derived.KernelRfl
namespace Go.Proofs.YtbcabikaaadiiaaDoor.lawTunnelBest
open Go
set_option maxRecDepth 100000
theorem f_inPlace : (Rows.tunnelBestRow.inPlace == Tryd.prog.inPlace 8) = true := by kernel_rfl
theorem f_unfollowed : (Rows.tunnelBestRow.unfollowed == Tryd.prog.unfollowed 8) = true := by kernel_rfl
end Go.Proofs.YtbcabikaaadiiaaDoor.lawTunnelBest
