/- Closed facts of the row of TunnelBests: what is in place, what is unfollowed. -/
import Derived.Test.YtbcabikaaadiiaaDoorCards
import Derived.JoinedCond
import Derived.Handed
import Derived.KernelRfl
namespace Go.Proofs.YtbcabikaaadiiaaDoor.lawTunnelBests
open Go
set_option maxRecDepth 100000
theorem f_inPlace : (Rows.tunnelBestsRow.inPlace == Tryd.prog.inPlace 4) = true := by kernel_rfl
theorem f_unfollowed : (Rows.tunnelBestsRow.unfollowed == Tryd.prog.unfollowed 4) = true := by kernel_rfl
end Go.Proofs.YtbcabikaaadiiaaDoor.lawTunnelBests
