/- Closed facts of the row of TunnelDries: what is in place, what is unfollowed. -/
import Derived.Test.YtbcabikaaadiiaaDoorCards
import Derived.JoinedCond
import Derived.Handed
import Derived.KernelRfl
namespace Go.Proofs.YtbcabikaaadiiaaDoor.lawTunnelDries
open Go
set_option maxRecDepth 100000
theorem f_inPlace : (Rows.tunnelDriesRow.inPlace == Tryd.prog.inPlace 3) = true := by kernel_rfl
theorem f_unfollowed : (Rows.tunnelDriesRow.unfollowed == Tryd.prog.unfollowed 3) = true := by kernel_rfl
end Go.Proofs.YtbcabikaaadiiaaDoor.lawTunnelDries
