/- Closed facts of the row of TunnelKnown: what is in place, what is unfollowed. -/
import Derived.Test.YtbcabikaaadiiaaDoorCards
import Derived.JoinedCond
import Derived.Handed
import Derived.KernelRfl
namespace Go.Proofs.YtbcabikaaadiiaaDoor.lawTunnelKnown
open Go
set_option maxRecDepth 100000
theorem f_inPlace : (Rows.tunnelKnownRow.inPlace == Tryd.prog.inPlace 16) = true := by kernel_rfl
theorem f_unfollowed : (Rows.tunnelKnownRow.unfollowed == Tryd.prog.unfollowed 16) = true := by kernel_rfl
end Go.Proofs.YtbcabikaaadiiaaDoor.lawTunnelKnown
