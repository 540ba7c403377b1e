/- Closed facts of the row of TunnelAsk: what is in place, what is unfollowed. -/
import Derived.Test.YtbcabikaaadiiaaDoorCards
import Derived.JoinedCond
import Derived.Handed
import Derived.KernelRfl
namespace Go.Proofs.YtbcabikaaadiiaaDoor.lawTunnelAsk
open Go
set_option maxRecDepth 100000
theorem f_inPlace : (Rows.tunnelAskRow.inPlace == Tryd.prog.inPlace 15) = true := by kernel_rfl
theorem f_unfollowed : (Rows.tunnelAskRow.unfollowed == Tryd.prog.unfollowed 15) = true := by kernel_rfl
end Go.Proofs.YtbcabikaaadiiaaDoor.lawTunnelAsk
