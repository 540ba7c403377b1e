/- Closed facts of the row of TunnelEnds: what is in place, what is unfollowed. -/
import Derived.Test.YtbcabikaaadiiaaDoorCards
import Derived.JoinedCond
import Derived.Handed
import Derived.KernelRfl
namespace Go.Proofs.YtbcabikaaadiiaaDoor.lawTunnelEnds
open Go
set_option maxRecDepth 100000
theorem f_inPlace : (Rows.tunnelEndsRow.inPlace == Tryd.prog.inPlace 7) = true := by kernel_rfl
theorem f_unfollowed : (Rows.tunnelEndsRow.unfollowed == Tryd.prog.unfollowed 7) = true := by kernel_rfl
end Go.Proofs.YtbcabikaaadiiaaDoor.lawTunnelEnds
