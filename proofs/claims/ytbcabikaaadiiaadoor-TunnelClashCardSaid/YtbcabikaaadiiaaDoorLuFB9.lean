/- Closed facts of the row of TunnelClash: what recurses, which variables are named. -/
import Derived.Test.YtbcabikaaadiiaaDoorCards
import Derived.JoinedCond
import Derived.Handed
import Derived.KernelRfl
namespace Go.Proofs.YtbcabikaaadiiaaDoor.lawTunnelClash
open Go
set_option maxRecDepth 100000
theorem f_recurses : (Rows.tunnelClashRow.recurses == Tryd.prog.recurses 9) = true := by kernel_rfl
theorem f_named : (Rows.tunnelClashRow.named == Tryd.prog.varsNamed 9) = true := by kernel_rfl
end Go.Proofs.YtbcabikaaadiiaaDoor.lawTunnelClash
