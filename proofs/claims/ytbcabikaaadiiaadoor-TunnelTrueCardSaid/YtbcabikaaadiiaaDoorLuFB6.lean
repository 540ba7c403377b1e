/- Closed facts of the row of TunnelTrue: what recurses, which variables are named. -/
import Derived.Test.YtbcabikaaadiiaaDoorCards
import Derived.JoinedCond
import Derived.Handed
import Derived.KernelRfl
namespace Go.Proofs.YtbcabikaaadiiaaDoor.lawTunnelTrue
open Go
set_option maxRecDepth 100000
theorem f_recurses : (Rows.tunnelTrueRow.recurses == Tryd.prog.recurses 6) = true := by kernel_rfl
theorem f_named : (Rows.tunnelTrueRow.named == Tryd.prog.varsNamed 6) = true := by kernel_rfl
end Go.Proofs.YtbcabikaaadiiaaDoor.lawTunnelTrue
