/- Closed facts of the row of TunnelHotter: what recurses, which variables are named. -/
import Derived.Test.YtbcabikaaadiiaaDoorCards
import Derived.JoinedCond
import Derived.Handed
import Derived.KernelRfl
namespace Go.Proofs.YtbcabikaaadiiaaDoor.lawTunnelHotter
open Go
set_option maxRecDepth 100000
theorem f_recurses : (Rows.tunnelHotterRow.recurses == Tryd.prog.recurses 14) = true := by kernel_rfl
theorem f_named : (Rows.tunnelHotterRow.named == Tryd.prog.varsNamed 14) = true := by kernel_rfl
end Go.Proofs.YtbcabikaaadiiaaDoor.lawTunnelHotter
