/- Closed facts of the row of TunnelEnds: what recurses, which variables are named. -/
import Derived.Test.YtbcabikaaadiiaaDoorCards
import Derived.JoinedCond
import Derived.Handed
import Derived.KernelRfl
namespace Go.Proofs.YtbcabikaaadiiaaDoor.lawTunnelEnds
open Go
set_option maxRecDepth 100000
theorem f_recurses : (Rows.tunnelEndsRow.recurses == Tryd.prog.recurses 7) = true := by kernel_rfl
theorem f_named : (Rows.tunnelEndsRow.named == Tryd.prog.varsNamed 7) = true := by kernel_rfl
end Go.Proofs.YtbcabikaaadiiaaDoor.lawTunnelEnds
