/- Closed facts of the row of TunnelBests: what recurses, which variables are named. -/
import Derived.Test.YtbcabikaaadiiaaDoorCards
import Derived.JoinedCond
import Derived.Handed
import Derived.KernelRfl
namespace Go.Proofs.YtbcabikaaadiiaaDoor.lawTunnelBests
open Go
set_option maxRecDepth 100000
theorem f_recurses : (Rows.tunnelBestsRow.recurses == Tryd.prog.recurses 4) = true := by kernel_rfl
theorem f_named : (Rows.tunnelBestsRow.named == Tryd.prog.varsNamed 4) = true := by kernel_rfl
end Go.Proofs.YtbcabikaaadiiaaDoor.lawTunnelBests
