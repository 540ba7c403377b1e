/- Closed facts of the row of TunnelDries: what recurses, which variables are named. -/
import Derived.Test.YtbcabikaaadiiaaDoorCards
import Derived.JoinedCond
import Derived.Handed
import Derived.KernelRfl
namespace Go.Proofs.YtbcabikaaadiiaaDoor.lawTunnelDries
open Go
set_option maxRecDepth 100000
theorem f_recurses : (Rows.tunnelDriesRow.recurses == Tryd.prog.recurses 3) = true := by kernel_rfl
theorem f_named : (Rows.tunnelDriesRow.named == Tryd.prog.varsNamed 3) = true := by kernel_rfl
end Go.Proofs.YtbcabikaaadiiaaDoor.lawTunnelDries
