/- Closed facts of the row of TunnelKnown: what recurses, which variables are named. -/
import Derived.Test.YtbcabikaaadiiaaDoorCards
import Derived.JoinedCond
import Derived.Handed
import Derived.KernelRfl
namespace Go.Proofs.YtbcabikaaadiiaaDoor.lawTunnelKnown
open Go
set_option maxRecDepth 100000
theorem f_recurses : (Rows.tunnelKnownRow.recurses == Tryd.prog.recurses 16) = true := by kernel_rfl
theorem f_named : (Rows.tunnelKnownRow.named == Tryd.prog.varsNamed 16) = true := by kernel_rfl
end Go.Proofs.YtbcabikaaadiiaaDoor.lawTunnelKnown
