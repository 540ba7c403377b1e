/- Closed facts of the row of TunnelAsk: what recurses, which variables are named. -/
import Derived.Test.YtbcabikaaadiiaaDoorCards
import Derived.JoinedCond
import Derived.Handed
import Derived.KernelRfl
namespace Go.Proofs.YtbcabikaaadiiaaDoor.lawTunnelAsk
open Go
set_option maxRecDepth 100000
theorem f_recurses : (Rows.tunnelAskRow.recurses == Tryd.prog.recurses 15) = true := by kernel_rfl
theorem f_named : (Rows.tunnelAskRow.named == Tryd.prog.varsNamed 15) = true := by kernel_rfl
end Go.Proofs.YtbcabikaaadiiaaDoor.lawTunnelAsk
