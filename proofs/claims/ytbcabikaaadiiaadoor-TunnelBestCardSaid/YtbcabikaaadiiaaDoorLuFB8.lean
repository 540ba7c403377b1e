/- Closed facts of the row of TunnelBest: what recurses, which variables are named. -/
import Derived.Test.YtbcabikaaadiiaaDoorCards
import Derived.JoinedCond
import Derived.Handed
import Derived.KernelRfl
namespace Go.Proofs.YtbcabikaaadiiaaDoor.lawTunnelBest
open Go
set_option maxRecDepth 100000
theorem f_recurses : (Rows.tunnelBestRow.recurses == Tryd.prog.recurses 8) = true := by kernel_rfl
theorem f_named : (Rows.tunnelBestRow.named == Tryd.prog.varsNamed 8) = true := by kernel_rfl
end Go.Proofs.YtbcabikaaadiiaaDoor.lawTunnelBest
