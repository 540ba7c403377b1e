/- A closed fact of the row of TunnelAsks: where it goes. -/
import Derived.Test.YtbcabikaaadiiaaDoorCards
import Derived.SevenTiedAt
import Derived.KernelRfl
namespace Go.Proofs.YtbcabikaaadiiaaDoor.lawTunnelAsks
open Go
set_option maxRecDepth 100000
theorem f_goes : false = Rows.tunnelAsksRow.goesBy Tryd.pinned.checked.prog := by kernel_rfl
end Go.Proofs.YtbcabikaaadiiaaDoor.lawTunnelAsks
