/- A closed fact of the row of TunnelLess: where it goes. -/
import Derived.Test.YtbcabikaaadiiaaDoorCards
import Derived.SevenTiedAt
import Derived.KernelRfl
namespace Go.Proofs.YtbcabikaaadiiaaDoor.lawTunnelLess
open Go
set_option maxRecDepth 100000
theorem f_goes : false = Rows.tunnelLessRow.goesBy Tryd.pinned.checked.prog := by kernel_rfl
end Go.Proofs.YtbcabikaaadiiaaDoor.lawTunnelLess
