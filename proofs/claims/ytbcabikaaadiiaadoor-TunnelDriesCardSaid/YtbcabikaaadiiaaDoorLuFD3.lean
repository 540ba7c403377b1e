/- A closed fact of the row of TunnelDries: where it goes. -/
import Derived.Test.YtbcabikaaadiiaaDoorCards
import Derived.SevenTiedAt
import Derived.KernelRfl
namespace Go.Proofs.YtbcabikaaadiiaaDoor.lawTunnelDries
open Go
set_option maxRecDepth 100000
theorem f_goes : false = Rows.tunnelDriesRow.goesBy Tryd.pinned.checked.prog := by kernel_rfl
end Go.Proofs.YtbcabikaaadiiaaDoor.lawTunnelDries
