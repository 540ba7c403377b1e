/- A closed fact of the row of TunnelKnown: where it goes. -/
import Derived.Test.YtbcabikaaadiiaaDoorCards
import Derived.SevenTiedAt
import Derived.KernelRfl
namespace Go.Proofs.YtbcabikaaadiiaaDoor.lawTunnelKnown
open Go
set_option maxRecDepth 100000
theorem f_goes : false = Rows.tunnelKnownRow.goesBy Tryd.pinned.checked.prog := by kernel_rfl
end Go.Proofs.YtbcabikaaadiiaaDoor.lawTunnelKnown
