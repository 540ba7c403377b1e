/- A closed fact of the row of TunnelBest: where it goes. -/
import Derived.Test.YtbcabikaaadiiaaDoorCards
import Derived.SevenTiedAt
import Derived.KernelRfl
namespace Go.Proofs.YtbcabikaaadiiaaDoor.lawTunnelBest
open Go
set_option maxRecDepth 100000
theorem f_goes : false = Rows.tunnelBestRow.goesBy Tryd.pinned.checked.prog := by kernel_rfl
end Go.Proofs.YtbcabikaaadiiaaDoor.lawTunnelBest
