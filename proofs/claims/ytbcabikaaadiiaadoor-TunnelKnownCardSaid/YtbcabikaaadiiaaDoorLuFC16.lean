/- All closed facts of the row of TunnelKnown. -/
import Derived.Test.YtbcabikaaadiiaaDoorLuFA16
import Derived.Test.YtbcabikaaadiiaaDoorLuFB16
import Derived.Test.YtbcabikaaadiiaaDoorLuFP1
import Derived.Test.YtbcabikaaadiiaaDoorLuFP2
import Derived.Test.YtbcabikaaadiiaaDoorLuFP3
import Derived.Test.YtbcabikaaadiiaaDoorCards
import Derived.JoinedCond
import Derived.Handed
import Derived.KernelRfl
namespace Go.Proofs.YtbcabikaaadiiaaDoor.lawTunnelKnown
open Go
set_option maxRecDepth 100000
theorem and2 {a b : Bool} (h : a = true) (k : b = true) : (a && b) = true := by rw [h, k]; rfl
theorem facts : joinedFacts Tryd.prog 16 Tryd.f16 (OpenSpec.ofChange Rows.tunnelKnownSpec).bare Rows.tunnelKnownRow = true := (and2 (and2 (and2 (and2 (and2 (and2 (and2 (and2 (and2 (and2 (and2 (and2 (and2 (and2 (and2 (and2 (and2 (and2 (and2 (and2 (and2 (and2 (and2 (and2 (and2 (and2 (and2 (and2 (and2 (and2 (and2 (by kernel_rfl) Go.Lu.p_laidOut) Go.Lu.p_mapsRowed) (by kernel_rfl)) (by kernel_rfl)) (by kernel_rfl)) (by kernel_rfl)) (by kernel_rfl)) (by kernel_rfl)) f_inPlace) f_unfollowed) f_recurses) f_named) (by kernel_rfl)) (by kernel_rfl)) (by kernel_rfl)) (by kernel_rfl)) (by kernel_rfl)) (by kernel_rfl)) (by kernel_rfl)) (by kernel_rfl)) (by kernel_rfl)) (by kernel_rfl)) (by kernel_rfl)) Go.Lu.p_stopsHeard) Go.Lu.p_mayEnter) Go.Lu.p_lifts) (by kernel_rfl)) (by kernel_rfl)) (by kernel_rfl)) (by kernel_rfl)) (by kernel_rfl))
end Go.Proofs.YtbcabikaaadiiaaDoor.lawTunnelKnown
