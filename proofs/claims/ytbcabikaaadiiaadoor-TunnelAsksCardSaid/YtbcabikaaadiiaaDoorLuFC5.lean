/- All closed facts of the row of TunnelAsks. -/
import Derived.Test.YtbcabikaaadiiaaDoorLuFA5
import Derived.Test.YtbcabikaaadiiaaDoorLuFB5
import Derived.Test.YtbcabikaaadiiaaDoorLuFP1
import Derived.Test.YtbcabikaaadiiaaDoorLuFP2
import Derived.Test.YtbcabikaaadiiaaDoorLuFP3
import Derived.Test.YtbcabikaaadiiaaDoorCards
import Derived.JoinedCond
import Derived.Handed
import Derived.KernelRfl
namespace Go.Proofs.YtbcabikaaadiiaaDoor.lawTunnelAsks
open Go
set_option maxRecDepth 100000
theorem and2 {a b : Bool} (h : a = true) (k : b = true) : (a && b) = true := by rw [h, k]; rfl
theorem facts : joinedFacts Tryd.prog 5 Tryd.f5 (OpenSpec.ofChange Rows.tunnelAsksSpec).bare Rows.tunnelAsksRow = true := (and2 (and2 (and2 (and2 (and2 (and2 (and2 (and2 (and2 (and2 (and2 (and2 (and2 (and2 (and2 (and2 (and2 (and2 (and2 (and2 (and2 (and2 (and2 (and2 (and2 (and2 (and2 (and2 (and2 (and2 (and2 (by kernel_rfl) Go.Lu.p_laidOut) Go.Lu.p_mapsRowed) (by kernel_rfl)) (by kernel_rfl)) (by kernel_rfl)) (by kernel_rfl)) (by kernel_rfl)) (by kernel_rfl)) f_inPlace) f_unfollowed) f_recurses) f_named) (by kernel_rfl)) (by kernel_rfl)) (by kernel_rfl)) (by kernel_rfl)) (by kernel_rfl)) (by kernel_rfl)) (by kernel_rfl)) (by kernel_rfl)) (by kernel_rfl)) (by kernel_rfl)) (by kernel_rfl)) Go.Lu.p_stopsHeard) Go.Lu.p_mayEnter) Go.Lu.p_lifts) (by kernel_rfl)) (by kernel_rfl)) (by kernel_rfl)) (by kernel_rfl)) (by kernel_rfl))
end Go.Proofs.YtbcabikaaadiiaaDoor.lawTunnelAsks
