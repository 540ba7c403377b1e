/- What the world of the row of TunnelKnown is: its variables, its heap, its arguments. -/
import Derived.Test.YtbcabikaaadiiaaDoorLuXA16
namespace Go.Proofs.YtbcabikaaadiiaaDoor.lawTunnelKnown
open Go Go.ChangeShapes Go.WideShapes Go.ChangeAt Go.WideElems Go.RowKit
set_option maxRecDepth 100000
theorem w_vars (os : Os) : ((laidWorld os).forCall (fun _ _ => 0) ⟨#[], #[], []⟩).variablesB Tryd.checked.prog = true := by kernel_rfl
theorem w_heap (os : Os) : (((laidWorld os).forCall (fun _ _ => 0) ⟨#[], #[], []⟩).heap.toList.drop Tryd.checked.prog.globals.size).take ((begin Tryd.checked.prog (fun _ _ => 0) default).world.heap.size - Tryd.checked.prog.globals.size) =
    (begin Tryd.checked.prog (fun _ _ => 0) default).world.heap.toList.drop Tryd.checked.prog.globals.size := by kernel_rfl
theorem w_args (os : Os) : Input.okWideB Tryd.checked.prog ((laidWorld os).forCall (fun _ _ => 0) ⟨#[], #[], []⟩) 16 ⟨#[], #[], []⟩ = true := by kernel_rfl
end Go.Proofs.YtbcabikaaadiiaaDoor.lawTunnelKnown
