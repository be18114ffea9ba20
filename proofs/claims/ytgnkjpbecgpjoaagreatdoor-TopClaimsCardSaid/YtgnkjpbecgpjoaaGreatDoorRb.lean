/- The row's facts, in parts: its shape. Conditions: none. -/
import Derived.Test.YtgnkjpbecgpjoaaGreatDoorRa
set_option linter.unusedVariables false
set_option linter.unusedSimpArgs false
namespace Go.Proofs.YtgnkjpbecgpjoaaGreatDoor.topClaims
open Go Go.ChangeShapes Go.WideShapes Go.ChangeAt Go.RowKit
theorem wit_zip (os : Os) : World.variablesZipB Tryz.checked.prog ((wit os).forCall (fun _ _ => 0) ⟨#[], #[.slice none 0 0], []⟩) = true := by kernel_rfl
theorem wit_rest (os : Os) : List.take ((begin Tryz.checked.prog (fun _ _ => 0) default).world.heap.size - Tryz.checked.prog.globals.size) (List.drop Tryz.checked.prog.globals.size ((wit os).forCall (fun _ _ => 0) ⟨#[], #[.slice none 0 0], []⟩).heap.toList) =
    List.drop Tryz.checked.prog.globals.size (begin Tryz.checked.prog (fun _ _ => 0) default).world.heap.toList := by kernel_rfl
end Go.Proofs.YtgnkjpbecgpjoaaGreatDoor.topClaims
