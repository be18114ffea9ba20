/- The row's facts, in parts: the handle. Conditions: none. -/
import Derived.Test.YtgnkjpbecgpjoaaGreatDoorRc
set_option linter.unusedVariables false
set_option linter.unusedSimpArgs false
namespace Go.Proofs.YtgnkjpbecgpjoaaGreatDoor.topClaims
open Go Go.ChangeShapes Go.WideShapes Go.ChangeAt Go.RowKit
theorem wit_h3 (os : Os) : (Rows.topClaimsRow.laid.filter fun x => x.2.handleName?.isSome).all (handleAtB Tryz.prog ((wit os).forCall (fun _ _ => 0) ⟨#[], #[.slice none 0 0], []⟩).memory) = true := by kernel_rfl
theorem wit_met (os : Os) : laidMetH Tryz.prog Rows.topClaimsRow.laid ((wit os).forCall (fun _ _ => 0) ⟨#[], #[.slice none 0 0], []⟩).memory := laidMetH_of_parts (laidMet_base (wit_fits os) (wit_ifaces os) _) (wit_h3 os)
end Go.Proofs.YtgnkjpbecgpjoaaGreatDoor.topClaims
