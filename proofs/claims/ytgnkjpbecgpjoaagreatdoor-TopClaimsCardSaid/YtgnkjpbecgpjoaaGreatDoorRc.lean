/- The row's facts, in parts: what the variables hold there. Conditions: none. -/
import Derived.Test.YtgnkjpbecgpjoaaGreatDoorRa
set_option linter.unusedVariables false
set_option linter.unusedSimpArgs false
namespace Go.Proofs.YtgnkjpbecgpjoaaGreatDoor.topClaims
open Go Go.ChangeShapes Go.WideShapes Go.ChangeAt Go.RowKit
theorem wit_fits (os : Os) : (base os).layFits Tryz.prog (Rows.topClaimsRow.laid.filter fun x => x.2.handleName?.isNone) [] = true := by kernel_rfl
theorem wit_ifaces (os : Os) : (base os).layIfaces Tryz.prog (Rows.topClaimsRow.laid.filter fun x => x.2.handleName?.isNone) ((base os).layVars Tryz.prog (Rows.topClaimsRow.laid.filter fun x => x.2.handleName?.isNone)) = true := by kernel_rfl
end Go.Proofs.YtgnkjpbecgpjoaaGreatDoor.topClaims
