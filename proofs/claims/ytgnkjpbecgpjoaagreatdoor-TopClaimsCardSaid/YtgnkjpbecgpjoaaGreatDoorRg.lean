/- The card's facts, in parts. Conditions: none. -/
import Derived.Test.YtgnkjpbecgpjoaaGreatDoorRows
import Derived.Test.YtgnkjpbecgpjoaaGreatDoorCards
import Derived.ProofKit
import Derived.OpenShut
import Derived.ChangeOld
import Derived.SizedLaws
import Derived.Handed
import Derived.LaidLaws
import Derived.Lay
import Derived.LaidOnce
import Derived.LaidHandle
import Derived.SevenTiedAt
import Derived.MakeChecks
set_option linter.unusedVariables false
set_option linter.unusedSimpArgs false
namespace Go.Proofs.YtgnkjpbecgpjoaaGreatDoor.topClaims
open Go Go.ChangeShapes Go.WideShapes Go.ChangeAt Go.RowKit
theorem fact_looks : true = Tryz.pinned.checked.prog.looks [] := by kernel_rfl
theorem fact_wf : OpenClaim.wfByText (OpenSpec.ofChange Rows.topClaimsSpec) Rows.topClaimsRow = true := by kernel_rfl
theorem fact_main : Tryz.pinned.checked.prog.mainIs = some (Rows.topClaimsCard.stood.harness.1, Rows.topClaimsCard.stood.harness.2.toList) := by kernel_rfl
end Go.Proofs.YtgnkjpbecgpjoaaGreatDoor.topClaims
