/- The row's facts, in parts: what holds of the whole program. Conditions: none. -/
import Derived.Test.YtgnkjpbecgpjoaaGreatDoorRows
import Derived.ProofKit
import Derived.OpenShut
import Derived.ChangeOld
import Derived.SizedLaws
import Derived.Handed
import Derived.LaidLaws
import Derived.Lay
import Derived.LaidOnce
import Derived.LaidHandle
import Derived.SevenTiedAt
import Derived.MakeChecks
set_option linter.unusedVariables false
set_option linter.unusedSimpArgs false
namespace Go.Proofs.YtgnkjpbecgpjoaaGreatDoor.topClaims
open Go Go.ChangeShapes Go.WideShapes Go.ChangeAt Go.RowKit
theorem own : ownKnob Tryz.prog.godebug = none := by kernel_rfl
theorem laidOut : laidOutB Tryz.prog = true := by kernel_rfl
theorem no_init : Tryz.checked.prog.inits.idxOf? 3 = none := by kernel_rfl
theorem fact_name : Tryz.pinned.checked.prog.funcNamed Rows.topClaimsRow.func = some 3 := by kernel_rfl
end Go.Proofs.YtgnkjpbecgpjoaaGreatDoor.topClaims
