/- The row's facts, in parts: what holds of the whole program. Conditions: none. The row's facts, in parts: what holds of the whole program. Conditions: none. The card's facts, in parts. Conditions: none. -/
import Derived.Test.YtgnkjpbecgpjoaaGreatDoorRows
import Derived.ProofKit
import Derived.OpenShut
import Derived.ChangeOld
import Derived.SizedLaws
import Derived.Handed
import Derived.LaidLaws
import Derived.Lay
import Derived.LaidOnce
import Derived.LaidHandle
import Derived.SevenTiedAt
import Derived.MakeChecks
import Derived.Test.YtgnkjpbecgpjoaaGreatDoorCards
set_option linter.unusedVariables false
set_option linter.unusedSimpArgs false
namespace Go.Proofs.YtgnkjpbecgpjoaaGreatDoor.hostFinds
open Go Go.ChangeShapes Go.WideShapes Go.ChangeAt Go.RowKit
theorem fact_mapsRowed : mapsRowed Tryz.prog = true := by kernel_rfl
theorem fact_stops : (Tryz.prog.stops == []) = true := by kernel_rfl
theorem fact_stopKnobs : (Tryz.prog.stopKnobs == []) = true := by kernel_rfl
theorem fact_plainKeys : (Rows.hostFindsRow.plainKeys == Tryz.prog.plainKeys) = true := by kernel_rfl
theorem fact_heard : Tryz.prog.stopsHeard = true := by kernel_rfl
end Go.Proofs.YtgnkjpbecgpjoaaGreatDoor.hostFinds
set_option linter.unusedVariables false
set_option linter.unusedSimpArgs false
namespace Go.Proofs.YtgnkjpbecgpjoaaGreatDoor.hostFinds
open Go Go.ChangeShapes Go.WideShapes Go.ChangeAt Go.RowKit
theorem fact_lifts : (Rows.hostFindsRow.lifted == Tryz.prog.liftsFinal) = true := by kernel_rfl
theorem fact_make : (Tryz.prog.make == some Rows.hostFindsRow.make) = true := by kernel_rfl
end Go.Proofs.YtgnkjpbecgpjoaaGreatDoor.hostFinds
set_option linter.unusedVariables false
set_option linter.unusedSimpArgs false
namespace Go.Proofs.YtgnkjpbecgpjoaaGreatDoor.hostFinds
open Go Go.ChangeShapes Go.WideShapes Go.ChangeAt Go.RowKit
theorem fact_looks : true = Tryz.pinned.checked.prog.looks [] := by kernel_rfl
theorem fact_wf : OpenClaim.wfByText (OpenSpec.ofChange Rows.hostFindsSpec) Rows.hostFindsRow = true := by kernel_rfl
theorem fact_main : Tryz.pinned.checked.prog.mainIs = some (Rows.hostFindsCard.stood.harness.1, Rows.hostFindsCard.stood.harness.2.toList) := by kernel_rfl
end Go.Proofs.YtgnkjpbecgpjoaaGreatDoor.hostFinds
