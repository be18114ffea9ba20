/- The card's facts, in parts. Conditions: none. -/
import Derived.Test.YtgnkjpbecgpjoaaGreatDoorRm
import Derived.Test.YtgnkjpbecgpjoaaGreatDoorRd
set_option linter.unusedVariables false
set_option linter.unusedSimpArgs false
namespace Go.Proofs.YtgnkjpbecgpjoaaGreatDoor.topClaims
open Go Go.ChangeShapes Go.WideShapes Go.ChangeAt Go.RowKit
theorem goes_no : Tryz.prog.goes 3 = false := by
  unfold Program.goes
  rw [fact_closure, fact_unfollowed]
  kernel_rfl
theorem goesBy_of {c : OpenClaim} {P : Program} {f : FuncId} (hn : P.funcNamed c.func = some f) (hs : c.start = .entering) (hg : P.goes f = false) : false = c.goesBy P := by
  unfold OpenClaim.goesBy Program.goesAt Program.goesFrom
  rw [hn, hs]
  simp [hg]
theorem fact_goes : false = Rows.topClaimsRow.goesBy Tryz.pinned.checked.prog := goesBy_of fact_name rfl goes_no
end Go.Proofs.YtgnkjpbecgpjoaaGreatDoor.topClaims
