/- The row's facts, in parts: what holds of these. Conditions: none. -/
import Derived.Test.YtgnkjpbecgpjoaaGreatDoorRl
set_option linter.unusedVariables false
set_option linter.unusedSimpArgs false
namespace Go.Proofs.YtgnkjpbecgpjoaaGreatDoor.topClaims
open Go Go.ChangeShapes Go.WideShapes Go.ChangeAt Go.RowKit
theorem fact_inPlace : Tryz.prog.inPlace 3 = Rows.topClaimsRow.inPlace := by
  unfold Program.inPlace
  rw [fact_closure]
  kernel_rfl
theorem fact_unfollowed : Tryz.prog.unfollowed 3 = true := by
  unfold Program.unfollowed
  rw [fact_closure]
  kernel_rfl
theorem fact_recurses : Tryz.prog.recurses 3 = true := by
  unfold Program.recurses
  rw [fact_unfollowed]
  exact Bool.true_or _
theorem fact_varsNamed : Tryz.prog.varsNamed 3 = Rows.topClaimsRow.named := by
  unfold Program.varsNamed
  rw [fact_closure]
  kernel_rfl
end Go.Proofs.YtgnkjpbecgpjoaaGreatDoor.topClaims
