/- The row's facts, in parts: what holds of these. Conditions: none. -/
import Derived.Test.YtgnkjpbecgpjoaaGreatDoorRl
set_option linter.unusedVariables false
set_option linter.unusedSimpArgs false
namespace Go.Proofs.YtgnkjpbecgpjoaaGreatDoor.hostFinds
open Go Go.ChangeShapes Go.WideShapes Go.ChangeAt Go.RowKit
theorem fact_inPlace : Tryz.prog.inPlace 4 = Rows.hostFindsRow.inPlace := by
  unfold Program.inPlace
  rw [fact_closure]
  kernel_rfl
theorem fact_unfollowed : Tryz.prog.unfollowed 4 = true := by
  unfold Program.unfollowed
  rw [fact_closure]
  kernel_rfl
theorem fact_recurses : Tryz.prog.recurses 4 = true := by
  unfold Program.recurses
  rw [fact_unfollowed]
  exact Bool.true_or _
theorem fact_varsNamed : Tryz.prog.varsNamed 4 = Rows.hostFindsRow.named := by
  unfold Program.varsNamed
  rw [fact_closure]
  kernel_rfl
end Go.Proofs.YtgnkjpbecgpjoaaGreatDoor.hostFinds
