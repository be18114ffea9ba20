/- The row's facts, in parts: the row's own. Conditions: none. The card's facts, in parts. Conditions: none. -/
import Derived.Test.YtgnkjpbecgpjoaaGreatDoorRd
import Derived.Test.YtgnkjpbecgpjoaaGreatDoorRk
import Derived.Test.YtgnkjpbecgpjoaaGreatDoorRg
import Derived.Test.YtgnkjpbecgpjoaaGreatDoorRm
set_option linter.unusedVariables false
set_option linter.unusedSimpArgs false
namespace Go.Proofs.YtgnkjpbecgpjoaaGreatDoor.hostFinds
open Go Go.ChangeShapes Go.WideShapes Go.ChangeAt Go.RowKit
theorem closed : joinedFacts Tryz.prog 4 Tryz.f4 Rows.hostFindsSpec Rows.hostFindsRow = true := by
  unfold joinedFacts
  rw [laidOut, fact_mapsRowed, fact_stops, fact_stopKnobs, fact_inPlace, fact_unfollowed, fact_recurses, fact_varsNamed, fact_plainKeys, fact_heard, fact_mayEnter, fact_lifts, fact_make]
  kernel_rfl
theorem fact_inst : decide (Func.isInstance Tryz.pinned.checked.prog Tryz.f4 Rows.hostFindsRow.origin Rows.hostFindsRow.targs) = true := by kernel_rfl
theorem fact_wrap : Func.isWrapper Tryz.pinned.checked.prog Tryz.f4 Rows.hostFindsRow.wrapper Rows.hostFindsRow.mainSum := by unfold Func.isWrapper; first | (rw [if_pos (by decide +kernel)]; kernel_rfl) | (rw [if_neg (by decide +kernel)]; exact ⟨rfl, rfl⟩)
end Go.Proofs.YtgnkjpbecgpjoaaGreatDoor.hostFinds
set_option linter.unusedVariables false
set_option linter.unusedSimpArgs false
namespace Go.Proofs.YtgnkjpbecgpjoaaGreatDoor.hostFinds
open Go Go.ChangeShapes Go.WideShapes Go.ChangeAt Go.RowKit
theorem goes_no : Tryz.prog.goes 4 = false := by
  unfold Program.goes
  rw [fact_closure, fact_unfollowed]
  kernel_rfl
theorem goesBy_of {c : OpenClaim} {P : Program} {f : FuncId} (hn : P.funcNamed c.func = some f) (hs : c.start = .entering) (hg : P.goes f = false) : false = c.goesBy P := by
  unfold OpenClaim.goesBy Program.goesAt Program.goesFrom
  rw [hn, hs]
  simp [hg]
theorem fact_goes : false = Rows.hostFindsRow.goesBy Tryz.pinned.checked.prog := goesBy_of fact_name rfl goes_no
end Go.Proofs.YtgnkjpbecgpjoaaGreatDoor.hostFinds
