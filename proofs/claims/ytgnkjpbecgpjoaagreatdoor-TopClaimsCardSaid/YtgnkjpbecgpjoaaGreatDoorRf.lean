/- The row's facts, in parts: the row's own. Conditions: none. -/
import Derived.Test.YtgnkjpbecgpjoaaGreatDoorRd
import Derived.Test.YtgnkjpbecgpjoaaGreatDoorRk
import Derived.Test.YtgnkjpbecgpjoaaGreatDoorRe
import Derived.Test.YtgnkjpbecgpjoaaGreatDoorRm
import Derived.Test.YtgnkjpbecgpjoaaGreatDoorRn
set_option linter.unusedVariables false
set_option linter.unusedSimpArgs false
namespace Go.Proofs.YtgnkjpbecgpjoaaGreatDoor.topClaims
open Go Go.ChangeShapes Go.WideShapes Go.ChangeAt Go.RowKit
theorem closed : joinedFacts Tryz.prog 3 Tryz.f3 Rows.topClaimsSpec Rows.topClaimsRow = true := by
  unfold joinedFacts
  rw [laidOut, fact_mapsRowed, fact_stops, fact_stopKnobs, fact_inPlace, fact_unfollowed, fact_recurses, fact_varsNamed, fact_plainKeys, fact_heard, fact_mayEnter, fact_lifts, fact_make]
  kernel_rfl
theorem fact_inst : decide (Func.isInstance Tryz.pinned.checked.prog Tryz.f3 Rows.topClaimsRow.origin Rows.topClaimsRow.targs) = true := by kernel_rfl
theorem fact_wrap : Func.isWrapper Tryz.pinned.checked.prog Tryz.f3 Rows.topClaimsRow.wrapper Rows.topClaimsRow.mainSum := by unfold Func.isWrapper; first | (rw [if_pos (by decide +kernel)]; kernel_rfl) | (rw [if_neg (by decide +kernel)]; exact ⟨rfl, rfl⟩)
end Go.Proofs.YtgnkjpbecgpjoaaGreatDoor.topClaims
