/- The row's facts, in parts: an input that the row speaks of. Conditions: none. -/
import Derived.Test.YtgnkjpbecgpjoaaGreatDoorRa
set_option linter.unusedVariables false
set_option linter.unusedSimpArgs false
namespace Go.Proofs.YtgnkjpbecgpjoaaGreatDoor.topClaims
open Go Go.ChangeShapes Go.WideShapes Go.ChangeAt Go.RowKit
theorem wit_ok (os : Os) : Input.okWideB Tryz.checked.prog ((wit os).forCall (fun _ _ => 0) ⟨#[], #[.slice none 0 0], []⟩) 3 ⟨#[], #[.slice none 0 0], []⟩ = true := by kernel_rfl
theorem wit_pre {H : Type} (enc : TypeId × Value → H) (os : Os) : ChangeSpec.preB enc Tryz.checked.prog Tryz.f3 Rows.topClaimsSpec Rows.topClaimsRow.domain false ((wit os).forCall (fun _ _ => 0) ⟨#[], #[.slice none 0 0], []⟩).memory #[.slice none 0 0] 8 = true := by kernel_rfl
theorem wit_size {H : Type} (enc : TypeId × Value → H) (os : Os) : ChangeSpec.sizedB enc Tryz.checked.prog Tryz.f3 Rows.topClaimsSpec false ((wit os).forCall (fun _ _ => 0) ⟨#[], #[.slice none 0 0], []⟩).memory #[.slice none 0 0] 8 = true := by kernel_rfl
end Go.Proofs.YtgnkjpbecgpjoaaGreatDoor.topClaims
