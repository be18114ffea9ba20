/- The tie, in parts: what the variables hold. Conditions: none. -/
import Derived.Test.YtgnkjpbecgpjoaaGreatDoorYa
namespace Go.Proofs.YtgnkjpbecgpjoaaGreatDoor
open Go
theorem tie_h1 (os : Os) (tape : Tape) : (DataW.laidRun Tryz.prog (varsWorld Tryz.prog 400 (varsId Tryz.prog) os tape).memory 8 ((tieL.filter fun x => x.2.handleName?.isNone).map (·.1))).map (·.1) = some (tieL.filter fun x => x.2.handleName?.isNone) := by kernel_rfl
end Go.Proofs.YtgnkjpbecgpjoaaGreatDoor
