/- The tie, in parts: the variables' run is done. Conditions: none. -/
import Derived.Test.YtgnkjpbecgpjoaaGreatDoorYa
namespace Go.Proofs.YtgnkjpbecgpjoaaGreatDoor
open Go
theorem tie_hd (os : Os) (tape : Tape) : varsDone Tryz.prog 400 (varsId Tryz.prog) os tape = true := by kernel_rfl
end Go.Proofs.YtgnkjpbecgpjoaaGreatDoor
