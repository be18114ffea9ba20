/- r4: HostFinds: runs by the kernel (printed by hfs.py). Conditions: none. -/
import Derived.Test.YtgnkjpbecgpjoaaGreatDoorHf1
set_option linter.unusedVariables false
set_option linter.unusedSimpArgs false
namespace Go.Proofs.YtgnkjpbecgpjoaaGreatDoor
open Go Go.Proofs.YtgnkjpbecgpjoaaGreatDoor.Fw Go.RowKit
theorem hf_1_f : isT (hfRun 1 11 false) = true := by kernel_rfl
theorem hf_3_f : isT (hfRun 3 11 false) = true := by kernel_rfl
theorem hf_5_f : isT (hfRun 5 11 false) = true := by kernel_rfl
theorem hf_7_f : isT (hfRun 7 11 false) = true := by kernel_rfl
theorem hf_9_f : isT (hfRun 9 11 false) = true := by kernel_rfl
theorem hf_11_f : isT (hfRun 11 11 false) = true := by kernel_rfl
end Go.Proofs.YtgnkjpbecgpjoaaGreatDoor
