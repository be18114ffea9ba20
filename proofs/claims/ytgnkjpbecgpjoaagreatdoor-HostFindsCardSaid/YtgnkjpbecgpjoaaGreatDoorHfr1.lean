/- r4: HostFinds: runs by the kernel (printed by hfs.py). Conditions: none. -/
import Derived.Test.YtgnkjpbecgpjoaaGreatDoorHf1
set_option linter.unusedVariables false
set_option linter.unusedSimpArgs false
namespace Go.Proofs.YtgnkjpbecgpjoaaGreatDoor
open Go Go.Proofs.YtgnkjpbecgpjoaaGreatDoor.Fw Go.RowKit
theorem hf_0_f : isT (hfRun 0 11 false) = true := by kernel_rfl
theorem hf_2_f : isT (hfRun 2 11 false) = true := by kernel_rfl
theorem hf_4_f : isT (hfRun 4 11 false) = true := by kernel_rfl
theorem hf_6_f : isT (hfRun 6 11 false) = true := by kernel_rfl
theorem hf_8_f : isT (hfRun 8 11 false) = true := by kernel_rfl
theorem hf_10_f : isT (hfRun 10 11 false) = true := by kernel_rfl
theorem hf_12_f : isT (hfRun 12 11 false) = true := by kernel_rfl
end Go.Proofs.YtgnkjpbecgpjoaaGreatDoor
