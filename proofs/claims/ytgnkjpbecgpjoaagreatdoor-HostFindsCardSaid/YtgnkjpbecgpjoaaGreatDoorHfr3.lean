/- r4: HostFinds: runs by the kernel (printed by hfs.py). Conditions: none. -/
import Derived.Test.YtgnkjpbecgpjoaaGreatDoorHf1
set_option linter.unusedVariables false
set_option linter.unusedSimpArgs false
namespace Go.Proofs.YtgnkjpbecgpjoaaGreatDoor
open Go Go.Proofs.YtgnkjpbecgpjoaaGreatDoor.Fw Go.RowKit
theorem hf_0_t : isT (hfRun 0 77 true) = true := by kernel_rfl
theorem hf_1_t : isT (hfRun 1 77 true) = true := by kernel_rfl
theorem hf_2_t : isT (hfRun 2 77 true) = true := by kernel_rfl
theorem hf_3_t : isT (hfRun 3 77 true) = true := by kernel_rfl
theorem hf_4_t : isT (hfRun 4 77 true) = true := by kernel_rfl
theorem hf_5_t : isT (hfRun 5 77 true) = true := by kernel_rfl
theorem hf_6_t : isT (hfRun 6 77 true) = true := by kernel_rfl
theorem hf_7_t : isT (hfRun 7 77 true) = true := by kernel_rfl
theorem hf_8_t : isT (hfRun 8 77 true) = true := by kernel_rfl
theorem hf_9_t : isT (hfRun 9 77 true) = true := by kernel_rfl
theorem hf_10_t : isT (hfRun 10 77 true) = true := by kernel_rfl
theorem hf_11_t : isT (hfRun 11 77 true) = true := by kernel_rfl
theorem hf_12_t : isT (hfRun 12 77 true) = true := by kernel_rfl
theorem hf_13_t : isT (hfRun 13 77 true) = true := by kernel_rfl
theorem hf_14_t : isT (hfRun 14 77 true) = true := by kernel_rfl
theorem hf_15_t : isT (hfRun 15 77 true) = true := by kernel_rfl
theorem hf_16_t : isT (hfRun 16 77 true) = true := by kernel_rfl
theorem hf_17_t : isT (hfRun 17 77 true) = true := by kernel_rfl
theorem hf_18_t : isT (hfRun 18 77 true) = true := by kernel_rfl
theorem hf_19_t : isT (hfRun 19 77 true) = true := by kernel_rfl
theorem hf_20_t : isT (hfRun 20 77 true) = true := by kernel_rfl
theorem hf_21_t : isT (hfRun 21 77 true) = true := by kernel_rfl
theorem hf_22_t : isT (hfRun 22 77 true) = true := by kernel_rfl
theorem hf_23_t : isT (hfRun 23 77 true) = true := by kernel_rfl
theorem hf_24_t : isT (hfRun 24 77 true) = true := by kernel_rfl
theorem hf_25_t : isT (hfRun 25 77 true) = true := by kernel_rfl
theorem hf_26_t : isT (hfRun 26 77 true) = true := by kernel_rfl
theorem hf_27_t : isT (hfRun 27 77 true) = true := by kernel_rfl
theorem hf_28_t : isT (hfRun 28 77 true) = true := by kernel_rfl
end Go.Proofs.YtgnkjpbecgpjoaaGreatDoor
