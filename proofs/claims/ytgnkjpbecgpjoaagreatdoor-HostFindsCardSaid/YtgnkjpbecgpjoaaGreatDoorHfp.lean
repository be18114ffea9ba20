/- r4: HostFinds: the runs over the known calls (printed by hfs.py). Conditions: none. -/
import Derived.Test.YtgnkjpbecgpjoaaGreatDoorPm3
set_option linter.unusedVariables false
set_option linter.unusedSimpArgs false
namespace Go.Proofs.YtgnkjpbecgpjoaaGreatDoor
open Go Go.Proofs.YtgnkjpbecgpjoaaGreatDoor.Fw Go.RowKit
noncomputable def hfRun2 (n far : Nat) (b : Bool) : KR := kdrv Tryz.prog (kcall Tryz.prog EE2 100000 300) k4 100000 (k4.C 8 [vi n, .bool b, vp 10, vi far]) hfL
theorem hf_13_f : isT (hfRun2 13 11 false) = true := by kernel_rfl
theorem hf_14_f : isT (hfRun2 14 11 false) = true := by kernel_rfl
theorem hf_15_f : isT (hfRun2 15 11 false) = true := by kernel_rfl
theorem hf_16_f : isT (hfRun2 16 11 false) = true := by kernel_rfl
theorem hf_17_f : isT (hfRun2 17 11 false) = true := by kernel_rfl
theorem hf_18_f : isT (hfRun2 18 11 false) = true := by kernel_rfl
theorem hf_19_f : isT (hfRun2 19 11 false) = true := by kernel_rfl
theorem hf_20_f : isT (hfRun2 20 11 false) = true := by kernel_rfl
theorem hf_21_f : isT (hfRun2 21 11 false) = true := by kernel_rfl
theorem hf_22_f : isT (hfRun2 22 11 false) = true := by kernel_rfl
theorem hf_23_f : isT (hfRun2 23 11 false) = true := by kernel_rfl
theorem hf_24_f : isT (hfRun2 24 11 false) = true := by kernel_rfl
theorem hf_25_f : isT (hfRun2 25 11 false) = true := by kernel_rfl
theorem hf_26_f : isT (hfRun2 26 11 false) = true := by kernel_rfl
theorem hf_27_f : isT (hfRun2 27 11 false) = true := by kernel_rfl
theorem hf_28_f : isT (hfRun2 28 11 false) = true := by kernel_rfl
end Go.Proofs.YtgnkjpbecgpjoaaGreatDoor
