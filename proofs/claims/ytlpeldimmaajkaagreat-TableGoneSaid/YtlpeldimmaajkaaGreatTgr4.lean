/- r3: TableGone: runs by the kernel (printed by tgr.py). -/
import Derived.Test.YtlpeldimmaajkaaGreatTg1
set_option linter.unusedVariables false
namespace Go.Proofs.YtlpeldimmaajkaaGreat
open Go Go.Proofs.YtlpeldimmaajkaaGreat.Fw Go.RowKit
theorem r3_fff (t : Nat) : isT (seg 3 (.cells [.bool false, .bool false, .bool false] 1 false) (.slice (some ⟨0, 0, none⟩) (Nat.succ (Nat.succ (Nat.succ t))) unk)) = true := by kernel_rfl
theorem r3_fft (t : Nat) : isT (seg 3 (.cells [.bool false, .bool false, .bool true] 1 false) (.slice (some ⟨0, 0, none⟩) (Nat.succ (Nat.succ (Nat.succ t))) unk)) = true := by kernel_rfl
theorem r3_ftf (t : Nat) : isT (seg 3 (.cells [.bool false, .bool true, .bool false] 1 false) (.slice (some ⟨0, 0, none⟩) (Nat.succ (Nat.succ (Nat.succ t))) unk)) = true := by kernel_rfl
theorem r3_ftt (t : Nat) : isT (seg 3 (.cells [.bool false, .bool true, .bool true] 1 false) (.slice (some ⟨0, 0, none⟩) (Nat.succ (Nat.succ (Nat.succ t))) unk)) = true := by kernel_rfl
end Go.Proofs.YtlpeldimmaajkaaGreat
