/- r3: TableGone: runs by the kernel (printed by tgr.py). -/
import Derived.Test.YtlpeldimmaajkaaGreatTg1
set_option linter.unusedVariables false
namespace Go.Proofs.YtlpeldimmaajkaaGreat
open Go Go.Proofs.YtlpeldimmaajkaaGreat.Fw Go.RowKit
theorem r3_f : isT (seg 3 (.cells [.bool false] 1 false) (.slice (some ⟨0, 0, none⟩) 1 unk)) = true := by kernel_rfl
theorem r3_t : isT (seg 3 (.cells [.bool true] 1 false) (.slice (some ⟨0, 0, none⟩) 1 unk)) = true := by kernel_rfl
theorem r3_ff : isT (seg 3 (.cells [.bool false, .bool false] 1 false) (.slice (some ⟨0, 0, none⟩) 2 unk)) = true := by kernel_rfl
theorem r3_ft : isT (seg 3 (.cells [.bool false, .bool true] 1 false) (.slice (some ⟨0, 0, none⟩) 2 unk)) = true := by kernel_rfl
theorem r3_tf : isT (seg 3 (.cells [.bool true, .bool false] 1 false) (.slice (some ⟨0, 0, none⟩) 2 unk)) = true := by kernel_rfl
theorem r3_tt : isT (seg 3 (.cells [.bool true, .bool true] 1 false) (.slice (some ⟨0, 0, none⟩) 2 unk)) = true := by kernel_rfl
end Go.Proofs.YtlpeldimmaajkaaGreat
