/- r3: TableGone: runs by the kernel (printed by tgr.py). -/
import Derived.Test.YtlpeldimmaajkaaGreatTg1
set_option linter.unusedVariables false
namespace Go.Proofs.YtlpeldimmaajkaaGreat
open Go Go.Proofs.YtlpeldimmaajkaaGreat.Fw Go.RowKit
theorem r1_N (o : AObj) : isT (seg 1 o (.slice none 0 0)) = true := by kernel_rfl
theorem r1_S (o : AObj) : isT (seg 1 o (.slice (some ⟨0, 0, none⟩) 0 unk)) = true := by kernel_rfl
theorem r1_f (cs : List Value) (own : Bool) (t : Nat) : isT (seg 1 (.cells (.bool false :: cs) 1 own) (.slice (some ⟨0, 0, none⟩) (Nat.succ t) unk)) = true := by kernel_rfl
theorem r1_t (cs : List Value) (own : Bool) (t : Nat) : isT (seg 1 (.cells (.bool true :: cs) 1 own) (.slice (some ⟨0, 0, none⟩) (Nat.succ t) unk)) = true := by kernel_rfl
theorem r2_N (o : AObj) : isT (seg 2 o (.slice none 0 0)) = true := by kernel_rfl
theorem r2_S (o : AObj) : isT (seg 2 o (.slice (some ⟨0, 0, none⟩) 0 unk)) = true := by kernel_rfl
theorem r2_f (cs : List Value) (own : Bool) : isT (seg 2 (.cells (.bool false :: cs) 1 own) (.slice (some ⟨0, 0, none⟩) 1 unk)) = true := by kernel_rfl
theorem r2_t (cs : List Value) (own : Bool) : isT (seg 2 (.cells (.bool true :: cs) 1 own) (.slice (some ⟨0, 0, none⟩) 1 unk)) = true := by kernel_rfl
end Go.Proofs.YtlpeldimmaajkaaGreat
