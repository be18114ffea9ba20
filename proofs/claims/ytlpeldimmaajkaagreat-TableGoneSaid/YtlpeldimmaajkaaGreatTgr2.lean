/- r3: TableGone: runs by the kernel (printed by tgr.py). -/
import Derived.Test.YtlpeldimmaajkaaGreatTg1
set_option linter.unusedVariables false
namespace Go.Proofs.YtlpeldimmaajkaaGreat
open Go Go.Proofs.YtlpeldimmaajkaaGreat.Fw Go.RowKit
theorem r2_ff (cs : List Value) (own : Bool) (t : Nat) : isT (seg 2 (.cells (.bool false :: .bool false :: cs) 1 own) (.slice (some ⟨0, 0, none⟩) (Nat.succ (Nat.succ t)) unk)) = true := by kernel_rfl
theorem r2_ft (cs : List Value) (own : Bool) (t : Nat) : isT (seg 2 (.cells (.bool false :: .bool true :: cs) 1 own) (.slice (some ⟨0, 0, none⟩) (Nat.succ (Nat.succ t)) unk)) = true := by kernel_rfl
theorem r2_tf (cs : List Value) (own : Bool) (t : Nat) : isT (seg 2 (.cells (.bool true :: .bool false :: cs) 1 own) (.slice (some ⟨0, 0, none⟩) (Nat.succ (Nat.succ t)) unk)) = true := by kernel_rfl
theorem r2_tt (cs : List Value) (own : Bool) (t : Nat) : isT (seg 2 (.cells (.bool true :: .bool true :: cs) 1 own) (.slice (some ⟨0, 0, none⟩) (Nat.succ (Nat.succ t)) unk)) = true := by kernel_rfl
theorem r3_N : isT (seg 3 .dead (.slice none 0 0)) = true := by kernel_rfl
theorem r3_S : isT (seg 3 .dead (.slice (some ⟨0, 0, none⟩) 0 unk)) = true := by kernel_rfl
end Go.Proofs.YtlpeldimmaajkaaGreat
