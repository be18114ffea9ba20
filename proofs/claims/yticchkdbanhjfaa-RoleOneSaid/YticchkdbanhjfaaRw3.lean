/- The parts of role: their methods, in the program and in the document (as RolePlays reaches them). -/
import Derived.Test.YticchkdbanhjfaaRw2
import Derived.Test.YticchkdbanhjfaaT4
set_option linter.unusedVariables false
set_option linter.unusedSimpArgs false
namespace Go.Proofs.Yticchkdbanhjfaa
open Go Go.RowKit Go.Proofs.Yticchkdbanhjfaa.Fw
section
variable {H : Heap} {b : Nat} {s : Pt} {g : Heap}
theorem w66 (hb : b < H.length) : F66 [.pointer (pn b)] (W H b s g) = some (.tuple #[], W H b (fenceM s) g) := by
  refine FN_of 1 ?_ (Nat.le_of_ble_eq_true (by kernel_rfl))
  unfold pn
  rw [t66]
  simp (disch := first | with_reducible assumption | decide) only [onSome_some, kInt_int, kBool_bool, kStr_str, kTup_tup, kPtr_ptr, c0, c1, c2, c3, c4, c5, c6, c7, c8, x0, x1, x2, x3, x4, x5, W_ld hb, W_st]
  unfold fenceM
  cases s.role != 0 <;> rfl
theorem w67 (hb : b < H.length) : F67 [.pointer (pn b)] (W H b s g) = some (.tuple #[], W H b (fenceM s) g) := by
  refine FN_of 1 ?_ (Nat.le_of_ble_eq_true (by kernel_rfl))
  unfold pn
  rw [t67]
  simp (disch := first | with_reducible assumption | decide) only [onSome_some, kInt_int, kBool_bool, kStr_str, kTup_tup, kPtr_ptr, c0, c1, c2, c3, c4, c5, c6, c7, c8, x0, x1, x2, x3, x4, x5, W_ld hb, W_st]
  unfold fenceM
  cases s.role != 0 <;> rfl
theorem w70 (hb : b < H.length) : F70 [.pointer (pn b)] (W H b s g) = some (.tuple #[], W H b (crashM s) g) := by
  refine FN_of 1 ?_ (Nat.le_of_ble_eq_true (by kernel_rfl))
  unfold pn
  rw [t70]
  simp (disch := first | with_reducible assumption | decide) only [onSome_some, kInt_int, kBool_bool, kStr_str, kTup_tup, kPtr_ptr, c0, c1, c2, c3, c4, c5, c6, c7, c8, x0, x1, x2, x3, x4, x5, W_ld hb]
  exact W_st9 hb (crashM s) _
theorem w71 (hb : b < H.length) : F71 [.pointer (pn b)] (W H b s g) = some (.tuple #[], W H b (crashM s) g) := by
  refine FN_of 1 ?_ (Nat.le_of_ble_eq_true (by kernel_rfl))
  unfold pn
  rw [t71]
  simp (disch := first | with_reducible assumption | decide) only [onSome_some, kInt_int, kBool_bool, kStr_str, kTup_tup, kPtr_ptr, c0, c1, c2, c3, c4, c5, c6, c7, c8, x0, x1, x2, x3, x4, x5, W_ld hb, W_st]
  exact congrArg some (congrArg (Prod.mk (Value.tuple #[])) (W_st hb (off := 2) (by decide) 0 (s := s) (g := g) (k := fun _ H => some (.tuple #[], H)) |> fun _ => rfl))
theorem w68 (hb : b < H.length) (now : Int) : F68 [.pointer (pn b), .int .i64 now] (W H b s g) = some (.bool (dropsM s now).1, W H b (dropsM s now).2 g) := by
  refine FN_of 1 ?_ (Nat.le_of_ble_eq_true (by kernel_rfl))
  unfold pn
  rw [t68]
  have e := w55 (s := s) (g := g) hb now
  unfold pn at e
  simp (disch := first | with_reducible assumption | decide) only [onSome_some, kInt_int, kBool_bool, kStr_str, kTup_tup, kPtr_ptr, c0, c1, c2, c3, c4, c5, c6, c7, c8, x0, x1, x2, x3, x4, x5, W_ld hb, e, W_st]
  have e2 : (s.set 4 (tick s now)) = timeM s now := rfl
  rw [e2]
  unfold dropsM
  show (match (s.role != 4) with | true => _ | false => (match (s.serves == 0) with | true => _ | false => (match (decide (IntKind.i64.wrap (tick s now - s.heard) < s.patience)) with | true => _ | false => _))) = _
  cases s.role != 4 <;> cases s.serves == 0 <;> cases decide (IntKind.i64.wrap (tick s now - s.heard) < s.patience) <;> rfl

theorem w85 (hb : b < H.length) (now : Int) : F85 [.pointer (pn b), .int .i64 now] (W H b s g) = some (.tuple #[], W H b (timeM s now) g) := by
  refine FN_of 1 ?_ (Nat.le_of_ble_eq_true (by kernel_rfl))
  unfold pn
  rw [t85]
  simp (disch := first | with_reducible assumption | decide) only [onSome_some, kInt_int, kBool_bool, kStr_str, kTup_tup, kPtr_ptr, c0, c1, c2, c3, c4, c5, c6, c7, c8, x0, x1, x2, x3, x4, x5, W_ld hb, W_st]
  rfl
theorem w61 (hb : b < H.length) (now : Int) : F61 [.pointer (pn b), .int .i64 now] (W H b s g) = some (.int .i64 (bootM s now).1, W H b (bootM s now).2 g) := by
  refine FN_of 1 ?_ (Nat.le_of_ble_eq_true (by kernel_rfl))
  unfold pn
  rw [t61]
  have e := w85 (s := s) (g := g) hb now
  unfold pn at e
  simp (disch := first | with_reducible assumption | decide) only [onSome_some, kInt_int, kBool_bool, kStr_str, kTup_tup, kPtr_ptr, c0, c1, c2, c3, c4, c5, c6, c7, c8, x0, x1, x2, x3, x4, x5, W_ld hb, e, W_st]
  unfold bootM
  cases s.role != 0 <;> rfl
theorem w62 (hb : b < H.length) (inc now : Int) : F62 [.pointer (pn b), .int .i64 inc, .int .i64 now] (W H b s g) = some (.int .i64 (joinM s inc now).1, W H b (joinM s inc now).2 g) := by
  refine FN_of 1 ?_ (Nat.le_of_ble_eq_true (by kernel_rfl))
  unfold pn
  rw [t62]
  have e := w85 (s := s) (g := g) hb now
  unfold pn at e
  simp (disch := first | with_reducible assumption | decide) only [onSome_some, kInt_int, kBool_bool, kStr_str, kTup_tup, kPtr_ptr, c0, c1, c2, c3, c4, c5, c6, c7, c8, x0, x1, x2, x3, x4, x5, W_ld hb, e, W_st]
  unfold joinM
  cases s.role != 0 <;> cases decide (inc < 1) <;> cases decide (4294967295 < inc) <;> rfl
theorem w38 (hb : b < H.length) : F38 [.pointer (pn b)] (W H b s g) = some (.bool (s.role == 3 || s.role == 4), W H b s g) := by
  refine FN_of 1 ?_ (Nat.le_of_ble_eq_true (by kernel_rfl))
  unfold pn
  rw [t38]
  simp (disch := first | with_reducible assumption | decide) only [onSome_some, kInt_int, kBool_bool, kStr_str, kTup_tup, kPtr_ptr, c0, c1, c2, c3, c4, c5, c6, c7, c8, x0, x1, x2, x3, x4, x5, W_ld hb]
  cases s.role == 3 <;> rfl
theorem w64 (hb : b < H.length) (now : Int) : F64 [.pointer (pn b), .int .i64 now] (W H b s g) = some (.int .i64 (syncM s now).1, W H b (syncM s now).2 g) := by
  refine FN_of 1 ?_ (Nat.le_of_ble_eq_true (by kernel_rfl))
  unfold pn
  rw [t64]
  have e := w85 (s := s) (g := g) hb now
  unfold pn at e
  simp (disch := first | with_reducible assumption | decide) only [onSome_some, kInt_int, kBool_bool, kStr_str, kTup_tup, kPtr_ptr, c0, c1, c2, c3, c4, c5, c6, c7, c8, x0, x1, x2, x3, x4, x5, W_ld hb, e, W_st]
  unfold syncM
  cases s.role != 4 <;> cases s.serves == 0 <;> rfl
end
theorem w98 (H : Heap) (n : Int) : F98 [.int .i64 n] H = some (.bool (isWord n), H) := by
  refine FN_of 1 ((t98 1 n H).trans ?_) (Nat.le_of_ble_eq_true (by kernel_rfl))
  unfold isWord
  cases decide ((0 : Int) ≤ n) <;> rfl
theorem w99 (H : Heap) (n : Int) : F99 [.int .i64 n] H = some (.bool (isRole n), H) := by
  refine FN_of 1 ((t99 1 n H).trans ?_) (Nat.le_of_ble_eq_true (by kernel_rfl))
  unfold isRole
  cases decide ((0 : Int) ≤ n) <;> rfl
/-- Is a letter one? By the document. -/
def Lt.good2 (x : Lt) : Bool := (!((x.kind != 1 && x.kind != 2) || (!isWord x.epoch || (!isWord x.number || (!isWord x.other || (!isRole x.role || decide ((4096 : Int) < (x.text.size : Int)))))))) && !((x.kind == 2 && !(x.text.toList == (⟨#[]⟩ : ByteArray).toList)) || (x.kind == 1 && x.number == 0))
theorem good_good2 (x : Lt) : x.good2 = x.good := by
  unfold Lt.good Lt.good2 isWord isRole
  by_cases h1 : x.kind = 1
  · simp [h1]
    grind
  · by_cases h2 : x.kind = 2
    · simp [h2]
      grind
    · have e1 : (x.kind == 1) = false := by simpa using h1
      have e2 : (x.kind == 2) = false := by simpa using h2
      simp only [bne, e1, e2]
      simp
theorem w86 (H : Heap) (x : Lt) : F86 [.agg x.cs.toArray] H = some (.int .i64 (if x.good then 0 else 240), H ++ [bx x]) := by
  refine FN_of 2 ((t86 2 x.kind x.epoch x.role x.number x.other x.text H).trans ?_) (Nat.le_of_ble_eq_true (by kernel_rfl))
  have g : ∀ (k : List Value → R), ldc (H ++ [.cells [.int .i64 x.kind, .int .i64 x.epoch, .int .i64 x.role, .int .i64 x.number, .int .i64 x.other, .string x.text] 0 true]) H.length k = k x.cs := fun k => ldc_new _ x.cs _ _ _
  simp only [g, onSome_some, kInt_int, kBool_bool, kStr_str, kTup_tup, kPtr_ptr, c0, c1, c2, c3, c4, c5, c6, c7, c8, x0, x1, x2, x3, x4, x5, w98, w99, c86_2, c86_3, c86_4, c86_5]
  have ei : (if x.good = true then (0 : Int) else 240) = (match x.good2 with | true => 0 | false => 240) := by rw [good_good2]; cases x.good <;> rfl
  rw [ei]
  unfold Lt.good2
  simp only [bne]
  cases x.kind == 1 <;> cases x.kind == 2 <;> cases isWord x.epoch <;> cases isWord x.number <;> cases isWord x.other <;> cases isRole x.role <;> cases decide ((4096 : Int) < (x.text.size : Int)) <;> cases x.text.toList == (⟨#[]⟩ : ByteArray).toList <;> cases x.number == 0 <;> rfl
end Go.Proofs.Yticchkdbanhjfaa
