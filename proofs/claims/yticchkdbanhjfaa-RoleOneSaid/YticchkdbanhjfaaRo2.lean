/- The parts of role: letters. -/
import Derived.Test.YticchkdbanhjfaaRo1
set_option linter.unusedVariables false
set_option linter.unusedSimpArgs false
namespace Go.Proofs.Yticchkdbanhjfaa
open Go Go.RowKit Go.Proofs.Yticchkdbanhjfaa.Fw

/-- A letter. -/
structure Lt where
  kind : Int
  epoch : Int
  role : Int
  number : Int
  other : Int
  text : ByteArray
def Lt.cs (x : Lt) : List Value := [.int .i64 x.kind, .int .i64 x.epoch, .int .i64 x.role, .int .i64 x.number, .int .i64 x.other, .string x.text]
def la (x : Lt) : Value := .agg x.cs.toArray
def bx (x : Lt) : AObj := .cells x.cs 0 true

def isWord (n : Int) : Bool := decide (0 ≤ n) && decide (n ≤ 4294967295)
def isRole (n : Int) : Bool := decide (0 ≤ n) && decide (n ≤ 5)
theorem word77 (H : Heap) (n : Int) : F77 [.int .i64 n] H = some (.bool (isWord n), H) := by
  refine FN_of 1 ((t77 1 n H).trans ?_) (Nat.le_of_ble_eq_true (by kernel_rfl))
  unfold isWord
  cases decide ((0 : Int) ≤ n) <;> rfl
theorem role78 (H : Heap) (n : Int) : F78 [.int .i64 n] H = some (.bool (isRole n), H) := by
  refine FN_of 1 ((t78 1 n H).trans ?_) (Nat.le_of_ble_eq_true (by kernel_rfl))
  unfold isRole
  cases decide ((0 : Int) ≤ n) <;> rfl

/-- Is a letter one? -/
def Lt.good (x : Lt) : Bool := isWord x.epoch && (isWord x.number && (isWord x.other && (isRole x.role && (decide ((x.text.size : Int) ≤ 4096) && ((x.kind == 1 && decide (0 < x.number)) || (x.kind == 2 && x.text.toList == (⟨#[]⟩ : ByteArray).toList))))))

theorem check56 (H : Heap) (x : Lt) : F56 [la x] H = some (.int .i64 (if x.good then 0 else 240), H ++ [bx x]) := by
  refine FN_of 1 ((t56 1 x.kind x.epoch x.role x.number x.other x.text H).trans ?_) (Nat.le_of_ble_eq_true (by kernel_rfl))
  have g : ∀ (k : List Value → R), ldc (H ++ [.cells [.int .i64 x.kind, .int .i64 x.epoch, .int .i64 x.role, .int .i64 x.number, .int .i64 x.other, .string x.text] 0 true]) H.length k = k [.int .i64 x.kind, .int .i64 x.epoch, .int .i64 x.role, .int .i64 x.number, .int .i64 x.other, .string x.text] := fun k => ldc_new _ _ _ _ _
  simp only [g, onSome_some, kInt, kBool, kStr, if_true, Nat.zero_add, List.getElem?_cons_zero, List.getElem?_cons_succ, word77, role78]
  unfold Lt.good
  cases isWord x.epoch <;> simp only [Bool.false_and, Bool.true_and, Bool.false_eq_true, if_false] <;> try rfl
  cases isWord x.number <;> simp only [Bool.false_and, Bool.true_and, Bool.false_eq_true, if_false] <;> try rfl
  cases isWord x.other <;> simp only [Bool.false_and, Bool.true_and, Bool.false_eq_true, if_false] <;> try rfl
  cases isRole x.role <;> simp only [Bool.false_and, Bool.true_and, Bool.false_eq_true, if_false] <;> try rfl
  cases decide ((x.text.size : Int) ≤ 4096) <;> simp only [Bool.false_and, Bool.true_and, Bool.false_eq_true, if_false] <;> try rfl
  cases x.kind == 1 <;> cases decide (0 < x.number) <;> cases x.kind == 2 <;> cases x.text.toList == (⟨#[]⟩ : ByteArray).toList <;> rfl

def invited (s : Pt) (x : Lt) : Bool := s.role == 1 && (x.kind == 2 && (x.role == 4 && (decide (s.epoch < x.epoch) && x.number == s.inc)))
theorem invited57 {H : Heap} {b : Nat} {s : Pt} (h : At H b s) (x : Lt) : F57 [pp b, la x] H = some (.bool (invited s x), H ++ [bx x]) := by
  refine FN_of 1 ((t57 1 (some ⟨b, 0, none⟩) x.kind x.epoch x.role x.number x.other x.text H).trans ?_) (Nat.le_of_ble_eq_true (by kernel_rfl))
  have g : ∀ (k : List Value → R), ldc (H ++ [.cells [.int .i64 x.kind, .int .i64 x.epoch, .int .i64 x.role, .int .i64 x.number, .int .i64 x.other, .string x.text] 0 true]) H.length k = k [.int .i64 x.kind, .int .i64 x.epoch, .int .i64 x.role, .int .i64 x.number, .int .i64 x.other, .string x.text] := fun k => ldc_new _ _ _ _ _
  have g2 : ∀ (k : List Value → R), ldc (H ++ [.cells [.int .i64 x.kind, .int .i64 x.epoch, .int .i64 x.role, .int .i64 x.number, .int .i64 x.other, .string x.text] 0 true]) b k = k s.cs := fun k => ldc_pt (H := H ++ _) (s := s) (heap_keep h _) k
  simp only [g, g2, onSome_some, kInt, kBool, kStr, if_true, Nat.zero_add, List.getElem?_cons_zero, List.getElem?_cons_succ, Pt.cs]
  unfold invited
  cases s.role == 1 <;> simp only [Bool.false_and, Bool.true_and] <;> try rfl
  cases x.kind == 2 <;> simp only [Bool.false_and, Bool.true_and] <;> try rfl
  cases x.role == 4 <;> simp only [Bool.false_and, Bool.true_and] <;> try rfl
  cases decide (s.epoch < x.epoch) <;> simp only [Bool.false_and, Bool.true_and] <;> rfl

def asked (s : Pt) (x : Lt) : Bool := (s.role == 3 || s.role == 4) && (x.kind == 2 && (x.role == 1 && (x.epoch != s.epoch && (decide (s.known < x.number) && decide (s.epoch < 4294967295)))))
theorem asked58 {H : Heap} {b : Nat} {s : Pt} (h : At H b s) (x : Lt) : F58 [pp b, la x] H = some (.bool (asked s x), H ++ [bx x]) := by
  refine FN_of 1 ((t58 1 (some ⟨b, 0, none⟩) x.kind x.epoch x.role x.number x.other x.text H).trans ?_) (Nat.le_of_ble_eq_true (by kernel_rfl))
  have g : ∀ (k : List Value → R), ldc (H ++ [.cells [.int .i64 x.kind, .int .i64 x.epoch, .int .i64 x.role, .int .i64 x.number, .int .i64 x.other, .string x.text] 0 true]) H.length k = k [.int .i64 x.kind, .int .i64 x.epoch, .int .i64 x.role, .int .i64 x.number, .int .i64 x.other, .string x.text] := fun k => ldc_new _ _ _ _ _
  have hk : At (H ++ [.cells [.int .i64 x.kind, .int .i64 x.epoch, .int .i64 x.role, .int .i64 x.number, .int .i64 x.other, .string x.text] 0 true]) b s := heap_keep h _
  have g2 : ∀ (k : List Value → R), ldc (H ++ [.cells [.int .i64 x.kind, .int .i64 x.epoch, .int .i64 x.role, .int .i64 x.number, .int .i64 x.other, .string x.text] 0 true]) b k = k s.cs := fun k => ldc_pt hk k
  have e31 : F31 [.pointer (some ⟨b, 0, none⟩)] (H ++ [.cells [.int .i64 x.kind, .int .i64 x.epoch, .int .i64 x.role, .int .i64 x.number, .int .i64 x.other, .string x.text] 0 true]) = _ := speaks31 hk
  simp only [g, g2, e31, onSome_some, kInt, kBool, kStr, if_true, Nat.zero_add, List.getElem?_cons_zero, List.getElem?_cons_succ, Pt.cs]
  unfold asked
  cases (s.role == 3 || s.role == 4) <;> cases x.kind == 2 <;> cases x.role == 1 <;> cases x.epoch != s.epoch <;> simp only [Bool.false_and, Bool.true_and] <;> try rfl
  cases decide (s.known < x.number) <;> rfl

/-- What Hear does to a part. -/
def hear (s0 : Pt) (x : Lt) (now : Int) : Int × Int × Pt :=
  if s0.role == 0 || s0.role == 5 then (0, 180, s0)
  else if !x.good then (0, 1, s0)
  else
    let s := { s0 with now := tick s0 now }
    if invited s x then (1, 0, { s with epoch := x.epoch, heard := s.now })
    else if asked s x then (1, 0, { s with role := 4, epoch := IntKind.i64.wrap (s.epoch + 1), serves := x.number, known := x.number, heard := s.now })
    else if x.epoch != s.epoch then (0, 260, s)
    else if s.role == 1 && x.role == 3 then (2, 0, { s with role := 2, heard := s.now })
    else (2, 0, { s with heard := s.now })
end Go.Proofs.Yticchkdbanhjfaa
