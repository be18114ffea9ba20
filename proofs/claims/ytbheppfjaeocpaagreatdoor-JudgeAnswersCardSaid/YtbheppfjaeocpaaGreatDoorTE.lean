/- PRINTED by a program of the session (Pr.lean): what functions of the program come to on the abstract heap, each checked by the kernel. Conditions: none. -/
import Derived.Test.YtbheppfjaeocpaaGreatDoorTC
import Derived.Test.YtbheppfjaeocpaaGreatDoorProg
set_option linter.unusedVariables false
namespace Go.Proofs.YtbheppfjaeocpaaGreatDoor
open Go Go.Proofs.YtbheppfjaeocpaaGreatDoor.Fw Go.RowKit
-- slices.Index[[]string,string]
noncomputable def G52 : Fs := Fs.ext G3 3 F3
theorem A52 : AllSound Tryz.prog G52 := AllSound.ext A3 S3
noncomputable def cuts52 : Cuts := [(100002, [0, 1, 7, 8])]
noncomputable def td52_100002 : List Item := todoOf Tryz.f52 100002
noncomputable def F52 : List Value → Heap → R := FN Tryz.prog G52 Tryz.f52 cuts52
theorem S52 : Sound Tryz.prog 52 F52 := FN_sound A52 Tryz.func52 (by kernel_rfl) (by kernel_rfl)
noncomputable abbrev R52 (m : Nat) : List Item → List Value → Heap → R := run Tryz.prog G52 Tryz.f52 cuts52 m
theorem t52 (m : Nat) (a0 : Option Addr) (l1 : Nat) (c2 : Nat) (x3 : ByteArray) (H : Heap) : fnE Tryz.prog G52 Tryz.f52 cuts52 m [.slice a0 l1 c2, .string x3] H =
    R52 m td52_100002 [.slice a0 l1 c2, .string x3, .int .i64 ((l1 : Nat) : Int), .int .i64 (0 : Int)] H := by kernel_rfl
theorem c52_100002 (m : Nat) (a0 : Option Addr) (l1 : Nat) (c2 : Nat) (x3 : ByteArray) (x4 : Int) (x5 : Int) (H : Heap) : R52 (m + 1) td52_100002 [.slice a0 l1 c2, .string x3, .int .i64 x4, .int .i64 x5] H =
    (match (decide (x5 < x4)) with
    | true => (onSome a0 fun a6 =>
    if 0 ≤ x5 ∧ x5 < (l1 : Nat) then
    ldc H ((a6.add (x5.toNat * 1)).block) fun cs7 =>
    onSome cs7[(a6.add (x5.toNat * 1)).off]? fun v8 =>
    kStr v8 fun s9 =>
    (match (x3.toList == s9.toList) with
    | true => (some (.int .i64 x5, H))
    | false => (R52 m td52_100002 [.slice a0 l1 c2, .string x3, .int .i64 x4, .int .i64 (IntKind.i64.wrap (x5 + (1 : Int)))] H))
    else none)
    | false => (some (.int .i64 (-1 : Int), H))) := by kernel_rfl
-- sternpost/judge.Among
noncomputable def G36 : Fs := Fs.ext G52 52 F52
theorem A36 : AllSound Tryz.prog G36 := AllSound.ext A52 S52
noncomputable def cuts36 : Cuts := [(100002, [0, 1, 9, 10, 11])]
noncomputable def td36_100002 : List Item := todoOf Tryz.f36 100002
noncomputable def F36 : List Value → Heap → R := FN Tryz.prog G36 Tryz.f36 cuts36
theorem S36 : Sound Tryz.prog 36 F36 := FN_sound A36 Tryz.func36 (by kernel_rfl) (by kernel_rfl)
noncomputable abbrev R36 (m : Nat) : List Item → List Value → Heap → R := run Tryz.prog G36 Tryz.f36 cuts36 m
theorem t36 (m : Nat) (a0 : Option Addr) (l1 : Nat) (c2 : Nat) (a3 : Option Addr) (l4 : Nat) (c5 : Nat) (H : Heap) : fnE Tryz.prog G36 Tryz.f36 cuts36 m [.slice a0 l1 c2, .slice a3 l4 c5] H =
    R36 m td36_100002 [.slice a0 l1 c2, .slice a3 l4 c5, .slice a0 l1 c2, .int .i64 ((l1 : Nat) : Int), .int .i64 (0 : Int)] H := by kernel_rfl
theorem c36_100002 (m : Nat) (a0 : Option Addr) (l1 : Nat) (c2 : Nat) (a3 : Option Addr) (l4 : Nat) (c5 : Nat) (a6 : Option Addr) (l7 : Nat) (c8 : Nat) (x9 : Int) (x10 : Int) (H : Heap) : R36 (m + 1) td36_100002 [.slice a0 l1 c2, .slice a3 l4 c5, .slice a6 l7 c8, .int .i64 x9, .int .i64 x10] H =
    (match (decide (x10 < x9)) with
    | true => (onSome a6 fun a11 =>
    if 0 ≤ x10 ∧ x10 < (l7 : Nat) then
    ldc H ((a11.add (x10.toNat * 1)).block) fun cs12 =>
    onSome cs12[(a11.add (x10.toNat * 1)).off]? fun v13 =>
    kStr v13 fun s14 =>
    onSome (F52 [.slice a3 l4 c5, .string s14] H) fun r15 =>
    kInt .i64 r15.1 fun n16 =>
    (match (decide (n16 < (0 : Int))) with
    | true => (some (.tuple #[.int .i64 x10, .bool false], r15.2))
    | false => (slSl r15.2 1 a3 l4 c5 (IntKind.i64.wrap (n16 + (1 : Int))) (l4 : Int) fun v17 =>
    kSl v17 fun a18 l19 c20 =>
    R36 m td36_100002 [.slice a0 l1 c2, .slice a18 l19 c20, .slice a6 l7 c8, .int .i64 x9, .int .i64 (IntKind.i64.wrap (x10 + (1 : Int)))] r15.2))
    else none)
    | false => (some (.tuple #[.int .i64 ((l1 : Nat) : Int), .bool true], H))) := by kernel_rfl
-- sternpost/sternpostlaw29.works
noncomputable def G24 : Fs := Fs.ext G36 36 F36
theorem A24 : AllSound Tryz.prog G24 := AllSound.ext A36 S36
noncomputable def cuts24 : Cuts := []
noncomputable def F24 : List Value → Heap → R := FN Tryz.prog G24 Tryz.f24 cuts24
theorem S24 : Sound Tryz.prog 24 F24 := FN_sound A24 Tryz.func24 (by kernel_rfl) (by kernel_rfl)
noncomputable abbrev R24 (m : Nat) : List Item → List Value → Heap → R := run Tryz.prog G24 Tryz.f24 cuts24 m
theorem t24 (m : Nat)  (H : Heap) : fnE Tryz.prog G24 Tryz.f24 cuts24 m [] H =
    let H0 := H ++ [.cells [.string (⟨#[97]⟩ : ByteArray), .string (⟨#[99]⟩ : ByteArray)] 1 true]
    let H1 := H0 ++ [.cells [.string (⟨#[97]⟩ : ByteArray), .string (⟨#[98]⟩ : ByteArray), .string (⟨#[99]⟩ : ByteArray)] 1 true]
    onSome (F36 [.slice (some ⟨H.length, 0, none⟩) 2 2, .slice (some ⟨H0.length, 0, none⟩) 3 3] H1) fun r2 =>
    kTup r2.1 fun vs3 =>
    onSome vs3[0]? fun v4 =>
    kInt .i64 v4 fun n5 =>
    kTup r2.1 fun vs6 =>
    onSome vs6[1]? fun v7 =>
    kBool v7 fun b8 =>
    let H9 := r2.2 ++ [.cells [.string (⟨#[99]⟩ : ByteArray), .string (⟨#[97]⟩ : ByteArray)] 1 true]
    let H10 := H9 ++ [.cells [.string (⟨#[97]⟩ : ByteArray), .string (⟨#[98]⟩ : ByteArray), .string (⟨#[99]⟩ : ByteArray)] 1 true]
    onSome (F36 [.slice (some ⟨r2.2.length, 0, none⟩) 2 2, .slice (some ⟨H9.length, 0, none⟩) 3 3] H10) fun r11 =>
    kTup r11.1 fun vs12 =>
    onSome vs12[0]? fun v13 =>
    kInt .i64 v13 fun n14 =>
    kTup r11.1 fun vs15 =>
    onSome vs15[1]? fun v16 =>
    kBool v16 fun b17 =>
    (match (n5 == (2 : Int)) with
    | true => ((match b8 with
    | true => ((match (n14 == (1 : Int)) with
    | true => (some (.bool (!b17), r11.2))
    | false => (some (.bool false, r11.2))))
    | false => (some (.bool false, r11.2))))
    | false => (some (.bool false, r11.2))) := by kernel_rfl
noncomputable def G37 : Fs := Fs.ext G24 24 F24
theorem A37 : AllSound Tryz.prog G37 := AllSound.ext A24 S24
-- sternpost/judge.Answers
noncomputable def G25 : Fs := Fs.ext G37 37 F37
theorem A25 : AllSound Tryz.prog G25 := AllSound.ext A37 S37
noncomputable def cuts25 : Cuts := []
noncomputable def F25 : List Value → Heap → R := FN Tryz.prog G25 Tryz.f25 cuts25
theorem S25 : Sound Tryz.prog 25 F25 := FN_sound A25 Tryz.func25 (by kernel_rfl) (by kernel_rfl)
noncomputable abbrev R25 (m : Nat) : List Item → List Value → Heap → R := run Tryz.prog G25 Tryz.f25 cuts25 m
theorem t25 (m : Nat) (x0 : ByteArray) (x1 : ByteArray) (x2 : Bool) (x3 : Bool) (x4 : Int) (x5 : Int) (x6 : Bool) (H : Heap) : fnE Tryz.prog G25 Tryz.f25 cuts25 m [.agg #[.string x0, .string x1, .bool x2, .bool x3, .int .i64 x4, .int .i64 x5, .bool x6]] H =
    let H7 := H ++ [.cells [.string x0, .string x1, .bool x2, .bool x3, .int .i64 x4, .int .i64 x5, .bool x6] 0 true]
    ldc H7 H.length fun cs8 =>
    onSome cs8[0]? fun v9 =>
    kStr v9 fun s10 =>
    onSome (F11 [.string s10] H7) fun r11 =>
    kTup r11.1 fun vs12 =>
    onSome vs12[0]? fun v13 =>
    kStr v13 fun s14 =>
    kTup r11.1 fun vs15 =>
    onSome vs15[1]? fun v16 =>
    kBool v16 fun b17 =>
    ldc r11.2 H.length fun cs18 =>
    onSome cs18[(0 + 1)]? fun v19 =>
    kStr v19 fun s20 =>
    onSome (F37 [.string s14, .string s20] r11.2) fun r21 =>
    kBool r21.1 fun b22 =>
    some (.bool b22, r21.2) := by kernel_rfl
-- sternpost/sternpostref29.Answers
noncomputable def G26 : Fs := Fs.ext G25 25 F25
theorem A26 : AllSound Tryz.prog G26 := AllSound.ext A25 S25
noncomputable def cuts26 : Cuts := []
noncomputable def F26 : List Value → Heap → R := FN Tryz.prog G26 Tryz.f26 cuts26
theorem S26 : Sound Tryz.prog 26 F26 := FN_sound A26 Tryz.func26 (by kernel_rfl) (by kernel_rfl)
noncomputable abbrev R26 (m : Nat) : List Item → List Value → Heap → R := run Tryz.prog G26 Tryz.f26 cuts26 m
theorem t26 (m : Nat) (x0 : ByteArray) (x1 : ByteArray) (x2 : Bool) (x3 : Bool) (x4 : Int) (x5 : Int) (x6 : Bool) (H : Heap) : fnE Tryz.prog G26 Tryz.f26 cuts26 m [.agg #[.string x0, .string x1, .bool x2, .bool x3, .int .i64 x4, .int .i64 x5, .bool x6]] H =
    let H7 := H ++ [.cells [.string x0, .string x1, .bool x2, .bool x3, .int .i64 x4, .int .i64 x5, .bool x6] 0 true]
    ldc H7 H.length fun cs8 =>
    onSome cs8[0]? fun v9 =>
    kStr v9 fun s10 =>
    onSome (F12 [.string s10] H7) fun r11 =>
    kTup r11.1 fun vs12 =>
    onSome vs12[0]? fun v13 =>
    kStr v13 fun s14 =>
    kTup r11.1 fun vs15 =>
    onSome vs15[1]? fun v16 =>
    kBool v16 fun b17 =>
    ldc r11.2 H.length fun cs18 =>
    onSome cs18[(0 + 1)]? fun v19 =>
    kStr v19 fun s20 =>
    (match (decide ((s20.size : Int) ≤ (s14.size : Int))) with
    | true => (ldc r11.2 H.length fun cs21 =>
    onSome cs21[(0 + 1)]? fun v22 =>
    kStr v22 fun s23 =>
    slStr s14 (0 : Int) (s23.size : Int) fun v24 =>
    kStr v24 fun s25 =>
    ldc r11.2 H.length fun cs26 =>
    onSome cs26[(0 + 1)]? fun v27 =>
    kStr v27 fun s28 =>
    some (.bool (s25.toList == s28.toList), r11.2))
    | false => (some (.bool false, r11.2))) := by kernel_rfl
-- sternpost/sternpostlaw29.JudgeAnswers
noncomputable def G9 : Fs := Fs.ext G26 26 F26
theorem A9 : AllSound Tryz.prog G9 := AllSound.ext A26 S26
noncomputable def cuts9 : Cuts := []
noncomputable def F9 : List Value → Heap → R := FN Tryz.prog G9 Tryz.f9 cuts9
theorem S9 : Sound Tryz.prog 9 F9 := FN_sound A9 Tryz.func9 (by kernel_rfl) (by kernel_rfl)
noncomputable abbrev R9 (m : Nat) : List Item → List Value → Heap → R := run Tryz.prog G9 Tryz.f9 cuts9 m
theorem t9 (m : Nat) (x0 : ByteArray) (x1 : ByteArray) (H : Heap) : fnE Tryz.prog G9 Tryz.f9 cuts9 m [.string x0, .string x1] H =
    (match (decide ((3000 : Int) < (x0.size : Int))) with
    | true => (onSome (F24 [] H) fun r2 =>
    kBool r2.1 fun b3 =>
    some (.bool b3, r2.2))
    | false => (onSome (F25 [.agg #[.string x0, .string x1, .bool false, .bool false, .int .i64 (0 : Int), .int .i64 (0 : Int), .bool false]] H) fun r4 =>
    kBool r4.1 fun b5 =>
    onSome (F26 [.agg #[.string x0, .string x1, .bool false, .bool false, .int .i64 (0 : Int), .int .i64 (0 : Int), .bool false]] r4.2) fun r6 =>
    kBool r6.1 fun b7 =>
    (match (b5 == b7) with
    | true => (onSome (F24 [] r6.2) fun r8 =>
    kBool r8.1 fun b9 =>
    some (.bool b9, r8.2))
    | false => (some (.bool false, r6.2))))) := by kernel_rfl
end Go.Proofs.YtbheppfjaeocpaaGreatDoor
