/- PRINTED by a program of the session (Pr.lean): what functions of the program come to on the abstract heap, each checked by the kernel. Conditions: none. -/
import Derived.Test.YtbheppfjaeocpaaGreatDoorTA
import Derived.Test.YtbheppfjaeocpaaGreatDoorProg
set_option linter.unusedVariables false
namespace Go.Proofs.YtbheppfjaeocpaaGreatDoor
open Go Go.Proofs.YtbheppfjaeocpaaGreatDoor.Fw Go.RowKit
-- sternpost/sternpostbook.Among
noncomputable def G15 : Fs := Fs.ext G10 10 F10
theorem A15 : AllSound Tryz.prog G15 := AllSound.ext A10 S10
noncomputable def cuts15 : Cuts := []
noncomputable def F15 : List Value → Heap → R := FN Tryz.prog G15 Tryz.f15 cuts15
theorem S15 : Sound Tryz.prog 15 F15 := FN_sound A15 Tryz.func15 (by kernel_rfl) (by kernel_rfl)
noncomputable abbrev R15 (m : Nat) : List Item → List Value → Heap → R := run Tryz.prog G15 Tryz.f15 cuts15 m
theorem t15 (m : Nat) (x0 : Int) (x1 : Int) (H : Heap) : fnE Tryz.prog G15 Tryz.f15 cuts15 m [.int .i64 x0, .int .i64 x1] H =
    if x1 = 0 then none else
    if x1 = 0 then none else
    some (.int .i64 ((IntKind.i64.wrap ((x0.tmod x1) + x1)).tmod x1), H) := by kernel_rfl
-- (*sternpost/app.Session).Over
noncomputable def G18 : Fs := Fs.ext G15 15 F15
theorem A18 : AllSound Tryz.prog G18 := AllSound.ext A15 S15
noncomputable def cuts18 : Cuts := []
noncomputable def F18 : List Value → Heap → R := FN Tryz.prog G18 Tryz.f18 cuts18
theorem S18 : Sound Tryz.prog 18 F18 := FN_sound A18 Tryz.func18 (by kernel_rfl) (by kernel_rfl)
noncomputable abbrev R18 (m : Nat) : List Item → List Value → Heap → R := run Tryz.prog G18 Tryz.f18 cuts18 m
theorem t18 (m : Nat) (x0 : Option Addr) (H : Heap) : fnE Tryz.prog G18 Tryz.f18 cuts18 m [.pointer x0] H =
    onSome x0 fun a1 =>
    ldc H a1.block fun cs2 =>
    onSome cs2[(a1.off + 3)]? fun v3 =>
    kBool v3 fun b4 =>
    some (.bool b4, H) := by kernel_rfl
-- sternpost/sternpostlaw21.AppSums
noncomputable def G5 : Fs := Fs.ext G18 18 F18
theorem A5 : AllSound Tryz.prog G5 := AllSound.ext A18 S18
noncomputable def cuts5 : Cuts := [(100006, [0, 3, 4, 5]), (16, [0, 3, 4, 5, 8]), (14, [0, 3, 4, 5, 7, 8]), (18, [0, 3, 4]), (3, [])]
noncomputable def td5_100006 : List Item := todoOf Tryz.f5 100006
noncomputable def td5_16 : List Item := todoOf Tryz.f5 16
noncomputable def td5_14 : List Item := todoOf Tryz.f5 14
noncomputable def td5_18 : List Item := todoOf Tryz.f5 18
noncomputable def td5_3 : List Item := todoOf Tryz.f5 3
noncomputable def F5 : List Value → Heap → R := FN Tryz.prog G5 Tryz.f5 cuts5
theorem S5 : Sound Tryz.prog 5 F5 := FN_sound A5 Tryz.func5 (by kernel_rfl) (by kernel_rfl)
noncomputable abbrev R5 (m : Nat) : List Item → List Value → Heap → R := run Tryz.prog G5 Tryz.f5 cuts5 m
theorem t5 (m : Nat) (a0 : Option Addr) (l1 : Nat) (c2 : Nat) (H : Heap) : fnE Tryz.prog G5 Tryz.f5 cuts5 m [.slice a0 l1 c2] H =
    onSome (F13 [] H) fun r3 =>
    kPtr r3.1 fun p4 =>
    (match p4.isNone with
    | true => (R5 m td5_3 [] r3.2)
    | false => (onSome (F10 [] r3.2) fun r5 =>
    kBool r5.1 fun b6 =>
    (match (!b6) with
    | true => (R5 m td5_3 [] r5.2)
    | false => (R5 m td5_100006 [.slice a0 l1 c2, .pointer p4, .int .i64 (0 : Int), .int .i64 (0 : Int)] r5.2)))) := by kernel_rfl
theorem c5_3 (m : Nat)  (H : Heap) : R5 (m + 1) td5_3 [] H =
    some (.bool false, H) := by kernel_rfl
theorem c5_14 (m : Nat) (a0 : Option Addr) (l1 : Nat) (c2 : Nat) (x3 : Option Addr) (x4 : Int) (x5 : Int) (x6 : ByteArray) (x7 : Int) (H : Heap) : R5 (m + 1) td5_14 [.slice a0 l1 c2, .pointer x3, .int .i64 x4, .int .i64 x5, .string x6, .int .i64 x7] H =
    (match (!(x6.toList == (⟨#[66, 65, 68, 10]⟩ : ByteArray).toList)) with
    | true => (some (.bool false, H))
    | false => (R5 m td5_16 [.slice a0 l1 c2, .pointer x3, .int .i64 x4, .int .i64 x5, .int .i64 x7] H)) := by kernel_rfl
theorem c5_16 (m : Nat) (a0 : Option Addr) (l1 : Nat) (c2 : Nat) (x3 : Option Addr) (x4 : Int) (x5 : Int) (x6 : Int) (H : Heap) : R5 (m + 1) td5_16 [.slice a0 l1 c2, .pointer x3, .int .i64 x4, .int .i64 x5, .int .i64 x6] H =
    (match (x6 != (0 : Int)) with
    | true => (some (.bool false, H))
    | false => (R5 m td5_100006 [.slice a0 l1 c2, .pointer x3, .int .i64 x4, .int .i64 (IntKind.i64.wrap (x5 + (1 : Int)))] H)) := by kernel_rfl
theorem c5_18 (m : Nat) (a0 : Option Addr) (l1 : Nat) (c2 : Nat) (x3 : Option Addr) (x4 : Int) (H : Heap) : R5 (m + 1) td5_18 [.slice a0 l1 c2, .pointer x3, .int .i64 x4] H =
    onSome (F16 [.pointer x3, .string (⟨#[71, 69, 84, 32, 97, 10]⟩ : ByteArray)] H) fun r5 =>
    kTup r5.1 fun vs6 =>
    onSome vs6[0]? fun v7 =>
    kStr v7 fun s8 =>
    kTup r5.1 fun vs9 =>
    onSome vs9[1]? fun v10 =>
    kInt .i64 v10 fun n11 =>
    (match (n11 == (0 : Int)) with
    | true => ((match (((l1 : Nat) : Int) == (0 : Int)) with
    | true => ((match (s8.toList == (⟨#[78, 79, 78, 69, 10]⟩ : ByteArray).toList) with
    | true => (some (.bool true, r5.2))
    | false => (onSome (F14 [.int .i64 x4] r5.2) fun r12 =>
    kStr r12.1 fun s13 =>
    if (⟨#[86, 65, 76, 85, 69, 32]⟩ : ByteArray).size + s13.size ≤ 9223372036854775807 then
    if ((⟨#[86, 65, 76, 85, 69, 32]⟩ : ByteArray) ++ s13).size + (⟨#[10]⟩ : ByteArray).size ≤ 9223372036854775807 then
    some (.bool (s8.toList == (((⟨#[86, 65, 76, 85, 69, 32]⟩ : ByteArray) ++ s13) ++ (⟨#[10]⟩ : ByteArray)).toList), r12.2)
    else none
    else none)))
    | false => (onSome (F14 [.int .i64 x4] r5.2) fun r14 =>
    kStr r14.1 fun s15 =>
    if (⟨#[86, 65, 76, 85, 69, 32]⟩ : ByteArray).size + s15.size ≤ 9223372036854775807 then
    if ((⟨#[86, 65, 76, 85, 69, 32]⟩ : ByteArray) ++ s15).size + (⟨#[10]⟩ : ByteArray).size ≤ 9223372036854775807 then
    some (.bool (s8.toList == (((⟨#[86, 65, 76, 85, 69, 32]⟩ : ByteArray) ++ s15) ++ (⟨#[10]⟩ : ByteArray)).toList), r14.2)
    else none
    else none)))
    | false => (some (.bool false, r5.2))) := by kernel_rfl
theorem c5_100006 (m : Nat) (a0 : Option Addr) (l1 : Nat) (c2 : Nat) (x3 : Option Addr) (x4 : Int) (x5 : Int) (H : Heap) : R5 (m + 1) td5_100006 [.slice a0 l1 c2, .pointer x3, .int .i64 x4, .int .i64 x5] H =
    (match (decide (x5 < ((l1 : Nat) : Int))) with
    | true => ((match (decide (x5 < (40 : Int))) with
    | true => (onSome a0 fun a6 =>
    if 0 ≤ x5 ∧ x5 < (l1 : Nat) then
    ldc H ((a6.add (x5.toNat * 1)).block) fun cs7 =>
    onSome cs7[(a6.add (x5.toNat * 1)).off]? fun v8 =>
    kInt .i64 v8 fun n9 =>
    if (1000000000 : Int) = 0 then none else
    onSome (F14 [.int .i64 (n9.tmod (1000000000 : Int))] H) fun r10 =>
    kStr r10.1 fun s11 =>
    if (⟨#[65, 68, 68, 32, 97, 32]⟩ : ByteArray).size + s11.size ≤ 9223372036854775807 then
    if ((⟨#[65, 68, 68, 32, 97, 32]⟩ : ByteArray) ++ s11).size + (⟨#[10]⟩ : ByteArray).size ≤ 9223372036854775807 then
    onSome (F16 [.pointer x3, .string (((⟨#[65, 68, 68, 32, 97, 32]⟩ : ByteArray) ++ s11) ++ (⟨#[10]⟩ : ByteArray))] r10.2) fun r12 =>
    kTup r12.1 fun vs13 =>
    onSome vs13[0]? fun v14 =>
    kStr v14 fun s15 =>
    kTup r12.1 fun vs16 =>
    onSome vs16[1]? fun v17 =>
    kInt .i64 v17 fun n18 =>
    (match (decide ((-1000000000 : Int) < (IntKind.i64.wrap (x4 + (n9.tmod (1000000000 : Int)))))) with
    | true => ((match (decide ((IntKind.i64.wrap (x4 + (n9.tmod (1000000000 : Int)))) < (1000000000 : Int))) with
    | true => (onSome (F14 [.int .i64 (IntKind.i64.wrap (x4 + (n9.tmod (1000000000 : Int))))] r12.2) fun r19 =>
    kStr r19.1 fun s20 =>
    if (⟨#[86, 65, 76, 85, 69, 32]⟩ : ByteArray).size + s20.size ≤ 9223372036854775807 then
    if ((⟨#[86, 65, 76, 85, 69, 32]⟩ : ByteArray) ++ s20).size + (⟨#[10]⟩ : ByteArray).size ≤ 9223372036854775807 then
    (match (!(s15.toList == (((⟨#[86, 65, 76, 85, 69, 32]⟩ : ByteArray) ++ s20) ++ (⟨#[10]⟩ : ByteArray)).toList)) with
    | true => (some (.bool false, r19.2))
    | false => (R5 m td5_16 [.slice a0 l1 c2, .pointer x3, .int .i64 (IntKind.i64.wrap (x4 + (n9.tmod (1000000000 : Int)))), .int .i64 x5, .int .i64 n18] r19.2))
    else none
    else none)
    | false => (R5 m td5_14 [.slice a0 l1 c2, .pointer x3, .int .i64 x4, .int .i64 x5, .string s15, .int .i64 n18] r12.2)))
    | false => (R5 m td5_14 [.slice a0 l1 c2, .pointer x3, .int .i64 x4, .int .i64 x5, .string s15, .int .i64 n18] r12.2))
    else none
    else none
    else none)
    | false => (R5 m td5_18 [.slice a0 l1 c2, .pointer x3, .int .i64 x4] H)))
    | false => (R5 m td5_18 [.slice a0 l1 c2, .pointer x3, .int .i64 x4] H)) := by kernel_rfl
-- sternpost/sternpostlaw21.AppPieces
noncomputable def G6 : Fs := Fs.ext G5 5 F5
theorem A6 : AllSound Tryz.prog G6 := AllSound.ext A5 S5
noncomputable def cuts6 : Cuts := [(100011, [0, 1, 5, 6, 7, 8, 9, 10]), (27, [5, 6, 7, 8]), (20, [0, 1, 5, 6, 7, 8, 9, 10, 11, 12, 13]), (18, [0, 1, 5, 6, 7, 8, 9, 10, 11]), (16, [0, 1, 5, 6, 7, 8, 9, 10, 11])]
noncomputable def td6_100011 : List Item := todoOf Tryz.f6 100011
noncomputable def td6_27 : List Item := todoOf Tryz.f6 27
noncomputable def td6_20 : List Item := todoOf Tryz.f6 20
noncomputable def td6_18 : List Item := todoOf Tryz.f6 18
noncomputable def td6_16 : List Item := todoOf Tryz.f6 16
noncomputable def F6 : List Value → Heap → R := FN Tryz.prog G6 Tryz.f6 cuts6
theorem S6 : Sound Tryz.prog 6 F6 := FN_sound A6 Tryz.func6 (by kernel_rfl) (by kernel_rfl)
noncomputable abbrev R6 (m : Nat) : List Item → List Value → Heap → R := run Tryz.prog G6 Tryz.f6 cuts6 m
theorem t6 (m : Nat) (x0 : ByteArray) (a1 : Option Addr) (l2 : Nat) (c3 : Nat) (H : Heap) : fnE Tryz.prog G6 Tryz.f6 cuts6 m [.string x0, .slice a1 l2 c3] H =
    onSome (F10 [] H) fun r4 =>
    kBool r4.1 fun b5 =>
    (match (!b5) with
    | true => (some (.bool false, r4.2))
    | false => ((match (decide ((3000 : Int) < (x0.size : Int))) with
    | true => (some (.bool true, r4.2))
    | false => (onSome (F11 [.string x0] r4.2) fun r6 =>
    kTup r6.1 fun vs7 =>
    onSome vs7[0]? fun v8 =>
    kStr v8 fun s9 =>
    kTup r6.1 fun vs10 =>
    onSome vs10[1]? fun v11 =>
    kBool v11 fun b12 =>
    onSome (F13 [] r6.2) fun r13 =>
    kPtr r13.1 fun p14 =>
    (match p14.isNone with
    | true => (some (.bool false, r13.2))
    | false => (R6 m td6_100011 [.string x0, .slice a1 l2 c3, .string s9, .bool b12, .pointer p14, .string (⟨#[]⟩ : ByteArray), .int .i64 (0 : Int), .int .i64 (0 : Int)] r13.2)))))) := by kernel_rfl
theorem c6_16 (m : Nat) (x0 : ByteArray) (a1 : Option Addr) (l2 : Nat) (c3 : Nat) (x4 : ByteArray) (x5 : Bool) (x6 : Option Addr) (x7 : ByteArray) (x8 : Int) (x9 : Int) (x10 : Int) (H : Heap) : R6 (m + 1) td6_16 [.string x0, .slice a1 l2 c3, .string x4, .bool x5, .pointer x6, .string x7, .int .i64 x8, .int .i64 x9, .int .i64 x10] H =
    (match (decide ((200 : Int) < x9)) with
    | true => (R6 m td6_18 [.string x0, .slice a1 l2 c3, .string x4, .bool x5, .pointer x6, .string x7, .int .i64 x8, .int .i64 x9, .int .i64 (IntKind.i64.wrap ((x0.size : Int) - x8))] H)
    | false => (R6 m td6_18 [.string x0, .slice a1 l2 c3, .string x4, .bool x5, .pointer x6, .string x7, .int .i64 x8, .int .i64 x9, .int .i64 x10] H)) := by kernel_rfl
theorem c6_18 (m : Nat) (x0 : ByteArray) (a1 : Option Addr) (l2 : Nat) (c3 : Nat) (x4 : ByteArray) (x5 : Bool) (x6 : Option Addr) (x7 : ByteArray) (x8 : Int) (x9 : Int) (x10 : Int) (H : Heap) : R6 (m + 1) td6_18 [.string x0, .slice a1 l2 c3, .string x4, .bool x5, .pointer x6, .string x7, .int .i64 x8, .int .i64 x9, .int .i64 x10] H =
    slStr x0 x8 (IntKind.i64.wrap (x8 + x10)) fun v11 =>
    kStr v11 fun s12 =>
    onSome (F16 [.pointer x6, .string s12] H) fun r13 =>
    kTup r13.1 fun vs14 =>
    onSome vs14[0]? fun v15 =>
    kStr v15 fun s16 =>
    kTup r13.1 fun vs17 =>
    onSome vs17[1]? fun v18 =>
    kInt .i64 v18 fun n19 =>
    onSome (F18 [.pointer x6] r13.2) fun r20 =>
    kBool r20.1 fun b21 =>
    (match b21 with
    | true => ((match (n19 == (183 : Int)) with
    | true => (R6 m td6_27 [.string x4, .bool x5, .pointer x6, .string x7] r20.2)
    | false => (R6 m td6_20 [.string x0, .slice a1 l2 c3, .string x4, .bool x5, .pointer x6, .string x7, .int .i64 x8, .int .i64 x9, .int .i64 x10, .string s16, .int .i64 n19] r20.2)))
    | false => (R6 m td6_20 [.string x0, .slice a1 l2 c3, .string x4, .bool x5, .pointer x6, .string x7, .int .i64 x8, .int .i64 x9, .int .i64 x10, .string s16, .int .i64 n19] r20.2)) := by kernel_rfl
theorem c6_20 (m : Nat) (x0 : ByteArray) (a1 : Option Addr) (l2 : Nat) (c3 : Nat) (x4 : ByteArray) (x5 : Bool) (x6 : Option Addr) (x7 : ByteArray) (x8 : Int) (x9 : Int) (x10 : Int) (x11 : ByteArray) (x12 : Int) (H : Heap) : R6 (m + 1) td6_20 [.string x0, .slice a1 l2 c3, .string x4, .bool x5, .pointer x6, .string x7, .int .i64 x8, .int .i64 x9, .int .i64 x10, .string x11, .int .i64 x12] H =
    (match (x12 != (0 : Int)) with
    | true => (some (.bool false, H))
    | false => (if x7.size + x11.size ≤ 9223372036854775807 then
    slStr x0 (0 : Int) (IntKind.i64.wrap (x8 + x10)) fun v13 =>
    kStr v13 fun s14 =>
    onSome (F11 [.string s14] H) fun r15 =>
    kTup r15.1 fun vs16 =>
    onSome vs16[0]? fun v17 =>
    kStr v17 fun s18 =>
    kTup r15.1 fun vs19 =>
    onSome vs19[1]? fun v20 =>
    kBool v20 fun b21 =>
    (match (!(s18.toList == (x7 ++ x11).toList)) with
    | true => (some (.bool false, r15.2))
    | false => (R6 m td6_100011 [.string x0, .slice a1 l2 c3, .string x4, .bool x5, .pointer x6, .string (x7 ++ x11), .int .i64 (IntKind.i64.wrap (x8 + x10)), .int .i64 (IntKind.i64.wrap (x9 + (1 : Int)))] r15.2))
    else none)) := by kernel_rfl
theorem c6_27 (m : Nat) (x0 : ByteArray) (x1 : Bool) (x2 : Option Addr) (x3 : ByteArray) (H : Heap) : R6 (m + 1) td6_27 [.string x0, .bool x1, .pointer x2, .string x3] H =
    (match (x3.toList == x0.toList) with
    | true => (onSome (F18 [.pointer x2] H) fun r4 =>
    kBool r4.1 fun b5 =>
    some (.bool (b5 == x1), r4.2))
    | false => (some (.bool false, H))) := by kernel_rfl
theorem c6_100011 (m : Nat) (x0 : ByteArray) (a1 : Option Addr) (l2 : Nat) (c3 : Nat) (x4 : ByteArray) (x5 : Bool) (x6 : Option Addr) (x7 : ByteArray) (x8 : Int) (x9 : Int) (H : Heap) : R6 (m + 1) td6_100011 [.string x0, .slice a1 l2 c3, .string x4, .bool x5, .pointer x6, .string x7, .int .i64 x8, .int .i64 x9] H =
    (match (decide (x8 < (x0.size : Int))) with
    | true => ((match (decide (x9 < ((l2 : Nat) : Int))) with
    | true => (onSome a1 fun a10 =>
    if 0 ≤ x9 ∧ x9 < (l2 : Nat) then
    ldc H ((a10.add (x9.toNat * 1)).block) fun cs11 =>
    onSome cs11[(a10.add (x9.toNat * 1)).off]? fun v12 =>
    kInt .i64 v12 fun n13 =>
    onSome (F15 [.int .i64 n13, .int .i64 (60 : Int)] H) fun r14 =>
    kInt .i64 r14.1 fun n15 =>
    R6 m td6_16 [.string x0, .slice a1 l2 c3, .string x4, .bool x5, .pointer x6, .string x7, .int .i64 x8, .int .i64 x9, .int .i64 (mni (IntKind.i64.wrap ((x0.size : Int) - x8)) n15)] r14.2
    else none)
    | false => (R6 m td6_16 [.string x0, .slice a1 l2 c3, .string x4, .bool x5, .pointer x6, .string x7, .int .i64 x8, .int .i64 x9, .int .i64 (IntKind.i64.wrap ((x0.size : Int) - x8))] H)))
    | false => (R6 m td6_27 [.string x4, .bool x5, .pointer x6, .string x7] H)) := by kernel_rfl
-- sternpost/sternpostlaw21.AppApart
noncomputable def G7 : Fs := Fs.ext G6 6 F6
theorem A7 : AllSound Tryz.prog G7 := AllSound.ext A6 S6
noncomputable def cuts7 : Cuts := [(100006, [0, 1, 5, 6, 7, 8, 9, 10, 11]), (7, [0, 1, 5, 6, 7, 8, 9, 10, 11]), (13, [0, 1, 5, 6, 7, 8, 9, 10, 11]), (18, [5, 6, 7, 8, 9, 10]), (3, [])]
noncomputable def td7_100006 : List Item := todoOf Tryz.f7 100006
noncomputable def td7_7 : List Item := todoOf Tryz.f7 7
noncomputable def td7_13 : List Item := todoOf Tryz.f7 13
noncomputable def td7_18 : List Item := todoOf Tryz.f7 18
noncomputable def td7_3 : List Item := todoOf Tryz.f7 3
noncomputable def F7 : List Value → Heap → R := FN Tryz.prog G7 Tryz.f7 cuts7
theorem S7 : Sound Tryz.prog 7 F7 := FN_sound A7 Tryz.func7 (by kernel_rfl) (by kernel_rfl)
noncomputable abbrev R7 (m : Nat) : List Item → List Value → Heap → R := run Tryz.prog G7 Tryz.f7 cuts7 m
theorem t7 (m : Nat) (a0 : Option Addr) (l1 : Nat) (c2 : Nat) (a3 : Option Addr) (l4 : Nat) (c5 : Nat) (H : Heap) : fnE Tryz.prog G7 Tryz.f7 cuts7 m [.slice a0 l1 c2, .slice a3 l4 c5] H =
    onSome (F13 [] H) fun r6 =>
    kPtr r6.1 fun p7 =>
    onSome (F13 [] r6.2) fun r8 =>
    kPtr r8.1 fun p9 =>
    (match p7.isNone with
    | true => (R7 m td7_3 [] r8.2)
    | false => ((match p9.isNone with
    | true => (R7 m td7_3 [] r8.2)
    | false => (onSome (F10 [] r8.2) fun r10 =>
    kBool r10.1 fun b11 =>
    (match (!b11) with
    | true => (R7 m td7_3 [] r10.2)
    | false => (R7 m td7_100006 [.slice a0 l1 c2, .slice a3 l4 c5, .pointer p7, .pointer p9, .string (⟨#[]⟩ : ByteArray), .string (⟨#[]⟩ : ByteArray), .string (⟨#[]⟩ : ByteArray), .string (⟨#[]⟩ : ByteArray), .int .i64 (0 : Int)] r10.2)))))) := by kernel_rfl
theorem c7_3 (m : Nat)  (H : Heap) : R7 (m + 1) td7_3 [] H =
    some (.bool false, H) := by kernel_rfl
theorem c7_7 (m : Nat) (a0 : Option Addr) (l1 : Nat) (c2 : Nat) (a3 : Option Addr) (l4 : Nat) (c5 : Nat) (x6 : Option Addr) (x7 : Option Addr) (x8 : ByteArray) (x9 : ByteArray) (x10 : ByteArray) (x11 : ByteArray) (x12 : Int) (H : Heap) : R7 (m + 1) td7_7 [.slice a0 l1 c2, .slice a3 l4 c5, .pointer x6, .pointer x7, .string x8, .string x9, .string x10, .string x11, .int .i64 x12] H =
    R7 m td7_100006 [.slice a0 l1 c2, .slice a3 l4 c5, .pointer x6, .pointer x7, .string x8, .string x9, .string x10, .string x11, .int .i64 (IntKind.i64.wrap (x12 + (1 : Int)))] H := by kernel_rfl
theorem c7_13 (m : Nat) (a0 : Option Addr) (l1 : Nat) (c2 : Nat) (a3 : Option Addr) (l4 : Nat) (c5 : Nat) (x6 : Option Addr) (x7 : Option Addr) (x8 : ByteArray) (x9 : ByteArray) (x10 : ByteArray) (x11 : ByteArray) (x12 : Int) (H : Heap) : R7 (m + 1) td7_13 [.slice a0 l1 c2, .slice a3 l4 c5, .pointer x6, .pointer x7, .string x8, .string x9, .string x10, .string x11, .int .i64 x12] H =
    (match (decide (x12 < ((l4 : Nat) : Int))) with
    | true => (onSome a3 fun a13 =>
    if 0 ≤ x12 ∧ x12 < (l4 : Nat) then
    ldc H ((a13.add (x12.toNat * 1)).block) fun cs14 =>
    onSome cs14[(a13.add (x12.toNat * 1)).off]? fun v15 =>
    kStr v15 fun s16 =>
    (match (decide ((IntKind.i64.wrap ((x9.size : Int) + (s16.size : Int))) ≤ (2000 : Int))) with
    | true => (onSome a3 fun a17 =>
    if 0 ≤ x12 ∧ x12 < (l4 : Nat) then
    ldc H ((a17.add (x12.toNat * 1)).block) fun cs18 =>
    onSome cs18[(a17.add (x12.toNat * 1)).off]? fun v19 =>
    kStr v19 fun s20 =>
    onSome (F16 [.pointer x7, .string s20] H) fun r21 =>
    kTup r21.1 fun vs22 =>
    onSome vs22[0]? fun v23 =>
    kStr v23 fun s24 =>
    kTup r21.1 fun vs25 =>
    onSome vs25[1]? fun v26 =>
    kInt .i64 v26 fun n27 =>
    (match (n27 == (0 : Int)) with
    | true => (onSome a3 fun a28 =>
    if 0 ≤ x12 ∧ x12 < (l4 : Nat) then
    ldc r21.2 ((a28.add (x12.toNat * 1)).block) fun cs29 =>
    onSome cs29[(a28.add (x12.toNat * 1)).off]? fun v30 =>
    kStr v30 fun s31 =>
    if x9.size + s31.size ≤ 9223372036854775807 then
    if x11.size + s24.size ≤ 9223372036854775807 then
    R7 m td7_7 [.slice a0 l1 c2, .slice a3 l4 c5, .pointer x6, .pointer x7, .string x8, .string (x9 ++ s31), .string x10, .string (x11 ++ s24), .int .i64 x12] r21.2
    else none
    else none
    else none)
    | false => (R7 m td7_7 [.slice a0 l1 c2, .slice a3 l4 c5, .pointer x6, .pointer x7, .string x8, .string x9, .string x10, .string x11, .int .i64 x12] r21.2))
    else none)
    | false => (R7 m td7_7 [.slice a0 l1 c2, .slice a3 l4 c5, .pointer x6, .pointer x7, .string x8, .string x9, .string x10, .string x11, .int .i64 x12] H))
    else none)
    | false => (R7 m td7_7 [.slice a0 l1 c2, .slice a3 l4 c5, .pointer x6, .pointer x7, .string x8, .string x9, .string x10, .string x11, .int .i64 x12] H)) := by kernel_rfl
theorem c7_18 (m : Nat) (x0 : Option Addr) (x1 : Option Addr) (x2 : ByteArray) (x3 : ByteArray) (x4 : ByteArray) (x5 : ByteArray) (H : Heap) : R7 (m + 1) td7_18 [.pointer x0, .pointer x1, .string x2, .string x3, .string x4, .string x5] H =
    onSome (F11 [.string x2] H) fun r6 =>
    kTup r6.1 fun vs7 =>
    onSome vs7[0]? fun v8 =>
    kStr v8 fun s9 =>
    kTup r6.1 fun vs10 =>
    onSome vs10[1]? fun v11 =>
    kBool v11 fun b12 =>
    onSome (F11 [.string x3] r6.2) fun r13 =>
    kTup r13.1 fun vs14 =>
    onSome vs14[0]? fun v15 =>
    kStr v15 fun s16 =>
    kTup r13.1 fun vs17 =>
    onSome vs17[1]? fun v18 =>
    kBool v18 fun b19 =>
    (match (x4.toList == s9.toList) with
    | true => ((match (x5.toList == s16.toList) with
    | true => (onSome (F18 [.pointer x0] r13.2) fun r20 =>
    kBool r20.1 fun b21 =>
    (match (b21 == b12) with
    | true => (onSome (F18 [.pointer x1] r20.2) fun r22 =>
    kBool r22.1 fun b23 =>
    some (.bool (b23 == b19), r22.2))
    | false => (some (.bool false, r20.2))))
    | false => (some (.bool false, r13.2))))
    | false => (some (.bool false, r13.2))) := by kernel_rfl
theorem c7_100006 (m : Nat) (a0 : Option Addr) (l1 : Nat) (c2 : Nat) (a3 : Option Addr) (l4 : Nat) (c5 : Nat) (x6 : Option Addr) (x7 : Option Addr) (x8 : ByteArray) (x9 : ByteArray) (x10 : ByteArray) (x11 : ByteArray) (x12 : Int) (H : Heap) : R7 (m + 1) td7_100006 [.slice a0 l1 c2, .slice a3 l4 c5, .pointer x6, .pointer x7, .string x8, .string x9, .string x10, .string x11, .int .i64 x12] H =
    (match (decide (x12 < (mxi ((l1 : Nat) : Int) ((l4 : Nat) : Int)))) with
    | true => ((match (decide (x12 < (60 : Int))) with
    | true => ((match (decide (x12 < ((l1 : Nat) : Int))) with
    | true => (onSome a0 fun a13 =>
    if 0 ≤ x12 ∧ x12 < (l1 : Nat) then
    ldc H ((a13.add (x12.toNat * 1)).block) fun cs14 =>
    onSome cs14[(a13.add (x12.toNat * 1)).off]? fun v15 =>
    kStr v15 fun s16 =>
    (match (decide ((IntKind.i64.wrap ((x8.size : Int) + (s16.size : Int))) ≤ (2000 : Int))) with
    | true => (onSome a0 fun a17 =>
    if 0 ≤ x12 ∧ x12 < (l1 : Nat) then
    ldc H ((a17.add (x12.toNat * 1)).block) fun cs18 =>
    onSome cs18[(a17.add (x12.toNat * 1)).off]? fun v19 =>
    kStr v19 fun s20 =>
    onSome (F16 [.pointer x6, .string s20] H) fun r21 =>
    kTup r21.1 fun vs22 =>
    onSome vs22[0]? fun v23 =>
    kStr v23 fun s24 =>
    kTup r21.1 fun vs25 =>
    onSome vs25[1]? fun v26 =>
    kInt .i64 v26 fun n27 =>
    (match (n27 == (0 : Int)) with
    | true => (onSome a0 fun a28 =>
    if 0 ≤ x12 ∧ x12 < (l1 : Nat) then
    ldc r21.2 ((a28.add (x12.toNat * 1)).block) fun cs29 =>
    onSome cs29[(a28.add (x12.toNat * 1)).off]? fun v30 =>
    kStr v30 fun s31 =>
    if x8.size + s31.size ≤ 9223372036854775807 then
    if x10.size + s24.size ≤ 9223372036854775807 then
    R7 m td7_13 [.slice a0 l1 c2, .slice a3 l4 c5, .pointer x6, .pointer x7, .string (x8 ++ s31), .string x9, .string (x10 ++ s24), .string x11, .int .i64 x12] r21.2
    else none
    else none
    else none)
    | false => (R7 m td7_13 [.slice a0 l1 c2, .slice a3 l4 c5, .pointer x6, .pointer x7, .string x8, .string x9, .string x10, .string x11, .int .i64 x12] r21.2))
    else none)
    | false => (R7 m td7_13 [.slice a0 l1 c2, .slice a3 l4 c5, .pointer x6, .pointer x7, .string x8, .string x9, .string x10, .string x11, .int .i64 x12] H))
    else none)
    | false => (R7 m td7_13 [.slice a0 l1 c2, .slice a3 l4 c5, .pointer x6, .pointer x7, .string x8, .string x9, .string x10, .string x11, .int .i64 x12] H)))
    | false => (R7 m td7_18 [.pointer x6, .pointer x7, .string x8, .string x9, .string x10, .string x11] H)))
    | false => (R7 m td7_18 [.pointer x6, .pointer x7, .string x8, .string x9, .string x10, .string x11] H)) := by kernel_rfl
-- sternpost/sternpostlaw21.AppKeeps
noncomputable def G4 : Fs := Fs.ext G7 7 F7
theorem A4 : AllSound Tryz.prog G4 := AllSound.ext A7 S7
noncomputable def cuts4 : Cuts := [(100006, [0, 3, 4, 5]), (100012, [0, 3, 4, 5, 6, 7, 8, 53, 54]), (100042, [4, 16, 17]), (37, [0, 3, 4, 5, 12, 13]), (36, [0, 3, 4, 5, 6, 12, 13]), (39, []), (7, [0, 3, 4, 5]), (15, [0, 3, 4, 5, 6, 7, 8, 53, 54]), (40, [3, 4]), (3, [])]
noncomputable def td4_100006 : List Item := todoOf Tryz.f4 100006
noncomputable def td4_100012 : List Item := todoOf Tryz.f4 100012
noncomputable def td4_100042 : List Item := todoOf Tryz.f4 100042
noncomputable def td4_37 : List Item := todoOf Tryz.f4 37
noncomputable def td4_36 : List Item := todoOf Tryz.f4 36
noncomputable def td4_39 : List Item := todoOf Tryz.f4 39
noncomputable def td4_7 : List Item := todoOf Tryz.f4 7
noncomputable def td4_15 : List Item := todoOf Tryz.f4 15
noncomputable def td4_40 : List Item := todoOf Tryz.f4 40
noncomputable def td4_3 : List Item := todoOf Tryz.f4 3
noncomputable def F4 : List Value → Heap → R := FN Tryz.prog G4 Tryz.f4 cuts4
theorem S4 : Sound Tryz.prog 4 F4 := FN_sound A4 Tryz.func4 (by kernel_rfl) (by kernel_rfl)
noncomputable abbrev R4 (m : Nat) : List Item → List Value → Heap → R := run Tryz.prog G4 Tryz.f4 cuts4 m
theorem t4 (m : Nat) (a0 : Option Addr) (l1 : Nat) (c2 : Nat) (H : Heap) : fnE Tryz.prog G4 Tryz.f4 cuts4 m [.slice a0 l1 c2] H =
    onSome (F13 [] H) fun r3 =>
    kPtr r3.1 fun p4 =>
    (match p4.isNone with
    | true => (R4 m td4_3 [] r3.2)
    | false => (onSome (F10 [] r3.2) fun r5 =>
    kBool r5.1 fun b6 =>
    (match (!b6) with
    | true => (R4 m td4_3 [] r5.2)
    | false => (let H7 := r5.2 ++ [.map []]
    R4 m td4_100006 [.slice a0 l1 c2, .pointer p4, .map (some r5.2.length), .int .i64 (0 : Int)] H7)))) := by kernel_rfl
theorem c4_3 (m : Nat)  (H : Heap) : R4 (m + 1) td4_3 [] H =
    some (.bool false, H) := by kernel_rfl
theorem c4_7 (m : Nat) (a0 : Option Addr) (l1 : Nat) (c2 : Nat) (x3 : Option Addr) (x4 : Option Nat) (x5 : Int) (H : Heap) : R4 (m + 1) td4_7 [.slice a0 l1 c2, .pointer x3, .map x4, .int .i64 x5] H =
    R4 m td4_100006 [.slice a0 l1 c2, .pointer x3, .map x4, .int .i64 (IntKind.i64.wrap (x5 + (1 : Int)))] H := by kernel_rfl
theorem c4_15 (m : Nat) (a0 : Option Addr) (l1 : Nat) (c2 : Nat) (x3 : Option Addr) (x4 : Option Nat) (x5 : Int) (x6 : ByteArray) (x7 : ByteArray) (x8 : Bool) (x9 : Int) (x10 : Int) (H : Heap) : R4 (m + 1) td4_15 [.slice a0 l1 c2, .pointer x3, .map x4, .int .i64 x5, .string x6, .string x7, .bool x8, .int .i64 x9, .int .i64 x10] H =
    R4 m td4_100012 [.slice a0 l1 c2, .pointer x3, .map x4, .int .i64 x5, .string x6, .string x7, .bool x8, .int .i64 x9, .int .i64 (IntKind.i64.wrap (x10 + (1 : Int)))] H := by kernel_rfl
theorem c4_36 (m : Nat) (a0 : Option Addr) (l1 : Nat) (c2 : Nat) (x3 : Option Addr) (x4 : Option Nat) (x5 : Int) (x6 : ByteArray) (x7 : ByteArray) (x8 : ByteArray) (H : Heap) : R4 (m + 1) td4_36 [.slice a0 l1 c2, .pointer x3, .map x4, .int .i64 x5, .string x6, .string x7, .string x8] H =
    dele H x4 (.string x6) fun H9 =>
    R4 m td4_37 [.slice a0 l1 c2, .pointer x3, .map x4, .int .i64 x5, .string x7, .string x8] H9 := by kernel_rfl
theorem c4_37 (m : Nat) (a0 : Option Addr) (l1 : Nat) (c2 : Nat) (x3 : Option Addr) (x4 : Option Nat) (x5 : Int) (x6 : ByteArray) (x7 : ByteArray) (H : Heap) : R4 (m + 1) td4_37 [.slice a0 l1 c2, .pointer x3, .map x4, .int .i64 x5, .string x6, .string x7] H =
    if x7.size + (⟨#[10, 67, 79, 85, 78, 84, 10]⟩ : ByteArray).size ≤ 9223372036854775807 then
    onSome (F16 [.pointer x3, .string (x7 ++ (⟨#[10, 67, 79, 85, 78, 84, 10]⟩ : ByteArray))] H) fun r8 =>
    kTup r8.1 fun vs9 =>
    onSome vs9[0]? fun v10 =>
    kStr v10 fun s11 =>
    kTup r8.1 fun vs12 =>
    onSome vs12[1]? fun v13 =>
    kInt .i64 v13 fun n14 =>
    (match (n14 != (0 : Int)) with
    | true => (R4 m td4_39 [] r8.2)
    | false => (if x6.size + (⟨#[10, 67, 79, 85, 78, 84, 32]⟩ : ByteArray).size ≤ 9223372036854775807 then
    ldmo r8.2 x4 fun es15 =>
    onSome (F14 [.int .i64 (es15.length : Int)] r8.2) fun r16 =>
    kStr r16.1 fun s17 =>
    if (x6 ++ (⟨#[10, 67, 79, 85, 78, 84, 32]⟩ : ByteArray)).size + s17.size ≤ 9223372036854775807 then
    if ((x6 ++ (⟨#[10, 67, 79, 85, 78, 84, 32]⟩ : ByteArray)) ++ s17).size + (⟨#[10]⟩ : ByteArray).size ≤ 9223372036854775807 then
    (match (!(s11.toList == (((x6 ++ (⟨#[10, 67, 79, 85, 78, 84, 32]⟩ : ByteArray)) ++ s17) ++ (⟨#[10]⟩ : ByteArray)).toList)) with
    | true => (R4 m td4_39 [] r16.2)
    | false => (R4 m td4_7 [.slice a0 l1 c2, .pointer x3, .map x4, .int .i64 x5] r16.2))
    else none
    else none
    else none))
    else none := by kernel_rfl
theorem c4_39 (m : Nat)  (H : Heap) : R4 (m + 1) td4_39 [] H =
    some (.bool false, H) := by kernel_rfl
theorem c4_40 (m : Nat) (x0 : Option Addr) (x1 : Option Nat) (H : Heap) : R4 (m + 1) td4_40 [.pointer x0, .map x1] H =
    onSome (F17 [.pointer x0] H) fun r2 =>
    kSl r2.1 fun a3 l4 c5 =>
    R4 m td4_100042 [.map x1, .slice a3 l4 c5, .int .i64 (1 : Int)] r2.2 := by kernel_rfl
theorem c4_100006 (m : Nat) (a0 : Option Addr) (l1 : Nat) (c2 : Nat) (x3 : Option Addr) (x4 : Option Nat) (x5 : Int) (H : Heap) : R4 (m + 1) td4_100006 [.slice a0 l1 c2, .pointer x3, .map x4, .int .i64 x5] H =
    (match (decide (x5 < ((l1 : Nat) : Int))) with
    | true => ((match (decide (x5 < (40 : Int))) with
    | true => (onSome a0 fun a6 =>
    if 0 ≤ x5 ∧ x5 < (l1 : Nat) then
    ldc H ((a6.add (x5.toNat * 3)).block) fun cs7 =>
    onSome cs7[((a6.add (x5.toNat * 3)).off + 1)]? fun v8 =>
    kInt .i64 v8 fun n9 =>
    onSome (F15 [.int .i64 n9, .int .i64 (9 : Int)] H) fun r10 =>
    kInt .i64 r10.1 fun n11 =>
    onSome (F14 [.int .i64 n11] r10.2) fun r12 =>
    kStr r12.1 fun s13 =>
    if (⟨#[107]⟩ : ByteArray).size + s13.size ≤ 9223372036854775807 then
    onSome a0 fun a14 =>
    if 0 ≤ x5 ∧ x5 < (l1 : Nat) then
    ldc r12.2 ((a14.add (x5.toNat * 3)).block) fun cs15 =>
    onSome cs15[((a14.add (x5.toNat * 3)).off + 2)]? fun v16 =>
    kStr v16 fun s17 =>
    R4 m td4_100012 [.slice a0 l1 c2, .pointer x3, .map x4, .int .i64 x5, .string ((⟨#[107]⟩ : ByteArray) ++ s13), .string s17, .bool (decide ((100 : Int) < (s17.size : Int))), .int .i64 (s17.size : Int), .int .i64 (0 : Int)] r12.2
    else none
    else none
    else none)
    | false => (R4 m td4_40 [.pointer x3, .map x4] H)))
    | false => (R4 m td4_40 [.pointer x3, .map x4] H)) := by kernel_rfl
theorem c4_100012 (m : Nat) (a0 : Option Addr) (l1 : Nat) (c2 : Nat) (x3 : Option Addr) (x4 : Option Nat) (x5 : Int) (x6 : ByteArray) (x7 : ByteArray) (x8 : Bool) (x9 : Int) (x10 : Int) (H : Heap) : R4 (m + 1) td4_100012 [.slice a0 l1 c2, .pointer x3, .map x4, .int .i64 x5, .string x6, .string x7, .bool x8, .int .i64 x9, .int .i64 x10] H =
    (match (decide (x10 < x9)) with
    | true => ((match x8 with
    | true => (R4 m td4_15 [.slice a0 l1 c2, .pointer x3, .map x4, .int .i64 x5, .string x6, .string x7, .bool true, .int .i64 x9, .int .i64 x10] H)
    | false => (if 0 ≤ x10 ∧ x10 < x7.size then
    R4 m td4_15 [.slice a0 l1 c2, .pointer x3, .map x4, .int .i64 x5, .string x6, .string x7, .bool ((byteAt x7 x10.toNat) == (10 : Int)), .int .i64 x9, .int .i64 x10] H
    else none)))
    | false => ((match x8 with
    | true => (R4 m td4_7 [.slice a0 l1 c2, .pointer x3, .map x4, .int .i64 x5] H)
    | false => (lookupK Tryz.prog 29 H (.map x4) (.string x6) true fun v11 =>
    kTup v11 fun vs12 =>
    onSome vs12[0]? fun v13 =>
    kStr v13 fun s14 =>
    kTup v11 fun vs15 =>
    onSome vs15[1]? fun v16 =>
    kBool v16 fun b17 =>
    onSome a0 fun a18 =>
    if 0 ≤ x5 ∧ x5 < (l1 : Nat) then
    ldc H ((a18.add (x5.toNat * 3)).block) fun cs19 =>
    onSome cs19[(a18.add (x5.toNat * 3)).off]? fun v20 =>
    kInt .i64 v20 fun n21 =>
    onSome (F15 [.int .i64 n21, .int .i64 (4 : Int)] H) fun r22 =>
    kInt .i64 r22.1 fun n23 =>
    (match (n23 == (0 : Int)) with
    | true => (if (⟨#[80, 85, 84, 32]⟩ : ByteArray).size + x6.size ≤ 9223372036854775807 then
    if ((⟨#[80, 85, 84, 32]⟩ : ByteArray) ++ x6).size + (⟨#[32]⟩ : ByteArray).size ≤ 9223372036854775807 then
    if (((⟨#[80, 85, 84, 32]⟩ : ByteArray) ++ x6) ++ (⟨#[32]⟩ : ByteArray)).size + x7.size ≤ 9223372036854775807 then
    onSome x4 fun q24 =>
    mupd r22.2 q24 (.string x6) (.string x7) fun H25 =>
    R4 m td4_37 [.slice a0 l1 c2, .pointer x3, .map x4, .int .i64 x5, .string (⟨#[79, 75]⟩ : ByteArray), .string ((((⟨#[80, 85, 84, 32]⟩ : ByteArray) ++ x6) ++ (⟨#[32]⟩ : ByteArray)) ++ x7)] H25
    else none
    else none
    else none)
    | false => ((match (n23 == (1 : Int)) with
    | true => (if (⟨#[71, 69, 84, 32]⟩ : ByteArray).size + x6.size ≤ 9223372036854775807 then
    (match b17 with
    | true => (if (⟨#[86, 65, 76, 85, 69, 32]⟩ : ByteArray).size + s14.size ≤ 9223372036854775807 then
    R4 m td4_37 [.slice a0 l1 c2, .pointer x3, .map x4, .int .i64 x5, .string ((⟨#[86, 65, 76, 85, 69, 32]⟩ : ByteArray) ++ s14), .string ((⟨#[71, 69, 84, 32]⟩ : ByteArray) ++ x6)] r22.2
    else none)
    | false => (R4 m td4_37 [.slice a0 l1 c2, .pointer x3, .map x4, .int .i64 x5, .string (⟨#[78, 79, 78, 69]⟩ : ByteArray), .string ((⟨#[71, 69, 84, 32]⟩ : ByteArray) ++ x6)] r22.2))
    else none)
    | false => ((match (n23 == (2 : Int)) with
    | true => (if (⟨#[68, 69, 76, 32]⟩ : ByteArray).size + x6.size ≤ 9223372036854775807 then
    (match b17 with
    | true => (R4 m td4_36 [.slice a0 l1 c2, .pointer x3, .map x4, .int .i64 x5, .string x6, .string (⟨#[79, 75]⟩ : ByteArray), .string ((⟨#[68, 69, 76, 32]⟩ : ByteArray) ++ x6)] r22.2)
    | false => (R4 m td4_36 [.slice a0 l1 c2, .pointer x3, .map x4, .int .i64 x5, .string x6, .string (⟨#[78, 79, 78, 69]⟩ : ByteArray), .string ((⟨#[68, 69, 76, 32]⟩ : ByteArray) ++ x6)] r22.2))
    else none)
    | false => (if (⟨#[65, 80, 80, 32]⟩ : ByteArray).size + x6.size ≤ 9223372036854775807 then
    if ((⟨#[65, 80, 80, 32]⟩ : ByteArray) ++ x6).size + (⟨#[32]⟩ : ByteArray).size ≤ 9223372036854775807 then
    if (((⟨#[65, 80, 80, 32]⟩ : ByteArray) ++ x6) ++ (⟨#[32]⟩ : ByteArray)).size + x7.size ≤ 9223372036854775807 then
    (match (decide ((IntKind.i64.wrap ((s14.size : Int) + (x7.size : Int))) ≤ (200 : Int))) with
    | true => (if s14.size + x7.size ≤ 9223372036854775807 then
    onSome x4 fun q26 =>
    mupd r22.2 q26 (.string x6) (.string (s14 ++ x7)) fun H27 =>
    lookupK Tryz.prog 29 H27 (.map x4) (.string x6) false fun v28 =>
    kStr v28 fun s29 =>
    onSome (F14 [.int .i64 (s29.size : Int)] H27) fun r30 =>
    kStr r30.1 fun s31 =>
    if (⟨#[67, 79, 85, 78, 84, 32]⟩ : ByteArray).size + s31.size ≤ 9223372036854775807 then
    R4 m td4_37 [.slice a0 l1 c2, .pointer x3, .map x4, .int .i64 x5, .string ((⟨#[67, 79, 85, 78, 84, 32]⟩ : ByteArray) ++ s31), .string ((((⟨#[65, 80, 80, 32]⟩ : ByteArray) ++ x6) ++ (⟨#[32]⟩ : ByteArray)) ++ x7)] r30.2
    else none
    else none)
    | false => (R4 m td4_37 [.slice a0 l1 c2, .pointer x3, .map x4, .int .i64 x5, .string (⟨#[70, 85, 76, 76]⟩ : ByteArray), .string ((((⟨#[65, 80, 80, 32]⟩ : ByteArray) ++ x6) ++ (⟨#[32]⟩ : ByteArray)) ++ x7)] r22.2))
    else none
    else none
    else none))))))
    else none)))) := by kernel_rfl
theorem c4_100042 (m : Nat) (x0 : Option Nat) (a1 : Option Addr) (l2 : Nat) (c3 : Nat) (x4 : Int) (H : Heap) : R4 (m + 1) td4_100042 [.map x0, .slice a1 l2 c3, .int .i64 x4] H =
    (match (decide (x4 < ((l2 : Nat) : Int))) with
    | true => (onSome a1 fun a5 =>
    if 0 ≤ x4 ∧ x4 < (l2 : Nat) then
    ldc H ((a5.add (x4.toNat * 1)).block) fun cs6 =>
    onSome cs6[(a5.add (x4.toNat * 1)).off]? fun v7 =>
    kStr v7 fun s8 =>
    onSome a1 fun a9 =>
    if 0 ≤ (IntKind.i64.wrap (x4 - (1 : Int))) ∧ (IntKind.i64.wrap (x4 - (1 : Int))) < (l2 : Nat) then
    ldc H ((a9.add ((IntKind.i64.wrap (x4 - (1 : Int))).toNat * 1)).block) fun cs10 =>
    onSome cs10[(a9.add ((IntKind.i64.wrap (x4 - (1 : Int))).toNat * 1)).off]? fun v11 =>
    kStr v11 fun s12 =>
    (match (Op.bytesLess s8.toList s12.toList || s8.toList == s12.toList) with
    | true => (some (.bool false, H))
    | false => (R4 m td4_100042 [.map x0, .slice a1 l2 c3, .int .i64 (IntKind.i64.wrap (x4 + (1 : Int)))] H))
    else none
    else none)
    | false => (ldmo H x0 fun es13 =>
    some (.bool (((l2 : Nat) : Int) == (es13.length : Int)), H))) := by kernel_rfl
end Go.Proofs.YtbheppfjaeocpaaGreatDoor
