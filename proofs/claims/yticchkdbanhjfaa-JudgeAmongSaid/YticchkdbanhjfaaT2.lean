/- PRINTED by a program of the session (Pr.lean): what functions of the program come to on the abstract heap, each checked by the kernel. Conditions: none. -/
import Derived.Test.YticchkdbanhjfaaT1
set_option linter.unusedVariables false
namespace Go.Proofs.Yticchkdbanhjfaa
open Go Go.Proofs.Yticchkdbanhjfaa.Fw Go.RowKit
-- sternpost/sternpostref29.Among
noncomputable def G32 : Fs := Fs.ext G3 3 F3
theorem A32 : AllSound Try.prog G32 := AllSound.ext A3 S3
noncomputable def cuts32 : Cuts := [(100003, [0, 1, 6, 7]), (100005, [0, 1, 6, 7]), (7, [0, 1, 6, 7])]
noncomputable def td32_100003 : List Item := todoOf Try.f32 100003
noncomputable def td32_100005 : List Item := todoOf Try.f32 100005
noncomputable def td32_7 : List Item := todoOf Try.f32 7
noncomputable def F32 : List Value → Heap → R := FN Try.prog G32 Try.f32 cuts32
theorem S32 : Sound Try.prog 32 F32 := FN_sound A32 Try.func32 (by kernel_rfl) (by kernel_rfl)
noncomputable abbrev R32 (m : Nat) : List Item → List Value → Heap → R := run Try.prog G32 Try.f32 cuts32 m
theorem t32 (m : Nat) (a0 : Option Addr) (l1 : Nat) (c2 : Nat) (a3 : Option Addr) (l4 : Nat) (c5 : Nat) (H : Heap) : fnE Try.prog G32 Try.f32 cuts32 m [.slice a0 l1 c2, .slice a3 l4 c5] H =
    R32 m td32_100003 [.slice a0 l1 c2, .slice a3 l4 c5, .int .i64 (0 : Int), .int .i64 (0 : Int)] H := by kernel_rfl
theorem c32_7 (m : Nat) (a0 : Option Addr) (l1 : Nat) (c2 : Nat) (a3 : Option Addr) (l4 : Nat) (c5 : Nat) (x6 : Int) (x7 : Int) (H : Heap) : R32 (m + 1) td32_7 [.slice a0 l1 c2, .slice a3 l4 c5, .int .i64 x6, .int .i64 x7] H =
    (match (x6 == ((l4 : Nat) : Int)) with
    | true => (some (.tuple #[.int .i64 x7, .bool false], H))
    | false => (R32 m td32_100003 [.slice a0 l1 c2, .slice a3 l4 c5, .int .i64 (IntKind.i64.wrap (x6 + (1 : Int))), .int .i64 (IntKind.i64.wrap (x7 + (1 : Int)))] H)) := by kernel_rfl
theorem c32_100003 (m : Nat) (a0 : Option Addr) (l1 : Nat) (c2 : Nat) (a3 : Option Addr) (l4 : Nat) (c5 : Nat) (x6 : Int) (x7 : Int) (H : Heap) : R32 (m + 1) td32_100003 [.slice a0 l1 c2, .slice a3 l4 c5, .int .i64 x6, .int .i64 x7] H =
    (match (decide (x7 < ((l1 : Nat) : Int))) with
    | true => (R32 m td32_100005 [.slice a0 l1 c2, .slice a3 l4 c5, .int .i64 x6, .int .i64 x7] H)
    | false => (some (.tuple #[.int .i64 ((l1 : Nat) : Int), .bool true], H))) := by kernel_rfl
theorem c32_100005 (m : Nat) (a0 : Option Addr) (l1 : Nat) (c2 : Nat) (a3 : Option Addr) (l4 : Nat) (c5 : Nat) (x6 : Int) (x7 : Int) (H : Heap) : R32 (m + 1) td32_100005 [.slice a0 l1 c2, .slice a3 l4 c5, .int .i64 x6, .int .i64 x7] H =
    (match (decide (x6 < ((l4 : Nat) : Int))) with
    | true => (onSome a3 fun a8 =>
    if 0 ≤ x6 ∧ x6 < (l4 : Nat) then
    ldc H ((a8.add (x6.toNat * 1)).block) fun cs9 =>
    onSome cs9[(a8.add (x6.toNat * 1)).off]? fun v10 =>
    kStr v10 fun s11 =>
    onSome a0 fun a12 =>
    if 0 ≤ x7 ∧ x7 < (l1 : Nat) then
    ldc H ((a12.add (x7.toNat * 1)).block) fun cs13 =>
    onSome cs13[(a12.add (x7.toNat * 1)).off]? fun v14 =>
    kStr v14 fun s15 =>
    (match (!(s11.toList == s15.toList)) with
    | true => (R32 m td32_100005 [.slice a0 l1 c2, .slice a3 l4 c5, .int .i64 (IntKind.i64.wrap (x6 + (1 : Int))), .int .i64 x7] H)
    | false => (R32 m td32_7 [.slice a0 l1 c2, .slice a3 l4 c5, .int .i64 x6, .int .i64 x7] H))
    else none
    else none)
    | false => (R32 m td32_7 [.slice a0 l1 c2, .slice a3 l4 c5, .int .i64 x6, .int .i64 x7] H)) := by kernel_rfl
-- sternpost/sternpostbook.SameInts
noncomputable def G33 : Fs := Fs.ext G32 32 F32
theorem A33 : AllSound Try.prog G33 := AllSound.ext A32 S32
noncomputable def cuts33 : Cuts := [(100004, [0, 1, 5])]
noncomputable def td33_100004 : List Item := todoOf Try.f33 100004
noncomputable def F33 : List Value → Heap → R := FN Try.prog G33 Try.f33 cuts33
theorem S33 : Sound Try.prog 33 F33 := FN_sound A33 Try.func33 (by kernel_rfl) (by kernel_rfl)
noncomputable abbrev R33 (m : Nat) : List Item → List Value → Heap → R := run Try.prog G33 Try.f33 cuts33 m
theorem t33 (m : Nat) (a0 : Option Addr) (l1 : Nat) (c2 : Nat) (a3 : Option Addr) (l4 : Nat) (c5 : Nat) (H : Heap) : fnE Try.prog G33 Try.f33 cuts33 m [.slice a0 l1 c2, .slice a3 l4 c5] H =
    (match (((l1 : Nat) : Int) != ((l4 : Nat) : Int)) with
    | true => (some (.bool false, H))
    | false => (R33 m td33_100004 [.slice a0 l1 c2, .slice a3 l4 c5, .int .i64 (0 : Int)] H)) := by kernel_rfl
theorem c33_100004 (m : Nat) (a0 : Option Addr) (l1 : Nat) (c2 : Nat) (a3 : Option Addr) (l4 : Nat) (c5 : Nat) (x6 : Int) (H : Heap) : R33 (m + 1) td33_100004 [.slice a0 l1 c2, .slice a3 l4 c5, .int .i64 x6] H =
    (match (decide (x6 < ((l1 : Nat) : Int))) with
    | true => (onSome a0 fun a7 =>
    if 0 ≤ x6 ∧ x6 < (l1 : Nat) then
    ldc H ((a7.add (x6.toNat * 1)).block) fun cs8 =>
    onSome cs8[(a7.add (x6.toNat * 1)).off]? fun v9 =>
    kInt .i64 v9 fun n10 =>
    onSome a3 fun a11 =>
    if 0 ≤ x6 ∧ x6 < (l4 : Nat) then
    ldc H ((a11.add (x6.toNat * 1)).block) fun cs12 =>
    onSome cs12[(a11.add (x6.toNat * 1)).off]? fun v13 =>
    kInt .i64 v13 fun n14 =>
    (match (n10 != n14) with
    | true => (some (.bool false, H))
    | false => (R33 m td33_100004 [.slice a0 l1 c2, .slice a3 l4 c5, .int .i64 (IntKind.i64.wrap (x6 + (1 : Int)))] H))
    else none
    else none)
    | false => (some (.bool true, H))) := by kernel_rfl
-- sternpost/sum.Get
noncomputable def G87 : Fs := Fs.ext G33 33 F33
theorem A87 : AllSound Try.prog G87 := AllSound.ext A33 S33
noncomputable def cuts87 : Cuts := [(100005, [8, 35, 36, 37]), (2, [])]
noncomputable def td87_100005 : List Item := todoOf Try.f87 100005
noncomputable def td87_2 : List Item := todoOf Try.f87 2
noncomputable def F87 : List Value → Heap → R := FN Try.prog G87 Try.f87 cuts87
theorem S87 : Sound Try.prog 87 F87 := FN_sound A87 Try.func87 (by kernel_rfl) (by kernel_rfl)
noncomputable abbrev R87 (m : Nat) : List Item → List Value → Heap → R := run Try.prog G87 Try.f87 cuts87 m
theorem t87 (m : Nat) (x0 : ByteArray) (x1 : Int) (x2 : Int) (H : Heap) : fnE Try.prog G87 Try.f87 cuts87 m [.string x0, .int .i64 x1, .int .i64 x2] H =
    (match (decide (x2 < (1 : Int))) with
    | true => (R87 m td87_2 [] H)
    | false => ((match (decide ((6 : Int) < x2)) with
    | true => (R87 m td87_2 [] H)
    | false => ((match (decide (x1 < (0 : Int))) with
    | true => (R87 m td87_2 [] H)
    | false => ((match (decide ((IntKind.i64.wrap ((x0.size : Int) - x2)) < x1)) with
    | true => (R87 m td87_2 [] H)
    | false => (slStr x0 x1 (IntKind.i64.wrap (x1 + x2)) fun v3 =>
    kStr v3 fun s4 =>
    if s4.size ≤ 140737488351232 then
    let H5 := H ++ [.cells (s4.data.toList.map fun b => .int .u8 b.toNat) 1 true]
    R87 m td87_100005 [.int .i64 (0 : Int), .slice (some ⟨H.length, 0, none⟩) s4.size unk, .int .i64 ((s4.size : Nat) : Int), .int .i64 (0 : Int)] H5
    else none)))))))) := by kernel_rfl
theorem c87_2 (m : Nat)  (H : Heap) : R87 (m + 1) td87_2 [] H =
    some (.tuple #[.int .i64 (0 : Int), .int .i64 (1 : Int)], H) := by kernel_rfl
theorem c87_100005 (m : Nat) (x0 : Int) (a1 : Option Addr) (l2 : Nat) (c3 : Nat) (x4 : Int) (x5 : Int) (H : Heap) : R87 (m + 1) td87_100005 [.int .i64 x0, .slice a1 l2 c3, .int .i64 x4, .int .i64 x5] H =
    (match (decide (x5 < x4)) with
    | true => (onSome a1 fun a6 =>
    if 0 ≤ x5 ∧ x5 < (l2 : Nat) then
    ldc H ((a6.add (x5.toNat * 1)).block) fun cs7 =>
    onSome cs7[(a6.add (x5.toNat * 1)).off]? fun v8 =>
    kInt .u8 v8 fun n9 =>
    if (8 : Int) < 0 then none else
    R87 m td87_100005 [.int .i64 (bits .or .i64 (IntKind.i64.wrap (x0 * 2 ^ (min (8 : Int).toNat IntKind.i64.bits))) (IntKind.i64.wrap n9)), .slice a1 l2 c3, .int .i64 x4, .int .i64 (IntKind.i64.wrap (x5 + (1 : Int)))] H
    else none)
    | false => (some (.tuple #[.int .i64 x0, .int .i64 (0 : Int)], H))) := by kernel_rfl
-- sternpost/ether.address
noncomputable def G101 : Fs := Fs.ext G87 87 F87
theorem A101 : AllSound Try.prog G101 := AllSound.ext A87 S87
noncomputable def cuts101 : Cuts := []
noncomputable def F101 : List Value → Heap → R := FN Try.prog G101 Try.f101 cuts101
theorem S101 : Sound Try.prog 101 F101 := FN_sound A101 Try.func101 (by kernel_rfl) (by kernel_rfl)
noncomputable abbrev R101 (m : Nat) : List Item → List Value → Heap → R := run Try.prog G101 Try.f101 cuts101 m
theorem t101 (m : Nat) (x0 : Int) (H : Heap) : fnE Try.prog G101 Try.f101 cuts101 m [.int .i64 x0] H =
    (match (decide ((0 : Int) ≤ x0)) with
    | true => (some (.bool (decide (x0 ≤ (281474976710655 : Int))), H))
    | false => (some (.bool false, H))) := by kernel_rfl
-- sternpost/ether.Group
noncomputable def G100 : Fs := Fs.ext G101 101 F101
theorem A100 : AllSound Try.prog G100 := AllSound.ext A101 S101
noncomputable def cuts100 : Cuts := []
noncomputable def F100 : List Value → Heap → R := FN Try.prog G100 Try.f100 cuts100
theorem S100 : Sound Try.prog 100 F100 := FN_sound A100 Try.func100 (by kernel_rfl) (by kernel_rfl)
noncomputable abbrev R100 (m : Nat) : List Item → List Value → Heap → R := run Try.prog G100 Try.f100 cuts100 m
theorem t100 (m : Nat) (x0 : Int) (H : Heap) : fnE Try.prog G100 Try.f100 cuts100 m [.int .i64 x0] H =
    onSome (F101 [.int .i64 x0] H) fun r1 =>
    kBool r1.1 fun b2 =>
    (match (!b2) with
    | true => (some (.tuple #[.bool false, .int .i64 (1 : Int)], r1.2))
    | false => (some (.tuple #[.bool (decide ((0 : Int) < (bits .and .i64 x0 (1099511627776 : Int)))), .int .i64 (0 : Int)], r1.2))) := by kernel_rfl
-- sternpost/ether.Check
noncomputable def G89 : Fs := Fs.ext G100 100 F100
theorem A89 : AllSound Try.prog G89 := AllSound.ext A100 S100
noncomputable def cuts89 : Cuts := [(3, [])]
noncomputable def td89_3 : List Item := todoOf Try.f89 3
noncomputable def F89 : List Value → Heap → R := FN Try.prog G89 Try.f89 cuts89
theorem S89 : Sound Try.prog 89 F89 := FN_sound A89 Try.func89 (by kernel_rfl) (by kernel_rfl)
noncomputable abbrev R89 (m : Nat) : List Item → List Value → Heap → R := run Try.prog G89 Try.f89 cuts89 m
theorem t89 (m : Nat) (x0 : Int) (x1 : Int) (x2 : Int) (x3 : ByteArray) (H : Heap) : fnE Try.prog G89 Try.f89 cuts89 m [.agg #[.int .i64 x0, .int .i64 x1, .int .i64 x2, .string x3]] H =
    let H4 := H ++ [.cells [.int .i64 x0, .int .i64 x1, .int .i64 x2, .string x3] 0 true]
    ldc H4 H.length fun cs5 =>
    onSome cs5[(0 + 1)]? fun v6 =>
    kInt .i64 v6 fun n7 =>
    onSome (F100 [.int .i64 n7] H4) fun r8 =>
    kTup r8.1 fun vs9 =>
    onSome vs9[0]? fun v10 =>
    kBool v10 fun b11 =>
    kTup r8.1 fun vs12 =>
    onSome vs12[1]? fun v13 =>
    kInt .i64 v13 fun n14 =>
    (match (n14 != (0 : Int)) with
    | true => (R89 m td89_3 [] r8.2)
    | false => ((match b11 with
    | true => (R89 m td89_3 [] r8.2)
    | false => (ldc r8.2 H.length fun cs15 =>
    onSome cs15[0]? fun v16 =>
    kInt .i64 v16 fun n17 =>
    onSome (F101 [.int .i64 n17] r8.2) fun r18 =>
    kBool r18.1 fun b19 =>
    (match (!b19) with
    | true => (R89 m td89_3 [] r18.2)
    | false => (ldc r18.2 H.length fun cs20 =>
    onSome cs20[(0 + 2)]? fun v21 =>
    kInt .i64 v21 fun n22 =>
    (match (decide (n22 < (1536 : Int))) with
    | true => (R89 m td89_3 [] r18.2)
    | false => (ldc r18.2 H.length fun cs23 =>
    onSome cs23[(0 + 2)]? fun v24 =>
    kInt .i64 v24 fun n25 =>
    (match (decide ((65535 : Int) < n25)) with
    | true => (R89 m td89_3 [] r18.2)
    | false => (ldc r18.2 H.length fun cs26 =>
    onSome cs26[(0 + 3)]? fun v27 =>
    kStr v27 fun s28 =>
    (match (decide ((1500 : Int) < (s28.size : Int))) with
    | true => (R89 m td89_3 [] r18.2)
    | false => (some (.int .i64 (0 : Int), r18.2))))))))))))) := by kernel_rfl
theorem c89_3 (m : Nat)  (H : Heap) : R89 (m + 1) td89_3 [] H =
    some (.int .i64 (30 : Int), H) := by kernel_rfl
-- sternpost/ether.Decode
noncomputable def G79 : Fs := Fs.ext G89 89 F89
theorem A79 : AllSound Try.prog G79 := AllSound.ext A89 S89
noncomputable def cuts79 : Cuts := []
noncomputable def F79 : List Value → Heap → R := FN Try.prog G79 Try.f79 cuts79
theorem S79 : Sound Try.prog 79 F79 := FN_sound A79 Try.func79 (by kernel_rfl) (by kernel_rfl)
noncomputable abbrev R79 (m : Nat) : List Item → List Value → Heap → R := run Try.prog G79 Try.f79 cuts79 m
theorem t79 (m : Nat) (x0 : ByteArray) (H : Heap) : fnE Try.prog G79 Try.f79 cuts79 m [.string x0] H =
    let H1 := H ++ [.cells [.int .i64 (0 : Int), .int .i64 (0 : Int), .int .i64 (0 : Int), .string (⟨#[]⟩ : ByteArray)] 0 true]
    (match (decide ((x0.size : Int) < (14 : Int))) with
    | true => (st 4 H1 (⟨H.length, 0, none⟩ : Addr) (.agg #[.int .i64 (0 : Int), .int .i64 (0 : Int), .int .i64 (0 : Int), .string (⟨#[]⟩ : ByteArray)]) fun _ H2 =>
    ldc H2 H.length fun cs3 =>
    if 0 + 4 ≤ cs3.length then
    some (.tuple #[.agg ((range cs3 0 4).toArray), .int .i64 (30 : Int)], H2)
    else none)
    | false => (slStr x0 (14 : Int) (x0.size : Int) fun v4 =>
    kStr v4 fun s5 =>
    let H6 := H1 ++ [.cells [.int .i64 (0 : Int), .int .i64 (0 : Int), .int .i64 (0 : Int), .string (⟨#[]⟩ : ByteArray)] 0 true]
    st 4 H6 (⟨H1.length, 0, none⟩ : Addr) (.agg #[.int .i64 (0 : Int), .int .i64 (0 : Int), .int .i64 (0 : Int), .string s5]) fun _ H7 =>
    onSome (F87 [.string x0, .int .i64 (0 : Int), .int .i64 (6 : Int)] H7) fun r8 =>
    kTup r8.1 fun vs9 =>
    onSome vs9[0]? fun v10 =>
    kInt .i64 v10 fun n11 =>
    kTup r8.1 fun vs12 =>
    onSome vs12[1]? fun v13 =>
    kInt .i64 v13 fun n14 =>
    st 1 r8.2 (⟨H1.length, 0, none⟩ : Addr) (.int .i64 n11) fun _ H15 =>
    onSome (F87 [.string x0, .int .i64 (6 : Int), .int .i64 (6 : Int)] H15) fun r16 =>
    kTup r16.1 fun vs17 =>
    onSome vs17[0]? fun v18 =>
    kInt .i64 v18 fun n19 =>
    kTup r16.1 fun vs20 =>
    onSome vs20[1]? fun v21 =>
    kInt .i64 v21 fun n22 =>
    st 1 r16.2 (⟨H1.length, 0 + 1, none⟩ : Addr) (.int .i64 n19) fun _ H23 =>
    onSome (F87 [.string x0, .int .i64 (12 : Int), .int .i64 (2 : Int)] H23) fun r24 =>
    kTup r24.1 fun vs25 =>
    onSome vs25[0]? fun v26 =>
    kInt .i64 v26 fun n27 =>
    kTup r24.1 fun vs28 =>
    onSome vs28[1]? fun v29 =>
    kInt .i64 v29 fun n30 =>
    st 1 r24.2 (⟨H1.length, 0 + 2, none⟩ : Addr) (.int .i64 n27) fun _ H31 =>
    ldc H31 H1.length fun cs32 =>
    if 0 + 4 ≤ cs32.length then
    onSome (F89 [.agg ((range cs32 0 4).toArray)] H31) fun r33 =>
    kInt .i64 r33.1 fun n34 =>
    (match (n34 != (0 : Int)) with
    | true => (st 4 r33.2 (⟨H.length, 0, none⟩ : Addr) (.agg #[.int .i64 (0 : Int), .int .i64 (0 : Int), .int .i64 (0 : Int), .string (⟨#[]⟩ : ByteArray)]) fun _ H35 =>
    ldc H35 H.length fun cs36 =>
    if 0 + 4 ≤ cs36.length then
    some (.tuple #[.agg ((range cs36 0 4).toArray), .int .i64 n34], H35)
    else none)
    | false => (ldc r33.2 H1.length fun cs37 =>
    if 0 + 4 ≤ cs37.length then
    st 4 r33.2 (⟨H.length, 0, none⟩ : Addr) (.agg ((range cs37 0 4).toArray)) fun _ H38 =>
    ldc H38 H.length fun cs39 =>
    if 0 + 4 ≤ cs39.length then
    some (.tuple #[.agg ((range cs39 0 4).toArray), .int .i64 (0 : Int)], H38)
    else none
    else none))
    else none)) := by kernel_rfl
-- internal/stringslite.HasPrefix
noncomputable def G102 : Fs := Fs.ext G79 79 F79
theorem A102 : AllSound Try.prog G102 := AllSound.ext A79 S79
noncomputable def cuts102 : Cuts := []
noncomputable def F102 : List Value → Heap → R := FN Try.prog G102 Try.f102 cuts102
theorem S102 : Sound Try.prog 102 F102 := FN_sound A102 Try.func102 (by kernel_rfl) (by kernel_rfl)
noncomputable abbrev R102 (m : Nat) : List Item → List Value → Heap → R := run Try.prog G102 Try.f102 cuts102 m
theorem t102 (m : Nat) (x0 : ByteArray) (x1 : ByteArray) (H : Heap) : fnE Try.prog G102 Try.f102 cuts102 m [.string x0, .string x1] H =
    (match (decide ((x1.size : Int) ≤ (x0.size : Int))) with
    | true => (slStr x0 (0 : Int) (x1.size : Int) fun v2 =>
    kStr v2 fun s3 =>
    some (.bool (s3.toList == x1.toList), H))
    | false => (some (.bool false, H))) := by kernel_rfl
-- strings.HasPrefix
noncomputable def G90 : Fs := Fs.ext G102 102 F102
theorem A90 : AllSound Try.prog G90 := AllSound.ext A102 S102
noncomputable def cuts90 : Cuts := []
noncomputable def F90 : List Value → Heap → R := FN Try.prog G90 Try.f90 cuts90
theorem S90 : Sound Try.prog 90 F90 := FN_sound A90 Try.func90 (by kernel_rfl) (by kernel_rfl)
noncomputable abbrev R90 (m : Nat) : List Item → List Value → Heap → R := run Try.prog G90 Try.f90 cuts90 m
theorem t90 (m : Nat) (x0 : ByteArray) (x1 : ByteArray) (H : Heap) : fnE Try.prog G90 Try.f90 cuts90 m [.string x0, .string x1] H =
    onSome (F102 [.string x0, .string x1] H) fun r2 =>
    kBool r2.1 fun b3 =>
    some (.bool b3, r2.2) := by kernel_rfl
-- sternpost/arp.parts
noncomputable def G91 : Fs := Fs.ext G90 90 F90
theorem A91 : AllSound Try.prog G91 := AllSound.ext A90 S90
noncomputable def cuts91 : Cuts := []
noncomputable def F91 : List Value → Heap → R := FN Try.prog G91 Try.f91 cuts91
theorem S91 : Sound Try.prog 91 F91 := FN_sound A91 Try.func91 (by kernel_rfl) (by kernel_rfl)
noncomputable abbrev R91 (m : Nat) : List Item → List Value → Heap → R := run Try.prog G91 Try.f91 cuts91 m
theorem t91 (m : Nat) (x0 : Option Addr) (H : Heap) : fnE Try.prog G91 Try.f91 cuts91 m [.pointer x0] H =
    onSome x0 fun a1 =>
    onSome x0 fun a2 =>
    onSome x0 fun a3 =>
    onSome x0 fun a4 =>
    onSome x0 fun a5 =>
    let H6 := H ++ [.cells [.pointer (some a1), .int .i64 (2 : Int), .pointer (some (⟨a2.block, a2.off + 1, none⟩ : Addr)), .int .i64 (6 : Int), .pointer (some (⟨a3.block, a3.off + 2, none⟩ : Addr)), .int .i64 (4 : Int), .pointer (some (⟨a4.block, a4.off + 3, none⟩ : Addr)), .int .i64 (6 : Int), .pointer (some (⟨a5.block, a5.off + 4, none⟩ : Addr)), .int .i64 (4 : Int)] 2 true]
    some (.slice (some ⟨H.length, 0, none⟩) 5 5, H6) := by kernel_rfl
-- sternpost/arp.ip
noncomputable def G103 : Fs := Fs.ext G91 91 F91
theorem A103 : AllSound Try.prog G103 := AllSound.ext A91 S91
noncomputable def cuts103 : Cuts := []
noncomputable def F103 : List Value → Heap → R := FN Try.prog G103 Try.f103 cuts103
theorem S103 : Sound Try.prog 103 F103 := FN_sound A103 Try.func103 (by kernel_rfl) (by kernel_rfl)
noncomputable abbrev R103 (m : Nat) : List Item → List Value → Heap → R := run Try.prog G103 Try.f103 cuts103 m
theorem t103 (m : Nat) (x0 : Int) (H : Heap) : fnE Try.prog G103 Try.f103 cuts103 m [.int .i64 x0] H =
    (match (decide ((0 : Int) ≤ x0)) with
    | true => (some (.bool (decide (x0 ≤ (4294967295 : Int))), H))
    | false => (some (.bool false, H))) := by kernel_rfl
-- sternpost/arp.Check
noncomputable def G93 : Fs := Fs.ext G103 103 F103
theorem A93 : AllSound Try.prog G93 := AllSound.ext A103 S103
noncomputable def cuts93 : Cuts := [(5, []), (4, [1, 3, 4, 6, 7])]
noncomputable def td93_5 : List Item := todoOf Try.f93 5
noncomputable def td93_4 : List Item := todoOf Try.f93 4
noncomputable def F93 : List Value → Heap → R := FN Try.prog G93 Try.f93 cuts93
theorem S93 : Sound Try.prog 93 F93 := FN_sound A93 Try.func93 (by kernel_rfl) (by kernel_rfl)
noncomputable abbrev R93 (m : Nat) : List Item → List Value → Heap → R := run Try.prog G93 Try.f93 cuts93 m
theorem t93 (m : Nat) (x0 : Int) (x1 : Int) (x2 : Int) (x3 : Int) (x4 : Int) (H : Heap) : fnE Try.prog G93 Try.f93 cuts93 m [.agg #[.int .i64 x0, .int .i64 x1, .int .i64 x2, .int .i64 x3, .int .i64 x4]] H =
    let H5 := H ++ [.cells [.int .i64 x0, .int .i64 x1, .int .i64 x2, .int .i64 x3, .int .i64 x4] 0 true]
    ldc H5 H.length fun cs6 =>
    onSome cs6[(0 + 1)]? fun v7 =>
    kInt .i64 v7 fun n8 =>
    onSome (F100 [.int .i64 n8] H5) fun r9 =>
    kTup r9.1 fun vs10 =>
    onSome vs10[0]? fun v11 =>
    kBool v11 fun b12 =>
    kTup r9.1 fun vs13 =>
    onSome vs13[1]? fun v14 =>
    kInt .i64 v14 fun n15 =>
    ldc r9.2 H.length fun cs16 =>
    onSome cs16[(0 + 3)]? fun v17 =>
    kInt .i64 v17 fun n18 =>
    onSome (F100 [.int .i64 n18] r9.2) fun r19 =>
    kTup r19.1 fun vs20 =>
    onSome vs20[0]? fun v21 =>
    kBool v21 fun b22 =>
    kTup r19.1 fun vs23 =>
    onSome vs23[1]? fun v24 =>
    kInt .i64 v24 fun n25 =>
    ldc r19.2 H.length fun cs26 =>
    onSome cs26[0]? fun v27 =>
    kInt .i64 v27 fun n28 =>
    (match (n28 == (1 : Int)) with
    | true => (R93 m td93_4 [.pointer (some (⟨H.length, 0, none⟩ : Addr)), .bool b12, .int .i64 n15, .int .i64 n25, .bool true] r19.2)
    | false => (ldc r19.2 H.length fun cs29 =>
    onSome cs29[0]? fun v30 =>
    kInt .i64 v30 fun n31 =>
    R93 m td93_4 [.pointer (some (⟨H.length, 0, none⟩ : Addr)), .bool b12, .int .i64 n15, .int .i64 n25, .bool (n31 == (2 : Int))] r19.2)) := by kernel_rfl
theorem c93_4 (m : Nat) (x0 : Option Addr) (x1 : Bool) (x2 : Int) (x3 : Int) (x4 : Bool) (H : Heap) : R93 (m + 1) td93_4 [.pointer x0, .bool x1, .int .i64 x2, .int .i64 x3, .bool x4] H =
    (match (x2 != (0 : Int)) with
    | true => (R93 m td93_5 [] H)
    | false => ((match (x3 != (0 : Int)) with
    | true => (R93 m td93_5 [] H)
    | false => ((match x1 with
    | true => (R93 m td93_5 [] H)
    | false => ((match (!x4) with
    | true => (R93 m td93_5 [] H)
    | false => (onSome x0 fun a5 =>
    ldc H a5.block fun cs6 =>
    onSome cs6[(a5.off + 2)]? fun v7 =>
    kInt .i64 v7 fun n8 =>
    onSome (F103 [.int .i64 n8] H) fun r9 =>
    kBool r9.1 fun b10 =>
    (match (!b10) with
    | true => (R93 m td93_5 [] r9.2)
    | false => (onSome x0 fun a11 =>
    ldc r9.2 a11.block fun cs12 =>
    onSome cs12[(a11.off + 4)]? fun v13 =>
    kInt .i64 v13 fun n14 =>
    onSome (F103 [.int .i64 n14] r9.2) fun r15 =>
    kBool r15.1 fun b16 =>
    (match (!b16) with
    | true => (R93 m td93_5 [] r15.2)
    | false => (some (.int .i64 (0 : Int), r15.2))))))))))))) := by kernel_rfl
theorem c93_5 (m : Nat)  (H : Heap) : R93 (m + 1) td93_5 [] H =
    some (.int .i64 (40 : Int), H) := by kernel_rfl
-- sternpost/arp.made
noncomputable def G92 : Fs := Fs.ext G93 93 F93
theorem A92 : AllSound Try.prog G92 := AllSound.ext A93 S93
noncomputable def cuts92 : Cuts := []
noncomputable def F92 : List Value → Heap → R := FN Try.prog G92 Try.f92 cuts92
theorem S92 : Sound Try.prog 92 F92 := FN_sound A92 Try.func92 (by kernel_rfl) (by kernel_rfl)
noncomputable abbrev R92 (m : Nat) : List Item → List Value → Heap → R := run Try.prog G92 Try.f92 cuts92 m
theorem t92 (m : Nat) (x0 : Int) (x1 : Int) (x2 : Int) (x3 : Int) (x4 : Int) (H : Heap) : fnE Try.prog G92 Try.f92 cuts92 m [.agg #[.int .i64 x0, .int .i64 x1, .int .i64 x2, .int .i64 x3, .int .i64 x4]] H =
    let H5 := H ++ [.cells [.int .i64 x0, .int .i64 x1, .int .i64 x2, .int .i64 x3, .int .i64 x4] 0 true]
    let H6 := H5 ++ [.cells [.int .i64 (0 : Int), .int .i64 (0 : Int), .int .i64 (0 : Int), .int .i64 (0 : Int), .int .i64 (0 : Int)] 0 true]
    ldc H6 H.length fun cs7 =>
    if 0 + 5 ≤ cs7.length then
    onSome (F93 [.agg ((range cs7 0 5).toArray)] H6) fun r8 =>
    kInt .i64 r8.1 fun n9 =>
    (match (n9 != (0 : Int)) with
    | true => (st 5 r8.2 (⟨H5.length, 0, none⟩ : Addr) (.agg #[.int .i64 (0 : Int), .int .i64 (0 : Int), .int .i64 (0 : Int), .int .i64 (0 : Int), .int .i64 (0 : Int)]) fun _ H10 =>
    ldc H10 H5.length fun cs11 =>
    if 0 + 5 ≤ cs11.length then
    some (.tuple #[.agg ((range cs11 0 5).toArray), .int .i64 n9], H10)
    else none)
    | false => (ldc r8.2 H.length fun cs12 =>
    if 0 + 5 ≤ cs12.length then
    st 5 r8.2 (⟨H5.length, 0, none⟩ : Addr) (.agg ((range cs12 0 5).toArray)) fun _ H13 =>
    ldc H13 H5.length fun cs14 =>
    if 0 + 5 ≤ cs14.length then
    some (.tuple #[.agg ((range cs14 0 5).toArray), .int .i64 (0 : Int)], H13)
    else none
    else none))
    else none := by kernel_rfl
-- sternpost/arp.Decode
noncomputable def G80 : Fs := Fs.ext G92 92 F92
theorem A80 : AllSound Try.prog G80 := AllSound.ext A92 S92
noncomputable def cuts80 : Cuts := [(100006, [0, 2, 4, 5, 22, 23, 24]), (2, [2])]
noncomputable def td80_100006 : List Item := todoOf Try.f80 100006
noncomputable def td80_2 : List Item := todoOf Try.f80 2
noncomputable def F80 : List Value → Heap → R := FN Try.prog G80 Try.f80 cuts80
theorem S80 : Sound Try.prog 80 F80 := FN_sound A80 Try.func80 (by kernel_rfl) (by kernel_rfl)
noncomputable abbrev R80 (m : Nat) : List Item → List Value → Heap → R := run Try.prog G80 Try.f80 cuts80 m
theorem t80 (m : Nat) (x0 : ByteArray) (H : Heap) : fnE Try.prog G80 Try.f80 cuts80 m [.string x0] H =
    let H1 := H ++ [.cells [.int .i64 (0 : Int), .int .i64 (0 : Int), .int .i64 (0 : Int), .int .i64 (0 : Int), .int .i64 (0 : Int)] 0 true]
    (match (decide ((x0.size : Int) < (28 : Int))) with
    | true => (R80 m td80_2 [.pointer (some (⟨H.length, 0, none⟩ : Addr))] H1)
    | false => ((match (decide ((46 : Int) < (x0.size : Int))) with
    | true => (R80 m td80_2 [.pointer (some (⟨H.length, 0, none⟩ : Addr))] H1)
    | false => (onSome (F90 [.string x0, .string (⟨#[0, 1, 8, 0, 6, 4]⟩ : ByteArray)] H1) fun r2 =>
    kBool r2.1 fun b3 =>
    (match (!b3) with
    | true => (R80 m td80_2 [.pointer (some (⟨H.length, 0, none⟩ : Addr))] r2.2)
    | false => (let H4 := r2.2 ++ [.cells [.int .i64 (0 : Int), .int .i64 (0 : Int), .int .i64 (0 : Int), .int .i64 (0 : Int), .int .i64 (0 : Int)] 0 true]
    onSome (F91 [.pointer (some (⟨r2.2.length, 0, none⟩ : Addr))] H4) fun r5 =>
    kSl r5.1 fun a6 l7 c8 =>
    R80 m td80_100006 [.string x0, .pointer (some (⟨H.length, 0, none⟩ : Addr)), .pointer (some (⟨r2.2.length, 0, none⟩ : Addr)), .int .i64 (6 : Int), .slice a6 l7 c8, .int .i64 ((l7 : Nat) : Int), .int .i64 (0 : Int)] r5.2)))))) := by kernel_rfl
theorem c80_2 (m : Nat) (x0 : Option Addr) (H : Heap) : R80 (m + 1) td80_2 [.pointer x0] H =
    onSome x0 fun a1 =>
    st 5 H a1 (.agg #[.int .i64 (0 : Int), .int .i64 (0 : Int), .int .i64 (0 : Int), .int .i64 (0 : Int), .int .i64 (0 : Int)]) fun _ H2 =>
    onSome x0 fun a3 =>
    ldc H2 a3.block fun cs4 =>
    if a3.off + 5 ≤ cs4.length then
    some (.tuple #[.agg ((range cs4 a3.off 5).toArray), .int .i64 (40 : Int)], H2)
    else none := by kernel_rfl
theorem c80_100006 (m : Nat) (x0 : ByteArray) (x1 : Option Addr) (x2 : Option Addr) (x3 : Int) (a4 : Option Addr) (l5 : Nat) (c6 : Nat) (x7 : Int) (x8 : Int) (H : Heap) : R80 (m + 1) td80_100006 [.string x0, .pointer x1, .pointer x2, .int .i64 x3, .slice a4 l5 c6, .int .i64 x7, .int .i64 x8] H =
    (match (decide (x8 < x7)) with
    | true => (onSome a4 fun a9 =>
    if 0 ≤ x8 ∧ x8 < (l5 : Nat) then
    ldc H ((a9.add (x8.toNat * 2)).block) fun cs10 =>
    if (a9.add (x8.toNat * 2)).off + 2 ≤ cs10.length then
    let H11 := H ++ [.cells [.pointer none, .int .i64 (0 : Int)] 0 true]
    st 2 H11 (⟨H.length, 0, none⟩ : Addr) (.agg ((range cs10 ((a9.add (x8.toNat * 2)).off) 2).toArray)) fun _ H12 =>
    ldc H12 H.length fun cs13 =>
    onSome cs13[0]? fun v14 =>
    kPtr v14 fun p15 =>
    ldc H12 H.length fun cs16 =>
    onSome cs16[(0 + 1)]? fun v17 =>
    kInt .i64 v17 fun n18 =>
    onSome (F87 [.string x0, .int .i64 x3, .int .i64 n18] H12) fun r19 =>
    unt H12 r19.2 H.length (
    kTup r19.1 fun vs20 =>
    onSome vs20[0]? fun v21 =>
    kInt .i64 v21 fun n22 =>
    kTup r19.1 fun vs23 =>
    onSome vs23[1]? fun v24 =>
    kInt .i64 v24 fun n25 =>
    onSome p15 fun a26 =>
    st 1 r19.2 a26 (.int .i64 n22) fun _ H27 =>
    ldc H27 H.length fun cs28 =>
    onSome cs28[(0 + 1)]? fun v29 =>
    kInt .i64 v29 fun n30 =>
    R80 m td80_100006 [.string x0, .pointer x1, .pointer x2, .int .i64 (IntKind.i64.wrap (x3 + n30)), .slice a4 l5 c6, .int .i64 x7, .int .i64 (IntKind.i64.wrap (x8 + (1 : Int)))] H27)
    else none
    else none)
    | false => (onSome x2 fun a31 =>
    ldc H a31.block fun cs32 =>
    if a31.off + 5 ≤ cs32.length then
    onSome (F92 [.agg ((range cs32 a31.off 5).toArray)] H) fun r33 =>
    kTup r33.1 fun vs34 =>
    onSome vs34[0]? fun v35 =>
    kAgg v35 fun cs36 =>
    if cs36.size = 5 then
    kTup r33.1 fun vs37 =>
    onSome vs37[1]? fun v38 =>
    kInt .i64 v38 fun n39 =>
    onSome x1 fun a40 =>
    st 5 r33.2 a40 (.agg cs36) fun _ H41 =>
    onSome x1 fun a42 =>
    ldc H41 a42.block fun cs43 =>
    if a42.off + 5 ≤ cs43.length then
    some (.tuple #[.agg ((range cs43 a42.off 5).toArray), .int .i64 n39], H41)
    else none
    else none
    else none)) := by kernel_rfl
-- sternpost/arp.IsClaim
noncomputable def G81 : Fs := Fs.ext G80 80 F80
theorem A81 : AllSound Try.prog G81 := AllSound.ext A80 S80
noncomputable def cuts81 : Cuts := []
noncomputable def F81 : List Value → Heap → R := FN Try.prog G81 Try.f81 cuts81
theorem S81 : Sound Try.prog 81 F81 := FN_sound A81 Try.func81 (by kernel_rfl) (by kernel_rfl)
noncomputable abbrev R81 (m : Nat) : List Item → List Value → Heap → R := run Try.prog G81 Try.f81 cuts81 m
theorem t81 (m : Nat) (x0 : Int) (x1 : Int) (x2 : Int) (x3 : Int) (x4 : Int) (H : Heap) : fnE Try.prog G81 Try.f81 cuts81 m [.agg #[.int .i64 x0, .int .i64 x1, .int .i64 x2, .int .i64 x3, .int .i64 x4]] H =
    let H5 := H ++ [.cells [.int .i64 x0, .int .i64 x1, .int .i64 x2, .int .i64 x3, .int .i64 x4] 0 true]
    ldc H5 H.length fun cs6 =>
    if 0 + 5 ≤ cs6.length then
    let H7 := H5 ++ [.cells [.int .i64 (0 : Int), .int .i64 (0 : Int), .int .i64 (0 : Int), .int .i64 (0 : Int), .int .i64 (0 : Int)] 0 true]
    st 5 H7 (⟨H5.length, 0, none⟩ : Addr) (.agg ((range cs6 0 5).toArray)) fun _ H8 =>
    ldc H8 H.length fun cs9 =>
    onSome cs9[(0 + 4)]? fun v10 =>
    kInt .i64 v10 fun n11 =>
    st 1 H8 (⟨H5.length, 0 + 2, none⟩ : Addr) (.int .i64 n11) fun _ H12 =>
    ldc H12 H.length fun cs13 =>
    if 0 + 5 ≤ cs13.length then
    onSome (F93 [.agg ((range cs13 0 5).toArray)] H12) fun r14 =>
    kInt .i64 r14.1 fun n15 =>
    (match (n15 == (0 : Int)) with
    | true => (ldc r14.2 H.length fun cs16 =>
    if 0 + 5 ≤ cs16.length then
    ldc r14.2 H5.length fun cs17 =>
    if 0 + 5 ≤ cs17.length then
    eqv Try.prog 20 122 (.agg ((range cs16 0 5).toArray)) (.agg ((range cs17 0 5).toArray)) fun r18 =>
    some (.bool r18, r14.2)
    else none
    else none)
    | false => (some (.bool false, r14.2)))
    else none
    else none := by kernel_rfl
-- sternpost/judge.claims
noncomputable def G59 : Fs := Fs.ext G81 81 F81
theorem A59 : AllSound Try.prog G59 := AllSound.ext A81 S81
noncomputable def cuts59 : Cuts := [(3, [])]
noncomputable def td59_3 : List Item := todoOf Try.f59 3
noncomputable def F59 : List Value → Heap → R := FN Try.prog G59 Try.f59 cuts59
theorem S59 : Sound Try.prog 59 F59 := FN_sound A59 Try.func59 (by kernel_rfl) (by kernel_rfl)
noncomputable abbrev R59 (m : Nat) : List Item → List Value → Heap → R := run Try.prog G59 Try.f59 cuts59 m
theorem t59 (m : Nat) (x0 : ByteArray) (H : Heap) : fnE Try.prog G59 Try.f59 cuts59 m [.string x0] H =
    onSome (F79 [.string x0] H) fun r1 =>
    kTup r1.1 fun vs2 =>
    onSome vs2[0]? fun v3 =>
    kAgg v3 fun cs4 =>
    if cs4.size = 4 then
    kTup r1.1 fun vs5 =>
    onSome vs5[1]? fun v6 =>
    kInt .i64 v6 fun n7 =>
    let H8 := r1.2 ++ [.cells [.int .i64 (0 : Int), .int .i64 (0 : Int), .int .i64 (0 : Int), .string (⟨#[]⟩ : ByteArray)] 0 true]
    st 4 H8 (⟨r1.2.length, 0, none⟩ : Addr) (.agg cs4) fun _ H9 =>
    (match (n7 != (0 : Int)) with
    | true => (R59 m td59_3 [] H9)
    | false => (ldc H9 r1.2.length fun cs10 =>
    onSome cs10[(0 + 2)]? fun v11 =>
    kInt .i64 v11 fun n12 =>
    (match (n12 != (2054 : Int)) with
    | true => (R59 m td59_3 [] H9)
    | false => (ldc H9 r1.2.length fun cs13 =>
    onSome cs13[(0 + 3)]? fun v14 =>
    kStr v14 fun s15 =>
    onSome (F80 [.string s15] H9) fun r16 =>
    kTup r16.1 fun vs17 =>
    onSome vs17[0]? fun v18 =>
    kAgg v18 fun cs19 =>
    if cs19.size = 5 then
    kTup r16.1 fun vs20 =>
    onSome vs20[1]? fun v21 =>
    kInt .i64 v21 fun n22 =>
    let H23 := r16.2 ++ [.cells [.int .i64 (0 : Int), .int .i64 (0 : Int), .int .i64 (0 : Int), .int .i64 (0 : Int), .int .i64 (0 : Int)] 0 true]
    st 5 H23 (⟨r16.2.length, 0, none⟩ : Addr) (.agg cs19) fun _ H24 =>
    (match (n22 == (0 : Int)) with
    | true => (ldc H24 r16.2.length fun cs25 =>
    if 0 + 5 ≤ cs25.length then
    onSome (F81 [.agg ((range cs25 0 5).toArray)] H24) fun r26 =>
    kBool r26.1 fun b27 =>
    some (.bool b27, r26.2)
    else none)
    | false => (some (.bool false, H24)))
    else none))))
    else none := by kernel_rfl
theorem c59_3 (m : Nat)  (H : Heap) : R59 (m + 1) td59_3 [] H =
    some (.bool false, H) := by kernel_rfl
-- sternpost/judge.Claims
noncomputable def G34 : Fs := Fs.ext G59 59 F59
theorem A34 : AllSound Try.prog G34 := AllSound.ext A59 S59
noncomputable def cuts34 : Cuts := [(100003, [3, 6, 7, 8]), (7, [3, 6, 7, 8])]
noncomputable def td34_100003 : List Item := todoOf Try.f34 100003
noncomputable def td34_7 : List Item := todoOf Try.f34 7
noncomputable def F34 : List Value → Heap → R := FN Try.prog G34 Try.f34 cuts34
theorem S34 : Sound Try.prog 34 F34 := FN_sound A34 Try.func34 (by kernel_rfl) (by kernel_rfl)
noncomputable abbrev R34 (m : Nat) : List Item → List Value → Heap → R := run Try.prog G34 Try.f34 cuts34 m
theorem t34 (m : Nat) (a0 : Option Addr) (l1 : Nat) (c2 : Nat) (H : Heap) : fnE Try.prog G34 Try.f34 cuts34 m [.slice a0 l1 c2] H =
    R34 m td34_100003 [.slice none 0 0, .slice a0 l1 c2, .int .i64 ((l1 : Nat) : Int), .int .i64 (0 : Int)] H := by kernel_rfl
theorem c34_7 (m : Nat) (a0 : Option Addr) (l1 : Nat) (c2 : Nat) (a3 : Option Addr) (l4 : Nat) (c5 : Nat) (x6 : Int) (x7 : Int) (H : Heap) : R34 (m + 1) td34_7 [.slice a0 l1 c2, .slice a3 l4 c5, .int .i64 x6, .int .i64 x7] H =
    R34 m td34_100003 [.slice a0 l1 c2, .slice a3 l4 c5, .int .i64 x6, .int .i64 (IntKind.i64.wrap (x7 + (1 : Int)))] H := by kernel_rfl
theorem c34_100003 (m : Nat) (a0 : Option Addr) (l1 : Nat) (c2 : Nat) (a3 : Option Addr) (l4 : Nat) (c5 : Nat) (x6 : Int) (x7 : Int) (H : Heap) : R34 (m + 1) td34_100003 [.slice a0 l1 c2, .slice a3 l4 c5, .int .i64 x6, .int .i64 x7] H =
    (match (decide (x7 < x6)) with
    | true => (onSome a3 fun a8 =>
    if 0 ≤ x7 ∧ x7 < (l4 : Nat) then
    ldc H ((a8.add (x7.toNat * 1)).block) fun cs9 =>
    onSome cs9[(a8.add (x7.toNat * 1)).off]? fun v10 =>
    kStr v10 fun s11 =>
    onSome (F59 [.string s11] H) fun r12 =>
    kBool r12.1 fun b13 =>
    (match b13 with
    | true => (let H14 := r12.2 ++ [.cells [.int .i64 x7] 1 true]
    firstC H14 1 (.slice (some ⟨r12.2.length, 0, none⟩) 1 1) fun n15 nw16 =>
    app Try.prog 3 H14 (.slice a0 l1 c2) n15 nw16 fun v17 H18 =>
    kSl v17 fun a19 l20 c21 =>
    R34 m td34_7 [.slice a19 l20 c21, .slice a3 l4 c5, .int .i64 x6, .int .i64 x7] H18)
    | false => (R34 m td34_7 [.slice a0 l1 c2, .slice a3 l4 c5, .int .i64 x6, .int .i64 x7] r12.2))
    else none)
    | false => (some (.slice a0 l1 c2, H))) := by kernel_rfl
-- sternpost/sternpostref02.Num
noncomputable def G94 : Fs := Fs.ext G34 34 F34
theorem A94 : AllSound Try.prog G94 := AllSound.ext A34 S34
noncomputable def cuts94 : Cuts := [(100003, [0, 3, 4])]
noncomputable def td94_100003 : List Item := todoOf Try.f94 100003
noncomputable def F94 : List Value → Heap → R := FN Try.prog G94 Try.f94 cuts94
theorem S94 : Sound Try.prog 94 F94 := FN_sound A94 Try.func94 (by kernel_rfl) (by kernel_rfl)
noncomputable abbrev R94 (m : Nat) : List Item → List Value → Heap → R := run Try.prog G94 Try.f94 cuts94 m
theorem t94 (m : Nat) (x0 : ByteArray) (H : Heap) : fnE Try.prog G94 Try.f94 cuts94 m [.string x0] H =
    R94 m td94_100003 [.string x0, .int .i64 (0 : Int), .int .i64 (0 : Int)] H := by kernel_rfl
theorem c94_100003 (m : Nat) (x0 : ByteArray) (x1 : Int) (x2 : Int) (H : Heap) : R94 (m + 1) td94_100003 [.string x0, .int .i64 x1, .int .i64 x2] H =
    (match (decide (x2 < (x0.size : Int))) with
    | true => (if 0 ≤ x2 ∧ x2 < x0.size then
    R94 m td94_100003 [.string x0, .int .i64 (IntKind.i64.wrap ((IntKind.i64.wrap (x1 * (256 : Int))) + (IntKind.i64.wrap (byteAt x0 x2.toNat)))), .int .i64 (IntKind.i64.wrap (x2 + (1 : Int)))] H
    else none)
    | false => (some (.int .i64 x1, H))) := by kernel_rfl
-- sternpost/sternpostref03.Mac
noncomputable def G104 : Fs := Fs.ext G94 94 F94
theorem A104 : AllSound Try.prog G104 := AllSound.ext A94 S94
noncomputable def cuts104 : Cuts := []
noncomputable def F104 : List Value → Heap → R := FN Try.prog G104 Try.f104 cuts104
theorem S104 : Sound Try.prog 104 F104 := FN_sound A104 Try.func104 (by kernel_rfl) (by kernel_rfl)
noncomputable abbrev R104 (m : Nat) : List Item → List Value → Heap → R := run Try.prog G104 Try.f104 cuts104 m
theorem t104 (m : Nat) (x0 : Int) (H : Heap) : fnE Try.prog G104 Try.f104 cuts104 m [.int .i64 x0] H =
    (match (decide ((0 : Int) ≤ x0)) with
    | true => (some (.bool (decide (x0 ≤ (281474976710655 : Int))), H))
    | false => (some (.bool false, H))) := by kernel_rfl
-- sternpost/sternpostref03.group
noncomputable def G105 : Fs := Fs.ext G104 104 F104
theorem A105 : AllSound Try.prog G105 := AllSound.ext A104 S104
noncomputable def cuts105 : Cuts := []
noncomputable def F105 : List Value → Heap → R := FN Try.prog G105 Try.f105 cuts105
theorem S105 : Sound Try.prog 105 F105 := FN_sound A105 Try.func105 (by kernel_rfl) (by kernel_rfl)
noncomputable abbrev R105 (m : Nat) : List Item → List Value → Heap → R := run Try.prog G105 Try.f105 cuts105 m
theorem t105 (m : Nat) (x0 : Int) (H : Heap) : fnE Try.prog G105 Try.f105 cuts105 m [.int .i64 x0] H =
    if (40 : Int) < 0 then none else
    if (2 : Int) = 0 then none else
    some (.bool (((x0 / 2 ^ (min (40 : Int).toNat IntKind.i64.bits)).tmod (2 : Int)) == (1 : Int)), H) := by kernel_rfl
-- sternpost/sternpostref03.Check
noncomputable def G95 : Fs := Fs.ext G105 105 F105
theorem A95 : AllSound Try.prog G95 := AllSound.ext A105 S105
noncomputable def cuts95 : Cuts := [(2, [])]
noncomputable def td95_2 : List Item := todoOf Try.f95 2
noncomputable def F95 : List Value → Heap → R := FN Try.prog G95 Try.f95 cuts95
theorem S95 : Sound Try.prog 95 F95 := FN_sound A95 Try.func95 (by kernel_rfl) (by kernel_rfl)
noncomputable abbrev R95 (m : Nat) : List Item → List Value → Heap → R := run Try.prog G95 Try.f95 cuts95 m
theorem t95 (m : Nat) (x0 : Int) (x1 : Int) (x2 : Int) (x3 : ByteArray) (H : Heap) : fnE Try.prog G95 Try.f95 cuts95 m [.agg #[.int .i64 x0, .int .i64 x1, .int .i64 x2, .string x3]] H =
    let H4 := H ++ [.cells [.int .i64 x0, .int .i64 x1, .int .i64 x2, .string x3] 0 true]
    ldc H4 H.length fun cs5 =>
    onSome cs5[0]? fun v6 =>
    kInt .i64 v6 fun n7 =>
    onSome (F104 [.int .i64 n7] H4) fun r8 =>
    kBool r8.1 fun b9 =>
    (match (!b9) with
    | true => (R95 m td95_2 [] r8.2)
    | false => (ldc r8.2 H.length fun cs10 =>
    onSome cs10[(0 + 1)]? fun v11 =>
    kInt .i64 v11 fun n12 =>
    onSome (F104 [.int .i64 n12] r8.2) fun r13 =>
    kBool r13.1 fun b14 =>
    (match (!b14) with
    | true => (R95 m td95_2 [] r13.2)
    | false => (ldc r13.2 H.length fun cs15 =>
    onSome cs15[(0 + 1)]? fun v16 =>
    kInt .i64 v16 fun n17 =>
    onSome (F105 [.int .i64 n17] r13.2) fun r18 =>
    kBool r18.1 fun b19 =>
    (match b19 with
    | true => (R95 m td95_2 [] r18.2)
    | false => (ldc r18.2 H.length fun cs20 =>
    onSome cs20[(0 + 2)]? fun v21 =>
    kInt .i64 v21 fun n22 =>
    (match (decide (n22 < (1536 : Int))) with
    | true => (R95 m td95_2 [] r18.2)
    | false => (ldc r18.2 H.length fun cs23 =>
    onSome cs23[(0 + 2)]? fun v24 =>
    kInt .i64 v24 fun n25 =>
    (match (decide ((65535 : Int) < n25)) with
    | true => (R95 m td95_2 [] r18.2)
    | false => (ldc r18.2 H.length fun cs26 =>
    onSome cs26[(0 + 3)]? fun v27 =>
    kStr v27 fun s28 =>
    (match (decide ((1500 : Int) < (s28.size : Int))) with
    | true => (R95 m td95_2 [] r18.2)
    | false => (some (.int .i64 (0 : Int), r18.2))))))))))))) := by kernel_rfl
theorem c95_2 (m : Nat)  (H : Heap) : R95 (m + 1) td95_2 [] H =
    some (.int .i64 (30 : Int), H) := by kernel_rfl
-- sternpost/sternpostref03.Decode
noncomputable def G82 : Fs := Fs.ext G95 95 F95
theorem A82 : AllSound Try.prog G82 := AllSound.ext A95 S95
noncomputable def cuts82 : Cuts := []
noncomputable def F82 : List Value → Heap → R := FN Try.prog G82 Try.f82 cuts82
theorem S82 : Sound Try.prog 82 F82 := FN_sound A82 Try.func82 (by kernel_rfl) (by kernel_rfl)
noncomputable abbrev R82 (m : Nat) : List Item → List Value → Heap → R := run Try.prog G82 Try.f82 cuts82 m
theorem t82 (m : Nat) (x0 : ByteArray) (H : Heap) : fnE Try.prog G82 Try.f82 cuts82 m [.string x0] H =
    let H1 := H ++ [.cells [.int .i64 (0 : Int), .int .i64 (0 : Int), .int .i64 (0 : Int), .string (⟨#[]⟩ : ByteArray)] 0 true]
    (match (decide ((x0.size : Int) < (14 : Int))) with
    | true => (st 4 H1 (⟨H.length, 0, none⟩ : Addr) (.agg #[.int .i64 (0 : Int), .int .i64 (0 : Int), .int .i64 (0 : Int), .string (⟨#[]⟩ : ByteArray)]) fun _ H2 =>
    ldc H2 H.length fun cs3 =>
    if 0 + 4 ≤ cs3.length then
    some (.tuple #[.agg ((range cs3 0 4).toArray), .int .i64 (30 : Int)], H2)
    else none)
    | false => (slStr x0 (0 : Int) (6 : Int) fun v4 =>
    kStr v4 fun s5 =>
    slStr x0 (6 : Int) (12 : Int) fun v6 =>
    kStr v6 fun s7 =>
    slStr x0 (12 : Int) (14 : Int) fun v8 =>
    kStr v8 fun s9 =>
    slStr x0 (14 : Int) (x0.size : Int) fun v10 =>
    kStr v10 fun s11 =>
    let H12 := H1 ++ [.cells [.int .i64 (0 : Int), .int .i64 (0 : Int), .int .i64 (0 : Int), .string (⟨#[]⟩ : ByteArray)] 0 true]
    onSome (F94 [.string s5] H12) fun r13 =>
    kInt .i64 r13.1 fun n14 =>
    unt H12 r13.2 H1.length (
    onSome (F94 [.string s7] r13.2) fun r15 =>
    kInt .i64 r15.1 fun n16 =>
    unt r13.2 r15.2 H1.length (
    onSome (F94 [.string s9] r15.2) fun r17 =>
    kInt .i64 r17.1 fun n18 =>
    unt r15.2 r17.2 H1.length (
    st 4 r17.2 (⟨H1.length, 0, none⟩ : Addr) (.agg #[.int .i64 n14, .int .i64 n16, .int .i64 n18, .string s11]) fun _ H19 =>
    ldc H19 H1.length fun cs20 =>
    if 0 + 4 ≤ cs20.length then
    onSome (F95 [.agg ((range cs20 0 4).toArray)] H19) fun r21 =>
    kInt .i64 r21.1 fun n22 =>
    (match (n22 != (0 : Int)) with
    | true => (st 4 r21.2 (⟨H.length, 0, none⟩ : Addr) (.agg #[.int .i64 (0 : Int), .int .i64 (0 : Int), .int .i64 (0 : Int), .string (⟨#[]⟩ : ByteArray)]) fun _ H23 =>
    ldc H23 H.length fun cs24 =>
    if 0 + 4 ≤ cs24.length then
    some (.tuple #[.agg ((range cs24 0 4).toArray), .int .i64 n22], H23)
    else none)
    | false => (ldc r21.2 H1.length fun cs25 =>
    if 0 + 4 ≤ cs25.length then
    st 4 r21.2 (⟨H.length, 0, none⟩ : Addr) (.agg ((range cs25 0 4).toArray)) fun _ H26 =>
    ldc H26 H.length fun cs27 =>
    if 0 + 4 ≤ cs27.length then
    some (.tuple #[.agg ((range cs27 0 4).toArray), .int .i64 (0 : Int)], H26)
    else none
    else none))
    else none))))) := by kernel_rfl
-- sternpost/sternpostref04.head
noncomputable def G96 : Fs := Fs.ext G82 82 F82
theorem A96 : AllSound Try.prog G96 := AllSound.ext A82 S82
noncomputable def cuts96 : Cuts := []
noncomputable def F96 : List Value → Heap → R := FN Try.prog G96 Try.f96 cuts96
theorem S96 : Sound Try.prog 96 F96 := FN_sound A96 Try.func96 (by kernel_rfl) (by kernel_rfl)
noncomputable abbrev R96 (m : Nat) : List Item → List Value → Heap → R := run Try.prog G96 Try.f96 cuts96 m
theorem t96 (m : Nat)  (H : Heap) : fnE Try.prog G96 Try.f96 cuts96 m [] H =
    some (.string (⟨#[0, 1, 8, 0, 6, 4]⟩ : ByteArray), H) := by kernel_rfl
-- sternpost/sternpostref03.Group
noncomputable def G106 : Fs := Fs.ext G96 96 F96
theorem A106 : AllSound Try.prog G106 := AllSound.ext A96 S96
noncomputable def cuts106 : Cuts := []
noncomputable def F106 : List Value → Heap → R := FN Try.prog G106 Try.f106 cuts106
theorem S106 : Sound Try.prog 106 F106 := FN_sound A106 Try.func106 (by kernel_rfl) (by kernel_rfl)
noncomputable abbrev R106 (m : Nat) : List Item → List Value → Heap → R := run Try.prog G106 Try.f106 cuts106 m
theorem t106 (m : Nat) (x0 : Int) (H : Heap) : fnE Try.prog G106 Try.f106 cuts106 m [.int .i64 x0] H =
    onSome (F104 [.int .i64 x0] H) fun r1 =>
    kBool r1.1 fun b2 =>
    (match (!b2) with
    | true => (some (.tuple #[.bool false, .int .i64 (1 : Int)], r1.2))
    | false => (onSome (F105 [.int .i64 x0] r1.2) fun r3 =>
    kBool r3.1 fun b4 =>
    some (.tuple #[.bool b4, .int .i64 (0 : Int)], r3.2))) := by kernel_rfl
-- sternpost/sternpostref01.Check
noncomputable def G107 : Fs := Fs.ext G106 106 F106
theorem A107 : AllSound Try.prog G107 := AllSound.ext A106 S106
noncomputable def cuts107 : Cuts := [(2, [])]
noncomputable def td107_2 : List Item := todoOf Try.f107 2
noncomputable def F107 : List Value → Heap → R := FN Try.prog G107 Try.f107 cuts107
theorem S107 : Sound Try.prog 107 F107 := FN_sound A107 Try.func107 (by kernel_rfl) (by kernel_rfl)
noncomputable abbrev R107 (m : Nat) : List Item → List Value → Heap → R := run Try.prog G107 Try.f107 cuts107 m
theorem t107 (m : Nat) (x0 : Int) (H : Heap) : fnE Try.prog G107 Try.f107 cuts107 m [.int .i64 x0] H =
    (match (decide (x0 < (0 : Int))) with
    | true => (R107 m td107_2 [] H)
    | false => ((match (decide ((4294967295 : Int) < x0)) with
    | true => (R107 m td107_2 [] H)
    | false => (some (.int .i64 (0 : Int), H))))) := by kernel_rfl
theorem c107_2 (m : Nat)  (H : Heap) : R107 (m + 1) td107_2 [] H =
    some (.int .i64 (1 : Int), H) := by kernel_rfl
-- sternpost/sternpostref04.Check
noncomputable def G97 : Fs := Fs.ext G107 107 F107
theorem A97 : AllSound Try.prog G97 := AllSound.ext A107 S107
noncomputable def cuts97 : Cuts := [(3, []), (4, [])]
noncomputable def td97_3 : List Item := todoOf Try.f97 3
noncomputable def td97_4 : List Item := todoOf Try.f97 4
noncomputable def F97 : List Value → Heap → R := FN Try.prog G97 Try.f97 cuts97
theorem S97 : Sound Try.prog 97 F97 := FN_sound A97 Try.func97 (by kernel_rfl) (by kernel_rfl)
noncomputable abbrev R97 (m : Nat) : List Item → List Value → Heap → R := run Try.prog G97 Try.f97 cuts97 m
theorem t97 (m : Nat) (x0 : Int) (x1 : Int) (x2 : Int) (x3 : Int) (x4 : Int) (H : Heap) : fnE Try.prog G97 Try.f97 cuts97 m [.agg #[.int .i64 x0, .int .i64 x1, .int .i64 x2, .int .i64 x3, .int .i64 x4]] H =
    let H5 := H ++ [.cells [.int .i64 x0, .int .i64 x1, .int .i64 x2, .int .i64 x3, .int .i64 x4] 0 true]
    ldc H5 H.length fun cs6 =>
    onSome cs6[(0 + 1)]? fun v7 =>
    kInt .i64 v7 fun n8 =>
    onSome (F106 [.int .i64 n8] H5) fun r9 =>
    kTup r9.1 fun vs10 =>
    onSome vs10[0]? fun v11 =>
    kBool v11 fun b12 =>
    kTup r9.1 fun vs13 =>
    onSome vs13[1]? fun v14 =>
    kInt .i64 v14 fun n15 =>
    ldc r9.2 H.length fun cs16 =>
    onSome cs16[0]? fun v17 =>
    kInt .i64 v17 fun n18 =>
    (match (n18 != (1 : Int)) with
    | true => (ldc r9.2 H.length fun cs19 =>
    onSome cs19[0]? fun v20 =>
    kInt .i64 v20 fun n21 =>
    (match (n21 != (2 : Int)) with
    | true => (R97 m td97_3 [] r9.2)
    | false => (ldc r9.2 H.length fun cs22 =>
    onSome cs22[(0 + 1)]? fun v23 =>
    kInt .i64 v23 fun n24 =>
    onSome (F104 [.int .i64 n24] r9.2) fun r25 =>
    kBool r25.1 fun b26 =>
    (match (!b26) with
    | true => (R97 m td97_3 [] r25.2)
    | false => (ldc r25.2 H.length fun cs27 =>
    onSome cs27[(0 + 3)]? fun v28 =>
    kInt .i64 v28 fun n29 =>
    onSome (F104 [.int .i64 n29] r25.2) fun r30 =>
    kBool r30.1 fun b31 =>
    (match (!b31) with
    | true => (R97 m td97_3 [] r30.2)
    | false => ((match b12 with
    | true => (R97 m td97_3 [] r30.2)
    | false => (ldc r30.2 H.length fun cs32 =>
    onSome cs32[(0 + 2)]? fun v33 =>
    kInt .i64 v33 fun n34 =>
    onSome (F107 [.int .i64 n34] r30.2) fun r35 =>
    kInt .i64 r35.1 fun n36 =>
    (match (n36 != (0 : Int)) with
    | true => (R97 m td97_3 [] r35.2)
    | false => (ldc r35.2 H.length fun cs37 =>
    onSome cs37[(0 + 4)]? fun v38 =>
    kInt .i64 v38 fun n39 =>
    onSome (F107 [.int .i64 n39] r35.2) fun r40 =>
    kInt .i64 r40.1 fun n41 =>
    (match (n41 != (0 : Int)) with
    | true => (R97 m td97_3 [] r40.2)
    | false => (R97 m td97_4 [] r40.2)))))))))))))
    | false => (ldc r9.2 H.length fun cs42 =>
    onSome cs42[(0 + 1)]? fun v43 =>
    kInt .i64 v43 fun n44 =>
    onSome (F104 [.int .i64 n44] r9.2) fun r45 =>
    kBool r45.1 fun b46 =>
    (match (!b46) with
    | true => (R97 m td97_3 [] r45.2)
    | false => (ldc r45.2 H.length fun cs47 =>
    onSome cs47[(0 + 3)]? fun v48 =>
    kInt .i64 v48 fun n49 =>
    onSome (F104 [.int .i64 n49] r45.2) fun r50 =>
    kBool r50.1 fun b51 =>
    (match (!b51) with
    | true => (R97 m td97_3 [] r50.2)
    | false => ((match b12 with
    | true => (R97 m td97_3 [] r50.2)
    | false => (ldc r50.2 H.length fun cs52 =>
    onSome cs52[(0 + 2)]? fun v53 =>
    kInt .i64 v53 fun n54 =>
    onSome (F107 [.int .i64 n54] r50.2) fun r55 =>
    kInt .i64 r55.1 fun n56 =>
    (match (n56 != (0 : Int)) with
    | true => (R97 m td97_3 [] r55.2)
    | false => (ldc r55.2 H.length fun cs57 =>
    onSome cs57[(0 + 4)]? fun v58 =>
    kInt .i64 v58 fun n59 =>
    onSome (F107 [.int .i64 n59] r55.2) fun r60 =>
    kInt .i64 r60.1 fun n61 =>
    (match (n61 != (0 : Int)) with
    | true => (R97 m td97_3 [] r60.2)
    | false => (R97 m td97_4 [] r60.2)))))))))))) := by kernel_rfl
theorem c97_3 (m : Nat)  (H : Heap) : R97 (m + 1) td97_3 [] H =
    some (.int .i64 (40 : Int), H) := by kernel_rfl
theorem c97_4 (m : Nat)  (H : Heap) : R97 (m + 1) td97_4 [] H =
    some (.int .i64 (0 : Int), H) := by kernel_rfl
-- sternpost/sternpostref04.Decode
noncomputable def G83 : Fs := Fs.ext G97 97 F97
theorem A83 : AllSound Try.prog G83 := AllSound.ext A97 S97
noncomputable def cuts83 : Cuts := [(2, [2])]
noncomputable def td83_2 : List Item := todoOf Try.f83 2
noncomputable def F83 : List Value → Heap → R := FN Try.prog G83 Try.f83 cuts83
theorem S83 : Sound Try.prog 83 F83 := FN_sound A83 Try.func83 (by kernel_rfl) (by kernel_rfl)
noncomputable abbrev R83 (m : Nat) : List Item → List Value → Heap → R := run Try.prog G83 Try.f83 cuts83 m
theorem t83 (m : Nat) (x0 : ByteArray) (H : Heap) : fnE Try.prog G83 Try.f83 cuts83 m [.string x0] H =
    let H1 := H ++ [.cells [.int .i64 (0 : Int), .int .i64 (0 : Int), .int .i64 (0 : Int), .int .i64 (0 : Int), .int .i64 (0 : Int)] 0 true]
    (match (decide ((x0.size : Int) < (28 : Int))) with
    | true => (R83 m td83_2 [.pointer (some (⟨H.length, 0, none⟩ : Addr))] H1)
    | false => ((match (decide ((46 : Int) < (x0.size : Int))) with
    | true => (R83 m td83_2 [.pointer (some (⟨H.length, 0, none⟩ : Addr))] H1)
    | false => (slStr x0 (0 : Int) (6 : Int) fun v2 =>
    kStr v2 fun s3 =>
    onSome (F96 [] H1) fun r4 =>
    kStr r4.1 fun s5 =>
    (match (!(s3.toList == s5.toList)) with
    | true => (R83 m td83_2 [.pointer (some (⟨H.length, 0, none⟩ : Addr))] r4.2)
    | false => (slStr x0 (6 : Int) (8 : Int) fun v6 =>
    kStr v6 fun s7 =>
    slStr x0 (8 : Int) (14 : Int) fun v8 =>
    kStr v8 fun s9 =>
    slStr x0 (14 : Int) (18 : Int) fun v10 =>
    kStr v10 fun s11 =>
    slStr x0 (18 : Int) (24 : Int) fun v12 =>
    kStr v12 fun s13 =>
    slStr x0 (24 : Int) (28 : Int) fun v14 =>
    kStr v14 fun s15 =>
    let H16 := r4.2 ++ [.cells [.int .i64 (0 : Int), .int .i64 (0 : Int), .int .i64 (0 : Int), .int .i64 (0 : Int), .int .i64 (0 : Int)] 0 true]
    onSome (F94 [.string s7] H16) fun r17 =>
    kInt .i64 r17.1 fun n18 =>
    unt H16 r17.2 r4.2.length (
    onSome (F94 [.string s9] r17.2) fun r19 =>
    kInt .i64 r19.1 fun n20 =>
    unt r17.2 r19.2 r4.2.length (
    onSome (F94 [.string s11] r19.2) fun r21 =>
    kInt .i64 r21.1 fun n22 =>
    unt r19.2 r21.2 r4.2.length (
    onSome (F94 [.string s13] r21.2) fun r23 =>
    kInt .i64 r23.1 fun n24 =>
    unt r21.2 r23.2 r4.2.length (
    onSome (F94 [.string s15] r23.2) fun r25 =>
    kInt .i64 r25.1 fun n26 =>
    unt r23.2 r25.2 r4.2.length (
    st 5 r25.2 (⟨r4.2.length, 0, none⟩ : Addr) (.agg #[.int .i64 n18, .int .i64 n20, .int .i64 n22, .int .i64 n24, .int .i64 n26]) fun _ H27 =>
    ldc H27 r4.2.length fun cs28 =>
    if 0 + 5 ≤ cs28.length then
    onSome (F97 [.agg ((range cs28 0 5).toArray)] H27) fun r29 =>
    kInt .i64 r29.1 fun n30 =>
    (match (n30 != (0 : Int)) with
    | true => (st 5 r29.2 (⟨H.length, 0, none⟩ : Addr) (.agg #[.int .i64 (0 : Int), .int .i64 (0 : Int), .int .i64 (0 : Int), .int .i64 (0 : Int), .int .i64 (0 : Int)]) fun _ H31 =>
    ldc H31 H.length fun cs32 =>
    if 0 + 5 ≤ cs32.length then
    some (.tuple #[.agg ((range cs32 0 5).toArray), .int .i64 n30], H31)
    else none)
    | false => (ldc r29.2 r4.2.length fun cs33 =>
    if 0 + 5 ≤ cs33.length then
    st 5 r29.2 (⟨H.length, 0, none⟩ : Addr) (.agg ((range cs33 0 5).toArray)) fun _ H34 =>
    ldc H34 H.length fun cs35 =>
    if 0 + 5 ≤ cs35.length then
    some (.tuple #[.agg ((range cs35 0 5).toArray), .int .i64 (0 : Int)], H34)
    else none
    else none))
    else none))))))))))) := by kernel_rfl
theorem c83_2 (m : Nat) (x0 : Option Addr) (H : Heap) : R83 (m + 1) td83_2 [.pointer x0] H =
    onSome x0 fun a1 =>
    st 5 H a1 (.agg #[.int .i64 (0 : Int), .int .i64 (0 : Int), .int .i64 (0 : Int), .int .i64 (0 : Int), .int .i64 (0 : Int)]) fun _ H2 =>
    onSome x0 fun a3 =>
    ldc H2 a3.block fun cs4 =>
    if a3.off + 5 ≤ cs4.length then
    some (.tuple #[.agg ((range cs4 a3.off 5).toArray), .int .i64 (40 : Int)], H2)
    else none := by kernel_rfl
-- sternpost/sternpostref04.IsClaim
noncomputable def G84 : Fs := Fs.ext G83 83 F83
theorem A84 : AllSound Try.prog G84 := AllSound.ext A83 S83
noncomputable def cuts84 : Cuts := []
noncomputable def F84 : List Value → Heap → R := FN Try.prog G84 Try.f84 cuts84
theorem S84 : Sound Try.prog 84 F84 := FN_sound A84 Try.func84 (by kernel_rfl) (by kernel_rfl)
noncomputable abbrev R84 (m : Nat) : List Item → List Value → Heap → R := run Try.prog G84 Try.f84 cuts84 m
theorem t84 (m : Nat) (x0 : Int) (x1 : Int) (x2 : Int) (x3 : Int) (x4 : Int) (H : Heap) : fnE Try.prog G84 Try.f84 cuts84 m [.agg #[.int .i64 x0, .int .i64 x1, .int .i64 x2, .int .i64 x3, .int .i64 x4]] H =
    let H5 := H ++ [.cells [.int .i64 x0, .int .i64 x1, .int .i64 x2, .int .i64 x3, .int .i64 x4] 0 true]
    ldc H5 H.length fun cs6 =>
    if 0 + 5 ≤ cs6.length then
    onSome (F97 [.agg ((range cs6 0 5).toArray)] H5) fun r7 =>
    kInt .i64 r7.1 fun n8 =>
    (match (n8 == (0 : Int)) with
    | true => (ldc r7.2 H.length fun cs9 =>
    onSome cs9[(0 + 2)]? fun v10 =>
    kInt .i64 v10 fun n11 =>
    ldc r7.2 H.length fun cs12 =>
    onSome cs12[(0 + 4)]? fun v13 =>
    kInt .i64 v13 fun n14 =>
    some (.bool (n11 == n14), r7.2))
    | false => (some (.bool false, r7.2)))
    else none := by kernel_rfl
-- sternpost/sternpostref29.claim
noncomputable def G60 : Fs := Fs.ext G84 84 F84
theorem A60 : AllSound Try.prog G60 := AllSound.ext A84 S84
noncomputable def cuts60 : Cuts := [(3, [])]
noncomputable def td60_3 : List Item := todoOf Try.f60 3
noncomputable def F60 : List Value → Heap → R := FN Try.prog G60 Try.f60 cuts60
theorem S60 : Sound Try.prog 60 F60 := FN_sound A60 Try.func60 (by kernel_rfl) (by kernel_rfl)
noncomputable abbrev R60 (m : Nat) : List Item → List Value → Heap → R := run Try.prog G60 Try.f60 cuts60 m
theorem t60 (m : Nat) (x0 : ByteArray) (H : Heap) : fnE Try.prog G60 Try.f60 cuts60 m [.string x0] H =
    onSome (F82 [.string x0] H) fun r1 =>
    kTup r1.1 fun vs2 =>
    onSome vs2[0]? fun v3 =>
    kAgg v3 fun cs4 =>
    if cs4.size = 4 then
    kTup r1.1 fun vs5 =>
    onSome vs5[1]? fun v6 =>
    kInt .i64 v6 fun n7 =>
    let H8 := r1.2 ++ [.cells [.int .i64 (0 : Int), .int .i64 (0 : Int), .int .i64 (0 : Int), .string (⟨#[]⟩ : ByteArray)] 0 true]
    st 4 H8 (⟨r1.2.length, 0, none⟩ : Addr) (.agg cs4) fun _ H9 =>
    (match (n7 != (0 : Int)) with
    | true => (R60 m td60_3 [] H9)
    | false => (ldc H9 r1.2.length fun cs10 =>
    onSome cs10[(0 + 2)]? fun v11 =>
    kInt .i64 v11 fun n12 =>
    (match (n12 != (2054 : Int)) with
    | true => (R60 m td60_3 [] H9)
    | false => (ldc H9 r1.2.length fun cs13 =>
    onSome cs13[(0 + 3)]? fun v14 =>
    kStr v14 fun s15 =>
    onSome (F83 [.string s15] H9) fun r16 =>
    kTup r16.1 fun vs17 =>
    onSome vs17[0]? fun v18 =>
    kAgg v18 fun cs19 =>
    if cs19.size = 5 then
    kTup r16.1 fun vs20 =>
    onSome vs20[1]? fun v21 =>
    kInt .i64 v21 fun n22 =>
    let H23 := r16.2 ++ [.cells [.int .i64 (0 : Int), .int .i64 (0 : Int), .int .i64 (0 : Int), .int .i64 (0 : Int), .int .i64 (0 : Int)] 0 true]
    st 5 H23 (⟨r16.2.length, 0, none⟩ : Addr) (.agg cs19) fun _ H24 =>
    (match (n22 == (0 : Int)) with
    | true => (ldc H24 r16.2.length fun cs25 =>
    if 0 + 5 ≤ cs25.length then
    onSome (F84 [.agg ((range cs25 0 5).toArray)] H24) fun r26 =>
    kBool r26.1 fun b27 =>
    some (.bool b27, r26.2)
    else none)
    | false => (some (.bool false, H24)))
    else none))))
    else none := by kernel_rfl
theorem c60_3 (m : Nat)  (H : Heap) : R60 (m + 1) td60_3 [] H =
    some (.bool false, H) := by kernel_rfl
-- sternpost/sternpostref29.Claims
noncomputable def G35 : Fs := Fs.ext G60 60 F60
theorem A35 : AllSound Try.prog G35 := AllSound.ext A60 S60
noncomputable def cuts35 : Cuts := [(100003, [0, 3, 4]), (4, [0, 3, 4])]
noncomputable def td35_100003 : List Item := todoOf Try.f35 100003
noncomputable def td35_4 : List Item := todoOf Try.f35 4
noncomputable def F35 : List Value → Heap → R := FN Try.prog G35 Try.f35 cuts35
theorem S35 : Sound Try.prog 35 F35 := FN_sound A35 Try.func35 (by kernel_rfl) (by kernel_rfl)
noncomputable abbrev R35 (m : Nat) : List Item → List Value → Heap → R := run Try.prog G35 Try.f35 cuts35 m
theorem t35 (m : Nat) (a0 : Option Addr) (l1 : Nat) (c2 : Nat) (H : Heap) : fnE Try.prog G35 Try.f35 cuts35 m [.slice a0 l1 c2] H =
    R35 m td35_100003 [.slice a0 l1 c2, .slice none 0 0, .int .i64 (0 : Int)] H := by kernel_rfl
theorem c35_4 (m : Nat) (a0 : Option Addr) (l1 : Nat) (c2 : Nat) (a3 : Option Addr) (l4 : Nat) (c5 : Nat) (x6 : Int) (H : Heap) : R35 (m + 1) td35_4 [.slice a0 l1 c2, .slice a3 l4 c5, .int .i64 x6] H =
    R35 m td35_100003 [.slice a0 l1 c2, .slice a3 l4 c5, .int .i64 (IntKind.i64.wrap (x6 + (1 : Int)))] H := by kernel_rfl
theorem c35_100003 (m : Nat) (a0 : Option Addr) (l1 : Nat) (c2 : Nat) (a3 : Option Addr) (l4 : Nat) (c5 : Nat) (x6 : Int) (H : Heap) : R35 (m + 1) td35_100003 [.slice a0 l1 c2, .slice a3 l4 c5, .int .i64 x6] H =
    (match (decide (x6 < ((l1 : Nat) : Int))) with
    | true => (onSome a0 fun a7 =>
    if 0 ≤ x6 ∧ x6 < (l1 : Nat) then
    ldc H ((a7.add (x6.toNat * 1)).block) fun cs8 =>
    onSome cs8[(a7.add (x6.toNat * 1)).off]? fun v9 =>
    kStr v9 fun s10 =>
    onSome (F60 [.string s10] H) fun r11 =>
    kBool r11.1 fun b12 =>
    (match b12 with
    | true => (let H13 := r11.2 ++ [.cells [.int .i64 x6] 1 true]
    firstC H13 1 (.slice (some ⟨r11.2.length, 0, none⟩) 1 1) fun n14 nw15 =>
    app Try.prog 3 H13 (.slice a3 l4 c5) n14 nw15 fun v16 H17 =>
    kSl v16 fun a18 l19 c20 =>
    R35 m td35_4 [.slice a0 l1 c2, .slice a18 l19 c20, .int .i64 x6] H17)
    | false => (R35 m td35_4 [.slice a0 l1 c2, .slice a3 l4 c5, .int .i64 x6] r11.2))
    else none)
    | false => (some (.slice a3 l4 c5, H))) := by kernel_rfl
-- sternpost/sternpostlaw29.JudgeAmong
noncomputable def G6 : Fs := Fs.ext G35 35 F35
theorem A6 : AllSound Try.prog G6 := AllSound.ext A35 S35
noncomputable def cuts6 : Cuts := []
noncomputable def F6 : List Value → Heap → R := FN Try.prog G6 Try.f6 cuts6
theorem S6 : Sound Try.prog 6 F6 := FN_sound A6 Try.func6 (by kernel_rfl) (by kernel_rfl)
noncomputable abbrev R6 (m : Nat) : List Item → List Value → Heap → R := run Try.prog G6 Try.f6 cuts6 m
theorem t6 (m : Nat) (a0 : Option Addr) (l1 : Nat) (c2 : Nat) (a3 : Option Addr) (l4 : Nat) (c5 : Nat) (H : Heap) : fnE Try.prog G6 Try.f6 cuts6 m [.slice a0 l1 c2, .slice a3 l4 c5] H =
    onSome (F11 [.slice a0 l1 c2, .slice a3 l4 c5] H) fun r6 =>
    kTup r6.1 fun vs7 =>
    onSome vs7[0]? fun v8 =>
    kInt .i64 v8 fun n9 =>
    kTup r6.1 fun vs10 =>
    onSome vs10[1]? fun v11 =>
    kBool v11 fun b12 =>
    onSome (F32 [.slice a0 l1 c2, .slice a3 l4 c5] r6.2) fun r13 =>
    kTup r13.1 fun vs14 =>
    onSome vs14[0]? fun v15 =>
    kInt .i64 v15 fun n16 =>
    kTup r13.1 fun vs17 =>
    onSome vs17[1]? fun v18 =>
    kBool v18 fun b19 =>
    (match (n9 == n16) with
    | true => ((match (b12 == b19) with
    | true => (onSome (F34 [.slice a0 l1 c2] r13.2) fun r20 =>
    kSl r20.1 fun a21 l22 c23 =>
    onSome (F35 [.slice a0 l1 c2] r20.2) fun r24 =>
    kSl r24.1 fun a25 l26 c27 =>
    onSome (F33 [.slice a21 l22 c23, .slice a25 l26 c27] r24.2) fun r28 =>
    kBool r28.1 fun b29 =>
    (match b29 with
    | true => (onSome (F10 [] r28.2) fun r30 =>
    kBool r30.1 fun b31 =>
    some (.bool b31, r30.2))
    | false => (some (.bool false, r28.2))))
    | false => (some (.bool false, r13.2))))
    | false => (some (.bool false, r13.2))) := by kernel_rfl
end Go.Proofs.Yticchkdbanhjfaa
