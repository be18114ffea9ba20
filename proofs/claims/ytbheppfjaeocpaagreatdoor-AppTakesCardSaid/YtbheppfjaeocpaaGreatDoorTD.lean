/- PRINTED by a program of the session (Pr.lean): what functions of the program come to on the abstract heap, each checked by the kernel. Conditions: none. -/
import Derived.Test.YtbheppfjaeocpaaGreatDoorTC
import Derived.Test.YtbheppfjaeocpaaGreatDoorProg
set_option linter.unusedVariables false
namespace Go.Proofs.YtbheppfjaeocpaaGreatDoor
open Go Go.Proofs.YtbheppfjaeocpaaGreatDoor.Fw Go.RowKit
noncomputable def G33 : Fs := Fs.ext G3 3 F3
theorem A33 : AllSound Tryz.prog G33 := AllSound.ext A3 S3
-- slices.Clone[[]byte,byte]
noncomputable def G34 : Fs := Fs.ext G33 33 F33
theorem A34 : AllSound Tryz.prog G34 := AllSound.ext A33 S33
noncomputable def cuts34 : Cuts := []
noncomputable def F34 : List Value → Heap → R := FN Tryz.prog G34 Tryz.f34 cuts34
theorem S34 : Sound Tryz.prog 34 F34 := FN_sound A34 Tryz.func34 (by kernel_rfl) (by kernel_rfl)
noncomputable abbrev R34 (m : Nat) : List Item → List Value → Heap → R := run Tryz.prog G34 Tryz.f34 cuts34 m
theorem t34 (m : Nat) (a0 : Option Addr) (l1 : Nat) (c2 : Nat) (H : Heap) : fnE Tryz.prog G34 Tryz.f34 cuts34 m [.slice a0 l1 c2] H =
    (match a0.isNone with
    | true => (some (.slice none 0 0, H))
    | false => (let H3 := H ++ [.cells [] 1 true]
    firstC H3 1 (.slice a0 l1 c2) fun n4 nw5 =>
    app Tryz.prog 5 H3 (.slice (some ⟨H.length, 0, none⟩) 0 0) n4 nw5 fun v6 H7 =>
    kSl v6 fun a8 l9 c10 =>
    some (.slice a8 l9 c10, H7))) := by kernel_rfl
-- (*sternpost/app.Session).Fork
noncomputable def G19 : Fs := Fs.ext G34 34 F34
theorem A19 : AllSound Tryz.prog G19 := AllSound.ext A34 S34
noncomputable def cuts19 : Cuts := []
noncomputable def F19 : List Value → Heap → R := FN Tryz.prog G19 Tryz.f19 cuts19
theorem S19 : Sound Tryz.prog 19 F19 := FN_sound A19 Tryz.func19 (by kernel_rfl) (by kernel_rfl)
noncomputable abbrev R19 (m : Nat) : List Item → List Value → Heap → R := run Tryz.prog G19 Tryz.f19 cuts19 m
theorem t19 (m : Nat) (x0 : Option Addr) (H : Heap) : fnE Tryz.prog G19 Tryz.f19 cuts19 m [.pointer x0] H =
    onSome x0 fun a1 =>
    ldc H a1.block fun cs2 =>
    onSome cs2[a1.off]? fun v3 =>
    kMp v3 fun r4 =>
    onSome x0 fun a5 =>
    ldc H a5.block fun cs6 =>
    onSome cs6[(a5.off + 1)]? fun v7 =>
    kSl v7 fun a8 l9 c10 =>
    onSome x0 fun a11 =>
    ldc H a11.block fun cs12 =>
    onSome cs12[(a11.off + 2)]? fun v13 =>
    kBool v13 fun b14 =>
    onSome x0 fun a15 =>
    ldc H a15.block fun cs16 =>
    onSome cs16[(a15.off + 3)]? fun v17 =>
    kBool v17 fun b18 =>
    onSome (F33 [.map r4] H) fun r19 =>
    kMp r19.1 fun r20 =>
    unt H r19.2 a15.block (
    unt H r19.2 a11.block (
    unt H r19.2 a5.block (
    onSome (F34 [.slice a8 l9 c10] r19.2) fun r21 =>
    kSl r21.1 fun a22 l23 c24 =>
    unt r19.2 r21.2 a15.block (
    unt r19.2 r21.2 a11.block (
    let H25 := r21.2 ++ [.cells [.map r20, .slice a22 l23 c24, .bool b14, .bool b18] 0 true]
    some (.pointer (some (⟨r21.2.length, 0, none⟩ : Addr)), H25)))))) := by kernel_rfl
-- (*sternpost/sternpostref21.Session).Names
noncomputable def G22 : Fs := Fs.ext G19 19 F19
theorem A22 : AllSound Tryz.prog G22 := AllSound.ext A19 S19
noncomputable def cuts22 : Cuts := [(100003, [0, 3, 4])]
noncomputable def td22_100003 : List Item := todoOf Tryz.f22 100003
noncomputable def F22 : List Value → Heap → R := FN Tryz.prog G22 Tryz.f22 cuts22
theorem S22 : Sound Tryz.prog 22 F22 := FN_sound A22 Tryz.func22 (by kernel_rfl) (by kernel_rfl)
noncomputable abbrev R22 (m : Nat) : List Item → List Value → Heap → R := run Tryz.prog G22 Tryz.f22 cuts22 m
theorem t22 (m : Nat) (x0 : Option Addr) (H : Heap) : fnE Tryz.prog G22 Tryz.f22 cuts22 m [.pointer x0] H =
    R22 m td22_100003 [.pointer x0, .slice none 0 0, .int .i64 (0 : Int)] H := by kernel_rfl
theorem c22_100003 (m : Nat) (x0 : Option Addr) (a1 : Option Addr) (l2 : Nat) (c3 : Nat) (x4 : Int) (H : Heap) : R22 (m + 1) td22_100003 [.pointer x0, .slice a1 l2 c3, .int .i64 x4] H =
    onSome x0 fun a5 =>
    ldc H a5.block fun cs6 =>
    onSome cs6[a5.off]? fun v7 =>
    kSl v7 fun a8 l9 c10 =>
    (match (decide (x4 < ((l9 : Nat) : Int))) with
    | true => (onSome x0 fun a11 =>
    ldc H a11.block fun cs12 =>
    onSome cs12[a11.off]? fun v13 =>
    kSl v13 fun a14 l15 c16 =>
    onSome a14 fun a17 =>
    if 0 ≤ x4 ∧ x4 < (l15 : Nat) then
    ldc H ((a17.add (x4.toNat * 2)).block) fun cs18 =>
    onSome cs18[(a17.add (x4.toNat * 2)).off]? fun v19 =>
    kStr v19 fun s20 =>
    let H21 := H ++ [.cells [.string s20] 1 true]
    firstC H21 1 (.slice (some ⟨H.length, 0, none⟩) 1 1) fun n22 nw23 =>
    app Tryz.prog 9 H21 (.slice a1 l2 c3) n22 nw23 fun v24 H25 =>
    kSl v24 fun a26 l27 c28 =>
    R22 m td22_100003 [.pointer x0, .slice a26 l27 c28, .int .i64 (IntKind.i64.wrap (x4 + (1 : Int)))] H25
    else none)
    | false => (some (.slice a1 l2 c3, H))) := by kernel_rfl
-- sternpost/sternpostbook.SameTexts
noncomputable def G21 : Fs := Fs.ext G22 22 F22
theorem A21 : AllSound Tryz.prog G21 := AllSound.ext A22 S22
noncomputable def cuts21 : Cuts := [(100004, [0, 1, 5])]
noncomputable def td21_100004 : List Item := todoOf Tryz.f21 100004
noncomputable def F21 : List Value → Heap → R := FN Tryz.prog G21 Tryz.f21 cuts21
theorem S21 : Sound Tryz.prog 21 F21 := FN_sound A21 Tryz.func21 (by kernel_rfl) (by kernel_rfl)
noncomputable abbrev R21 (m : Nat) : List Item → List Value → Heap → R := run Tryz.prog G21 Tryz.f21 cuts21 m
theorem t21 (m : Nat) (a0 : Option Addr) (l1 : Nat) (c2 : Nat) (a3 : Option Addr) (l4 : Nat) (c5 : Nat) (H : Heap) : fnE Tryz.prog G21 Tryz.f21 cuts21 m [.slice a0 l1 c2, .slice a3 l4 c5] H =
    (match (((l1 : Nat) : Int) != ((l4 : Nat) : Int)) with
    | true => (some (.bool false, H))
    | false => (R21 m td21_100004 [.slice a0 l1 c2, .slice a3 l4 c5, .int .i64 (0 : Int)] H)) := by kernel_rfl
theorem c21_100004 (m : Nat) (a0 : Option Addr) (l1 : Nat) (c2 : Nat) (a3 : Option Addr) (l4 : Nat) (c5 : Nat) (x6 : Int) (H : Heap) : R21 (m + 1) td21_100004 [.slice a0 l1 c2, .slice a3 l4 c5, .int .i64 x6] H =
    (match (decide (x6 < ((l1 : Nat) : Int))) with
    | true => (onSome a0 fun a7 =>
    if 0 ≤ x6 ∧ x6 < (l1 : Nat) then
    ldc H ((a7.add (x6.toNat * 1)).block) fun cs8 =>
    onSome cs8[(a7.add (x6.toNat * 1)).off]? fun v9 =>
    kStr v9 fun s10 =>
    onSome a3 fun a11 =>
    if 0 ≤ x6 ∧ x6 < (l4 : Nat) then
    ldc H ((a11.add (x6.toNat * 1)).block) fun cs12 =>
    onSome cs12[(a11.add (x6.toNat * 1)).off]? fun v13 =>
    kStr v13 fun s14 =>
    (match (!(s10.toList == s14.toList)) with
    | true => (some (.bool false, H))
    | false => (R21 m td21_100004 [.slice a0 l1 c2, .slice a3 l4 c5, .int .i64 (IntKind.i64.wrap (x6 + (1 : Int)))] H))
    else none
    else none)
    | false => (some (.bool true, H))) := by kernel_rfl
-- sternpost/sternpostbook.SpoilTexts
noncomputable def G23 : Fs := Fs.ext G21 21 F21
theorem A23 : AllSound Tryz.prog G23 := AllSound.ext A21 S21
noncomputable def cuts23 : Cuts := [(100001, [0, 2])]
noncomputable def td23_100001 : List Item := todoOf Tryz.f23 100001
noncomputable def F23 : List Value → Heap → R := FN Tryz.prog G23 Tryz.f23 cuts23
theorem S23 : Sound Tryz.prog 23 F23 := FN_sound A23 Tryz.func23 (by kernel_rfl) (by kernel_rfl)
noncomputable abbrev R23 (m : Nat) : List Item → List Value → Heap → R := run Tryz.prog G23 Tryz.f23 cuts23 m
theorem t23 (m : Nat) (a0 : Option Addr) (l1 : Nat) (c2 : Nat) (H : Heap) : fnE Tryz.prog G23 Tryz.f23 cuts23 m [.slice a0 l1 c2] H =
    R23 m td23_100001 [.slice a0 l1 c2, .int .i64 (0 : Int)] H := by kernel_rfl
theorem c23_100001 (m : Nat) (a0 : Option Addr) (l1 : Nat) (c2 : Nat) (x3 : Int) (H : Heap) : R23 (m + 1) td23_100001 [.slice a0 l1 c2, .int .i64 x3] H =
    (match (decide (x3 < ((l1 : Nat) : Int))) with
    | true => (onSome a0 fun a4 =>
    if 0 ≤ x3 ∧ x3 < (l1 : Nat) then
    st 1 H (a4.add (x3.toNat * 1)) (.string (⟨#[115, 112, 111, 105, 108, 116]⟩ : ByteArray)) fun _ H5 =>
    R23 m td23_100001 [.slice a0 l1 c2, .int .i64 (IntKind.i64.wrap (x3 + (1 : Int)))] H5
    else none)
    | false => (some (.tuple #[], H))) := by kernel_rfl
-- (*sternpost/app.Session).Over
noncomputable def G2018 : Fs := Fs.ext G23 23 F23
theorem A2018 : AllSound Tryz.prog G2018 := AllSound.ext A23 S23
noncomputable def cuts2018 : Cuts := []
noncomputable def F2018 : List Value → Heap → R := FN Tryz.prog G2018 Tryz.f18 cuts2018
theorem S2018 : Sound Tryz.prog 18 F2018 := FN_sound A2018 Tryz.func18 (by kernel_rfl) (by kernel_rfl)
noncomputable abbrev R2018 (m : Nat) : List Item → List Value → Heap → R := run Tryz.prog G2018 Tryz.f18 cuts2018 m
theorem t2018 (m : Nat) (x0 : Option Addr) (H : Heap) : fnE Tryz.prog G2018 Tryz.f18 cuts2018 m [.pointer x0] H =
    onSome x0 fun a1 =>
    ldc H a1.block fun cs2 =>
    onSome cs2[(a1.off + 3)]? fun v3 =>
    kBool v3 fun b4 =>
    some (.bool b4, H) := by kernel_rfl
-- sternpost/sternpostlaw21.AppTakes
noncomputable def G8 : Fs := Fs.ext G2018 18 F2018
theorem A8 : AllSound Tryz.prog G8 := AllSound.ext A2018 S2018
noncomputable def cuts8 : Cuts := [(100005, [0, 3, 4, 5]), (6, [0, 3, 4, 5]), (15, []), (8, [0, 3, 4, 5]), (18, []), (3, [])]
noncomputable def td8_100005 : List Item := todoOf Tryz.f8 100005
noncomputable def td8_6 : List Item := todoOf Tryz.f8 6
noncomputable def td8_15 : List Item := todoOf Tryz.f8 15
noncomputable def td8_8 : List Item := todoOf Tryz.f8 8
noncomputable def td8_18 : List Item := todoOf Tryz.f8 18
noncomputable def td8_3 : List Item := todoOf Tryz.f8 3
noncomputable def F8 : List Value → Heap → R := FN Tryz.prog G8 Tryz.f8 cuts8
theorem S8 : Sound Tryz.prog 8 F8 := FN_sound A8 Tryz.func8 (by kernel_rfl) (by kernel_rfl)
noncomputable abbrev R8 (m : Nat) : List Item → List Value → Heap → R := run Tryz.prog G8 Tryz.f8 cuts8 m
theorem t8 (m : Nat) (a0 : Option Addr) (l1 : Nat) (c2 : Nat) (H : Heap) : fnE Tryz.prog G8 Tryz.f8 cuts8 m [.slice a0 l1 c2] H =
    onSome (F13 [] H) fun r3 =>
    kPtr r3.1 fun p4 =>
    let H5 := r3.2 ++ [.cells [.slice none 0 0, .string (⟨#[]⟩ : ByteArray), .bool false, .bool false] 0 true]
    (match p4.isNone with
    | true => (R8 m td8_3 [] H5)
    | false => (onSome (F10 [] H5) fun r6 =>
    kBool r6.1 fun b7 =>
    (match (!b7) with
    | true => (R8 m td8_3 [] r6.2)
    | false => (R8 m td8_100005 [.slice a0 l1 c2, .pointer p4, .pointer (some (⟨r3.2.length, 0, none⟩ : Addr)), .int .i64 (0 : Int)] r6.2)))) := by kernel_rfl
theorem c8_3 (m : Nat)  (H : Heap) : R8 (m + 1) td8_3 [] H =
    some (.bool false, H) := by kernel_rfl
theorem c8_6 (m : Nat) (a0 : Option Addr) (l1 : Nat) (c2 : Nat) (x3 : Option Addr) (x4 : Option Addr) (x5 : Int) (H : Heap) : R8 (m + 1) td8_6 [.slice a0 l1 c2, .pointer x3, .pointer x4, .int .i64 x5] H =
    R8 m td8_100005 [.slice a0 l1 c2, .pointer x3, .pointer x4, .int .i64 (IntKind.i64.wrap (x5 + (1 : Int)))] H := by kernel_rfl
theorem c8_8 (m : Nat) (a0 : Option Addr) (l1 : Nat) (c2 : Nat) (x3 : Option Addr) (x4 : Option Addr) (x5 : Int) (H : Heap) : R8 (m + 1) td8_8 [.slice a0 l1 c2, .pointer x3, .pointer x4, .int .i64 x5] H =
    onSome (F19 [.pointer x3] H) fun r6 =>
    kPtr r6.1 fun p7 =>
    (match p7.isNone with
    | true => (some (.bool false, r6.2))
    | false => (onSome a0 fun a8 =>
    if 0 ≤ x5 ∧ x5 < (l1 : Nat) then
    ldc r6.2 ((a8.add (x5.toNat * 1)).block) fun cs9 =>
    onSome cs9[(a8.add (x5.toNat * 1)).off]? fun v10 =>
    kStr v10 fun s11 =>
    onSome (F16 [.pointer x3, .string s11] r6.2) fun r12 =>
    kTup r12.1 fun vs13 =>
    onSome vs13[0]? fun v14 =>
    kStr v14 fun s15 =>
    kTup r12.1 fun vs16 =>
    onSome vs16[1]? fun v17 =>
    kInt .i64 v17 fun n18 =>
    onSome a0 fun a19 =>
    if 0 ≤ x5 ∧ x5 < (l1 : Nat) then
    ldc r12.2 ((a19.add (x5.toNat * 1)).block) fun cs20 =>
    onSome cs20[(a19.add (x5.toNat * 1)).off]? fun v21 =>
    kStr v21 fun s22 =>
    onSome (F20 [.pointer x4, .string s22] r12.2) fun r23 =>
    kTup r23.1 fun vs24 =>
    onSome vs24[0]? fun v25 =>
    kStr v25 fun s26 =>
    kTup r23.1 fun vs27 =>
    onSome vs27[1]? fun v28 =>
    kInt .i64 v28 fun n29 =>
    onSome (F17 [.pointer x3] r23.2) fun r30 =>
    kSl r30.1 fun a31 l32 c33 =>
    (match (!(s15.toList == s26.toList)) with
    | true => (R8 m td8_15 [] r30.2)
    | false => ((match (n18 != n29) with
    | true => (R8 m td8_15 [] r30.2)
    | false => (onSome x4 fun a34 =>
    ldc r30.2 a34.block fun cs35 =>
    onSome cs35[(a34.off + 3)]? fun v36 =>
    kBool v36 fun b37 =>
    onSome (F2018 [.pointer x3] r30.2) fun r38 =>
    kBool r38.1 fun b39 =>
    unt r30.2 r38.2 a34.block (
    (match (!(b39 == b37)) with
    | true => (R8 m td8_15 [] r38.2)
    | false => (onSome (F22 [.pointer x4] r38.2) fun r40 =>
    kSl r40.1 fun a41 l42 c43 =>
    onSome (F21 [.slice a31 l32 c33, .slice a41 l42 c43] r40.2) fun r44 =>
    kBool r44.1 fun b45 =>
    (match (!b45) with
    | true => (R8 m td8_15 [] r44.2)
    | false => (onSome (F23 [.slice a31 l32 c33] r44.2) fun r46 =>
    onSome (F16 [.pointer p7, .string (⟨#[80, 85, 84, 32, 102, 111, 114, 107, 32, 49, 10, 68, 69, 76, 32, 97, 10]⟩ : ByteArray)] r46.2) fun r47 =>
    R8 m td8_6 [.slice a0 l1 c2, .pointer x3, .pointer x4, .int .i64 x5] r47.2)))))))))
    else none
    else none)) := by kernel_rfl
theorem c8_15 (m : Nat)  (H : Heap) : R8 (m + 1) td8_15 [] H =
    some (.bool false, H) := by kernel_rfl
theorem c8_18 (m : Nat)  (H : Heap) : R8 (m + 1) td8_18 [] H =
    some (.bool true, H) := by kernel_rfl
theorem c8_100005 (m : Nat) (a0 : Option Addr) (l1 : Nat) (c2 : Nat) (x3 : Option Addr) (x4 : Option Addr) (x5 : Int) (H : Heap) : R8 (m + 1) td8_100005 [.slice a0 l1 c2, .pointer x3, .pointer x4, .int .i64 x5] H =
    (match (decide (x5 < ((l1 : Nat) : Int))) with
    | true => ((match (decide (x5 < (60 : Int))) with
    | true => (onSome a0 fun a6 =>
    if 0 ≤ x5 ∧ x5 < (l1 : Nat) then
    ldc H ((a6.add (x5.toNat * 1)).block) fun cs7 =>
    onSome cs7[(a6.add (x5.toNat * 1)).off]? fun v8 =>
    kStr v8 fun s9 =>
    (match (decide ((5000 : Int) < (s9.size : Int))) with
    | true => (onSome a0 fun a10 =>
    if 0 ≤ x5 ∧ x5 < (l1 : Nat) then
    ldc H ((a10.add (x5.toNat * 1)).block) fun cs11 =>
    onSome cs11[(a10.add (x5.toNat * 1)).off]? fun v12 =>
    kStr v12 fun s13 =>
    (match (decide ((s13.size : Int) ≤ (65536 : Int))) with
    | true => (R8 m td8_6 [.slice a0 l1 c2, .pointer x3, .pointer x4, .int .i64 x5] H)
    | false => (R8 m td8_8 [.slice a0 l1 c2, .pointer x3, .pointer x4, .int .i64 x5] H))
    else none)
    | false => (R8 m td8_8 [.slice a0 l1 c2, .pointer x3, .pointer x4, .int .i64 x5] H))
    else none)
    | false => (R8 m td8_18 [] H)))
    | false => (R8 m td8_18 [] H)) := by kernel_rfl
end Go.Proofs.YtbheppfjaeocpaaGreatDoor
