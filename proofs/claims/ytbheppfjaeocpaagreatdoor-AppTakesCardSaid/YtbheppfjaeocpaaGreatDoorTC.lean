/- PRINTED by a program of the session (Pr.lean): what functions of the program come to on the abstract heap, each checked by the kernel. Conditions: none. -/
import Derived.Test.YtbheppfjaeocpaaGreatDoorTA
import Derived.Test.YtbheppfjaeocpaaGreatDoorProg
set_option linter.unusedVariables false
namespace Go.Proofs.YtbheppfjaeocpaaGreatDoor
open Go Go.Proofs.YtbheppfjaeocpaaGreatDoor.Fw Go.RowKit
noncomputable def G1045 : Fs := Fs.ext G10 10 F10
theorem A1045 : AllSound Tryz.prog G1045 := AllSound.ext A10 S10
def F1045 : List Value → Heap → R := noF
theorem S1045 : Sound Tryz.prog 45 F1045 := noF_sound
-- sternpost/sternpostref21.Digits
noncomputable def G2045 : Fs := Fs.ext G1045 45 F1045
theorem A2045 : AllSound Tryz.prog G2045 := AllSound.ext A1045 S1045
noncomputable def cuts2045 : Cuts := [(100004, [0, 3])]
noncomputable def td2045_100004 : List Item := todoOf Tryz.f45 100004
noncomputable def F2045 : List Value → Heap → R := FN Tryz.prog G2045 Tryz.f45 cuts2045
theorem S2045 : Sound Tryz.prog 45 F2045 := FN_sound A2045 Tryz.func45 (by kernel_rfl) (by kernel_rfl)
noncomputable abbrev R2045 (m : Nat) : List Item → List Value → Heap → R := run Tryz.prog G2045 Tryz.f45 cuts2045 m
theorem t2045 (m : Nat) (x0 : Int) (H : Heap) : fnE Tryz.prog G2045 Tryz.f45 cuts2045 m [.int .i64 x0] H =
    (match (decide (x0 < (0 : Int))) with
    | true => (onSome (F1045 [.int .i64 (IntKind.i64.wrap (0 - x0))] H) fun r1 =>
    kStr r1.1 fun s2 =>
    if (⟨#[45]⟩ : ByteArray).size + s2.size ≤ 9223372036854775807 then
    some (.string ((⟨#[45]⟩ : ByteArray) ++ s2), r1.2)
    else none)
    | false => (if (10 : Int) = 0 then none else
    let H3 := H ++ [.cells [.int .u8 (IntKind.u8.wrap (IntKind.i64.wrap ((48 : Int) + (x0.tmod (10 : Int)))))] 1 true]
    ldc H3 H.length fun cs4 =>
    if 0 + 1 ≤ cs4.length then
    onSome (bytesOf (range cs4 0 1)) fun l5 =>
    R2045 m td2045_100004 [.int .i64 x0, .string (⟨l5.toArray⟩ : ByteArray)] H3
    else none)) := by kernel_rfl
theorem c2045_100004 (m : Nat) (x0 : Int) (x1 : ByteArray) (H : Heap) : R2045 (m + 1) td2045_100004 [.int .i64 x0, .string x1] H =
    (match (decide ((10 : Int) ≤ x0)) with
    | true => (if (10 : Int) = 0 then none else
    if (10 : Int) = 0 then none else
    let H2 := H ++ [.cells [.int .u8 (IntKind.u8.wrap (IntKind.i64.wrap ((48 : Int) + ((IntKind.i64.wrap (x0.tdiv (10 : Int))).tmod (10 : Int)))))] 1 true]
    ldc H2 H.length fun cs3 =>
    if 0 + 1 ≤ cs3.length then
    onSome (bytesOf (range cs3 0 1)) fun l4 =>
    if (⟨l4.toArray⟩ : ByteArray).size + x1.size ≤ 9223372036854775807 then
    R2045 m td2045_100004 [.int .i64 (IntKind.i64.wrap (x0.tdiv (10 : Int))), .string ((⟨l4.toArray⟩ : ByteArray) ++ x1)] H2
    else none
    else none)
    | false => (some (.string x1, H))) := by kernel_rfl
-- sternpost/sternpostref21.Digits
noncomputable def G45 : Fs := Fs.ext G2045 45 F2045
theorem A45 : AllSound Tryz.prog G45 := AllSound.ext A2045 S2045
noncomputable def cuts45 : Cuts := [(100004, [0, 3])]
noncomputable def td45_100004 : List Item := todoOf Tryz.f45 100004
noncomputable def F45 : List Value → Heap → R := FN Tryz.prog G45 Tryz.f45 cuts45
theorem S45 : Sound Tryz.prog 45 F45 := FN_sound A45 Tryz.func45 (by kernel_rfl) (by kernel_rfl)
noncomputable abbrev R45 (m : Nat) : List Item → List Value → Heap → R := run Tryz.prog G45 Tryz.f45 cuts45 m
theorem t45 (m : Nat) (x0 : Int) (H : Heap) : fnE Tryz.prog G45 Tryz.f45 cuts45 m [.int .i64 x0] H =
    (match (decide (x0 < (0 : Int))) with
    | true => (onSome (F2045 [.int .i64 (IntKind.i64.wrap (0 - x0))] H) fun r1 =>
    kStr r1.1 fun s2 =>
    if (⟨#[45]⟩ : ByteArray).size + s2.size ≤ 9223372036854775807 then
    some (.string ((⟨#[45]⟩ : ByteArray) ++ s2), r1.2)
    else none)
    | false => (if (10 : Int) = 0 then none else
    let H3 := H ++ [.cells [.int .u8 (IntKind.u8.wrap (IntKind.i64.wrap ((48 : Int) + (x0.tmod (10 : Int)))))] 1 true]
    ldc H3 H.length fun cs4 =>
    if 0 + 1 ≤ cs4.length then
    onSome (bytesOf (range cs4 0 1)) fun l5 =>
    R45 m td45_100004 [.int .i64 x0, .string (⟨l5.toArray⟩ : ByteArray)] H3
    else none)) := by kernel_rfl
theorem c45_100004 (m : Nat) (x0 : Int) (x1 : ByteArray) (H : Heap) : R45 (m + 1) td45_100004 [.int .i64 x0, .string x1] H =
    (match (decide ((10 : Int) ≤ x0)) with
    | true => (if (10 : Int) = 0 then none else
    if (10 : Int) = 0 then none else
    let H2 := H ++ [.cells [.int .u8 (IntKind.u8.wrap (IntKind.i64.wrap ((48 : Int) + ((IntKind.i64.wrap (x0.tdiv (10 : Int))).tmod (10 : Int)))))] 1 true]
    ldc H2 H.length fun cs3 =>
    if 0 + 1 ≤ cs3.length then
    onSome (bytesOf (range cs3 0 1)) fun l4 =>
    if (⟨l4.toArray⟩ : ByteArray).size + x1.size ≤ 9223372036854775807 then
    R45 m td45_100004 [.int .i64 (IntKind.i64.wrap (x0.tdiv (10 : Int))), .string ((⟨l4.toArray⟩ : ByteArray) ++ x1)] H2
    else none
    else none)
    | false => (some (.string x1, H))) := by kernel_rfl
-- sternpost/sternpostref21.cut
noncomputable def G46 : Fs := Fs.ext G45 45 F45
theorem A46 : AllSound Tryz.prog G46 := AllSound.ext A45 S45
noncomputable def cuts46 : Cuts := [(100002, [0, 5])]
noncomputable def td46_100002 : List Item := todoOf Tryz.f46 100002
noncomputable def F46 : List Value → Heap → R := FN Tryz.prog G46 Tryz.f46 cuts46
theorem S46 : Sound Tryz.prog 46 F46 := FN_sound A46 Tryz.func46 (by kernel_rfl) (by kernel_rfl)
noncomputable abbrev R46 (m : Nat) : List Item → List Value → Heap → R := run Tryz.prog G46 Tryz.f46 cuts46 m
theorem t46 (m : Nat) (x0 : ByteArray) (H : Heap) : fnE Tryz.prog G46 Tryz.f46 cuts46 m [.string x0] H =
    R46 m td46_100002 [.string x0, .int .i64 (0 : Int)] H := by kernel_rfl
theorem c46_100002 (m : Nat) (x0 : ByteArray) (x1 : Int) (H : Heap) : R46 (m + 1) td46_100002 [.string x0, .int .i64 x1] H =
    (match (decide (x1 < (x0.size : Int))) with
    | true => (if 0 ≤ x1 ∧ x1 < x0.size then
    (match ((byteAt x0 x1.toNat) == (32 : Int)) with
    | true => (slStr x0 (0 : Int) x1 fun v2 =>
    kStr v2 fun s3 =>
    slStr x0 (IntKind.i64.wrap (x1 + (1 : Int))) (x0.size : Int) fun v4 =>
    kStr v4 fun s5 =>
    some (.tuple #[.string s3, .string s5, .bool true], H))
    | false => (R46 m td46_100002 [.string x0, .int .i64 (IntKind.i64.wrap (x1 + (1 : Int)))] H))
    else none)
    | false => (some (.tuple #[.string x0, .string (⟨#[]⟩ : ByteArray), .bool false], H))) := by kernel_rfl
-- sternpost/sternpostref21.Name
noncomputable def G47 : Fs := Fs.ext G46 46 F46
theorem A47 : AllSound Tryz.prog G47 := AllSound.ext A46 S46
noncomputable def cuts47 : Cuts := [(100004, [0, 3]), (7, []), (2, [])]
noncomputable def td47_100004 : List Item := todoOf Tryz.f47 100004
noncomputable def td47_7 : List Item := todoOf Tryz.f47 7
noncomputable def td47_2 : List Item := todoOf Tryz.f47 2
noncomputable def F47 : List Value → Heap → R := FN Tryz.prog G47 Tryz.f47 cuts47
theorem S47 : Sound Tryz.prog 47 F47 := FN_sound A47 Tryz.func47 (by kernel_rfl) (by kernel_rfl)
noncomputable abbrev R47 (m : Nat) : List Item → List Value → Heap → R := run Tryz.prog G47 Tryz.f47 cuts47 m
theorem t47 (m : Nat) (x0 : ByteArray) (H : Heap) : fnE Tryz.prog G47 Tryz.f47 cuts47 m [.string x0] H =
    (match (x0.toList == (⟨#[]⟩ : ByteArray).toList) with
    | true => (R47 m td47_2 [] H)
    | false => ((match (decide ((32 : Int) < (x0.size : Int))) with
    | true => (R47 m td47_2 [] H)
    | false => (R47 m td47_100004 [.string x0, .int .i64 (0 : Int)] H)))) := by kernel_rfl
theorem c47_2 (m : Nat)  (H : Heap) : R47 (m + 1) td47_2 [] H =
    some (.bool false, H) := by kernel_rfl
theorem c47_7 (m : Nat)  (H : Heap) : R47 (m + 1) td47_7 [] H =
    some (.bool false, H) := by kernel_rfl
theorem c47_100004 (m : Nat) (x0 : ByteArray) (x1 : Int) (H : Heap) : R47 (m + 1) td47_100004 [.string x0, .int .i64 x1] H =
    (match (decide (x1 < (x0.size : Int))) with
    | true => (if 0 ≤ x1 ∧ x1 < x0.size then
    (match (decide ((byteAt x0 x1.toNat) ≤ (32 : Int))) with
    | true => (R47 m td47_7 [] H)
    | false => (if 0 ≤ x1 ∧ x1 < x0.size then
    (match (decide ((127 : Int) ≤ (byteAt x0 x1.toNat))) with
    | true => (R47 m td47_7 [] H)
    | false => (R47 m td47_100004 [.string x0, .int .i64 (IntKind.i64.wrap (x1 + (1 : Int)))] H))
    else none))
    else none)
    | false => (some (.bool true, H))) := by kernel_rfl
-- (*sternpost/sternpostref21.Session).find
noncomputable def G67 : Fs := Fs.ext G47 47 F47
theorem A67 : AllSound Tryz.prog G67 := AllSound.ext A47 S47
noncomputable def cuts67 : Cuts := [(100002, [0, 1, 5])]
noncomputable def td67_100002 : List Item := todoOf Tryz.f67 100002
noncomputable def F67 : List Value → Heap → R := FN Tryz.prog G67 Tryz.f67 cuts67
theorem S67 : Sound Tryz.prog 67 F67 := FN_sound A67 Tryz.func67 (by kernel_rfl) (by kernel_rfl)
noncomputable abbrev R67 (m : Nat) : List Item → List Value → Heap → R := run Tryz.prog G67 Tryz.f67 cuts67 m
theorem t67 (m : Nat) (x0 : Option Addr) (x1 : ByteArray) (H : Heap) : fnE Tryz.prog G67 Tryz.f67 cuts67 m [.pointer x0, .string x1] H =
    R67 m td67_100002 [.pointer x0, .string x1, .int .i64 (0 : Int)] H := by kernel_rfl
theorem c67_100002 (m : Nat) (x0 : Option Addr) (x1 : ByteArray) (x2 : Int) (H : Heap) : R67 (m + 1) td67_100002 [.pointer x0, .string x1, .int .i64 x2] H =
    onSome x0 fun a3 =>
    ldc H a3.block fun cs4 =>
    onSome cs4[a3.off]? fun v5 =>
    kSl v5 fun a6 l7 c8 =>
    (match (decide (x2 < ((l7 : Nat) : Int))) with
    | true => (onSome x0 fun a9 =>
    ldc H a9.block fun cs10 =>
    onSome cs10[a9.off]? fun v11 =>
    kSl v11 fun a12 l13 c14 =>
    onSome a12 fun a15 =>
    if 0 ≤ x2 ∧ x2 < (l13 : Nat) then
    ldc H ((a15.add (x2.toNat * 2)).block) fun cs16 =>
    onSome cs16[(a15.add (x2.toNat * 2)).off]? fun v17 =>
    kStr v17 fun s18 =>
    (match (s18.toList == x1.toList) with
    | true => (some (.int .i64 x2, H))
    | false => (R67 m td67_100002 [.pointer x0, .string x1, .int .i64 (IntKind.i64.wrap (x2 + (1 : Int)))] H))
    else none)
    | false => (some (.int .i64 (-1 : Int), H))) := by kernel_rfl
-- (*sternpost/sternpostref21.Session).one
noncomputable def G48 : Fs := Fs.ext G67 67 F67
theorem A48 : AllSound Tryz.prog G48 := AllSound.ext A67 S67
noncomputable def cuts48 : Cuts := [(6, []), (7, []), (4, [0, 1, 7])]
noncomputable def td48_6 : List Item := todoOf Tryz.f48 6
noncomputable def td48_7 : List Item := todoOf Tryz.f48 7
noncomputable def td48_4 : List Item := todoOf Tryz.f48 4
noncomputable def F48 : List Value → Heap → R := FN Tryz.prog G48 Tryz.f48 cuts48
theorem S48 : Sound Tryz.prog 48 F48 := FN_sound A48 Tryz.func48 (by kernel_rfl) (by kernel_rfl)
noncomputable abbrev R48 (m : Nat) : List Item → List Value → Heap → R := run Tryz.prog G48 Tryz.f48 cuts48 m
theorem t48 (m : Nat) (x0 : Option Addr) (x1 : ByteArray) (x2 : ByteArray) (H : Heap) : fnE Tryz.prog G48 Tryz.f48 cuts48 m [.pointer x0, .string x1, .string x2] H =
    onSome (F67 [.pointer x0, .string x2] H) fun r3 =>
    kInt .i64 r3.1 fun n4 =>
    (match (x1.toList == (⟨#[71, 69, 84]⟩ : ByteArray).toList) with
    | true => ((match (decide ((0 : Int) ≤ n4)) with
    | true => (onSome x0 fun a5 =>
    ldc r3.2 a5.block fun cs6 =>
    onSome cs6[a5.off]? fun v7 =>
    kSl v7 fun a8 l9 c10 =>
    onSome a8 fun a11 =>
    if 0 ≤ n4 ∧ n4 < (l9 : Nat) then
    ldc r3.2 ((a11.add (n4.toNat * 2)).block) fun cs12 =>
    onSome cs12[((a11.add (n4.toNat * 2)).off + 1)]? fun v13 =>
    kStr v13 fun s14 =>
    if (⟨#[86, 65, 76, 85, 69, 32]⟩ : ByteArray).size + s14.size ≤ 9223372036854775807 then
    some (.string ((⟨#[86, 65, 76, 85, 69, 32]⟩ : ByteArray) ++ s14), r3.2)
    else none
    else none)
    | false => (R48 m td48_4 [.pointer x0, .string x1, .int .i64 n4] r3.2)))
    | false => (R48 m td48_4 [.pointer x0, .string x1, .int .i64 n4] r3.2)) := by kernel_rfl
theorem c48_4 (m : Nat) (x0 : Option Addr) (x1 : ByteArray) (x2 : Int) (H : Heap) : R48 (m + 1) td48_4 [.pointer x0, .string x1, .int .i64 x2] H =
    (match (x1.toList == (⟨#[68, 69, 76]⟩ : ByteArray).toList) with
    | true => ((match (decide ((0 : Int) ≤ x2)) with
    | true => (let H3 := H ++ [.cells [] 2 true]
    onSome x0 fun a4 =>
    ldc H3 a4.block fun cs5 =>
    onSome cs5[a4.off]? fun v6 =>
    kSl v6 fun a7 l8 c9 =>
    slSl H3 2 a7 l8 c9 (0 : Int) x2 fun v10 =>
    kSl v10 fun a11 l12 c13 =>
    (match (a7.map (·.block) : Option Nat) with
    | some blk14 => (onSome x0 fun a15 =>
    ldc H3 a15.block fun cs16 =>
    onSome cs16[a15.off]? fun v17 =>
    kSl v17 fun a18 l19 c20 =>
    slSl H3 2 a18 l19 c20 (IntKind.i64.wrap (x2 + (1 : Int))) (l19 : Int) fun v21 =>
    kSl v21 fun a22 l23 c24 =>
    (match (a18.map (·.block) : Option Nat) with
    | some blk25 => (firstC H3 2 (.slice a11 l12 c13) fun n26 nw27 =>
    app Tryz.prog 77 H3 (.slice (some ⟨H.length, 0, none⟩) 0 0) n26 nw27 fun v28 H29 =>
    kSl v28 fun a30 l31 c32 =>
    unt H3 H29 blk25 (
    unt H3 H29 a15.block (
    firstC H29 2 (.slice a22 l23 c24) fun n33 nw34 =>
    app Tryz.prog 77 H29 (.slice a30 l31 c32) n33 nw34 fun v35 H36 =>
    kSl v35 fun a37 l38 c39 =>
    onSome x0 fun a40 =>
    st 1 H36 a40 (.slice a37 l38 c39) fun _ H41 =>
    R48 m td48_6 [] H41)))
    | none => (firstC H3 2 (.slice a11 l12 c13) fun n42 nw43 =>
    app Tryz.prog 77 H3 (.slice (some ⟨H.length, 0, none⟩) 0 0) n42 nw43 fun v44 H45 =>
    kSl v44 fun a46 l47 c48 =>
    unt H3 H45 a15.block (
    firstC H45 2 (.slice a22 l23 c24) fun n49 nw50 =>
    app Tryz.prog 77 H45 (.slice a46 l47 c48) n49 nw50 fun v51 H52 =>
    kSl v51 fun a53 l54 c55 =>
    onSome x0 fun a56 =>
    st 1 H52 a56 (.slice a53 l54 c55) fun _ H57 =>
    R48 m td48_6 [] H57))))
    | none => (onSome x0 fun a58 =>
    ldc H3 a58.block fun cs59 =>
    onSome cs59[a58.off]? fun v60 =>
    kSl v60 fun a61 l62 c63 =>
    slSl H3 2 a61 l62 c63 (IntKind.i64.wrap (x2 + (1 : Int))) (l62 : Int) fun v64 =>
    kSl v64 fun a65 l66 c67 =>
    (match (a61.map (·.block) : Option Nat) with
    | some blk68 => (firstC H3 2 (.slice a11 l12 c13) fun n69 nw70 =>
    app Tryz.prog 77 H3 (.slice (some ⟨H.length, 0, none⟩) 0 0) n69 nw70 fun v71 H72 =>
    kSl v71 fun a73 l74 c75 =>
    unt H3 H72 blk68 (
    unt H3 H72 a58.block (
    firstC H72 2 (.slice a65 l66 c67) fun n76 nw77 =>
    app Tryz.prog 77 H72 (.slice a73 l74 c75) n76 nw77 fun v78 H79 =>
    kSl v78 fun a80 l81 c82 =>
    onSome x0 fun a83 =>
    st 1 H79 a83 (.slice a80 l81 c82) fun _ H84 =>
    R48 m td48_6 [] H84)))
    | none => (firstC H3 2 (.slice a11 l12 c13) fun n85 nw86 =>
    app Tryz.prog 77 H3 (.slice (some ⟨H.length, 0, none⟩) 0 0) n85 nw86 fun v87 H88 =>
    kSl v87 fun a89 l90 c91 =>
    unt H3 H88 a58.block (
    firstC H88 2 (.slice a65 l66 c67) fun n92 nw93 =>
    app Tryz.prog 77 H88 (.slice a89 l90 c91) n92 nw93 fun v94 H95 =>
    kSl v94 fun a96 l97 c98 =>
    onSome x0 fun a99 =>
    st 1 H95 a99 (.slice a96 l97 c98) fun _ H100 =>
    R48 m td48_6 [] H100))))))
    | false => (R48 m td48_7 [] H)))
    | false => (R48 m td48_7 [] H)) := by kernel_rfl
theorem c48_6 (m : Nat)  (H : Heap) : R48 (m + 1) td48_6 [] H =
    some (.string (⟨#[79, 75]⟩ : ByteArray), H) := by kernel_rfl
theorem c48_7 (m : Nat)  (H : Heap) : R48 (m + 1) td48_7 [] H =
    some (.string (⟨#[78, 79, 78, 69]⟩ : ByteArray), H) := by kernel_rfl
-- (*sternpost/sternpostref21.Session).set
noncomputable def G49 : Fs := Fs.ext G48 48 F48
theorem A49 : AllSound Tryz.prog G49 := AllSound.ext A48 S48
noncomputable def cuts49 : Cuts := [(100010, [0, 1, 2, 7, 9]), (12, [0, 1, 2, 7, 9])]
noncomputable def td49_100010 : List Item := todoOf Tryz.f49 100010
noncomputable def td49_12 : List Item := todoOf Tryz.f49 12
noncomputable def F49 : List Value → Heap → R := FN Tryz.prog G49 Tryz.f49 cuts49
theorem S49 : Sound Tryz.prog 49 F49 := FN_sound A49 Tryz.func49 (by kernel_rfl) (by kernel_rfl)
noncomputable abbrev R49 (m : Nat) : List Item → List Value → Heap → R := run Tryz.prog G49 Tryz.f49 cuts49 m
theorem t49 (m : Nat) (x0 : Option Addr) (x1 : ByteArray) (x2 : ByteArray) (H : Heap) : fnE Tryz.prog G49 Tryz.f49 cuts49 m [.pointer x0, .string x1, .string x2] H =
    let H3 := H ++ [.cells [] 2 true]
    onSome x0 fun a4 =>
    ldc H3 a4.block fun cs5 =>
    onSome cs5[a4.off]? fun v6 =>
    kSl v6 fun a7 l8 c9 =>
    firstC H3 2 (.slice a7 l8 c9) fun n10 nw11 =>
    app Tryz.prog 77 H3 (.slice (some ⟨H.length, 0, none⟩) 0 0) n10 nw11 fun v12 H13 =>
    kSl v12 fun a14 l15 c16 =>
    onSome (F67 [.pointer x0, .string x1] H13) fun r17 =>
    kInt .i64 r17.1 fun n18 =>
    (match (decide ((0 : Int) ≤ n18)) with
    | true => (onSome a14 fun a19 =>
    if 0 ≤ n18 ∧ n18 < (l15 : Nat) then
    st 1 r17.2 (⟨(a19.add (n18.toNat * 2)).block, (a19.add (n18.toNat * 2)).off + 1, none⟩ : Addr) (.string x2) fun _ H20 =>
    onSome x0 fun a21 =>
    st 1 H20 a21 (.slice a14 l15 c16) fun _ H22 =>
    some (.bool true, H22)
    else none)
    | false => ((match (decide ((64 : Int) ≤ ((l15 : Nat) : Int))) with
    | true => (some (.bool false, r17.2))
    | false => (R49 m td49_100010 [.pointer x0, .string x1, .string x2, .slice a14 l15 c16, .int .i64 (0 : Int)] r17.2)))) := by kernel_rfl
theorem c49_12 (m : Nat) (x0 : Option Addr) (x1 : ByteArray) (x2 : ByteArray) (a3 : Option Addr) (l4 : Nat) (c5 : Nat) (x6 : Int) (H : Heap) : R49 (m + 1) td49_12 [.pointer x0, .string x1, .string x2, .slice a3 l4 c5, .int .i64 x6] H =
    slSl H 2 a3 l4 c5 (0 : Int) x6 fun v7 =>
    kSl v7 fun a8 l9 c10 =>
    firstC H 2 (.slice a8 l9 c10) fun n11 nw12 =>
    app Tryz.prog 77 H (.slice none 0 0) n11 nw12 fun v13 H14 =>
    kSl v13 fun a15 l16 c17 =>
    let H18 := H14 ++ [.cells [.string x1, .string x2] 2 true]
    firstC H18 2 (.slice (some ⟨H14.length, 0, none⟩) 1 1) fun n19 nw20 =>
    app Tryz.prog 77 H18 (.slice a15 l16 c17) n19 nw20 fun v21 H22 =>
    kSl v21 fun a23 l24 c25 =>
    slSl H22 2 a3 l4 c5 x6 (l4 : Int) fun v26 =>
    kSl v26 fun a27 l28 c29 =>
    firstC H22 2 (.slice a27 l28 c29) fun n30 nw31 =>
    app Tryz.prog 77 H22 (.slice a23 l24 c25) n30 nw31 fun v32 H33 =>
    kSl v32 fun a34 l35 c36 =>
    onSome x0 fun a37 =>
    st 1 H33 a37 (.slice a34 l35 c36) fun _ H38 =>
    some (.bool true, H38) := by kernel_rfl
theorem c49_100010 (m : Nat) (x0 : Option Addr) (x1 : ByteArray) (x2 : ByteArray) (a3 : Option Addr) (l4 : Nat) (c5 : Nat) (x6 : Int) (H : Heap) : R49 (m + 1) td49_100010 [.pointer x0, .string x1, .string x2, .slice a3 l4 c5, .int .i64 x6] H =
    (match (decide (x6 < ((l4 : Nat) : Int))) with
    | true => (onSome a3 fun a7 =>
    if 0 ≤ x6 ∧ x6 < (l4 : Nat) then
    ldc H ((a7.add (x6.toNat * 2)).block) fun cs8 =>
    onSome cs8[(a7.add (x6.toNat * 2)).off]? fun v9 =>
    kStr v9 fun s10 =>
    (match (Op.bytesLess s10.toList x1.toList) with
    | true => (R49 m td49_100010 [.pointer x0, .string x1, .string x2, .slice a3 l4 c5, .int .i64 (IntKind.i64.wrap (x6 + (1 : Int)))] H)
    | false => (R49 m td49_12 [.pointer x0, .string x1, .string x2, .slice a3 l4 c5, .int .i64 x6] H))
    else none)
    | false => (R49 m td49_12 [.pointer x0, .string x1, .string x2, .slice a3 l4 c5, .int .i64 x6] H)) := by kernel_rfl
-- sternpost/sternpostref21.whole
noncomputable def G68 : Fs := Fs.ext G49 49 F49
theorem A68 : AllSound Tryz.prog G68 := AllSound.ext A49 S49
noncomputable def cuts68 : Cuts := [(100008, [0, 4, 5, 6]), (11, []), (4, [0, 4]), (5, []), (6, [0, 4]), (2, [0, 4])]
noncomputable def td68_100008 : List Item := todoOf Tryz.f68 100008
noncomputable def td68_11 : List Item := todoOf Tryz.f68 11
noncomputable def td68_4 : List Item := todoOf Tryz.f68 4
noncomputable def td68_5 : List Item := todoOf Tryz.f68 5
noncomputable def td68_6 : List Item := todoOf Tryz.f68 6
noncomputable def td68_2 : List Item := todoOf Tryz.f68 2
noncomputable def F68 : List Value → Heap → R := FN Tryz.prog G68 Tryz.f68 cuts68
theorem S68 : Sound Tryz.prog 68 F68 := FN_sound A68 Tryz.func68 (by kernel_rfl) (by kernel_rfl)
noncomputable abbrev R68 (m : Nat) : List Item → List Value → Heap → R := run Tryz.prog G68 Tryz.f68 cuts68 m
theorem t68 (m : Nat) (x0 : ByteArray) (H : Heap) : fnE Tryz.prog G68 Tryz.f68 cuts68 m [.string x0] H =
    (match (!(x0.toList == (⟨#[]⟩ : ByteArray).toList)) with
    | true => (if 0 ≤ (0 : Int) ∧ (0 : Int) < x0.size then
    R68 m td68_2 [.string x0, .bool ((byteAt x0 (0 : Int).toNat) == (45 : Int))] H
    else none)
    | false => (R68 m td68_2 [.string x0, .bool false] H)) := by kernel_rfl
theorem c68_2 (m : Nat) (x0 : ByteArray) (x1 : Bool) (H : Heap) : R68 (m + 1) td68_2 [.string x0, .bool x1] H =
    (match x1 with
    | true => (slStr x0 (1 : Int) (x0.size : Int) fun v2 =>
    kStr v2 fun s3 =>
    R68 m td68_4 [.string s3, .bool x1] H)
    | false => (R68 m td68_4 [.string x0, .bool x1] H)) := by kernel_rfl
theorem c68_4 (m : Nat) (x0 : ByteArray) (x1 : Bool) (H : Heap) : R68 (m + 1) td68_4 [.string x0, .bool x1] H =
    (match (x0.toList == (⟨#[]⟩ : ByteArray).toList) with
    | true => (R68 m td68_5 [] H)
    | false => ((match (decide ((9 : Int) < (x0.size : Int))) with
    | true => (R68 m td68_5 [] H)
    | false => ((match (decide ((1 : Int) < (x0.size : Int))) with
    | true => (if 0 ≤ (0 : Int) ∧ (0 : Int) < x0.size then
    (match ((byteAt x0 (0 : Int).toNat) == (48 : Int)) with
    | true => (R68 m td68_5 [] H)
    | false => (R68 m td68_6 [.string x0, .bool x1] H))
    else none)
    | false => (R68 m td68_6 [.string x0, .bool x1] H)))))) := by kernel_rfl
theorem c68_5 (m : Nat)  (H : Heap) : R68 (m + 1) td68_5 [] H =
    some (.tuple #[.int .i64 (0 : Int), .bool false], H) := by kernel_rfl
theorem c68_6 (m : Nat) (x0 : ByteArray) (x1 : Bool) (H : Heap) : R68 (m + 1) td68_6 [.string x0, .bool x1] H =
    R68 m td68_100008 [.string x0, .bool x1, .int .i64 (0 : Int), .int .i64 (0 : Int)] H := by kernel_rfl
theorem c68_11 (m : Nat)  (H : Heap) : R68 (m + 1) td68_11 [] H =
    some (.tuple #[.int .i64 (0 : Int), .bool false], H) := by kernel_rfl
theorem c68_100008 (m : Nat) (x0 : ByteArray) (x1 : Bool) (x2 : Int) (x3 : Int) (H : Heap) : R68 (m + 1) td68_100008 [.string x0, .bool x1, .int .i64 x2, .int .i64 x3] H =
    (match (decide (x3 < (x0.size : Int))) with
    | true => (if 0 ≤ x3 ∧ x3 < x0.size then
    (match (decide ((byteAt x0 x3.toNat) < (48 : Int))) with
    | true => (R68 m td68_11 [] H)
    | false => (if 0 ≤ x3 ∧ x3 < x0.size then
    (match (decide ((57 : Int) < (byteAt x0 x3.toNat))) with
    | true => (R68 m td68_11 [] H)
    | false => (if 0 ≤ x3 ∧ x3 < x0.size then
    R68 m td68_100008 [.string x0, .bool x1, .int .i64 (IntKind.i64.wrap ((IntKind.i64.wrap (x2 * (10 : Int))) + (IntKind.i64.wrap (IntKind.u8.wrap ((byteAt x0 x3.toNat) - (48 : Int)))))), .int .i64 (IntKind.i64.wrap (x3 + (1 : Int)))] H
    else none))
    else none))
    else none)
    | false => ((match x1 with
    | true => (some (.tuple #[.int .i64 (IntKind.i64.wrap (0 - x2)), .bool (x2 != (0 : Int))], H))
    | false => (some (.tuple #[.int .i64 x2, .bool true], H))))) := by kernel_rfl
-- (*sternpost/sternpostref21.Session).add
noncomputable def G50 : Fs := Fs.ext G68 68 F68
theorem A50 : AllSound Tryz.prog G50 := AllSound.ext A68 S68
noncomputable def cuts50 : Cuts := [(10, []), (8, [0, 1, 7, 9])]
noncomputable def td50_10 : List Item := todoOf Tryz.f50 10
noncomputable def td50_8 : List Item := todoOf Tryz.f50 8
noncomputable def F50 : List Value → Heap → R := FN Tryz.prog G50 Tryz.f50 cuts50
theorem S50 : Sound Tryz.prog 50 F50 := FN_sound A50 Tryz.func50 (by kernel_rfl) (by kernel_rfl)
noncomputable abbrev R50 (m : Nat) : List Item → List Value → Heap → R := run Tryz.prog G50 Tryz.f50 cuts50 m
theorem t50 (m : Nat) (x0 : Option Addr) (x1 : ByteArray) (x2 : ByteArray) (H : Heap) : fnE Tryz.prog G50 Tryz.f50 cuts50 m [.pointer x0, .string x1, .string x2] H =
    onSome (F68 [.string x2] H) fun r3 =>
    kTup r3.1 fun vs4 =>
    onSome vs4[0]? fun v5 =>
    kInt .i64 v5 fun n6 =>
    kTup r3.1 fun vs7 =>
    onSome vs7[1]? fun v8 =>
    kBool v8 fun b9 =>
    (match (!b9) with
    | true => (some (.string (⟨#[66, 65, 68]⟩ : ByteArray), r3.2))
    | false => (onSome (F67 [.pointer x0, .string x1] r3.2) fun r10 =>
    kInt .i64 r10.1 fun n11 =>
    (match (decide ((0 : Int) ≤ n11)) with
    | true => (onSome x0 fun a12 =>
    ldc r10.2 a12.block fun cs13 =>
    onSome cs13[a12.off]? fun v14 =>
    kSl v14 fun a15 l16 c17 =>
    onSome a15 fun a18 =>
    if 0 ≤ n11 ∧ n11 < (l16 : Nat) then
    ldc r10.2 ((a18.add (n11.toNat * 2)).block) fun cs19 =>
    onSome cs19[((a18.add (n11.toNat * 2)).off + 1)]? fun v20 =>
    kStr v20 fun s21 =>
    onSome (F68 [.string s21] r10.2) fun r22 =>
    kTup r22.1 fun vs23 =>
    onSome vs23[0]? fun v24 =>
    kInt .i64 v24 fun n25 =>
    kTup r22.1 fun vs26 =>
    onSome vs26[1]? fun v27 =>
    kBool v27 fun b28 =>
    R50 m td50_8 [.pointer x0, .string x1, .int .i64 n6, .int .i64 n25] r22.2
    else none)
    | false => (R50 m td50_8 [.pointer x0, .string x1, .int .i64 n6, .int .i64 (0 : Int)] r10.2)))) := by kernel_rfl
theorem c50_8 (m : Nat) (x0 : Option Addr) (x1 : ByteArray) (x2 : Int) (x3 : Int) (H : Heap) : R50 (m + 1) td50_8 [.pointer x0, .string x1, .int .i64 x2, .int .i64 x3] H =
    (match (decide ((IntKind.i64.wrap (x3 + x2)) ≤ (-1000000000 : Int))) with
    | true => (R50 m td50_10 [] H)
    | false => ((match (decide ((1000000000 : Int) ≤ (IntKind.i64.wrap (x3 + x2)))) with
    | true => (R50 m td50_10 [] H)
    | false => (onSome (F45 [.int .i64 (IntKind.i64.wrap (x3 + x2))] H) fun r4 =>
    kStr r4.1 fun s5 =>
    onSome (F49 [.pointer x0, .string x1, .string s5] r4.2) fun r6 =>
    kBool r6.1 fun b7 =>
    (match (!b7) with
    | true => (some (.string (⟨#[70, 85, 76, 76]⟩ : ByteArray), r6.2))
    | false => (onSome (F45 [.int .i64 (IntKind.i64.wrap (x3 + x2))] r6.2) fun r8 =>
    kStr r8.1 fun s9 =>
    if (⟨#[86, 65, 76, 85, 69, 32]⟩ : ByteArray).size + s9.size ≤ 9223372036854775807 then
    some (.string ((⟨#[86, 65, 76, 85, 69, 32]⟩ : ByteArray) ++ s9), r8.2)
    else none)))))) := by kernel_rfl
theorem c50_10 (m : Nat)  (H : Heap) : R50 (m + 1) td50_10 [] H =
    some (.string (⟨#[66, 65, 68]⟩ : ByteArray), H) := by kernel_rfl
-- (*sternpost/sternpostref21.Session).app
noncomputable def G51 : Fs := Fs.ext G50 50 F50
theorem A51 : AllSound Tryz.prog G51 := AllSound.ext A50 S50
noncomputable def cuts51 : Cuts := [(5, [0, 1, 2, 7]), (6, [])]
noncomputable def td51_5 : List Item := todoOf Tryz.f51 5
noncomputable def td51_6 : List Item := todoOf Tryz.f51 6
noncomputable def F51 : List Value → Heap → R := FN Tryz.prog G51 Tryz.f51 cuts51
theorem S51 : Sound Tryz.prog 51 F51 := FN_sound A51 Tryz.func51 (by kernel_rfl) (by kernel_rfl)
noncomputable abbrev R51 (m : Nat) : List Item → List Value → Heap → R := run Tryz.prog G51 Tryz.f51 cuts51 m
theorem t51 (m : Nat) (x0 : Option Addr) (x1 : ByteArray) (x2 : ByteArray) (H : Heap) : fnE Tryz.prog G51 Tryz.f51 cuts51 m [.pointer x0, .string x1, .string x2] H =
    onSome (F67 [.pointer x0, .string x1] H) fun r3 =>
    kInt .i64 r3.1 fun n4 =>
    (match (decide ((0 : Int) ≤ n4)) with
    | true => (onSome x0 fun a5 =>
    ldc r3.2 a5.block fun cs6 =>
    onSome cs6[a5.off]? fun v7 =>
    kSl v7 fun a8 l9 c10 =>
    onSome a8 fun a11 =>
    if 0 ≤ n4 ∧ n4 < (l9 : Nat) then
    ldc r3.2 ((a11.add (n4.toNat * 2)).block) fun cs12 =>
    onSome cs12[((a11.add (n4.toNat * 2)).off + 1)]? fun v13 =>
    kStr v13 fun s14 =>
    R51 m td51_5 [.pointer x0, .string x1, .string x2, .string s14] r3.2
    else none)
    | false => (R51 m td51_5 [.pointer x0, .string x1, .string x2, .string (⟨#[]⟩ : ByteArray)] r3.2)) := by kernel_rfl
theorem c51_5 (m : Nat) (x0 : Option Addr) (x1 : ByteArray) (x2 : ByteArray) (x3 : ByteArray) (H : Heap) : R51 (m + 1) td51_5 [.pointer x0, .string x1, .string x2, .string x3] H =
    (match (decide ((200 : Int) < (IntKind.i64.wrap ((x3.size : Int) + (x2.size : Int))))) with
    | true => (R51 m td51_6 [] H)
    | false => (if x3.size + x2.size ≤ 9223372036854775807 then
    onSome (F49 [.pointer x0, .string x1, .string (x3 ++ x2)] H) fun r4 =>
    kBool r4.1 fun b5 =>
    (match (!b5) with
    | true => (R51 m td51_6 [] r4.2)
    | false => (onSome (F45 [.int .i64 (IntKind.i64.wrap ((x3.size : Int) + (x2.size : Int)))] r4.2) fun r6 =>
    kStr r6.1 fun s7 =>
    if (⟨#[67, 79, 85, 78, 84, 32]⟩ : ByteArray).size + s7.size ≤ 9223372036854775807 then
    some (.string ((⟨#[67, 79, 85, 78, 84, 32]⟩ : ByteArray) ++ s7), r6.2)
    else none))
    else none)) := by kernel_rfl
theorem c51_6 (m : Nat)  (H : Heap) : R51 (m + 1) td51_6 [] H =
    some (.string (⟨#[70, 85, 76, 76]⟩ : ByteArray), H) := by kernel_rfl
-- (*sternpost/sternpostref21.Session).line
noncomputable def G35 : Fs := Fs.ext G51 51 F51
theorem A35 : AllSound Tryz.prog G35 := AllSound.ext A51 S51
noncomputable def cuts35 : Cuts := [(100005, [0, 5, 6]), (28, []), (26, [0, 7, 10, 11, 12]), (24, [0, 7, 10, 11, 12]), (19, [0, 7, 10]), (20, [0, 7, 10, 11, 12]), (17, [])]
noncomputable def td35_100005 : List Item := todoOf Tryz.f35 100005
noncomputable def td35_28 : List Item := todoOf Tryz.f35 28
noncomputable def td35_26 : List Item := todoOf Tryz.f35 26
noncomputable def td35_24 : List Item := todoOf Tryz.f35 24
noncomputable def td35_19 : List Item := todoOf Tryz.f35 19
noncomputable def td35_20 : List Item := todoOf Tryz.f35 20
noncomputable def td35_17 : List Item := todoOf Tryz.f35 17
noncomputable def F35 : List Value → Heap → R := FN Tryz.prog G35 Tryz.f35 cuts35
theorem S35 : Sound Tryz.prog 35 F35 := FN_sound A35 Tryz.func35 (by kernel_rfl) (by kernel_rfl)
noncomputable abbrev R35 (m : Nat) : List Item → List Value → Heap → R := run Tryz.prog G35 Tryz.f35 cuts35 m
theorem t35 (m : Nat) (x0 : Option Addr) (x1 : ByteArray) (H : Heap) : fnE Tryz.prog G35 Tryz.f35 cuts35 m [.pointer x0, .string x1] H =
    (match (x1.toList == (⟨#[76, 73, 83, 84]⟩ : ByteArray).toList) with
    | true => (R35 m td35_100005 [.pointer x0, .string (⟨#[76, 73, 83, 84]⟩ : ByteArray), .int .i64 (0 : Int)] H)
    | false => ((match (x1.toList == (⟨#[67, 79, 85, 78, 84]⟩ : ByteArray).toList) with
    | true => (onSome x0 fun a2 =>
    ldc H a2.block fun cs3 =>
    onSome cs3[a2.off]? fun v4 =>
    kSl v4 fun a5 l6 c7 =>
    onSome (F45 [.int .i64 ((l6 : Nat) : Int)] H) fun r8 =>
    kStr r8.1 fun s9 =>
    if (⟨#[67, 79, 85, 78, 84, 32]⟩ : ByteArray).size + s9.size ≤ 9223372036854775807 then
    some (.string ((⟨#[67, 79, 85, 78, 84, 32]⟩ : ByteArray) ++ s9), r8.2)
    else none)
    | false => ((match (x1.toList == (⟨#[81, 85, 73, 84]⟩ : ByteArray).toList) with
    | true => (onSome x0 fun a10 =>
    st 1 H (⟨a10.block, a10.off + 3, none⟩ : Addr) (.bool true) fun _ H11 =>
    some (.string (⟨#[66, 89, 69]⟩ : ByteArray), H11))
    | false => (onSome (F46 [.string x1] H) fun r12 =>
    kTup r12.1 fun vs13 =>
    onSome vs13[0]? fun v14 =>
    kStr v14 fun s15 =>
    kTup r12.1 fun vs16 =>
    onSome vs16[1]? fun v17 =>
    kStr v17 fun s18 =>
    kTup r12.1 fun vs19 =>
    onSome vs19[2]? fun v20 =>
    kBool v20 fun b21 =>
    onSome (F46 [.string s18] r12.2) fun r22 =>
    kTup r22.1 fun vs23 =>
    onSome vs23[0]? fun v24 =>
    kStr v24 fun s25 =>
    kTup r22.1 fun vs26 =>
    onSome vs26[1]? fun v27 =>
    kStr v27 fun s28 =>
    kTup r22.1 fun vs29 =>
    onSome vs29[2]? fun v30 =>
    kBool v30 fun b31 =>
    (match (!b21) with
    | true => (R35 m td35_17 [] r22.2)
    | false => (onSome (F47 [.string s25] r22.2) fun r32 =>
    kBool r32.1 fun b33 =>
    (match (!b33) with
    | true => (R35 m td35_17 [] r32.2)
    | false => ((match (s15.toList == (⟨#[71, 69, 84]⟩ : ByteArray).toList) with
    | true => ((match (!b31) with
    | true => (R35 m td35_19 [.pointer x0, .string s15, .string s25] r32.2)
    | false => (R35 m td35_20 [.pointer x0, .string s15, .string s25, .string s28, .bool b31] r32.2)))
    | false => ((match (s15.toList == (⟨#[68, 69, 76]⟩ : ByteArray).toList) with
    | true => ((match (!b31) with
    | true => (R35 m td35_19 [.pointer x0, .string s15, .string s25] r32.2)
    | false => (R35 m td35_20 [.pointer x0, .string s15, .string s25, .string s28, .bool b31] r32.2)))
    | false => (R35 m td35_20 [.pointer x0, .string s15, .string s25, .string s28, .bool b31] r32.2)))))))))))))) := by kernel_rfl
theorem c35_17 (m : Nat)  (H : Heap) : R35 (m + 1) td35_17 [] H =
    some (.string (⟨#[66, 65, 68]⟩ : ByteArray), H) := by kernel_rfl
theorem c35_19 (m : Nat) (x0 : Option Addr) (x1 : ByteArray) (x2 : ByteArray) (H : Heap) : R35 (m + 1) td35_19 [.pointer x0, .string x1, .string x2] H =
    onSome (F48 [.pointer x0, .string x1, .string x2] H) fun r3 =>
    kStr r3.1 fun s4 =>
    some (.string s4, r3.2) := by kernel_rfl
theorem c35_20 (m : Nat) (x0 : Option Addr) (x1 : ByteArray) (x2 : ByteArray) (x3 : ByteArray) (x4 : Bool) (H : Heap) : R35 (m + 1) td35_20 [.pointer x0, .string x1, .string x2, .string x3, .bool x4] H =
    (match (x1.toList == (⟨#[80, 85, 84]⟩ : ByteArray).toList) with
    | true => ((match x4 with
    | true => (onSome (F49 [.pointer x0, .string x2, .string x3] H) fun r5 =>
    kBool r5.1 fun b6 =>
    (match (!b6) with
    | true => (some (.string (⟨#[70, 85, 76, 76]⟩ : ByteArray), r5.2))
    | false => (some (.string (⟨#[79, 75]⟩ : ByteArray), r5.2))))
    | false => (R35 m td35_24 [.pointer x0, .string x1, .string x2, .string x3, .bool x4] H)))
    | false => (R35 m td35_24 [.pointer x0, .string x1, .string x2, .string x3, .bool x4] H)) := by kernel_rfl
theorem c35_24 (m : Nat) (x0 : Option Addr) (x1 : ByteArray) (x2 : ByteArray) (x3 : ByteArray) (x4 : Bool) (H : Heap) : R35 (m + 1) td35_24 [.pointer x0, .string x1, .string x2, .string x3, .bool x4] H =
    (match (x1.toList == (⟨#[65, 68, 68]⟩ : ByteArray).toList) with
    | true => ((match x4 with
    | true => (onSome (F50 [.pointer x0, .string x2, .string x3] H) fun r5 =>
    kStr r5.1 fun s6 =>
    some (.string s6, r5.2))
    | false => (R35 m td35_26 [.pointer x0, .string x1, .string x2, .string x3, .bool x4] H)))
    | false => (R35 m td35_26 [.pointer x0, .string x1, .string x2, .string x3, .bool x4] H)) := by kernel_rfl
theorem c35_26 (m : Nat) (x0 : Option Addr) (x1 : ByteArray) (x2 : ByteArray) (x3 : ByteArray) (x4 : Bool) (H : Heap) : R35 (m + 1) td35_26 [.pointer x0, .string x1, .string x2, .string x3, .bool x4] H =
    (match (x1.toList == (⟨#[65, 80, 80]⟩ : ByteArray).toList) with
    | true => ((match x4 with
    | true => (onSome (F51 [.pointer x0, .string x2, .string x3] H) fun r5 =>
    kStr r5.1 fun s6 =>
    some (.string s6, r5.2))
    | false => (R35 m td35_28 [] H)))
    | false => (R35 m td35_28 [] H)) := by kernel_rfl
theorem c35_28 (m : Nat)  (H : Heap) : R35 (m + 1) td35_28 [] H =
    some (.string (⟨#[66, 65, 68]⟩ : ByteArray), H) := by kernel_rfl
theorem c35_100005 (m : Nat) (x0 : Option Addr) (x1 : ByteArray) (x2 : Int) (H : Heap) : R35 (m + 1) td35_100005 [.pointer x0, .string x1, .int .i64 x2] H =
    onSome x0 fun a3 =>
    ldc H a3.block fun cs4 =>
    onSome cs4[a3.off]? fun v5 =>
    kSl v5 fun a6 l7 c8 =>
    (match (decide (x2 < ((l7 : Nat) : Int))) with
    | true => (onSome x0 fun a9 =>
    ldc H a9.block fun cs10 =>
    onSome cs10[a9.off]? fun v11 =>
    kSl v11 fun a12 l13 c14 =>
    onSome a12 fun a15 =>
    if 0 ≤ x2 ∧ x2 < (l13 : Nat) then
    ldc H ((a15.add (x2.toNat * 2)).block) fun cs16 =>
    onSome cs16[(a15.add (x2.toNat * 2)).off]? fun v17 =>
    kStr v17 fun s18 =>
    if (⟨#[32]⟩ : ByteArray).size + s18.size ≤ 9223372036854775807 then
    if x1.size + ((⟨#[32]⟩ : ByteArray) ++ s18).size ≤ 9223372036854775807 then
    R35 m td35_100005 [.pointer x0, .string (x1 ++ ((⟨#[32]⟩ : ByteArray) ++ s18)), .int .i64 (IntKind.i64.wrap (x2 + (1 : Int)))] H
    else none
    else none
    else none)
    | false => (some (.string x1, H))) := by kernel_rfl
-- (*sternpost/sternpostref21.Session).Take
noncomputable def G20 : Fs := Fs.ext G35 35 F35
theorem A20 : AllSound Tryz.prog G20 := AllSound.ext A35 S35
noncomputable def cuts20 : Cuts := [(100007, [0, 1, 6, 7]), (8, [0, 1, 6, 7]), (16, [0, 1, 6, 7, 8]), (20, [6])]
noncomputable def td20_100007 : List Item := todoOf Tryz.f20 100007
noncomputable def td20_8 : List Item := todoOf Tryz.f20 8
noncomputable def td20_16 : List Item := todoOf Tryz.f20 16
noncomputable def td20_20 : List Item := todoOf Tryz.f20 20
noncomputable def F20 : List Value → Heap → R := FN Tryz.prog G20 Tryz.f20 cuts20
theorem S20 : Sound Tryz.prog 20 F20 := FN_sound A20 Tryz.func20 (by kernel_rfl) (by kernel_rfl)
noncomputable abbrev R20 (m : Nat) : List Item → List Value → Heap → R := run Tryz.prog G20 Tryz.f20 cuts20 m
theorem t20 (m : Nat) (x0 : Option Addr) (x1 : ByteArray) (H : Heap) : fnE Tryz.prog G20 Tryz.f20 cuts20 m [.pointer x0, .string x1] H =
    (match (decide ((65536 : Int) < (x1.size : Int))) with
    | true => (some (.tuple #[.string (⟨#[]⟩ : ByteArray), .int .i64 (2 : Int)], H))
    | false => (onSome x0 fun a2 =>
    ldc H a2.block fun cs3 =>
    onSome cs3[(a2.off + 3)]? fun v4 =>
    kBool v4 fun b5 =>
    (match b5 with
    | true => (some (.tuple #[.string (⟨#[]⟩ : ByteArray), .int .i64 (183 : Int)], H))
    | false => (R20 m td20_100007 [.pointer x0, .string x1, .slice none 0 0, .int .i64 (0 : Int)] H)))) := by kernel_rfl
theorem c20_8 (m : Nat) (x0 : Option Addr) (x1 : ByteArray) (a2 : Option Addr) (l3 : Nat) (c4 : Nat) (x5 : Int) (H : Heap) : R20 (m + 1) td20_8 [.pointer x0, .string x1, .slice a2 l3 c4, .int .i64 x5] H =
    R20 m td20_100007 [.pointer x0, .string x1, .slice a2 l3 c4, .int .i64 (IntKind.i64.wrap (x5 + (1 : Int)))] H := by kernel_rfl
theorem c20_16 (m : Nat) (x0 : Option Addr) (x1 : ByteArray) (a2 : Option Addr) (l3 : Nat) (c4 : Nat) (x5 : Int) (x6 : ByteArray) (H : Heap) : R20 (m + 1) td20_16 [.pointer x0, .string x1, .slice a2 l3 c4, .int .i64 x5, .string x6] H =
    firstC H 1 (.string x6) fun n7 nw8 =>
    app Tryz.prog 5 H (.slice a2 l3 c4) n7 nw8 fun v9 H10 =>
    kSl v9 fun a11 l12 c13 =>
    let H14 := H10 ++ [.cells [.int .u8 (10 : Int)] 1 true]
    firstC H14 1 (.slice (some ⟨H10.length, 0, none⟩) 1 1) fun n15 nw16 =>
    app Tryz.prog 5 H14 (.slice a11 l12 c13) n15 nw16 fun v17 H18 =>
    kSl v17 fun a19 l20 c21 =>
    onSome x0 fun a22 =>
    st 1 H18 (⟨a22.block, a22.off + 1, none⟩ : Addr) (.string (⟨#[]⟩ : ByteArray)) fun _ H23 =>
    onSome x0 fun a24 =>
    st 1 H23 (⟨a24.block, a24.off + 2, none⟩ : Addr) (.bool false) fun _ H25 =>
    R20 m td20_8 [.pointer x0, .string x1, .slice a19 l20 c21, .int .i64 x5] H25 := by kernel_rfl
theorem c20_20 (m : Nat) (a0 : Option Addr) (l1 : Nat) (c2 : Nat) (H : Heap) : R20 (m + 1) td20_20 [.slice a0 l1 c2] H =
    (match a0 with
    | none => (some (.tuple #[.string .empty, .int .i64 (0 : Int)], H))
    | some a3 => (ldc H a3.block fun cs4 =>
    if a3.off + l1 ≤ cs4.length then
    onSome (bytesOf (range cs4 a3.off l1)) fun l5 =>
    some (.tuple #[.string (⟨l5.toArray⟩ : ByteArray), .int .i64 (0 : Int)], H)
    else none)) := by kernel_rfl
theorem c20_100007 (m : Nat) (x0 : Option Addr) (x1 : ByteArray) (a2 : Option Addr) (l3 : Nat) (c4 : Nat) (x5 : Int) (H : Heap) : R20 (m + 1) td20_100007 [.pointer x0, .string x1, .slice a2 l3 c4, .int .i64 x5] H =
    (match (decide (x5 < (x1.size : Int))) with
    | true => (onSome x0 fun a6 =>
    ldc H a6.block fun cs7 =>
    onSome cs7[(a6.off + 3)]? fun v8 =>
    kBool v8 fun b9 =>
    (match (!b9) with
    | true => (if 0 ≤ x5 ∧ x5 < x1.size then
    (match ((byteAt x1 x5.toNat) != (10 : Int)) with
    | true => (onSome x0 fun a10 =>
    ldc H a10.block fun cs11 =>
    onSome cs11[(a10.off + 1)]? fun v12 =>
    kStr v12 fun s13 =>
    (match (decide ((256 : Int) ≤ (s13.size : Int))) with
    | true => (onSome x0 fun a14 =>
    st 1 H (⟨a14.block, a14.off + 2, none⟩ : Addr) (.bool true) fun _ H15 =>
    R20 m td20_8 [.pointer x0, .string x1, .slice a2 l3 c4, .int .i64 x5] H15)
    | false => (onSome x0 fun a16 =>
    ldc H a16.block fun cs17 =>
    onSome cs17[(a16.off + 1)]? fun v18 =>
    kStr v18 fun s19 =>
    if 0 ≤ x5 ∧ x5 < x1.size then
    let H20 := H ++ [.cells [.int .u8 (byteAt x1 x5.toNat)] 1 true]
    ldc H20 H.length fun cs21 =>
    if 0 + 1 ≤ cs21.length then
    onSome (bytesOf (range cs21 0 1)) fun l22 =>
    if s19.size + (⟨l22.toArray⟩ : ByteArray).size ≤ 9223372036854775807 then
    onSome x0 fun a23 =>
    st 1 H20 (⟨a23.block, a23.off + 1, none⟩ : Addr) (.string (s19 ++ (⟨l22.toArray⟩ : ByteArray))) fun _ H24 =>
    R20 m td20_8 [.pointer x0, .string x1, .slice a2 l3 c4, .int .i64 x5] H24
    else none
    else none
    else none)))
    | false => (onSome x0 fun a25 =>
    ldc H a25.block fun cs26 =>
    onSome cs26[(a25.off + 2)]? fun v27 =>
    kBool v27 fun b28 =>
    (match (!b28) with
    | true => (onSome x0 fun a29 =>
    ldc H a29.block fun cs30 =>
    onSome cs30[(a29.off + 1)]? fun v31 =>
    kStr v31 fun s32 =>
    onSome (F35 [.pointer x0, .string s32] H) fun r33 =>
    kStr r33.1 fun s34 =>
    R20 m td20_16 [.pointer x0, .string x1, .slice a2 l3 c4, .int .i64 x5, .string s34] r33.2)
    | false => (R20 m td20_16 [.pointer x0, .string x1, .slice a2 l3 c4, .int .i64 x5, .string (⟨#[66, 65, 68]⟩ : ByteArray)] H))))
    else none)
    | false => (R20 m td20_20 [.slice a2 l3 c4] H)))
    | false => (R20 m td20_20 [.slice a2 l3 c4] H)) := by kernel_rfl
-- sternpost/sternpostref21.Answer
noncomputable def G12 : Fs := Fs.ext G20 20 F20
theorem A12 : AllSound Tryz.prog G12 := AllSound.ext A20 S20
noncomputable def cuts12 : Cuts := []
noncomputable def F12 : List Value → Heap → R := FN Tryz.prog G12 Tryz.f12 cuts12
theorem S12 : Sound Tryz.prog 12 F12 := FN_sound A12 Tryz.func12 (by kernel_rfl) (by kernel_rfl)
noncomputable abbrev R12 (m : Nat) : List Item → List Value → Heap → R := run Tryz.prog G12 Tryz.f12 cuts12 m
theorem t12 (m : Nat) (x0 : ByteArray) (H : Heap) : fnE Tryz.prog G12 Tryz.f12 cuts12 m [.string x0] H =
    let H1 := H ++ [.cells [.slice none 0 0, .string (⟨#[]⟩ : ByteArray), .bool false, .bool false] 0 true]
    onSome (F20 [.pointer (some (⟨H.length, 0, none⟩ : Addr)), .string x0] H1) fun r2 =>
    kTup r2.1 fun vs3 =>
    onSome vs3[0]? fun v4 =>
    kStr v4 fun s5 =>
    kTup r2.1 fun vs6 =>
    onSome vs6[1]? fun v7 =>
    kInt .i64 v7 fun n8 =>
    ldc r2.2 H.length fun cs9 =>
    onSome cs9[(0 + 3)]? fun v10 =>
    kBool v10 fun b11 =>
    some (.tuple #[.string s5, .bool b11], r2.2) := by kernel_rfl
-- sternpost/sternpostlaw21.AppAnswers
noncomputable def G3 : Fs := Fs.ext G12 12 F12
theorem A3 : AllSound Tryz.prog G3 := AllSound.ext A12 S12
noncomputable def cuts3 : Cuts := [(3, [0])]
noncomputable def td3_3 : List Item := todoOf Tryz.f3 3
noncomputable def F3 : List Value → Heap → R := FN Tryz.prog G3 Tryz.f3 cuts3
theorem S3 : Sound Tryz.prog 3 F3 := FN_sound A3 Tryz.func3 (by kernel_rfl) (by kernel_rfl)
noncomputable abbrev R3 (m : Nat) : List Item → List Value → Heap → R := run Tryz.prog G3 Tryz.f3 cuts3 m
theorem t3 (m : Nat) (x0 : ByteArray) (H : Heap) : fnE Tryz.prog G3 Tryz.f3 cuts3 m [.string x0] H =
    (match (decide ((5000 : Int) < (x0.size : Int))) with
    | true => ((match (decide ((x0.size : Int) ≤ (65536 : Int))) with
    | true => (onSome (F10 [] H) fun r1 =>
    kBool r1.1 fun b2 =>
    some (.bool b2, r1.2))
    | false => (R3 m td3_3 [.string x0] H)))
    | false => (R3 m td3_3 [.string x0] H)) := by kernel_rfl
theorem c3_3 (m : Nat) (x0 : ByteArray) (H : Heap) : R3 (m + 1) td3_3 [.string x0] H =
    onSome (F11 [.string x0] H) fun r1 =>
    kTup r1.1 fun vs2 =>
    onSome vs2[0]? fun v3 =>
    kStr v3 fun s4 =>
    kTup r1.1 fun vs5 =>
    onSome vs5[1]? fun v6 =>
    kBool v6 fun b7 =>
    onSome (F12 [.string x0] r1.2) fun r8 =>
    kTup r8.1 fun vs9 =>
    onSome vs9[0]? fun v10 =>
    kStr v10 fun s11 =>
    kTup r8.1 fun vs12 =>
    onSome vs12[1]? fun v13 =>
    kBool v13 fun b14 =>
    (match (s4.toList == s11.toList) with
    | true => ((match (b7 == b14) with
    | true => (onSome (F10 [] r8.2) fun r15 =>
    kBool r15.1 fun b16 =>
    some (.bool b16, r15.2))
    | false => (some (.bool false, r8.2))))
    | false => (some (.bool false, r8.2))) := by kernel_rfl
end Go.Proofs.YtbheppfjaeocpaaGreatDoor
