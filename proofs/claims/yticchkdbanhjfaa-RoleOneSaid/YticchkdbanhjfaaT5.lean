/- PRINTED by a program of the session (Pr.lean): what functions of the program come to on the abstract heap, each checked by the kernel. Conditions: none. -/
import Derived.Test.YticchkdbanhjfaaT4
set_option linter.unusedVariables false
namespace Go.Proofs.Yticchkdbanhjfaa
open Go Go.Proofs.Yticchkdbanhjfaa.Fw Go.RowKit
-- (*sternpost/sternpostlaw26.pair).beat
noncomputable def G72 : Fs := Fs.ext G7 7 F7
theorem A72 : AllSound Try.prog G72 := AllSound.ext A7 S7
noncomputable def cuts72 : Cuts := [(5, [4, 9]), (4, [4, 7, 9])]
noncomputable def td72_5 : List Item := todoOf Try.f72 5
noncomputable def td72_4 : List Item := todoOf Try.f72 4
noncomputable def F72 : List Value → Heap → R := FN Try.prog G72 Try.f72 cuts72
theorem S72 : Sound Try.prog 72 F72 := FN_sound A72 Try.func72 (by kernel_rfl) (by kernel_rfl)
noncomputable abbrev R72 (m : Nat) : List Item → List Value → Heap → R := run Try.prog G72 Try.f72 cuts72 m
theorem t72 (m : Nat) (x0 : Option Addr) (x1 : Int) (H : Heap) : fnE Try.prog G72 Try.f72 cuts72 m [.pointer x0, .int .i64 x1] H =
    let H2 := H ++ [.cells [.int .i64 (0 : Int), .int .i64 (0 : Int), .int .i64 (0 : Int), .int .i64 (0 : Int), .int .i64 (0 : Int), .string (⟨#[]⟩ : ByteArray)] 0 true]
    onSome x0 fun a3 =>
    if 0 ≤ x1 ∧ x1 < (2 : Nat) then
    ldc H2 ((a3.add (x1.toNat * 1)).block) fun cs4 =>
    onSome cs4[(a3.add (x1.toNat * 1)).off]? fun v5 =>
    kPtr v5 fun p6 =>
    onSome (F30 [.pointer p6] H2) fun r7 =>
    kTup r7.1 fun vs8 =>
    onSome vs8[0]? fun v9 =>
    kInt .i64 v9 fun n10 =>
    kTup r7.1 fun vs11 =>
    onSome vs11[1]? fun v12 =>
    kInt .i64 v12 fun n13 =>
    kTup r7.1 fun vs14 =>
    onSome vs14[2]? fun v15 =>
    kInt .i64 v15 fun n16 =>
    kTup r7.1 fun vs17 =>
    onSome vs17[3]? fun v18 =>
    kInt .i64 v18 fun n19 =>
    let H20 := r7.2 ++ [.cells [.int .i64 (0 : Int), .int .i64 (0 : Int), .int .i64 (0 : Int), .int .i64 (0 : Int), .int .i64 (0 : Int), .string (⟨#[]⟩ : ByteArray)] 0 true]
    st 6 H20 (⟨r7.2.length, 0, none⟩ : Addr) (.agg #[.int .i64 (2 : Int), .int .i64 n13, .int .i64 n10, .int .i64 n19, .int .i64 (0 : Int), .string (⟨#[]⟩ : ByteArray)]) fun _ H21 =>
    (match (n10 == (1 : Int)) with
    | true => (R72 m td72_4 [.pointer (some (⟨H.length, 0, none⟩ : Addr)), .int .i64 n16, .pointer (some (⟨r7.2.length, 0, none⟩ : Addr))] H21)
    | false => ((match (n10 == (2 : Int)) with
    | true => (R72 m td72_4 [.pointer (some (⟨H.length, 0, none⟩ : Addr)), .int .i64 n16, .pointer (some (⟨r7.2.length, 0, none⟩ : Addr))] H21)
    | false => (R72 m td72_5 [.pointer (some (⟨H.length, 0, none⟩ : Addr)), .pointer (some (⟨r7.2.length, 0, none⟩ : Addr))] H21))))
    else none := by kernel_rfl
theorem c72_4 (m : Nat) (x0 : Option Addr) (x1 : Int) (x2 : Option Addr) (H : Heap) : R72 (m + 1) td72_4 [.pointer x0, .int .i64 x1, .pointer x2] H =
    onSome x2 fun a3 =>
    st 1 H (⟨a3.block, a3.off + 3, none⟩ : Addr) (.int .i64 x1) fun _ H4 =>
    R72 m td72_5 [.pointer x0, .pointer x2] H4 := by kernel_rfl
theorem c72_5 (m : Nat) (x0 : Option Addr) (x1 : Option Addr) (H : Heap) : R72 (m + 1) td72_5 [.pointer x0, .pointer x1] H =
    onSome x1 fun a2 =>
    ldc H a2.block fun cs3 =>
    if a2.off + 6 ≤ cs3.length then
    onSome x0 fun a4 =>
    st 6 H a4 (.agg ((range cs3 a2.off 6).toArray)) fun _ H5 =>
    onSome x0 fun a6 =>
    ldc H5 a6.block fun cs7 =>
    if a6.off + 6 ≤ cs7.length then
    some (.agg ((range cs7 a6.off 6).toArray), H5)
    else none
    else none := by kernel_rfl
-- (*sternpost/sternpostlaw26.pair).does
noncomputable def G41 : Fs := Fs.ext G72 72 F72
theorem A41 : AllSound Try.prog G41 := AllSound.ext A72 S72
noncomputable def cuts41 : Cuts := [(13, [0, 5, 10, 12]), (23, [0, 4, 5, 10]), (15, [0, 3, 4, 5, 10]), (9, [0, 3, 4, 5, 10]), (4, [0, 3, 4])]
noncomputable def td41_13 : List Item := todoOf Try.f41 13
noncomputable def td41_23 : List Item := todoOf Try.f41 23
noncomputable def td41_15 : List Item := todoOf Try.f41 15
noncomputable def td41_9 : List Item := todoOf Try.f41 9
noncomputable def td41_4 : List Item := todoOf Try.f41 4
noncomputable def F41 : List Value → Heap → R := FN Try.prog G41 Try.f41 cuts41
theorem S41 : Sound Try.prog 41 F41 := FN_sound A41 Try.func41 (by kernel_rfl) (by kernel_rfl)
noncomputable abbrev R41 (m : Nat) : List Item → List Value → Heap → R := run Try.prog G41 Try.f41 cuts41 m
theorem t41 (m : Nat) (x0 : Option Addr) (x1 : Int) (x2 : Int) (x3 : Bool) (H : Heap) : fnE Try.prog G41 Try.f41 cuts41 m [.pointer x0, .agg #[.int .i64 x1, .int .i64 x2, .bool x3]] H =
    let H4 := H ++ [.cells [.int .i64 x1, .int .i64 x2, .bool x3] 0 true]
    ldc H4 H.length fun cs5 =>
    onSome cs5[(0 + 2)]? fun v6 =>
    kBool v6 fun b7 =>
    (match b7 with
    | true => (R41 m td41_4 [.pointer x0, .pointer (some (⟨H.length, 0, none⟩ : Addr)), .int .i64 (1 : Int)] H4)
    | false => (R41 m td41_4 [.pointer x0, .pointer (some (⟨H.length, 0, none⟩ : Addr)), .int .i64 (0 : Int)] H4)) := by kernel_rfl
theorem c41_4 (m : Nat) (x0 : Option Addr) (x1 : Option Addr) (x2 : Int) (H : Heap) : R41 (m + 1) td41_4 [.pointer x0, .pointer x1, .int .i64 x2] H =
    onSome x0 fun a3 =>
    if 0 ≤ x2 ∧ x2 < (2 : Nat) then
    ldc H ((a3.add (x2.toNat * 1)).block) fun cs4 =>
    onSome cs4[(a3.add (x2.toNat * 1)).off]? fun v5 =>
    kPtr v5 fun p6 =>
    onSome (F30 [.pointer p6] H) fun r7 =>
    kTup r7.1 fun vs8 =>
    onSome vs8[0]? fun v9 =>
    kInt .i64 v9 fun n10 =>
    kTup r7.1 fun vs11 =>
    onSome vs11[1]? fun v12 =>
    kInt .i64 v12 fun n13 =>
    kTup r7.1 fun vs14 =>
    onSome vs14[2]? fun v15 =>
    kInt .i64 v15 fun n16 =>
    kTup r7.1 fun vs17 =>
    onSome vs17[3]? fun v18 =>
    kInt .i64 v18 fun n19 =>
    onSome x1 fun a20 =>
    ldc r7.2 a20.block fun cs21 =>
    onSome cs21[a20.off]? fun v22 =>
    kInt .i64 v22 fun n23 =>
    onSome (F23 [.int .i64 n23, .int .i64 (8 : Int)] r7.2) fun r24 =>
    kInt .i64 r24.1 fun n25 =>
    (match (n25 == (0 : Int)) with
    | true => ((match (n10 != (0 : Int)) with
    | true => ((match (n10 != (5 : Int)) with
    | true => (onSome x0 fun a26 =>
    if 0 ≤ (IntKind.i64.wrap ((1 : Int) - x2)) ∧ (IntKind.i64.wrap ((1 : Int) - x2)) < (2 : Nat) then
    ldc r24.2 (((⟨a26.block, a26.off + 2, none⟩ : Addr).add ((IntKind.i64.wrap ((1 : Int) - x2)).toNat * 1)).block) fun cs27 =>
    onSome cs27[((⟨a26.block, a26.off + 2, none⟩ : Addr).add ((IntKind.i64.wrap ((1 : Int) - x2)).toNat * 1)).off]? fun v28 =>
    kSl v28 fun a29 l30 c31 =>
    onSome x0 fun a32 =>
    onSome (F72 [.pointer x0, .int .i64 x2] r24.2) fun r33 =>
    kAgg r33.1 fun cs34 =>
    if cs34.size = 6 then
    unt r24.2 r33.2 (((⟨a26.block, a26.off + 2, none⟩ : Addr).add ((IntKind.i64.wrap ((1 : Int) - x2)).toNat * 1)).block) (
    cellsOks [.agg cs34] (onSome (Instr.fill (fun i => some (i * 6, 6)) ([.int .i64 (0 : Int), .int .i64 (0 : Int), .int .i64 (0 : Int), .int .i64 (0 : Int), .int .i64 (0 : Int), .string (⟨#[]⟩ : ByteArray)] : List Value).toArray (([0] : List Nat).zip [.agg cs34])) fun cells35 =>
    let H36 := r33.2 ++ [.cells cells35.toList 6 true]
    firstC H36 6 (.slice (some ⟨r33.2.length, 0, none⟩) 1 1) fun n37 nw38 =>
    app Try.prog 55 H36 (.slice a29 l30 c31) n37 nw38 fun v39 H40 =>
    kSl v39 fun a41 l42 c43 =>
    if 0 ≤ (IntKind.i64.wrap ((1 : Int) - x2)) ∧ (IntKind.i64.wrap ((1 : Int) - x2)) < (2 : Nat) then
    st 1 H40 ((⟨a32.block, a32.off + 2, none⟩ : Addr).add ((IntKind.i64.wrap ((1 : Int) - x2)).toNat * 1)) (.slice a41 l42 c43) fun _ H44 =>
    some (.tuple #[], H44)
    else none))
    else none
    else none)
    | false => (R41 m td41_9 [.pointer x0, .pointer x1, .int .i64 x2, .pointer p6, .int .i64 n25] r24.2)))
    | false => (R41 m td41_9 [.pointer x0, .pointer x1, .int .i64 x2, .pointer p6, .int .i64 n25] r24.2)))
    | false => (R41 m td41_9 [.pointer x0, .pointer x1, .int .i64 x2, .pointer p6, .int .i64 n25] r24.2))
    else none := by kernel_rfl
theorem c41_9 (m : Nat) (x0 : Option Addr) (x1 : Option Addr) (x2 : Int) (x3 : Option Addr) (x4 : Int) (H : Heap) : R41 (m + 1) td41_9 [.pointer x0, .pointer x1, .int .i64 x2, .pointer x3, .int .i64 x4] H =
    (match (decide (x4 ≤ (2 : Int))) with
    | true => ((match (decide ((0 : Int) < x4)) with
    | true => (onSome x0 fun a5 =>
    if 0 ≤ x2 ∧ x2 < (2 : Nat) then
    ldc H (((⟨a5.block, a5.off + 2, none⟩ : Addr).add (x2.toNat * 1)).block) fun cs6 =>
    onSome cs6[((⟨a5.block, a5.off + 2, none⟩ : Addr).add (x2.toNat * 1)).off]? fun v7 =>
    kSl v7 fun a8 l9 c10 =>
    (match (decide ((0 : Int) < ((l9 : Nat) : Int))) with
    | true => (onSome x1 fun a11 =>
    ldc H a11.block fun cs12 =>
    onSome cs12[(a11.off + 1)]? fun v13 =>
    kInt .i64 v13 fun n14 =>
    onSome x0 fun a15 =>
    if 0 ≤ x2 ∧ x2 < (2 : Nat) then
    ldc H (((⟨a15.block, a15.off + 2, none⟩ : Addr).add (x2.toNat * 1)).block) fun cs16 =>
    onSome cs16[((⟨a15.block, a15.off + 2, none⟩ : Addr).add (x2.toNat * 1)).off]? fun v17 =>
    kSl v17 fun a18 l19 c20 =>
    onSome (F23 [.int .i64 n14, .int .i64 ((l19 : Nat) : Int)] H) fun r21 =>
    kInt .i64 r21.1 fun n22 =>
    onSome x0 fun a23 =>
    if 0 ≤ x2 ∧ x2 < (2 : Nat) then
    ldc r21.2 (((⟨a23.block, a23.off + 2, none⟩ : Addr).add (x2.toNat * 1)).block) fun cs24 =>
    onSome cs24[((⟨a23.block, a23.off + 2, none⟩ : Addr).add (x2.toNat * 1)).off]? fun v25 =>
    kSl v25 fun a26 l27 c28 =>
    onSome a26 fun a29 =>
    if 0 ≤ n22 ∧ n22 < (l27 : Nat) then
    ldc r21.2 ((a29.add (n22.toNat * 6)).block) fun cs30 =>
    if (a29.add (n22.toNat * 6)).off + 6 ≤ cs30.length then
    let H31 := r21.2 ++ [.cells [.int .i64 (0 : Int), .int .i64 (0 : Int), .int .i64 (0 : Int), .int .i64 (0 : Int), .int .i64 (0 : Int), .string (⟨#[]⟩ : ByteArray)] 0 true]
    st 6 H31 (⟨r21.2.length, 0, none⟩ : Addr) (.agg ((range cs30 ((a29.add (n22.toNat * 6)).off) 6).toArray)) fun _ H32 =>
    let H33 := H32 ++ [.cells [] 6 true]
    onSome x0 fun a34 =>
    if 0 ≤ x2 ∧ x2 < (2 : Nat) then
    ldc H33 (((⟨a34.block, a34.off + 2, none⟩ : Addr).add (x2.toNat * 1)).block) fun cs35 =>
    onSome cs35[((⟨a34.block, a34.off + 2, none⟩ : Addr).add (x2.toNat * 1)).off]? fun v36 =>
    kSl v36 fun a37 l38 c39 =>
    slSl H33 6 a37 l38 c39 (0 : Int) n22 fun v40 =>
    kSl v40 fun a41 l42 c43 =>
    (match (onSome a37 fun z => some z.block : Option Nat) with
    | some blk44 => (onSome x0 fun a45 =>
    if 0 ≤ x2 ∧ x2 < (2 : Nat) then
    ldc H33 (((⟨a45.block, a45.off + 2, none⟩ : Addr).add (x2.toNat * 1)).block) fun cs46 =>
    onSome cs46[((⟨a45.block, a45.off + 2, none⟩ : Addr).add (x2.toNat * 1)).off]? fun v47 =>
    kSl v47 fun a48 l49 c50 =>
    slSl H33 6 a48 l49 c50 (IntKind.i64.wrap (n22 + (1 : Int))) (l49 : Int) fun v51 =>
    kSl v51 fun a52 l53 c54 =>
    (match (onSome a48 fun z => some z.block : Option Nat) with
    | some blk55 => (onSome x0 fun a56 =>
    firstC H33 6 (.slice a41 l42 c43) fun n57 nw58 =>
    app Try.prog 55 H33 (.slice (some ⟨H32.length, 0, none⟩) 0 0) n57 nw58 fun v59 H60 =>
    kSl v59 fun a61 l62 c63 =>
    unt H33 H60 blk55 (
    unt H33 H60 (((⟨a45.block, a45.off + 2, none⟩ : Addr).add (x2.toNat * 1)).block) (
    firstC H60 6 (.slice a52 l53 c54) fun n64 nw65 =>
    app Try.prog 55 H60 (.slice a61 l62 c63) n64 nw65 fun v66 H67 =>
    kSl v66 fun a68 l69 c70 =>
    if 0 ≤ x2 ∧ x2 < (2 : Nat) then
    st 1 H67 ((⟨a56.block, a56.off + 2, none⟩ : Addr).add (x2.toNat * 1)) (.slice a68 l69 c70) fun _ H71 =>
    R41 m td41_13 [.pointer x0, .pointer x3, .int .i64 x4, .pointer (some (⟨r21.2.length, 0, none⟩ : Addr))] H71
    else none)))
    | none => (onSome x0 fun a72 =>
    firstC H33 6 (.slice a41 l42 c43) fun n73 nw74 =>
    app Try.prog 55 H33 (.slice (some ⟨H32.length, 0, none⟩) 0 0) n73 nw74 fun v75 H76 =>
    kSl v75 fun a77 l78 c79 =>
    unt H33 H76 (((⟨a45.block, a45.off + 2, none⟩ : Addr).add (x2.toNat * 1)).block) (
    firstC H76 6 (.slice a52 l53 c54) fun n80 nw81 =>
    app Try.prog 55 H76 (.slice a77 l78 c79) n80 nw81 fun v82 H83 =>
    kSl v82 fun a84 l85 c86 =>
    if 0 ≤ x2 ∧ x2 < (2 : Nat) then
    st 1 H83 ((⟨a72.block, a72.off + 2, none⟩ : Addr).add (x2.toNat * 1)) (.slice a84 l85 c86) fun _ H87 =>
    R41 m td41_13 [.pointer x0, .pointer x3, .int .i64 x4, .pointer (some (⟨r21.2.length, 0, none⟩ : Addr))] H87
    else none)))
    else none)
    | none => (onSome x0 fun a88 =>
    if 0 ≤ x2 ∧ x2 < (2 : Nat) then
    ldc H33 (((⟨a88.block, a88.off + 2, none⟩ : Addr).add (x2.toNat * 1)).block) fun cs89 =>
    onSome cs89[((⟨a88.block, a88.off + 2, none⟩ : Addr).add (x2.toNat * 1)).off]? fun v90 =>
    kSl v90 fun a91 l92 c93 =>
    slSl H33 6 a91 l92 c93 (IntKind.i64.wrap (n22 + (1 : Int))) (l92 : Int) fun v94 =>
    kSl v94 fun a95 l96 c97 =>
    (match (onSome a91 fun z => some z.block : Option Nat) with
    | some blk98 => (onSome x0 fun a99 =>
    firstC H33 6 (.slice a41 l42 c43) fun n100 nw101 =>
    app Try.prog 55 H33 (.slice (some ⟨H32.length, 0, none⟩) 0 0) n100 nw101 fun v102 H103 =>
    kSl v102 fun a104 l105 c106 =>
    unt H33 H103 blk98 (
    unt H33 H103 (((⟨a88.block, a88.off + 2, none⟩ : Addr).add (x2.toNat * 1)).block) (
    firstC H103 6 (.slice a95 l96 c97) fun n107 nw108 =>
    app Try.prog 55 H103 (.slice a104 l105 c106) n107 nw108 fun v109 H110 =>
    kSl v109 fun a111 l112 c113 =>
    if 0 ≤ x2 ∧ x2 < (2 : Nat) then
    st 1 H110 ((⟨a99.block, a99.off + 2, none⟩ : Addr).add (x2.toNat * 1)) (.slice a111 l112 c113) fun _ H114 =>
    R41 m td41_13 [.pointer x0, .pointer x3, .int .i64 x4, .pointer (some (⟨r21.2.length, 0, none⟩ : Addr))] H114
    else none)))
    | none => (onSome x0 fun a115 =>
    firstC H33 6 (.slice a41 l42 c43) fun n116 nw117 =>
    app Try.prog 55 H33 (.slice (some ⟨H32.length, 0, none⟩) 0 0) n116 nw117 fun v118 H119 =>
    kSl v118 fun a120 l121 c122 =>
    unt H33 H119 (((⟨a88.block, a88.off + 2, none⟩ : Addr).add (x2.toNat * 1)).block) (
    firstC H119 6 (.slice a95 l96 c97) fun n123 nw124 =>
    app Try.prog 55 H119 (.slice a120 l121 c122) n123 nw124 fun v125 H126 =>
    kSl v125 fun a127 l128 c129 =>
    if 0 ≤ x2 ∧ x2 < (2 : Nat) then
    st 1 H126 ((⟨a115.block, a115.off + 2, none⟩ : Addr).add (x2.toNat * 1)) (.slice a127 l128 c129) fun _ H130 =>
    R41 m td41_13 [.pointer x0, .pointer x3, .int .i64 x4, .pointer (some (⟨r21.2.length, 0, none⟩ : Addr))] H130
    else none)))
    else none))
    else none
    else none
    else none
    else none
    else none)
    | false => (R41 m td41_15 [.pointer x0, .pointer x1, .int .i64 x2, .pointer x3, .int .i64 x4] H))
    else none)
    | false => (R41 m td41_15 [.pointer x0, .pointer x1, .int .i64 x2, .pointer x3, .int .i64 x4] H)))
    | false => (R41 m td41_15 [.pointer x0, .pointer x1, .int .i64 x2, .pointer x3, .int .i64 x4] H)) := by kernel_rfl
theorem c41_13 (m : Nat) (x0 : Option Addr) (x1 : Option Addr) (x2 : Int) (x3 : Option Addr) (H : Heap) : R41 (m + 1) td41_13 [.pointer x0, .pointer x1, .int .i64 x2, .pointer x3] H =
    (match (x2 == (1 : Int)) with
    | true => (onSome x3 fun a4 =>
    ldc H a4.block fun cs5 =>
    if a4.off + 6 ≤ cs5.length then
    (match (onSome x3 fun z => some z.block : Option Nat) with
    | some blk6 => (onSome x0 fun a7 =>
    ldc H a7.block fun cs8 =>
    onSome cs8[(a7.off + 6)]? fun v9 =>
    kInt .i64 v9 fun n10 =>
    onSome (F27 [.pointer x1, .agg ((range cs5 a4.off 6).toArray), .int .i64 n10] H) fun r11 =>
    some (.tuple #[], r11.2))
    | none => (onSome x0 fun a12 =>
    ldc H a12.block fun cs13 =>
    onSome cs13[(a12.off + 6)]? fun v14 =>
    kInt .i64 v14 fun n15 =>
    onSome (F27 [.pointer x1, .agg ((range cs5 a4.off 6).toArray), .int .i64 n15] H) fun r16 =>
    some (.tuple #[], r16.2)))
    else none)
    | false => (some (.tuple #[], H))) := by kernel_rfl
theorem c41_15 (m : Nat) (x0 : Option Addr) (x1 : Option Addr) (x2 : Int) (x3 : Option Addr) (x4 : Int) (H : Heap) : R41 (m + 1) td41_15 [.pointer x0, .pointer x1, .int .i64 x2, .pointer x3, .int .i64 x4] H =
    (match (x4 == (3 : Int)) with
    | true => (onSome x0 fun a5 =>
    ldc H a5.block fun cs6 =>
    onSome cs6[(a5.off + 6)]? fun v7 =>
    kInt .i64 v7 fun n8 =>
    onSome x1 fun a9 =>
    ldc H a9.block fun cs10 =>
    onSome cs10[(a9.off + 1)]? fun v11 =>
    kInt .i64 v11 fun n12 =>
    onSome (F23 [.int .i64 n12, .int .i64 (4 : Int)] H) fun r13 =>
    kInt .i64 r13.1 fun n14 =>
    unt H r13.2 a5.block (
    onSome x0 fun a15 =>
    st 1 r13.2 (⟨a15.block, a15.off + 6, none⟩ : Addr) (.int .i64 (IntKind.i64.wrap (n8 + (IntKind.i64.wrap ((1 : Int) + n14))))) fun _ H16 =>
    some (.tuple #[], H16)))
    | false => ((match (x4 == (4 : Int)) with
    | true => (onSome x0 fun a17 =>
    ldc H a17.block fun cs18 =>
    onSome cs18[(a17.off + 6)]? fun v19 =>
    kInt .i64 v19 fun n20 =>
    onSome (F68 [.pointer x3, .int .i64 n20] H) fun r21 =>
    kBool r21.1 fun b22 =>
    onSome x0 fun a23 =>
    ldc r21.2 a23.block fun cs24 =>
    onSome cs24[(a23.off + 6)]? fun v25 =>
    kInt .i64 v25 fun n26 =>
    onSome (F54 [.pointer x3, .int .i64 n26] r21.2) fun r27 =>
    kInt .i64 r27.1 fun n28 =>
    some (.tuple #[], r27.2))
    | false => ((match (x4 == (5 : Int)) with
    | true => (onSome x0 fun a29 =>
    ldc H a29.block fun cs30 =>
    onSome cs30[(a29.off + 6)]? fun v31 =>
    kInt .i64 v31 fun n32 =>
    onSome (F28 [.pointer x3, .int .i64 n32] H) fun r33 =>
    kBool r33.1 fun b34 =>
    (match b34 with
    | true => (onSome x0 fun a35 =>
    if 0 ≤ (IntKind.i64.wrap ((1 : Int) - x2)) ∧ (IntKind.i64.wrap ((1 : Int) - x2)) < (2 : Nat) then
    ldc r33.2 ((a35.add ((IntKind.i64.wrap ((1 : Int) - x2)).toNat * 1)).block) fun cs36 =>
    onSome cs36[(a35.add ((IntKind.i64.wrap ((1 : Int) - x2)).toNat * 1)).off]? fun v37 =>
    kPtr v37 fun p38 =>
    onSome (F66 [.pointer p38] r33.2) fun r39 =>
    onSome x0 fun a40 =>
    ldc r39.2 a40.block fun cs41 =>
    onSome cs41[(a40.off + 6)]? fun v42 =>
    kInt .i64 v42 fun n43 =>
    onSome (F29 [.pointer x3, .int .i64 n43] r39.2) fun r44 =>
    kInt .i64 r44.1 fun n45 =>
    some (.tuple #[], r44.2)
    else none)
    | false => (R41 m td41_23 [.pointer x0, .int .i64 x2, .pointer x3, .int .i64 x4] r33.2)))
    | false => (R41 m td41_23 [.pointer x0, .int .i64 x2, .pointer x3, .int .i64 x4] H)))))) := by kernel_rfl
theorem c41_23 (m : Nat) (x0 : Option Addr) (x1 : Int) (x2 : Option Addr) (x3 : Int) (H : Heap) : R41 (m + 1) td41_23 [.pointer x0, .int .i64 x1, .pointer x2, .int .i64 x3] H =
    (match (x3 == (6 : Int)) with
    | true => (onSome (F70 [.pointer x2] H) fun r4 =>
    some (.tuple #[], r4.2))
    | false => ((match (x3 == (7 : Int)) with
    | true => (onSome x0 fun a5 =>
    if 0 ≤ x1 ∧ x1 < (2 : Nat) then
    ldc H (((⟨a5.block, a5.off + 4, none⟩ : Addr).add (x1.toNat * 1)).block) fun cs6 =>
    onSome cs6[((⟨a5.block, a5.off + 4, none⟩ : Addr).add (x1.toNat * 1)).off]? fun v7 =>
    kInt .i64 v7 fun n8 =>
    onSome x0 fun a9 =>
    if 0 ≤ x1 ∧ x1 < (2 : Nat) then
    st 1 H ((⟨a9.block, a9.off + 4, none⟩ : Addr).add (x1.toNat * 1)) (.int .i64 (IntKind.i64.wrap (n8 + (1 : Int)))) fun _ H10 =>
    onSome x0 fun a11 =>
    if 0 ≤ x1 ∧ x1 < (2 : Nat) then
    ldc H10 (((⟨a11.block, a11.off + 4, none⟩ : Addr).add (x1.toNat * 1)).block) fun cs12 =>
    onSome cs12[((⟨a11.block, a11.off + 4, none⟩ : Addr).add (x1.toNat * 1)).off]? fun v13 =>
    kInt .i64 v13 fun n14 =>
    onSome x0 fun a15 =>
    ldc H10 a15.block fun cs16 =>
    onSome cs16[(a15.off + 6)]? fun v17 =>
    kInt .i64 v17 fun n18 =>
    onSome (F26 [.pointer x2, .int .i64 n14, .int .i64 n18] H10) fun r19 =>
    kInt .i64 r19.1 fun n20 =>
    some (.tuple #[], r19.2)
    else none
    else none
    else none)
    | false => (some (.tuple #[], H))))) := by kernel_rfl
-- sternpost/sternpostlaw26.RoleOne
noncomputable def G8 : Fs := Fs.ext G41 41 F41
theorem A8 : AllSound Try.prog G8 := AllSound.ext A41 S41
noncomputable def cuts8 : Cuts := [(100003, [0, 3, 17]), (100015, [0, 3, 7]), (100019, [0, 3, 7, 8, 79]), (100027, [0, 3, 7, 8, 117]), (31, []), (32, [0, 3, 7, 8, 117]), (26, [0, 3, 7, 8]), (33, []), (7, []), (11, [])]
noncomputable def td8_100003 : List Item := todoOf Try.f8 100003
noncomputable def td8_100015 : List Item := todoOf Try.f8 100015
noncomputable def td8_100019 : List Item := todoOf Try.f8 100019
noncomputable def td8_100027 : List Item := todoOf Try.f8 100027
noncomputable def td8_31 : List Item := todoOf Try.f8 31
noncomputable def td8_32 : List Item := todoOf Try.f8 32
noncomputable def td8_26 : List Item := todoOf Try.f8 26
noncomputable def td8_33 : List Item := todoOf Try.f8 33
noncomputable def td8_7 : List Item := todoOf Try.f8 7
noncomputable def td8_11 : List Item := todoOf Try.f8 11
noncomputable def F8 : List Value → Heap → R := FN Try.prog G8 Try.f8 cuts8
theorem S8 : Sound Try.prog 8 F8 := FN_sound A8 Try.func8 (by kernel_rfl) (by kernel_rfl)
noncomputable abbrev R8 (m : Nat) : List Item → List Value → Heap → R := run Try.prog G8 Try.f8 cuts8 m
theorem t8 (m : Nat) (a0 : Option Addr) (l1 : Nat) (c2 : Nat) (H : Heap) : fnE Try.prog G8 Try.f8 cuts8 m [.slice a0 l1 c2] H =
    let H3 := H ++ [.cells [.pointer none, .pointer none, .slice none 0 0, .slice none 0 0, .int .i64 (0 : Int), .int .i64 (0 : Int), .int .i64 (0 : Int)] 0 true]
    R8 m td8_100003 [.slice a0 l1 c2, .pointer (some (⟨H.length, 0, none⟩ : Addr)), .int .i64 (0 : Int)] H3 := by kernel_rfl
theorem c8_7 (m : Nat)  (H : Heap) : R8 (m + 1) td8_7 [] H =
    some (.bool false, H) := by kernel_rfl
theorem c8_11 (m : Nat)  (H : Heap) : R8 (m + 1) td8_11 [] H =
    some (.bool false, H) := by kernel_rfl
theorem c8_26 (m : Nat) (a0 : Option Addr) (l1 : Nat) (c2 : Nat) (x3 : Option Addr) (x4 : Int) (x5 : Option Addr) (H : Heap) : R8 (m + 1) td8_26 [.slice a0 l1 c2, .pointer x3, .int .i64 x4, .pointer x5] H =
    R8 m td8_100027 [.slice a0 l1 c2, .pointer x3, .int .i64 x4, .pointer x5, .int .i64 (0 : Int)] H := by kernel_rfl
theorem c8_31 (m : Nat)  (H : Heap) : R8 (m + 1) td8_31 [] H =
    some (.bool false, H) := by kernel_rfl
theorem c8_32 (m : Nat) (a0 : Option Addr) (l1 : Nat) (c2 : Nat) (x3 : Option Addr) (x4 : Int) (x5 : Option Addr) (x6 : Int) (H : Heap) : R8 (m + 1) td8_32 [.slice a0 l1 c2, .pointer x3, .int .i64 x4, .pointer x5, .int .i64 x6] H =
    R8 m td8_100027 [.slice a0 l1 c2, .pointer x3, .int .i64 x4, .pointer x5, .int .i64 (IntKind.i64.wrap (x6 + (1 : Int)))] H := by kernel_rfl
theorem c8_33 (m : Nat)  (H : Heap) : R8 (m + 1) td8_33 [] H =
    some (.bool true, H) := by kernel_rfl
theorem c8_100003 (m : Nat) (a0 : Option Addr) (l1 : Nat) (c2 : Nat) (x3 : Option Addr) (x4 : Int) (H : Heap) : R8 (m + 1) td8_100003 [.slice a0 l1 c2, .pointer x3, .int .i64 x4] H =
    (match (decide (x4 < (2 : Int))) with
    | true => (onSome (F24 [.int .i64 x4, .int .i64 (6 : Int)] H) fun r5 =>
    kTup r5.1 fun vs6 =>
    onSome vs6[0]? fun v7 =>
    kPtr v7 fun p8 =>
    kTup r5.1 fun vs9 =>
    onSome vs9[1]? fun v10 =>
    kInt .i64 v10 fun n11 =>
    (match p8.isNone with
    | true => (R8 m td8_7 [] r5.2)
    | false => ((match (n11 != (0 : Int)) with
    | true => (R8 m td8_7 [] r5.2)
    | false => (onSome x3 fun a12 =>
    if 0 ≤ x4 ∧ x4 < (2 : Nat) then
    st 1 r5.2 (a12.add (x4.toNat * 1)) (.pointer p8) fun _ H13 =>
    R8 m td8_100003 [.slice a0 l1 c2, .pointer x3, .int .i64 (IntKind.i64.wrap (x4 + (1 : Int)))] H13
    else none)))))
    | false => (onSome (F25 [] H) fun r14 =>
    kBool r14.1 fun b15 =>
    (match (!b15) with
    | true => (R8 m td8_11 [] r14.2)
    | false => (onSome x3 fun a16 =>
    if 0 ≤ (0 : Int) ∧ (0 : Int) < (2 : Nat) then
    ldc r14.2 ((a16.add ((0 : Int).toNat * 1)).block) fun cs17 =>
    onSome cs17[(a16.add ((0 : Int).toNat * 1)).off]? fun v18 =>
    kPtr v18 fun p19 =>
    onSome (F40 [.pointer p19, .int .i64 (0 : Int)] r14.2) fun r20 =>
    kInt .i64 r20.1 fun n21 =>
    (match (n21 != (0 : Int)) with
    | true => (R8 m td8_11 [] r20.2)
    | false => (onSome x3 fun a22 =>
    if 0 ≤ (1 : Int) ∧ (1 : Int) < (2 : Nat) then
    ldc r20.2 (((⟨a22.block, a22.off + 4, none⟩ : Addr).add ((1 : Int).toNat * 1)).block) fun cs23 =>
    onSome cs23[((⟨a22.block, a22.off + 4, none⟩ : Addr).add ((1 : Int).toNat * 1)).off]? fun v24 =>
    kInt .i64 v24 fun n25 =>
    onSome x3 fun a26 =>
    if 0 ≤ (1 : Int) ∧ (1 : Int) < (2 : Nat) then
    st 1 r20.2 ((⟨a26.block, a26.off + 4, none⟩ : Addr).add ((1 : Int).toNat * 1)) (.int .i64 (IntKind.i64.wrap (n25 + (1 : Int)))) fun _ H27 =>
    onSome x3 fun a28 =>
    if 0 ≤ (1 : Int) ∧ (1 : Int) < (2 : Nat) then
    ldc H27 ((a28.add ((1 : Int).toNat * 1)).block) fun cs29 =>
    onSome cs29[(a28.add ((1 : Int).toNat * 1)).off]? fun v30 =>
    kPtr v30 fun p31 =>
    onSome x3 fun a32 =>
    if 0 ≤ (1 : Int) ∧ (1 : Int) < (2 : Nat) then
    ldc H27 (((⟨a32.block, a32.off + 4, none⟩ : Addr).add ((1 : Int).toNat * 1)).block) fun cs33 =>
    onSome cs33[((⟨a32.block, a32.off + 4, none⟩ : Addr).add ((1 : Int).toNat * 1)).off]? fun v34 =>
    kInt .i64 v34 fun n35 =>
    onSome (F26 [.pointer p31, .int .i64 n35, .int .i64 (0 : Int)] H27) fun r36 =>
    kInt .i64 r36.1 fun n37 =>
    R8 m td8_100015 [.slice a0 l1 c2, .pointer x3, .int .i64 (0 : Int)] r36.2
    else none
    else none
    else none
    else none))
    else none)))) := by kernel_rfl
theorem c8_100015 (m : Nat) (a0 : Option Addr) (l1 : Nat) (c2 : Nat) (x3 : Option Addr) (x4 : Int) (H : Heap) : R8 (m + 1) td8_100015 [.slice a0 l1 c2, .pointer x3, .int .i64 x4] H =
    (match (decide (x4 < ((l1 : Nat) : Int))) with
    | true => ((match (decide (x4 < (120 : Int))) with
    | true => (let H5 := H ++ [.cells [.int .i64 (0 : Int), .int .i64 (0 : Int)] 0 true]
    R8 m td8_100019 [.slice a0 l1 c2, .pointer x3, .int .i64 x4, .pointer (some (⟨H.length, 0, none⟩ : Addr)), .int .i64 (0 : Int)] H5)
    | false => (R8 m td8_33 [] H)))
    | false => (R8 m td8_33 [] H)) := by kernel_rfl
theorem c8_100019 (m : Nat) (a0 : Option Addr) (l1 : Nat) (c2 : Nat) (x3 : Option Addr) (x4 : Int) (x5 : Option Addr) (x6 : Int) (H : Heap) : R8 (m + 1) td8_100019 [.slice a0 l1 c2, .pointer x3, .int .i64 x4, .pointer x5, .int .i64 x6] H =
    (match (decide (x6 < (2 : Int))) with
    | true => (onSome x3 fun a7 =>
    if 0 ≤ x6 ∧ x6 < (2 : Nat) then
    ldc H ((a7.add (x6.toNat * 1)).block) fun cs8 =>
    onSome cs8[(a7.add (x6.toNat * 1)).off]? fun v9 =>
    kPtr v9 fun p10 =>
    onSome (F30 [.pointer p10] H) fun r11 =>
    kTup r11.1 fun vs12 =>
    onSome vs12[0]? fun v13 =>
    kInt .i64 v13 fun n14 =>
    kTup r11.1 fun vs15 =>
    onSome vs15[1]? fun v16 =>
    kInt .i64 v16 fun n17 =>
    kTup r11.1 fun vs18 =>
    onSome vs18[2]? fun v19 =>
    kInt .i64 v19 fun n20 =>
    kTup r11.1 fun vs21 =>
    onSome vs21[3]? fun v22 =>
    kInt .i64 v22 fun n23 =>
    onSome x5 fun a24 =>
    if 0 ≤ x6 ∧ x6 < (2 : Nat) then
    st 1 r11.2 (a24.add (x6.toNat * 1)) (.int .i64 n17) fun _ H25 =>
    R8 m td8_100019 [.slice a0 l1 c2, .pointer x3, .int .i64 x4, .pointer x5, .int .i64 (IntKind.i64.wrap (x6 + (1 : Int)))] H25
    else none
    else none)
    | false => (onSome a0 fun a26 =>
    if 0 ≤ x4 ∧ x4 < (l1 : Nat) then
    ldc H ((a26.add (x4.toNat * 3)).block) fun cs27 =>
    if (a26.add (x4.toNat * 3)).off + 3 ≤ cs27.length then
    onSome (F41 [.pointer x3, .agg ((range cs27 ((a26.add (x4.toNat * 3)).off) 3).toArray)] H) fun r28 =>
    onSome x3 fun a29 =>
    if 0 ≤ (0 : Int) ∧ (0 : Int) < (2 : Nat) then
    ldc r28.2 ((a29.add ((0 : Int).toNat * 1)).block) fun cs30 =>
    onSome cs30[(a29.add ((0 : Int).toNat * 1)).off]? fun v31 =>
    kPtr v31 fun p32 =>
    onSome (F31 [.pointer p32] r28.2) fun r33 =>
    kBool r33.1 fun b34 =>
    (match b34 with
    | true => (onSome x3 fun a35 =>
    if 0 ≤ (1 : Int) ∧ (1 : Int) < (2 : Nat) then
    ldc r33.2 ((a35.add ((1 : Int).toNat * 1)).block) fun cs36 =>
    onSome cs36[(a35.add ((1 : Int).toNat * 1)).off]? fun v37 =>
    kPtr v37 fun p38 =>
    onSome (F31 [.pointer p38] r33.2) fun r39 =>
    kBool r39.1 fun b40 =>
    (match b40 with
    | true => (some (.bool false, r39.2))
    | false => (R8 m td8_26 [.slice a0 l1 c2, .pointer x3, .int .i64 x4, .pointer x5] r39.2))
    else none)
    | false => (R8 m td8_26 [.slice a0 l1 c2, .pointer x3, .int .i64 x4, .pointer x5] r33.2))
    else none
    else none
    else none)) := by kernel_rfl
theorem c8_100027 (m : Nat) (a0 : Option Addr) (l1 : Nat) (c2 : Nat) (x3 : Option Addr) (x4 : Int) (x5 : Option Addr) (x6 : Int) (H : Heap) : R8 (m + 1) td8_100027 [.slice a0 l1 c2, .pointer x3, .int .i64 x4, .pointer x5, .int .i64 x6] H =
    (match (decide (x6 < (2 : Int))) with
    | true => (onSome x3 fun a7 =>
    if 0 ≤ x6 ∧ x6 < (2 : Nat) then
    ldc H ((a7.add (x6.toNat * 1)).block) fun cs8 =>
    onSome cs8[(a7.add (x6.toNat * 1)).off]? fun v9 =>
    kPtr v9 fun p10 =>
    onSome (F30 [.pointer p10] H) fun r11 =>
    kTup r11.1 fun vs12 =>
    onSome vs12[0]? fun v13 =>
    kInt .i64 v13 fun n14 =>
    kTup r11.1 fun vs15 =>
    onSome vs15[1]? fun v16 =>
    kInt .i64 v16 fun n17 =>
    kTup r11.1 fun vs18 =>
    onSome vs18[2]? fun v19 =>
    kInt .i64 v19 fun n20 =>
    kTup r11.1 fun vs21 =>
    onSome vs21[3]? fun v22 =>
    kInt .i64 v22 fun n23 =>
    onSome x3 fun a24 =>
    if 0 ≤ x6 ∧ x6 < (2 : Nat) then
    ldc r11.2 ((a24.add (x6.toNat * 1)).block) fun cs25 =>
    onSome cs25[(a24.add (x6.toNat * 1)).off]? fun v26 =>
    kPtr v26 fun p27 =>
    onSome (F31 [.pointer p27] r11.2) fun r28 =>
    kBool r28.1 fun b29 =>
    (match (n14 == (3 : Int)) with
    | true => ((match (!(b29 == true)) with
    | true => (R8 m td8_31 [] r28.2)
    | false => (onSome x5 fun a30 =>
    if 0 ≤ x6 ∧ x6 < (2 : Nat) then
    ldc r28.2 ((a30.add (x6.toNat * 1)).block) fun cs31 =>
    onSome cs31[(a30.add (x6.toNat * 1)).off]? fun v32 =>
    kInt .i64 v32 fun n33 =>
    (match (decide (n17 < n33)) with
    | true => ((match (n14 != (0 : Int)) with
    | true => ((match (n14 != (1 : Int)) with
    | true => (R8 m td8_31 [] r28.2)
    | false => (R8 m td8_32 [.slice a0 l1 c2, .pointer x3, .int .i64 x4, .pointer x5, .int .i64 x6] r28.2)))
    | false => (R8 m td8_32 [.slice a0 l1 c2, .pointer x3, .int .i64 x4, .pointer x5, .int .i64 x6] r28.2)))
    | false => (R8 m td8_32 [.slice a0 l1 c2, .pointer x3, .int .i64 x4, .pointer x5, .int .i64 x6] r28.2))
    else none)))
    | false => ((match (!(b29 == (n14 == (4 : Int)))) with
    | true => (R8 m td8_31 [] r28.2)
    | false => (onSome x5 fun a34 =>
    if 0 ≤ x6 ∧ x6 < (2 : Nat) then
    ldc r28.2 ((a34.add (x6.toNat * 1)).block) fun cs35 =>
    onSome cs35[(a34.add (x6.toNat * 1)).off]? fun v36 =>
    kInt .i64 v36 fun n37 =>
    (match (decide (n17 < n37)) with
    | true => ((match (n14 != (0 : Int)) with
    | true => ((match (n14 != (1 : Int)) with
    | true => (R8 m td8_31 [] r28.2)
    | false => (R8 m td8_32 [.slice a0 l1 c2, .pointer x3, .int .i64 x4, .pointer x5, .int .i64 x6] r28.2)))
    | false => (R8 m td8_32 [.slice a0 l1 c2, .pointer x3, .int .i64 x4, .pointer x5, .int .i64 x6] r28.2)))
    | false => (R8 m td8_32 [.slice a0 l1 c2, .pointer x3, .int .i64 x4, .pointer x5, .int .i64 x6] r28.2))
    else none))))
    else none
    else none)
    | false => (R8 m td8_100015 [.slice a0 l1 c2, .pointer x3, .int .i64 (IntKind.i64.wrap (x4 + (1 : Int)))] H)) := by kernel_rfl
end Go.Proofs.Yticchkdbanhjfaa
