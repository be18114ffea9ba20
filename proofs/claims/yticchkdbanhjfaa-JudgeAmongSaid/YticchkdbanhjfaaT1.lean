/- PRINTED by a program of the session (Pr.lean): what functions of the program come to on the abstract heap, each checked by the kernel. Conditions: none. -/
import Derived.Test.YticchkdbanhjfaaFwN
import Derived.Test.YticchkdbanhjfaaProg
set_option linter.unusedVariables false
namespace Go.Proofs.Yticchkdbanhjfaa
open Go Go.Proofs.Yticchkdbanhjfaa.Fw Go.RowKit
-- slices.Index[[]string,string]
def G46 : Fs := Fs.none
theorem A46 : AllSound Try.prog G46 := AllSound.none
noncomputable def cuts46 : Cuts := [(100002, [0, 1, 7, 8])]
noncomputable def td46_100002 : List Item := todoOf Try.f46 100002
noncomputable def F46 : List Value → Heap → R := FN Try.prog G46 Try.f46 cuts46
theorem S46 : Sound Try.prog 46 F46 := FN_sound A46 Try.func46 (by kernel_rfl) (by kernel_rfl)
noncomputable abbrev R46 (m : Nat) : List Item → List Value → Heap → R := run Try.prog G46 Try.f46 cuts46 m
theorem t46 (m : Nat) (a0 : Option Addr) (l1 : Nat) (c2 : Nat) (x3 : ByteArray) (H : Heap) : fnE Try.prog G46 Try.f46 cuts46 m [.slice a0 l1 c2, .string x3] H =
    R46 m td46_100002 [.slice a0 l1 c2, .string x3, .int .i64 ((l1 : Nat) : Int), .int .i64 (0 : Int)] H := by kernel_rfl
theorem c46_100002 (m : Nat) (a0 : Option Addr) (l1 : Nat) (c2 : Nat) (x3 : ByteArray) (x4 : Int) (x5 : Int) (H : Heap) : R46 (m + 1) td46_100002 [.slice a0 l1 c2, .string x3, .int .i64 x4, .int .i64 x5] H =
    (match (decide (x5 < x4)) with
    | true => (onSome a0 fun a6 =>
    if 0 ≤ x5 ∧ x5 < (l1 : Nat) then
    ldc H ((a6.add (x5.toNat * 1)).block) fun cs7 =>
    onSome cs7[(a6.add (x5.toNat * 1)).off]? fun v8 =>
    kStr v8 fun s9 =>
    (match (x3.toList == s9.toList) with
    | true => (some (.int .i64 x5, H))
    | false => (R46 m td46_100002 [.slice a0 l1 c2, .string x3, .int .i64 x4, .int .i64 (IntKind.i64.wrap (x5 + (1 : Int)))] H))
    else none)
    | false => (some (.int .i64 (-1 : Int), H))) := by kernel_rfl
-- sternpost/judge.Among
noncomputable def G11 : Fs := Fs.ext G46 46 F46
theorem A11 : AllSound Try.prog G11 := AllSound.ext A46 S46
noncomputable def cuts11 : Cuts := [(100002, [0, 1, 9, 10, 11])]
noncomputable def td11_100002 : List Item := todoOf Try.f11 100002
noncomputable def F11 : List Value → Heap → R := FN Try.prog G11 Try.f11 cuts11
theorem S11 : Sound Try.prog 11 F11 := FN_sound A11 Try.func11 (by kernel_rfl) (by kernel_rfl)
noncomputable abbrev R11 (m : Nat) : List Item → List Value → Heap → R := run Try.prog G11 Try.f11 cuts11 m
theorem t11 (m : Nat) (a0 : Option Addr) (l1 : Nat) (c2 : Nat) (a3 : Option Addr) (l4 : Nat) (c5 : Nat) (H : Heap) : fnE Try.prog G11 Try.f11 cuts11 m [.slice a0 l1 c2, .slice a3 l4 c5] H =
    R11 m td11_100002 [.slice a0 l1 c2, .slice a3 l4 c5, .slice a0 l1 c2, .int .i64 ((l1 : Nat) : Int), .int .i64 (0 : Int)] H := by kernel_rfl
theorem c11_100002 (m : Nat) (a0 : Option Addr) (l1 : Nat) (c2 : Nat) (a3 : Option Addr) (l4 : Nat) (c5 : Nat) (a6 : Option Addr) (l7 : Nat) (c8 : Nat) (x9 : Int) (x10 : Int) (H : Heap) : R11 (m + 1) td11_100002 [.slice a0 l1 c2, .slice a3 l4 c5, .slice a6 l7 c8, .int .i64 x9, .int .i64 x10] H =
    (match (decide (x10 < x9)) with
    | true => (onSome a6 fun a11 =>
    if 0 ≤ x10 ∧ x10 < (l7 : Nat) then
    ldc H ((a11.add (x10.toNat * 1)).block) fun cs12 =>
    onSome cs12[(a11.add (x10.toNat * 1)).off]? fun v13 =>
    kStr v13 fun s14 =>
    onSome (F46 [.slice a3 l4 c5, .string s14] H) fun r15 =>
    kInt .i64 r15.1 fun n16 =>
    (match (decide (n16 < (0 : Int))) with
    | true => (some (.tuple #[.int .i64 x10, .bool false], r15.2))
    | false => (slSl r15.2 1 a3 l4 c5 (IntKind.i64.wrap (n16 + (1 : Int))) (l4 : Int) fun v17 =>
    kSl v17 fun a18 l19 c20 =>
    R11 m td11_100002 [.slice a0 l1 c2, .slice a18 l19 c20, .slice a6 l7 c8, .int .i64 x9, .int .i64 (IntKind.i64.wrap (x10 + (1 : Int)))] r15.2))
    else none)
    | false => (some (.tuple #[.int .i64 ((l1 : Nat) : Int), .bool true], H))) := by kernel_rfl
-- sternpost/sternpostlaw29.works
noncomputable def G10 : Fs := Fs.ext G11 11 F11
theorem A10 : AllSound Try.prog G10 := AllSound.ext A11 S11
noncomputable def cuts10 : Cuts := []
noncomputable def F10 : List Value → Heap → R := FN Try.prog G10 Try.f10 cuts10
theorem S10 : Sound Try.prog 10 F10 := FN_sound A10 Try.func10 (by kernel_rfl) (by kernel_rfl)
noncomputable abbrev R10 (m : Nat) : List Item → List Value → Heap → R := run Try.prog G10 Try.f10 cuts10 m
theorem t10 (m : Nat)  (H : Heap) : fnE Try.prog G10 Try.f10 cuts10 m [] H =
    let H0 := H ++ [.cells [.string (⟨#[97]⟩ : ByteArray), .string (⟨#[99]⟩ : ByteArray)] 1 true]
    let H1 := H0 ++ [.cells [.string (⟨#[97]⟩ : ByteArray), .string (⟨#[98]⟩ : ByteArray), .string (⟨#[99]⟩ : ByteArray)] 1 true]
    onSome (F11 [.slice (some ⟨H.length, 0, none⟩) 2 2, .slice (some ⟨H0.length, 0, none⟩) 3 3] H1) fun r2 =>
    kTup r2.1 fun vs3 =>
    onSome vs3[0]? fun v4 =>
    kInt .i64 v4 fun n5 =>
    kTup r2.1 fun vs6 =>
    onSome vs6[1]? fun v7 =>
    kBool v7 fun b8 =>
    let H9 := r2.2 ++ [.cells [.string (⟨#[99]⟩ : ByteArray), .string (⟨#[97]⟩ : ByteArray)] 1 true]
    let H10 := H9 ++ [.cells [.string (⟨#[97]⟩ : ByteArray), .string (⟨#[98]⟩ : ByteArray), .string (⟨#[99]⟩ : ByteArray)] 1 true]
    onSome (F11 [.slice (some ⟨r2.2.length, 0, none⟩) 2 2, .slice (some ⟨H9.length, 0, none⟩) 3 3] H10) fun r11 =>
    kTup r11.1 fun vs12 =>
    onSome vs12[0]? fun v13 =>
    kInt .i64 v13 fun n14 =>
    kTup r11.1 fun vs15 =>
    onSome vs15[1]? fun v16 =>
    kBool v16 fun b17 =>
    (match (n5 == (2 : Int)) with
    | true => ((match b8 with
    | true => ((match (n14 == (1 : Int)) with
    | true => (some (.bool (!b17), r11.2))
    | false => (some (.bool false, r11.2))))
    | false => (some (.bool false, r11.2))))
    | false => (some (.bool false, r11.2))) := by kernel_rfl
-- sternpost/sternpostlaw29.JudgeSome
noncomputable def G3 : Fs := Fs.ext G10 10 F10
theorem A3 : AllSound Try.prog G3 := AllSound.ext A10 S10
noncomputable def cuts3 : Cuts := [(100006, [0, 1, 5, 6, 14, 15, 16])]
noncomputable def td3_100006 : List Item := todoOf Try.f3 100006
noncomputable def F3 : List Value → Heap → R := FN Try.prog G3 Try.f3 cuts3
theorem S3 : Sound Try.prog 3 F3 := FN_sound A3 Try.func3 (by kernel_rfl) (by kernel_rfl)
noncomputable abbrev R3 (m : Nat) : List Item → List Value → Heap → R := run Try.prog G3 Try.f3 cuts3 m
theorem t3 (m : Nat) (a0 : Option Addr) (l1 : Nat) (c2 : Nat) (a3 : Option Addr) (l4 : Nat) (c5 : Nat) (H : Heap) : fnE Try.prog G3 Try.f3 cuts3 m [.slice a0 l1 c2, .slice a3 l4 c5] H =
    onSome (F10 [] H) fun r6 =>
    kBool r6.1 fun b7 =>
    (match (!b7) with
    | true => (some (.bool false, r6.2))
    | false => (R3 m td3_100006 [.slice a0 l1 c2, .slice a3 l4 c5, .slice none 0 0, .int .i64 (0 : Int), .slice a0 l1 c2, .int .i64 ((l1 : Nat) : Int), .int .i64 (0 : Int)] r6.2)) := by kernel_rfl
theorem c3_100006 (m : Nat) (a0 : Option Addr) (l1 : Nat) (c2 : Nat) (a3 : Option Addr) (l4 : Nat) (c5 : Nat) (a6 : Option Addr) (l7 : Nat) (c8 : Nat) (x9 : Int) (a10 : Option Addr) (l11 : Nat) (c12 : Nat) (x13 : Int) (x14 : Int) (H : Heap) : R3 (m + 1) td3_100006 [.slice a0 l1 c2, .slice a3 l4 c5, .slice a6 l7 c8, .int .i64 x9, .slice a10 l11 c12, .int .i64 x13, .int .i64 x14] H =
    (match (decide (x14 < x13)) with
    | true => (onSome a10 fun a15 =>
    if 0 ≤ x14 ∧ x14 < (l11 : Nat) then
    ldc H ((a15.add (x14.toNat * 1)).block) fun cs16 =>
    onSome cs16[(a15.add (x14.toNat * 1)).off]? fun v17 =>
    kStr v17 fun s18 =>
    (match (decide (((l4 : Nat) : Int) ≤ x14)) with
    | true => (let H19 := H ++ [.cells [.string s18] 1 true]
    firstC H19 1 (.slice (some ⟨H.length, 0, none⟩) 1 1) fun n20 nw21 =>
    app Try.prog 9 H19 (.slice a6 l7 c8) n20 nw21 fun v22 H23 =>
    kSl v22 fun a24 l25 c26 =>
    R3 m td3_100006 [.slice a0 l1 c2, .slice a3 l4 c5, .slice a24 l25 c26, .int .i64 (mxi x9 (s18.size : Int)), .slice a10 l11 c12, .int .i64 x13, .int .i64 (IntKind.i64.wrap (x14 + (1 : Int)))] H23)
    | false => (onSome a3 fun a27 =>
    if 0 ≤ x14 ∧ x14 < (l4 : Nat) then
    ldc H ((a27.add (x14.toNat * 1)).block) fun cs28 =>
    onSome cs28[(a27.add (x14.toNat * 1)).off]? fun v29 =>
    kBool v29 fun b30 =>
    (match (!b30) with
    | true => (let H31 := H ++ [.cells [.string s18] 1 true]
    firstC H31 1 (.slice (some ⟨H.length, 0, none⟩) 1 1) fun n32 nw33 =>
    app Try.prog 9 H31 (.slice a6 l7 c8) n32 nw33 fun v34 H35 =>
    kSl v34 fun a36 l37 c38 =>
    R3 m td3_100006 [.slice a0 l1 c2, .slice a3 l4 c5, .slice a36 l37 c38, .int .i64 (mxi x9 (s18.size : Int)), .slice a10 l11 c12, .int .i64 x13, .int .i64 (IntKind.i64.wrap (x14 + (1 : Int)))] H35)
    | false => (R3 m td3_100006 [.slice a0 l1 c2, .slice a3 l4 c5, .slice a6 l7 c8, .int .i64 (mxi x9 (s18.size : Int)), .slice a10 l11 c12, .int .i64 x13, .int .i64 (IntKind.i64.wrap (x14 + (1 : Int)))] H))
    else none))
    else none)
    | false => (onSome (F11 [.slice a6 l7 c8, .slice a0 l1 c2] H) fun r39 =>
    kTup r39.1 fun vs40 =>
    onSome vs40[0]? fun v41 =>
    kInt .i64 v41 fun n42 =>
    kTup r39.1 fun vs43 =>
    onSome vs43[1]? fun v44 =>
    kBool v44 fun b45 =>
    (match (!b45) with
    | true => ((match b45 with
    | true => (some (.bool (n42 == ((l7 : Nat) : Int)), r39.2))
    | false => (some (.bool false, r39.2))))
    | false => ((match (n42 != ((l7 : Nat) : Int)) with
    | true => ((match b45 with
    | true => (some (.bool (n42 == ((l7 : Nat) : Int)), r39.2))
    | false => (some (.bool false, r39.2))))
    | false => ((match (decide ((100 : Int) < x9)) with
    | true => ((match b45 with
    | true => (some (.bool (n42 == ((l7 : Nat) : Int)), r39.2))
    | false => (some (.bool false, r39.2))))
    | false => (if 0 ≤ (IntKind.i64.wrap (x9 + (1 : Int))) ∧ (IntKind.i64.wrap (x9 + (1 : Int))) ≤ (IntKind.i64.wrap (x9 + (1 : Int))) ∧ 1 * (IntKind.i64.wrap (x9 + (1 : Int))) ≤ 140737488351232 ∧ (IntKind.i64.wrap (x9 + (1 : Int))) ≤ 140737488351232 then
    let H46 := r39.2 ++ [.cells (zeroCellsOf (.int .u8 (0 : Int)) (IntKind.i64.wrap (x9 + (1 : Int))).toNat) 1 true]
    ldc H46 r39.2.length fun cs47 =>
    if 0 + (IntKind.i64.wrap (x9 + (1 : Int))).toNat ≤ cs47.length then
    onSome (bytesOf (range cs47 0 ((IntKind.i64.wrap (x9 + (1 : Int))).toNat))) fun l48 =>
    let H49 := H46 ++ [.cells [.string (⟨l48.toArray⟩ : ByteArray)] 1 true]
    firstC H49 1 (.slice (some ⟨H46.length, 0, none⟩) 1 1) fun n50 nw51 =>
    app Try.prog 9 H49 (.slice a6 l7 c8) n50 nw51 fun v52 H53 =>
    kSl v52 fun a54 l55 c56 =>
    onSome (F11 [.slice a54 l55 c56, .slice a0 l1 c2] H53) fun r57 =>
    kTup r57.1 fun vs58 =>
    onSome vs58[0]? fun v59 =>
    kInt .i64 v59 fun n60 =>
    kTup r57.1 fun vs61 =>
    onSome vs61[1]? fun v62 =>
    kBool v62 fun b63 =>
    (match (!b63) with
    | true => (some (.bool (n60 == ((l7 : Nat) : Int)), r57.2))
    | false => (some (.bool false, r57.2)))
    else none
    else none)))))))) := by kernel_rfl
end Go.Proofs.Yticchkdbanhjfaa
