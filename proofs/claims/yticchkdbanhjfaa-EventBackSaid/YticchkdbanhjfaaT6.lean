/- PRINTED by a program of the session (Pr.lean): what functions of the program come to on the abstract heap, each checked by the kernel. Conditions: none. -/
import Derived.Test.YticchkdbanhjfaaFwN
import Derived.Test.YticchkdbanhjfaaProg
set_option linter.unusedVariables false
namespace Go.Proofs.Yticchkdbanhjfaa
open Go Go.Proofs.Yticchkdbanhjfaa.Fw Go.RowKit
-- sternpost/event.New
def G12 : Fs := Fs.none
theorem A12 : AllSound Try.prog G12 := AllSound.none
noncomputable def cuts12 : Cuts := []
noncomputable def F12 : List Value → Heap → R := FN Try.prog G12 Try.f12 cuts12
theorem S12 : Sound Try.prog 12 F12 := FN_sound A12 Try.func12 (by kernel_rfl) (by kernel_rfl)
noncomputable abbrev R12 (m : Nat) : List Item → List Value → Heap → R := run Try.prog G12 Try.f12 cuts12 m
theorem t12 (m : Nat)  (H : Heap) : fnE Try.prog G12 Try.f12 cuts12 m [] H =
    let H0 := H ++ [.cells [.slice none 0 0] 0 true]
    some (.pointer (some (⟨H.length, 0, none⟩ : Addr)), H0) := by kernel_rfl
-- sternpost/event.Check
noncomputable def G47 : Fs := Fs.ext G12 12 F12
theorem A47 : AllSound Try.prog G47 := AllSound.ext A12 S12
noncomputable def cuts47 : Cuts := [(5, []), (6, []), (4, [1]), (2, [])]
noncomputable def td47_5 : List Item := todoOf Try.f47 5
noncomputable def td47_6 : List Item := todoOf Try.f47 6
noncomputable def td47_4 : List Item := todoOf Try.f47 4
noncomputable def td47_2 : List Item := todoOf Try.f47 2
noncomputable def F47 : List Value → Heap → R := FN Try.prog G47 Try.f47 cuts47
theorem S47 : Sound Try.prog 47 F47 := FN_sound A47 Try.func47 (by kernel_rfl) (by kernel_rfl)
noncomputable abbrev R47 (m : Nat) : List Item → List Value → Heap → R := run Try.prog G47 Try.f47 cuts47 m
theorem t47 (m : Nat) (x0 : Int) (x1 : Int) (x2 : ByteArray) (H : Heap) : fnE Try.prog G47 Try.f47 cuts47 m [.agg #[.int .i64 x0, .int .i64 x1, .string x2]] H =
    let H3 := H ++ [.cells [.int .i64 x0, .int .i64 x1, .string x2] 0 true]
    ldc H3 H.length fun cs4 =>
    onSome cs4[(0 + 1)]? fun v5 =>
    kInt .i64 v5 fun n6 =>
    (match (decide (n6 < (0 : Int))) with
    | true => (R47 m td47_2 [] H3)
    | false => (ldc H3 H.length fun cs7 =>
    onSome cs7[(0 + 1)]? fun v8 =>
    kInt .i64 v8 fun n9 =>
    (match (decide ((1099511627776 : Int) < n9)) with
    | true => (R47 m td47_2 [] H3)
    | false => (ldc H3 H.length fun cs10 =>
    onSome cs10[0]? fun v11 =>
    kInt .i64 v11 fun n12 =>
    (match (n12 == (1 : Int)) with
    | true => (ldc H3 H.length fun cs13 =>
    onSome cs13[(0 + 2)]? fun v14 =>
    kStr v14 fun s15 =>
    (match (decide ((s15.size : Int) ≤ (1514 : Int))) with
    | true => ((match (decide ((s15.size : Int) ≤ (1514 : Int))) with
    | true => (R47 m td47_5 [] H3)
    | false => (R47 m td47_6 [] H3)))
    | false => (R47 m td47_4 [.pointer (some (⟨H.length, 0, none⟩ : Addr))] H3)))
    | false => (R47 m td47_4 [.pointer (some (⟨H.length, 0, none⟩ : Addr))] H3)))))) := by kernel_rfl
theorem c47_2 (m : Nat)  (H : Heap) : R47 (m + 1) td47_2 [] H =
    some (.int .i64 (230 : Int), H) := by kernel_rfl
theorem c47_4 (m : Nat) (x0 : Option Addr) (H : Heap) : R47 (m + 1) td47_4 [.pointer x0] H =
    onSome x0 fun a1 =>
    ldc H a1.block fun cs2 =>
    onSome cs2[a1.off]? fun v3 =>
    kInt .i64 v3 fun n4 =>
    (match (n4 == (2 : Int)) with
    | true => (onSome x0 fun a5 =>
    ldc H a5.block fun cs6 =>
    onSome cs6[(a5.off + 2)]? fun v7 =>
    kStr v7 fun s8 =>
    (match (s8.toList == (⟨#[]⟩ : ByteArray).toList) with
    | true => (R47 m td47_5 [] H)
    | false => (R47 m td47_6 [] H)))
    | false => (R47 m td47_6 [] H)) := by kernel_rfl
theorem c47_5 (m : Nat)  (H : Heap) : R47 (m + 1) td47_5 [] H =
    some (.int .i64 (0 : Int), H) := by kernel_rfl
theorem c47_6 (m : Nat)  (H : Heap) : R47 (m + 1) td47_6 [] H =
    some (.int .i64 (230 : Int), H) := by kernel_rfl
-- sternpost/sum.Put
noncomputable def G74 : Fs := Fs.ext G47 47 F47
theorem A74 : AllSound Try.prog G74 := AllSound.ext A47 S47
noncomputable def cuts74 : Cuts := [(100005, [0, 1, 6, 28, 29]), (2, [])]
noncomputable def td74_100005 : List Item := todoOf Try.f74 100005
noncomputable def td74_2 : List Item := todoOf Try.f74 2
noncomputable def F74 : List Value → Heap → R := FN Try.prog G74 Try.f74 cuts74
theorem S74 : Sound Try.prog 74 F74 := FN_sound A74 Try.func74 (by kernel_rfl) (by kernel_rfl)
noncomputable abbrev R74 (m : Nat) : List Item → List Value → Heap → R := run Try.prog G74 Try.f74 cuts74 m
theorem t74 (m : Nat) (x0 : Int) (x1 : Int) (H : Heap) : fnE Try.prog G74 Try.f74 cuts74 m [.int .i64 x0, .int .i64 x1] H =
    (match (decide (x1 < (1 : Int))) with
    | true => (R74 m td74_2 [] H)
    | false => ((match (decide ((6 : Int) < x1)) with
    | true => (R74 m td74_2 [] H)
    | false => ((match (decide (x0 < (0 : Int))) with
    | true => (R74 m td74_2 [] H)
    | false => (if (IntKind.i64.wrap ((8 : Int) * x1)) < 0 then none else
    (match (decide ((0 : Int) < (x0 / 2 ^ (min (IntKind.i64.wrap ((8 : Int) * x1)).toNat IntKind.i64.bits)))) with
    | true => (R74 m td74_2 [] H)
    | false => (if 0 ≤ x1 ∧ x1 ≤ x1 ∧ 1 * x1 ≤ 140737488351232 ∧ x1 ≤ 140737488351232 then
    let H2 := H ++ [.cells (zeroCellsOf (.int .u8 (0 : Int)) x1.toNat) 1 true]
    R74 m td74_100005 [.int .i64 x0, .int .i64 x1, .slice (some ⟨H.length, 0, none⟩) x1.toNat x1.toNat, .int .i64 ((x1.toNat : Nat) : Int), .int .i64 (0 : Int)] H2
    else none)))))))) := by kernel_rfl
theorem c74_2 (m : Nat)  (H : Heap) : R74 (m + 1) td74_2 [] H =
    some (.tuple #[.string (⟨#[]⟩ : ByteArray), .int .i64 (1 : Int)], H) := by kernel_rfl
theorem c74_100005 (m : Nat) (x0 : Int) (x1 : Int) (a2 : Option Addr) (l3 : Nat) (c4 : Nat) (x5 : Int) (x6 : Int) (H : Heap) : R74 (m + 1) td74_100005 [.int .i64 x0, .int .i64 x1, .slice a2 l3 c4, .int .i64 x5, .int .i64 x6] H =
    (match (decide (x6 < x5)) with
    | true => (if (IntKind.i64.wrap ((8 : Int) * (IntKind.i64.wrap ((IntKind.i64.wrap (x1 - (1 : Int))) - x6)))) < 0 then none else
    onSome a2 fun a7 =>
    if 0 ≤ x6 ∧ x6 < (l3 : Nat) then
    st 1 H (a7.add (x6.toNat * 1)) (.int .u8 (IntKind.u8.wrap (x0 / 2 ^ (min (IntKind.i64.wrap ((8 : Int) * (IntKind.i64.wrap ((IntKind.i64.wrap (x1 - (1 : Int))) - x6)))).toNat IntKind.i64.bits)))) fun _ H8 =>
    R74 m td74_100005 [.int .i64 x0, .int .i64 x1, .slice a2 l3 c4, .int .i64 x5, .int .i64 (IntKind.i64.wrap (x6 + (1 : Int)))] H8
    else none)
    | false => ((match a2 with
    | none => (some (.tuple #[.string .empty, .int .i64 (0 : Int)], H))
    | some a9 => (ldc H a9.block fun cs10 =>
    if a9.off + l3 ≤ cs10.length then
    onSome (bytesOf (range cs10 a9.off l3)) fun l11 =>
    some (.tuple #[.string (⟨l11.toArray⟩ : ByteArray), .int .i64 (0 : Int)], H)
    else none)))) := by kernel_rfl
-- sternpost/event.text
noncomputable def G49 : Fs := Fs.ext G74 74 F74
theorem A49 : AllSound Try.prog G49 := AllSound.ext A74 S74
noncomputable def cuts49 : Cuts := []
noncomputable def F49 : List Value → Heap → R := FN Try.prog G49 Try.f49 cuts49
theorem S49 : Sound Try.prog 49 F49 := FN_sound A49 Try.func49 (by kernel_rfl) (by kernel_rfl)
noncomputable abbrev R49 (m : Nat) : List Item → List Value → Heap → R := run Try.prog G49 Try.f49 cuts49 m
theorem t49 (m : Nat) (x0 : Int) (x1 : Int) (x2 : ByteArray) (H : Heap) : fnE Try.prog G49 Try.f49 cuts49 m [.agg #[.int .i64 x0, .int .i64 x1, .string x2]] H =
    let H3 := H ++ [.cells [.int .i64 x0, .int .i64 x1, .string x2] 0 true]
    ldc H3 H.length fun cs4 =>
    onSome cs4[0]? fun v5 =>
    kInt .i64 v5 fun n6 =>
    onSome (F74 [.int .i64 n6, .int .i64 (1 : Int)] H3) fun r7 =>
    kTup r7.1 fun vs8 =>
    onSome vs8[0]? fun v9 =>
    kStr v9 fun s10 =>
    kTup r7.1 fun vs11 =>
    onSome vs11[1]? fun v12 =>
    kInt .i64 v12 fun n13 =>
    ldc r7.2 H.length fun cs14 =>
    onSome cs14[(0 + 1)]? fun v15 =>
    kInt .i64 v15 fun n16 =>
    onSome (F74 [.int .i64 n16, .int .i64 (6 : Int)] r7.2) fun r17 =>
    kTup r17.1 fun vs18 =>
    onSome vs18[0]? fun v19 =>
    kStr v19 fun s20 =>
    kTup r17.1 fun vs21 =>
    onSome vs21[1]? fun v22 =>
    kInt .i64 v22 fun n23 =>
    ldc r17.2 H.length fun cs24 =>
    onSome cs24[(0 + 2)]? fun v25 =>
    kStr v25 fun s26 =>
    onSome (F74 [.int .i64 (s26.size : Int), .int .i64 (2 : Int)] r17.2) fun r27 =>
    kTup r27.1 fun vs28 =>
    onSome vs28[0]? fun v29 =>
    kStr v29 fun s30 =>
    kTup r27.1 fun vs31 =>
    onSome vs31[1]? fun v32 =>
    kInt .i64 v32 fun n33 =>
    if s10.size + s20.size ≤ 9223372036854775807 then
    if (s10 ++ s20).size + s30.size ≤ 9223372036854775807 then
    ldc r27.2 H.length fun cs34 =>
    onSome cs34[(0 + 2)]? fun v35 =>
    kStr v35 fun s36 =>
    if ((s10 ++ s20) ++ s30).size + s36.size ≤ 9223372036854775807 then
    some (.string (((s10 ++ s20) ++ s30) ++ s36), r27.2)
    else none
    else none
    else none := by kernel_rfl
-- sternpost/event.Encode
noncomputable def G43 : Fs := Fs.ext G49 49 F49
theorem A43 : AllSound Try.prog G43 := AllSound.ext A49 S49
noncomputable def cuts43 : Cuts := []
noncomputable def F43 : List Value → Heap → R := FN Try.prog G43 Try.f43 cuts43
theorem S43 : Sound Try.prog 43 F43 := FN_sound A43 Try.func43 (by kernel_rfl) (by kernel_rfl)
noncomputable abbrev R43 (m : Nat) : List Item → List Value → Heap → R := run Try.prog G43 Try.f43 cuts43 m
theorem t43 (m : Nat) (x0 : Int) (x1 : Int) (x2 : ByteArray) (H : Heap) : fnE Try.prog G43 Try.f43 cuts43 m [.agg #[.int .i64 x0, .int .i64 x1, .string x2]] H =
    let H3 := H ++ [.cells [.int .i64 x0, .int .i64 x1, .string x2] 0 true]
    ldc H3 H.length fun cs4 =>
    if 0 + 3 ≤ cs4.length then
    onSome (F47 [.agg ((range cs4 0 3).toArray)] H3) fun r5 =>
    kInt .i64 r5.1 fun n6 =>
    (match (n6 != (0 : Int)) with
    | true => (some (.tuple #[.string (⟨#[]⟩ : ByteArray), .int .i64 n6], r5.2))
    | false => (ldc r5.2 H.length fun cs7 =>
    if 0 + 3 ≤ cs7.length then
    onSome (F49 [.agg ((range cs7 0 3).toArray)] r5.2) fun r8 =>
    kStr r8.1 fun s9 =>
    some (.tuple #[.string s9, .int .i64 (0 : Int)], r8.2)
    else none))
    else none := by kernel_rfl
-- sternpost/sternpostlaw23.works
noncomputable def G13 : Fs := Fs.ext G43 43 F43
theorem A13 : AllSound Try.prog G13 := AllSound.ext A43 S43
noncomputable def cuts13 : Cuts := []
noncomputable def F13 : List Value → Heap → R := FN Try.prog G13 Try.f13 cuts13
theorem S13 : Sound Try.prog 13 F13 := FN_sound A13 Try.func13 (by kernel_rfl) (by kernel_rfl)
noncomputable abbrev R13 (m : Nat) : List Item → List Value → Heap → R := run Try.prog G13 Try.f13 cuts13 m
theorem t13 (m : Nat)  (H : Heap) : fnE Try.prog G13 Try.f13 cuts13 m [] H =
    onSome (F43 [.agg #[.int .i64 (2 : Int), .int .i64 (5 : Int), .string (⟨#[]⟩ : ByteArray)]] H) fun r0 =>
    kTup r0.1 fun vs1 =>
    onSome vs1[0]? fun v2 =>
    kStr v2 fun s3 =>
    kTup r0.1 fun vs4 =>
    onSome vs4[1]? fun v5 =>
    kInt .i64 v5 fun n6 =>
    (match (n6 == (0 : Int)) with
    | true => (some (.bool (s3.toList == (⟨#[2, 0, 0, 0, 0, 0, 5, 0, 0]⟩ : ByteArray).toList), r0.2))
    | false => (some (.bool false, r0.2))) := by kernel_rfl
-- (*sternpost/event.Log).Now
noncomputable def G17 : Fs := Fs.ext G13 13 F13
theorem A17 : AllSound Try.prog G17 := AllSound.ext A13 S13
noncomputable def cuts17 : Cuts := []
noncomputable def F17 : List Value → Heap → R := FN Try.prog G17 Try.f17 cuts17
theorem S17 : Sound Try.prog 17 F17 := FN_sound A17 Try.func17 (by kernel_rfl) (by kernel_rfl)
noncomputable abbrev R17 (m : Nat) : List Item → List Value → Heap → R := run Try.prog G17 Try.f17 cuts17 m
theorem t17 (m : Nat) (x0 : Option Addr) (H : Heap) : fnE Try.prog G17 Try.f17 cuts17 m [.pointer x0] H =
    onSome x0 fun a1 =>
    ldc H a1.block fun cs2 =>
    onSome cs2[a1.off]? fun v3 =>
    kSl v3 fun a4 l5 c6 =>
    (match (((l5 : Nat) : Int) == (0 : Int)) with
    | true => (some (.int .i64 (0 : Int), H))
    | false => (onSome x0 fun a7 =>
    ldc H a7.block fun cs8 =>
    onSome cs8[a7.off]? fun v9 =>
    kSl v9 fun a10 l11 c12 =>
    onSome x0 fun a13 =>
    ldc H a13.block fun cs14 =>
    onSome cs14[a13.off]? fun v15 =>
    kSl v15 fun a16 l17 c18 =>
    onSome a10 fun a19 =>
    if 0 ≤ (IntKind.i64.wrap (((l17 : Nat) : Int) - (1 : Int))) ∧ (IntKind.i64.wrap (((l17 : Nat) : Int) - (1 : Int))) < (l11 : Nat) then
    ldc H ((a19.add ((IntKind.i64.wrap (((l17 : Nat) : Int) - (1 : Int))).toNat * 3)).block) fun cs20 =>
    onSome cs20[((a19.add ((IntKind.i64.wrap (((l17 : Nat) : Int) - (1 : Int))).toNat * 3)).off + 1)]? fun v21 =>
    kInt .i64 v21 fun n22 =>
    some (.int .i64 n22, H)
    else none)) := by kernel_rfl
-- (*sternpost/event.Log).Add
noncomputable def G14 : Fs := Fs.ext G17 17 F17
theorem A14 : AllSound Try.prog G14 := AllSound.ext A17 S17
noncomputable def cuts14 : Cuts := [(9, [0])]
noncomputable def td14_9 : List Item := todoOf Try.f14 9
noncomputable def F14 : List Value → Heap → R := FN Try.prog G14 Try.f14 cuts14
theorem S14 : Sound Try.prog 14 F14 := FN_sound A14 Try.func14 (by kernel_rfl) (by kernel_rfl)
noncomputable abbrev R14 (m : Nat) : List Item → List Value → Heap → R := run Try.prog G14 Try.f14 cuts14 m
theorem t14 (m : Nat) (x0 : Option Addr) (x1 : Int) (x2 : Int) (x3 : ByteArray) (H : Heap) : fnE Try.prog G14 Try.f14 cuts14 m [.pointer x0, .agg #[.int .i64 x1, .int .i64 x2, .string x3]] H =
    let H4 := H ++ [.cells [.int .i64 x1, .int .i64 x2, .string x3] 0 true]
    ldc H4 H.length fun cs5 =>
    if 0 + 3 ≤ cs5.length then
    onSome (F47 [.agg ((range cs5 0 3).toArray)] H4) fun r6 =>
    kInt .i64 r6.1 fun n7 =>
    (match (n7 != (0 : Int)) with
    | true => (some (.tuple #[.int .i64 (0 : Int), .int .i64 n7], r6.2))
    | false => (ldc r6.2 H.length fun cs8 =>
    onSome cs8[(0 + 1)]? fun v9 =>
    kInt .i64 v9 fun n10 =>
    onSome (F17 [.pointer x0] r6.2) fun r11 =>
    kInt .i64 r11.1 fun n12 =>
    unt r6.2 r11.2 H.length (
    (match (decide (n10 < n12)) with
    | true => (some (.tuple #[.int .i64 (0 : Int), .int .i64 (1 : Int)], r11.2))
    | false => (onSome x0 fun a13 =>
    ldc r11.2 a13.block fun cs14 =>
    onSome cs14[a13.off]? fun v15 =>
    kSl v15 fun a16 l17 c18 =>
    (match (decide ((4096 : Int) ≤ ((l17 : Nat) : Int))) with
    | true => (some (.tuple #[.int .i64 (0 : Int), .int .i64 (2 : Int)], r11.2))
    | false => (onSome x0 fun a19 =>
    ldc r11.2 a19.block fun cs20 =>
    onSome cs20[a19.off]? fun v21 =>
    kSl v21 fun a22 l23 c24 =>
    ldc r11.2 H.length fun cs25 =>
    if 0 + 3 ≤ cs25.length then
    cellsOks [.agg ((range cs25 0 3).toArray)] (onSome (Instr.fill (fun i => some (i * 3, 3)) ([.int .i64 (0 : Int), .int .i64 (0 : Int), .string (⟨#[]⟩ : ByteArray)] : List Value).toArray (([0] : List Nat).zip [.agg ((range cs25 0 3).toArray)])) fun cells26 =>
    let H27 := r11.2 ++ [.cells cells26.toList 3 true]
    firstC H27 3 (.slice (some ⟨r11.2.length, 0, none⟩) 1 1) fun n28 nw29 =>
    app Try.prog 40 H27 (.slice a22 l23 c24) n28 nw29 fun v30 H31 =>
    kSl v30 fun a32 l33 c34 =>
    onSome x0 fun a35 =>
    st 1 H31 a35 (.slice a32 l33 c34) fun _ H36 =>
    R14 m td14_9 [.pointer x0] H36)
    else none)))))))
    else none := by kernel_rfl
theorem c14_9 (m : Nat) (x0 : Option Addr) (H : Heap) : R14 (m + 1) td14_9 [.pointer x0] H =
    onSome x0 fun a1 =>
    ldc H a1.block fun cs2 =>
    onSome cs2[a1.off]? fun v3 =>
    kSl v3 fun a4 l5 c6 =>
    some (.tuple #[.int .i64 ((l5 : Nat) : Int), .int .i64 (0 : Int)], H) := by kernel_rfl
-- sternpost/sternpostref23.Check
noncomputable def G48 : Fs := Fs.ext G14 14 F14
theorem A48 : AllSound Try.prog G48 := AllSound.ext A14 S14
noncomputable def cuts48 : Cuts := [(4, []), (5, []), (2, [])]
noncomputable def td48_4 : List Item := todoOf Try.f48 4
noncomputable def td48_5 : List Item := todoOf Try.f48 5
noncomputable def td48_2 : List Item := todoOf Try.f48 2
noncomputable def F48 : List Value → Heap → R := FN Try.prog G48 Try.f48 cuts48
theorem S48 : Sound Try.prog 48 F48 := FN_sound A48 Try.func48 (by kernel_rfl) (by kernel_rfl)
noncomputable abbrev R48 (m : Nat) : List Item → List Value → Heap → R := run Try.prog G48 Try.f48 cuts48 m
theorem t48 (m : Nat) (x0 : Int) (x1 : Int) (x2 : ByteArray) (H : Heap) : fnE Try.prog G48 Try.f48 cuts48 m [.agg #[.int .i64 x0, .int .i64 x1, .string x2]] H =
    let H3 := H ++ [.cells [.int .i64 x0, .int .i64 x1, .string x2] 0 true]
    ldc H3 H.length fun cs4 =>
    onSome cs4[(0 + 1)]? fun v5 =>
    kInt .i64 v5 fun n6 =>
    (match (decide (n6 < (0 : Int))) with
    | true => (R48 m td48_2 [] H3)
    | false => (ldc H3 H.length fun cs7 =>
    onSome cs7[(0 + 1)]? fun v8 =>
    kInt .i64 v8 fun n9 =>
    (match (decide ((1099511627776 : Int) < n9)) with
    | true => (R48 m td48_2 [] H3)
    | false => (ldc H3 H.length fun cs10 =>
    onSome cs10[0]? fun v11 =>
    kInt .i64 v11 fun n12 =>
    (match (n12 == (1 : Int)) with
    | true => (ldc H3 H.length fun cs13 =>
    onSome cs13[(0 + 2)]? fun v14 =>
    kStr v14 fun s15 =>
    (match (decide ((s15.size : Int) ≤ (1514 : Int))) with
    | true => (R48 m td48_4 [] H3)
    | false => (ldc H3 H.length fun cs16 =>
    onSome cs16[0]? fun v17 =>
    kInt .i64 v17 fun n18 =>
    (match (n18 == (2 : Int)) with
    | true => (ldc H3 H.length fun cs19 =>
    onSome cs19[(0 + 2)]? fun v20 =>
    kStr v20 fun s21 =>
    (match (s21.toList == (⟨#[]⟩ : ByteArray).toList) with
    | true => (R48 m td48_4 [] H3)
    | false => (R48 m td48_5 [] H3)))
    | false => (R48 m td48_5 [] H3)))))
    | false => (ldc H3 H.length fun cs22 =>
    onSome cs22[0]? fun v23 =>
    kInt .i64 v23 fun n24 =>
    (match (n24 == (2 : Int)) with
    | true => (ldc H3 H.length fun cs25 =>
    onSome cs25[(0 + 2)]? fun v26 =>
    kStr v26 fun s27 =>
    (match (s27.toList == (⟨#[]⟩ : ByteArray).toList) with
    | true => (R48 m td48_4 [] H3)
    | false => (R48 m td48_5 [] H3)))
    | false => (R48 m td48_5 [] H3)))))))) := by kernel_rfl
theorem c48_2 (m : Nat)  (H : Heap) : R48 (m + 1) td48_2 [] H =
    some (.int .i64 (230 : Int), H) := by kernel_rfl
theorem c48_4 (m : Nat)  (H : Heap) : R48 (m + 1) td48_4 [] H =
    some (.int .i64 (0 : Int), H) := by kernel_rfl
theorem c48_5 (m : Nat)  (H : Heap) : R48 (m + 1) td48_5 [] H =
    some (.int .i64 (230 : Int), H) := by kernel_rfl
-- (*sternpost/sternpostref23.Log).Now
noncomputable def G18 : Fs := Fs.ext G48 48 F48
theorem A18 : AllSound Try.prog G18 := AllSound.ext A48 S48
noncomputable def cuts18 : Cuts := []
noncomputable def F18 : List Value → Heap → R := FN Try.prog G18 Try.f18 cuts18
theorem S18 : Sound Try.prog 18 F18 := FN_sound A18 Try.func18 (by kernel_rfl) (by kernel_rfl)
noncomputable abbrev R18 (m : Nat) : List Item → List Value → Heap → R := run Try.prog G18 Try.f18 cuts18 m
theorem t18 (m : Nat) (x0 : Option Addr) (H : Heap) : fnE Try.prog G18 Try.f18 cuts18 m [.pointer x0] H =
    onSome x0 fun a1 =>
    ldc H a1.block fun cs2 =>
    onSome cs2[a1.off]? fun v3 =>
    kSl v3 fun a4 l5 c6 =>
    (match (((l5 : Nat) : Int) == (0 : Int)) with
    | true => (some (.int .i64 (0 : Int), H))
    | false => (onSome x0 fun a7 =>
    ldc H a7.block fun cs8 =>
    onSome cs8[a7.off]? fun v9 =>
    kSl v9 fun a10 l11 c12 =>
    onSome x0 fun a13 =>
    ldc H a13.block fun cs14 =>
    onSome cs14[a13.off]? fun v15 =>
    kSl v15 fun a16 l17 c18 =>
    onSome a10 fun a19 =>
    if 0 ≤ (IntKind.i64.wrap (((l17 : Nat) : Int) - (1 : Int))) ∧ (IntKind.i64.wrap (((l17 : Nat) : Int) - (1 : Int))) < (l11 : Nat) then
    ldc H ((a19.add ((IntKind.i64.wrap (((l17 : Nat) : Int) - (1 : Int))).toNat * 3)).block) fun cs20 =>
    onSome cs20[((a19.add ((IntKind.i64.wrap (((l17 : Nat) : Int) - (1 : Int))).toNat * 3)).off + 1)]? fun v21 =>
    kInt .i64 v21 fun n22 =>
    some (.int .i64 n22, H)
    else none)) := by kernel_rfl
-- (*sternpost/sternpostref23.Log).Add
noncomputable def G15 : Fs := Fs.ext G18 18 F18
theorem A15 : AllSound Try.prog G15 := AllSound.ext A18 S18
noncomputable def cuts15 : Cuts := [(9, [0])]
noncomputable def td15_9 : List Item := todoOf Try.f15 9
noncomputable def F15 : List Value → Heap → R := FN Try.prog G15 Try.f15 cuts15
theorem S15 : Sound Try.prog 15 F15 := FN_sound A15 Try.func15 (by kernel_rfl) (by kernel_rfl)
noncomputable abbrev R15 (m : Nat) : List Item → List Value → Heap → R := run Try.prog G15 Try.f15 cuts15 m
theorem t15 (m : Nat) (x0 : Option Addr) (x1 : Int) (x2 : Int) (x3 : ByteArray) (H : Heap) : fnE Try.prog G15 Try.f15 cuts15 m [.pointer x0, .agg #[.int .i64 x1, .int .i64 x2, .string x3]] H =
    let H4 := H ++ [.cells [.int .i64 x1, .int .i64 x2, .string x3] 0 true]
    ldc H4 H.length fun cs5 =>
    if 0 + 3 ≤ cs5.length then
    onSome (F48 [.agg ((range cs5 0 3).toArray)] H4) fun r6 =>
    kInt .i64 r6.1 fun n7 =>
    (match (n7 != (0 : Int)) with
    | true => (some (.tuple #[.int .i64 (0 : Int), .int .i64 n7], r6.2))
    | false => (ldc r6.2 H.length fun cs8 =>
    onSome cs8[(0 + 1)]? fun v9 =>
    kInt .i64 v9 fun n10 =>
    onSome (F18 [.pointer x0] r6.2) fun r11 =>
    kInt .i64 r11.1 fun n12 =>
    unt r6.2 r11.2 H.length (
    (match (decide (n10 < n12)) with
    | true => (some (.tuple #[.int .i64 (0 : Int), .int .i64 (1 : Int)], r11.2))
    | false => (onSome x0 fun a13 =>
    ldc r11.2 a13.block fun cs14 =>
    onSome cs14[a13.off]? fun v15 =>
    kSl v15 fun a16 l17 c18 =>
    (match (decide ((4096 : Int) ≤ ((l17 : Nat) : Int))) with
    | true => (some (.tuple #[.int .i64 (0 : Int), .int .i64 (2 : Int)], r11.2))
    | false => (let H19 := r11.2 ++ [.cells [] 3 true]
    onSome x0 fun a20 =>
    ldc H19 a20.block fun cs21 =>
    onSome cs21[a20.off]? fun v22 =>
    kSl v22 fun a23 l24 c25 =>
    ldc H19 H.length fun cs26 =>
    if 0 + 3 ≤ cs26.length then
    cellsOks [.agg ((range cs26 0 3).toArray)] (onSome (Instr.fill (fun i => some (i * 3, 3)) ([.int .i64 (0 : Int), .int .i64 (0 : Int), .string (⟨#[]⟩ : ByteArray)] : List Value).toArray (([0] : List Nat).zip [.agg ((range cs26 0 3).toArray)])) fun cells27 =>
    let H28 := H19 ++ [.cells cells27.toList 3 true]
    firstC H28 3 (.slice a23 l24 c25) fun n29 nw30 =>
    app Try.prog 40 H28 (.slice (some ⟨r11.2.length, 0, none⟩) 0 0) n29 nw30 fun v31 H32 =>
    kSl v31 fun a33 l34 c35 =>
    unt H28 H32 H19.length (
    unt H28 H32 H.length (
    firstC H32 3 (.slice (some ⟨H19.length, 0, none⟩) 1 1) fun n36 nw37 =>
    app Try.prog 40 H32 (.slice a33 l34 c35) n36 nw37 fun v38 H39 =>
    kSl v38 fun a40 l41 c42 =>
    onSome x0 fun a43 =>
    st 1 H39 a43 (.slice a40 l41 c42) fun _ H44 =>
    R15 m td15_9 [.pointer x0] H44)))
    else none)))))))
    else none := by kernel_rfl
theorem c15_9 (m : Nat) (x0 : Option Addr) (H : Heap) : R15 (m + 1) td15_9 [.pointer x0] H =
    onSome x0 fun a1 =>
    ldc H a1.block fun cs2 =>
    onSome cs2[a1.off]? fun v3 =>
    kSl v3 fun a4 l5 c6 =>
    some (.tuple #[.int .i64 ((l5 : Nat) : Int), .int .i64 (0 : Int)], H) := by kernel_rfl
-- (*sternpost/event.Log).Len
noncomputable def G16 : Fs := Fs.ext G15 15 F15
theorem A16 : AllSound Try.prog G16 := AllSound.ext A15 S15
noncomputable def cuts16 : Cuts := []
noncomputable def F16 : List Value → Heap → R := FN Try.prog G16 Try.f16 cuts16
theorem S16 : Sound Try.prog 16 F16 := FN_sound A16 Try.func16 (by kernel_rfl) (by kernel_rfl)
noncomputable abbrev R16 (m : Nat) : List Item → List Value → Heap → R := run Try.prog G16 Try.f16 cuts16 m
theorem t16 (m : Nat) (x0 : Option Addr) (H : Heap) : fnE Try.prog G16 Try.f16 cuts16 m [.pointer x0] H =
    onSome x0 fun a1 =>
    ldc H a1.block fun cs2 =>
    onSome cs2[a1.off]? fun v3 =>
    kSl v3 fun a4 l5 c6 =>
    some (.int .i64 ((l5 : Nat) : Int), H) := by kernel_rfl
-- (*strings.Builder).Len
noncomputable def G50 : Fs := Fs.ext G16 16 F16
theorem A50 : AllSound Try.prog G50 := AllSound.ext A16 S16
noncomputable def cuts50 : Cuts := []
noncomputable def F50 : List Value → Heap → R := FN Try.prog G50 Try.f50 cuts50
theorem S50 : Sound Try.prog 50 F50 := FN_sound A50 Try.func50 (by kernel_rfl) (by kernel_rfl)
noncomputable abbrev R50 (m : Nat) : List Item → List Value → Heap → R := run Try.prog G50 Try.f50 cuts50 m
theorem t50 (m : Nat) (x0 : Option Addr) (H : Heap) : fnE Try.prog G50 Try.f50 cuts50 m [.pointer x0] H =
    onSome x0 fun a1 =>
    ldc H a1.block fun cs2 =>
    onSome cs2[(a1.off + 1)]? fun v3 =>
    kSl v3 fun a4 l5 c6 =>
    some (.int .i64 ((l5 : Nat) : Int), H) := by kernel_rfl
-- internal/abi.NoEscape
noncomputable def G88 : Fs := Fs.ext G50 50 F50
theorem A88 : AllSound Try.prog G88 := AllSound.ext A50 S50
def F88 : List Value → Heap → R := noEsc
theorem S88 : Sound Try.prog 88 F88 := noEsc_sound Try.func88 (by kernel_rfl) (by kernel_rfl) (by kernel_rfl) (by kernel_rfl)
-- (*strings.Builder).copyCheck
noncomputable def G75 : Fs := Fs.ext G88 88 F88
theorem A75 : AllSound Try.prog G75 := AllSound.ext A88 S88
noncomputable def cuts75 : Cuts := []
noncomputable def F75 : List Value → Heap → R := FN Try.prog G75 Try.f75 cuts75
theorem S75 : Sound Try.prog 75 F75 := FN_sound A75 Try.func75 (by kernel_rfl) (by kernel_rfl)
noncomputable abbrev R75 (m : Nat) : List Item → List Value → Heap → R := run Try.prog G75 Try.f75 cuts75 m
theorem t75 (m : Nat) (x0 : Option Addr) (H : Heap) : fnE Try.prog G75 Try.f75 cuts75 m [.pointer x0] H =
    onSome x0 fun a1 =>
    ldc H a1.block fun cs2 =>
    onSome cs2[a1.off]? fun v3 =>
    kPtr v3 fun p4 =>
    (match p4.isNone with
    | true => (onSome x0 fun a5 =>
    ldc H a5.block fun cs6 =>
    if a5.off < cs6.length then
    onSome (F88 [.pointer (some a5)] H) fun r7 =>
    kPtr r7.1 fun p8 =>
    onSome p8 fun a9 =>
    fromU r7.2 a9 98 2 (
    onSome x0 fun a10 =>
    st 1 r7.2 a10 (.pointer (some a9)) fun _ H11 =>
    some (.tuple #[], H11))
    else none)
    | false => (onSome x0 fun a12 =>
    ldc H a12.block fun cs13 =>
    onSome cs13[a12.off]? fun v14 =>
    kPtr v14 fun p15 =>
    ptrEq p15 x0 fun e16 =>
    (match (!e16) with
    | true => (none)
    | false => (some (.tuple #[], H))))) := by kernel_rfl
-- WARN 75: exec
-- (*strings.Builder).WriteString
noncomputable def G51 : Fs := Fs.ext G75 75 F75
theorem A51 : AllSound Try.prog G51 := AllSound.ext A75 S75
noncomputable def cuts51 : Cuts := []
noncomputable def F51 : List Value → Heap → R := FN Try.prog G51 Try.f51 cuts51
theorem S51 : Sound Try.prog 51 F51 := FN_sound A51 Try.func51 (by kernel_rfl) (by kernel_rfl)
noncomputable abbrev R51 (m : Nat) : List Item → List Value → Heap → R := run Try.prog G51 Try.f51 cuts51 m
theorem t51 (m : Nat) (x0 : Option Addr) (x1 : ByteArray) (H : Heap) : fnE Try.prog G51 Try.f51 cuts51 m [.pointer x0, .string x1] H =
    onSome (F75 [.pointer x0] H) fun r2 =>
    onSome x0 fun a3 =>
    ldc r2.2 a3.block fun cs4 =>
    onSome cs4[(a3.off + 1)]? fun v5 =>
    kSl v5 fun a6 l7 c8 =>
    firstC r2.2 1 (.string x1) fun n9 nw10 =>
    app Try.prog 5 r2.2 (.slice a6 l7 c8) n9 nw10 fun v11 H12 =>
    kSl v11 fun a13 l14 c15 =>
    onSome x0 fun a16 =>
    st 1 H12 (⟨a16.block, a16.off + 1, none⟩ : Addr) (.slice a13 l14 c15) fun _ H17 =>
    some (.tuple #[.int .i64 (x1.size : Int), .nilIface], H17) := by kernel_rfl
-- (*strings.Builder).String
noncomputable def G52 : Fs := Fs.ext G51 51 F51
theorem A52 : AllSound Try.prog G52 := AllSound.ext A51 S51
noncomputable def cuts52 : Cuts := []
noncomputable def F52 : List Value → Heap → R := FN Try.prog G52 Try.f52 cuts52
theorem S52 : Sound Try.prog 52 F52 := FN_sound A52 Try.func52 (by kernel_rfl) (by kernel_rfl)
noncomputable abbrev R52 (m : Nat) : List Item → List Value → Heap → R := run Try.prog G52 Try.f52 cuts52 m
theorem t52 (m : Nat) (x0 : Option Addr) (H : Heap) : fnE Try.prog G52 Try.f52 cuts52 m [.pointer x0] H =
    onSome x0 fun a1 =>
    ldc H a1.block fun cs2 =>
    onSome cs2[(a1.off + 1)]? fun v3 =>
    kSl v3 fun a4 l5 c6 =>
    (match a4 with
    | none => (onSome x0 fun a7 =>
    ldc H a7.block fun cs8 =>
    onSome cs8[(a7.off + 1)]? fun v9 =>
    kSl v9 fun a10 l11 c12 =>
    if ((l11 : Nat) : Int) = 0 then
    some (.string .empty, H)
    else none)
    | some a13 => (if 0 < (l5 : Nat) then
    onSome x0 fun a14 =>
    ldc H a14.block fun cs15 =>
    onSome cs15[(a14.off + 1)]? fun v16 =>
    kSl v16 fun a17 l18 c19 =>
    uStr H a13 ((l18 : Nat) : Int) 5 1 fun s20 H21 =>
    some (.string s20, H21)
    else none)) := by kernel_rfl
-- (*sternpost/event.Log).Bytes
noncomputable def G19 : Fs := Fs.ext G52 52 F52
theorem A19 : AllSound Try.prog G19 := AllSound.ext A52 S52
noncomputable def cuts19 : Cuts := [(100003, [0, 2, 7, 8]), (8, [7, 8]), (6, [0, 2, 7, 8, 9])]
noncomputable def td19_100003 : List Item := todoOf Try.f19 100003
noncomputable def td19_8 : List Item := todoOf Try.f19 8
noncomputable def td19_6 : List Item := todoOf Try.f19 6
noncomputable def F19 : List Value → Heap → R := FN Try.prog G19 Try.f19 cuts19
theorem S19 : Sound Try.prog 19 F19 := FN_sound A19 Try.func19 (by kernel_rfl) (by kernel_rfl)
noncomputable abbrev R19 (m : Nat) : List Item → List Value → Heap → R := run Try.prog G19 Try.f19 cuts19 m
theorem t19 (m : Nat) (x0 : Option Addr) (x1 : Int) (x2 : Int) (H : Heap) : fnE Try.prog G19 Try.f19 cuts19 m [.pointer x0, .int .i64 x1, .int .i64 x2] H =
    let H3 := H ++ [.cells [.pointer none, .slice none 0 0] 103809024 true]
    R19 m td19_100003 [.pointer x0, .int .i64 x2, .int .i64 (mxi (1 : Int) x1), .pointer (some (⟨H.length, 0, none⟩ : Addr))] H3 := by kernel_rfl
theorem c19_6 (m : Nat) (x0 : Option Addr) (x1 : Int) (x2 : Int) (x3 : Option Addr) (x4 : ByteArray) (H : Heap) : R19 (m + 1) td19_6 [.pointer x0, .int .i64 x1, .int .i64 x2, .pointer x3, .string x4] H =
    onSome (F51 [.pointer x3, .string x4] H) fun r5 =>
    R19 m td19_100003 [.pointer x0, .int .i64 x1, .int .i64 (IntKind.i64.wrap (x2 + (1 : Int))), .pointer x3] r5.2 := by kernel_rfl
theorem c19_8 (m : Nat) (x0 : Int) (x1 : Option Addr) (H : Heap) : R19 (m + 1) td19_8 [.int .i64 x0, .pointer x1] H =
    onSome (F52 [.pointer x1] H) fun r2 =>
    kStr r2.1 fun s3 =>
    some (.tuple #[.string s3, .int .i64 x0], r2.2) := by kernel_rfl
theorem c19_100003 (m : Nat) (x0 : Option Addr) (x1 : Int) (x2 : Int) (x3 : Option Addr) (H : Heap) : R19 (m + 1) td19_100003 [.pointer x0, .int .i64 x1, .int .i64 x2, .pointer x3] H =
    onSome x0 fun a4 =>
    ldc H a4.block fun cs5 =>
    onSome cs5[a4.off]? fun v6 =>
    kSl v6 fun a7 l8 c9 =>
    (match (decide (x2 ≤ ((l8 : Nat) : Int))) with
    | true => (onSome x0 fun a10 =>
    ldc H a10.block fun cs11 =>
    onSome cs11[a10.off]? fun v12 =>
    kSl v12 fun a13 l14 c15 =>
    onSome a13 fun a16 =>
    if 0 ≤ (IntKind.i64.wrap (x2 - (1 : Int))) ∧ (IntKind.i64.wrap (x2 - (1 : Int))) < (l14 : Nat) then
    ldc H ((a16.add ((IntKind.i64.wrap (x2 - (1 : Int))).toNat * 3)).block) fun cs17 =>
    if (a16.add ((IntKind.i64.wrap (x2 - (1 : Int))).toNat * 3)).off + 3 ≤ cs17.length then
    onSome (F49 [.agg ((range cs17 ((a16.add ((IntKind.i64.wrap (x2 - (1 : Int))).toNat * 3)).off) 3).toArray)] H) fun r18 =>
    kStr r18.1 fun s19 =>
    onSome (F50 [.pointer x3] r18.2) fun r20 =>
    kInt .i64 r20.1 fun n21 =>
    (match (decide ((0 : Int) < n21)) with
    | true => (onSome (F50 [.pointer x3] r20.2) fun r22 =>
    kInt .i64 r22.1 fun n23 =>
    (match (decide (x1 < (IntKind.i64.wrap (n23 + (s19.size : Int))))) with
    | true => (R19 m td19_8 [.int .i64 x2, .pointer x3] r22.2)
    | false => (R19 m td19_6 [.pointer x0, .int .i64 x1, .int .i64 x2, .pointer x3, .string s19] r22.2)))
    | false => (R19 m td19_6 [.pointer x0, .int .i64 x1, .int .i64 x2, .pointer x3, .string s19] r20.2))
    else none
    else none)
    | false => (R19 m td19_8 [.int .i64 x2, .pointer x3] H)) := by kernel_rfl
-- sternpost/sternpostref02.Text
noncomputable def G76 : Fs := Fs.ext G19 19 F19
theorem A76 : AllSound Try.prog G76 := AllSound.ext A19 S19
noncomputable def cuts76 : Cuts := [(100003, [0, 5, 6])]
noncomputable def td76_100003 : List Item := todoOf Try.f76 100003
noncomputable def F76 : List Value → Heap → R := FN Try.prog G76 Try.f76 cuts76
theorem S76 : Sound Try.prog 76 F76 := FN_sound A76 Try.func76 (by kernel_rfl) (by kernel_rfl)
noncomputable abbrev R76 (m : Nat) : List Item → List Value → Heap → R := run Try.prog G76 Try.f76 cuts76 m
theorem t76 (m : Nat) (x0 : Int) (x1 : Int) (H : Heap) : fnE Try.prog G76 Try.f76 cuts76 m [.int .i64 x0, .int .i64 x1] H =
    R76 m td76_100003 [.int .i64 x0, .slice none 0 0, .int .i64 (IntKind.i64.wrap (x1 - (1 : Int)))] H := by kernel_rfl
theorem c76_100003 (m : Nat) (x0 : Int) (a1 : Option Addr) (l2 : Nat) (c3 : Nat) (x4 : Int) (H : Heap) : R76 (m + 1) td76_100003 [.int .i64 x0, .slice a1 l2 c3, .int .i64 x4] H =
    (match (decide ((0 : Int) ≤ x4)) with
    | true => (if (IntKind.i64.wrap ((8 : Int) * x4)) < 0 then none else
    let H5 := H ++ [.cells [.int .u8 (IntKind.u8.wrap (x0 / 2 ^ (min (IntKind.i64.wrap ((8 : Int) * x4)).toNat IntKind.i64.bits)))] 1 true]
    firstC H5 1 (.slice (some ⟨H.length, 0, none⟩) 1 1) fun n6 nw7 =>
    app Try.prog 5 H5 (.slice a1 l2 c3) n6 nw7 fun v8 H9 =>
    kSl v8 fun a10 l11 c12 =>
    R76 m td76_100003 [.int .i64 x0, .slice a10 l11 c12, .int .i64 (IntKind.i64.wrap (x4 - (1 : Int)))] H9)
    | false => ((match a1 with
    | none => (some (.string .empty, H))
    | some a13 => (ldc H a13.block fun cs14 =>
    if a13.off + l2 ≤ cs14.length then
    onSome (bytesOf (range cs14 a13.off l2)) fun l15 =>
    some (.string (⟨l15.toArray⟩ : ByteArray), H)
    else none)))) := by kernel_rfl
-- sternpost/sternpostref23.Text
noncomputable def G53 : Fs := Fs.ext G76 76 F76
theorem A53 : AllSound Try.prog G53 := AllSound.ext A76 S76
noncomputable def cuts53 : Cuts := []
noncomputable def F53 : List Value → Heap → R := FN Try.prog G53 Try.f53 cuts53
theorem S53 : Sound Try.prog 53 F53 := FN_sound A53 Try.func53 (by kernel_rfl) (by kernel_rfl)
noncomputable abbrev R53 (m : Nat) : List Item → List Value → Heap → R := run Try.prog G53 Try.f53 cuts53 m
theorem t53 (m : Nat) (x0 : Int) (x1 : Int) (x2 : ByteArray) (H : Heap) : fnE Try.prog G53 Try.f53 cuts53 m [.agg #[.int .i64 x0, .int .i64 x1, .string x2]] H =
    let H3 := H ++ [.cells [.int .i64 x0, .int .i64 x1, .string x2] 0 true]
    ldc H3 H.length fun cs4 =>
    onSome cs4[0]? fun v5 =>
    kInt .i64 v5 fun n6 =>
    ldc H3 H.length fun cs7 =>
    onSome cs7[(0 + 1)]? fun v8 =>
    kInt .i64 v8 fun n9 =>
    ldc H3 H.length fun cs10 =>
    onSome cs10[(0 + 2)]? fun v11 =>
    kStr v11 fun s12 =>
    ldc H3 H.length fun cs13 =>
    onSome cs13[(0 + 2)]? fun v14 =>
    kStr v14 fun s15 =>
    onSome (F76 [.int .i64 n6, .int .i64 (1 : Int)] H3) fun r16 =>
    kStr r16.1 fun s17 =>
    unt H3 r16.2 H.length (
    unt H3 r16.2 H.length (
    unt H3 r16.2 H.length (
    onSome (F76 [.int .i64 n9, .int .i64 (6 : Int)] r16.2) fun r18 =>
    kStr r18.1 fun s19 =>
    unt r16.2 r18.2 H.length (
    unt r16.2 r18.2 H.length (
    if s17.size + s19.size ≤ 9223372036854775807 then
    onSome (F76 [.int .i64 (s12.size : Int), .int .i64 (2 : Int)] r18.2) fun r20 =>
    kStr r20.1 fun s21 =>
    unt r18.2 r20.2 H.length (
    if (s17 ++ s19).size + s21.size ≤ 9223372036854775807 then
    if ((s17 ++ s19) ++ s21).size + s15.size ≤ 9223372036854775807 then
    some (.string (((s17 ++ s19) ++ s21) ++ s15), r20.2)
    else none
    else none)
    else none))))) := by kernel_rfl
-- (*sternpost/sternpostref23.Log).Bytes
noncomputable def G20 : Fs := Fs.ext G53 53 F53
theorem A20 : AllSound Try.prog G20 := AllSound.ext A53 S53
noncomputable def cuts20 : Cuts := [(100004, [0, 1, 2, 8, 9]), (10, [1, 8]), (8, [0, 2, 8, 9, 10])]
noncomputable def td20_100004 : List Item := todoOf Try.f20 100004
noncomputable def td20_10 : List Item := todoOf Try.f20 10
noncomputable def td20_8 : List Item := todoOf Try.f20 8
noncomputable def F20 : List Value → Heap → R := FN Try.prog G20 Try.f20 cuts20
theorem S20 : Sound Try.prog 20 F20 := FN_sound A20 Try.func20 (by kernel_rfl) (by kernel_rfl)
noncomputable abbrev R20 (m : Nat) : List Item → List Value → Heap → R := run Try.prog G20 Try.f20 cuts20 m
theorem t20 (m : Nat) (x0 : Option Addr) (x1 : Int) (x2 : Int) (H : Heap) : fnE Try.prog G20 Try.f20 cuts20 m [.pointer x0, .int .i64 x1, .int .i64 x2] H =
    R20 m td20_100004 [.pointer x0, .int .i64 (mxi (1 : Int) x1), .int .i64 x2, .string (⟨#[]⟩ : ByteArray), .int .i64 (mxi (1 : Int) x1)] H := by kernel_rfl
theorem c20_8 (m : Nat) (x0 : Option Addr) (x1 : Int) (x2 : ByteArray) (x3 : Int) (x4 : ByteArray) (H : Heap) : R20 (m + 1) td20_8 [.pointer x0, .int .i64 x1, .string x2, .int .i64 x3, .string x4] H =
    if x2.size + x4.size ≤ 9223372036854775807 then
    R20 m td20_100004 [.pointer x0, .int .i64 (IntKind.i64.wrap (x3 + (1 : Int))), .int .i64 x1, .string (x2 ++ x4), .int .i64 (IntKind.i64.wrap (x3 + (1 : Int)))] H
    else none := by kernel_rfl
theorem c20_10 (m : Nat) (x0 : Int) (x1 : ByteArray) (H : Heap) : R20 (m + 1) td20_10 [.int .i64 x0, .string x1] H =
    some (.tuple #[.string x1, .int .i64 x0], H) := by kernel_rfl
theorem c20_100004 (m : Nat) (x0 : Option Addr) (x1 : Int) (x2 : Int) (x3 : ByteArray) (x4 : Int) (H : Heap) : R20 (m + 1) td20_100004 [.pointer x0, .int .i64 x1, .int .i64 x2, .string x3, .int .i64 x4] H =
    onSome x0 fun a5 =>
    ldc H a5.block fun cs6 =>
    onSome cs6[a5.off]? fun v7 =>
    kSl v7 fun a8 l9 c10 =>
    (match (decide (x4 ≤ ((l9 : Nat) : Int))) with
    | true => (onSome x0 fun a11 =>
    ldc H a11.block fun cs12 =>
    onSome cs12[a11.off]? fun v13 =>
    kSl v13 fun a14 l15 c16 =>
    onSome a14 fun a17 =>
    if 0 ≤ (IntKind.i64.wrap (x4 - (1 : Int))) ∧ (IntKind.i64.wrap (x4 - (1 : Int))) < (l15 : Nat) then
    ldc H ((a17.add ((IntKind.i64.wrap (x4 - (1 : Int))).toNat * 3)).block) fun cs18 =>
    if (a17.add ((IntKind.i64.wrap (x4 - (1 : Int))).toNat * 3)).off + 3 ≤ cs18.length then
    onSome (F53 [.agg ((range cs18 ((a17.add ((IntKind.i64.wrap (x4 - (1 : Int))).toNat * 3)).off) 3).toArray)] H) fun r19 =>
    kStr r19.1 fun s20 =>
    (match (!(x3.toList == (⟨#[]⟩ : ByteArray).toList)) with
    | true => ((match (decide (x2 < (IntKind.i64.wrap ((x3.size : Int) + (s20.size : Int))))) with
    | true => (R20 m td20_10 [.int .i64 x1, .string x3] r19.2)
    | false => (R20 m td20_8 [.pointer x0, .int .i64 x2, .string x3, .int .i64 x4, .string s20] r19.2)))
    | false => (R20 m td20_8 [.pointer x0, .int .i64 x2, .string x3, .int .i64 x4, .string s20] r19.2))
    else none
    else none)
    | false => (R20 m td20_10 [.int .i64 x1, .string x3] H)) := by kernel_rfl
-- (*sternpost/event.Log).Get
noncomputable def G21 : Fs := Fs.ext G20 20 F20
theorem A21 : AllSound Try.prog G21 := AllSound.ext A20 S20
noncomputable def cuts21 : Cuts := [(2, [4])]
noncomputable def td21_2 : List Item := todoOf Try.f21 2
noncomputable def F21 : List Value → Heap → R := FN Try.prog G21 Try.f21 cuts21
theorem S21 : Sound Try.prog 21 F21 := FN_sound A21 Try.func21 (by kernel_rfl) (by kernel_rfl)
noncomputable abbrev R21 (m : Nat) : List Item → List Value → Heap → R := run Try.prog G21 Try.f21 cuts21 m
theorem t21 (m : Nat) (x0 : Option Addr) (x1 : Int) (H : Heap) : fnE Try.prog G21 Try.f21 cuts21 m [.pointer x0, .int .i64 x1] H =
    let H2 := H ++ [.cells [.int .i64 (0 : Int), .int .i64 (0 : Int), .string (⟨#[]⟩ : ByteArray)] 0 true]
    (match (decide (x1 < (1 : Int))) with
    | true => (R21 m td21_2 [.pointer (some (⟨H.length, 0, none⟩ : Addr))] H2)
    | false => (onSome x0 fun a3 =>
    ldc H2 a3.block fun cs4 =>
    onSome cs4[a3.off]? fun v5 =>
    kSl v5 fun a6 l7 c8 =>
    (match (decide (((l7 : Nat) : Int) < x1)) with
    | true => (R21 m td21_2 [.pointer (some (⟨H.length, 0, none⟩ : Addr))] H2)
    | false => (onSome x0 fun a9 =>
    ldc H2 a9.block fun cs10 =>
    onSome cs10[a9.off]? fun v11 =>
    kSl v11 fun a12 l13 c14 =>
    onSome a12 fun a15 =>
    if 0 ≤ (IntKind.i64.wrap (x1 - (1 : Int))) ∧ (IntKind.i64.wrap (x1 - (1 : Int))) < (l13 : Nat) then
    ldc H2 ((a15.add ((IntKind.i64.wrap (x1 - (1 : Int))).toNat * 3)).block) fun cs16 =>
    if (a15.add ((IntKind.i64.wrap (x1 - (1 : Int))).toNat * 3)).off + 3 ≤ cs16.length then
    st 3 H2 (⟨H.length, 0, none⟩ : Addr) (.agg ((range cs16 ((a15.add ((IntKind.i64.wrap (x1 - (1 : Int))).toNat * 3)).off) 3).toArray)) fun _ H17 =>
    ldc H17 H.length fun cs18 =>
    if 0 + 3 ≤ cs18.length then
    some (.tuple #[.agg ((range cs18 0 3).toArray), .int .i64 (0 : Int)], H17)
    else none
    else none
    else none)))) := by kernel_rfl
theorem c21_2 (m : Nat) (x0 : Option Addr) (H : Heap) : R21 (m + 1) td21_2 [.pointer x0] H =
    onSome x0 fun a1 =>
    st 3 H a1 (.agg #[.int .i64 (0 : Int), .int .i64 (0 : Int), .string (⟨#[]⟩ : ByteArray)]) fun _ H2 =>
    onSome x0 fun a3 =>
    ldc H2 a3.block fun cs4 =>
    if a3.off + 3 ≤ cs4.length then
    some (.tuple #[.agg ((range cs4 a3.off 3).toArray), .int .i64 (5 : Int)], H2)
    else none := by kernel_rfl
-- (*sternpost/sternpostref23.Log).Get
noncomputable def G22 : Fs := Fs.ext G21 21 F21
theorem A22 : AllSound Try.prog G22 := AllSound.ext A21 S21
noncomputable def cuts22 : Cuts := [(2, [4])]
noncomputable def td22_2 : List Item := todoOf Try.f22 2
noncomputable def F22 : List Value → Heap → R := FN Try.prog G22 Try.f22 cuts22
theorem S22 : Sound Try.prog 22 F22 := FN_sound A22 Try.func22 (by kernel_rfl) (by kernel_rfl)
noncomputable abbrev R22 (m : Nat) : List Item → List Value → Heap → R := run Try.prog G22 Try.f22 cuts22 m
theorem t22 (m : Nat) (x0 : Option Addr) (x1 : Int) (H : Heap) : fnE Try.prog G22 Try.f22 cuts22 m [.pointer x0, .int .i64 x1] H =
    let H2 := H ++ [.cells [.int .i64 (0 : Int), .int .i64 (0 : Int), .string (⟨#[]⟩ : ByteArray)] 0 true]
    (match (decide (x1 < (1 : Int))) with
    | true => (R22 m td22_2 [.pointer (some (⟨H.length, 0, none⟩ : Addr))] H2)
    | false => (onSome x0 fun a3 =>
    ldc H2 a3.block fun cs4 =>
    onSome cs4[a3.off]? fun v5 =>
    kSl v5 fun a6 l7 c8 =>
    (match (decide (((l7 : Nat) : Int) < x1)) with
    | true => (R22 m td22_2 [.pointer (some (⟨H.length, 0, none⟩ : Addr))] H2)
    | false => (onSome x0 fun a9 =>
    ldc H2 a9.block fun cs10 =>
    onSome cs10[a9.off]? fun v11 =>
    kSl v11 fun a12 l13 c14 =>
    onSome a12 fun a15 =>
    if 0 ≤ (IntKind.i64.wrap (x1 - (1 : Int))) ∧ (IntKind.i64.wrap (x1 - (1 : Int))) < (l13 : Nat) then
    ldc H2 ((a15.add ((IntKind.i64.wrap (x1 - (1 : Int))).toNat * 3)).block) fun cs16 =>
    if (a15.add ((IntKind.i64.wrap (x1 - (1 : Int))).toNat * 3)).off + 3 ≤ cs16.length then
    st 3 H2 (⟨H.length, 0, none⟩ : Addr) (.agg ((range cs16 ((a15.add ((IntKind.i64.wrap (x1 - (1 : Int))).toNat * 3)).off) 3).toArray)) fun _ H17 =>
    ldc H17 H.length fun cs18 =>
    if 0 + 3 ≤ cs18.length then
    some (.tuple #[.agg ((range cs18 0 3).toArray), .int .i64 (0 : Int)], H17)
    else none
    else none
    else none)))) := by kernel_rfl
theorem c22_2 (m : Nat) (x0 : Option Addr) (H : Heap) : R22 (m + 1) td22_2 [.pointer x0] H =
    onSome x0 fun a1 =>
    st 3 H a1 (.agg #[.int .i64 (0 : Int), .int .i64 (0 : Int), .string (⟨#[]⟩ : ByteArray)]) fun _ H2 =>
    onSome x0 fun a3 =>
    ldc H2 a3.block fun cs4 =>
    if a3.off + 3 ≤ cs4.length then
    some (.tuple #[.agg ((range cs4 a3.off 3).toArray), .int .i64 (5 : Int)], H2)
    else none := by kernel_rfl
-- sternpost/sternpostlaw23.EventLogs
noncomputable def G4 : Fs := Fs.ext G22 22 F22
theorem A4 : AllSound Try.prog G4 := AllSound.ext A22 S22
noncomputable def cuts4 : Cuts := [(100005, [0, 1, 5, 7, 8, 9]), (10, []), (11, [1, 5, 7, 8]), (3, [])]
noncomputable def td4_100005 : List Item := todoOf Try.f4 100005
noncomputable def td4_10 : List Item := todoOf Try.f4 10
noncomputable def td4_11 : List Item := todoOf Try.f4 11
noncomputable def td4_3 : List Item := todoOf Try.f4 3
noncomputable def F4 : List Value → Heap → R := FN Try.prog G4 Try.f4 cuts4
theorem S4 : Sound Try.prog 4 F4 := FN_sound A4 Try.func4 (by kernel_rfl) (by kernel_rfl)
noncomputable abbrev R4 (m : Nat) : List Item → List Value → Heap → R := run Try.prog G4 Try.f4 cuts4 m
theorem t4 (m : Nat) (a0 : Option Addr) (l1 : Nat) (c2 : Nat) (x3 : Int) (x4 : Int) (x5 : Int) (H : Heap) : fnE Try.prog G4 Try.f4 cuts4 m [.slice a0 l1 c2, .int .i64 x3, .agg #[.int .i64 x4, .int .i64 x5]] H =
    let H6 := H ++ [.cells [.int .i64 x4, .int .i64 x5] 0 true]
    onSome (F12 [] H6) fun r7 =>
    kPtr r7.1 fun p8 =>
    let H9 := r7.2 ++ [.cells [.slice none 0 0] 0 true]
    (match p8.isNone with
    | true => (R4 m td4_3 [] H9)
    | false => (onSome (F13 [] H9) fun r10 =>
    kBool r10.1 fun b11 =>
    (match (!b11) with
    | true => (R4 m td4_3 [] r10.2)
    | false => (R4 m td4_100005 [.slice a0 l1 c2, .int .i64 x3, .pointer (some (⟨H.length, 0, none⟩ : Addr)), .pointer p8, .pointer (some (⟨r7.2.length, 0, none⟩ : Addr)), .int .i64 (0 : Int)] r10.2)))) := by kernel_rfl
theorem c4_3 (m : Nat)  (H : Heap) : R4 (m + 1) td4_3 [] H =
    some (.bool false, H) := by kernel_rfl
theorem c4_10 (m : Nat)  (H : Heap) : R4 (m + 1) td4_10 [] H =
    some (.bool false, H) := by kernel_rfl
theorem c4_11 (m : Nat) (x0 : Int) (x1 : Option Addr) (x2 : Option Addr) (x3 : Option Addr) (H : Heap) : R4 (m + 1) td4_11 [.int .i64 x0, .pointer x1, .pointer x2, .pointer x3] H =
    onSome x1 fun a4 =>
    if 0 ≤ (0 : Int) ∧ (0 : Int) < (2 : Nat) then
    ldc H ((a4.add ((0 : Int).toNat * 1)).block) fun cs5 =>
    onSome cs5[(a4.add ((0 : Int).toNat * 1)).off]? fun v6 =>
    kInt .i64 v6 fun n7 =>
    onSome (F19 [.pointer x2, .int .i64 x0, .int .i64 n7] H) fun r8 =>
    kTup r8.1 fun vs9 =>
    onSome vs9[0]? fun v10 =>
    kStr v10 fun s11 =>
    kTup r8.1 fun vs12 =>
    onSome vs12[1]? fun v13 =>
    kInt .i64 v13 fun n14 =>
    onSome x1 fun a15 =>
    if 0 ≤ (0 : Int) ∧ (0 : Int) < (2 : Nat) then
    ldc r8.2 ((a15.add ((0 : Int).toNat * 1)).block) fun cs16 =>
    onSome cs16[(a15.add ((0 : Int).toNat * 1)).off]? fun v17 =>
    kInt .i64 v17 fun n18 =>
    onSome (F20 [.pointer x3, .int .i64 x0, .int .i64 n18] r8.2) fun r19 =>
    kTup r19.1 fun vs20 =>
    onSome vs20[0]? fun v21 =>
    kStr v21 fun s22 =>
    kTup r19.1 fun vs23 =>
    onSome vs23[1]? fun v24 =>
    kInt .i64 v24 fun n25 =>
    onSome x1 fun a26 =>
    if 0 ≤ (1 : Int) ∧ (1 : Int) < (2 : Nat) then
    ldc r19.2 ((a26.add ((1 : Int).toNat * 1)).block) fun cs27 =>
    onSome cs27[(a26.add ((1 : Int).toNat * 1)).off]? fun v28 =>
    kInt .i64 v28 fun n29 =>
    onSome (F21 [.pointer x2, .int .i64 n29] r19.2) fun r30 =>
    kTup r30.1 fun vs31 =>
    onSome vs31[0]? fun v32 =>
    kAgg v32 fun cs33 =>
    if cs33.size = 3 then
    kTup r30.1 fun vs34 =>
    onSome vs34[1]? fun v35 =>
    kInt .i64 v35 fun n36 =>
    let H37 := r30.2 ++ [.cells [.int .i64 (0 : Int), .int .i64 (0 : Int), .string (⟨#[]⟩ : ByteArray)] 0 true]
    st 3 H37 (⟨r30.2.length, 0, none⟩ : Addr) (.agg cs33) fun _ H38 =>
    onSome x1 fun a39 =>
    if 0 ≤ (1 : Int) ∧ (1 : Int) < (2 : Nat) then
    ldc H38 ((a39.add ((1 : Int).toNat * 1)).block) fun cs40 =>
    onSome cs40[(a39.add ((1 : Int).toNat * 1)).off]? fun v41 =>
    kInt .i64 v41 fun n42 =>
    onSome (F22 [.pointer x3, .int .i64 n42] H38) fun r43 =>
    kTup r43.1 fun vs44 =>
    onSome vs44[0]? fun v45 =>
    kAgg v45 fun cs46 =>
    if cs46.size = 3 then
    kTup r43.1 fun vs47 =>
    onSome vs47[1]? fun v48 =>
    kInt .i64 v48 fun n49 =>
    let H50 := r43.2 ++ [.cells [.int .i64 (0 : Int), .int .i64 (0 : Int), .string (⟨#[]⟩ : ByteArray)] 0 true]
    st 3 H50 (⟨r43.2.length, 0, none⟩ : Addr) (.agg cs46) fun _ H51 =>
    (match (s11.toList == s22.toList) with
    | true => ((match (n14 == n25) with
    | true => (ldc H51 r30.2.length fun cs52 =>
    if 0 + 3 ≤ cs52.length then
    ldc H51 r43.2.length fun cs53 =>
    if 0 + 3 ≤ cs53.length then
    eqv Try.prog 20 40 (.agg ((range cs52 0 3).toArray)) (.agg ((range cs53 0 3).toArray)) fun r54 =>
    (match r54 with
    | true => (some (.bool (n36 == n49), H51))
    | false => (some (.bool false, H51)))
    else none
    else none)
    | false => (some (.bool false, H51))))
    | false => (some (.bool false, H51)))
    else none
    else none
    else none
    else none
    else none
    else none := by kernel_rfl
theorem c4_100005 (m : Nat) (a0 : Option Addr) (l1 : Nat) (c2 : Nat) (x3 : Int) (x4 : Option Addr) (x5 : Option Addr) (x6 : Option Addr) (x7 : Int) (H : Heap) : R4 (m + 1) td4_100005 [.slice a0 l1 c2, .int .i64 x3, .pointer x4, .pointer x5, .pointer x6, .int .i64 x7] H =
    (match (decide (x7 < ((l1 : Nat) : Int))) with
    | true => ((match (decide (x7 < (100 : Int))) with
    | true => (onSome a0 fun a8 =>
    if 0 ≤ x7 ∧ x7 < (l1 : Nat) then
    ldc H ((a8.add (x7.toNat * 3)).block) fun cs9 =>
    if (a8.add (x7.toNat * 3)).off + 3 ≤ cs9.length then
    onSome (F14 [.pointer x5, .agg ((range cs9 ((a8.add (x7.toNat * 3)).off) 3).toArray)] H) fun r10 =>
    kTup r10.1 fun vs11 =>
    onSome vs11[0]? fun v12 =>
    kInt .i64 v12 fun n13 =>
    kTup r10.1 fun vs14 =>
    onSome vs14[1]? fun v15 =>
    kInt .i64 v15 fun n16 =>
    onSome a0 fun a17 =>
    if 0 ≤ x7 ∧ x7 < (l1 : Nat) then
    ldc r10.2 ((a17.add (x7.toNat * 3)).block) fun cs18 =>
    if (a17.add (x7.toNat * 3)).off + 3 ≤ cs18.length then
    onSome (F15 [.pointer x6, .agg ((range cs18 ((a17.add (x7.toNat * 3)).off) 3).toArray)] r10.2) fun r19 =>
    kTup r19.1 fun vs20 =>
    onSome vs20[0]? fun v21 =>
    kInt .i64 v21 fun n22 =>
    kTup r19.1 fun vs23 =>
    onSome vs23[1]? fun v24 =>
    kInt .i64 v24 fun n25 =>
    (match (n13 != n22) with
    | true => (R4 m td4_10 [] r19.2)
    | false => ((match (n16 != n25) with
    | true => (R4 m td4_10 [] r19.2)
    | false => (onSome x6 fun a26 =>
    ldc r19.2 a26.block fun cs27 =>
    onSome cs27[a26.off]? fun v28 =>
    kSl v28 fun a29 l30 c31 =>
    onSome (F16 [.pointer x5] r19.2) fun r32 =>
    kInt .i64 r32.1 fun n33 =>
    unt r19.2 r32.2 a26.block (
    (match (n33 != ((l30 : Nat) : Int)) with
    | true => (R4 m td4_10 [] r32.2)
    | false => (onSome (F17 [.pointer x5] r32.2) fun r34 =>
    kInt .i64 r34.1 fun n35 =>
    onSome (F18 [.pointer x6] r34.2) fun r36 =>
    kInt .i64 r36.1 fun n37 =>
    (match (n35 != n37) with
    | true => (R4 m td4_10 [] r36.2)
    | false => (R4 m td4_100005 [.slice a0 l1 c2, .int .i64 x3, .pointer x4, .pointer x5, .pointer x6, .int .i64 (IntKind.i64.wrap (x7 + (1 : Int)))] r36.2)))))))))
    else none
    else none
    else none
    else none)
    | false => (R4 m td4_11 [.int .i64 x3, .pointer x4, .pointer x5, .pointer x6] H)))
    | false => (R4 m td4_11 [.int .i64 x3, .pointer x4, .pointer x5, .pointer x6] H)) := by kernel_rfl
end Go.Proofs.Yticchkdbanhjfaa
