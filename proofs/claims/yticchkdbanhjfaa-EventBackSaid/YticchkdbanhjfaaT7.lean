/- PRINTED by a program of the session (Pr.lean): what functions of the program come to on the abstract heap, each checked by the kernel. Conditions: none. -/
import Derived.Test.YticchkdbanhjfaaT6
set_option linter.unusedVariables false
namespace Go.Proofs.Yticchkdbanhjfaa
open Go Go.Proofs.Yticchkdbanhjfaa.Fw Go.RowKit
-- sternpost/sum.Get
noncomputable def G87 : Fs := Fs.ext G4 4 F4
theorem A87 : AllSound Try.prog G87 := AllSound.ext A4 S4
noncomputable def cuts87 : Cuts := [(100005, [8, 35, 36, 37]), (2, [])]
noncomputable def td87_100005 : List Item := todoOf Try.f87 100005
noncomputable def td87_2 : List Item := todoOf Try.f87 2
noncomputable def F87 : List Value → Heap → R := FN Try.prog G87 Try.f87 cuts87
theorem S87 : Sound Try.prog 87 F87 := FN_sound A87 Try.func87 (by kernel_rfl) (by kernel_rfl)
noncomputable abbrev R87 (m : Nat) : List Item → List Value → Heap → R := run Try.prog G87 Try.f87 cuts87 m
theorem t87 (m : Nat) (x0 : ByteArray) (x1 : Int) (x2 : Int) (H : Heap) : fnE Try.prog G87 Try.f87 cuts87 m [.string x0, .int .i64 x1, .int .i64 x2] H =
    (match (decide (x2 < (1 : Int))) with
    | true => (R87 m td87_2 [] H)
    | false => ((match (decide ((6 : Int) < x2)) with
    | true => (R87 m td87_2 [] H)
    | false => ((match (decide (x1 < (0 : Int))) with
    | true => (R87 m td87_2 [] H)
    | false => ((match (decide ((IntKind.i64.wrap ((x0.size : Int) - x2)) < x1)) with
    | true => (R87 m td87_2 [] H)
    | false => (slStr x0 x1 (IntKind.i64.wrap (x1 + x2)) fun v3 =>
    kStr v3 fun s4 =>
    if s4.size ≤ 140737488351232 then
    let H5 := H ++ [.cells (s4.data.toList.map fun b => .int .u8 b.toNat) 1 true]
    R87 m td87_100005 [.int .i64 (0 : Int), .slice (some ⟨H.length, 0, none⟩) s4.size unk, .int .i64 ((s4.size : Nat) : Int), .int .i64 (0 : Int)] H5
    else none)))))))) := by kernel_rfl
theorem c87_2 (m : Nat)  (H : Heap) : R87 (m + 1) td87_2 [] H =
    some (.tuple #[.int .i64 (0 : Int), .int .i64 (1 : Int)], H) := by kernel_rfl
theorem c87_100005 (m : Nat) (x0 : Int) (a1 : Option Addr) (l2 : Nat) (c3 : Nat) (x4 : Int) (x5 : Int) (H : Heap) : R87 (m + 1) td87_100005 [.int .i64 x0, .slice a1 l2 c3, .int .i64 x4, .int .i64 x5] H =
    (match (decide (x5 < x4)) with
    | true => (onSome a1 fun a6 =>
    if 0 ≤ x5 ∧ x5 < (l2 : Nat) then
    ldc H ((a6.add (x5.toNat * 1)).block) fun cs7 =>
    onSome cs7[(a6.add (x5.toNat * 1)).off]? fun v8 =>
    kInt .u8 v8 fun n9 =>
    if (8 : Int) < 0 then none else
    R87 m td87_100005 [.int .i64 (bits .or .i64 (IntKind.i64.wrap (x0 * 2 ^ (min (8 : Int).toNat IntKind.i64.bits))) (IntKind.i64.wrap n9)), .slice a1 l2 c3, .int .i64 x4, .int .i64 (IntKind.i64.wrap (x5 + (1 : Int)))] H
    else none)
    | false => (some (.tuple #[.int .i64 x0, .int .i64 (0 : Int)], H))) := by kernel_rfl
-- sternpost/event.first
noncomputable def G73 : Fs := Fs.ext G87 87 F87
theorem A73 : AllSound Try.prog G73 := AllSound.ext A87 S87
noncomputable def cuts73 : Cuts := [(3, [2])]
noncomputable def td73_3 : List Item := todoOf Try.f73 3
noncomputable def F73 : List Value → Heap → R := FN Try.prog G73 Try.f73 cuts73
theorem S73 : Sound Try.prog 73 F73 := FN_sound A73 Try.func73 (by kernel_rfl) (by kernel_rfl)
noncomputable abbrev R73 (m : Nat) : List Item → List Value → Heap → R := run Try.prog G73 Try.f73 cuts73 m
theorem t73 (m : Nat) (x0 : ByteArray) (H : Heap) : fnE Try.prog G73 Try.f73 cuts73 m [.string x0] H =
    let H1 := H ++ [.cells [.int .i64 (0 : Int), .int .i64 (0 : Int), .string (⟨#[]⟩ : ByteArray)] 0 true]
    onSome (F87 [.string x0, .int .i64 (7 : Int), .int .i64 (2 : Int)] H1) fun r2 =>
    kTup r2.1 fun vs3 =>
    onSome vs3[0]? fun v4 =>
    kInt .i64 v4 fun n5 =>
    kTup r2.1 fun vs6 =>
    onSome vs6[1]? fun v7 =>
    kInt .i64 v7 fun n8 =>
    (match (n8 != (0 : Int)) with
    | true => (R73 m td73_3 [.pointer (some (⟨H.length, 0, none⟩ : Addr))] r2.2)
    | false => ((match (decide ((IntKind.i64.wrap ((x0.size : Int) - (9 : Int))) < n5)) with
    | true => (R73 m td73_3 [.pointer (some (⟨H.length, 0, none⟩ : Addr))] r2.2)
    | false => (onSome (F87 [.string x0, .int .i64 (0 : Int), .int .i64 (1 : Int)] r2.2) fun r9 =>
    kTup r9.1 fun vs10 =>
    onSome vs10[0]? fun v11 =>
    kInt .i64 v11 fun n12 =>
    kTup r9.1 fun vs13 =>
    onSome vs13[1]? fun v14 =>
    kInt .i64 v14 fun n15 =>
    st 1 r9.2 (⟨H.length, 0, none⟩ : Addr) (.int .i64 n12) fun _ H16 =>
    onSome (F87 [.string x0, .int .i64 (1 : Int), .int .i64 (6 : Int)] H16) fun r17 =>
    kTup r17.1 fun vs18 =>
    onSome vs18[0]? fun v19 =>
    kInt .i64 v19 fun n20 =>
    kTup r17.1 fun vs21 =>
    onSome vs21[1]? fun v22 =>
    kInt .i64 v22 fun n23 =>
    st 1 r17.2 (⟨H.length, 0 + 1, none⟩ : Addr) (.int .i64 n20) fun _ H24 =>
    slStr x0 (9 : Int) (IntKind.i64.wrap ((9 : Int) + n5)) fun v25 =>
    kStr v25 fun s26 =>
    st 1 H24 (⟨H.length, 0 + 2, none⟩ : Addr) (.string s26) fun _ H27 =>
    ldc H27 H.length fun cs28 =>
    if 0 + 3 ≤ cs28.length then
    slStr x0 (IntKind.i64.wrap ((9 : Int) + n5)) (x0.size : Int) fun v29 =>
    kStr v29 fun s30 =>
    ldc H27 H.length fun cs31 =>
    if 0 + 3 ≤ cs31.length then
    onSome (F47 [.agg ((range cs31 0 3).toArray)] H27) fun r32 =>
    kInt .i64 r32.1 fun n33 =>
    unt H27 r32.2 H.length (
    st 3 r32.2 (⟨H.length, 0, none⟩ : Addr) (.agg ((range cs28 0 3).toArray)) fun _ H34 =>
    ldc H34 H.length fun cs35 =>
    if 0 + 3 ≤ cs35.length then
    some (.tuple #[.agg ((range cs35 0 3).toArray), .string s30, .bool (n33 == (0 : Int))], H34)
    else none)
    else none
    else none)))) := by kernel_rfl
theorem c73_3 (m : Nat) (x0 : Option Addr) (H : Heap) : R73 (m + 1) td73_3 [.pointer x0] H =
    onSome x0 fun a1 =>
    ldc H a1.block fun cs2 =>
    if a1.off + 3 ≤ cs2.length then
    onSome x0 fun a3 =>
    st 3 H a3 (.agg ((range cs2 a1.off 3).toArray)) fun _ H4 =>
    onSome x0 fun a5 =>
    ldc H4 a5.block fun cs6 =>
    if a5.off + 3 ≤ cs6.length then
    some (.tuple #[.agg ((range cs6 a5.off 3).toArray), .string (⟨#[]⟩ : ByteArray), .bool false], H4)
    else none
    else none := by kernel_rfl
-- sternpost/event.Decode
noncomputable def G42 : Fs := Fs.ext G73 73 F73
theorem A42 : AllSound Try.prog G42 := AllSound.ext A73 S73
noncomputable def cuts42 : Cuts := [(3, [2])]
noncomputable def td42_3 : List Item := todoOf Try.f42 3
noncomputable def F42 : List Value → Heap → R := FN Try.prog G42 Try.f42 cuts42
theorem S42 : Sound Try.prog 42 F42 := FN_sound A42 Try.func42 (by kernel_rfl) (by kernel_rfl)
noncomputable abbrev R42 (m : Nat) : List Item → List Value → Heap → R := run Try.prog G42 Try.f42 cuts42 m
theorem t42 (m : Nat) (x0 : ByteArray) (H : Heap) : fnE Try.prog G42 Try.f42 cuts42 m [.string x0] H =
    let H1 := H ++ [.cells [.int .i64 (0 : Int), .int .i64 (0 : Int), .string (⟨#[]⟩ : ByteArray)] 0 true]
    onSome (F73 [.string x0] H1) fun r2 =>
    kTup r2.1 fun vs3 =>
    onSome vs3[0]? fun v4 =>
    kAgg v4 fun cs5 =>
    if cs5.size = 3 then
    kTup r2.1 fun vs6 =>
    onSome vs6[1]? fun v7 =>
    kStr v7 fun s8 =>
    kTup r2.1 fun vs9 =>
    onSome vs9[2]? fun v10 =>
    kBool v10 fun b11 =>
    let H12 := r2.2 ++ [.cells [.int .i64 (0 : Int), .int .i64 (0 : Int), .string (⟨#[]⟩ : ByteArray)] 0 true]
    st 3 H12 (⟨r2.2.length, 0, none⟩ : Addr) (.agg cs5) fun _ H13 =>
    (match (!b11) with
    | true => (R42 m td42_3 [.pointer (some (⟨H.length, 0, none⟩ : Addr))] H13)
    | false => ((match (!(s8.toList == (⟨#[]⟩ : ByteArray).toList)) with
    | true => (R42 m td42_3 [.pointer (some (⟨H.length, 0, none⟩ : Addr))] H13)
    | false => (ldc H13 r2.2.length fun cs14 =>
    if 0 + 3 ≤ cs14.length then
    st 3 H13 (⟨H.length, 0, none⟩ : Addr) (.agg ((range cs14 0 3).toArray)) fun _ H15 =>
    ldc H15 H.length fun cs16 =>
    if 0 + 3 ≤ cs16.length then
    some (.tuple #[.agg ((range cs16 0 3).toArray), .int .i64 (0 : Int)], H15)
    else none
    else none))))
    else none := by kernel_rfl
theorem c42_3 (m : Nat) (x0 : Option Addr) (H : Heap) : R42 (m + 1) td42_3 [.pointer x0] H =
    onSome x0 fun a1 =>
    st 3 H a1 (.agg #[.int .i64 (0 : Int), .int .i64 (0 : Int), .string (⟨#[]⟩ : ByteArray)]) fun _ H2 =>
    onSome x0 fun a3 =>
    ldc H2 a3.block fun cs4 =>
    if a3.off + 3 ≤ cs4.length then
    some (.tuple #[.agg ((range cs4 a3.off 3).toArray), .int .i64 (230 : Int)], H2)
    else none := by kernel_rfl
-- sternpost/sternpostbook.Among
noncomputable def G23 : Fs := Fs.ext G42 42 F42
theorem A23 : AllSound Try.prog G23 := AllSound.ext A42 S42
noncomputable def cuts23 : Cuts := []
noncomputable def F23 : List Value → Heap → R := FN Try.prog G23 Try.f23 cuts23
theorem S23 : Sound Try.prog 23 F23 := FN_sound A23 Try.func23 (by kernel_rfl) (by kernel_rfl)
noncomputable abbrev R23 (m : Nat) : List Item → List Value → Heap → R := run Try.prog G23 Try.f23 cuts23 m
theorem t23 (m : Nat) (x0 : Int) (x1 : Int) (H : Heap) : fnE Try.prog G23 Try.f23 cuts23 m [.int .i64 x0, .int .i64 x1] H =
    if x1 = 0 then none else
    if x1 = 0 then none else
    some (.int .i64 ((IntKind.i64.wrap ((x0.tmod x1) + x1)).tmod x1), H) := by kernel_rfl
-- sternpost/event.Parts
noncomputable def G44 : Fs := Fs.ext G23 23 F23
theorem A44 : AllSound Try.prog G44 := AllSound.ext A23 S23
noncomputable def cuts44 : Cuts := [(100004, [0, 4])]
noncomputable def td44_100004 : List Item := todoOf Try.f44 100004
noncomputable def F44 : List Value → Heap → R := FN Try.prog G44 Try.f44 cuts44
theorem S44 : Sound Try.prog 44 F44 := FN_sound A44 Try.func44 (by kernel_rfl) (by kernel_rfl)
noncomputable abbrev R44 (m : Nat) : List Item → List Value → Heap → R := run Try.prog G44 Try.f44 cuts44 m
theorem t44 (m : Nat) (x0 : ByteArray) (H : Heap) : fnE Try.prog G44 Try.f44 cuts44 m [.string x0] H =
    (match (decide ((65536 : Int) < (x0.size : Int))) with
    | true => (some (.tuple #[.slice none 0 0, .int .i64 (2 : Int)], H))
    | false => (R44 m td44_100004 [.string x0, .slice none 0 0] H)) := by kernel_rfl
theorem c44_100004 (m : Nat) (x0 : ByteArray) (a1 : Option Addr) (l2 : Nat) (c3 : Nat) (H : Heap) : R44 (m + 1) td44_100004 [.string x0, .slice a1 l2 c3] H =
    (match (!(x0.toList == (⟨#[]⟩ : ByteArray).toList)) with
    | true => (onSome (F73 [.string x0] H) fun r4 =>
    kTup r4.1 fun vs5 =>
    onSome vs5[0]? fun v6 =>
    kAgg v6 fun cs7 =>
    if cs7.size = 3 then
    kTup r4.1 fun vs8 =>
    onSome vs8[1]? fun v9 =>
    kStr v9 fun s10 =>
    kTup r4.1 fun vs11 =>
    onSome vs11[2]? fun v12 =>
    kBool v12 fun b13 =>
    let H14 := r4.2 ++ [.cells [.int .i64 (0 : Int), .int .i64 (0 : Int), .string (⟨#[]⟩ : ByteArray)] 0 true]
    st 3 H14 (⟨r4.2.length, 0, none⟩ : Addr) (.agg cs7) fun _ H15 =>
    (match (!b13) with
    | true => (some (.tuple #[.slice none 0 0, .int .i64 (230 : Int)], H15))
    | false => (ldc H15 r4.2.length fun cs16 =>
    if 0 + 3 ≤ cs16.length then
    cellsOks [.agg ((range cs16 0 3).toArray)] (onSome (Instr.fill (fun i => some (i * 3, 3)) ([.int .i64 (0 : Int), .int .i64 (0 : Int), .string (⟨#[]⟩ : ByteArray)] : List Value).toArray (([0] : List Nat).zip [.agg ((range cs16 0 3).toArray)])) fun cells17 =>
    let H18 := H15 ++ [.cells cells17.toList 3 true]
    firstC H18 3 (.slice (some ⟨H15.length, 0, none⟩) 1 1) fun n19 nw20 =>
    app Try.prog 40 H18 (.slice a1 l2 c3) n19 nw20 fun v21 H22 =>
    kSl v21 fun a23 l24 c25 =>
    R44 m td44_100004 [.string s10, .slice a23 l24 c25] H22)
    else none))
    else none)
    | false => (some (.tuple #[.slice a1 l2 c3, .int .i64 (0 : Int)], H))) := by kernel_rfl
-- sternpost/sternpostlaw23.sameEvents
noncomputable def G45 : Fs := Fs.ext G44 44 F44
theorem A45 : AllSound Try.prog G45 := AllSound.ext A44 S44
noncomputable def cuts45 : Cuts := [(100004, [0, 1, 5])]
noncomputable def td45_100004 : List Item := todoOf Try.f45 100004
noncomputable def F45 : List Value → Heap → R := FN Try.prog G45 Try.f45 cuts45
theorem S45 : Sound Try.prog 45 F45 := FN_sound A45 Try.func45 (by kernel_rfl) (by kernel_rfl)
noncomputable abbrev R45 (m : Nat) : List Item → List Value → Heap → R := run Try.prog G45 Try.f45 cuts45 m
theorem t45 (m : Nat) (a0 : Option Addr) (l1 : Nat) (c2 : Nat) (a3 : Option Addr) (l4 : Nat) (c5 : Nat) (H : Heap) : fnE Try.prog G45 Try.f45 cuts45 m [.slice a0 l1 c2, .slice a3 l4 c5] H =
    (match (((l1 : Nat) : Int) != ((l4 : Nat) : Int)) with
    | true => (some (.bool false, H))
    | false => (R45 m td45_100004 [.slice a0 l1 c2, .slice a3 l4 c5, .int .i64 (0 : Int)] H)) := by kernel_rfl
theorem c45_100004 (m : Nat) (a0 : Option Addr) (l1 : Nat) (c2 : Nat) (a3 : Option Addr) (l4 : Nat) (c5 : Nat) (x6 : Int) (H : Heap) : R45 (m + 1) td45_100004 [.slice a0 l1 c2, .slice a3 l4 c5, .int .i64 x6] H =
    (match (decide (x6 < ((l1 : Nat) : Int))) with
    | true => (onSome a0 fun a7 =>
    if 0 ≤ x6 ∧ x6 < (l1 : Nat) then
    ldc H ((a7.add (x6.toNat * 3)).block) fun cs8 =>
    if (a7.add (x6.toNat * 3)).off + 3 ≤ cs8.length then
    onSome a3 fun a9 =>
    if 0 ≤ x6 ∧ x6 < (l4 : Nat) then
    ldc H ((a9.add (x6.toNat * 3)).block) fun cs10 =>
    if (a9.add (x6.toNat * 3)).off + 3 ≤ cs10.length then
    eqv Try.prog 20 40 (.agg ((range cs8 ((a7.add (x6.toNat * 3)).off) 3).toArray)) (.agg ((range cs10 ((a9.add (x6.toNat * 3)).off) 3).toArray)) fun r11 =>
    (match (!r11) with
    | true => (some (.bool false, H))
    | false => (R45 m td45_100004 [.slice a0 l1 c2, .slice a3 l4 c5, .int .i64 (IntKind.i64.wrap (x6 + (1 : Int)))] H))
    else none
    else none
    else none
    else none)
    | false => (some (.bool true, H))) := by kernel_rfl
-- sternpost/sternpostlaw23.EventBack
noncomputable def G9 : Fs := Fs.ext G45 45 F45
theorem A9 : AllSound Try.prog G9 := AllSound.ext A45 S45
noncomputable def cuts9 : Cuts := [(100014, [0, 2, 11, 12, 13, 14]), (100029, [2, 11, 12, 22, 23]), (15, [0, 2, 11, 12, 13, 14]), (33, []), (34, [2, 11, 12, 22, 25, 26]), (23, []), (26, [2, 11, 12]), (7, []), (8, [0, 2])]
noncomputable def td9_100014 : List Item := todoOf Try.f9 100014
noncomputable def td9_100029 : List Item := todoOf Try.f9 100029
noncomputable def td9_15 : List Item := todoOf Try.f9 15
noncomputable def td9_33 : List Item := todoOf Try.f9 33
noncomputable def td9_34 : List Item := todoOf Try.f9 34
noncomputable def td9_23 : List Item := todoOf Try.f9 23
noncomputable def td9_26 : List Item := todoOf Try.f9 26
noncomputable def td9_7 : List Item := todoOf Try.f9 7
noncomputable def td9_8 : List Item := todoOf Try.f9 8
noncomputable def F9 : List Value → Heap → R := FN Try.prog G9 Try.f9 cuts9
theorem S9 : Sound Try.prog 9 F9 := FN_sound A9 Try.func9 (by kernel_rfl) (by kernel_rfl)
noncomputable abbrev R9 (m : Nat) : List Item → List Value → Heap → R := run Try.prog G9 Try.f9 cuts9 m
theorem t9 (m : Nat) (a0 : Option Addr) (l1 : Nat) (c2 : Nat) (x3 : ByteArray) (x4 : Int) (H : Heap) : fnE Try.prog G9 Try.f9 cuts9 m [.slice a0 l1 c2, .string x3, .int .i64 x4] H =
    onSome (F13 [] H) fun r5 =>
    kBool r5.1 fun b6 =>
    (match (!b6) with
    | true => (some (.bool false, r5.2))
    | false => (onSome (F42 [.string x3] r5.2) fun r7 =>
    kTup r7.1 fun vs8 =>
    onSome vs8[0]? fun v9 =>
    kAgg v9 fun cs10 =>
    if cs10.size = 3 then
    kTup r7.1 fun vs11 =>
    onSome vs11[1]? fun v12 =>
    kInt .i64 v12 fun n13 =>
    let H14 := r7.2 ++ [.cells [.int .i64 (0 : Int), .int .i64 (0 : Int), .string (⟨#[]⟩ : ByteArray)] 0 true]
    st 3 H14 (⟨r7.2.length, 0, none⟩ : Addr) (.agg cs10) fun _ H15 =>
    (match (n13 == (0 : Int)) with
    | true => (ldc H15 r7.2.length fun cs16 =>
    if 0 + 3 ≤ cs16.length then
    onSome (F43 [.agg ((range cs16 0 3).toArray)] H15) fun r17 =>
    kTup r17.1 fun vs18 =>
    onSome vs18[0]? fun v19 =>
    kStr v19 fun s20 =>
    kTup r17.1 fun vs21 =>
    onSome vs21[1]? fun v22 =>
    kInt .i64 v22 fun n23 =>
    (match (n23 != (0 : Int)) with
    | true => (R9 m td9_7 [] r17.2)
    | false => ((match (!(s20.toList == x3.toList)) with
    | true => (R9 m td9_7 [] r17.2)
    | false => (R9 m td9_8 [.slice a0 l1 c2, .int .i64 x4] r17.2))))
    else none)
    | false => (R9 m td9_8 [.slice a0 l1 c2, .int .i64 x4] H15))
    else none)) := by kernel_rfl
theorem c9_7 (m : Nat)  (H : Heap) : R9 (m + 1) td9_7 [] H =
    some (.bool false, H) := by kernel_rfl
theorem c9_8 (m : Nat) (a0 : Option Addr) (l1 : Nat) (c2 : Nat) (x3 : Int) (H : Heap) : R9 (m + 1) td9_8 [.slice a0 l1 c2, .int .i64 x3] H =
    onSome (F12 [] H) fun r4 =>
    kPtr r4.1 fun p5 =>
    (match p5.isNone with
    | true => (some (.bool false, r4.2))
    | false => (R9 m td9_100014 [.slice a0 l1 c2, .int .i64 x3, .pointer p5, .slice none 0 0, .int .i64 (0 : Int), .int .i64 (0 : Int)] r4.2)) := by kernel_rfl
theorem c9_15 (m : Nat) (a0 : Option Addr) (l1 : Nat) (c2 : Nat) (x3 : Int) (x4 : Option Addr) (a5 : Option Addr) (l6 : Nat) (c7 : Nat) (x8 : Int) (x9 : Int) (H : Heap) : R9 (m + 1) td9_15 [.slice a0 l1 c2, .int .i64 x3, .pointer x4, .slice a5 l6 c7, .int .i64 x8, .int .i64 x9] H =
    R9 m td9_100014 [.slice a0 l1 c2, .int .i64 x3, .pointer x4, .slice a5 l6 c7, .int .i64 x8, .int .i64 (IntKind.i64.wrap (x9 + (1 : Int)))] H := by kernel_rfl
theorem c9_23 (m : Nat)  (H : Heap) : R9 (m + 1) td9_23 [] H =
    some (.bool false, H) := by kernel_rfl
theorem c9_26 (m : Nat) (x0 : Int) (x1 : Option Addr) (a2 : Option Addr) (l3 : Nat) (c4 : Nat) (H : Heap) : R9 (m + 1) td9_26 [.int .i64 x0, .pointer x1, .slice a2 l3 c4] H =
    onSome (F23 [.int .i64 x0, .int .i64 (3000 : Int)] H) fun r5 =>
    kInt .i64 r5.1 fun n6 =>
    R9 m td9_100029 [.int .i64 (IntKind.i64.wrap ((1 : Int) + n6)), .pointer x1, .slice a2 l3 c4, .slice none 0 0, .int .i64 (1 : Int)] r5.2 := by kernel_rfl
theorem c9_33 (m : Nat)  (H : Heap) : R9 (m + 1) td9_33 [] H =
    some (.bool false, H) := by kernel_rfl
theorem c9_34 (m : Nat) (x0 : Int) (x1 : Option Addr) (a2 : Option Addr) (l3 : Nat) (c4 : Nat) (a5 : Option Addr) (l6 : Nat) (c7 : Nat) (x8 : Int) (a9 : Option Addr) (l10 : Nat) (c11 : Nat) (H : Heap) : R9 (m + 1) td9_34 [.int .i64 x0, .pointer x1, .slice a2 l3 c4, .slice a5 l6 c7, .int .i64 x8, .slice a9 l10 c11] H =
    firstC H 3 (.slice a9 l10 c11) fun n12 nw13 =>
    app Try.prog 40 H (.slice a5 l6 c7) n12 nw13 fun v14 H15 =>
    kSl v14 fun a16 l17 c18 =>
    R9 m td9_100029 [.int .i64 x0, .pointer x1, .slice a2 l3 c4, .slice a16 l17 c18, .int .i64 x8] H15 := by kernel_rfl
theorem c9_100014 (m : Nat) (a0 : Option Addr) (l1 : Nat) (c2 : Nat) (x3 : Int) (x4 : Option Addr) (a5 : Option Addr) (l6 : Nat) (c7 : Nat) (x8 : Int) (x9 : Int) (H : Heap) : R9 (m + 1) td9_100014 [.slice a0 l1 c2, .int .i64 x3, .pointer x4, .slice a5 l6 c7, .int .i64 x8, .int .i64 x9] H =
    (match (decide (x9 < ((l1 : Nat) : Int))) with
    | true => ((match (decide (x9 < (40 : Int))) with
    | true => (onSome a0 fun a10 =>
    if 0 ≤ x9 ∧ x9 < (l1 : Nat) then
    ldc H ((a10.add (x9.toNat * 3)).block) fun cs11 =>
    if (a10.add (x9.toNat * 3)).off + 3 ≤ cs11.length then
    let H12 := H ++ [.cells [.int .i64 (0 : Int), .int .i64 (0 : Int), .string (⟨#[]⟩ : ByteArray)] 0 true]
    st 3 H12 (⟨H.length, 0, none⟩ : Addr) (.agg ((range cs11 ((a10.add (x9.toNat * 3)).off) 3).toArray)) fun _ H13 =>
    st 1 H13 (⟨H.length, 0 + 1, none⟩ : Addr) (.int .i64 x8) fun _ H14 =>
    ldc H14 H.length fun cs15 =>
    if 0 + 3 ≤ cs15.length then
    onSome (F43 [.agg ((range cs15 0 3).toArray)] H14) fun r16 =>
    kTup r16.1 fun vs17 =>
    onSome vs17[0]? fun v18 =>
    kStr v18 fun s19 =>
    kTup r16.1 fun vs20 =>
    onSome vs20[1]? fun v21 =>
    kInt .i64 v21 fun n22 =>
    (match (n22 != (0 : Int)) with
    | true => (R9 m td9_15 [.slice a0 l1 c2, .int .i64 x3, .pointer x4, .slice a5 l6 c7, .int .i64 x8, .int .i64 x9] r16.2)
    | false => (onSome (F42 [.string s19] r16.2) fun r23 =>
    kTup r23.1 fun vs24 =>
    onSome vs24[0]? fun v25 =>
    kAgg v25 fun cs26 =>
    if cs26.size = 3 then
    kTup r23.1 fun vs27 =>
    onSome vs27[1]? fun v28 =>
    kInt .i64 v28 fun n29 =>
    let H30 := r23.2 ++ [.cells [.int .i64 (0 : Int), .int .i64 (0 : Int), .string (⟨#[]⟩ : ByteArray)] 0 true]
    st 3 H30 (⟨r23.2.length, 0, none⟩ : Addr) (.agg cs26) fun _ H31 =>
    ldc H31 H.length fun cs32 =>
    if 0 + 3 ≤ cs32.length then
    onSome (F14 [.pointer x4, .agg ((range cs32 0 3).toArray)] H31) fun r33 =>
    kTup r33.1 fun vs34 =>
    onSome vs34[0]? fun v35 =>
    kInt .i64 v35 fun n36 =>
    kTup r33.1 fun vs37 =>
    onSome vs37[1]? fun v38 =>
    kInt .i64 v38 fun n39 =>
    (match (n29 != (0 : Int)) with
    | true => (R9 m td9_23 [] r33.2)
    | false => (ldc r33.2 r23.2.length fun cs40 =>
    if 0 + 3 ≤ cs40.length then
    ldc r33.2 H.length fun cs41 =>
    if 0 + 3 ≤ cs41.length then
    eqv Try.prog 20 40 (.agg ((range cs40 0 3).toArray)) (.agg ((range cs41 0 3).toArray)) fun r42 =>
    (match (!r42) with
    | true => (R9 m td9_23 [] r33.2)
    | false => ((match (n39 != (0 : Int)) with
    | true => (R9 m td9_23 [] r33.2)
    | false => ((match (n36 != (IntKind.i64.wrap (((l6 : Nat) : Int) + (1 : Int)))) with
    | true => (R9 m td9_23 [] r33.2)
    | false => (ldc r33.2 H.length fun cs43 =>
    if 0 + 3 ≤ cs43.length then
    cellsOks [.agg ((range cs43 0 3).toArray)] (onSome (Instr.fill (fun i => some (i * 3, 3)) ([.int .i64 (0 : Int), .int .i64 (0 : Int), .string (⟨#[]⟩ : ByteArray)] : List Value).toArray (([0] : List Nat).zip [.agg ((range cs43 0 3).toArray)])) fun cells44 =>
    let H45 := r33.2 ++ [.cells cells44.toList 3 true]
    firstC H45 3 (.slice (some ⟨r33.2.length, 0, none⟩) 1 1) fun n46 nw47 =>
    app Try.prog 40 H45 (.slice a5 l6 c7) n46 nw47 fun v48 H49 =>
    kSl v48 fun a50 l51 c52 =>
    if (3 : Int) = 0 then none else
    R9 m td9_15 [.slice a0 l1 c2, .int .i64 x3, .pointer x4, .slice a50 l51 c52, .int .i64 (IntKind.i64.wrap (x8 + (x9.tmod (3 : Int)))), .int .i64 x9] H49)
    else none))))))
    else none
    else none))
    else none
    else none))
    else none
    else none
    else none)
    | false => (R9 m td9_26 [.int .i64 x3, .pointer x4, .slice a5 l6 c7] H)))
    | false => (R9 m td9_26 [.int .i64 x3, .pointer x4, .slice a5 l6 c7] H)) := by kernel_rfl
theorem c9_100029 (m : Nat) (x0 : Int) (x1 : Option Addr) (a2 : Option Addr) (l3 : Nat) (c4 : Nat) (a5 : Option Addr) (l6 : Nat) (c7 : Nat) (x8 : Int) (H : Heap) : R9 (m + 1) td9_100029 [.int .i64 x0, .pointer x1, .slice a2 l3 c4, .slice a5 l6 c7, .int .i64 x8] H =
    onSome (F16 [.pointer x1] H) fun r9 =>
    kInt .i64 r9.1 fun n10 =>
    (match (decide (x8 ≤ n10)) with
    | true => (onSome (F19 [.pointer x1, .int .i64 x8, .int .i64 x0] r9.2) fun r11 =>
    kTup r11.1 fun vs12 =>
    onSome vs12[0]? fun v13 =>
    kStr v13 fun s14 =>
    kTup r11.1 fun vs15 =>
    onSome vs15[1]? fun v16 =>
    kInt .i64 v16 fun n17 =>
    onSome (F44 [.string s14] r11.2) fun r18 =>
    kTup r18.1 fun vs19 =>
    onSome vs19[0]? fun v20 =>
    kSl v20 fun a21 l22 c23 =>
    kTup r18.1 fun vs24 =>
    onSome vs24[1]? fun v25 =>
    kInt .i64 v25 fun n26 =>
    (match (n26 != (0 : Int)) with
    | true => (R9 m td9_33 [] r18.2)
    | false => ((match (decide (n17 ≤ x8)) with
    | true => (R9 m td9_33 [] r18.2)
    | false => ((match (((l22 : Nat) : Int) != (IntKind.i64.wrap (n17 - x8))) with
    | true => (R9 m td9_33 [] r18.2)
    | false => ((match (decide (x0 < (s14.size : Int))) with
    | true => ((match (((l22 : Nat) : Int) != (1 : Int)) with
    | true => (R9 m td9_33 [] r18.2)
    | false => (R9 m td9_34 [.int .i64 x0, .pointer x1, .slice a2 l3 c4, .slice a5 l6 c7, .int .i64 n17, .slice a21 l22 c23] r18.2)))
    | false => (R9 m td9_34 [.int .i64 x0, .pointer x1, .slice a2 l3 c4, .slice a5 l6 c7, .int .i64 n17, .slice a21 l22 c23] r18.2)))))))))
    | false => (onSome (F45 [.slice a5 l6 c7, .slice a2 l3 c4] r9.2) fun r27 =>
    kBool r27.1 fun b28 =>
    some (.bool b28, r27.2))) := by kernel_rfl
end Go.Proofs.Yticchkdbanhjfaa
