/- PRINTED by a program of the session (Pr.lean): what functions of the program come to on the abstract heap, each checked by the kernel. Conditions: none. -/
import Derived.Test.YticchkdbanhjfaaT3
set_option linter.unusedVariables false
namespace Go.Proofs.Yticchkdbanhjfaa
open Go Go.Proofs.Yticchkdbanhjfaa.Fw Go.RowKit
-- sternpost/sternpostref26.New
noncomputable def G36 : Fs := Fs.ext G5 5 F5
theorem A36 : AllSound Try.prog G36 := AllSound.ext A5 S5
noncomputable def cuts36 : Cuts := []
noncomputable def F36 : List Value → Heap → R := FN Try.prog G36 Try.f36 cuts36
theorem S36 : Sound Try.prog 36 F36 := FN_sound A36 Try.func36 (by kernel_rfl) (by kernel_rfl)
noncomputable abbrev R36 (m : Nat) : List Item → List Value → Heap → R := run Try.prog G36 Try.f36 cuts36 m
theorem t36 (m : Nat) (x0 : Int) (x1 : Int) (H : Heap) : fnE Try.prog G36 Try.f36 cuts36 m [.int .i64 x0, .int .i64 x1] H =
    (match (decide (x0 < (0 : Int))) with
    | true => (some (.tuple #[.pointer none, .int .i64 (1 : Int)], H))
    | false => ((match (decide ((1 : Int) < x0)) with
    | true => (some (.tuple #[.pointer none, .int .i64 (1 : Int)], H))
    | false => ((match (decide (x1 < (1 : Int))) with
    | true => (some (.tuple #[.pointer none, .int .i64 (1 : Int)], H))
    | false => ((match (decide ((1048576 : Int) < x1)) with
    | true => (some (.tuple #[.pointer none, .int .i64 (1 : Int)], H))
    | false => (let H2 := H ++ [.cells [.int .i64 x0, .int .i64 x1, .int .i64 (0 : Int), .int .i64 (0 : Int), .int .i64 (0 : Int), .int .i64 (0 : Int), .int .i64 (0 : Int), .int .i64 (0 : Int), .int .i64 (0 : Int)] 0 true]
    some (.tuple #[.pointer (some (⟨H.length, 0, none⟩ : Addr)), .int .i64 (0 : Int)], H2))))))))) := by kernel_rfl
-- (*sternpost/sternpostref26.Part).time
noncomputable def G85 : Fs := Fs.ext G36 36 F36
theorem A85 : AllSound Try.prog G85 := AllSound.ext A36 S36
noncomputable def cuts85 : Cuts := []
noncomputable def F85 : List Value → Heap → R := FN Try.prog G85 Try.f85 cuts85
theorem S85 : Sound Try.prog 85 F85 := FN_sound A85 Try.func85 (by kernel_rfl) (by kernel_rfl)
noncomputable abbrev R85 (m : Nat) : List Item → List Value → Heap → R := run Try.prog G85 Try.f85 cuts85 m
theorem t85 (m : Nat) (x0 : Option Addr) (x1 : Int) (H : Heap) : fnE Try.prog G85 Try.f85 cuts85 m [.pointer x0, .int .i64 x1] H =
    onSome x0 fun a2 =>
    ldc H a2.block fun cs3 =>
    onSome cs3[(a2.off + 4)]? fun v4 =>
    kInt .i64 v4 fun n5 =>
    onSome x0 fun a6 =>
    st 1 H (⟨a6.block, a6.off + 4, none⟩ : Addr) (.int .i64 (mxi n5 (mni x1 (1099511627776 : Int)))) fun _ H7 =>
    some (.tuple #[], H7) := by kernel_rfl
-- (*sternpost/sternpostref26.Part).Boot
noncomputable def G61 : Fs := Fs.ext G85 85 F85
theorem A61 : AllSound Try.prog G61 := AllSound.ext A85 S85
noncomputable def cuts61 : Cuts := []
noncomputable def F61 : List Value → Heap → R := FN Try.prog G61 Try.f61 cuts61
theorem S61 : Sound Try.prog 61 F61 := FN_sound A61 Try.func61 (by kernel_rfl) (by kernel_rfl)
noncomputable abbrev R61 (m : Nat) : List Item → List Value → Heap → R := run Try.prog G61 Try.f61 cuts61 m
theorem t61 (m : Nat) (x0 : Option Addr) (x1 : Int) (H : Heap) : fnE Try.prog G61 Try.f61 cuts61 m [.pointer x0, .int .i64 x1] H =
    onSome x0 fun a2 =>
    ldc H a2.block fun cs3 =>
    onSome cs3[(a2.off + 2)]? fun v4 =>
    kInt .i64 v4 fun n5 =>
    (match (n5 != (0 : Int)) with
    | true => (some (.int .i64 (180 : Int), H))
    | false => (onSome (F85 [.pointer x0, .int .i64 x1] H) fun r6 =>
    onSome x0 fun a7 =>
    st 1 r6.2 (⟨a7.block, a7.off + 2, none⟩ : Addr) (.int .i64 (4 : Int)) fun _ H8 =>
    onSome x0 fun a9 =>
    st 1 H8 (⟨a9.block, a9.off + 3, none⟩ : Addr) (.int .i64 (1 : Int)) fun _ H10 =>
    some (.int .i64 (0 : Int), H10))) := by kernel_rfl
-- (*sternpost/sternpostref26.Part).Join
noncomputable def G62 : Fs := Fs.ext G61 61 F61
theorem A62 : AllSound Try.prog G62 := AllSound.ext A61 S61
noncomputable def cuts62 : Cuts := []
noncomputable def F62 : List Value → Heap → R := FN Try.prog G62 Try.f62 cuts62
theorem S62 : Sound Try.prog 62 F62 := FN_sound A62 Try.func62 (by kernel_rfl) (by kernel_rfl)
noncomputable abbrev R62 (m : Nat) : List Item → List Value → Heap → R := run Try.prog G62 Try.f62 cuts62 m
theorem t62 (m : Nat) (x0 : Option Addr) (x1 : Int) (x2 : Int) (H : Heap) : fnE Try.prog G62 Try.f62 cuts62 m [.pointer x0, .int .i64 x1, .int .i64 x2] H =
    onSome x0 fun a3 =>
    ldc H a3.block fun cs4 =>
    onSome cs4[(a3.off + 2)]? fun v5 =>
    kInt .i64 v5 fun n6 =>
    (match (n6 != (0 : Int)) with
    | true => (some (.int .i64 (180 : Int), H))
    | false => ((match (decide (x1 < (1 : Int))) with
    | true => (some (.int .i64 (1 : Int), H))
    | false => ((match (decide ((4294967295 : Int) < x1)) with
    | true => (some (.int .i64 (1 : Int), H))
    | false => (onSome (F85 [.pointer x0, .int .i64 x2] H) fun r7 =>
    onSome x0 fun a8 =>
    st 1 r7.2 (⟨a8.block, a8.off + 2, none⟩ : Addr) (.int .i64 (1 : Int)) fun _ H9 =>
    onSome x0 fun a10 =>
    st 1 H9 (⟨a10.block, a10.off + 3, none⟩ : Addr) (.int .i64 (0 : Int)) fun _ H11 =>
    onSome x0 fun a12 =>
    st 1 H11 (⟨a12.block, a12.off + 6, none⟩ : Addr) (.int .i64 x1) fun _ H13 =>
    onSome x0 fun a14 =>
    ldc H13 a14.block fun cs15 =>
    onSome cs15[(a14.off + 4)]? fun v16 =>
    kInt .i64 v16 fun n17 =>
    onSome x0 fun a18 =>
    st 1 H13 (⟨a18.block, a18.off + 5, none⟩ : Addr) (.int .i64 n17) fun _ H19 =>
    some (.int .i64 (0 : Int), H19))))))) := by kernel_rfl
-- (*sternpost/sternpostref26.Part).Speaks
noncomputable def G38 : Fs := Fs.ext G62 62 F62
theorem A38 : AllSound Try.prog G38 := AllSound.ext A62 S62
noncomputable def cuts38 : Cuts := []
noncomputable def F38 : List Value → Heap → R := FN Try.prog G38 Try.f38 cuts38
theorem S38 : Sound Try.prog 38 F38 := FN_sound A38 Try.func38 (by kernel_rfl) (by kernel_rfl)
noncomputable abbrev R38 (m : Nat) : List Item → List Value → Heap → R := run Try.prog G38 Try.f38 cuts38 m
theorem t38 (m : Nat) (x0 : Option Addr) (H : Heap) : fnE Try.prog G38 Try.f38 cuts38 m [.pointer x0] H =
    onSome x0 fun a1 =>
    ldc H a1.block fun cs2 =>
    onSome cs2[(a1.off + 2)]? fun v3 =>
    kInt .i64 v3 fun n4 =>
    (match (n4 == (3 : Int)) with
    | true => (some (.bool true, H))
    | false => (onSome x0 fun a5 =>
    ldc H a5.block fun cs6 =>
    onSome cs6[(a5.off + 2)]? fun v7 =>
    kInt .i64 v7 fun n8 =>
    some (.bool (n8 == (4 : Int)), H))) := by kernel_rfl
-- sternpost/sternpostref24.word
noncomputable def G98 : Fs := Fs.ext G38 38 F38
theorem A98 : AllSound Try.prog G98 := AllSound.ext A38 S38
noncomputable def cuts98 : Cuts := []
noncomputable def F98 : List Value → Heap → R := FN Try.prog G98 Try.f98 cuts98
theorem S98 : Sound Try.prog 98 F98 := FN_sound A98 Try.func98 (by kernel_rfl) (by kernel_rfl)
noncomputable abbrev R98 (m : Nat) : List Item → List Value → Heap → R := run Try.prog G98 Try.f98 cuts98 m
theorem t98 (m : Nat) (x0 : Int) (H : Heap) : fnE Try.prog G98 Try.f98 cuts98 m [.int .i64 x0] H =
    (match (decide ((0 : Int) ≤ x0)) with
    | true => (some (.bool (decide (x0 ≤ (4294967295 : Int))), H))
    | false => (some (.bool false, H))) := by kernel_rfl
-- sternpost/sternpostref24.role
noncomputable def G99 : Fs := Fs.ext G98 98 F98
theorem A99 : AllSound Try.prog G99 := AllSound.ext A98 S98
noncomputable def cuts99 : Cuts := []
noncomputable def F99 : List Value → Heap → R := FN Try.prog G99 Try.f99 cuts99
theorem S99 : Sound Try.prog 99 F99 := FN_sound A99 Try.func99 (by kernel_rfl) (by kernel_rfl)
noncomputable abbrev R99 (m : Nat) : List Item → List Value → Heap → R := run Try.prog G99 Try.f99 cuts99 m
theorem t99 (m : Nat) (x0 : Int) (H : Heap) : fnE Try.prog G99 Try.f99 cuts99 m [.int .i64 x0] H =
    (match (decide ((0 : Int) ≤ x0)) with
    | true => (some (.bool (decide (x0 ≤ (5 : Int))), H))
    | false => (some (.bool false, H))) := by kernel_rfl
-- sternpost/sternpostref24.Check
noncomputable def G86 : Fs := Fs.ext G99 99 F99
theorem A86 : AllSound Try.prog G86 := AllSound.ext A99 S99
noncomputable def cuts86 : Cuts := [(4, []), (5, []), (2, []), (3, [1])]
noncomputable def td86_4 : List Item := todoOf Try.f86 4
noncomputable def td86_5 : List Item := todoOf Try.f86 5
noncomputable def td86_2 : List Item := todoOf Try.f86 2
noncomputable def td86_3 : List Item := todoOf Try.f86 3
noncomputable def F86 : List Value → Heap → R := FN Try.prog G86 Try.f86 cuts86
theorem S86 : Sound Try.prog 86 F86 := FN_sound A86 Try.func86 (by kernel_rfl) (by kernel_rfl)
noncomputable abbrev R86 (m : Nat) : List Item → List Value → Heap → R := run Try.prog G86 Try.f86 cuts86 m
theorem t86 (m : Nat) (x0 : Int) (x1 : Int) (x2 : Int) (x3 : Int) (x4 : Int) (x5 : ByteArray) (H : Heap) : fnE Try.prog G86 Try.f86 cuts86 m [.agg #[.int .i64 x0, .int .i64 x1, .int .i64 x2, .int .i64 x3, .int .i64 x4, .string x5]] H =
    let H6 := H ++ [.cells [.int .i64 x0, .int .i64 x1, .int .i64 x2, .int .i64 x3, .int .i64 x4, .string x5] 0 true]
    ldc H6 H.length fun cs7 =>
    onSome cs7[0]? fun v8 =>
    kInt .i64 v8 fun n9 =>
    (match (n9 != (1 : Int)) with
    | true => (ldc H6 H.length fun cs10 =>
    onSome cs10[0]? fun v11 =>
    kInt .i64 v11 fun n12 =>
    (match (n12 != (2 : Int)) with
    | true => (R86 m td86_2 [] H6)
    | false => (ldc H6 H.length fun cs13 =>
    onSome cs13[(0 + 1)]? fun v14 =>
    kInt .i64 v14 fun n15 =>
    onSome (F98 [.int .i64 n15] H6) fun r16 =>
    kBool r16.1 fun b17 =>
    (match (!b17) with
    | true => (R86 m td86_2 [] r16.2)
    | false => (ldc r16.2 H.length fun cs18 =>
    onSome cs18[(0 + 3)]? fun v19 =>
    kInt .i64 v19 fun n20 =>
    onSome (F98 [.int .i64 n20] r16.2) fun r21 =>
    kBool r21.1 fun b22 =>
    (match (!b22) with
    | true => (R86 m td86_2 [] r21.2)
    | false => (ldc r21.2 H.length fun cs23 =>
    onSome cs23[(0 + 4)]? fun v24 =>
    kInt .i64 v24 fun n25 =>
    onSome (F98 [.int .i64 n25] r21.2) fun r26 =>
    kBool r26.1 fun b27 =>
    (match (!b27) with
    | true => (R86 m td86_2 [] r26.2)
    | false => (ldc r26.2 H.length fun cs28 =>
    onSome cs28[(0 + 2)]? fun v29 =>
    kInt .i64 v29 fun n30 =>
    onSome (F99 [.int .i64 n30] r26.2) fun r31 =>
    kBool r31.1 fun b32 =>
    (match (!b32) with
    | true => (R86 m td86_2 [] r31.2)
    | false => (ldc r31.2 H.length fun cs33 =>
    onSome cs33[(0 + 5)]? fun v34 =>
    kStr v34 fun s35 =>
    (match (decide ((4096 : Int) < (s35.size : Int))) with
    | true => (R86 m td86_2 [] r31.2)
    | false => (R86 m td86_3 [.pointer (some (⟨H.length, 0, none⟩ : Addr))] r31.2)))))))))))))
    | false => (ldc H6 H.length fun cs36 =>
    onSome cs36[(0 + 1)]? fun v37 =>
    kInt .i64 v37 fun n38 =>
    onSome (F98 [.int .i64 n38] H6) fun r39 =>
    kBool r39.1 fun b40 =>
    (match (!b40) with
    | true => (R86 m td86_2 [] r39.2)
    | false => (ldc r39.2 H.length fun cs41 =>
    onSome cs41[(0 + 3)]? fun v42 =>
    kInt .i64 v42 fun n43 =>
    onSome (F98 [.int .i64 n43] r39.2) fun r44 =>
    kBool r44.1 fun b45 =>
    (match (!b45) with
    | true => (R86 m td86_2 [] r44.2)
    | false => (ldc r44.2 H.length fun cs46 =>
    onSome cs46[(0 + 4)]? fun v47 =>
    kInt .i64 v47 fun n48 =>
    onSome (F98 [.int .i64 n48] r44.2) fun r49 =>
    kBool r49.1 fun b50 =>
    (match (!b50) with
    | true => (R86 m td86_2 [] r49.2)
    | false => (ldc r49.2 H.length fun cs51 =>
    onSome cs51[(0 + 2)]? fun v52 =>
    kInt .i64 v52 fun n53 =>
    onSome (F99 [.int .i64 n53] r49.2) fun r54 =>
    kBool r54.1 fun b55 =>
    (match (!b55) with
    | true => (R86 m td86_2 [] r54.2)
    | false => (ldc r54.2 H.length fun cs56 =>
    onSome cs56[(0 + 5)]? fun v57 =>
    kStr v57 fun s58 =>
    (match (decide ((4096 : Int) < (s58.size : Int))) with
    | true => (R86 m td86_2 [] r54.2)
    | false => (R86 m td86_3 [.pointer (some (⟨H.length, 0, none⟩ : Addr))] r54.2)))))))))))) := by kernel_rfl
theorem c86_2 (m : Nat)  (H : Heap) : R86 (m + 1) td86_2 [] H =
    some (.int .i64 (240 : Int), H) := by kernel_rfl
theorem c86_3 (m : Nat) (x0 : Option Addr) (H : Heap) : R86 (m + 1) td86_3 [.pointer x0] H =
    onSome x0 fun a1 =>
    ldc H a1.block fun cs2 =>
    onSome cs2[a1.off]? fun v3 =>
    kInt .i64 v3 fun n4 =>
    (match (n4 == (2 : Int)) with
    | true => (onSome x0 fun a5 =>
    ldc H a5.block fun cs6 =>
    onSome cs6[(a5.off + 5)]? fun v7 =>
    kStr v7 fun s8 =>
    (match (!(s8.toList == (⟨#[]⟩ : ByteArray).toList)) with
    | true => (R86 m td86_4 [] H)
    | false => (onSome x0 fun a9 =>
    ldc H a9.block fun cs10 =>
    onSome cs10[a9.off]? fun v11 =>
    kInt .i64 v11 fun n12 =>
    (match (n12 == (1 : Int)) with
    | true => (onSome x0 fun a13 =>
    ldc H a13.block fun cs14 =>
    onSome cs14[(a13.off + 3)]? fun v15 =>
    kInt .i64 v15 fun n16 =>
    (match (n16 == (0 : Int)) with
    | true => (R86 m td86_4 [] H)
    | false => (R86 m td86_5 [] H)))
    | false => (R86 m td86_5 [] H)))))
    | false => (onSome x0 fun a17 =>
    ldc H a17.block fun cs18 =>
    onSome cs18[a17.off]? fun v19 =>
    kInt .i64 v19 fun n20 =>
    (match (n20 == (1 : Int)) with
    | true => (onSome x0 fun a21 =>
    ldc H a21.block fun cs22 =>
    onSome cs22[(a21.off + 3)]? fun v23 =>
    kInt .i64 v23 fun n24 =>
    (match (n24 == (0 : Int)) with
    | true => (R86 m td86_4 [] H)
    | false => (R86 m td86_5 [] H)))
    | false => (R86 m td86_5 [] H)))) := by kernel_rfl
theorem c86_4 (m : Nat)  (H : Heap) : R86 (m + 1) td86_4 [] H =
    some (.int .i64 (240 : Int), H) := by kernel_rfl
theorem c86_5 (m : Nat)  (H : Heap) : R86 (m + 1) td86_5 [] H =
    some (.int .i64 (0 : Int), H) := by kernel_rfl
-- (*sternpost/sternpostref26.Part).Hear
noncomputable def G63 : Fs := Fs.ext G86 86 F86
theorem A63 : AllSound Try.prog G63 := AllSound.ext A86 S86
noncomputable def cuts63 : Cuts := [(21, [0]), (17, [0, 4]), (10, [0, 4]), (2, [])]
noncomputable def td63_21 : List Item := todoOf Try.f63 21
noncomputable def td63_17 : List Item := todoOf Try.f63 17
noncomputable def td63_10 : List Item := todoOf Try.f63 10
noncomputable def td63_2 : List Item := todoOf Try.f63 2
noncomputable def F63 : List Value → Heap → R := FN Try.prog G63 Try.f63 cuts63
theorem S63 : Sound Try.prog 63 F63 := FN_sound A63 Try.func63 (by kernel_rfl) (by kernel_rfl)
noncomputable abbrev R63 (m : Nat) : List Item → List Value → Heap → R := run Try.prog G63 Try.f63 cuts63 m
theorem t63 (m : Nat) (x0 : Option Addr) (x1 : Int) (x2 : Int) (x3 : Int) (x4 : Int) (x5 : Int) (x6 : ByteArray) (x7 : Int) (H : Heap) : fnE Try.prog G63 Try.f63 cuts63 m [.pointer x0, .agg #[.int .i64 x1, .int .i64 x2, .int .i64 x3, .int .i64 x4, .int .i64 x5, .string x6], .int .i64 x7] H =
    let H8 := H ++ [.cells [.int .i64 x1, .int .i64 x2, .int .i64 x3, .int .i64 x4, .int .i64 x5, .string x6] 0 true]
    onSome x0 fun a9 =>
    ldc H8 a9.block fun cs10 =>
    onSome cs10[(a9.off + 2)]? fun v11 =>
    kInt .i64 v11 fun n12 =>
    (match (n12 == (0 : Int)) with
    | true => (R63 m td63_2 [] H8)
    | false => (onSome x0 fun a13 =>
    ldc H8 a13.block fun cs14 =>
    onSome cs14[(a13.off + 2)]? fun v15 =>
    kInt .i64 v15 fun n16 =>
    (match (n16 == (5 : Int)) with
    | true => (R63 m td63_2 [] H8)
    | false => (ldc H8 H.length fun cs17 =>
    if 0 + 6 ≤ cs17.length then
    onSome (F86 [.agg ((range cs17 0 6).toArray)] H8) fun r18 =>
    kInt .i64 r18.1 fun n19 =>
    (match (n19 != (0 : Int)) with
    | true => (some (.tuple #[.int .i64 (0 : Int), .int .i64 (1 : Int)], r18.2))
    | false => (onSome (F85 [.pointer x0, .int .i64 x7] r18.2) fun r20 =>
    onSome x0 fun a21 =>
    ldc r20.2 a21.block fun cs22 =>
    onSome cs22[(a21.off + 2)]? fun v23 =>
    kInt .i64 v23 fun n24 =>
    (match (n24 == (1 : Int)) with
    | true => (ldc r20.2 H.length fun cs25 =>
    onSome cs25[0]? fun v26 =>
    kInt .i64 v26 fun n27 =>
    (match (n27 == (2 : Int)) with
    | true => (ldc r20.2 H.length fun cs28 =>
    onSome cs28[(0 + 1)]? fun v29 =>
    kInt .i64 v29 fun n30 =>
    onSome x0 fun a31 =>
    ldc r20.2 a31.block fun cs32 =>
    onSome cs32[(a31.off + 3)]? fun v33 =>
    kInt .i64 v33 fun n34 =>
    (match (decide (n34 < n30)) with
    | true => (ldc r20.2 H.length fun cs35 =>
    onSome cs35[(0 + 2)]? fun v36 =>
    kInt .i64 v36 fun n37 =>
    (match (n37 == (4 : Int)) with
    | true => (ldc r20.2 H.length fun cs38 =>
    onSome cs38[(0 + 3)]? fun v39 =>
    kInt .i64 v39 fun n40 =>
    onSome x0 fun a41 =>
    ldc r20.2 a41.block fun cs42 =>
    onSome cs42[(a41.off + 6)]? fun v43 =>
    kInt .i64 v43 fun n44 =>
    (match (n40 == n44) with
    | true => (ldc r20.2 H.length fun cs45 =>
    onSome cs45[(0 + 1)]? fun v46 =>
    kInt .i64 v46 fun n47 =>
    onSome x0 fun a48 =>
    st 1 r20.2 (⟨a48.block, a48.off + 3, none⟩ : Addr) (.int .i64 n47) fun _ H49 =>
    onSome x0 fun a50 =>
    ldc H49 a50.block fun cs51 =>
    onSome cs51[(a50.off + 4)]? fun v52 =>
    kInt .i64 v52 fun n53 =>
    onSome x0 fun a54 =>
    st 1 H49 (⟨a54.block, a54.off + 5, none⟩ : Addr) (.int .i64 n53) fun _ H55 =>
    some (.tuple #[.int .i64 (1 : Int), .int .i64 (0 : Int)], H55))
    | false => (R63 m td63_10 [.pointer x0, .pointer (some (⟨H.length, 0, none⟩ : Addr))] r20.2)))
    | false => (R63 m td63_10 [.pointer x0, .pointer (some (⟨H.length, 0, none⟩ : Addr))] r20.2)))
    | false => (R63 m td63_10 [.pointer x0, .pointer (some (⟨H.length, 0, none⟩ : Addr))] r20.2)))
    | false => (R63 m td63_10 [.pointer x0, .pointer (some (⟨H.length, 0, none⟩ : Addr))] r20.2)))
    | false => (R63 m td63_10 [.pointer x0, .pointer (some (⟨H.length, 0, none⟩ : Addr))] r20.2))))
    else none)))) := by kernel_rfl
theorem c63_2 (m : Nat)  (H : Heap) : R63 (m + 1) td63_2 [] H =
    some (.tuple #[.int .i64 (0 : Int), .int .i64 (180 : Int)], H) := by kernel_rfl
theorem c63_10 (m : Nat) (x0 : Option Addr) (x1 : Option Addr) (H : Heap) : R63 (m + 1) td63_10 [.pointer x0, .pointer x1] H =
    onSome (F38 [.pointer x0] H) fun r2 =>
    kBool r2.1 fun b3 =>
    (match b3 with
    | true => (onSome x1 fun a4 =>
    ldc r2.2 a4.block fun cs5 =>
    onSome cs5[a4.off]? fun v6 =>
    kInt .i64 v6 fun n7 =>
    (match (n7 == (2 : Int)) with
    | true => (onSome x1 fun a8 =>
    ldc r2.2 a8.block fun cs9 =>
    onSome cs9[(a8.off + 2)]? fun v10 =>
    kInt .i64 v10 fun n11 =>
    (match (n11 == (1 : Int)) with
    | true => (onSome x1 fun a12 =>
    ldc r2.2 a12.block fun cs13 =>
    onSome cs13[(a12.off + 1)]? fun v14 =>
    kInt .i64 v14 fun n15 =>
    onSome x0 fun a16 =>
    ldc r2.2 a16.block fun cs17 =>
    onSome cs17[(a16.off + 3)]? fun v18 =>
    kInt .i64 v18 fun n19 =>
    (match (n15 != n19) with
    | true => (onSome x1 fun a20 =>
    ldc r2.2 a20.block fun cs21 =>
    onSome cs21[(a20.off + 3)]? fun v22 =>
    kInt .i64 v22 fun n23 =>
    onSome x0 fun a24 =>
    ldc r2.2 a24.block fun cs25 =>
    onSome cs25[(a24.off + 8)]? fun v26 =>
    kInt .i64 v26 fun n27 =>
    (match (decide (n27 < n23)) with
    | true => (onSome x0 fun a28 =>
    ldc r2.2 a28.block fun cs29 =>
    onSome cs29[(a28.off + 3)]? fun v30 =>
    kInt .i64 v30 fun n31 =>
    (match (decide (n31 < (4294967295 : Int))) with
    | true => (onSome x0 fun a32 =>
    st 1 r2.2 (⟨a32.block, a32.off + 2, none⟩ : Addr) (.int .i64 (4 : Int)) fun _ H33 =>
    onSome x0 fun a34 =>
    ldc H33 a34.block fun cs35 =>
    onSome cs35[(a34.off + 3)]? fun v36 =>
    kInt .i64 v36 fun n37 =>
    onSome x0 fun a38 =>
    st 1 H33 (⟨a38.block, a38.off + 3, none⟩ : Addr) (.int .i64 (IntKind.i64.wrap (n37 + (1 : Int)))) fun _ H39 =>
    onSome x1 fun a40 =>
    ldc H39 a40.block fun cs41 =>
    onSome cs41[(a40.off + 3)]? fun v42 =>
    kInt .i64 v42 fun n43 =>
    onSome x0 fun a44 =>
    st 1 H39 (⟨a44.block, a44.off + 7, none⟩ : Addr) (.int .i64 n43) fun _ H45 =>
    onSome x1 fun a46 =>
    ldc H45 a46.block fun cs47 =>
    onSome cs47[(a46.off + 3)]? fun v48 =>
    kInt .i64 v48 fun n49 =>
    onSome x0 fun a50 =>
    st 1 H45 (⟨a50.block, a50.off + 8, none⟩ : Addr) (.int .i64 n49) fun _ H51 =>
    onSome x0 fun a52 =>
    ldc H51 a52.block fun cs53 =>
    onSome cs53[(a52.off + 4)]? fun v54 =>
    kInt .i64 v54 fun n55 =>
    onSome x0 fun a56 =>
    st 1 H51 (⟨a56.block, a56.off + 5, none⟩ : Addr) (.int .i64 n55) fun _ H57 =>
    some (.tuple #[.int .i64 (1 : Int), .int .i64 (0 : Int)], H57))
    | false => (R63 m td63_17 [.pointer x0, .pointer x1] r2.2)))
    | false => (R63 m td63_17 [.pointer x0, .pointer x1] r2.2)))
    | false => (R63 m td63_17 [.pointer x0, .pointer x1] r2.2)))
    | false => (R63 m td63_17 [.pointer x0, .pointer x1] r2.2)))
    | false => (R63 m td63_17 [.pointer x0, .pointer x1] r2.2)))
    | false => (R63 m td63_17 [.pointer x0, .pointer x1] r2.2)) := by kernel_rfl
theorem c63_17 (m : Nat) (x0 : Option Addr) (x1 : Option Addr) (H : Heap) : R63 (m + 1) td63_17 [.pointer x0, .pointer x1] H =
    onSome x1 fun a2 =>
    ldc H a2.block fun cs3 =>
    onSome cs3[(a2.off + 1)]? fun v4 =>
    kInt .i64 v4 fun n5 =>
    onSome x0 fun a6 =>
    ldc H a6.block fun cs7 =>
    onSome cs7[(a6.off + 3)]? fun v8 =>
    kInt .i64 v8 fun n9 =>
    (match (n5 != n9) with
    | true => (some (.tuple #[.int .i64 (0 : Int), .int .i64 (260 : Int)], H))
    | false => (onSome x0 fun a10 =>
    ldc H a10.block fun cs11 =>
    onSome cs11[(a10.off + 2)]? fun v12 =>
    kInt .i64 v12 fun n13 =>
    (match (n13 == (1 : Int)) with
    | true => (onSome x1 fun a14 =>
    ldc H a14.block fun cs15 =>
    onSome cs15[(a14.off + 2)]? fun v16 =>
    kInt .i64 v16 fun n17 =>
    (match (n17 == (3 : Int)) with
    | true => (onSome x0 fun a18 =>
    st 1 H (⟨a18.block, a18.off + 2, none⟩ : Addr) (.int .i64 (2 : Int)) fun _ H19 =>
    R63 m td63_21 [.pointer x0] H19)
    | false => (R63 m td63_21 [.pointer x0] H)))
    | false => (R63 m td63_21 [.pointer x0] H)))) := by kernel_rfl
theorem c63_21 (m : Nat) (x0 : Option Addr) (H : Heap) : R63 (m + 1) td63_21 [.pointer x0] H =
    onSome x0 fun a1 =>
    ldc H a1.block fun cs2 =>
    onSome cs2[(a1.off + 4)]? fun v3 =>
    kInt .i64 v3 fun n4 =>
    onSome x0 fun a5 =>
    st 1 H (⟨a5.block, a5.off + 5, none⟩ : Addr) (.int .i64 n4) fun _ H6 =>
    some (.tuple #[.int .i64 (2 : Int), .int .i64 (0 : Int)], H6) := by kernel_rfl
-- (*sternpost/sternpostref26.Part).Synced
noncomputable def G64 : Fs := Fs.ext G63 63 F63
theorem A64 : AllSound Try.prog G64 := AllSound.ext A63 S63
noncomputable def cuts64 : Cuts := []
noncomputable def F64 : List Value → Heap → R := FN Try.prog G64 Try.f64 cuts64
theorem S64 : Sound Try.prog 64 F64 := FN_sound A64 Try.func64 (by kernel_rfl) (by kernel_rfl)
noncomputable abbrev R64 (m : Nat) : List Item → List Value → Heap → R := run Try.prog G64 Try.f64 cuts64 m
theorem t64 (m : Nat) (x0 : Option Addr) (x1 : Int) (H : Heap) : fnE Try.prog G64 Try.f64 cuts64 m [.pointer x0, .int .i64 x1] H =
    onSome x0 fun a2 =>
    ldc H a2.block fun cs3 =>
    onSome cs3[(a2.off + 2)]? fun v4 =>
    kInt .i64 v4 fun n5 =>
    (match (n5 != (4 : Int)) with
    | true => (some (.int .i64 (180 : Int), H))
    | false => (onSome x0 fun a6 =>
    ldc H a6.block fun cs7 =>
    onSome cs7[(a6.off + 7)]? fun v8 =>
    kInt .i64 v8 fun n9 =>
    (match (n9 == (0 : Int)) with
    | true => (some (.int .i64 (180 : Int), H))
    | false => (onSome (F85 [.pointer x0, .int .i64 x1] H) fun r10 =>
    onSome x0 fun a11 =>
    st 1 r10.2 (⟨a11.block, a11.off + 2, none⟩ : Addr) (.int .i64 (3 : Int)) fun _ H12 =>
    onSome x0 fun a13 =>
    ldc H12 a13.block fun cs14 =>
    onSome cs14[(a13.off + 4)]? fun v15 =>
    kInt .i64 v15 fun n16 =>
    onSome x0 fun a17 =>
    st 1 H12 (⟨a17.block, a17.off + 5, none⟩ : Addr) (.int .i64 n16) fun _ H18 =>
    some (.int .i64 (0 : Int), H18))))) := by kernel_rfl
-- (*sternpost/sternpostref26.Part).Suspects
noncomputable def G39 : Fs := Fs.ext G64 64 F64
theorem A39 : AllSound Try.prog G39 := AllSound.ext A64 S64
noncomputable def cuts39 : Cuts := []
noncomputable def F39 : List Value → Heap → R := FN Try.prog G39 Try.f39 cuts39
theorem S39 : Sound Try.prog 39 F39 := FN_sound A39 Try.func39 (by kernel_rfl) (by kernel_rfl)
noncomputable abbrev R39 (m : Nat) : List Item → List Value → Heap → R := run Try.prog G39 Try.f39 cuts39 m
theorem t39 (m : Nat) (x0 : Option Addr) (x1 : Int) (H : Heap) : fnE Try.prog G39 Try.f39 cuts39 m [.pointer x0, .int .i64 x1] H =
    onSome x0 fun a2 =>
    ldc H a2.block fun cs3 =>
    onSome cs3[(a2.off + 4)]? fun v4 =>
    kInt .i64 v4 fun n5 =>
    onSome x0 fun a6 =>
    ldc H a6.block fun cs7 =>
    onSome cs7[(a6.off + 2)]? fun v8 =>
    kInt .i64 v8 fun n9 =>
    (match (n9 == (2 : Int)) with
    | true => (onSome x0 fun a10 =>
    ldc H a10.block fun cs11 =>
    onSome cs11[(a10.off + 5)]? fun v12 =>
    kInt .i64 v12 fun n13 =>
    onSome x0 fun a14 =>
    ldc H a14.block fun cs15 =>
    onSome cs15[(a14.off + 1)]? fun v16 =>
    kInt .i64 v16 fun n17 =>
    some (.bool (decide ((IntKind.i64.wrap (n13 + n17)) ≤ (mxi n5 (mni x1 (1099511627776 : Int))))), H))
    | false => (onSome x0 fun a18 =>
    ldc H a18.block fun cs19 =>
    onSome cs19[(a18.off + 2)]? fun v20 =>
    kInt .i64 v20 fun n21 =>
    (match (n21 == (3 : Int)) with
    | true => (onSome x0 fun a22 =>
    ldc H a22.block fun cs23 =>
    onSome cs23[(a22.off + 5)]? fun v24 =>
    kInt .i64 v24 fun n25 =>
    onSome x0 fun a26 =>
    ldc H a26.block fun cs27 =>
    onSome cs27[(a26.off + 1)]? fun v28 =>
    kInt .i64 v28 fun n29 =>
    some (.bool (decide ((IntKind.i64.wrap (n25 + n29)) ≤ (mxi n5 (mni x1 (1099511627776 : Int))))), H))
    | false => (some (.bool false, H))))) := by kernel_rfl
-- (*sternpost/sternpostref26.Part).Granted
noncomputable def G65 : Fs := Fs.ext G39 39 F39
theorem A65 : AllSound Try.prog G65 := AllSound.ext A39 S39
noncomputable def cuts65 : Cuts := []
noncomputable def F65 : List Value → Heap → R := FN Try.prog G65 Try.f65 cuts65
theorem S65 : Sound Try.prog 65 F65 := FN_sound A65 Try.func65 (by kernel_rfl) (by kernel_rfl)
noncomputable abbrev R65 (m : Nat) : List Item → List Value → Heap → R := run Try.prog G65 Try.f65 cuts65 m
theorem t65 (m : Nat) (x0 : Option Addr) (x1 : Int) (H : Heap) : fnE Try.prog G65 Try.f65 cuts65 m [.pointer x0, .int .i64 x1] H =
    onSome x0 fun a2 =>
    ldc H a2.block fun cs3 =>
    onSome cs3[(a2.off + 2)]? fun v4 =>
    kInt .i64 v4 fun n5 =>
    (match (n5 != (2 : Int)) with
    | true => (onSome x0 fun a6 =>
    ldc H a6.block fun cs7 =>
    onSome cs7[(a6.off + 2)]? fun v8 =>
    kInt .i64 v8 fun n9 =>
    (match (n9 != (3 : Int)) with
    | true => (some (.int .i64 (180 : Int), H))
    | false => (onSome (F85 [.pointer x0, .int .i64 x1] H) fun r10 =>
    onSome (F39 [.pointer x0, .int .i64 x1] r10.2) fun r11 =>
    kBool r11.1 fun b12 =>
    (match (!b12) with
    | true => (some (.int .i64 (261 : Int), r11.2))
    | false => (onSome x0 fun a13 =>
    ldc r11.2 a13.block fun cs14 =>
    onSome cs14[(a13.off + 3)]? fun v15 =>
    kInt .i64 v15 fun n16 =>
    (match (decide ((4294967295 : Int) ≤ n16)) with
    | true => (some (.int .i64 (261 : Int), r11.2))
    | false => (onSome x0 fun a17 =>
    st 1 r11.2 (⟨a17.block, a17.off + 2, none⟩ : Addr) (.int .i64 (4 : Int)) fun _ H18 =>
    onSome x0 fun a19 =>
    ldc H18 a19.block fun cs20 =>
    onSome cs20[(a19.off + 3)]? fun v21 =>
    kInt .i64 v21 fun n22 =>
    onSome x0 fun a23 =>
    st 1 H18 (⟨a23.block, a23.off + 3, none⟩ : Addr) (.int .i64 (IntKind.i64.wrap (n22 + (1 : Int)))) fun _ H24 =>
    onSome x0 fun a25 =>
    st 1 H24 (⟨a25.block, a25.off + 7, none⟩ : Addr) (.int .i64 (0 : Int)) fun _ H26 =>
    some (.int .i64 (0 : Int), H26))))))))
    | false => (onSome (F85 [.pointer x0, .int .i64 x1] H) fun r27 =>
    onSome (F39 [.pointer x0, .int .i64 x1] r27.2) fun r28 =>
    kBool r28.1 fun b29 =>
    (match (!b29) with
    | true => (some (.int .i64 (261 : Int), r28.2))
    | false => (onSome x0 fun a30 =>
    ldc r28.2 a30.block fun cs31 =>
    onSome cs31[(a30.off + 3)]? fun v32 =>
    kInt .i64 v32 fun n33 =>
    (match (decide ((4294967295 : Int) ≤ n33)) with
    | true => (some (.int .i64 (261 : Int), r28.2))
    | false => (onSome x0 fun a34 =>
    st 1 r28.2 (⟨a34.block, a34.off + 2, none⟩ : Addr) (.int .i64 (4 : Int)) fun _ H35 =>
    onSome x0 fun a36 =>
    ldc H35 a36.block fun cs37 =>
    onSome cs37[(a36.off + 3)]? fun v38 =>
    kInt .i64 v38 fun n39 =>
    onSome x0 fun a40 =>
    st 1 H35 (⟨a40.block, a40.off + 3, none⟩ : Addr) (.int .i64 (IntKind.i64.wrap (n39 + (1 : Int)))) fun _ H41 =>
    onSome x0 fun a42 =>
    st 1 H41 (⟨a42.block, a42.off + 7, none⟩ : Addr) (.int .i64 (0 : Int)) fun _ H43 =>
    some (.int .i64 (0 : Int), H43))))))) := by kernel_rfl
-- (*sternpost/role.Part).Fence
noncomputable def G66 : Fs := Fs.ext G65 65 F65
theorem A66 : AllSound Try.prog G66 := AllSound.ext A65 S65
noncomputable def cuts66 : Cuts := []
noncomputable def F66 : List Value → Heap → R := FN Try.prog G66 Try.f66 cuts66
theorem S66 : Sound Try.prog 66 F66 := FN_sound A66 Try.func66 (by kernel_rfl) (by kernel_rfl)
noncomputable abbrev R66 (m : Nat) : List Item → List Value → Heap → R := run Try.prog G66 Try.f66 cuts66 m
theorem t66 (m : Nat) (x0 : Option Addr) (H : Heap) : fnE Try.prog G66 Try.f66 cuts66 m [.pointer x0] H =
    onSome x0 fun a1 =>
    ldc H a1.block fun cs2 =>
    onSome cs2[(a1.off + 2)]? fun v3 =>
    kInt .i64 v3 fun n4 =>
    (match (n4 != (0 : Int)) with
    | true => (onSome x0 fun a5 =>
    st 1 H (⟨a5.block, a5.off + 2, none⟩ : Addr) (.int .i64 (5 : Int)) fun _ H6 =>
    some (.tuple #[], H6))
    | false => (some (.tuple #[], H))) := by kernel_rfl
-- (*sternpost/sternpostref26.Part).Fence
noncomputable def G67 : Fs := Fs.ext G66 66 F66
theorem A67 : AllSound Try.prog G67 := AllSound.ext A66 S66
noncomputable def cuts67 : Cuts := []
noncomputable def F67 : List Value → Heap → R := FN Try.prog G67 Try.f67 cuts67
theorem S67 : Sound Try.prog 67 F67 := FN_sound A67 Try.func67 (by kernel_rfl) (by kernel_rfl)
noncomputable abbrev R67 (m : Nat) : List Item → List Value → Heap → R := run Try.prog G67 Try.f67 cuts67 m
theorem t67 (m : Nat) (x0 : Option Addr) (H : Heap) : fnE Try.prog G67 Try.f67 cuts67 m [.pointer x0] H =
    onSome x0 fun a1 =>
    ldc H a1.block fun cs2 =>
    onSome cs2[(a1.off + 2)]? fun v3 =>
    kInt .i64 v3 fun n4 =>
    (match (n4 != (0 : Int)) with
    | true => (onSome x0 fun a5 =>
    st 1 H (⟨a5.block, a5.off + 2, none⟩ : Addr) (.int .i64 (5 : Int)) fun _ H6 =>
    some (.tuple #[], H6))
    | false => (some (.tuple #[], H))) := by kernel_rfl
-- (*sternpost/role.Part).Drops
noncomputable def G68 : Fs := Fs.ext G67 67 F67
theorem A68 : AllSound Try.prog G68 := AllSound.ext A67 S67
noncomputable def cuts68 : Cuts := []
noncomputable def F68 : List Value → Heap → R := FN Try.prog G68 Try.f68 cuts68
theorem S68 : Sound Try.prog 68 F68 := FN_sound A68 Try.func68 (by kernel_rfl) (by kernel_rfl)
noncomputable abbrev R68 (m : Nat) : List Item → List Value → Heap → R := run Try.prog G68 Try.f68 cuts68 m
theorem t68 (m : Nat) (x0 : Option Addr) (x1 : Int) (H : Heap) : fnE Try.prog G68 Try.f68 cuts68 m [.pointer x0, .int .i64 x1] H =
    onSome (F55 [.pointer x0, .int .i64 x1] H) fun r2 =>
    kInt .i64 r2.1 fun n3 =>
    onSome x0 fun a4 =>
    st 1 r2.2 (⟨a4.block, a4.off + 4, none⟩ : Addr) (.int .i64 n3) fun _ H5 =>
    onSome x0 fun a6 =>
    ldc H5 a6.block fun cs7 =>
    onSome cs7[(a6.off + 2)]? fun v8 =>
    kInt .i64 v8 fun n9 =>
    (match (n9 != (4 : Int)) with
    | true => (some (.bool false, H5))
    | false => (onSome x0 fun a10 =>
    ldc H5 a10.block fun cs11 =>
    onSome cs11[(a10.off + 7)]? fun v12 =>
    kInt .i64 v12 fun n13 =>
    (match (n13 == (0 : Int)) with
    | true => (some (.bool false, H5))
    | false => (onSome x0 fun a14 =>
    ldc H5 a14.block fun cs15 =>
    onSome cs15[(a14.off + 4)]? fun v16 =>
    kInt .i64 v16 fun n17 =>
    onSome x0 fun a18 =>
    ldc H5 a18.block fun cs19 =>
    onSome cs19[(a18.off + 5)]? fun v20 =>
    kInt .i64 v20 fun n21 =>
    onSome x0 fun a22 =>
    ldc H5 a22.block fun cs23 =>
    onSome cs23[(a22.off + 1)]? fun v24 =>
    kInt .i64 v24 fun n25 =>
    (match (decide ((IntKind.i64.wrap (n17 - n21)) < n25)) with
    | true => (some (.bool false, H5))
    | false => (onSome x0 fun a26 =>
    ldc H5 a26.block fun cs27 =>
    onSome cs27[(a26.off + 7)]? fun v28 =>
    kInt .i64 v28 fun n29 =>
    onSome x0 fun a30 =>
    st 1 H5 (⟨a30.block, a30.off + 8, none⟩ : Addr) (.int .i64 (IntKind.i64.wrap (n29 - (1 : Int)))) fun _ H31 =>
    onSome x0 fun a32 =>
    st 1 H31 (⟨a32.block, a32.off + 7, none⟩ : Addr) (.int .i64 (0 : Int)) fun _ H33 =>
    some (.bool true, H33))))))) := by kernel_rfl
-- (*sternpost/sternpostref26.Part).Drops
noncomputable def G69 : Fs := Fs.ext G68 68 F68
theorem A69 : AllSound Try.prog G69 := AllSound.ext A68 S68
noncomputable def cuts69 : Cuts := []
noncomputable def F69 : List Value → Heap → R := FN Try.prog G69 Try.f69 cuts69
theorem S69 : Sound Try.prog 69 F69 := FN_sound A69 Try.func69 (by kernel_rfl) (by kernel_rfl)
noncomputable abbrev R69 (m : Nat) : List Item → List Value → Heap → R := run Try.prog G69 Try.f69 cuts69 m
theorem t69 (m : Nat) (x0 : Option Addr) (x1 : Int) (H : Heap) : fnE Try.prog G69 Try.f69 cuts69 m [.pointer x0, .int .i64 x1] H =
    onSome (F85 [.pointer x0, .int .i64 x1] H) fun r2 =>
    onSome x0 fun a3 =>
    ldc r2.2 a3.block fun cs4 =>
    onSome cs4[(a3.off + 2)]? fun v5 =>
    kInt .i64 v5 fun n6 =>
    (match (n6 != (4 : Int)) with
    | true => (some (.bool false, r2.2))
    | false => (onSome x0 fun a7 =>
    ldc r2.2 a7.block fun cs8 =>
    onSome cs8[(a7.off + 7)]? fun v9 =>
    kInt .i64 v9 fun n10 =>
    (match (n10 == (0 : Int)) with
    | true => (some (.bool false, r2.2))
    | false => (onSome x0 fun a11 =>
    ldc r2.2 a11.block fun cs12 =>
    onSome cs12[(a11.off + 4)]? fun v13 =>
    kInt .i64 v13 fun n14 =>
    onSome x0 fun a15 =>
    ldc r2.2 a15.block fun cs16 =>
    onSome cs16[(a15.off + 5)]? fun v17 =>
    kInt .i64 v17 fun n18 =>
    onSome x0 fun a19 =>
    ldc r2.2 a19.block fun cs20 =>
    onSome cs20[(a19.off + 1)]? fun v21 =>
    kInt .i64 v21 fun n22 =>
    (match (decide (n14 < (IntKind.i64.wrap (n18 + n22)))) with
    | true => (some (.bool false, r2.2))
    | false => (onSome x0 fun a23 =>
    ldc r2.2 a23.block fun cs24 =>
    onSome cs24[(a23.off + 7)]? fun v25 =>
    kInt .i64 v25 fun n26 =>
    onSome x0 fun a27 =>
    st 1 r2.2 (⟨a27.block, a27.off + 8, none⟩ : Addr) (.int .i64 (IntKind.i64.wrap (n26 - (1 : Int)))) fun _ H28 =>
    onSome x0 fun a29 =>
    st 1 H28 (⟨a29.block, a29.off + 7, none⟩ : Addr) (.int .i64 (0 : Int)) fun _ H30 =>
    some (.bool true, H30))))))) := by kernel_rfl
-- (*sternpost/role.Part).Crash
noncomputable def G70 : Fs := Fs.ext G69 69 F69
theorem A70 : AllSound Try.prog G70 := AllSound.ext A69 S69
noncomputable def cuts70 : Cuts := []
noncomputable def F70 : List Value → Heap → R := FN Try.prog G70 Try.f70 cuts70
theorem S70 : Sound Try.prog 70 F70 := FN_sound A70 Try.func70 (by kernel_rfl) (by kernel_rfl)
noncomputable abbrev R70 (m : Nat) : List Item → List Value → Heap → R := run Try.prog G70 Try.f70 cuts70 m
theorem t70 (m : Nat) (x0 : Option Addr) (H : Heap) : fnE Try.prog G70 Try.f70 cuts70 m [.pointer x0] H =
    onSome x0 fun a1 =>
    ldc H a1.block fun cs2 =>
    onSome cs2[a1.off]? fun v3 =>
    kInt .i64 v3 fun n4 =>
    onSome x0 fun a5 =>
    ldc H a5.block fun cs6 =>
    onSome cs6[(a5.off + 1)]? fun v7 =>
    kInt .i64 v7 fun n8 =>
    onSome x0 fun a9 =>
    ldc H a9.block fun cs10 =>
    onSome cs10[(a9.off + 4)]? fun v11 =>
    kInt .i64 v11 fun n12 =>
    onSome x0 fun a13 =>
    ldc H a13.block fun cs14 =>
    onSome cs14[(a13.off + 5)]? fun v15 =>
    kInt .i64 v15 fun n16 =>
    onSome x0 fun a17 =>
    st 9 H a17 (.agg #[.int .i64 n4, .int .i64 n8, .int .i64 (0 : Int), .int .i64 (0 : Int), .int .i64 n12, .int .i64 n16, .int .i64 (0 : Int), .int .i64 (0 : Int), .int .i64 (0 : Int)]) fun _ H18 =>
    some (.tuple #[], H18) := by kernel_rfl
-- (*sternpost/sternpostref26.Part).Crash
noncomputable def G71 : Fs := Fs.ext G70 70 F70
theorem A71 : AllSound Try.prog G71 := AllSound.ext A70 S70
noncomputable def cuts71 : Cuts := []
noncomputable def F71 : List Value → Heap → R := FN Try.prog G71 Try.f71 cuts71
theorem S71 : Sound Try.prog 71 F71 := FN_sound A71 Try.func71 (by kernel_rfl) (by kernel_rfl)
noncomputable abbrev R71 (m : Nat) : List Item → List Value → Heap → R := run Try.prog G71 Try.f71 cuts71 m
theorem t71 (m : Nat) (x0 : Option Addr) (H : Heap) : fnE Try.prog G71 Try.f71 cuts71 m [.pointer x0] H =
    onSome x0 fun a1 =>
    st 1 H (⟨a1.block, a1.off + 2, none⟩ : Addr) (.int .i64 (0 : Int)) fun _ H2 =>
    onSome x0 fun a3 =>
    st 1 H2 (⟨a3.block, a3.off + 3, none⟩ : Addr) (.int .i64 (0 : Int)) fun _ H4 =>
    onSome x0 fun a5 =>
    st 1 H4 (⟨a5.block, a5.off + 6, none⟩ : Addr) (.int .i64 (0 : Int)) fun _ H6 =>
    onSome x0 fun a7 =>
    st 1 H6 (⟨a7.block, a7.off + 7, none⟩ : Addr) (.int .i64 (0 : Int)) fun _ H8 =>
    onSome x0 fun a9 =>
    st 1 H8 (⟨a9.block, a9.off + 8, none⟩ : Addr) (.int .i64 (0 : Int)) fun _ H10 =>
    some (.tuple #[], H10) := by kernel_rfl
-- sternpost/sternpostlaw26.step
noncomputable def G37 : Fs := Fs.ext G71 71 F71
theorem A37 : AllSound Try.prog G37 := AllSound.ext A71 S71
noncomputable def cuts37 : Cuts := [(10, [0, 1, 3, 9])]
noncomputable def td37_10 : List Item := todoOf Try.f37 10
noncomputable def F37 : List Value → Heap → R := FN Try.prog G37 Try.f37 cuts37
theorem S37 : Sound Try.prog 37 F37 := FN_sound A37 Try.func37 (by kernel_rfl) (by kernel_rfl)
noncomputable abbrev R37 (m : Nat) : List Item → List Value → Heap → R := run Try.prog G37 Try.f37 cuts37 m
theorem t37 (m : Nat) (x0 : Option Addr) (x1 : Option Addr) (x2 : Int) (x3 : Int) (x4 : Int) (x5 : Int) (x6 : Int) (x7 : Int) (x8 : Int) (x9 : Int) (x10 : ByteArray) (x11 : Bool) (x12 : Int) (H : Heap) : fnE Try.prog G37 Try.f37 cuts37 m [.pointer x0, .pointer x1, .agg #[.int .i64 x2, .int .i64 x3, .int .i64 x4, .int .i64 x5, .int .i64 x6, .int .i64 x7, .int .i64 x8, .int .i64 x9, .string x10, .bool x11], .int .i64 x12] H =
    let H13 := H ++ [.cells [.int .i64 x2, .int .i64 x3, .int .i64 x4, .int .i64 x5, .int .i64 x6, .int .i64 x7, .int .i64 x8, .int .i64 x9, .string x10, .bool x11] 0 true]
    ldc H13 H.length fun cs14 =>
    onSome cs14[0]? fun v15 =>
    kInt .i64 v15 fun n16 =>
    onSome (F23 [.int .i64 n16, .int .i64 (8 : Int)] H13) fun r17 =>
    kInt .i64 r17.1 fun n18 =>
    (match (n18 == (0 : Int)) with
    | true => (onSome (F40 [.pointer x0, .int .i64 x12] r17.2) fun r19 =>
    kInt .i64 r19.1 fun n20 =>
    onSome (F61 [.pointer x1, .int .i64 x12] r19.2) fun r21 =>
    kInt .i64 r21.1 fun n22 =>
    some (.bool (n20 == n22), r21.2))
    | false => ((match (n18 == (1 : Int)) with
    | true => (ldc r17.2 H.length fun cs23 =>
    onSome cs23[(0 + 2)]? fun v24 =>
    kInt .i64 v24 fun n25 =>
    ldc r17.2 H.length fun cs26 =>
    onSome cs26[(0 + 2)]? fun v27 =>
    kInt .i64 v27 fun n28 =>
    onSome (F26 [.pointer x0, .int .i64 n25, .int .i64 x12] r17.2) fun r29 =>
    kInt .i64 r29.1 fun n30 =>
    unt r17.2 r29.2 H.length (
    onSome (F62 [.pointer x1, .int .i64 n28, .int .i64 x12] r29.2) fun r31 =>
    kInt .i64 r31.1 fun n32 =>
    some (.bool (n30 == n32), r31.2)))
    | false => ((match (n18 == (2 : Int)) with
    | true => (ldc r17.2 H.length fun cs33 =>
    if (0 + 3) + 6 ≤ cs33.length then
    let H34 := r17.2 ++ [.cells [.int .i64 (0 : Int), .int .i64 (0 : Int), .int .i64 (0 : Int), .int .i64 (0 : Int), .int .i64 (0 : Int), .string (⟨#[]⟩ : ByteArray)] 0 true]
    st 6 H34 (⟨r17.2.length, 0, none⟩ : Addr) (.agg ((range cs33 (0 + 3) 6).toArray)) fun _ H35 =>
    ldc H35 H.length fun cs36 =>
    onSome cs36[(0 + 9)]? fun v37 =>
    kBool v37 fun b38 =>
    (match b38 with
    | true => (onSome x1 fun a39 =>
    ldc H35 a39.block fun cs40 =>
    onSome cs40[(a39.off + 3)]? fun v41 =>
    kInt .i64 v41 fun n42 =>
    ldc H35 r17.2.length fun cs43 =>
    onSome cs43[(0 + 1)]? fun v44 =>
    kInt .i64 v44 fun n45 =>
    onSome (F23 [.int .i64 n45, .int .i64 (4 : Int)] H35) fun r46 =>
    kInt .i64 r46.1 fun n47 =>
    unt H35 r46.2 a39.block (
    st 1 r46.2 (⟨r17.2.length, 0 + 1, none⟩ : Addr) (.int .i64 (mxi (0 : Int) (IntKind.i64.wrap ((IntKind.i64.wrap (n42 + n47)) - (1 : Int))))) fun _ H48 =>
    R37 m td37_10 [.pointer x0, .pointer x1, .int .i64 x12, .pointer (some (⟨r17.2.length, 0, none⟩ : Addr))] H48))
    | false => (R37 m td37_10 [.pointer x0, .pointer x1, .int .i64 x12, .pointer (some (⟨r17.2.length, 0, none⟩ : Addr))] H35))
    else none)
    | false => ((match (n18 == (3 : Int)) with
    | true => (onSome (F54 [.pointer x0, .int .i64 x12] r17.2) fun r49 =>
    kInt .i64 r49.1 fun n50 =>
    onSome (F64 [.pointer x1, .int .i64 x12] r49.2) fun r51 =>
    kInt .i64 r51.1 fun n52 =>
    some (.bool (n50 == n52), r51.2))
    | false => ((match (n18 == (4 : Int)) with
    | true => (onSome (F29 [.pointer x0, .int .i64 x12] r17.2) fun r53 =>
    kInt .i64 r53.1 fun n54 =>
    onSome (F65 [.pointer x1, .int .i64 x12] r53.2) fun r55 =>
    kInt .i64 r55.1 fun n56 =>
    some (.bool (n54 == n56), r55.2))
    | false => ((match (n18 == (5 : Int)) with
    | true => (onSome (F66 [.pointer x0] r17.2) fun r57 =>
    onSome (F67 [.pointer x1] r57.2) fun r58 =>
    some (.bool true, r58.2))
    | false => ((match (n18 == (7 : Int)) with
    | true => (onSome (F68 [.pointer x0, .int .i64 x12] r17.2) fun r59 =>
    kBool r59.1 fun b60 =>
    onSome (F69 [.pointer x1, .int .i64 x12] r59.2) fun r61 =>
    kBool r61.1 fun b62 =>
    some (.bool (b60 == b62), r61.2))
    | false => (onSome (F70 [.pointer x0] r17.2) fun r63 =>
    onSome (F71 [.pointer x1] r63.2) fun r64 =>
    some (.bool true, r64.2))))))))))))))) := by kernel_rfl
theorem c37_10 (m : Nat) (x0 : Option Addr) (x1 : Option Addr) (x2 : Int) (x3 : Option Addr) (H : Heap) : R37 (m + 1) td37_10 [.pointer x0, .pointer x1, .int .i64 x2, .pointer x3] H =
    onSome x3 fun a4 =>
    ldc H a4.block fun cs5 =>
    if a4.off + 6 ≤ cs5.length then
    onSome (F27 [.pointer x0, .agg ((range cs5 a4.off 6).toArray), .int .i64 x2] H) fun r6 =>
    kTup r6.1 fun vs7 =>
    onSome vs7[0]? fun v8 =>
    kInt .i64 v8 fun n9 =>
    kTup r6.1 fun vs10 =>
    onSome vs10[1]? fun v11 =>
    kInt .i64 v11 fun n12 =>
    onSome x3 fun a13 =>
    ldc r6.2 a13.block fun cs14 =>
    if a13.off + 6 ≤ cs14.length then
    onSome (F63 [.pointer x1, .agg ((range cs14 a13.off 6).toArray), .int .i64 x2] r6.2) fun r15 =>
    kTup r15.1 fun vs16 =>
    onSome vs16[0]? fun v17 =>
    kInt .i64 v17 fun n18 =>
    kTup r15.1 fun vs19 =>
    onSome vs19[1]? fun v20 =>
    kInt .i64 v20 fun n21 =>
    (match (n9 == n18) with
    | true => (some (.bool (n12 == n21), r15.2))
    | false => (some (.bool false, r15.2)))
    else none
    else none := by kernel_rfl
-- sternpost/sternpostlaw26.RolePlays
noncomputable def G7 : Fs := Fs.ext G37 37 F37
theorem A7 : AllSound Try.prog G7 := AllSound.ext A37 S37
noncomputable def cuts7 : Cuts := [(100007, [2, 7, 9, 11, 12]), (14, []), (15, []), (4, [])]
noncomputable def td7_100007 : List Item := todoOf Try.f7 100007
noncomputable def td7_14 : List Item := todoOf Try.f7 14
noncomputable def td7_15 : List Item := todoOf Try.f7 15
noncomputable def td7_4 : List Item := todoOf Try.f7 4
noncomputable def F7 : List Value → Heap → R := FN Try.prog G7 Try.f7 cuts7
theorem S7 : Sound Try.prog 7 F7 := FN_sound A7 Try.func7 (by kernel_rfl) (by kernel_rfl)
noncomputable abbrev R7 (m : Nat) : List Item → List Value → Heap → R := run Try.prog G7 Try.f7 cuts7 m
theorem t7 (m : Nat) (x0 : Int) (x1 : Int) (a2 : Option Addr) (l3 : Nat) (c4 : Nat) (H : Heap) : fnE Try.prog G7 Try.f7 cuts7 m [.int .i64 x0, .int .i64 x1, .slice a2 l3 c4] H =
    onSome (F24 [.int .i64 x0, .int .i64 x1] H) fun r5 =>
    kTup r5.1 fun vs6 =>
    onSome vs6[0]? fun v7 =>
    kPtr v7 fun p8 =>
    kTup r5.1 fun vs9 =>
    onSome vs9[1]? fun v10 =>
    kInt .i64 v10 fun n11 =>
    onSome (F36 [.int .i64 x0, .int .i64 x1] r5.2) fun r12 =>
    kTup r12.1 fun vs13 =>
    onSome vs13[0]? fun v14 =>
    kPtr v14 fun p15 =>
    kTup r12.1 fun vs16 =>
    onSome vs16[1]? fun v17 =>
    kInt .i64 v17 fun n18 =>
    (match (n11 != n18) with
    | true => (R7 m td7_4 [] r12.2)
    | false => ((match (!(p8.isNone == p15.isNone)) with
    | true => (R7 m td7_4 [] r12.2)
    | false => (onSome (F25 [] r12.2) fun r19 =>
    kBool r19.1 fun b20 =>
    (match (!b20) with
    | true => (R7 m td7_4 [] r19.2)
    | false => (R7 m td7_100007 [.slice a2 l3 c4, .pointer p8, .pointer p15, .int .i64 (0 : Int), .int .i64 (0 : Int)] r19.2)))))) := by kernel_rfl
theorem c7_4 (m : Nat)  (H : Heap) : R7 (m + 1) td7_4 [] H =
    some (.bool false, H) := by kernel_rfl
theorem c7_14 (m : Nat)  (H : Heap) : R7 (m + 1) td7_14 [] H =
    some (.bool false, H) := by kernel_rfl
theorem c7_15 (m : Nat)  (H : Heap) : R7 (m + 1) td7_15 [] H =
    some (.bool true, H) := by kernel_rfl
theorem c7_100007 (m : Nat) (a0 : Option Addr) (l1 : Nat) (c2 : Nat) (x3 : Option Addr) (x4 : Option Addr) (x5 : Int) (x6 : Int) (H : Heap) : R7 (m + 1) td7_100007 [.slice a0 l1 c2, .pointer x3, .pointer x4, .int .i64 x5, .int .i64 x6] H =
    (match (!x4.isNone) with
    | true => ((match (decide (x6 < ((l1 : Nat) : Int))) with
    | true => ((match (decide (x6 < (80 : Int))) with
    | true => (onSome a0 fun a7 =>
    if 0 ≤ x6 ∧ x6 < (l1 : Nat) then
    ldc H ((a7.add (x6.toNat * 10)).block) fun cs8 =>
    onSome cs8[((a7.add (x6.toNat * 10)).off + 1)]? fun v9 =>
    kInt .i64 v9 fun n10 =>
    onSome (F23 [.int .i64 n10, .int .i64 (100 : Int)] H) fun r11 =>
    kInt .i64 r11.1 fun n12 =>
    onSome a0 fun a13 =>
    if 0 ≤ x6 ∧ x6 < (l1 : Nat) then
    ldc r11.2 ((a13.add (x6.toNat * 10)).block) fun cs14 =>
    if (a13.add (x6.toNat * 10)).off + 10 ≤ cs14.length then
    onSome (F37 [.pointer x3, .pointer x4, .agg ((range cs14 ((a13.add (x6.toNat * 10)).off) 10).toArray), .int .i64 (IntKind.i64.wrap (x5 + n12))] r11.2) fun r15 =>
    kBool r15.1 fun b16 =>
    (match (!b16) with
    | true => (some (.bool false, r15.2))
    | false => (onSome (F30 [.pointer x3] r15.2) fun r17 =>
    kTup r17.1 fun vs18 =>
    onSome vs18[0]? fun v19 =>
    kInt .i64 v19 fun n20 =>
    kTup r17.1 fun vs21 =>
    onSome vs21[1]? fun v22 =>
    kInt .i64 v22 fun n23 =>
    kTup r17.1 fun vs24 =>
    onSome vs24[2]? fun v25 =>
    kInt .i64 v25 fun n26 =>
    kTup r17.1 fun vs27 =>
    onSome vs27[3]? fun v28 =>
    kInt .i64 v28 fun n29 =>
    onSome x4 fun a30 =>
    ldc r17.2 a30.block fun cs31 =>
    onSome cs31[(a30.off + 2)]? fun v32 =>
    kInt .i64 v32 fun n33 =>
    (match (n20 != n33) with
    | true => (R7 m td7_14 [] r17.2)
    | false => (onSome x4 fun a34 =>
    ldc r17.2 a34.block fun cs35 =>
    onSome cs35[(a34.off + 3)]? fun v36 =>
    kInt .i64 v36 fun n37 =>
    (match (n23 != n37) with
    | true => (R7 m td7_14 [] r17.2)
    | false => (onSome x4 fun a38 =>
    ldc r17.2 a38.block fun cs39 =>
    onSome cs39[(a38.off + 6)]? fun v40 =>
    kInt .i64 v40 fun n41 =>
    (match (n26 != n41) with
    | true => (R7 m td7_14 [] r17.2)
    | false => (onSome x4 fun a42 =>
    ldc r17.2 a42.block fun cs43 =>
    onSome cs43[(a42.off + 7)]? fun v44 =>
    kInt .i64 v44 fun n45 =>
    (match (n29 != n45) with
    | true => (R7 m td7_14 [] r17.2)
    | false => (onSome (F31 [.pointer x3] r17.2) fun r46 =>
    kBool r46.1 fun b47 =>
    onSome (F38 [.pointer x4] r46.2) fun r48 =>
    kBool r48.1 fun b49 =>
    (match (!(b47 == b49)) with
    | true => (R7 m td7_14 [] r48.2)
    | false => (onSome (F28 [.pointer x3, .int .i64 (IntKind.i64.wrap (x5 + n12))] r48.2) fun r50 =>
    kBool r50.1 fun b51 =>
    onSome (F39 [.pointer x4, .int .i64 (IntKind.i64.wrap (x5 + n12))] r50.2) fun r52 =>
    kBool r52.1 fun b53 =>
    (match (!(b51 == b53)) with
    | true => (R7 m td7_14 [] r52.2)
    | false => (onSome a0 fun a54 =>
    if 0 ≤ x6 ∧ x6 < (l1 : Nat) then
    ldc r52.2 ((a54.add (x6.toNat * 10)).block) fun cs55 =>
    onSome cs55[((a54.add (x6.toNat * 10)).off + 2)]? fun v56 =>
    kInt .i64 v56 fun n57 =>
    onSome a0 fun a58 =>
    if 0 ≤ x6 ∧ x6 < (l1 : Nat) then
    ldc r52.2 ((a58.add (x6.toNat * 10)).block) fun cs59 =>
    onSome cs59[((a58.add (x6.toNat * 10)).off + 2)]? fun v60 =>
    kInt .i64 v60 fun n61 =>
    onSome (F28 [.pointer x3, .int .i64 n57] r52.2) fun r62 =>
    kBool r62.1 fun b63 =>
    unt r52.2 r62.2 ((a58.add (x6.toNat * 10)).block) (
    onSome (F39 [.pointer x4, .int .i64 n61] r62.2) fun r64 =>
    kBool r64.1 fun b65 =>
    (match (!(b63 == b65)) with
    | true => (R7 m td7_14 [] r64.2)
    | false => (R7 m td7_100007 [.slice a0 l1 c2, .pointer x3, .pointer x4, .int .i64 (IntKind.i64.wrap (x5 + n12)), .int .i64 (IntKind.i64.wrap (x6 + (1 : Int)))] r64.2)))
    else none
    else none))))))))))))))
    else none
    else none
    else none)
    | false => (R7 m td7_15 [] H)))
    | false => (R7 m td7_15 [] H)))
    | false => (R7 m td7_15 [] H)) := by kernel_rfl
end Go.Proofs.Yticchkdbanhjfaa
