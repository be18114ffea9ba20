/- PRINTED by a program of the session (Pr.lean): what functions of the program come to on the abstract heap, each checked by the kernel. Conditions: none. -/
import Derived.Test.YticchkdbanhjfaaFwN
import Derived.Test.YticchkdbanhjfaaProg
set_option linter.unusedVariables false
namespace Go.Proofs.Yticchkdbanhjfaa
open Go Go.Proofs.Yticchkdbanhjfaa.Fw Go.RowKit
-- sternpost/sternpostbook.Among
def G23 : Fs := Fs.none
theorem A23 : AllSound Try.prog G23 := AllSound.none
noncomputable def cuts23 : Cuts := []
noncomputable def F23 : List Value → Heap → R := FN Try.prog G23 Try.f23 cuts23
theorem S23 : Sound Try.prog 23 F23 := FN_sound A23 Try.func23 (by kernel_rfl) (by kernel_rfl)
noncomputable abbrev R23 (m : Nat) : List Item → List Value → Heap → R := run Try.prog G23 Try.f23 cuts23 m
theorem t23 (m : Nat) (x0 : Int) (x1 : Int) (H : Heap) : fnE Try.prog G23 Try.f23 cuts23 m [.int .i64 x0, .int .i64 x1] H =
    if x1 = 0 then none else
    if x1 = 0 then none else
    some (.int .i64 ((IntKind.i64.wrap ((x0.tmod x1) + x1)).tmod x1), H) := by kernel_rfl
-- sternpost/role.New
noncomputable def G24 : Fs := Fs.ext G23 23 F23
theorem A24 : AllSound Try.prog G24 := AllSound.ext A23 S23
noncomputable def cuts24 : Cuts := []
noncomputable def F24 : List Value → Heap → R := FN Try.prog G24 Try.f24 cuts24
theorem S24 : Sound Try.prog 24 F24 := FN_sound A24 Try.func24 (by kernel_rfl) (by kernel_rfl)
noncomputable abbrev R24 (m : Nat) : List Item → List Value → Heap → R := run Try.prog G24 Try.f24 cuts24 m
theorem t24 (m : Nat) (x0 : Int) (x1 : Int) (H : Heap) : fnE Try.prog G24 Try.f24 cuts24 m [.int .i64 x0, .int .i64 x1] H =
    (match (decide (x0 < (0 : Int))) with
    | true => (some (.tuple #[.pointer none, .int .i64 (1 : Int)], H))
    | false => ((match (decide ((1 : Int) < x0)) with
    | true => (some (.tuple #[.pointer none, .int .i64 (1 : Int)], H))
    | false => ((match (decide (x1 < (1 : Int))) with
    | true => (some (.tuple #[.pointer none, .int .i64 (1 : Int)], H))
    | false => ((match (decide ((1048576 : Int) < x1)) with
    | true => (some (.tuple #[.pointer none, .int .i64 (1 : Int)], H))
    | false => (let H2 := H ++ [.cells [.int .i64 x0, .int .i64 x1, .int .i64 (0 : Int), .int .i64 (0 : Int), .int .i64 (0 : Int), .int .i64 (0 : Int), .int .i64 (0 : Int), .int .i64 (0 : Int), .int .i64 (0 : Int)] 0 true]
    some (.tuple #[.pointer (some (⟨H.length, 0, none⟩ : Addr)), .int .i64 (0 : Int)], H2))))))))) := by kernel_rfl
-- (*sternpost/role.Part).at
noncomputable def G55 : Fs := Fs.ext G24 24 F24
theorem A55 : AllSound Try.prog G55 := AllSound.ext A24 S24
noncomputable def cuts55 : Cuts := []
noncomputable def F55 : List Value → Heap → R := FN Try.prog G55 Try.f55 cuts55
theorem S55 : Sound Try.prog 55 F55 := FN_sound A55 Try.func55 (by kernel_rfl) (by kernel_rfl)
noncomputable abbrev R55 (m : Nat) : List Item → List Value → Heap → R := run Try.prog G55 Try.f55 cuts55 m
theorem t55 (m : Nat) (x0 : Option Addr) (x1 : Int) (H : Heap) : fnE Try.prog G55 Try.f55 cuts55 m [.pointer x0, .int .i64 x1] H =
    onSome x0 fun a2 =>
    ldc H a2.block fun cs3 =>
    onSome cs3[(a2.off + 4)]? fun v4 =>
    kInt .i64 v4 fun n5 =>
    some (.int .i64 (mxi n5 (mni x1 (1099511627776 : Int))), H) := by kernel_rfl
-- sternpost/channel.word
noncomputable def G77 : Fs := Fs.ext G55 55 F55
theorem A77 : AllSound Try.prog G77 := AllSound.ext A55 S55
noncomputable def cuts77 : Cuts := []
noncomputable def F77 : List Value → Heap → R := FN Try.prog G77 Try.f77 cuts77
theorem S77 : Sound Try.prog 77 F77 := FN_sound A77 Try.func77 (by kernel_rfl) (by kernel_rfl)
noncomputable abbrev R77 (m : Nat) : List Item → List Value → Heap → R := run Try.prog G77 Try.f77 cuts77 m
theorem t77 (m : Nat) (x0 : Int) (H : Heap) : fnE Try.prog G77 Try.f77 cuts77 m [.int .i64 x0] H =
    (match (decide ((0 : Int) ≤ x0)) with
    | true => (some (.bool (decide (x0 ≤ (4294967295 : Int))), H))
    | false => (some (.bool false, H))) := by kernel_rfl
-- sternpost/channel.known
noncomputable def G78 : Fs := Fs.ext G77 77 F77
theorem A78 : AllSound Try.prog G78 := AllSound.ext A77 S77
noncomputable def cuts78 : Cuts := []
noncomputable def F78 : List Value → Heap → R := FN Try.prog G78 Try.f78 cuts78
theorem S78 : Sound Try.prog 78 F78 := FN_sound A78 Try.func78 (by kernel_rfl) (by kernel_rfl)
noncomputable abbrev R78 (m : Nat) : List Item → List Value → Heap → R := run Try.prog G78 Try.f78 cuts78 m
theorem t78 (m : Nat) (x0 : Int) (H : Heap) : fnE Try.prog G78 Try.f78 cuts78 m [.int .i64 x0] H =
    (match (decide ((0 : Int) ≤ x0)) with
    | true => (some (.bool (decide (x0 ≤ (5 : Int))), H))
    | false => (some (.bool false, H))) := by kernel_rfl
-- sternpost/channel.Check
noncomputable def G56 : Fs := Fs.ext G78 78 F78
theorem A56 : AllSound Try.prog G56 := AllSound.ext A78 S78
noncomputable def cuts56 : Cuts := []
noncomputable def F56 : List Value → Heap → R := FN Try.prog G56 Try.f56 cuts56
theorem S56 : Sound Try.prog 56 F56 := FN_sound A56 Try.func56 (by kernel_rfl) (by kernel_rfl)
noncomputable abbrev R56 (m : Nat) : List Item → List Value → Heap → R := run Try.prog G56 Try.f56 cuts56 m
theorem t56 (m : Nat) (x0 : Int) (x1 : Int) (x2 : Int) (x3 : Int) (x4 : Int) (x5 : ByteArray) (H : Heap) : fnE Try.prog G56 Try.f56 cuts56 m [.agg #[.int .i64 x0, .int .i64 x1, .int .i64 x2, .int .i64 x3, .int .i64 x4, .string x5]] H =
    let H6 := H ++ [.cells [.int .i64 x0, .int .i64 x1, .int .i64 x2, .int .i64 x3, .int .i64 x4, .string x5] 0 true]
    ldc H6 H.length fun cs7 =>
    onSome cs7[(0 + 1)]? fun v8 =>
    kInt .i64 v8 fun n9 =>
    onSome (F77 [.int .i64 n9] H6) fun r10 =>
    kBool r10.1 fun b11 =>
    (match b11 with
    | true => (ldc r10.2 H.length fun cs12 =>
    onSome cs12[(0 + 3)]? fun v13 =>
    kInt .i64 v13 fun n14 =>
    onSome (F77 [.int .i64 n14] r10.2) fun r15 =>
    kBool r15.1 fun b16 =>
    (match b16 with
    | true => (ldc r15.2 H.length fun cs17 =>
    onSome cs17[(0 + 4)]? fun v18 =>
    kInt .i64 v18 fun n19 =>
    onSome (F77 [.int .i64 n19] r15.2) fun r20 =>
    kBool r20.1 fun b21 =>
    (match b21 with
    | true => (ldc r20.2 H.length fun cs22 =>
    onSome cs22[(0 + 2)]? fun v23 =>
    kInt .i64 v23 fun n24 =>
    onSome (F78 [.int .i64 n24] r20.2) fun r25 =>
    kBool r25.1 fun b26 =>
    (match b26 with
    | true => (ldc r25.2 H.length fun cs27 =>
    onSome cs27[(0 + 5)]? fun v28 =>
    kStr v28 fun s29 =>
    (match (decide ((s29.size : Int) ≤ (4096 : Int))) with
    | true => (ldc r25.2 H.length fun cs30 =>
    onSome cs30[0]? fun v31 =>
    kInt .i64 v31 fun n32 =>
    (match (n32 == (1 : Int)) with
    | true => (ldc r25.2 H.length fun cs33 =>
    onSome cs33[(0 + 3)]? fun v34 =>
    kInt .i64 v34 fun n35 =>
    (match (decide ((0 : Int) < n35)) with
    | true => ((match (decide ((0 : Int) < n35)) with
    | true => (some (.int .i64 (0 : Int), r25.2))
    | false => (some (.int .i64 (240 : Int), r25.2))))
    | false => ((match (decide ((s29.size : Int) ≤ (4096 : Int))) with
    | true => (ldc r25.2 H.length fun cs36 =>
    onSome cs36[0]? fun v37 =>
    kInt .i64 v37 fun n38 =>
    (match (n38 == (2 : Int)) with
    | true => (ldc r25.2 H.length fun cs39 =>
    onSome cs39[(0 + 5)]? fun v40 =>
    kStr v40 fun s41 =>
    (match (s41.toList == (⟨#[]⟩ : ByteArray).toList) with
    | true => (some (.int .i64 (0 : Int), r25.2))
    | false => (some (.int .i64 (240 : Int), r25.2))))
    | false => (some (.int .i64 (240 : Int), r25.2))))
    | false => (some (.int .i64 (240 : Int), r25.2))))))
    | false => ((match (decide ((s29.size : Int) ≤ (4096 : Int))) with
    | true => (ldc r25.2 H.length fun cs42 =>
    onSome cs42[0]? fun v43 =>
    kInt .i64 v43 fun n44 =>
    (match (n44 == (2 : Int)) with
    | true => (ldc r25.2 H.length fun cs45 =>
    onSome cs45[(0 + 5)]? fun v46 =>
    kStr v46 fun s47 =>
    (match (s47.toList == (⟨#[]⟩ : ByteArray).toList) with
    | true => (some (.int .i64 (0 : Int), r25.2))
    | false => (some (.int .i64 (240 : Int), r25.2))))
    | false => (some (.int .i64 (240 : Int), r25.2))))
    | false => (some (.int .i64 (240 : Int), r25.2))))))
    | false => ((match (decide ((s29.size : Int) ≤ (4096 : Int))) with
    | true => (ldc r25.2 H.length fun cs48 =>
    onSome cs48[0]? fun v49 =>
    kInt .i64 v49 fun n50 =>
    (match (n50 == (2 : Int)) with
    | true => (ldc r25.2 H.length fun cs51 =>
    onSome cs51[(0 + 5)]? fun v52 =>
    kStr v52 fun s53 =>
    (match (s53.toList == (⟨#[]⟩ : ByteArray).toList) with
    | true => (some (.int .i64 (0 : Int), r25.2))
    | false => (some (.int .i64 (240 : Int), r25.2))))
    | false => (some (.int .i64 (240 : Int), r25.2))))
    | false => (some (.int .i64 (240 : Int), r25.2))))))
    | false => (some (.int .i64 (240 : Int), r25.2))))
    | false => (some (.int .i64 (240 : Int), r20.2))))
    | false => (some (.int .i64 (240 : Int), r15.2))))
    | false => (some (.int .i64 (240 : Int), r10.2))) := by kernel_rfl
-- (*sternpost/role.Part).invited
noncomputable def G57 : Fs := Fs.ext G56 56 F56
theorem A57 : AllSound Try.prog G57 := AllSound.ext A56 S56
noncomputable def cuts57 : Cuts := []
noncomputable def F57 : List Value → Heap → R := FN Try.prog G57 Try.f57 cuts57
theorem S57 : Sound Try.prog 57 F57 := FN_sound A57 Try.func57 (by kernel_rfl) (by kernel_rfl)
noncomputable abbrev R57 (m : Nat) : List Item → List Value → Heap → R := run Try.prog G57 Try.f57 cuts57 m
theorem t57 (m : Nat) (x0 : Option Addr) (x1 : Int) (x2 : Int) (x3 : Int) (x4 : Int) (x5 : Int) (x6 : ByteArray) (H : Heap) : fnE Try.prog G57 Try.f57 cuts57 m [.pointer x0, .agg #[.int .i64 x1, .int .i64 x2, .int .i64 x3, .int .i64 x4, .int .i64 x5, .string x6]] H =
    let H7 := H ++ [.cells [.int .i64 x1, .int .i64 x2, .int .i64 x3, .int .i64 x4, .int .i64 x5, .string x6] 0 true]
    onSome x0 fun a8 =>
    ldc H7 a8.block fun cs9 =>
    onSome cs9[(a8.off + 2)]? fun v10 =>
    kInt .i64 v10 fun n11 =>
    (match (n11 == (1 : Int)) with
    | true => (ldc H7 H.length fun cs12 =>
    onSome cs12[0]? fun v13 =>
    kInt .i64 v13 fun n14 =>
    (match (n14 == (2 : Int)) with
    | true => (ldc H7 H.length fun cs15 =>
    onSome cs15[(0 + 2)]? fun v16 =>
    kInt .i64 v16 fun n17 =>
    (match (n17 == (4 : Int)) with
    | true => (ldc H7 H.length fun cs18 =>
    onSome cs18[(0 + 1)]? fun v19 =>
    kInt .i64 v19 fun n20 =>
    onSome x0 fun a21 =>
    ldc H7 a21.block fun cs22 =>
    onSome cs22[(a21.off + 3)]? fun v23 =>
    kInt .i64 v23 fun n24 =>
    (match (decide (n24 < n20)) with
    | true => (ldc H7 H.length fun cs25 =>
    onSome cs25[(0 + 3)]? fun v26 =>
    kInt .i64 v26 fun n27 =>
    onSome x0 fun a28 =>
    ldc H7 a28.block fun cs29 =>
    onSome cs29[(a28.off + 6)]? fun v30 =>
    kInt .i64 v30 fun n31 =>
    some (.bool (n27 == n31), H7))
    | false => (some (.bool false, H7))))
    | false => (some (.bool false, H7))))
    | false => (some (.bool false, H7))))
    | false => (some (.bool false, H7))) := by kernel_rfl
-- (*sternpost/role.Part).Speaks
noncomputable def G31 : Fs := Fs.ext G57 57 F57
theorem A31 : AllSound Try.prog G31 := AllSound.ext A57 S57
noncomputable def cuts31 : Cuts := []
noncomputable def F31 : List Value → Heap → R := FN Try.prog G31 Try.f31 cuts31
theorem S31 : Sound Try.prog 31 F31 := FN_sound A31 Try.func31 (by kernel_rfl) (by kernel_rfl)
noncomputable abbrev R31 (m : Nat) : List Item → List Value → Heap → R := run Try.prog G31 Try.f31 cuts31 m
theorem t31 (m : Nat) (x0 : Option Addr) (H : Heap) : fnE Try.prog G31 Try.f31 cuts31 m [.pointer x0] H =
    onSome x0 fun a1 =>
    ldc H a1.block fun cs2 =>
    onSome cs2[(a1.off + 2)]? fun v3 =>
    kInt .i64 v3 fun n4 =>
    (match (n4 == (3 : Int)) with
    | true => (some (.bool true, H))
    | false => ((match (n4 == (4 : Int)) with
    | true => (some (.bool true, H))
    | false => (some (.bool false, H))))) := by kernel_rfl
-- (*sternpost/role.Part).asked
noncomputable def G58 : Fs := Fs.ext G31 31 F31
theorem A58 : AllSound Try.prog G58 := AllSound.ext A31 S31
noncomputable def cuts58 : Cuts := []
noncomputable def F58 : List Value → Heap → R := FN Try.prog G58 Try.f58 cuts58
theorem S58 : Sound Try.prog 58 F58 := FN_sound A58 Try.func58 (by kernel_rfl) (by kernel_rfl)
noncomputable abbrev R58 (m : Nat) : List Item → List Value → Heap → R := run Try.prog G58 Try.f58 cuts58 m
theorem t58 (m : Nat) (x0 : Option Addr) (x1 : Int) (x2 : Int) (x3 : Int) (x4 : Int) (x5 : Int) (x6 : ByteArray) (H : Heap) : fnE Try.prog G58 Try.f58 cuts58 m [.pointer x0, .agg #[.int .i64 x1, .int .i64 x2, .int .i64 x3, .int .i64 x4, .int .i64 x5, .string x6]] H =
    let H7 := H ++ [.cells [.int .i64 x1, .int .i64 x2, .int .i64 x3, .int .i64 x4, .int .i64 x5, .string x6] 0 true]
    ldc H7 H.length fun cs8 =>
    onSome cs8[0]? fun v9 =>
    kInt .i64 v9 fun n10 =>
    (match (n10 == (2 : Int)) with
    | true => (ldc H7 H.length fun cs11 =>
    onSome cs11[(0 + 2)]? fun v12 =>
    kInt .i64 v12 fun n13 =>
    (match (n13 == (1 : Int)) with
    | true => (ldc H7 H.length fun cs14 =>
    onSome cs14[(0 + 1)]? fun v15 =>
    kInt .i64 v15 fun n16 =>
    onSome x0 fun a17 =>
    ldc H7 a17.block fun cs18 =>
    onSome cs18[(a17.off + 3)]? fun v19 =>
    kInt .i64 v19 fun n20 =>
    (match (n16 != n20) with
    | true => (ldc H7 H.length fun cs21 =>
    onSome cs21[(0 + 3)]? fun v22 =>
    kInt .i64 v22 fun n23 =>
    onSome x0 fun a24 =>
    ldc H7 a24.block fun cs25 =>
    onSome cs25[(a24.off + 8)]? fun v26 =>
    kInt .i64 v26 fun n27 =>
    onSome (F31 [.pointer x0] H7) fun r28 =>
    kBool r28.1 fun b29 =>
    (match b29 with
    | true => ((match (decide (n27 < n23)) with
    | true => (onSome x0 fun a30 =>
    ldc r28.2 a30.block fun cs31 =>
    onSome cs31[(a30.off + 3)]? fun v32 =>
    kInt .i64 v32 fun n33 =>
    some (.bool (decide (n33 < (4294967295 : Int))), r28.2))
    | false => (some (.bool false, r28.2))))
    | false => (some (.bool false, r28.2))))
    | false => (onSome (F31 [.pointer x0] H7) fun r34 =>
    kBool r34.1 fun b35 =>
    (match b35 with
    | true => (some (.bool false, r34.2))
    | false => (some (.bool false, r34.2))))))
    | false => (onSome (F31 [.pointer x0] H7) fun r36 =>
    kBool r36.1 fun b37 =>
    (match b37 with
    | true => (some (.bool false, r36.2))
    | false => (some (.bool false, r36.2))))))
    | false => (onSome (F31 [.pointer x0] H7) fun r38 =>
    kBool r38.1 fun b39 =>
    (match b39 with
    | true => (some (.bool false, r38.2))
    | false => (some (.bool false, r38.2))))) := by kernel_rfl
-- (*sternpost/role.Part).Hear
noncomputable def G27 : Fs := Fs.ext G58 58 F58
theorem A27 : AllSound Try.prog G27 := AllSound.ext A58 S58
noncomputable def cuts27 : Cuts := []
noncomputable def F27 : List Value → Heap → R := FN Try.prog G27 Try.f27 cuts27
theorem S27 : Sound Try.prog 27 F27 := FN_sound A27 Try.func27 (by kernel_rfl) (by kernel_rfl)
noncomputable abbrev R27 (m : Nat) : List Item → List Value → Heap → R := run Try.prog G27 Try.f27 cuts27 m
theorem t27 (m : Nat) (x0 : Option Addr) (x1 : Int) (x2 : Int) (x3 : Int) (x4 : Int) (x5 : Int) (x6 : ByteArray) (x7 : Int) (H : Heap) : fnE Try.prog G27 Try.f27 cuts27 m [.pointer x0, .agg #[.int .i64 x1, .int .i64 x2, .int .i64 x3, .int .i64 x4, .int .i64 x5, .string x6], .int .i64 x7] H =
    let H8 := H ++ [.cells [.int .i64 x1, .int .i64 x2, .int .i64 x3, .int .i64 x4, .int .i64 x5, .string x6] 0 true]
    onSome x0 fun a9 =>
    ldc H8 a9.block fun cs10 =>
    onSome cs10[(a9.off + 2)]? fun v11 =>
    kInt .i64 v11 fun n12 =>
    (match (n12 == (0 : Int)) with
    | true => (some (.tuple #[.int .i64 (0 : Int), .int .i64 (180 : Int)], H8))
    | false => (onSome x0 fun a13 =>
    ldc H8 a13.block fun cs14 =>
    onSome cs14[(a13.off + 2)]? fun v15 =>
    kInt .i64 v15 fun n16 =>
    (match (n16 == (5 : Int)) with
    | true => (some (.tuple #[.int .i64 (0 : Int), .int .i64 (180 : Int)], H8))
    | false => (ldc H8 H.length fun cs17 =>
    if 0 + 6 ≤ cs17.length then
    onSome (F56 [.agg ((range cs17 0 6).toArray)] H8) fun r18 =>
    kInt .i64 r18.1 fun n19 =>
    (match (n19 != (0 : Int)) with
    | true => (some (.tuple #[.int .i64 (0 : Int), .int .i64 (1 : Int)], r18.2))
    | false => (onSome (F55 [.pointer x0, .int .i64 x7] r18.2) fun r20 =>
    kInt .i64 r20.1 fun n21 =>
    onSome x0 fun a22 =>
    st 1 r20.2 (⟨a22.block, a22.off + 4, none⟩ : Addr) (.int .i64 n21) fun _ H23 =>
    ldc H23 H.length fun cs24 =>
    if 0 + 6 ≤ cs24.length then
    onSome (F57 [.pointer x0, .agg ((range cs24 0 6).toArray)] H23) fun r25 =>
    kBool r25.1 fun b26 =>
    (match b26 with
    | true => (ldc r25.2 H.length fun cs27 =>
    onSome cs27[(0 + 1)]? fun v28 =>
    kInt .i64 v28 fun n29 =>
    onSome x0 fun a30 =>
    st 1 r25.2 (⟨a30.block, a30.off + 3, none⟩ : Addr) (.int .i64 n29) fun _ H31 =>
    onSome x0 fun a32 =>
    ldc H31 a32.block fun cs33 =>
    onSome cs33[(a32.off + 4)]? fun v34 =>
    kInt .i64 v34 fun n35 =>
    onSome x0 fun a36 =>
    st 1 H31 (⟨a36.block, a36.off + 5, none⟩ : Addr) (.int .i64 n35) fun _ H37 =>
    some (.tuple #[.int .i64 (1 : Int), .int .i64 (0 : Int)], H37))
    | false => (ldc r25.2 H.length fun cs38 =>
    if 0 + 6 ≤ cs38.length then
    onSome (F58 [.pointer x0, .agg ((range cs38 0 6).toArray)] r25.2) fun r39 =>
    kBool r39.1 fun b40 =>
    (match b40 with
    | true => (onSome x0 fun a41 =>
    ldc r39.2 a41.block fun cs42 =>
    onSome cs42[(a41.off + 3)]? fun v43 =>
    kInt .i64 v43 fun n44 =>
    onSome x0 fun a45 =>
    st 1 r39.2 (⟨a45.block, a45.off + 2, none⟩ : Addr) (.int .i64 (4 : Int)) fun _ H46 =>
    onSome x0 fun a47 =>
    st 1 H46 (⟨a47.block, a47.off + 3, none⟩ : Addr) (.int .i64 (IntKind.i64.wrap (n44 + (1 : Int)))) fun _ H48 =>
    ldc H48 H.length fun cs49 =>
    onSome cs49[(0 + 3)]? fun v50 =>
    kInt .i64 v50 fun n51 =>
    ldc H48 H.length fun cs52 =>
    onSome cs52[(0 + 3)]? fun v53 =>
    kInt .i64 v53 fun n54 =>
    onSome x0 fun a55 =>
    st 1 H48 (⟨a55.block, a55.off + 7, none⟩ : Addr) (.int .i64 n51) fun _ H56 =>
    unt H48 H56 H.length (
    onSome x0 fun a57 =>
    st 1 H56 (⟨a57.block, a57.off + 8, none⟩ : Addr) (.int .i64 n54) fun _ H58 =>
    onSome x0 fun a59 =>
    ldc H58 a59.block fun cs60 =>
    onSome cs60[(a59.off + 4)]? fun v61 =>
    kInt .i64 v61 fun n62 =>
    onSome x0 fun a63 =>
    st 1 H58 (⟨a63.block, a63.off + 5, none⟩ : Addr) (.int .i64 n62) fun _ H64 =>
    some (.tuple #[.int .i64 (1 : Int), .int .i64 (0 : Int)], H64)))
    | false => (ldc r39.2 H.length fun cs65 =>
    onSome cs65[(0 + 1)]? fun v66 =>
    kInt .i64 v66 fun n67 =>
    onSome x0 fun a68 =>
    ldc r39.2 a68.block fun cs69 =>
    onSome cs69[(a68.off + 3)]? fun v70 =>
    kInt .i64 v70 fun n71 =>
    (match (n67 != n71) with
    | true => (some (.tuple #[.int .i64 (0 : Int), .int .i64 (260 : Int)], r39.2))
    | false => (onSome x0 fun a72 =>
    ldc r39.2 a72.block fun cs73 =>
    onSome cs73[(a72.off + 2)]? fun v74 =>
    kInt .i64 v74 fun n75 =>
    (match (n75 == (1 : Int)) with
    | true => (ldc r39.2 H.length fun cs76 =>
    onSome cs76[(0 + 2)]? fun v77 =>
    kInt .i64 v77 fun n78 =>
    (match (n78 == (3 : Int)) with
    | true => (onSome x0 fun a79 =>
    st 1 r39.2 (⟨a79.block, a79.off + 2, none⟩ : Addr) (.int .i64 (2 : Int)) fun _ H80 =>
    onSome x0 fun a81 =>
    ldc H80 a81.block fun cs82 =>
    onSome cs82[(a81.off + 4)]? fun v83 =>
    kInt .i64 v83 fun n84 =>
    onSome x0 fun a85 =>
    st 1 H80 (⟨a85.block, a85.off + 5, none⟩ : Addr) (.int .i64 n84) fun _ H86 =>
    some (.tuple #[.int .i64 (2 : Int), .int .i64 (0 : Int)], H86))
    | false => (onSome x0 fun a87 =>
    ldc r39.2 a87.block fun cs88 =>
    onSome cs88[(a87.off + 4)]? fun v89 =>
    kInt .i64 v89 fun n90 =>
    onSome x0 fun a91 =>
    st 1 r39.2 (⟨a91.block, a91.off + 5, none⟩ : Addr) (.int .i64 n90) fun _ H92 =>
    some (.tuple #[.int .i64 (2 : Int), .int .i64 (0 : Int)], H92))))
    | false => (onSome x0 fun a93 =>
    ldc r39.2 a93.block fun cs94 =>
    onSome cs94[(a93.off + 4)]? fun v95 =>
    kInt .i64 v95 fun n96 =>
    onSome x0 fun a97 =>
    st 1 r39.2 (⟨a97.block, a97.off + 5, none⟩ : Addr) (.int .i64 n96) fun _ H98 =>
    some (.tuple #[.int .i64 (2 : Int), .int .i64 (0 : Int)], H98)))))))
    else none))
    else none))
    else none)))) := by kernel_rfl
-- (*sternpost/role.Part).State
noncomputable def G30 : Fs := Fs.ext G27 27 F27
theorem A30 : AllSound Try.prog G30 := AllSound.ext A27 S27
noncomputable def cuts30 : Cuts := []
noncomputable def F30 : List Value → Heap → R := FN Try.prog G30 Try.f30 cuts30
theorem S30 : Sound Try.prog 30 F30 := FN_sound A30 Try.func30 (by kernel_rfl) (by kernel_rfl)
noncomputable abbrev R30 (m : Nat) : List Item → List Value → Heap → R := run Try.prog G30 Try.f30 cuts30 m
theorem t30 (m : Nat) (x0 : Option Addr) (H : Heap) : fnE Try.prog G30 Try.f30 cuts30 m [.pointer x0] H =
    onSome x0 fun a1 =>
    ldc H a1.block fun cs2 =>
    onSome cs2[(a1.off + 2)]? fun v3 =>
    kInt .i64 v3 fun n4 =>
    onSome x0 fun a5 =>
    ldc H a5.block fun cs6 =>
    onSome cs6[(a5.off + 3)]? fun v7 =>
    kInt .i64 v7 fun n8 =>
    onSome x0 fun a9 =>
    ldc H a9.block fun cs10 =>
    onSome cs10[(a9.off + 6)]? fun v11 =>
    kInt .i64 v11 fun n12 =>
    onSome x0 fun a13 =>
    ldc H a13.block fun cs14 =>
    onSome cs14[(a13.off + 7)]? fun v15 =>
    kInt .i64 v15 fun n16 =>
    some (.tuple #[.int .i64 n4, .int .i64 n8, .int .i64 n12, .int .i64 n16], H) := by kernel_rfl
-- (*sternpost/role.Part).Boot
noncomputable def G40 : Fs := Fs.ext G30 30 F30
theorem A40 : AllSound Try.prog G40 := AllSound.ext A30 S30
noncomputable def cuts40 : Cuts := []
noncomputable def F40 : List Value → Heap → R := FN Try.prog G40 Try.f40 cuts40
theorem S40 : Sound Try.prog 40 F40 := FN_sound A40 Try.func40 (by kernel_rfl) (by kernel_rfl)
noncomputable abbrev R40 (m : Nat) : List Item → List Value → Heap → R := run Try.prog G40 Try.f40 cuts40 m
theorem t40 (m : Nat) (x0 : Option Addr) (x1 : Int) (H : Heap) : fnE Try.prog G40 Try.f40 cuts40 m [.pointer x0, .int .i64 x1] H =
    onSome x0 fun a2 =>
    ldc H a2.block fun cs3 =>
    onSome cs3[(a2.off + 2)]? fun v4 =>
    kInt .i64 v4 fun n5 =>
    (match (n5 != (0 : Int)) with
    | true => (some (.int .i64 (180 : Int), H))
    | false => (onSome (F55 [.pointer x0, .int .i64 x1] H) fun r6 =>
    kInt .i64 r6.1 fun n7 =>
    onSome x0 fun a8 =>
    st 1 r6.2 (⟨a8.block, a8.off + 4, none⟩ : Addr) (.int .i64 n7) fun _ H9 =>
    onSome x0 fun a10 =>
    st 1 H9 (⟨a10.block, a10.off + 2, none⟩ : Addr) (.int .i64 (4 : Int)) fun _ H11 =>
    onSome x0 fun a12 =>
    st 1 H11 (⟨a12.block, a12.off + 3, none⟩ : Addr) (.int .i64 (1 : Int)) fun _ H13 =>
    some (.int .i64 (0 : Int), H13))) := by kernel_rfl
-- (*sternpost/role.Part).Synced
noncomputable def G54 : Fs := Fs.ext G40 40 F40
theorem A54 : AllSound Try.prog G54 := AllSound.ext A40 S40
noncomputable def cuts54 : Cuts := []
noncomputable def F54 : List Value → Heap → R := FN Try.prog G54 Try.f54 cuts54
theorem S54 : Sound Try.prog 54 F54 := FN_sound A54 Try.func54 (by kernel_rfl) (by kernel_rfl)
noncomputable abbrev R54 (m : Nat) : List Item → List Value → Heap → R := run Try.prog G54 Try.f54 cuts54 m
theorem t54 (m : Nat) (x0 : Option Addr) (x1 : Int) (H : Heap) : fnE Try.prog G54 Try.f54 cuts54 m [.pointer x0, .int .i64 x1] H =
    onSome x0 fun a2 =>
    ldc H a2.block fun cs3 =>
    onSome cs3[(a2.off + 2)]? fun v4 =>
    kInt .i64 v4 fun n5 =>
    (match (n5 != (4 : Int)) with
    | true => (some (.int .i64 (180 : Int), H))
    | false => (onSome x0 fun a6 =>
    ldc H a6.block fun cs7 =>
    onSome cs7[(a6.off + 7)]? fun v8 =>
    kInt .i64 v8 fun n9 =>
    (match (n9 == (0 : Int)) with
    | true => (some (.int .i64 (180 : Int), H))
    | false => (onSome (F55 [.pointer x0, .int .i64 x1] H) fun r10 =>
    kInt .i64 r10.1 fun n11 =>
    onSome x0 fun a12 =>
    st 1 r10.2 (⟨a12.block, a12.off + 4, none⟩ : Addr) (.int .i64 n11) fun _ H13 =>
    onSome x0 fun a14 =>
    ldc H13 a14.block fun cs15 =>
    onSome cs15[(a14.off + 4)]? fun v16 =>
    kInt .i64 v16 fun n17 =>
    onSome x0 fun a18 =>
    st 1 H13 (⟨a18.block, a18.off + 2, none⟩ : Addr) (.int .i64 (3 : Int)) fun _ H19 =>
    onSome x0 fun a20 =>
    st 1 H19 (⟨a20.block, a20.off + 5, none⟩ : Addr) (.int .i64 n17) fun _ H21 =>
    some (.int .i64 (0 : Int), H21))))) := by kernel_rfl
-- sternpost/sternpostlaw26.works
noncomputable def G25 : Fs := Fs.ext G54 54 F54
theorem A25 : AllSound Try.prog G25 := AllSound.ext A54 S54
noncomputable def cuts25 : Cuts := []
noncomputable def F25 : List Value → Heap → R := FN Try.prog G25 Try.f25 cuts25
theorem S25 : Sound Try.prog 25 F25 := FN_sound A25 Try.func25 (by kernel_rfl) (by kernel_rfl)
noncomputable abbrev R25 (m : Nat) : List Item → List Value → Heap → R := run Try.prog G25 Try.f25 cuts25 m
theorem t25 (m : Nat)  (H : Heap) : fnE Try.prog G25 Try.f25 cuts25 m [] H =
    onSome (F24 [.int .i64 (0 : Int), .int .i64 (5 : Int)] H) fun r0 =>
    kTup r0.1 fun vs1 =>
    onSome vs1[0]? fun v2 =>
    kPtr v2 fun p3 =>
    kTup r0.1 fun vs4 =>
    onSome vs4[1]? fun v5 =>
    kInt .i64 v5 fun n6 =>
    (match p3.isNone with
    | true => (some (.bool false, r0.2))
    | false => ((match (n6 != (0 : Int)) with
    | true => (some (.bool false, r0.2))
    | false => (onSome (F40 [.pointer p3, .int .i64 (0 : Int)] r0.2) fun r7 =>
    kInt .i64 r7.1 fun n8 =>
    (match (n8 != (0 : Int)) with
    | true => (some (.bool false, r7.2))
    | false => (onSome (F27 [.pointer p3, .agg #[.int .i64 (2 : Int), .int .i64 (0 : Int), .int .i64 (1 : Int), .int .i64 (1 : Int), .int .i64 (0 : Int), .string (⟨#[]⟩ : ByteArray)], .int .i64 (1 : Int)] r7.2) fun r9 =>
    kTup r9.1 fun vs10 =>
    onSome vs10[0]? fun v11 =>
    kInt .i64 v11 fun n12 =>
    kTup r9.1 fun vs13 =>
    onSome vs13[1]? fun v14 =>
    kInt .i64 v14 fun n15 =>
    onSome (F30 [.pointer p3] r9.2) fun r16 =>
    kTup r16.1 fun vs17 =>
    onSome vs17[0]? fun v18 =>
    kInt .i64 v18 fun n19 =>
    kTup r16.1 fun vs20 =>
    onSome vs20[1]? fun v21 =>
    kInt .i64 v21 fun n22 =>
    kTup r16.1 fun vs23 =>
    onSome vs23[2]? fun v24 =>
    kInt .i64 v24 fun n25 =>
    kTup r16.1 fun vs26 =>
    onSome vs26[3]? fun v27 =>
    kInt .i64 v27 fun n28 =>
    onSome (F54 [.pointer p3, .int .i64 (2 : Int)] r16.2) fun r29 =>
    kInt .i64 r29.1 fun n30 =>
    onSome (F30 [.pointer p3] r29.2) fun r31 =>
    kTup r31.1 fun vs32 =>
    onSome vs32[0]? fun v33 =>
    kInt .i64 v33 fun n34 =>
    kTup r31.1 fun vs35 =>
    onSome vs35[1]? fun v36 =>
    kInt .i64 v36 fun n37 =>
    kTup r31.1 fun vs38 =>
    onSome vs38[2]? fun v39 =>
    kInt .i64 v39 fun n40 =>
    kTup r31.1 fun vs41 =>
    onSome vs41[3]? fun v42 =>
    kInt .i64 v42 fun n43 =>
    (match (n12 == (1 : Int)) with
    | true => ((match (n15 == (0 : Int)) with
    | true => ((match (n22 == (2 : Int)) with
    | true => ((match (n30 == (0 : Int)) with
    | true => (some (.bool (n34 == (3 : Int)), r31.2))
    | false => (some (.bool false, r31.2))))
    | false => (some (.bool false, r31.2))))
    | false => (some (.bool false, r31.2))))
    | false => (some (.bool false, r31.2))))))))) := by kernel_rfl
-- (*sternpost/role.Part).Join
noncomputable def G26 : Fs := Fs.ext G25 25 F25
theorem A26 : AllSound Try.prog G26 := AllSound.ext A25 S25
noncomputable def cuts26 : Cuts := []
noncomputable def F26 : List Value → Heap → R := FN Try.prog G26 Try.f26 cuts26
theorem S26 : Sound Try.prog 26 F26 := FN_sound A26 Try.func26 (by kernel_rfl) (by kernel_rfl)
noncomputable abbrev R26 (m : Nat) : List Item → List Value → Heap → R := run Try.prog G26 Try.f26 cuts26 m
theorem t26 (m : Nat) (x0 : Option Addr) (x1 : Int) (x2 : Int) (H : Heap) : fnE Try.prog G26 Try.f26 cuts26 m [.pointer x0, .int .i64 x1, .int .i64 x2] H =
    onSome x0 fun a3 =>
    ldc H a3.block fun cs4 =>
    onSome cs4[(a3.off + 2)]? fun v5 =>
    kInt .i64 v5 fun n6 =>
    (match (n6 != (0 : Int)) with
    | true => (some (.int .i64 (180 : Int), H))
    | false => ((match (decide (x1 < (1 : Int))) with
    | true => (some (.int .i64 (1 : Int), H))
    | false => ((match (decide ((4294967295 : Int) < x1)) with
    | true => (some (.int .i64 (1 : Int), H))
    | false => (onSome (F55 [.pointer x0, .int .i64 x2] H) fun r7 =>
    kInt .i64 r7.1 fun n8 =>
    onSome x0 fun a9 =>
    st 1 r7.2 (⟨a9.block, a9.off + 4, none⟩ : Addr) (.int .i64 n8) fun _ H10 =>
    onSome x0 fun a11 =>
    ldc H10 a11.block fun cs12 =>
    onSome cs12[(a11.off + 4)]? fun v13 =>
    kInt .i64 v13 fun n14 =>
    onSome x0 fun a15 =>
    st 1 H10 (⟨a15.block, a15.off + 2, none⟩ : Addr) (.int .i64 (1 : Int)) fun _ H16 =>
    onSome x0 fun a17 =>
    st 1 H16 (⟨a17.block, a17.off + 3, none⟩ : Addr) (.int .i64 (0 : Int)) fun _ H18 =>
    onSome x0 fun a19 =>
    st 1 H18 (⟨a19.block, a19.off + 6, none⟩ : Addr) (.int .i64 x1) fun _ H20 =>
    onSome x0 fun a21 =>
    st 1 H20 (⟨a21.block, a21.off + 5, none⟩ : Addr) (.int .i64 n14) fun _ H22 =>
    some (.int .i64 (0 : Int), H22))))))) := by kernel_rfl
-- (*sternpost/role.Part).Suspects
noncomputable def G28 : Fs := Fs.ext G26 26 F26
theorem A28 : AllSound Try.prog G28 := AllSound.ext A26 S26
noncomputable def cuts28 : Cuts := []
noncomputable def F28 : List Value → Heap → R := FN Try.prog G28 Try.f28 cuts28
theorem S28 : Sound Try.prog 28 F28 := FN_sound A28 Try.func28 (by kernel_rfl) (by kernel_rfl)
noncomputable abbrev R28 (m : Nat) : List Item → List Value → Heap → R := run Try.prog G28 Try.f28 cuts28 m
theorem t28 (m : Nat) (x0 : Option Addr) (x1 : Int) (H : Heap) : fnE Try.prog G28 Try.f28 cuts28 m [.pointer x0, .int .i64 x1] H =
    onSome x0 fun a2 =>
    ldc H a2.block fun cs3 =>
    onSome cs3[(a2.off + 2)]? fun v4 =>
    kInt .i64 v4 fun n5 =>
    (match (n5 == (2 : Int)) with
    | true => (onSome x0 fun a6 =>
    ldc H a6.block fun cs7 =>
    onSome cs7[(a6.off + 5)]? fun v8 =>
    kInt .i64 v8 fun n9 =>
    onSome x0 fun a10 =>
    ldc H a10.block fun cs11 =>
    onSome cs11[(a10.off + 1)]? fun v12 =>
    kInt .i64 v12 fun n13 =>
    onSome (F55 [.pointer x0, .int .i64 x1] H) fun r14 =>
    kInt .i64 r14.1 fun n15 =>
    unt H r14.2 a10.block (
    unt H r14.2 a6.block (
    some (.bool (decide (n13 ≤ (IntKind.i64.wrap (n15 - n9)))), r14.2))))
    | false => (onSome x0 fun a16 =>
    ldc H a16.block fun cs17 =>
    onSome cs17[(a16.off + 2)]? fun v18 =>
    kInt .i64 v18 fun n19 =>
    (match (n19 == (3 : Int)) with
    | true => (onSome x0 fun a20 =>
    ldc H a20.block fun cs21 =>
    onSome cs21[(a20.off + 5)]? fun v22 =>
    kInt .i64 v22 fun n23 =>
    onSome x0 fun a24 =>
    ldc H a24.block fun cs25 =>
    onSome cs25[(a24.off + 1)]? fun v26 =>
    kInt .i64 v26 fun n27 =>
    onSome (F55 [.pointer x0, .int .i64 x1] H) fun r28 =>
    kInt .i64 r28.1 fun n29 =>
    unt H r28.2 a24.block (
    unt H r28.2 a20.block (
    some (.bool (decide (n27 ≤ (IntKind.i64.wrap (n29 - n23)))), r28.2))))
    | false => (some (.bool false, H))))) := by kernel_rfl
-- (*sternpost/role.Part).Granted
noncomputable def G29 : Fs := Fs.ext G28 28 F28
theorem A29 : AllSound Try.prog G29 := AllSound.ext A28 S28
noncomputable def cuts29 : Cuts := []
noncomputable def F29 : List Value → Heap → R := FN Try.prog G29 Try.f29 cuts29
theorem S29 : Sound Try.prog 29 F29 := FN_sound A29 Try.func29 (by kernel_rfl) (by kernel_rfl)
noncomputable abbrev R29 (m : Nat) : List Item → List Value → Heap → R := run Try.prog G29 Try.f29 cuts29 m
theorem t29 (m : Nat) (x0 : Option Addr) (x1 : Int) (H : Heap) : fnE Try.prog G29 Try.f29 cuts29 m [.pointer x0, .int .i64 x1] H =
    onSome x0 fun a2 =>
    ldc H a2.block fun cs3 =>
    onSome cs3[(a2.off + 2)]? fun v4 =>
    kInt .i64 v4 fun n5 =>
    (match (n5 != (2 : Int)) with
    | true => (onSome x0 fun a6 =>
    ldc H a6.block fun cs7 =>
    onSome cs7[(a6.off + 2)]? fun v8 =>
    kInt .i64 v8 fun n9 =>
    (match (n9 != (3 : Int)) with
    | true => (some (.int .i64 (180 : Int), H))
    | false => (onSome (F55 [.pointer x0, .int .i64 x1] H) fun r10 =>
    kInt .i64 r10.1 fun n11 =>
    onSome x0 fun a12 =>
    st 1 r10.2 (⟨a12.block, a12.off + 4, none⟩ : Addr) (.int .i64 n11) fun _ H13 =>
    onSome (F28 [.pointer x0, .int .i64 x1] H13) fun r14 =>
    kBool r14.1 fun b15 =>
    (match (!b15) with
    | true => (some (.int .i64 (261 : Int), r14.2))
    | false => (onSome x0 fun a16 =>
    ldc r14.2 a16.block fun cs17 =>
    onSome cs17[(a16.off + 3)]? fun v18 =>
    kInt .i64 v18 fun n19 =>
    (match (decide ((4294967295 : Int) ≤ n19)) with
    | true => (some (.int .i64 (261 : Int), r14.2))
    | false => (onSome x0 fun a20 =>
    ldc r14.2 a20.block fun cs21 =>
    onSome cs21[(a20.off + 3)]? fun v22 =>
    kInt .i64 v22 fun n23 =>
    onSome x0 fun a24 =>
    st 1 r14.2 (⟨a24.block, a24.off + 2, none⟩ : Addr) (.int .i64 (4 : Int)) fun _ H25 =>
    onSome x0 fun a26 =>
    st 1 H25 (⟨a26.block, a26.off + 3, none⟩ : Addr) (.int .i64 (IntKind.i64.wrap (n23 + (1 : Int)))) fun _ H27 =>
    onSome x0 fun a28 =>
    st 1 H27 (⟨a28.block, a28.off + 7, none⟩ : Addr) (.int .i64 (0 : Int)) fun _ H29 =>
    some (.int .i64 (0 : Int), H29))))))))
    | false => (onSome (F55 [.pointer x0, .int .i64 x1] H) fun r30 =>
    kInt .i64 r30.1 fun n31 =>
    onSome x0 fun a32 =>
    st 1 r30.2 (⟨a32.block, a32.off + 4, none⟩ : Addr) (.int .i64 n31) fun _ H33 =>
    onSome (F28 [.pointer x0, .int .i64 x1] H33) fun r34 =>
    kBool r34.1 fun b35 =>
    (match (!b35) with
    | true => (some (.int .i64 (261 : Int), r34.2))
    | false => (onSome x0 fun a36 =>
    ldc r34.2 a36.block fun cs37 =>
    onSome cs37[(a36.off + 3)]? fun v38 =>
    kInt .i64 v38 fun n39 =>
    (match (decide ((4294967295 : Int) ≤ n39)) with
    | true => (some (.int .i64 (261 : Int), r34.2))
    | false => (onSome x0 fun a40 =>
    ldc r34.2 a40.block fun cs41 =>
    onSome cs41[(a40.off + 3)]? fun v42 =>
    kInt .i64 v42 fun n43 =>
    onSome x0 fun a44 =>
    st 1 r34.2 (⟨a44.block, a44.off + 2, none⟩ : Addr) (.int .i64 (4 : Int)) fun _ H45 =>
    onSome x0 fun a46 =>
    st 1 H45 (⟨a46.block, a46.off + 3, none⟩ : Addr) (.int .i64 (IntKind.i64.wrap (n43 + (1 : Int)))) fun _ H47 =>
    onSome x0 fun a48 =>
    st 1 H47 (⟨a48.block, a48.off + 7, none⟩ : Addr) (.int .i64 (0 : Int)) fun _ H49 =>
    some (.int .i64 (0 : Int), H49))))))) := by kernel_rfl
-- sternpost/sternpostlaw26.RoleTakes
noncomputable def G5 : Fs := Fs.ext G29 29 F29
theorem A5 : AllSound Try.prog G5 := AllSound.ext A29 S29
noncomputable def cuts5 : Cuts := [(100013, [0, 1, 5, 11, 12])]
noncomputable def td5_100013 : List Item := todoOf Try.f5 100013
noncomputable def F5 : List Value → Heap → R := FN Try.prog G5 Try.f5 cuts5
theorem S5 : Sound Try.prog 5 F5 := FN_sound A5 Try.func5 (by kernel_rfl) (by kernel_rfl)
noncomputable abbrev R5 (m : Nat) : List Item → List Value → Heap → R := run Try.prog G5 Try.f5 cuts5 m
theorem t5 (m : Nat) (x0 : Int) (a1 : Option Addr) (l2 : Nat) (c3 : Nat) (H : Heap) : fnE Try.prog G5 Try.f5 cuts5 m [.int .i64 x0, .slice a1 l2 c3] H =
    onSome (F23 [.int .i64 x0, .int .i64 (50 : Int)] H) fun r4 =>
    kInt .i64 r4.1 fun n5 =>
    onSome (F24 [.int .i64 (1 : Int), .int .i64 (IntKind.i64.wrap ((2 : Int) + n5))] r4.2) fun r6 =>
    kTup r6.1 fun vs7 =>
    onSome vs7[0]? fun v8 =>
    kPtr v8 fun p9 =>
    kTup r6.1 fun vs10 =>
    onSome vs10[1]? fun v11 =>
    kInt .i64 v11 fun n12 =>
    (match p9.isNone with
    | true => (some (.bool false, r6.2))
    | false => ((match (n12 != (0 : Int)) with
    | true => (some (.bool false, r6.2))
    | false => (onSome (F25 [] r6.2) fun r13 =>
    kBool r13.1 fun b14 =>
    (match (!b14) with
    | true => (some (.bool false, r13.2))
    | false => (onSome (F26 [.pointer p9, .int .i64 (3 : Int), .int .i64 (0 : Int)] r13.2) fun r15 =>
    kInt .i64 r15.1 fun n16 =>
    (match (n16 != (0 : Int)) with
    | true => (some (.bool false, r15.2))
    | false => (onSome (F27 [.pointer p9, .agg #[.int .i64 (2 : Int), .int .i64 (4 : Int), .int .i64 (4 : Int), .int .i64 (3 : Int), .int .i64 (0 : Int), .string (⟨#[]⟩ : ByteArray)], .int .i64 (1 : Int)] r15.2) fun r17 =>
    kTup r17.1 fun vs18 =>
    onSome vs18[0]? fun v19 =>
    kInt .i64 v19 fun n20 =>
    kTup r17.1 fun vs21 =>
    onSome vs21[1]? fun v22 =>
    kInt .i64 v22 fun n23 =>
    (match (n20 != (1 : Int)) with
    | true => (some (.bool false, r17.2))
    | false => ((match (n23 != (0 : Int)) with
    | true => (some (.bool false, r17.2))
    | false => (onSome (F27 [.pointer p9, .agg #[.int .i64 (2 : Int), .int .i64 (4 : Int), .int .i64 (3 : Int), .int .i64 (3 : Int), .int .i64 (0 : Int), .string (⟨#[]⟩ : ByteArray)], .int .i64 (2 : Int)] r17.2) fun r24 =>
    kTup r24.1 fun vs25 =>
    onSome vs25[0]? fun v26 =>
    kInt .i64 v26 fun n27 =>
    kTup r24.1 fun vs28 =>
    onSome vs28[1]? fun v29 =>
    kInt .i64 v29 fun n30 =>
    (match (n27 != (2 : Int)) with
    | true => (some (.bool false, r24.2))
    | false => ((match (n30 != (0 : Int)) with
    | true => (some (.bool false, r24.2))
    | false => (R5 m td5_100013 [.int .i64 (IntKind.i64.wrap ((2 : Int) + n5)), .slice a1 l2 c3, .pointer p9, .int .i64 (2 : Int), .int .i64 (0 : Int)] r24.2)))))))))))))))) := by kernel_rfl
theorem c5_100013 (m : Nat) (x0 : Int) (a1 : Option Addr) (l2 : Nat) (c3 : Nat) (x4 : Option Addr) (x5 : Int) (x6 : Int) (H : Heap) : R5 (m + 1) td5_100013 [.int .i64 x0, .slice a1 l2 c3, .pointer x4, .int .i64 x5, .int .i64 x6] H =
    (match (decide (x6 < ((l2 : Nat) : Int))) with
    | true => ((match (decide (x6 < (30 : Int))) with
    | true => (onSome a1 fun a7 =>
    if 0 ≤ x6 ∧ x6 < (l2 : Nat) then
    ldc H ((a7.add (x6.toNat * 1)).block) fun cs8 =>
    onSome cs8[(a7.add (x6.toNat * 1)).off]? fun v9 =>
    kInt .i64 v9 fun n10 =>
    onSome (F23 [.int .i64 n10, .int .i64 x0] H) fun r11 =>
    kInt .i64 r11.1 fun n12 =>
    onSome (F28 [.pointer x4, .int .i64 (IntKind.i64.wrap (x5 + n12))] r11.2) fun r13 =>
    kBool r13.1 fun b14 =>
    (match b14 with
    | true => (some (.bool false, r13.2))
    | false => (onSome (F29 [.pointer x4, .int .i64 (IntKind.i64.wrap (x5 + n12))] r13.2) fun r15 =>
    kInt .i64 r15.1 fun n16 =>
    (match (n16 != (261 : Int)) with
    | true => (some (.bool false, r15.2))
    | false => (onSome (F27 [.pointer x4, .agg #[.int .i64 (2 : Int), .int .i64 (4 : Int), .int .i64 (3 : Int), .int .i64 (0 : Int), .int .i64 (0 : Int), .string (⟨#[]⟩ : ByteArray)], .int .i64 (IntKind.i64.wrap (x5 + n12))] r15.2) fun r17 =>
    R5 m td5_100013 [.int .i64 x0, .slice a1 l2 c3, .pointer x4, .int .i64 (IntKind.i64.wrap (x5 + n12)), .int .i64 (IntKind.i64.wrap (x6 + (1 : Int)))] r17.2))))
    else none)
    | false => (onSome (F30 [.pointer x4] H) fun r18 =>
    kTup r18.1 fun vs19 =>
    onSome vs19[0]? fun v20 =>
    kInt .i64 v20 fun n21 =>
    kTup r18.1 fun vs22 =>
    onSome vs22[1]? fun v23 =>
    kInt .i64 v23 fun n24 =>
    kTup r18.1 fun vs25 =>
    onSome vs25[2]? fun v26 =>
    kInt .i64 v26 fun n27 =>
    kTup r18.1 fun vs28 =>
    onSome vs28[3]? fun v29 =>
    kInt .i64 v29 fun n30 =>
    (match (n21 != (2 : Int)) with
    | true => (some (.bool false, r18.2))
    | false => (onSome (F31 [.pointer x4] r18.2) fun r31 =>
    kBool r31.1 fun b32 =>
    (match b32 with
    | true => (some (.bool false, r31.2))
    | false => (onSome (F28 [.pointer x4, .int .i64 (IntKind.i64.wrap (x5 + x0))] r31.2) fun r33 =>
    kBool r33.1 fun b34 =>
    (match (!b34) with
    | true => (some (.bool false, r33.2))
    | false => (onSome (F29 [.pointer x4, .int .i64 (IntKind.i64.wrap (x5 + x0))] r33.2) fun r35 =>
    kInt .i64 r35.1 fun n36 =>
    (match (n36 != (0 : Int)) with
    | true => (some (.bool false, r35.2))
    | false => (onSome (F30 [.pointer x4] r35.2) fun r37 =>
    kTup r37.1 fun vs38 =>
    onSome vs38[0]? fun v39 =>
    kInt .i64 v39 fun n40 =>
    kTup r37.1 fun vs41 =>
    onSome vs41[1]? fun v42 =>
    kInt .i64 v42 fun n43 =>
    kTup r37.1 fun vs44 =>
    onSome vs44[2]? fun v45 =>
    kInt .i64 v45 fun n46 =>
    kTup r37.1 fun vs47 =>
    onSome vs47[3]? fun v48 =>
    kInt .i64 v48 fun n49 =>
    (match (n40 == (4 : Int)) with
    | true => ((match (n43 == (5 : Int)) with
    | true => (onSome (F31 [.pointer x4] r37.2) fun r50 =>
    kBool r50.1 fun b51 =>
    (match b51 with
    | true => (onSome (F28 [.pointer x4, .int .i64 (IntKind.i64.wrap ((IntKind.i64.wrap (x5 + x0)) + (1000 : Int)))] r50.2) fun r52 =>
    kBool r52.1 fun b53 =>
    some (.bool (!b53), r52.2))
    | false => (some (.bool false, r50.2))))
    | false => (some (.bool false, r37.2))))
    | false => (some (.bool false, r37.2))))))))))))))
    | false => (onSome (F30 [.pointer x4] H) fun r54 =>
    kTup r54.1 fun vs55 =>
    onSome vs55[0]? fun v56 =>
    kInt .i64 v56 fun n57 =>
    kTup r54.1 fun vs58 =>
    onSome vs58[1]? fun v59 =>
    kInt .i64 v59 fun n60 =>
    kTup r54.1 fun vs61 =>
    onSome vs61[2]? fun v62 =>
    kInt .i64 v62 fun n63 =>
    kTup r54.1 fun vs64 =>
    onSome vs64[3]? fun v65 =>
    kInt .i64 v65 fun n66 =>
    (match (n57 != (2 : Int)) with
    | true => (some (.bool false, r54.2))
    | false => (onSome (F31 [.pointer x4] r54.2) fun r67 =>
    kBool r67.1 fun b68 =>
    (match b68 with
    | true => (some (.bool false, r67.2))
    | false => (onSome (F28 [.pointer x4, .int .i64 (IntKind.i64.wrap (x5 + x0))] r67.2) fun r69 =>
    kBool r69.1 fun b70 =>
    (match (!b70) with
    | true => (some (.bool false, r69.2))
    | false => (onSome (F29 [.pointer x4, .int .i64 (IntKind.i64.wrap (x5 + x0))] r69.2) fun r71 =>
    kInt .i64 r71.1 fun n72 =>
    (match (n72 != (0 : Int)) with
    | true => (some (.bool false, r71.2))
    | false => (onSome (F30 [.pointer x4] r71.2) fun r73 =>
    kTup r73.1 fun vs74 =>
    onSome vs74[0]? fun v75 =>
    kInt .i64 v75 fun n76 =>
    kTup r73.1 fun vs77 =>
    onSome vs77[1]? fun v78 =>
    kInt .i64 v78 fun n79 =>
    kTup r73.1 fun vs80 =>
    onSome vs80[2]? fun v81 =>
    kInt .i64 v81 fun n82 =>
    kTup r73.1 fun vs83 =>
    onSome vs83[3]? fun v84 =>
    kInt .i64 v84 fun n85 =>
    (match (n76 == (4 : Int)) with
    | true => ((match (n79 == (5 : Int)) with
    | true => (onSome (F31 [.pointer x4] r73.2) fun r86 =>
    kBool r86.1 fun b87 =>
    (match b87 with
    | true => (onSome (F28 [.pointer x4, .int .i64 (IntKind.i64.wrap ((IntKind.i64.wrap (x5 + x0)) + (1000 : Int)))] r86.2) fun r88 =>
    kBool r88.1 fun b89 =>
    some (.bool (!b89), r88.2))
    | false => (some (.bool false, r86.2))))
    | false => (some (.bool false, r73.2))))
    | false => (some (.bool false, r73.2))))))))))))) := by kernel_rfl
end Go.Proofs.Yticchkdbanhjfaa
