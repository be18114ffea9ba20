/- PRINTED by a program of the session (Pr.lean): what functions of the program come to on the abstract heap, each checked by the kernel. Conditions: none. -/
import Derived.Test.YtlpeldimmaajkaaGreatKn
import Derived.Test.YtlpeldimmaajkaaGreatProg
set_option linter.unusedVariables false
namespace Go.Proofs.YtlpeldimmaajkaaGreat
open Go Go.Proofs.YtlpeldimmaajkaaGreat.Fw Go.RowKit
-- sternpost/sternpostlaw20.setup
def G16 : Fs := Fs.none
theorem A16 : AllSound Tryz.prog G16 := AllSound.none
noncomputable def cuts16 : Cuts := []
noncomputable def F16 : List Value → Heap → R := FN Tryz.prog G16 Tryz.f16 cuts16
theorem S16 : Sound Tryz.prog 16 F16 := FN_sound A16 Tryz.func16 (by kernel_rfl) (by kernel_rfl)
noncomputable abbrev R16 (m : Nat) : List Item → List Value → Heap → R := run Tryz.prog G16 Tryz.f16 cuts16 m
theorem t16 (m : Nat)  (H : Heap) : fnE Tryz.prog G16 Tryz.f16 cuts16 m [] H =
    let H0 := H ++ [.cells [.int .i64 (0 : Int), .int .i64 (0 : Int), .int .i64 (0 : Int), .int .i64 (0 : Int), .int .i64 (0 : Int), .int .i64 (0 : Int), .int .i64 (0 : Int), .int .i64 (0 : Int), .int .i64 (0 : Int), .int .i64 (0 : Int), .int .i64 (0 : Int)] 0 true]
    st 11 H0 (⟨H.length, 0, none⟩ : Addr) (.agg #[.int .i64 (20 : Int), .int .i64 (60 : Int), .int .i64 (1 : Int), .int .i64 (8 : Int), .int .i64 (4 : Int), .int .i64 (40 : Int), .int .i64 (20 : Int), .int .i64 (10 : Int), .int .i64 (7 : Int), .int .i64 (8 : Int), .int .i64 (20 : Int)]) fun _ H1 =>
    ldc H1 H.length fun cs2 =>
    if 0 + 11 ≤ cs2.length then
    some (.agg ((range cs2 0 11).toArray), H1)
    else none := by kernel_rfl
-- sternpost/rto.New
noncomputable def G108 : Fs := Fs.ext G16 16 F16
theorem A108 : AllSound Tryz.prog G108 := AllSound.ext A16 S16
noncomputable def cuts108 : Cuts := [(2, [])]
noncomputable def td108_2 : List Item := todoOf Tryz.f108 2
noncomputable def F108 : List Value → Heap → R := FN Tryz.prog G108 Tryz.f108 cuts108
theorem S108 : Sound Tryz.prog 108 F108 := FN_sound A108 Tryz.func108 (by kernel_rfl) (by kernel_rfl)
noncomputable abbrev R108 (m : Nat) : List Item → List Value → Heap → R := run Tryz.prog G108 Tryz.f108 cuts108 m
theorem t108 (m : Nat) (x0 : Int) (x1 : Int) (x2 : Int) (H : Heap) : fnE Tryz.prog G108 Tryz.f108 cuts108 m [.int .i64 x0, .int .i64 x1, .int .i64 x2] H =
    (match (decide (x1 < (1 : Int))) with
    | true => (R108 m td108_2 [] H)
    | false => ((match (decide ((1048576 : Int) < x2)) with
    | true => (R108 m td108_2 [] H)
    | false => ((match (decide (x0 < x1)) with
    | true => (R108 m td108_2 [] H)
    | false => ((match (decide (x2 < x0)) with
    | true => (R108 m td108_2 [] H)
    | false => (let H3 := H ++ [.cells [.int .i64 x1, .int .i64 x2, .int .i64 x0, .int .i64 (0 : Int), .int .i64 (0 : Int), .int .i64 (0 : Int), .bool false] 0 true]
    some (.tuple #[.pointer (some (⟨H.length, 0, none⟩ : Addr)), .int .i64 (0 : Int)], H3))))))))) := by kernel_rfl
theorem c108_2 (m : Nat)  (H : Heap) : R108 (m + 1) td108_2 [] H =
    some (.tuple #[.pointer none, .int .i64 (1 : Int)], H) := by kernel_rfl
-- sternpost/conn.Check
noncomputable def G51 : Fs := Fs.ext G108 108 F108
theorem A51 : AllSound Tryz.prog G51 := AllSound.ext A108 S108
noncomputable def cuts51 : Cuts := [(2, [])]
noncomputable def td51_2 : List Item := todoOf Tryz.f51 2
noncomputable def F51 : List Value → Heap → R := FN Tryz.prog G51 Tryz.f51 cuts51
theorem S51 : Sound Tryz.prog 51 F51 := FN_sound A51 Tryz.func51 (by kernel_rfl) (by kernel_rfl)
noncomputable abbrev R51 (m : Nat) : List Item → List Value → Heap → R := run Tryz.prog G51 Tryz.f51 cuts51 m
theorem t51 (m : Nat) (x0 : Int) (x1 : Int) (x2 : Int) (x3 : Int) (x4 : Int) (x5 : Int) (x6 : Int) (x7 : Int) (H : Heap) : fnE Tryz.prog G51 Tryz.f51 cuts51 m [.agg #[.int .i64 x0, .int .i64 x1, .int .i64 x2, .int .i64 x3, .int .i64 x4, .int .i64 x5, .int .i64 x6, .int .i64 x7]] H =
    let H8 := H ++ [.cells [.int .i64 x0, .int .i64 x1, .int .i64 x2, .int .i64 x3, .int .i64 x4, .int .i64 x5, .int .i64 x6, .int .i64 x7] 0 true]
    ldc H8 H.length fun cs9 =>
    onSome cs9[0]? fun v10 =>
    kInt .i64 v10 fun n11 =>
    ldc H8 H.length fun cs12 =>
    onSome cs12[(0 + 1)]? fun v13 =>
    kInt .i64 v13 fun n14 =>
    ldc H8 H.length fun cs15 =>
    onSome cs15[(0 + 7)]? fun v16 =>
    kInt .i64 v16 fun n17 =>
    (match (decide ((mni (mni n11 n14) n17) < (1 : Int))) with
    | true => (R51 m td51_2 [] H8)
    | false => (ldc H8 H.length fun cs18 =>
    onSome cs18[(0 + 2)]? fun v19 =>
    kInt .i64 v19 fun n20 =>
    ldc H8 H.length fun cs21 =>
    onSome cs21[(0 + 6)]? fun v22 =>
    kInt .i64 v22 fun n23 =>
    (match (decide ((mni n20 n23) < (0 : Int))) with
    | true => (R51 m td51_2 [] H8)
    | false => (ldc H8 H.length fun cs24 =>
    onSome cs24[0]? fun v25 =>
    kInt .i64 v25 fun n26 =>
    (match (decide ((1460 : Int) < n26)) with
    | true => (R51 m td51_2 [] H8)
    | false => (ldc H8 H.length fun cs27 =>
    onSome cs27[(0 + 1)]? fun v28 =>
    kInt .i64 v28 fun n29 =>
    (match (decide ((65535 : Int) < n29)) with
    | true => (R51 m td51_2 [] H8)
    | false => (ldc H8 H.length fun cs30 =>
    onSome cs30[(0 + 2)]? fun v31 =>
    kInt .i64 v31 fun n32 =>
    ldc H8 H.length fun cs33 =>
    onSome cs33[(0 + 7)]? fun v34 =>
    kInt .i64 v34 fun n35 =>
    (match (decide ((1048576 : Int) < (mxi n32 n35))) with
    | true => (R51 m td51_2 [] H8)
    | false => (ldc H8 H.length fun cs36 =>
    onSome cs36[(0 + 6)]? fun v37 =>
    kInt .i64 v37 fun n38 =>
    (match (decide ((32 : Int) < n38)) with
    | true => (R51 m td51_2 [] H8)
    | false => (ldc H8 H.length fun cs39 =>
    onSome cs39[(0 + 3)]? fun v40 =>
    kInt .i64 v40 fun n41 =>
    ldc H8 H.length fun cs42 =>
    onSome cs42[(0 + 4)]? fun v43 =>
    kInt .i64 v43 fun n44 =>
    ldc H8 H.length fun cs45 =>
    onSome cs45[(0 + 5)]? fun v46 =>
    kInt .i64 v46 fun n47 =>
    onSome (F108 [.int .i64 n41, .int .i64 n44, .int .i64 n47] H8) fun r48 =>
    kTup r48.1 fun vs49 =>
    onSome vs49[0]? fun v50 =>
    kPtr v50 fun p51 =>
    kTup r48.1 fun vs52 =>
    onSome vs52[1]? fun v53 =>
    kInt .i64 v53 fun n54 =>
    some (.int .i64 n54, r48.2))))))))))))) := by kernel_rfl
theorem c51_2 (m : Nat)  (H : Heap) : R51 (m + 1) td51_2 [] H =
    some (.int .i64 (1 : Int), H) := by kernel_rfl
-- sternpost/seq.Check
noncomputable def G62 : Fs := Fs.ext G51 51 F51
theorem A62 : AllSound Tryz.prog G62 := AllSound.ext A51 S51
noncomputable def cuts62 : Cuts := []
noncomputable def F62 : List Value → Heap → R := FN Tryz.prog G62 Tryz.f62 cuts62
theorem S62 : Sound Tryz.prog 62 F62 := FN_sound A62 Tryz.func62 (by kernel_rfl) (by kernel_rfl)
noncomputable abbrev R62 (m : Nat) : List Item → List Value → Heap → R := run Tryz.prog G62 Tryz.f62 cuts62 m
theorem t62 (m : Nat) (x0 : Int) (H : Heap) : fnE Tryz.prog G62 Tryz.f62 cuts62 m [.int .i64 x0] H =
    (match ((bits .and .i64 x0 (4294967295 : Int)) != x0) with
    | true => (some (.int .i64 (1 : Int), H))
    | false => (some (.int .i64 (0 : Int), H))) := by kernel_rfl
-- sternpost/table.New
noncomputable def G23 : Fs := Fs.ext G62 62 F62
theorem A23 : AllSound Tryz.prog G23 := AllSound.ext A62 S62
noncomputable def cuts23 : Cuts := [(5, [])]
noncomputable def td23_5 : List Item := todoOf Tryz.f23 5
noncomputable def F23 : List Value → Heap → R := FN Tryz.prog G23 Tryz.f23 cuts23
theorem S23 : Sound Tryz.prog 23 F23 := FN_sound A23 Tryz.func23 (by kernel_rfl) (by kernel_rfl)
noncomputable abbrev R23 (m : Nat) : List Item → List Value → Heap → R := run Tryz.prog G23 Tryz.f23 cuts23 m
theorem t23 (m : Nat) (x0 : Int) (x1 : Int) (x2 : Int) (x3 : Int) (x4 : Int) (x5 : Int) (x6 : Int) (x7 : Int) (x8 : Int) (x9 : Int) (x10 : Int) (x11 : Int) (H : Heap) : fnE Tryz.prog G23 Tryz.f23 cuts23 m [.agg #[.int .i64 x0, .int .i64 x1, .int .i64 x2, .int .i64 x3, .int .i64 x4, .int .i64 x5, .int .i64 x6, .int .i64 x7, .int .i64 x8, .int .i64 x9, .int .i64 x10], .int .i64 x11] H =
    let H12 := H ++ [.cells [.int .i64 x0, .int .i64 x1, .int .i64 x2, .int .i64 x3, .int .i64 x4, .int .i64 x5, .int .i64 x6, .int .i64 x7, .int .i64 x8, .int .i64 x9, .int .i64 x10] 0 true]
    ldc H12 H.length fun cs13 =>
    if 0 + 8 ≤ cs13.length then
    onSome (F51 [.agg ((range cs13 0 8).toArray)] H12) fun r14 =>
    kInt .i64 r14.1 fun n15 =>
    (match (n15 != (0 : Int)) with
    | true => (some (.tuple #[.pointer none, .int .i64 n15], r14.2))
    | false => (ldc r14.2 H.length fun cs16 =>
    onSome cs16[(0 + 8)]? fun v17 =>
    kInt .i64 v17 fun n18 =>
    onSome (F62 [.int .i64 n18] r14.2) fun r19 =>
    kInt .i64 r19.1 fun n20 =>
    onSome (F62 [.int .i64 x11] r19.2) fun r21 =>
    kInt .i64 r21.1 fun n22 =>
    (match (decide ((0 : Int) < (mxi n20 n22))) with
    | true => (R23 m td23_5 [] r21.2)
    | false => (ldc r21.2 H.length fun cs23 =>
    onSome cs23[(0 + 9)]? fun v24 =>
    kInt .i64 v24 fun n25 =>
    ldc r21.2 H.length fun cs26 =>
    onSome cs26[(0 + 10)]? fun v27 =>
    kInt .i64 v27 fun n28 =>
    (match (decide ((mni n25 n28) < (1 : Int))) with
    | true => (R23 m td23_5 [] r21.2)
    | false => (ldc r21.2 H.length fun cs29 =>
    onSome cs29[(0 + 9)]? fun v30 =>
    kInt .i64 v30 fun n31 =>
    (match (decide ((64 : Int) < n31)) with
    | true => (R23 m td23_5 [] r21.2)
    | false => (ldc r21.2 H.length fun cs32 =>
    onSome cs32[(0 + 10)]? fun v33 =>
    kInt .i64 v33 fun n34 =>
    (match (decide ((256 : Int) < n34)) with
    | true => (R23 m td23_5 [] r21.2)
    | false => (ldc r21.2 H.length fun cs35 =>
    if 0 + 11 ≤ cs35.length then
    let H36 := r21.2 ++ [.map []]
    let H37 := H36 ++ [.map []]
    let H38 := H37 ++ [.map []]
    cellsOks [.agg ((range cs35 0 11).toArray), .int .i64 x11, .map (some r21.2.length), .map (some H36.length), .map (some H37.length)] (onSome (Program.built Tryz.prog 153 (([0, 1, 3, 4, 5] : List Nat).zip [.agg ((range cs35 0 11).toArray), .int .i64 x11, .map (some r21.2.length), .map (some H36.length), .map (some H37.length)])) fun cells39 =>
    let H40 := H38 ++ [.cells cells39.toList 0 true]
    some (.tuple #[.pointer (some (⟨H38.length, 0, none⟩ : Addr)), .int .i64 (0 : Int)], H40))
    else none))))))))))
    else none := by kernel_rfl
theorem c23_5 (m : Nat)  (H : Heap) : R23 (m + 1) td23_5 [] H =
    some (.tuple #[.pointer none, .int .i64 (1 : Int)], H) := by kernel_rfl
-- WARN 23: build of an unknown part
-- sternpost/sock.New
noncomputable def G15 : Fs := Fs.ext G23 23 F23
theorem A15 : AllSound Tryz.prog G15 := AllSound.ext A23 S23
noncomputable def cuts15 : Cuts := []
noncomputable def F15 : List Value → Heap → R := FN Tryz.prog G15 Tryz.f15 cuts15
theorem S15 : Sound Tryz.prog 15 F15 := FN_sound A15 Tryz.func15 (by kernel_rfl) (by kernel_rfl)
noncomputable abbrev R15 (m : Nat) : List Item → List Value → Heap → R := run Tryz.prog G15 Tryz.f15 cuts15 m
theorem t15 (m : Nat) (x0 : Int) (x1 : Int) (x2 : Int) (x3 : Int) (x4 : Int) (x5 : Int) (x6 : Int) (x7 : Int) (x8 : Int) (x9 : Int) (x10 : Int) (x11 : Int) (H : Heap) : fnE Tryz.prog G15 Tryz.f15 cuts15 m [.agg #[.int .i64 x0, .int .i64 x1, .int .i64 x2, .int .i64 x3, .int .i64 x4, .int .i64 x5, .int .i64 x6, .int .i64 x7, .int .i64 x8, .int .i64 x9, .int .i64 x10], .int .i64 x11] H =
    let H12 := H ++ [.cells [.int .i64 x0, .int .i64 x1, .int .i64 x2, .int .i64 x3, .int .i64 x4, .int .i64 x5, .int .i64 x6, .int .i64 x7, .int .i64 x8, .int .i64 x9, .int .i64 x10] 0 true]
    ldc H12 H.length fun cs13 =>
    if 0 + 11 ≤ cs13.length then
    onSome (F23 [.agg ((range cs13 0 11).toArray), .int .i64 x11] H12) fun r14 =>
    kTup r14.1 fun vs15 =>
    onSome vs15[0]? fun v16 =>
    kPtr v16 fun p17 =>
    kTup r14.1 fun vs18 =>
    onSome vs18[1]? fun v19 =>
    kInt .i64 v19 fun n20 =>
    (match (n20 != (0 : Int)) with
    | true => (some (.tuple #[.pointer none, .int .i64 n20], r14.2))
    | false => (let H21 := r14.2 ++ [.map []]
    let H22 := H21 ++ [.cells [.pointer p17, .map (some r14.2.length), .slice none 0 0, .slice none 0 0, .int .i64 (0 : Int)] 0 true]
    some (.tuple #[.pointer (some (⟨H21.length, 0, none⟩ : Addr)), .int .i64 (0 : Int)], H22)))
    else none := by kernel_rfl
-- (*sternpost/sock.wait).end
noncomputable def G58 : Fs := Fs.ext G15 15 F15
theorem A58 : AllSound Tryz.prog G58 := AllSound.ext A15 S15
noncomputable def cuts58 : Cuts := []
noncomputable def F58 : List Value → Heap → R := FN Tryz.prog G58 Tryz.f58 cuts58
theorem S58 : Sound Tryz.prog 58 F58 := FN_sound A58 Tryz.func58 (by kernel_rfl) (by kernel_rfl)
noncomputable abbrev R58 (m : Nat) : List Item → List Value → Heap → R := run Tryz.prog G58 Tryz.f58 cuts58 m
theorem t58 (m : Nat) (x0 : Option Addr) (x1 : Int) (H : Heap) : fnE Tryz.prog G58 Tryz.f58 cuts58 m [.pointer x0, .int .i64 x1] H =
    onSome x0 fun a2 =>
    ldc H a2.block fun cs3 =>
    onSome cs3[a2.off]? fun v4 =>
    kInt .i64 v4 fun n5 =>
    let H6 := H ++ [.cells [.int .i64 n5, .int .i64 x1, .int .i64 (0 : Int), .int .i64 (0 : Int), .string (⟨#[]⟩ : ByteArray)] 0 true]
    some (.pointer (some (⟨H.length, 0, none⟩ : Addr)), H6) := by kernel_rfl
-- (*sternpost/sock.Box).free
noncomputable def G207 : Fs := Fs.ext G58 58 F58
theorem A207 : AllSound Tryz.prog G207 := AllSound.ext A58 S58
noncomputable def cuts207 : Cuts := [(100002, [0, 5])]
noncomputable def td207_100002 : List Item := todoOf Tryz.f207 100002
noncomputable def F207 : List Value → Heap → R := FN Tryz.prog G207 Tryz.f207 cuts207
theorem S207 : Sound Tryz.prog 207 F207 := FN_sound A207 Tryz.func207 (by kernel_rfl) (by kernel_rfl)
noncomputable abbrev R207 (m : Nat) : List Item → List Value → Heap → R := run Tryz.prog G207 Tryz.f207 cuts207 m
theorem t207 (m : Nat) (x0 : Option Addr) (H : Heap) : fnE Tryz.prog G207 Tryz.f207 cuts207 m [.pointer x0] H =
    R207 m td207_100002 [.pointer x0, .int .i64 (0 : Int)] H := by kernel_rfl
theorem c207_100002 (m : Nat) (x0 : Option Addr) (x1 : Int) (H : Heap) : R207 (m + 1) td207_100002 [.pointer x0, .int .i64 x1] H =
    (match (decide (x1 < (64 : Int))) with
    | true => (onSome x0 fun a2 =>
    ldc H a2.block fun cs3 =>
    onSome cs3[(a2.off + 1)]? fun v4 =>
    kMp v4 fun r5 =>
    lookupK Tryz.prog 133 H (.map r5) (.int .i64 x1) false fun v6 =>
    (match v6 with | .nilIface => (some (.tuple #[.int .i64 x1, .bool true], H)) | .iface _ _ => (R207 m td207_100002 [.pointer x0, .int .i64 (IntKind.i64.wrap (x1 + (1 : Int)))] H) | _ => none))
    | false => (some (.tuple #[.int .i64 (0 : Int), .bool false], H))) := by kernel_rfl
-- sternpost/table.port
noncomputable def G68 : Fs := Fs.ext G207 207 F207
theorem A68 : AllSound Tryz.prog G68 := AllSound.ext A207 S207
noncomputable def cuts68 : Cuts := []
noncomputable def F68 : List Value → Heap → R := FN Tryz.prog G68 Tryz.f68 cuts68
theorem S68 : Sound Tryz.prog 68 F68 := FN_sound A68 Tryz.func68 (by kernel_rfl) (by kernel_rfl)
noncomputable abbrev R68 (m : Nat) : List Item → List Value → Heap → R := run Tryz.prog G68 Tryz.f68 cuts68 m
theorem t68 (m : Nat) (x0 : Int) (H : Heap) : fnE Tryz.prog G68 Tryz.f68 cuts68 m [.int .i64 x0] H =
    (match (decide ((1 : Int) ≤ x0)) with
    | true => (some (.bool (decide (x0 ≤ (65535 : Int))), H))
    | false => (some (.bool false, H))) := by kernel_rfl
-- (*sternpost/table.Table).Listen
noncomputable def G63 : Fs := Fs.ext G68 68 F68
theorem A63 : AllSound Tryz.prog G63 := AllSound.ext A68 S68
noncomputable def cuts63 : Cuts := []
noncomputable def F63 : List Value → Heap → R := FN Tryz.prog G63 Tryz.f63 cuts63
theorem S63 : Sound Tryz.prog 63 F63 := FN_sound A63 Tryz.func63 (by kernel_rfl) (by kernel_rfl)
noncomputable abbrev R63 (m : Nat) : List Item → List Value → Heap → R := run Tryz.prog G63 Tryz.f63 cuts63 m
theorem t63 (m : Nat) (x0 : Option Addr) (x1 : Int) (H : Heap) : fnE Tryz.prog G63 Tryz.f63 cuts63 m [.pointer x0, .int .i64 x1] H =
    onSome (F68 [.int .i64 x1] H) fun r2 =>
    kBool r2.1 fun b3 =>
    (match (!b3) with
    | true => (some (.int .i64 (1 : Int), r2.2))
    | false => (onSome x0 fun a4 =>
    ldc r2.2 a4.block fun cs5 =>
    onSome cs5[(a4.off + 13)]? fun v6 =>
    kMp v6 fun r7 =>
    lookupK Tryz.prog 34 r2.2 (.map r7) (.int .i64 x1) false fun v8 =>
    kBool v8 fun b9 =>
    (match b9 with
    | true => (some (.int .i64 (190 : Int), r2.2))
    | false => (onSome x0 fun a10 =>
    ldc r2.2 a10.block fun cs11 =>
    onSome cs11[(a10.off + 13)]? fun v12 =>
    kMp v12 fun r13 =>
    onSome r13 fun q14 =>
    mupd r2.2 q14 (.int .i64 x1) (.bool true) fun H15 =>
    some (.int .i64 (0 : Int), H15))))) := by kernel_rfl
-- (*sternpost/sock.Box).listen
noncomputable def G181 : Fs := Fs.ext G63 63 F63
theorem A181 : AllSound Tryz.prog G181 := AllSound.ext A63 S63
noncomputable def cuts181 : Cuts := []
noncomputable def F181 : List Value → Heap → R := FN Tryz.prog G181 Tryz.f181 cuts181
theorem S181 : Sound Tryz.prog 181 F181 := FN_sound A181 Tryz.func181 (by kernel_rfl) (by kernel_rfl)
noncomputable abbrev R181 (m : Nat) : List Item → List Value → Heap → R := run Tryz.prog G181 Tryz.f181 cuts181 m
theorem t181 (m : Nat) (x0 : Option Addr) (x1 : Option Addr) (H : Heap) : fnE Tryz.prog G181 Tryz.f181 cuts181 m [.pointer x0, .pointer x1] H =
    onSome (F207 [.pointer x0] H) fun r2 =>
    kTup r2.1 fun vs3 =>
    onSome vs3[0]? fun v4 =>
    kInt .i64 v4 fun n5 =>
    kTup r2.1 fun vs6 =>
    onSome vs6[1]? fun v7 =>
    kBool v7 fun b8 =>
    (match (!b8) with
    | true => (onSome (F58 [.pointer x1, .int .i64 (150 : Int)] r2.2) fun r9 =>
    kPtr r9.1 fun p10 =>
    some (.pointer p10, r9.2))
    | false => (onSome x0 fun a11 =>
    ldc r2.2 a11.block fun cs12 =>
    onSome cs12[a11.off]? fun v13 =>
    kPtr v13 fun p14 =>
    onSome x1 fun a15 =>
    ldc r2.2 a15.block fun cs16 =>
    onSome cs16[(a15.off + 4)]? fun v17 =>
    kInt .i64 v17 fun n18 =>
    onSome (F63 [.pointer p14, .int .i64 n18] r2.2) fun r19 =>
    kInt .i64 r19.1 fun n20 =>
    (match (n20 != (0 : Int)) with
    | true => (onSome (F58 [.pointer x1, .int .i64 n20] r19.2) fun r21 =>
    kPtr r21.1 fun p22 =>
    some (.pointer p22, r21.2))
    | false => (onSome x0 fun a23 =>
    ldc r19.2 a23.block fun cs24 =>
    onSome cs24[(a23.off + 1)]? fun v25 =>
    kMp v25 fun r26 =>
    onSome x1 fun a27 =>
    ldc r19.2 a27.block fun cs28 =>
    onSome cs28[(a27.off + 4)]? fun v29 =>
    kInt .i64 v29 fun n30 =>
    let H31 := r19.2 ++ [.cells [.int .i64 n30] 0 true]
    onSome r26 fun q32 =>
    mupd H31 q32 (.int .i64 n5) (.iface 279 (.pointer (some (⟨r19.2.length, 0, none⟩ : Addr)))) fun H33 =>
    onSome x1 fun a34 =>
    ldc H33 a34.block fun cs35 =>
    onSome cs35[a34.off]? fun v36 =>
    kInt .i64 v36 fun n37 =>
    let H38 := H33 ++ [.cells [.int .i64 n37, .int .i64 (0 : Int), .int .i64 n5, .int .i64 (0 : Int), .string (⟨#[]⟩ : ByteArray)] 0 true]
    some (.pointer (some (⟨H33.length, 0, none⟩ : Addr)), H38))))) := by kernel_rfl
noncomputable def G182 : Fs := Fs.ext G181 181 F181
theorem A182 : AllSound Tryz.prog G182 := AllSound.ext A181 S181
def F182 : List Value → Heap → R := noF
theorem S182 : Sound Tryz.prog 182 F182 := noF_sound
-- maps.Keys[map[int]*sternpost/table.one,int,*sternpost/table.one]
noncomputable def G64 : Fs := Fs.ext G182 182 F182
theorem A64 : AllSound Tryz.prog G64 := AllSound.ext A182 S182
noncomputable def cuts64 : Cuts := []
noncomputable def F64 : List Value → Heap → R := FN Tryz.prog G64 Tryz.f64 cuts64
theorem S64 : Sound Tryz.prog 64 F64 := FN_sound A64 Tryz.func64 (by kernel_rfl) (by kernel_rfl)
noncomputable abbrev R64 (m : Nat) : List Item → List Value → Heap → R := run Tryz.prog G64 Tryz.f64 cuts64 m
theorem t64 (m : Nat) (x0 : Option Nat) (H : Heap) : fnE Tryz.prog G64 Tryz.f64 cuts64 m [.map x0] H =
    let H1 := H ++ [.cells [.map x0] 159383552 true]
    some (.func (.func 116) #[] #[.pointer (some (⟨H.length, 0, none⟩ : Addr))], H1) := by kernel_rfl
noncomputable def G60 : Fs := Fs.ext G64 64 F64
theorem A60 : AllSound Tryz.prog G60 := AllSound.ext A64 S64
-- (*sternpost/table.Table).Numbers
noncomputable def G25 : Fs := Fs.ext G60 60 F60
theorem A25 : AllSound Tryz.prog G25 := AllSound.ext A60 S60
noncomputable def cuts25 : Cuts := []
noncomputable def F25 : List Value → Heap → R := FN Tryz.prog G25 Tryz.f25 cuts25
theorem S25 : Sound Tryz.prog 25 F25 := FN_sound A25 Tryz.func25 (by kernel_rfl) (by kernel_rfl)
noncomputable abbrev R25 (m : Nat) : List Item → List Value → Heap → R := run Tryz.prog G25 Tryz.f25 cuts25 m
theorem t25 (m : Nat) (x0 : Option Addr) (H : Heap) : fnE Tryz.prog G25 Tryz.f25 cuts25 m [.pointer x0] H =
    onSome x0 fun a1 =>
    ldc H a1.block fun cs2 =>
    onSome cs2[(a1.off + 15)]? fun v3 =>
    kMp v3 fun r4 =>
    onSome (F64 [.map r4] H) fun r5 =>
    onSome (F60 [r5.1] r5.2) fun r6 =>
    kSl r6.1 fun a7 l8 c9 =>
    some (.slice a7 l8 c9, r6.2) := by kernel_rfl
noncomputable def G110 : Fs := Fs.ext G25 25 F25
theorem A110 : AllSound Tryz.prog G110 := AllSound.ext A25 S25
def F110 : List Value → Heap → R := noF
theorem S110 : Sound Tryz.prog 110 F110 := noF_sound
-- (*sternpost/table.Table).Accept
noncomputable def G55 : Fs := Fs.ext G110 110 F110
theorem A55 : AllSound Tryz.prog G55 := AllSound.ext A110 S110
noncomputable def cuts55 : Cuts := [(100002, [0, 1, 10, 11, 12]), (8, [0, 1, 10, 11, 12])]
noncomputable def td55_100002 : List Item := todoOf Tryz.f55 100002
noncomputable def td55_8 : List Item := todoOf Tryz.f55 8
noncomputable def F55 : List Value → Heap → R := FN Tryz.prog G55 Tryz.f55 cuts55
theorem S55 : Sound Tryz.prog 55 F55 := FN_sound A55 Tryz.func55 (by kernel_rfl) (by kernel_rfl)
noncomputable abbrev R55 (m : Nat) : List Item → List Value → Heap → R := run Tryz.prog G55 Tryz.f55 cuts55 m
theorem t55 (m : Nat) (x0 : Option Addr) (x1 : Int) (H : Heap) : fnE Tryz.prog G55 Tryz.f55 cuts55 m [.pointer x0, .int .i64 x1] H =
    onSome (F25 [.pointer x0] H) fun r2 =>
    kSl r2.1 fun a3 l4 c5 =>
    R55 m td55_100002 [.pointer x0, .int .i64 x1, .slice a3 l4 c5, .int .i64 ((l4 : Nat) : Int), .int .i64 (0 : Int)] r2.2 := by kernel_rfl
theorem c55_8 (m : Nat) (x0 : Option Addr) (x1 : Int) (a2 : Option Addr) (l3 : Nat) (c4 : Nat) (x5 : Int) (x6 : Int) (H : Heap) : R55 (m + 1) td55_8 [.pointer x0, .int .i64 x1, .slice a2 l3 c4, .int .i64 x5, .int .i64 x6] H =
    R55 m td55_100002 [.pointer x0, .int .i64 x1, .slice a2 l3 c4, .int .i64 x5, .int .i64 (IntKind.i64.wrap (x6 + (1 : Int)))] H := by kernel_rfl
theorem c55_100002 (m : Nat) (x0 : Option Addr) (x1 : Int) (a2 : Option Addr) (l3 : Nat) (c4 : Nat) (x5 : Int) (x6 : Int) (H : Heap) : R55 (m + 1) td55_100002 [.pointer x0, .int .i64 x1, .slice a2 l3 c4, .int .i64 x5, .int .i64 x6] H =
    (match (decide (x6 < x5)) with
    | true => (onSome a2 fun a7 =>
    if 0 ≤ x6 ∧ x6 < (l3 : Nat) then
    ldc H ((a7.add (x6.toNat * 1)).block) fun cs8 =>
    onSome cs8[(a7.add (x6.toNat * 1)).off]? fun v9 =>
    kInt .i64 v9 fun n10 =>
    onSome x0 fun a11 =>
    ldc H a11.block fun cs12 =>
    onSome cs12[(a11.off + 15)]? fun v13 =>
    kMp v13 fun r14 =>
    lookupK Tryz.prog 151 H (.map r14) (.int .i64 n10) false fun v15 =>
    kPtr v15 fun p16 =>
    onSome p16 fun a17 =>
    ldc H a17.block fun cs18 =>
    onSome cs18[(a17.off + 7)]? fun v19 =>
    kBool v19 fun b20 =>
    (match b20 with
    | true => (onSome p16 fun a21 =>
    ldc H a21.block fun cs22 =>
    onSome cs22[((a21.off + 2) + 1)]? fun v23 =>
    kInt .i64 v23 fun n24 =>
    (match (n24 == x1) with
    | true => (onSome (F110 [.pointer p16] H) fun r25 =>
    kBool r25.1 fun b26 =>
    (match b26 with
    | true => (onSome p16 fun a27 =>
    st 1 r25.2 (⟨a27.block, a27.off + 6, none⟩ : Addr) (.bool true) fun _ H28 =>
    onSome p16 fun a29 =>
    st 1 H28 (⟨a29.block, a29.off + 7, none⟩ : Addr) (.bool false) fun _ H30 =>
    some (.tuple #[.int .i64 n10, .bool true], H30))
    | false => (R55 m td55_8 [.pointer x0, .int .i64 x1, .slice a2 l3 c4, .int .i64 x5, .int .i64 x6] r25.2)))
    | false => (R55 m td55_8 [.pointer x0, .int .i64 x1, .slice a2 l3 c4, .int .i64 x5, .int .i64 x6] H)))
    | false => (R55 m td55_8 [.pointer x0, .int .i64 x1, .slice a2 l3 c4, .int .i64 x5, .int .i64 x6] H))
    else none)
    | false => (some (.tuple #[.int .i64 (0 : Int), .bool false], H))) := by kernel_rfl
-- (*sternpost/sock.Box).accept
noncomputable def G211 : Fs := Fs.ext G55 55 F55
theorem A211 : AllSound Tryz.prog G211 := AllSound.ext A55 S55
noncomputable def cuts211 : Cuts := []
noncomputable def F211 : List Value → Heap → R := FN Tryz.prog G211 Tryz.f211 cuts211
theorem S211 : Sound Tryz.prog 211 F211 := FN_sound A211 Tryz.func211 (by kernel_rfl) (by kernel_rfl)
noncomputable abbrev R211 (m : Nat) : List Item → List Value → Heap → R := run Tryz.prog G211 Tryz.f211 cuts211 m
theorem t211 (m : Nat) (x0 : Option Addr) (x1 : Option Addr) (x2 : Option Addr) (H : Heap) : fnE Tryz.prog G211 Tryz.f211 cuts211 m [.pointer x0, .pointer x1, .pointer x2] H =
    onSome (F207 [.pointer x0] H) fun r3 =>
    kTup r3.1 fun vs4 =>
    onSome vs4[0]? fun v5 =>
    kInt .i64 v5 fun n6 =>
    kTup r3.1 fun vs7 =>
    onSome vs7[1]? fun v8 =>
    kBool v8 fun b9 =>
    (match (!b9) with
    | true => (onSome (F58 [.pointer x1, .int .i64 (150 : Int)] r3.2) fun r10 =>
    kPtr r10.1 fun p11 =>
    some (.pointer p11, r10.2))
    | false => (onSome x0 fun a12 =>
    ldc r3.2 a12.block fun cs13 =>
    onSome cs13[a12.off]? fun v14 =>
    kPtr v14 fun p15 =>
    onSome x2 fun a16 =>
    ldc r3.2 a16.block fun cs17 =>
    onSome cs17[a16.off]? fun v18 =>
    kInt .i64 v18 fun n19 =>
    onSome (F55 [.pointer p15, .int .i64 n19] r3.2) fun r20 =>
    kTup r20.1 fun vs21 =>
    onSome vs21[0]? fun v22 =>
    kInt .i64 v22 fun n23 =>
    kTup r20.1 fun vs24 =>
    onSome vs24[1]? fun v25 =>
    kBool v25 fun b26 =>
    (match (!b26) with
    | true => (some (.pointer none, r20.2))
    | false => (onSome x0 fun a27 =>
    ldc r20.2 a27.block fun cs28 =>
    onSome cs28[(a27.off + 1)]? fun v29 =>
    kMp v29 fun r30 =>
    let H31 := r20.2 ++ [.cells [.int .i64 n23] 0 true]
    onSome r30 fun q32 =>
    mupd H31 q32 (.int .i64 n6) (.iface 138 (.pointer (some (⟨r20.2.length, 0, none⟩ : Addr)))) fun H33 =>
    onSome x1 fun a34 =>
    ldc H33 a34.block fun cs35 =>
    onSome cs35[a34.off]? fun v36 =>
    kInt .i64 v36 fun n37 =>
    let H38 := H33 ++ [.cells [.int .i64 n37, .int .i64 (0 : Int), .int .i64 n6, .int .i64 (0 : Int), .string (⟨#[]⟩ : ByteArray)] 0 true]
    some (.pointer (some (⟨H33.length, 0, none⟩ : Addr)), H38))))) := by kernel_rfl
noncomputable def G48 : Fs := Fs.ext G211 211 F211
theorem A48 : AllSound Tryz.prog G48 := AllSound.ext A211 S211
def F48 : List Value → Heap → R := noF
theorem S48 : Sound Tryz.prog 48 F48 := noF_sound
noncomputable def G67 : Fs := Fs.ext G48 48 F48
theorem A67 : AllSound Tryz.prog G67 := AllSound.ext A48 S48
def F67 : List Value → Heap → R := noF
theorem S67 : Sound Tryz.prog 67 F67 := noF_sound
-- (*sternpost/table.Table).Silence
noncomputable def G31 : Fs := Fs.ext G67 67 F67
theorem A31 : AllSound Tryz.prog G31 := AllSound.ext A67 S67
noncomputable def cuts31 : Cuts := [(100005, [0, 1, 21, 22, 23]), (11, [0, 1, 21, 22, 23])]
noncomputable def td31_100005 : List Item := todoOf Tryz.f31 100005
noncomputable def td31_11 : List Item := todoOf Tryz.f31 11
noncomputable def F31 : List Value → Heap → R := FN Tryz.prog G31 Tryz.f31 cuts31
theorem S31 : Sound Tryz.prog 31 F31 := FN_sound A31 Tryz.func31 (by kernel_rfl) (by kernel_rfl)
noncomputable abbrev R31 (m : Nat) : List Item → List Value → Heap → R := run Tryz.prog G31 Tryz.f31 cuts31 m
theorem t31 (m : Nat) (x0 : Option Addr) (x1 : Int) (H : Heap) : fnE Tryz.prog G31 Tryz.f31 cuts31 m [.pointer x0, .int .i64 x1] H =
    onSome x0 fun a2 =>
    ldc H a2.block fun cs3 =>
    onSome cs3[(a2.off + 13)]? fun v4 =>
    kMp v4 fun r5 =>
    lookupK Tryz.prog 34 H (.map r5) (.int .i64 x1) false fun v6 =>
    kBool v6 fun b7 =>
    (match (!b7) with
    | true => (some (.int .i64 (5 : Int), H))
    | false => (onSome x0 fun a8 =>
    ldc H a8.block fun cs9 =>
    onSome cs9[(a8.off + 13)]? fun v10 =>
    kMp v10 fun r11 =>
    dele H r11 (.int .i64 x1) fun H12 =>
    onSome (F25 [.pointer x0] H12) fun r13 =>
    kSl r13.1 fun a14 l15 c16 =>
    R31 m td31_100005 [.pointer x0, .int .i64 x1, .slice a14 l15 c16, .int .i64 ((l15 : Nat) : Int), .int .i64 (0 : Int)] r13.2)) := by kernel_rfl
theorem c31_11 (m : Nat) (x0 : Option Addr) (x1 : Int) (a2 : Option Addr) (l3 : Nat) (c4 : Nat) (x5 : Int) (x6 : Int) (H : Heap) : R31 (m + 1) td31_11 [.pointer x0, .int .i64 x1, .slice a2 l3 c4, .int .i64 x5, .int .i64 x6] H =
    R31 m td31_100005 [.pointer x0, .int .i64 x1, .slice a2 l3 c4, .int .i64 x5, .int .i64 (IntKind.i64.wrap (x6 + (1 : Int)))] H := by kernel_rfl
theorem c31_100005 (m : Nat) (x0 : Option Addr) (x1 : Int) (a2 : Option Addr) (l3 : Nat) (c4 : Nat) (x5 : Int) (x6 : Int) (H : Heap) : R31 (m + 1) td31_100005 [.pointer x0, .int .i64 x1, .slice a2 l3 c4, .int .i64 x5, .int .i64 x6] H =
    (match (decide (x6 < x5)) with
    | true => (onSome a2 fun a7 =>
    if 0 ≤ x6 ∧ x6 < (l3 : Nat) then
    ldc H ((a7.add (x6.toNat * 1)).block) fun cs8 =>
    onSome cs8[(a7.add (x6.toNat * 1)).off]? fun v9 =>
    kInt .i64 v9 fun n10 =>
    onSome x0 fun a11 =>
    ldc H a11.block fun cs12 =>
    onSome cs12[(a11.off + 15)]? fun v13 =>
    kMp v13 fun r14 =>
    lookupK Tryz.prog 151 H (.map r14) (.int .i64 n10) false fun v15 =>
    kPtr v15 fun p16 =>
    onSome p16 fun a17 =>
    ldc H a17.block fun cs18 =>
    onSome cs18[(a17.off + 7)]? fun v19 =>
    kBool v19 fun b20 =>
    (match b20 with
    | true => (onSome p16 fun a21 =>
    ldc H a21.block fun cs22 =>
    onSome cs22[((a21.off + 2) + 1)]? fun v23 =>
    kInt .i64 v23 fun n24 =>
    (match (n24 == x1) with
    | true => (onSome p16 fun a25 =>
    ldc H a25.block fun cs26 =>
    onSome cs26[(a25.off + 1)]? fun v27 =>
    kPtr v27 fun p28 =>
    onSome (F48 [.pointer p28] H) fun r29 =>
    kSl r29.1 fun a30 l31 c32 =>
    onSome (F67 [.pointer x0, .pointer p16] r29.2) fun r33 =>
    R31 m td31_11 [.pointer x0, .int .i64 x1, .slice a2 l3 c4, .int .i64 x5, .int .i64 x6] r33.2)
    | false => (R31 m td31_11 [.pointer x0, .int .i64 x1, .slice a2 l3 c4, .int .i64 x5, .int .i64 x6] H)))
    | false => (R31 m td31_11 [.pointer x0, .int .i64 x1, .slice a2 l3 c4, .int .i64 x5, .int .i64 x6] H))
    else none)
    | false => (some (.int .i64 (0 : Int), H))) := by kernel_rfl
-- (*sternpost/sock.Box).onListening
noncomputable def G183 : Fs := Fs.ext G31 31 F31
theorem A183 : AllSound Tryz.prog G183 := AllSound.ext A31 S31
noncomputable def cuts183 : Cuts := []
noncomputable def F183 : List Value → Heap → R := FN Tryz.prog G183 Tryz.f183 cuts183
theorem S183 : Sound Tryz.prog 183 F183 := FN_sound A183 Tryz.func183 (by kernel_rfl) (by kernel_rfl)
noncomputable abbrev R183 (m : Nat) : List Item → List Value → Heap → R := run Tryz.prog G183 Tryz.f183 cuts183 m
theorem t183 (m : Nat) (x0 : Option Addr) (x1 : Option Addr) (x2 : Option Addr) (H : Heap) : fnE Tryz.prog G183 Tryz.f183 cuts183 m [.pointer x0, .pointer x1, .pointer x2] H =
    onSome x1 fun a3 =>
    ldc H a3.block fun cs4 =>
    onSome cs4[(a3.off + 1)]? fun v5 =>
    kInt .i64 v5 fun n6 =>
    (match (n6 == (2 : Int)) with
    | true => (onSome (F211 [.pointer x0, .pointer x1, .pointer x2] H) fun r7 =>
    kPtr r7.1 fun p8 =>
    some (.pointer p8, r7.2))
    | false => ((match (n6 == (7 : Int)) with
    | true => (onSome x0 fun a9 =>
    ldc H a9.block fun cs10 =>
    onSome cs10[a9.off]? fun v11 =>
    kPtr v11 fun p12 =>
    onSome x2 fun a13 =>
    ldc H a13.block fun cs14 =>
    onSome cs14[a13.off]? fun v15 =>
    kInt .i64 v15 fun n16 =>
    onSome (F31 [.pointer p12, .int .i64 n16] H) fun r17 =>
    kInt .i64 r17.1 fun n18 =>
    onSome x0 fun a19 =>
    ldc r17.2 a19.block fun cs20 =>
    onSome cs20[(a19.off + 1)]? fun v21 =>
    kMp v21 fun r22 =>
    onSome x1 fun a23 =>
    ldc r17.2 a23.block fun cs24 =>
    onSome cs24[(a23.off + 2)]? fun v25 =>
    kInt .i64 v25 fun n26 =>
    dele r17.2 r22 (.int .i64 n26) fun H27 =>
    onSome (F58 [.pointer x1, .int .i64 (0 : Int)] H27) fun r28 =>
    kPtr r28.1 fun p29 =>
    some (.pointer p29, r28.2))
    | false => ((match (n6 == (9 : Int)) with
    | true => (onSome x1 fun a30 =>
    ldc H a30.block fun cs31 =>
    onSome cs31[a30.off]? fun v32 =>
    kInt .i64 v32 fun n33 =>
    let H34 := H ++ [.cells [.int .i64 n33, .int .i64 (0 : Int), .int .i64 (0 : Int), .int .i64 (1 : Int), .string (⟨#[]⟩ : ByteArray)] 0 true]
    some (.pointer (some (⟨H.length, 0, none⟩ : Addr)), H34))
    | false => (onSome (F58 [.pointer x1, .int .i64 (4 : Int)] H) fun r35 =>
    kPtr r35.1 fun p36 =>
    some (.pointer p36, r35.2))))))) := by kernel_rfl
noncomputable def G184 : Fs := Fs.ext G183 183 F183
theorem A184 : AllSound Tryz.prog G184 := AllSound.ext A183 S183
def F184 : List Value → Heap → R := noF
theorem S184 : Sound Tryz.prog 184 F184 := noF_sound
-- (*sternpost/sock.Box).turn
noncomputable def G154 : Fs := Fs.ext G184 184 F184
theorem A154 : AllSound Tryz.prog G154 := AllSound.ext A184 S184
noncomputable def cuts154 : Cuts := [(7, [0, 1, 31])]
noncomputable def td154_7 : List Item := todoOf Tryz.f154 7
noncomputable def F154 : List Value → Heap → R := FN Tryz.prog G154 Tryz.f154 cuts154
theorem S154 : Sound Tryz.prog 154 F154 := FN_sound A154 Tryz.func154 (by kernel_rfl) (by kernel_rfl)
noncomputable abbrev R154 (m : Nat) : List Item → List Value → Heap → R := run Tryz.prog G154 Tryz.f154 cuts154 m
theorem t154 (m : Nat) (x0 : Option Addr) (x1 : Option Addr) (H : Heap) : fnE Tryz.prog G154 Tryz.f154 cuts154 m [.pointer x0, .pointer x1] H =
    onSome x1 fun a2 =>
    ldc H a2.block fun cs3 =>
    onSome cs3[(a2.off + 1)]? fun v4 =>
    kInt .i64 v4 fun n5 =>
    (match (n5 == (1 : Int)) with
    | true => (onSome (F181 [.pointer x0, .pointer x1] H) fun r6 =>
    kPtr r6.1 fun p7 =>
    some (.pointer p7, r6.2))
    | false => ((match (n5 == (3 : Int)) with
    | true => (onSome (F182 [.pointer x0, .pointer x1] H) fun r8 =>
    kPtr r8.1 fun p9 =>
    some (.pointer p9, r8.2))
    | false => (onSome x0 fun a10 =>
    ldc H a10.block fun cs11 =>
    onSome cs11[(a10.off + 1)]? fun v12 =>
    kMp v12 fun r13 =>
    onSome x1 fun a14 =>
    ldc H a14.block fun cs15 =>
    onSome cs15[(a14.off + 2)]? fun v16 =>
    kInt .i64 v16 fun n17 =>
    lookupK Tryz.prog 133 H (.map r13) (.int .i64 n17) false fun v18 =>
    (match (r13 : Option Nat) with
    | some blk19 => (R154 m td154_7 [.pointer x0, .pointer x1, v18] H)
    | none => (R154 m td154_7 [.pointer x0, .pointer x1, v18] H)))))) := by kernel_rfl
theorem c154_7 (m : Nat) (x0 : Option Addr) (x1 : Option Addr) (x2 : Value) (H : Heap) : R154 (m + 1) td154_7 [.pointer x0, .pointer x1, x2] H =
    tyAs Tryz.prog 279 true x2 fun v3 =>
    kTup v3 fun vs4 =>
    onSome vs4[1]? fun v5 =>
    kBool v5 fun b6 =>
    kTup v3 fun vs7 =>
    onSome vs7[0]? fun v8 =>
    kPtr v8 fun p9 =>
    (match b6 with
    | true => (onSome (F183 [.pointer x0, .pointer x1, .pointer p9] H) fun r10 =>
    kPtr r10.1 fun p11 =>
    some (.pointer p11, r10.2))
    | false => (tyAs Tryz.prog 138 true x2 fun v12 =>
    kTup v12 fun vs13 =>
    onSome vs13[1]? fun v14 =>
    kBool v14 fun b15 =>
    kTup v12 fun vs16 =>
    onSome vs16[0]? fun v17 =>
    kPtr v17 fun p18 =>
    (match b15 with
    | true => (onSome (F184 [.pointer x0, .pointer x1, .pointer p18] H) fun r19 =>
    kPtr r19.1 fun p20 =>
    some (.pointer p20, r19.2))
    | false => (onSome (F58 [.pointer x1, .int .i64 (5 : Int)] H) fun r21 =>
    kPtr r21.1 fun p22 =>
    some (.pointer p22, r21.2))))) := by kernel_rfl
-- slices.Delete[[]*sternpost/sock.wait,*sternpost/sock.wait]
noncomputable def G155 : Fs := Fs.ext G154 154 F154
theorem A155 : AllSound Tryz.prog G155 := AllSound.ext A154 S154
noncomputable def cuts155 : Cuts := [(6, [0, 7])]
noncomputable def td155_6 : List Item := todoOf Tryz.f155 6
noncomputable def F155 : List Value → Heap → R := FN Tryz.prog G155 Tryz.f155 cuts155
theorem S155 : Sound Tryz.prog 155 F155 := FN_sound A155 Tryz.func155 (by kernel_rfl) (by kernel_rfl)
noncomputable abbrev R155 (m : Nat) : List Item → List Value → Heap → R := run Tryz.prog G155 Tryz.f155 cuts155 m
theorem t155 (m : Nat) (a0 : Option Addr) (l1 : Nat) (c2 : Nat) (x3 : Int) (x4 : Int) (H : Heap) : fnE Tryz.prog G155 Tryz.f155 cuts155 m [.slice a0 l1 c2, .int .i64 x3, .int .i64 x4] H =
    slSl3 H 1 a0 l1 c2 x3 x4 ((l1 : Nat) : Int) fun v5 =>
    kSl v5 fun a6 l7 c8 =>
    (match (x3 == x4) with
    | true => (some (.slice a0 l1 c2, H))
    | false => (slSl H 1 a0 l1 c2 (0 : Int) x3 fun v9 =>
    kSl v9 fun a10 l11 c12 =>
    (match (a0.map (·.block) : Option Nat) with
    | some blk13 => (slSl H 1 a0 l1 c2 x4 (l1 : Int) fun v14 =>
    kSl v14 fun a15 l16 c17 =>
    (match (a0.map (·.block) : Option Nat) with
    | some blk18 => (firstC H 1 (.slice a15 l16 c17) fun n19 nw20 =>
    app Tryz.prog 137 H (.slice a10 l11 c12) n19 nw20 fun v21 H22 =>
    kSl v21 fun a23 l24 c25 =>
    R155 m td155_6 [.slice a23 l24 c25, .int .i64 ((l1 : Nat) : Int)] H22)
    | none => (firstC H 1 (.slice a15 l16 c17) fun n26 nw27 =>
    app Tryz.prog 137 H (.slice a10 l11 c12) n26 nw27 fun v28 H29 =>
    kSl v28 fun a30 l31 c32 =>
    R155 m td155_6 [.slice a30 l31 c32, .int .i64 ((l1 : Nat) : Int)] H29)))
    | none => (slSl H 1 a0 l1 c2 x4 (l1 : Int) fun v33 =>
    kSl v33 fun a34 l35 c36 =>
    (match (a0.map (·.block) : Option Nat) with
    | some blk37 => (firstC H 1 (.slice a34 l35 c36) fun n38 nw39 =>
    app Tryz.prog 137 H (.slice a10 l11 c12) n38 nw39 fun v40 H41 =>
    kSl v40 fun a42 l43 c44 =>
    R155 m td155_6 [.slice a42 l43 c44, .int .i64 ((l1 : Nat) : Int)] H41)
    | none => (firstC H 1 (.slice a34 l35 c36) fun n45 nw46 =>
    app Tryz.prog 137 H (.slice a10 l11 c12) n45 nw46 fun v47 H48 =>
    kSl v47 fun a49 l50 c51 =>
    R155 m td155_6 [.slice a49 l50 c51, .int .i64 ((l1 : Nat) : Int)] H48)))))) := by kernel_rfl
theorem c155_6 (m : Nat) (a0 : Option Addr) (l1 : Nat) (c2 : Nat) (x3 : Int) (H : Heap) : R155 (m + 1) td155_6 [.slice a0 l1 c2, .int .i64 x3] H =
    slSl H 1 a0 l1 c2 ((l1 : Nat) : Int) x3 fun v4 =>
    kSl v4 fun a5 l6 c7 =>
    clr H 1 (.pointer none) a5 l6 fun H8 =>
    some (.slice a0 l1 c2, H8) := by kernel_rfl
-- (*sternpost/sock.Box).look
noncomputable def G112 : Fs := Fs.ext G155 155 F155
theorem A112 : AllSound Tryz.prog G112 := AllSound.ext A155 S155
noncomputable def cuts112 : Cuts := [(100002, [0, 2, 3]), (3, [0, 2, 3])]
noncomputable def td112_100002 : List Item := todoOf Tryz.f112 100002
noncomputable def td112_3 : List Item := todoOf Tryz.f112 3
noncomputable def F112 : List Value → Heap → R := FN Tryz.prog G112 Tryz.f112 cuts112
theorem S112 : Sound Tryz.prog 112 F112 := FN_sound A112 Tryz.func112 (by kernel_rfl) (by kernel_rfl)
noncomputable abbrev R112 (m : Nat) : List Item → List Value → Heap → R := run Tryz.prog G112 Tryz.f112 cuts112 m
theorem t112 (m : Nat) (x0 : Option Addr) (H : Heap) : fnE Tryz.prog G112 Tryz.f112 cuts112 m [.pointer x0] H =
    R112 m td112_100002 [.pointer x0, .slice none 0 0, .int .i64 (0 : Int)] H := by kernel_rfl
theorem c112_3 (m : Nat) (x0 : Option Addr) (a1 : Option Addr) (l2 : Nat) (c3 : Nat) (x4 : Int) (H : Heap) : R112 (m + 1) td112_3 [.pointer x0, .slice a1 l2 c3, .int .i64 x4] H =
    R112 m td112_100002 [.pointer x0, .slice a1 l2 c3, .int .i64 (IntKind.i64.wrap (x4 + (1 : Int)))] H := by kernel_rfl
theorem c112_100002 (m : Nat) (x0 : Option Addr) (a1 : Option Addr) (l2 : Nat) (c3 : Nat) (x4 : Int) (H : Heap) : R112 (m + 1) td112_100002 [.pointer x0, .slice a1 l2 c3, .int .i64 x4] H =
    onSome x0 fun a5 =>
    ldc H a5.block fun cs6 =>
    onSome cs6[(a5.off + 2)]? fun v7 =>
    kSl v7 fun a8 l9 c10 =>
    (match (decide (x4 < ((l9 : Nat) : Int))) with
    | true => (onSome x0 fun a11 =>
    ldc H a11.block fun cs12 =>
    onSome cs12[(a11.off + 2)]? fun v13 =>
    kSl v13 fun a14 l15 c16 =>
    onSome a14 fun a17 =>
    if 0 ≤ x4 ∧ x4 < (l15 : Nat) then
    ldc H ((a17.add (x4.toNat * 1)).block) fun cs18 =>
    onSome cs18[(a17.add (x4.toNat * 1)).off]? fun v19 =>
    kPtr v19 fun p20 =>
    onSome (F154 [.pointer x0, .pointer p20] H) fun r21 =>
    kPtr r21.1 fun p22 =>
    (match p22.isNone with
    | true => (R112 m td112_3 [.pointer x0, .slice a1 l2 c3, .int .i64 x4] r21.2)
    | false => (onSome p22 fun a23 =>
    ldc r21.2 a23.block fun cs24 =>
    if a23.off + 5 ≤ cs24.length then
    cellsOks [.agg ((range cs24 a23.off 5).toArray)] (onSome (Instr.fill (fun i => some (i * 5, 5)) ([.int .i64 (0 : Int), .int .i64 (0 : Int), .int .i64 (0 : Int), .int .i64 (0 : Int), .string (⟨#[]⟩ : ByteArray)] : List Value).toArray (([0] : List Nat).zip [.agg ((range cs24 a23.off 5).toArray)])) fun cells25 =>
    let H26 := r21.2 ++ [.cells cells25.toList 5 true]
    firstC H26 5 (.slice (some ⟨r21.2.length, 0, none⟩) 1 1) fun n27 nw28 =>
    app Tryz.prog 43 H26 (.slice a1 l2 c3) n27 nw28 fun v29 H30 =>
    kSl v29 fun a31 l32 c33 =>
    onSome x0 fun a34 =>
    ldc H30 a34.block fun cs35 =>
    onSome cs35[(a34.off + 2)]? fun v36 =>
    kSl v36 fun a37 l38 c39 =>
    onSome (F155 [.slice a37 l38 c39, .int .i64 x4, .int .i64 (IntKind.i64.wrap (x4 + (1 : Int)))] H30) fun r40 =>
    kSl r40.1 fun a41 l42 c43 =>
    onSome x0 fun a44 =>
    st 1 r40.2 (⟨a44.block, a44.off + 2, none⟩ : Addr) (.slice a41 l42 c43) fun _ H45 =>
    R112 m td112_3 [.pointer x0, .slice a31 l32 c33, .int .i64 (-1 : Int)] H45)
    else none))
    else none)
    | false => (some (.slice a1 l2 c3, H))) := by kernel_rfl
-- (*sternpost/sock.Box).told
noncomputable def G59 : Fs := Fs.ext G112 112 F112
theorem A59 : AllSound Tryz.prog G59 := AllSound.ext A112 S112
noncomputable def cuts59 : Cuts := []
noncomputable def F59 : List Value → Heap → R := FN Tryz.prog G59 Tryz.f59 cuts59
theorem S59 : Sound Tryz.prog 59 F59 := FN_sound A59 Tryz.func59 (by kernel_rfl) (by kernel_rfl)
noncomputable abbrev R59 (m : Nat) : List Item → List Value → Heap → R := run Tryz.prog G59 Tryz.f59 cuts59 m
theorem t59 (m : Nat) (x0 : Option Addr) (H : Heap) : fnE Tryz.prog G59 Tryz.f59 cuts59 m [.pointer x0] H =
    onSome (F112 [.pointer x0] H) fun r1 =>
    kSl r1.1 fun a2 l3 c4 =>
    onSome x0 fun a5 =>
    ldc r1.2 a5.block fun cs6 =>
    onSome cs6[(a5.off + 3)]? fun v7 =>
    kSl v7 fun a8 l9 c10 =>
    onSome x0 fun a11 =>
    st 1 r1.2 (⟨a11.block, a11.off + 3, none⟩ : Addr) (.slice none 0 0) fun _ H12 =>
    some (.tuple #[.slice a2 l3 c4, .slice a8 l9 c10], H12) := by kernel_rfl
-- (*sternpost/sock.Box).Ask
noncomputable def G19 : Fs := Fs.ext G59 59 F59
theorem A19 : AllSound Tryz.prog G19 := AllSound.ext A59 S59
noncomputable def cuts19 : Cuts := [(3, [8])]
noncomputable def td19_3 : List Item := todoOf Tryz.f19 3
noncomputable def F19 : List Value → Heap → R := FN Tryz.prog G19 Tryz.f19 cuts19
theorem S19 : Sound Tryz.prog 19 F19 := FN_sound A19 Tryz.func19 (by kernel_rfl) (by kernel_rfl)
noncomputable abbrev R19 (m : Nat) : List Item → List Value → Heap → R := run Tryz.prog G19 Tryz.f19 cuts19 m
theorem t19 (m : Nat) (x0 : Option Addr) (x1 : Int) (x2 : Int) (x3 : Int) (x4 : Int) (x5 : Int) (x6 : Int) (x7 : ByteArray) (x8 : Int) (H : Heap) : fnE Tryz.prog G19 Tryz.f19 cuts19 m [.pointer x0, .agg #[.int .i64 x1, .int .i64 x2, .int .i64 x3, .int .i64 x4, .int .i64 x5, .int .i64 x6, .string x7], .int .i64 x8] H =
    let H9 := H ++ [.cells [.int .i64 x1, .int .i64 x2, .int .i64 x3, .int .i64 x4, .int .i64 x5, .int .i64 x6, .string x7] 0 true]
    ldc H9 H.length fun cs10 =>
    if 0 + 7 ≤ cs10.length then
    cellsOks [.agg ((range cs10 0 7).toArray)] (onSome (Program.built Tryz.prog 140 (([0] : List Nat).zip [.agg ((range cs10 0 7).toArray)])) fun cells11 =>
    let H12 := H9 ++ [.cells cells11.toList 0 true]
    ldc H12 H.length fun cs13 =>
    onSome cs13[(0 + 1)]? fun v14 =>
    kInt .i64 v14 fun n15 =>
    (match (decide (n15 < (1 : Int))) with
    | true => (R19 m td19_3 [.pointer (some (⟨H9.length, 0, none⟩ : Addr))] H12)
    | false => (ldc H12 H.length fun cs16 =>
    onSome cs16[(0 + 1)]? fun v17 =>
    kInt .i64 v17 fun n18 =>
    (match (decide ((9 : Int) < n18)) with
    | true => (R19 m td19_3 [.pointer (some (⟨H9.length, 0, none⟩ : Addr))] H12)
    | false => (onSome x0 fun a19 =>
    ldc H12 a19.block fun cs20 =>
    onSome cs20[(a19.off + 2)]? fun v21 =>
    kSl v21 fun a22 l23 c24 =>
    (match (decide ((64 : Int) ≤ ((l23 : Nat) : Int))) with
    | true => (onSome (F58 [.pointer (some (⟨H9.length, 0, none⟩ : Addr)), .int .i64 (2 : Int)] H12) fun r25 =>
    kPtr r25.1 fun p26 =>
    onSome p26 fun a27 =>
    ldc r25.2 a27.block fun cs28 =>
    if a27.off + 5 ≤ cs28.length then
    cellsOks [.agg ((range cs28 a27.off 5).toArray)] (onSome (Instr.fill (fun i => some (i * 5, 5)) ([.int .i64 (0 : Int), .int .i64 (0 : Int), .int .i64 (0 : Int), .int .i64 (0 : Int), .string (⟨#[]⟩ : ByteArray)] : List Value).toArray (([0] : List Nat).zip [.agg ((range cs28 a27.off 5).toArray)])) fun cells29 =>
    let H30 := r25.2 ++ [.cells cells29.toList 5 true]
    some (.tuple #[.slice (some ⟨r25.2.length, 0, none⟩) 1 1, .slice none 0 0], H30))
    else none)
    | false => (onSome x0 fun a31 =>
    st 1 H12 (⟨a31.block, a31.off + 4, none⟩ : Addr) (.int .i64 x8) fun _ H32 =>
    onSome x0 fun a33 =>
    ldc H32 a33.block fun cs34 =>
    onSome cs34[(a33.off + 2)]? fun v35 =>
    kSl v35 fun a36 l37 c38 =>
    let H39 := H32 ++ [.cells [.pointer (some (⟨H9.length, 0, none⟩ : Addr))] 1 true]
    firstC H39 1 (.slice (some ⟨H32.length, 0, none⟩) 1 1) fun n40 nw41 =>
    app Tryz.prog 137 H39 (.slice a36 l37 c38) n40 nw41 fun v42 H43 =>
    kSl v42 fun a44 l45 c46 =>
    onSome x0 fun a47 =>
    st 1 H43 (⟨a47.block, a47.off + 2, none⟩ : Addr) (.slice a44 l45 c46) fun _ H48 =>
    onSome (F59 [.pointer x0] H48) fun r49 =>
    kTup r49.1 fun vs50 =>
    onSome vs50[0]? fun v51 =>
    kSl v51 fun a52 l53 c54 =>
    kTup r49.1 fun vs55 =>
    onSome vs55[1]? fun v56 =>
    kSl v56 fun a57 l58 c59 =>
    some (.tuple #[.slice a52 l53 c54, .slice a57 l58 c59], r49.2))))))))
    else none := by kernel_rfl
theorem c19_3 (m : Nat) (x0 : Option Addr) (H : Heap) : R19 (m + 1) td19_3 [.pointer x0] H =
    onSome (F58 [.pointer x0, .int .i64 (3 : Int)] H) fun r1 =>
    kPtr r1.1 fun p2 =>
    onSome p2 fun a3 =>
    ldc r1.2 a3.block fun cs4 =>
    if a3.off + 5 ≤ cs4.length then
    cellsOks [.agg ((range cs4 a3.off 5).toArray)] (onSome (Instr.fill (fun i => some (i * 5, 5)) ([.int .i64 (0 : Int), .int .i64 (0 : Int), .int .i64 (0 : Int), .int .i64 (0 : Int), .string (⟨#[]⟩ : ByteArray)] : List Value).toArray (([0] : List Nat).zip [.agg ((range cs4 a3.off 5).toArray)])) fun cells5 =>
    let H6 := r1.2 ++ [.cells cells5.toList 5 true]
    some (.tuple #[.slice (some ⟨r1.2.length, 0, none⟩) 1 1, .slice none 0 0], H6))
    else none := by kernel_rfl
-- WARN 19: build of an unknown part
-- (*sternpost/sock.Box).Waiting
noncomputable def G21 : Fs := Fs.ext G19 19 F19
theorem A21 : AllSound Tryz.prog G21 := AllSound.ext A19 S19
noncomputable def cuts21 : Cuts := [(100003, [3, 9, 10, 11])]
noncomputable def td21_100003 : List Item := todoOf Tryz.f21 100003
noncomputable def F21 : List Value → Heap → R := FN Tryz.prog G21 Tryz.f21 cuts21
theorem S21 : Sound Tryz.prog 21 F21 := FN_sound A21 Tryz.func21 (by kernel_rfl) (by kernel_rfl)
noncomputable abbrev R21 (m : Nat) : List Item → List Value → Heap → R := run Tryz.prog G21 Tryz.f21 cuts21 m
theorem t21 (m : Nat) (x0 : Option Addr) (H : Heap) : fnE Tryz.prog G21 Tryz.f21 cuts21 m [.pointer x0] H =
    onSome x0 fun a1 =>
    ldc H a1.block fun cs2 =>
    onSome cs2[(a1.off + 2)]? fun v3 =>
    kSl v3 fun a4 l5 c6 =>
    R21 m td21_100003 [.slice none 0 0, .slice a4 l5 c6, .int .i64 ((l5 : Nat) : Int), .int .i64 (0 : Int)] H := by kernel_rfl
theorem c21_100003 (m : Nat) (a0 : Option Addr) (l1 : Nat) (c2 : Nat) (a3 : Option Addr) (l4 : Nat) (c5 : Nat) (x6 : Int) (x7 : Int) (H : Heap) : R21 (m + 1) td21_100003 [.slice a0 l1 c2, .slice a3 l4 c5, .int .i64 x6, .int .i64 x7] H =
    (match (decide (x7 < x6)) with
    | true => (onSome a3 fun a8 =>
    if 0 ≤ x7 ∧ x7 < (l4 : Nat) then
    ldc H ((a8.add (x7.toNat * 1)).block) fun cs9 =>
    onSome cs9[(a8.add (x7.toNat * 1)).off]? fun v10 =>
    kPtr v10 fun p11 =>
    onSome p11 fun a12 =>
    ldc H a12.block fun cs13 =>
    onSome cs13[a12.off]? fun v14 =>
    kInt .i64 v14 fun n15 =>
    let H16 := H ++ [.cells [.int .i64 n15] 1 true]
    firstC H16 1 (.slice (some ⟨H.length, 0, none⟩) 1 1) fun n17 nw18 =>
    app Tryz.prog 3 H16 (.slice a0 l1 c2) n17 nw18 fun v19 H20 =>
    kSl v19 fun a21 l22 c23 =>
    R21 m td21_100003 [.slice a21 l22 c23, .slice a3 l4 c5, .int .i64 x6, .int .i64 (IntKind.i64.wrap (x7 + (1 : Int)))] H20
    else none)
    | false => (some (.slice a0 l1 c2, H))) := by kernel_rfl
-- sternpost/sternpostbook.SameInts
noncomputable def G36 : Fs := Fs.ext G21 21 F21
theorem A36 : AllSound Tryz.prog G36 := AllSound.ext A21 S21
noncomputable def cuts36 : Cuts := [(100004, [0, 1, 5])]
noncomputable def td36_100004 : List Item := todoOf Tryz.f36 100004
noncomputable def F36 : List Value → Heap → R := FN Tryz.prog G36 Tryz.f36 cuts36
theorem S36 : Sound Tryz.prog 36 F36 := FN_sound A36 Tryz.func36 (by kernel_rfl) (by kernel_rfl)
noncomputable abbrev R36 (m : Nat) : List Item → List Value → Heap → R := run Tryz.prog G36 Tryz.f36 cuts36 m
theorem t36 (m : Nat) (a0 : Option Addr) (l1 : Nat) (c2 : Nat) (a3 : Option Addr) (l4 : Nat) (c5 : Nat) (H : Heap) : fnE Tryz.prog G36 Tryz.f36 cuts36 m [.slice a0 l1 c2, .slice a3 l4 c5] H =
    (match (((l1 : Nat) : Int) != ((l4 : Nat) : Int)) with
    | true => (some (.bool false, H))
    | false => (R36 m td36_100004 [.slice a0 l1 c2, .slice a3 l4 c5, .int .i64 (0 : Int)] H)) := by kernel_rfl
theorem c36_100004 (m : Nat) (a0 : Option Addr) (l1 : Nat) (c2 : Nat) (a3 : Option Addr) (l4 : Nat) (c5 : Nat) (x6 : Int) (H : Heap) : R36 (m + 1) td36_100004 [.slice a0 l1 c2, .slice a3 l4 c5, .int .i64 x6] H =
    (match (decide (x6 < ((l1 : Nat) : Int))) with
    | true => (onSome a0 fun a7 =>
    if 0 ≤ x6 ∧ x6 < (l1 : Nat) then
    ldc H ((a7.add (x6.toNat * 1)).block) fun cs8 =>
    onSome cs8[(a7.add (x6.toNat * 1)).off]? fun v9 =>
    kInt .i64 v9 fun n10 =>
    onSome a3 fun a11 =>
    if 0 ≤ x6 ∧ x6 < (l4 : Nat) then
    ldc H ((a11.add (x6.toNat * 1)).block) fun cs12 =>
    onSome cs12[(a11.add (x6.toNat * 1)).off]? fun v13 =>
    kInt .i64 v13 fun n14 =>
    (match (n10 != n14) with
    | true => (some (.bool false, H))
    | false => (R36 m td36_100004 [.slice a0 l1 c2, .slice a3 l4 c5, .int .i64 (IntKind.i64.wrap (x6 + (1 : Int)))] H))
    else none
    else none)
    | false => (some (.bool true, H))) := by kernel_rfl
-- sternpost/sternpostlaw20.works
noncomputable def G17 : Fs := Fs.ext G36 36 F36
theorem A17 : AllSound Tryz.prog G17 := AllSound.ext A36 S36
noncomputable def cuts17 : Cuts := [(3, [])]
noncomputable def td17_3 : List Item := todoOf Tryz.f17 3
noncomputable def F17 : List Value → Heap → R := FN Tryz.prog G17 Tryz.f17 cuts17
theorem S17 : Sound Tryz.prog 17 F17 := FN_sound A17 Tryz.func17 (by kernel_rfl) (by kernel_rfl)
noncomputable abbrev R17 (m : Nat) : List Item → List Value → Heap → R := run Tryz.prog G17 Tryz.f17 cuts17 m
theorem t17 (m : Nat)  (H : Heap) : fnE Tryz.prog G17 Tryz.f17 cuts17 m [] H =
    onSome (F16 [] H) fun r0 =>
    kAgg r0.1 fun cs1 =>
    if cs1.size = 11 then
    onSome (F15 [.agg cs1, .int .i64 (11 : Int)] r0.2) fun r2 =>
    kTup r2.1 fun vs3 =>
    onSome vs3[0]? fun v4 =>
    kPtr v4 fun p5 =>
    kTup r2.1 fun vs6 =>
    onSome vs6[1]? fun v7 =>
    kInt .i64 v7 fun n8 =>
    (match p5.isNone with
    | true => (R17 m td17_3 [] r2.2)
    | false => ((match (n8 != (0 : Int)) with
    | true => (R17 m td17_3 [] r2.2)
    | false => (onSome (F19 [.pointer p5, .agg #[.int .i64 (5 : Int), .int .i64 (1 : Int), .int .i64 (0 : Int), .int .i64 (0 : Int), .int .i64 (80 : Int), .int .i64 (0 : Int), .string (⟨#[]⟩ : ByteArray)], .int .i64 (0 : Int)] r2.2) fun r9 =>
    kTup r9.1 fun vs10 =>
    onSome vs10[0]? fun v11 =>
    kSl v11 fun a12 l13 c14 =>
    kTup r9.1 fun vs15 =>
    onSome vs15[1]? fun v16 =>
    kSl v16 fun a17 l18 c19 =>
    onSome (F19 [.pointer p5, .agg #[.int .i64 (6 : Int), .int .i64 (2 : Int), .int .i64 (0 : Int), .int .i64 (0 : Int), .int .i64 (0 : Int), .int .i64 (0 : Int), .string (⟨#[]⟩ : ByteArray)], .int .i64 (0 : Int)] r9.2) fun r20 =>
    kTup r20.1 fun vs21 =>
    onSome vs21[0]? fun v22 =>
    kSl v22 fun a23 l24 c25 =>
    kTup r20.1 fun vs26 =>
    onSome vs26[1]? fun v27 =>
    kSl v27 fun a28 l29 c30 =>
    (match (((l13 : Nat) : Int) == (1 : Int)) with
    | true => (onSome a12 fun a31 =>
    if 0 ≤ (0 : Int) ∧ (0 : Int) < (l13 : Nat) then
    ldc r20.2 ((a31.add ((0 : Int).toNat * 5)).block) fun cs32 =>
    if (a31.add ((0 : Int).toNat * 5)).off + 5 ≤ cs32.length then
    eqv Tryz.prog 20 43 (.agg ((range cs32 ((a31.add ((0 : Int).toNat * 5)).off) 5).toArray)) (.agg #[.int .i64 (5 : Int), .int .i64 (0 : Int), .int .i64 (0 : Int), .int .i64 (0 : Int), .string (⟨#[]⟩ : ByteArray)]) fun r33 =>
    (match r33 with
    | true => ((match (((l24 : Nat) : Int) == (0 : Int)) with
    | true => (onSome (F21 [.pointer p5] r20.2) fun r34 =>
    kSl r34.1 fun a35 l36 c37 =>
    let H38 := r34.2 ++ [.cells [.int .i64 (6 : Int)] 1 true]
    onSome (F36 [.slice a35 l36 c37, .slice (some ⟨r34.2.length, 0, none⟩) 1 1] H38) fun r39 =>
    kBool r39.1 fun b40 =>
    some (.bool b40, r39.2))
    | false => (some (.bool false, r20.2))))
    | false => (some (.bool false, r20.2)))
    else none
    else none)
    | false => (some (.bool false, r20.2)))))))
    else none := by kernel_rfl
theorem c17_3 (m : Nat)  (H : Heap) : R17 (m + 1) td17_3 [] H =
    some (.bool false, H) := by kernel_rfl
-- sternpost/sternpostbook.Among
noncomputable def G18 : Fs := Fs.ext G17 17 F17
theorem A18 : AllSound Tryz.prog G18 := AllSound.ext A17 S17
noncomputable def cuts18 : Cuts := []
noncomputable def F18 : List Value → Heap → R := FN Tryz.prog G18 Tryz.f18 cuts18
theorem S18 : Sound Tryz.prog 18 F18 := FN_sound A18 Tryz.func18 (by kernel_rfl) (by kernel_rfl)
noncomputable abbrev R18 (m : Nat) : List Item → List Value → Heap → R := run Tryz.prog G18 Tryz.f18 cuts18 m
theorem t18 (m : Nat) (x0 : Int) (x1 : Int) (H : Heap) : fnE Tryz.prog G18 Tryz.f18 cuts18 m [.int .i64 x0, .int .i64 x1] H =
    if x1 = 0 then none else
    if x1 = 0 then none else
    some (.int .i64 ((IntKind.i64.wrap ((x0.tmod x1) + x1)).tmod x1), H) := by kernel_rfl
-- maps.Keys[map[int]sternpost/sock.socket,int,sternpost/sock.socket]
noncomputable def G61 : Fs := Fs.ext G18 18 F18
theorem A61 : AllSound Tryz.prog G61 := AllSound.ext A18 S18
noncomputable def cuts61 : Cuts := []
noncomputable def F61 : List Value → Heap → R := FN Tryz.prog G61 Tryz.f61 cuts61
theorem S61 : Sound Tryz.prog 61 F61 := FN_sound A61 Tryz.func61 (by kernel_rfl) (by kernel_rfl)
noncomputable abbrev R61 (m : Nat) : List Item → List Value → Heap → R := run Tryz.prog G61 Tryz.f61 cuts61 m
theorem t61 (m : Nat) (x0 : Option Nat) (H : Heap) : fnE Tryz.prog G61 Tryz.f61 cuts61 m [.map x0] H =
    let H1 := H ++ [.cells [.map x0] 140509184 true]
    some (.func (.func 115) #[] #[.pointer (some (⟨H.length, 0, none⟩ : Addr))], H1) := by kernel_rfl
-- (*sternpost/sock.Box).FDs
noncomputable def G20 : Fs := Fs.ext G61 61 F61
theorem A20 : AllSound Tryz.prog G20 := AllSound.ext A61 S61
noncomputable def cuts20 : Cuts := []
noncomputable def F20 : List Value → Heap → R := FN Tryz.prog G20 Tryz.f20 cuts20
theorem S20 : Sound Tryz.prog 20 F20 := FN_sound A20 Tryz.func20 (by kernel_rfl) (by kernel_rfl)
noncomputable abbrev R20 (m : Nat) : List Item → List Value → Heap → R := run Tryz.prog G20 Tryz.f20 cuts20 m
theorem t20 (m : Nat) (x0 : Option Addr) (H : Heap) : fnE Tryz.prog G20 Tryz.f20 cuts20 m [.pointer x0] H =
    onSome x0 fun a1 =>
    ldc H a1.block fun cs2 =>
    onSome cs2[(a1.off + 1)]? fun v3 =>
    kMp v3 fun r4 =>
    onSome (F61 [.map r4] H) fun r5 =>
    onSome (F60 [r5.1] r5.2) fun r6 =>
    kSl r6.1 fun a7 l8 c9 =>
    some (.slice a7 l8 c9, r6.2) := by kernel_rfl
-- sternpost/sternpostlaw20.SockNumbers
noncomputable def G3 : Fs := Fs.ext G20 20 F20
theorem A3 : AllSound Tryz.prog G3 := AllSound.ext A20 S20
noncomputable def cuts3 : Cuts := [(100007, [0, 3, 5, 6, 7]), (100016, [0, 3, 5, 6, 7, 8, 9, 11]), (8, [0, 3, 5, 6, 7]), (27, [0, 3, 5, 6, 7, 12]), (24, []), (25, [0, 3, 5, 6, 7, 12]), (13, []), (14, [0, 3, 5, 6, 7, 8, 9]), (28, [3, 5]), (3, [])]
noncomputable def td3_100007 : List Item := todoOf Tryz.f3 100007
noncomputable def td3_100016 : List Item := todoOf Tryz.f3 100016
noncomputable def td3_8 : List Item := todoOf Tryz.f3 8
noncomputable def td3_27 : List Item := todoOf Tryz.f3 27
noncomputable def td3_24 : List Item := todoOf Tryz.f3 24
noncomputable def td3_25 : List Item := todoOf Tryz.f3 25
noncomputable def td3_13 : List Item := todoOf Tryz.f3 13
noncomputable def td3_14 : List Item := todoOf Tryz.f3 14
noncomputable def td3_28 : List Item := todoOf Tryz.f3 28
noncomputable def td3_3 : List Item := todoOf Tryz.f3 3
noncomputable def F3 : List Value → Heap → R := FN Tryz.prog G3 Tryz.f3 cuts3
theorem S3 : Sound Tryz.prog 3 F3 := FN_sound A3 Tryz.func3 (by kernel_rfl) (by kernel_rfl)
noncomputable abbrev R3 (m : Nat) : List Item → List Value → Heap → R := run Tryz.prog G3 Tryz.f3 cuts3 m
theorem t3 (m : Nat) (a0 : Option Addr) (l1 : Nat) (c2 : Nat) (H : Heap) : fnE Tryz.prog G3 Tryz.f3 cuts3 m [.slice a0 l1 c2] H =
    onSome (F16 [] H) fun r3 =>
    kAgg r3.1 fun cs4 =>
    if cs4.size = 11 then
    onSome (F15 [.agg cs4, .int .i64 (11 : Int)] r3.2) fun r5 =>
    kTup r5.1 fun vs6 =>
    onSome vs6[0]? fun v7 =>
    kPtr v7 fun p8 =>
    kTup r5.1 fun vs9 =>
    onSome vs9[1]? fun v10 =>
    kInt .i64 v10 fun n11 =>
    (match p8.isNone with
    | true => (R3 m td3_3 [] r5.2)
    | false => ((match (n11 != (0 : Int)) with
    | true => (R3 m td3_3 [] r5.2)
    | false => (onSome (F17 [] r5.2) fun r12 =>
    kBool r12.1 fun b13 =>
    (match (!b13) with
    | true => (R3 m td3_3 [] r12.2)
    | false => (let H14 := r12.2 ++ [.map []]
    let H15 := H14 ++ [.map []]
    R3 m td3_100007 [.slice a0 l1 c2, .pointer p8, .map (some r12.2.length), .map (some H14.length), .int .i64 (0 : Int)] H15))))))
    else none := by kernel_rfl
theorem c3_3 (m : Nat)  (H : Heap) : R3 (m + 1) td3_3 [] H =
    some (.bool false, H) := by kernel_rfl
theorem c3_8 (m : Nat) (a0 : Option Addr) (l1 : Nat) (c2 : Nat) (x3 : Option Addr) (x4 : Option Nat) (x5 : Option Nat) (x6 : Int) (H : Heap) : R3 (m + 1) td3_8 [.slice a0 l1 c2, .pointer x3, .map x4, .map x5, .int .i64 x6] H =
    R3 m td3_100007 [.slice a0 l1 c2, .pointer x3, .map x4, .map x5, .int .i64 (IntKind.i64.wrap (x6 + (1 : Int)))] H := by kernel_rfl
theorem c3_13 (m : Nat)  (H : Heap) : R3 (m + 1) td3_13 [] H =
    some (.bool false, H) := by kernel_rfl
theorem c3_14 (m : Nat) (a0 : Option Addr) (l1 : Nat) (c2 : Nat) (x3 : Option Addr) (x4 : Option Nat) (x5 : Option Nat) (x6 : Int) (x7 : Int) (a8 : Option Addr) (l9 : Nat) (c10 : Nat) (H : Heap) : R3 (m + 1) td3_14 [.slice a0 l1 c2, .pointer x3, .map x4, .map x5, .int .i64 x6, .int .i64 x7, .slice a8 l9 c10] H =
    lookupK Tryz.prog 34 H (.map x5) (.int .i64 x7) false fun v11 =>
    kBool v11 fun b12 =>
    (match b12 with
    | true => (R3 m td3_8 [.slice a0 l1 c2, .pointer x3, .map x4, .map x5, .int .i64 x6] H)
    | false => (R3 m td3_100016 [.slice a0 l1 c2, .pointer x3, .map x4, .map x5, .int .i64 x6, .int .i64 x7, .slice a8 l9 c10, .int .i64 (0 : Int)] H)) := by kernel_rfl
theorem c3_24 (m : Nat)  (H : Heap) : R3 (m + 1) td3_24 [] H =
    some (.bool false, H) := by kernel_rfl
theorem c3_25 (m : Nat) (a0 : Option Addr) (l1 : Nat) (c2 : Nat) (x3 : Option Addr) (x4 : Option Nat) (x5 : Option Nat) (x6 : Int) (x7 : Int) (H : Heap) : R3 (m + 1) td3_25 [.slice a0 l1 c2, .pointer x3, .map x4, .map x5, .int .i64 x6, .int .i64 x7] H =
    lookupK Tryz.prog 33 H (.map x4) (.int .i64 x7) false fun v8 =>
    kInt .i64 v8 fun n9 =>
    (match (n9 != (0 : Int)) with
    | true => (lookupK Tryz.prog 33 H (.map x4) (.int .i64 x7) false fun v10 =>
    kInt .i64 v10 fun n11 =>
    onSome x5 fun q12 =>
    mupd H q12 (.int .i64 (IntKind.i64.wrap (n11 - (100 : Int)))) (.bool false) fun H13 =>
    R3 m td3_27 [.slice a0 l1 c2, .pointer x3, .map x4, .map x5, .int .i64 x6, .int .i64 x7] H13)
    | false => (R3 m td3_27 [.slice a0 l1 c2, .pointer x3, .map x4, .map x5, .int .i64 x6, .int .i64 x7] H)) := by kernel_rfl
theorem c3_27 (m : Nat) (a0 : Option Addr) (l1 : Nat) (c2 : Nat) (x3 : Option Addr) (x4 : Option Nat) (x5 : Option Nat) (x6 : Int) (x7 : Int) (H : Heap) : R3 (m + 1) td3_27 [.slice a0 l1 c2, .pointer x3, .map x4, .map x5, .int .i64 x6, .int .i64 x7] H =
    dele H x4 (.int .i64 x7) fun H8 =>
    R3 m td3_8 [.slice a0 l1 c2, .pointer x3, .map x4, .map x5, .int .i64 x6] H8 := by kernel_rfl
theorem c3_28 (m : Nat) (x0 : Option Addr) (x1 : Option Nat) (H : Heap) : R3 (m + 1) td3_28 [.pointer x0, .map x1] H =
    onSome (F20 [.pointer x0] H) fun r2 =>
    kSl r2.1 fun a3 l4 c5 =>
    ldmo r2.2 x1 fun es6 =>
    (match (((l4 : Nat) : Int) == (es6.length : Int)) with
    | true => (onSome (F21 [.pointer x0] r2.2) fun r7 =>
    kSl r7.1 fun a8 l9 c10 =>
    some (.bool (((l9 : Nat) : Int) == (0 : Int)), r7.2))
    | false => (some (.bool false, r2.2))) := by kernel_rfl
theorem c3_100007 (m : Nat) (a0 : Option Addr) (l1 : Nat) (c2 : Nat) (x3 : Option Addr) (x4 : Option Nat) (x5 : Option Nat) (x6 : Int) (H : Heap) : R3 (m + 1) td3_100007 [.slice a0 l1 c2, .pointer x3, .map x4, .map x5, .int .i64 x6] H =
    (match (decide (x6 < ((l1 : Nat) : Int))) with
    | true => ((match (decide (x6 < (30 : Int))) with
    | true => (onSome a0 fun a7 =>
    if 0 ≤ x6 ∧ x6 < (l1 : Nat) then
    ldc H ((a7.add (x6.toNat * 1)).block) fun cs8 =>
    onSome cs8[(a7.add (x6.toNat * 1)).off]? fun v9 =>
    kInt .i64 v9 fun n10 =>
    onSome (F18 [.int .i64 n10, .int .i64 (12 : Int)] H) fun r11 =>
    kInt .i64 r11.1 fun n12 =>
    (match (decide (n12 < (6 : Int))) with
    | true => (onSome (F19 [.pointer x3, .agg #[.int .i64 x6, .int .i64 (1 : Int), .int .i64 (0 : Int), .int .i64 (0 : Int), .int .i64 (IntKind.i64.wrap ((100 : Int) + n12)), .int .i64 (0 : Int), .string (⟨#[]⟩ : ByteArray)], .int .i64 x6] r11.2) fun r13 =>
    kTup r13.1 fun vs14 =>
    onSome vs14[0]? fun v15 =>
    kSl v15 fun a16 l17 c18 =>
    kTup r13.1 fun vs19 =>
    onSome vs19[1]? fun v20 =>
    kSl v20 fun a21 l22 c23 =>
    (match (((l17 : Nat) : Int) != (1 : Int)) with
    | true => (R3 m td3_13 [] r13.2)
    | false => (onSome a16 fun a24 =>
    if 0 ≤ (0 : Int) ∧ (0 : Int) < (l17 : Nat) then
    ldc r13.2 ((a24.add ((0 : Int).toNat * 5)).block) fun cs25 =>
    onSome cs25[((a24.add ((0 : Int).toNat * 5)).off + 1)]? fun v26 =>
    kInt .i64 v26 fun n27 =>
    lookupK Tryz.prog 34 r13.2 (.map x5) (.int .i64 n12) false fun v28 =>
    kBool v28 fun b29 =>
    (match (x5 : Option Nat) with
    | some blk30 => ((match (!((n27 == (0 : Int)) == (!b29))) with
    | true => (R3 m td3_13 [] r13.2)
    | false => (onSome a16 fun a31 =>
    if 0 ≤ (0 : Int) ∧ (0 : Int) < (l17 : Nat) then
    ldc r13.2 ((a31.add ((0 : Int).toNat * 5)).block) fun cs32 =>
    onSome cs32[((a31.add ((0 : Int).toNat * 5)).off + 1)]? fun v33 =>
    kInt .i64 v33 fun n34 =>
    (match (n34 != (0 : Int)) with
    | true => (onSome a16 fun a35 =>
    if 0 ≤ (0 : Int) ∧ (0 : Int) < (l17 : Nat) then
    ldc r13.2 ((a35.add ((0 : Int).toNat * 5)).block) fun cs36 =>
    onSome cs36[((a35.add ((0 : Int).toNat * 5)).off + 1)]? fun v37 =>
    kInt .i64 v37 fun n38 =>
    (match (n38 != (190 : Int)) with
    | true => (R3 m td3_13 [] r13.2)
    | false => (R3 m td3_14 [.slice a0 l1 c2, .pointer x3, .map x4, .map x5, .int .i64 x6, .int .i64 n12, .slice a16 l17 c18] r13.2))
    else none)
    | false => (R3 m td3_14 [.slice a0 l1 c2, .pointer x3, .map x4, .map x5, .int .i64 x6, .int .i64 n12, .slice a16 l17 c18] r13.2))
    else none)))
    | none => ((match (!((n27 == (0 : Int)) == (!b29))) with
    | true => (R3 m td3_13 [] r13.2)
    | false => (onSome a16 fun a39 =>
    if 0 ≤ (0 : Int) ∧ (0 : Int) < (l17 : Nat) then
    ldc r13.2 ((a39.add ((0 : Int).toNat * 5)).block) fun cs40 =>
    onSome cs40[((a39.add ((0 : Int).toNat * 5)).off + 1)]? fun v41 =>
    kInt .i64 v41 fun n42 =>
    (match (n42 != (0 : Int)) with
    | true => (onSome a16 fun a43 =>
    if 0 ≤ (0 : Int) ∧ (0 : Int) < (l17 : Nat) then
    ldc r13.2 ((a43.add ((0 : Int).toNat * 5)).block) fun cs44 =>
    onSome cs44[((a43.add ((0 : Int).toNat * 5)).off + 1)]? fun v45 =>
    kInt .i64 v45 fun n46 =>
    (match (n46 != (190 : Int)) with
    | true => (R3 m td3_13 [] r13.2)
    | false => (R3 m td3_14 [.slice a0 l1 c2, .pointer x3, .map x4, .map x5, .int .i64 x6, .int .i64 n12, .slice a16 l17 c18] r13.2))
    else none)
    | false => (R3 m td3_14 [.slice a0 l1 c2, .pointer x3, .map x4, .map x5, .int .i64 x6, .int .i64 n12, .slice a16 l17 c18] r13.2))
    else none))))
    else none)))
    | false => (onSome (F19 [.pointer x3, .agg #[.int .i64 x6, .int .i64 (7 : Int), .int .i64 (IntKind.i64.wrap (n12 - (6 : Int))), .int .i64 (0 : Int), .int .i64 (0 : Int), .int .i64 (0 : Int), .string (⟨#[]⟩ : ByteArray)], .int .i64 x6] r11.2) fun r47 =>
    kTup r47.1 fun vs48 =>
    onSome vs48[0]? fun v49 =>
    kSl v49 fun a50 l51 c52 =>
    kTup r47.1 fun vs53 =>
    onSome vs53[1]? fun v54 =>
    kSl v54 fun a55 l56 c57 =>
    (match (((l51 : Nat) : Int) != (1 : Int)) with
    | true => (R3 m td3_24 [] r47.2)
    | false => (onSome a50 fun a58 =>
    if 0 ≤ (0 : Int) ∧ (0 : Int) < (l51 : Nat) then
    ldc r47.2 ((a58.add ((0 : Int).toNat * 5)).block) fun cs59 =>
    onSome cs59[((a58.add ((0 : Int).toNat * 5)).off + 1)]? fun v60 =>
    kInt .i64 v60 fun n61 =>
    lookupK Tryz.prog 33 r47.2 (.map x4) (.int .i64 (IntKind.i64.wrap (n12 - (6 : Int)))) false fun v62 =>
    kInt .i64 v62 fun n63 =>
    (match (x4 : Option Nat) with
    | some blk64 => ((match (!((n61 == (0 : Int)) == (n63 != (0 : Int)))) with
    | true => (R3 m td3_24 [] r47.2)
    | false => (onSome a50 fun a65 =>
    if 0 ≤ (0 : Int) ∧ (0 : Int) < (l51 : Nat) then
    ldc r47.2 ((a65.add ((0 : Int).toNat * 5)).block) fun cs66 =>
    onSome cs66[((a65.add ((0 : Int).toNat * 5)).off + 1)]? fun v67 =>
    kInt .i64 v67 fun n68 =>
    (match (n68 != (0 : Int)) with
    | true => (onSome a50 fun a69 =>
    if 0 ≤ (0 : Int) ∧ (0 : Int) < (l51 : Nat) then
    ldc r47.2 ((a69.add ((0 : Int).toNat * 5)).block) fun cs70 =>
    onSome cs70[((a69.add ((0 : Int).toNat * 5)).off + 1)]? fun v71 =>
    kInt .i64 v71 fun n72 =>
    (match (n72 != (5 : Int)) with
    | true => (R3 m td3_24 [] r47.2)
    | false => (R3 m td3_25 [.slice a0 l1 c2, .pointer x3, .map x4, .map x5, .int .i64 x6, .int .i64 (IntKind.i64.wrap (n12 - (6 : Int)))] r47.2))
    else none)
    | false => (R3 m td3_25 [.slice a0 l1 c2, .pointer x3, .map x4, .map x5, .int .i64 x6, .int .i64 (IntKind.i64.wrap (n12 - (6 : Int)))] r47.2))
    else none)))
    | none => ((match (!((n61 == (0 : Int)) == (n63 != (0 : Int)))) with
    | true => (R3 m td3_24 [] r47.2)
    | false => (onSome a50 fun a73 =>
    if 0 ≤ (0 : Int) ∧ (0 : Int) < (l51 : Nat) then
    ldc r47.2 ((a73.add ((0 : Int).toNat * 5)).block) fun cs74 =>
    onSome cs74[((a73.add ((0 : Int).toNat * 5)).off + 1)]? fun v75 =>
    kInt .i64 v75 fun n76 =>
    (match (n76 != (0 : Int)) with
    | true => (onSome a50 fun a77 =>
    if 0 ≤ (0 : Int) ∧ (0 : Int) < (l51 : Nat) then
    ldc r47.2 ((a77.add ((0 : Int).toNat * 5)).block) fun cs78 =>
    onSome cs78[((a77.add ((0 : Int).toNat * 5)).off + 1)]? fun v79 =>
    kInt .i64 v79 fun n80 =>
    (match (n80 != (5 : Int)) with
    | true => (R3 m td3_24 [] r47.2)
    | false => (R3 m td3_25 [.slice a0 l1 c2, .pointer x3, .map x4, .map x5, .int .i64 x6, .int .i64 (IntKind.i64.wrap (n12 - (6 : Int)))] r47.2))
    else none)
    | false => (R3 m td3_25 [.slice a0 l1 c2, .pointer x3, .map x4, .map x5, .int .i64 x6, .int .i64 (IntKind.i64.wrap (n12 - (6 : Int)))] r47.2))
    else none))))
    else none))))
    else none)
    | false => (R3 m td3_28 [.pointer x3, .map x4] H)))
    | false => (R3 m td3_28 [.pointer x3, .map x4] H)) := by kernel_rfl
theorem c3_100016 (m : Nat) (a0 : Option Addr) (l1 : Nat) (c2 : Nat) (x3 : Option Addr) (x4 : Option Nat) (x5 : Option Nat) (x6 : Int) (x7 : Int) (a8 : Option Addr) (l9 : Nat) (c10 : Nat) (x11 : Int) (H : Heap) : R3 (m + 1) td3_100016 [.slice a0 l1 c2, .pointer x3, .map x4, .map x5, .int .i64 x6, .int .i64 x7, .slice a8 l9 c10, .int .i64 x11] H =
    lookupK Tryz.prog 33 H (.map x4) (.int .i64 x11) false fun v12 =>
    kInt .i64 v12 fun n13 =>
    (match (n13 != (0 : Int)) with
    | true => (R3 m td3_100016 [.slice a0 l1 c2, .pointer x3, .map x4, .map x5, .int .i64 x6, .int .i64 x7, .slice a8 l9 c10, .int .i64 (IntKind.i64.wrap (x11 + (1 : Int)))] H)
    | false => (onSome a8 fun a14 =>
    if 0 ≤ (0 : Int) ∧ (0 : Int) < (l9 : Nat) then
    ldc H ((a14.add ((0 : Int).toNat * 5)).block) fun cs15 =>
    onSome cs15[((a14.add ((0 : Int).toNat * 5)).off + 2)]? fun v16 =>
    kInt .i64 v16 fun n17 =>
    (match (n17 != x11) with
    | true => (some (.bool false, H))
    | false => (onSome x4 fun q18 =>
    mupd H q18 (.int .i64 x11) (.int .i64 (IntKind.i64.wrap ((100 : Int) + x7))) fun H19 =>
    onSome x5 fun q20 =>
    mupd H19 q20 (.int .i64 x7) (.bool true) fun H21 =>
    R3 m td3_8 [.slice a0 l1 c2, .pointer x3, .map x4, .map x5, .int .i64 x6] H21))
    else none)) := by kernel_rfl
end Go.Proofs.YtlpeldimmaajkaaGreat
