/- PRINTED by a program of the session (Pm.lean): functions of the program as texts, for concrete runs, each checked by the kernel. Conditions: none. -/
import Derived.Test.YtgnkjpbecgpjoaaGreatDoorFx4
import Derived.Test.YtgnkjpbecgpjoaaGreatDoorProg
set_option linter.unusedVariables false
set_option linter.unusedSimpArgs false
namespace Go.Proofs.YtgnkjpbecgpjoaaGreatDoor
open Go Go.Proofs.YtgnkjpbecgpjoaaGreatDoor.Fw Go.RowKit
-- sternpost/sternposttop.plain
noncomputable def X6 : List Value → M := fun args => match args with
 | [x0, x1, x2] => 
 .new (.cells [.int .i64 (0 : Int), .int .i64 (0 : Int), .int .i64 (0 : Int), .int .i64 (0 : Int), .int .i64 (0 : Int), .int .i64 (0 : Int), .int .i64 (0 : Int), .int .i64 (0 : Int)] 0 true) fun b3 =>
 .st 8 (⟨b3, 0, none⟩ : Addr) (.agg #[.int .i64 (60 : Int), .int .i64 (300 : Int), .int .i64 (1 : Int), .int .i64 (8 : Int), .int .i64 (4 : Int), .int .i64 (40 : Int), .int .i64 (30 : Int), .int .i64 (10 : Int)]) (
 .cellsOks [x1, .int .i64 (500 : Int), .int .i64 (4 : Int), .int .i64 (9 : Int), .int .i64 (30 : Int)] (.onS (Program.built Tryz.prog 73 (([0, 1, 2, 3, 4] : List Nat).zip [x1, .int .i64 (500 : Int), .int .i64 (4 : Int), .int .i64 (9 : Int), .int .i64 (30 : Int)])) fun cells5q =>
 .fxV (.agg cells5q) fun cells5v =>
 .kAgg cells5v fun cells5 =>
 .ldn b3 0 8 fun cs6 =>
 .cellsOks [.agg cs6, x0, .int .i64 (4 : Int), .int .i64 (9 : Int)] (.onS (Program.built Tryz.prog 75 (([0, 1, 2, 3] : List Nat).zip [.agg cs6, x0, .int .i64 (4 : Int), .int .i64 (9 : Int)])) fun cells7q =>
 .fxV (.agg cells7q) fun cells7v =>
 .kAgg cells7v fun cells7 =>
 .cellsOks [x1, x0, x2, .agg cells5, .int .i64 (4 : Int), .int .i64 (30 : Int), .agg cells7] (.onS (Program.built Tryz.prog 77 (([0, 1, 2, 3, 4, 5, 6] : List Nat).zip [x1, x0, x2, .agg cells5, .int .i64 (4 : Int), .int .i64 (30 : Int), .agg cells7])) fun cells8q =>
 .fxV (.agg cells8q) fun cells8v =>
 .kAgg cells8v fun cells8 =>
 .call 17 [.agg cells8] fun r9 =>
 .kTup r9 fun vs10 =>
 .nthA vs10 0 fun v11 =>
 .kPtr v11 fun p12 =>
 .kTup r9 fun vs13 =>
 .nthA vs13 1 fun v14 =>
 .tyI .i64 v14 fun v15 =>
 .cmpV .neq .i64 v15 (.int .i64 (0 : Int)) fun t16 =>
 .bool t16 (
 .ret (.pointer none)) (
 .ret (.pointer p12))))))
 | _ => .fail
noncomputable def cuts6 : Cuts := []
noncomputable def L6 : Places := []
noncomputable def k6 : FCode := .of X6 L6 cuts6
theorem h6 : XOk Tryz.prog Tryz.f6 cuts6 L6 X6 := by
  intro Γ m args H r h; unfold X6 at h; split at h
  · exact ⟨Eq.trans (by kernel_rfl) h, Nat.le_of_ble_eq_true (by kernel_rfl)⟩
  · exact M.iFail h
theorem K6 : CodeOk Tryz.prog 6 k6 := .of Tryz.func6 (by kernel_rfl) (by kernel_rfl) h6 fe
-- WARN 6: build of an unknown part
-- (*sternpost/host.Host).Ping
noncomputable def X7 : List Value → M := fun args => match args with
 | [v0, x1, x2, x3, x4] => .kPtr v0 fun x0 => 
 .call 18 [x1] fun r5 =>
 .tyI .i64 r5 fun v6 =>
 .cmpV .neq .i64 v6 (.int .i64 (0 : Int)) fun t7 =>
 .bool t7 (
 .jmp 2 []) (
 .tyI .i64 x2 fun v8 =>
 .mmV false .i64 v8 x3 fun v9 =>
 .cmpV .lss .i64 v9 (.int .i64 (0 : Int)) fun t10 =>
 .bool t10 (
 .jmp 2 []) (
 .tyI .i64 x2 fun v11 =>
 .mmV true .i64 v11 x3 fun v12 =>
 .cmpV .gtr .i64 v12 (.int .i64 (65535 : Int)) fun t13 =>
 .bool t13 (
 .jmp 2 []) (
 .call 19 [.pointer x0, x4] fun r14 =>
 .kBool r14 fun b15 =>
 .bool (!b15) (
 .jmp 2 []) (
 .onS x0 fun a16 =>
 .ld a16.block (a16.off + 1) fun v17 =>
 .tyI .i64 v17 fun v18 =>
 .cellsOks [.int .i64 (8 : Int), x2, x3] (.onS (Program.built Tryz.prog 42 (([0, 2, 3] : List Nat).zip [.int .i64 (8 : Int), x2, x3])) fun cells19q =>
 .fxV (.agg cells19q) fun cells19v =>
 .kAgg cells19v fun cells19 =>
 .call 20 [.pointer x0, v18, x1, .agg cells19] fun r20 =>
 .call 21 [.pointer x0] fun r21 =>
 .kTup r21 fun vs22 =>
 .nthA vs22 0 fun v23 =>
 .kSl v23 fun a24 l25 c26 =>
 .kTup r21 fun vs27 =>
 .nthA vs27 1 fun v28 =>
 .kSl v28 fun a29 l30 c31 =>
 .ret (.slice a29 l30 c31))))))
 | _ => .fail
noncomputable def X7_2 : List Value → M := fun args => match args with
 | [] => 
 .ret (.slice none 0 0)
 | _ => .fail
noncomputable def cuts7 : Cuts := [(2, [])]
noncomputable def L7 : Places := [(2, X7_2, todoOf Tryz.f7 2)]
noncomputable def k7 : FCode := .of X7 L7 cuts7
theorem o7_2 : OOk Tryz.prog Tryz.f7 cuts7 L7 (2, X7_2, todoOf Tryz.f7 2) := by
  intro vs Γ m H r h; replace h : (X7_2 vs).run _ _ _ _ = _ := h; unfold X7_2 at h; split at h
  · exact Eq.trans (by kernel_rfl) h
  · exact M.iFail h
theorem h7 : XOk Tryz.prog Tryz.f7 cuts7 L7 X7 := by
  intro Γ m args H r h; unfold X7 at h; split at h
  · replace h := M.iPtr h; obtain ⟨_, rfl, h⟩ := h; exact ⟨Eq.trans (by kernel_rfl) h, Nat.le_of_ble_eq_true (by kernel_rfl)⟩
  · exact M.iFail h
theorem K7 : CodeOk Tryz.prog 7 k7 := .of Tryz.func7 (by kernel_rfl) (by kernel_rfl) h7 (fc o7_2 fe)
-- WARN 7: build of an unknown part
-- (*sternpost/host.Host).Frame
noncomputable def X8 : List Value → M := fun args => match args with
 | [v0, v1, x2] => .kPtr v0 fun x0 => .kStr v1 fun x1 => 
 .call 22 [.string x1] fun r3 =>
 .kTup r3 fun vs4 =>
 .nthA vs4 0 fun v5 =>
 .kAgg v5 fun cs6 =>
 .ite (cs6.size = 4) (
 .kTup r3 fun vs7 =>
 .nthA vs7 1 fun v8 =>
 .tyI .i64 v8 fun v9 =>
 .new (.cells [.int .i64 (0 : Int), .int .i64 (0 : Int), .int .i64 (0 : Int), .string (⟨#[]⟩ : ByteArray)] 0 true) fun b10 =>
 .st 4 (⟨b10, 0, none⟩ : Addr) (.agg cs6) (
 .cmpV .neq .i64 v9 (.int .i64 (0 : Int)) fun t12 =>
 .bool t12 (
 .jmp 3 []) (
 .ldn b10 0 4 fun cs13 =>
 .onS x0 fun a14 =>
 .ld a14.block a14.off fun v15 =>
 .tyI .i64 v15 fun v16 =>
 .cellsOks [v16] (.onS (Instr.fill (fun i => some (i * 1, 1)) ([.int .i64 (0 : Int)] : List Value).toArray (([0] : List Nat).zip [v16])) fun cells17q =>
 .fxV (.agg cells17q) fun cells17v =>
 .kAgg cells17v fun cells17 =>
 .new (.cells cells17.toList 1 true) fun b18 =>
 .call 23 [.agg cs13, .slice (some ⟨b18, 0, none⟩) 1 1] fun r19 =>
 .kBool r19 fun b20 =>
 .bool (!b20) (
 .jmp 3 []) (
 .call 19 [.pointer x0, x2] fun r21 =>
 .kBool r21 fun b22 =>
 .bool (!b22) (
 .jmp 3 []) (
 .jmp 4 [.pointer x0, .pointer (some (⟨b10, 0, none⟩ : Addr))]))))))
 | _ => .fail
noncomputable def X8_3 : List Value → M := fun args => match args with
 | [] => 
 .ret (.tuple #[.slice none 0 0, .slice none 0 0])
 | _ => .fail
noncomputable def X8_4 : List Value → M := fun args => match args with
 | [v0, v1] => .kPtr v0 fun x0 => .kPtr v1 fun x1 => 
 .onS x1 fun a2 =>
 .ld a2.block (a2.off + 2) fun v3 =>
 .tyI .i64 v3 fun v4 =>
 .cmpV .eql .i64 v4 (.int .i64 (2054 : Int)) fun t5 =>
 .bool t5 (
 .onS x1 fun a6 =>
 .ld a6.block (a6.off + 3) fun v7 =>
 .kStr v7 fun s8 =>
 .call 24 [.string s8] fun r9 =>
 .kTup r9 fun vs10 =>
 .nthA vs10 0 fun v11 =>
 .kAgg v11 fun cs12 =>
 .ite (cs12.size = 5) (
 .kTup r9 fun vs13 =>
 .nthA vs13 1 fun v14 =>
 .tyI .i64 v14 fun v15 =>
 .new (.cells [.int .i64 (0 : Int), .int .i64 (0 : Int), .int .i64 (0 : Int), .int .i64 (0 : Int), .int .i64 (0 : Int)] 0 true) fun b16 =>
 .st 5 (⟨b16, 0, none⟩ : Addr) (.agg cs12) (
 .cmpV .eql .i64 v15 (.int .i64 (0 : Int)) fun t18 =>
 .bool t18 (
 .ldn b16 0 5 fun cs19 =>
 .call 25 [.pointer x0, .agg cs19] fun r20 =>
 .jmp 13 [.pointer x0]) (
 .jmp 13 [.pointer x0])))) (
 .cmpV .eql .i64 v4 (.int .i64 (2048 : Int)) fun t21 =>
 .bool t21 (
 .onS x1 fun a22 =>
 .ld a22.block (a22.off + 3) fun v23 =>
 .kStr v23 fun s24 =>
 .call 26 [.string s24] fun r25 =>
 .kTup r25 fun vs26 =>
 .nthA vs26 0 fun v27 =>
 .kAgg v27 fun cs28 =>
 .ite (cs28.size = 10) (
 .kTup r25 fun vs29 =>
 .nthA vs29 1 fun v30 =>
 .tyI .i64 v30 fun v31 =>
 .new (.cells [.int .i64 (0 : Int), .int .i64 (0 : Int), .int .i64 (0 : Int), .int .i64 (0 : Int), .int .i64 (0 : Int), .int .i64 (0 : Int), .bool false, .bool false, .string (⟨#[]⟩ : ByteArray), .string (⟨#[]⟩ : ByteArray)] 0 true) fun b32 =>
 .st 10 (⟨b32, 0, none⟩ : Addr) (.agg cs28) (
 .cmpV .eql .i64 v31 (.int .i64 (0 : Int)) fun t34 =>
 .bool t34 (
 .ld b32 (0 + 1) fun v35 =>
 .tyI .i64 v35 fun v36 =>
 .call 27 [.pointer x0, v36] fun r37 =>
 .kBool r37 fun b38 =>
 .bool b38 (
 .ldn b32 0 10 fun cs39 =>
 .call 28 [.pointer x0, .agg cs39] fun r40 =>
 .jmp 13 [.pointer x0]) (
 .jmp 13 [.pointer x0])) (
 .jmp 13 [.pointer x0])))) (
 .jmp 13 [.pointer x0]))
 | _ => .fail
noncomputable def X8_13 : List Value → M := fun args => match args with
 | [v0] => .kPtr v0 fun x0 => 
 .call 21 [.pointer x0] fun r1 =>
 .kTup r1 fun vs2 =>
 .nthA vs2 0 fun v3 =>
 .kSl v3 fun a4 l5 c6 =>
 .kTup r1 fun vs7 =>
 .nthA vs7 1 fun v8 =>
 .kSl v8 fun a9 l10 c11 =>
 .ret (.tuple #[.slice a4 l5 c6, .slice a9 l10 c11])
 | _ => .fail
noncomputable def cuts8 : Cuts := [(13, [0]), (3, []), (4, [0, 8])]
noncomputable def L8 : Places := [(3, X8_3, todoOf Tryz.f8 3), (4, X8_4, todoOf Tryz.f8 4), (13, X8_13, todoOf Tryz.f8 13)]
noncomputable def k8 : FCode := .of X8 L8 cuts8
theorem o8_3 : OOk Tryz.prog Tryz.f8 cuts8 L8 (3, X8_3, todoOf Tryz.f8 3) := by
  intro vs Γ m H r h; replace h : (X8_3 vs).run _ _ _ _ = _ := h; unfold X8_3 at h; split at h
  · exact Eq.trans (by kernel_rfl) h
  · exact M.iFail h
theorem o8_4 : OOk Tryz.prog Tryz.f8 cuts8 L8 (4, X8_4, todoOf Tryz.f8 4) := by
  intro vs Γ m H r h; replace h : (X8_4 vs).run _ _ _ _ = _ := h; unfold X8_4 at h; split at h
  · replace h := M.iPtr h; obtain ⟨_, rfl, h⟩ := h; replace h := M.iPtr h; obtain ⟨_, rfl, h⟩ := h; exact Eq.trans (by kernel_rfl) h
  · exact M.iFail h
theorem o8_13 : OOk Tryz.prog Tryz.f8 cuts8 L8 (13, X8_13, todoOf Tryz.f8 13) := by
  intro vs Γ m H r h; replace h : (X8_13 vs).run _ _ _ _ = _ := h; unfold X8_13 at h; split at h
  · replace h := M.iPtr h; obtain ⟨_, rfl, h⟩ := h; exact Eq.trans (by kernel_rfl) h
  · exact M.iFail h
theorem h8 : XOk Tryz.prog Tryz.f8 cuts8 L8 X8 := by
  intro Γ m args H r h; unfold X8 at h; split at h
  · replace h := M.iPtr h; obtain ⟨_, rfl, h⟩ := h; replace h := M.iStr h; obtain ⟨_, rfl, h⟩ := h; exact ⟨Eq.trans (by kernel_rfl) h, Nat.le_of_ble_eq_true (by kernel_rfl)⟩
  · exact M.iFail h
theorem K8 : CodeOk Tryz.prog 8 k8 := .of Tryz.func8 (by kernel_rfl) (by kernel_rfl) h8 (fc o8_3 (fc o8_4 (fc o8_13 fe)))
-- sternpost/sternpostbook.Among
noncomputable def X9 : List Value → M := fun args => match args with
 | [x0, x1] => 
 .arV .rem .i64 x0 x1 fun v2 =>
 .arV .add .i64 v2 x1 fun v3 =>
 .arV .rem .i64 v3 x1 fun v4 =>
 .ret (v4)
 | _ => .fail
noncomputable def cuts9 : Cuts := []
noncomputable def L9 : Places := []
noncomputable def k9 : FCode := .of X9 L9 cuts9
theorem h9 : XOk Tryz.prog Tryz.f9 cuts9 L9 X9 := by
  intro Γ m args H r h; unfold X9 at h; split at h
  · exact ⟨Eq.trans (by kernel_rfl) h, Nat.le_of_ble_eq_true (by kernel_rfl)⟩
  · exact M.iFail h
theorem K9 : CodeOk Tryz.prog 9 k9 := .of Tryz.func9 (by kernel_rfl) (by kernel_rfl) h9 fe
-- (*sternpost/host.Host).Claim
noncomputable def X10 : List Value → M := fun args => match args with
 | [v0, x1] => .kPtr v0 fun x0 => 
 .onS x0 fun a2 =>
 .ld a2.block a2.off fun v3 =>
 .tyI .i64 v3 fun v4 =>
 .call 29 [v4, x1] fun r5 =>
 .kTup r5 fun vs6 =>
 .nthA vs6 0 fun v7 =>
 .kAgg v7 fun cs8 =>
 .ite (cs8.size = 5) (
 .kTup r5 fun vs9 =>
 .nthA vs9 1 fun v10 =>
 .tyI .i64 v10 fun v11 =>
 .new (.cells [.int .i64 (0 : Int), .int .i64 (0 : Int), .int .i64 (0 : Int), .int .i64 (0 : Int), .int .i64 (0 : Int)] 0 true) fun b12 =>
 .st 5 (⟨b12, 0, none⟩ : Addr) (.agg cs8) (
 .cmpV .neq .i64 v11 (.int .i64 (0 : Int)) fun t14 =>
 .bool t14 (
 .ret (.tuple #[.string (⟨#[]⟩ : ByteArray), v11])) (
 .ldn b12 0 5 fun cs15 =>
 .call 30 [.agg cs15] fun r16 =>
 .kTup r16 fun vs17 =>
 .nthA vs17 0 fun v18 =>
 .kStr v18 fun s19 =>
 .kTup r16 fun vs20 =>
 .nthA vs20 1 fun v21 =>
 .tyI .i64 v21 fun v22 =>
 .cmpV .neq .i64 v22 (.int .i64 (0 : Int)) fun t23 =>
 .bool t23 (
 .ret (.tuple #[.string (⟨#[]⟩ : ByteArray), v22])) (
 .onS x0 fun a24 =>
 .ld a24.block a24.off fun v25 =>
 .tyI .i64 v25 fun v26 =>
 .cellsOks [.int .i64 (281474976710655 : Int), v26, .int .i64 (2054 : Int), .string s19] (.onS (Program.built Tryz.prog 36 (([0, 1, 2, 3] : List Nat).zip [.int .i64 (281474976710655 : Int), v26, .int .i64 (2054 : Int), .string s19])) fun cells27q =>
 .fxV (.agg cells27q) fun cells27v =>
 .kAgg cells27v fun cells27 =>
 .call 31 [.agg cells27] fun r28 =>
 .kTup r28 fun vs29 =>
 .nthA vs29 0 fun v30 =>
 .kStr v30 fun s31 =>
 .kTup r28 fun vs32 =>
 .nthA vs32 1 fun v33 =>
 .tyI .i64 v33 fun v34 =>
 .ret (.tuple #[.string s31, v34]))))))
 | _ => .fail
noncomputable def cuts10 : Cuts := []
noncomputable def L10 : Places := []
noncomputable def k10 : FCode := .of X10 L10 cuts10
theorem h10 : XOk Tryz.prog Tryz.f10 cuts10 L10 X10 := by
  intro Γ m args H r h; unfold X10 at h; split at h
  · replace h := M.iPtr h; obtain ⟨_, rfl, h⟩ := h; exact ⟨Eq.trans (by kernel_rfl) h, Nat.le_of_ble_eq_true (by kernel_rfl)⟩
  · exact M.iFail h
theorem K10 : CodeOk Tryz.prog 10 k10 := .of Tryz.func10 (by kernel_rfl) (by kernel_rfl) h10 fe
-- WARN 10: build of an unknown part
-- sternpost/parse.Parse
noncomputable def X11 : List Value → M := fun args => match args with
 | [v0] => .kStr v0 fun x0 => 
 .new (.cells [.int .i64 (0 : Int), .int .i64 (0 : Int), .int .i64 (0 : Int), .int .i64 (0 : Int), .string (⟨#[]⟩ : ByteArray), .int .i64 (0 : Int), .int .i64 (0 : Int), .int .i64 (0 : Int), .int .i64 (0 : Int), .int .i64 (0 : Int), .int .i64 (0 : Int), .int .i64 (0 : Int), .int .i64 (0 : Int), .int .i64 (0 : Int), .int .i64 (0 : Int), .int .i64 (0 : Int), .bool false, .bool false, .string (⟨#[]⟩ : ByteArray), .string (⟨#[]⟩ : ByteArray), .int .i64 (0 : Int), .int .i64 (0 : Int), .int .i64 (0 : Int), .int .i64 (0 : Int), .string (⟨#[]⟩ : ByteArray), .int .i64 (0 : Int), .int .i64 (0 : Int), .int .i64 (0 : Int), .int .i64 (0 : Int), .int .i64 (0 : Int), .int .i64 (0 : Int), .int .i64 (0 : Int), .int .i64 (0 : Int), .int .i64 (0 : Int), .int .i64 (0 : Int), .int .i64 (0 : Int), .bool false, .bool false, .bool false, .slice none 0 0, .string (⟨#[]⟩ : ByteArray)] 0 true) fun b1 =>
 .call 22 [.string x0] fun r2 =>
 .kTup r2 fun vs3 =>
 .nthA vs3 0 fun v4 =>
 .kAgg v4 fun cs5 =>
 .ite (cs5.size = 4) (
 .kTup r2 fun vs6 =>
 .nthA vs6 1 fun v7 =>
 .tyI .i64 v7 fun v8 =>
 .new (.cells [.int .i64 (0 : Int), .int .i64 (0 : Int), .int .i64 (0 : Int), .string (⟨#[]⟩ : ByteArray)] 0 true) fun b9 =>
 .st 4 (⟨b9, 0, none⟩ : Addr) (.agg cs5) (
 .cmpV .neq .i64 v8 (.int .i64 (0 : Int)) fun t11 =>
 .bool t11 (
 .call 32 [.string (⟨#[101, 116, 104, 101, 114]⟩ : ByteArray), .int .i64 (0 : Int), v8] fun r12 =>
 .st 41 (⟨b1, 0, none⟩ : Addr) (.agg #[.int .i64 (0 : Int), .int .i64 (0 : Int), .int .i64 (0 : Int), .int .i64 (0 : Int), .string (⟨#[]⟩ : ByteArray), .int .i64 (0 : Int), .int .i64 (0 : Int), .int .i64 (0 : Int), .int .i64 (0 : Int), .int .i64 (0 : Int), .int .i64 (0 : Int), .int .i64 (0 : Int), .int .i64 (0 : Int), .int .i64 (0 : Int), .int .i64 (0 : Int), .int .i64 (0 : Int), .bool false, .bool false, .string (⟨#[]⟩ : ByteArray), .string (⟨#[]⟩ : ByteArray), .int .i64 (0 : Int), .int .i64 (0 : Int), .int .i64 (0 : Int), .int .i64 (0 : Int), .string (⟨#[]⟩ : ByteArray), .int .i64 (0 : Int), .int .i64 (0 : Int), .int .i64 (0 : Int), .int .i64 (0 : Int), .int .i64 (0 : Int), .int .i64 (0 : Int), .int .i64 (0 : Int), .int .i64 (0 : Int), .int .i64 (0 : Int), .int .i64 (0 : Int), .int .i64 (0 : Int), .bool false, .bool false, .bool false, .slice none 0 0, .string (⟨#[]⟩ : ByteArray)]) (
 .ldn b1 0 41 fun cs14 =>
 .ret (.tuple #[.agg cs14, r12]))) (
 .ld b9 (0 + 2) fun v15 =>
 .tyI .i64 v15 fun v16 =>
 .cmpV .eql .i64 v16 (.int .i64 (2054 : Int)) fun t17 =>
 .bool t17 (
 .ld b9 (0 + 3) fun v18 =>
 .kStr v18 fun s19 =>
 .call 24 [.string s19] fun r20 =>
 .kTup r20 fun vs21 =>
 .nthA vs21 0 fun v22 =>
 .kAgg v22 fun cs23 =>
 .ite (cs23.size = 5) (
 .kTup r20 fun vs24 =>
 .nthA vs24 1 fun v25 =>
 .tyI .i64 v25 fun v26 =>
 .new (.cells [.int .i64 (0 : Int), .int .i64 (0 : Int), .int .i64 (0 : Int), .int .i64 (0 : Int), .int .i64 (0 : Int)] 0 true) fun b27 =>
 .st 5 (⟨b27, 0, none⟩ : Addr) (.agg cs23) (
 .cmpV .neq .i64 v26 (.int .i64 (0 : Int)) fun t29 =>
 .bool t29 (
 .call 32 [.string (⟨#[97, 114, 112]⟩ : ByteArray), .int .i64 (14 : Int), v26] fun r30 =>
 .st 41 (⟨b1, 0, none⟩ : Addr) (.agg #[.int .i64 (0 : Int), .int .i64 (0 : Int), .int .i64 (0 : Int), .int .i64 (0 : Int), .string (⟨#[]⟩ : ByteArray), .int .i64 (0 : Int), .int .i64 (0 : Int), .int .i64 (0 : Int), .int .i64 (0 : Int), .int .i64 (0 : Int), .int .i64 (0 : Int), .int .i64 (0 : Int), .int .i64 (0 : Int), .int .i64 (0 : Int), .int .i64 (0 : Int), .int .i64 (0 : Int), .bool false, .bool false, .string (⟨#[]⟩ : ByteArray), .string (⟨#[]⟩ : ByteArray), .int .i64 (0 : Int), .int .i64 (0 : Int), .int .i64 (0 : Int), .int .i64 (0 : Int), .string (⟨#[]⟩ : ByteArray), .int .i64 (0 : Int), .int .i64 (0 : Int), .int .i64 (0 : Int), .int .i64 (0 : Int), .int .i64 (0 : Int), .int .i64 (0 : Int), .int .i64 (0 : Int), .int .i64 (0 : Int), .int .i64 (0 : Int), .int .i64 (0 : Int), .int .i64 (0 : Int), .bool false, .bool false, .bool false, .slice none 0 0, .string (⟨#[]⟩ : ByteArray)]) (
 .ldn b1 0 41 fun cs32 =>
 .ret (.tuple #[.agg cs32, r30]))) (
 .ldn b9 0 4 fun cs33 =>
 .ldn b27 0 5 fun cs34 =>
 .cellsOks [.int .i64 (1 : Int), .agg cs33, .agg cs34] (.onS (Program.built Tryz.prog 49 (([0, 1, 2] : List Nat).zip [.int .i64 (1 : Int), .agg cs33, .agg cs34])) fun cells35q =>
 .fxV (.agg cells35q) fun cells35v =>
 .kAgg cells35v fun cells35 =>
 .st 41 (⟨b1, 0, none⟩ : Addr) (.agg cells35) (
 .ldn b1 0 41 fun cs37 =>
 .ret (.tuple #[.agg cs37, .nilIface]))))))) (
 .cmpV .eql .i64 v16 (.int .i64 (2048 : Int)) fun t38 =>
 .bool t38 (
 .ld b9 (0 + 3) fun v39 =>
 .kStr v39 fun s40 =>
 .call 26 [.string s40] fun r41 =>
 .kTup r41 fun vs42 =>
 .nthA vs42 0 fun v43 =>
 .kAgg v43 fun cs44 =>
 .ite (cs44.size = 10) (
 .kTup r41 fun vs45 =>
 .nthA vs45 1 fun v46 =>
 .tyI .i64 v46 fun v47 =>
 .new (.cells [.int .i64 (0 : Int), .int .i64 (0 : Int), .int .i64 (0 : Int), .int .i64 (0 : Int), .int .i64 (0 : Int), .int .i64 (0 : Int), .bool false, .bool false, .string (⟨#[]⟩ : ByteArray), .string (⟨#[]⟩ : ByteArray)] 0 true) fun b48 =>
 .st 10 (⟨b48, 0, none⟩ : Addr) (.agg cs44) (
 .cmpV .neq .i64 v47 (.int .i64 (0 : Int)) fun t50 =>
 .bool t50 (
 .call 32 [.string (⟨#[105, 112]⟩ : ByteArray), .int .i64 (14 : Int), v47] fun r51 =>
 .st 41 (⟨b1, 0, none⟩ : Addr) (.agg #[.int .i64 (0 : Int), .int .i64 (0 : Int), .int .i64 (0 : Int), .int .i64 (0 : Int), .string (⟨#[]⟩ : ByteArray), .int .i64 (0 : Int), .int .i64 (0 : Int), .int .i64 (0 : Int), .int .i64 (0 : Int), .int .i64 (0 : Int), .int .i64 (0 : Int), .int .i64 (0 : Int), .int .i64 (0 : Int), .int .i64 (0 : Int), .int .i64 (0 : Int), .int .i64 (0 : Int), .bool false, .bool false, .string (⟨#[]⟩ : ByteArray), .string (⟨#[]⟩ : ByteArray), .int .i64 (0 : Int), .int .i64 (0 : Int), .int .i64 (0 : Int), .int .i64 (0 : Int), .string (⟨#[]⟩ : ByteArray), .int .i64 (0 : Int), .int .i64 (0 : Int), .int .i64 (0 : Int), .int .i64 (0 : Int), .int .i64 (0 : Int), .int .i64 (0 : Int), .int .i64 (0 : Int), .int .i64 (0 : Int), .int .i64 (0 : Int), .int .i64 (0 : Int), .int .i64 (0 : Int), .bool false, .bool false, .bool false, .slice none 0 0, .string (⟨#[]⟩ : ByteArray)]) (
 .ldn b1 0 41 fun cs53 =>
 .ret (.tuple #[.agg cs53, r51]))) (
 .ldn b48 0 10 fun cs54 =>
 .call 33 [.agg cs54] fun r55 =>
 .kTup r55 fun vs56 =>
 .nthA vs56 0 fun v57 =>
 .kAgg v57 fun cs58 =>
 .ite (cs58.size = 41) (
 .kTup r55 fun vs59 =>
 .nthA vs59 1 fun v60 =>
 .new (.cells [.int .i64 (0 : Int), .int .i64 (0 : Int), .int .i64 (0 : Int), .int .i64 (0 : Int), .string (⟨#[]⟩ : ByteArray), .int .i64 (0 : Int), .int .i64 (0 : Int), .int .i64 (0 : Int), .int .i64 (0 : Int), .int .i64 (0 : Int), .int .i64 (0 : Int), .int .i64 (0 : Int), .int .i64 (0 : Int), .int .i64 (0 : Int), .int .i64 (0 : Int), .int .i64 (0 : Int), .bool false, .bool false, .string (⟨#[]⟩ : ByteArray), .string (⟨#[]⟩ : ByteArray), .int .i64 (0 : Int), .int .i64 (0 : Int), .int .i64 (0 : Int), .int .i64 (0 : Int), .string (⟨#[]⟩ : ByteArray), .int .i64 (0 : Int), .int .i64 (0 : Int), .int .i64 (0 : Int), .int .i64 (0 : Int), .int .i64 (0 : Int), .int .i64 (0 : Int), .int .i64 (0 : Int), .int .i64 (0 : Int), .int .i64 (0 : Int), .int .i64 (0 : Int), .int .i64 (0 : Int), .bool false, .bool false, .bool false, .slice none 0 0, .string (⟨#[]⟩ : ByteArray)] 0 true) fun b61 =>
 .st 41 (⟨b61, 0, none⟩ : Addr) (.agg cs58) (
 .nilI v60 (.bool (!true) (
 .jmp 16 [.pointer (some (⟨b1, 0, none⟩ : Addr)), v60]) (
 .jmp 17 [.pointer (some (⟨b1, 0, none⟩ : Addr)), .pointer (some (⟨b9, 0, none⟩ : Addr)), .pointer (some (⟨b61, 0, none⟩ : Addr))])) (.bool (!false) (
 .jmp 16 [.pointer (some (⟨b1, 0, none⟩ : Addr)), v60]) (
 .jmp 17 [.pointer (some (⟨b1, 0, none⟩ : Addr)), .pointer (some (⟨b9, 0, none⟩ : Addr)), .pointer (some (⟨b61, 0, none⟩ : Addr))])))))))) (
 .call 32 [.string (⟨#[101, 116, 104, 101, 114]⟩ : ByteArray), .int .i64 (0 : Int), .int .i64 (90 : Int)] fun r63 =>
 .st 41 (⟨b1, 0, none⟩ : Addr) (.agg #[.int .i64 (0 : Int), .int .i64 (0 : Int), .int .i64 (0 : Int), .int .i64 (0 : Int), .string (⟨#[]⟩ : ByteArray), .int .i64 (0 : Int), .int .i64 (0 : Int), .int .i64 (0 : Int), .int .i64 (0 : Int), .int .i64 (0 : Int), .int .i64 (0 : Int), .int .i64 (0 : Int), .int .i64 (0 : Int), .int .i64 (0 : Int), .int .i64 (0 : Int), .int .i64 (0 : Int), .bool false, .bool false, .string (⟨#[]⟩ : ByteArray), .string (⟨#[]⟩ : ByteArray), .int .i64 (0 : Int), .int .i64 (0 : Int), .int .i64 (0 : Int), .int .i64 (0 : Int), .string (⟨#[]⟩ : ByteArray), .int .i64 (0 : Int), .int .i64 (0 : Int), .int .i64 (0 : Int), .int .i64 (0 : Int), .int .i64 (0 : Int), .int .i64 (0 : Int), .int .i64 (0 : Int), .int .i64 (0 : Int), .int .i64 (0 : Int), .int .i64 (0 : Int), .int .i64 (0 : Int), .bool false, .bool false, .bool false, .slice none 0 0, .string (⟨#[]⟩ : ByteArray)]) (
 .ldn b1 0 41 fun cs65 =>
 .ret (.tuple #[.agg cs65, r63])))))))
 | _ => .fail
noncomputable def X11_16 : List Value → M := fun args => match args with
 | [v0, x1] => .kPtr v0 fun x0 => 
 .call 34 [x1, .int .i64 (14 : Int)] fun r2 =>
 .onS x0 fun a3 =>
 .st 41 a3 (.agg #[.int .i64 (0 : Int), .int .i64 (0 : Int), .int .i64 (0 : Int), .int .i64 (0 : Int), .string (⟨#[]⟩ : ByteArray), .int .i64 (0 : Int), .int .i64 (0 : Int), .int .i64 (0 : Int), .int .i64 (0 : Int), .int .i64 (0 : Int), .int .i64 (0 : Int), .int .i64 (0 : Int), .int .i64 (0 : Int), .int .i64 (0 : Int), .int .i64 (0 : Int), .int .i64 (0 : Int), .bool false, .bool false, .string (⟨#[]⟩ : ByteArray), .string (⟨#[]⟩ : ByteArray), .int .i64 (0 : Int), .int .i64 (0 : Int), .int .i64 (0 : Int), .int .i64 (0 : Int), .string (⟨#[]⟩ : ByteArray), .int .i64 (0 : Int), .int .i64 (0 : Int), .int .i64 (0 : Int), .int .i64 (0 : Int), .int .i64 (0 : Int), .int .i64 (0 : Int), .int .i64 (0 : Int), .int .i64 (0 : Int), .int .i64 (0 : Int), .int .i64 (0 : Int), .int .i64 (0 : Int), .bool false, .bool false, .bool false, .slice none 0 0, .string (⟨#[]⟩ : ByteArray)]) (
 .onS x0 fun a5 =>
 .ldn a5.block a5.off 41 fun cs6 =>
 .ret (.tuple #[.agg cs6, r2]))
 | _ => .fail
noncomputable def X11_17 : List Value → M := fun args => match args with
 | [v0, v1, v2] => .kPtr v0 fun x0 => .kPtr v1 fun x1 => .kPtr v2 fun x2 => 
 .onS x1 fun a3 =>
 .ldn a3.block a3.off 4 fun cs4 =>
 .onS x2 fun a5 =>
 .st 4 (⟨a5.block, a5.off + 1, none⟩ : Addr) (.agg cs4) (
 .onS x2 fun a7 =>
 .ldn a7.block a7.off 41 fun cs8 =>
 .onS x0 fun a9 =>
 .st 41 a9 (.agg cs8) (
 .onS x0 fun a11 =>
 .ldn a11.block a11.off 41 fun cs12 =>
 .ret (.tuple #[.agg cs12, .nilIface])))
 | _ => .fail
noncomputable def cuts11 : Cuts := [(16, [2, 11]), (17, [2, 4, 10])]
noncomputable def L11 : Places := [(16, X11_16, todoOf Tryz.f11 16), (17, X11_17, todoOf Tryz.f11 17)]
noncomputable def k11 : FCode := .of X11 L11 cuts11
theorem o11_16 : OOk Tryz.prog Tryz.f11 cuts11 L11 (16, X11_16, todoOf Tryz.f11 16) := by
  intro vs Γ m H r h; replace h : (X11_16 vs).run _ _ _ _ = _ := h; unfold X11_16 at h; split at h
  · replace h := M.iPtr h; obtain ⟨_, rfl, h⟩ := h; exact Eq.trans (by kernel_rfl) h
  · exact M.iFail h
theorem o11_17 : OOk Tryz.prog Tryz.f11 cuts11 L11 (17, X11_17, todoOf Tryz.f11 17) := by
  intro vs Γ m H r h; replace h : (X11_17 vs).run _ _ _ _ = _ := h; unfold X11_17 at h; split at h
  · replace h := M.iPtr h; obtain ⟨_, rfl, h⟩ := h; replace h := M.iPtr h; obtain ⟨_, rfl, h⟩ := h; replace h := M.iPtr h; obtain ⟨_, rfl, h⟩ := h; exact Eq.trans (by kernel_rfl) h
  · exact M.iFail h
theorem h11 : XOk Tryz.prog Tryz.f11 cuts11 L11 X11 := by
  intro Γ m args H r h; unfold X11 at h; split at h
  · replace h := M.iStr h; obtain ⟨_, rfl, h⟩ := h; exact ⟨Eq.trans (by kernel_rfl) h, Nat.le_of_ble_eq_true (by kernel_rfl)⟩
  · exact M.iFail h
theorem K11 : CodeOk Tryz.prog 11 k11 := .of Tryz.func11 (by kernel_rfl) (by kernel_rfl) h11 (fc o11_16 (fc o11_17 fe))
-- WARN 11: build of an unknown part
-- (*sternpost/host.Host).Echoes
noncomputable def X12 : List Value → M := fun args => match args with
 | [v0] => .kPtr v0 fun x0 => 
 .onS x0 fun a1 =>
 .ld a1.block (a1.off + 26) fun v2 =>
 .tyI .i64 v2 fun v3 =>
 .ret (v3)
 | _ => .fail
noncomputable def cuts12 : Cuts := []
noncomputable def L12 : Places := []
noncomputable def k12 : FCode := .of X12 L12 cuts12
theorem h12 : XOk Tryz.prog Tryz.f12 cuts12 L12 X12 := by
  intro Γ m args H r h; unfold X12 at h; split at h
  · replace h := M.iPtr h; obtain ⟨_, rfl, h⟩ := h; exact ⟨Eq.trans (by kernel_rfl) h, Nat.le_of_ble_eq_true (by kernel_rfl)⟩
  · exact M.iFail h
theorem K12 : CodeOk Tryz.prog 12 k12 := .of Tryz.func12 (by kernel_rfl) (by kernel_rfl) h12 fe
-- sternpost/host.New
noncomputable def X17 : List Value → M := fun args => match args with
 | [v0] => .kAgg v0 fun x0 => 
 .new (.cells x0.toList 0 true) fun b1 =>
 .ld b1 (0 + 2) fun v2 =>
 .tyI .i64 v2 fun v3 =>
 .cmpV .lss .i64 v3 (.int .i64 (0 : Int)) fun t4 =>
 .bool t4 (
 .jmp 2 []) (
 .ld b1 (0 + 2) fun v5 =>
 .tyI .i64 v5 fun v6 =>
 .cmpV .gtr .i64 v6 (.int .i64 (65535 : Int)) fun t7 =>
 .bool t7 (
 .jmp 2 []) (
 .ld b1 (0 + 3) fun v8 =>
 .tyI .i64 v8 fun v9 =>
 .ld b1 0 fun v10 =>
 .tyI .i64 v10 fun v11 =>
 .cmpV .neq .i64 v9 v11 fun t12 =>
 .bool t12 (
 .ret (.tuple #[.pointer none, .int .i64 (4 : Int)])) (
 .ldn b1 0 21 fun cs13 =>
 .cellsOks [.agg cs13, .agg #[.int .i64 (0 : Int), .int .i64 (1048576 : Int), .int .i64 (0 : Int), .slice none 0 0]] (.onS (Program.built Tryz.prog 88 (([0, 7] : List Nat).zip [.agg cs13, .agg #[.int .i64 (0 : Int), .int .i64 (1048576 : Int), .int .i64 (0 : Int), .slice none 0 0]])) fun cells14q =>
 .fxV (.agg cells14q) fun cells14v =>
 .kAgg cells14v fun cells14 =>
 .new (.cells cells14.toList 0 true) fun b15 =>
 .ldn b1 (0 + 3) 5 fun cs16 =>
 .ld b1 (0 + 1) fun v17 =>
 .tyI .i64 v17 fun v18 =>
 .cellsOks [v18] (.onS (Instr.fill (fun i => some (i * 1, 1)) ([.int .i64 (0 : Int)] : List Value).toArray (([0] : List Nat).zip [v18])) fun cells19q =>
 .fxV (.agg cells19q) fun cells19v =>
 .kAgg cells19v fun cells19 =>
 .new (.cells cells19.toList 1 true) fun b20 =>
 .call 39 [.agg cs16, .slice (some ⟨b20, 0, none⟩) 1 1] fun r21 =>
 .kTup r21 fun vs22 =>
 .nthA vs22 0 fun v23 =>
 .kPtr v23 fun p24 =>
 .kTup r21 fun vs25 =>
 .nthA vs25 1 fun v26 =>
 .tyI .i64 v26 fun v27 =>
 .st 1 (⟨b15, 0 + 21, none⟩ : Addr) (.pointer p24) (
 .cmpV .neq .i64 v27 (.int .i64 (0 : Int)) fun t29 =>
 .bool t29 (
 .ret (.tuple #[.pointer none, v27])) (
 .ld b1 (0 + 8) fun v30 =>
 .tyI .i64 v30 fun v31 =>
 .ld b1 (0 + 9) fun v32 =>
 .tyI .i64 v32 fun v33 =>
 .call 40 [v31, v33] fun r34 =>
 .kTup r34 fun vs35 =>
 .nthA vs35 0 fun v36 =>
 .kPtr v36 fun p37 =>
 .kTup r34 fun vs38 =>
 .nthA vs38 1 fun v39 =>
 .tyI .i64 v39 fun v40 =>
 .st 1 (⟨b15, 0 + 22, none⟩ : Addr) (.pointer p37) (
 .cmpV .neq .i64 v40 (.int .i64 (0 : Int)) fun t42 =>
 .bool t42 (
 .ret (.tuple #[.pointer none, v40])) (
 .ldn b1 (0 + 10) 11 fun cs43 =>
 .ld b1 (0 + 1) fun v44 =>
 .tyI .i64 v44 fun v45 =>
 .call 41 [.agg cs43, v45] fun r46 =>
 .kTup r46 fun vs47 =>
 .nthA vs47 0 fun v48 =>
 .kPtr v48 fun p49 =>
 .kTup r46 fun vs50 =>
 .nthA vs50 1 fun v51 =>
 .tyI .i64 v51 fun v52 =>
 .st 1 (⟨b15, 0 + 23, none⟩ : Addr) (.pointer p49) (
 .cmpV .neq .i64 v52 (.int .i64 (0 : Int)) fun t54 =>
 .bool t54 (
 .ret (.tuple #[.pointer none, v52])) (
 .ld b1 (0 + 2) fun v55 =>
 .tyI .i64 v55 fun v56 =>
 .cmpV .gtr .i64 v56 (.int .i64 (0 : Int)) fun t57 =>
 .bool t57 (
 .call 42 [.pointer (some (⟨b15, 0, none⟩ : Addr))] fun r58 =>
 .jmp 18 [.pointer (some (⟨b15, 0, none⟩ : Addr))]) (
 .jmp 18 [.pointer (some (⟨b15, 0, none⟩ : Addr))]))))))))))))
 | _ => .fail
noncomputable def X17_2 : List Value → M := fun args => match args with
 | [] => 
 .ret (.tuple #[.pointer none, .int .i64 (1 : Int)])
 | _ => .fail
noncomputable def X17_18 : List Value → M := fun args => match args with
 | [v0] => .kPtr v0 fun x0 => 
 .ret (.tuple #[.pointer x0, .int .i64 (0 : Int)])
 | _ => .fail
noncomputable def cuts17 : Cuts := [(18, [4]), (2, [])]
noncomputable def L17 : Places := [(2, X17_2, todoOf Tryz.f17 2), (18, X17_18, todoOf Tryz.f17 18)]
noncomputable def k17 : FCode := .of X17 L17 cuts17
theorem o17_2 : OOk Tryz.prog Tryz.f17 cuts17 L17 (2, X17_2, todoOf Tryz.f17 2) := by
  intro vs Γ m H r h; replace h : (X17_2 vs).run _ _ _ _ = _ := h; unfold X17_2 at h; split at h
  · exact Eq.trans (by kernel_rfl) h
  · exact M.iFail h
theorem o17_18 : OOk Tryz.prog Tryz.f17 cuts17 L17 (18, X17_18, todoOf Tryz.f17 18) := by
  intro vs Γ m H r h; replace h : (X17_18 vs).run _ _ _ _ = _ := h; unfold X17_18 at h; split at h
  · replace h := M.iPtr h; obtain ⟨_, rfl, h⟩ := h; exact Eq.trans (by kernel_rfl) h
  · exact M.iFail h
theorem h17 : XOk Tryz.prog Tryz.f17 cuts17 L17 X17 := by
  intro Γ m args H r h; unfold X17 at h; split at h
  · replace h := M.iAgg h; obtain ⟨_, rfl, h⟩ := h; exact ⟨Eq.trans (by kernel_rfl) h, Nat.le_of_ble_eq_true (by kernel_rfl)⟩
  · exact M.iFail h
theorem K17 : CodeOk Tryz.prog 17 k17 := .of Tryz.func17 (by kernel_rfl) (by kernel_rfl) h17 (fc o17_2 (fc o17_18 fe))
-- WARN 17: build of an unknown part
-- sternpost/seq.Check
noncomputable def X18 : List Value → M := fun args => match args with
 | [x0] => 
 .arV .and .i64 x0 (.int .i64 (4294967295 : Int)) fun v1 =>
 .cmpV .neq .i64 v1 x0 fun t2 =>
 .bool t2 (
 .ret (.int .i64 (1 : Int))) (
 .ret (.int .i64 (0 : Int)))
 | _ => .fail
noncomputable def cuts18 : Cuts := []
noncomputable def L18 : Places := []
noncomputable def k18 : FCode := .of X18 L18 cuts18
theorem h18 : XOk Tryz.prog Tryz.f18 cuts18 L18 X18 := by
  intro Γ m args H r h; unfold X18 at h; split at h
  · exact ⟨Eq.trans (by kernel_rfl) h, Nat.le_of_ble_eq_true (by kernel_rfl)⟩
  · exact M.iFail h
theorem K18 : CodeOk Tryz.prog 18 k18 := .of Tryz.func18 (by kernel_rfl) (by kernel_rfl) h18 fe
-- (*sternpost/host.Host).tick
noncomputable def X19 : List Value → M := fun args => match args with
 | [v0, x1] => .kPtr v0 fun x0 => 
 .onS x0 fun a2 =>
 .ld a2.block (a2.off + 24) fun v3 =>
 .tyI .i64 v3 fun v4 =>
 .cmpV .lss .i64 x1 v4 fun t5 =>
 .bool t5 (
 .jmp 2 []) (
 .cmpV .gtr .i64 x1 (.int .i64 (1099511627776 : Int)) fun t6 =>
 .bool t6 (
 .jmp 2 []) (
 .onS x0 fun a7 =>
 .cellsOk x1 (
 .st 1 (⟨a7.block, a7.off + 24, none⟩ : Addr) x1 (
 .ret (.bool true)))))
 | _ => .fail
noncomputable def X19_2 : List Value → M := fun args => match args with
 | [] => 
 .ret (.bool false)
 | _ => .fail
noncomputable def cuts19 : Cuts := [(2, [])]
noncomputable def L19 : Places := [(2, X19_2, todoOf Tryz.f19 2)]
noncomputable def k19 : FCode := .of X19 L19 cuts19
theorem o19_2 : OOk Tryz.prog Tryz.f19 cuts19 L19 (2, X19_2, todoOf Tryz.f19 2) := by
  intro vs Γ m H r h; replace h : (X19_2 vs).run _ _ _ _ = _ := h; unfold X19_2 at h; split at h
  · exact Eq.trans (by kernel_rfl) h
  · exact M.iFail h
theorem h19 : XOk Tryz.prog Tryz.f19 cuts19 L19 X19 := by
  intro Γ m args H r h; unfold X19 at h; split at h
  · replace h := M.iPtr h; obtain ⟨_, rfl, h⟩ := h; exact ⟨Eq.trans (by kernel_rfl) h, Nat.le_of_ble_eq_true (by kernel_rfl)⟩
  · exact M.iFail h
theorem K19 : CodeOk Tryz.prog 19 k19 := .of Tryz.func19 (by kernel_rfl) (by kernel_rfl) h19 (fc o19_2 fe)
-- (*sternpost/host.Host).message
noncomputable def X20 : List Value → M := fun args => match args with
 | [v0, x1, x2, v3] => .kPtr v0 fun x0 => .kAgg v3 fun x3 => 
 .new (.cells x3.toList 0 true) fun b4 =>
 .ldn b4 0 5 fun cs5 =>
 .call 43 [.agg cs5] fun r6 =>
 .kTup r6 fun vs7 =>
 .nthA vs7 0 fun v8 =>
 .kStr v8 fun s9 =>
 .kTup r6 fun vs10 =>
 .nthA vs10 1 fun v11 =>
 .tyI .i64 v11 fun v12 =>
 .cmpV .eql .i64 v12 (.int .i64 (0 : Int)) fun t13 =>
 .bool t13 (
 .call 44 [.pointer x0, x1, x2, .int .i64 (1 : Int), .string s9] fun r14 =>
 .ret (.tuple #[])) (
 .ret (.tuple #[]))
 | _ => .fail
noncomputable def cuts20 : Cuts := []
noncomputable def L20 : Places := []
noncomputable def k20 : FCode := .of X20 L20 cuts20
theorem h20 : XOk Tryz.prog Tryz.f20 cuts20 L20 X20 := by
  intro Γ m args H r h; unfold X20 at h; split at h
  · replace h := M.iPtr h; obtain ⟨_, rfl, h⟩ := h; replace h := M.iAgg h; obtain ⟨_, rfl, h⟩ := h; exact ⟨Eq.trans (by kernel_rfl) h, Nat.le_of_ble_eq_true (by kernel_rfl)⟩
  · exact M.iFail h
theorem K20 : CodeOk Tryz.prog 20 k20 := .of Tryz.func20 (by kernel_rfl) (by kernel_rfl) h20 fe
-- (*sternpost/host.Host).told
noncomputable def X21 : List Value → M := fun args => match args with
 | [v0] => .kPtr v0 fun x0 => 
 .onS x0 fun a1 =>
 .ld a1.block (a1.off + 32) fun v2 =>
 .kSl v2 fun a3 l4 c5 =>
 .onS x0 fun a6 =>
 .ld a6.block (a6.off + 31) fun v7 =>
 .kSl v7 fun a8 l9 c10 =>
 .onS x0 fun a11 =>
 .st 1 (⟨a11.block, a11.off + 32, none⟩ : Addr) (.slice none 0 0) (
 .onS x0 fun a13 =>
 .st 1 (⟨a13.block, a13.off + 31, none⟩ : Addr) (.slice none 0 0) (
 .ret (.tuple #[.slice a3 l4 c5, .slice a8 l9 c10])))
 | _ => .fail
noncomputable def cuts21 : Cuts := []
noncomputable def L21 : Places := []
noncomputable def k21 : FCode := .of X21 L21 cuts21
theorem h21 : XOk Tryz.prog Tryz.f21 cuts21 L21 X21 := by
  intro Γ m args H r h; unfold X21 at h; split at h
  · replace h := M.iPtr h; obtain ⟨_, rfl, h⟩ := h; exact ⟨Eq.trans (by kernel_rfl) h, Nat.le_of_ble_eq_true (by kernel_rfl)⟩
  · exact M.iFail h
theorem K21 : CodeOk Tryz.prog 21 k21 := .of Tryz.func21 (by kernel_rfl) (by kernel_rfl) h21 fe
-- sternpost/ether.Decode
noncomputable def X22 : List Value → M := fun args => match args with
 | [v0] => .kStr v0 fun x0 => 
 .new (.cells [.int .i64 (0 : Int), .int .i64 (0 : Int), .int .i64 (0 : Int), .string (⟨#[]⟩ : ByteArray)] 0 true) fun b1 =>
 .cmp .lss (x0.size : Int) (14 : Int) fun t2 =>
 .bool t2 (
 .st 4 (⟨b1, 0, none⟩ : Addr) (.agg #[.int .i64 (0 : Int), .int .i64 (0 : Int), .int .i64 (0 : Int), .string (⟨#[]⟩ : ByteArray)]) (
 .ldn b1 0 4 fun cs4 =>
 .ret (.tuple #[.agg cs4, .int .i64 (30 : Int)]))) (
 .slStr x0 (14 : Int) (x0.size : Int) fun s6 =>
 .new (.cells [.int .i64 (0 : Int), .int .i64 (0 : Int), .int .i64 (0 : Int), .string (⟨#[]⟩ : ByteArray)] 0 true) fun b7 =>
 .st 4 (⟨b7, 0, none⟩ : Addr) (.agg #[.int .i64 (0 : Int), .int .i64 (0 : Int), .int .i64 (0 : Int), .string s6]) (
 .call 45 [.string x0, .int .i64 (0 : Int), .int .i64 (6 : Int)] fun r9 =>
 .kTup r9 fun vs10 =>
 .nthA vs10 0 fun v11 =>
 .tyI .i64 v11 fun v12 =>
 .kTup r9 fun vs13 =>
 .nthA vs13 1 fun v14 =>
 .tyI .i64 v14 fun v15 =>
 .cellsOk v12 (
 .st 1 (⟨b7, 0, none⟩ : Addr) v12 (
 .call 45 [.string x0, .int .i64 (6 : Int), .int .i64 (6 : Int)] fun r17 =>
 .kTup r17 fun vs18 =>
 .nthA vs18 0 fun v19 =>
 .tyI .i64 v19 fun v20 =>
 .kTup r17 fun vs21 =>
 .nthA vs21 1 fun v22 =>
 .tyI .i64 v22 fun v23 =>
 .cellsOk v20 (
 .st 1 (⟨b7, 0 + 1, none⟩ : Addr) v20 (
 .call 45 [.string x0, .int .i64 (12 : Int), .int .i64 (2 : Int)] fun r25 =>
 .kTup r25 fun vs26 =>
 .nthA vs26 0 fun v27 =>
 .tyI .i64 v27 fun v28 =>
 .kTup r25 fun vs29 =>
 .nthA vs29 1 fun v30 =>
 .tyI .i64 v30 fun v31 =>
 .cellsOk v28 (
 .st 1 (⟨b7, 0 + 2, none⟩ : Addr) v28 (
 .ldn b7 0 4 fun cs33 =>
 .call 46 [.agg cs33] fun r34 =>
 .tyI .i64 r34 fun v35 =>
 .cmpV .neq .i64 v35 (.int .i64 (0 : Int)) fun t36 =>
 .bool t36 (
 .st 4 (⟨b1, 0, none⟩ : Addr) (.agg #[.int .i64 (0 : Int), .int .i64 (0 : Int), .int .i64 (0 : Int), .string (⟨#[]⟩ : ByteArray)]) (
 .ldn b1 0 4 fun cs38 =>
 .ret (.tuple #[.agg cs38, v35]))) (
 .ldn b7 0 4 fun cs39 =>
 .st 4 (⟨b1, 0, none⟩ : Addr) (.agg cs39) (
 .ldn b1 0 4 fun cs41 =>
 .ret (.tuple #[.agg cs41, .int .i64 (0 : Int)])))))))))))
 | _ => .fail
noncomputable def cuts22 : Cuts := []
noncomputable def L22 : Places := []
noncomputable def k22 : FCode := .of X22 L22 cuts22
theorem h22 : XOk Tryz.prog Tryz.f22 cuts22 L22 X22 := by
  intro Γ m args H r h; unfold X22 at h; split at h
  · replace h := M.iStr h; obtain ⟨_, rfl, h⟩ := h; exact ⟨Eq.trans (by kernel_rfl) h, Nat.le_of_ble_eq_true (by kernel_rfl)⟩
  · exact M.iFail h
theorem K22 : CodeOk Tryz.prog 22 k22 := .of Tryz.func22 (by kernel_rfl) (by kernel_rfl) h22 fe
-- sternpost/ether.For
noncomputable def X23 : List Value → M := fun args => match args with
 | [v0, v1] => .kAgg v0 fun x0 => .kSl v1 fun a1 l2 c3 => 
 .new (.cells x0.toList 0 true) fun b4 =>
 .ldn b4 0 4 fun cs5 =>
 .call 46 [.agg cs5] fun r6 =>
 .tyI .i64 r6 fun v7 =>
 .cmpV .eql .i64 v7 (.int .i64 (0 : Int)) fun t8 =>
 .bool t8 (
 .ld b4 0 fun v9 =>
 .tyI .i64 v9 fun v10 =>
 .cmpV .eql .i64 v10 (.int .i64 (281474976710655 : Int)) fun t11 =>
 .bool t11 (
 .ret (.bool true)) (
 .ld b4 0 fun v12 =>
 .tyI .i64 v12 fun v13 =>
 .call 47 [.slice a1 l2 c3, v13] fun r14 =>
 .kBool r14 fun b15 =>
 .ret (.bool b15))) (
 .ret (.bool false))
 | _ => .fail
noncomputable def cuts23 : Cuts := []
noncomputable def L23 : Places := []
noncomputable def k23 : FCode := .of X23 L23 cuts23
theorem h23 : XOk Tryz.prog Tryz.f23 cuts23 L23 X23 := by
  intro Γ m args H r h; unfold X23 at h; split at h
  · replace h := M.iAgg h; obtain ⟨_, rfl, h⟩ := h; replace h := M.iSl h; obtain ⟨_, _, _, rfl, h⟩ := h; exact ⟨Eq.trans (by kernel_rfl) h, Nat.le_of_ble_eq_true (by kernel_rfl)⟩
  · exact M.iFail h
theorem K23 : CodeOk Tryz.prog 23 k23 := .of Tryz.func23 (by kernel_rfl) (by kernel_rfl) h23 fe
-- sternpost/arp.Decode
noncomputable def X24 : List Value → M := fun args => match args with
 | [v0] => .kStr v0 fun x0 => 
 .new (.cells [.int .i64 (0 : Int), .int .i64 (0 : Int), .int .i64 (0 : Int), .int .i64 (0 : Int), .int .i64 (0 : Int)] 0 true) fun b1 =>
 .cmp .lss (x0.size : Int) (28 : Int) fun t2 =>
 .bool t2 (
 .jmp 2 [.pointer (some (⟨b1, 0, none⟩ : Addr))]) (
 .cmp .gtr (x0.size : Int) (46 : Int) fun t3 =>
 .bool t3 (
 .jmp 2 [.pointer (some (⟨b1, 0, none⟩ : Addr))]) (
 .call 48 [.string x0, .string (⟨#[0, 1, 8, 0, 6, 4]⟩ : ByteArray)] fun r4 =>
 .kBool r4 fun b5 =>
 .bool (!b5) (
 .jmp 2 [.pointer (some (⟨b1, 0, none⟩ : Addr))]) (
 .new (.cells [.int .i64 (0 : Int), .int .i64 (0 : Int), .int .i64 (0 : Int), .int .i64 (0 : Int), .int .i64 (0 : Int)] 0 true) fun b6 =>
 .call 49 [.pointer (some (⟨b6, 0, none⟩ : Addr))] fun r7 =>
 .kSl r7 fun a8 l9 c10 =>
 .fxI ((l9 : Nat) : Int) fun n11 =>
 .jmp 100006 [.string x0, .pointer (some (⟨b1, 0, none⟩ : Addr)), .pointer (some (⟨b6, 0, none⟩ : Addr)), .int .i64 (6 : Int), .slice a8 l9 c10, .int .i64 n11, .int .i64 (0 : Int)])))
 | _ => .fail
noncomputable def X24_2 : List Value → M := fun args => match args with
 | [v0] => .kPtr v0 fun x0 => 
 .onS x0 fun a1 =>
 .st 5 a1 (.agg #[.int .i64 (0 : Int), .int .i64 (0 : Int), .int .i64 (0 : Int), .int .i64 (0 : Int), .int .i64 (0 : Int)]) (
 .onS x0 fun a3 =>
 .ldn a3.block a3.off 5 fun cs4 =>
 .ret (.tuple #[.agg cs4, .int .i64 (40 : Int)]))
 | _ => .fail
noncomputable def X24_100006 : List Value → M := fun args => match args with
 | [v0, v1, v2, x3, v4, v5, v6] => .kStr v0 fun x0 => .kPtr v1 fun x1 => .kPtr v2 fun x2 => .kSl v4 fun a4 l5 c6 => .kInt .i64 v5 fun x7 => .kInt .i64 v6 fun x8 => 
 .cmp .lss x8 x7 fun t9 =>
 .bool t9 (
 .onS a4 fun a10 =>
 .inb x8 l5 (
 .ldn ((a10.add (x8.toNat * 2)).block) ((a10.add (x8.toNat * 2)).off) 2 fun cs11 =>
 .new (.cells [.pointer none, .int .i64 (0 : Int)] 0 true) fun b12 =>
 .st 2 (⟨b12, 0, none⟩ : Addr) (.agg cs11) (
 .ld b12 0 fun v14 =>
 .kPtr v14 fun p15 =>
 .ld b12 (0 + 1) fun v16 =>
 .tyI .i64 v16 fun v17 =>
 .snap b12 fun o18 =>
 .call 45 [.string x0, x3, v17] fun r19 =>
 .same b12 o18 (
 .kTup r19 fun vs20 =>
 .nthA vs20 0 fun v21 =>
 .tyI .i64 v21 fun v22 =>
 .kTup r19 fun vs23 =>
 .nthA vs23 1 fun v24 =>
 .tyI .i64 v24 fun v25 =>
 .onS p15 fun a26 =>
 .cellsOk v22 (
 .st 1 a26 v22 (
 .ld b12 (0 + 1) fun v28 =>
 .tyI .i64 v28 fun v29 =>
 .arV .add .i64 x3 v29 fun v30 =>
 .wr .i64 (x8 + (1 : Int)) fun n31 =>
 .jmp 100006 [.string x0, .pointer x1, .pointer x2, v30, .slice a4 l5 c6, .int .i64 x7, .int .i64 n31])))))) (
 .onS x2 fun a32 =>
 .ldn a32.block a32.off 5 fun cs33 =>
 .call 50 [.agg cs33] fun r34 =>
 .kTup r34 fun vs35 =>
 .nthA vs35 0 fun v36 =>
 .kAgg v36 fun cs37 =>
 .ite (cs37.size = 5) (
 .kTup r34 fun vs38 =>
 .nthA vs38 1 fun v39 =>
 .tyI .i64 v39 fun v40 =>
 .onS x1 fun a41 =>
 .st 5 a41 (.agg cs37) (
 .onS x1 fun a43 =>
 .ldn a43.block a43.off 5 fun cs44 =>
 .ret (.tuple #[.agg cs44, v40]))))
 | _ => .fail
noncomputable def cuts24 : Cuts := [(100006, [0, 2, 4, 5, 22, 23, 24]), (2, [2])]
noncomputable def L24 : Places := [(2, X24_2, todoOf Tryz.f24 2), (100006, X24_100006, todoOf Tryz.f24 100006)]
noncomputable def k24 : FCode := .of X24 L24 cuts24
theorem o24_2 : OOk Tryz.prog Tryz.f24 cuts24 L24 (2, X24_2, todoOf Tryz.f24 2) := by
  intro vs Γ m H r h; replace h : (X24_2 vs).run _ _ _ _ = _ := h; unfold X24_2 at h; split at h
  · replace h := M.iPtr h; obtain ⟨_, rfl, h⟩ := h; exact Eq.trans (by kernel_rfl) h
  · exact M.iFail h
theorem o24_100006 : OOk Tryz.prog Tryz.f24 cuts24 L24 (100006, X24_100006, todoOf Tryz.f24 100006) := by
  intro vs Γ m H r h; replace h : (X24_100006 vs).run _ _ _ _ = _ := h; unfold X24_100006 at h; split at h
  · replace h := M.iStr h; obtain ⟨_, rfl, h⟩ := h; replace h := M.iPtr h; obtain ⟨_, rfl, h⟩ := h; replace h := M.iPtr h; obtain ⟨_, rfl, h⟩ := h; replace h := M.iSl h; obtain ⟨_, _, _, rfl, h⟩ := h; replace h := M.iInt h; obtain ⟨_, rfl, h⟩ := h; replace h := M.iInt h; obtain ⟨_, rfl, h⟩ := h; exact Eq.trans (by kernel_rfl) h
  · exact M.iFail h
theorem h24 : XOk Tryz.prog Tryz.f24 cuts24 L24 X24 := by
  intro Γ m args H r h; unfold X24 at h; split at h
  · replace h := M.iStr h; obtain ⟨_, rfl, h⟩ := h; exact ⟨Eq.trans (by kernel_rfl) h, Nat.le_of_ble_eq_true (by kernel_rfl)⟩
  · exact M.iFail h
theorem K24 : CodeOk Tryz.prog 24 k24 := .of Tryz.func24 (by kernel_rfl) (by kernel_rfl) h24 (fc o24_2 (fc o24_100006 fe))
-- (*sternpost/host.Host).neighbour
noncomputable def X25 : List Value → M := fun args => match args with
 | [v0, v1] => .kPtr v0 fun x0 => .kAgg v1 fun x1 => 
 .new (.cells x1.toList 0 true) fun b2 =>
 .onS x0 fun a3 =>
 .ld a3.block (a3.off + 21) fun v4 =>
 .kPtr v4 fun p5 =>
 .ldn b2 0 5 fun cs6 =>
 .onS x0 fun a7 =>
 .ld a7.block (a7.off + 24) fun v8 =>
 .tyI .i64 v8 fun v9 =>
 .new (.cells [.int .i64 (0 : Int), .int .i64 (0 : Int), .int .i64 (0 : Int), .int .i64 (0 : Int), .int .i64 (0 : Int)] 0 true) fun b10 =>
 .snap b10 fun o11 =>
 .call 51 [.pointer p5, .agg cs6, v9] fun r12 =>
 .same b10 o11 (
 .kTup r12 fun vs13 =>
 .nthA vs13 0 fun v14 =>
 .kAgg v14 fun cs15 =>
 .ite (cs15.size = 5) (
 .kTup r12 fun vs16 =>
 .nthA vs16 1 fun v17 =>
 .kSl v17 fun a18 l19 c20 =>
 .kTup r12 fun vs21 =>
 .nthA vs21 2 fun v22 =>
 .tyI .i64 v22 fun v23 =>
 .kTup r12 fun vs24 =>
 .nthA vs24 3 fun v25 =>
 .tyI .i64 v25 fun v26 =>
 .st 5 (⟨b10, 0, none⟩ : Addr) (.agg cs15) (
 .jmp 2 [.pointer x0, .pointer (some (⟨b10, 0, none⟩ : Addr)), .slice a18 l19 c20, v23, v26])))
 | _ => .fail
noncomputable def X25_2 : List Value → M := fun args => match args with
 | [v0, v1, v2, x5, x6] => .kPtr v0 fun x0 => .kPtr v1 fun x1 => .kSl v2 fun a2 l3 c4 => 
 .cmpV .neq .i64 x6 (.int .i64 (0 : Int)) fun t7 =>
 .bool t7 (
 .ret (.tuple #[])) (
 .onS x1 fun a8 =>
 .ldn a8.block a8.off 5 fun cs9 =>
 .eqv 38 (.agg cs9) (.agg #[.int .i64 (0 : Int), .int .i64 (0 : Int), .int .i64 (0 : Int), .int .i64 (0 : Int), .int .i64 (0 : Int)]) fun r10 =>
 .bool (!r10) (
 .onS x1 fun a11 =>
 .ld a11.block (a11.off + 3) fun v12 =>
 .tyI .i64 v12 fun v13 =>
 .onS x1 fun a14 =>
 .ldn a14.block a14.off 5 fun cs15 =>
 .call 52 [.pointer x0, v13, .agg cs15] fun r16 =>
 .jmp 5 [.pointer x0, .slice a2 l3 c4, x5]) (
 .jmp 5 [.pointer x0, .slice a2 l3 c4, x5]))
 | _ => .fail
noncomputable def X25_5 : List Value → M := fun args => match args with
 | [v0, v1, x4] => .kPtr v0 fun x0 => .kSl v1 fun a1 l2 c3 => 
 .fxI ((l2 : Nat) : Int) fun n5 =>
 .jmp 100006 [.pointer x0, x4, .slice a1 l2 c3, .int .i64 n5, .int .i64 (0 : Int)]
 | _ => .fail
noncomputable def X25_100006 : List Value → M := fun args => match args with
 | [v0, x1, v2, v3, v4] => .kPtr v0 fun x0 => .kSl v2 fun a2 l3 c4 => .kInt .i64 v3 fun x5 => .kInt .i64 v4 fun x6 => 
 .cmp .lss x6 x5 fun t7 =>
 .bool t7 (
 .onS a2 fun a8 =>
 .inb x6 l3 (
 .ldn ((a8.add (x6.toNat * 10)).block) ((a8.add (x6.toNat * 10)).off) 10 fun cs9 =>
 .new (.cells [.int .i64 (0 : Int), .int .i64 (0 : Int), .int .i64 (0 : Int), .int .i64 (0 : Int), .int .i64 (0 : Int), .int .i64 (0 : Int), .bool false, .bool false, .string (⟨#[]⟩ : ByteArray), .string (⟨#[]⟩ : ByteArray)] 0 true) fun b10 =>
 .st 10 (⟨b10, 0, none⟩ : Addr) (.agg cs9) (
 .ldn b10 0 10 fun cs12 =>
 .call 53 [.pointer x0, x1, .agg cs12] fun r13 =>
 .wr .i64 (x6 + (1 : Int)) fun n14 =>
 .jmp 100006 [.pointer x0, x1, .slice a2 l3 c4, .int .i64 x5, .int .i64 n14]))) (
 .ret (.tuple #[]))
 | _ => .fail
noncomputable def cuts25 : Cuts := [(100006, [0, 6, 35, 36, 37]), (5, [0, 5, 6]), (2, [0, 4, 5, 6, 7])]
noncomputable def L25 : Places := [(2, X25_2, todoOf Tryz.f25 2), (5, X25_5, todoOf Tryz.f25 5), (100006, X25_100006, todoOf Tryz.f25 100006)]
noncomputable def k25 : FCode := .of X25 L25 cuts25
theorem o25_2 : OOk Tryz.prog Tryz.f25 cuts25 L25 (2, X25_2, todoOf Tryz.f25 2) := by
  intro vs Γ m H r h; replace h : (X25_2 vs).run _ _ _ _ = _ := h; unfold X25_2 at h; split at h
  · replace h := M.iPtr h; obtain ⟨_, rfl, h⟩ := h; replace h := M.iPtr h; obtain ⟨_, rfl, h⟩ := h; replace h := M.iSl h; obtain ⟨_, _, _, rfl, h⟩ := h; exact Eq.trans (by kernel_rfl) h
  · exact M.iFail h
theorem o25_5 : OOk Tryz.prog Tryz.f25 cuts25 L25 (5, X25_5, todoOf Tryz.f25 5) := by
  intro vs Γ m H r h; replace h : (X25_5 vs).run _ _ _ _ = _ := h; unfold X25_5 at h; split at h
  · replace h := M.iPtr h; obtain ⟨_, rfl, h⟩ := h; replace h := M.iSl h; obtain ⟨_, _, _, rfl, h⟩ := h; exact Eq.trans (by kernel_rfl) h
  · exact M.iFail h
theorem o25_100006 : OOk Tryz.prog Tryz.f25 cuts25 L25 (100006, X25_100006, todoOf Tryz.f25 100006) := by
  intro vs Γ m H r h; replace h : (X25_100006 vs).run _ _ _ _ = _ := h; unfold X25_100006 at h; split at h
  · replace h := M.iPtr h; obtain ⟨_, rfl, h⟩ := h; replace h := M.iSl h; obtain ⟨_, _, _, rfl, h⟩ := h; replace h := M.iInt h; obtain ⟨_, rfl, h⟩ := h; replace h := M.iInt h; obtain ⟨_, rfl, h⟩ := h; exact Eq.trans (by kernel_rfl) h
  · exact M.iFail h
theorem h25 : XOk Tryz.prog Tryz.f25 cuts25 L25 X25 := by
  intro Γ m args H r h; unfold X25 at h; split at h
  · replace h := M.iPtr h; obtain ⟨_, rfl, h⟩ := h; replace h := M.iAgg h; obtain ⟨_, rfl, h⟩ := h; exact ⟨Eq.trans (by kernel_rfl) h, Nat.le_of_ble_eq_true (by kernel_rfl)⟩
  · exact M.iFail h
theorem K25 : CodeOk Tryz.prog 25 k25 := .of Tryz.func25 (by kernel_rfl) (by kernel_rfl) h25 (fc o25_2 (fc o25_5 (fc o25_100006 fe)))
-- sternpost/ip.Decode
noncomputable def X26 : List Value → M := fun args => match args with
 | [v0] => .kStr v0 fun x0 => 
 .new (.cells [.string x0] 0 true) fun b1 =>
 .new (.cells [.int .i64 (0 : Int), .int .i64 (0 : Int), .int .i64 (0 : Int), .int .i64 (0 : Int), .int .i64 (0 : Int), .int .i64 (0 : Int), .bool false, .bool false, .string (⟨#[]⟩ : ByteArray), .string (⟨#[]⟩ : ByteArray)] 0 true) fun b2 =>
 .ld b1 0 fun v3 =>
 .kStr v3 fun s4 =>
 .cmp .lss (s4.size : Int) (20 : Int) fun t5 =>
 .bool t5 (
 .jmp 2 [.pointer (some (⟨b2, 0, none⟩ : Addr))]) (
 .ld b1 0 fun v6 =>
 .kStr v6 fun s7 =>
 .inb (0 : Int) s7.size (
 .byte s7 (0 : Int).toNat fun n8 =>
 .nite ((4 : Int) < 0) (
 .cmp .neq (n8 / 2 ^ (min (4 : Int).toNat IntKind.u8.bits)) (4 : Int) fun t9 =>
 .bool t9 (
 .jmp 2 [.pointer (some (⟨b2, 0, none⟩ : Addr))]) (
 .ld b1 0 fun v10 =>
 .kStr v10 fun s11 =>
 .inb (0 : Int) s11.size (
 .byte s11 (0 : Int).toNat fun n12 =>
 .wr .i64 (bits .and .u8 n12 (15 : Int)) fun n13 =>
 .wr .i64 (n13 * (4 : Int)) fun n14 =>
 .snap b1 fun o15 =>
 .call 54 [.int .i64 (2 : Int), .int .i64 (2 : Int), .pointer (some (⟨b1, 0, none⟩ : Addr))] fun r16 =>
 .tyI .i64 r16 fun v17 =>
 .same b1 o15 (
 .jmp 5 [.pointer (some (⟨b1, 0, none⟩ : Addr)), .pointer (some (⟨b2, 0, none⟩ : Addr)), .func (.func 54) #[] #[.pointer (some (⟨b1, 0, none⟩ : Addr))], .int .i64 n14, v17]))))))
 | _ => .fail
noncomputable def X26_2 : List Value → M := fun args => match args with
 | [v0] => .kPtr v0 fun x0 => 
 .onS x0 fun a1 =>
 .st 10 a1 (.agg #[.int .i64 (0 : Int), .int .i64 (0 : Int), .int .i64 (0 : Int), .int .i64 (0 : Int), .int .i64 (0 : Int), .int .i64 (0 : Int), .bool false, .bool false, .string (⟨#[]⟩ : ByteArray), .string (⟨#[]⟩ : ByteArray)]) (
 .onS x0 fun a3 =>
 .ldn a3.block a3.off 10 fun cs4 =>
 .ret (.tuple #[.agg cs4, .int .i64 (50 : Int)]))
 | _ => .fail
noncomputable def X26_5 : List Value → M := fun args => match args with
 | [v0, v1, x2, v3, x4] => .kPtr v0 fun x0 => .kPtr v1 fun x1 => .kInt .i64 v3 fun x3 => 
 .cmp .lss x3 (20 : Int) fun t5 =>
 .bool t5 (
 .jmp 6 [.pointer x1]) (
 .onS x0 fun a6 =>
 .ld a6.block a6.off fun v7 =>
 .kStr v7 fun s8 =>
 .cmp .gtr x3 (s8.size : Int) fun t9 =>
 .bool t9 (
 .jmp 6 [.pointer x1]) (
 .cmpV .lss .i64 x4 (.int .i64 x3) fun t10 =>
 .bool t10 (
 .jmp 6 [.pointer x1]) (
 .onS x0 fun a11 =>
 .ld a11.block a11.off fun v12 =>
 .kStr v12 fun s13 =>
 .cmpV .gtr .i64 x4 (.int .i64 (s13.size : Int)) fun t14 =>
 .bool t14 (
 .jmp 6 [.pointer x1]) (
 .onS x0 fun a15 =>
 .ld a15.block a15.off fun v16 =>
 .kStr v16 fun s17 =>
 .slStr s17 (0 : Int) x3 fun s19 =>
 .call 55 [.string s19] fun r20 =>
 .kBool r20 fun b21 =>
 .bool (!b21) (
 .onS x1 fun a22 =>
 .st 10 a22 (.agg #[.int .i64 (0 : Int), .int .i64 (0 : Int), .int .i64 (0 : Int), .int .i64 (0 : Int), .int .i64 (0 : Int), .int .i64 (0 : Int), .bool false, .bool false, .string (⟨#[]⟩ : ByteArray), .string (⟨#[]⟩ : ByteArray)]) (
 .onS x1 fun a24 =>
 .ldn a24.block a24.off 10 fun cs25 =>
 .ret (.tuple #[.agg cs25, .int .i64 (20 : Int)]))) (
 .callV x2 [.int .i64 (6 : Int), .int .i64 (2 : Int)] fun r26 =>
 .tyI .i64 r26 fun v27 =>
 .arV .and .i64 v27 (.int .i64 (8191 : Int)) fun v28 =>
 .arV .and .i64 v27 (.int .i64 (8192 : Int)) fun v29 =>
 .cmpV .gtr .i64 v29 (.int .i64 (0 : Int)) fun t30 =>
 .arV .and .i64 v27 (.int .i64 (16384 : Int)) fun v31 =>
 .cmpV .gtr .i64 v31 (.int .i64 (0 : Int)) fun t32 =>
 .onS x0 fun a33 =>
 .ld a33.block a33.off fun v34 =>
 .kStr v34 fun s35 =>
 .opt (onSome x0 fun z => some z.block : Option Nat) (
 .slStr s35 (20 : Int) x3 fun s103 =>
 .onS x0 fun a104 =>
 .ld a104.block a104.off fun v105 =>
 .kStr v105 fun s106 =>
 .opt (onSome x0 fun z => some z.block : Option Nat) (
 .kAnyInt x4 fun k135 n136 =>
 .slStr s106 x3 n136 fun s138 =>
 .new (.cells [.int .i64 (0 : Int), .int .i64 (0 : Int), .int .i64 (0 : Int), .int .i64 (0 : Int), .int .i64 (0 : Int), .int .i64 (0 : Int), .bool false, .bool false, .string (⟨#[]⟩ : ByteArray), .string (⟨#[]⟩ : ByteArray)] 0 true) fun b139 =>
 .snap b139 fun o140 =>
 .callV x2 [.int .i64 (12 : Int), .int .i64 (4 : Int)] fun r141 =>
 .tyI .i64 r141 fun v142 =>
 .same b139 o140 (
 .snap b139 fun o143 =>
 .callV x2 [.int .i64 (16 : Int), .int .i64 (4 : Int)] fun r144 =>
 .tyI .i64 r144 fun v145 =>
 .same b139 o143 (
 .snap b139 fun o146 =>
 .callV x2 [.int .i64 (8 : Int), .int .i64 (1 : Int)] fun r147 =>
 .tyI .i64 r147 fun v148 =>
 .same b139 o146 (
 .snap b139 fun o149 =>
 .callV x2 [.int .i64 (9 : Int), .int .i64 (1 : Int)] fun r150 =>
 .tyI .i64 r150 fun v151 =>
 .same b139 o149 (
 .snap b139 fun o152 =>
 .callV x2 [.int .i64 (4 : Int), .int .i64 (2 : Int)] fun r153 =>
 .tyI .i64 r153 fun v154 =>
 .same b139 o152 (
 .cellsOks [v142, v145, v148, v151, v154, v28, .bool t30, .bool t32, .string s103, .string s138] (.onS (Program.built Tryz.prog 40 (([0, 1, 2, 3, 4, 5, 6, 7, 8, 9] : List Nat).zip [v142, v145, v148, v151, v154, v28, .bool t30, .bool t32, .string s103, .string s138])) fun cells155q =>
 .fxV (.agg cells155q) fun cells155v =>
 .kAgg cells155v fun cells155 =>
 .st 10 (⟨b139, 0, none⟩ : Addr) (.agg cells155) (
 .jmp 11 [.pointer x0, .pointer x1, v27, .pointer (some (⟨b139, 0, none⟩ : Addr))])))))))) (fun blk107 =>
 .kAnyInt x4 fun k108 n109 =>
 .slStr s106 x3 n109 fun s111 =>
 .new (.cells [.int .i64 (0 : Int), .int .i64 (0 : Int), .int .i64 (0 : Int), .int .i64 (0 : Int), .int .i64 (0 : Int), .int .i64 (0 : Int), .bool false, .bool false, .string (⟨#[]⟩ : ByteArray), .string (⟨#[]⟩ : ByteArray)] 0 true) fun b112 =>
 .snap b112 fun o113 =>
 .snap blk107 fun o114 =>
 .callV x2 [.int .i64 (12 : Int), .int .i64 (4 : Int)] fun r115 =>
 .tyI .i64 r115 fun v116 =>
 .same b112 o113 (
 .same blk107 o114 (
 .snap b112 fun o117 =>
 .snap blk107 fun o118 =>
 .callV x2 [.int .i64 (16 : Int), .int .i64 (4 : Int)] fun r119 =>
 .tyI .i64 r119 fun v120 =>
 .same b112 o117 (
 .same blk107 o118 (
 .snap b112 fun o121 =>
 .snap blk107 fun o122 =>
 .callV x2 [.int .i64 (8 : Int), .int .i64 (1 : Int)] fun r123 =>
 .tyI .i64 r123 fun v124 =>
 .same b112 o121 (
 .same blk107 o122 (
 .snap b112 fun o125 =>
 .snap blk107 fun o126 =>
 .callV x2 [.int .i64 (9 : Int), .int .i64 (1 : Int)] fun r127 =>
 .tyI .i64 r127 fun v128 =>
 .same b112 o125 (
 .same blk107 o126 (
 .snap b112 fun o129 =>
 .snap blk107 fun o130 =>
 .callV x2 [.int .i64 (4 : Int), .int .i64 (2 : Int)] fun r131 =>
 .tyI .i64 r131 fun v132 =>
 .same b112 o129 (
 .same blk107 o130 (
 .cellsOks [v116, v120, v124, v128, v132, v28, .bool t30, .bool t32, .string s103, .string s111] (.onS (Program.built Tryz.prog 40 (([0, 1, 2, 3, 4, 5, 6, 7, 8, 9] : List Nat).zip [v116, v120, v124, v128, v132, v28, .bool t30, .bool t32, .string s103, .string s111])) fun cells133q =>
 .fxV (.agg cells133q) fun cells133v =>
 .kAgg cells133v fun cells133 =>
 .st 10 (⟨b112, 0, none⟩ : Addr) (.agg cells133) (
 .jmp 11 [.pointer x0, .pointer x1, v27, .pointer (some (⟨b112, 0, none⟩ : Addr))])))))))))))))) (fun blk36 =>
 .slStr s35 (20 : Int) x3 fun s38 =>
 .onS x0 fun a39 =>
 .ld a39.block a39.off fun v40 =>
 .kStr v40 fun s41 =>
 .opt (onSome x0 fun z => some z.block : Option Nat) (
 .kAnyInt x4 fun k75 n76 =>
 .slStr s41 x3 n76 fun s78 =>
 .new (.cells [.int .i64 (0 : Int), .int .i64 (0 : Int), .int .i64 (0 : Int), .int .i64 (0 : Int), .int .i64 (0 : Int), .int .i64 (0 : Int), .bool false, .bool false, .string (⟨#[]⟩ : ByteArray), .string (⟨#[]⟩ : ByteArray)] 0 true) fun b79 =>
 .snap b79 fun o80 =>
 .snap blk36 fun o81 =>
 .callV x2 [.int .i64 (12 : Int), .int .i64 (4 : Int)] fun r82 =>
 .tyI .i64 r82 fun v83 =>
 .same b79 o80 (
 .same blk36 o81 (
 .snap b79 fun o84 =>
 .snap blk36 fun o85 =>
 .callV x2 [.int .i64 (16 : Int), .int .i64 (4 : Int)] fun r86 =>
 .tyI .i64 r86 fun v87 =>
 .same b79 o84 (
 .same blk36 o85 (
 .snap b79 fun o88 =>
 .snap blk36 fun o89 =>
 .callV x2 [.int .i64 (8 : Int), .int .i64 (1 : Int)] fun r90 =>
 .tyI .i64 r90 fun v91 =>
 .same b79 o88 (
 .same blk36 o89 (
 .snap b79 fun o92 =>
 .snap blk36 fun o93 =>
 .callV x2 [.int .i64 (9 : Int), .int .i64 (1 : Int)] fun r94 =>
 .tyI .i64 r94 fun v95 =>
 .same b79 o92 (
 .same blk36 o93 (
 .snap b79 fun o96 =>
 .snap blk36 fun o97 =>
 .callV x2 [.int .i64 (4 : Int), .int .i64 (2 : Int)] fun r98 =>
 .tyI .i64 r98 fun v99 =>
 .same b79 o96 (
 .same blk36 o97 (
 .cellsOks [v83, v87, v91, v95, v99, v28, .bool t30, .bool t32, .string s38, .string s78] (.onS (Program.built Tryz.prog 40 (([0, 1, 2, 3, 4, 5, 6, 7, 8, 9] : List Nat).zip [v83, v87, v91, v95, v99, v28, .bool t30, .bool t32, .string s38, .string s78])) fun cells100q =>
 .fxV (.agg cells100q) fun cells100v =>
 .kAgg cells100v fun cells100 =>
 .st 10 (⟨b79, 0, none⟩ : Addr) (.agg cells100) (
 .jmp 11 [.pointer x0, .pointer x1, v27, .pointer (some (⟨b79, 0, none⟩ : Addr))]))))))))))))) (fun blk42 =>
 .kAnyInt x4 fun k43 n44 =>
 .slStr s41 x3 n44 fun s46 =>
 .new (.cells [.int .i64 (0 : Int), .int .i64 (0 : Int), .int .i64 (0 : Int), .int .i64 (0 : Int), .int .i64 (0 : Int), .int .i64 (0 : Int), .bool false, .bool false, .string (⟨#[]⟩ : ByteArray), .string (⟨#[]⟩ : ByteArray)] 0 true) fun b47 =>
 .snap b47 fun o48 =>
 .snap blk42 fun o49 =>
 .snap blk36 fun o50 =>
 .callV x2 [.int .i64 (12 : Int), .int .i64 (4 : Int)] fun r51 =>
 .tyI .i64 r51 fun v52 =>
 .same b47 o48 (
 .same blk42 o49 (
 .same blk36 o50 (
 .snap b47 fun o53 =>
 .snap blk42 fun o54 =>
 .snap blk36 fun o55 =>
 .callV x2 [.int .i64 (16 : Int), .int .i64 (4 : Int)] fun r56 =>
 .tyI .i64 r56 fun v57 =>
 .same b47 o53 (
 .same blk42 o54 (
 .same blk36 o55 (
 .snap b47 fun o58 =>
 .snap blk42 fun o59 =>
 .snap blk36 fun o60 =>
 .callV x2 [.int .i64 (8 : Int), .int .i64 (1 : Int)] fun r61 =>
 .tyI .i64 r61 fun v62 =>
 .same b47 o58 (
 .same blk42 o59 (
 .same blk36 o60 (
 .snap b47 fun o63 =>
 .snap blk42 fun o64 =>
 .snap blk36 fun o65 =>
 .callV x2 [.int .i64 (9 : Int), .int .i64 (1 : Int)] fun r66 =>
 .tyI .i64 r66 fun v67 =>
 .same b47 o63 (
 .same blk42 o64 (
 .same blk36 o65 (
 .snap b47 fun o68 =>
 .snap blk42 fun o69 =>
 .snap blk36 fun o70 =>
 .callV x2 [.int .i64 (4 : Int), .int .i64 (2 : Int)] fun r71 =>
 .tyI .i64 r71 fun v72 =>
 .same b47 o68 (
 .same blk42 o69 (
 .same blk36 o70 (
 .cellsOks [v52, v57, v62, v67, v72, v28, .bool t30, .bool t32, .string s38, .string s46] (.onS (Program.built Tryz.prog 40 (([0, 1, 2, 3, 4, 5, 6, 7, 8, 9] : List Nat).zip [v52, v57, v62, v67, v72, v28, .bool t30, .bool t32, .string s38, .string s46])) fun cells73q =>
 .fxV (.agg cells73q) fun cells73v =>
 .kAgg cells73v fun cells73 =>
 .st 10 (⟨b47, 0, none⟩ : Addr) (.agg cells73) (
 .jmp 11 [.pointer x0, .pointer x1, v27, .pointer (some (⟨b47, 0, none⟩ : Addr))]))))))))))))))))))))))))
 | _ => .fail
noncomputable def X26_6 : List Value → M := fun args => match args with
 | [v0] => .kPtr v0 fun x0 => 
 .onS x0 fun a1 =>
 .st 10 a1 (.agg #[.int .i64 (0 : Int), .int .i64 (0 : Int), .int .i64 (0 : Int), .int .i64 (0 : Int), .int .i64 (0 : Int), .int .i64 (0 : Int), .bool false, .bool false, .string (⟨#[]⟩ : ByteArray), .string (⟨#[]⟩ : ByteArray)]) (
 .onS x0 fun a3 =>
 .ldn a3.block a3.off 10 fun cs4 =>
 .ret (.tuple #[.agg cs4, .int .i64 (50 : Int)]))
 | _ => .fail
noncomputable def X26_11 : List Value → M := fun args => match args with
 | [v0, v1, x2, v3] => .kPtr v0 fun x0 => .kPtr v1 fun x1 => .kPtr v3 fun x3 => 
 .onS x0 fun a4 =>
 .ld a4.block a4.off fun v5 =>
 .kStr v5 fun s6 =>
 .inb (1 : Int) s6.size (
 .byte s6 (1 : Int).toNat fun n7 =>
 .cmp .gtr n7 (0 : Int) fun t8 =>
 .bool t8 (
 .jmp 12 [.pointer x1]) (
 .arV .and .i64 x2 (.int .i64 (32768 : Int)) fun v9 =>
 .cmpV .gtr .i64 v9 (.int .i64 (0 : Int)) fun t10 =>
 .bool t10 (
 .jmp 12 [.pointer x1]) (
 .onS x3 fun a11 =>
 .ldn a11.block a11.off 10 fun cs12 =>
 .call 56 [.agg cs12] fun r13 =>
 .tyI .i64 r13 fun v14 =>
 .cmpV .neq .i64 v14 (.int .i64 (0 : Int)) fun t15 =>
 .bool t15 (
 .jmp 12 [.pointer x1]) (
 .onS x3 fun a16 =>
 .ldn a16.block a16.off 10 fun cs17 =>
 .onS x1 fun a18 =>
 .st 10 a18 (.agg cs17) (
 .onS x1 fun a20 =>
 .ldn a20.block a20.off 10 fun cs21 =>
 .ret (.tuple #[.agg cs21, .int .i64 (0 : Int)]))))))
 | _ => .fail
noncomputable def X26_12 : List Value → M := fun args => match args with
 | [v0] => .kPtr v0 fun x0 => 
 .onS x0 fun a1 =>
 .st 10 a1 (.agg #[.int .i64 (0 : Int), .int .i64 (0 : Int), .int .i64 (0 : Int), .int .i64 (0 : Int), .int .i64 (0 : Int), .int .i64 (0 : Int), .bool false, .bool false, .string (⟨#[]⟩ : ByteArray), .string (⟨#[]⟩ : ByteArray)]) (
 .onS x0 fun a3 =>
 .ldn a3.block a3.off 10 fun cs4 =>
 .ret (.tuple #[.agg cs4, .int .i64 (50 : Int)]))
 | _ => .fail
noncomputable def cuts26 : Cuts := [(12, [2]), (11, [1, 2, 7, 8]), (6, [2]), (5, [1, 2, 4, 5, 6]), (2, [2])]
noncomputable def L26 : Places := [(2, X26_2, todoOf Tryz.f26 2), (5, X26_5, todoOf Tryz.f26 5), (6, X26_6, todoOf Tryz.f26 6), (11, X26_11, todoOf Tryz.f26 11), (12, X26_12, todoOf Tryz.f26 12)]
noncomputable def k26 : FCode := .of X26 L26 cuts26
theorem o26_2 : OOk Tryz.prog Tryz.f26 cuts26 L26 (2, X26_2, todoOf Tryz.f26 2) := by
  intro vs Γ m H r h; replace h : (X26_2 vs).run _ _ _ _ = _ := h; unfold X26_2 at h; split at h
  · replace h := M.iPtr h; obtain ⟨_, rfl, h⟩ := h; exact Eq.trans (by kernel_rfl) h
  · exact M.iFail h
theorem o26_5 : OOk Tryz.prog Tryz.f26 cuts26 L26 (5, X26_5, todoOf Tryz.f26 5) := by
  intro vs Γ m H r h; replace h : (X26_5 vs).run _ _ _ _ = _ := h; unfold X26_5 at h; split at h
  · replace h := M.iPtr h; obtain ⟨_, rfl, h⟩ := h; replace h := M.iPtr h; obtain ⟨_, rfl, h⟩ := h; replace h := M.iInt h; obtain ⟨_, rfl, h⟩ := h; exact Eq.trans (by kernel_rfl) h
  · exact M.iFail h
theorem o26_6 : OOk Tryz.prog Tryz.f26 cuts26 L26 (6, X26_6, todoOf Tryz.f26 6) := by
  intro vs Γ m H r h; replace h : (X26_6 vs).run _ _ _ _ = _ := h; unfold X26_6 at h; split at h
  · replace h := M.iPtr h; obtain ⟨_, rfl, h⟩ := h; exact Eq.trans (by kernel_rfl) h
  · exact M.iFail h
theorem o26_11 : OOk Tryz.prog Tryz.f26 cuts26 L26 (11, X26_11, todoOf Tryz.f26 11) := by
  intro vs Γ m H r h; replace h : (X26_11 vs).run _ _ _ _ = _ := h; unfold X26_11 at h; split at h
  · replace h := M.iPtr h; obtain ⟨_, rfl, h⟩ := h; replace h := M.iPtr h; obtain ⟨_, rfl, h⟩ := h; replace h := M.iPtr h; obtain ⟨_, rfl, h⟩ := h; exact Eq.trans (by kernel_rfl) h
  · exact M.iFail h
theorem o26_12 : OOk Tryz.prog Tryz.f26 cuts26 L26 (12, X26_12, todoOf Tryz.f26 12) := by
  intro vs Γ m H r h; replace h : (X26_12 vs).run _ _ _ _ = _ := h; unfold X26_12 at h; split at h
  · replace h := M.iPtr h; obtain ⟨_, rfl, h⟩ := h; exact Eq.trans (by kernel_rfl) h
  · exact M.iFail h
theorem h26 : XOk Tryz.prog Tryz.f26 cuts26 L26 X26 := by
  intro Γ m args H r h; unfold X26 at h; split at h
  · replace h := M.iStr h; obtain ⟨_, rfl, h⟩ := h; exact ⟨Eq.trans (by kernel_rfl) h, Nat.le_of_ble_eq_true (by kernel_rfl)⟩
  · exact M.iFail h
theorem K26 : CodeOk Tryz.prog 26 k26 := .of Tryz.func26 (by kernel_rfl) (by kernel_rfl) h26 (fc o26_2 (fc o26_5 (fc o26_6 (fc o26_11 (fc o26_12 fe)))))
-- WARN 26: build of an unknown part
-- (*sternpost/host.Host).mine
noncomputable def X27 : List Value → M := fun args => match args with
 | [v0, x1] => .kPtr v0 fun x0 => 
 .onS x0 fun a2 =>
 .ld a2.block (a2.off + 21) fun v3 =>
 .kPtr v3 fun p4 =>
 .call 57 [.pointer p4] fun r5 =>
 .kSl r5 fun a6 l7 c8 =>
 .fxI ((l7 : Nat) : Int) fun n9 =>
 .jmp 100002 [x1, .slice a6 l7 c8, .int .i64 n9, .int .i64 (0 : Int)]
 | _ => .fail
noncomputable def X27_100002 : List Value → M := fun args => match args with
 | [x0, v1, v2, v3] => .kSl v1 fun a1 l2 c3 => .kInt .i64 v2 fun x4 => .kInt .i64 v3 fun x5 => 
 .cmp .lss x5 x4 fun t6 =>
 .bool t6 (
 .onS a1 fun a7 =>
 .inb x5 l2 (
 .ld ((a7.add (x5.toNat * 1)).block) ((a7.add (x5.toNat * 1)).off) fun v8 =>
 .tyI .i64 v8 fun v9 =>
 .cmpV .eql .i64 v9 x0 fun t10 =>
 .bool t10 (
 .ret (.bool true)) (
 .wr .i64 (x5 + (1 : Int)) fun n11 =>
 .jmp 100002 [x0, .slice a1 l2 c3, .int .i64 x4, .int .i64 n11]))) (
 .ret (.bool false))
 | _ => .fail
noncomputable def cuts27 : Cuts := [(100002, [1, 11, 12, 13])]
noncomputable def L27 : Places := [(100002, X27_100002, todoOf Tryz.f27 100002)]
noncomputable def k27 : FCode := .of X27 L27 cuts27
theorem o27_100002 : OOk Tryz.prog Tryz.f27 cuts27 L27 (100002, X27_100002, todoOf Tryz.f27 100002) := by
  intro vs Γ m H r h; replace h : (X27_100002 vs).run _ _ _ _ = _ := h; unfold X27_100002 at h; split at h
  · replace h := M.iSl h; obtain ⟨_, _, _, rfl, h⟩ := h; replace h := M.iInt h; obtain ⟨_, rfl, h⟩ := h; replace h := M.iInt h; obtain ⟨_, rfl, h⟩ := h; exact Eq.trans (by kernel_rfl) h
  · exact M.iFail h
theorem h27 : XOk Tryz.prog Tryz.f27 cuts27 L27 X27 := by
  intro Γ m args H r h; unfold X27 at h; split at h
  · replace h := M.iPtr h; obtain ⟨_, rfl, h⟩ := h; exact ⟨Eq.trans (by kernel_rfl) h, Nat.le_of_ble_eq_true (by kernel_rfl)⟩
  · exact M.iFail h
theorem K27 : CodeOk Tryz.prog 27 k27 := .of Tryz.func27 (by kernel_rfl) (by kernel_rfl) h27 (fc o27_100002 fe)
-- (*sternpost/host.Host).take
noncomputable def X28 : List Value → M := fun args => match args with
 | [v0, v1] => .kPtr v0 fun x0 => .kAgg v1 fun x1 => 
 .new (.cells x1.toList 0 true) fun b2 =>
 .onS x0 fun a3 =>
 .ld a3.block (a3.off + 22) fun v4 =>
 .kPtr v4 fun p5 =>
 .ldn b2 0 10 fun cs6 =>
 .onS x0 fun a7 =>
 .ld a7.block (a7.off + 24) fun v8 =>
 .tyI .i64 v8 fun v9 =>
 .call 58 [.pointer p5, .agg cs6, v9] fun r10 =>
 .kTup r10 fun vs11 =>
 .nthA vs11 0 fun v12 =>
 .kAgg v12 fun cs13 =>
 .ite (cs13.size = 10) (
 .kTup r10 fun vs14 =>
 .nthA vs14 1 fun v15 =>
 .kBool v15 fun b16 =>
 .kTup r10 fun vs17 =>
 .nthA vs17 2 fun v18 =>
 .tyI .i64 v18 fun v19 =>
 .st 10 (⟨b2, 0, none⟩ : Addr) (.agg cs13) (
 .jmp 2 [.pointer x0, .pointer (some (⟨b2, 0, none⟩ : Addr)), .bool b16, v19]))
 | _ => .fail
noncomputable def X28_2 : List Value → M := fun args => match args with
 | [v0, v1, v2, x3] => .kPtr v0 fun x0 => .kPtr v1 fun x1 => .kBool v2 fun x2 => 
 .cmpV .neq .i64 x3 (.int .i64 (0 : Int)) fun t4 =>
 .bool t4 (
 .ret (.tuple #[])) (
 .bool (!x2) (
 .ret (.tuple #[])) (
 .onS x1 fun a5 =>
 .ldn a5.block a5.off 10 fun cs6 =>
 .call 33 [.agg cs6] fun r7 =>
 .kTup r7 fun vs8 =>
 .nthA vs8 0 fun v9 =>
 .kAgg v9 fun cs10 =>
 .ite (cs10.size = 41) (
 .kTup r7 fun vs11 =>
 .nthA vs11 1 fun v12 =>
 .new (.cells [.int .i64 (0 : Int), .int .i64 (0 : Int), .int .i64 (0 : Int), .int .i64 (0 : Int), .string (⟨#[]⟩ : ByteArray), .int .i64 (0 : Int), .int .i64 (0 : Int), .int .i64 (0 : Int), .int .i64 (0 : Int), .int .i64 (0 : Int), .int .i64 (0 : Int), .int .i64 (0 : Int), .int .i64 (0 : Int), .int .i64 (0 : Int), .int .i64 (0 : Int), .int .i64 (0 : Int), .bool false, .bool false, .string (⟨#[]⟩ : ByteArray), .string (⟨#[]⟩ : ByteArray), .int .i64 (0 : Int), .int .i64 (0 : Int), .int .i64 (0 : Int), .int .i64 (0 : Int), .string (⟨#[]⟩ : ByteArray), .int .i64 (0 : Int), .int .i64 (0 : Int), .int .i64 (0 : Int), .int .i64 (0 : Int), .int .i64 (0 : Int), .int .i64 (0 : Int), .int .i64 (0 : Int), .int .i64 (0 : Int), .int .i64 (0 : Int), .int .i64 (0 : Int), .int .i64 (0 : Int), .bool false, .bool false, .bool false, .slice none 0 0, .string (⟨#[]⟩ : ByteArray)] 0 true) fun b13 =>
 .st 41 (⟨b13, 0, none⟩ : Addr) (.agg cs10) (
 .call 59 [v12, .int .i64 (90 : Int)] fun r15 =>
 .kBool r15 fun b16 =>
 .bool b16 (
 .onS x1 fun a17 =>
 .ldn a17.block a17.off 10 fun cs18 =>
 .call 60 [.pointer x0, .int .i64 (3 : Int), .int .i64 (2 : Int), .agg cs18] fun r19 =>
 .ret (.tuple #[])) (
 .nilI v12 (.bool (!true) (
 .ret (.tuple #[])) (
 .jmp 7 [.pointer x0, .pointer x1, .pointer (some (⟨b13, 0, none⟩ : Addr))])) (.bool (!false) (
 .ret (.tuple #[])) (
 .jmp 7 [.pointer x0, .pointer x1, .pointer (some (⟨b13, 0, none⟩ : Addr))])))))))
 | _ => .fail
noncomputable def X28_7 : List Value → M := fun args => match args with
 | [v0, v1, v2] => .kPtr v0 fun x0 => .kPtr v1 fun x1 => .kPtr v2 fun x2 => 
 .onS x2 fun a3 =>
 .ld a3.block a3.off fun v4 =>
 .tyI .i64 v4 fun v5 =>
 .cmpV .eql .i64 v5 (.int .i64 (4 : Int)) fun t6 =>
 .bool t6 (
 .onS x1 fun a7 =>
 .ld a7.block (a7.off + 1) fun v8 =>
 .tyI .i64 v8 fun v9 =>
 .onS x0 fun a10 =>
 .ld a10.block (a10.off + 1) fun v11 =>
 .tyI .i64 v11 fun v12 =>
 .cmpV .eql .i64 v9 v12 fun t13 =>
 .bool t13 (
 .onS x0 fun a14 =>
 .ld a14.block (a14.off + 23) fun v15 =>
 .kPtr v15 fun p16 =>
 .onS x1 fun a17 =>
 .ld a17.block a17.off fun v18 =>
 .tyI .i64 v18 fun v19 =>
 .onS x2 fun a20 =>
 .ldn a20.block (a20.off + 25) 16 fun cs21 =>
 .onS x0 fun a22 =>
 .ld a22.block (a22.off + 24) fun v23 =>
 .tyI .i64 v23 fun v24 =>
 .call 61 [.pointer p16, v19, .agg cs21, v24] fun r25 =>
 .kTup r25 fun vs26 =>
 .nthA vs26 0 fun v27 =>
 .kSl v27 fun a28 l29 c30 =>
 .kTup r25 fun vs31 =>
 .nthA vs31 1 fun v32 =>
 .kSl v32 fun a33 l34 c35 =>
 .call 62 [.pointer x0, .slice a28 l29 c30, .slice a33 l34 c35] fun r36 =>
 .ret (.tuple #[])) (
 .jmp 10 [.pointer x0, .pointer x1, .pointer x2])) (
 .jmp 10 [.pointer x0, .pointer x1, .pointer x2])
 | _ => .fail
noncomputable def X28_10 : List Value → M := fun args => match args with
 | [v0, v1, v2] => .kPtr v0 fun x0 => .kPtr v1 fun x1 => .kPtr v2 fun x2 => 
 .onS x2 fun a3 =>
 .ld a3.block a3.off fun v4 =>
 .tyI .i64 v4 fun v5 =>
 .cmpV .eql .i64 v5 (.int .i64 (3 : Int)) fun t6 =>
 .bool t6 (
 .onS x1 fun a7 =>
 .ldn a7.block a7.off 10 fun cs8 =>
 .onS x2 fun a9 =>
 .ldn a9.block (a9.off + 20) 5 fun cs10 =>
 .call 63 [.pointer x0, .agg cs8, .agg cs10] fun r11 =>
 .ret (.tuple #[])) (
 .ret (.tuple #[]))
 | _ => .fail
noncomputable def cuts28 : Cuts := [(10, [0, 3, 6]), (7, [0, 3, 6]), (2, [0, 3, 4, 5])]
noncomputable def L28 : Places := [(2, X28_2, todoOf Tryz.f28 2), (7, X28_7, todoOf Tryz.f28 7), (10, X28_10, todoOf Tryz.f28 10)]
noncomputable def k28 : FCode := .of X28 L28 cuts28
theorem o28_2 : OOk Tryz.prog Tryz.f28 cuts28 L28 (2, X28_2, todoOf Tryz.f28 2) := by
  intro vs Γ m H r h; replace h : (X28_2 vs).run _ _ _ _ = _ := h; unfold X28_2 at h; split at h
  · replace h := M.iPtr h; obtain ⟨_, rfl, h⟩ := h; replace h := M.iPtr h; obtain ⟨_, rfl, h⟩ := h; replace h := M.iBool h; obtain ⟨_, rfl, h⟩ := h; exact Eq.trans (by kernel_rfl) h
  · exact M.iFail h
theorem o28_7 : OOk Tryz.prog Tryz.f28 cuts28 L28 (7, X28_7, todoOf Tryz.f28 7) := by
  intro vs Γ m H r h; replace h : (X28_7 vs).run _ _ _ _ = _ := h; unfold X28_7 at h; split at h
  · replace h := M.iPtr h; obtain ⟨_, rfl, h⟩ := h; replace h := M.iPtr h; obtain ⟨_, rfl, h⟩ := h; replace h := M.iPtr h; obtain ⟨_, rfl, h⟩ := h; exact Eq.trans (by kernel_rfl) h
  · exact M.iFail h
theorem o28_10 : OOk Tryz.prog Tryz.f28 cuts28 L28 (10, X28_10, todoOf Tryz.f28 10) := by
  intro vs Γ m H r h; replace h : (X28_10 vs).run _ _ _ _ = _ := h; unfold X28_10 at h; split at h
  · replace h := M.iPtr h; obtain ⟨_, rfl, h⟩ := h; replace h := M.iPtr h; obtain ⟨_, rfl, h⟩ := h; replace h := M.iPtr h; obtain ⟨_, rfl, h⟩ := h; exact Eq.trans (by kernel_rfl) h
  · exact M.iFail h
theorem h28 : XOk Tryz.prog Tryz.f28 cuts28 L28 X28 := by
  intro Γ m args H r h; unfold X28 at h; split at h
  · replace h := M.iPtr h; obtain ⟨_, rfl, h⟩ := h; replace h := M.iAgg h; obtain ⟨_, rfl, h⟩ := h; exact ⟨Eq.trans (by kernel_rfl) h, Nat.le_of_ble_eq_true (by kernel_rfl)⟩
  · exact M.iFail h
theorem K28 : CodeOk Tryz.prog 28 k28 := .of Tryz.func28 (by kernel_rfl) (by kernel_rfl) h28 (fc o28_2 (fc o28_7 (fc o28_10 fe)))
-- sternpost/arp.Claim
noncomputable def X29 : List Value → M := fun args => match args with
 | [x0, x1] => 
 .new (.cells [.int .i64 (0 : Int), .int .i64 (0 : Int), .int .i64 (0 : Int), .int .i64 (0 : Int), .int .i64 (0 : Int)] 0 true) fun b2 =>
 .call 64 [x0, x1, x1] fun r3 =>
 .kTup r3 fun vs4 =>
 .nthA vs4 0 fun v5 =>
 .kAgg v5 fun cs6 =>
 .ite (cs6.size = 5) (
 .kTup r3 fun vs7 =>
 .nthA vs7 1 fun v8 =>
 .tyI .i64 v8 fun v9 =>
 .st 5 (⟨b2, 0, none⟩ : Addr) (.agg cs6) (
 .ldn b2 0 5 fun cs11 =>
 .ret (.tuple #[.agg cs11, v9])))
 | _ => .fail
noncomputable def cuts29 : Cuts := []
noncomputable def L29 : Places := []
noncomputable def k29 : FCode := .of X29 L29 cuts29
theorem h29 : XOk Tryz.prog Tryz.f29 cuts29 L29 X29 := by
  intro Γ m args H r h; unfold X29 at h; split at h
  · exact ⟨Eq.trans (by kernel_rfl) h, Nat.le_of_ble_eq_true (by kernel_rfl)⟩
  · exact M.iFail h
theorem K29 : CodeOk Tryz.prog 29 k29 := .of Tryz.func29 (by kernel_rfl) (by kernel_rfl) h29 fe
-- sternpost/arp.Encode
noncomputable def X30 : List Value → M := fun args => match args with
 | [v0] => .kAgg v0 fun x0 => 
 .new (.cells x0.toList 0 true) fun b1 =>
 .ldn b1 0 5 fun cs2 =>
 .call 65 [.agg cs2] fun r3 =>
 .tyI .i64 r3 fun v4 =>
 .cmpV .neq .i64 v4 (.int .i64 (0 : Int)) fun t5 =>
 .bool t5 (
 .ret (.tuple #[.string (⟨#[]⟩ : ByteArray), v4])) (
 .call 49 [.pointer (some (⟨b1, 0, none⟩ : Addr))] fun r6 =>
 .kSl r6 fun a7 l8 c9 =>
 .fxI ((l8 : Nat) : Int) fun n10 =>
 .jmp 100006 [.string (⟨#[0, 1, 8, 0, 6, 4]⟩ : ByteArray), .slice a7 l8 c9, .int .i64 n10, .int .i64 (0 : Int)])
 | _ => .fail
noncomputable def X30_100006 : List Value → M := fun args => match args with
 | [v0, v1, v2, v3] => .kStr v0 fun x0 => .kSl v1 fun a1 l2 c3 => .kInt .i64 v2 fun x4 => .kInt .i64 v3 fun x5 => 
 .cmp .lss x5 x4 fun t6 =>
 .bool t6 (
 .onS a1 fun a7 =>
 .inb x5 l2 (
 .ldn ((a7.add (x5.toNat * 2)).block) ((a7.add (x5.toNat * 2)).off) 2 fun cs8 =>
 .new (.cells [.pointer none, .int .i64 (0 : Int)] 0 true) fun b9 =>
 .st 2 (⟨b9, 0, none⟩ : Addr) (.agg cs8) (
 .ld b9 0 fun v11 =>
 .kPtr v11 fun p12 =>
 .onS p12 fun a13 =>
 .ld a13.block a13.off fun v14 =>
 .tyI .i64 v14 fun v15 =>
 .ld b9 (0 + 1) fun v16 =>
 .tyI .i64 v16 fun v17 =>
 .call 66 [v15, v17] fun r18 =>
 .kTup r18 fun vs19 =>
 .nthA vs19 0 fun v20 =>
 .kStr v20 fun s21 =>
 .kTup r18 fun vs22 =>
 .nthA vs22 1 fun v23 =>
 .tyI .i64 v23 fun v24 =>
 .cat x0 s21 fun s25 =>
 .wr .i64 (x5 + (1 : Int)) fun n26 =>
 .jmp 100006 [.string s25, .slice a1 l2 c3, .int .i64 x4, .int .i64 n26]))) (
 .ret (.tuple #[.string x0, .int .i64 (0 : Int)]))
 | _ => .fail
noncomputable def cuts30 : Cuts := [(100006, [5, 15, 16, 17])]
noncomputable def L30 : Places := [(100006, X30_100006, todoOf Tryz.f30 100006)]
noncomputable def k30 : FCode := .of X30 L30 cuts30
theorem o30_100006 : OOk Tryz.prog Tryz.f30 cuts30 L30 (100006, X30_100006, todoOf Tryz.f30 100006) := by
  intro vs Γ m H r h; replace h : (X30_100006 vs).run _ _ _ _ = _ := h; unfold X30_100006 at h; split at h
  · replace h := M.iStr h; obtain ⟨_, rfl, h⟩ := h; replace h := M.iSl h; obtain ⟨_, _, _, rfl, h⟩ := h; replace h := M.iInt h; obtain ⟨_, rfl, h⟩ := h; replace h := M.iInt h; obtain ⟨_, rfl, h⟩ := h; exact Eq.trans (by kernel_rfl) h
  · exact M.iFail h
theorem h30 : XOk Tryz.prog Tryz.f30 cuts30 L30 X30 := by
  intro Γ m args H r h; unfold X30 at h; split at h
  · replace h := M.iAgg h; obtain ⟨_, rfl, h⟩ := h; exact ⟨Eq.trans (by kernel_rfl) h, Nat.le_of_ble_eq_true (by kernel_rfl)⟩
  · exact M.iFail h
theorem K30 : CodeOk Tryz.prog 30 k30 := .of Tryz.func30 (by kernel_rfl) (by kernel_rfl) h30 (fc o30_100006 fe)
-- sternpost/ether.Encode
noncomputable def X31 : List Value → M := fun args => match args with
 | [v0] => .kAgg v0 fun x0 => 
 .new (.cells x0.toList 0 true) fun b1 =>
 .ldn b1 0 4 fun cs2 =>
 .call 46 [.agg cs2] fun r3 =>
 .tyI .i64 r3 fun v4 =>
 .cmpV .neq .i64 v4 (.int .i64 (0 : Int)) fun t5 =>
 .bool t5 (
 .ret (.tuple #[.string (⟨#[]⟩ : ByteArray), v4])) (
 .ld b1 0 fun v6 =>
 .tyI .i64 v6 fun v7 =>
 .call 66 [v7, .int .i64 (6 : Int)] fun r8 =>
 .kTup r8 fun vs9 =>
 .nthA vs9 0 fun v10 =>
 .kStr v10 fun s11 =>
 .kTup r8 fun vs12 =>
 .nthA vs12 1 fun v13 =>
 .tyI .i64 v13 fun v14 =>
 .ld b1 (0 + 1) fun v15 =>
 .tyI .i64 v15 fun v16 =>
 .call 66 [v16, .int .i64 (6 : Int)] fun r17 =>
 .kTup r17 fun vs18 =>
 .nthA vs18 0 fun v19 =>
 .kStr v19 fun s20 =>
 .kTup r17 fun vs21 =>
 .nthA vs21 1 fun v22 =>
 .tyI .i64 v22 fun v23 =>
 .ld b1 (0 + 2) fun v24 =>
 .tyI .i64 v24 fun v25 =>
 .call 66 [v25, .int .i64 (2 : Int)] fun r26 =>
 .kTup r26 fun vs27 =>
 .nthA vs27 0 fun v28 =>
 .kStr v28 fun s29 =>
 .kTup r26 fun vs30 =>
 .nthA vs30 1 fun v31 =>
 .tyI .i64 v31 fun v32 =>
 .cat s11 s20 fun s33 =>
 .cat s33 s29 fun s34 =>
 .ld b1 (0 + 3) fun v35 =>
 .kStr v35 fun s36 =>
 .cat s34 s36 fun s37 =>
 .ret (.tuple #[.string s37, .int .i64 (0 : Int)]))
 | _ => .fail
noncomputable def cuts31 : Cuts := []
noncomputable def L31 : Places := []
noncomputable def k31 : FCode := .of X31 L31 cuts31
theorem h31 : XOk Tryz.prog Tryz.f31 cuts31 L31 X31 := by
  intro Γ m args H r h; unfold X31 at h; split at h
  · replace h := M.iAgg h; obtain ⟨_, rfl, h⟩ := h; exact ⟨Eq.trans (by kernel_rfl) h, Nat.le_of_ble_eq_true (by kernel_rfl)⟩
  · exact M.iFail h
theorem K31 : CodeOk Tryz.prog 31 k31 := .of Tryz.func31 (by kernel_rfl) (by kernel_rfl) h31 fe
-- sternpost/parse.Inner
noncomputable def X33 : List Value → M := fun args => match args with
 | [v0] => .kAgg v0 fun x0 => 
 .new (.cells x0.toList 0 true) fun b1 =>
 .new (.cells [.int .i64 (0 : Int), .int .i64 (0 : Int), .int .i64 (0 : Int), .int .i64 (0 : Int), .string (⟨#[]⟩ : ByteArray), .int .i64 (0 : Int), .int .i64 (0 : Int), .int .i64 (0 : Int), .int .i64 (0 : Int), .int .i64 (0 : Int), .int .i64 (0 : Int), .int .i64 (0 : Int), .int .i64 (0 : Int), .int .i64 (0 : Int), .int .i64 (0 : Int), .int .i64 (0 : Int), .bool false, .bool false, .string (⟨#[]⟩ : ByteArray), .string (⟨#[]⟩ : ByteArray), .int .i64 (0 : Int), .int .i64 (0 : Int), .int .i64 (0 : Int), .int .i64 (0 : Int), .string (⟨#[]⟩ : ByteArray), .int .i64 (0 : Int), .int .i64 (0 : Int), .int .i64 (0 : Int), .int .i64 (0 : Int), .int .i64 (0 : Int), .int .i64 (0 : Int), .int .i64 (0 : Int), .int .i64 (0 : Int), .int .i64 (0 : Int), .int .i64 (0 : Int), .int .i64 (0 : Int), .bool false, .bool false, .bool false, .slice none 0 0, .string (⟨#[]⟩ : ByteArray)] 0 true) fun b2 =>
 .ldn b1 0 10 fun cs3 =>
 .call 56 [.agg cs3] fun r4 =>
 .tyI .i64 r4 fun v5 =>
 .cmpV .neq .i64 v5 (.int .i64 (0 : Int)) fun t6 =>
 .bool t6 (
 .call 32 [.string (⟨#[105, 112]⟩ : ByteArray), .int .i64 (0 : Int), v5] fun r7 =>
 .st 41 (⟨b2, 0, none⟩ : Addr) (.agg #[.int .i64 (0 : Int), .int .i64 (0 : Int), .int .i64 (0 : Int), .int .i64 (0 : Int), .string (⟨#[]⟩ : ByteArray), .int .i64 (0 : Int), .int .i64 (0 : Int), .int .i64 (0 : Int), .int .i64 (0 : Int), .int .i64 (0 : Int), .int .i64 (0 : Int), .int .i64 (0 : Int), .int .i64 (0 : Int), .int .i64 (0 : Int), .int .i64 (0 : Int), .int .i64 (0 : Int), .bool false, .bool false, .string (⟨#[]⟩ : ByteArray), .string (⟨#[]⟩ : ByteArray), .int .i64 (0 : Int), .int .i64 (0 : Int), .int .i64 (0 : Int), .int .i64 (0 : Int), .string (⟨#[]⟩ : ByteArray), .int .i64 (0 : Int), .int .i64 (0 : Int), .int .i64 (0 : Int), .int .i64 (0 : Int), .int .i64 (0 : Int), .int .i64 (0 : Int), .int .i64 (0 : Int), .int .i64 (0 : Int), .int .i64 (0 : Int), .int .i64 (0 : Int), .int .i64 (0 : Int), .bool false, .bool false, .bool false, .slice none 0 0, .string (⟨#[]⟩ : ByteArray)]) (
 .ldn b2 0 41 fun cs9 =>
 .ret (.tuple #[.agg cs9, r7]))) (
 .ldn b1 0 10 fun cs10 =>
 .cellsOks [.agg cs10] (.onS (Program.built Tryz.prog 49 (([3] : List Nat).zip [.agg cs10])) fun cells11q =>
 .fxV (.agg cells11q) fun cells11v =>
 .kAgg cells11v fun cells11 =>
 .ld b1 (0 + 8) fun v12 =>
 .kStr v12 fun s13 =>
 .wr .i64 ((20 : Int) + (s13.size : Int)) fun n14 =>
 .new (.cells [.int .i64 (0 : Int), .int .i64 (0 : Int), .int .i64 (0 : Int), .int .i64 (0 : Int), .string (⟨#[]⟩ : ByteArray), .int .i64 (0 : Int), .int .i64 (0 : Int), .int .i64 (0 : Int), .int .i64 (0 : Int), .int .i64 (0 : Int), .int .i64 (0 : Int), .int .i64 (0 : Int), .int .i64 (0 : Int), .int .i64 (0 : Int), .int .i64 (0 : Int), .int .i64 (0 : Int), .bool false, .bool false, .string (⟨#[]⟩ : ByteArray), .string (⟨#[]⟩ : ByteArray), .int .i64 (0 : Int), .int .i64 (0 : Int), .int .i64 (0 : Int), .int .i64 (0 : Int), .string (⟨#[]⟩ : ByteArray), .int .i64 (0 : Int), .int .i64 (0 : Int), .int .i64 (0 : Int), .int .i64 (0 : Int), .int .i64 (0 : Int), .int .i64 (0 : Int), .int .i64 (0 : Int), .int .i64 (0 : Int), .int .i64 (0 : Int), .int .i64 (0 : Int), .int .i64 (0 : Int), .bool false, .bool false, .bool false, .slice none 0 0, .string (⟨#[]⟩ : ByteArray)] 0 true) fun b15 =>
 .snap b1 fun o16 =>
 .st 41 (⟨b15, 0, none⟩ : Addr) (.agg cells11) (
 .same b1 o16 (
 .jmp 5 [.pointer (some (⟨b1, 0, none⟩ : Addr)), .pointer (some (⟨b2, 0, none⟩ : Addr)), .pointer (some (⟨b15, 0, none⟩ : Addr)), .int .i64 n14]))))
 | _ => .fail
noncomputable def X33_5 : List Value → M := fun args => match args with
 | [v0, v1, v2, v3] => .kPtr v0 fun x0 => .kPtr v1 fun x1 => .kPtr v2 fun x2 => .kInt .i64 v3 fun x3 => 
 .onS x0 fun a4 =>
 .ldn a4.block a4.off 10 fun cs5 =>
 .call 67 [.agg cs5] fun r6 =>
 .kBool r6 fun b7 =>
 .bool (!b7) (
 .onS x2 fun a8 =>
 .st 1 a8 (.int .i64 (2 : Int)) (
 .jmp 15 [.pointer x1, .pointer x2, .int .i64 x3, .string (⟨#[105, 112]⟩ : ByteArray), .int .i64 (0 : Int)])) (
 .onS x0 fun a10 =>
 .ld a10.block (a10.off + 3) fun v11 =>
 .tyI .i64 v11 fun v12 =>
 .cmpV .eql .i64 v12 (.int .i64 (1 : Int)) fun t13 =>
 .bool t13 (
 .onS x2 fun a14 =>
 .st 1 a14 (.int .i64 (3 : Int)) (
 .onS x0 fun a16 =>
 .ld a16.block (a16.off + 9) fun v17 =>
 .kStr v17 fun s18 =>
 .call 68 [.string s18] fun r19 =>
 .kTup r19 fun vs20 =>
 .nthA vs20 0 fun v21 =>
 .kAgg v21 fun cs22 =>
 .ite (cs22.size = 5) (
 .kTup r19 fun vs23 =>
 .nthA vs23 1 fun v24 =>
 .tyI .i64 v24 fun v25 =>
 .onS x2 fun a26 =>
 .st 5 (⟨a26.block, a26.off + 20, none⟩ : Addr) (.agg cs22) (
 .jmp 15 [.pointer x1, .pointer x2, .int .i64 x3, .string (⟨#[105, 99, 109, 112]⟩ : ByteArray), v25])))) (
 .onS x0 fun a28 =>
 .ld a28.block (a28.off + 3) fun v29 =>
 .tyI .i64 v29 fun v30 =>
 .cmpV .eql .i64 v30 (.int .i64 (6 : Int)) fun t31 =>
 .bool t31 (
 .onS x2 fun a32 =>
 .st 1 a32 (.int .i64 (4 : Int)) (
 .onS x0 fun a34 =>
 .ld a34.block a34.off fun v35 =>
 .tyI .i64 v35 fun v36 =>
 .onS x0 fun a37 =>
 .ld a37.block (a37.off + 1) fun v38 =>
 .tyI .i64 v38 fun v39 =>
 .onS x0 fun a40 =>
 .ld a40.block (a40.off + 9) fun v41 =>
 .kStr v41 fun s42 =>
 .call 69 [v36, v39, .string s42] fun r43 =>
 .kTup r43 fun vs44 =>
 .nthA vs44 0 fun v45 =>
 .kAgg v45 fun cs46 =>
 .ite (cs46.size = 16) (
 .kTup r43 fun vs47 =>
 .nthA vs47 1 fun v48 =>
 .tyI .i64 v48 fun v49 =>
 .onS x2 fun a50 =>
 .st 16 (⟨a50.block, a50.off + 25, none⟩ : Addr) (.agg cs46) (
 .jmp 15 [.pointer x1, .pointer x2, .int .i64 x3, .string (⟨#[116, 99, 112]⟩ : ByteArray), v49])))) (
 .jmp 15 [.pointer x1, .pointer x2, .int .i64 (0 : Int), .string (⟨#[105, 112]⟩ : ByteArray), .int .i64 (90 : Int)])))
 | _ => .fail
noncomputable def X33_15 : List Value → M := fun args => match args with
 | [v0, v1, v2, v3, x4] => .kPtr v0 fun x0 => .kPtr v1 fun x1 => .kInt .i64 v2 fun x2 => .kStr v3 fun x3 => 
 .cmpV .neq .i64 x4 (.int .i64 (0 : Int)) fun t5 =>
 .bool t5 (
 .call 32 [.string x3, .int .i64 x2, x4] fun r6 =>
 .onS x0 fun a7 =>
 .st 41 a7 (.agg #[.int .i64 (0 : Int), .int .i64 (0 : Int), .int .i64 (0 : Int), .int .i64 (0 : Int), .string (⟨#[]⟩ : ByteArray), .int .i64 (0 : Int), .int .i64 (0 : Int), .int .i64 (0 : Int), .int .i64 (0 : Int), .int .i64 (0 : Int), .int .i64 (0 : Int), .int .i64 (0 : Int), .int .i64 (0 : Int), .int .i64 (0 : Int), .int .i64 (0 : Int), .int .i64 (0 : Int), .bool false, .bool false, .string (⟨#[]⟩ : ByteArray), .string (⟨#[]⟩ : ByteArray), .int .i64 (0 : Int), .int .i64 (0 : Int), .int .i64 (0 : Int), .int .i64 (0 : Int), .string (⟨#[]⟩ : ByteArray), .int .i64 (0 : Int), .int .i64 (0 : Int), .int .i64 (0 : Int), .int .i64 (0 : Int), .int .i64 (0 : Int), .int .i64 (0 : Int), .int .i64 (0 : Int), .int .i64 (0 : Int), .int .i64 (0 : Int), .int .i64 (0 : Int), .int .i64 (0 : Int), .bool false, .bool false, .bool false, .slice none 0 0, .string (⟨#[]⟩ : ByteArray)]) (
 .onS x0 fun a9 =>
 .ldn a9.block a9.off 41 fun cs10 =>
 .ret (.tuple #[.agg cs10, r6]))) (
 .onS x1 fun a11 =>
 .ldn a11.block a11.off 41 fun cs12 =>
 .onS x0 fun a13 =>
 .st 41 a13 (.agg cs12) (
 .onS x0 fun a15 =>
 .ldn a15.block a15.off 41 fun cs16 =>
 .ret (.tuple #[.agg cs16, .nilIface])))
 | _ => .fail
noncomputable def cuts33 : Cuts := [(15, [2, 5, 6, 7, 8]), (5, [1, 2, 5, 6])]
noncomputable def L33 : Places := [(5, X33_5, todoOf Tryz.f33 5), (15, X33_15, todoOf Tryz.f33 15)]
noncomputable def k33 : FCode := .of X33 L33 cuts33
theorem o33_5 : OOk Tryz.prog Tryz.f33 cuts33 L33 (5, X33_5, todoOf Tryz.f33 5) := by
  intro vs Γ m H r h; replace h : (X33_5 vs).run _ _ _ _ = _ := h; unfold X33_5 at h; split at h
  · replace h := M.iPtr h; obtain ⟨_, rfl, h⟩ := h; replace h := M.iPtr h; obtain ⟨_, rfl, h⟩ := h; replace h := M.iPtr h; obtain ⟨_, rfl, h⟩ := h; replace h := M.iInt h; obtain ⟨_, rfl, h⟩ := h; exact Eq.trans (by kernel_rfl) h
  · exact M.iFail h
theorem o33_15 : OOk Tryz.prog Tryz.f33 cuts33 L33 (15, X33_15, todoOf Tryz.f33 15) := by
  intro vs Γ m H r h; replace h : (X33_15 vs).run _ _ _ _ = _ := h; unfold X33_15 at h; split at h
  · replace h := M.iPtr h; obtain ⟨_, rfl, h⟩ := h; replace h := M.iPtr h; obtain ⟨_, rfl, h⟩ := h; replace h := M.iInt h; obtain ⟨_, rfl, h⟩ := h; replace h := M.iStr h; obtain ⟨_, rfl, h⟩ := h; exact Eq.trans (by kernel_rfl) h
  · exact M.iFail h
theorem h33 : XOk Tryz.prog Tryz.f33 cuts33 L33 X33 := by
  intro Γ m args H r h; unfold X33 at h; split at h
  · replace h := M.iAgg h; obtain ⟨_, rfl, h⟩ := h; exact ⟨Eq.trans (by kernel_rfl) h, Nat.le_of_ble_eq_true (by kernel_rfl)⟩
  · exact M.iFail h
theorem K33 : CodeOk Tryz.prog 33 k33 := .of Tryz.func33 (by kernel_rfl) (by kernel_rfl) h33 (fc o33_5 (fc o33_15 fe))
-- WARN 33: build of an unknown part
-- (*sternpost/neigh.Cache).Own
noncomputable def X38 : List Value → M := fun args => match args with
 | [v0, x1, v2] => .kPtr v0 fun x0 => .kBool v2 fun x2 => 
 .cellsOk x1 (
 .new (.cells (Value.cells x1).toList 0 true) fun b3 =>
 .ld b3 0 fun v4 =>
 .tyI .i64 v4 fun v5 =>
 .call 18 [v5] fun r6 =>
 .tyI .i64 r6 fun v7 =>
 .cmpV .neq .i64 v7 (.int .i64 (0 : Int)) fun t8 =>
 .bool t8 (
 .ret (v7)) (
 .onS x0 fun a9 =>
 .ld a9.block (a9.off + 6) fun v10 =>
 .kSl v10 fun a11 l12 c13 =>
 .call 74 [.slice a11 l12 c13, .func (.func 75) #[] #[.pointer (some (⟨b3, 0, none⟩ : Addr))]] fun r14 =>
 .kSl r14 fun a15 l16 c17 =>
 .onS x0 fun a18 =>
 .st 1 (⟨a18.block, a18.off + 6, none⟩ : Addr) (.slice a15 l16 c17) (
 .bool x2 (
 .onS x0 fun a20 =>
 .ld a20.block (a20.off + 6) fun v21 =>
 .kSl v21 fun a22 l23 c24 =>
 .ld b3 0 fun v25 =>
 .tyI .i64 v25 fun v26 =>
 .cellsOks [v26] (.onS (Instr.fill (fun i => some (i * 1, 1)) ([.int .i64 (0 : Int)] : List Value).toArray (([0] : List Nat).zip [v26])) fun cells27q =>
 .fxV (.agg cells27q) fun cells27v =>
 .kAgg cells27v fun cells27 =>
 .new (.cells cells27.toList 1 true) fun b28 =>
 .firstC 1 (.slice (some ⟨b28, 0, none⟩) 1 1) fun n29 nw30 =>
 .app 3 (.slice a22 l23 c24) n29 nw30 fun v31 =>
 .kSl v31 fun a33 l34 c35 =>
 .onS x0 fun a36 =>
 .st 1 (⟨a36.block, a36.off + 6, none⟩ : Addr) (.slice a33 l34 c35) (
 .jmp 7 [.pointer x0]))) (
 .jmp 8 []))))
 | _ => .fail
noncomputable def X38_7 : List Value → M := fun args => match args with
 | [v0] => .kPtr v0 fun x0 => 
 .onS x0 fun a1 =>
 .ld a1.block (a1.off + 6) fun v2 =>
 .kSl v2 fun a3 l4 c5 =>
 .call 76 [.slice a3 l4 c5] fun r6 =>
 .jmp 8 []
 | _ => .fail
noncomputable def X38_8 : List Value → M := fun args => match args with
 | [] => 
 .ret (.int .i64 (0 : Int))
 | _ => .fail
noncomputable def cuts38 : Cuts := [(8, []), (7, [0])]
noncomputable def L38 : Places := [(7, X38_7, todoOf Tryz.f38 7), (8, X38_8, todoOf Tryz.f38 8)]
noncomputable def k38 : FCode := .of X38 L38 cuts38
theorem o38_7 : OOk Tryz.prog Tryz.f38 cuts38 L38 (7, X38_7, todoOf Tryz.f38 7) := by
  intro vs Γ m H r h; replace h : (X38_7 vs).run _ _ _ _ = _ := h; unfold X38_7 at h; split at h
  · replace h := M.iPtr h; obtain ⟨_, rfl, h⟩ := h; exact Eq.trans (by kernel_rfl) h
  · exact M.iFail h
theorem o38_8 : OOk Tryz.prog Tryz.f38 cuts38 L38 (8, X38_8, todoOf Tryz.f38 8) := by
  intro vs Γ m H r h; replace h : (X38_8 vs).run _ _ _ _ = _ := h; unfold X38_8 at h; split at h
  · exact Eq.trans (by kernel_rfl) h
  · exact M.iFail h
theorem h38 : XOk Tryz.prog Tryz.f38 cuts38 L38 X38 := by
  intro Γ m args H r h; unfold X38 at h; split at h
  · replace h := M.iPtr h; obtain ⟨_, rfl, h⟩ := h; replace h := M.iBool h; obtain ⟨_, rfl, h⟩ := h; exact ⟨Eq.trans (by kernel_rfl) h, Nat.le_of_ble_eq_true (by kernel_rfl)⟩
  · exact M.iFail h
theorem K38 : CodeOk Tryz.prog 38 k38 := .of Tryz.func38 (by kernel_rfl) (by kernel_rfl) h38 (fc o38_7 (fc o38_8 fe))
-- sternpost/neigh.New
noncomputable def X39 : List Value → M := fun args => match args with
 | [v0, v1] => .kAgg v0 fun x0 => .kSl v1 fun a1 l2 c3 => 
 .new (.cells x0.toList 0 true) fun b4 =>
 .ld b4 0 fun v5 =>
 .tyI .i64 v5 fun v6 =>
 .call 77 [v6] fun r7 =>
 .kTup r7 fun vs8 =>
 .nthA vs8 0 fun v9 =>
 .kBool v9 fun b10 =>
 .kTup r7 fun vs11 =>
 .nthA vs11 1 fun v12 =>
 .tyI .i64 v12 fun v13 =>
 .cmpV .neq .i64 v13 (.int .i64 (0 : Int)) fun t14 =>
 .bool t14 (
 .jmp 3 []) (
 .bool b10 (
 .jmp 3 []) (
 .ld b4 (0 + 1) fun v15 =>
 .tyI .i64 v15 fun v16 =>
 .ld b4 (0 + 2) fun v17 =>
 .tyI .i64 v17 fun v18 =>
 .ld b4 (0 + 3) fun v19 =>
 .tyI .i64 v19 fun v20 =>
 .ld b4 (0 + 4) fun v21 =>
 .tyI .i64 v21 fun v22 =>
 .tyI .i64 v16 fun v23 =>
 .mmV false .i64 v23 v18 fun v24 =>
 .mmV false .i64 v24 v20 fun v25 =>
 .mmV false .i64 v25 v22 fun v26 =>
 .cmpV .lss .i64 v26 (.int .i64 (1 : Int)) fun t27 =>
 .bool t27 (
 .jmp 3 []) (
 .ld b4 (0 + 1) fun v28 =>
 .tyI .i64 v28 fun v29 =>
 .ld b4 (0 + 2) fun v30 =>
 .tyI .i64 v30 fun v31 =>
 .tyI .i64 v29 fun v32 =>
 .mmV true .i64 v32 v31 fun v33 =>
 .cmpV .gtr .i64 v33 (.int .i64 (1048576 : Int)) fun t34 =>
 .bool t34 (
 .jmp 3 []) (
 .ld b4 (0 + 3) fun v35 =>
 .tyI .i64 v35 fun v36 =>
 .ld b4 (0 + 4) fun v37 =>
 .tyI .i64 v37 fun v38 =>
 .tyI .i64 v36 fun v39 =>
 .mmV true .i64 v39 v38 fun v40 =>
 .cmpV .gtr .i64 v40 (.int .i64 (1024 : Int)) fun t41 =>
 .bool t41 (
 .jmp 3 []) (
 .ldn b4 0 5 fun cs42 =>
 .new (.map [] [] 0) fun b43 =>
 .new (.map [] [] 0) fun b44 =>
 .cellsOks [.agg cs42, .map (some b43), .map (some b44)] (.onS (Program.built Tryz.prog 171 (([0, 3, 4] : List Nat).zip [.agg cs42, .map (some b43), .map (some b44)])) fun cells45q =>
 .fxV (.agg cells45q) fun cells45v =>
 .kAgg cells45v fun cells45 =>
 .new (.cells cells45.toList 0 true) fun b46 =>
 .fxI ((l2 : Nat) : Int) fun n47 =>
 .jmp 100006 [.pointer (some (⟨b46, 0, none⟩ : Addr)), .slice a1 l2 c3, .int .i64 n47, .int .i64 (0 : Int)]))))))
 | _ => .fail
noncomputable def X39_3 : List Value → M := fun args => match args with
 | [] => 
 .ret (.tuple #[.pointer none, .int .i64 (1 : Int)])
 | _ => .fail
noncomputable def X39_100006 : List Value → M := fun args => match args with
 | [v0, v1, v2, v3] => .kPtr v0 fun x0 => .kSl v1 fun a1 l2 c3 => .kInt .i64 v2 fun x4 => .kInt .i64 v3 fun x5 => 
 .cmp .lss x5 x4 fun t6 =>
 .bool t6 (
 .onS a1 fun a7 =>
 .inb x5 l2 (
 .ld ((a7.add (x5.toNat * 1)).block) ((a7.add (x5.toNat * 1)).off) fun v8 =>
 .tyI .i64 v8 fun v9 =>
 .call 38 [.pointer x0, v9, .bool true] fun r10 =>
 .tyI .i64 r10 fun v11 =>
 .cmpV .neq .i64 v11 (.int .i64 (0 : Int)) fun t12 =>
 .bool t12 (
 .ret (.tuple #[.pointer none, v11])) (
 .wr .i64 (x5 + (1 : Int)) fun n13 =>
 .jmp 100006 [.pointer x0, .slice a1 l2 c3, .int .i64 x4, .int .i64 n13]))) (
 .ret (.tuple #[.pointer x0, .int .i64 (0 : Int)]))
 | _ => .fail
noncomputable def cuts39 : Cuts := [(100006, [8, 56, 57, 58]), (3, [])]
noncomputable def L39 : Places := [(3, X39_3, todoOf Tryz.f39 3), (100006, X39_100006, todoOf Tryz.f39 100006)]
noncomputable def k39 : FCode := .of X39 L39 cuts39
theorem o39_3 : OOk Tryz.prog Tryz.f39 cuts39 L39 (3, X39_3, todoOf Tryz.f39 3) := by
  intro vs Γ m H r h; replace h : (X39_3 vs).run _ _ _ _ = _ := h; unfold X39_3 at h; split at h
  · exact Eq.trans (by kernel_rfl) h
  · exact M.iFail h
theorem o39_100006 : OOk Tryz.prog Tryz.f39 cuts39 L39 (100006, X39_100006, todoOf Tryz.f39 100006) := by
  intro vs Γ m H r h; replace h : (X39_100006 vs).run _ _ _ _ = _ := h; unfold X39_100006 at h; split at h
  · replace h := M.iPtr h; obtain ⟨_, rfl, h⟩ := h; replace h := M.iSl h; obtain ⟨_, _, _, rfl, h⟩ := h; replace h := M.iInt h; obtain ⟨_, rfl, h⟩ := h; replace h := M.iInt h; obtain ⟨_, rfl, h⟩ := h; exact Eq.trans (by kernel_rfl) h
  · exact M.iFail h
theorem h39 : XOk Tryz.prog Tryz.f39 cuts39 L39 X39 := by
  intro Γ m args H r h; unfold X39 at h; split at h
  · replace h := M.iAgg h; obtain ⟨_, rfl, h⟩ := h; replace h := M.iSl h; obtain ⟨_, _, _, rfl, h⟩ := h; exact ⟨Eq.trans (by kernel_rfl) h, Nat.le_of_ble_eq_true (by kernel_rfl)⟩
  · exact M.iFail h
theorem K39 : CodeOk Tryz.prog 39 k39 := .of Tryz.func39 (by kernel_rfl) (by kernel_rfl) h39 (fc o39_3 (fc o39_100006 fe))
-- WARN 39: build of an unknown part
-- sternpost/frag.New
noncomputable def X40 : List Value → M := fun args => match args with
 | [x0, x1] => 
 .tyI .i64 x0 fun v2 =>
 .mmV false .i64 v2 x1 fun v3 =>
 .cmpV .lss .i64 v3 (.int .i64 (1 : Int)) fun t4 =>
 .bool t4 (
 .jmp 2 []) (
 .cmpV .gtr .i64 x0 (.int .i64 (64 : Int)) fun t5 =>
 .bool t5 (
 .jmp 2 []) (
 .cmpV .gtr .i64 x1 (.int .i64 (1048576 : Int)) fun t6 =>
 .bool t6 (
 .jmp 2 []) (
 .new (.map [] [] 0) fun b7 =>
 .cellsOks [x0, x1, .map (some b7)] (.onS (Program.built Tryz.prog 177 (([0, 1, 4] : List Nat).zip [x0, x1, .map (some b7)])) fun cells8q =>
 .fxV (.agg cells8q) fun cells8v =>
 .kAgg cells8v fun cells8 =>
 .new (.cells cells8.toList 0 true) fun b9 =>
 .ret (.tuple #[.pointer (some (⟨b9, 0, none⟩ : Addr)), .int .i64 (0 : Int)])))))
 | _ => .fail
noncomputable def X40_2 : List Value → M := fun args => match args with
 | [] => 
 .ret (.tuple #[.pointer none, .int .i64 (1 : Int)])
 | _ => .fail
noncomputable def cuts40 : Cuts := [(2, [])]
noncomputable def L40 : Places := [(2, X40_2, todoOf Tryz.f40 2)]
noncomputable def k40 : FCode := .of X40 L40 cuts40
theorem o40_2 : OOk Tryz.prog Tryz.f40 cuts40 L40 (2, X40_2, todoOf Tryz.f40 2) := by
  intro vs Γ m H r h; replace h : (X40_2 vs).run _ _ _ _ = _ := h; unfold X40_2 at h; split at h
  · exact Eq.trans (by kernel_rfl) h
  · exact M.iFail h
theorem h40 : XOk Tryz.prog Tryz.f40 cuts40 L40 X40 := by
  intro Γ m args H r h; unfold X40 at h; split at h
  · exact ⟨Eq.trans (by kernel_rfl) h, Nat.le_of_ble_eq_true (by kernel_rfl)⟩
  · exact M.iFail h
theorem K40 : CodeOk Tryz.prog 40 k40 := .of Tryz.func40 (by kernel_rfl) (by kernel_rfl) h40 (fc o40_2 fe)
-- WARN 40: build of an unknown part
-- sternpost/sock.New
noncomputable def X41 : List Value → M := fun args => match args with
 | [v0, x1] => .kAgg v0 fun x0 => 
 .new (.cells x0.toList 0 true) fun b2 =>
 .ldn b2 0 11 fun cs3 =>
 .call 78 [.agg cs3, x1] fun r4 =>
 .kTup r4 fun vs5 =>
 .nthA vs5 0 fun v6 =>
 .kPtr v6 fun p7 =>
 .kTup r4 fun vs8 =>
 .nthA vs8 1 fun v9 =>
 .tyI .i64 v9 fun v10 =>
 .cmpV .neq .i64 v10 (.int .i64 (0 : Int)) fun t11 =>
 .bool t11 (
 .ret (.tuple #[.pointer none, v10])) (
 .new (.map [] [] 0) fun b12 =>
 .new (.cells [.pointer p7, .map (some b12), .slice none 0 0, .slice none 0 0, .int .i64 (0 : Int)] 0 true) fun b13 =>
 .ret (.tuple #[.pointer (some (⟨b13, 0, none⟩ : Addr)), .int .i64 (0 : Int)]))
 | _ => .fail
noncomputable def cuts41 : Cuts := []
noncomputable def L41 : Places := []
noncomputable def k41 : FCode := .of X41 L41 cuts41
theorem h41 : XOk Tryz.prog Tryz.f41 cuts41 L41 X41 := by
  intro Γ m args H r h; unfold X41 at h; split at h
  · replace h := M.iAgg h; obtain ⟨_, rfl, h⟩ := h; exact ⟨Eq.trans (by kernel_rfl) h, Nat.le_of_ble_eq_true (by kernel_rfl)⟩
  · exact M.iFail h
theorem K41 : CodeOk Tryz.prog 41 k41 := .of Tryz.func41 (by kernel_rfl) (by kernel_rfl) h41 fe
-- (*sternpost/host.Host).serve
noncomputable def X42 : List Value → M := fun args => match args with
 | [v0] => .kPtr v0 fun x0 => 
 .onS x0 fun a1 =>
 .ld a1.block (a1.off + 23) fun v2 =>
 .kPtr v2 fun p3 =>
 .onS x0 fun a4 =>
 .ld a4.block (a4.off + 2) fun v5 =>
 .tyI .i64 v5 fun v6 =>
 .cellsOks [.int .i64 (1048576 : Int), .int .i64 (1 : Int), v6] (.onS (Program.built Tryz.prog 187 (([0, 1, 4] : List Nat).zip [.int .i64 (1048576 : Int), .int .i64 (1 : Int), v6])) fun cells7q =>
 .fxV (.agg cells7q) fun cells7v =>
 .kAgg cells7v fun cells7 =>
 .call 79 [.pointer p3, .agg cells7, .int .i64 (0 : Int)] fun r8 =>
 .kTup r8 fun vs9 =>
 .nthA vs9 0 fun v10 =>
 .kSl v10 fun a11 l12 c13 =>
 .kTup r8 fun vs14 =>
 .nthA vs14 1 fun v15 =>
 .kSl v15 fun a16 l17 c18 =>
 .cmp .eql ((l12 : Nat) : Int) (1 : Int) fun t19 =>
 .bool t19 (
 .onS a11 fun a20 =>
 .inb (0 : Int) l12 (
 .ld ((a20.add ((0 : Int).toNat * 5)).block) ((a20.add ((0 : Int).toNat * 5)).off + 2) fun v21 =>
 .tyI .i64 v21 fun v22 =>
 .onS x0 fun a23 =>
 .cellsOk v22 (
 .st 1 (⟨a23.block, a23.off + 27, none⟩ : Addr) v22 (
 .jmp 3 [.pointer x0])))) (
 .jmp 3 [.pointer x0]))
 | _ => .fail
noncomputable def X42_3 : List Value → M := fun args => match args with
 | [v0] => .kPtr v0 fun x0 => 
 .call 80 [.pointer x0] fun r1 =>
 .ret (.tuple #[])
 | _ => .fail
noncomputable def cuts42 : Cuts := [(3, [0])]
noncomputable def L42 : Places := [(3, X42_3, todoOf Tryz.f42 3)]
noncomputable def k42 : FCode := .of X42 L42 cuts42
theorem o42_3 : OOk Tryz.prog Tryz.f42 cuts42 L42 (3, X42_3, todoOf Tryz.f42 3) := by
  intro vs Γ m H r h; replace h : (X42_3 vs).run _ _ _ _ = _ := h; unfold X42_3 at h; split at h
  · replace h := M.iPtr h; obtain ⟨_, rfl, h⟩ := h; exact Eq.trans (by kernel_rfl) h
  · exact M.iFail h
theorem h42 : XOk Tryz.prog Tryz.f42 cuts42 L42 X42 := by
  intro Γ m args H r h; unfold X42 at h; split at h
  · replace h := M.iPtr h; obtain ⟨_, rfl, h⟩ := h; exact ⟨Eq.trans (by kernel_rfl) h, Nat.le_of_ble_eq_true (by kernel_rfl)⟩
  · exact M.iFail h
theorem K42 : CodeOk Tryz.prog 42 k42 := .of Tryz.func42 (by kernel_rfl) (by kernel_rfl) h42 (fc o42_3 fe)
-- WARN 42: build of an unknown part
-- sternpost/icmp.Encode
noncomputable def X43 : List Value → M := fun args => match args with
 | [v0] => .kAgg v0 fun x0 => 
 .new (.cells x0.toList 0 true) fun b1 =>
 .ldn b1 0 5 fun cs2 =>
 .call 81 [.agg cs2] fun r3 =>
 .tyI .i64 r3 fun v4 =>
 .cmpV .neq .i64 v4 (.int .i64 (0 : Int)) fun t5 =>
 .bool t5 (
 .ret (.tuple #[.string (⟨#[]⟩ : ByteArray), v4])) (
 .ld b1 (0 + 2) fun v6 =>
 .tyI .i64 v6 fun v7 =>
 .call 66 [v7, .int .i64 (2 : Int)] fun r8 =>
 .kTup r8 fun vs9 =>
 .nthA vs9 0 fun v10 =>
 .kStr v10 fun s11 =>
 .kTup r8 fun vs12 =>
 .nthA vs12 1 fun v13 =>
 .tyI .i64 v13 fun v14 =>
 .ld b1 (0 + 3) fun v15 =>
 .tyI .i64 v15 fun v16 =>
 .call 66 [v16, .int .i64 (2 : Int)] fun r17 =>
 .kTup r17 fun vs18 =>
 .nthA vs18 0 fun v19 =>
 .kStr v19 fun s20 =>
 .kTup r17 fun vs21 =>
 .nthA vs21 1 fun v22 =>
 .tyI .i64 v22 fun v23 =>
 .ld b1 0 fun v24 =>
 .tyI .i64 v24 fun v25 =>
 .cvtV .i64 .u8 v25 fun v26 =>
 .ld b1 (0 + 1) fun v27 =>
 .tyI .i64 v27 fun v28 =>
 .cvtV .i64 .u8 v28 fun v29 =>
 .cellsOks [v26, v29, .int .u8 (0 : Int), .int .u8 (0 : Int)] (.onS (Instr.fill (fun i => some (i * 1, 1)) ([.int .u8 (0 : Int), .int .u8 (0 : Int), .int .u8 (0 : Int), .int .u8 (0 : Int)] : List Value).toArray (([0, 1, 2, 3] : List Nat).zip [v26, v29, .int .u8 (0 : Int), .int .u8 (0 : Int)])) fun cells30q =>
 .fxV (.agg cells30q) fun cells30v =>
 .kAgg cells30v fun cells30 =>
 .new (.cells cells30.toList 1 true) fun b31 =>
 .ldc b31 fun cs32 =>
 .ite (0 + 4 ≤ cs32.length) (
 .onS (bytesOf (range cs32 0 4)) fun l33 =>
 .cat (⟨l33.toArray⟩ : ByteArray) s11 fun s34 =>
 .cat s34 s20 fun s35 =>
 .ld b1 (0 + 4) fun v36 =>
 .kStr v36 fun s37 =>
 .cat s35 s37 fun s38 =>
 .call 82 [.string s38, .int .i64 (2 : Int)] fun r39 =>
 .kTup r39 fun vs40 =>
 .nthA vs40 0 fun v41 =>
 .kStr v41 fun s42 =>
 .kTup r39 fun vs43 =>
 .nthA vs43 1 fun v44 =>
 .tyI .i64 v44 fun v45 =>
 .ret (.tuple #[.string s42, v45]))))
 | _ => .fail
noncomputable def cuts43 : Cuts := []
noncomputable def L43 : Places := []
noncomputable def k43 : FCode := .of X43 L43 cuts43
theorem h43 : XOk Tryz.prog Tryz.f43 cuts43 L43 X43 := by
  intro Γ m args H r h; unfold X43 at h; split at h
  · replace h := M.iAgg h; obtain ⟨_, rfl, h⟩ := h; exact ⟨Eq.trans (by kernel_rfl) h, Nat.le_of_ble_eq_true (by kernel_rfl)⟩
  · exact M.iFail h
theorem K43 : CodeOk Tryz.prog 43 k43 := .of Tryz.func43 (by kernel_rfl) (by kernel_rfl) h43 fe
-- (*sternpost/host.Host).send
noncomputable def X44 : List Value → M := fun args => match args with
 | [v0, x1, x2, x3, v4] => .kPtr v0 fun x0 => .kStr v4 fun x4 => 
 .onS x0 fun a5 =>
 .ld a5.block (a5.off + 25) fun v6 =>
 .tyI .i64 v6 fun v7 =>
 .wr .i64 ((20 : Int) + (x4.size : Int)) fun n8 =>
 .cmp .leq n8 (1500 : Int) fun t9 =>
 .cellsOks [x1, x2, .int .i64 (64 : Int), x3, v7, .bool t9, .string x4] (.onS (Program.built Tryz.prog 40 (([0, 1, 2, 3, 4, 7, 9] : List Nat).zip [x1, x2, .int .i64 (64 : Int), x3, v7, .bool t9, .string x4])) fun cells10q =>
 .fxV (.agg cells10q) fun cells10v =>
 .kAgg cells10v fun cells10 =>
 .new (.cells [.int .i64 (0 : Int), .int .i64 (0 : Int), .int .i64 (0 : Int), .int .i64 (0 : Int), .int .i64 (0 : Int), .int .i64 (0 : Int), .bool false, .bool false, .string (⟨#[]⟩ : ByteArray), .string (⟨#[]⟩ : ByteArray)] 0 true) fun b11 =>
 .st 10 (⟨b11, 0, none⟩ : Addr) (.agg cells10) (
 .onS x0 fun a13 =>
 .ld a13.block (a13.off + 25) fun v14 =>
 .tyI .i64 v14 fun v15 =>
 .arV .add .i64 v15 (.int .i64 (1 : Int)) fun v16 =>
 .arV .and .i64 v16 (.int .i64 (65535 : Int)) fun v17 =>
 .onS x0 fun a18 =>
 .cellsOk v17 (
 .st 1 (⟨a18.block, a18.off + 25, none⟩ : Addr) v17 (
 .ldn b11 0 10 fun cs20 =>
 .call 83 [.agg cs20, .int .i64 (1500 : Int)] fun r21 =>
 .kTup r21 fun vs22 =>
 .nthA vs22 0 fun v23 =>
 .kSl v23 fun a24 l25 c26 =>
 .kTup r21 fun vs27 =>
 .nthA vs27 1 fun v28 =>
 .tyI .i64 v28 fun v29 =>
 .cmpV .neq .i64 v29 (.int .i64 (0 : Int)) fun t30 =>
 .bool t30 (
 .ret (.tuple #[])) (
 .fxI ((l25 : Nat) : Int) fun n31 =>
 .jmp 100005 [.pointer x0, x2, .slice a24 l25 c26, .int .i64 n31, .int .i64 (0 : Int)])))))
 | _ => .fail
noncomputable def X44_8 : List Value → M := fun args => match args with
 | [v0, x1, v2, x3, v4, x5, v6, v7, v8] => .kPtr v0 fun x0 => .kPtr v2 fun x2 => .kPtr v4 fun x4 => .kSl v6 fun a6 l7 c8 => .kInt .i64 v7 fun x9 => .kInt .i64 v8 fun x10 => 
 .cmpV .eql .i64 x5 (.int .i64 (0 : Int)) fun t11 =>
 .bool t11 (
 .onS x2 fun a12 =>
 .ldn a12.block a12.off 10 fun cs13 =>
 .call 53 [.pointer x0, x3, .agg cs13] fun r14 =>
 .jmp 10 [.pointer x0, x1, .pointer x4, .slice a6 l7 c8, .int .i64 x9, .int .i64 x10]) (
 .jmp 10 [.pointer x0, x1, .pointer x4, .slice a6 l7 c8, .int .i64 x9, .int .i64 x10])
 | _ => .fail
noncomputable def X44_10 : List Value → M := fun args => match args with
 | [v0, x1, v2, v3, v4, v5] => .kPtr v0 fun x0 => .kPtr v2 fun x2 => .kSl v3 fun a3 l4 c5 => .kInt .i64 v4 fun x6 => .kInt .i64 v5 fun x7 => 
 .onS x2 fun a8 =>
 .ldn a8.block a8.off 5 fun cs9 =>
 .eqv 38 (.agg cs9) (.agg #[.int .i64 (0 : Int), .int .i64 (0 : Int), .int .i64 (0 : Int), .int .i64 (0 : Int), .int .i64 (0 : Int)]) fun r10 =>
 .bool (!r10) (
 .onS x2 fun a11 =>
 .ldn a11.block a11.off 5 fun cs12 =>
 .call 52 [.pointer x0, .int .i64 (281474976710655 : Int), .agg cs12] fun r13 =>
 .jmp 12 [.pointer x0, x1, .slice a3 l4 c5, .int .i64 x6, .int .i64 x7]) (
 .jmp 12 [.pointer x0, x1, .slice a3 l4 c5, .int .i64 x6, .int .i64 x7])
 | _ => .fail
noncomputable def X44_12 : List Value → M := fun args => match args with
 | [v0, x1, v2, v3, v4] => .kPtr v0 fun x0 => .kSl v2 fun a2 l3 c4 => .kInt .i64 v3 fun x5 => .kInt .i64 v4 fun x6 => 
 .wr .i64 (x6 + (1 : Int)) fun n7 =>
 .jmp 100005 [.pointer x0, x1, .slice a2 l3 c4, .int .i64 x5, .int .i64 n7]
 | _ => .fail
noncomputable def X44_100005 : List Value → M := fun args => match args with
 | [v0, x1, v2, v3, v4] => .kPtr v0 fun x0 => .kSl v2 fun a2 l3 c4 => .kInt .i64 v3 fun x5 => .kInt .i64 v4 fun x6 => 
 .cmp .lss x6 x5 fun t7 =>
 .bool t7 (
 .onS a2 fun a8 =>
 .inb x6 l3 (
 .ldn ((a8.add (x6.toNat * 10)).block) ((a8.add (x6.toNat * 10)).off) 10 fun cs9 =>
 .new (.cells [.int .i64 (0 : Int), .int .i64 (0 : Int), .int .i64 (0 : Int), .int .i64 (0 : Int), .int .i64 (0 : Int), .int .i64 (0 : Int), .bool false, .bool false, .string (⟨#[]⟩ : ByteArray), .string (⟨#[]⟩ : ByteArray)] 0 true) fun b10 =>
 .st 10 (⟨b10, 0, none⟩ : Addr) (.agg cs9) (
 .onS x0 fun a12 =>
 .ld a12.block (a12.off + 21) fun v13 =>
 .kPtr v13 fun p14 =>
 .ldn b10 0 10 fun cs15 =>
 .onS x0 fun a16 =>
 .ld a16.block (a16.off + 24) fun v17 =>
 .tyI .i64 v17 fun v18 =>
 .new (.cells [.int .i64 (0 : Int), .int .i64 (0 : Int), .int .i64 (0 : Int), .int .i64 (0 : Int), .int .i64 (0 : Int)] 0 true) fun b19 =>
 .snap b19 fun o20 =>
 .call 84 [.pointer p14, .agg cs15, x1, v18] fun r21 =>
 .same b19 o20 (
 .kTup r21 fun vs22 =>
 .nthA vs22 0 fun v23 =>
 .tyI .i64 v23 fun v24 =>
 .kTup r21 fun vs25 =>
 .nthA vs25 1 fun v26 =>
 .kAgg v26 fun cs27 =>
 .ite (cs27.size = 5) (
 .kTup r21 fun vs28 =>
 .nthA vs28 2 fun v29 =>
 .tyI .i64 v29 fun v30 =>
 .st 5 (⟨b19, 0, none⟩ : Addr) (.agg cs27) (
 .jmp 8 [.pointer x0, x1, .pointer (some (⟨b10, 0, none⟩ : Addr)), v24, .pointer (some (⟨b19, 0, none⟩ : Addr)), v30, .slice a2 l3 c4, .int .i64 x5, .int .i64 x6])))))) (
 .ret (.tuple #[]))
 | _ => .fail
noncomputable def cuts44 : Cuts := [(100005, [0, 2, 47, 48, 49]), (12, [0, 2, 47, 48, 49]), (10, [0, 2, 16, 47, 48, 49]), (8, [0, 2, 14, 15, 16, 17, 47, 48, 49])]
noncomputable def L44 : Places := [(8, X44_8, todoOf Tryz.f44 8), (10, X44_10, todoOf Tryz.f44 10), (12, X44_12, todoOf Tryz.f44 12), (100005, X44_100005, todoOf Tryz.f44 100005)]
noncomputable def k44 : FCode := .of X44 L44 cuts44
theorem o44_8 : OOk Tryz.prog Tryz.f44 cuts44 L44 (8, X44_8, todoOf Tryz.f44 8) := by
  intro vs Γ m H r h; replace h : (X44_8 vs).run _ _ _ _ = _ := h; unfold X44_8 at h; split at h
  · replace h := M.iPtr h; obtain ⟨_, rfl, h⟩ := h; replace h := M.iPtr h; obtain ⟨_, rfl, h⟩ := h; replace h := M.iPtr h; obtain ⟨_, rfl, h⟩ := h; replace h := M.iSl h; obtain ⟨_, _, _, rfl, h⟩ := h; replace h := M.iInt h; obtain ⟨_, rfl, h⟩ := h; replace h := M.iInt h; obtain ⟨_, rfl, h⟩ := h; exact Eq.trans (by kernel_rfl) h
  · exact M.iFail h
theorem o44_10 : OOk Tryz.prog Tryz.f44 cuts44 L44 (10, X44_10, todoOf Tryz.f44 10) := by
  intro vs Γ m H r h; replace h : (X44_10 vs).run _ _ _ _ = _ := h; unfold X44_10 at h; split at h
  · replace h := M.iPtr h; obtain ⟨_, rfl, h⟩ := h; replace h := M.iPtr h; obtain ⟨_, rfl, h⟩ := h; replace h := M.iSl h; obtain ⟨_, _, _, rfl, h⟩ := h; replace h := M.iInt h; obtain ⟨_, rfl, h⟩ := h; replace h := M.iInt h; obtain ⟨_, rfl, h⟩ := h; exact Eq.trans (by kernel_rfl) h
  · exact M.iFail h
theorem o44_12 : OOk Tryz.prog Tryz.f44 cuts44 L44 (12, X44_12, todoOf Tryz.f44 12) := by
  intro vs Γ m H r h; replace h : (X44_12 vs).run _ _ _ _ = _ := h; unfold X44_12 at h; split at h
  · replace h := M.iPtr h; obtain ⟨_, rfl, h⟩ := h; replace h := M.iSl h; obtain ⟨_, _, _, rfl, h⟩ := h; replace h := M.iInt h; obtain ⟨_, rfl, h⟩ := h; replace h := M.iInt h; obtain ⟨_, rfl, h⟩ := h; exact Eq.trans (by kernel_rfl) h
  · exact M.iFail h
theorem o44_100005 : OOk Tryz.prog Tryz.f44 cuts44 L44 (100005, X44_100005, todoOf Tryz.f44 100005) := by
  intro vs Γ m H r h; replace h : (X44_100005 vs).run _ _ _ _ = _ := h; unfold X44_100005 at h; split at h
  · replace h := M.iPtr h; obtain ⟨_, rfl, h⟩ := h; replace h := M.iSl h; obtain ⟨_, _, _, rfl, h⟩ := h; replace h := M.iInt h; obtain ⟨_, rfl, h⟩ := h; replace h := M.iInt h; obtain ⟨_, rfl, h⟩ := h; exact Eq.trans (by kernel_rfl) h
  · exact M.iFail h
theorem h44 : XOk Tryz.prog Tryz.f44 cuts44 L44 X44 := by
  intro Γ m args H r h; unfold X44 at h; split at h
  · replace h := M.iPtr h; obtain ⟨_, rfl, h⟩ := h; replace h := M.iStr h; obtain ⟨_, rfl, h⟩ := h; exact ⟨Eq.trans (by kernel_rfl) h, Nat.le_of_ble_eq_true (by kernel_rfl)⟩
  · exact M.iFail h
theorem K44 : CodeOk Tryz.prog 44 k44 := .of Tryz.func44 (by kernel_rfl) (by kernel_rfl) h44 (fc o44_8 (fc o44_10 (fc o44_12 (fc o44_100005 fe))))
-- WARN 44: build of an unknown part
-- sternpost/sum.Get
noncomputable def X45 : List Value → M := fun args => match args with
 | [v0, x1, x2] => .kStr v0 fun x0 => 
 .cmpV .lss .i64 x2 (.int .i64 (1 : Int)) fun t3 =>
 .bool t3 (
 .jmp 2 []) (
 .cmpV .gtr .i64 x2 (.int .i64 (6 : Int)) fun t4 =>
 .bool t4 (
 .jmp 2 []) (
 .cmpV .lss .i64 x1 (.int .i64 (0 : Int)) fun t5 =>
 .bool t5 (
 .jmp 2 []) (
 .arV .sub .i64 (.int .i64 (x0.size : Int)) x2 fun v6 =>
 .cmpV .gtr .i64 x1 v6 fun t7 =>
 .bool t7 (
 .jmp 2 []) (
 .arV .add .i64 x1 x2 fun v8 =>
 .kAnyInt v8 fun k9 n10 =>
 .kAnyInt x1 fun k11 n12 =>
 .slStr x0 n12 n10 fun s14 =>
 .ite (s14.size ≤ 140737488351232) (
 .newB s14 fun b15 =>
 .fxV (.slice (some ⟨b15, 0, none⟩) s14.size unk) fun v16 =>
 .fxI ((s14.size : Nat) : Int) fun n17 =>
 .jmp 100005 [.int .i64 (0 : Int), v16, .int .i64 n17, .int .i64 (0 : Int)])))))
 | _ => .fail
noncomputable def X45_2 : List Value → M := fun args => match args with
 | [] => 
 .ret (.tuple #[.int .i64 (0 : Int), .int .i64 (1 : Int)])
 | _ => .fail
noncomputable def X45_100005 : List Value → M := fun args => match args with
 | [x0, x1, v2, v3] => .kInt .i64 v2 fun x2 => .kInt .i64 v3 fun x3 => 
 .cmp .lss x3 x2 fun t4 =>
 .bool t4 (
 .kSl x1 fun a5 l6 c7 =>
 .onS a5 fun a8 =>
 .inb x3 l6 (
 .ld ((a8.add (x3.toNat * 1)).block) ((a8.add (x3.toNat * 1)).off) fun v9 =>
 .tyI .u8 v9 fun v10 =>
 .shV .shl x0 (.int .u64 (8 : Int)) fun v11 =>
 .cvtV .u8 .i64 v10 fun v12 =>
 .arV .or .i64 v11 v12 fun v13 =>
 .wr .i64 (x3 + (1 : Int)) fun n14 =>
 .jmp 100005 [v13, x1, .int .i64 x2, .int .i64 n14])) (
 .ret (.tuple #[x0, .int .i64 (0 : Int)]))
 | _ => .fail
noncomputable def cuts45 : Cuts := [(100005, [8, 35, 36, 37]), (2, [])]
noncomputable def L45 : Places := [(2, X45_2, todoOf Tryz.f45 2), (100005, X45_100005, todoOf Tryz.f45 100005)]
noncomputable def k45 : FCode := .of X45 L45 cuts45
theorem o45_2 : OOk Tryz.prog Tryz.f45 cuts45 L45 (2, X45_2, todoOf Tryz.f45 2) := by
  intro vs Γ m H r h; replace h : (X45_2 vs).run _ _ _ _ = _ := h; unfold X45_2 at h; split at h
  · exact Eq.trans (by kernel_rfl) h
  · exact M.iFail h
theorem o45_100005 : OOk Tryz.prog Tryz.f45 cuts45 L45 (100005, X45_100005, todoOf Tryz.f45 100005) := by
  intro vs Γ m H r h; replace h : (X45_100005 vs).run _ _ _ _ = _ := h; unfold X45_100005 at h; split at h
  · replace h := M.iInt h; obtain ⟨_, rfl, h⟩ := h; replace h := M.iInt h; obtain ⟨_, rfl, h⟩ := h; exact Eq.trans (by kernel_rfl) h
  · exact M.iFail h
theorem h45 : XOk Tryz.prog Tryz.f45 cuts45 L45 X45 := by
  intro Γ m args H r h; unfold X45 at h; split at h
  · replace h := M.iStr h; obtain ⟨_, rfl, h⟩ := h; exact ⟨Eq.trans (by kernel_rfl) h, Nat.le_of_ble_eq_true (by kernel_rfl)⟩
  · exact M.iFail h
theorem K45 : CodeOk Tryz.prog 45 k45 := .of Tryz.func45 (by kernel_rfl) (by kernel_rfl) h45 (fc o45_2 (fc o45_100005 fe))
-- sternpost/ether.Check
noncomputable def X46 : List Value → M := fun args => match args with
 | [v0] => .kAgg v0 fun x0 => 
 .new (.cells x0.toList 0 true) fun b1 =>
 .ld b1 (0 + 1) fun v2 =>
 .tyI .i64 v2 fun v3 =>
 .call 77 [v3] fun r4 =>
 .kTup r4 fun vs5 =>
 .nthA vs5 0 fun v6 =>
 .kBool v6 fun b7 =>
 .kTup r4 fun vs8 =>
 .nthA vs8 1 fun v9 =>
 .tyI .i64 v9 fun v10 =>
 .cmpV .neq .i64 v10 (.int .i64 (0 : Int)) fun t11 =>
 .bool t11 (
 .jmp 3 []) (
 .bool b7 (
 .jmp 3 []) (
 .ld b1 0 fun v12 =>
 .tyI .i64 v12 fun v13 =>
 .call 85 [v13] fun r14 =>
 .kBool r14 fun b15 =>
 .bool (!b15) (
 .jmp 3 []) (
 .ld b1 (0 + 2) fun v16 =>
 .tyI .i64 v16 fun v17 =>
 .cmpV .lss .i64 v17 (.int .i64 (1536 : Int)) fun t18 =>
 .bool t18 (
 .jmp 3 []) (
 .ld b1 (0 + 2) fun v19 =>
 .tyI .i64 v19 fun v20 =>
 .cmpV .gtr .i64 v20 (.int .i64 (65535 : Int)) fun t21 =>
 .bool t21 (
 .jmp 3 []) (
 .ld b1 (0 + 3) fun v22 =>
 .kStr v22 fun s23 =>
 .cmp .gtr (s23.size : Int) (1500 : Int) fun t24 =>
 .bool t24 (
 .jmp 3 []) (
 .ret (.int .i64 (0 : Int))))))))
 | _ => .fail
noncomputable def X46_3 : List Value → M := fun args => match args with
 | [] => 
 .ret (.int .i64 (30 : Int))
 | _ => .fail
noncomputable def cuts46 : Cuts := [(3, [])]
noncomputable def L46 : Places := [(3, X46_3, todoOf Tryz.f46 3)]
noncomputable def k46 : FCode := .of X46 L46 cuts46
theorem o46_3 : OOk Tryz.prog Tryz.f46 cuts46 L46 (3, X46_3, todoOf Tryz.f46 3) := by
  intro vs Γ m H r h; replace h : (X46_3 vs).run _ _ _ _ = _ := h; unfold X46_3 at h; split at h
  · exact Eq.trans (by kernel_rfl) h
  · exact M.iFail h
theorem h46 : XOk Tryz.prog Tryz.f46 cuts46 L46 X46 := by
  intro Γ m args H r h; unfold X46 at h; split at h
  · replace h := M.iAgg h; obtain ⟨_, rfl, h⟩ := h; exact ⟨Eq.trans (by kernel_rfl) h, Nat.le_of_ble_eq_true (by kernel_rfl)⟩
  · exact M.iFail h
theorem K46 : CodeOk Tryz.prog 46 k46 := .of Tryz.func46 (by kernel_rfl) (by kernel_rfl) h46 (fc o46_3 fe)
-- slices.Contains[[]int,int]
noncomputable def X47 : List Value → M := fun args => match args with
 | [v0, x3] => .kSl v0 fun a0 l1 c2 => 
 .call 86 [.slice a0 l1 c2, x3] fun r4 =>
 .tyI .i64 r4 fun v5 =>
 .cmpV .geq .i64 v5 (.int .i64 (0 : Int)) fun t6 =>
 .ret (.bool t6)
 | _ => .fail
noncomputable def cuts47 : Cuts := []
noncomputable def L47 : Places := []
noncomputable def k47 : FCode := .of X47 L47 cuts47
theorem h47 : XOk Tryz.prog Tryz.f47 cuts47 L47 X47 := by
  intro Γ m args H r h; unfold X47 at h; split at h
  · replace h := M.iSl h; obtain ⟨_, _, _, rfl, h⟩ := h; exact ⟨Eq.trans (by kernel_rfl) h, Nat.le_of_ble_eq_true (by kernel_rfl)⟩
  · exact M.iFail h
theorem K47 : CodeOk Tryz.prog 47 k47 := .of Tryz.func47 (by kernel_rfl) (by kernel_rfl) h47 fe
-- strings.HasPrefix
noncomputable def X48 : List Value → M := fun args => match args with
 | [v0, v1] => .kStr v0 fun x0 => .kStr v1 fun x1 => 
 .call 87 [.string x0, .string x1] fun r2 =>
 .kBool r2 fun b3 =>
 .ret (.bool b3)
 | _ => .fail
noncomputable def cuts48 : Cuts := []
noncomputable def L48 : Places := []
noncomputable def k48 : FCode := .of X48 L48 cuts48
theorem h48 : XOk Tryz.prog Tryz.f48 cuts48 L48 X48 := by
  intro Γ m args H r h; unfold X48 at h; split at h
  · replace h := M.iStr h; obtain ⟨_, rfl, h⟩ := h; replace h := M.iStr h; obtain ⟨_, rfl, h⟩ := h; exact ⟨Eq.trans (by kernel_rfl) h, Nat.le_of_ble_eq_true (by kernel_rfl)⟩
  · exact M.iFail h
theorem K48 : CodeOk Tryz.prog 48 k48 := .of Tryz.func48 (by kernel_rfl) (by kernel_rfl) h48 fe
-- sternpost/arp.parts
noncomputable def X49 : List Value → M := fun args => match args with
 | [v0] => .kPtr v0 fun x0 => 
 .onS x0 fun a1 =>
 .onS x0 fun a2 =>
 .onS x0 fun a3 =>
 .onS x0 fun a4 =>
 .onS x0 fun a5 =>
 .fxV (.agg #[.pointer (some (⟨a2.block, a2.off + 1, none⟩ : Addr)), .int .i64 (6 : Int)]) fun v6 =>
 .fxV (.agg #[.pointer (some (⟨a3.block, a3.off + 2, none⟩ : Addr)), .int .i64 (4 : Int)]) fun v7 =>
 .fxV (.agg #[.pointer (some (⟨a4.block, a4.off + 3, none⟩ : Addr)), .int .i64 (6 : Int)]) fun v8 =>
 .fxV (.agg #[.pointer (some (⟨a5.block, a5.off + 4, none⟩ : Addr)), .int .i64 (4 : Int)]) fun v9 =>
 .cellsOks [.agg #[.pointer (some a1), .int .i64 (2 : Int)], v6, v7, v8, v9] (.onS (Instr.fill (fun i => some (i * 2, 2)) ([.pointer none, .int .i64 (0 : Int), .pointer none, .int .i64 (0 : Int), .pointer none, .int .i64 (0 : Int), .pointer none, .int .i64 (0 : Int), .pointer none, .int .i64 (0 : Int)] : List Value).toArray (([0, 1, 2, 3, 4] : List Nat).zip [.agg #[.pointer (some a1), .int .i64 (2 : Int)], v6, v7, v8, v9])) fun cells10q =>
 .fxV (.agg cells10q) fun cells10v =>
 .kAgg cells10v fun cells10 =>
 .new (.cells cells10.toList 2 true) fun b11 =>
 .ret (.slice (some ⟨b11, 0, none⟩) 5 5))
 | _ => .fail
noncomputable def cuts49 : Cuts := []
noncomputable def L49 : Places := []
noncomputable def k49 : FCode := .of X49 L49 cuts49
theorem h49 : XOk Tryz.prog Tryz.f49 cuts49 L49 X49 := by
  intro Γ m args H r h; unfold X49 at h; split at h
  · replace h := M.iPtr h; obtain ⟨_, rfl, h⟩ := h; exact ⟨Eq.trans (by kernel_rfl) h, Nat.le_of_ble_eq_true (by kernel_rfl)⟩
  · exact M.iFail h
theorem K49 : CodeOk Tryz.prog 49 k49 := .of Tryz.func49 (by kernel_rfl) (by kernel_rfl) h49 fe
-- sternpost/arp.made
noncomputable def X50 : List Value → M := fun args => match args with
 | [v0] => .kAgg v0 fun x0 => 
 .new (.cells x0.toList 0 true) fun b1 =>
 .new (.cells [.int .i64 (0 : Int), .int .i64 (0 : Int), .int .i64 (0 : Int), .int .i64 (0 : Int), .int .i64 (0 : Int)] 0 true) fun b2 =>
 .ldn b1 0 5 fun cs3 =>
 .call 65 [.agg cs3] fun r4 =>
 .tyI .i64 r4 fun v5 =>
 .cmpV .neq .i64 v5 (.int .i64 (0 : Int)) fun t6 =>
 .bool t6 (
 .st 5 (⟨b2, 0, none⟩ : Addr) (.agg #[.int .i64 (0 : Int), .int .i64 (0 : Int), .int .i64 (0 : Int), .int .i64 (0 : Int), .int .i64 (0 : Int)]) (
 .ldn b2 0 5 fun cs8 =>
 .ret (.tuple #[.agg cs8, v5]))) (
 .ldn b1 0 5 fun cs9 =>
 .st 5 (⟨b2, 0, none⟩ : Addr) (.agg cs9) (
 .ldn b2 0 5 fun cs11 =>
 .ret (.tuple #[.agg cs11, .int .i64 (0 : Int)])))
 | _ => .fail
noncomputable def cuts50 : Cuts := []
noncomputable def L50 : Places := []
noncomputable def k50 : FCode := .of X50 L50 cuts50
theorem h50 : XOk Tryz.prog Tryz.f50 cuts50 L50 X50 := by
  intro Γ m args H r h; unfold X50 at h; split at h
  · replace h := M.iAgg h; obtain ⟨_, rfl, h⟩ := h; exact ⟨Eq.trans (by kernel_rfl) h, Nat.le_of_ble_eq_true (by kernel_rfl)⟩
  · exact M.iFail h
theorem K50 : CodeOk Tryz.prog 50 k50 := .of Tryz.func50 (by kernel_rfl) (by kernel_rfl) h50 fe
-- (*sternpost/neigh.Cache).Take
noncomputable def X51 : List Value → M := fun args => match args with
 | [v0, v1, x2] => .kPtr v0 fun x0 => .kAgg v1 fun x1 => 
 .new (.cells x1.toList 0 true) fun b3 =>
 .new (.cells [.int .i64 (0 : Int), .int .i64 (0 : Int), .int .i64 (0 : Int), .int .i64 (0 : Int), .int .i64 (0 : Int)] 0 true) fun b4 =>
 .ldn b3 0 5 fun cs5 =>
 .call 65 [.agg cs5] fun r6 =>
 .tyI .i64 r6 fun v7 =>
 .cmpV .eql .i64 v7 (.int .i64 (0 : Int)) fun t8 =>
 .bool t8 (
 .call 88 [.pointer x0, x2] fun r9 =>
 .tyI .i64 r9 fun v10 =>
 .jmp 4 [.pointer x0, x2, .pointer (some (⟨b3, 0, none⟩ : Addr)), .pointer (some (⟨b4, 0, none⟩ : Addr)), .slice none 0 0, .int .i64 (0 : Int), v10]) (
 .jmp 4 [.pointer x0, x2, .pointer (some (⟨b3, 0, none⟩ : Addr)), .pointer (some (⟨b4, 0, none⟩ : Addr)), .slice none 0 0, .int .i64 (0 : Int), v7])
 | _ => .fail
noncomputable def X51_4 : List Value → M := fun args => match args with
 | [v0, x1, v2, v3, v4, v5, x8] => .kPtr v0 fun x0 => .kPtr v2 fun x2 => .kPtr v3 fun x3 => .kSl v4 fun a4 l5 c6 => .kInt .i64 v5 fun x7 => 
 .cmpV .neq .i64 x8 (.int .i64 (0 : Int)) fun t9 =>
 .bool t9 (
 .onS x3 fun a10 =>
 .ldn a10.block a10.off 5 fun cs11 =>
 .onS x3 fun a12 =>
 .st 5 a12 (.agg cs11) (
 .onS x3 fun a14 =>
 .ldn a14.block a14.off 5 fun cs15 =>
 .ret (.tuple #[.agg cs15, .slice none 0 0, .int .i64 (0 : Int), x8]))) (
 .onS x0 fun a16 =>
 .ld a16.block (a16.off + 6) fun v17 =>
 .kSl v17 fun a18 l19 c20 =>
 .onS x2 fun a21 =>
 .ld a21.block (a21.off + 2) fun v22 =>
 .tyI .i64 v22 fun v23 =>
 .call 47 [.slice a18 l19 c20, v23] fun r24 =>
 .kBool r24 fun b25 =>
 .bool b25 (
 .onS x2 fun a26 =>
 .ld a26.block (a26.off + 1) fun v27 =>
 .tyI .i64 v27 fun v28 =>
 .onS x0 fun a29 =>
 .ld a29.block a29.off fun v30 =>
 .tyI .i64 v30 fun v31 =>
 .cmpV .neq .i64 v28 v31 fun t32 =>
 .bool t32 (
 .onS x3 fun a33 =>
 .ldn a33.block a33.off 5 fun cs34 =>
 .onS x3 fun a35 =>
 .st 5 a35 (.agg cs34) (
 .onS x3 fun a37 =>
 .ldn a37.block a37.off 5 fun cs38 =>
 .ret (.tuple #[.agg cs38, .slice none 0 0, .int .i64 (0 : Int), .int .i64 (6 : Int)]))) (
 .jmp 8 [.pointer x0, x1, .pointer x2, .pointer x3, .slice a4 l5 c6, .int .i64 x7])) (
 .jmp 8 [.pointer x0, x1, .pointer x2, .pointer x3, .slice a4 l5 c6, .int .i64 x7]))
 | _ => .fail
noncomputable def X51_8 : List Value → M := fun args => match args with
 | [v0, x1, v2, v3, v4, v5] => .kPtr v0 fun x0 => .kPtr v2 fun x2 => .kPtr v3 fun x3 => .kSl v4 fun a4 l5 c6 => .kInt .i64 v5 fun x7 => 
 .onS x2 fun a8 =>
 .ld a8.block a8.off fun v9 =>
 .tyI .i64 v9 fun v10 =>
 .cmpV .eql .i64 v10 (.int .i64 (1 : Int)) fun t11 =>
 .bool t11 (
 .onS x0 fun a12 =>
 .ld a12.block (a12.off + 6) fun v13 =>
 .kSl v13 fun a14 l15 c16 =>
 .onS x2 fun a17 =>
 .ld a17.block (a17.off + 4) fun v18 =>
 .tyI .i64 v18 fun v19 =>
 .call 47 [.slice a14 l15 c16, v19] fun r20 =>
 .kBool r20 fun b21 =>
 .jmp 9 [.pointer x0, x1, .pointer x2, .pointer x3, .slice a4 l5 c6, .int .i64 x7, .bool b21]) (
 .jmp 9 [.pointer x0, x1, .pointer x2, .pointer x3, .slice a4 l5 c6, .int .i64 x7, .bool false])
 | _ => .fail
noncomputable def X51_9 : List Value → M := fun args => match args with
 | [v0, x1, v2, v3, v4, v5, v6] => .kPtr v0 fun x0 => .kPtr v2 fun x2 => .kPtr v3 fun x3 => .kSl v4 fun a4 l5 c6 => .kInt .i64 v5 fun x7 => .kBool v6 fun x8 => 
 .onS x2 fun a9 =>
 .ld a9.block (a9.off + 2) fun v10 =>
 .tyI .i64 v10 fun v11 =>
 .call 89 [.pointer x0, v11, x1] fun r12 =>
 .kTup r12 fun vs13 =>
 .nthA vs13 0 fun v14 =>
 .tyI .i64 v14 fun v15 =>
 .kTup r12 fun vs16 =>
 .nthA vs16 1 fun v17 =>
 .kBool v17 fun b18 =>
 .onS x0 fun a19 =>
 .ld a19.block (a19.off + 8) fun v20 =>
 .kMp v20 fun r21 =>
 .onS x2 fun a22 =>
 .ld a22.block (a22.off + 2) fun v23 =>
 .tyI .i64 v23 fun v24 =>
 .lookupK 169 (.map r21) v24 false fun v25 =>
 .kPtr v25 fun p26 =>
 .opt (r21 : Option Nat) (
 .jmp 11 [.pointer x0, x1, .pointer x2, .pointer x3, .slice a4 l5 c6, .int .i64 x7, .bool x8, .bool b18, .pointer p26]) (fun blk27 =>
 .jmp 11 [.pointer x0, x1, .pointer x2, .pointer x3, .slice a4 l5 c6, .int .i64 x7, .bool x8, .bool b18, .pointer p26])
 | _ => .fail
noncomputable def X51_11 : List Value → M := fun args => match args with
 | [v0, x1, v2, v3, v4, v5, v6, v7, v8] => .kPtr v0 fun x0 => .kPtr v2 fun x2 => .kPtr v3 fun x3 => .kSl v4 fun a4 l5 c6 => .kInt .i64 v5 fun x7 => .kBool v6 fun x8 => .kBool v7 fun x9 => .kPtr v8 fun x10 => 
 .bool (!x10.isNone) (
 .onS x2 fun a11 =>
 .ld a11.block (a11.off + 2) fun v12 =>
 .tyI .i64 v12 fun v13 =>
 .cmpV .gtr .i64 v13 (.int .i64 (0 : Int)) fun t14 =>
 .bool t14 (
 .onS x10 fun a15 =>
 .ld a15.block (a15.off + 2) fun v16 =>
 .kSl v16 fun a17 l18 c19 =>
 .onS x2 fun a20 =>
 .ld a20.block (a20.off + 1) fun v21 =>
 .tyI .i64 v21 fun v22 =>
 .onS x0 fun a23 =>
 .ld a23.block (a23.off + 8) fun v24 =>
 .kMp v24 fun r25 =>
 .onS x2 fun a26 =>
 .ld a26.block (a26.off + 2) fun v27 =>
 .tyI .i64 v27 fun v28 =>
 .kInt .i64 v28 fun n29 =>
 .dele r25 (.int .i64 n29) (
 .jmp 14 [.pointer x0, x1, .pointer x2, .pointer x3, .slice a17 l18 c19, v22, .bool x8, .bool x9])) (
 .jmp 14 [.pointer x0, x1, .pointer x2, .pointer x3, .slice a4 l5 c6, .int .i64 x7, .bool x8, .bool x9])) (
 .jmp 14 [.pointer x0, x1, .pointer x2, .pointer x3, .slice a4 l5 c6, .int .i64 x7, .bool x8, .bool x9])
 | _ => .fail
noncomputable def X51_14 : List Value → M := fun args => match args with
 | [v0, x1, v2, v3, v4, x7, v6, v7] => .kPtr v0 fun x0 => .kPtr v2 fun x2 => .kPtr v3 fun x3 => .kSl v4 fun a4 l5 c6 => .kBool v6 fun x8 => .kBool v7 fun x9 => 
 .onS x2 fun a10 =>
 .ld a10.block (a10.off + 2) fun v11 =>
 .tyI .i64 v11 fun v12 =>
 .cmpV .gtr .i64 v12 (.int .i64 (0 : Int)) fun t13 =>
 .bool t13 (
 .bool x9 (
 .jmp 15 [.pointer x0, x1, .pointer x2, .pointer x3, .slice a4 l5 c6, x7, .bool x8]) (
 .bool x8 (
 .jmp 15 [.pointer x0, x1, .pointer x2, .pointer x3, .slice a4 l5 c6, x7, .bool x8]) (
 .cmp .gtr ((l5 : Nat) : Int) (0 : Int) fun t14 =>
 .bool t14 (
 .jmp 15 [.pointer x0, x1, .pointer x2, .pointer x3, .slice a4 l5 c6, x7, .bool x8]) (
 .jmp 16 [.pointer x0, .pointer x2, .pointer x3, .slice a4 l5 c6, x7, .bool x8])))) (
 .jmp 16 [.pointer x0, .pointer x2, .pointer x3, .slice a4 l5 c6, x7, .bool x8])
 | _ => .fail
noncomputable def X51_15 : List Value → M := fun args => match args with
 | [v0, x1, v2, v3, v4, x7, v6] => .kPtr v0 fun x0 => .kPtr v2 fun x2 => .kPtr v3 fun x3 => .kSl v4 fun a4 l5 c6 => .kBool v6 fun x8 => 
 .onS x2 fun a9 =>
 .ld a9.block (a9.off + 2) fun v10 =>
 .tyI .i64 v10 fun v11 =>
 .onS x2 fun a12 =>
 .ld a12.block (a12.off + 1) fun v13 =>
 .tyI .i64 v13 fun v14 =>
 .call 90 [.pointer x0, v11, v14, x1] fun r15 =>
 .jmp 16 [.pointer x0, .pointer x2, .pointer x3, .slice a4 l5 c6, x7, .bool x8]
 | _ => .fail
noncomputable def X51_16 : List Value → M := fun args => match args with
 | [v0, v1, v2, v3, x6, v5] => .kPtr v0 fun x0 => .kPtr v1 fun x1 => .kPtr v2 fun x2 => .kSl v3 fun a3 l4 c5 => .kBool v5 fun x7 => 
 .bool x7 (
 .onS x1 fun a8 =>
 .ldn a8.block a8.off 5 fun cs9 =>
 .opt (onSome x1 fun z => some z.block : Option Nat) (
 .onS x0 fun a23 =>
 .ld a23.block a23.off fun v24 =>
 .tyI .i64 v24 fun v25 =>
 .call 91 [.agg cs9, v25] fun r26 =>
 .kTup r26 fun vs27 =>
 .nthA vs27 0 fun v28 =>
 .kAgg v28 fun cs29 =>
 .ite (cs29.size = 5) (
 .kTup r26 fun vs30 =>
 .nthA vs30 1 fun v31 =>
 .tyI .i64 v31 fun v32 =>
 .onS x2 fun a33 =>
 .st 5 a33 (.agg cs29) (
 .jmp 18 [.pointer x2, .slice a3 l4 c5, x6]))) (fun blk10 =>
 .onS x0 fun a11 =>
 .ld a11.block a11.off fun v12 =>
 .tyI .i64 v12 fun v13 =>
 .call 91 [.agg cs9, v13] fun r14 =>
 .kTup r14 fun vs15 =>
 .nthA vs15 0 fun v16 =>
 .kAgg v16 fun cs17 =>
 .ite (cs17.size = 5) (
 .kTup r14 fun vs18 =>
 .nthA vs18 1 fun v19 =>
 .tyI .i64 v19 fun v20 =>
 .onS x2 fun a21 =>
 .st 5 a21 (.agg cs17) (
 .jmp 18 [.pointer x2, .slice a3 l4 c5, x6])))) (
 .jmp 18 [.pointer x2, .slice a3 l4 c5, x6])
 | _ => .fail
noncomputable def X51_18 : List Value → M := fun args => match args with
 | [v0, v1, x4] => .kPtr v0 fun x0 => .kSl v1 fun a1 l2 c3 => 
 .onS x0 fun a5 =>
 .ldn a5.block a5.off 5 fun cs6 =>
 .onS x0 fun a7 =>
 .st 5 a7 (.agg cs6) (
 .onS x0 fun a9 =>
 .ldn a9.block a9.off 5 fun cs10 =>
 .ret (.tuple #[.agg cs10, .slice a1 l2 c3, x4, .int .i64 (0 : Int)]))
 | _ => .fail
noncomputable def cuts51 : Cuts := [(18, [6, 7, 8]), (14, [0, 2, 4, 6, 7, 8, 10, 12]), (16, [0, 4, 6, 7, 8, 10]), (15, [0, 2, 4, 6, 7, 8, 10]), (11, [0, 2, 4, 6, 7, 8, 10, 12, 13]), (9, [0, 2, 4, 6, 7, 8, 10]), (8, [0, 2, 4, 6, 7, 8]), (4, [0, 2, 4, 6, 7, 8, 9])]
noncomputable def L51 : Places := [(4, X51_4, todoOf Tryz.f51 4), (8, X51_8, todoOf Tryz.f51 8), (9, X51_9, todoOf Tryz.f51 9), (11, X51_11, todoOf Tryz.f51 11), (14, X51_14, todoOf Tryz.f51 14), (15, X51_15, todoOf Tryz.f51 15), (16, X51_16, todoOf Tryz.f51 16), (18, X51_18, todoOf Tryz.f51 18)]
noncomputable def k51 : FCode := .of X51 L51 cuts51
theorem o51_4 : OOk Tryz.prog Tryz.f51 cuts51 L51 (4, X51_4, todoOf Tryz.f51 4) := by
  intro vs Γ m H r h; replace h : (X51_4 vs).run _ _ _ _ = _ := h; unfold X51_4 at h; split at h
  · replace h := M.iPtr h; obtain ⟨_, rfl, h⟩ := h; replace h := M.iPtr h; obtain ⟨_, rfl, h⟩ := h; replace h := M.iPtr h; obtain ⟨_, rfl, h⟩ := h; replace h := M.iSl h; obtain ⟨_, _, _, rfl, h⟩ := h; replace h := M.iInt h; obtain ⟨_, rfl, h⟩ := h; exact Eq.trans (by kernel_rfl) h
  · exact M.iFail h
theorem o51_8 : OOk Tryz.prog Tryz.f51 cuts51 L51 (8, X51_8, todoOf Tryz.f51 8) := by
  intro vs Γ m H r h; replace h : (X51_8 vs).run _ _ _ _ = _ := h; unfold X51_8 at h; split at h
  · replace h := M.iPtr h; obtain ⟨_, rfl, h⟩ := h; replace h := M.iPtr h; obtain ⟨_, rfl, h⟩ := h; replace h := M.iPtr h; obtain ⟨_, rfl, h⟩ := h; replace h := M.iSl h; obtain ⟨_, _, _, rfl, h⟩ := h; replace h := M.iInt h; obtain ⟨_, rfl, h⟩ := h; exact Eq.trans (by kernel_rfl) h
  · exact M.iFail h
theorem o51_9 : OOk Tryz.prog Tryz.f51 cuts51 L51 (9, X51_9, todoOf Tryz.f51 9) := by
  intro vs Γ m H r h; replace h : (X51_9 vs).run _ _ _ _ = _ := h; unfold X51_9 at h; split at h
  · replace h := M.iPtr h; obtain ⟨_, rfl, h⟩ := h; replace h := M.iPtr h; obtain ⟨_, rfl, h⟩ := h; replace h := M.iPtr h; obtain ⟨_, rfl, h⟩ := h; replace h := M.iSl h; obtain ⟨_, _, _, rfl, h⟩ := h; replace h := M.iInt h; obtain ⟨_, rfl, h⟩ := h; replace h := M.iBool h; obtain ⟨_, rfl, h⟩ := h; exact Eq.trans (by kernel_rfl) h
  · exact M.iFail h
theorem o51_11 : OOk Tryz.prog Tryz.f51 cuts51 L51 (11, X51_11, todoOf Tryz.f51 11) := by
  intro vs Γ m H r h; replace h : (X51_11 vs).run _ _ _ _ = _ := h; unfold X51_11 at h; split at h
  · replace h := M.iPtr h; obtain ⟨_, rfl, h⟩ := h; replace h := M.iPtr h; obtain ⟨_, rfl, h⟩ := h; replace h := M.iPtr h; obtain ⟨_, rfl, h⟩ := h; replace h := M.iSl h; obtain ⟨_, _, _, rfl, h⟩ := h; replace h := M.iInt h; obtain ⟨_, rfl, h⟩ := h; replace h := M.iBool h; obtain ⟨_, rfl, h⟩ := h; replace h := M.iBool h; obtain ⟨_, rfl, h⟩ := h; replace h := M.iPtr h; obtain ⟨_, rfl, h⟩ := h; exact Eq.trans (by kernel_rfl) h
  · exact M.iFail h
theorem o51_14 : OOk Tryz.prog Tryz.f51 cuts51 L51 (14, X51_14, todoOf Tryz.f51 14) := by
  intro vs Γ m H r h; replace h : (X51_14 vs).run _ _ _ _ = _ := h; unfold X51_14 at h; split at h
  · replace h := M.iPtr h; obtain ⟨_, rfl, h⟩ := h; replace h := M.iPtr h; obtain ⟨_, rfl, h⟩ := h; replace h := M.iPtr h; obtain ⟨_, rfl, h⟩ := h; replace h := M.iSl h; obtain ⟨_, _, _, rfl, h⟩ := h; replace h := M.iBool h; obtain ⟨_, rfl, h⟩ := h; replace h := M.iBool h; obtain ⟨_, rfl, h⟩ := h; exact Eq.trans (by kernel_rfl) h
  · exact M.iFail h
theorem o51_15 : OOk Tryz.prog Tryz.f51 cuts51 L51 (15, X51_15, todoOf Tryz.f51 15) := by
  intro vs Γ m H r h; replace h : (X51_15 vs).run _ _ _ _ = _ := h; unfold X51_15 at h; split at h
  · replace h := M.iPtr h; obtain ⟨_, rfl, h⟩ := h; replace h := M.iPtr h; obtain ⟨_, rfl, h⟩ := h; replace h := M.iPtr h; obtain ⟨_, rfl, h⟩ := h; replace h := M.iSl h; obtain ⟨_, _, _, rfl, h⟩ := h; replace h := M.iBool h; obtain ⟨_, rfl, h⟩ := h; exact Eq.trans (by kernel_rfl) h
  · exact M.iFail h
theorem o51_16 : OOk Tryz.prog Tryz.f51 cuts51 L51 (16, X51_16, todoOf Tryz.f51 16) := by
  intro vs Γ m H r h; replace h : (X51_16 vs).run _ _ _ _ = _ := h; unfold X51_16 at h; split at h
  · replace h := M.iPtr h; obtain ⟨_, rfl, h⟩ := h; replace h := M.iPtr h; obtain ⟨_, rfl, h⟩ := h; replace h := M.iPtr h; obtain ⟨_, rfl, h⟩ := h; replace h := M.iSl h; obtain ⟨_, _, _, rfl, h⟩ := h; replace h := M.iBool h; obtain ⟨_, rfl, h⟩ := h; exact Eq.trans (by kernel_rfl) h
  · exact M.iFail h
theorem o51_18 : OOk Tryz.prog Tryz.f51 cuts51 L51 (18, X51_18, todoOf Tryz.f51 18) := by
  intro vs Γ m H r h; replace h : (X51_18 vs).run _ _ _ _ = _ := h; unfold X51_18 at h; split at h
  · replace h := M.iPtr h; obtain ⟨_, rfl, h⟩ := h; replace h := M.iSl h; obtain ⟨_, _, _, rfl, h⟩ := h; exact Eq.trans (by kernel_rfl) h
  · exact M.iFail h
theorem h51 : XOk Tryz.prog Tryz.f51 cuts51 L51 X51 := by
  intro Γ m args H r h; unfold X51 at h; split at h
  · replace h := M.iPtr h; obtain ⟨_, rfl, h⟩ := h; replace h := M.iAgg h; obtain ⟨_, rfl, h⟩ := h; exact ⟨Eq.trans (by kernel_rfl) h, Nat.le_of_ble_eq_true (by kernel_rfl)⟩
  · exact M.iFail h
theorem K51 : CodeOk Tryz.prog 51 k51 := .of Tryz.func51 (by kernel_rfl) (by kernel_rfl) h51 (fc o51_4 (fc o51_8 (fc o51_9 (fc o51_11 (fc o51_14 (fc o51_15 (fc o51_16 (fc o51_18 fe))))))))
-- (*sternpost/host.Host).arp
noncomputable def X52 : List Value → M := fun args => match args with
 | [v0, x1, v2] => .kPtr v0 fun x0 => .kAgg v2 fun x2 => 
 .new (.cells x2.toList 0 true) fun b3 =>
 .ldn b3 0 5 fun cs4 =>
 .call 30 [.agg cs4] fun r5 =>
 .kTup r5 fun vs6 =>
 .nthA vs6 0 fun v7 =>
 .kStr v7 fun s8 =>
 .kTup r5 fun vs9 =>
 .nthA vs9 1 fun v10 =>
 .tyI .i64 v10 fun v11 =>
 .cmpV .eql .i64 v11 (.int .i64 (0 : Int)) fun t12 =>
 .bool t12 (
 .call 92 [.pointer x0, x1, .int .i64 (2054 : Int), .string s8] fun r13 =>
 .ret (.tuple #[])) (
 .ret (.tuple #[]))
 | _ => .fail
noncomputable def cuts52 : Cuts := []
noncomputable def L52 : Places := []
noncomputable def k52 : FCode := .of X52 L52 cuts52
theorem h52 : XOk Tryz.prog Tryz.f52 cuts52 L52 X52 := by
  intro Γ m args H r h; unfold X52 at h; split at h
  · replace h := M.iPtr h; obtain ⟨_, rfl, h⟩ := h; replace h := M.iAgg h; obtain ⟨_, rfl, h⟩ := h; exact ⟨Eq.trans (by kernel_rfl) h, Nat.le_of_ble_eq_true (by kernel_rfl)⟩
  · exact M.iFail h
theorem K52 : CodeOk Tryz.prog 52 k52 := .of Tryz.func52 (by kernel_rfl) (by kernel_rfl) h52 fe
-- (*sternpost/host.Host).packet
noncomputable def X53 : List Value → M := fun args => match args with
 | [v0, x1, v2] => .kPtr v0 fun x0 => .kAgg v2 fun x2 => 
 .new (.cells x2.toList 0 true) fun b3 =>
 .ldn b3 0 10 fun cs4 =>
 .call 93 [.agg cs4] fun r5 =>
 .kTup r5 fun vs6 =>
 .nthA vs6 0 fun v7 =>
 .kStr v7 fun s8 =>
 .kTup r5 fun vs9 =>
 .nthA vs9 1 fun v10 =>
 .tyI .i64 v10 fun v11 =>
 .cmpV .eql .i64 v11 (.int .i64 (0 : Int)) fun t12 =>
 .bool t12 (
 .call 92 [.pointer x0, x1, .int .i64 (2048 : Int), .string s8] fun r13 =>
 .ret (.tuple #[])) (
 .ret (.tuple #[]))
 | _ => .fail
noncomputable def cuts53 : Cuts := []
noncomputable def L53 : Places := []
noncomputable def k53 : FCode := .of X53 L53 cuts53
theorem h53 : XOk Tryz.prog Tryz.f53 cuts53 L53 X53 := by
  intro Γ m args H r h; unfold X53 at h; split at h
  · replace h := M.iPtr h; obtain ⟨_, rfl, h⟩ := h; replace h := M.iAgg h; obtain ⟨_, rfl, h⟩ := h; exact ⟨Eq.trans (by kernel_rfl) h, Nat.le_of_ble_eq_true (by kernel_rfl)⟩
  · exact M.iFail h
theorem K53 : CodeOk Tryz.prog 53 k53 := .of Tryz.func53 (by kernel_rfl) (by kernel_rfl) h53 fe
-- sternpost/ip.Decode$1
noncomputable def X54 : List Value → M := fun args => match args with
 | [x0, x1, x2] => 
 .kPtr x2 fun p3 =>
 .onS p3 fun a4 =>
 .ld a4.block a4.off fun v5 =>
 .kStr v5 fun s6 =>
 .call 45 [.string s6, x0, x1] fun r7 =>
 .kTup r7 fun vs8 =>
 .nthA vs8 0 fun v9 =>
 .tyI .i64 v9 fun v10 =>
 .kTup r7 fun vs11 =>
 .nthA vs11 1 fun v12 =>
 .tyI .i64 v12 fun v13 =>
 .ret (v10)
 | _ => .fail
noncomputable def cuts54 : Cuts := []
noncomputable def L54 : Places := []
noncomputable def k54 : FCode := .of X54 L54 cuts54
theorem h54 : XOk Tryz.prog Tryz.f54 cuts54 L54 X54 := by
  intro Γ m args H r h; unfold X54 at h; split at h
  · exact ⟨Eq.trans (by kernel_rfl) h, Nat.le_of_ble_eq_true (by kernel_rfl)⟩
  · exact M.iFail h
theorem K54 : CodeOk Tryz.prog 54 k54 := .of Tryz.func54 (by kernel_rfl) (by kernel_rfl) h54 fe
-- sternpost/sum.Whole
noncomputable def X55 : List Value → M := fun args => match args with
 | [v0] => .kStr v0 fun x0 => 
 .new (.cells [.string x0] 1 true) fun b1 =>
 .call 94 [.slice (some ⟨b1, 0, none⟩) 1 1] fun r2 =>
 .tyI .i64 r2 fun v3 =>
 .cmpV .eql .i64 v3 (.int .i64 (65535 : Int)) fun t4 =>
 .ret (.bool t4)
 | _ => .fail
noncomputable def cuts55 : Cuts := []
noncomputable def L55 : Places := []
noncomputable def k55 : FCode := .of X55 L55 cuts55
theorem h55 : XOk Tryz.prog Tryz.f55 cuts55 L55 X55 := by
  intro Γ m args H r h; unfold X55 at h; split at h
  · replace h := M.iStr h; obtain ⟨_, rfl, h⟩ := h; exact ⟨Eq.trans (by kernel_rfl) h, Nat.le_of_ble_eq_true (by kernel_rfl)⟩
  · exact M.iFail h
theorem K55 : CodeOk Tryz.prog 55 k55 := .of Tryz.func55 (by kernel_rfl) (by kernel_rfl) h55 fe
-- sternpost/ip.Check
noncomputable def X56 : List Value → M := fun args => match args with
 | [v0] => .kAgg v0 fun x0 => 
 .new (.cells x0.toList 0 true) fun b1 =>
 .ld b1 0 fun v2 =>
 .tyI .i64 v2 fun v3 =>
 .ld b1 (0 + 1) fun v4 =>
 .tyI .i64 v4 fun v5 =>
 .cellsOks [v3, v5] (.onS (Instr.fill (fun i => some (i * 1, 1)) ([.int .i64 (0 : Int), .int .i64 (0 : Int)] : List Value).toArray (([0, 1] : List Nat).zip [v3, v5])) fun cells6q =>
 .fxV (.agg cells6q) fun cells6v =>
 .kAgg cells6v fun cells6 =>
 .new (.cells cells6.toList 1 true) fun b7 =>
 .call 95 [.int .i64 (4294967295 : Int), .slice (some ⟨b7, 0, none⟩) 2 2] fun r8 =>
 .kBool r8 fun b9 =>
 .bool b9 (
 .ld b1 (0 + 2) fun v10 =>
 .tyI .i64 v10 fun v11 =>
 .ld b1 (0 + 3) fun v12 =>
 .tyI .i64 v12 fun v13 =>
 .cellsOks [v11, v13] (.onS (Instr.fill (fun i => some (i * 1, 1)) ([.int .i64 (0 : Int), .int .i64 (0 : Int)] : List Value).toArray (([0, 1] : List Nat).zip [v11, v13])) fun cells14q =>
 .fxV (.agg cells14q) fun cells14v =>
 .kAgg cells14v fun cells14 =>
 .new (.cells cells14.toList 1 true) fun b15 =>
 .call 95 [.int .i64 (255 : Int), .slice (some ⟨b15, 0, none⟩) 2 2] fun r16 =>
 .kBool r16 fun b17 =>
 .bool b17 (
 .ld b1 (0 + 4) fun v18 =>
 .tyI .i64 v18 fun v19 =>
 .cellsOks [v19] (.onS (Instr.fill (fun i => some (i * 1, 1)) ([.int .i64 (0 : Int)] : List Value).toArray (([0] : List Nat).zip [v19])) fun cells20q =>
 .fxV (.agg cells20q) fun cells20v =>
 .kAgg cells20v fun cells20 =>
 .new (.cells cells20.toList 1 true) fun b21 =>
 .call 95 [.int .i64 (65535 : Int), .slice (some ⟨b21, 0, none⟩) 1 1] fun r22 =>
 .kBool r22 fun b23 =>
 .bool b23 (
 .ld b1 (0 + 5) fun v24 =>
 .tyI .i64 v24 fun v25 =>
 .cellsOks [v25] (.onS (Instr.fill (fun i => some (i * 1, 1)) ([.int .i64 (0 : Int)] : List Value).toArray (([0] : List Nat).zip [v25])) fun cells26q =>
 .fxV (.agg cells26q) fun cells26v =>
 .kAgg cells26v fun cells26 =>
 .new (.cells cells26.toList 1 true) fun b27 =>
 .call 95 [.int .i64 (8191 : Int), .slice (some ⟨b27, 0, none⟩) 1 1] fun r28 =>
 .kBool r28 fun b29 =>
 .jmp 2 [.pointer (some (⟨b1, 0, none⟩ : Addr)), .bool b29])) (
 .jmp 2 [.pointer (some (⟨b1, 0, none⟩ : Addr)), .bool false]))) (
 .jmp 2 [.pointer (some (⟨b1, 0, none⟩ : Addr)), .bool false]))) (
 .jmp 2 [.pointer (some (⟨b1, 0, none⟩ : Addr)), .bool false]))
 | _ => .fail
noncomputable def X56_2 : List Value → M := fun args => match args with
 | [v0, v1] => .kPtr v0 fun x0 => .kBool v1 fun x1 => 
 .bool x1 (
 .onS x0 fun a2 =>
 .ld a2.block (a2.off + 8) fun v3 =>
 .kStr v3 fun s4 =>
 .nite ((4 : Int) = 0) (
 .cmp .eql ((s4.size : Int).tmod (4 : Int)) (0 : Int) fun t5 =>
 .bool t5 (
 .onS x0 fun a6 =>
 .ld a6.block (a6.off + 8) fun v7 =>
 .kStr v7 fun s8 =>
 .cmp .leq (s8.size : Int) (40 : Int) fun t9 =>
 .bool t9 (
 .onS x0 fun a10 =>
 .ld a10.block (a10.off + 9) fun v11 =>
 .kStr v11 fun s12 =>
 .onS x0 fun a13 =>
 .ldn a13.block a13.off 10 fun cs14 =>
 .opt (onSome x0 fun z => some z.block : Option Nat) (
 .snap a10.block fun o21 =>
 .call 96 [.agg cs14] fun r22 =>
 .tyI .i64 r22 fun v23 =>
 .same a10.block o21 (
 .arV .sub .i64 (.int .i64 (65535 : Int)) v23 fun v24 =>
 .cmpV .leq .i64 (.int .i64 (s12.size : Int)) v24 fun t25 =>
 .jmp 3 [.pointer x0, .bool t25])) (fun blk15 =>
 .snap a10.block fun o16 =>
 .call 96 [.agg cs14] fun r17 =>
 .tyI .i64 r17 fun v18 =>
 .same a10.block o16 (
 .arV .sub .i64 (.int .i64 (65535 : Int)) v18 fun v19 =>
 .cmpV .leq .i64 (.int .i64 (s12.size : Int)) v19 fun t20 =>
 .jmp 3 [.pointer x0, .bool t20]))) (
 .jmp 3 [.pointer x0, .bool false])) (
 .jmp 3 [.pointer x0, .bool false]))) (
 .jmp 3 [.pointer x0, .bool false])
 | _ => .fail
noncomputable def X56_3 : List Value → M := fun args => match args with
 | [v0, v1] => .kPtr v0 fun x0 => .kBool v1 fun x1 => 
 .bool x1 (
 .onS x0 fun a2 =>
 .ld a2.block (a2.off + 6) fun v3 =>
 .kBool v3 fun b4 =>
 .bool (!b4) (
 .jmp 4 [.pointer x0, .bool true]) (
 .onS x0 fun a5 =>
 .ld a5.block (a5.off + 9) fun v6 =>
 .kStr v6 fun s7 =>
 .cmp .gtr (s7.size : Int) (0 : Int) fun t8 =>
 .bool t8 (
 .onS x0 fun a9 =>
 .ld a9.block (a9.off + 9) fun v10 =>
 .kStr v10 fun s11 =>
 .nite ((8 : Int) = 0) (
 .cmp .eql ((s11.size : Int).tmod (8 : Int)) (0 : Int) fun t12 =>
 .jmp 4 [.pointer x0, .bool t12])) (
 .jmp 4 [.pointer x0, .bool false]))) (
 .jmp 4 [.pointer x0, .bool false])
 | _ => .fail
noncomputable def X56_4 : List Value → M := fun args => match args with
 | [v0, v1] => .kPtr v0 fun x0 => .kBool v1 fun x1 => 
 .bool (!x1) (
 .jmp 5 []) (
 .onS x0 fun a2 =>
 .ld a2.block (a2.off + 9) fun v3 =>
 .kStr v3 fun s4 =>
 .onS x0 fun a5 =>
 .ld a5.block (a5.off + 5) fun v6 =>
 .tyI .i64 v6 fun v7 =>
 .arV .mul .i64 (.int .i64 (8 : Int)) v7 fun v8 =>
 .arV .sub .i64 (.int .i64 (65535 : Int)) v8 fun v9 =>
 .cmpV .gtr .i64 (.int .i64 (s4.size : Int)) v9 fun t10 =>
 .bool t10 (
 .jmp 5 []) (
 .ret (.int .i64 (0 : Int))))
 | _ => .fail
noncomputable def X56_5 : List Value → M := fun args => match args with
 | [] => 
 .ret (.int .i64 (50 : Int))
 | _ => .fail
noncomputable def cuts56 : Cuts := [(5, []), (4, [1, 3]), (3, [1, 3]), (2, [1, 3])]
noncomputable def L56 : Places := [(2, X56_2, todoOf Tryz.f56 2), (3, X56_3, todoOf Tryz.f56 3), (4, X56_4, todoOf Tryz.f56 4), (5, X56_5, todoOf Tryz.f56 5)]
noncomputable def k56 : FCode := .of X56 L56 cuts56
theorem o56_2 : OOk Tryz.prog Tryz.f56 cuts56 L56 (2, X56_2, todoOf Tryz.f56 2) := by
  intro vs Γ m H r h; replace h : (X56_2 vs).run _ _ _ _ = _ := h; unfold X56_2 at h; split at h
  · replace h := M.iPtr h; obtain ⟨_, rfl, h⟩ := h; replace h := M.iBool h; obtain ⟨_, rfl, h⟩ := h; exact Eq.trans (by kernel_rfl) h
  · exact M.iFail h
theorem o56_3 : OOk Tryz.prog Tryz.f56 cuts56 L56 (3, X56_3, todoOf Tryz.f56 3) := by
  intro vs Γ m H r h; replace h : (X56_3 vs).run _ _ _ _ = _ := h; unfold X56_3 at h; split at h
  · replace h := M.iPtr h; obtain ⟨_, rfl, h⟩ := h; replace h := M.iBool h; obtain ⟨_, rfl, h⟩ := h; exact Eq.trans (by kernel_rfl) h
  · exact M.iFail h
theorem o56_4 : OOk Tryz.prog Tryz.f56 cuts56 L56 (4, X56_4, todoOf Tryz.f56 4) := by
  intro vs Γ m H r h; replace h : (X56_4 vs).run _ _ _ _ = _ := h; unfold X56_4 at h; split at h
  · replace h := M.iPtr h; obtain ⟨_, rfl, h⟩ := h; replace h := M.iBool h; obtain ⟨_, rfl, h⟩ := h; exact Eq.trans (by kernel_rfl) h
  · exact M.iFail h
theorem o56_5 : OOk Tryz.prog Tryz.f56 cuts56 L56 (5, X56_5, todoOf Tryz.f56 5) := by
  intro vs Γ m H r h; replace h : (X56_5 vs).run _ _ _ _ = _ := h; unfold X56_5 at h; split at h
  · exact Eq.trans (by kernel_rfl) h
  · exact M.iFail h
theorem h56 : XOk Tryz.prog Tryz.f56 cuts56 L56 X56 := by
  intro Γ m args H r h; unfold X56 at h; split at h
  · replace h := M.iAgg h; obtain ⟨_, rfl, h⟩ := h; exact ⟨Eq.trans (by kernel_rfl) h, Nat.le_of_ble_eq_true (by kernel_rfl)⟩
  · exact M.iFail h
theorem K56 : CodeOk Tryz.prog 56 k56 := .of Tryz.func56 (by kernel_rfl) (by kernel_rfl) h56 (fc o56_2 (fc o56_3 (fc o56_4 (fc o56_5 fe))))
-- (*sternpost/neigh.Cache).Mine
noncomputable def X57 : List Value → M := fun args => match args with
 | [v0] => .kPtr v0 fun x0 => 
 .onS x0 fun a1 =>
 .ld a1.block (a1.off + 6) fun v2 =>
 .kSl v2 fun a3 l4 c5 =>
 .call 97 [.slice a3 l4 c5] fun r6 =>
 .kSl r6 fun a7 l8 c9 =>
 .ret (.slice a7 l8 c9)
 | _ => .fail
noncomputable def cuts57 : Cuts := []
noncomputable def L57 : Places := []
noncomputable def k57 : FCode := .of X57 L57 cuts57
theorem h57 : XOk Tryz.prog Tryz.f57 cuts57 L57 X57 := by
  intro Γ m args H r h; unfold X57 at h; split at h
  · replace h := M.iPtr h; obtain ⟨_, rfl, h⟩ := h; exact ⟨Eq.trans (by kernel_rfl) h, Nat.le_of_ble_eq_true (by kernel_rfl)⟩
  · exact M.iFail h
theorem K57 : CodeOk Tryz.prog 57 k57 := .of Tryz.func57 (by kernel_rfl) (by kernel_rfl) h57 fe
-- (*sternpost/frag.Box).Take
noncomputable def X58 : List Value → M := fun args => match args with
 | [v0, v1, x2] => .kPtr v0 fun x0 => .kAgg v1 fun x1 => 
 .new (.cells x1.toList 0 true) fun b3 =>
 .new (.cells [.int .i64 (0 : Int), .int .i64 (0 : Int), .int .i64 (0 : Int), .int .i64 (0 : Int), .int .i64 (0 : Int), .int .i64 (0 : Int), .bool false, .bool false, .string (⟨#[]⟩ : ByteArray), .string (⟨#[]⟩ : ByteArray)] 0 true) fun b4 =>
 .ldn b3 0 10 fun cs5 =>
 .call 56 [.agg cs5] fun r6 =>
 .tyI .i64 r6 fun v7 =>
 .cmpV .eql .i64 v7 (.int .i64 (0 : Int)) fun t8 =>
 .bool t8 (
 .call 98 [.pointer x0, x2] fun r9 =>
 .tyI .i64 r9 fun v10 =>
 .jmp 4 [.pointer x0, x2, .pointer (some (⟨b3, 0, none⟩ : Addr)), .pointer (some (⟨b4, 0, none⟩ : Addr)), v10]) (
 .jmp 4 [.pointer x0, x2, .pointer (some (⟨b3, 0, none⟩ : Addr)), .pointer (some (⟨b4, 0, none⟩ : Addr)), v7])
 | _ => .fail
noncomputable def X58_4 : List Value → M := fun args => match args with
 | [v0, x1, v2, v3, x4] => .kPtr v0 fun x0 => .kPtr v2 fun x2 => .kPtr v3 fun x3 => 
 .cmpV .neq .i64 x4 (.int .i64 (0 : Int)) fun t5 =>
 .bool t5 (
 .jmp 5 [.pointer x2, .pointer x3, x4]) (
 .onS x2 fun a6 =>
 .ldn a6.block a6.off 10 fun cs7 =>
 .call 67 [.agg cs7] fun r8 =>
 .kBool r8 fun b9 =>
 .bool b9 (
 .jmp 5 [.pointer x2, .pointer x3, x4]) (
 .onS x2 fun a10 =>
 .ld a10.block a10.off fun v11 =>
 .tyI .i64 v11 fun v12 =>
 .onS x2 fun a13 =>
 .ld a13.block (a13.off + 1) fun v14 =>
 .tyI .i64 v14 fun v15 =>
 .onS x2 fun a16 =>
 .ld a16.block (a16.off + 3) fun v17 =>
 .tyI .i64 v17 fun v18 =>
 .onS x2 fun a19 =>
 .ld a19.block (a19.off + 4) fun v20 =>
 .tyI .i64 v20 fun v21 =>
 .cellsOks [v12, v15, v18, v21] (.onS (Program.built Tryz.prog 210 (([0, 1, 2, 3] : List Nat).zip [v12, v15, v18, v21])) fun cells22q =>
 .fxV (.agg cells22q) fun cells22v =>
 .kAgg cells22v fun cells22 =>
 .new (.cells [.int .i64 (0 : Int), .int .i64 (0 : Int), .int .i64 (0 : Int), .int .i64 (0 : Int)] 0 true) fun b23 =>
 .st 4 (⟨b23, 0, none⟩ : Addr) (.agg cells22) (
 .onS x0 fun a25 =>
 .ld a25.block (a25.off + 4) fun v26 =>
 .kMp v26 fun r27 =>
 .ldn b23 0 4 fun cs28 =>
 .lookupK 175 (.map r27) (.agg cs28) false fun v29 =>
 .kPtr v29 fun p30 =>
 .opt (r27 : Option Nat) (
 .jmp 8 [.pointer x0, x1, .pointer x2, .pointer x3, .pointer (some (⟨b23, 0, none⟩ : Addr)), .pointer p30]) (fun blk31 =>
 .jmp 8 [.pointer x0, x1, .pointer x2, .pointer x3, .pointer (some (⟨b23, 0, none⟩ : Addr)), .pointer p30])))))
 | _ => .fail
noncomputable def X58_5 : List Value → M := fun args => match args with
 | [v0, v1, x2] => .kPtr v0 fun x0 => .kPtr v1 fun x1 => 
 .onS x0 fun a3 =>
 .ldn a3.block a3.off 10 fun cs4 =>
 .call 99 [.agg cs4, x2] fun r5 =>
 .kAgg r5 fun cs6 =>
 .ite (cs6.size = 10) (
 .cmpV .eql .i64 x2 (.int .i64 (0 : Int)) fun t7 =>
 .onS x1 fun a8 =>
 .st 10 a8 (.agg cs6) (
 .onS x1 fun a10 =>
 .ldn a10.block a10.off 10 fun cs11 =>
 .ret (.tuple #[.agg cs11, .bool t7, x2])))
 | _ => .fail
noncomputable def X58_8 : List Value → M := fun args => match args with
 | [v0, x1, v2, v3, v4, v5] => .kPtr v0 fun x0 => .kPtr v2 fun x2 => .kPtr v3 fun x3 => .kPtr v4 fun x4 => .kPtr v5 fun x5 => 
 .bool x5.isNone (
 .onS x0 fun a6 =>
 .ld a6.block (a6.off + 4) fun v7 =>
 .kMp v7 fun r8 =>
 .ldmo r8 fun es9 =>
 .opt (r8 : Option Nat) (
 .onS x0 fun a15 =>
 .ld a15.block a15.off fun v16 =>
 .tyI .i64 v16 fun v17 =>
 .cmpV .geq .i64 (.int .i64 (es9.length : Int)) v17 fun t18 =>
 .bool t18 (
 .jmp 9 [.pointer x3]) (
 .jmp 10 [.pointer x0, x1, .pointer x2, .pointer x3, .pointer x4, .pointer x5])) (fun blk10 =>
 .onS x0 fun a11 =>
 .ld a11.block a11.off fun v12 =>
 .tyI .i64 v12 fun v13 =>
 .cmpV .geq .i64 (.int .i64 (es9.length : Int)) v13 fun t14 =>
 .bool t14 (
 .jmp 9 [.pointer x3]) (
 .jmp 10 [.pointer x0, x1, .pointer x2, .pointer x3, .pointer x4, .pointer x5]))) (
 .jmp 10 [.pointer x0, x1, .pointer x2, .pointer x3, .pointer x4, .pointer x5])
 | _ => .fail
noncomputable def X58_9 : List Value → M := fun args => match args with
 | [v0] => .kPtr v0 fun x0 => 
 .onS x0 fun a1 =>
 .ldn a1.block a1.off 10 fun cs2 =>
 .onS x0 fun a3 =>
 .st 10 a3 (.agg cs2) (
 .onS x0 fun a5 =>
 .ldn a5.block a5.off 10 fun cs6 =>
 .ret (.tuple #[.agg cs6, .bool false, .int .i64 (150 : Int)]))
 | _ => .fail
noncomputable def X58_10 : List Value → M := fun args => match args with
 | [v0, x1, v2, v3, v4, v5] => .kPtr v0 fun x0 => .kPtr v2 fun x2 => .kPtr v3 fun x3 => .kPtr v4 fun x4 => .kPtr v5 fun x5 => 
 .bool x5.isNone (
 .onS x0 fun a6 =>
 .ld a6.block (a6.off + 3) fun v7 =>
 .tyI .i64 v7 fun v8 =>
 .arV .add .i64 v8 (.int .i64 (1 : Int)) fun v9 =>
 .onS x0 fun a10 =>
 .cellsOk v9 (
 .st 1 (⟨a10.block, a10.off + 3, none⟩ : Addr) v9 (
 .onS x0 fun a12 =>
 .ld a12.block (a12.off + 3) fun v13 =>
 .tyI .i64 v13 fun v14 =>
 .cellsOks [x1, v14] (.onS (Program.built Tryz.prog 213 (([0, 1] : List Nat).zip [x1, v14])) fun cells15q =>
 .fxV (.agg cells15q) fun cells15v =>
 .kAgg cells15v fun cells15 =>
 .new (.cells cells15.toList 0 true) fun b16 =>
 .jmp 15 [.pointer x0, .pointer x2, .pointer x3, .pointer x4, .pointer (some (⟨b16, 0, none⟩ : Addr))])))) (
 .onS x2 fun a17 =>
 .ldn a17.block a17.off 10 fun cs18 =>
 .call 100 [.pointer x5, .agg cs18] fun r19 =>
 .kBool r19 fun b20 =>
 .bool b20 (
 .onS x3 fun a21 =>
 .ldn a21.block a21.off 10 fun cs22 =>
 .onS x3 fun a23 =>
 .st 10 a23 (.agg cs22) (
 .onS x3 fun a25 =>
 .ldn a25.block a25.off 10 fun cs26 =>
 .ret (.tuple #[.agg cs26, .bool false, .int .i64 (0 : Int)]))) (
 .jmp 15 [.pointer x0, .pointer x2, .pointer x3, .pointer x4, .pointer x5]))
 | _ => .fail
noncomputable def X58_15 : List Value → M := fun args => match args with
 | [v0, v1, v2, v3, v4] => .kPtr v0 fun x0 => .kPtr v1 fun x1 => .kPtr v2 fun x2 => .kPtr v3 fun x3 => .kPtr v4 fun x4 => 
 .onS x1 fun a5 =>
 .ldn a5.block a5.off 10 fun cs6 =>
 .call 101 [.pointer x4, .agg cs6] fun r7 =>
 .kBool r7 fun b8 =>
 .bool b8 (
 .onS x0 fun a9 =>
 .ld a9.block (a9.off + 4) fun v10 =>
 .kMp v10 fun r11 =>
 .onS x3 fun a12 =>
 .ldn a12.block a12.off 4 fun cs13 =>
 .opt (onSome x3 fun z => some z.block : Option Nat) (
 .kKey 210 (.agg cs13) fun v16 =>
 .dele r11 v16 (
 .jmp 17 [.pointer x2])) (fun blk14 =>
 .kKey 210 (.agg cs13) fun v15 =>
 .dele r11 v15 (
 .jmp 17 [.pointer x2]))) (
 .onS x4 fun a17 =>
 .ld a17.block (a17.off + 2) fun v18 =>
 .kSl v18 fun a19 l20 c21 =>
 .onS x1 fun a22 =>
 .ldn a22.block a22.off 10 fun cs23 =>
 .opt (onSome x1 fun z => some z.block : Option Nat) (
 .cellsOks [.agg cs23] (.onS (Instr.fill (fun i => some (i * 10, 10)) ([.int .i64 (0 : Int), .int .i64 (0 : Int), .int .i64 (0 : Int), .int .i64 (0 : Int), .int .i64 (0 : Int), .int .i64 (0 : Int), .bool false, .bool false, .string (⟨#[]⟩ : ByteArray), .string (⟨#[]⟩ : ByteArray)] : List Value).toArray (([0] : List Nat).zip [.agg cs23])) fun cells36q =>
 .fxV (.agg cells36q) fun cells36v =>
 .kAgg cells36v fun cells36 =>
 .new (.cells cells36.toList 10 true) fun b37 =>
 .firstC 10 (.slice (some ⟨b37, 0, none⟩) 1 1) fun n38 nw39 =>
 .app 40 (.slice a19 l20 c21) n38 nw39 fun v40 =>
 .kSl v40 fun a42 l43 c44 =>
 .onS x4 fun a45 =>
 .st 1 (⟨a45.block, a45.off + 2, none⟩ : Addr) (.slice a42 l43 c44) (
 .jmp 19 [.pointer x0, .pointer x2, .pointer x3, .pointer x4]))) (fun blk24 =>
 .cellsOks [.agg cs23] (.onS (Instr.fill (fun i => some (i * 10, 10)) ([.int .i64 (0 : Int), .int .i64 (0 : Int), .int .i64 (0 : Int), .int .i64 (0 : Int), .int .i64 (0 : Int), .int .i64 (0 : Int), .bool false, .bool false, .string (⟨#[]⟩ : ByteArray), .string (⟨#[]⟩ : ByteArray)] : List Value).toArray (([0] : List Nat).zip [.agg cs23])) fun cells25q =>
 .fxV (.agg cells25q) fun cells25v =>
 .kAgg cells25v fun cells25 =>
 .new (.cells cells25.toList 10 true) fun b26 =>
 .firstC 10 (.slice (some ⟨b26, 0, none⟩) 1 1) fun n27 nw28 =>
 .app 40 (.slice a19 l20 c21) n27 nw28 fun v29 =>
 .kSl v29 fun a31 l32 c33 =>
 .onS x4 fun a34 =>
 .st 1 (⟨a34.block, a34.off + 2, none⟩ : Addr) (.slice a31 l32 c33) (
 .jmp 19 [.pointer x0, .pointer x2, .pointer x3, .pointer x4]))))
 | _ => .fail
noncomputable def X58_17 : List Value → M := fun args => match args with
 | [v0] => .kPtr v0 fun x0 => 
 .onS x0 fun a1 =>
 .ldn a1.block a1.off 10 fun cs2 =>
 .onS x0 fun a3 =>
 .st 10 a3 (.agg cs2) (
 .onS x0 fun a5 =>
 .ldn a5.block a5.off 10 fun cs6 =>
 .ret (.tuple #[.agg cs6, .bool false, .int .i64 (120 : Int)]))
 | _ => .fail
noncomputable def X58_19 : List Value → M := fun args => match args with
 | [v0, v1, v2, v3] => .kPtr v0 fun x0 => .kPtr v1 fun x1 => .kPtr v2 fun x2 => .kPtr v3 fun x3 => 
 .onS x0 fun a4 =>
 .ld a4.block (a4.off + 4) fun v5 =>
 .kMp v5 fun r6 =>
 .onS x2 fun a7 =>
 .ldn a7.block a7.off 4 fun cs8 =>
 .opt (onSome x2 fun z => some z.block : Option Nat) (
 .onS r6 fun q12 =>
 .kKey 210 (.agg cs8) fun v13 =>
 .mupd q12 v13 (.pointer x3) (
 .jmp 20 [.pointer x0, .pointer x1, .pointer x2, .pointer x3])) (fun blk9 =>
 .onS r6 fun q10 =>
 .kKey 210 (.agg cs8) fun v11 =>
 .mupd q10 v11 (.pointer x3) (
 .jmp 20 [.pointer x0, .pointer x1, .pointer x2, .pointer x3]))
 | _ => .fail
noncomputable def X58_20 : List Value → M := fun args => match args with
 | [v0, v1, v2, v3] => .kPtr v0 fun x0 => .kPtr v1 fun x1 => .kPtr v2 fun x2 => .kPtr v3 fun x3 => 
 .call 102 [.pointer x3] fun r4 =>
 .kTup r4 fun vs5 =>
 .nthA vs5 0 fun v6 =>
 .kAgg v6 fun cs7 =>
 .ite (cs7.size = 10) (
 .kTup r4 fun vs8 =>
 .nthA vs8 1 fun v9 =>
 .kBool v9 fun b10 =>
 .onS x1 fun a11 =>
 .st 10 a11 (.agg cs7) (
 .bool (!b10) (
 .onS x1 fun a13 =>
 .st 10 a13 (.agg #[.int .i64 (0 : Int), .int .i64 (0 : Int), .int .i64 (0 : Int), .int .i64 (0 : Int), .int .i64 (0 : Int), .int .i64 (0 : Int), .bool false, .bool false, .string (⟨#[]⟩ : ByteArray), .string (⟨#[]⟩ : ByteArray)]) (
 .onS x1 fun a15 =>
 .ldn a15.block a15.off 10 fun cs16 =>
 .ret (.tuple #[.agg cs16, .bool false, .int .i64 (0 : Int)]))) (
 .onS x0 fun a17 =>
 .ld a17.block (a17.off + 4) fun v18 =>
 .kMp v18 fun r19 =>
 .onS x2 fun a20 =>
 .ldn a20.block a20.off 4 fun cs21 =>
 .opt (onSome x2 fun z => some z.block : Option Nat) (
 .kKey 210 (.agg cs21) fun v24 =>
 .dele r19 v24 (
 .jmp 24 [.pointer x1])) (fun blk22 =>
 .kKey 210 (.agg cs21) fun v23 =>
 .dele r19 v23 (
 .jmp 24 [.pointer x1])))))
 | _ => .fail
noncomputable def X58_24 : List Value → M := fun args => match args with
 | [v0] => .kPtr v0 fun x0 => 
 .onS x0 fun a1 =>
 .ldn a1.block a1.off 10 fun cs2 =>
 .onS x0 fun a3 =>
 .st 10 a3 (.agg cs2) (
 .onS x0 fun a5 =>
 .ldn a5.block a5.off 10 fun cs6 =>
 .ret (.tuple #[.agg cs6, .bool true, .int .i64 (0 : Int)]))
 | _ => .fail
noncomputable def cuts58 : Cuts := [(24, [6]), (20, [0, 6, 9, 10]), (17, [6]), (19, [0, 6, 9, 10]), (15, [0, 4, 6, 9, 10]), (9, [6]), (10, [0, 2, 4, 6, 9, 10]), (8, [0, 2, 4, 6, 9, 10]), (4, [0, 2, 4, 6, 8]), (5, [4, 6, 8])]
noncomputable def L58 : Places := [(4, X58_4, todoOf Tryz.f58 4), (5, X58_5, todoOf Tryz.f58 5), (8, X58_8, todoOf Tryz.f58 8), (9, X58_9, todoOf Tryz.f58 9), (10, X58_10, todoOf Tryz.f58 10), (15, X58_15, todoOf Tryz.f58 15), (17, X58_17, todoOf Tryz.f58 17), (19, X58_19, todoOf Tryz.f58 19), (20, X58_20, todoOf Tryz.f58 20), (24, X58_24, todoOf Tryz.f58 24)]
noncomputable def k58 : FCode := .of X58 L58 cuts58
theorem o58_4 : OOk Tryz.prog Tryz.f58 cuts58 L58 (4, X58_4, todoOf Tryz.f58 4) := by
  intro vs Γ m H r h; replace h : (X58_4 vs).run _ _ _ _ = _ := h; unfold X58_4 at h; split at h
  · replace h := M.iPtr h; obtain ⟨_, rfl, h⟩ := h; replace h := M.iPtr h; obtain ⟨_, rfl, h⟩ := h; replace h := M.iPtr h; obtain ⟨_, rfl, h⟩ := h; exact Eq.trans (by kernel_rfl) h
  · exact M.iFail h
theorem o58_5 : OOk Tryz.prog Tryz.f58 cuts58 L58 (5, X58_5, todoOf Tryz.f58 5) := by
  intro vs Γ m H r h; replace h : (X58_5 vs).run _ _ _ _ = _ := h; unfold X58_5 at h; split at h
  · replace h := M.iPtr h; obtain ⟨_, rfl, h⟩ := h; replace h := M.iPtr h; obtain ⟨_, rfl, h⟩ := h; exact Eq.trans (by kernel_rfl) h
  · exact M.iFail h
theorem o58_8 : OOk Tryz.prog Tryz.f58 cuts58 L58 (8, X58_8, todoOf Tryz.f58 8) := by
  intro vs Γ m H r h; replace h : (X58_8 vs).run _ _ _ _ = _ := h; unfold X58_8 at h; split at h
  · replace h := M.iPtr h; obtain ⟨_, rfl, h⟩ := h; replace h := M.iPtr h; obtain ⟨_, rfl, h⟩ := h; replace h := M.iPtr h; obtain ⟨_, rfl, h⟩ := h; replace h := M.iPtr h; obtain ⟨_, rfl, h⟩ := h; replace h := M.iPtr h; obtain ⟨_, rfl, h⟩ := h; exact Eq.trans (by kernel_rfl) h
  · exact M.iFail h
theorem o58_9 : OOk Tryz.prog Tryz.f58 cuts58 L58 (9, X58_9, todoOf Tryz.f58 9) := by
  intro vs Γ m H r h; replace h : (X58_9 vs).run _ _ _ _ = _ := h; unfold X58_9 at h; split at h
  · replace h := M.iPtr h; obtain ⟨_, rfl, h⟩ := h; exact Eq.trans (by kernel_rfl) h
  · exact M.iFail h
theorem o58_10 : OOk Tryz.prog Tryz.f58 cuts58 L58 (10, X58_10, todoOf Tryz.f58 10) := by
  intro vs Γ m H r h; replace h : (X58_10 vs).run _ _ _ _ = _ := h; unfold X58_10 at h; split at h
  · replace h := M.iPtr h; obtain ⟨_, rfl, h⟩ := h; replace h := M.iPtr h; obtain ⟨_, rfl, h⟩ := h; replace h := M.iPtr h; obtain ⟨_, rfl, h⟩ := h; replace h := M.iPtr h; obtain ⟨_, rfl, h⟩ := h; replace h := M.iPtr h; obtain ⟨_, rfl, h⟩ := h; exact Eq.trans (by kernel_rfl) h
  · exact M.iFail h
theorem o58_15 : OOk Tryz.prog Tryz.f58 cuts58 L58 (15, X58_15, todoOf Tryz.f58 15) := by
  intro vs Γ m H r h; replace h : (X58_15 vs).run _ _ _ _ = _ := h; unfold X58_15 at h; split at h
  · replace h := M.iPtr h; obtain ⟨_, rfl, h⟩ := h; replace h := M.iPtr h; obtain ⟨_, rfl, h⟩ := h; replace h := M.iPtr h; obtain ⟨_, rfl, h⟩ := h; replace h := M.iPtr h; obtain ⟨_, rfl, h⟩ := h; replace h := M.iPtr h; obtain ⟨_, rfl, h⟩ := h; exact Eq.trans (by kernel_rfl) h
  · exact M.iFail h
theorem o58_17 : OOk Tryz.prog Tryz.f58 cuts58 L58 (17, X58_17, todoOf Tryz.f58 17) := by
  intro vs Γ m H r h; replace h : (X58_17 vs).run _ _ _ _ = _ := h; unfold X58_17 at h; split at h
  · replace h := M.iPtr h; obtain ⟨_, rfl, h⟩ := h; exact Eq.trans (by kernel_rfl) h
  · exact M.iFail h
theorem o58_19 : OOk Tryz.prog Tryz.f58 cuts58 L58 (19, X58_19, todoOf Tryz.f58 19) := by
  intro vs Γ m H r h; replace h : (X58_19 vs).run _ _ _ _ = _ := h; unfold X58_19 at h; split at h
  · replace h := M.iPtr h; obtain ⟨_, rfl, h⟩ := h; replace h := M.iPtr h; obtain ⟨_, rfl, h⟩ := h; replace h := M.iPtr h; obtain ⟨_, rfl, h⟩ := h; replace h := M.iPtr h; obtain ⟨_, rfl, h⟩ := h; exact Eq.trans (by kernel_rfl) h
  · exact M.iFail h
theorem o58_20 : OOk Tryz.prog Tryz.f58 cuts58 L58 (20, X58_20, todoOf Tryz.f58 20) := by
  intro vs Γ m H r h; replace h : (X58_20 vs).run _ _ _ _ = _ := h; unfold X58_20 at h; split at h
  · replace h := M.iPtr h; obtain ⟨_, rfl, h⟩ := h; replace h := M.iPtr h; obtain ⟨_, rfl, h⟩ := h; replace h := M.iPtr h; obtain ⟨_, rfl, h⟩ := h; replace h := M.iPtr h; obtain ⟨_, rfl, h⟩ := h; exact Eq.trans (by kernel_rfl) h
  · exact M.iFail h
theorem o58_24 : OOk Tryz.prog Tryz.f58 cuts58 L58 (24, X58_24, todoOf Tryz.f58 24) := by
  intro vs Γ m H r h; replace h : (X58_24 vs).run _ _ _ _ = _ := h; unfold X58_24 at h; split at h
  · replace h := M.iPtr h; obtain ⟨_, rfl, h⟩ := h; exact Eq.trans (by kernel_rfl) h
  · exact M.iFail h
theorem h58 : XOk Tryz.prog Tryz.f58 cuts58 L58 X58 := by
  intro Γ m args H r h; unfold X58 at h; split at h
  · replace h := M.iPtr h; obtain ⟨_, rfl, h⟩ := h; replace h := M.iAgg h; obtain ⟨_, rfl, h⟩ := h; exact ⟨Eq.trans (by kernel_rfl) h, Nat.le_of_ble_eq_true (by kernel_rfl)⟩
  · exact M.iFail h
theorem K58 : CodeOk Tryz.prog 58 k58 := .of Tryz.func58 (by kernel_rfl) (by kernel_rfl) h58 (fc o58_4 (fc o58_5 (fc o58_8 (fc o58_9 (fc o58_10 (fc o58_15 (fc o58_17 (fc o58_19 (fc o58_20 (fc o58_24 fe))))))))))
-- WARN 58: build of an unknown part
-- sternpost/parse.Is
noncomputable def X59 : List Value → M := fun args => match args with
 | [x0, x1] => 
 .nilI x0 (.bool (!true) (
 .call 103 [x0, .iface 32 (x1)] fun r2 =>
 .kBool r2 fun b3 =>
 .bool b3 (
 .ret (.bool true)) (
 .call 104 [x0] fun r4 =>
 .tyI .i64 r4 fun v5 =>
 .cmpV .eql .i64 v5 x1 fun t6 =>
 .ret (.bool t6))) (
 .ret (.bool false))) (.bool (!false) (
 .call 103 [x0, .iface 32 (x1)] fun r7 =>
 .kBool r7 fun b8 =>
 .bool b8 (
 .ret (.bool true)) (
 .call 104 [x0] fun r9 =>
 .tyI .i64 r9 fun v10 =>
 .cmpV .eql .i64 v10 x1 fun t11 =>
 .ret (.bool t11))) (
 .ret (.bool false)))
 | _ => .fail
noncomputable def cuts59 : Cuts := []
noncomputable def L59 : Places := []
noncomputable def k59 : FCode := .of X59 L59 cuts59
theorem h59 : XOk Tryz.prog Tryz.f59 cuts59 L59 X59 := by
  intro Γ m args H r h; unfold X59 at h; split at h
  · exact ⟨Eq.trans (by kernel_rfl) h, Nat.le_of_ble_eq_true (by kernel_rfl)⟩
  · exact M.iFail h
theorem K59 : CodeOk Tryz.prog 59 k59 := .of Tryz.func59 (by kernel_rfl) (by kernel_rfl) h59 fe
-- (*sternpost/host.Host).came
noncomputable def X62 : List Value → M := fun args => match args with
 | [v0, v1, v2] => .kPtr v0 fun x0 => .kSl v1 fun a1 l2 c3 => .kSl v2 fun a4 l5 c6 => 
 .call 110 [.pointer x0, .slice a4 l5 c6] fun r7 =>
 .fxI ((l2 : Nat) : Int) fun n8 =>
 .jmp 100002 [.pointer x0, .slice a1 l2 c3, .int .i64 n8, .int .i64 (0 : Int)]
 | _ => .fail
noncomputable def X62_9 : List Value → M := fun args => match args with
 | [v0, v1, v2, v3] => .kPtr v0 fun x0 => .kSl v1 fun a1 l2 c3 => .kInt .i64 v2 fun x4 => .kInt .i64 v3 fun x5 => 
 .wr .i64 (x5 + (1 : Int)) fun n6 =>
 .jmp 100002 [.pointer x0, .slice a1 l2 c3, .int .i64 x4, .int .i64 n6]
 | _ => .fail
noncomputable def X62_100002 : List Value → M := fun args => match args with
 | [v0, v1, v2, v3] => .kPtr v0 fun x0 => .kSl v1 fun a1 l2 c3 => .kInt .i64 v2 fun x4 => .kInt .i64 v3 fun x5 => 
 .cmp .lss x5 x4 fun t6 =>
 .bool t6 (
 .onS a1 fun a7 =>
 .inb x5 l2 (
 .ldn ((a7.add (x5.toNat * 5)).block) ((a7.add (x5.toNat * 5)).off) 5 fun cs8 =>
 .new (.cells [.int .i64 (0 : Int), .int .i64 (0 : Int), .int .i64 (0 : Int), .int .i64 (0 : Int), .string (⟨#[]⟩ : ByteArray)] 0 true) fun b9 =>
 .st 5 (⟨b9, 0, none⟩ : Addr) (.agg cs8) (
 .ld b9 0 fun v11 =>
 .tyI .i64 v11 fun v12 =>
 .cmpV .lss .i64 v12 (.int .i64 (1048576 : Int)) fun t13 =>
 .bool t13 (
 .onS x0 fun a14 =>
 .ld a14.block (a14.off + 32) fun v15 =>
 .kSl v15 fun a16 l17 c18 =>
 .ldn b9 0 5 fun cs19 =>
 .cellsOks [.agg cs19] (.onS (Instr.fill (fun i => some (i * 5, 5)) ([.int .i64 (0 : Int), .int .i64 (0 : Int), .int .i64 (0 : Int), .int .i64 (0 : Int), .string (⟨#[]⟩ : ByteArray)] : List Value).toArray (([0] : List Nat).zip [.agg cs19])) fun cells20q =>
 .fxV (.agg cells20q) fun cells20v =>
 .kAgg cells20v fun cells20 =>
 .new (.cells cells20.toList 5 true) fun b21 =>
 .firstC 5 (.slice (some ⟨b21, 0, none⟩) 1 1) fun n22 nw23 =>
 .app 166 (.slice a16 l17 c18) n22 nw23 fun v24 =>
 .kSl v24 fun a26 l27 c28 =>
 .onS x0 fun a29 =>
 .st 1 (⟨a29.block, a29.off + 32, none⟩ : Addr) (.slice a26 l27 c28) (
 .jmp 9 [.pointer x0, .slice a1 l2 c3, .int .i64 x4, .int .i64 x5]))) (
 .ld b9 0 fun v31 =>
 .tyI .i64 v31 fun v32 =>
 .onS x0 fun a33 =>
 .ld a33.block ((a33.off + 27) + 2) fun v34 =>
 .tyI .i64 v34 fun v35 =>
 .cmpV .eql .i64 v32 v35 fun t36 =>
 .bool t36 (
 .ldn b9 0 5 fun cs37 =>
 .call 111 [.pointer x0, .agg cs37] fun r38 =>
 .jmp 9 [.pointer x0, .slice a1 l2 c3, .int .i64 x4, .int .i64 x5]) (
 .ldn b9 0 5 fun cs39 =>
 .call 112 [.pointer x0, .agg cs39] fun r40 =>
 .jmp 9 [.pointer x0, .slice a1 l2 c3, .int .i64 x4, .int .i64 x5]))))) (
 .ret (.tuple #[]))
 | _ => .fail
noncomputable def cuts62 : Cuts := [(100002, [0, 11, 12, 13]), (9, [0, 11, 12, 13])]
noncomputable def L62 : Places := [(9, X62_9, todoOf Tryz.f62 9), (100002, X62_100002, todoOf Tryz.f62 100002)]
noncomputable def k62 : FCode := .of X62 L62 cuts62
theorem o62_9 : OOk Tryz.prog Tryz.f62 cuts62 L62 (9, X62_9, todoOf Tryz.f62 9) := by
  intro vs Γ m H r h; replace h : (X62_9 vs).run _ _ _ _ = _ := h; unfold X62_9 at h; split at h
  · replace h := M.iPtr h; obtain ⟨_, rfl, h⟩ := h; replace h := M.iSl h; obtain ⟨_, _, _, rfl, h⟩ := h; replace h := M.iInt h; obtain ⟨_, rfl, h⟩ := h; replace h := M.iInt h; obtain ⟨_, rfl, h⟩ := h; exact Eq.trans (by kernel_rfl) h
  · exact M.iFail h
theorem o62_100002 : OOk Tryz.prog Tryz.f62 cuts62 L62 (100002, X62_100002, todoOf Tryz.f62 100002) := by
  intro vs Γ m H r h; replace h : (X62_100002 vs).run _ _ _ _ = _ := h; unfold X62_100002 at h; split at h
  · replace h := M.iPtr h; obtain ⟨_, rfl, h⟩ := h; replace h := M.iSl h; obtain ⟨_, _, _, rfl, h⟩ := h; replace h := M.iInt h; obtain ⟨_, rfl, h⟩ := h; replace h := M.iInt h; obtain ⟨_, rfl, h⟩ := h; exact Eq.trans (by kernel_rfl) h
  · exact M.iFail h
theorem h62 : XOk Tryz.prog Tryz.f62 cuts62 L62 X62 := by
  intro Γ m args H r h; unfold X62 at h; split at h
  · replace h := M.iPtr h; obtain ⟨_, rfl, h⟩ := h; replace h := M.iSl h; obtain ⟨_, _, _, rfl, h⟩ := h; replace h := M.iSl h; obtain ⟨_, _, _, rfl, h⟩ := h; exact ⟨Eq.trans (by kernel_rfl) h, Nat.le_of_ble_eq_true (by kernel_rfl)⟩
  · exact M.iFail h
theorem K62 : CodeOk Tryz.prog 62 k62 := .of Tryz.func62 (by kernel_rfl) (by kernel_rfl) h62 (fc o62_9 (fc o62_100002 fe))
-- (*sternpost/host.Host).echo
noncomputable def X63 : List Value → M := fun args => match args with
 | [v0, v1, v2] => .kPtr v0 fun x0 => .kAgg v1 fun x1 => .kAgg v2 fun x2 => 
 .new (.cells x1.toList 0 true) fun b3 =>
 .new (.cells x2.toList 0 true) fun b4 =>
 .ld b4 0 fun v5 =>
 .tyI .i64 v5 fun v6 =>
 .cmpV .eql .i64 v6 (.int .i64 (0 : Int)) fun t7 =>
 .bool t7 (
 .ld b4 (0 + 1) fun v8 =>
 .tyI .i64 v8 fun v9 =>
 .cmpV .eql .i64 v9 (.int .i64 (0 : Int)) fun t10 =>
 .bool t10 (
 .onS x0 fun a11 =>
 .ld a11.block (a11.off + 26) fun v12 =>
 .tyI .i64 v12 fun v13 =>
 .arV .add .i64 v13 (.int .i64 (1 : Int)) fun v14 =>
 .onS x0 fun a15 =>
 .cellsOk v14 (
 .st 1 (⟨a15.block, a15.off + 26, none⟩ : Addr) v14 (
 .ret (.tuple #[])))) (
 .jmp 3 [.pointer x0, .pointer (some (⟨b3, 0, none⟩ : Addr)), .pointer (some (⟨b4, 0, none⟩ : Addr))])) (
 .jmp 3 [.pointer x0, .pointer (some (⟨b3, 0, none⟩ : Addr)), .pointer (some (⟨b4, 0, none⟩ : Addr))])
 | _ => .fail
noncomputable def X63_3 : List Value → M := fun args => match args with
 | [v0, v1, v2] => .kPtr v0 fun x0 => .kPtr v1 fun x1 => .kPtr v2 fun x2 => 
 .onS x2 fun a3 =>
 .ldn a3.block a3.off 5 fun cs4 =>
 .call 113 [.agg cs4] fun r5 =>
 .kTup r5 fun vs6 =>
 .nthA vs6 0 fun v7 =>
 .kAgg v7 fun cs8 =>
 .ite (cs8.size = 5) (
 .kTup r5 fun vs9 =>
 .nthA vs9 1 fun v10 =>
 .tyI .i64 v10 fun v11 =>
 .new (.cells [.int .i64 (0 : Int), .int .i64 (0 : Int), .int .i64 (0 : Int), .int .i64 (0 : Int), .string (⟨#[]⟩ : ByteArray)] 0 true) fun b12 =>
 .st 5 (⟨b12, 0, none⟩ : Addr) (.agg cs8) (
 .cmpV .eql .i64 v11 (.int .i64 (0 : Int)) fun t14 =>
 .bool t14 (
 .onS x1 fun a15 =>
 .ld a15.block (a15.off + 1) fun v16 =>
 .tyI .i64 v16 fun v17 =>
 .onS x1 fun a18 =>
 .ld a18.block a18.off fun v19 =>
 .tyI .i64 v19 fun v20 =>
 .ldn b12 0 5 fun cs21 =>
 .call 20 [.pointer x0, v17, v20, .agg cs21] fun r22 =>
 .ret (.tuple #[])) (
 .ret (.tuple #[]))))
 | _ => .fail
noncomputable def cuts63 : Cuts := [(3, [0, 4, 5])]
noncomputable def L63 : Places := [(3, X63_3, todoOf Tryz.f63 3)]
noncomputable def k63 : FCode := .of X63 L63 cuts63
theorem o63_3 : OOk Tryz.prog Tryz.f63 cuts63 L63 (3, X63_3, todoOf Tryz.f63 3) := by
  intro vs Γ m H r h; replace h : (X63_3 vs).run _ _ _ _ = _ := h; unfold X63_3 at h; split at h
  · replace h := M.iPtr h; obtain ⟨_, rfl, h⟩ := h; replace h := M.iPtr h; obtain ⟨_, rfl, h⟩ := h; replace h := M.iPtr h; obtain ⟨_, rfl, h⟩ := h; exact Eq.trans (by kernel_rfl) h
  · exact M.iFail h
theorem h63 : XOk Tryz.prog Tryz.f63 cuts63 L63 X63 := by
  intro Γ m args H r h; unfold X63 at h; split at h
  · replace h := M.iPtr h; obtain ⟨_, rfl, h⟩ := h; replace h := M.iAgg h; obtain ⟨_, rfl, h⟩ := h; replace h := M.iAgg h; obtain ⟨_, rfl, h⟩ := h; exact ⟨Eq.trans (by kernel_rfl) h, Nat.le_of_ble_eq_true (by kernel_rfl)⟩
  · exact M.iFail h
theorem K63 : CodeOk Tryz.prog 63 k63 := .of Tryz.func63 (by kernel_rfl) (by kernel_rfl) h63 (fc o63_3 fe)
-- sternpost/arp.Ask
noncomputable def X64 : List Value → M := fun args => match args with
 | [x0, x1, x2] => 
 .new (.cells [.int .i64 (0 : Int), .int .i64 (0 : Int), .int .i64 (0 : Int), .int .i64 (0 : Int), .int .i64 (0 : Int)] 0 true) fun b3 =>
 .cellsOks [.int .i64 (1 : Int), x0, x1, x2] (.onS (Program.built Tryz.prog 38 (([0, 1, 2, 4] : List Nat).zip [.int .i64 (1 : Int), x0, x1, x2])) fun cells4q =>
 .fxV (.agg cells4q) fun cells4v =>
 .kAgg cells4v fun cells4 =>
 .call 50 [.agg cells4] fun r5 =>
 .kTup r5 fun vs6 =>
 .nthA vs6 0 fun v7 =>
 .kAgg v7 fun cs8 =>
 .ite (cs8.size = 5) (
 .kTup r5 fun vs9 =>
 .nthA vs9 1 fun v10 =>
 .tyI .i64 v10 fun v11 =>
 .st 5 (⟨b3, 0, none⟩ : Addr) (.agg cs8) (
 .ldn b3 0 5 fun cs13 =>
 .ret (.tuple #[.agg cs13, v11]))))
 | _ => .fail
noncomputable def cuts64 : Cuts := []
noncomputable def L64 : Places := []
noncomputable def k64 : FCode := .of X64 L64 cuts64
theorem h64 : XOk Tryz.prog Tryz.f64 cuts64 L64 X64 := by
  intro Γ m args H r h; unfold X64 at h; split at h
  · exact ⟨Eq.trans (by kernel_rfl) h, Nat.le_of_ble_eq_true (by kernel_rfl)⟩
  · exact M.iFail h
theorem K64 : CodeOk Tryz.prog 64 k64 := .of Tryz.func64 (by kernel_rfl) (by kernel_rfl) h64 fe
-- WARN 64: build of an unknown part
-- sternpost/arp.Check
noncomputable def X65 : List Value → M := fun args => match args with
 | [v0] => .kAgg v0 fun x0 => 
 .new (.cells x0.toList 0 true) fun b1 =>
 .ld b1 (0 + 1) fun v2 =>
 .tyI .i64 v2 fun v3 =>
 .call 77 [v3] fun r4 =>
 .kTup r4 fun vs5 =>
 .nthA vs5 0 fun v6 =>
 .kBool v6 fun b7 =>
 .kTup r4 fun vs8 =>
 .nthA vs8 1 fun v9 =>
 .tyI .i64 v9 fun v10 =>
 .ld b1 (0 + 3) fun v11 =>
 .tyI .i64 v11 fun v12 =>
 .call 77 [v12] fun r13 =>
 .kTup r13 fun vs14 =>
 .nthA vs14 0 fun v15 =>
 .kBool v15 fun b16 =>
 .kTup r13 fun vs17 =>
 .nthA vs17 1 fun v18 =>
 .tyI .i64 v18 fun v19 =>
 .ld b1 0 fun v20 =>
 .tyI .i64 v20 fun v21 =>
 .cmpV .eql .i64 v21 (.int .i64 (1 : Int)) fun t22 =>
 .bool t22 (
 .jmp 4 [.pointer (some (⟨b1, 0, none⟩ : Addr)), .bool b7, v10, v19, .bool true]) (
 .ld b1 0 fun v23 =>
 .tyI .i64 v23 fun v24 =>
 .cmpV .eql .i64 v24 (.int .i64 (2 : Int)) fun t25 =>
 .jmp 4 [.pointer (some (⟨b1, 0, none⟩ : Addr)), .bool b7, v10, v19, .bool t25])
 | _ => .fail
noncomputable def X65_4 : List Value → M := fun args => match args with
 | [v0, v1, x2, x3, v4] => .kPtr v0 fun x0 => .kBool v1 fun x1 => .kBool v4 fun x4 => 
 .cmpV .neq .i64 x2 (.int .i64 (0 : Int)) fun t5 =>
 .bool t5 (
 .jmp 5 []) (
 .cmpV .neq .i64 x3 (.int .i64 (0 : Int)) fun t6 =>
 .bool t6 (
 .jmp 5 []) (
 .bool x1 (
 .jmp 5 []) (
 .bool (!x4) (
 .jmp 5 []) (
 .onS x0 fun a7 =>
 .ld a7.block (a7.off + 2) fun v8 =>
 .tyI .i64 v8 fun v9 =>
 .call 114 [v9] fun r10 =>
 .kBool r10 fun b11 =>
 .bool (!b11) (
 .jmp 5 []) (
 .onS x0 fun a12 =>
 .ld a12.block (a12.off + 4) fun v13 =>
 .tyI .i64 v13 fun v14 =>
 .call 114 [v14] fun r15 =>
 .kBool r15 fun b16 =>
 .bool (!b16) (
 .jmp 5 []) (
 .ret (.int .i64 (0 : Int))))))))
 | _ => .fail
noncomputable def X65_5 : List Value → M := fun args => match args with
 | [] => 
 .ret (.int .i64 (40 : Int))
 | _ => .fail
noncomputable def cuts65 : Cuts := [(5, []), (4, [1, 3, 4, 6, 7])]
noncomputable def L65 : Places := [(4, X65_4, todoOf Tryz.f65 4), (5, X65_5, todoOf Tryz.f65 5)]
noncomputable def k65 : FCode := .of X65 L65 cuts65
theorem o65_4 : OOk Tryz.prog Tryz.f65 cuts65 L65 (4, X65_4, todoOf Tryz.f65 4) := by
  intro vs Γ m H r h; replace h : (X65_4 vs).run _ _ _ _ = _ := h; unfold X65_4 at h; split at h
  · replace h := M.iPtr h; obtain ⟨_, rfl, h⟩ := h; replace h := M.iBool h; obtain ⟨_, rfl, h⟩ := h; replace h := M.iBool h; obtain ⟨_, rfl, h⟩ := h; exact Eq.trans (by kernel_rfl) h
  · exact M.iFail h
theorem o65_5 : OOk Tryz.prog Tryz.f65 cuts65 L65 (5, X65_5, todoOf Tryz.f65 5) := by
  intro vs Γ m H r h; replace h : (X65_5 vs).run _ _ _ _ = _ := h; unfold X65_5 at h; split at h
  · exact Eq.trans (by kernel_rfl) h
  · exact M.iFail h
theorem h65 : XOk Tryz.prog Tryz.f65 cuts65 L65 X65 := by
  intro Γ m args H r h; unfold X65 at h; split at h
  · replace h := M.iAgg h; obtain ⟨_, rfl, h⟩ := h; exact ⟨Eq.trans (by kernel_rfl) h, Nat.le_of_ble_eq_true (by kernel_rfl)⟩
  · exact M.iFail h
theorem K65 : CodeOk Tryz.prog 65 k65 := .of Tryz.func65 (by kernel_rfl) (by kernel_rfl) h65 (fc o65_4 (fc o65_5 fe))
-- sternpost/sum.Put
noncomputable def X66 : List Value → M := fun args => match args with
 | [x0, x1] => 
 .cmpV .lss .i64 x1 (.int .i64 (1 : Int)) fun t2 =>
 .bool t2 (
 .jmp 2 []) (
 .cmpV .gtr .i64 x1 (.int .i64 (6 : Int)) fun t3 =>
 .bool t3 (
 .jmp 2 []) (
 .cmpV .lss .i64 x0 (.int .i64 (0 : Int)) fun t4 =>
 .bool t4 (
 .jmp 2 []) (
 .arV .mul .i64 (.int .i64 (8 : Int)) x1 fun v5 =>
 .shV .shr x0 v5 fun v6 =>
 .cmpV .gtr .i64 v6 (.int .i64 (0 : Int)) fun t7 =>
 .bool t7 (
 .jmp 2 []) (
 .kInt .i64 x1 fun n8 =>
 .kInt .i64 x1 fun n9 =>
 .ite (0 ≤ n8 ∧ n8 ≤ n9 ∧ 1 * n9 ≤ 140737488351232 ∧ n9 ≤ 140737488351232) (
 .new (.cells (zeroCellsOf (.int .u8 (0 : Int)) n9.toNat) 1 true) fun b10 =>
 .fxV (.slice (some ⟨b10, 0, none⟩) n8.toNat n9.toNat) fun v11 =>
 .fxI ((n8.toNat : Nat) : Int) fun n12 =>
 .jmp 100005 [x0, x1, v11, .int .i64 n12, .int .i64 (0 : Int)])))))
 | _ => .fail
noncomputable def X66_2 : List Value → M := fun args => match args with
 | [] => 
 .ret (.tuple #[.string (⟨#[]⟩ : ByteArray), .int .i64 (1 : Int)])
 | _ => .fail
noncomputable def X66_100005 : List Value → M := fun args => match args with
 | [x0, x1, x2, v3, v4] => .kInt .i64 v3 fun x3 => .kInt .i64 v4 fun x4 => 
 .cmp .lss x4 x3 fun t5 =>
 .bool t5 (
 .arV .sub .i64 x1 (.int .i64 (1 : Int)) fun v6 =>
 .arV .sub .i64 v6 (.int .i64 x4) fun v7 =>
 .arV .mul .i64 (.int .i64 (8 : Int)) v7 fun v8 =>
 .shV .shr x0 v8 fun v9 =>
 .cvtV .i64 .u8 v9 fun v10 =>
 .kSl x2 fun a11 l12 c13 =>
 .onS a11 fun a14 =>
 .inb x4 l12 (
 .cellsOk v10 (
 .st 1 (a14.add (x4.toNat * 1)) v10 (
 .wr .i64 (x4 + (1 : Int)) fun n16 =>
 .jmp 100005 [x0, x1, x2, .int .i64 x3, .int .i64 n16])))) (
 .kSl x2 fun a17 l18 c19 =>
 .opt a17 (
 .ret (.tuple #[.string .empty, .int .i64 (0 : Int)])) (fun a20 =>
 .ldc a20.block fun cs21 =>
 .ite (a20.off + l18 ≤ cs21.length) (
 .onS (bytesOf (range cs21 a20.off l18)) fun l22 =>
 .fxV (.string (⟨l22.toArray⟩ : ByteArray)) fun v23 =>
 .ret (.tuple #[v23, .int .i64 (0 : Int)]))))
 | _ => .fail
noncomputable def cuts66 : Cuts := [(100005, [0, 1, 6, 28, 29]), (2, [])]
noncomputable def L66 : Places := [(2, X66_2, todoOf Tryz.f66 2), (100005, X66_100005, todoOf Tryz.f66 100005)]
noncomputable def k66 : FCode := .of X66 L66 cuts66
theorem o66_2 : OOk Tryz.prog Tryz.f66 cuts66 L66 (2, X66_2, todoOf Tryz.f66 2) := by
  intro vs Γ m H r h; replace h : (X66_2 vs).run _ _ _ _ = _ := h; unfold X66_2 at h; split at h
  · exact Eq.trans (by kernel_rfl) h
  · exact M.iFail h
theorem o66_100005 : OOk Tryz.prog Tryz.f66 cuts66 L66 (100005, X66_100005, todoOf Tryz.f66 100005) := by
  intro vs Γ m H r h; replace h : (X66_100005 vs).run _ _ _ _ = _ := h; unfold X66_100005 at h; split at h
  · replace h := M.iInt h; obtain ⟨_, rfl, h⟩ := h; replace h := M.iInt h; obtain ⟨_, rfl, h⟩ := h; exact Eq.trans (by kernel_rfl) h
  · exact M.iFail h
theorem h66 : XOk Tryz.prog Tryz.f66 cuts66 L66 X66 := by
  intro Γ m args H r h; unfold X66 at h; split at h
  · exact ⟨Eq.trans (by kernel_rfl) h, Nat.le_of_ble_eq_true (by kernel_rfl)⟩
  · exact M.iFail h
theorem K66 : CodeOk Tryz.prog 66 k66 := .of Tryz.func66 (by kernel_rfl) (by kernel_rfl) h66 (fc o66_2 (fc o66_100005 fe))
-- sternpost/ip.Whole
noncomputable def X67 : List Value → M := fun args => match args with
 | [v0] => .kAgg v0 fun x0 => 
 .new (.cells x0.toList 0 true) fun b1 =>
 .ld b1 (0 + 5) fun v2 =>
 .tyI .i64 v2 fun v3 =>
 .cmpV .eql .i64 v3 (.int .i64 (0 : Int)) fun t4 =>
 .bool t4 (
 .ld b1 (0 + 6) fun v5 =>
 .kBool v5 fun b6 =>
 .fxB (!b6) fun t7 =>
 .ret (.bool t7)) (
 .ret (.bool false))
 | _ => .fail
noncomputable def cuts67 : Cuts := []
noncomputable def L67 : Places := []
noncomputable def k67 : FCode := .of X67 L67 cuts67
theorem h67 : XOk Tryz.prog Tryz.f67 cuts67 L67 X67 := by
  intro Γ m args H r h; unfold X67 at h; split at h
  · replace h := M.iAgg h; obtain ⟨_, rfl, h⟩ := h; exact ⟨Eq.trans (by kernel_rfl) h, Nat.le_of_ble_eq_true (by kernel_rfl)⟩
  · exact M.iFail h
theorem K67 : CodeOk Tryz.prog 67 k67 := .of Tryz.func67 (by kernel_rfl) (by kernel_rfl) h67 fe
-- sternpost/icmp.Decode
noncomputable def X68 : List Value → M := fun args => match args with
 | [v0] => .kStr v0 fun x0 => 
 .new (.cells [.int .i64 (0 : Int), .int .i64 (0 : Int), .int .i64 (0 : Int), .int .i64 (0 : Int), .string (⟨#[]⟩ : ByteArray)] 0 true) fun b1 =>
 .cmp .lss (x0.size : Int) (8 : Int) fun t2 =>
 .bool t2 (
 .jmp 2 [.pointer (some (⟨b1, 0, none⟩ : Addr))]) (
 .cmp .gtr (x0.size : Int) (65508 : Int) fun t3 =>
 .bool t3 (
 .jmp 2 [.pointer (some (⟨b1, 0, none⟩ : Addr))]) (
 .call 55 [.string x0] fun r4 =>
 .kBool r4 fun b5 =>
 .bool (!b5) (
 .st 5 (⟨b1, 0, none⟩ : Addr) (.agg #[.int .i64 (0 : Int), .int .i64 (0 : Int), .int .i64 (0 : Int), .int .i64 (0 : Int), .string (⟨#[]⟩ : ByteArray)]) (
 .ldn b1 0 5 fun cs7 =>
 .ret (.tuple #[.agg cs7, .int .i64 (20 : Int)]))) (
 .inb (0 : Int) x0.size (
 .byte x0 (0 : Int).toNat fun n8 =>
 .wr .i64 n8 fun n9 =>
 .inb (1 : Int) x0.size (
 .byte x0 (1 : Int).toNat fun n10 =>
 .wr .i64 n10 fun n11 =>
 .slStr x0 (8 : Int) (x0.size : Int) fun s13 =>
 .new (.cells [.int .i64 (0 : Int), .int .i64 (0 : Int), .int .i64 (0 : Int), .int .i64 (0 : Int), .string (⟨#[]⟩ : ByteArray)] 0 true) fun b14 =>
 .st 5 (⟨b14, 0, none⟩ : Addr) (.agg #[.int .i64 n9, .int .i64 n11, .int .i64 (0 : Int), .int .i64 (0 : Int), .string s13]) (
 .call 45 [.string x0, .int .i64 (4 : Int), .int .i64 (2 : Int)] fun r16 =>
 .kTup r16 fun vs17 =>
 .nthA vs17 0 fun v18 =>
 .tyI .i64 v18 fun v19 =>
 .kTup r16 fun vs20 =>
 .nthA vs20 1 fun v21 =>
 .tyI .i64 v21 fun v22 =>
 .cellsOk v19 (
 .st 1 (⟨b14, 0 + 2, none⟩ : Addr) v19 (
 .call 45 [.string x0, .int .i64 (6 : Int), .int .i64 (2 : Int)] fun r24 =>
 .kTup r24 fun vs25 =>
 .nthA vs25 0 fun v26 =>
 .tyI .i64 v26 fun v27 =>
 .kTup r24 fun vs28 =>
 .nthA vs28 1 fun v29 =>
 .tyI .i64 v29 fun v30 =>
 .cellsOk v27 (
 .st 1 (⟨b14, 0 + 3, none⟩ : Addr) v27 (
 .ldn b14 0 5 fun cs32 =>
 .st 5 (⟨b1, 0, none⟩ : Addr) (.agg cs32) (
 .ldn b1 0 5 fun cs34 =>
 .ret (.tuple #[.agg cs34, .int .i64 (0 : Int)]))))))))))))
 | _ => .fail
noncomputable def X68_2 : List Value → M := fun args => match args with
 | [v0] => .kPtr v0 fun x0 => 
 .onS x0 fun a1 =>
 .st 5 a1 (.agg #[.int .i64 (0 : Int), .int .i64 (0 : Int), .int .i64 (0 : Int), .int .i64 (0 : Int), .string (⟨#[]⟩ : ByteArray)]) (
 .onS x0 fun a3 =>
 .ldn a3.block a3.off 5 fun cs4 =>
 .ret (.tuple #[.agg cs4, .int .i64 (60 : Int)]))
 | _ => .fail
noncomputable def cuts68 : Cuts := [(2, [2])]
noncomputable def L68 : Places := [(2, X68_2, todoOf Tryz.f68 2)]
noncomputable def k68 : FCode := .of X68 L68 cuts68
theorem o68_2 : OOk Tryz.prog Tryz.f68 cuts68 L68 (2, X68_2, todoOf Tryz.f68 2) := by
  intro vs Γ m H r h; replace h : (X68_2 vs).run _ _ _ _ = _ := h; unfold X68_2 at h; split at h
  · replace h := M.iPtr h; obtain ⟨_, rfl, h⟩ := h; exact Eq.trans (by kernel_rfl) h
  · exact M.iFail h
theorem h68 : XOk Tryz.prog Tryz.f68 cuts68 L68 X68 := by
  intro Γ m args H r h; unfold X68 at h; split at h
  · replace h := M.iStr h; obtain ⟨_, rfl, h⟩ := h; exact ⟨Eq.trans (by kernel_rfl) h, Nat.le_of_ble_eq_true (by kernel_rfl)⟩
  · exact M.iFail h
theorem K68 : CodeOk Tryz.prog 68 k68 := .of Tryz.func68 (by kernel_rfl) (by kernel_rfl) h68 (fc o68_2 fe)
-- slices.DeleteFunc[[]int,int]
noncomputable def X74 : List Value → M := fun args => match args with
 | [v0, x3] => .kSl v0 fun a0 l1 c2 => 
 .call 134 [.slice a0 l1 c2, x3] fun r4 =>
 .tyI .i64 r4 fun v5 =>
 .cmpV .eql .i64 v5 (.int .i64 (-1 : Int)) fun t6 =>
 .bool t6 (
 .ret (.slice a0 l1 c2)) (
 .arV .add .i64 v5 (.int .i64 (1 : Int)) fun v7 =>
 .jmp 100005 [.slice a0 l1 c2, x3, v5, v7])
 | _ => .fail
noncomputable def X74_6 : List Value → M := fun args => match args with
 | [v0, x3, x4, x5] => .kSl v0 fun a0 l1 c2 => 
 .arV .add .i64 x5 (.int .i64 (1 : Int)) fun v6 =>
 .jmp 100005 [.slice a0 l1 c2, x3, x4, v6]
 | _ => .fail
noncomputable def X74_100005 : List Value → M := fun args => match args with
 | [v0, x3, x4, x5] => .kSl v0 fun a0 l1 c2 => 
 .cmpV .lss .i64 x5 (.int .i64 ((l1 : Nat) : Int)) fun t6 =>
 .bool t6 (
 .kAnyInt x5 fun k7 n8 =>
 .onS a0 fun a9 =>
 .inb n8 l1 (
 .ld ((a9.add (n8.toNat * 1)).block) ((a9.add (n8.toNat * 1)).off) fun v10 =>
 .tyI .i64 v10 fun v11 =>
 .callV x3 [v11] fun r12 =>
 .kBool r12 fun b13 =>
 .bool (!b13) (
 .kAnyInt x4 fun k14 n15 =>
 .onS a0 fun a16 =>
 .inb n15 l1 (
 .cellsOk v11 (
 .st 1 (a16.add (n15.toNat * 1)) v11 (
 .arV .add .i64 x4 (.int .i64 (1 : Int)) fun v18 =>
 .jmp 6 [.slice a0 l1 c2, x3, v18, x5])))) (
 .jmp 6 [.slice a0 l1 c2, x3, x4, x5]))) (
 .kAnyInt x4 fun k19 n20 =>
 .slSl 1 a0 l1 c2 n20 (l1 : Int) fun v21 =>
 .kSl v21 fun a22 l23 c24 =>
 .clr 1 (.int .i64 (0 : Int)) a22 l23 (
 .kAnyInt x4 fun k26 n27 =>
 .slSl 1 a0 l1 c2 (0 : Int) n27 fun v28 =>
 .kSl v28 fun a29 l30 c31 =>
 .ret (.slice a29 l30 c31)))
 | _ => .fail
noncomputable def cuts74 : Cuts := [(100005, [0, 1, 5, 6]), (6, [0, 1, 5, 6])]
noncomputable def L74 : Places := [(6, X74_6, todoOf Tryz.f74 6), (100005, X74_100005, todoOf Tryz.f74 100005)]
noncomputable def k74 : FCode := .of X74 L74 cuts74
theorem o74_6 : OOk Tryz.prog Tryz.f74 cuts74 L74 (6, X74_6, todoOf Tryz.f74 6) := by
  intro vs Γ m H r h; replace h : (X74_6 vs).run _ _ _ _ = _ := h; unfold X74_6 at h; split at h
  · replace h := M.iSl h; obtain ⟨_, _, _, rfl, h⟩ := h; exact Eq.trans (by kernel_rfl) h
  · exact M.iFail h
theorem o74_100005 : OOk Tryz.prog Tryz.f74 cuts74 L74 (100005, X74_100005, todoOf Tryz.f74 100005) := by
  intro vs Γ m H r h; replace h : (X74_100005 vs).run _ _ _ _ = _ := h; unfold X74_100005 at h; split at h
  · replace h := M.iSl h; obtain ⟨_, _, _, rfl, h⟩ := h; exact Eq.trans (by kernel_rfl) h
  · exact M.iFail h
theorem h74 : XOk Tryz.prog Tryz.f74 cuts74 L74 X74 := by
  intro Γ m args H r h; unfold X74 at h; split at h
  · replace h := M.iSl h; obtain ⟨_, _, _, rfl, h⟩ := h; exact ⟨Eq.trans (by kernel_rfl) h, Nat.le_of_ble_eq_true (by kernel_rfl)⟩
  · exact M.iFail h
theorem K74 : CodeOk Tryz.prog 74 k74 := .of Tryz.func74 (by kernel_rfl) (by kernel_rfl) h74 (fc o74_6 (fc o74_100005 fe))
-- slices.Sort[[]int,int]
noncomputable def X76 : List Value → M := fun args => match args with
 | [v0] => .kSl v0 fun a0 l1 c2 => 
 .wr .u64 ((l1 : Nat) : Int) fun n3 =>
 .call 136 [.int .u64 n3] fun r4 =>
 .tyI .i64 r4 fun v5 =>
 .fxI ((l1 : Nat) : Int) fun n6 =>
 .call 135 [.slice a0 l1 c2, .int .i64 (0 : Int), .int .i64 n6, v5] fun r7 =>
 .ret (.tuple #[])
 | _ => .fail
noncomputable def cuts76 : Cuts := []
noncomputable def L76 : Places := []
noncomputable def k76 : FCode := .of X76 L76 cuts76
theorem h76 : XOk Tryz.prog Tryz.f76 cuts76 L76 X76 := by
  intro Γ m args H r h; unfold X76 at h; split at h
  · replace h := M.iSl h; obtain ⟨_, _, _, rfl, h⟩ := h; exact ⟨Eq.trans (by kernel_rfl) h, Nat.le_of_ble_eq_true (by kernel_rfl)⟩
  · exact M.iFail h
theorem K76 : CodeOk Tryz.prog 76 k76 := .of Tryz.func76 (by kernel_rfl) (by kernel_rfl) h76 fe
-- sternpost/ether.Group
noncomputable def X77 : List Value → M := fun args => match args with
 | [x0] => 
 .call 85 [x0] fun r1 =>
 .kBool r1 fun b2 =>
 .bool (!b2) (
 .ret (.tuple #[.bool false, .int .i64 (1 : Int)])) (
 .arV .and .i64 x0 (.int .i64 (1099511627776 : Int)) fun v3 =>
 .cmpV .gtr .i64 v3 (.int .i64 (0 : Int)) fun t4 =>
 .ret (.tuple #[.bool t4, .int .i64 (0 : Int)]))
 | _ => .fail
noncomputable def cuts77 : Cuts := []
noncomputable def L77 : Places := []
noncomputable def k77 : FCode := .of X77 L77 cuts77
theorem h77 : XOk Tryz.prog Tryz.f77 cuts77 L77 X77 := by
  intro Γ m args H r h; unfold X77 at h; split at h
  · exact ⟨Eq.trans (by kernel_rfl) h, Nat.le_of_ble_eq_true (by kernel_rfl)⟩
  · exact M.iFail h
theorem K77 : CodeOk Tryz.prog 77 k77 := .of Tryz.func77 (by kernel_rfl) (by kernel_rfl) h77 fe
-- sternpost/table.New
noncomputable def X78 : List Value → M := fun args => match args with
 | [v0, x1] => .kAgg v0 fun x0 => 
 .new (.cells x0.toList 0 true) fun b2 =>
 .ldn b2 0 8 fun cs3 =>
 .call 137 [.agg cs3] fun r4 =>
 .tyI .i64 r4 fun v5 =>
 .cmpV .neq .i64 v5 (.int .i64 (0 : Int)) fun t6 =>
 .bool t6 (
 .ret (.tuple #[.pointer none, v5])) (
 .ld b2 (0 + 8) fun v7 =>
 .tyI .i64 v7 fun v8 =>
 .call 18 [v8] fun r9 =>
 .tyI .i64 r9 fun v10 =>
 .call 18 [x1] fun r11 =>
 .tyI .i64 r11 fun v12 =>
 .tyI .i64 v10 fun v13 =>
 .mmV true .i64 v13 v12 fun v14 =>
 .cmpV .gtr .i64 v14 (.int .i64 (0 : Int)) fun t15 =>
 .bool t15 (
 .jmp 5 []) (
 .ld b2 (0 + 9) fun v16 =>
 .tyI .i64 v16 fun v17 =>
 .ld b2 (0 + 10) fun v18 =>
 .tyI .i64 v18 fun v19 =>
 .tyI .i64 v17 fun v20 =>
 .mmV false .i64 v20 v19 fun v21 =>
 .cmpV .lss .i64 v21 (.int .i64 (1 : Int)) fun t22 =>
 .bool t22 (
 .jmp 5 []) (
 .ld b2 (0 + 9) fun v23 =>
 .tyI .i64 v23 fun v24 =>
 .cmpV .gtr .i64 v24 (.int .i64 (64 : Int)) fun t25 =>
 .bool t25 (
 .jmp 5 []) (
 .ld b2 (0 + 10) fun v26 =>
 .tyI .i64 v26 fun v27 =>
 .cmpV .gtr .i64 v27 (.int .i64 (256 : Int)) fun t28 =>
 .bool t28 (
 .jmp 5 []) (
 .ldn b2 0 11 fun cs29 =>
 .new (.map [] [] 0) fun b30 =>
 .new (.map [] [] 0) fun b31 =>
 .new (.map [] [] 0) fun b32 =>
 .cellsOks [.agg cs29, x1, .map (some b30), .map (some b31), .map (some b32)] (.onS (Program.built Tryz.prog 263 (([0, 1, 3, 4, 5] : List Nat).zip [.agg cs29, x1, .map (some b30), .map (some b31), .map (some b32)])) fun cells33q =>
 .fxV (.agg cells33q) fun cells33v =>
 .kAgg cells33v fun cells33 =>
 .new (.cells cells33.toList 0 true) fun b34 =>
 .ret (.tuple #[.pointer (some (⟨b34, 0, none⟩ : Addr)), .int .i64 (0 : Int)])))))))
 | _ => .fail
noncomputable def X78_5 : List Value → M := fun args => match args with
 | [] => 
 .ret (.tuple #[.pointer none, .int .i64 (1 : Int)])
 | _ => .fail
noncomputable def cuts78 : Cuts := [(5, [])]
noncomputable def L78 : Places := [(5, X78_5, todoOf Tryz.f78 5)]
noncomputable def k78 : FCode := .of X78 L78 cuts78
theorem o78_5 : OOk Tryz.prog Tryz.f78 cuts78 L78 (5, X78_5, todoOf Tryz.f78 5) := by
  intro vs Γ m H r h; replace h : (X78_5 vs).run _ _ _ _ = _ := h; unfold X78_5 at h; split at h
  · exact Eq.trans (by kernel_rfl) h
  · exact M.iFail h
theorem h78 : XOk Tryz.prog Tryz.f78 cuts78 L78 X78 := by
  intro Γ m args H r h; unfold X78 at h; split at h
  · replace h := M.iAgg h; obtain ⟨_, rfl, h⟩ := h; exact ⟨Eq.trans (by kernel_rfl) h, Nat.le_of_ble_eq_true (by kernel_rfl)⟩
  · exact M.iFail h
theorem K78 : CodeOk Tryz.prog 78 k78 := .of Tryz.func78 (by kernel_rfl) (by kernel_rfl) h78 (fc o78_5 fe)
-- WARN 78: build of an unknown part
end Go.Proofs.YtgnkjpbecgpjoaaGreatDoor
