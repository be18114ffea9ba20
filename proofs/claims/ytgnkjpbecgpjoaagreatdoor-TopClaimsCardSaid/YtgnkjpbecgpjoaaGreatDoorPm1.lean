/- PRINTED by a program of the session (Pm.lean): functions of the program as texts, for concrete runs, each checked by the kernel. Conditions: none. -/
import Derived.Test.YtgnkjpbecgpjoaaGreatDoorFx4
import Derived.Test.YtgnkjpbecgpjoaaGreatDoorProg
set_option linter.unusedVariables false
set_option linter.unusedSimpArgs false
namespace Go.Proofs.YtgnkjpbecgpjoaaGreatDoor
open Go Go.Proofs.YtgnkjpbecgpjoaaGreatDoor.Fw Go.RowKit
-- (*sternpost/sock.Box).Ask
noncomputable def X79 : List Value → M := fun args => match args with
 | [v0, v1, x2] => .kPtr v0 fun x0 => .kAgg v1 fun x1 => 
 .new (.cells x1.toList 0 true) fun b3 =>
 .ldn b3 0 7 fun cs4 =>
 .cellsOks [.agg cs4] (.onS (Program.built Tryz.prog 267 (([0] : List Nat).zip [.agg cs4])) fun cells5q =>
 .fxV (.agg cells5q) fun cells5v =>
 .kAgg cells5v fun cells5 =>
 .new (.cells cells5.toList 0 true) fun b6 =>
 .ld b3 (0 + 1) fun v7 =>
 .tyI .i64 v7 fun v8 =>
 .cmpV .lss .i64 v8 (.int .i64 (1 : Int)) fun t9 =>
 .bool t9 (
 .jmp 3 [.pointer (some (⟨b6, 0, none⟩ : Addr))]) (
 .ld b3 (0 + 1) fun v10 =>
 .tyI .i64 v10 fun v11 =>
 .cmpV .gtr .i64 v11 (.int .i64 (9 : Int)) fun t12 =>
 .bool t12 (
 .jmp 3 [.pointer (some (⟨b6, 0, none⟩ : Addr))]) (
 .onS x0 fun a13 =>
 .ld a13.block (a13.off + 2) fun v14 =>
 .kSl v14 fun a15 l16 c17 =>
 .cmp .geq ((l16 : Nat) : Int) (64 : Int) fun t18 =>
 .bool t18 (
 .call 138 [.pointer (some (⟨b6, 0, none⟩ : Addr)), .int .i64 (2 : Int)] fun r19 =>
 .kPtr r19 fun p20 =>
 .onS p20 fun a21 =>
 .ldn a21.block a21.off 5 fun cs22 =>
 .cellsOks [.agg cs22] (.onS (Instr.fill (fun i => some (i * 5, 5)) ([.int .i64 (0 : Int), .int .i64 (0 : Int), .int .i64 (0 : Int), .int .i64 (0 : Int), .string (⟨#[]⟩ : ByteArray)] : List Value).toArray (([0] : List Nat).zip [.agg cs22])) fun cells23q =>
 .fxV (.agg cells23q) fun cells23v =>
 .kAgg cells23v fun cells23 =>
 .new (.cells cells23.toList 5 true) fun b24 =>
 .ret (.tuple #[.slice (some ⟨b24, 0, none⟩) 1 1, .slice none 0 0]))) (
 .onS x0 fun a25 =>
 .cellsOk x2 (
 .st 1 (⟨a25.block, a25.off + 4, none⟩ : Addr) x2 (
 .onS x0 fun a27 =>
 .ld a27.block (a27.off + 2) fun v28 =>
 .kSl v28 fun a29 l30 c31 =>
 .new (.cells [.pointer (some (⟨b6, 0, none⟩ : Addr))] 1 true) fun b32 =>
 .firstC 1 (.slice (some ⟨b32, 0, none⟩) 1 1) fun n33 nw34 =>
 .app 264 (.slice a29 l30 c31) n33 nw34 fun v35 =>
 .kSl v35 fun a37 l38 c39 =>
 .onS x0 fun a40 =>
 .st 1 (⟨a40.block, a40.off + 2, none⟩ : Addr) (.slice a37 l38 c39) (
 .call 109 [.pointer x0] fun r42 =>
 .kTup r42 fun vs43 =>
 .nthA vs43 0 fun v44 =>
 .kSl v44 fun a45 l46 c47 =>
 .kTup r42 fun vs48 =>
 .nthA vs48 1 fun v49 =>
 .kSl v49 fun a50 l51 c52 =>
 .ret (.tuple #[.slice a45 l46 c47, .slice a50 l51 c52]))))))))
 | _ => .fail
noncomputable def X79_3 : List Value → M := fun args => match args with
 | [v0] => .kPtr v0 fun x0 => 
 .call 138 [.pointer x0, .int .i64 (3 : Int)] fun r1 =>
 .kPtr r1 fun p2 =>
 .onS p2 fun a3 =>
 .ldn a3.block a3.off 5 fun cs4 =>
 .cellsOks [.agg cs4] (.onS (Instr.fill (fun i => some (i * 5, 5)) ([.int .i64 (0 : Int), .int .i64 (0 : Int), .int .i64 (0 : Int), .int .i64 (0 : Int), .string (⟨#[]⟩ : ByteArray)] : List Value).toArray (([0] : List Nat).zip [.agg cs4])) fun cells5q =>
 .fxV (.agg cells5q) fun cells5v =>
 .kAgg cells5v fun cells5 =>
 .new (.cells cells5.toList 5 true) fun b6 =>
 .ret (.tuple #[.slice (some ⟨b6, 0, none⟩) 1 1, .slice none 0 0]))
 | _ => .fail
noncomputable def cuts79 : Cuts := [(3, [8])]
noncomputable def L79 : Places := [(3, X79_3, todoOf Tryz.f79 3)]
noncomputable def k79 : FCode := .of X79 L79 cuts79
theorem o79_3 : OOk Tryz.prog Tryz.f79 cuts79 L79 (3, X79_3, todoOf Tryz.f79 3) := by
  intro vs Γ m H r h; replace h : (X79_3 vs).run _ _ _ _ = _ := h; unfold X79_3 at h; split at h
  · replace h := M.iPtr h; obtain ⟨_, rfl, h⟩ := h; exact Eq.trans (by kernel_rfl) h
  · exact M.iFail h
theorem h79 : XOk Tryz.prog Tryz.f79 cuts79 L79 X79 := by
  intro Γ m args H r h; unfold X79 at h; split at h
  · replace h := M.iPtr h; obtain ⟨_, rfl, h⟩ := h; replace h := M.iAgg h; obtain ⟨_, rfl, h⟩ := h; exact ⟨Eq.trans (by kernel_rfl) h, Nat.le_of_ble_eq_true (by kernel_rfl)⟩
  · exact M.iFail h
theorem K79 : CodeOk Tryz.prog 79 k79 := .of Tryz.func79 (by kernel_rfl) (by kernel_rfl) h79 (fc o79_3 fe)
-- WARN 79: build of an unknown part
-- (*sternpost/host.Host).accept
noncomputable def X80 : List Value → M := fun args => match args with
 | [v0] => .kPtr v0 fun x0 => 
 .call 139 [.pointer x0] fun r1 =>
 .tyI .i64 r1 fun v2 =>
 .onS x0 fun a3 =>
 .cellsOk v2 (
 .st 1 (⟨a3.block, (a3.off + 27) + 2, none⟩ : Addr) v2 (
 .onS x0 fun a5 =>
 .ld a5.block (a5.off + 23) fun v6 =>
 .kPtr v6 fun p7 =>
 .onS x0 fun a8 =>
 .ld a8.block ((a8.off + 27) + 2) fun v9 =>
 .tyI .i64 v9 fun v10 =>
 .onS x0 fun a11 =>
 .ld a11.block (a11.off + 27) fun v12 =>
 .tyI .i64 v12 fun v13 =>
 .cellsOks [v10, .int .i64 (2 : Int), v13] (.onS (Program.built Tryz.prog 187 (([0, 1, 2] : List Nat).zip [v10, .int .i64 (2 : Int), v13])) fun cells14q =>
 .fxV (.agg cells14q) fun cells14v =>
 .kAgg cells14v fun cells14 =>
 .onS x0 fun a15 =>
 .ld a15.block (a15.off + 24) fun v16 =>
 .tyI .i64 v16 fun v17 =>
 .call 79 [.pointer p7, .agg cells14, v17] fun r18 =>
 .kTup r18 fun vs19 =>
 .nthA vs19 0 fun v20 =>
 .kSl v20 fun a21 l22 c23 =>
 .kTup r18 fun vs24 =>
 .nthA vs24 1 fun v25 =>
 .kSl v25 fun a26 l27 c28 =>
 .call 62 [.pointer x0, .slice a21 l22 c23, .slice a26 l27 c28] fun r29 =>
 .ret (.tuple #[]))))
 | _ => .fail
noncomputable def cuts80 : Cuts := []
noncomputable def L80 : Places := []
noncomputable def k80 : FCode := .of X80 L80 cuts80
theorem h80 : XOk Tryz.prog Tryz.f80 cuts80 L80 X80 := by
  intro Γ m args H r h; unfold X80 at h; split at h
  · replace h := M.iPtr h; obtain ⟨_, rfl, h⟩ := h; exact ⟨Eq.trans (by kernel_rfl) h, Nat.le_of_ble_eq_true (by kernel_rfl)⟩
  · exact M.iFail h
theorem K80 : CodeOk Tryz.prog 80 k80 := .of Tryz.func80 (by kernel_rfl) (by kernel_rfl) h80 fe
-- WARN 80: build of an unknown part
-- sternpost/icmp.Check
noncomputable def X81 : List Value → M := fun args => match args with
 | [v0] => .kAgg v0 fun x0 => 
 .new (.cells x0.toList 0 true) fun b1 =>
 .ld b1 0 fun v2 =>
 .tyI .i64 v2 fun v3 =>
 .ld b1 (0 + 1) fun v4 =>
 .tyI .i64 v4 fun v5 =>
 .ld b1 (0 + 2) fun v6 =>
 .tyI .i64 v6 fun v7 =>
 .ld b1 (0 + 3) fun v8 =>
 .tyI .i64 v8 fun v9 =>
 .tyI .i64 v3 fun v10 =>
 .mmV false .i64 v10 v5 fun v11 =>
 .mmV false .i64 v11 v7 fun v12 =>
 .mmV false .i64 v12 v9 fun v13 =>
 .cmpV .lss .i64 v13 (.int .i64 (0 : Int)) fun t14 =>
 .bool t14 (
 .jmp 2 []) (
 .ld b1 0 fun v15 =>
 .tyI .i64 v15 fun v16 =>
 .ld b1 (0 + 1) fun v17 =>
 .tyI .i64 v17 fun v18 =>
 .tyI .i64 v16 fun v19 =>
 .mmV true .i64 v19 v18 fun v20 =>
 .cmpV .gtr .i64 v20 (.int .i64 (255 : Int)) fun t21 =>
 .bool t21 (
 .jmp 2 []) (
 .ld b1 (0 + 2) fun v22 =>
 .tyI .i64 v22 fun v23 =>
 .ld b1 (0 + 3) fun v24 =>
 .tyI .i64 v24 fun v25 =>
 .tyI .i64 v23 fun v26 =>
 .mmV true .i64 v26 v25 fun v27 =>
 .cmpV .gtr .i64 v27 (.int .i64 (65535 : Int)) fun t28 =>
 .bool t28 (
 .jmp 2 []) (
 .ld b1 (0 + 4) fun v29 =>
 .kStr v29 fun s30 =>
 .cmp .gtr (s30.size : Int) (65500 : Int) fun t31 =>
 .bool t31 (
 .jmp 2 []) (
 .ret (.int .i64 (0 : Int))))))
 | _ => .fail
noncomputable def X81_2 : List Value → M := fun args => match args with
 | [] => 
 .ret (.int .i64 (60 : Int))
 | _ => .fail
noncomputable def cuts81 : Cuts := [(2, [])]
noncomputable def L81 : Places := [(2, X81_2, todoOf Tryz.f81 2)]
noncomputable def k81 : FCode := .of X81 L81 cuts81
theorem o81_2 : OOk Tryz.prog Tryz.f81 cuts81 L81 (2, X81_2, todoOf Tryz.f81 2) := by
  intro vs Γ m H r h; replace h : (X81_2 vs).run _ _ _ _ = _ := h; unfold X81_2 at h; split at h
  · exact Eq.trans (by kernel_rfl) h
  · exact M.iFail h
theorem h81 : XOk Tryz.prog Tryz.f81 cuts81 L81 X81 := by
  intro Γ m args H r h; unfold X81 at h; split at h
  · replace h := M.iAgg h; obtain ⟨_, rfl, h⟩ := h; exact ⟨Eq.trans (by kernel_rfl) h, Nat.le_of_ble_eq_true (by kernel_rfl)⟩
  · exact M.iFail h
theorem K81 : CodeOk Tryz.prog 81 k81 := .of Tryz.func81 (by kernel_rfl) (by kernel_rfl) h81 (fc o81_2 fe)
-- sternpost/sum.Seal
noncomputable def X82 : List Value → M := fun args => match args with
 | [v0, x1] => .kStr v0 fun x0 => 
 .cmpV .lss .i64 x1 (.int .i64 (0 : Int)) fun t2 =>
 .bool t2 (
 .jmp 2 []) (
 .arV .rem .i64 x1 (.int .i64 (2 : Int)) fun v3 =>
 .cmpV .eql .i64 v3 (.int .i64 (1 : Int)) fun t4 =>
 .bool t4 (
 .jmp 2 []) (
 .wr .i64 ((x0.size : Int) - (2 : Int)) fun n5 =>
 .cmpV .gtr .i64 x1 (.int .i64 n5) fun t6 =>
 .bool t6 (
 .jmp 2 []) (
 .cmp .gtr (x0.size : Int) (65536 : Int) fun t7 =>
 .bool t7 (
 .ret (.tuple #[.string (⟨#[]⟩ : ByteArray), .int .i64 (2 : Int)])) (
 .kAnyInt x1 fun k8 n9 =>
 .slStr x0 (0 : Int) n9 fun s11 =>
 .arV .add .i64 x1 (.int .i64 (2 : Int)) fun v12 =>
 .kAnyInt v12 fun k13 n14 =>
 .slStr x0 n14 (x0.size : Int) fun s16 =>
 .new (.cells [.string s11, .string (⟨#[0, 0]⟩ : ByteArray), .string s16] 1 true) fun b17 =>
 .call 94 [.slice (some ⟨b17, 0, none⟩) 3 3] fun r18 =>
 .tyI .i64 r18 fun v19 =>
 .arV .sub .i64 (.int .i64 (65535 : Int)) v19 fun v20 =>
 .call 66 [v20, .int .i64 (2 : Int)] fun r21 =>
 .kTup r21 fun vs22 =>
 .nthA vs22 0 fun v23 =>
 .kStr v23 fun s24 =>
 .kTup r21 fun vs25 =>
 .nthA vs25 1 fun v26 =>
 .tyI .i64 v26 fun v27 =>
 .kAnyInt x1 fun k28 n29 =>
 .slStr x0 (0 : Int) n29 fun s31 =>
 .cat s31 s24 fun s32 =>
 .arV .add .i64 x1 (.int .i64 (2 : Int)) fun v33 =>
 .kAnyInt v33 fun k34 n35 =>
 .slStr x0 n35 (x0.size : Int) fun s37 =>
 .cat s32 s37 fun s38 =>
 .ret (.tuple #[.string s38, v27])))))
 | _ => .fail
noncomputable def X82_2 : List Value → M := fun args => match args with
 | [] => 
 .ret (.tuple #[.string (⟨#[]⟩ : ByteArray), .int .i64 (1 : Int)])
 | _ => .fail
noncomputable def cuts82 : Cuts := [(2, [])]
noncomputable def L82 : Places := [(2, X82_2, todoOf Tryz.f82 2)]
noncomputable def k82 : FCode := .of X82 L82 cuts82
theorem o82_2 : OOk Tryz.prog Tryz.f82 cuts82 L82 (2, X82_2, todoOf Tryz.f82 2) := by
  intro vs Γ m H r h; replace h : (X82_2 vs).run _ _ _ _ = _ := h; unfold X82_2 at h; split at h
  · exact Eq.trans (by kernel_rfl) h
  · exact M.iFail h
theorem h82 : XOk Tryz.prog Tryz.f82 cuts82 L82 X82 := by
  intro Γ m args H r h; unfold X82 at h; split at h
  · replace h := M.iStr h; obtain ⟨_, rfl, h⟩ := h; exact ⟨Eq.trans (by kernel_rfl) h, Nat.le_of_ble_eq_true (by kernel_rfl)⟩
  · exact M.iFail h
theorem K82 : CodeOk Tryz.prog 82 k82 := .of Tryz.func82 (by kernel_rfl) (by kernel_rfl) h82 (fc o82_2 fe)
-- sternpost/ip.Pieces
noncomputable def X83 : List Value → M := fun args => match args with
 | [v0, x1] => .kAgg v0 fun x0 => 
 .new (.cells x0.toList 0 true) fun b2 =>
 .ldn b2 0 10 fun cs3 =>
 .call 56 [.agg cs3] fun r4 =>
 .tyI .i64 r4 fun v5 =>
 .cmpV .neq .i64 v5 (.int .i64 (0 : Int)) fun t6 =>
 .bool t6 (
 .ret (.tuple #[.slice none 0 0, v5])) (
 .ldn b2 0 10 fun cs7 =>
 .call 96 [.agg cs7] fun r8 =>
 .tyI .i64 r8 fun v9 =>
 .arV .add .i64 v9 (.int .i64 (8 : Int)) fun v10 =>
 .cmpV .lss .i64 x1 v10 fun t11 =>
 .bool t11 (
 .jmp 5 []) (
 .cmpV .gtr .i64 x1 (.int .i64 (65535 : Int)) fun t12 =>
 .bool t12 (
 .jmp 5 []) (
 .ldn b2 0 10 fun cs13 =>
 .ld b2 (0 + 9) fun v14 =>
 .kStr v14 fun s15 =>
 .snap b2 fun o16 =>
 .call 96 [.agg cs13] fun r17 =>
 .tyI .i64 r17 fun v18 =>
 .same b2 o16 (
 .arV .add .i64 v18 (.int .i64 (s15.size : Int)) fun v19 =>
 .cmpV .leq .i64 v19 x1 fun t20 =>
 .bool t20 (
 .jmp 7 [.pointer (some (⟨b2, 0, none⟩ : Addr))]) (
 .jmp 8 [x1, .pointer (some (⟨b2, 0, none⟩ : Addr))])))))
 | _ => .fail
noncomputable def X83_5 : List Value → M := fun args => match args with
 | [] => 
 .ret (.tuple #[.slice none 0 0, .int .i64 (1 : Int)])
 | _ => .fail
noncomputable def X83_7 : List Value → M := fun args => match args with
 | [v0] => .kPtr v0 fun x0 => 
 .onS x0 fun a1 =>
 .ldn a1.block a1.off 10 fun cs2 =>
 .cellsOks [.agg cs2] (.onS (Instr.fill (fun i => some (i * 10, 10)) ([.int .i64 (0 : Int), .int .i64 (0 : Int), .int .i64 (0 : Int), .int .i64 (0 : Int), .int .i64 (0 : Int), .int .i64 (0 : Int), .bool false, .bool false, .string (⟨#[]⟩ : ByteArray), .string (⟨#[]⟩ : ByteArray)] : List Value).toArray (([0] : List Nat).zip [.agg cs2])) fun cells3q =>
 .fxV (.agg cells3q) fun cells3v =>
 .kAgg cells3v fun cells3 =>
 .new (.cells cells3.toList 10 true) fun b4 =>
 .ret (.tuple #[.slice (some ⟨b4, 0, none⟩) 1 1, .int .i64 (0 : Int)]))
 | _ => .fail
noncomputable def X83_8 : List Value → M := fun args => match args with
 | [x0, v1] => .kPtr v1 fun x1 => 
 .onS x1 fun a2 =>
 .ld a2.block (a2.off + 7) fun v3 =>
 .kBool v3 fun b4 =>
 .bool b4 (
 .ret (.tuple #[.slice none 0 0, .int .i64 (2 : Int)])) (
 .new (.cells [.slice none 0 0] 0 true) fun b5 =>
 .onS x1 fun a6 =>
 .ldn a6.block a6.off 10 fun cs7 =>
 .call 96 [.agg cs7] fun r8 =>
 .tyI .i64 r8 fun v9 =>
 .arV .sub .i64 x0 v9 fun v10 =>
 .arV .quo .i64 v10 (.int .i64 (8 : Int)) fun v11 =>
 .arV .mul .i64 v11 (.int .i64 (8 : Int)) fun v12 =>
 .jmp 100013 [.pointer x1, .pointer (some (⟨b5, 0, none⟩ : Addr)), .func (.func 140) #[] #[.pointer x1, .pointer (some (⟨b5, 0, none⟩ : Addr))], v12, .int .i64 (0 : Int)])
 | _ => .fail
noncomputable def X83_100013 : List Value → M := fun args => match args with
 | [v0, v1, x2, x3, x4] => .kPtr v0 fun x0 => .kPtr v1 fun x1 => 
 .onS x0 fun a5 =>
 .ld a5.block (a5.off + 9) fun v6 =>
 .kStr v6 fun s7 =>
 .arV .sub .i64 (.int .i64 (s7.size : Int)) x4 fun v8 =>
 .cmpV .gtr .i64 v8 x3 fun t9 =>
 .bool t9 (
 .onS x0 fun a10 =>
 .ld a10.block (a10.off + 9) fun v11 =>
 .kStr v11 fun s12 =>
 .arV .add .i64 x4 x3 fun v13 =>
 .kAnyInt v13 fun k14 n15 =>
 .kAnyInt x4 fun k16 n17 =>
 .slStr s12 n17 n15 fun s19 =>
 .callV x2 [x4, .string s19, .bool true] fun r20 =>
 .arV .add .i64 x4 x3 fun v21 =>
 .jmp 100013 [.pointer x0, .pointer x1, x2, x3, v21]) (
 .onS x0 fun a22 =>
 .ld a22.block (a22.off + 9) fun v23 =>
 .kStr v23 fun s24 =>
 .kAnyInt x4 fun k25 n26 =>
 .slStr s24 n26 (s24.size : Int) fun s28 =>
 .onS x0 fun a29 =>
 .ld a29.block (a29.off + 6) fun v30 =>
 .kBool v30 fun b31 =>
 .callV x2 [x4, .string s28, .bool b31] fun r32 =>
 .onS x1 fun a33 =>
 .ld a33.block a33.off fun v34 =>
 .kSl v34 fun a35 l36 c37 =>
 .ret (.tuple #[.slice a35 l36 c37, .int .i64 (0 : Int)]))
 | _ => .fail
noncomputable def cuts83 : Cuts := [(100013, [2, 7, 8, 9, 10]), (7, [2]), (8, [1, 2]), (5, [])]
noncomputable def L83 : Places := [(5, X83_5, todoOf Tryz.f83 5), (7, X83_7, todoOf Tryz.f83 7), (8, X83_8, todoOf Tryz.f83 8), (100013, X83_100013, todoOf Tryz.f83 100013)]
noncomputable def k83 : FCode := .of X83 L83 cuts83
theorem o83_5 : OOk Tryz.prog Tryz.f83 cuts83 L83 (5, X83_5, todoOf Tryz.f83 5) := by
  intro vs Γ m H r h; replace h : (X83_5 vs).run _ _ _ _ = _ := h; unfold X83_5 at h; split at h
  · exact Eq.trans (by kernel_rfl) h
  · exact M.iFail h
theorem o83_7 : OOk Tryz.prog Tryz.f83 cuts83 L83 (7, X83_7, todoOf Tryz.f83 7) := by
  intro vs Γ m H r h; replace h : (X83_7 vs).run _ _ _ _ = _ := h; unfold X83_7 at h; split at h
  · replace h := M.iPtr h; obtain ⟨_, rfl, h⟩ := h; exact Eq.trans (by kernel_rfl) h
  · exact M.iFail h
theorem o83_8 : OOk Tryz.prog Tryz.f83 cuts83 L83 (8, X83_8, todoOf Tryz.f83 8) := by
  intro vs Γ m H r h; replace h : (X83_8 vs).run _ _ _ _ = _ := h; unfold X83_8 at h; split at h
  · replace h := M.iPtr h; obtain ⟨_, rfl, h⟩ := h; exact Eq.trans (by kernel_rfl) h
  · exact M.iFail h
theorem o83_100013 : OOk Tryz.prog Tryz.f83 cuts83 L83 (100013, X83_100013, todoOf Tryz.f83 100013) := by
  intro vs Γ m H r h; replace h : (X83_100013 vs).run _ _ _ _ = _ := h; unfold X83_100013 at h; split at h
  · replace h := M.iPtr h; obtain ⟨_, rfl, h⟩ := h; replace h := M.iPtr h; obtain ⟨_, rfl, h⟩ := h; exact Eq.trans (by kernel_rfl) h
  · exact M.iFail h
theorem h83 : XOk Tryz.prog Tryz.f83 cuts83 L83 X83 := by
  intro Γ m args H r h; unfold X83 at h; split at h
  · replace h := M.iAgg h; obtain ⟨_, rfl, h⟩ := h; exact ⟨Eq.trans (by kernel_rfl) h, Nat.le_of_ble_eq_true (by kernel_rfl)⟩
  · exact M.iFail h
theorem K83 : CodeOk Tryz.prog 83 k83 := .of Tryz.func83 (by kernel_rfl) (by kernel_rfl) h83 (fc o83_5 (fc o83_7 (fc o83_8 (fc o83_100013 fe))))
-- (*sternpost/neigh.Cache).Send
noncomputable def X84 : List Value → M := fun args => match args with
 | [v0, v1, x2, x3] => .kPtr v0 fun x0 => .kAgg v1 fun x1 => 
 .new (.cells x1.toList 0 true) fun b4 =>
 .new (.cells [.int .i64 (0 : Int), .int .i64 (0 : Int), .int .i64 (0 : Int), .int .i64 (0 : Int), .int .i64 (0 : Int)] 0 true) fun b5 =>
 .ldn b4 0 10 fun cs6 =>
 .call 56 [.agg cs6] fun r7 =>
 .tyI .i64 r7 fun v8 =>
 .cmpV .eql .i64 v8 (.int .i64 (0 : Int)) fun t9 =>
 .bool t9 (
 .call 18 [x2] fun r10 =>
 .tyI .i64 r10 fun v11 =>
 .jmp 4 [.pointer x0, x2, x3, .pointer (some (⟨b4, 0, none⟩ : Addr)), .pointer (some (⟨b5, 0, none⟩ : Addr)), v11]) (
 .jmp 4 [.pointer x0, x2, x3, .pointer (some (⟨b4, 0, none⟩ : Addr)), .pointer (some (⟨b5, 0, none⟩ : Addr)), v8])
 | _ => .fail
noncomputable def X84_4 : List Value → M := fun args => match args with
 | [v0, x1, x2, v3, v4, x5] => .kPtr v0 fun x0 => .kPtr v3 fun x3 => .kPtr v4 fun x4 => 
 .cmpV .eql .i64 x5 (.int .i64 (0 : Int)) fun t6 =>
 .bool t6 (
 .call 88 [.pointer x0, x2] fun r7 =>
 .tyI .i64 r7 fun v8 =>
 .jmp 6 [.pointer x0, x1, x2, .pointer x3, .pointer x4, v8]) (
 .jmp 6 [.pointer x0, x1, x2, .pointer x3, .pointer x4, x5])
 | _ => .fail
noncomputable def X84_6 : List Value → M := fun args => match args with
 | [v0, x1, x2, v3, v4, x5] => .kPtr v0 fun x0 => .kPtr v3 fun x3 => .kPtr v4 fun x4 => 
 .cmpV .neq .i64 x5 (.int .i64 (0 : Int)) fun t6 =>
 .bool t6 (
 .onS x4 fun a7 =>
 .ldn a7.block a7.off 5 fun cs8 =>
 .opt (onSome x4 fun z => some z.block : Option Nat) (
 .onS x4 fun a14 =>
 .st 5 a14 (.agg cs8) (
 .onS x4 fun a16 =>
 .ldn a16.block a16.off 5 fun cs17 =>
 .ret (.tuple #[.int .i64 (0 : Int), .agg cs17, x5]))) (fun blk9 =>
 .onS x4 fun a10 =>
 .st 5 a10 (.agg cs8) (
 .onS x4 fun a12 =>
 .ldn a12.block a12.off 5 fun cs13 =>
 .ret (.tuple #[.int .i64 (0 : Int), .agg cs13, x5])))) (
 .call 89 [.pointer x0, x1, x2] fun r18 =>
 .kTup r18 fun vs19 =>
 .nthA vs19 0 fun v20 =>
 .tyI .i64 v20 fun v21 =>
 .kTup r18 fun vs22 =>
 .nthA vs22 1 fun v23 =>
 .kBool v23 fun b24 =>
 .bool b24 (
 .onS x4 fun a25 =>
 .ldn a25.block a25.off 5 fun cs26 =>
 .opt (onSome x4 fun z => some z.block : Option Nat) (
 .onS x4 fun a32 =>
 .st 5 a32 (.agg cs26) (
 .onS x4 fun a34 =>
 .ldn a34.block a34.off 5 fun cs35 =>
 .ret (.tuple #[v21, .agg cs35, .int .i64 (0 : Int)]))) (fun blk27 =>
 .onS x4 fun a28 =>
 .st 5 a28 (.agg cs26) (
 .onS x4 fun a30 =>
 .ldn a30.block a30.off 5 fun cs31 =>
 .ret (.tuple #[v21, .agg cs31, .int .i64 (0 : Int)])))) (
 .onS x0 fun a36 =>
 .ld a36.block (a36.off + 4) fun v37 =>
 .tyI .i64 v37 fun v38 =>
 .snap a36.block fun o39 =>
 .call 141 [.pointer x0] fun r40 =>
 .tyI .i64 r40 fun v41 =>
 .same a36.block o39 (
 .cmpV .geq .i64 v41 v38 fun t42 =>
 .bool t42 (
 .onS x4 fun a43 =>
 .ldn a43.block a43.off 5 fun cs44 =>
 .opt (onSome x4 fun z => some z.block : Option Nat) (
 .onS x4 fun a50 =>
 .st 5 a50 (.agg cs44) (
 .onS x4 fun a52 =>
 .ldn a52.block a52.off 5 fun cs53 =>
 .ret (.tuple #[.int .i64 (0 : Int), .agg cs53, .int .i64 (150 : Int)]))) (fun blk45 =>
 .onS x4 fun a46 =>
 .st 5 a46 (.agg cs44) (
 .onS x4 fun a48 =>
 .ldn a48.block a48.off 5 fun cs49 =>
 .ret (.tuple #[.int .i64 (0 : Int), .agg cs49, .int .i64 (150 : Int)])))) (
 .onS x0 fun a54 =>
 .ld a54.block (a54.off + 8) fun v55 =>
 .kMp v55 fun r56 =>
 .lookupK 169 (.map r56) x1 false fun v57 =>
 .kPtr v57 fun p58 =>
 .bool p58.isNone (
 .cellsOks [x2] (.onS (Program.built Tryz.prog 199 (([0] : List Nat).zip [x2])) fun cells59q =>
 .fxV (.agg cells59q) fun cells59v =>
 .kAgg cells59v fun cells59 =>
 .new (.cells cells59.toList 0 true) fun b60 =>
 .onS x0 fun a61 =>
 .ld a61.block (a61.off + 8) fun v62 =>
 .kMp v62 fun r63 =>
 .onS r63 fun q64 =>
 .kInt .i64 x1 fun n65 =>
 .mupd q64 (.int .i64 n65) (.pointer (some (⟨b60, 0, none⟩ : Addr))) (
 .call 126 [.pointer x0, x1] fun r66 =>
 .kAgg r66 fun cs67 =>
 .ite (cs67.size = 5) (
 .onS x4 fun a68 =>
 .st 5 a68 (.agg cs67) (
 .jmp 18 [.pointer x3, .pointer x4, .pointer (some (⟨b60, 0, none⟩ : Addr))]))))) (
 .jmp 18 [.pointer x3, .pointer x4, .pointer p58])))))
 | _ => .fail
noncomputable def X84_18 : List Value → M := fun args => match args with
 | [v0, v1, v2] => .kPtr v0 fun x0 => .kPtr v1 fun x1 => .kPtr v2 fun x2 => 
 .onS x2 fun a3 =>
 .ld a3.block (a3.off + 2) fun v4 =>
 .kSl v4 fun a5 l6 c7 =>
 .onS x0 fun a8 =>
 .ldn a8.block a8.off 10 fun cs9 =>
 .opt (onSome x0 fun z => some z.block : Option Nat) (
 .cellsOks [.agg cs9] (.onS (Instr.fill (fun i => some (i * 10, 10)) ([.int .i64 (0 : Int), .int .i64 (0 : Int), .int .i64 (0 : Int), .int .i64 (0 : Int), .int .i64 (0 : Int), .int .i64 (0 : Int), .bool false, .bool false, .string (⟨#[]⟩ : ByteArray), .string (⟨#[]⟩ : ByteArray)] : List Value).toArray (([0] : List Nat).zip [.agg cs9])) fun cells22q =>
 .fxV (.agg cells22q) fun cells22v =>
 .kAgg cells22v fun cells22 =>
 .new (.cells cells22.toList 10 true) fun b23 =>
 .firstC 10 (.slice (some ⟨b23, 0, none⟩) 1 1) fun n24 nw25 =>
 .app 40 (.slice a5 l6 c7) n24 nw25 fun v26 =>
 .kSl v26 fun a28 l29 c30 =>
 .onS x2 fun a31 =>
 .st 1 (⟨a31.block, a31.off + 2, none⟩ : Addr) (.slice a28 l29 c30) (
 .jmp 19 [.pointer x1]))) (fun blk10 =>
 .cellsOks [.agg cs9] (.onS (Instr.fill (fun i => some (i * 10, 10)) ([.int .i64 (0 : Int), .int .i64 (0 : Int), .int .i64 (0 : Int), .int .i64 (0 : Int), .int .i64 (0 : Int), .int .i64 (0 : Int), .bool false, .bool false, .string (⟨#[]⟩ : ByteArray), .string (⟨#[]⟩ : ByteArray)] : List Value).toArray (([0] : List Nat).zip [.agg cs9])) fun cells11q =>
 .fxV (.agg cells11q) fun cells11v =>
 .kAgg cells11v fun cells11 =>
 .new (.cells cells11.toList 10 true) fun b12 =>
 .firstC 10 (.slice (some ⟨b12, 0, none⟩) 1 1) fun n13 nw14 =>
 .app 40 (.slice a5 l6 c7) n13 nw14 fun v15 =>
 .kSl v15 fun a17 l18 c19 =>
 .onS x2 fun a20 =>
 .st 1 (⟨a20.block, a20.off + 2, none⟩ : Addr) (.slice a17 l18 c19) (
 .jmp 19 [.pointer x1])))
 | _ => .fail
noncomputable def X84_19 : List Value → M := fun args => match args with
 | [v0] => .kPtr v0 fun x0 => 
 .onS x0 fun a1 =>
 .ldn a1.block a1.off 5 fun cs2 =>
 .opt (onSome x0 fun z => some z.block : Option Nat) (
 .onS x0 fun a8 =>
 .st 5 a8 (.agg cs2) (
 .onS x0 fun a10 =>
 .ldn a10.block a10.off 5 fun cs11 =>
 .ret (.tuple #[.int .i64 (0 : Int), .agg cs11, .int .i64 (110 : Int)]))) (fun blk3 =>
 .onS x0 fun a4 =>
 .st 5 a4 (.agg cs2) (
 .onS x0 fun a6 =>
 .ldn a6.block a6.off 5 fun cs7 =>
 .ret (.tuple #[.int .i64 (0 : Int), .agg cs7, .int .i64 (110 : Int)])))
 | _ => .fail
noncomputable def cuts84 : Cuts := [(18, [5, 9, 13]), (19, [9]), (6, [0, 2, 3, 5, 9, 10]), (4, [0, 2, 3, 5, 9, 10])]
noncomputable def L84 : Places := [(4, X84_4, todoOf Tryz.f84 4), (6, X84_6, todoOf Tryz.f84 6), (18, X84_18, todoOf Tryz.f84 18), (19, X84_19, todoOf Tryz.f84 19)]
noncomputable def k84 : FCode := .of X84 L84 cuts84
theorem o84_4 : OOk Tryz.prog Tryz.f84 cuts84 L84 (4, X84_4, todoOf Tryz.f84 4) := by
  intro vs Γ m H r h; replace h : (X84_4 vs).run _ _ _ _ = _ := h; unfold X84_4 at h; split at h
  · replace h := M.iPtr h; obtain ⟨_, rfl, h⟩ := h; replace h := M.iPtr h; obtain ⟨_, rfl, h⟩ := h; replace h := M.iPtr h; obtain ⟨_, rfl, h⟩ := h; exact Eq.trans (by kernel_rfl) h
  · exact M.iFail h
theorem o84_6 : OOk Tryz.prog Tryz.f84 cuts84 L84 (6, X84_6, todoOf Tryz.f84 6) := by
  intro vs Γ m H r h; replace h : (X84_6 vs).run _ _ _ _ = _ := h; unfold X84_6 at h; split at h
  · replace h := M.iPtr h; obtain ⟨_, rfl, h⟩ := h; replace h := M.iPtr h; obtain ⟨_, rfl, h⟩ := h; replace h := M.iPtr h; obtain ⟨_, rfl, h⟩ := h; exact Eq.trans (by kernel_rfl) h
  · exact M.iFail h
theorem o84_18 : OOk Tryz.prog Tryz.f84 cuts84 L84 (18, X84_18, todoOf Tryz.f84 18) := by
  intro vs Γ m H r h; replace h : (X84_18 vs).run _ _ _ _ = _ := h; unfold X84_18 at h; split at h
  · replace h := M.iPtr h; obtain ⟨_, rfl, h⟩ := h; replace h := M.iPtr h; obtain ⟨_, rfl, h⟩ := h; replace h := M.iPtr h; obtain ⟨_, rfl, h⟩ := h; exact Eq.trans (by kernel_rfl) h
  · exact M.iFail h
theorem o84_19 : OOk Tryz.prog Tryz.f84 cuts84 L84 (19, X84_19, todoOf Tryz.f84 19) := by
  intro vs Γ m H r h; replace h : (X84_19 vs).run _ _ _ _ = _ := h; unfold X84_19 at h; split at h
  · replace h := M.iPtr h; obtain ⟨_, rfl, h⟩ := h; exact Eq.trans (by kernel_rfl) h
  · exact M.iFail h
theorem h84 : XOk Tryz.prog Tryz.f84 cuts84 L84 X84 := by
  intro Γ m args H r h; unfold X84 at h; split at h
  · replace h := M.iPtr h; obtain ⟨_, rfl, h⟩ := h; replace h := M.iAgg h; obtain ⟨_, rfl, h⟩ := h; exact ⟨Eq.trans (by kernel_rfl) h, Nat.le_of_ble_eq_true (by kernel_rfl)⟩
  · exact M.iFail h
theorem K84 : CodeOk Tryz.prog 84 k84 := .of Tryz.func84 (by kernel_rfl) (by kernel_rfl) h84 (fc o84_4 (fc o84_6 (fc o84_18 (fc o84_19 fe))))
-- WARN 84: build of an unknown part
-- sternpost/ether.address
noncomputable def X85 : List Value → M := fun args => match args with
 | [x0] => 
 .cmpV .geq .i64 x0 (.int .i64 (0 : Int)) fun t1 =>
 .bool t1 (
 .cmpV .leq .i64 x0 (.int .i64 (281474976710655 : Int)) fun t2 =>
 .ret (.bool t2)) (
 .ret (.bool false))
 | _ => .fail
noncomputable def cuts85 : Cuts := []
noncomputable def L85 : Places := []
noncomputable def k85 : FCode := .of X85 L85 cuts85
theorem h85 : XOk Tryz.prog Tryz.f85 cuts85 L85 X85 := by
  intro Γ m args H r h; unfold X85 at h; split at h
  · exact ⟨Eq.trans (by kernel_rfl) h, Nat.le_of_ble_eq_true (by kernel_rfl)⟩
  · exact M.iFail h
theorem K85 : CodeOk Tryz.prog 85 k85 := .of Tryz.func85 (by kernel_rfl) (by kernel_rfl) h85 fe
-- slices.Index[[]int,int]
noncomputable def X86 : List Value → M := fun args => match args with
 | [v0, x3] => .kSl v0 fun a0 l1 c2 => 
 .fxI ((l1 : Nat) : Int) fun n4 =>
 .jmp 100002 [.slice a0 l1 c2, x3, .int .i64 n4, .int .i64 (0 : Int)]
 | _ => .fail
noncomputable def X86_100002 : List Value → M := fun args => match args with
 | [v0, x3, v2, v3] => .kSl v0 fun a0 l1 c2 => .kInt .i64 v2 fun x4 => .kInt .i64 v3 fun x5 => 
 .cmp .lss x5 x4 fun t6 =>
 .bool t6 (
 .onS a0 fun a7 =>
 .inb x5 l1 (
 .ld ((a7.add (x5.toNat * 1)).block) ((a7.add (x5.toNat * 1)).off) fun v8 =>
 .tyI .i64 v8 fun v9 =>
 .cmpV .eql .i64 x3 v9 fun t10 =>
 .bool t10 (
 .ret (.int .i64 x5)) (
 .wr .i64 (x5 + (1 : Int)) fun n11 =>
 .jmp 100002 [.slice a0 l1 c2, x3, .int .i64 x4, .int .i64 n11]))) (
 .ret (.int .i64 (-1 : Int)))
 | _ => .fail
noncomputable def cuts86 : Cuts := [(100002, [0, 1, 7, 8])]
noncomputable def L86 : Places := [(100002, X86_100002, todoOf Tryz.f86 100002)]
noncomputable def k86 : FCode := .of X86 L86 cuts86
theorem o86_100002 : OOk Tryz.prog Tryz.f86 cuts86 L86 (100002, X86_100002, todoOf Tryz.f86 100002) := by
  intro vs Γ m H r h; replace h : (X86_100002 vs).run _ _ _ _ = _ := h; unfold X86_100002 at h; split at h
  · replace h := M.iSl h; obtain ⟨_, _, _, rfl, h⟩ := h; replace h := M.iInt h; obtain ⟨_, rfl, h⟩ := h; replace h := M.iInt h; obtain ⟨_, rfl, h⟩ := h; exact Eq.trans (by kernel_rfl) h
  · exact M.iFail h
theorem h86 : XOk Tryz.prog Tryz.f86 cuts86 L86 X86 := by
  intro Γ m args H r h; unfold X86 at h; split at h
  · replace h := M.iSl h; obtain ⟨_, _, _, rfl, h⟩ := h; exact ⟨Eq.trans (by kernel_rfl) h, Nat.le_of_ble_eq_true (by kernel_rfl)⟩
  · exact M.iFail h
theorem K86 : CodeOk Tryz.prog 86 k86 := .of Tryz.func86 (by kernel_rfl) (by kernel_rfl) h86 (fc o86_100002 fe)
-- internal/stringslite.HasPrefix
noncomputable def X87 : List Value → M := fun args => match args with
 | [v0, v1] => .kStr v0 fun x0 => .kStr v1 fun x1 => 
 .cmp .geq (x0.size : Int) (x1.size : Int) fun t2 =>
 .bool t2 (
 .slStr x0 (0 : Int) (x1.size : Int) fun s4 =>
 .sEq s4 x1 fun t5 =>
 .ret (.bool t5)) (
 .ret (.bool false))
 | _ => .fail
noncomputable def cuts87 : Cuts := []
noncomputable def L87 : Places := []
noncomputable def k87 : FCode := .of X87 L87 cuts87
theorem h87 : XOk Tryz.prog Tryz.f87 cuts87 L87 X87 := by
  intro Γ m args H r h; unfold X87 at h; split at h
  · replace h := M.iStr h; obtain ⟨_, rfl, h⟩ := h; replace h := M.iStr h; obtain ⟨_, rfl, h⟩ := h; exact ⟨Eq.trans (by kernel_rfl) h, Nat.le_of_ble_eq_true (by kernel_rfl)⟩
  · exact M.iFail h
theorem K87 : CodeOk Tryz.prog 87 k87 := .of Tryz.func87 (by kernel_rfl) (by kernel_rfl) h87 fe
-- (*sternpost/neigh.Cache).tick
noncomputable def X88 : List Value → M := fun args => match args with
 | [v0, x1] => .kPtr v0 fun x0 => 
 .onS x0 fun a2 =>
 .ld a2.block (a2.off + 5) fun v3 =>
 .tyI .i64 v3 fun v4 =>
 .cmpV .lss .i64 x1 v4 fun t5 =>
 .bool t5 (
 .jmp 2 []) (
 .cmpV .gtr .i64 x1 (.int .i64 (1099511627776 : Int)) fun t6 =>
 .bool t6 (
 .jmp 2 []) (
 .onS x0 fun a7 =>
 .cellsOk x1 (
 .st 1 (⟨a7.block, a7.off + 5, none⟩ : Addr) x1 (
 .ret (.int .i64 (0 : Int))))))
 | _ => .fail
noncomputable def X88_2 : List Value → M := fun args => match args with
 | [] => 
 .ret (.int .i64 (1 : Int))
 | _ => .fail
noncomputable def cuts88 : Cuts := [(2, [])]
noncomputable def L88 : Places := [(2, X88_2, todoOf Tryz.f88 2)]
noncomputable def k88 : FCode := .of X88 L88 cuts88
theorem o88_2 : OOk Tryz.prog Tryz.f88 cuts88 L88 (2, X88_2, todoOf Tryz.f88 2) := by
  intro vs Γ m H r h; replace h : (X88_2 vs).run _ _ _ _ = _ := h; unfold X88_2 at h; split at h
  · exact Eq.trans (by kernel_rfl) h
  · exact M.iFail h
theorem h88 : XOk Tryz.prog Tryz.f88 cuts88 L88 X88 := by
  intro Γ m args H r h; unfold X88 at h; split at h
  · replace h := M.iPtr h; obtain ⟨_, rfl, h⟩ := h; exact ⟨Eq.trans (by kernel_rfl) h, Nat.le_of_ble_eq_true (by kernel_rfl)⟩
  · exact M.iFail h
theorem K88 : CodeOk Tryz.prog 88 k88 := .of Tryz.func88 (by kernel_rfl) (by kernel_rfl) h88 (fc o88_2 fe)
-- (*sternpost/neigh.Cache).Look
noncomputable def X89 : List Value → M := fun args => match args with
 | [v0, x1, x2] => .kPtr v0 fun x0 => 
 .onS x0 fun a3 =>
 .ld a3.block (a3.off + 7) fun v4 =>
 .kMp v4 fun r5 =>
 .lookupK 168 (.map r5) x1 true fun v6 =>
 .kTup v6 fun vs7 =>
 .nthA vs7 0 fun v8 =>
 .kAgg v8 fun cs9 =>
 .ite (cs9.size = 2) (
 .kTup v6 fun vs10 =>
 .nthA vs10 1 fun v11 =>
 .kBool v11 fun b12 =>
 .new (.cells [.int .i64 (0 : Int), .int .i64 (0 : Int)] 0 true) fun b13 =>
 .st 2 (⟨b13, 0, none⟩ : Addr) (.agg cs9) (
 .bool (!b12) (
 .jmp 3 []) (
 .ldn b13 0 2 fun cs15 =>
 .call 142 [.pointer x0, .agg cs15, x2] fun r16 =>
 .kBool r16 fun b17 =>
 .bool (!b17) (
 .jmp 3 []) (
 .ld b13 0 fun v18 =>
 .tyI .i64 v18 fun v19 =>
 .ret (.tuple #[v19, .bool true])))))
 | _ => .fail
noncomputable def X89_3 : List Value → M := fun args => match args with
 | [] => 
 .ret (.tuple #[.int .i64 (0 : Int), .bool false])
 | _ => .fail
noncomputable def cuts89 : Cuts := [(3, [])]
noncomputable def L89 : Places := [(3, X89_3, todoOf Tryz.f89 3)]
noncomputable def k89 : FCode := .of X89 L89 cuts89
theorem o89_3 : OOk Tryz.prog Tryz.f89 cuts89 L89 (3, X89_3, todoOf Tryz.f89 3) := by
  intro vs Γ m H r h; replace h : (X89_3 vs).run _ _ _ _ = _ := h; unfold X89_3 at h; split at h
  · exact Eq.trans (by kernel_rfl) h
  · exact M.iFail h
theorem h89 : XOk Tryz.prog Tryz.f89 cuts89 L89 X89 := by
  intro Γ m args H r h; unfold X89 at h; split at h
  · replace h := M.iPtr h; obtain ⟨_, rfl, h⟩ := h; exact ⟨Eq.trans (by kernel_rfl) h, Nat.le_of_ble_eq_true (by kernel_rfl)⟩
  · exact M.iFail h
theorem K89 : CodeOk Tryz.prog 89 k89 := .of Tryz.func89 (by kernel_rfl) (by kernel_rfl) h89 (fc o89_3 fe)
-- (*sternpost/neigh.Cache).learn
noncomputable def X90 : List Value → M := fun args => match args with
 | [v0, x1, x2, x3] => .kPtr v0 fun x0 => 
 .onS x0 fun a4 =>
 .ld a4.block (a4.off + 7) fun v5 =>
 .kMp v5 fun r6 =>
 .rng r6 fun v7 =>
 .jmp 100002 [.pointer x0, x1, x2, x3, .int .i64 (-1 : Int), v7]
 | _ => .fail
noncomputable def X90_5 : List Value → M := fun args => match args with
 | [v0, x1, x2, x3, v4, x5, x6] => .kPtr v0 fun x0 => .kInt .i64 v4 fun x4 => 
 .onS x0 fun a7 =>
 .ld a7.block (a7.off + 7) fun v8 =>
 .kMp v8 fun r9 =>
 .kInt .i64 x5 fun n10 =>
 .dele r9 (.int .i64 n10) (
 .jmp 100002 [.pointer x0, x1, x2, x3, .int .i64 x4, x6])
 | _ => .fail
noncomputable def X90_10 : List Value → M := fun args => match args with
 | [v0, x1, x2, x3, x4, v5, v6, v7] => .kPtr v0 fun x0 => .kSl v5 fun a5 l6 c7 => .kInt .i64 v6 fun x8 => .kInt .i64 v7 fun x9 => 
 .jmp 11 [.pointer x0, x1, x2, x3, x4, .slice a5 l6 c7, .int .i64 x8, .int .i64 x9]
 | _ => .fail
noncomputable def X90_11 : List Value → M := fun args => match args with
 | [v0, x1, x2, x3, x4, v5, v6, v7] => .kPtr v0 fun x0 => .kSl v5 fun a5 l6 c7 => .kInt .i64 v6 fun x8 => .kInt .i64 v7 fun x9 => 
 .wr .i64 (x9 + (1 : Int)) fun n10 =>
 .jmp 100007 [.pointer x0, x1, x2, x3, x4, .slice a5 l6 c7, .int .i64 x8, .int .i64 n10]
 | _ => .fail
noncomputable def X90_13 : List Value → M := fun args => match args with
 | [v0, x1, x2, x3, x4] => .kPtr v0 fun x0 => 
 .onS x0 fun a5 =>
 .ld a5.block (a5.off + 7) fun v6 =>
 .kMp v6 fun r7 =>
 .kInt .i64 x4 fun n8 =>
 .dele r7 (.int .i64 n8) (
 .jmp 14 [.pointer x0, x1, x2, x3])
 | _ => .fail
noncomputable def X90_14 : List Value → M := fun args => match args with
 | [v0, x1, x2, x3] => .kPtr v0 fun x0 => 
 .onS x0 fun a4 =>
 .ld a4.block (a4.off + 7) fun v5 =>
 .kMp v5 fun r6 =>
 .cellsOks [x2, x3] (.onS (Program.built Tryz.prog 272 (([0, 1] : List Nat).zip [x2, x3])) fun cells7q =>
 .fxV (.agg cells7q) fun cells7v =>
 .kAgg cells7v fun cells7 =>
 .onS r6 fun q8 =>
 .kInt .i64 x1 fun n9 =>
 .mupd q8 (.int .i64 n9) (.agg cells7) (
 .ret (.tuple #[])))
 | _ => .fail
noncomputable def X90_100002 : List Value → M := fun args => match args with
 | [v0, x1, x2, x3, v4, x5] => .kPtr v0 fun x0 => .kInt .i64 v4 fun x4 => 
 .kPtr x5 fun p6 =>
 .onS p6 fun a7 =>
 .nxt a7 fun v8 =>
 .kTup v8 fun vs9 =>
 .nthA vs9 0 fun v10 =>
 .kBool v10 fun b11 =>
 .bool b11 (
 .kPtr x5 fun p12 =>
 .onS p12 fun a13 =>
 .entr a13 fun v14 =>
 .kTup v14 fun vs15 =>
 .nthA vs15 0 fun v16 =>
 .tyI .i64 v16 fun v17 =>
 .kTup v14 fun vs18 =>
 .nthA vs18 1 fun v19 =>
 .kAgg v19 fun cs20 =>
 .ite (cs20.size = 2) (
 .new (.cells [.int .i64 (0 : Int), .int .i64 (0 : Int)] 0 true) fun b21 =>
 .st 2 (⟨b21, 0, none⟩ : Addr) (.agg cs20) (
 .cmpV .eql .i64 v17 x1 fun t23 =>
 .bool t23 (
 .jmp 5 [.pointer x0, x1, x2, x3, .int .i64 x4, v17, x5]) (
 .ldn b21 0 2 fun cs24 =>
 .call 142 [.pointer x0, .agg cs24, x3] fun r25 =>
 .kBool r25 fun b26 =>
 .bool (!b26) (
 .jmp 5 [.pointer x0, x1, x2, x3, .int .i64 x4, v17, x5]) (
 .jmp 100002 [.pointer x0, x1, x2, x3, .int .i64 x4, x5]))))) (
 .onS x0 fun a27 =>
 .ld a27.block (a27.off + 7) fun v28 =>
 .kMp v28 fun r29 =>
 .call 143 [.map r29] fun r30 =>
 .call 124 [r30] fun r31 =>
 .kSl r31 fun a32 l33 c34 =>
 .fxI ((l33 : Nat) : Int) fun n35 =>
 .jmp 100007 [.pointer x0, x1, x2, x3, .int .i64 x4, .slice a32 l33 c34, .int .i64 n35, .int .i64 (0 : Int)])
 | _ => .fail
noncomputable def X90_100007 : List Value → M := fun args => match args with
 | [v0, x1, x2, x3, x4, v5, v6, v7] => .kPtr v0 fun x0 => .kSl v5 fun a5 l6 c7 => .kInt .i64 v6 fun x8 => .kInt .i64 v7 fun x9 => 
 .cmp .lss x9 x8 fun t10 =>
 .bool t10 (
 .onS a5 fun a11 =>
 .inb x9 l6 (
 .ld ((a11.add (x9.toNat * 1)).block) ((a11.add (x9.toNat * 1)).off) fun v12 =>
 .tyI .i64 v12 fun v13 =>
 .cmpV .lss .i64 x4 (.int .i64 (0 : Int)) fun t14 =>
 .bool t14 (
 .jmp 10 [.pointer x0, x1, x2, x3, v13, .slice a5 l6 c7, .int .i64 x8, .int .i64 x9]) (
 .onS x0 fun a15 =>
 .ld a15.block (a15.off + 7) fun v16 =>
 .kMp v16 fun r17 =>
 .lookupK 168 (.map r17) v13 false fun v18 =>
 .kAgg v18 fun cs19 =>
 .ite (cs19.size = 2) (
 .opt (r17 : Option Nat) (
 .nthA cs19 1 fun v35 =>
 .tyI .i64 v35 fun v36 =>
 .onS x0 fun a37 =>
 .ld a37.block (a37.off + 7) fun v38 =>
 .kMp v38 fun r39 =>
 .lookupK 168 (.map r39) x4 false fun v40 =>
 .kAgg v40 fun cs41 =>
 .ite (cs41.size = 2) (
 .opt (r39 : Option Nat) (
 .nthA cs41 1 fun v46 =>
 .tyI .i64 v46 fun v47 =>
 .cmpV .lss .i64 v36 v47 fun t48 =>
 .bool t48 (
 .jmp 10 [.pointer x0, x1, x2, x3, v13, .slice a5 l6 c7, .int .i64 x8, .int .i64 x9]) (
 .jmp 11 [.pointer x0, x1, x2, x3, x4, .slice a5 l6 c7, .int .i64 x8, .int .i64 x9])) (fun blk42 =>
 .nthA cs41 1 fun v43 =>
 .tyI .i64 v43 fun v44 =>
 .cmpV .lss .i64 v36 v44 fun t45 =>
 .bool t45 (
 .jmp 10 [.pointer x0, x1, x2, x3, v13, .slice a5 l6 c7, .int .i64 x8, .int .i64 x9]) (
 .jmp 11 [.pointer x0, x1, x2, x3, x4, .slice a5 l6 c7, .int .i64 x8, .int .i64 x9])))) (fun blk20 =>
 .nthA cs19 1 fun v21 =>
 .tyI .i64 v21 fun v22 =>
 .onS x0 fun a23 =>
 .ld a23.block (a23.off + 7) fun v24 =>
 .kMp v24 fun r25 =>
 .lookupK 168 (.map r25) x4 false fun v26 =>
 .kAgg v26 fun cs27 =>
 .ite (cs27.size = 2) (
 .opt (r25 : Option Nat) (
 .nthA cs27 1 fun v32 =>
 .tyI .i64 v32 fun v33 =>
 .cmpV .lss .i64 v22 v33 fun t34 =>
 .bool t34 (
 .jmp 10 [.pointer x0, x1, x2, x3, v13, .slice a5 l6 c7, .int .i64 x8, .int .i64 x9]) (
 .jmp 11 [.pointer x0, x1, x2, x3, x4, .slice a5 l6 c7, .int .i64 x8, .int .i64 x9])) (fun blk28 =>
 .nthA cs27 1 fun v29 =>
 .tyI .i64 v29 fun v30 =>
 .cmpV .lss .i64 v22 v30 fun t31 =>
 .bool t31 (
 .jmp 10 [.pointer x0, x1, x2, x3, v13, .slice a5 l6 c7, .int .i64 x8, .int .i64 x9]) (
 .jmp 11 [.pointer x0, x1, x2, x3, x4, .slice a5 l6 c7, .int .i64 x8, .int .i64 x9])))))))) (
 .onS x0 fun a49 =>
 .ld a49.block (a49.off + 7) fun v50 =>
 .kMp v50 fun r51 =>
 .ldmo r51 fun es52 =>
 .opt (r51 : Option Nat) (
 .onS x0 fun a58 =>
 .ld a58.block (a58.off + 3) fun v59 =>
 .tyI .i64 v59 fun v60 =>
 .cmpV .geq .i64 (.int .i64 (es52.length : Int)) v60 fun t61 =>
 .bool t61 (
 .jmp 13 [.pointer x0, x1, x2, x3, x4]) (
 .jmp 14 [.pointer x0, x1, x2, x3])) (fun blk53 =>
 .onS x0 fun a54 =>
 .ld a54.block (a54.off + 3) fun v55 =>
 .tyI .i64 v55 fun v56 =>
 .cmpV .geq .i64 (.int .i64 (es52.length : Int)) v56 fun t57 =>
 .bool t57 (
 .jmp 13 [.pointer x0, x1, x2, x3, x4]) (
 .jmp 14 [.pointer x0, x1, x2, x3])))
 | _ => .fail
noncomputable def cuts90 : Cuts := [(100002, [0, 1, 2, 3, 8, 17]), (100007, [0, 1, 2, 3, 8, 43, 44, 45]), (11, [0, 1, 2, 3, 8, 43, 44, 45]), (10, [0, 1, 2, 3, 12, 43, 44, 45]), (14, [0, 1, 2, 3]), (13, [0, 1, 2, 3, 8]), (5, [0, 1, 2, 3, 8, 9, 17])]
noncomputable def L90 : Places := [(5, X90_5, todoOf Tryz.f90 5), (10, X90_10, todoOf Tryz.f90 10), (11, X90_11, todoOf Tryz.f90 11), (13, X90_13, todoOf Tryz.f90 13), (14, X90_14, todoOf Tryz.f90 14), (100002, X90_100002, todoOf Tryz.f90 100002), (100007, X90_100007, todoOf Tryz.f90 100007)]
noncomputable def k90 : FCode := .of X90 L90 cuts90
theorem o90_5 : OOk Tryz.prog Tryz.f90 cuts90 L90 (5, X90_5, todoOf Tryz.f90 5) := by
  intro vs Γ m H r h; replace h : (X90_5 vs).run _ _ _ _ = _ := h; unfold X90_5 at h; split at h
  · replace h := M.iPtr h; obtain ⟨_, rfl, h⟩ := h; replace h := M.iInt h; obtain ⟨_, rfl, h⟩ := h; exact Eq.trans (by kernel_rfl) h
  · exact M.iFail h
theorem o90_10 : OOk Tryz.prog Tryz.f90 cuts90 L90 (10, X90_10, todoOf Tryz.f90 10) := by
  intro vs Γ m H r h; replace h : (X90_10 vs).run _ _ _ _ = _ := h; unfold X90_10 at h; split at h
  · replace h := M.iPtr h; obtain ⟨_, rfl, h⟩ := h; replace h := M.iSl h; obtain ⟨_, _, _, rfl, h⟩ := h; replace h := M.iInt h; obtain ⟨_, rfl, h⟩ := h; replace h := M.iInt h; obtain ⟨_, rfl, h⟩ := h; exact Eq.trans (by kernel_rfl) h
  · exact M.iFail h
theorem o90_11 : OOk Tryz.prog Tryz.f90 cuts90 L90 (11, X90_11, todoOf Tryz.f90 11) := by
  intro vs Γ m H r h; replace h : (X90_11 vs).run _ _ _ _ = _ := h; unfold X90_11 at h; split at h
  · replace h := M.iPtr h; obtain ⟨_, rfl, h⟩ := h; replace h := M.iSl h; obtain ⟨_, _, _, rfl, h⟩ := h; replace h := M.iInt h; obtain ⟨_, rfl, h⟩ := h; replace h := M.iInt h; obtain ⟨_, rfl, h⟩ := h; exact Eq.trans (by kernel_rfl) h
  · exact M.iFail h
theorem o90_13 : OOk Tryz.prog Tryz.f90 cuts90 L90 (13, X90_13, todoOf Tryz.f90 13) := by
  intro vs Γ m H r h; replace h : (X90_13 vs).run _ _ _ _ = _ := h; unfold X90_13 at h; split at h
  · replace h := M.iPtr h; obtain ⟨_, rfl, h⟩ := h; exact Eq.trans (by kernel_rfl) h
  · exact M.iFail h
theorem o90_14 : OOk Tryz.prog Tryz.f90 cuts90 L90 (14, X90_14, todoOf Tryz.f90 14) := by
  intro vs Γ m H r h; replace h : (X90_14 vs).run _ _ _ _ = _ := h; unfold X90_14 at h; split at h
  · replace h := M.iPtr h; obtain ⟨_, rfl, h⟩ := h; exact Eq.trans (by kernel_rfl) h
  · exact M.iFail h
theorem o90_100002 : OOk Tryz.prog Tryz.f90 cuts90 L90 (100002, X90_100002, todoOf Tryz.f90 100002) := by
  intro vs Γ m H r h; replace h : (X90_100002 vs).run _ _ _ _ = _ := h; unfold X90_100002 at h; split at h
  · replace h := M.iPtr h; obtain ⟨_, rfl, h⟩ := h; replace h := M.iInt h; obtain ⟨_, rfl, h⟩ := h; exact Eq.trans (by kernel_rfl) h
  · exact M.iFail h
theorem o90_100007 : OOk Tryz.prog Tryz.f90 cuts90 L90 (100007, X90_100007, todoOf Tryz.f90 100007) := by
  intro vs Γ m H r h; replace h : (X90_100007 vs).run _ _ _ _ = _ := h; unfold X90_100007 at h; split at h
  · replace h := M.iPtr h; obtain ⟨_, rfl, h⟩ := h; replace h := M.iSl h; obtain ⟨_, _, _, rfl, h⟩ := h; replace h := M.iInt h; obtain ⟨_, rfl, h⟩ := h; replace h := M.iInt h; obtain ⟨_, rfl, h⟩ := h; exact Eq.trans (by kernel_rfl) h
  · exact M.iFail h
theorem h90 : XOk Tryz.prog Tryz.f90 cuts90 L90 X90 := by
  intro Γ m args H r h; unfold X90 at h; split at h
  · replace h := M.iPtr h; obtain ⟨_, rfl, h⟩ := h; exact ⟨Eq.trans (by kernel_rfl) h, Nat.le_of_ble_eq_true (by kernel_rfl)⟩
  · exact M.iFail h
theorem K90 : CodeOk Tryz.prog 90 k90 := .of Tryz.func90 (by kernel_rfl) (by kernel_rfl) h90 (fc o90_5 (fc o90_10 (fc o90_11 (fc o90_13 (fc o90_14 (fc o90_100002 (fc o90_100007 fe)))))))
-- WARN 90: build of an unknown part
-- sternpost/arp.Tell
noncomputable def X91 : List Value → M := fun args => match args with
 | [v0, x1] => .kAgg v0 fun x0 => 
 .new (.cells x0.toList 0 true) fun b2 =>
 .new (.cells [.int .i64 (0 : Int), .int .i64 (0 : Int), .int .i64 (0 : Int), .int .i64 (0 : Int), .int .i64 (0 : Int)] 0 true) fun b3 =>
 .ldn b2 0 5 fun cs4 =>
 .call 65 [.agg cs4] fun r5 =>
 .tyI .i64 r5 fun v6 =>
 .cmpV .neq .i64 v6 (.int .i64 (0 : Int)) fun t7 =>
 .bool t7 (
 .jmp 2 [.pointer (some (⟨b3, 0, none⟩ : Addr))]) (
 .ld b2 0 fun v8 =>
 .tyI .i64 v8 fun v9 =>
 .cmpV .neq .i64 v9 (.int .i64 (1 : Int)) fun t10 =>
 .bool t10 (
 .jmp 2 [.pointer (some (⟨b3, 0, none⟩ : Addr))]) (
 .ld b2 (0 + 4) fun v11 =>
 .tyI .i64 v11 fun v12 =>
 .ld b2 (0 + 1) fun v13 =>
 .tyI .i64 v13 fun v14 =>
 .ld b2 (0 + 2) fun v15 =>
 .tyI .i64 v15 fun v16 =>
 .cellsOks [.int .i64 (2 : Int), x1, v12, v14, v16] (.onS (Program.built Tryz.prog 38 (([0, 1, 2, 3, 4] : List Nat).zip [.int .i64 (2 : Int), x1, v12, v14, v16])) fun cells17q =>
 .fxV (.agg cells17q) fun cells17v =>
 .kAgg cells17v fun cells17 =>
 .call 50 [.agg cells17] fun r18 =>
 .kTup r18 fun vs19 =>
 .nthA vs19 0 fun v20 =>
 .kAgg v20 fun cs21 =>
 .ite (cs21.size = 5) (
 .kTup r18 fun vs22 =>
 .nthA vs22 1 fun v23 =>
 .tyI .i64 v23 fun v24 =>
 .st 5 (⟨b3, 0, none⟩ : Addr) (.agg cs21) (
 .ldn b3 0 5 fun cs26 =>
 .ret (.tuple #[.agg cs26, v24]))))))
 | _ => .fail
noncomputable def X91_2 : List Value → M := fun args => match args with
 | [v0] => .kPtr v0 fun x0 => 
 .onS x0 fun a1 =>
 .st 5 a1 (.agg #[.int .i64 (0 : Int), .int .i64 (0 : Int), .int .i64 (0 : Int), .int .i64 (0 : Int), .int .i64 (0 : Int)]) (
 .onS x0 fun a3 =>
 .ldn a3.block a3.off 5 fun cs4 =>
 .ret (.tuple #[.agg cs4, .int .i64 (40 : Int)]))
 | _ => .fail
noncomputable def cuts91 : Cuts := [(2, [4])]
noncomputable def L91 : Places := [(2, X91_2, todoOf Tryz.f91 2)]
noncomputable def k91 : FCode := .of X91 L91 cuts91
theorem o91_2 : OOk Tryz.prog Tryz.f91 cuts91 L91 (2, X91_2, todoOf Tryz.f91 2) := by
  intro vs Γ m H r h; replace h : (X91_2 vs).run _ _ _ _ = _ := h; unfold X91_2 at h; split at h
  · replace h := M.iPtr h; obtain ⟨_, rfl, h⟩ := h; exact Eq.trans (by kernel_rfl) h
  · exact M.iFail h
theorem h91 : XOk Tryz.prog Tryz.f91 cuts91 L91 X91 := by
  intro Γ m args H r h; unfold X91 at h; split at h
  · replace h := M.iAgg h; obtain ⟨_, rfl, h⟩ := h; exact ⟨Eq.trans (by kernel_rfl) h, Nat.le_of_ble_eq_true (by kernel_rfl)⟩
  · exact M.iFail h
theorem K91 : CodeOk Tryz.prog 91 k91 := .of Tryz.func91 (by kernel_rfl) (by kernel_rfl) h91 (fc o91_2 fe)
-- WARN 91: build of an unknown part
-- (*sternpost/host.Host).frame
noncomputable def X92 : List Value → M := fun args => match args with
 | [v0, x1, x2, v3] => .kPtr v0 fun x0 => .kStr v3 fun x3 => 
 .onS x0 fun a4 =>
 .ld a4.block a4.off fun v5 =>
 .tyI .i64 v5 fun v6 =>
 .cellsOks [x1, v6, x2, .string x3] (.onS (Program.built Tryz.prog 36 (([0, 1, 2, 3] : List Nat).zip [x1, v6, x2, .string x3])) fun cells7q =>
 .fxV (.agg cells7q) fun cells7v =>
 .kAgg cells7v fun cells7 =>
 .call 31 [.agg cells7] fun r8 =>
 .kTup r8 fun vs9 =>
 .nthA vs9 0 fun v10 =>
 .kStr v10 fun s11 =>
 .kTup r8 fun vs12 =>
 .nthA vs12 1 fun v13 =>
 .tyI .i64 v13 fun v14 =>
 .cmpV .eql .i64 v14 (.int .i64 (0 : Int)) fun t15 =>
 .bool t15 (
 .onS x0 fun a16 =>
 .ld a16.block (a16.off + 31) fun v17 =>
 .kSl v17 fun a18 l19 c20 =>
 .new (.cells [.string s11] 1 true) fun b21 =>
 .firstC 1 (.slice (some ⟨b21, 0, none⟩) 1 1) fun n22 nw23 =>
 .app 9 (.slice a18 l19 c20) n22 nw23 fun v24 =>
 .kSl v24 fun a26 l27 c28 =>
 .onS x0 fun a29 =>
 .st 1 (⟨a29.block, a29.off + 31, none⟩ : Addr) (.slice a26 l27 c28) (
 .ret (.tuple #[]))) (
 .ret (.tuple #[])))
 | _ => .fail
noncomputable def cuts92 : Cuts := []
noncomputable def L92 : Places := []
noncomputable def k92 : FCode := .of X92 L92 cuts92
theorem h92 : XOk Tryz.prog Tryz.f92 cuts92 L92 X92 := by
  intro Γ m args H r h; unfold X92 at h; split at h
  · replace h := M.iPtr h; obtain ⟨_, rfl, h⟩ := h; replace h := M.iStr h; obtain ⟨_, rfl, h⟩ := h; exact ⟨Eq.trans (by kernel_rfl) h, Nat.le_of_ble_eq_true (by kernel_rfl)⟩
  · exact M.iFail h
theorem K92 : CodeOk Tryz.prog 92 k92 := .of Tryz.func92 (by kernel_rfl) (by kernel_rfl) h92 fe
-- WARN 92: build of an unknown part
-- sternpost/ip.Encode
noncomputable def X93 : List Value → M := fun args => match args with
 | [v0] => .kAgg v0 fun x0 => 
 .new (.cells x0.toList 0 true) fun b1 =>
 .ldn b1 0 10 fun cs2 =>
 .call 56 [.agg cs2] fun r3 =>
 .tyI .i64 r3 fun v4 =>
 .cmpV .neq .i64 v4 (.int .i64 (0 : Int)) fun t5 =>
 .bool t5 (
 .ret (.tuple #[.string (⟨#[]⟩ : ByteArray), v4])) (
 .ld b1 (0 + 5) fun v6 =>
 .tyI .i64 v6 fun v7 =>
 .ld b1 (0 + 7) fun v8 =>
 .kBool v8 fun b9 =>
 .bool b9 (
 .arV .or .i64 v7 (.int .i64 (16384 : Int)) fun v10 =>
 .jmp 7 [.pointer (some (⟨b1, 0, none⟩ : Addr)), v10]) (
 .jmp 7 [.pointer (some (⟨b1, 0, none⟩ : Addr)), v7]))
 | _ => .fail
noncomputable def X93_7 : List Value → M := fun args => match args with
 | [v0, x1] => .kPtr v0 fun x0 => 
 .onS x0 fun a2 =>
 .ld a2.block (a2.off + 6) fun v3 =>
 .kBool v3 fun b4 =>
 .bool b4 (
 .arV .or .i64 x1 (.int .i64 (8192 : Int)) fun v5 =>
 .jmp 9 [.pointer x0, v5]) (
 .jmp 9 [.pointer x0, x1])
 | _ => .fail
noncomputable def X93_9 : List Value → M := fun args => match args with
 | [v0, x1] => .kPtr v0 fun x0 => 
 .onS x0 fun a2 =>
 .ldn a2.block a2.off 10 fun cs3 =>
 .opt (onSome x0 fun z => some z.block : Option Nat) (
 .onS x0 fun a241 =>
 .ldn a241.block a241.off 10 fun cs242 =>
 .opt (onSome x0 fun z => some z.block : Option Nat) (
 .onS x0 fun a362 =>
 .ld a362.block (a362.off + 9) fun v363 =>
 .kStr v363 fun s364 =>
 .onS x0 fun a365 =>
 .ld a365.block (a365.off + 4) fun v366 =>
 .tyI .i64 v366 fun v367 =>
 .onS x0 fun a368 =>
 .ld a368.block (a368.off + 2) fun v369 =>
 .tyI .i64 v369 fun v370 =>
 .onS x0 fun a371 =>
 .ld a371.block (a371.off + 3) fun v372 =>
 .tyI .i64 v372 fun v373 =>
 .onS x0 fun a374 =>
 .ld a374.block a374.off fun v375 =>
 .tyI .i64 v375 fun v376 =>
 .onS x0 fun a377 =>
 .ld a377.block (a377.off + 1) fun v378 =>
 .tyI .i64 v378 fun v379 =>
 .onS x0 fun a380 =>
 .ld a380.block (a380.off + 8) fun v381 =>
 .kStr v381 fun s382 =>
 .snap a380.block fun o383 =>
 .snap a377.block fun o384 =>
 .snap a374.block fun o385 =>
 .snap a371.block fun o386 =>
 .snap a368.block fun o387 =>
 .snap a365.block fun o388 =>
 .snap a362.block fun o389 =>
 .call 96 [.agg cs3] fun r390 =>
 .tyI .i64 r390 fun v391 =>
 .same a380.block o383 (
 .same a377.block o384 (
 .same a374.block o385 (
 .same a371.block o386 (
 .same a368.block o387 (
 .same a365.block o388 (
 .same a362.block o389 (
 .arV .quo .i64 v391 (.int .i64 (4 : Int)) fun v392 =>
 .arV .or .i64 (.int .i64 (64 : Int)) v392 fun v393 =>
 .snap a380.block fun o394 =>
 .snap a377.block fun o395 =>
 .snap a374.block fun o396 =>
 .snap a371.block fun o397 =>
 .snap a368.block fun o398 =>
 .snap a365.block fun o399 =>
 .snap a362.block fun o400 =>
 .call 144 [v393, .int .i64 (1 : Int)] fun r401 =>
 .kStr r401 fun s402 =>
 .same a380.block o394 (
 .same a377.block o395 (
 .same a374.block o396 (
 .same a371.block o397 (
 .same a368.block o398 (
 .same a365.block o399 (
 .same a362.block o400 (
 .snap a380.block fun o403 =>
 .snap a377.block fun o404 =>
 .snap a374.block fun o405 =>
 .snap a371.block fun o406 =>
 .snap a368.block fun o407 =>
 .snap a365.block fun o408 =>
 .snap a362.block fun o409 =>
 .call 144 [.int .i64 (0 : Int), .int .i64 (1 : Int)] fun r410 =>
 .kStr r410 fun s411 =>
 .same a380.block o403 (
 .same a377.block o404 (
 .same a374.block o405 (
 .same a371.block o406 (
 .same a368.block o407 (
 .same a365.block o408 (
 .same a362.block o409 (
 .cat s402 s411 fun s412 =>
 .snap a380.block fun o413 =>
 .snap a377.block fun o414 =>
 .snap a374.block fun o415 =>
 .snap a371.block fun o416 =>
 .snap a368.block fun o417 =>
 .snap a365.block fun o418 =>
 .snap a362.block fun o419 =>
 .call 96 [.agg cs242] fun r420 =>
 .tyI .i64 r420 fun v421 =>
 .same a380.block o413 (
 .same a377.block o414 (
 .same a374.block o415 (
 .same a371.block o416 (
 .same a368.block o417 (
 .same a365.block o418 (
 .same a362.block o419 (
 .arV .add .i64 v421 (.int .i64 (s364.size : Int)) fun v422 =>
 .snap a380.block fun o423 =>
 .snap a377.block fun o424 =>
 .snap a374.block fun o425 =>
 .snap a371.block fun o426 =>
 .snap a368.block fun o427 =>
 .snap a365.block fun o428 =>
 .call 144 [v422, .int .i64 (2 : Int)] fun r429 =>
 .kStr r429 fun s430 =>
 .same a380.block o423 (
 .same a377.block o424 (
 .same a374.block o425 (
 .same a371.block o426 (
 .same a368.block o427 (
 .same a365.block o428 (
 .cat s412 s430 fun s431 =>
 .snap a380.block fun o432 =>
 .snap a377.block fun o433 =>
 .snap a374.block fun o434 =>
 .snap a371.block fun o435 =>
 .snap a368.block fun o436 =>
 .call 144 [v367, .int .i64 (2 : Int)] fun r437 =>
 .kStr r437 fun s438 =>
 .same a380.block o432 (
 .same a377.block o433 (
 .same a374.block o434 (
 .same a371.block o435 (
 .same a368.block o436 (
 .cat s431 s438 fun s439 =>
 .snap a380.block fun o440 =>
 .snap a377.block fun o441 =>
 .snap a374.block fun o442 =>
 .snap a371.block fun o443 =>
 .snap a368.block fun o444 =>
 .call 144 [x1, .int .i64 (2 : Int)] fun r445 =>
 .kStr r445 fun s446 =>
 .same a380.block o440 (
 .same a377.block o441 (
 .same a374.block o442 (
 .same a371.block o443 (
 .same a368.block o444 (
 .cat s439 s446 fun s447 =>
 .snap a380.block fun o448 =>
 .snap a377.block fun o449 =>
 .snap a374.block fun o450 =>
 .snap a371.block fun o451 =>
 .call 144 [v370, .int .i64 (1 : Int)] fun r452 =>
 .kStr r452 fun s453 =>
 .same a380.block o448 (
 .same a377.block o449 (
 .same a374.block o450 (
 .same a371.block o451 (
 .cat s447 s453 fun s454 =>
 .snap a380.block fun o455 =>
 .snap a377.block fun o456 =>
 .snap a374.block fun o457 =>
 .call 144 [v373, .int .i64 (1 : Int)] fun r458 =>
 .kStr r458 fun s459 =>
 .same a380.block o455 (
 .same a377.block o456 (
 .same a374.block o457 (
 .cat s454 s459 fun s460 =>
 .snap a380.block fun o461 =>
 .snap a377.block fun o462 =>
 .snap a374.block fun o463 =>
 .call 144 [.int .i64 (0 : Int), .int .i64 (2 : Int)] fun r464 =>
 .kStr r464 fun s465 =>
 .same a380.block o461 (
 .same a377.block o462 (
 .same a374.block o463 (
 .cat s460 s465 fun s466 =>
 .snap a380.block fun o467 =>
 .snap a377.block fun o468 =>
 .call 144 [v376, .int .i64 (4 : Int)] fun r469 =>
 .kStr r469 fun s470 =>
 .same a380.block o467 (
 .same a377.block o468 (
 .cat s466 s470 fun s471 =>
 .snap a380.block fun o472 =>
 .call 144 [v379, .int .i64 (4 : Int)] fun r473 =>
 .kStr r473 fun s474 =>
 .same a380.block o472 (
 .cat s471 s474 fun s475 =>
 .cat s475 s382 fun s476 =>
 .jmp 10 [.pointer x0, .string s476])))))))))))))))))))))))))))))))))))))))))))))))))))))))))) (fun blk243 =>
 .onS x0 fun a244 =>
 .ld a244.block (a244.off + 9) fun v245 =>
 .kStr v245 fun s246 =>
 .onS x0 fun a247 =>
 .ld a247.block (a247.off + 4) fun v248 =>
 .tyI .i64 v248 fun v249 =>
 .onS x0 fun a250 =>
 .ld a250.block (a250.off + 2) fun v251 =>
 .tyI .i64 v251 fun v252 =>
 .onS x0 fun a253 =>
 .ld a253.block (a253.off + 3) fun v254 =>
 .tyI .i64 v254 fun v255 =>
 .onS x0 fun a256 =>
 .ld a256.block a256.off fun v257 =>
 .tyI .i64 v257 fun v258 =>
 .onS x0 fun a259 =>
 .ld a259.block (a259.off + 1) fun v260 =>
 .tyI .i64 v260 fun v261 =>
 .onS x0 fun a262 =>
 .ld a262.block (a262.off + 8) fun v263 =>
 .kStr v263 fun s264 =>
 .snap a262.block fun o265 =>
 .snap a259.block fun o266 =>
 .snap a256.block fun o267 =>
 .snap a253.block fun o268 =>
 .snap a250.block fun o269 =>
 .snap a247.block fun o270 =>
 .snap a244.block fun o271 =>
 .snap blk243 fun o272 =>
 .call 96 [.agg cs3] fun r273 =>
 .tyI .i64 r273 fun v274 =>
 .same a262.block o265 (
 .same a259.block o266 (
 .same a256.block o267 (
 .same a253.block o268 (
 .same a250.block o269 (
 .same a247.block o270 (
 .same a244.block o271 (
 .same blk243 o272 (
 .arV .quo .i64 v274 (.int .i64 (4 : Int)) fun v275 =>
 .arV .or .i64 (.int .i64 (64 : Int)) v275 fun v276 =>
 .snap a262.block fun o277 =>
 .snap a259.block fun o278 =>
 .snap a256.block fun o279 =>
 .snap a253.block fun o280 =>
 .snap a250.block fun o281 =>
 .snap a247.block fun o282 =>
 .snap a244.block fun o283 =>
 .snap blk243 fun o284 =>
 .call 144 [v276, .int .i64 (1 : Int)] fun r285 =>
 .kStr r285 fun s286 =>
 .same a262.block o277 (
 .same a259.block o278 (
 .same a256.block o279 (
 .same a253.block o280 (
 .same a250.block o281 (
 .same a247.block o282 (
 .same a244.block o283 (
 .same blk243 o284 (
 .snap a262.block fun o287 =>
 .snap a259.block fun o288 =>
 .snap a256.block fun o289 =>
 .snap a253.block fun o290 =>
 .snap a250.block fun o291 =>
 .snap a247.block fun o292 =>
 .snap a244.block fun o293 =>
 .snap blk243 fun o294 =>
 .call 144 [.int .i64 (0 : Int), .int .i64 (1 : Int)] fun r295 =>
 .kStr r295 fun s296 =>
 .same a262.block o287 (
 .same a259.block o288 (
 .same a256.block o289 (
 .same a253.block o290 (
 .same a250.block o291 (
 .same a247.block o292 (
 .same a244.block o293 (
 .same blk243 o294 (
 .cat s286 s296 fun s297 =>
 .snap a262.block fun o298 =>
 .snap a259.block fun o299 =>
 .snap a256.block fun o300 =>
 .snap a253.block fun o301 =>
 .snap a250.block fun o302 =>
 .snap a247.block fun o303 =>
 .snap a244.block fun o304 =>
 .call 96 [.agg cs242] fun r305 =>
 .tyI .i64 r305 fun v306 =>
 .same a262.block o298 (
 .same a259.block o299 (
 .same a256.block o300 (
 .same a253.block o301 (
 .same a250.block o302 (
 .same a247.block o303 (
 .same a244.block o304 (
 .arV .add .i64 v306 (.int .i64 (s246.size : Int)) fun v307 =>
 .snap a262.block fun o308 =>
 .snap a259.block fun o309 =>
 .snap a256.block fun o310 =>
 .snap a253.block fun o311 =>
 .snap a250.block fun o312 =>
 .snap a247.block fun o313 =>
 .call 144 [v307, .int .i64 (2 : Int)] fun r314 =>
 .kStr r314 fun s315 =>
 .same a262.block o308 (
 .same a259.block o309 (
 .same a256.block o310 (
 .same a253.block o311 (
 .same a250.block o312 (
 .same a247.block o313 (
 .cat s297 s315 fun s316 =>
 .snap a262.block fun o317 =>
 .snap a259.block fun o318 =>
 .snap a256.block fun o319 =>
 .snap a253.block fun o320 =>
 .snap a250.block fun o321 =>
 .call 144 [v249, .int .i64 (2 : Int)] fun r322 =>
 .kStr r322 fun s323 =>
 .same a262.block o317 (
 .same a259.block o318 (
 .same a256.block o319 (
 .same a253.block o320 (
 .same a250.block o321 (
 .cat s316 s323 fun s324 =>
 .snap a262.block fun o325 =>
 .snap a259.block fun o326 =>
 .snap a256.block fun o327 =>
 .snap a253.block fun o328 =>
 .snap a250.block fun o329 =>
 .call 144 [x1, .int .i64 (2 : Int)] fun r330 =>
 .kStr r330 fun s331 =>
 .same a262.block o325 (
 .same a259.block o326 (
 .same a256.block o327 (
 .same a253.block o328 (
 .same a250.block o329 (
 .cat s324 s331 fun s332 =>
 .snap a262.block fun o333 =>
 .snap a259.block fun o334 =>
 .snap a256.block fun o335 =>
 .snap a253.block fun o336 =>
 .call 144 [v252, .int .i64 (1 : Int)] fun r337 =>
 .kStr r337 fun s338 =>
 .same a262.block o333 (
 .same a259.block o334 (
 .same a256.block o335 (
 .same a253.block o336 (
 .cat s332 s338 fun s339 =>
 .snap a262.block fun o340 =>
 .snap a259.block fun o341 =>
 .snap a256.block fun o342 =>
 .call 144 [v255, .int .i64 (1 : Int)] fun r343 =>
 .kStr r343 fun s344 =>
 .same a262.block o340 (
 .same a259.block o341 (
 .same a256.block o342 (
 .cat s339 s344 fun s345 =>
 .snap a262.block fun o346 =>
 .snap a259.block fun o347 =>
 .snap a256.block fun o348 =>
 .call 144 [.int .i64 (0 : Int), .int .i64 (2 : Int)] fun r349 =>
 .kStr r349 fun s350 =>
 .same a262.block o346 (
 .same a259.block o347 (
 .same a256.block o348 (
 .cat s345 s350 fun s351 =>
 .snap a262.block fun o352 =>
 .snap a259.block fun o353 =>
 .call 144 [v258, .int .i64 (4 : Int)] fun r354 =>
 .kStr r354 fun s355 =>
 .same a262.block o352 (
 .same a259.block o353 (
 .cat s351 s355 fun s356 =>
 .snap a262.block fun o357 =>
 .call 144 [v261, .int .i64 (4 : Int)] fun r358 =>
 .kStr r358 fun s359 =>
 .same a262.block o357 (
 .cat s356 s359 fun s360 =>
 .cat s360 s264 fun s361 =>
 .jmp 10 [.pointer x0, .string s361])))))))))))))))))))))))))))))))))))))))))))))))))))))))))))))) (fun blk4 =>
 .onS x0 fun a5 =>
 .ldn a5.block a5.off 10 fun cs6 =>
 .opt (onSome x0 fun z => some z.block : Option Nat) (
 .onS x0 fun a126 =>
 .ld a126.block (a126.off + 9) fun v127 =>
 .kStr v127 fun s128 =>
 .onS x0 fun a129 =>
 .ld a129.block (a129.off + 4) fun v130 =>
 .tyI .i64 v130 fun v131 =>
 .onS x0 fun a132 =>
 .ld a132.block (a132.off + 2) fun v133 =>
 .tyI .i64 v133 fun v134 =>
 .onS x0 fun a135 =>
 .ld a135.block (a135.off + 3) fun v136 =>
 .tyI .i64 v136 fun v137 =>
 .onS x0 fun a138 =>
 .ld a138.block a138.off fun v139 =>
 .tyI .i64 v139 fun v140 =>
 .onS x0 fun a141 =>
 .ld a141.block (a141.off + 1) fun v142 =>
 .tyI .i64 v142 fun v143 =>
 .onS x0 fun a144 =>
 .ld a144.block (a144.off + 8) fun v145 =>
 .kStr v145 fun s146 =>
 .snap a144.block fun o147 =>
 .snap a141.block fun o148 =>
 .snap a138.block fun o149 =>
 .snap a135.block fun o150 =>
 .snap a132.block fun o151 =>
 .snap a129.block fun o152 =>
 .snap a126.block fun o153 =>
 .call 96 [.agg cs3] fun r154 =>
 .tyI .i64 r154 fun v155 =>
 .same a144.block o147 (
 .same a141.block o148 (
 .same a138.block o149 (
 .same a135.block o150 (
 .same a132.block o151 (
 .same a129.block o152 (
 .same a126.block o153 (
 .arV .quo .i64 v155 (.int .i64 (4 : Int)) fun v156 =>
 .arV .or .i64 (.int .i64 (64 : Int)) v156 fun v157 =>
 .snap a144.block fun o158 =>
 .snap a141.block fun o159 =>
 .snap a138.block fun o160 =>
 .snap a135.block fun o161 =>
 .snap a132.block fun o162 =>
 .snap a129.block fun o163 =>
 .snap a126.block fun o164 =>
 .call 144 [v157, .int .i64 (1 : Int)] fun r165 =>
 .kStr r165 fun s166 =>
 .same a144.block o158 (
 .same a141.block o159 (
 .same a138.block o160 (
 .same a135.block o161 (
 .same a132.block o162 (
 .same a129.block o163 (
 .same a126.block o164 (
 .snap a144.block fun o167 =>
 .snap a141.block fun o168 =>
 .snap a138.block fun o169 =>
 .snap a135.block fun o170 =>
 .snap a132.block fun o171 =>
 .snap a129.block fun o172 =>
 .snap a126.block fun o173 =>
 .call 144 [.int .i64 (0 : Int), .int .i64 (1 : Int)] fun r174 =>
 .kStr r174 fun s175 =>
 .same a144.block o167 (
 .same a141.block o168 (
 .same a138.block o169 (
 .same a135.block o170 (
 .same a132.block o171 (
 .same a129.block o172 (
 .same a126.block o173 (
 .cat s166 s175 fun s176 =>
 .snap a144.block fun o177 =>
 .snap a141.block fun o178 =>
 .snap a138.block fun o179 =>
 .snap a135.block fun o180 =>
 .snap a132.block fun o181 =>
 .snap a129.block fun o182 =>
 .snap a126.block fun o183 =>
 .call 96 [.agg cs6] fun r184 =>
 .tyI .i64 r184 fun v185 =>
 .same a144.block o177 (
 .same a141.block o178 (
 .same a138.block o179 (
 .same a135.block o180 (
 .same a132.block o181 (
 .same a129.block o182 (
 .same a126.block o183 (
 .arV .add .i64 v185 (.int .i64 (s128.size : Int)) fun v186 =>
 .snap a144.block fun o187 =>
 .snap a141.block fun o188 =>
 .snap a138.block fun o189 =>
 .snap a135.block fun o190 =>
 .snap a132.block fun o191 =>
 .snap a129.block fun o192 =>
 .call 144 [v186, .int .i64 (2 : Int)] fun r193 =>
 .kStr r193 fun s194 =>
 .same a144.block o187 (
 .same a141.block o188 (
 .same a138.block o189 (
 .same a135.block o190 (
 .same a132.block o191 (
 .same a129.block o192 (
 .cat s176 s194 fun s195 =>
 .snap a144.block fun o196 =>
 .snap a141.block fun o197 =>
 .snap a138.block fun o198 =>
 .snap a135.block fun o199 =>
 .snap a132.block fun o200 =>
 .call 144 [v131, .int .i64 (2 : Int)] fun r201 =>
 .kStr r201 fun s202 =>
 .same a144.block o196 (
 .same a141.block o197 (
 .same a138.block o198 (
 .same a135.block o199 (
 .same a132.block o200 (
 .cat s195 s202 fun s203 =>
 .snap a144.block fun o204 =>
 .snap a141.block fun o205 =>
 .snap a138.block fun o206 =>
 .snap a135.block fun o207 =>
 .snap a132.block fun o208 =>
 .call 144 [x1, .int .i64 (2 : Int)] fun r209 =>
 .kStr r209 fun s210 =>
 .same a144.block o204 (
 .same a141.block o205 (
 .same a138.block o206 (
 .same a135.block o207 (
 .same a132.block o208 (
 .cat s203 s210 fun s211 =>
 .snap a144.block fun o212 =>
 .snap a141.block fun o213 =>
 .snap a138.block fun o214 =>
 .snap a135.block fun o215 =>
 .call 144 [v134, .int .i64 (1 : Int)] fun r216 =>
 .kStr r216 fun s217 =>
 .same a144.block o212 (
 .same a141.block o213 (
 .same a138.block o214 (
 .same a135.block o215 (
 .cat s211 s217 fun s218 =>
 .snap a144.block fun o219 =>
 .snap a141.block fun o220 =>
 .snap a138.block fun o221 =>
 .call 144 [v137, .int .i64 (1 : Int)] fun r222 =>
 .kStr r222 fun s223 =>
 .same a144.block o219 (
 .same a141.block o220 (
 .same a138.block o221 (
 .cat s218 s223 fun s224 =>
 .snap a144.block fun o225 =>
 .snap a141.block fun o226 =>
 .snap a138.block fun o227 =>
 .call 144 [.int .i64 (0 : Int), .int .i64 (2 : Int)] fun r228 =>
 .kStr r228 fun s229 =>
 .same a144.block o225 (
 .same a141.block o226 (
 .same a138.block o227 (
 .cat s224 s229 fun s230 =>
 .snap a144.block fun o231 =>
 .snap a141.block fun o232 =>
 .call 144 [v140, .int .i64 (4 : Int)] fun r233 =>
 .kStr r233 fun s234 =>
 .same a144.block o231 (
 .same a141.block o232 (
 .cat s230 s234 fun s235 =>
 .snap a144.block fun o236 =>
 .call 144 [v143, .int .i64 (4 : Int)] fun r237 =>
 .kStr r237 fun s238 =>
 .same a144.block o236 (
 .cat s235 s238 fun s239 =>
 .cat s239 s146 fun s240 =>
 .jmp 10 [.pointer x0, .string s240])))))))))))))))))))))))))))))))))))))))))))))))))))))))))) (fun blk7 =>
 .onS x0 fun a8 =>
 .ld a8.block (a8.off + 9) fun v9 =>
 .kStr v9 fun s10 =>
 .onS x0 fun a11 =>
 .ld a11.block (a11.off + 4) fun v12 =>
 .tyI .i64 v12 fun v13 =>
 .onS x0 fun a14 =>
 .ld a14.block (a14.off + 2) fun v15 =>
 .tyI .i64 v15 fun v16 =>
 .onS x0 fun a17 =>
 .ld a17.block (a17.off + 3) fun v18 =>
 .tyI .i64 v18 fun v19 =>
 .onS x0 fun a20 =>
 .ld a20.block a20.off fun v21 =>
 .tyI .i64 v21 fun v22 =>
 .onS x0 fun a23 =>
 .ld a23.block (a23.off + 1) fun v24 =>
 .tyI .i64 v24 fun v25 =>
 .onS x0 fun a26 =>
 .ld a26.block (a26.off + 8) fun v27 =>
 .kStr v27 fun s28 =>
 .snap a26.block fun o29 =>
 .snap a23.block fun o30 =>
 .snap a20.block fun o31 =>
 .snap a17.block fun o32 =>
 .snap a14.block fun o33 =>
 .snap a11.block fun o34 =>
 .snap a8.block fun o35 =>
 .snap blk7 fun o36 =>
 .call 96 [.agg cs3] fun r37 =>
 .tyI .i64 r37 fun v38 =>
 .same a26.block o29 (
 .same a23.block o30 (
 .same a20.block o31 (
 .same a17.block o32 (
 .same a14.block o33 (
 .same a11.block o34 (
 .same a8.block o35 (
 .same blk7 o36 (
 .arV .quo .i64 v38 (.int .i64 (4 : Int)) fun v39 =>
 .arV .or .i64 (.int .i64 (64 : Int)) v39 fun v40 =>
 .snap a26.block fun o41 =>
 .snap a23.block fun o42 =>
 .snap a20.block fun o43 =>
 .snap a17.block fun o44 =>
 .snap a14.block fun o45 =>
 .snap a11.block fun o46 =>
 .snap a8.block fun o47 =>
 .snap blk7 fun o48 =>
 .call 144 [v40, .int .i64 (1 : Int)] fun r49 =>
 .kStr r49 fun s50 =>
 .same a26.block o41 (
 .same a23.block o42 (
 .same a20.block o43 (
 .same a17.block o44 (
 .same a14.block o45 (
 .same a11.block o46 (
 .same a8.block o47 (
 .same blk7 o48 (
 .snap a26.block fun o51 =>
 .snap a23.block fun o52 =>
 .snap a20.block fun o53 =>
 .snap a17.block fun o54 =>
 .snap a14.block fun o55 =>
 .snap a11.block fun o56 =>
 .snap a8.block fun o57 =>
 .snap blk7 fun o58 =>
 .call 144 [.int .i64 (0 : Int), .int .i64 (1 : Int)] fun r59 =>
 .kStr r59 fun s60 =>
 .same a26.block o51 (
 .same a23.block o52 (
 .same a20.block o53 (
 .same a17.block o54 (
 .same a14.block o55 (
 .same a11.block o56 (
 .same a8.block o57 (
 .same blk7 o58 (
 .cat s50 s60 fun s61 =>
 .snap a26.block fun o62 =>
 .snap a23.block fun o63 =>
 .snap a20.block fun o64 =>
 .snap a17.block fun o65 =>
 .snap a14.block fun o66 =>
 .snap a11.block fun o67 =>
 .snap a8.block fun o68 =>
 .call 96 [.agg cs6] fun r69 =>
 .tyI .i64 r69 fun v70 =>
 .same a26.block o62 (
 .same a23.block o63 (
 .same a20.block o64 (
 .same a17.block o65 (
 .same a14.block o66 (
 .same a11.block o67 (
 .same a8.block o68 (
 .arV .add .i64 v70 (.int .i64 (s10.size : Int)) fun v71 =>
 .snap a26.block fun o72 =>
 .snap a23.block fun o73 =>
 .snap a20.block fun o74 =>
 .snap a17.block fun o75 =>
 .snap a14.block fun o76 =>
 .snap a11.block fun o77 =>
 .call 144 [v71, .int .i64 (2 : Int)] fun r78 =>
 .kStr r78 fun s79 =>
 .same a26.block o72 (
 .same a23.block o73 (
 .same a20.block o74 (
 .same a17.block o75 (
 .same a14.block o76 (
 .same a11.block o77 (
 .cat s61 s79 fun s80 =>
 .snap a26.block fun o81 =>
 .snap a23.block fun o82 =>
 .snap a20.block fun o83 =>
 .snap a17.block fun o84 =>
 .snap a14.block fun o85 =>
 .call 144 [v13, .int .i64 (2 : Int)] fun r86 =>
 .kStr r86 fun s87 =>
 .same a26.block o81 (
 .same a23.block o82 (
 .same a20.block o83 (
 .same a17.block o84 (
 .same a14.block o85 (
 .cat s80 s87 fun s88 =>
 .snap a26.block fun o89 =>
 .snap a23.block fun o90 =>
 .snap a20.block fun o91 =>
 .snap a17.block fun o92 =>
 .snap a14.block fun o93 =>
 .call 144 [x1, .int .i64 (2 : Int)] fun r94 =>
 .kStr r94 fun s95 =>
 .same a26.block o89 (
 .same a23.block o90 (
 .same a20.block o91 (
 .same a17.block o92 (
 .same a14.block o93 (
 .cat s88 s95 fun s96 =>
 .snap a26.block fun o97 =>
 .snap a23.block fun o98 =>
 .snap a20.block fun o99 =>
 .snap a17.block fun o100 =>
 .call 144 [v16, .int .i64 (1 : Int)] fun r101 =>
 .kStr r101 fun s102 =>
 .same a26.block o97 (
 .same a23.block o98 (
 .same a20.block o99 (
 .same a17.block o100 (
 .cat s96 s102 fun s103 =>
 .snap a26.block fun o104 =>
 .snap a23.block fun o105 =>
 .snap a20.block fun o106 =>
 .call 144 [v19, .int .i64 (1 : Int)] fun r107 =>
 .kStr r107 fun s108 =>
 .same a26.block o104 (
 .same a23.block o105 (
 .same a20.block o106 (
 .cat s103 s108 fun s109 =>
 .snap a26.block fun o110 =>
 .snap a23.block fun o111 =>
 .snap a20.block fun o112 =>
 .call 144 [.int .i64 (0 : Int), .int .i64 (2 : Int)] fun r113 =>
 .kStr r113 fun s114 =>
 .same a26.block o110 (
 .same a23.block o111 (
 .same a20.block o112 (
 .cat s109 s114 fun s115 =>
 .snap a26.block fun o116 =>
 .snap a23.block fun o117 =>
 .call 144 [v22, .int .i64 (4 : Int)] fun r118 =>
 .kStr r118 fun s119 =>
 .same a26.block o116 (
 .same a23.block o117 (
 .cat s115 s119 fun s120 =>
 .snap a26.block fun o121 =>
 .call 144 [v25, .int .i64 (4 : Int)] fun r122 =>
 .kStr r122 fun s123 =>
 .same a26.block o121 (
 .cat s120 s123 fun s124 =>
 .cat s124 s28 fun s125 =>
 .jmp 10 [.pointer x0, .string s125]))))))))))))))))))))))))))))))))))))))))))))))))))))))))))))))
 | _ => .fail
noncomputable def X93_10 : List Value → M := fun args => match args with
 | [v0, v1] => .kPtr v0 fun x0 => .kStr v1 fun x1 => 
 .call 82 [.string x1, .int .i64 (10 : Int)] fun r2 =>
 .kTup r2 fun vs3 =>
 .nthA vs3 0 fun v4 =>
 .kStr v4 fun s5 =>
 .kTup r2 fun vs6 =>
 .nthA vs6 1 fun v7 =>
 .tyI .i64 v7 fun v8 =>
 .onS x0 fun a9 =>
 .ld a9.block (a9.off + 9) fun v10 =>
 .kStr v10 fun s11 =>
 .cat s5 s11 fun s12 =>
 .ret (.tuple #[.string s12, v8])
 | _ => .fail
noncomputable def cuts93 : Cuts := [(9, [1, 5]), (10, [1, 6]), (7, [1, 5])]
noncomputable def L93 : Places := [(7, X93_7, todoOf Tryz.f93 7), (9, X93_9, todoOf Tryz.f93 9), (10, X93_10, todoOf Tryz.f93 10)]
noncomputable def k93 : FCode := .of X93 L93 cuts93
theorem o93_7 : OOk Tryz.prog Tryz.f93 cuts93 L93 (7, X93_7, todoOf Tryz.f93 7) := by
  intro vs Γ m H r h; replace h : (X93_7 vs).run _ _ _ _ = _ := h; unfold X93_7 at h; split at h
  · replace h := M.iPtr h; obtain ⟨_, rfl, h⟩ := h; exact Eq.trans (by kernel_rfl) h
  · exact M.iFail h
theorem o93_9 : OOk Tryz.prog Tryz.f93 cuts93 L93 (9, X93_9, todoOf Tryz.f93 9) := by
  intro vs Γ m H r h; replace h : (X93_9 vs).run _ _ _ _ = _ := h; unfold X93_9 at h; split at h
  · replace h := M.iPtr h; obtain ⟨_, rfl, h⟩ := h; exact Eq.trans (by kernel_rfl) h
  · exact M.iFail h
theorem o93_10 : OOk Tryz.prog Tryz.f93 cuts93 L93 (10, X93_10, todoOf Tryz.f93 10) := by
  intro vs Γ m H r h; replace h : (X93_10 vs).run _ _ _ _ = _ := h; unfold X93_10 at h; split at h
  · replace h := M.iPtr h; obtain ⟨_, rfl, h⟩ := h; replace h := M.iStr h; obtain ⟨_, rfl, h⟩ := h; exact Eq.trans (by kernel_rfl) h
  · exact M.iFail h
theorem h93 : XOk Tryz.prog Tryz.f93 cuts93 L93 X93 := by
  intro Γ m args H r h; unfold X93 at h; split at h
  · replace h := M.iAgg h; obtain ⟨_, rfl, h⟩ := h; exact ⟨Eq.trans (by kernel_rfl) h, Nat.le_of_ble_eq_true (by kernel_rfl)⟩
  · exact M.iFail h
theorem K93 : CodeOk Tryz.prog 93 k93 := .of Tryz.func93 (by kernel_rfl) (by kernel_rfl) h93 (fc o93_7 (fc o93_9 (fc o93_10 fe)))
-- sternpost/sum.total
noncomputable def X94 : List Value → M := fun args => match args with
 | [v0] => .kSl v0 fun a0 l1 c2 => 
 .fxI ((l1 : Nat) : Int) fun n3 =>
 .jmp 100003 [.int .i64 (0 : Int), .int .i64 (0 : Int), .slice a0 l1 c2, .int .i64 n3, .int .i64 (0 : Int)]
 | _ => .fail
noncomputable def X94_100003 : List Value → M := fun args => match args with
 | [v0, v1, v2, v3, v4] => .kInt .i64 v0 fun x0 => .kInt .i64 v1 fun x1 => .kSl v2 fun a2 l3 c4 => .kInt .i64 v3 fun x5 => .kInt .i64 v4 fun x6 => 
 .cmp .lss x6 x5 fun t7 =>
 .bool t7 (
 .onS a2 fun a8 =>
 .inb x6 l3 (
 .ld ((a8.add (x6.toNat * 1)).block) ((a8.add (x6.toNat * 1)).off) fun v9 =>
 .kStr v9 fun s10 =>
 .fxI (s10.size : Int) fun n11 =>
 .jmp 100006 [.int .i64 x0, .int .i64 x1, .string s10, .slice a2 l3 c4, .int .i64 x5, .int .i64 x6, .int .i64 n11, .int .i64 (0 : Int)])) (
 .call 145 [.int .i64 x0] fun r12 =>
 .tyI .i64 r12 fun v13 =>
 .ret (v13))
 | _ => .fail
noncomputable def X94_100006 : List Value → M := fun args => match args with
 | [v0, v1, v2, v3, v4, v5, v6, v7] => .kInt .i64 v0 fun x0 => .kInt .i64 v1 fun x1 => .kStr v2 fun x2 => .kSl v3 fun a3 l4 c5 => .kInt .i64 v4 fun x6 => .kInt .i64 v5 fun x7 => .kInt .i64 v6 fun x8 => .kInt .i64 v7 fun x9 => 
 .cmp .lss x9 x8 fun t10 =>
 .bool t10 (
 .inb x9 x2.size (
 .byte x2 x9.toNat fun n11 =>
 .wr .i64 n11 fun n12 =>
 .nite ((2 : Int) = 0) (
 .wr .i64 ((x1.tmod (2 : Int)) * (8 : Int)) fun n13 =>
 .wr .i64 ((8 : Int) - n13) fun n14 =>
 .nite (n14 < 0) (
 .wr .i64 (n12 * 2 ^ (min n14.toNat IntKind.i64.bits)) fun n15 =>
 .wr .i64 (x0 + n15) fun n16 =>
 .wr .i64 (x1 + (1 : Int)) fun n17 =>
 .wr .i64 (x9 + (1 : Int)) fun n18 =>
 .jmp 100006 [.int .i64 n16, .int .i64 n17, .string x2, .slice a3 l4 c5, .int .i64 x6, .int .i64 x7, .int .i64 x8, .int .i64 n18])))) (
 .wr .i64 (x7 + (1 : Int)) fun n19 =>
 .jmp 100003 [.int .i64 x0, .int .i64 x1, .slice a3 l4 c5, .int .i64 x6, .int .i64 n19])
 | _ => .fail
noncomputable def cuts94 : Cuts := [(100003, [3, 4, 8, 9, 10]), (100006, [3, 4, 6, 8, 9, 10, 15, 16])]
noncomputable def L94 : Places := [(100003, X94_100003, todoOf Tryz.f94 100003), (100006, X94_100006, todoOf Tryz.f94 100006)]
noncomputable def k94 : FCode := .of X94 L94 cuts94
theorem o94_100003 : OOk Tryz.prog Tryz.f94 cuts94 L94 (100003, X94_100003, todoOf Tryz.f94 100003) := by
  intro vs Γ m H r h; replace h : (X94_100003 vs).run _ _ _ _ = _ := h; unfold X94_100003 at h; split at h
  · replace h := M.iInt h; obtain ⟨_, rfl, h⟩ := h; replace h := M.iInt h; obtain ⟨_, rfl, h⟩ := h; replace h := M.iSl h; obtain ⟨_, _, _, rfl, h⟩ := h; replace h := M.iInt h; obtain ⟨_, rfl, h⟩ := h; replace h := M.iInt h; obtain ⟨_, rfl, h⟩ := h; exact Eq.trans (by kernel_rfl) h
  · exact M.iFail h
theorem o94_100006 : OOk Tryz.prog Tryz.f94 cuts94 L94 (100006, X94_100006, todoOf Tryz.f94 100006) := by
  intro vs Γ m H r h; replace h : (X94_100006 vs).run _ _ _ _ = _ := h; unfold X94_100006 at h; split at h
  · replace h := M.iInt h; obtain ⟨_, rfl, h⟩ := h; replace h := M.iInt h; obtain ⟨_, rfl, h⟩ := h; replace h := M.iStr h; obtain ⟨_, rfl, h⟩ := h; replace h := M.iSl h; obtain ⟨_, _, _, rfl, h⟩ := h; replace h := M.iInt h; obtain ⟨_, rfl, h⟩ := h; replace h := M.iInt h; obtain ⟨_, rfl, h⟩ := h; replace h := M.iInt h; obtain ⟨_, rfl, h⟩ := h; replace h := M.iInt h; obtain ⟨_, rfl, h⟩ := h; exact Eq.trans (by kernel_rfl) h
  · exact M.iFail h
theorem h94 : XOk Tryz.prog Tryz.f94 cuts94 L94 X94 := by
  intro Γ m args H r h; unfold X94 at h; split at h
  · replace h := M.iSl h; obtain ⟨_, _, _, rfl, h⟩ := h; exact ⟨Eq.trans (by kernel_rfl) h, Nat.le_of_ble_eq_true (by kernel_rfl)⟩
  · exact M.iFail h
theorem K94 : CodeOk Tryz.prog 94 k94 := .of Tryz.func94 (by kernel_rfl) (by kernel_rfl) h94 (fc o94_100003 (fc o94_100006 fe))
-- sternpost/ip.within
noncomputable def X95 : List Value → M := fun args => match args with
 | [x0, v1] => .kSl v1 fun a1 l2 c3 => 
 .fxI ((l2 : Nat) : Int) fun n4 =>
 .jmp 100002 [x0, .slice a1 l2 c3, .int .i64 n4, .int .i64 (0 : Int)]
 | _ => .fail
noncomputable def X95_5 : List Value → M := fun args => match args with
 | [] => 
 .ret (.bool false)
 | _ => .fail
noncomputable def X95_100002 : List Value → M := fun args => match args with
 | [x0, v1, v2, v3] => .kSl v1 fun a1 l2 c3 => .kInt .i64 v2 fun x4 => .kInt .i64 v3 fun x5 => 
 .cmp .lss x5 x4 fun t6 =>
 .bool t6 (
 .onS a1 fun a7 =>
 .inb x5 l2 (
 .ld ((a7.add (x5.toNat * 1)).block) ((a7.add (x5.toNat * 1)).off) fun v8 =>
 .tyI .i64 v8 fun v9 =>
 .cmpV .lss .i64 v9 (.int .i64 (0 : Int)) fun t10 =>
 .bool t10 (
 .jmp 5 []) (
 .cmpV .gtr .i64 v9 x0 fun t11 =>
 .bool t11 (
 .jmp 5 []) (
 .wr .i64 (x5 + (1 : Int)) fun n12 =>
 .jmp 100002 [x0, .slice a1 l2 c3, .int .i64 x4, .int .i64 n12])))) (
 .ret (.bool true))
 | _ => .fail
noncomputable def cuts95 : Cuts := [(100002, [0, 7, 8, 9]), (5, [])]
noncomputable def L95 : Places := [(5, X95_5, todoOf Tryz.f95 5), (100002, X95_100002, todoOf Tryz.f95 100002)]
noncomputable def k95 : FCode := .of X95 L95 cuts95
theorem o95_5 : OOk Tryz.prog Tryz.f95 cuts95 L95 (5, X95_5, todoOf Tryz.f95 5) := by
  intro vs Γ m H r h; replace h : (X95_5 vs).run _ _ _ _ = _ := h; unfold X95_5 at h; split at h
  · exact Eq.trans (by kernel_rfl) h
  · exact M.iFail h
theorem o95_100002 : OOk Tryz.prog Tryz.f95 cuts95 L95 (100002, X95_100002, todoOf Tryz.f95 100002) := by
  intro vs Γ m H r h; replace h : (X95_100002 vs).run _ _ _ _ = _ := h; unfold X95_100002 at h; split at h
  · replace h := M.iSl h; obtain ⟨_, _, _, rfl, h⟩ := h; replace h := M.iInt h; obtain ⟨_, rfl, h⟩ := h; replace h := M.iInt h; obtain ⟨_, rfl, h⟩ := h; exact Eq.trans (by kernel_rfl) h
  · exact M.iFail h
theorem h95 : XOk Tryz.prog Tryz.f95 cuts95 L95 X95 := by
  intro Γ m args H r h; unfold X95 at h; split at h
  · replace h := M.iSl h; obtain ⟨_, _, _, rfl, h⟩ := h; exact ⟨Eq.trans (by kernel_rfl) h, Nat.le_of_ble_eq_true (by kernel_rfl)⟩
  · exact M.iFail h
theorem K95 : CodeOk Tryz.prog 95 k95 := .of Tryz.func95 (by kernel_rfl) (by kernel_rfl) h95 (fc o95_5 (fc o95_100002 fe))
-- sternpost/ip.head
noncomputable def X96 : List Value → M := fun args => match args with
 | [v0] => .kAgg v0 fun x0 => 
 .new (.cells x0.toList 0 true) fun b1 =>
 .ld b1 (0 + 8) fun v2 =>
 .kStr v2 fun s3 =>
 .wr .i64 ((20 : Int) + (s3.size : Int)) fun n4 =>
 .ret (.int .i64 n4)
 | _ => .fail
noncomputable def cuts96 : Cuts := []
noncomputable def L96 : Places := []
noncomputable def k96 : FCode := .of X96 L96 cuts96
theorem h96 : XOk Tryz.prog Tryz.f96 cuts96 L96 X96 := by
  intro Γ m args H r h; unfold X96 at h; split at h
  · replace h := M.iAgg h; obtain ⟨_, rfl, h⟩ := h; exact ⟨Eq.trans (by kernel_rfl) h, Nat.le_of_ble_eq_true (by kernel_rfl)⟩
  · exact M.iFail h
theorem K96 : CodeOk Tryz.prog 96 k96 := .of Tryz.func96 (by kernel_rfl) (by kernel_rfl) h96 fe
-- slices.Clone[[]int,int]
noncomputable def X97 : List Value → M := fun args => match args with
 | [v0] => .kSl v0 fun a0 l1 c2 => 
 .bool a0.isNone (
 .ret (.slice none 0 0)) (
 .new (.cells [] 1 true) fun b3 =>
 .firstC 1 (.slice a0 l1 c2) fun n4 nw5 =>
 .app 3 (.slice (some ⟨b3, 0, none⟩) 0 0) n4 nw5 fun v6 =>
 .kSl v6 fun a8 l9 c10 =>
 .ret (.slice a8 l9 c10))
 | _ => .fail
noncomputable def cuts97 : Cuts := []
noncomputable def L97 : Places := []
noncomputable def k97 : FCode := .of X97 L97 cuts97
theorem h97 : XOk Tryz.prog Tryz.f97 cuts97 L97 X97 := by
  intro Γ m args H r h; unfold X97 at h; split at h
  · replace h := M.iSl h; obtain ⟨_, _, _, rfl, h⟩ := h; exact ⟨Eq.trans (by kernel_rfl) h, Nat.le_of_ble_eq_true (by kernel_rfl)⟩
  · exact M.iFail h
theorem K97 : CodeOk Tryz.prog 97 k97 := .of Tryz.func97 (by kernel_rfl) (by kernel_rfl) h97 fe
-- (*sternpost/frag.Box).tick
noncomputable def X98 : List Value → M := fun args => match args with
 | [v0, x1] => .kPtr v0 fun x0 => 
 .onS x0 fun a2 =>
 .ld a2.block (a2.off + 2) fun v3 =>
 .tyI .i64 v3 fun v4 =>
 .cmpV .lss .i64 x1 v4 fun t5 =>
 .bool t5 (
 .jmp 2 []) (
 .cmpV .gtr .i64 x1 (.int .i64 (1099511627776 : Int)) fun t6 =>
 .bool t6 (
 .jmp 2 []) (
 .onS x0 fun a7 =>
 .cellsOk x1 (
 .st 1 (⟨a7.block, a7.off + 2, none⟩ : Addr) x1 (
 .ret (.int .i64 (0 : Int))))))
 | _ => .fail
noncomputable def X98_2 : List Value → M := fun args => match args with
 | [] => 
 .ret (.int .i64 (1 : Int))
 | _ => .fail
noncomputable def cuts98 : Cuts := [(2, [])]
noncomputable def L98 : Places := [(2, X98_2, todoOf Tryz.f98 2)]
noncomputable def k98 : FCode := .of X98 L98 cuts98
theorem o98_2 : OOk Tryz.prog Tryz.f98 cuts98 L98 (2, X98_2, todoOf Tryz.f98 2) := by
  intro vs Γ m H r h; replace h : (X98_2 vs).run _ _ _ _ = _ := h; unfold X98_2 at h; split at h
  · exact Eq.trans (by kernel_rfl) h
  · exact M.iFail h
theorem h98 : XOk Tryz.prog Tryz.f98 cuts98 L98 X98 := by
  intro Γ m args H r h; unfold X98 at h; split at h
  · replace h := M.iPtr h; obtain ⟨_, rfl, h⟩ := h; exact ⟨Eq.trans (by kernel_rfl) h, Nat.le_of_ble_eq_true (by kernel_rfl)⟩
  · exact M.iFail h
theorem K98 : CodeOk Tryz.prog 98 k98 := .of Tryz.func98 (by kernel_rfl) (by kernel_rfl) h98 (fc o98_2 fe)
-- sternpost/frag.kept
noncomputable def X99 : List Value → M := fun args => match args with
 | [v0, x1] => .kAgg v0 fun x0 => 
 .new (.cells x0.toList 0 true) fun b2 =>
 .new (.cells [.int .i64 (0 : Int), .int .i64 (0 : Int), .int .i64 (0 : Int), .int .i64 (0 : Int), .int .i64 (0 : Int), .int .i64 (0 : Int), .bool false, .bool false, .string (⟨#[]⟩ : ByteArray), .string (⟨#[]⟩ : ByteArray)] 0 true) fun b3 =>
 .cmpV .neq .i64 x1 (.int .i64 (0 : Int)) fun t4 =>
 .bool t4 (
 .st 10 (⟨b3, 0, none⟩ : Addr) (.agg #[.int .i64 (0 : Int), .int .i64 (0 : Int), .int .i64 (0 : Int), .int .i64 (0 : Int), .int .i64 (0 : Int), .int .i64 (0 : Int), .bool false, .bool false, .string (⟨#[]⟩ : ByteArray), .string (⟨#[]⟩ : ByteArray)]) (
 .ldn b3 0 10 fun cs6 =>
 .ret (.agg cs6))) (
 .ldn b2 0 10 fun cs7 =>
 .st 10 (⟨b3, 0, none⟩ : Addr) (.agg cs7) (
 .ldn b3 0 10 fun cs9 =>
 .ret (.agg cs9)))
 | _ => .fail
noncomputable def cuts99 : Cuts := []
noncomputable def L99 : Places := []
noncomputable def k99 : FCode := .of X99 L99 cuts99
theorem h99 : XOk Tryz.prog Tryz.f99 cuts99 L99 X99 := by
  intro Γ m args H r h; unfold X99 at h; split at h
  · replace h := M.iAgg h; obtain ⟨_, rfl, h⟩ := h; exact ⟨Eq.trans (by kernel_rfl) h, Nat.le_of_ble_eq_true (by kernel_rfl)⟩
  · exact M.iFail h
theorem K99 : CodeOk Tryz.prog 99 k99 := .of Tryz.func99 (by kernel_rfl) (by kernel_rfl) h99 fe
-- (*sternpost/sock.Box).told
noncomputable def X109 : List Value → M := fun args => match args with
 | [v0] => .kPtr v0 fun x0 => 
 .call 166 [.pointer x0] fun r1 =>
 .kSl r1 fun a2 l3 c4 =>
 .onS x0 fun a5 =>
 .ld a5.block (a5.off + 3) fun v6 =>
 .kSl v6 fun a7 l8 c9 =>
 .onS x0 fun a10 =>
 .st 1 (⟨a10.block, a10.off + 3, none⟩ : Addr) (.slice none 0 0) (
 .ret (.tuple #[.slice a2 l3 c4, .slice a7 l8 c9]))
 | _ => .fail
noncomputable def cuts109 : Cuts := []
noncomputable def L109 : Places := []
noncomputable def k109 : FCode := .of X109 L109 cuts109
theorem h109 : XOk Tryz.prog Tryz.f109 cuts109 L109 X109 := by
  intro Γ m args H r h; unfold X109 at h; split at h
  · replace h := M.iPtr h; obtain ⟨_, rfl, h⟩ := h; exact ⟨Eq.trans (by kernel_rfl) h, Nat.le_of_ble_eq_true (by kernel_rfl)⟩
  · exact M.iFail h
theorem K109 : CodeOk Tryz.prog 109 k109 := .of Tryz.func109 (by kernel_rfl) (by kernel_rfl) h109 fe
-- (*sternpost/host.Host).segments
noncomputable def X110 : List Value → M := fun args => match args with
 | [v0, v1] => .kPtr v0 fun x0 => .kSl v1 fun a1 l2 c3 => 
 .fxI ((l2 : Nat) : Int) fun n4 =>
 .jmp 100001 [.pointer x0, .slice a1 l2 c3, .int .i64 n4, .int .i64 (0 : Int)]
 | _ => .fail
noncomputable def X110_6 : List Value → M := fun args => match args with
 | [v0, v1, v2, v3] => .kPtr v0 fun x0 => .kSl v1 fun a1 l2 c3 => .kInt .i64 v2 fun x4 => .kInt .i64 v3 fun x5 => 
 .wr .i64 (x5 + (1 : Int)) fun n6 =>
 .jmp 100001 [.pointer x0, .slice a1 l2 c3, .int .i64 x4, .int .i64 n6]
 | _ => .fail
noncomputable def X110_100001 : List Value → M := fun args => match args with
 | [v0, v1, v2, v3] => .kPtr v0 fun x0 => .kSl v1 fun a1 l2 c3 => .kInt .i64 v2 fun x4 => .kInt .i64 v3 fun x5 => 
 .cmp .lss x5 x4 fun t6 =>
 .bool t6 (
 .onS a1 fun a7 =>
 .inb x5 l2 (
 .ldn ((a7.add (x5.toNat * 17)).block) ((a7.add (x5.toNat * 17)).off) 17 fun cs8 =>
 .new (.cells [.int .i64 (0 : Int), .int .i64 (0 : Int), .int .i64 (0 : Int), .int .i64 (0 : Int), .int .i64 (0 : Int), .int .i64 (0 : Int), .int .i64 (0 : Int), .int .i64 (0 : Int), .int .i64 (0 : Int), .int .i64 (0 : Int), .int .i64 (0 : Int), .int .i64 (0 : Int), .bool false, .bool false, .bool false, .slice none 0 0, .string (⟨#[]⟩ : ByteArray)] 0 true) fun b9 =>
 .st 17 (⟨b9, 0, none⟩ : Addr) (.agg cs8) (
 .onS x0 fun a11 =>
 .ld a11.block (a11.off + 1) fun v12 =>
 .tyI .i64 v12 fun v13 =>
 .ld b9 0 fun v14 =>
 .tyI .i64 v14 fun v15 =>
 .ldn b9 (0 + 1) 16 fun cs16 =>
 .call 167 [v13, v15, .agg cs16] fun r17 =>
 .kTup r17 fun vs18 =>
 .nthA vs18 0 fun v19 =>
 .kStr v19 fun s20 =>
 .kTup r17 fun vs21 =>
 .nthA vs21 1 fun v22 =>
 .tyI .i64 v22 fun v23 =>
 .cmpV .eql .i64 v23 (.int .i64 (0 : Int)) fun t24 =>
 .bool t24 (
 .onS x0 fun a25 =>
 .ld a25.block (a25.off + 1) fun v26 =>
 .tyI .i64 v26 fun v27 =>
 .ld b9 0 fun v28 =>
 .tyI .i64 v28 fun v29 =>
 .call 44 [.pointer x0, v27, v29, .int .i64 (6 : Int), .string s20] fun r30 =>
 .jmp 6 [.pointer x0, .slice a1 l2 c3, .int .i64 x4, .int .i64 x5]) (
 .jmp 6 [.pointer x0, .slice a1 l2 c3, .int .i64 x4, .int .i64 x5])))) (
 .ret (.tuple #[]))
 | _ => .fail
noncomputable def cuts110 : Cuts := [(100001, [0, 8, 9, 10]), (6, [0, 8, 9, 10])]
noncomputable def L110 : Places := [(6, X110_6, todoOf Tryz.f110 6), (100001, X110_100001, todoOf Tryz.f110 100001)]
noncomputable def k110 : FCode := .of X110 L110 cuts110
theorem o110_6 : OOk Tryz.prog Tryz.f110 cuts110 L110 (6, X110_6, todoOf Tryz.f110 6) := by
  intro vs Γ m H r h; replace h : (X110_6 vs).run _ _ _ _ = _ := h; unfold X110_6 at h; split at h
  · replace h := M.iPtr h; obtain ⟨_, rfl, h⟩ := h; replace h := M.iSl h; obtain ⟨_, _, _, rfl, h⟩ := h; replace h := M.iInt h; obtain ⟨_, rfl, h⟩ := h; replace h := M.iInt h; obtain ⟨_, rfl, h⟩ := h; exact Eq.trans (by kernel_rfl) h
  · exact M.iFail h
theorem o110_100001 : OOk Tryz.prog Tryz.f110 cuts110 L110 (100001, X110_100001, todoOf Tryz.f110 100001) := by
  intro vs Γ m H r h; replace h : (X110_100001 vs).run _ _ _ _ = _ := h; unfold X110_100001 at h; split at h
  · replace h := M.iPtr h; obtain ⟨_, rfl, h⟩ := h; replace h := M.iSl h; obtain ⟨_, _, _, rfl, h⟩ := h; replace h := M.iInt h; obtain ⟨_, rfl, h⟩ := h; replace h := M.iInt h; obtain ⟨_, rfl, h⟩ := h; exact Eq.trans (by kernel_rfl) h
  · exact M.iFail h
theorem h110 : XOk Tryz.prog Tryz.f110 cuts110 L110 X110 := by
  intro Γ m args H r h; unfold X110 at h; split at h
  · replace h := M.iPtr h; obtain ⟨_, rfl, h⟩ := h; replace h := M.iSl h; obtain ⟨_, _, _, rfl, h⟩ := h; exact ⟨Eq.trans (by kernel_rfl) h, Nat.le_of_ble_eq_true (by kernel_rfl)⟩
  · exact M.iFail h
theorem K110 : CodeOk Tryz.prog 110 k110 := .of Tryz.func110 (by kernel_rfl) (by kernel_rfl) h110 (fc o110_6 (fc o110_100001 fe))
-- sternpost/icmp.Answer
noncomputable def X113 : List Value → M := fun args => match args with
 | [v0] => .kAgg v0 fun x0 => 
 .new (.cells x0.toList 0 true) fun b1 =>
 .new (.cells [.int .i64 (0 : Int), .int .i64 (0 : Int), .int .i64 (0 : Int), .int .i64 (0 : Int), .string (⟨#[]⟩ : ByteArray)] 0 true) fun b2 =>
 .ldn b1 0 5 fun cs3 =>
 .call 81 [.agg cs3] fun r4 =>
 .tyI .i64 r4 fun v5 =>
 .cmpV .neq .i64 v5 (.int .i64 (0 : Int)) fun t6 =>
 .bool t6 (
 .jmp 2 [.pointer (some (⟨b2, 0, none⟩ : Addr))]) (
 .ld b1 0 fun v7 =>
 .tyI .i64 v7 fun v8 =>
 .cmpV .neq .i64 v8 (.int .i64 (8 : Int)) fun t9 =>
 .bool t9 (
 .jmp 2 [.pointer (some (⟨b2, 0, none⟩ : Addr))]) (
 .ld b1 (0 + 1) fun v10 =>
 .tyI .i64 v10 fun v11 =>
 .cmpV .gtr .i64 v11 (.int .i64 (0 : Int)) fun t12 =>
 .bool t12 (
 .jmp 2 [.pointer (some (⟨b2, 0, none⟩ : Addr))]) (
 .st 1 (⟨b1, 0, none⟩ : Addr) (.int .i64 (0 : Int)) (
 .ldn b1 0 5 fun cs14 =>
 .st 5 (⟨b2, 0, none⟩ : Addr) (.agg cs14) (
 .ldn b2 0 5 fun cs16 =>
 .ret (.tuple #[.agg cs16, .int .i64 (0 : Int)]))))))
 | _ => .fail
noncomputable def X113_2 : List Value → M := fun args => match args with
 | [v0] => .kPtr v0 fun x0 => 
 .onS x0 fun a1 =>
 .st 5 a1 (.agg #[.int .i64 (0 : Int), .int .i64 (0 : Int), .int .i64 (0 : Int), .int .i64 (0 : Int), .string (⟨#[]⟩ : ByteArray)]) (
 .onS x0 fun a3 =>
 .ldn a3.block a3.off 5 fun cs4 =>
 .ret (.tuple #[.agg cs4, .int .i64 (60 : Int)]))
 | _ => .fail
noncomputable def cuts113 : Cuts := [(2, [2])]
noncomputable def L113 : Places := [(2, X113_2, todoOf Tryz.f113 2)]
noncomputable def k113 : FCode := .of X113 L113 cuts113
theorem o113_2 : OOk Tryz.prog Tryz.f113 cuts113 L113 (2, X113_2, todoOf Tryz.f113 2) := by
  intro vs Γ m H r h; replace h : (X113_2 vs).run _ _ _ _ = _ := h; unfold X113_2 at h; split at h
  · replace h := M.iPtr h; obtain ⟨_, rfl, h⟩ := h; exact Eq.trans (by kernel_rfl) h
  · exact M.iFail h
theorem h113 : XOk Tryz.prog Tryz.f113 cuts113 L113 X113 := by
  intro Γ m args H r h; unfold X113 at h; split at h
  · replace h := M.iAgg h; obtain ⟨_, rfl, h⟩ := h; exact ⟨Eq.trans (by kernel_rfl) h, Nat.le_of_ble_eq_true (by kernel_rfl)⟩
  · exact M.iFail h
theorem K113 : CodeOk Tryz.prog 113 k113 := .of Tryz.func113 (by kernel_rfl) (by kernel_rfl) h113 (fc o113_2 fe)
-- sternpost/arp.ip
noncomputable def X114 : List Value → M := fun args => match args with
 | [x0] => 
 .cmpV .geq .i64 x0 (.int .i64 (0 : Int)) fun t1 =>
 .bool t1 (
 .cmpV .leq .i64 x0 (.int .i64 (4294967295 : Int)) fun t2 =>
 .ret (.bool t2)) (
 .ret (.bool false))
 | _ => .fail
noncomputable def cuts114 : Cuts := []
noncomputable def L114 : Places := []
noncomputable def k114 : FCode := .of X114 L114 cuts114
theorem h114 : XOk Tryz.prog Tryz.f114 cuts114 L114 X114 := by
  intro Γ m args H r h; unfold X114 at h; split at h
  · exact ⟨Eq.trans (by kernel_rfl) h, Nat.le_of_ble_eq_true (by kernel_rfl)⟩
  · exact M.iFail h
theorem K114 : CodeOk Tryz.prog 114 k114 := .of Tryz.func114 (by kernel_rfl) (by kernel_rfl) h114 fe
-- (*sternpost/neigh.Cache).ask
noncomputable def X126 : List Value → M := fun args => match args with
 | [v0, x1] => .kPtr v0 fun x0 => 
 .new (.cells [.int .i64 (0 : Int), .int .i64 (0 : Int), .int .i64 (0 : Int), .int .i64 (0 : Int), .int .i64 (0 : Int)] 0 true) fun b2 =>
 .onS x0 fun a3 =>
 .ld a3.block (a3.off + 6) fun v4 =>
 .kSl v4 fun a5 l6 c7 =>
 .cmp .gtr ((l6 : Nat) : Int) (0 : Int) fun t8 =>
 .bool t8 (
 .onS x0 fun a9 =>
 .ld a9.block (a9.off + 6) fun v10 =>
 .kSl v10 fun a11 l12 c13 =>
 .onS a11 fun a14 =>
 .inb (0 : Int) l12 (
 .ld ((a14.add ((0 : Int).toNat * 1)).block) ((a14.add ((0 : Int).toNat * 1)).off) fun v15 =>
 .tyI .i64 v15 fun v16 =>
 .jmp 4 [.pointer x0, x1, .pointer (some (⟨b2, 0, none⟩ : Addr)), v16])) (
 .jmp 4 [.pointer x0, x1, .pointer (some (⟨b2, 0, none⟩ : Addr)), .int .i64 (0 : Int)])
 | _ => .fail
noncomputable def X126_4 : List Value → M := fun args => match args with
 | [v0, x1, v2, x3] => .kPtr v0 fun x0 => .kPtr v2 fun x2 => 
 .onS x0 fun a4 =>
 .ld a4.block a4.off fun v5 =>
 .tyI .i64 v5 fun v6 =>
 .call 64 [v6, x3, x1] fun r7 =>
 .kTup r7 fun vs8 =>
 .nthA vs8 0 fun v9 =>
 .kAgg v9 fun cs10 =>
 .ite (cs10.size = 5) (
 .kTup r7 fun vs11 =>
 .nthA vs11 1 fun v12 =>
 .tyI .i64 v12 fun v13 =>
 .new (.cells [.int .i64 (0 : Int), .int .i64 (0 : Int), .int .i64 (0 : Int), .int .i64 (0 : Int), .int .i64 (0 : Int)] 0 true) fun b14 =>
 .st 5 (⟨b14, 0, none⟩ : Addr) (.agg cs10) (
 .ldn b14 0 5 fun cs16 =>
 .onS x2 fun a17 =>
 .st 5 a17 (.agg cs16) (
 .onS x2 fun a19 =>
 .ldn a19.block a19.off 5 fun cs20 =>
 .ret (.agg cs20))))
 | _ => .fail
noncomputable def cuts126 : Cuts := [(4, [0, 1, 4, 5])]
noncomputable def L126 : Places := [(4, X126_4, todoOf Tryz.f126 4)]
noncomputable def k126 : FCode := .of X126 L126 cuts126
theorem o126_4 : OOk Tryz.prog Tryz.f126 cuts126 L126 (4, X126_4, todoOf Tryz.f126 4) := by
  intro vs Γ m H r h; replace h : (X126_4 vs).run _ _ _ _ = _ := h; unfold X126_4 at h; split at h
  · replace h := M.iPtr h; obtain ⟨_, rfl, h⟩ := h; replace h := M.iPtr h; obtain ⟨_, rfl, h⟩ := h; exact Eq.trans (by kernel_rfl) h
  · exact M.iFail h
theorem h126 : XOk Tryz.prog Tryz.f126 cuts126 L126 X126 := by
  intro Γ m args H r h; unfold X126 at h; split at h
  · replace h := M.iPtr h; obtain ⟨_, rfl, h⟩ := h; exact ⟨Eq.trans (by kernel_rfl) h, Nat.le_of_ble_eq_true (by kernel_rfl)⟩
  · exact M.iFail h
theorem K126 : CodeOk Tryz.prog 126 k126 := .of Tryz.func126 (by kernel_rfl) (by kernel_rfl) h126 (fc o126_4 fe)
-- slices.IndexFunc[[]int,int]
noncomputable def X134 : List Value → M := fun args => match args with
 | [v0, x3] => .kSl v0 fun a0 l1 c2 => 
 .fxI ((l1 : Nat) : Int) fun n4 =>
 .jmp 100002 [.slice a0 l1 c2, x3, .int .i64 n4, .int .i64 (0 : Int)]
 | _ => .fail
noncomputable def X134_100002 : List Value → M := fun args => match args with
 | [v0, x3, v2, v3] => .kSl v0 fun a0 l1 c2 => .kInt .i64 v2 fun x4 => .kInt .i64 v3 fun x5 => 
 .cmp .lss x5 x4 fun t6 =>
 .bool t6 (
 .onS a0 fun a7 =>
 .inb x5 l1 (
 .ld ((a7.add (x5.toNat * 1)).block) ((a7.add (x5.toNat * 1)).off) fun v8 =>
 .tyI .i64 v8 fun v9 =>
 .callV x3 [v9] fun r10 =>
 .kBool r10 fun b11 =>
 .bool b11 (
 .ret (.int .i64 x5)) (
 .wr .i64 (x5 + (1 : Int)) fun n12 =>
 .jmp 100002 [.slice a0 l1 c2, x3, .int .i64 x4, .int .i64 n12]))) (
 .ret (.int .i64 (-1 : Int)))
 | _ => .fail
noncomputable def cuts134 : Cuts := [(100002, [0, 1, 7, 8])]
noncomputable def L134 : Places := [(100002, X134_100002, todoOf Tryz.f134 100002)]
noncomputable def k134 : FCode := .of X134 L134 cuts134
theorem o134_100002 : OOk Tryz.prog Tryz.f134 cuts134 L134 (100002, X134_100002, todoOf Tryz.f134 100002) := by
  intro vs Γ m H r h; replace h : (X134_100002 vs).run _ _ _ _ = _ := h; unfold X134_100002 at h; split at h
  · replace h := M.iSl h; obtain ⟨_, _, _, rfl, h⟩ := h; replace h := M.iInt h; obtain ⟨_, rfl, h⟩ := h; replace h := M.iInt h; obtain ⟨_, rfl, h⟩ := h; exact Eq.trans (by kernel_rfl) h
  · exact M.iFail h
theorem h134 : XOk Tryz.prog Tryz.f134 cuts134 L134 X134 := by
  intro Γ m args H r h; unfold X134 at h; split at h
  · replace h := M.iSl h; obtain ⟨_, _, _, rfl, h⟩ := h; exact ⟨Eq.trans (by kernel_rfl) h, Nat.le_of_ble_eq_true (by kernel_rfl)⟩
  · exact M.iFail h
theorem K134 : CodeOk Tryz.prog 134 k134 := .of Tryz.func134 (by kernel_rfl) (by kernel_rfl) h134 (fc o134_100002 fe)
-- slices.pdqsortOrdered[int]
noncomputable def X135 : List Value → M := fun args => match args with
 | [v0, x3, x4, x5] => .kSl v0 fun a0 l1 c2 => 
 .jmp 100002 [.slice a0 l1 c2, x3, x4, x5, .bool true, .bool true]
 | _ => .fail
noncomputable def X135_10 : List Value → M := fun args => match args with
 | [v0, x3, x4, x5, v4, v5, x8] => .kSl v0 fun a0 l1 c2 => .kBool v4 fun x6 => .kBool v5 fun x7 => 
 .call 194 [.slice a0 l1 c2, x3, x4] fun r9 =>
 .kTup r9 fun vs10 =>
 .nthA vs10 0 fun v11 =>
 .tyI .i64 v11 fun v12 =>
 .kTup r9 fun vs13 =>
 .nthA vs13 1 fun v14 =>
 .tyI .i64 v14 fun v15 =>
 .cmpV .eql .i64 v15 (.int .i64 (2 : Int)) fun t16 =>
 .bool t16 (
 .call 195 [.slice a0 l1 c2, x3, x4] fun r17 =>
 .arV .sub .i64 x4 (.int .i64 (1 : Int)) fun v18 =>
 .arV .sub .i64 v12 x3 fun v19 =>
 .arV .sub .i64 v18 v19 fun v20 =>
 .jmp 15 [.slice a0 l1 c2, x3, x4, x5, .bool x6, .bool x7, x8, v20, .int .i64 (1 : Int)]) (
 .jmp 15 [.slice a0 l1 c2, x3, x4, x5, .bool x6, .bool x7, x8, v12, v15])
 | _ => .fail
noncomputable def X135_15 : List Value → M := fun args => match args with
 | [v0, x3, x4, x5, v4, v5, x8, x9, x10] => .kSl v0 fun a0 l1 c2 => .kBool v4 fun x6 => .kBool v5 fun x7 => 
 .bool x6 (
 .bool x7 (
 .cmpV .eql .i64 x10 (.int .i64 (1 : Int)) fun t11 =>
 .bool t11 (
 .call 196 [.slice a0 l1 c2, x3, x4] fun r12 =>
 .kBool r12 fun b13 =>
 .bool b13 (
 .ret (.tuple #[])) (
 .jmp 17 [.slice a0 l1 c2, x3, x4, x5, .bool x6, .bool x7, x8, x9])) (
 .jmp 17 [.slice a0 l1 c2, x3, x4, x5, .bool x6, .bool x7, x8, x9])) (
 .jmp 17 [.slice a0 l1 c2, x3, x4, x5, .bool x6, .bool x7, x8, x9])) (
 .jmp 17 [.slice a0 l1 c2, x3, x4, x5, .bool x6, .bool x7, x8, x9])
 | _ => .fail
noncomputable def X135_17 : List Value → M := fun args => match args with
 | [v0, x3, x4, x5, v4, v5, x8, x9] => .kSl v0 fun a0 l1 c2 => .kBool v4 fun x6 => .kBool v5 fun x7 => 
 .cmpV .gtr .i64 x3 (.int .i64 (0 : Int)) fun t10 =>
 .bool t10 (
 .arV .sub .i64 x3 (.int .i64 (1 : Int)) fun v11 =>
 .kAnyInt v11 fun k12 n13 =>
 .onS a0 fun a14 =>
 .inb n13 l1 (
 .ld ((a14.add (n13.toNat * 1)).block) ((a14.add (n13.toNat * 1)).off) fun v15 =>
 .tyI .i64 v15 fun v16 =>
 .kAnyInt x9 fun k17 n18 =>
 .onS a0 fun a19 =>
 .inb n18 l1 (
 .ld ((a19.add (n18.toNat * 1)).block) ((a19.add (n18.toNat * 1)).off) fun v20 =>
 .tyI .i64 v20 fun v21 =>
 .call 197 [v16, v21] fun r22 =>
 .kBool r22 fun b23 =>
 .bool (!b23) (
 .call 198 [.slice a0 l1 c2, x3, x4, x9] fun r24 =>
 .tyI .i64 r24 fun v25 =>
 .jmp 100002 [.slice a0 l1 c2, v25, x4, x5, .bool x6, .bool x7]) (
 .jmp 20 [.slice a0 l1 c2, x3, x4, x5, x8, x9])))) (
 .jmp 20 [.slice a0 l1 c2, x3, x4, x5, x8, x9])
 | _ => .fail
noncomputable def X135_20 : List Value → M := fun args => match args with
 | [v0, x3, x4, x5, x6, x7] => .kSl v0 fun a0 l1 c2 => 
 .call 199 [.slice a0 l1 c2, x3, x4, x7] fun r8 =>
 .kTup r8 fun vs9 =>
 .nthA vs9 0 fun v10 =>
 .tyI .i64 v10 fun v11 =>
 .kTup r8 fun vs12 =>
 .nthA vs12 1 fun v13 =>
 .kBool v13 fun b14 =>
 .arV .sub .i64 v11 x3 fun v15 =>
 .arV .sub .i64 x4 v11 fun v16 =>
 .arV .quo .i64 x6 (.int .i64 (8 : Int)) fun v17 =>
 .cmpV .lss .i64 v15 v16 fun t18 =>
 .bool t18 (
 .cmpV .geq .i64 v15 v17 fun t19 =>
 .call 135 [.slice a0 l1 c2, x3, v11, x5] fun r20 =>
 .arV .add .i64 v11 (.int .i64 (1 : Int)) fun v21 =>
 .jmp 100002 [.slice a0 l1 c2, v21, x4, x5, .bool t19, .bool b14]) (
 .cmpV .geq .i64 v16 v17 fun t22 =>
 .arV .add .i64 v11 (.int .i64 (1 : Int)) fun v23 =>
 .call 135 [.slice a0 l1 c2, v23, x4, x5] fun r24 =>
 .jmp 100002 [.slice a0 l1 c2, x3, v11, x5, .bool t22, .bool b14])
 | _ => .fail
noncomputable def X135_100002 : List Value → M := fun args => match args with
 | [v0, x3, x4, x5, v4, v5] => .kSl v0 fun a0 l1 c2 => .kBool v4 fun x6 => .kBool v5 fun x7 => 
 .arV .sub .i64 x4 x3 fun v8 =>
 .cmpV .leq .i64 v8 (.int .i64 (12 : Int)) fun t9 =>
 .bool t9 (
 .call 191 [.slice a0 l1 c2, x3, x4] fun r10 =>
 .ret (.tuple #[])) (
 .cmpV .eql .i64 x5 (.int .i64 (0 : Int)) fun t11 =>
 .bool t11 (
 .call 192 [.slice a0 l1 c2, x3, x4] fun r12 =>
 .ret (.tuple #[])) (
 .bool (!x6) (
 .call 193 [.slice a0 l1 c2, x3, x4] fun r13 =>
 .arV .sub .i64 x5 (.int .i64 (1 : Int)) fun v14 =>
 .jmp 10 [.slice a0 l1 c2, x3, x4, v14, .bool x6, .bool x7, v8]) (
 .jmp 10 [.slice a0 l1 c2, x3, x4, x5, .bool x6, .bool x7, v8])))
 | _ => .fail
noncomputable def cuts135 : Cuts := [(100002, [0, 1, 2, 3, 8, 9]), (15, [0, 1, 2, 3, 8, 9, 10, 11, 12]), (17, [0, 1, 2, 3, 8, 9, 10, 11]), (20, [0, 1, 2, 3, 10, 11]), (10, [0, 1, 2, 3, 8, 9, 10])]
noncomputable def L135 : Places := [(10, X135_10, todoOf Tryz.f135 10), (15, X135_15, todoOf Tryz.f135 15), (17, X135_17, todoOf Tryz.f135 17), (20, X135_20, todoOf Tryz.f135 20), (100002, X135_100002, todoOf Tryz.f135 100002)]
noncomputable def k135 : FCode := .of X135 L135 cuts135
theorem o135_10 : OOk Tryz.prog Tryz.f135 cuts135 L135 (10, X135_10, todoOf Tryz.f135 10) := by
  intro vs Γ m H r h; replace h : (X135_10 vs).run _ _ _ _ = _ := h; unfold X135_10 at h; split at h
  · replace h := M.iSl h; obtain ⟨_, _, _, rfl, h⟩ := h; replace h := M.iBool h; obtain ⟨_, rfl, h⟩ := h; replace h := M.iBool h; obtain ⟨_, rfl, h⟩ := h; exact Eq.trans (by kernel_rfl) h
  · exact M.iFail h
theorem o135_15 : OOk Tryz.prog Tryz.f135 cuts135 L135 (15, X135_15, todoOf Tryz.f135 15) := by
  intro vs Γ m H r h; replace h : (X135_15 vs).run _ _ _ _ = _ := h; unfold X135_15 at h; split at h
  · replace h := M.iSl h; obtain ⟨_, _, _, rfl, h⟩ := h; replace h := M.iBool h; obtain ⟨_, rfl, h⟩ := h; replace h := M.iBool h; obtain ⟨_, rfl, h⟩ := h; exact Eq.trans (by kernel_rfl) h
  · exact M.iFail h
theorem o135_17 : OOk Tryz.prog Tryz.f135 cuts135 L135 (17, X135_17, todoOf Tryz.f135 17) := by
  intro vs Γ m H r h; replace h : (X135_17 vs).run _ _ _ _ = _ := h; unfold X135_17 at h; split at h
  · replace h := M.iSl h; obtain ⟨_, _, _, rfl, h⟩ := h; replace h := M.iBool h; obtain ⟨_, rfl, h⟩ := h; replace h := M.iBool h; obtain ⟨_, rfl, h⟩ := h; exact Eq.trans (by kernel_rfl) h
  · exact M.iFail h
theorem o135_20 : OOk Tryz.prog Tryz.f135 cuts135 L135 (20, X135_20, todoOf Tryz.f135 20) := by
  intro vs Γ m H r h; replace h : (X135_20 vs).run _ _ _ _ = _ := h; unfold X135_20 at h; split at h
  · replace h := M.iSl h; obtain ⟨_, _, _, rfl, h⟩ := h; exact Eq.trans (by kernel_rfl) h
  · exact M.iFail h
theorem o135_100002 : OOk Tryz.prog Tryz.f135 cuts135 L135 (100002, X135_100002, todoOf Tryz.f135 100002) := by
  intro vs Γ m H r h; replace h : (X135_100002 vs).run _ _ _ _ = _ := h; unfold X135_100002 at h; split at h
  · replace h := M.iSl h; obtain ⟨_, _, _, rfl, h⟩ := h; replace h := M.iBool h; obtain ⟨_, rfl, h⟩ := h; replace h := M.iBool h; obtain ⟨_, rfl, h⟩ := h; exact Eq.trans (by kernel_rfl) h
  · exact M.iFail h
theorem h135 : XOk Tryz.prog Tryz.f135 cuts135 L135 X135 := by
  intro Γ m args H r h; unfold X135 at h; split at h
  · replace h := M.iSl h; obtain ⟨_, _, _, rfl, h⟩ := h; exact ⟨Eq.trans (by kernel_rfl) h, Nat.le_of_ble_eq_true (by kernel_rfl)⟩
  · exact M.iFail h
theorem K135 : CodeOk Tryz.prog 135 k135 := .of Tryz.func135 (by kernel_rfl) (by kernel_rfl) h135 (fc o135_10 (fc o135_15 (fc o135_17 (fc o135_20 (fc o135_100002 fe)))))
-- math/bits.Len
noncomputable def X136 : List Value → M := fun args => match args with
 | [x0] => 
 .call 201 [x0] fun r1 =>
 .tyI .i64 r1 fun v2 =>
 .ret (v2)
 | _ => .fail
noncomputable def cuts136 : Cuts := []
noncomputable def L136 : Places := []
noncomputable def k136 : FCode := .of X136 L136 cuts136
theorem h136 : XOk Tryz.prog Tryz.f136 cuts136 L136 X136 := by
  intro Γ m args H r h; unfold X136 at h; split at h
  · exact ⟨Eq.trans (by kernel_rfl) h, Nat.le_of_ble_eq_true (by kernel_rfl)⟩
  · exact M.iFail h
theorem K136 : CodeOk Tryz.prog 136 k136 := .of Tryz.func136 (by kernel_rfl) (by kernel_rfl) h136 fe
-- sternpost/conn.Check
noncomputable def X137 : List Value → M := fun args => match args with
 | [v0] => .kAgg v0 fun x0 => 
 .new (.cells x0.toList 0 true) fun b1 =>
 .ld b1 0 fun v2 =>
 .tyI .i64 v2 fun v3 =>
 .ld b1 (0 + 1) fun v4 =>
 .tyI .i64 v4 fun v5 =>
 .ld b1 (0 + 7) fun v6 =>
 .tyI .i64 v6 fun v7 =>
 .tyI .i64 v3 fun v8 =>
 .mmV false .i64 v8 v5 fun v9 =>
 .mmV false .i64 v9 v7 fun v10 =>
 .cmpV .lss .i64 v10 (.int .i64 (1 : Int)) fun t11 =>
 .bool t11 (
 .jmp 2 []) (
 .ld b1 (0 + 2) fun v12 =>
 .tyI .i64 v12 fun v13 =>
 .ld b1 (0 + 6) fun v14 =>
 .tyI .i64 v14 fun v15 =>
 .tyI .i64 v13 fun v16 =>
 .mmV false .i64 v16 v15 fun v17 =>
 .cmpV .lss .i64 v17 (.int .i64 (0 : Int)) fun t18 =>
 .bool t18 (
 .jmp 2 []) (
 .ld b1 0 fun v19 =>
 .tyI .i64 v19 fun v20 =>
 .cmpV .gtr .i64 v20 (.int .i64 (1460 : Int)) fun t21 =>
 .bool t21 (
 .jmp 2 []) (
 .ld b1 (0 + 1) fun v22 =>
 .tyI .i64 v22 fun v23 =>
 .cmpV .gtr .i64 v23 (.int .i64 (65535 : Int)) fun t24 =>
 .bool t24 (
 .jmp 2 []) (
 .ld b1 (0 + 2) fun v25 =>
 .tyI .i64 v25 fun v26 =>
 .ld b1 (0 + 7) fun v27 =>
 .tyI .i64 v27 fun v28 =>
 .tyI .i64 v26 fun v29 =>
 .mmV true .i64 v29 v28 fun v30 =>
 .cmpV .gtr .i64 v30 (.int .i64 (1048576 : Int)) fun t31 =>
 .bool t31 (
 .jmp 2 []) (
 .ld b1 (0 + 6) fun v32 =>
 .tyI .i64 v32 fun v33 =>
 .cmpV .gtr .i64 v33 (.int .i64 (32 : Int)) fun t34 =>
 .bool t34 (
 .jmp 2 []) (
 .ld b1 (0 + 3) fun v35 =>
 .tyI .i64 v35 fun v36 =>
 .ld b1 (0 + 4) fun v37 =>
 .tyI .i64 v37 fun v38 =>
 .ld b1 (0 + 5) fun v39 =>
 .tyI .i64 v39 fun v40 =>
 .call 202 [v36, v38, v40] fun r41 =>
 .kTup r41 fun vs42 =>
 .nthA vs42 0 fun v43 =>
 .kPtr v43 fun p44 =>
 .kTup r41 fun vs45 =>
 .nthA vs45 1 fun v46 =>
 .tyI .i64 v46 fun v47 =>
 .ret (v47)))))))
 | _ => .fail
noncomputable def X137_2 : List Value → M := fun args => match args with
 | [] => 
 .ret (.int .i64 (1 : Int))
 | _ => .fail
noncomputable def cuts137 : Cuts := [(2, [])]
noncomputable def L137 : Places := [(2, X137_2, todoOf Tryz.f137 2)]
noncomputable def k137 : FCode := .of X137 L137 cuts137
theorem o137_2 : OOk Tryz.prog Tryz.f137 cuts137 L137 (2, X137_2, todoOf Tryz.f137 2) := by
  intro vs Γ m H r h; replace h : (X137_2 vs).run _ _ _ _ = _ := h; unfold X137_2 at h; split at h
  · exact Eq.trans (by kernel_rfl) h
  · exact M.iFail h
theorem h137 : XOk Tryz.prog Tryz.f137 cuts137 L137 X137 := by
  intro Γ m args H r h; unfold X137 at h; split at h
  · replace h := M.iAgg h; obtain ⟨_, rfl, h⟩ := h; exact ⟨Eq.trans (by kernel_rfl) h, Nat.le_of_ble_eq_true (by kernel_rfl)⟩
  · exact M.iFail h
theorem K137 : CodeOk Tryz.prog 137 k137 := .of Tryz.func137 (by kernel_rfl) (by kernel_rfl) h137 (fc o137_2 fe)
-- (*sternpost/host.Host).tag
noncomputable def X139 : List Value → M := fun args => match args with
 | [v0] => .kPtr v0 fun x0 => 
 .onS x0 fun a1 =>
 .ld a1.block ((a1.off + 27) + 1) fun v2 =>
 .tyI .i64 v2 fun v3 =>
 .arV .add .i64 v3 (.int .i64 (1 : Int)) fun v4 =>
 .onS x0 fun a5 =>
 .cellsOk v4 (
 .st 1 (⟨a5.block, (a5.off + 27) + 1, none⟩ : Addr) v4 (
 .onS x0 fun a7 =>
 .ld a7.block ((a7.off + 27) + 1) fun v8 =>
 .tyI .i64 v8 fun v9 =>
 .ret (v9)))
 | _ => .fail
noncomputable def cuts139 : Cuts := []
noncomputable def L139 : Places := []
noncomputable def k139 : FCode := .of X139 L139 cuts139
theorem h139 : XOk Tryz.prog Tryz.f139 cuts139 L139 X139 := by
  intro Γ m args H r h; unfold X139 at h; split at h
  · replace h := M.iPtr h; obtain ⟨_, rfl, h⟩ := h; exact ⟨Eq.trans (by kernel_rfl) h, Nat.le_of_ble_eq_true (by kernel_rfl)⟩
  · exact M.iFail h
theorem K139 : CodeOk Tryz.prog 139 k139 := .of Tryz.func139 (by kernel_rfl) (by kernel_rfl) h139 fe
-- (*sternpost/neigh.Cache).waiting
noncomputable def X141 : List Value → M := fun args => match args with
 | [v0] => .kPtr v0 fun x0 => 
 .onS x0 fun a1 =>
 .ld a1.block (a1.off + 8) fun v2 =>
 .kMp v2 fun r3 =>
 .rng r3 fun v4 =>
 .jmp 100003 [.int .i64 (0 : Int), v4]
 | _ => .fail
noncomputable def X141_100003 : List Value → M := fun args => match args with
 | [v0, x1] => .kInt .i64 v0 fun x0 => 
 .kPtr x1 fun p2 =>
 .onS p2 fun a3 =>
 .nxt a3 fun v4 =>
 .kTup v4 fun vs5 =>
 .nthA vs5 0 fun v6 =>
 .kBool v6 fun b7 =>
 .bool b7 (
 .kPtr x1 fun p8 =>
 .onS p8 fun a9 =>
 .entr a9 fun v10 =>
 .kTup v10 fun vs11 =>
 .nthA vs11 1 fun v12 =>
 .kPtr v12 fun p13 =>
 .onS p13 fun a14 =>
 .ld a14.block (a14.off + 2) fun v15 =>
 .kSl v15 fun a16 l17 c18 =>
 .wr .i64 (x0 + ((l17 : Nat) : Int)) fun n19 =>
 .jmp 100003 [.int .i64 n19, x1]) (
 .ret (.int .i64 x0))
 | _ => .fail
noncomputable def cuts141 : Cuts := [(100003, [3, 10])]
noncomputable def L141 : Places := [(100003, X141_100003, todoOf Tryz.f141 100003)]
noncomputable def k141 : FCode := .of X141 L141 cuts141
theorem o141_100003 : OOk Tryz.prog Tryz.f141 cuts141 L141 (100003, X141_100003, todoOf Tryz.f141 100003) := by
  intro vs Γ m H r h; replace h : (X141_100003 vs).run _ _ _ _ = _ := h; unfold X141_100003 at h; split at h
  · replace h := M.iInt h; obtain ⟨_, rfl, h⟩ := h; exact Eq.trans (by kernel_rfl) h
  · exact M.iFail h
theorem h141 : XOk Tryz.prog Tryz.f141 cuts141 L141 X141 := by
  intro Γ m args H r h; unfold X141 at h; split at h
  · replace h := M.iPtr h; obtain ⟨_, rfl, h⟩ := h; exact ⟨Eq.trans (by kernel_rfl) h, Nat.le_of_ble_eq_true (by kernel_rfl)⟩
  · exact M.iFail h
theorem K141 : CodeOk Tryz.prog 141 k141 := .of Tryz.func141 (by kernel_rfl) (by kernel_rfl) h141 (fc o141_100003 fe)
-- (*sternpost/neigh.Cache).fresh
noncomputable def X142 : List Value → M := fun args => match args with
 | [v0, v1, x2] => .kPtr v0 fun x0 => .kAgg v1 fun x1 => 
 .new (.cells x1.toList 0 true) fun b3 =>
 .ld b3 (0 + 1) fun v4 =>
 .tyI .i64 v4 fun v5 =>
 .onS x0 fun a6 =>
 .ld a6.block (a6.off + 1) fun v7 =>
 .tyI .i64 v7 fun v8 =>
 .arV .add .i64 v5 v8 fun v9 =>
 .cmpV .lss .i64 x2 v9 fun t10 =>
 .ret (.bool t10)
 | _ => .fail
noncomputable def cuts142 : Cuts := []
noncomputable def L142 : Places := []
noncomputable def k142 : FCode := .of X142 L142 cuts142
theorem h142 : XOk Tryz.prog Tryz.f142 cuts142 L142 X142 := by
  intro Γ m args H r h; unfold X142 at h; split at h
  · replace h := M.iPtr h; obtain ⟨_, rfl, h⟩ := h; replace h := M.iAgg h; obtain ⟨_, rfl, h⟩ := h; exact ⟨Eq.trans (by kernel_rfl) h, Nat.le_of_ble_eq_true (by kernel_rfl)⟩
  · exact M.iFail h
theorem K142 : CodeOk Tryz.prog 142 k142 := .of Tryz.func142 (by kernel_rfl) (by kernel_rfl) h142 fe
-- maps.Keys[map[int]sternpost/neigh.known,int,sternpost/neigh.known]
noncomputable def X143 : List Value → M := fun args => match args with
 | [v0] => .kMp v0 fun x0 => 
 .new (.cells [.map x0] 177209344 true) fun b1 =>
 .ret (.func (.func 203) #[] #[.pointer (some (⟨b1, 0, none⟩ : Addr))])
 | _ => .fail
noncomputable def cuts143 : Cuts := []
noncomputable def L143 : Places := []
noncomputable def k143 : FCode := .of X143 L143 cuts143
theorem h143 : XOk Tryz.prog Tryz.f143 cuts143 L143 X143 := by
  intro Γ m args H r h; unfold X143 at h; split at h
  · replace h := M.iMp h; obtain ⟨_, rfl, h⟩ := h; exact ⟨Eq.trans (by kernel_rfl) h, Nat.le_of_ble_eq_true (by kernel_rfl)⟩
  · exact M.iFail h
theorem K143 : CodeOk Tryz.prog 143 k143 := .of Tryz.func143 (by kernel_rfl) (by kernel_rfl) h143 fe
-- sternpost/ip.num
noncomputable def X144 : List Value → M := fun args => match args with
 | [x0, x1] => 
 .call 66 [x0, x1] fun r2 =>
 .kTup r2 fun vs3 =>
 .nthA vs3 0 fun v4 =>
 .kStr v4 fun s5 =>
 .kTup r2 fun vs6 =>
 .nthA vs6 1 fun v7 =>
 .tyI .i64 v7 fun v8 =>
 .ret (.string s5)
 | _ => .fail
noncomputable def cuts144 : Cuts := []
noncomputable def L144 : Places := []
noncomputable def k144 : FCode := .of X144 L144 cuts144
theorem h144 : XOk Tryz.prog Tryz.f144 cuts144 L144 X144 := by
  intro Γ m args H r h; unfold X144 at h; split at h
  · exact ⟨Eq.trans (by kernel_rfl) h, Nat.le_of_ble_eq_true (by kernel_rfl)⟩
  · exact M.iFail h
theorem K144 : CodeOk Tryz.prog 144 k144 := .of Tryz.func144 (by kernel_rfl) (by kernel_rfl) h144 fe
-- sternpost/sum.carry
noncomputable def X145 : List Value → M := fun args => match args with
 | [x0] => 
 .jmp 100001 [x0]
 | _ => .fail
noncomputable def X145_100001 : List Value → M := fun args => match args with
 | [x0] => 
 .cmpV .gtr .i64 x0 (.int .i64 (65535 : Int)) fun t1 =>
 .bool t1 (
 .shV .shr x0 (.int .u64 (16 : Int)) fun v2 =>
 .arV .and .i64 x0 (.int .i64 (65535 : Int)) fun v3 =>
 .arV .add .i64 v2 v3 fun v4 =>
 .jmp 100001 [v4]) (
 .ret (x0))
 | _ => .fail
noncomputable def cuts145 : Cuts := [(100001, [0])]
noncomputable def L145 : Places := [(100001, X145_100001, todoOf Tryz.f145 100001)]
noncomputable def k145 : FCode := .of X145 L145 cuts145
theorem o145_100001 : OOk Tryz.prog Tryz.f145 cuts145 L145 (100001, X145_100001, todoOf Tryz.f145 100001) := by
  intro vs Γ m H r h; replace h : (X145_100001 vs).run _ _ _ _ = _ := h; unfold X145_100001 at h; split at h
  · exact Eq.trans (by kernel_rfl) h
  · exact M.iFail h
theorem h145 : XOk Tryz.prog Tryz.f145 cuts145 L145 X145 := by
  intro Γ m args H r h; unfold X145 at h; split at h
  · exact ⟨Eq.trans (by kernel_rfl) h, Nat.le_of_ble_eq_true (by kernel_rfl)⟩
  · exact M.iFail h
theorem K145 : CodeOk Tryz.prog 145 k145 := .of Tryz.func145 (by kernel_rfl) (by kernel_rfl) h145 (fc o145_100001 fe)
-- (*sternpost/sock.Box).look
noncomputable def X166 : List Value → M := fun args => match args with
 | [v0] => .kPtr v0 fun x0 => 
 .jmp 100002 [.pointer x0, .slice none 0 0, .int .i64 (0 : Int)]
 | _ => .fail
noncomputable def X166_3 : List Value → M := fun args => match args with
 | [v0, v1, v2] => .kPtr v0 fun x0 => .kSl v1 fun a1 l2 c3 => .kInt .i64 v2 fun x4 => 
 .wr .i64 (x4 + (1 : Int)) fun n5 =>
 .jmp 100002 [.pointer x0, .slice a1 l2 c3, .int .i64 n5]
 | _ => .fail
noncomputable def X166_100002 : List Value → M := fun args => match args with
 | [v0, v1, v2] => .kPtr v0 fun x0 => .kSl v1 fun a1 l2 c3 => .kInt .i64 v2 fun x4 => 
 .onS x0 fun a5 =>
 .ld a5.block (a5.off + 2) fun v6 =>
 .kSl v6 fun a7 l8 c9 =>
 .cmp .lss x4 ((l8 : Nat) : Int) fun t10 =>
 .bool t10 (
 .onS x0 fun a11 =>
 .ld a11.block (a11.off + 2) fun v12 =>
 .kSl v12 fun a13 l14 c15 =>
 .onS a13 fun a16 =>
 .inb x4 l14 (
 .ld ((a16.add (x4.toNat * 1)).block) ((a16.add (x4.toNat * 1)).off) fun v17 =>
 .kPtr v17 fun p18 =>
 .call 218 [.pointer x0, .pointer p18] fun r19 =>
 .kPtr r19 fun p20 =>
 .bool p20.isNone (
 .jmp 3 [.pointer x0, .slice a1 l2 c3, .int .i64 x4]) (
 .onS p20 fun a21 =>
 .ldn a21.block a21.off 5 fun cs22 =>
 .cellsOks [.agg cs22] (.onS (Instr.fill (fun i => some (i * 5, 5)) ([.int .i64 (0 : Int), .int .i64 (0 : Int), .int .i64 (0 : Int), .int .i64 (0 : Int), .string (⟨#[]⟩ : ByteArray)] : List Value).toArray (([0] : List Nat).zip [.agg cs22])) fun cells23q =>
 .fxV (.agg cells23q) fun cells23v =>
 .kAgg cells23v fun cells23 =>
 .new (.cells cells23.toList 5 true) fun b24 =>
 .firstC 5 (.slice (some ⟨b24, 0, none⟩) 1 1) fun n25 nw26 =>
 .app 166 (.slice a1 l2 c3) n25 nw26 fun v27 =>
 .kSl v27 fun a29 l30 c31 =>
 .onS x0 fun a32 =>
 .ld a32.block (a32.off + 2) fun v33 =>
 .kSl v33 fun a34 l35 c36 =>
 .wr .i64 (x4 + (1 : Int)) fun n37 =>
 .call 219 [.slice a34 l35 c36, .int .i64 x4, .int .i64 n37] fun r38 =>
 .kSl r38 fun a39 l40 c41 =>
 .onS x0 fun a42 =>
 .st 1 (⟨a42.block, a42.off + 2, none⟩ : Addr) (.slice a39 l40 c41) (
 .jmp 3 [.pointer x0, .slice a29 l30 c31, .int .i64 (-1 : Int)]))))) (
 .ret (.slice a1 l2 c3))
 | _ => .fail
noncomputable def cuts166 : Cuts := [(100002, [0, 2, 3]), (3, [0, 2, 3])]
noncomputable def L166 : Places := [(3, X166_3, todoOf Tryz.f166 3), (100002, X166_100002, todoOf Tryz.f166 100002)]
noncomputable def k166 : FCode := .of X166 L166 cuts166
theorem o166_3 : OOk Tryz.prog Tryz.f166 cuts166 L166 (3, X166_3, todoOf Tryz.f166 3) := by
  intro vs Γ m H r h; replace h : (X166_3 vs).run _ _ _ _ = _ := h; unfold X166_3 at h; split at h
  · replace h := M.iPtr h; obtain ⟨_, rfl, h⟩ := h; replace h := M.iSl h; obtain ⟨_, _, _, rfl, h⟩ := h; replace h := M.iInt h; obtain ⟨_, rfl, h⟩ := h; exact Eq.trans (by kernel_rfl) h
  · exact M.iFail h
theorem o166_100002 : OOk Tryz.prog Tryz.f166 cuts166 L166 (100002, X166_100002, todoOf Tryz.f166 100002) := by
  intro vs Γ m H r h; replace h : (X166_100002 vs).run _ _ _ _ = _ := h; unfold X166_100002 at h; split at h
  · replace h := M.iPtr h; obtain ⟨_, rfl, h⟩ := h; replace h := M.iSl h; obtain ⟨_, _, _, rfl, h⟩ := h; replace h := M.iInt h; obtain ⟨_, rfl, h⟩ := h; exact Eq.trans (by kernel_rfl) h
  · exact M.iFail h
theorem h166 : XOk Tryz.prog Tryz.f166 cuts166 L166 X166 := by
  intro Γ m args H r h; unfold X166 at h; split at h
  · replace h := M.iPtr h; obtain ⟨_, rfl, h⟩ := h; exact ⟨Eq.trans (by kernel_rfl) h, Nat.le_of_ble_eq_true (by kernel_rfl)⟩
  · exact M.iFail h
theorem K166 : CodeOk Tryz.prog 166 k166 := .of Tryz.func166 (by kernel_rfl) (by kernel_rfl) h166 (fc o166_3 (fc o166_100002 fe))
-- (*sternpost/table.Table).Numbers
noncomputable def X189 : List Value → M := fun args => match args with
 | [v0] => .kPtr v0 fun x0 => 
 .onS x0 fun a1 =>
 .ld a1.block (a1.off + 15) fun v2 =>
 .kMp v2 fun r3 =>
 .call 239 [.map r3] fun r4 =>
 .call 124 [r4] fun r5 =>
 .kSl r5 fun a6 l7 c8 =>
 .ret (.slice a6 l7 c8)
 | _ => .fail
noncomputable def cuts189 : Cuts := []
noncomputable def L189 : Places := []
noncomputable def k189 : FCode := .of X189 L189 cuts189
theorem h189 : XOk Tryz.prog Tryz.f189 cuts189 L189 X189 := by
  intro Γ m args H r h; unfold X189 at h; split at h
  · replace h := M.iPtr h; obtain ⟨_, rfl, h⟩ := h; exact ⟨Eq.trans (by kernel_rfl) h, Nat.le_of_ble_eq_true (by kernel_rfl)⟩
  · exact M.iFail h
theorem K189 : CodeOk Tryz.prog 189 k189 := .of Tryz.func189 (by kernel_rfl) (by kernel_rfl) h189 fe
-- slices.insertionSortOrdered[int]
noncomputable def X191 : List Value → M := fun args => match args with
 | [v0, x3, x4] => .kSl v0 fun a0 l1 c2 => 
 .arV .add .i64 x3 (.int .i64 (1 : Int)) fun v5 =>
 .jmp 100001 [.slice a0 l1 c2, x3, x4, v5]
 | _ => .fail
noncomputable def X191_2 : List Value → M := fun args => match args with
 | [v0, x3, x4, x5] => .kSl v0 fun a0 l1 c2 => 
 .arV .add .i64 x5 (.int .i64 (1 : Int)) fun v6 =>
 .jmp 100001 [.slice a0 l1 c2, x3, x4, v6]
 | _ => .fail
noncomputable def X191_100001 : List Value → M := fun args => match args with
 | [v0, x3, x4, x5] => .kSl v0 fun a0 l1 c2 => 
 .cmpV .lss .i64 x5 x4 fun t6 =>
 .bool t6 (
 .jmp 100004 [.slice a0 l1 c2, x3, x4, x5, x5]) (
 .ret (.tuple #[]))
 | _ => .fail
noncomputable def X191_100004 : List Value → M := fun args => match args with
 | [v0, x3, x4, x5, x6] => .kSl v0 fun a0 l1 c2 => 
 .cmpV .gtr .i64 x6 x3 fun t7 =>
 .bool t7 (
 .kAnyInt x6 fun k8 n9 =>
 .onS a0 fun a10 =>
 .inb n9 l1 (
 .ld ((a10.add (n9.toNat * 1)).block) ((a10.add (n9.toNat * 1)).off) fun v11 =>
 .tyI .i64 v11 fun v12 =>
 .arV .sub .i64 x6 (.int .i64 (1 : Int)) fun v13 =>
 .kAnyInt v13 fun k14 n15 =>
 .onS a0 fun a16 =>
 .inb n15 l1 (
 .ld ((a16.add (n15.toNat * 1)).block) ((a16.add (n15.toNat * 1)).off) fun v17 =>
 .tyI .i64 v17 fun v18 =>
 .call 197 [v12, v18] fun r19 =>
 .kBool r19 fun b20 =>
 .bool b20 (
 .arV .sub .i64 x6 (.int .i64 (1 : Int)) fun v21 =>
 .arV .sub .i64 x6 (.int .i64 (1 : Int)) fun v22 =>
 .kAnyInt v22 fun k23 n24 =>
 .onS a0 fun a25 =>
 .inb n24 l1 (
 .ld ((a25.add (n24.toNat * 1)).block) ((a25.add (n24.toNat * 1)).off) fun v26 =>
 .tyI .i64 v26 fun v27 =>
 .kAnyInt x6 fun k28 n29 =>
 .onS a0 fun a30 =>
 .inb n29 l1 (
 .ld ((a30.add (n29.toNat * 1)).block) ((a30.add (n29.toNat * 1)).off) fun v31 =>
 .tyI .i64 v31 fun v32 =>
 .kAnyInt x6 fun k33 n34 =>
 .onS a0 fun a35 =>
 .inb n34 l1 (
 .cellsOk v27 (
 .st 1 (a35.add (n34.toNat * 1)) v27 (
 .kAnyInt v21 fun k37 n38 =>
 .onS a0 fun a39 =>
 .inb n38 l1 (
 .cellsOk v32 (
 .st 1 (a39.add (n38.toNat * 1)) v32 (
 .arV .sub .i64 x6 (.int .i64 (1 : Int)) fun v41 =>
 .jmp 100004 [.slice a0 l1 c2, x3, x4, x5, v41]))))))))) (
 .jmp 2 [.slice a0 l1 c2, x3, x4, x5])))) (
 .jmp 2 [.slice a0 l1 c2, x3, x4, x5])
 | _ => .fail
noncomputable def cuts191 : Cuts := [(100001, [0, 1, 2, 6]), (100004, [0, 1, 2, 6, 7]), (2, [0, 1, 2, 6])]
noncomputable def L191 : Places := [(2, X191_2, todoOf Tryz.f191 2), (100001, X191_100001, todoOf Tryz.f191 100001), (100004, X191_100004, todoOf Tryz.f191 100004)]
noncomputable def k191 : FCode := .of X191 L191 cuts191
theorem o191_2 : OOk Tryz.prog Tryz.f191 cuts191 L191 (2, X191_2, todoOf Tryz.f191 2) := by
  intro vs Γ m H r h; replace h : (X191_2 vs).run _ _ _ _ = _ := h; unfold X191_2 at h; split at h
  · replace h := M.iSl h; obtain ⟨_, _, _, rfl, h⟩ := h; exact Eq.trans (by kernel_rfl) h
  · exact M.iFail h
theorem o191_100001 : OOk Tryz.prog Tryz.f191 cuts191 L191 (100001, X191_100001, todoOf Tryz.f191 100001) := by
  intro vs Γ m H r h; replace h : (X191_100001 vs).run _ _ _ _ = _ := h; unfold X191_100001 at h; split at h
  · replace h := M.iSl h; obtain ⟨_, _, _, rfl, h⟩ := h; exact Eq.trans (by kernel_rfl) h
  · exact M.iFail h
theorem o191_100004 : OOk Tryz.prog Tryz.f191 cuts191 L191 (100004, X191_100004, todoOf Tryz.f191 100004) := by
  intro vs Γ m H r h; replace h : (X191_100004 vs).run _ _ _ _ = _ := h; unfold X191_100004 at h; split at h
  · replace h := M.iSl h; obtain ⟨_, _, _, rfl, h⟩ := h; exact Eq.trans (by kernel_rfl) h
  · exact M.iFail h
theorem h191 : XOk Tryz.prog Tryz.f191 cuts191 L191 X191 := by
  intro Γ m args H r h; unfold X191 at h; split at h
  · replace h := M.iSl h; obtain ⟨_, _, _, rfl, h⟩ := h; exact ⟨Eq.trans (by kernel_rfl) h, Nat.le_of_ble_eq_true (by kernel_rfl)⟩
  · exact M.iFail h
theorem K191 : CodeOk Tryz.prog 191 k191 := .of Tryz.func191 (by kernel_rfl) (by kernel_rfl) h191 (fc o191_2 (fc o191_100001 (fc o191_100004 fe)))
-- math/bits.Len64
noncomputable def X201 : List Value → M := fun args => match args with
 | [x0] => 
 .cmpV .geq .u64 x0 (.int .u64 (4294967296 : Int)) fun t1 =>
 .bool t1 (
 .shV .shr x0 (.int .u64 (32 : Int)) fun v2 =>
 .jmp 4 [v2, .int .i64 (32 : Int)]) (
 .jmp 4 [x0, .int .i64 (0 : Int)])
 | _ => .fail
noncomputable def X201_4 : List Value → M := fun args => match args with
 | [x0, v1] => .kInt .i64 v1 fun x1 => 
 .cmpV .geq .u64 x0 (.int .u64 (65536 : Int)) fun t2 =>
 .bool t2 (
 .shV .shr x0 (.int .u64 (16 : Int)) fun v3 =>
 .wr .i64 (x1 + (16 : Int)) fun n4 =>
 .jmp 7 [v3, .int .i64 n4]) (
 .jmp 7 [x0, .int .i64 x1])
 | _ => .fail
noncomputable def X201_7 : List Value → M := fun args => match args with
 | [x0, v1] => .kInt .i64 v1 fun x1 => 
 .cmpV .geq .u64 x0 (.int .u64 (256 : Int)) fun t2 =>
 .bool t2 (
 .shV .shr x0 (.int .u64 (8 : Int)) fun v3 =>
 .wr .i64 (x1 + (8 : Int)) fun n4 =>
 .jmp 10 [v3, .int .i64 n4]) (
 .jmp 10 [x0, .int .i64 x1])
 | _ => .fail
noncomputable def X201_10 : List Value → M := fun args => match args with
 | [x0, v1] => .kInt .i64 v1 fun x1 => 
 .cvtV .u64 .u8 x0 fun v2 =>
 .kAnyInt v2 fun k3 n4 =>
 .inb n4 (⟨#[0, 1, 2, 2, 3, 3, 3, 3, 4, 4, 4, 4, 4, 4, 4, 4, 5, 5, 5, 5, 5, 5, 5, 5, 5, 5, 5, 5, 5, 5, 5, 5, 6, 6, 6, 6, 6, 6, 6, 6, 6, 6, 6, 6, 6, 6, 6, 6, 6, 6, 6, 6, 6, 6, 6, 6, 6, 6, 6, 6, 6, 6, 6, 6, 7, 7, 7, 7, 7, 7, 7, 7, 7, 7, 7, 7, 7, 7, 7, 7, 7, 7, 7, 7, 7, 7, 7, 7, 7, 7, 7, 7, 7, 7, 7, 7, 7, 7, 7, 7, 7, 7, 7, 7, 7, 7, 7, 7, 7, 7, 7, 7, 7, 7, 7, 7, 7, 7, 7, 7, 7, 7, 7, 7, 7, 7, 7, 7, 8, 8, 8, 8, 8, 8, 8, 8, 8, 8, 8, 8, 8, 8, 8, 8, 8, 8, 8, 8, 8, 8, 8, 8, 8, 8, 8, 8, 8, 8, 8, 8, 8, 8, 8, 8, 8, 8, 8, 8, 8, 8, 8, 8, 8, 8, 8, 8, 8, 8, 8, 8, 8, 8, 8, 8, 8, 8, 8, 8, 8, 8, 8, 8, 8, 8, 8, 8, 8, 8, 8, 8, 8, 8, 8, 8, 8, 8, 8, 8, 8, 8, 8, 8, 8, 8, 8, 8, 8, 8, 8, 8, 8, 8, 8, 8, 8, 8, 8, 8, 8, 8, 8, 8, 8, 8, 8, 8, 8, 8, 8, 8, 8, 8, 8, 8, 8, 8, 8, 8, 8, 8, 8, 8, 8, 8, 8, 8]⟩ : ByteArray).size (
 .byte (⟨#[0, 1, 2, 2, 3, 3, 3, 3, 4, 4, 4, 4, 4, 4, 4, 4, 5, 5, 5, 5, 5, 5, 5, 5, 5, 5, 5, 5, 5, 5, 5, 5, 6, 6, 6, 6, 6, 6, 6, 6, 6, 6, 6, 6, 6, 6, 6, 6, 6, 6, 6, 6, 6, 6, 6, 6, 6, 6, 6, 6, 6, 6, 6, 6, 7, 7, 7, 7, 7, 7, 7, 7, 7, 7, 7, 7, 7, 7, 7, 7, 7, 7, 7, 7, 7, 7, 7, 7, 7, 7, 7, 7, 7, 7, 7, 7, 7, 7, 7, 7, 7, 7, 7, 7, 7, 7, 7, 7, 7, 7, 7, 7, 7, 7, 7, 7, 7, 7, 7, 7, 7, 7, 7, 7, 7, 7, 7, 7, 8, 8, 8, 8, 8, 8, 8, 8, 8, 8, 8, 8, 8, 8, 8, 8, 8, 8, 8, 8, 8, 8, 8, 8, 8, 8, 8, 8, 8, 8, 8, 8, 8, 8, 8, 8, 8, 8, 8, 8, 8, 8, 8, 8, 8, 8, 8, 8, 8, 8, 8, 8, 8, 8, 8, 8, 8, 8, 8, 8, 8, 8, 8, 8, 8, 8, 8, 8, 8, 8, 8, 8, 8, 8, 8, 8, 8, 8, 8, 8, 8, 8, 8, 8, 8, 8, 8, 8, 8, 8, 8, 8, 8, 8, 8, 8, 8, 8, 8, 8, 8, 8, 8, 8, 8, 8, 8, 8, 8, 8, 8, 8, 8, 8, 8, 8, 8, 8, 8, 8, 8, 8, 8, 8, 8, 8, 8, 8]⟩ : ByteArray) n4.toNat fun n5 =>
 .wr .i64 n5 fun n6 =>
 .wr .i64 (x1 + n6) fun n7 =>
 .ret (.int .i64 n7))
 | _ => .fail
noncomputable def cuts201 : Cuts := [(10, [0, 2]), (7, [0, 2]), (4, [0, 2])]
noncomputable def L201 : Places := [(4, X201_4, todoOf Tryz.f201 4), (7, X201_7, todoOf Tryz.f201 7), (10, X201_10, todoOf Tryz.f201 10)]
noncomputable def k201 : FCode := .of X201 L201 cuts201
theorem o201_4 : OOk Tryz.prog Tryz.f201 cuts201 L201 (4, X201_4, todoOf Tryz.f201 4) := by
  intro vs Γ m H r h; replace h : (X201_4 vs).run _ _ _ _ = _ := h; unfold X201_4 at h; split at h
  · replace h := M.iInt h; obtain ⟨_, rfl, h⟩ := h; exact Eq.trans (by kernel_rfl) h
  · exact M.iFail h
theorem o201_7 : OOk Tryz.prog Tryz.f201 cuts201 L201 (7, X201_7, todoOf Tryz.f201 7) := by
  intro vs Γ m H r h; replace h : (X201_7 vs).run _ _ _ _ = _ := h; unfold X201_7 at h; split at h
  · replace h := M.iInt h; obtain ⟨_, rfl, h⟩ := h; exact Eq.trans (by kernel_rfl) h
  · exact M.iFail h
theorem o201_10 : OOk Tryz.prog Tryz.f201 cuts201 L201 (10, X201_10, todoOf Tryz.f201 10) := by
  intro vs Γ m H r h; replace h : (X201_10 vs).run _ _ _ _ = _ := h; unfold X201_10 at h; split at h
  · replace h := M.iInt h; obtain ⟨_, rfl, h⟩ := h; exact Eq.trans (by kernel_rfl) h
  · exact M.iFail h
theorem h201 : XOk Tryz.prog Tryz.f201 cuts201 L201 X201 := by
  intro Γ m args H r h; unfold X201 at h; split at h
  · exact ⟨Eq.trans (by kernel_rfl) h, Nat.le_of_ble_eq_true (by kernel_rfl)⟩
  · exact M.iFail h
theorem K201 : CodeOk Tryz.prog 201 k201 := .of Tryz.func201 (by kernel_rfl) (by kernel_rfl) h201 (fc o201_4 (fc o201_7 (fc o201_10 fe)))
-- sternpost/rto.New
noncomputable def X202 : List Value → M := fun args => match args with
 | [x0, x1, x2] => 
 .cmpV .lss .i64 x1 (.int .i64 (1 : Int)) fun t3 =>
 .bool t3 (
 .jmp 2 []) (
 .cmpV .gtr .i64 x2 (.int .i64 (1048576 : Int)) fun t4 =>
 .bool t4 (
 .jmp 2 []) (
 .cmpV .lss .i64 x0 x1 fun t5 =>
 .bool t5 (
 .jmp 2 []) (
 .cmpV .gtr .i64 x0 x2 fun t6 =>
 .bool t6 (
 .jmp 2 []) (
 .cellsOks [x1, x2, x0] (.onS (Program.built Tryz.prog 422 (([0, 1, 2] : List Nat).zip [x1, x2, x0])) fun cells7q =>
 .fxV (.agg cells7q) fun cells7v =>
 .kAgg cells7v fun cells7 =>
 .new (.cells cells7.toList 0 true) fun b8 =>
 .ret (.tuple #[.pointer (some (⟨b8, 0, none⟩ : Addr)), .int .i64 (0 : Int)]))))))
 | _ => .fail
noncomputable def X202_2 : List Value → M := fun args => match args with
 | [] => 
 .ret (.tuple #[.pointer none, .int .i64 (1 : Int)])
 | _ => .fail
noncomputable def cuts202 : Cuts := [(2, [])]
noncomputable def L202 : Places := [(2, X202_2, todoOf Tryz.f202 2)]
noncomputable def k202 : FCode := .of X202 L202 cuts202
theorem o202_2 : OOk Tryz.prog Tryz.f202 cuts202 L202 (2, X202_2, todoOf Tryz.f202 2) := by
  intro vs Γ m H r h; replace h : (X202_2 vs).run _ _ _ _ = _ := h; unfold X202_2 at h; split at h
  · exact Eq.trans (by kernel_rfl) h
  · exact M.iFail h
theorem h202 : XOk Tryz.prog Tryz.f202 cuts202 L202 X202 := by
  intro Γ m args H r h; unfold X202 at h; split at h
  · exact ⟨Eq.trans (by kernel_rfl) h, Nat.le_of_ble_eq_true (by kernel_rfl)⟩
  · exact M.iFail h
theorem K202 : CodeOk Tryz.prog 202 k202 := .of Tryz.func202 (by kernel_rfl) (by kernel_rfl) h202 (fc o202_2 fe)
-- WARN 202: build of an unknown part
-- (*sternpost/sock.Box).turn
noncomputable def X218 : List Value → M := fun args => match args with
 | [v0, v1] => .kPtr v0 fun x0 => .kPtr v1 fun x1 => 
 .onS x1 fun a2 =>
 .ld a2.block (a2.off + 1) fun v3 =>
 .tyI .i64 v3 fun v4 =>
 .cmpV .eql .i64 v4 (.int .i64 (1 : Int)) fun t5 =>
 .bool t5 (
 .call 275 [.pointer x0, .pointer x1] fun r6 =>
 .kPtr r6 fun p7 =>
 .ret (.pointer p7)) (
 .cmpV .eql .i64 v4 (.int .i64 (3 : Int)) fun t8 =>
 .bool t8 (
 .call 276 [.pointer x0, .pointer x1] fun r9 =>
 .kPtr r9 fun p10 =>
 .ret (.pointer p10)) (
 .onS x0 fun a11 =>
 .ld a11.block (a11.off + 1) fun v12 =>
 .kMp v12 fun r13 =>
 .onS x1 fun a14 =>
 .ld a14.block (a14.off + 2) fun v15 =>
 .tyI .i64 v15 fun v16 =>
 .lookupK 181 (.map r13) v16 false fun v17 =>
 .opt (r13 : Option Nat) (
 .jmp 7 [.pointer x0, .pointer x1, v17]) (fun blk18 =>
 .jmp 7 [.pointer x0, .pointer x1, v17])))
 | _ => .fail
noncomputable def X218_7 : List Value → M := fun args => match args with
 | [v0, v1, x2] => .kPtr v0 fun x0 => .kPtr v1 fun x1 => 
 .tyAs 437 true x2 fun v3 =>
 .kTup v3 fun vs4 =>
 .nthA vs4 1 fun v5 =>
 .kBool v5 fun b6 =>
 .kTup v3 fun vs7 =>
 .nthA vs7 0 fun v8 =>
 .kPtr v8 fun p9 =>
 .bool b6 (
 .call 277 [.pointer x0, .pointer x1, .pointer p9] fun r10 =>
 .kPtr r10 fun p11 =>
 .ret (.pointer p11)) (
 .tyAs 265 true x2 fun v12 =>
 .kTup v12 fun vs13 =>
 .nthA vs13 1 fun v14 =>
 .kBool v14 fun b15 =>
 .kTup v12 fun vs16 =>
 .nthA vs16 0 fun v17 =>
 .kPtr v17 fun p18 =>
 .bool b15 (
 .call 278 [.pointer x0, .pointer x1, .pointer p18] fun r19 =>
 .kPtr r19 fun p20 =>
 .ret (.pointer p20)) (
 .call 138 [.pointer x1, .int .i64 (5 : Int)] fun r21 =>
 .kPtr r21 fun p22 =>
 .ret (.pointer p22)))
 | _ => .fail
noncomputable def cuts218 : Cuts := [(7, [0, 1, 31])]
noncomputable def L218 : Places := [(7, X218_7, todoOf Tryz.f218 7)]
noncomputable def k218 : FCode := .of X218 L218 cuts218
theorem o218_7 : OOk Tryz.prog Tryz.f218 cuts218 L218 (7, X218_7, todoOf Tryz.f218 7) := by
  intro vs Γ m H r h; replace h : (X218_7 vs).run _ _ _ _ = _ := h; unfold X218_7 at h; split at h
  · replace h := M.iPtr h; obtain ⟨_, rfl, h⟩ := h; replace h := M.iPtr h; obtain ⟨_, rfl, h⟩ := h; exact Eq.trans (by kernel_rfl) h
  · exact M.iFail h
theorem h218 : XOk Tryz.prog Tryz.f218 cuts218 L218 X218 := by
  intro Γ m args H r h; unfold X218 at h; split at h
  · replace h := M.iPtr h; obtain ⟨_, rfl, h⟩ := h; replace h := M.iPtr h; obtain ⟨_, rfl, h⟩ := h; exact ⟨Eq.trans (by kernel_rfl) h, Nat.le_of_ble_eq_true (by kernel_rfl)⟩
  · exact M.iFail h
theorem K218 : CodeOk Tryz.prog 218 k218 := .of Tryz.func218 (by kernel_rfl) (by kernel_rfl) h218 (fc o218_7 fe)
-- slices.Delete[[]*sternpost/sock.wait,*sternpost/sock.wait]
noncomputable def X219 : List Value → M := fun args => match args with
 | [v0, x3, x4] => .kSl v0 fun a0 l1 c2 => 
 .kAnyInt x4 fun k5 n6 =>
 .kAnyInt x3 fun k7 n8 =>
 .slSl3 1 a0 l1 c2 n8 n6 ((l1 : Nat) : Int) fun v9 =>
 .kSl v9 fun a10 l11 c12 =>
 .cmpV .eql .i64 x3 x4 fun t13 =>
 .bool t13 (
 .ret (.slice a0 l1 c2)) (
 .kAnyInt x3 fun k14 n15 =>
 .slSl 1 a0 l1 c2 (0 : Int) n15 fun v16 =>
 .kSl v16 fun a17 l18 c19 =>
 .opt (a0.map (·.block) : Option Nat) (
 .kAnyInt x4 fun k44 n45 =>
 .slSl 1 a0 l1 c2 n45 (l1 : Int) fun v46 =>
 .kSl v46 fun a47 l48 c49 =>
 .opt (a0.map (·.block) : Option Nat) (
 .firstC 1 (.slice a47 l48 c49) fun n59 nw60 =>
 .app 264 (.slice a17 l18 c19) n59 nw60 fun v61 =>
 .kSl v61 fun a63 l64 c65 =>
 .fxI ((l1 : Nat) : Int) fun n66 =>
 .jmp 6 [.slice a63 l64 c65, .int .i64 n66]) (fun blk50 =>
 .firstC 1 (.slice a47 l48 c49) fun n51 nw52 =>
 .app 264 (.slice a17 l18 c19) n51 nw52 fun v53 =>
 .kSl v53 fun a55 l56 c57 =>
 .fxI ((l1 : Nat) : Int) fun n58 =>
 .jmp 6 [.slice a55 l56 c57, .int .i64 n58])) (fun blk20 =>
 .kAnyInt x4 fun k21 n22 =>
 .slSl 1 a0 l1 c2 n22 (l1 : Int) fun v23 =>
 .kSl v23 fun a24 l25 c26 =>
 .opt (a0.map (·.block) : Option Nat) (
 .firstC 1 (.slice a24 l25 c26) fun n36 nw37 =>
 .app 264 (.slice a17 l18 c19) n36 nw37 fun v38 =>
 .kSl v38 fun a40 l41 c42 =>
 .fxI ((l1 : Nat) : Int) fun n43 =>
 .jmp 6 [.slice a40 l41 c42, .int .i64 n43]) (fun blk27 =>
 .firstC 1 (.slice a24 l25 c26) fun n28 nw29 =>
 .app 264 (.slice a17 l18 c19) n28 nw29 fun v30 =>
 .kSl v30 fun a32 l33 c34 =>
 .fxI ((l1 : Nat) : Int) fun n35 =>
 .jmp 6 [.slice a32 l33 c34, .int .i64 n35])))
 | _ => .fail
noncomputable def X219_6 : List Value → M := fun args => match args with
 | [v0, v1] => .kSl v0 fun a0 l1 c2 => .kInt .i64 v1 fun x3 => 
 .slSl 1 a0 l1 c2 ((l1 : Nat) : Int) x3 fun v4 =>
 .kSl v4 fun a5 l6 c7 =>
 .clr 1 (.pointer none) a5 l6 (
 .ret (.slice a0 l1 c2))
 | _ => .fail
noncomputable def cuts219 : Cuts := [(6, [0, 7])]
noncomputable def L219 : Places := [(6, X219_6, todoOf Tryz.f219 6)]
noncomputable def k219 : FCode := .of X219 L219 cuts219
theorem o219_6 : OOk Tryz.prog Tryz.f219 cuts219 L219 (6, X219_6, todoOf Tryz.f219 6) := by
  intro vs Γ m H r h; replace h : (X219_6 vs).run _ _ _ _ = _ := h; unfold X219_6 at h; split at h
  · replace h := M.iSl h; obtain ⟨_, _, _, rfl, h⟩ := h; replace h := M.iInt h; obtain ⟨_, rfl, h⟩ := h; exact Eq.trans (by kernel_rfl) h
  · exact M.iFail h
theorem h219 : XOk Tryz.prog Tryz.f219 cuts219 L219 X219 := by
  intro Γ m args H r h; unfold X219 at h; split at h
  · replace h := M.iSl h; obtain ⟨_, _, _, rfl, h⟩ := h; exact ⟨Eq.trans (by kernel_rfl) h, Nat.le_of_ble_eq_true (by kernel_rfl)⟩
  · exact M.iFail h
theorem K219 : CodeOk Tryz.prog 219 k219 := .of Tryz.func219 (by kernel_rfl) (by kernel_rfl) h219 (fc o219_6 fe)
-- maps.Keys[map[int]*sternpost/table.one,int,*sternpost/table.one]
noncomputable def X239 : List Value → M := fun args => match args with
 | [v0] => .kMp v0 fun x0 => 
 .new (.cells [.map x0] 274726912 true) fun b1 =>
 .ret (.func (.func 288) #[] #[.pointer (some (⟨b1, 0, none⟩ : Addr))])
 | _ => .fail
noncomputable def cuts239 : Cuts := []
noncomputable def L239 : Places := []
noncomputable def k239 : FCode := .of X239 L239 cuts239
theorem h239 : XOk Tryz.prog Tryz.f239 cuts239 L239 X239 := by
  intro Γ m args H r h; unfold X239 at h; split at h
  · replace h := M.iMp h; obtain ⟨_, rfl, h⟩ := h; exact ⟨Eq.trans (by kernel_rfl) h, Nat.le_of_ble_eq_true (by kernel_rfl)⟩
  · exact M.iFail h
theorem K239 : CodeOk Tryz.prog 239 k239 := .of Tryz.func239 (by kernel_rfl) (by kernel_rfl) h239 fe
-- (*sternpost/sock.Box).listen
noncomputable def X275 : List Value → M := fun args => match args with
 | [v0, v1] => .kPtr v0 fun x0 => .kPtr v1 fun x1 => 
 .call 321 [.pointer x0] fun r2 =>
 .kTup r2 fun vs3 =>
 .nthA vs3 0 fun v4 =>
 .tyI .i64 v4 fun v5 =>
 .kTup r2 fun vs6 =>
 .nthA vs6 1 fun v7 =>
 .kBool v7 fun b8 =>
 .bool (!b8) (
 .call 138 [.pointer x1, .int .i64 (150 : Int)] fun r9 =>
 .kPtr r9 fun p10 =>
 .ret (.pointer p10)) (
 .onS x0 fun a11 =>
 .ld a11.block a11.off fun v12 =>
 .kPtr v12 fun p13 =>
 .onS x1 fun a14 =>
 .ld a14.block (a14.off + 4) fun v15 =>
 .tyI .i64 v15 fun v16 =>
 .call 322 [.pointer p13, v16] fun r17 =>
 .tyI .i64 r17 fun v18 =>
 .cmpV .neq .i64 v18 (.int .i64 (0 : Int)) fun t19 =>
 .bool t19 (
 .call 138 [.pointer x1, v18] fun r20 =>
 .kPtr r20 fun p21 =>
 .ret (.pointer p21)) (
 .onS x0 fun a22 =>
 .ld a22.block (a22.off + 1) fun v23 =>
 .kMp v23 fun r24 =>
 .onS x1 fun a25 =>
 .ld a25.block (a25.off + 4) fun v26 =>
 .tyI .i64 v26 fun v27 =>
 .cellsOks [v27] (.onS (Program.built Tryz.prog 482 (([0] : List Nat).zip [v27])) fun cells28q =>
 .fxV (.agg cells28q) fun cells28v =>
 .kAgg cells28v fun cells28 =>
 .new (.cells cells28.toList 0 true) fun b29 =>
 .onS r24 fun q30 =>
 .kInt .i64 v5 fun n31 =>
 .mupd q30 (.int .i64 n31) (.iface 437 (.pointer (some (⟨b29, 0, none⟩ : Addr)))) (
 .onS x1 fun a32 =>
 .ld a32.block a32.off fun v33 =>
 .tyI .i64 v33 fun v34 =>
 .cellsOks [v34, v5] (.onS (Program.built Tryz.prog 166 (([0, 2] : List Nat).zip [v34, v5])) fun cells35q =>
 .fxV (.agg cells35q) fun cells35v =>
 .kAgg cells35v fun cells35 =>
 .new (.cells cells35.toList 0 true) fun b36 =>
 .ret (.pointer (some (⟨b36, 0, none⟩ : Addr))))))))
 | _ => .fail
noncomputable def cuts275 : Cuts := []
noncomputable def L275 : Places := []
noncomputable def k275 : FCode := .of X275 L275 cuts275
theorem h275 : XOk Tryz.prog Tryz.f275 cuts275 L275 X275 := by
  intro Γ m args H r h; unfold X275 at h; split at h
  · replace h := M.iPtr h; obtain ⟨_, rfl, h⟩ := h; replace h := M.iPtr h; obtain ⟨_, rfl, h⟩ := h; exact ⟨Eq.trans (by kernel_rfl) h, Nat.le_of_ble_eq_true (by kernel_rfl)⟩
  · exact M.iFail h
theorem K275 : CodeOk Tryz.prog 275 k275 := .of Tryz.func275 (by kernel_rfl) (by kernel_rfl) h275 fe
-- WARN 275: build of an unknown part
-- (*sternpost/sock.Box).onListening
noncomputable def X277 : List Value → M := fun args => match args with
 | [v0, v1, v2] => .kPtr v0 fun x0 => .kPtr v1 fun x1 => .kPtr v2 fun x2 => 
 .onS x1 fun a3 =>
 .ld a3.block (a3.off + 1) fun v4 =>
 .tyI .i64 v4 fun v5 =>
 .cmpV .eql .i64 v5 (.int .i64 (2 : Int)) fun t6 =>
 .bool t6 (
 .call 326 [.pointer x0, .pointer x1, .pointer x2] fun r7 =>
 .kPtr r7 fun p8 =>
 .ret (.pointer p8)) (
 .cmpV .eql .i64 v5 (.int .i64 (7 : Int)) fun t9 =>
 .bool t9 (
 .onS x0 fun a10 =>
 .ld a10.block a10.off fun v11 =>
 .kPtr v11 fun p12 =>
 .onS x2 fun a13 =>
 .ld a13.block a13.off fun v14 =>
 .tyI .i64 v14 fun v15 =>
 .call 327 [.pointer p12, v15] fun r16 =>
 .tyI .i64 r16 fun v17 =>
 .onS x0 fun a18 =>
 .ld a18.block (a18.off + 1) fun v19 =>
 .kMp v19 fun r20 =>
 .onS x1 fun a21 =>
 .ld a21.block (a21.off + 2) fun v22 =>
 .tyI .i64 v22 fun v23 =>
 .kInt .i64 v23 fun n24 =>
 .dele r20 (.int .i64 n24) (
 .call 138 [.pointer x1, .int .i64 (0 : Int)] fun r25 =>
 .kPtr r25 fun p26 =>
 .ret (.pointer p26))) (
 .cmpV .eql .i64 v5 (.int .i64 (9 : Int)) fun t27 =>
 .bool t27 (
 .onS x1 fun a28 =>
 .ld a28.block a28.off fun v29 =>
 .tyI .i64 v29 fun v30 =>
 .cellsOks [v30, .int .i64 (1 : Int)] (.onS (Program.built Tryz.prog 166 (([0, 3] : List Nat).zip [v30, .int .i64 (1 : Int)])) fun cells31q =>
 .fxV (.agg cells31q) fun cells31v =>
 .kAgg cells31v fun cells31 =>
 .new (.cells cells31.toList 0 true) fun b32 =>
 .ret (.pointer (some (⟨b32, 0, none⟩ : Addr))))) (
 .call 138 [.pointer x1, .int .i64 (4 : Int)] fun r33 =>
 .kPtr r33 fun p34 =>
 .ret (.pointer p34))))
 | _ => .fail
noncomputable def cuts277 : Cuts := []
noncomputable def L277 : Places := []
noncomputable def k277 : FCode := .of X277 L277 cuts277
theorem h277 : XOk Tryz.prog Tryz.f277 cuts277 L277 X277 := by
  intro Γ m args H r h; unfold X277 at h; split at h
  · replace h := M.iPtr h; obtain ⟨_, rfl, h⟩ := h; replace h := M.iPtr h; obtain ⟨_, rfl, h⟩ := h; replace h := M.iPtr h; obtain ⟨_, rfl, h⟩ := h; exact ⟨Eq.trans (by kernel_rfl) h, Nat.le_of_ble_eq_true (by kernel_rfl)⟩
  · exact M.iFail h
theorem K277 : CodeOk Tryz.prog 277 k277 := .of Tryz.func277 (by kernel_rfl) (by kernel_rfl) h277 fe
-- WARN 277: build of an unknown part
-- (*sternpost/sock.Box).free
noncomputable def X321 : List Value → M := fun args => match args with
 | [v0] => .kPtr v0 fun x0 => 
 .jmp 100002 [.pointer x0, .int .i64 (0 : Int)]
 | _ => .fail
noncomputable def X321_100002 : List Value → M := fun args => match args with
 | [v0, v1] => .kPtr v0 fun x0 => .kInt .i64 v1 fun x1 => 
 .cmp .lss x1 (64 : Int) fun t2 =>
 .bool t2 (
 .onS x0 fun a3 =>
 .ld a3.block (a3.off + 1) fun v4 =>
 .kMp v4 fun r5 =>
 .lookupK 181 (.map r5) (.int .i64 x1) false fun v6 =>
 .nilI v6 (.ret (.tuple #[.int .i64 x1, .bool true])) (.wr .i64 (x1 + (1 : Int)) fun n7 =>
 .jmp 100002 [.pointer x0, .int .i64 n7])) (
 .ret (.tuple #[.int .i64 (0 : Int), .bool false]))
 | _ => .fail
noncomputable def cuts321 : Cuts := [(100002, [0, 5])]
noncomputable def L321 : Places := [(100002, X321_100002, todoOf Tryz.f321 100002)]
noncomputable def k321 : FCode := .of X321 L321 cuts321
theorem o321_100002 : OOk Tryz.prog Tryz.f321 cuts321 L321 (100002, X321_100002, todoOf Tryz.f321 100002) := by
  intro vs Γ m H r h; replace h : (X321_100002 vs).run _ _ _ _ = _ := h; unfold X321_100002 at h; split at h
  · replace h := M.iPtr h; obtain ⟨_, rfl, h⟩ := h; replace h := M.iInt h; obtain ⟨_, rfl, h⟩ := h; exact Eq.trans (by kernel_rfl) h
  · exact M.iFail h
theorem h321 : XOk Tryz.prog Tryz.f321 cuts321 L321 X321 := by
  intro Γ m args H r h; unfold X321 at h; split at h
  · replace h := M.iPtr h; obtain ⟨_, rfl, h⟩ := h; exact ⟨Eq.trans (by kernel_rfl) h, Nat.le_of_ble_eq_true (by kernel_rfl)⟩
  · exact M.iFail h
theorem K321 : CodeOk Tryz.prog 321 k321 := .of Tryz.func321 (by kernel_rfl) (by kernel_rfl) h321 (fc o321_100002 fe)
-- (*sternpost/table.Table).Listen
noncomputable def X322 : List Value → M := fun args => match args with
 | [v0, x1] => .kPtr v0 fun x0 => 
 .call 351 [x1] fun r2 =>
 .kBool r2 fun b3 =>
 .bool (!b3) (
 .ret (.int .i64 (1 : Int))) (
 .onS x0 fun a4 =>
 .ld a4.block (a4.off + 13) fun v5 =>
 .kMp v5 fun r6 =>
 .lookupK 259 (.map r6) x1 false fun v7 =>
 .kBool v7 fun b8 =>
 .bool b8 (
 .ret (.int .i64 (190 : Int))) (
 .onS x0 fun a9 =>
 .ld a9.block (a9.off + 13) fun v10 =>
 .kMp v10 fun r11 =>
 .onS r11 fun q12 =>
 .kInt .i64 x1 fun n13 =>
 .mupd q12 (.int .i64 n13) (.bool true) (
 .ret (.int .i64 (0 : Int)))))
 | _ => .fail
noncomputable def cuts322 : Cuts := []
noncomputable def L322 : Places := []
noncomputable def k322 : FCode := .of X322 L322 cuts322
theorem h322 : XOk Tryz.prog Tryz.f322 cuts322 L322 X322 := by
  intro Γ m args H r h; unfold X322 at h; split at h
  · replace h := M.iPtr h; obtain ⟨_, rfl, h⟩ := h; exact ⟨Eq.trans (by kernel_rfl) h, Nat.le_of_ble_eq_true (by kernel_rfl)⟩
  · exact M.iFail h
theorem K322 : CodeOk Tryz.prog 322 k322 := .of Tryz.func322 (by kernel_rfl) (by kernel_rfl) h322 fe
-- (*sternpost/sock.Box).accept
noncomputable def X326 : List Value → M := fun args => match args with
 | [v0, v1, v2] => .kPtr v0 fun x0 => .kPtr v1 fun x1 => .kPtr v2 fun x2 => 
 .call 321 [.pointer x0] fun r3 =>
 .kTup r3 fun vs4 =>
 .nthA vs4 0 fun v5 =>
 .tyI .i64 v5 fun v6 =>
 .kTup r3 fun vs7 =>
 .nthA vs7 1 fun v8 =>
 .kBool v8 fun b9 =>
 .bool (!b9) (
 .call 138 [.pointer x1, .int .i64 (150 : Int)] fun r10 =>
 .kPtr r10 fun p11 =>
 .ret (.pointer p11)) (
 .onS x0 fun a12 =>
 .ld a12.block a12.off fun v13 =>
 .kPtr v13 fun p14 =>
 .onS x2 fun a15 =>
 .ld a15.block a15.off fun v16 =>
 .tyI .i64 v16 fun v17 =>
 .call 354 [.pointer p14, v17] fun r18 =>
 .kTup r18 fun vs19 =>
 .nthA vs19 0 fun v20 =>
 .tyI .i64 v20 fun v21 =>
 .kTup r18 fun vs22 =>
 .nthA vs22 1 fun v23 =>
 .kBool v23 fun b24 =>
 .bool (!b24) (
 .ret (.pointer none)) (
 .onS x0 fun a25 =>
 .ld a25.block (a25.off + 1) fun v26 =>
 .kMp v26 fun r27 =>
 .cellsOks [v21] (.onS (Program.built Tryz.prog 487 (([0] : List Nat).zip [v21])) fun cells28q =>
 .fxV (.agg cells28q) fun cells28v =>
 .kAgg cells28v fun cells28 =>
 .new (.cells cells28.toList 0 true) fun b29 =>
 .onS r27 fun q30 =>
 .kInt .i64 v6 fun n31 =>
 .mupd q30 (.int .i64 n31) (.iface 265 (.pointer (some (⟨b29, 0, none⟩ : Addr)))) (
 .onS x1 fun a32 =>
 .ld a32.block a32.off fun v33 =>
 .tyI .i64 v33 fun v34 =>
 .cellsOks [v34, v6] (.onS (Program.built Tryz.prog 166 (([0, 2] : List Nat).zip [v34, v6])) fun cells35q =>
 .fxV (.agg cells35q) fun cells35v =>
 .kAgg cells35v fun cells35 =>
 .new (.cells cells35.toList 0 true) fun b36 =>
 .ret (.pointer (some (⟨b36, 0, none⟩ : Addr))))))))
 | _ => .fail
noncomputable def cuts326 : Cuts := []
noncomputable def L326 : Places := []
noncomputable def k326 : FCode := .of X326 L326 cuts326
theorem h326 : XOk Tryz.prog Tryz.f326 cuts326 L326 X326 := by
  intro Γ m args H r h; unfold X326 at h; split at h
  · replace h := M.iPtr h; obtain ⟨_, rfl, h⟩ := h; replace h := M.iPtr h; obtain ⟨_, rfl, h⟩ := h; replace h := M.iPtr h; obtain ⟨_, rfl, h⟩ := h; exact ⟨Eq.trans (by kernel_rfl) h, Nat.le_of_ble_eq_true (by kernel_rfl)⟩
  · exact M.iFail h
theorem K326 : CodeOk Tryz.prog 326 k326 := .of Tryz.func326 (by kernel_rfl) (by kernel_rfl) h326 fe
-- WARN 326: build of an unknown part
-- sternpost/table.port
noncomputable def X351 : List Value → M := fun args => match args with
 | [x0] => 
 .cmpV .geq .i64 x0 (.int .i64 (1 : Int)) fun t1 =>
 .bool t1 (
 .cmpV .leq .i64 x0 (.int .i64 (65535 : Int)) fun t2 =>
 .ret (.bool t2)) (
 .ret (.bool false))
 | _ => .fail
noncomputable def cuts351 : Cuts := []
noncomputable def L351 : Places := []
noncomputable def k351 : FCode := .of X351 L351 cuts351
theorem h351 : XOk Tryz.prog Tryz.f351 cuts351 L351 X351 := by
  intro Γ m args H r h; unfold X351 at h; split at h
  · exact ⟨Eq.trans (by kernel_rfl) h, Nat.le_of_ble_eq_true (by kernel_rfl)⟩
  · exact M.iFail h
theorem K351 : CodeOk Tryz.prog 351 k351 := .of Tryz.func351 (by kernel_rfl) (by kernel_rfl) h351 fe
-- (*sternpost/table.Table).Accept
noncomputable def X354 : List Value → M := fun args => match args with
 | [v0, x1] => .kPtr v0 fun x0 => 
 .call 189 [.pointer x0] fun r2 =>
 .kSl r2 fun a3 l4 c5 =>
 .fxI ((l4 : Nat) : Int) fun n6 =>
 .jmp 100002 [.pointer x0, x1, .slice a3 l4 c5, .int .i64 n6, .int .i64 (0 : Int)]
 | _ => .fail
noncomputable def X354_8 : List Value → M := fun args => match args with
 | [v0, x1, v2, v3, v4] => .kPtr v0 fun x0 => .kSl v2 fun a2 l3 c4 => .kInt .i64 v3 fun x5 => .kInt .i64 v4 fun x6 => 
 .wr .i64 (x6 + (1 : Int)) fun n7 =>
 .jmp 100002 [.pointer x0, x1, .slice a2 l3 c4, .int .i64 x5, .int .i64 n7]
 | _ => .fail
noncomputable def X354_100002 : List Value → M := fun args => match args with
 | [v0, x1, v2, v3, v4] => .kPtr v0 fun x0 => .kSl v2 fun a2 l3 c4 => .kInt .i64 v3 fun x5 => .kInt .i64 v4 fun x6 => 
 .cmp .lss x6 x5 fun t7 =>
 .bool t7 (
 .onS a2 fun a8 =>
 .inb x6 l3 (
 .ld ((a8.add (x6.toNat * 1)).block) ((a8.add (x6.toNat * 1)).off) fun v9 =>
 .tyI .i64 v9 fun v10 =>
 .onS x0 fun a11 =>
 .ld a11.block (a11.off + 15) fun v12 =>
 .kMp v12 fun r13 =>
 .lookupK 261 (.map r13) v10 false fun v14 =>
 .kPtr v14 fun p15 =>
 .onS p15 fun a16 =>
 .ld a16.block (a16.off + 7) fun v17 =>
 .kBool v17 fun b18 =>
 .bool b18 (
 .onS p15 fun a19 =>
 .ld a19.block ((a19.off + 2) + 1) fun v20 =>
 .tyI .i64 v20 fun v21 =>
 .cmpV .eql .i64 v21 x1 fun t22 =>
 .bool t22 (
 .call 375 [.pointer p15] fun r23 =>
 .kBool r23 fun b24 =>
 .bool b24 (
 .onS p15 fun a25 =>
 .st 1 (⟨a25.block, a25.off + 6, none⟩ : Addr) (.bool true) (
 .onS p15 fun a27 =>
 .st 1 (⟨a27.block, a27.off + 7, none⟩ : Addr) (.bool false) (
 .ret (.tuple #[v10, .bool true])))) (
 .jmp 8 [.pointer x0, x1, .slice a2 l3 c4, .int .i64 x5, .int .i64 x6])) (
 .jmp 8 [.pointer x0, x1, .slice a2 l3 c4, .int .i64 x5, .int .i64 x6])) (
 .jmp 8 [.pointer x0, x1, .slice a2 l3 c4, .int .i64 x5, .int .i64 x6]))) (
 .ret (.tuple #[.int .i64 (0 : Int), .bool false]))
 | _ => .fail
noncomputable def cuts354 : Cuts := [(100002, [0, 1, 10, 11, 12]), (8, [0, 1, 10, 11, 12])]
noncomputable def L354 : Places := [(8, X354_8, todoOf Tryz.f354 8), (100002, X354_100002, todoOf Tryz.f354 100002)]
noncomputable def k354 : FCode := .of X354 L354 cuts354
theorem o354_8 : OOk Tryz.prog Tryz.f354 cuts354 L354 (8, X354_8, todoOf Tryz.f354 8) := by
  intro vs Γ m H r h; replace h : (X354_8 vs).run _ _ _ _ = _ := h; unfold X354_8 at h; split at h
  · replace h := M.iPtr h; obtain ⟨_, rfl, h⟩ := h; replace h := M.iSl h; obtain ⟨_, _, _, rfl, h⟩ := h; replace h := M.iInt h; obtain ⟨_, rfl, h⟩ := h; replace h := M.iInt h; obtain ⟨_, rfl, h⟩ := h; exact Eq.trans (by kernel_rfl) h
  · exact M.iFail h
theorem o354_100002 : OOk Tryz.prog Tryz.f354 cuts354 L354 (100002, X354_100002, todoOf Tryz.f354 100002) := by
  intro vs Γ m H r h; replace h : (X354_100002 vs).run _ _ _ _ = _ := h; unfold X354_100002 at h; split at h
  · replace h := M.iPtr h; obtain ⟨_, rfl, h⟩ := h; replace h := M.iSl h; obtain ⟨_, _, _, rfl, h⟩ := h; replace h := M.iInt h; obtain ⟨_, rfl, h⟩ := h; replace h := M.iInt h; obtain ⟨_, rfl, h⟩ := h; exact Eq.trans (by kernel_rfl) h
  · exact M.iFail h
theorem h354 : XOk Tryz.prog Tryz.f354 cuts354 L354 X354 := by
  intro Γ m args H r h; unfold X354 at h; split at h
  · replace h := M.iPtr h; obtain ⟨_, rfl, h⟩ := h; exact ⟨Eq.trans (by kernel_rfl) h, Nat.le_of_ble_eq_true (by kernel_rfl)⟩
  · exact M.iFail h
theorem K354 : CodeOk Tryz.prog 354 k354 := .of Tryz.func354 (by kernel_rfl) (by kernel_rfl) h354 (fc o354_8 (fc o354_100002 fe))
-- sternpost/sternposttop.TopClaims
noncomputable def X3 : List Value → M := fun args => match args with
 | [v0] => .kSl v0 fun a0 l1 c2 => 
 .call 6 [.int .i64 (10 : Int), .int .i64 (12 : Int), .int .i64 (0 : Int)] fun r3 =>
 .kPtr r3 fun p4 =>
 .new (.cells [.pointer none, .pointer none, .pointer none] 1 true) fun b5 =>
 .jmp 100004 [.slice a0 l1 c2, .pointer p4, .pointer (some (⟨b5, 0, none⟩ : Addr)), .int .i64 (0 : Int)]
 | _ => .fail
noncomputable def X3_24 : List Value → M := fun args => match args with
 | [v0, v1, v2, v3, x8, v5] => .kSl v0 fun a0 l1 c2 => .kPtr v1 fun x3 => .kPtr v2 fun x4 => .kSl v3 fun a5 l6 c7 => .kInt .i64 v5 fun x9 => 
 .kAnyInt x8 fun k10 n11 =>
 .onS x4 fun a12 =>
 .inb n11 3 (
 .ld ((a12.add (n11.toNat * 1)).block) ((a12.add (n11.toNat * 1)).off) fun v13 =>
 .kPtr v13 fun p14 =>
 .call 10 [.pointer p14, .int .i64 (11 : Int)] fun r15 =>
 .kTup r15 fun vs16 =>
 .nthA vs16 0 fun v17 =>
 .kStr v17 fun s18 =>
 .kTup r15 fun vs19 =>
 .nthA vs19 1 fun v20 =>
 .tyI .i64 v20 fun v21 =>
 .cmpV .neq .i64 v21 (.int .i64 (0 : Int)) fun t22 =>
 .bool t22 (
 .ret (.bool false)) (
 .wr .i64 ((2 : Int) + x9) fun n23 =>
 .call 8 [.pointer x3, .string s18, .int .i64 n23] fun r24 =>
 .kTup r24 fun vs25 =>
 .nthA vs25 0 fun v26 =>
 .kSl v26 fun a27 l28 c29 =>
 .kTup r24 fun vs30 =>
 .nthA vs30 1 fun v31 =>
 .kSl v31 fun a32 l33 c34 =>
 .cmp .neq ((l33 : Nat) : Int) (0 : Int) fun t35 =>
 .bool t35 (
 .ret (.bool false)) (
 .wr .i64 ((2 : Int) + x9) fun n36 =>
 .call 7 [.pointer x3, .int .i64 (11 : Int), .int .i64 (1 : Int), .int .i64 x9, .int .i64 n36] fun r37 =>
 .kSl r37 fun a38 l39 c40 =>
 .cmp .neq ((l39 : Nat) : Int) (1 : Int) fun t41 =>
 .bool t41 (
 .ret (.bool false)) (
 .onS a38 fun a42 =>
 .inb (0 : Int) l39 (
 .ld ((a42.add ((0 : Int).toNat * 1)).block) ((a42.add ((0 : Int).toNat * 1)).off) fun v43 =>
 .kStr v43 fun s44 =>
 .call 11 [.string s44] fun r45 =>
 .kTup r45 fun vs46 =>
 .nthA vs46 0 fun v47 =>
 .kAgg v47 fun cs48 =>
 .ite (cs48.size = 41) (
 .kTup r45 fun vs49 =>
 .nthA vs49 1 fun v50 =>
 .new (.cells [.int .i64 (0 : Int), .int .i64 (0 : Int), .int .i64 (0 : Int), .int .i64 (0 : Int), .string (⟨#[]⟩ : ByteArray), .int .i64 (0 : Int), .int .i64 (0 : Int), .int .i64 (0 : Int), .int .i64 (0 : Int), .int .i64 (0 : Int), .int .i64 (0 : Int), .int .i64 (0 : Int), .int .i64 (0 : Int), .int .i64 (0 : Int), .int .i64 (0 : Int), .int .i64 (0 : Int), .bool false, .bool false, .string (⟨#[]⟩ : ByteArray), .string (⟨#[]⟩ : ByteArray), .int .i64 (0 : Int), .int .i64 (0 : Int), .int .i64 (0 : Int), .int .i64 (0 : Int), .string (⟨#[]⟩ : ByteArray), .int .i64 (0 : Int), .int .i64 (0 : Int), .int .i64 (0 : Int), .int .i64 (0 : Int), .int .i64 (0 : Int), .int .i64 (0 : Int), .int .i64 (0 : Int), .int .i64 (0 : Int), .int .i64 (0 : Int), .int .i64 (0 : Int), .int .i64 (0 : Int), .bool false, .bool false, .bool false, .slice none 0 0, .string (⟨#[]⟩ : ByteArray)] 0 true) fun b51 =>
 .st 41 (⟨b51, 0, none⟩ : Addr) (.agg cs48) (
 .nilI v50 (.bool (!true) (
 .jmp 35 []) (
 .ld b51 (0 + 1) fun v53 =>
 .tyI .i64 v53 fun v54 =>
 .arV .add .i64 (.int .i64 (20 : Int)) x8 fun v55 =>
 .cmpV .neq .i64 v54 v55 fun t56 =>
 .bool t56 (
 .jmp 35 []) (
 .ld b51 ((0 + 20) + 3) fun v57 =>
 .tyI .i64 v57 fun v58 =>
 .cmpV .neq .i64 v58 (.int .i64 x9) fun t59 =>
 .bool t59 (
 .jmp 35 []) (
 .jmp 36 [.slice a0 l1 c2, .pointer x3, .pointer x4, .slice a5 l6 c7, x8, .int .i64 x9, .slice a38 l39 c40])))) (.bool (!false) (
 .jmp 35 []) (
 .ld b51 (0 + 1) fun v60 =>
 .tyI .i64 v60 fun v61 =>
 .arV .add .i64 (.int .i64 (20 : Int)) x8 fun v62 =>
 .cmpV .neq .i64 v61 v62 fun t63 =>
 .bool t63 (
 .jmp 35 []) (
 .ld b51 ((0 + 20) + 3) fun v64 =>
 .tyI .i64 v64 fun v65 =>
 .cmpV .neq .i64 v65 (.int .i64 x9) fun t66 =>
 .bool t66 (
 .jmp 35 []) (
 .jmp 36 [.slice a0 l1 c2, .pointer x3, .pointer x4, .slice a5 l6 c7, x8, .int .i64 x9, .slice a38 l39 c40])))))))))))
 | _ => .fail
noncomputable def X3_35 : List Value → M := fun args => match args with
 | [] => 
 .ret (.bool false)
 | _ => .fail
noncomputable def X3_36 : List Value → M := fun args => match args with
 | [v0, v1, v2, v3, x8, v5, v6] => .kSl v0 fun a0 l1 c2 => .kPtr v1 fun x3 => .kPtr v2 fun x4 => .kSl v3 fun a5 l6 c7 => .kInt .i64 v5 fun x9 => .kSl v6 fun a10 l11 c12 => 
 .call 12 [.pointer x3] fun r13 =>
 .tyI .i64 r13 fun v14 =>
 .jmp 100038 [.slice a0 l1 c2, .pointer x3, .pointer x4, .slice a5 l6 c7, x8, .int .i64 x9, .slice a10 l11 c12, v14, .int .i64 (0 : Int)]
 | _ => .fail
noncomputable def X3_46 : List Value → M := fun args => match args with
 | [v0, v1, v2, v3, x8, v5, v6, x13, v8] => .kSl v0 fun a0 l1 c2 => .kPtr v1 fun x3 => .kPtr v2 fun x4 => .kSl v3 fun a5 l6 c7 => .kInt .i64 v5 fun x9 => .kSl v6 fun a10 l11 c12 => .kInt .i64 v8 fun x14 => 
 .wr .i64 (x14 + (1 : Int)) fun n15 =>
 .jmp 100038 [.slice a0 l1 c2, .pointer x3, .pointer x4, .slice a5 l6 c7, x8, .int .i64 x9, .slice a10 l11 c12, x13, .int .i64 n15]
 | _ => .fail
noncomputable def X3_49 : List Value → M := fun args => match args with
 | [] => 
 .ret (.bool true)
 | _ => .fail
noncomputable def X3_100004 : List Value → M := fun args => match args with
 | [v0, v1, v2, v3] => .kSl v0 fun a0 l1 c2 => .kPtr v1 fun x3 => .kPtr v2 fun x4 => .kInt .i64 v3 fun x5 => 
 .cmp .lss x5 (3 : Int) fun t6 =>
 .bool t6 (
 .wr .i64 ((20 : Int) + x5) fun n7 =>
 .call 6 [.int .i64 (11 : Int), .int .i64 n7, .int .i64 (80 : Int)] fun r8 =>
 .kPtr r8 fun p9 =>
 .onS x4 fun a10 =>
 .inb x5 3 (
 .st 1 (a10.add (x5.toNat * 1)) (.pointer p9) (
 .onS x4 fun a12 =>
 .inb x5 3 (
 .ld ((a12.add (x5.toNat * 1)).block) ((a12.add (x5.toNat * 1)).off) fun v13 =>
 .kPtr v13 fun p14 =>
 .bool p14.isNone (
 .ret (.bool false)) (
 .wr .i64 (x5 + (1 : Int)) fun n15 =>
 .jmp 100004 [.slice a0 l1 c2, .pointer x3, .pointer x4, .int .i64 n15]))))) (
 .bool x3.isNone (
 .ret (.bool false)) (
 .call 7 [.pointer x3, .int .i64 (11 : Int), .int .i64 (0 : Int), .int .i64 (0 : Int), .int .i64 (1 : Int)] fun r16 =>
 .kSl r16 fun a17 l18 c19 =>
 .cmp .neq ((l18 : Nat) : Int) (1 : Int) fun t20 =>
 .bool t20 (
 .ret (.bool false)) (
 .onS x4 fun a21 =>
 .inb (0 : Int) 3 (
 .ld ((a21.add ((0 : Int).toNat * 1)).block) ((a21.add ((0 : Int).toNat * 1)).off) fun v22 =>
 .kPtr v22 fun p23 =>
 .onS a17 fun a24 =>
 .inb (0 : Int) l18 (
 .ld ((a24.add ((0 : Int).toNat * 1)).block) ((a24.add ((0 : Int).toNat * 1)).off) fun v25 =>
 .kStr v25 fun s26 =>
 .call 8 [.pointer p23, .string s26, .int .i64 (1 : Int)] fun r27 =>
 .kTup r27 fun vs28 =>
 .nthA vs28 0 fun v29 =>
 .kSl v29 fun a30 l31 c32 =>
 .kTup r27 fun vs33 =>
 .nthA vs33 1 fun v34 =>
 .kSl v34 fun a35 l36 c37 =>
 .cmp .neq ((l36 : Nat) : Int) (1 : Int) fun t38 =>
 .bool t38 (
 .ret (.bool false)) (
 .onS a35 fun a39 =>
 .inb (0 : Int) l36 (
 .ld ((a39.add ((0 : Int).toNat * 1)).block) ((a39.add ((0 : Int).toNat * 1)).off) fun v40 =>
 .kStr v40 fun s41 =>
 .call 8 [.pointer x3, .string s41, .int .i64 (1 : Int)] fun r42 =>
 .jmp 100021 [.slice a0 l1 c2, .pointer x3, .pointer x4, .slice a17 l18 c19, .int .i64 (0 : Int)])))))))
 | _ => .fail
noncomputable def X3_100021 : List Value → M := fun args => match args with
 | [v0, v1, v2, v3, v4] => .kSl v0 fun a0 l1 c2 => .kPtr v1 fun x3 => .kPtr v2 fun x4 => .kSl v3 fun a5 l6 c7 => .kInt .i64 v4 fun x8 => 
 .cmp .lss x8 ((l1 : Nat) : Int) fun t9 =>
 .bool t9 (
 .cmp .lss x8 (12 : Int) fun t10 =>
 .bool t10 (
 .onS a0 fun a11 =>
 .inb x8 l1 (
 .ld ((a11.add (x8.toNat * 1)).block) ((a11.add (x8.toNat * 1)).off) fun v12 =>
 .tyI .i64 v12 fun v13 =>
 .call 9 [v13, .int .i64 (3 : Int)] fun r14 =>
 .tyI .i64 r14 fun v15 =>
 .jmp 24 [.slice a0 l1 c2, .pointer x3, .pointer x4, .slice a5 l6 c7, v15, .int .i64 x8])) (
 .jmp 49 [])) (
 .jmp 49 [])
 | _ => .fail
noncomputable def X3_100038 : List Value → M := fun args => match args with
 | [v0, v1, v2, v3, x8, v5, v6, x13, v8] => .kSl v0 fun a0 l1 c2 => .kPtr v1 fun x3 => .kPtr v2 fun x4 => .kSl v3 fun a5 l6 c7 => .kInt .i64 v5 fun x9 => .kSl v6 fun a10 l11 c12 => .kInt .i64 v8 fun x14 => 
 .cmp .lss x14 (3 : Int) fun t15 =>
 .bool t15 (
 .onS x4 fun a16 =>
 .inb x14 3 (
 .ld ((a16.add (x14.toNat * 1)).block) ((a16.add (x14.toNat * 1)).off) fun v17 =>
 .kPtr v17 fun p18 =>
 .onS a5 fun a19 =>
 .inb (0 : Int) l6 (
 .ld ((a19.add ((0 : Int).toNat * 1)).block) ((a19.add ((0 : Int).toNat * 1)).off) fun v20 =>
 .kStr v20 fun s21 =>
 .wr .i64 ((2 : Int) + x9) fun n22 =>
 .call 8 [.pointer p18, .string s21, .int .i64 n22] fun r23 =>
 .onS x4 fun a24 =>
 .inb x14 3 (
 .ld ((a24.add (x14.toNat * 1)).block) ((a24.add (x14.toNat * 1)).off) fun v25 =>
 .kPtr v25 fun p26 =>
 .onS a10 fun a27 =>
 .inb (0 : Int) l11 (
 .ld ((a27.add ((0 : Int).toNat * 1)).block) ((a27.add ((0 : Int).toNat * 1)).off) fun v28 =>
 .kStr v28 fun s29 =>
 .wr .i64 ((2 : Int) + x9) fun n30 =>
 .call 8 [.pointer p26, .string s29, .int .i64 n30] fun r31 =>
 .kTup r31 fun vs32 =>
 .nthA vs32 0 fun v33 =>
 .kSl v33 fun a34 l35 c36 =>
 .kTup r31 fun vs37 =>
 .nthA vs37 1 fun v38 =>
 .kSl v38 fun a39 l40 c41 =>
 .cmp .eql ((l40 : Nat) : Int) (1 : Int) fun t42 =>
 .cmpV .eql .i64 (.int .i64 x14) x8 fun t43 =>
 .bool (!(t42 == t43)) (
 .ret (.bool false)) (
 .cmpV .eql .i64 (.int .i64 x14) x8 fun t44 =>
 .bool t44 (
 .onS a39 fun a45 =>
 .inb (0 : Int) l40 (
 .ld ((a45.add ((0 : Int).toNat * 1)).block) ((a45.add ((0 : Int).toNat * 1)).off) fun v46 =>
 .kStr v46 fun s47 =>
 .wr .i64 ((2 : Int) + x9) fun n48 =>
 .call 8 [.pointer x3, .string s47, .int .i64 n48] fun r49 =>
 .jmp 46 [.slice a0 l1 c2, .pointer x3, .pointer x4, .slice a5 l6 c7, x8, .int .i64 x9, .slice a10 l11 c12, x13, .int .i64 x14])) (
 .jmp 46 [.slice a0 l1 c2, .pointer x3, .pointer x4, .slice a5 l6 c7, x8, .int .i64 x9, .slice a10 l11 c12, x13, .int .i64 x14]))))))) (
 .call 12 [.pointer x3] fun r50 =>
 .tyI .i64 r50 fun v51 =>
 .arV .add .i64 x13 (.int .i64 (1 : Int)) fun v52 =>
 .cmpV .neq .i64 v51 v52 fun t53 =>
 .bool t53 (
 .ret (.bool false)) (
 .wr .i64 (x9 + (1 : Int)) fun n54 =>
 .jmp 100021 [.slice a0 l1 c2, .pointer x3, .pointer x4, .slice a5 l6 c7, .int .i64 n54]))
 | _ => .fail
noncomputable def cuts3 : Cuts := [(100004, [0, 3, 4, 23]), (100021, [0, 3, 4, 6, 10]), (100038, [0, 3, 4, 6, 9, 10, 15, 18, 129]), (46, [0, 3, 4, 6, 9, 10, 15, 18, 129]), (35, []), (36, [0, 3, 4, 6, 9, 10, 15]), (49, []), (24, [0, 3, 4, 6, 9, 10])]
noncomputable def L3 : Places := [(24, X3_24, todoOf Tryz.f3 24), (35, X3_35, todoOf Tryz.f3 35), (36, X3_36, todoOf Tryz.f3 36), (46, X3_46, todoOf Tryz.f3 46), (49, X3_49, todoOf Tryz.f3 49), (100004, X3_100004, todoOf Tryz.f3 100004), (100021, X3_100021, todoOf Tryz.f3 100021), (100038, X3_100038, todoOf Tryz.f3 100038)]
noncomputable def k3 : FCode := .of X3 L3 cuts3
theorem o3_24 : OOk Tryz.prog Tryz.f3 cuts3 L3 (24, X3_24, todoOf Tryz.f3 24) := by
  intro vs Γ m H r h; replace h : (X3_24 vs).run _ _ _ _ = _ := h; unfold X3_24 at h; split at h
  · replace h := M.iSl h; obtain ⟨_, _, _, rfl, h⟩ := h; replace h := M.iPtr h; obtain ⟨_, rfl, h⟩ := h; replace h := M.iPtr h; obtain ⟨_, rfl, h⟩ := h; replace h := M.iSl h; obtain ⟨_, _, _, rfl, h⟩ := h; replace h := M.iInt h; obtain ⟨_, rfl, h⟩ := h; exact Eq.trans (by kernel_rfl) h
  · exact M.iFail h
theorem o3_35 : OOk Tryz.prog Tryz.f3 cuts3 L3 (35, X3_35, todoOf Tryz.f3 35) := by
  intro vs Γ m H r h; replace h : (X3_35 vs).run _ _ _ _ = _ := h; unfold X3_35 at h; split at h
  · exact Eq.trans (by kernel_rfl) h
  · exact M.iFail h
theorem o3_36 : OOk Tryz.prog Tryz.f3 cuts3 L3 (36, X3_36, todoOf Tryz.f3 36) := by
  intro vs Γ m H r h; replace h : (X3_36 vs).run _ _ _ _ = _ := h; unfold X3_36 at h; split at h
  · replace h := M.iSl h; obtain ⟨_, _, _, rfl, h⟩ := h; replace h := M.iPtr h; obtain ⟨_, rfl, h⟩ := h; replace h := M.iPtr h; obtain ⟨_, rfl, h⟩ := h; replace h := M.iSl h; obtain ⟨_, _, _, rfl, h⟩ := h; replace h := M.iInt h; obtain ⟨_, rfl, h⟩ := h; replace h := M.iSl h; obtain ⟨_, _, _, rfl, h⟩ := h; exact Eq.trans (by kernel_rfl) h
  · exact M.iFail h
theorem o3_46 : OOk Tryz.prog Tryz.f3 cuts3 L3 (46, X3_46, todoOf Tryz.f3 46) := by
  intro vs Γ m H r h; replace h : (X3_46 vs).run _ _ _ _ = _ := h; unfold X3_46 at h; split at h
  · replace h := M.iSl h; obtain ⟨_, _, _, rfl, h⟩ := h; replace h := M.iPtr h; obtain ⟨_, rfl, h⟩ := h; replace h := M.iPtr h; obtain ⟨_, rfl, h⟩ := h; replace h := M.iSl h; obtain ⟨_, _, _, rfl, h⟩ := h; replace h := M.iInt h; obtain ⟨_, rfl, h⟩ := h; replace h := M.iSl h; obtain ⟨_, _, _, rfl, h⟩ := h; replace h := M.iInt h; obtain ⟨_, rfl, h⟩ := h; exact Eq.trans (by kernel_rfl) h
  · exact M.iFail h
theorem o3_49 : OOk Tryz.prog Tryz.f3 cuts3 L3 (49, X3_49, todoOf Tryz.f3 49) := by
  intro vs Γ m H r h; replace h : (X3_49 vs).run _ _ _ _ = _ := h; unfold X3_49 at h; split at h
  · exact Eq.trans (by kernel_rfl) h
  · exact M.iFail h
theorem o3_100004 : OOk Tryz.prog Tryz.f3 cuts3 L3 (100004, X3_100004, todoOf Tryz.f3 100004) := by
  intro vs Γ m H r h; replace h : (X3_100004 vs).run _ _ _ _ = _ := h; unfold X3_100004 at h; split at h
  · replace h := M.iSl h; obtain ⟨_, _, _, rfl, h⟩ := h; replace h := M.iPtr h; obtain ⟨_, rfl, h⟩ := h; replace h := M.iPtr h; obtain ⟨_, rfl, h⟩ := h; replace h := M.iInt h; obtain ⟨_, rfl, h⟩ := h; exact Eq.trans (by kernel_rfl) h
  · exact M.iFail h
theorem o3_100021 : OOk Tryz.prog Tryz.f3 cuts3 L3 (100021, X3_100021, todoOf Tryz.f3 100021) := by
  intro vs Γ m H r h; replace h : (X3_100021 vs).run _ _ _ _ = _ := h; unfold X3_100021 at h; split at h
  · replace h := M.iSl h; obtain ⟨_, _, _, rfl, h⟩ := h; replace h := M.iPtr h; obtain ⟨_, rfl, h⟩ := h; replace h := M.iPtr h; obtain ⟨_, rfl, h⟩ := h; replace h := M.iSl h; obtain ⟨_, _, _, rfl, h⟩ := h; replace h := M.iInt h; obtain ⟨_, rfl, h⟩ := h; exact Eq.trans (by kernel_rfl) h
  · exact M.iFail h
theorem o3_100038 : OOk Tryz.prog Tryz.f3 cuts3 L3 (100038, X3_100038, todoOf Tryz.f3 100038) := by
  intro vs Γ m H r h; replace h : (X3_100038 vs).run _ _ _ _ = _ := h; unfold X3_100038 at h; split at h
  · replace h := M.iSl h; obtain ⟨_, _, _, rfl, h⟩ := h; replace h := M.iPtr h; obtain ⟨_, rfl, h⟩ := h; replace h := M.iPtr h; obtain ⟨_, rfl, h⟩ := h; replace h := M.iSl h; obtain ⟨_, _, _, rfl, h⟩ := h; replace h := M.iInt h; obtain ⟨_, rfl, h⟩ := h; replace h := M.iSl h; obtain ⟨_, _, _, rfl, h⟩ := h; replace h := M.iInt h; obtain ⟨_, rfl, h⟩ := h; exact Eq.trans (by kernel_rfl) h
  · exact M.iFail h
theorem h3 : XOk Tryz.prog Tryz.f3 cuts3 L3 X3 := by
  intro Γ m args H r h; unfold X3 at h; split at h
  · replace h := M.iSl h; obtain ⟨_, _, _, rfl, h⟩ := h; exact ⟨Eq.trans (by kernel_rfl) h, Nat.le_of_ble_eq_true (by kernel_rfl)⟩
  · exact M.iFail h
theorem K3 : CodeOk Tryz.prog 3 k3 := .of Tryz.func3 (by kernel_rfl) (by kernel_rfl) h3 (fc o3_24 (fc o3_35 (fc o3_36 (fc o3_46 (fc o3_49 (fc o3_100004 (fc o3_100021 (fc o3_100038 fe))))))))
end Go.Proofs.YtgnkjpbecgpjoaaGreatDoor
