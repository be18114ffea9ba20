/- PRINTED by a program of the session (Pm.lean): functions of the program as texts, for concrete runs, each checked by the kernel. Conditions: none. -/
import Derived.Test.YtgnkjpbecgpjoaaGreatDoorPm1a
set_option linter.unusedVariables false
set_option linter.unusedSimpArgs false
namespace Go.Proofs.YtgnkjpbecgpjoaaGreatDoor
open Go Go.Proofs.YtgnkjpbecgpjoaaGreatDoor.Fw Go.RowKit
-- sternpost/table.New
noncomputable def X78 : List Value → M := fun args => match args with
 | [v0, v1] => .kAgg v0 fun x0 => .kInt .i64 v1 fun x1 => 
 .new (.cells x0.toList 0 true) fun b2 =>
 .ldn b2 0 8 fun cs3 =>
 .call 137 [.agg cs3] fun r4 =>
 .kInt .i64 r4 fun n5 =>
 .cmp .neq n5 (0 : Int) fun t6 =>
 .bool t6 (
 .ret (.tuple #[.pointer none, .int .i64 n5])) (
 .ld b2 (0 + 8) fun v7 =>
 .kInt .i64 v7 fun n8 =>
 .call 18 [.int .i64 n8] fun r9 =>
 .kInt .i64 r9 fun n10 =>
 .call 18 [.int .i64 x1] fun r11 =>
 .kInt .i64 r11 fun n12 =>
 .cmp .gtr (mxi n10 n12) (0 : Int) fun t13 =>
 .bool t13 (
 .jmp 5 []) (
 .ld b2 (0 + 9) fun v14 =>
 .kInt .i64 v14 fun n15 =>
 .ld b2 (0 + 10) fun v16 =>
 .kInt .i64 v16 fun n17 =>
 .cmp .lss (mni n15 n17) (1 : Int) fun t18 =>
 .bool t18 (
 .jmp 5 []) (
 .ld b2 (0 + 9) fun v19 =>
 .kInt .i64 v19 fun n20 =>
 .cmp .gtr n20 (64 : Int) fun t21 =>
 .bool t21 (
 .jmp 5 []) (
 .ld b2 (0 + 10) fun v22 =>
 .kInt .i64 v22 fun n23 =>
 .cmp .gtr n23 (256 : Int) fun t24 =>
 .bool t24 (
 .jmp 5 []) (
 .ldn b2 0 11 fun cs25 =>
 .new (.map [] [] 0) fun b26 =>
 .new (.map [] [] 0) fun b27 =>
 .new (.map [] [] 0) fun b28 =>
 .cellsOks [.agg cs25, .int .i64 x1, .map (some b26), .map (some b27), .map (some b28)] (.onS (Program.built Tryz.prog 263 (([0, 1, 3, 4, 5] : List Nat).zip [.agg cs25, .int .i64 x1, .map (some b26), .map (some b27), .map (some b28)])) fun cells29q =>
 .fxV (.agg cells29q) fun cells29v =>
 .kAgg cells29v fun cells29 =>
 .new (.cells cells29.toList 0 true) fun b30 =>
 .ret (.tuple #[.pointer (some (⟨b30, 0, none⟩ : Addr)), .int .i64 (0 : Int)])))))))
 | _ => .fail
noncomputable def X78_5 : List Value → M := fun args => match args with
 | [] => 
 .ret (.tuple #[.pointer none, .int .i64 (1 : Int)])
 | _ => .fail
noncomputable def cuts78 : Cuts := [(5, [])]
noncomputable def L78 : Places := [(5, X78_5, todoOf Tryz.f78 5)]
noncomputable def k78 : FCode := .of X78 L78 cuts78
theorem o78_5 : OOk Tryz.prog Tryz.f78 cuts78 L78 (5, X78_5, todoOf Tryz.f78 5) := by
  intro vs Γ m H r h; replace h : (X78_5 vs).run _ _ _ _ = _ := h; unfold X78_5 at h; split at h
  · exact Eq.trans (by kernel_rfl) h
  · exact M.iFail h
theorem h78 : XOk Tryz.prog Tryz.f78 cuts78 L78 X78 := by
  intro Γ m args H r h; unfold X78 at h; split at h
  · replace h := M.iAgg h; obtain ⟨_, rfl, h⟩ := h; replace h := M.iInt h; obtain ⟨_, rfl, h⟩ := h; exact ⟨Eq.trans (by kernel_rfl) h, Nat.le_of_ble_eq_true (by kernel_rfl)⟩
  · exact M.iFail h
theorem K78 : CodeOk Tryz.prog 78 k78 := .of Tryz.func78 (by kernel_rfl) (by kernel_rfl) h78 (fc o78_5 fe)
-- WARN 78: build of an unknown part
-- (*sternpost/sock.Box).Ask
noncomputable def X79 : List Value → M := fun args => match args with
 | [v0, v1, v2] => .kPtr v0 fun x0 => .kAgg v1 fun x1 => .kInt .i64 v2 fun x2 => 
 .new (.cells x1.toList 0 true) fun b3 =>
 .ldn b3 0 7 fun cs4 =>
 .cellsOks [.agg cs4] (.onS (Program.built Tryz.prog 267 (([0] : List Nat).zip [.agg cs4])) fun cells5q =>
 .fxV (.agg cells5q) fun cells5v =>
 .kAgg cells5v fun cells5 =>
 .new (.cells cells5.toList 0 true) fun b6 =>
 .ld b3 (0 + 1) fun v7 =>
 .kInt .i64 v7 fun n8 =>
 .cmp .lss n8 (1 : Int) fun t9 =>
 .bool t9 (
 .jmp 3 [.pointer (some (⟨b6, 0, none⟩ : Addr))]) (
 .ld b3 (0 + 1) fun v10 =>
 .kInt .i64 v10 fun n11 =>
 .cmp .gtr n11 (9 : Int) fun t12 =>
 .bool t12 (
 .jmp 3 [.pointer (some (⟨b6, 0, none⟩ : Addr))]) (
 .onS x0 fun a13 =>
 .ld a13.block (a13.off + 2) fun v14 =>
 .kSl v14 fun a15 l16 c17 =>
 .cmp .geq ((l16 : Nat) : Int) (64 : Int) fun t18 =>
 .bool t18 (
 .call 138 [.pointer (some (⟨b6, 0, none⟩ : Addr)), .int .i64 (2 : Int)] fun r19 =>
 .kPtr r19 fun p20 =>
 .onS p20 fun a21 =>
 .ldn a21.block a21.off 5 fun cs22 =>
 .cellsOks [.agg cs22] (.onS (Instr.fill (fun i => some (i * 5, 5)) ([.int .i64 (0 : Int), .int .i64 (0 : Int), .int .i64 (0 : Int), .int .i64 (0 : Int), .string (⟨#[]⟩ : ByteArray)] : List Value).toArray (([0] : List Nat).zip [.agg cs22])) fun cells23q =>
 .fxV (.agg cells23q) fun cells23v =>
 .kAgg cells23v fun cells23 =>
 .new (.cells cells23.toList 5 true) fun b24 =>
 .ret (.tuple #[.slice (some ⟨b24, 0, none⟩) 1 1, .slice none 0 0]))) (
 .onS x0 fun a25 =>
 .st 1 (⟨a25.block, a25.off + 4, none⟩ : Addr) (.int .i64 x2) (
 .onS x0 fun a27 =>
 .ld a27.block (a27.off + 2) fun v28 =>
 .kSl v28 fun a29 l30 c31 =>
 .new (.cells [.pointer (some (⟨b6, 0, none⟩ : Addr))] 1 true) fun b32 =>
 .firstC 1 (.slice (some ⟨b32, 0, none⟩) 1 1) fun n33 nw34 =>
 .app 264 (.slice a29 l30 c31) n33 nw34 fun v35 =>
 .kSl v35 fun a37 l38 c39 =>
 .onS x0 fun a40 =>
 .st 1 (⟨a40.block, a40.off + 2, none⟩ : Addr) (.slice a37 l38 c39) (
 .call 109 [.pointer x0] fun r42 =>
 .kTup r42 fun vs43 =>
 .nthA vs43 0 fun v44 =>
 .kSl v44 fun a45 l46 c47 =>
 .kTup r42 fun vs48 =>
 .nthA vs48 1 fun v49 =>
 .kSl v49 fun a50 l51 c52 =>
 .ret (.tuple #[.slice a45 l46 c47, .slice a50 l51 c52])))))))
 | _ => .fail
noncomputable def X79_3 : List Value → M := fun args => match args with
 | [v0] => .kPtr v0 fun x0 => 
 .call 138 [.pointer x0, .int .i64 (3 : Int)] fun r1 =>
 .kPtr r1 fun p2 =>
 .onS p2 fun a3 =>
 .ldn a3.block a3.off 5 fun cs4 =>
 .cellsOks [.agg cs4] (.onS (Instr.fill (fun i => some (i * 5, 5)) ([.int .i64 (0 : Int), .int .i64 (0 : Int), .int .i64 (0 : Int), .int .i64 (0 : Int), .string (⟨#[]⟩ : ByteArray)] : List Value).toArray (([0] : List Nat).zip [.agg cs4])) fun cells5q =>
 .fxV (.agg cells5q) fun cells5v =>
 .kAgg cells5v fun cells5 =>
 .new (.cells cells5.toList 5 true) fun b6 =>
 .ret (.tuple #[.slice (some ⟨b6, 0, none⟩) 1 1, .slice none 0 0]))
 | _ => .fail
noncomputable def cuts79 : Cuts := [(3, [8])]
noncomputable def L79 : Places := [(3, X79_3, todoOf Tryz.f79 3)]
noncomputable def k79 : FCode := .of X79 L79 cuts79
theorem o79_3 : OOk Tryz.prog Tryz.f79 cuts79 L79 (3, X79_3, todoOf Tryz.f79 3) := by
  intro vs Γ m H r h; replace h : (X79_3 vs).run _ _ _ _ = _ := h; unfold X79_3 at h; split at h
  · replace h := M.iPtr h; obtain ⟨_, rfl, h⟩ := h; exact Eq.trans (by kernel_rfl) h
  · exact M.iFail h
theorem h79 : XOk Tryz.prog Tryz.f79 cuts79 L79 X79 := by
  intro Γ m args H r h; unfold X79 at h; split at h
  · replace h := M.iPtr h; obtain ⟨_, rfl, h⟩ := h; replace h := M.iAgg h; obtain ⟨_, rfl, h⟩ := h; replace h := M.iInt h; obtain ⟨_, rfl, h⟩ := h; exact ⟨Eq.trans (by kernel_rfl) h, Nat.le_of_ble_eq_true (by kernel_rfl)⟩
  · exact M.iFail h
theorem K79 : CodeOk Tryz.prog 79 k79 := .of Tryz.func79 (by kernel_rfl) (by kernel_rfl) h79 (fc o79_3 fe)
-- WARN 79: build of an unknown part
-- (*sternpost/host.Host).accept
noncomputable def X80 : List Value → M := fun args => match args with
 | [v0] => .kPtr v0 fun x0 => 
 .call 139 [.pointer x0] fun r1 =>
 .kInt .i64 r1 fun n2 =>
 .onS x0 fun a3 =>
 .st 1 (⟨a3.block, (a3.off + 27) + 2, none⟩ : Addr) (.int .i64 n2) (
 .onS x0 fun a5 =>
 .ld a5.block (a5.off + 23) fun v6 =>
 .kPtr v6 fun p7 =>
 .onS x0 fun a8 =>
 .ld a8.block ((a8.off + 27) + 2) fun v9 =>
 .kInt .i64 v9 fun n10 =>
 .onS x0 fun a11 =>
 .ld a11.block (a11.off + 27) fun v12 =>
 .kInt .i64 v12 fun n13 =>
 .onS x0 fun a14 =>
 .ld a14.block (a14.off + 24) fun v15 =>
 .kInt .i64 v15 fun n16 =>
 .call 79 [.pointer p7, .agg #[.int .i64 n10, .int .i64 (2 : Int), .int .i64 n13, .int .i64 (0 : Int), .int .i64 (0 : Int), .int .i64 (0 : Int), .string (⟨#[]⟩ : ByteArray)], .int .i64 n16] fun r17 =>
 .kTup r17 fun vs18 =>
 .nthA vs18 0 fun v19 =>
 .kSl v19 fun a20 l21 c22 =>
 .kTup r17 fun vs23 =>
 .nthA vs23 1 fun v24 =>
 .kSl v24 fun a25 l26 c27 =>
 .call 62 [.pointer x0, .slice a20 l21 c22, .slice a25 l26 c27] fun r28 =>
 .ret (.tuple #[]))
 | _ => .fail
noncomputable def cuts80 : Cuts := []
noncomputable def L80 : Places := []
noncomputable def k80 : FCode := .of X80 L80 cuts80
theorem h80 : XOk Tryz.prog Tryz.f80 cuts80 L80 X80 := by
  intro Γ m args H r h; unfold X80 at h; split at h
  · replace h := M.iPtr h; obtain ⟨_, rfl, h⟩ := h; exact ⟨Eq.trans (by kernel_rfl) h, Nat.le_of_ble_eq_true (by kernel_rfl)⟩
  · exact M.iFail h
theorem K80 : CodeOk Tryz.prog 80 k80 := .of Tryz.func80 (by kernel_rfl) (by kernel_rfl) h80 fe
-- sternpost/icmp.Check
noncomputable def X81 : List Value → M := fun args => match args with
 | [v0] => .kAgg v0 fun x0 => 
 .new (.cells x0.toList 0 true) fun b1 =>
 .ld b1 0 fun v2 =>
 .kInt .i64 v2 fun n3 =>
 .ld b1 (0 + 1) fun v4 =>
 .kInt .i64 v4 fun n5 =>
 .ld b1 (0 + 2) fun v6 =>
 .kInt .i64 v6 fun n7 =>
 .ld b1 (0 + 3) fun v8 =>
 .kInt .i64 v8 fun n9 =>
 .cmp .lss (mni (mni (mni n3 n5) n7) n9) (0 : Int) fun t10 =>
 .bool t10 (
 .jmp 2 []) (
 .ld b1 0 fun v11 =>
 .kInt .i64 v11 fun n12 =>
 .ld b1 (0 + 1) fun v13 =>
 .kInt .i64 v13 fun n14 =>
 .cmp .gtr (mxi n12 n14) (255 : Int) fun t15 =>
 .bool t15 (
 .jmp 2 []) (
 .ld b1 (0 + 2) fun v16 =>
 .kInt .i64 v16 fun n17 =>
 .ld b1 (0 + 3) fun v18 =>
 .kInt .i64 v18 fun n19 =>
 .cmp .gtr (mxi n17 n19) (65535 : Int) fun t20 =>
 .bool t20 (
 .jmp 2 []) (
 .ld b1 (0 + 4) fun v21 =>
 .kStr v21 fun s22 =>
 .cmp .gtr (s22.size : Int) (65500 : Int) fun t23 =>
 .bool t23 (
 .jmp 2 []) (
 .ret (.int .i64 (0 : Int))))))
 | _ => .fail
noncomputable def X81_2 : List Value → M := fun args => match args with
 | [] => 
 .ret (.int .i64 (60 : Int))
 | _ => .fail
noncomputable def cuts81 : Cuts := [(2, [])]
noncomputable def L81 : Places := [(2, X81_2, todoOf Tryz.f81 2)]
noncomputable def k81 : FCode := .of X81 L81 cuts81
theorem o81_2 : OOk Tryz.prog Tryz.f81 cuts81 L81 (2, X81_2, todoOf Tryz.f81 2) := by
  intro vs Γ m H r h; replace h : (X81_2 vs).run _ _ _ _ = _ := h; unfold X81_2 at h; split at h
  · exact Eq.trans (by kernel_rfl) h
  · exact M.iFail h
theorem h81 : XOk Tryz.prog Tryz.f81 cuts81 L81 X81 := by
  intro Γ m args H r h; unfold X81 at h; split at h
  · replace h := M.iAgg h; obtain ⟨_, rfl, h⟩ := h; exact ⟨Eq.trans (by kernel_rfl) h, Nat.le_of_ble_eq_true (by kernel_rfl)⟩
  · exact M.iFail h
theorem K81 : CodeOk Tryz.prog 81 k81 := .of Tryz.func81 (by kernel_rfl) (by kernel_rfl) h81 (fc o81_2 fe)
-- sternpost/sum.Seal
noncomputable def X82 : List Value → M := fun args => match args with
 | [v0, v1] => .kStr v0 fun x0 => .kInt .i64 v1 fun x1 => 
 .cmp .lss x1 (0 : Int) fun t2 =>
 .bool t2 (
 .jmp 2 []) (
 .nite ((2 : Int) = 0) (
 .cmp .eql (x1.tmod (2 : Int)) (1 : Int) fun t3 =>
 .bool t3 (
 .jmp 2 []) (
 .wr .i64 ((x0.size : Int) - (2 : Int)) fun n4 =>
 .cmp .gtr x1 n4 fun t5 =>
 .bool t5 (
 .jmp 2 []) (
 .cmp .gtr (x0.size : Int) (65536 : Int) fun t6 =>
 .bool t6 (
 .ret (.tuple #[.string (⟨#[]⟩ : ByteArray), .int .i64 (2 : Int)])) (
 .slStr x0 (0 : Int) x1 fun s8 =>
 .wr .i64 (x1 + (2 : Int)) fun n9 =>
 .slStr x0 n9 (x0.size : Int) fun s11 =>
 .new (.cells [.string s8, .string (⟨#[0, 0]⟩ : ByteArray), .string s11] 1 true) fun b12 =>
 .call 94 [.slice (some ⟨b12, 0, none⟩) 3 3] fun r13 =>
 .kInt .i64 r13 fun n14 =>
 .wr .i64 ((65535 : Int) - n14) fun n15 =>
 .call 66 [.int .i64 n15, .int .i64 (2 : Int)] fun r16 =>
 .kTup r16 fun vs17 =>
 .nthA vs17 0 fun v18 =>
 .kStr v18 fun s19 =>
 .kTup r16 fun vs20 =>
 .nthA vs20 1 fun v21 =>
 .kInt .i64 v21 fun n22 =>
 .slStr x0 (0 : Int) x1 fun s24 =>
 .cat s24 s19 fun s25 =>
 .wr .i64 (x1 + (2 : Int)) fun n26 =>
 .slStr x0 n26 (x0.size : Int) fun s28 =>
 .cat s25 s28 fun s29 =>
 .ret (.tuple #[.string s29, .int .i64 n22]))))))
 | _ => .fail
noncomputable def X82_2 : List Value → M := fun args => match args with
 | [] => 
 .ret (.tuple #[.string (⟨#[]⟩ : ByteArray), .int .i64 (1 : Int)])
 | _ => .fail
noncomputable def cuts82 : Cuts := [(2, [])]
noncomputable def L82 : Places := [(2, X82_2, todoOf Tryz.f82 2)]
noncomputable def k82 : FCode := .of X82 L82 cuts82
theorem o82_2 : OOk Tryz.prog Tryz.f82 cuts82 L82 (2, X82_2, todoOf Tryz.f82 2) := by
  intro vs Γ m H r h; replace h : (X82_2 vs).run _ _ _ _ = _ := h; unfold X82_2 at h; split at h
  · exact Eq.trans (by kernel_rfl) h
  · exact M.iFail h
theorem h82 : XOk Tryz.prog Tryz.f82 cuts82 L82 X82 := by
  intro Γ m args H r h; unfold X82 at h; split at h
  · replace h := M.iStr h; obtain ⟨_, rfl, h⟩ := h; replace h := M.iInt h; obtain ⟨_, rfl, h⟩ := h; exact ⟨Eq.trans (by kernel_rfl) h, Nat.le_of_ble_eq_true (by kernel_rfl)⟩
  · exact M.iFail h
theorem K82 : CodeOk Tryz.prog 82 k82 := .of Tryz.func82 (by kernel_rfl) (by kernel_rfl) h82 (fc o82_2 fe)
-- sternpost/ip.Pieces
noncomputable def X83 : List Value → M := fun args => match args with
 | [v0, v1] => .kAgg v0 fun x0 => .kInt .i64 v1 fun x1 => 
 .new (.cells x0.toList 0 true) fun b2 =>
 .ldn b2 0 10 fun cs3 =>
 .call 56 [.agg cs3] fun r4 =>
 .kInt .i64 r4 fun n5 =>
 .cmp .neq n5 (0 : Int) fun t6 =>
 .bool t6 (
 .ret (.tuple #[.slice none 0 0, .int .i64 n5])) (
 .ldn b2 0 10 fun cs7 =>
 .call 96 [.agg cs7] fun r8 =>
 .kInt .i64 r8 fun n9 =>
 .wr .i64 (n9 + (8 : Int)) fun n10 =>
 .cmp .lss x1 n10 fun t11 =>
 .bool t11 (
 .jmp 5 []) (
 .cmp .gtr x1 (65535 : Int) fun t12 =>
 .bool t12 (
 .jmp 5 []) (
 .ldn b2 0 10 fun cs13 =>
 .ld b2 (0 + 9) fun v14 =>
 .kStr v14 fun s15 =>
 .snap b2 fun o16 =>
 .call 96 [.agg cs13] fun r17 =>
 .kInt .i64 r17 fun n18 =>
 .same b2 o16 (
 .wr .i64 (n18 + (s15.size : Int)) fun n19 =>
 .cmp .leq n19 x1 fun t20 =>
 .bool t20 (
 .jmp 7 [.pointer (some (⟨b2, 0, none⟩ : Addr))]) (
 .jmp 8 [.int .i64 x1, .pointer (some (⟨b2, 0, none⟩ : Addr))])))))
 | _ => .fail
noncomputable def X83_5 : List Value → M := fun args => match args with
 | [] => 
 .ret (.tuple #[.slice none 0 0, .int .i64 (1 : Int)])
 | _ => .fail
noncomputable def X83_7 : List Value → M := fun args => match args with
 | [v0] => .kPtr v0 fun x0 => 
 .onS x0 fun a1 =>
 .ldn a1.block a1.off 10 fun cs2 =>
 .cellsOks [.agg cs2] (.onS (Instr.fill (fun i => some (i * 10, 10)) ([.int .i64 (0 : Int), .int .i64 (0 : Int), .int .i64 (0 : Int), .int .i64 (0 : Int), .int .i64 (0 : Int), .int .i64 (0 : Int), .bool false, .bool false, .string (⟨#[]⟩ : ByteArray), .string (⟨#[]⟩ : ByteArray)] : List Value).toArray (([0] : List Nat).zip [.agg cs2])) fun cells3q =>
 .fxV (.agg cells3q) fun cells3v =>
 .kAgg cells3v fun cells3 =>
 .new (.cells cells3.toList 10 true) fun b4 =>
 .ret (.tuple #[.slice (some ⟨b4, 0, none⟩) 1 1, .int .i64 (0 : Int)]))
 | _ => .fail
noncomputable def X83_8 : List Value → M := fun args => match args with
 | [v0, v1] => .kInt .i64 v0 fun x0 => .kPtr v1 fun x1 => 
 .onS x1 fun a2 =>
 .ld a2.block (a2.off + 7) fun v3 =>
 .kBool v3 fun b4 =>
 .bool b4 (
 .ret (.tuple #[.slice none 0 0, .int .i64 (2 : Int)])) (
 .new (.cells [.slice none 0 0] 0 true) fun b5 =>
 .onS x1 fun a6 =>
 .ldn a6.block a6.off 10 fun cs7 =>
 .call 96 [.agg cs7] fun r8 =>
 .kInt .i64 r8 fun n9 =>
 .wr .i64 (x0 - n9) fun n10 =>
 .nite ((8 : Int) = 0) (
 .wr .i64 (n10.tdiv (8 : Int)) fun n11 =>
 .wr .i64 (n11 * (8 : Int)) fun n12 =>
 .jmp 100013 [.pointer x1, .pointer (some (⟨b5, 0, none⟩ : Addr)), .func (.func 140) #[] #[.pointer x1, .pointer (some (⟨b5, 0, none⟩ : Addr))], .int .i64 n12, .int .i64 (0 : Int)]))
 | _ => .fail
noncomputable def X83_100013 : List Value → M := fun args => match args with
 | [v0, v1, x2, v3, v4] => .kPtr v0 fun x0 => .kPtr v1 fun x1 => .kInt .i64 v3 fun x3 => .kInt .i64 v4 fun x4 => 
 .onS x0 fun a5 =>
 .ld a5.block (a5.off + 9) fun v6 =>
 .kStr v6 fun s7 =>
 .wr .i64 ((s7.size : Int) - x4) fun n8 =>
 .cmp .gtr n8 x3 fun t9 =>
 .bool t9 (
 .onS x0 fun a10 =>
 .ld a10.block (a10.off + 9) fun v11 =>
 .kStr v11 fun s12 =>
 .wr .i64 (x4 + x3) fun n13 =>
 .slStr s12 x4 n13 fun s15 =>
 .callV x2 [.int .i64 x4, .string s15, .bool true] fun r16 =>
 .wr .i64 (x4 + x3) fun n17 =>
 .jmp 100013 [.pointer x0, .pointer x1, x2, .int .i64 x3, .int .i64 n17]) (
 .onS x0 fun a18 =>
 .ld a18.block (a18.off + 9) fun v19 =>
 .kStr v19 fun s20 =>
 .slStr s20 x4 (s20.size : Int) fun s22 =>
 .onS x0 fun a23 =>
 .ld a23.block (a23.off + 6) fun v24 =>
 .kBool v24 fun b25 =>
 .callV x2 [.int .i64 x4, .string s22, .bool b25] fun r26 =>
 .onS x1 fun a27 =>
 .ld a27.block a27.off fun v28 =>
 .kSl v28 fun a29 l30 c31 =>
 .ret (.tuple #[.slice a29 l30 c31, .int .i64 (0 : Int)]))
 | _ => .fail
noncomputable def cuts83 : Cuts := [(100013, [2, 7, 8, 9, 10]), (7, [2]), (8, [1, 2]), (5, [])]
noncomputable def L83 : Places := [(5, X83_5, todoOf Tryz.f83 5), (7, X83_7, todoOf Tryz.f83 7), (8, X83_8, todoOf Tryz.f83 8), (100013, X83_100013, todoOf Tryz.f83 100013)]
noncomputable def k83 : FCode := .of X83 L83 cuts83
theorem o83_5 : OOk Tryz.prog Tryz.f83 cuts83 L83 (5, X83_5, todoOf Tryz.f83 5) := by
  intro vs Γ m H r h; replace h : (X83_5 vs).run _ _ _ _ = _ := h; unfold X83_5 at h; split at h
  · exact Eq.trans (by kernel_rfl) h
  · exact M.iFail h
theorem o83_7 : OOk Tryz.prog Tryz.f83 cuts83 L83 (7, X83_7, todoOf Tryz.f83 7) := by
  intro vs Γ m H r h; replace h : (X83_7 vs).run _ _ _ _ = _ := h; unfold X83_7 at h; split at h
  · replace h := M.iPtr h; obtain ⟨_, rfl, h⟩ := h; exact Eq.trans (by kernel_rfl) h
  · exact M.iFail h
theorem o83_8 : OOk Tryz.prog Tryz.f83 cuts83 L83 (8, X83_8, todoOf Tryz.f83 8) := by
  intro vs Γ m H r h; replace h : (X83_8 vs).run _ _ _ _ = _ := h; unfold X83_8 at h; split at h
  · replace h := M.iInt h; obtain ⟨_, rfl, h⟩ := h; replace h := M.iPtr h; obtain ⟨_, rfl, h⟩ := h; exact Eq.trans (by kernel_rfl) h
  · exact M.iFail h
theorem o83_100013 : OOk Tryz.prog Tryz.f83 cuts83 L83 (100013, X83_100013, todoOf Tryz.f83 100013) := by
  intro vs Γ m H r h; replace h : (X83_100013 vs).run _ _ _ _ = _ := h; unfold X83_100013 at h; split at h
  · replace h := M.iPtr h; obtain ⟨_, rfl, h⟩ := h; replace h := M.iPtr h; obtain ⟨_, rfl, h⟩ := h; replace h := M.iInt h; obtain ⟨_, rfl, h⟩ := h; replace h := M.iInt h; obtain ⟨_, rfl, h⟩ := h; exact Eq.trans (by kernel_rfl) h
  · exact M.iFail h
theorem h83 : XOk Tryz.prog Tryz.f83 cuts83 L83 X83 := by
  intro Γ m args H r h; unfold X83 at h; split at h
  · replace h := M.iAgg h; obtain ⟨_, rfl, h⟩ := h; replace h := M.iInt h; obtain ⟨_, rfl, h⟩ := h; exact ⟨Eq.trans (by kernel_rfl) h, Nat.le_of_ble_eq_true (by kernel_rfl)⟩
  · exact M.iFail h
theorem K83 : CodeOk Tryz.prog 83 k83 := .of Tryz.func83 (by kernel_rfl) (by kernel_rfl) h83 (fc o83_5 (fc o83_7 (fc o83_8 (fc o83_100013 fe))))
-- (*sternpost/neigh.Cache).Send
noncomputable def X84 : List Value → M := fun args => match args with
 | [v0, v1, v2, v3] => .kPtr v0 fun x0 => .kAgg v1 fun x1 => .kInt .i64 v2 fun x2 => .kInt .i64 v3 fun x3 => 
 .new (.cells x1.toList 0 true) fun b4 =>
 .new (.cells [.int .i64 (0 : Int), .int .i64 (0 : Int), .int .i64 (0 : Int), .int .i64 (0 : Int), .int .i64 (0 : Int)] 0 true) fun b5 =>
 .ldn b4 0 10 fun cs6 =>
 .call 56 [.agg cs6] fun r7 =>
 .kInt .i64 r7 fun n8 =>
 .cmp .eql n8 (0 : Int) fun t9 =>
 .bool t9 (
 .call 18 [.int .i64 x2] fun r10 =>
 .kInt .i64 r10 fun n11 =>
 .jmp 4 [.pointer x0, .int .i64 x2, .int .i64 x3, .pointer (some (⟨b4, 0, none⟩ : Addr)), .pointer (some (⟨b5, 0, none⟩ : Addr)), .int .i64 n11]) (
 .jmp 4 [.pointer x0, .int .i64 x2, .int .i64 x3, .pointer (some (⟨b4, 0, none⟩ : Addr)), .pointer (some (⟨b5, 0, none⟩ : Addr)), .int .i64 n8])
 | _ => .fail
noncomputable def X84_4 : List Value → M := fun args => match args with
 | [v0, v1, v2, v3, v4, v5] => .kPtr v0 fun x0 => .kInt .i64 v1 fun x1 => .kInt .i64 v2 fun x2 => .kPtr v3 fun x3 => .kPtr v4 fun x4 => .kInt .i64 v5 fun x5 => 
 .cmp .eql x5 (0 : Int) fun t6 =>
 .bool t6 (
 .call 88 [.pointer x0, .int .i64 x2] fun r7 =>
 .kInt .i64 r7 fun n8 =>
 .jmp 6 [.pointer x0, .int .i64 x1, .int .i64 x2, .pointer x3, .pointer x4, .int .i64 n8]) (
 .jmp 6 [.pointer x0, .int .i64 x1, .int .i64 x2, .pointer x3, .pointer x4, .int .i64 x5])
 | _ => .fail
noncomputable def X84_6 : List Value → M := fun args => match args with
 | [v0, v1, v2, v3, v4, v5] => .kPtr v0 fun x0 => .kInt .i64 v1 fun x1 => .kInt .i64 v2 fun x2 => .kPtr v3 fun x3 => .kPtr v4 fun x4 => .kInt .i64 v5 fun x5 => 
 .cmp .neq x5 (0 : Int) fun t6 =>
 .bool t6 (
 .onS x4 fun a7 =>
 .ldn a7.block a7.off 5 fun cs8 =>
 .opt (onSome x4 fun z => some z.block : Option Nat) (
 .onS x4 fun a14 =>
 .st 5 a14 (.agg cs8) (
 .onS x4 fun a16 =>
 .ldn a16.block a16.off 5 fun cs17 =>
 .ret (.tuple #[.int .i64 (0 : Int), .agg cs17, .int .i64 x5]))) (fun blk9 =>
 .onS x4 fun a10 =>
 .st 5 a10 (.agg cs8) (
 .onS x4 fun a12 =>
 .ldn a12.block a12.off 5 fun cs13 =>
 .ret (.tuple #[.int .i64 (0 : Int), .agg cs13, .int .i64 x5])))) (
 .call 89 [.pointer x0, .int .i64 x1, .int .i64 x2] fun r18 =>
 .kTup r18 fun vs19 =>
 .nthA vs19 0 fun v20 =>
 .kInt .i64 v20 fun n21 =>
 .kTup r18 fun vs22 =>
 .nthA vs22 1 fun v23 =>
 .kBool v23 fun b24 =>
 .bool b24 (
 .onS x4 fun a25 =>
 .ldn a25.block a25.off 5 fun cs26 =>
 .opt (onSome x4 fun z => some z.block : Option Nat) (
 .onS x4 fun a32 =>
 .st 5 a32 (.agg cs26) (
 .onS x4 fun a34 =>
 .ldn a34.block a34.off 5 fun cs35 =>
 .ret (.tuple #[.int .i64 n21, .agg cs35, .int .i64 (0 : Int)]))) (fun blk27 =>
 .onS x4 fun a28 =>
 .st 5 a28 (.agg cs26) (
 .onS x4 fun a30 =>
 .ldn a30.block a30.off 5 fun cs31 =>
 .ret (.tuple #[.int .i64 n21, .agg cs31, .int .i64 (0 : Int)])))) (
 .onS x0 fun a36 =>
 .ld a36.block (a36.off + 4) fun v37 =>
 .kInt .i64 v37 fun n38 =>
 .snap a36.block fun o39 =>
 .call 141 [.pointer x0] fun r40 =>
 .kInt .i64 r40 fun n41 =>
 .same a36.block o39 (
 .cmp .geq n41 n38 fun t42 =>
 .bool t42 (
 .onS x4 fun a43 =>
 .ldn a43.block a43.off 5 fun cs44 =>
 .opt (onSome x4 fun z => some z.block : Option Nat) (
 .onS x4 fun a50 =>
 .st 5 a50 (.agg cs44) (
 .onS x4 fun a52 =>
 .ldn a52.block a52.off 5 fun cs53 =>
 .ret (.tuple #[.int .i64 (0 : Int), .agg cs53, .int .i64 (150 : Int)]))) (fun blk45 =>
 .onS x4 fun a46 =>
 .st 5 a46 (.agg cs44) (
 .onS x4 fun a48 =>
 .ldn a48.block a48.off 5 fun cs49 =>
 .ret (.tuple #[.int .i64 (0 : Int), .agg cs49, .int .i64 (150 : Int)])))) (
 .onS x0 fun a54 =>
 .ld a54.block (a54.off + 8) fun v55 =>
 .kMp v55 fun r56 =>
 .lookupK 169 (.map r56) (.int .i64 x1) false fun v57 =>
 .kPtr v57 fun p58 =>
 .bool p58.isNone (
 .new (.cells [.int .i64 x2, .bool false, .slice none 0 0] 0 true) fun b59 =>
 .onS x0 fun a60 =>
 .ld a60.block (a60.off + 8) fun v61 =>
 .kMp v61 fun r62 =>
 .onS r62 fun q63 =>
 .mupd q63 (.int .i64 x1) (.pointer (some (⟨b59, 0, none⟩ : Addr))) (
 .call 126 [.pointer x0, .int .i64 x1] fun r64 =>
 .kAgg r64 fun cs65 =>
 .ite (cs65.size = 5) (
 .onS x4 fun a66 =>
 .st 5 a66 (.agg cs65) (
 .jmp 18 [.pointer x3, .pointer x4, .pointer (some (⟨b59, 0, none⟩ : Addr))])))) (
 .jmp 18 [.pointer x3, .pointer x4, .pointer p58])))))
 | _ => .fail
noncomputable def X84_18 : List Value → M := fun args => match args with
 | [v0, v1, v2] => .kPtr v0 fun x0 => .kPtr v1 fun x1 => .kPtr v2 fun x2 => 
 .onS x2 fun a3 =>
 .ld a3.block (a3.off + 2) fun v4 =>
 .kSl v4 fun a5 l6 c7 =>
 .onS x0 fun a8 =>
 .ldn a8.block a8.off 10 fun cs9 =>
 .opt (onSome x0 fun z => some z.block : Option Nat) (
 .cellsOks [.agg cs9] (.onS (Instr.fill (fun i => some (i * 10, 10)) ([.int .i64 (0 : Int), .int .i64 (0 : Int), .int .i64 (0 : Int), .int .i64 (0 : Int), .int .i64 (0 : Int), .int .i64 (0 : Int), .bool false, .bool false, .string (⟨#[]⟩ : ByteArray), .string (⟨#[]⟩ : ByteArray)] : List Value).toArray (([0] : List Nat).zip [.agg cs9])) fun cells22q =>
 .fxV (.agg cells22q) fun cells22v =>
 .kAgg cells22v fun cells22 =>
 .new (.cells cells22.toList 10 true) fun b23 =>
 .firstC 10 (.slice (some ⟨b23, 0, none⟩) 1 1) fun n24 nw25 =>
 .app 40 (.slice a5 l6 c7) n24 nw25 fun v26 =>
 .kSl v26 fun a28 l29 c30 =>
 .onS x2 fun a31 =>
 .st 1 (⟨a31.block, a31.off + 2, none⟩ : Addr) (.slice a28 l29 c30) (
 .jmp 19 [.pointer x1]))) (fun blk10 =>
 .cellsOks [.agg cs9] (.onS (Instr.fill (fun i => some (i * 10, 10)) ([.int .i64 (0 : Int), .int .i64 (0 : Int), .int .i64 (0 : Int), .int .i64 (0 : Int), .int .i64 (0 : Int), .int .i64 (0 : Int), .bool false, .bool false, .string (⟨#[]⟩ : ByteArray), .string (⟨#[]⟩ : ByteArray)] : List Value).toArray (([0] : List Nat).zip [.agg cs9])) fun cells11q =>
 .fxV (.agg cells11q) fun cells11v =>
 .kAgg cells11v fun cells11 =>
 .new (.cells cells11.toList 10 true) fun b12 =>
 .firstC 10 (.slice (some ⟨b12, 0, none⟩) 1 1) fun n13 nw14 =>
 .app 40 (.slice a5 l6 c7) n13 nw14 fun v15 =>
 .kSl v15 fun a17 l18 c19 =>
 .onS x2 fun a20 =>
 .st 1 (⟨a20.block, a20.off + 2, none⟩ : Addr) (.slice a17 l18 c19) (
 .jmp 19 [.pointer x1])))
 | _ => .fail
noncomputable def X84_19 : List Value → M := fun args => match args with
 | [v0] => .kPtr v0 fun x0 => 
 .onS x0 fun a1 =>
 .ldn a1.block a1.off 5 fun cs2 =>
 .opt (onSome x0 fun z => some z.block : Option Nat) (
 .onS x0 fun a8 =>
 .st 5 a8 (.agg cs2) (
 .onS x0 fun a10 =>
 .ldn a10.block a10.off 5 fun cs11 =>
 .ret (.tuple #[.int .i64 (0 : Int), .agg cs11, .int .i64 (110 : Int)]))) (fun blk3 =>
 .onS x0 fun a4 =>
 .st 5 a4 (.agg cs2) (
 .onS x0 fun a6 =>
 .ldn a6.block a6.off 5 fun cs7 =>
 .ret (.tuple #[.int .i64 (0 : Int), .agg cs7, .int .i64 (110 : Int)])))
 | _ => .fail
noncomputable def cuts84 : Cuts := [(18, [5, 9, 13]), (19, [9]), (6, [0, 2, 3, 5, 9, 10]), (4, [0, 2, 3, 5, 9, 10])]
noncomputable def L84 : Places := [(4, X84_4, todoOf Tryz.f84 4), (6, X84_6, todoOf Tryz.f84 6), (18, X84_18, todoOf Tryz.f84 18), (19, X84_19, todoOf Tryz.f84 19)]
noncomputable def k84 : FCode := .of X84 L84 cuts84
theorem o84_4 : OOk Tryz.prog Tryz.f84 cuts84 L84 (4, X84_4, todoOf Tryz.f84 4) := by
  intro vs Γ m H r h; replace h : (X84_4 vs).run _ _ _ _ = _ := h; unfold X84_4 at h; split at h
  · replace h := M.iPtr h; obtain ⟨_, rfl, h⟩ := h; replace h := M.iInt h; obtain ⟨_, rfl, h⟩ := h; replace h := M.iInt h; obtain ⟨_, rfl, h⟩ := h; replace h := M.iPtr h; obtain ⟨_, rfl, h⟩ := h; replace h := M.iPtr h; obtain ⟨_, rfl, h⟩ := h; replace h := M.iInt h; obtain ⟨_, rfl, h⟩ := h; exact Eq.trans (by kernel_rfl) h
  · exact M.iFail h
theorem o84_6 : OOk Tryz.prog Tryz.f84 cuts84 L84 (6, X84_6, todoOf Tryz.f84 6) := by
  intro vs Γ m H r h; replace h : (X84_6 vs).run _ _ _ _ = _ := h; unfold X84_6 at h; split at h
  · replace h := M.iPtr h; obtain ⟨_, rfl, h⟩ := h; replace h := M.iInt h; obtain ⟨_, rfl, h⟩ := h; replace h := M.iInt h; obtain ⟨_, rfl, h⟩ := h; replace h := M.iPtr h; obtain ⟨_, rfl, h⟩ := h; replace h := M.iPtr h; obtain ⟨_, rfl, h⟩ := h; replace h := M.iInt h; obtain ⟨_, rfl, h⟩ := h; exact Eq.trans (by kernel_rfl) h
  · exact M.iFail h
theorem o84_18 : OOk Tryz.prog Tryz.f84 cuts84 L84 (18, X84_18, todoOf Tryz.f84 18) := by
  intro vs Γ m H r h; replace h : (X84_18 vs).run _ _ _ _ = _ := h; unfold X84_18 at h; split at h
  · replace h := M.iPtr h; obtain ⟨_, rfl, h⟩ := h; replace h := M.iPtr h; obtain ⟨_, rfl, h⟩ := h; replace h := M.iPtr h; obtain ⟨_, rfl, h⟩ := h; exact Eq.trans (by kernel_rfl) h
  · exact M.iFail h
theorem o84_19 : OOk Tryz.prog Tryz.f84 cuts84 L84 (19, X84_19, todoOf Tryz.f84 19) := by
  intro vs Γ m H r h; replace h : (X84_19 vs).run _ _ _ _ = _ := h; unfold X84_19 at h; split at h
  · replace h := M.iPtr h; obtain ⟨_, rfl, h⟩ := h; exact Eq.trans (by kernel_rfl) h
  · exact M.iFail h
theorem h84 : XOk Tryz.prog Tryz.f84 cuts84 L84 X84 := by
  intro Γ m args H r h; unfold X84 at h; split at h
  · replace h := M.iPtr h; obtain ⟨_, rfl, h⟩ := h; replace h := M.iAgg h; obtain ⟨_, rfl, h⟩ := h; replace h := M.iInt h; obtain ⟨_, rfl, h⟩ := h; replace h := M.iInt h; obtain ⟨_, rfl, h⟩ := h; exact ⟨Eq.trans (by kernel_rfl) h, Nat.le_of_ble_eq_true (by kernel_rfl)⟩
  · exact M.iFail h
theorem K84 : CodeOk Tryz.prog 84 k84 := .of Tryz.func84 (by kernel_rfl) (by kernel_rfl) h84 (fc o84_4 (fc o84_6 (fc o84_18 (fc o84_19 fe))))
-- sternpost/ether.address
noncomputable def X85 : List Value → M := fun args => match args with
 | [v0] => .kInt .i64 v0 fun x0 => 
 .cmp .geq x0 (0 : Int) fun t1 =>
 .bool t1 (
 .cmp .leq x0 (281474976710655 : Int) fun t2 =>
 .ret (.bool t2)) (
 .ret (.bool false))
 | _ => .fail
noncomputable def cuts85 : Cuts := []
noncomputable def L85 : Places := []
noncomputable def k85 : FCode := .of X85 L85 cuts85
theorem h85 : XOk Tryz.prog Tryz.f85 cuts85 L85 X85 := by
  intro Γ m args H r h; unfold X85 at h; split at h
  · replace h := M.iInt h; obtain ⟨_, rfl, h⟩ := h; exact ⟨Eq.trans (by kernel_rfl) h, Nat.le_of_ble_eq_true (by kernel_rfl)⟩
  · exact M.iFail h
theorem K85 : CodeOk Tryz.prog 85 k85 := .of Tryz.func85 (by kernel_rfl) (by kernel_rfl) h85 fe
-- slices.Index[[]int,int]
noncomputable def X86 : List Value → M := fun args => match args with
 | [v0, v1] => .kSl v0 fun a0 l1 c2 => .kInt .i64 v1 fun x3 => 
 .fxI ((l1 : Nat) : Int) fun n4 =>
 .jmp 100002 [.slice a0 l1 c2, .int .i64 x3, .int .i64 n4, .int .i64 (0 : Int)]
 | _ => .fail
noncomputable def X86_100002 : List Value → M := fun args => match args with
 | [v0, v1, v2, v3] => .kSl v0 fun a0 l1 c2 => .kInt .i64 v1 fun x3 => .kInt .i64 v2 fun x4 => .kInt .i64 v3 fun x5 => 
 .cmp .lss x5 x4 fun t6 =>
 .bool t6 (
 .onS a0 fun a7 =>
 .inb x5 l1 (
 .ld ((a7.add (x5.toNat * 1)).block) ((a7.add (x5.toNat * 1)).off) fun v8 =>
 .kInt .i64 v8 fun n9 =>
 .cmp .eql x3 n9 fun t10 =>
 .bool t10 (
 .ret (.int .i64 x5)) (
 .wr .i64 (x5 + (1 : Int)) fun n11 =>
 .jmp 100002 [.slice a0 l1 c2, .int .i64 x3, .int .i64 x4, .int .i64 n11]))) (
 .ret (.int .i64 (-1 : Int)))
 | _ => .fail
noncomputable def cuts86 : Cuts := [(100002, [0, 1, 7, 8])]
noncomputable def L86 : Places := [(100002, X86_100002, todoOf Tryz.f86 100002)]
noncomputable def k86 : FCode := .of X86 L86 cuts86
theorem o86_100002 : OOk Tryz.prog Tryz.f86 cuts86 L86 (100002, X86_100002, todoOf Tryz.f86 100002) := by
  intro vs Γ m H r h; replace h : (X86_100002 vs).run _ _ _ _ = _ := h; unfold X86_100002 at h; split at h
  · replace h := M.iSl h; obtain ⟨_, _, _, rfl, h⟩ := h; replace h := M.iInt h; obtain ⟨_, rfl, h⟩ := h; replace h := M.iInt h; obtain ⟨_, rfl, h⟩ := h; replace h := M.iInt h; obtain ⟨_, rfl, h⟩ := h; exact Eq.trans (by kernel_rfl) h
  · exact M.iFail h
theorem h86 : XOk Tryz.prog Tryz.f86 cuts86 L86 X86 := by
  intro Γ m args H r h; unfold X86 at h; split at h
  · replace h := M.iSl h; obtain ⟨_, _, _, rfl, h⟩ := h; replace h := M.iInt h; obtain ⟨_, rfl, h⟩ := h; exact ⟨Eq.trans (by kernel_rfl) h, Nat.le_of_ble_eq_true (by kernel_rfl)⟩
  · exact M.iFail h
theorem K86 : CodeOk Tryz.prog 86 k86 := .of Tryz.func86 (by kernel_rfl) (by kernel_rfl) h86 (fc o86_100002 fe)
-- internal/stringslite.HasPrefix
noncomputable def X87 : List Value → M := fun args => match args with
 | [v0, v1] => .kStr v0 fun x0 => .kStr v1 fun x1 => 
 .cmp .geq (x0.size : Int) (x1.size : Int) fun t2 =>
 .bool t2 (
 .slStr x0 (0 : Int) (x1.size : Int) fun s4 =>
 .sEq s4 x1 fun t5 =>
 .ret (.bool t5)) (
 .ret (.bool false))
 | _ => .fail
noncomputable def cuts87 : Cuts := []
noncomputable def L87 : Places := []
noncomputable def k87 : FCode := .of X87 L87 cuts87
theorem h87 : XOk Tryz.prog Tryz.f87 cuts87 L87 X87 := by
  intro Γ m args H r h; unfold X87 at h; split at h
  · replace h := M.iStr h; obtain ⟨_, rfl, h⟩ := h; replace h := M.iStr h; obtain ⟨_, rfl, h⟩ := h; exact ⟨Eq.trans (by kernel_rfl) h, Nat.le_of_ble_eq_true (by kernel_rfl)⟩
  · exact M.iFail h
theorem K87 : CodeOk Tryz.prog 87 k87 := .of Tryz.func87 (by kernel_rfl) (by kernel_rfl) h87 fe
-- (*sternpost/neigh.Cache).tick
noncomputable def X88 : List Value → M := fun args => match args with
 | [v0, v1] => .kPtr v0 fun x0 => .kInt .i64 v1 fun x1 => 
 .onS x0 fun a2 =>
 .ld a2.block (a2.off + 5) fun v3 =>
 .kInt .i64 v3 fun n4 =>
 .cmp .lss x1 n4 fun t5 =>
 .bool t5 (
 .jmp 2 []) (
 .cmp .gtr x1 (1099511627776 : Int) fun t6 =>
 .bool t6 (
 .jmp 2 []) (
 .onS x0 fun a7 =>
 .st 1 (⟨a7.block, a7.off + 5, none⟩ : Addr) (.int .i64 x1) (
 .ret (.int .i64 (0 : Int)))))
 | _ => .fail
noncomputable def X88_2 : List Value → M := fun args => match args with
 | [] => 
 .ret (.int .i64 (1 : Int))
 | _ => .fail
noncomputable def cuts88 : Cuts := [(2, [])]
noncomputable def L88 : Places := [(2, X88_2, todoOf Tryz.f88 2)]
noncomputable def k88 : FCode := .of X88 L88 cuts88
theorem o88_2 : OOk Tryz.prog Tryz.f88 cuts88 L88 (2, X88_2, todoOf Tryz.f88 2) := by
  intro vs Γ m H r h; replace h : (X88_2 vs).run _ _ _ _ = _ := h; unfold X88_2 at h; split at h
  · exact Eq.trans (by kernel_rfl) h
  · exact M.iFail h
theorem h88 : XOk Tryz.prog Tryz.f88 cuts88 L88 X88 := by
  intro Γ m args H r h; unfold X88 at h; split at h
  · replace h := M.iPtr h; obtain ⟨_, rfl, h⟩ := h; replace h := M.iInt h; obtain ⟨_, rfl, h⟩ := h; exact ⟨Eq.trans (by kernel_rfl) h, Nat.le_of_ble_eq_true (by kernel_rfl)⟩
  · exact M.iFail h
theorem K88 : CodeOk Tryz.prog 88 k88 := .of Tryz.func88 (by kernel_rfl) (by kernel_rfl) h88 (fc o88_2 fe)
-- (*sternpost/neigh.Cache).Look
noncomputable def X89 : List Value → M := fun args => match args with
 | [v0, v1, v2] => .kPtr v0 fun x0 => .kInt .i64 v1 fun x1 => .kInt .i64 v2 fun x2 => 
 .onS x0 fun a3 =>
 .ld a3.block (a3.off + 7) fun v4 =>
 .kMp v4 fun r5 =>
 .lookupK 168 (.map r5) (.int .i64 x1) true fun v6 =>
 .kTup v6 fun vs7 =>
 .nthA vs7 0 fun v8 =>
 .kAgg v8 fun cs9 =>
 .ite (cs9.size = 2) (
 .kTup v6 fun vs10 =>
 .nthA vs10 1 fun v11 =>
 .kBool v11 fun b12 =>
 .new (.cells [.int .i64 (0 : Int), .int .i64 (0 : Int)] 0 true) fun b13 =>
 .st 2 (⟨b13, 0, none⟩ : Addr) (.agg cs9) (
 .bool (!b12) (
 .jmp 3 []) (
 .ldn b13 0 2 fun cs15 =>
 .call 142 [.pointer x0, .agg cs15, .int .i64 x2] fun r16 =>
 .kBool r16 fun b17 =>
 .bool (!b17) (
 .jmp 3 []) (
 .ld b13 0 fun v18 =>
 .kInt .i64 v18 fun n19 =>
 .ret (.tuple #[.int .i64 n19, .bool true])))))
 | _ => .fail
noncomputable def X89_3 : List Value → M := fun args => match args with
 | [] => 
 .ret (.tuple #[.int .i64 (0 : Int), .bool false])
 | _ => .fail
noncomputable def cuts89 : Cuts := [(3, [])]
noncomputable def L89 : Places := [(3, X89_3, todoOf Tryz.f89 3)]
noncomputable def k89 : FCode := .of X89 L89 cuts89
theorem o89_3 : OOk Tryz.prog Tryz.f89 cuts89 L89 (3, X89_3, todoOf Tryz.f89 3) := by
  intro vs Γ m H r h; replace h : (X89_3 vs).run _ _ _ _ = _ := h; unfold X89_3 at h; split at h
  · exact Eq.trans (by kernel_rfl) h
  · exact M.iFail h
theorem h89 : XOk Tryz.prog Tryz.f89 cuts89 L89 X89 := by
  intro Γ m args H r h; unfold X89 at h; split at h
  · replace h := M.iPtr h; obtain ⟨_, rfl, h⟩ := h; replace h := M.iInt h; obtain ⟨_, rfl, h⟩ := h; replace h := M.iInt h; obtain ⟨_, rfl, h⟩ := h; exact ⟨Eq.trans (by kernel_rfl) h, Nat.le_of_ble_eq_true (by kernel_rfl)⟩
  · exact M.iFail h
theorem K89 : CodeOk Tryz.prog 89 k89 := .of Tryz.func89 (by kernel_rfl) (by kernel_rfl) h89 (fc o89_3 fe)
-- (*sternpost/neigh.Cache).learn
noncomputable def X90 : List Value → M := fun args => match args with
 | [v0, v1, v2, v3] => .kPtr v0 fun x0 => .kInt .i64 v1 fun x1 => .kInt .i64 v2 fun x2 => .kInt .i64 v3 fun x3 => 
 .onS x0 fun a4 =>
 .ld a4.block (a4.off + 7) fun v5 =>
 .kMp v5 fun r6 =>
 .rng r6 fun v7 =>
 .jmp 100002 [.pointer x0, .int .i64 x1, .int .i64 x2, .int .i64 x3, .int .i64 (-1 : Int), v7]
 | _ => .fail
noncomputable def X90_5 : List Value → M := fun args => match args with
 | [v0, v1, v2, v3, v4, v5, x6] => .kPtr v0 fun x0 => .kInt .i64 v1 fun x1 => .kInt .i64 v2 fun x2 => .kInt .i64 v3 fun x3 => .kInt .i64 v4 fun x4 => .kInt .i64 v5 fun x5 => 
 .onS x0 fun a7 =>
 .ld a7.block (a7.off + 7) fun v8 =>
 .kMp v8 fun r9 =>
 .dele r9 (.int .i64 x5) (
 .jmp 100002 [.pointer x0, .int .i64 x1, .int .i64 x2, .int .i64 x3, .int .i64 x4, x6])
 | _ => .fail
noncomputable def X90_10 : List Value → M := fun args => match args with
 | [v0, v1, v2, v3, v4, v5, v6, v7] => .kPtr v0 fun x0 => .kInt .i64 v1 fun x1 => .kInt .i64 v2 fun x2 => .kInt .i64 v3 fun x3 => .kInt .i64 v4 fun x4 => .kSl v5 fun a5 l6 c7 => .kInt .i64 v6 fun x8 => .kInt .i64 v7 fun x9 => 
 .jmp 11 [.pointer x0, .int .i64 x1, .int .i64 x2, .int .i64 x3, .int .i64 x4, .slice a5 l6 c7, .int .i64 x8, .int .i64 x9]
 | _ => .fail
noncomputable def X90_11 : List Value → M := fun args => match args with
 | [v0, v1, v2, v3, v4, v5, v6, v7] => .kPtr v0 fun x0 => .kInt .i64 v1 fun x1 => .kInt .i64 v2 fun x2 => .kInt .i64 v3 fun x3 => .kInt .i64 v4 fun x4 => .kSl v5 fun a5 l6 c7 => .kInt .i64 v6 fun x8 => .kInt .i64 v7 fun x9 => 
 .wr .i64 (x9 + (1 : Int)) fun n10 =>
 .jmp 100007 [.pointer x0, .int .i64 x1, .int .i64 x2, .int .i64 x3, .int .i64 x4, .slice a5 l6 c7, .int .i64 x8, .int .i64 n10]
 | _ => .fail
noncomputable def X90_13 : List Value → M := fun args => match args with
 | [v0, v1, v2, v3, v4] => .kPtr v0 fun x0 => .kInt .i64 v1 fun x1 => .kInt .i64 v2 fun x2 => .kInt .i64 v3 fun x3 => .kInt .i64 v4 fun x4 => 
 .onS x0 fun a5 =>
 .ld a5.block (a5.off + 7) fun v6 =>
 .kMp v6 fun r7 =>
 .dele r7 (.int .i64 x4) (
 .jmp 14 [.pointer x0, .int .i64 x1, .int .i64 x2, .int .i64 x3])
 | _ => .fail
noncomputable def X90_14 : List Value → M := fun args => match args with
 | [v0, v1, v2, v3] => .kPtr v0 fun x0 => .kInt .i64 v1 fun x1 => .kInt .i64 v2 fun x2 => .kInt .i64 v3 fun x3 => 
 .onS x0 fun a4 =>
 .ld a4.block (a4.off + 7) fun v5 =>
 .kMp v5 fun r6 =>
 .onS r6 fun q7 =>
 .mupd q7 (.int .i64 x1) (.agg #[.int .i64 x2, .int .i64 x3]) (
 .ret (.tuple #[]))
 | _ => .fail
noncomputable def X90_100002 : List Value → M := fun args => match args with
 | [v0, v1, v2, v3, v4, x5] => .kPtr v0 fun x0 => .kInt .i64 v1 fun x1 => .kInt .i64 v2 fun x2 => .kInt .i64 v3 fun x3 => .kInt .i64 v4 fun x4 => 
 .kPtr x5 fun p6 =>
 .onS p6 fun a7 =>
 .nxt a7 fun v8 =>
 .kTup v8 fun vs9 =>
 .nthA vs9 0 fun v10 =>
 .kBool v10 fun b11 =>
 .bool b11 (
 .kPtr x5 fun p12 =>
 .onS p12 fun a13 =>
 .entr a13 fun v14 =>
 .kTup v14 fun vs15 =>
 .nthA vs15 0 fun v16 =>
 .kInt .i64 v16 fun n17 =>
 .kTup v14 fun vs18 =>
 .nthA vs18 1 fun v19 =>
 .kAgg v19 fun cs20 =>
 .ite (cs20.size = 2) (
 .new (.cells [.int .i64 (0 : Int), .int .i64 (0 : Int)] 0 true) fun b21 =>
 .st 2 (⟨b21, 0, none⟩ : Addr) (.agg cs20) (
 .cmp .eql n17 x1 fun t23 =>
 .bool t23 (
 .jmp 5 [.pointer x0, .int .i64 x1, .int .i64 x2, .int .i64 x3, .int .i64 x4, .int .i64 n17, x5]) (
 .ldn b21 0 2 fun cs24 =>
 .call 142 [.pointer x0, .agg cs24, .int .i64 x3] fun r25 =>
 .kBool r25 fun b26 =>
 .bool (!b26) (
 .jmp 5 [.pointer x0, .int .i64 x1, .int .i64 x2, .int .i64 x3, .int .i64 x4, .int .i64 n17, x5]) (
 .jmp 100002 [.pointer x0, .int .i64 x1, .int .i64 x2, .int .i64 x3, .int .i64 x4, x5]))))) (
 .onS x0 fun a27 =>
 .ld a27.block (a27.off + 7) fun v28 =>
 .kMp v28 fun r29 =>
 .call 143 [.map r29] fun r30 =>
 .call 124 [r30] fun r31 =>
 .kSl r31 fun a32 l33 c34 =>
 .fxI ((l33 : Nat) : Int) fun n35 =>
 .jmp 100007 [.pointer x0, .int .i64 x1, .int .i64 x2, .int .i64 x3, .int .i64 x4, .slice a32 l33 c34, .int .i64 n35, .int .i64 (0 : Int)])
 | _ => .fail
noncomputable def X90_100007 : List Value → M := fun args => match args with
 | [v0, v1, v2, v3, v4, v5, v6, v7] => .kPtr v0 fun x0 => .kInt .i64 v1 fun x1 => .kInt .i64 v2 fun x2 => .kInt .i64 v3 fun x3 => .kInt .i64 v4 fun x4 => .kSl v5 fun a5 l6 c7 => .kInt .i64 v6 fun x8 => .kInt .i64 v7 fun x9 => 
 .cmp .lss x9 x8 fun t10 =>
 .bool t10 (
 .onS a5 fun a11 =>
 .inb x9 l6 (
 .ld ((a11.add (x9.toNat * 1)).block) ((a11.add (x9.toNat * 1)).off) fun v12 =>
 .kInt .i64 v12 fun n13 =>
 .cmp .lss x4 (0 : Int) fun t14 =>
 .bool t14 (
 .jmp 10 [.pointer x0, .int .i64 x1, .int .i64 x2, .int .i64 x3, .int .i64 n13, .slice a5 l6 c7, .int .i64 x8, .int .i64 x9]) (
 .onS x0 fun a15 =>
 .ld a15.block (a15.off + 7) fun v16 =>
 .kMp v16 fun r17 =>
 .lookupK 168 (.map r17) (.int .i64 n13) false fun v18 =>
 .kAgg v18 fun cs19 =>
 .ite (cs19.size = 2) (
 .opt (r17 : Option Nat) (
 .nthA cs19 1 fun v35 =>
 .kInt .i64 v35 fun n36 =>
 .onS x0 fun a37 =>
 .ld a37.block (a37.off + 7) fun v38 =>
 .kMp v38 fun r39 =>
 .lookupK 168 (.map r39) (.int .i64 x4) false fun v40 =>
 .kAgg v40 fun cs41 =>
 .ite (cs41.size = 2) (
 .opt (r39 : Option Nat) (
 .nthA cs41 1 fun v46 =>
 .kInt .i64 v46 fun n47 =>
 .cmp .lss n36 n47 fun t48 =>
 .bool t48 (
 .jmp 10 [.pointer x0, .int .i64 x1, .int .i64 x2, .int .i64 x3, .int .i64 n13, .slice a5 l6 c7, .int .i64 x8, .int .i64 x9]) (
 .jmp 11 [.pointer x0, .int .i64 x1, .int .i64 x2, .int .i64 x3, .int .i64 x4, .slice a5 l6 c7, .int .i64 x8, .int .i64 x9])) (fun blk42 =>
 .nthA cs41 1 fun v43 =>
 .kInt .i64 v43 fun n44 =>
 .cmp .lss n36 n44 fun t45 =>
 .bool t45 (
 .jmp 10 [.pointer x0, .int .i64 x1, .int .i64 x2, .int .i64 x3, .int .i64 n13, .slice a5 l6 c7, .int .i64 x8, .int .i64 x9]) (
 .jmp 11 [.pointer x0, .int .i64 x1, .int .i64 x2, .int .i64 x3, .int .i64 x4, .slice a5 l6 c7, .int .i64 x8, .int .i64 x9])))) (fun blk20 =>
 .nthA cs19 1 fun v21 =>
 .kInt .i64 v21 fun n22 =>
 .onS x0 fun a23 =>
 .ld a23.block (a23.off + 7) fun v24 =>
 .kMp v24 fun r25 =>
 .lookupK 168 (.map r25) (.int .i64 x4) false fun v26 =>
 .kAgg v26 fun cs27 =>
 .ite (cs27.size = 2) (
 .opt (r25 : Option Nat) (
 .nthA cs27 1 fun v32 =>
 .kInt .i64 v32 fun n33 =>
 .cmp .lss n22 n33 fun t34 =>
 .bool t34 (
 .jmp 10 [.pointer x0, .int .i64 x1, .int .i64 x2, .int .i64 x3, .int .i64 n13, .slice a5 l6 c7, .int .i64 x8, .int .i64 x9]) (
 .jmp 11 [.pointer x0, .int .i64 x1, .int .i64 x2, .int .i64 x3, .int .i64 x4, .slice a5 l6 c7, .int .i64 x8, .int .i64 x9])) (fun blk28 =>
 .nthA cs27 1 fun v29 =>
 .kInt .i64 v29 fun n30 =>
 .cmp .lss n22 n30 fun t31 =>
 .bool t31 (
 .jmp 10 [.pointer x0, .int .i64 x1, .int .i64 x2, .int .i64 x3, .int .i64 n13, .slice a5 l6 c7, .int .i64 x8, .int .i64 x9]) (
 .jmp 11 [.pointer x0, .int .i64 x1, .int .i64 x2, .int .i64 x3, .int .i64 x4, .slice a5 l6 c7, .int .i64 x8, .int .i64 x9])))))))) (
 .onS x0 fun a49 =>
 .ld a49.block (a49.off + 7) fun v50 =>
 .kMp v50 fun r51 =>
 .ldmo r51 fun es52 =>
 .opt (r51 : Option Nat) (
 .onS x0 fun a58 =>
 .ld a58.block (a58.off + 3) fun v59 =>
 .kInt .i64 v59 fun n60 =>
 .cmp .geq (es52.length : Int) n60 fun t61 =>
 .bool t61 (
 .jmp 13 [.pointer x0, .int .i64 x1, .int .i64 x2, .int .i64 x3, .int .i64 x4]) (
 .jmp 14 [.pointer x0, .int .i64 x1, .int .i64 x2, .int .i64 x3])) (fun blk53 =>
 .onS x0 fun a54 =>
 .ld a54.block (a54.off + 3) fun v55 =>
 .kInt .i64 v55 fun n56 =>
 .cmp .geq (es52.length : Int) n56 fun t57 =>
 .bool t57 (
 .jmp 13 [.pointer x0, .int .i64 x1, .int .i64 x2, .int .i64 x3, .int .i64 x4]) (
 .jmp 14 [.pointer x0, .int .i64 x1, .int .i64 x2, .int .i64 x3])))
 | _ => .fail
noncomputable def cuts90 : Cuts := [(100002, [0, 1, 2, 3, 8, 17]), (100007, [0, 1, 2, 3, 8, 43, 44, 45]), (11, [0, 1, 2, 3, 8, 43, 44, 45]), (10, [0, 1, 2, 3, 12, 43, 44, 45]), (14, [0, 1, 2, 3]), (13, [0, 1, 2, 3, 8]), (5, [0, 1, 2, 3, 8, 9, 17])]
noncomputable def L90 : Places := [(5, X90_5, todoOf Tryz.f90 5), (10, X90_10, todoOf Tryz.f90 10), (11, X90_11, todoOf Tryz.f90 11), (13, X90_13, todoOf Tryz.f90 13), (14, X90_14, todoOf Tryz.f90 14), (100002, X90_100002, todoOf Tryz.f90 100002), (100007, X90_100007, todoOf Tryz.f90 100007)]
noncomputable def k90 : FCode := .of X90 L90 cuts90
theorem o90_5 : OOk Tryz.prog Tryz.f90 cuts90 L90 (5, X90_5, todoOf Tryz.f90 5) := by
  intro vs Γ m H r h; replace h : (X90_5 vs).run _ _ _ _ = _ := h; unfold X90_5 at h; split at h
  · replace h := M.iPtr h; obtain ⟨_, rfl, h⟩ := h; replace h := M.iInt h; obtain ⟨_, rfl, h⟩ := h; replace h := M.iInt h; obtain ⟨_, rfl, h⟩ := h; replace h := M.iInt h; obtain ⟨_, rfl, h⟩ := h; replace h := M.iInt h; obtain ⟨_, rfl, h⟩ := h; replace h := M.iInt h; obtain ⟨_, rfl, h⟩ := h; exact Eq.trans (by kernel_rfl) h
  · exact M.iFail h
theorem o90_10 : OOk Tryz.prog Tryz.f90 cuts90 L90 (10, X90_10, todoOf Tryz.f90 10) := by
  intro vs Γ m H r h; replace h : (X90_10 vs).run _ _ _ _ = _ := h; unfold X90_10 at h; split at h
  · replace h := M.iPtr h; obtain ⟨_, rfl, h⟩ := h; replace h := M.iInt h; obtain ⟨_, rfl, h⟩ := h; replace h := M.iInt h; obtain ⟨_, rfl, h⟩ := h; replace h := M.iInt h; obtain ⟨_, rfl, h⟩ := h; replace h := M.iInt h; obtain ⟨_, rfl, h⟩ := h; replace h := M.iSl h; obtain ⟨_, _, _, rfl, h⟩ := h; replace h := M.iInt h; obtain ⟨_, rfl, h⟩ := h; replace h := M.iInt h; obtain ⟨_, rfl, h⟩ := h; exact Eq.trans (by kernel_rfl) h
  · exact M.iFail h
theorem o90_11 : OOk Tryz.prog Tryz.f90 cuts90 L90 (11, X90_11, todoOf Tryz.f90 11) := by
  intro vs Γ m H r h; replace h : (X90_11 vs).run _ _ _ _ = _ := h; unfold X90_11 at h; split at h
  · replace h := M.iPtr h; obtain ⟨_, rfl, h⟩ := h; replace h := M.iInt h; obtain ⟨_, rfl, h⟩ := h; replace h := M.iInt h; obtain ⟨_, rfl, h⟩ := h; replace h := M.iInt h; obtain ⟨_, rfl, h⟩ := h; replace h := M.iInt h; obtain ⟨_, rfl, h⟩ := h; replace h := M.iSl h; obtain ⟨_, _, _, rfl, h⟩ := h; replace h := M.iInt h; obtain ⟨_, rfl, h⟩ := h; replace h := M.iInt h; obtain ⟨_, rfl, h⟩ := h; exact Eq.trans (by kernel_rfl) h
  · exact M.iFail h
theorem o90_13 : OOk Tryz.prog Tryz.f90 cuts90 L90 (13, X90_13, todoOf Tryz.f90 13) := by
  intro vs Γ m H r h; replace h : (X90_13 vs).run _ _ _ _ = _ := h; unfold X90_13 at h; split at h
  · replace h := M.iPtr h; obtain ⟨_, rfl, h⟩ := h; replace h := M.iInt h; obtain ⟨_, rfl, h⟩ := h; replace h := M.iInt h; obtain ⟨_, rfl, h⟩ := h; replace h := M.iInt h; obtain ⟨_, rfl, h⟩ := h; replace h := M.iInt h; obtain ⟨_, rfl, h⟩ := h; exact Eq.trans (by kernel_rfl) h
  · exact M.iFail h
theorem o90_14 : OOk Tryz.prog Tryz.f90 cuts90 L90 (14, X90_14, todoOf Tryz.f90 14) := by
  intro vs Γ m H r h; replace h : (X90_14 vs).run _ _ _ _ = _ := h; unfold X90_14 at h; split at h
  · replace h := M.iPtr h; obtain ⟨_, rfl, h⟩ := h; replace h := M.iInt h; obtain ⟨_, rfl, h⟩ := h; replace h := M.iInt h; obtain ⟨_, rfl, h⟩ := h; replace h := M.iInt h; obtain ⟨_, rfl, h⟩ := h; exact Eq.trans (by kernel_rfl) h
  · exact M.iFail h
theorem o90_100002 : OOk Tryz.prog Tryz.f90 cuts90 L90 (100002, X90_100002, todoOf Tryz.f90 100002) := by
  intro vs Γ m H r h; replace h : (X90_100002 vs).run _ _ _ _ = _ := h; unfold X90_100002 at h; split at h
  · replace h := M.iPtr h; obtain ⟨_, rfl, h⟩ := h; replace h := M.iInt h; obtain ⟨_, rfl, h⟩ := h; replace h := M.iInt h; obtain ⟨_, rfl, h⟩ := h; replace h := M.iInt h; obtain ⟨_, rfl, h⟩ := h; replace h := M.iInt h; obtain ⟨_, rfl, h⟩ := h; exact Eq.trans (by kernel_rfl) h
  · exact M.iFail h
theorem o90_100007 : OOk Tryz.prog Tryz.f90 cuts90 L90 (100007, X90_100007, todoOf Tryz.f90 100007) := by
  intro vs Γ m H r h; replace h : (X90_100007 vs).run _ _ _ _ = _ := h; unfold X90_100007 at h; split at h
  · replace h := M.iPtr h; obtain ⟨_, rfl, h⟩ := h; replace h := M.iInt h; obtain ⟨_, rfl, h⟩ := h; replace h := M.iInt h; obtain ⟨_, rfl, h⟩ := h; replace h := M.iInt h; obtain ⟨_, rfl, h⟩ := h; replace h := M.iInt h; obtain ⟨_, rfl, h⟩ := h; replace h := M.iSl h; obtain ⟨_, _, _, rfl, h⟩ := h; replace h := M.iInt h; obtain ⟨_, rfl, h⟩ := h; replace h := M.iInt h; obtain ⟨_, rfl, h⟩ := h; exact Eq.trans (by kernel_rfl) h
  · exact M.iFail h
theorem h90 : XOk Tryz.prog Tryz.f90 cuts90 L90 X90 := by
  intro Γ m args H r h; unfold X90 at h; split at h
  · replace h := M.iPtr h; obtain ⟨_, rfl, h⟩ := h; replace h := M.iInt h; obtain ⟨_, rfl, h⟩ := h; replace h := M.iInt h; obtain ⟨_, rfl, h⟩ := h; replace h := M.iInt h; obtain ⟨_, rfl, h⟩ := h; exact ⟨Eq.trans (by kernel_rfl) h, Nat.le_of_ble_eq_true (by kernel_rfl)⟩
  · exact M.iFail h
theorem K90 : CodeOk Tryz.prog 90 k90 := .of Tryz.func90 (by kernel_rfl) (by kernel_rfl) h90 (fc o90_5 (fc o90_10 (fc o90_11 (fc o90_13 (fc o90_14 (fc o90_100002 (fc o90_100007 fe)))))))
-- sternpost/arp.Tell
noncomputable def X91 : List Value → M := fun args => match args with
 | [v0, v1] => .kAgg v0 fun x0 => .kInt .i64 v1 fun x1 => 
 .new (.cells x0.toList 0 true) fun b2 =>
 .new (.cells [.int .i64 (0 : Int), .int .i64 (0 : Int), .int .i64 (0 : Int), .int .i64 (0 : Int), .int .i64 (0 : Int)] 0 true) fun b3 =>
 .ldn b2 0 5 fun cs4 =>
 .call 65 [.agg cs4] fun r5 =>
 .kInt .i64 r5 fun n6 =>
 .cmp .neq n6 (0 : Int) fun t7 =>
 .bool t7 (
 .jmp 2 [.pointer (some (⟨b3, 0, none⟩ : Addr))]) (
 .ld b2 0 fun v8 =>
 .kInt .i64 v8 fun n9 =>
 .cmp .neq n9 (1 : Int) fun t10 =>
 .bool t10 (
 .jmp 2 [.pointer (some (⟨b3, 0, none⟩ : Addr))]) (
 .ld b2 (0 + 4) fun v11 =>
 .kInt .i64 v11 fun n12 =>
 .ld b2 (0 + 1) fun v13 =>
 .kInt .i64 v13 fun n14 =>
 .ld b2 (0 + 2) fun v15 =>
 .kInt .i64 v15 fun n16 =>
 .call 50 [.agg #[.int .i64 (2 : Int), .int .i64 x1, .int .i64 n12, .int .i64 n14, .int .i64 n16]] fun r17 =>
 .kTup r17 fun vs18 =>
 .nthA vs18 0 fun v19 =>
 .kAgg v19 fun cs20 =>
 .ite (cs20.size = 5) (
 .kTup r17 fun vs21 =>
 .nthA vs21 1 fun v22 =>
 .kInt .i64 v22 fun n23 =>
 .st 5 (⟨b3, 0, none⟩ : Addr) (.agg cs20) (
 .ldn b3 0 5 fun cs25 =>
 .ret (.tuple #[.agg cs25, .int .i64 n23])))))
 | _ => .fail
noncomputable def X91_2 : List Value → M := fun args => match args with
 | [v0] => .kPtr v0 fun x0 => 
 .onS x0 fun a1 =>
 .st 5 a1 (.agg #[.int .i64 (0 : Int), .int .i64 (0 : Int), .int .i64 (0 : Int), .int .i64 (0 : Int), .int .i64 (0 : Int)]) (
 .onS x0 fun a3 =>
 .ldn a3.block a3.off 5 fun cs4 =>
 .ret (.tuple #[.agg cs4, .int .i64 (40 : Int)]))
 | _ => .fail
noncomputable def cuts91 : Cuts := [(2, [4])]
noncomputable def L91 : Places := [(2, X91_2, todoOf Tryz.f91 2)]
noncomputable def k91 : FCode := .of X91 L91 cuts91
theorem o91_2 : OOk Tryz.prog Tryz.f91 cuts91 L91 (2, X91_2, todoOf Tryz.f91 2) := by
  intro vs Γ m H r h; replace h : (X91_2 vs).run _ _ _ _ = _ := h; unfold X91_2 at h; split at h
  · replace h := M.iPtr h; obtain ⟨_, rfl, h⟩ := h; exact Eq.trans (by kernel_rfl) h
  · exact M.iFail h
theorem h91 : XOk Tryz.prog Tryz.f91 cuts91 L91 X91 := by
  intro Γ m args H r h; unfold X91 at h; split at h
  · replace h := M.iAgg h; obtain ⟨_, rfl, h⟩ := h; replace h := M.iInt h; obtain ⟨_, rfl, h⟩ := h; exact ⟨Eq.trans (by kernel_rfl) h, Nat.le_of_ble_eq_true (by kernel_rfl)⟩
  · exact M.iFail h
theorem K91 : CodeOk Tryz.prog 91 k91 := .of Tryz.func91 (by kernel_rfl) (by kernel_rfl) h91 (fc o91_2 fe)
-- (*sternpost/host.Host).frame
noncomputable def X92 : List Value → M := fun args => match args with
 | [v0, v1, v2, v3] => .kPtr v0 fun x0 => .kInt .i64 v1 fun x1 => .kInt .i64 v2 fun x2 => .kStr v3 fun x3 => 
 .onS x0 fun a4 =>
 .ld a4.block a4.off fun v5 =>
 .kInt .i64 v5 fun n6 =>
 .call 31 [.agg #[.int .i64 x1, .int .i64 n6, .int .i64 x2, .string x3]] fun r7 =>
 .kTup r7 fun vs8 =>
 .nthA vs8 0 fun v9 =>
 .kStr v9 fun s10 =>
 .kTup r7 fun vs11 =>
 .nthA vs11 1 fun v12 =>
 .kInt .i64 v12 fun n13 =>
 .cmp .eql n13 (0 : Int) fun t14 =>
 .bool t14 (
 .onS x0 fun a15 =>
 .ld a15.block (a15.off + 31) fun v16 =>
 .kSl v16 fun a17 l18 c19 =>
 .new (.cells [.string s10] 1 true) fun b20 =>
 .firstC 1 (.slice (some ⟨b20, 0, none⟩) 1 1) fun n21 nw22 =>
 .app 9 (.slice a17 l18 c19) n21 nw22 fun v23 =>
 .kSl v23 fun a25 l26 c27 =>
 .onS x0 fun a28 =>
 .st 1 (⟨a28.block, a28.off + 31, none⟩ : Addr) (.slice a25 l26 c27) (
 .ret (.tuple #[]))) (
 .ret (.tuple #[]))
 | _ => .fail
noncomputable def cuts92 : Cuts := []
noncomputable def L92 : Places := []
noncomputable def k92 : FCode := .of X92 L92 cuts92
theorem h92 : XOk Tryz.prog Tryz.f92 cuts92 L92 X92 := by
  intro Γ m args H r h; unfold X92 at h; split at h
  · replace h := M.iPtr h; obtain ⟨_, rfl, h⟩ := h; replace h := M.iInt h; obtain ⟨_, rfl, h⟩ := h; replace h := M.iInt h; obtain ⟨_, rfl, h⟩ := h; replace h := M.iStr h; obtain ⟨_, rfl, h⟩ := h; exact ⟨Eq.trans (by kernel_rfl) h, Nat.le_of_ble_eq_true (by kernel_rfl)⟩
  · exact M.iFail h
theorem K92 : CodeOk Tryz.prog 92 k92 := .of Tryz.func92 (by kernel_rfl) (by kernel_rfl) h92 fe
-- sternpost/ip.Encode
noncomputable def X93 : List Value → M := fun args => match args with
 | [v0] => .kAgg v0 fun x0 => 
 .new (.cells x0.toList 0 true) fun b1 =>
 .ldn b1 0 10 fun cs2 =>
 .call 56 [.agg cs2] fun r3 =>
 .kInt .i64 r3 fun n4 =>
 .cmp .neq n4 (0 : Int) fun t5 =>
 .bool t5 (
 .ret (.tuple #[.string (⟨#[]⟩ : ByteArray), .int .i64 n4])) (
 .ld b1 (0 + 5) fun v6 =>
 .kInt .i64 v6 fun n7 =>
 .ld b1 (0 + 7) fun v8 =>
 .kBool v8 fun b9 =>
 .bool b9 (
 .fxI (bits .or .i64 n7 (16384 : Int)) fun n10 =>
 .jmp 7 [.pointer (some (⟨b1, 0, none⟩ : Addr)), .int .i64 n10]) (
 .jmp 7 [.pointer (some (⟨b1, 0, none⟩ : Addr)), .int .i64 n7]))
 | _ => .fail
noncomputable def X93_7 : List Value → M := fun args => match args with
 | [v0, v1] => .kPtr v0 fun x0 => .kInt .i64 v1 fun x1 => 
 .onS x0 fun a2 =>
 .ld a2.block (a2.off + 6) fun v3 =>
 .kBool v3 fun b4 =>
 .bool b4 (
 .fxI (bits .or .i64 x1 (8192 : Int)) fun n5 =>
 .jmp 9 [.pointer x0, .int .i64 n5]) (
 .jmp 9 [.pointer x0, .int .i64 x1])
 | _ => .fail
noncomputable def X93_9 : List Value → M := fun args => match args with
 | [v0, v1] => .kPtr v0 fun x0 => .kInt .i64 v1 fun x1 => 
 .onS x0 fun a2 =>
 .ldn a2.block a2.off 10 fun cs3 =>
 .opt (onSome x0 fun z => some z.block : Option Nat) (
 .onS x0 fun a241 =>
 .ldn a241.block a241.off 10 fun cs242 =>
 .opt (onSome x0 fun z => some z.block : Option Nat) (
 .onS x0 fun a362 =>
 .ld a362.block (a362.off + 9) fun v363 =>
 .kStr v363 fun s364 =>
 .onS x0 fun a365 =>
 .ld a365.block (a365.off + 4) fun v366 =>
 .kInt .i64 v366 fun n367 =>
 .onS x0 fun a368 =>
 .ld a368.block (a368.off + 2) fun v369 =>
 .kInt .i64 v369 fun n370 =>
 .onS x0 fun a371 =>
 .ld a371.block (a371.off + 3) fun v372 =>
 .kInt .i64 v372 fun n373 =>
 .onS x0 fun a374 =>
 .ld a374.block a374.off fun v375 =>
 .kInt .i64 v375 fun n376 =>
 .onS x0 fun a377 =>
 .ld a377.block (a377.off + 1) fun v378 =>
 .kInt .i64 v378 fun n379 =>
 .onS x0 fun a380 =>
 .ld a380.block (a380.off + 8) fun v381 =>
 .kStr v381 fun s382 =>
 .snap a380.block fun o383 =>
 .snap a377.block fun o384 =>
 .snap a374.block fun o385 =>
 .snap a371.block fun o386 =>
 .snap a368.block fun o387 =>
 .snap a365.block fun o388 =>
 .snap a362.block fun o389 =>
 .call 96 [.agg cs3] fun r390 =>
 .kInt .i64 r390 fun n391 =>
 .same a380.block o383 (
 .same a377.block o384 (
 .same a374.block o385 (
 .same a371.block o386 (
 .same a368.block o387 (
 .same a365.block o388 (
 .same a362.block o389 (
 .nite ((4 : Int) = 0) (
 .wr .i64 (n391.tdiv (4 : Int)) fun n392 =>
 .snap a380.block fun o393 =>
 .snap a377.block fun o394 =>
 .snap a374.block fun o395 =>
 .snap a371.block fun o396 =>
 .snap a368.block fun o397 =>
 .snap a365.block fun o398 =>
 .snap a362.block fun o399 =>
 .fxI (bits .or .i64 (64 : Int) n392) fun n400 =>
 .call 144 [.int .i64 n400, .int .i64 (1 : Int)] fun r401 =>
 .kStr r401 fun s402 =>
 .same a380.block o393 (
 .same a377.block o394 (
 .same a374.block o395 (
 .same a371.block o396 (
 .same a368.block o397 (
 .same a365.block o398 (
 .same a362.block o399 (
 .snap a380.block fun o403 =>
 .snap a377.block fun o404 =>
 .snap a374.block fun o405 =>
 .snap a371.block fun o406 =>
 .snap a368.block fun o407 =>
 .snap a365.block fun o408 =>
 .snap a362.block fun o409 =>
 .call 144 [.int .i64 (0 : Int), .int .i64 (1 : Int)] fun r410 =>
 .kStr r410 fun s411 =>
 .same a380.block o403 (
 .same a377.block o404 (
 .same a374.block o405 (
 .same a371.block o406 (
 .same a368.block o407 (
 .same a365.block o408 (
 .same a362.block o409 (
 .cat s402 s411 fun s412 =>
 .snap a380.block fun o413 =>
 .snap a377.block fun o414 =>
 .snap a374.block fun o415 =>
 .snap a371.block fun o416 =>
 .snap a368.block fun o417 =>
 .snap a365.block fun o418 =>
 .snap a362.block fun o419 =>
 .call 96 [.agg cs242] fun r420 =>
 .kInt .i64 r420 fun n421 =>
 .same a380.block o413 (
 .same a377.block o414 (
 .same a374.block o415 (
 .same a371.block o416 (
 .same a368.block o417 (
 .same a365.block o418 (
 .same a362.block o419 (
 .wr .i64 (n421 + (s364.size : Int)) fun n422 =>
 .snap a380.block fun o423 =>
 .snap a377.block fun o424 =>
 .snap a374.block fun o425 =>
 .snap a371.block fun o426 =>
 .snap a368.block fun o427 =>
 .snap a365.block fun o428 =>
 .call 144 [.int .i64 n422, .int .i64 (2 : Int)] fun r429 =>
 .kStr r429 fun s430 =>
 .same a380.block o423 (
 .same a377.block o424 (
 .same a374.block o425 (
 .same a371.block o426 (
 .same a368.block o427 (
 .same a365.block o428 (
 .cat s412 s430 fun s431 =>
 .snap a380.block fun o432 =>
 .snap a377.block fun o433 =>
 .snap a374.block fun o434 =>
 .snap a371.block fun o435 =>
 .snap a368.block fun o436 =>
 .call 144 [.int .i64 n367, .int .i64 (2 : Int)] fun r437 =>
 .kStr r437 fun s438 =>
 .same a380.block o432 (
 .same a377.block o433 (
 .same a374.block o434 (
 .same a371.block o435 (
 .same a368.block o436 (
 .cat s431 s438 fun s439 =>
 .snap a380.block fun o440 =>
 .snap a377.block fun o441 =>
 .snap a374.block fun o442 =>
 .snap a371.block fun o443 =>
 .snap a368.block fun o444 =>
 .call 144 [.int .i64 x1, .int .i64 (2 : Int)] fun r445 =>
 .kStr r445 fun s446 =>
 .same a380.block o440 (
 .same a377.block o441 (
 .same a374.block o442 (
 .same a371.block o443 (
 .same a368.block o444 (
 .cat s439 s446 fun s447 =>
 .snap a380.block fun o448 =>
 .snap a377.block fun o449 =>
 .snap a374.block fun o450 =>
 .snap a371.block fun o451 =>
 .call 144 [.int .i64 n370, .int .i64 (1 : Int)] fun r452 =>
 .kStr r452 fun s453 =>
 .same a380.block o448 (
 .same a377.block o449 (
 .same a374.block o450 (
 .same a371.block o451 (
 .cat s447 s453 fun s454 =>
 .snap a380.block fun o455 =>
 .snap a377.block fun o456 =>
 .snap a374.block fun o457 =>
 .call 144 [.int .i64 n373, .int .i64 (1 : Int)] fun r458 =>
 .kStr r458 fun s459 =>
 .same a380.block o455 (
 .same a377.block o456 (
 .same a374.block o457 (
 .cat s454 s459 fun s460 =>
 .snap a380.block fun o461 =>
 .snap a377.block fun o462 =>
 .snap a374.block fun o463 =>
 .call 144 [.int .i64 (0 : Int), .int .i64 (2 : Int)] fun r464 =>
 .kStr r464 fun s465 =>
 .same a380.block o461 (
 .same a377.block o462 (
 .same a374.block o463 (
 .cat s460 s465 fun s466 =>
 .snap a380.block fun o467 =>
 .snap a377.block fun o468 =>
 .call 144 [.int .i64 n376, .int .i64 (4 : Int)] fun r469 =>
 .kStr r469 fun s470 =>
 .same a380.block o467 (
 .same a377.block o468 (
 .cat s466 s470 fun s471 =>
 .snap a380.block fun o472 =>
 .call 144 [.int .i64 n379, .int .i64 (4 : Int)] fun r473 =>
 .kStr r473 fun s474 =>
 .same a380.block o472 (
 .cat s471 s474 fun s475 =>
 .cat s475 s382 fun s476 =>
 .jmp 10 [.pointer x0, .string s476]))))))))))))))))))))))))))))))))))))))))))))))))))))))))))) (fun blk243 =>
 .onS x0 fun a244 =>
 .ld a244.block (a244.off + 9) fun v245 =>
 .kStr v245 fun s246 =>
 .onS x0 fun a247 =>
 .ld a247.block (a247.off + 4) fun v248 =>
 .kInt .i64 v248 fun n249 =>
 .onS x0 fun a250 =>
 .ld a250.block (a250.off + 2) fun v251 =>
 .kInt .i64 v251 fun n252 =>
 .onS x0 fun a253 =>
 .ld a253.block (a253.off + 3) fun v254 =>
 .kInt .i64 v254 fun n255 =>
 .onS x0 fun a256 =>
 .ld a256.block a256.off fun v257 =>
 .kInt .i64 v257 fun n258 =>
 .onS x0 fun a259 =>
 .ld a259.block (a259.off + 1) fun v260 =>
 .kInt .i64 v260 fun n261 =>
 .onS x0 fun a262 =>
 .ld a262.block (a262.off + 8) fun v263 =>
 .kStr v263 fun s264 =>
 .snap a262.block fun o265 =>
 .snap a259.block fun o266 =>
 .snap a256.block fun o267 =>
 .snap a253.block fun o268 =>
 .snap a250.block fun o269 =>
 .snap a247.block fun o270 =>
 .snap a244.block fun o271 =>
 .snap blk243 fun o272 =>
 .call 96 [.agg cs3] fun r273 =>
 .kInt .i64 r273 fun n274 =>
 .same a262.block o265 (
 .same a259.block o266 (
 .same a256.block o267 (
 .same a253.block o268 (
 .same a250.block o269 (
 .same a247.block o270 (
 .same a244.block o271 (
 .same blk243 o272 (
 .nite ((4 : Int) = 0) (
 .wr .i64 (n274.tdiv (4 : Int)) fun n275 =>
 .snap a262.block fun o276 =>
 .snap a259.block fun o277 =>
 .snap a256.block fun o278 =>
 .snap a253.block fun o279 =>
 .snap a250.block fun o280 =>
 .snap a247.block fun o281 =>
 .snap a244.block fun o282 =>
 .snap blk243 fun o283 =>
 .fxI (bits .or .i64 (64 : Int) n275) fun n284 =>
 .call 144 [.int .i64 n284, .int .i64 (1 : Int)] fun r285 =>
 .kStr r285 fun s286 =>
 .same a262.block o276 (
 .same a259.block o277 (
 .same a256.block o278 (
 .same a253.block o279 (
 .same a250.block o280 (
 .same a247.block o281 (
 .same a244.block o282 (
 .same blk243 o283 (
 .snap a262.block fun o287 =>
 .snap a259.block fun o288 =>
 .snap a256.block fun o289 =>
 .snap a253.block fun o290 =>
 .snap a250.block fun o291 =>
 .snap a247.block fun o292 =>
 .snap a244.block fun o293 =>
 .snap blk243 fun o294 =>
 .call 144 [.int .i64 (0 : Int), .int .i64 (1 : Int)] fun r295 =>
 .kStr r295 fun s296 =>
 .same a262.block o287 (
 .same a259.block o288 (
 .same a256.block o289 (
 .same a253.block o290 (
 .same a250.block o291 (
 .same a247.block o292 (
 .same a244.block o293 (
 .same blk243 o294 (
 .cat s286 s296 fun s297 =>
 .snap a262.block fun o298 =>
 .snap a259.block fun o299 =>
 .snap a256.block fun o300 =>
 .snap a253.block fun o301 =>
 .snap a250.block fun o302 =>
 .snap a247.block fun o303 =>
 .snap a244.block fun o304 =>
 .call 96 [.agg cs242] fun r305 =>
 .kInt .i64 r305 fun n306 =>
 .same a262.block o298 (
 .same a259.block o299 (
 .same a256.block o300 (
 .same a253.block o301 (
 .same a250.block o302 (
 .same a247.block o303 (
 .same a244.block o304 (
 .wr .i64 (n306 + (s246.size : Int)) fun n307 =>
 .snap a262.block fun o308 =>
 .snap a259.block fun o309 =>
 .snap a256.block fun o310 =>
 .snap a253.block fun o311 =>
 .snap a250.block fun o312 =>
 .snap a247.block fun o313 =>
 .call 144 [.int .i64 n307, .int .i64 (2 : Int)] fun r314 =>
 .kStr r314 fun s315 =>
 .same a262.block o308 (
 .same a259.block o309 (
 .same a256.block o310 (
 .same a253.block o311 (
 .same a250.block o312 (
 .same a247.block o313 (
 .cat s297 s315 fun s316 =>
 .snap a262.block fun o317 =>
 .snap a259.block fun o318 =>
 .snap a256.block fun o319 =>
 .snap a253.block fun o320 =>
 .snap a250.block fun o321 =>
 .call 144 [.int .i64 n249, .int .i64 (2 : Int)] fun r322 =>
 .kStr r322 fun s323 =>
 .same a262.block o317 (
 .same a259.block o318 (
 .same a256.block o319 (
 .same a253.block o320 (
 .same a250.block o321 (
 .cat s316 s323 fun s324 =>
 .snap a262.block fun o325 =>
 .snap a259.block fun o326 =>
 .snap a256.block fun o327 =>
 .snap a253.block fun o328 =>
 .snap a250.block fun o329 =>
 .call 144 [.int .i64 x1, .int .i64 (2 : Int)] fun r330 =>
 .kStr r330 fun s331 =>
 .same a262.block o325 (
 .same a259.block o326 (
 .same a256.block o327 (
 .same a253.block o328 (
 .same a250.block o329 (
 .cat s324 s331 fun s332 =>
 .snap a262.block fun o333 =>
 .snap a259.block fun o334 =>
 .snap a256.block fun o335 =>
 .snap a253.block fun o336 =>
 .call 144 [.int .i64 n252, .int .i64 (1 : Int)] fun r337 =>
 .kStr r337 fun s338 =>
 .same a262.block o333 (
 .same a259.block o334 (
 .same a256.block o335 (
 .same a253.block o336 (
 .cat s332 s338 fun s339 =>
 .snap a262.block fun o340 =>
 .snap a259.block fun o341 =>
 .snap a256.block fun o342 =>
 .call 144 [.int .i64 n255, .int .i64 (1 : Int)] fun r343 =>
 .kStr r343 fun s344 =>
 .same a262.block o340 (
 .same a259.block o341 (
 .same a256.block o342 (
 .cat s339 s344 fun s345 =>
 .snap a262.block fun o346 =>
 .snap a259.block fun o347 =>
 .snap a256.block fun o348 =>
 .call 144 [.int .i64 (0 : Int), .int .i64 (2 : Int)] fun r349 =>
 .kStr r349 fun s350 =>
 .same a262.block o346 (
 .same a259.block o347 (
 .same a256.block o348 (
 .cat s345 s350 fun s351 =>
 .snap a262.block fun o352 =>
 .snap a259.block fun o353 =>
 .call 144 [.int .i64 n258, .int .i64 (4 : Int)] fun r354 =>
 .kStr r354 fun s355 =>
 .same a262.block o352 (
 .same a259.block o353 (
 .cat s351 s355 fun s356 =>
 .snap a262.block fun o357 =>
 .call 144 [.int .i64 n261, .int .i64 (4 : Int)] fun r358 =>
 .kStr r358 fun s359 =>
 .same a262.block o357 (
 .cat s356 s359 fun s360 =>
 .cat s360 s264 fun s361 =>
 .jmp 10 [.pointer x0, .string s361]))))))))))))))))))))))))))))))))))))))))))))))))))))))))))))))) (fun blk4 =>
 .onS x0 fun a5 =>
 .ldn a5.block a5.off 10 fun cs6 =>
 .opt (onSome x0 fun z => some z.block : Option Nat) (
 .onS x0 fun a126 =>
 .ld a126.block (a126.off + 9) fun v127 =>
 .kStr v127 fun s128 =>
 .onS x0 fun a129 =>
 .ld a129.block (a129.off + 4) fun v130 =>
 .kInt .i64 v130 fun n131 =>
 .onS x0 fun a132 =>
 .ld a132.block (a132.off + 2) fun v133 =>
 .kInt .i64 v133 fun n134 =>
 .onS x0 fun a135 =>
 .ld a135.block (a135.off + 3) fun v136 =>
 .kInt .i64 v136 fun n137 =>
 .onS x0 fun a138 =>
 .ld a138.block a138.off fun v139 =>
 .kInt .i64 v139 fun n140 =>
 .onS x0 fun a141 =>
 .ld a141.block (a141.off + 1) fun v142 =>
 .kInt .i64 v142 fun n143 =>
 .onS x0 fun a144 =>
 .ld a144.block (a144.off + 8) fun v145 =>
 .kStr v145 fun s146 =>
 .snap a144.block fun o147 =>
 .snap a141.block fun o148 =>
 .snap a138.block fun o149 =>
 .snap a135.block fun o150 =>
 .snap a132.block fun o151 =>
 .snap a129.block fun o152 =>
 .snap a126.block fun o153 =>
 .call 96 [.agg cs3] fun r154 =>
 .kInt .i64 r154 fun n155 =>
 .same a144.block o147 (
 .same a141.block o148 (
 .same a138.block o149 (
 .same a135.block o150 (
 .same a132.block o151 (
 .same a129.block o152 (
 .same a126.block o153 (
 .nite ((4 : Int) = 0) (
 .wr .i64 (n155.tdiv (4 : Int)) fun n156 =>
 .snap a144.block fun o157 =>
 .snap a141.block fun o158 =>
 .snap a138.block fun o159 =>
 .snap a135.block fun o160 =>
 .snap a132.block fun o161 =>
 .snap a129.block fun o162 =>
 .snap a126.block fun o163 =>
 .fxI (bits .or .i64 (64 : Int) n156) fun n164 =>
 .call 144 [.int .i64 n164, .int .i64 (1 : Int)] fun r165 =>
 .kStr r165 fun s166 =>
 .same a144.block o157 (
 .same a141.block o158 (
 .same a138.block o159 (
 .same a135.block o160 (
 .same a132.block o161 (
 .same a129.block o162 (
 .same a126.block o163 (
 .snap a144.block fun o167 =>
 .snap a141.block fun o168 =>
 .snap a138.block fun o169 =>
 .snap a135.block fun o170 =>
 .snap a132.block fun o171 =>
 .snap a129.block fun o172 =>
 .snap a126.block fun o173 =>
 .call 144 [.int .i64 (0 : Int), .int .i64 (1 : Int)] fun r174 =>
 .kStr r174 fun s175 =>
 .same a144.block o167 (
 .same a141.block o168 (
 .same a138.block o169 (
 .same a135.block o170 (
 .same a132.block o171 (
 .same a129.block o172 (
 .same a126.block o173 (
 .cat s166 s175 fun s176 =>
 .snap a144.block fun o177 =>
 .snap a141.block fun o178 =>
 .snap a138.block fun o179 =>
 .snap a135.block fun o180 =>
 .snap a132.block fun o181 =>
 .snap a129.block fun o182 =>
 .snap a126.block fun o183 =>
 .call 96 [.agg cs6] fun r184 =>
 .kInt .i64 r184 fun n185 =>
 .same a144.block o177 (
 .same a141.block o178 (
 .same a138.block o179 (
 .same a135.block o180 (
 .same a132.block o181 (
 .same a129.block o182 (
 .same a126.block o183 (
 .wr .i64 (n185 + (s128.size : Int)) fun n186 =>
 .snap a144.block fun o187 =>
 .snap a141.block fun o188 =>
 .snap a138.block fun o189 =>
 .snap a135.block fun o190 =>
 .snap a132.block fun o191 =>
 .snap a129.block fun o192 =>
 .call 144 [.int .i64 n186, .int .i64 (2 : Int)] fun r193 =>
 .kStr r193 fun s194 =>
 .same a144.block o187 (
 .same a141.block o188 (
 .same a138.block o189 (
 .same a135.block o190 (
 .same a132.block o191 (
 .same a129.block o192 (
 .cat s176 s194 fun s195 =>
 .snap a144.block fun o196 =>
 .snap a141.block fun o197 =>
 .snap a138.block fun o198 =>
 .snap a135.block fun o199 =>
 .snap a132.block fun o200 =>
 .call 144 [.int .i64 n131, .int .i64 (2 : Int)] fun r201 =>
 .kStr r201 fun s202 =>
 .same a144.block o196 (
 .same a141.block o197 (
 .same a138.block o198 (
 .same a135.block o199 (
 .same a132.block o200 (
 .cat s195 s202 fun s203 =>
 .snap a144.block fun o204 =>
 .snap a141.block fun o205 =>
 .snap a138.block fun o206 =>
 .snap a135.block fun o207 =>
 .snap a132.block fun o208 =>
 .call 144 [.int .i64 x1, .int .i64 (2 : Int)] fun r209 =>
 .kStr r209 fun s210 =>
 .same a144.block o204 (
 .same a141.block o205 (
 .same a138.block o206 (
 .same a135.block o207 (
 .same a132.block o208 (
 .cat s203 s210 fun s211 =>
 .snap a144.block fun o212 =>
 .snap a141.block fun o213 =>
 .snap a138.block fun o214 =>
 .snap a135.block fun o215 =>
 .call 144 [.int .i64 n134, .int .i64 (1 : Int)] fun r216 =>
 .kStr r216 fun s217 =>
 .same a144.block o212 (
 .same a141.block o213 (
 .same a138.block o214 (
 .same a135.block o215 (
 .cat s211 s217 fun s218 =>
 .snap a144.block fun o219 =>
 .snap a141.block fun o220 =>
 .snap a138.block fun o221 =>
 .call 144 [.int .i64 n137, .int .i64 (1 : Int)] fun r222 =>
 .kStr r222 fun s223 =>
 .same a144.block o219 (
 .same a141.block o220 (
 .same a138.block o221 (
 .cat s218 s223 fun s224 =>
 .snap a144.block fun o225 =>
 .snap a141.block fun o226 =>
 .snap a138.block fun o227 =>
 .call 144 [.int .i64 (0 : Int), .int .i64 (2 : Int)] fun r228 =>
 .kStr r228 fun s229 =>
 .same a144.block o225 (
 .same a141.block o226 (
 .same a138.block o227 (
 .cat s224 s229 fun s230 =>
 .snap a144.block fun o231 =>
 .snap a141.block fun o232 =>
 .call 144 [.int .i64 n140, .int .i64 (4 : Int)] fun r233 =>
 .kStr r233 fun s234 =>
 .same a144.block o231 (
 .same a141.block o232 (
 .cat s230 s234 fun s235 =>
 .snap a144.block fun o236 =>
 .call 144 [.int .i64 n143, .int .i64 (4 : Int)] fun r237 =>
 .kStr r237 fun s238 =>
 .same a144.block o236 (
 .cat s235 s238 fun s239 =>
 .cat s239 s146 fun s240 =>
 .jmp 10 [.pointer x0, .string s240]))))))))))))))))))))))))))))))))))))))))))))))))))))))))))) (fun blk7 =>
 .onS x0 fun a8 =>
 .ld a8.block (a8.off + 9) fun v9 =>
 .kStr v9 fun s10 =>
 .onS x0 fun a11 =>
 .ld a11.block (a11.off + 4) fun v12 =>
 .kInt .i64 v12 fun n13 =>
 .onS x0 fun a14 =>
 .ld a14.block (a14.off + 2) fun v15 =>
 .kInt .i64 v15 fun n16 =>
 .onS x0 fun a17 =>
 .ld a17.block (a17.off + 3) fun v18 =>
 .kInt .i64 v18 fun n19 =>
 .onS x0 fun a20 =>
 .ld a20.block a20.off fun v21 =>
 .kInt .i64 v21 fun n22 =>
 .onS x0 fun a23 =>
 .ld a23.block (a23.off + 1) fun v24 =>
 .kInt .i64 v24 fun n25 =>
 .onS x0 fun a26 =>
 .ld a26.block (a26.off + 8) fun v27 =>
 .kStr v27 fun s28 =>
 .snap a26.block fun o29 =>
 .snap a23.block fun o30 =>
 .snap a20.block fun o31 =>
 .snap a17.block fun o32 =>
 .snap a14.block fun o33 =>
 .snap a11.block fun o34 =>
 .snap a8.block fun o35 =>
 .snap blk7 fun o36 =>
 .call 96 [.agg cs3] fun r37 =>
 .kInt .i64 r37 fun n38 =>
 .same a26.block o29 (
 .same a23.block o30 (
 .same a20.block o31 (
 .same a17.block o32 (
 .same a14.block o33 (
 .same a11.block o34 (
 .same a8.block o35 (
 .same blk7 o36 (
 .nite ((4 : Int) = 0) (
 .wr .i64 (n38.tdiv (4 : Int)) fun n39 =>
 .snap a26.block fun o40 =>
 .snap a23.block fun o41 =>
 .snap a20.block fun o42 =>
 .snap a17.block fun o43 =>
 .snap a14.block fun o44 =>
 .snap a11.block fun o45 =>
 .snap a8.block fun o46 =>
 .snap blk7 fun o47 =>
 .fxI (bits .or .i64 (64 : Int) n39) fun n48 =>
 .call 144 [.int .i64 n48, .int .i64 (1 : Int)] fun r49 =>
 .kStr r49 fun s50 =>
 .same a26.block o40 (
 .same a23.block o41 (
 .same a20.block o42 (
 .same a17.block o43 (
 .same a14.block o44 (
 .same a11.block o45 (
 .same a8.block o46 (
 .same blk7 o47 (
 .snap a26.block fun o51 =>
 .snap a23.block fun o52 =>
 .snap a20.block fun o53 =>
 .snap a17.block fun o54 =>
 .snap a14.block fun o55 =>
 .snap a11.block fun o56 =>
 .snap a8.block fun o57 =>
 .snap blk7 fun o58 =>
 .call 144 [.int .i64 (0 : Int), .int .i64 (1 : Int)] fun r59 =>
 .kStr r59 fun s60 =>
 .same a26.block o51 (
 .same a23.block o52 (
 .same a20.block o53 (
 .same a17.block o54 (
 .same a14.block o55 (
 .same a11.block o56 (
 .same a8.block o57 (
 .same blk7 o58 (
 .cat s50 s60 fun s61 =>
 .snap a26.block fun o62 =>
 .snap a23.block fun o63 =>
 .snap a20.block fun o64 =>
 .snap a17.block fun o65 =>
 .snap a14.block fun o66 =>
 .snap a11.block fun o67 =>
 .snap a8.block fun o68 =>
 .call 96 [.agg cs6] fun r69 =>
 .kInt .i64 r69 fun n70 =>
 .same a26.block o62 (
 .same a23.block o63 (
 .same a20.block o64 (
 .same a17.block o65 (
 .same a14.block o66 (
 .same a11.block o67 (
 .same a8.block o68 (
 .wr .i64 (n70 + (s10.size : Int)) fun n71 =>
 .snap a26.block fun o72 =>
 .snap a23.block fun o73 =>
 .snap a20.block fun o74 =>
 .snap a17.block fun o75 =>
 .snap a14.block fun o76 =>
 .snap a11.block fun o77 =>
 .call 144 [.int .i64 n71, .int .i64 (2 : Int)] fun r78 =>
 .kStr r78 fun s79 =>
 .same a26.block o72 (
 .same a23.block o73 (
 .same a20.block o74 (
 .same a17.block o75 (
 .same a14.block o76 (
 .same a11.block o77 (
 .cat s61 s79 fun s80 =>
 .snap a26.block fun o81 =>
 .snap a23.block fun o82 =>
 .snap a20.block fun o83 =>
 .snap a17.block fun o84 =>
 .snap a14.block fun o85 =>
 .call 144 [.int .i64 n13, .int .i64 (2 : Int)] fun r86 =>
 .kStr r86 fun s87 =>
 .same a26.block o81 (
 .same a23.block o82 (
 .same a20.block o83 (
 .same a17.block o84 (
 .same a14.block o85 (
 .cat s80 s87 fun s88 =>
 .snap a26.block fun o89 =>
 .snap a23.block fun o90 =>
 .snap a20.block fun o91 =>
 .snap a17.block fun o92 =>
 .snap a14.block fun o93 =>
 .call 144 [.int .i64 x1, .int .i64 (2 : Int)] fun r94 =>
 .kStr r94 fun s95 =>
 .same a26.block o89 (
 .same a23.block o90 (
 .same a20.block o91 (
 .same a17.block o92 (
 .same a14.block o93 (
 .cat s88 s95 fun s96 =>
 .snap a26.block fun o97 =>
 .snap a23.block fun o98 =>
 .snap a20.block fun o99 =>
 .snap a17.block fun o100 =>
 .call 144 [.int .i64 n16, .int .i64 (1 : Int)] fun r101 =>
 .kStr r101 fun s102 =>
 .same a26.block o97 (
 .same a23.block o98 (
 .same a20.block o99 (
 .same a17.block o100 (
 .cat s96 s102 fun s103 =>
 .snap a26.block fun o104 =>
 .snap a23.block fun o105 =>
 .snap a20.block fun o106 =>
 .call 144 [.int .i64 n19, .int .i64 (1 : Int)] fun r107 =>
 .kStr r107 fun s108 =>
 .same a26.block o104 (
 .same a23.block o105 (
 .same a20.block o106 (
 .cat s103 s108 fun s109 =>
 .snap a26.block fun o110 =>
 .snap a23.block fun o111 =>
 .snap a20.block fun o112 =>
 .call 144 [.int .i64 (0 : Int), .int .i64 (2 : Int)] fun r113 =>
 .kStr r113 fun s114 =>
 .same a26.block o110 (
 .same a23.block o111 (
 .same a20.block o112 (
 .cat s109 s114 fun s115 =>
 .snap a26.block fun o116 =>
 .snap a23.block fun o117 =>
 .call 144 [.int .i64 n22, .int .i64 (4 : Int)] fun r118 =>
 .kStr r118 fun s119 =>
 .same a26.block o116 (
 .same a23.block o117 (
 .cat s115 s119 fun s120 =>
 .snap a26.block fun o121 =>
 .call 144 [.int .i64 n25, .int .i64 (4 : Int)] fun r122 =>
 .kStr r122 fun s123 =>
 .same a26.block o121 (
 .cat s120 s123 fun s124 =>
 .cat s124 s28 fun s125 =>
 .jmp 10 [.pointer x0, .string s125])))))))))))))))))))))))))))))))))))))))))))))))))))))))))))))))
 | _ => .fail
noncomputable def X93_10 : List Value → M := fun args => match args with
 | [v0, v1] => .kPtr v0 fun x0 => .kStr v1 fun x1 => 
 .call 82 [.string x1, .int .i64 (10 : Int)] fun r2 =>
 .kTup r2 fun vs3 =>
 .nthA vs3 0 fun v4 =>
 .kStr v4 fun s5 =>
 .kTup r2 fun vs6 =>
 .nthA vs6 1 fun v7 =>
 .kInt .i64 v7 fun n8 =>
 .onS x0 fun a9 =>
 .ld a9.block (a9.off + 9) fun v10 =>
 .kStr v10 fun s11 =>
 .cat s5 s11 fun s12 =>
 .ret (.tuple #[.string s12, .int .i64 n8])
 | _ => .fail
noncomputable def cuts93 : Cuts := [(9, [1, 5]), (10, [1, 6]), (7, [1, 5])]
noncomputable def L93 : Places := [(7, X93_7, todoOf Tryz.f93 7), (9, X93_9, todoOf Tryz.f93 9), (10, X93_10, todoOf Tryz.f93 10)]
noncomputable def k93 : FCode := .of X93 L93 cuts93
theorem o93_7 : OOk Tryz.prog Tryz.f93 cuts93 L93 (7, X93_7, todoOf Tryz.f93 7) := by
  intro vs Γ m H r h; replace h : (X93_7 vs).run _ _ _ _ = _ := h; unfold X93_7 at h; split at h
  · replace h := M.iPtr h; obtain ⟨_, rfl, h⟩ := h; replace h := M.iInt h; obtain ⟨_, rfl, h⟩ := h; exact Eq.trans (by kernel_rfl) h
  · exact M.iFail h
theorem o93_9 : OOk Tryz.prog Tryz.f93 cuts93 L93 (9, X93_9, todoOf Tryz.f93 9) := by
  intro vs Γ m H r h; replace h : (X93_9 vs).run _ _ _ _ = _ := h; unfold X93_9 at h; split at h
  · replace h := M.iPtr h; obtain ⟨_, rfl, h⟩ := h; replace h := M.iInt h; obtain ⟨_, rfl, h⟩ := h; exact Eq.trans (by kernel_rfl) h
  · exact M.iFail h
theorem o93_10 : OOk Tryz.prog Tryz.f93 cuts93 L93 (10, X93_10, todoOf Tryz.f93 10) := by
  intro vs Γ m H r h; replace h : (X93_10 vs).run _ _ _ _ = _ := h; unfold X93_10 at h; split at h
  · replace h := M.iPtr h; obtain ⟨_, rfl, h⟩ := h; replace h := M.iStr h; obtain ⟨_, rfl, h⟩ := h; exact Eq.trans (by kernel_rfl) h
  · exact M.iFail h
theorem h93 : XOk Tryz.prog Tryz.f93 cuts93 L93 X93 := by
  intro Γ m args H r h; unfold X93 at h; split at h
  · replace h := M.iAgg h; obtain ⟨_, rfl, h⟩ := h; exact ⟨Eq.trans (by kernel_rfl) h, Nat.le_of_ble_eq_true (by kernel_rfl)⟩
  · exact M.iFail h
theorem K93 : CodeOk Tryz.prog 93 k93 := .of Tryz.func93 (by kernel_rfl) (by kernel_rfl) h93 (fc o93_7 (fc o93_9 (fc o93_10 fe)))
-- sternpost/sum.total
noncomputable def X94 : List Value → M := fun args => match args with
 | [v0] => .kSl v0 fun a0 l1 c2 => 
 .fxI ((l1 : Nat) : Int) fun n3 =>
 .jmp 100003 [.int .i64 (0 : Int), .int .i64 (0 : Int), .slice a0 l1 c2, .int .i64 n3, .int .i64 (0 : Int)]
 | _ => .fail
noncomputable def X94_100003 : List Value → M := fun args => match args with
 | [v0, v1, v2, v3, v4] => .kInt .i64 v0 fun x0 => .kInt .i64 v1 fun x1 => .kSl v2 fun a2 l3 c4 => .kInt .i64 v3 fun x5 => .kInt .i64 v4 fun x6 => 
 .cmp .lss x6 x5 fun t7 =>
 .bool t7 (
 .onS a2 fun a8 =>
 .inb x6 l3 (
 .ld ((a8.add (x6.toNat * 1)).block) ((a8.add (x6.toNat * 1)).off) fun v9 =>
 .kStr v9 fun s10 =>
 .fxI (s10.size : Int) fun n11 =>
 .jmp 100006 [.int .i64 x0, .int .i64 x1, .string s10, .slice a2 l3 c4, .int .i64 x5, .int .i64 x6, .int .i64 n11, .int .i64 (0 : Int)])) (
 .call 145 [.int .i64 x0] fun r12 =>
 .kInt .i64 r12 fun n13 =>
 .ret (.int .i64 n13))
 | _ => .fail
noncomputable def X94_100006 : List Value → M := fun args => match args with
 | [v0, v1, v2, v3, v4, v5, v6, v7] => .kInt .i64 v0 fun x0 => .kInt .i64 v1 fun x1 => .kStr v2 fun x2 => .kSl v3 fun a3 l4 c5 => .kInt .i64 v4 fun x6 => .kInt .i64 v5 fun x7 => .kInt .i64 v6 fun x8 => .kInt .i64 v7 fun x9 => 
 .cmp .lss x9 x8 fun t10 =>
 .bool t10 (
 .inb x9 x2.size (
 .byte x2 x9.toNat fun n11 =>
 .wr .i64 n11 fun n12 =>
 .nite ((2 : Int) = 0) (
 .wr .i64 ((x1.tmod (2 : Int)) * (8 : Int)) fun n13 =>
 .wr .i64 ((8 : Int) - n13) fun n14 =>
 .nite (n14 < 0) (
 .wr .i64 (n12 * 2 ^ (min n14.toNat IntKind.i64.bits)) fun n15 =>
 .wr .i64 (x0 + n15) fun n16 =>
 .wr .i64 (x1 + (1 : Int)) fun n17 =>
 .wr .i64 (x9 + (1 : Int)) fun n18 =>
 .jmp 100006 [.int .i64 n16, .int .i64 n17, .string x2, .slice a3 l4 c5, .int .i64 x6, .int .i64 x7, .int .i64 x8, .int .i64 n18])))) (
 .wr .i64 (x7 + (1 : Int)) fun n19 =>
 .jmp 100003 [.int .i64 x0, .int .i64 x1, .slice a3 l4 c5, .int .i64 x6, .int .i64 n19])
 | _ => .fail
noncomputable def cuts94 : Cuts := [(100003, [3, 4, 8, 9, 10]), (100006, [3, 4, 6, 8, 9, 10, 15, 16])]
noncomputable def L94 : Places := [(100003, X94_100003, todoOf Tryz.f94 100003), (100006, X94_100006, todoOf Tryz.f94 100006)]
noncomputable def k94 : FCode := .of X94 L94 cuts94
theorem o94_100003 : OOk Tryz.prog Tryz.f94 cuts94 L94 (100003, X94_100003, todoOf Tryz.f94 100003) := by
  intro vs Γ m H r h; replace h : (X94_100003 vs).run _ _ _ _ = _ := h; unfold X94_100003 at h; split at h
  · replace h := M.iInt h; obtain ⟨_, rfl, h⟩ := h; replace h := M.iInt h; obtain ⟨_, rfl, h⟩ := h; replace h := M.iSl h; obtain ⟨_, _, _, rfl, h⟩ := h; replace h := M.iInt h; obtain ⟨_, rfl, h⟩ := h; replace h := M.iInt h; obtain ⟨_, rfl, h⟩ := h; exact Eq.trans (by kernel_rfl) h
  · exact M.iFail h
theorem o94_100006 : OOk Tryz.prog Tryz.f94 cuts94 L94 (100006, X94_100006, todoOf Tryz.f94 100006) := by
  intro vs Γ m H r h; replace h : (X94_100006 vs).run _ _ _ _ = _ := h; unfold X94_100006 at h; split at h
  · replace h := M.iInt h; obtain ⟨_, rfl, h⟩ := h; replace h := M.iInt h; obtain ⟨_, rfl, h⟩ := h; replace h := M.iStr h; obtain ⟨_, rfl, h⟩ := h; replace h := M.iSl h; obtain ⟨_, _, _, rfl, h⟩ := h; replace h := M.iInt h; obtain ⟨_, rfl, h⟩ := h; replace h := M.iInt h; obtain ⟨_, rfl, h⟩ := h; replace h := M.iInt h; obtain ⟨_, rfl, h⟩ := h; replace h := M.iInt h; obtain ⟨_, rfl, h⟩ := h; exact Eq.trans (by kernel_rfl) h
  · exact M.iFail h
theorem h94 : XOk Tryz.prog Tryz.f94 cuts94 L94 X94 := by
  intro Γ m args H r h; unfold X94 at h; split at h
  · replace h := M.iSl h; obtain ⟨_, _, _, rfl, h⟩ := h; exact ⟨Eq.trans (by kernel_rfl) h, Nat.le_of_ble_eq_true (by kernel_rfl)⟩
  · exact M.iFail h
theorem K94 : CodeOk Tryz.prog 94 k94 := .of Tryz.func94 (by kernel_rfl) (by kernel_rfl) h94 (fc o94_100003 (fc o94_100006 fe))
-- sternpost/ip.within
noncomputable def X95 : List Value → M := fun args => match args with
 | [v0, v1] => .kInt .i64 v0 fun x0 => .kSl v1 fun a1 l2 c3 => 
 .fxI ((l2 : Nat) : Int) fun n4 =>
 .jmp 100002 [.int .i64 x0, .slice a1 l2 c3, .int .i64 n4, .int .i64 (0 : Int)]
 | _ => .fail
noncomputable def X95_5 : List Value → M := fun args => match args with
 | [] => 
 .ret (.bool false)
 | _ => .fail
noncomputable def X95_100002 : List Value → M := fun args => match args with
 | [v0, v1, v2, v3] => .kInt .i64 v0 fun x0 => .kSl v1 fun a1 l2 c3 => .kInt .i64 v2 fun x4 => .kInt .i64 v3 fun x5 => 
 .cmp .lss x5 x4 fun t6 =>
 .bool t6 (
 .onS a1 fun a7 =>
 .inb x5 l2 (
 .ld ((a7.add (x5.toNat * 1)).block) ((a7.add (x5.toNat * 1)).off) fun v8 =>
 .kInt .i64 v8 fun n9 =>
 .cmp .lss n9 (0 : Int) fun t10 =>
 .bool t10 (
 .jmp 5 []) (
 .cmp .gtr n9 x0 fun t11 =>
 .bool t11 (
 .jmp 5 []) (
 .wr .i64 (x5 + (1 : Int)) fun n12 =>
 .jmp 100002 [.int .i64 x0, .slice a1 l2 c3, .int .i64 x4, .int .i64 n12])))) (
 .ret (.bool true))
 | _ => .fail
noncomputable def cuts95 : Cuts := [(100002, [0, 7, 8, 9]), (5, [])]
noncomputable def L95 : Places := [(5, X95_5, todoOf Tryz.f95 5), (100002, X95_100002, todoOf Tryz.f95 100002)]
noncomputable def k95 : FCode := .of X95 L95 cuts95
theorem o95_5 : OOk Tryz.prog Tryz.f95 cuts95 L95 (5, X95_5, todoOf Tryz.f95 5) := by
  intro vs Γ m H r h; replace h : (X95_5 vs).run _ _ _ _ = _ := h; unfold X95_5 at h; split at h
  · exact Eq.trans (by kernel_rfl) h
  · exact M.iFail h
theorem o95_100002 : OOk Tryz.prog Tryz.f95 cuts95 L95 (100002, X95_100002, todoOf Tryz.f95 100002) := by
  intro vs Γ m H r h; replace h : (X95_100002 vs).run _ _ _ _ = _ := h; unfold X95_100002 at h; split at h
  · replace h := M.iInt h; obtain ⟨_, rfl, h⟩ := h; replace h := M.iSl h; obtain ⟨_, _, _, rfl, h⟩ := h; replace h := M.iInt h; obtain ⟨_, rfl, h⟩ := h; replace h := M.iInt h; obtain ⟨_, rfl, h⟩ := h; exact Eq.trans (by kernel_rfl) h
  · exact M.iFail h
theorem h95 : XOk Tryz.prog Tryz.f95 cuts95 L95 X95 := by
  intro Γ m args H r h; unfold X95 at h; split at h
  · replace h := M.iInt h; obtain ⟨_, rfl, h⟩ := h; replace h := M.iSl h; obtain ⟨_, _, _, rfl, h⟩ := h; exact ⟨Eq.trans (by kernel_rfl) h, Nat.le_of_ble_eq_true (by kernel_rfl)⟩
  · exact M.iFail h
theorem K95 : CodeOk Tryz.prog 95 k95 := .of Tryz.func95 (by kernel_rfl) (by kernel_rfl) h95 (fc o95_5 (fc o95_100002 fe))
-- sternpost/ip.head
noncomputable def X96 : List Value → M := fun args => match args with
 | [v0] => .kAgg v0 fun x0 => 
 .new (.cells x0.toList 0 true) fun b1 =>
 .ld b1 (0 + 8) fun v2 =>
 .kStr v2 fun s3 =>
 .wr .i64 ((20 : Int) + (s3.size : Int)) fun n4 =>
 .ret (.int .i64 n4)
 | _ => .fail
noncomputable def cuts96 : Cuts := []
noncomputable def L96 : Places := []
noncomputable def k96 : FCode := .of X96 L96 cuts96
theorem h96 : XOk Tryz.prog Tryz.f96 cuts96 L96 X96 := by
  intro Γ m args H r h; unfold X96 at h; split at h
  · replace h := M.iAgg h; obtain ⟨_, rfl, h⟩ := h; exact ⟨Eq.trans (by kernel_rfl) h, Nat.le_of_ble_eq_true (by kernel_rfl)⟩
  · exact M.iFail h
theorem K96 : CodeOk Tryz.prog 96 k96 := .of Tryz.func96 (by kernel_rfl) (by kernel_rfl) h96 fe
-- slices.Clone[[]int,int]
noncomputable def X97 : List Value → M := fun args => match args with
 | [v0] => .kSl v0 fun a0 l1 c2 => 
 .bool a0.isNone (
 .ret (.slice none 0 0)) (
 .new (.cells [] 1 true) fun b3 =>
 .firstC 1 (.slice a0 l1 c2) fun n4 nw5 =>
 .app 3 (.slice (some ⟨b3, 0, none⟩) 0 0) n4 nw5 fun v6 =>
 .kSl v6 fun a8 l9 c10 =>
 .ret (.slice a8 l9 c10))
 | _ => .fail
noncomputable def cuts97 : Cuts := []
noncomputable def L97 : Places := []
noncomputable def k97 : FCode := .of X97 L97 cuts97
theorem h97 : XOk Tryz.prog Tryz.f97 cuts97 L97 X97 := by
  intro Γ m args H r h; unfold X97 at h; split at h
  · replace h := M.iSl h; obtain ⟨_, _, _, rfl, h⟩ := h; exact ⟨Eq.trans (by kernel_rfl) h, Nat.le_of_ble_eq_true (by kernel_rfl)⟩
  · exact M.iFail h
theorem K97 : CodeOk Tryz.prog 97 k97 := .of Tryz.func97 (by kernel_rfl) (by kernel_rfl) h97 fe
-- (*sternpost/frag.Box).tick
noncomputable def X98 : List Value → M := fun args => match args with
 | [v0, v1] => .kPtr v0 fun x0 => .kInt .i64 v1 fun x1 => 
 .onS x0 fun a2 =>
 .ld a2.block (a2.off + 2) fun v3 =>
 .kInt .i64 v3 fun n4 =>
 .cmp .lss x1 n4 fun t5 =>
 .bool t5 (
 .jmp 2 []) (
 .cmp .gtr x1 (1099511627776 : Int) fun t6 =>
 .bool t6 (
 .jmp 2 []) (
 .onS x0 fun a7 =>
 .st 1 (⟨a7.block, a7.off + 2, none⟩ : Addr) (.int .i64 x1) (
 .ret (.int .i64 (0 : Int)))))
 | _ => .fail
noncomputable def X98_2 : List Value → M := fun args => match args with
 | [] => 
 .ret (.int .i64 (1 : Int))
 | _ => .fail
noncomputable def cuts98 : Cuts := [(2, [])]
noncomputable def L98 : Places := [(2, X98_2, todoOf Tryz.f98 2)]
noncomputable def k98 : FCode := .of X98 L98 cuts98
theorem o98_2 : OOk Tryz.prog Tryz.f98 cuts98 L98 (2, X98_2, todoOf Tryz.f98 2) := by
  intro vs Γ m H r h; replace h : (X98_2 vs).run _ _ _ _ = _ := h; unfold X98_2 at h; split at h
  · exact Eq.trans (by kernel_rfl) h
  · exact M.iFail h
theorem h98 : XOk Tryz.prog Tryz.f98 cuts98 L98 X98 := by
  intro Γ m args H r h; unfold X98 at h; split at h
  · replace h := M.iPtr h; obtain ⟨_, rfl, h⟩ := h; replace h := M.iInt h; obtain ⟨_, rfl, h⟩ := h; exact ⟨Eq.trans (by kernel_rfl) h, Nat.le_of_ble_eq_true (by kernel_rfl)⟩
  · exact M.iFail h
theorem K98 : CodeOk Tryz.prog 98 k98 := .of Tryz.func98 (by kernel_rfl) (by kernel_rfl) h98 (fc o98_2 fe)
-- sternpost/frag.kept
noncomputable def X99 : List Value → M := fun args => match args with
 | [v0, v1] => .kAgg v0 fun x0 => .kInt .i64 v1 fun x1 => 
 .new (.cells x0.toList 0 true) fun b2 =>
 .new (.cells [.int .i64 (0 : Int), .int .i64 (0 : Int), .int .i64 (0 : Int), .int .i64 (0 : Int), .int .i64 (0 : Int), .int .i64 (0 : Int), .bool false, .bool false, .string (⟨#[]⟩ : ByteArray), .string (⟨#[]⟩ : ByteArray)] 0 true) fun b3 =>
 .cmp .neq x1 (0 : Int) fun t4 =>
 .bool t4 (
 .st 10 (⟨b3, 0, none⟩ : Addr) (.agg #[.int .i64 (0 : Int), .int .i64 (0 : Int), .int .i64 (0 : Int), .int .i64 (0 : Int), .int .i64 (0 : Int), .int .i64 (0 : Int), .bool false, .bool false, .string (⟨#[]⟩ : ByteArray), .string (⟨#[]⟩ : ByteArray)]) (
 .ldn b3 0 10 fun cs6 =>
 .ret (.agg cs6))) (
 .ldn b2 0 10 fun cs7 =>
 .st 10 (⟨b3, 0, none⟩ : Addr) (.agg cs7) (
 .ldn b3 0 10 fun cs9 =>
 .ret (.agg cs9)))
 | _ => .fail
noncomputable def cuts99 : Cuts := []
noncomputable def L99 : Places := []
noncomputable def k99 : FCode := .of X99 L99 cuts99
theorem h99 : XOk Tryz.prog Tryz.f99 cuts99 L99 X99 := by
  intro Γ m args H r h; unfold X99 at h; split at h
  · replace h := M.iAgg h; obtain ⟨_, rfl, h⟩ := h; replace h := M.iInt h; obtain ⟨_, rfl, h⟩ := h; exact ⟨Eq.trans (by kernel_rfl) h, Nat.le_of_ble_eq_true (by kernel_rfl)⟩
  · exact M.iFail h
theorem K99 : CodeOk Tryz.prog 99 k99 := .of Tryz.func99 (by kernel_rfl) (by kernel_rfl) h99 fe
-- (*sternpost/sock.Box).sent
noncomputable def X108 : List Value → M := fun args => match args with
 | [v0, v1] => .kPtr v0 fun x0 => .kSl v1 fun a1 l2 c3 => 
 .onS x0 fun a4 =>
 .ld a4.block (a4.off + 3) fun v5 =>
 .kSl v5 fun a6 l7 c8 =>
 .firstC 17 (.slice a1 l2 c3) fun n9 nw10 =>
 .app 307 (.slice a6 l7 c8) n9 nw10 fun v11 =>
 .kSl v11 fun a13 l14 c15 =>
 .onS x0 fun a16 =>
 .st 1 (⟨a16.block, a16.off + 3, none⟩ : Addr) (.slice a13 l14 c15) (
 .ret (.tuple #[]))
 | _ => .fail
noncomputable def cuts108 : Cuts := []
noncomputable def L108 : Places := []
noncomputable def k108 : FCode := .of X108 L108 cuts108
theorem h108 : XOk Tryz.prog Tryz.f108 cuts108 L108 X108 := by
  intro Γ m args H r h; unfold X108 at h; split at h
  · replace h := M.iPtr h; obtain ⟨_, rfl, h⟩ := h; replace h := M.iSl h; obtain ⟨_, _, _, rfl, h⟩ := h; exact ⟨Eq.trans (by kernel_rfl) h, Nat.le_of_ble_eq_true (by kernel_rfl)⟩
  · exact M.iFail h
theorem K108 : CodeOk Tryz.prog 108 k108 := .of Tryz.func108 (by kernel_rfl) (by kernel_rfl) h108 fe
-- (*sternpost/sock.Box).told
noncomputable def X109 : List Value → M := fun args => match args with
 | [v0] => .kPtr v0 fun x0 => 
 .call 166 [.pointer x0] fun r1 =>
 .kSl r1 fun a2 l3 c4 =>
 .onS x0 fun a5 =>
 .ld a5.block (a5.off + 3) fun v6 =>
 .kSl v6 fun a7 l8 c9 =>
 .onS x0 fun a10 =>
 .st 1 (⟨a10.block, a10.off + 3, none⟩ : Addr) (.slice none 0 0) (
 .ret (.tuple #[.slice a2 l3 c4, .slice a7 l8 c9]))
 | _ => .fail
noncomputable def cuts109 : Cuts := []
noncomputable def L109 : Places := []
noncomputable def k109 : FCode := .of X109 L109 cuts109
theorem h109 : XOk Tryz.prog Tryz.f109 cuts109 L109 X109 := by
  intro Γ m args H r h; unfold X109 at h; split at h
  · replace h := M.iPtr h; obtain ⟨_, rfl, h⟩ := h; exact ⟨Eq.trans (by kernel_rfl) h, Nat.le_of_ble_eq_true (by kernel_rfl)⟩
  · exact M.iFail h
theorem K109 : CodeOk Tryz.prog 109 k109 := .of Tryz.func109 (by kernel_rfl) (by kernel_rfl) h109 fe
-- (*sternpost/host.Host).segments
noncomputable def X110 : List Value → M := fun args => match args with
 | [v0, v1] => .kPtr v0 fun x0 => .kSl v1 fun a1 l2 c3 => 
 .fxI ((l2 : Nat) : Int) fun n4 =>
 .jmp 100001 [.pointer x0, .slice a1 l2 c3, .int .i64 n4, .int .i64 (0 : Int)]
 | _ => .fail
noncomputable def X110_6 : List Value → M := fun args => match args with
 | [v0, v1, v2, v3] => .kPtr v0 fun x0 => .kSl v1 fun a1 l2 c3 => .kInt .i64 v2 fun x4 => .kInt .i64 v3 fun x5 => 
 .wr .i64 (x5 + (1 : Int)) fun n6 =>
 .jmp 100001 [.pointer x0, .slice a1 l2 c3, .int .i64 x4, .int .i64 n6]
 | _ => .fail
noncomputable def X110_100001 : List Value → M := fun args => match args with
 | [v0, v1, v2, v3] => .kPtr v0 fun x0 => .kSl v1 fun a1 l2 c3 => .kInt .i64 v2 fun x4 => .kInt .i64 v3 fun x5 => 
 .cmp .lss x5 x4 fun t6 =>
 .bool t6 (
 .onS a1 fun a7 =>
 .inb x5 l2 (
 .ldn ((a7.add (x5.toNat * 17)).block) ((a7.add (x5.toNat * 17)).off) 17 fun cs8 =>
 .new (.cells [.int .i64 (0 : Int), .int .i64 (0 : Int), .int .i64 (0 : Int), .int .i64 (0 : Int), .int .i64 (0 : Int), .int .i64 (0 : Int), .int .i64 (0 : Int), .int .i64 (0 : Int), .int .i64 (0 : Int), .int .i64 (0 : Int), .int .i64 (0 : Int), .int .i64 (0 : Int), .bool false, .bool false, .bool false, .slice none 0 0, .string (⟨#[]⟩ : ByteArray)] 0 true) fun b9 =>
 .st 17 (⟨b9, 0, none⟩ : Addr) (.agg cs8) (
 .onS x0 fun a11 =>
 .ld a11.block (a11.off + 1) fun v12 =>
 .kInt .i64 v12 fun n13 =>
 .ld b9 0 fun v14 =>
 .kInt .i64 v14 fun n15 =>
 .ldn b9 (0 + 1) 16 fun cs16 =>
 .call 167 [.int .i64 n13, .int .i64 n15, .agg cs16] fun r17 =>
 .kTup r17 fun vs18 =>
 .nthA vs18 0 fun v19 =>
 .kStr v19 fun s20 =>
 .kTup r17 fun vs21 =>
 .nthA vs21 1 fun v22 =>
 .kInt .i64 v22 fun n23 =>
 .cmp .eql n23 (0 : Int) fun t24 =>
 .bool t24 (
 .onS x0 fun a25 =>
 .ld a25.block (a25.off + 1) fun v26 =>
 .kInt .i64 v26 fun n27 =>
 .ld b9 0 fun v28 =>
 .kInt .i64 v28 fun n29 =>
 .call 44 [.pointer x0, .int .i64 n27, .int .i64 n29, .int .i64 (6 : Int), .string s20] fun r30 =>
 .jmp 6 [.pointer x0, .slice a1 l2 c3, .int .i64 x4, .int .i64 x5]) (
 .jmp 6 [.pointer x0, .slice a1 l2 c3, .int .i64 x4, .int .i64 x5])))) (
 .ret (.tuple #[]))
 | _ => .fail
noncomputable def cuts110 : Cuts := [(100001, [0, 8, 9, 10]), (6, [0, 8, 9, 10])]
noncomputable def L110 : Places := [(6, X110_6, todoOf Tryz.f110 6), (100001, X110_100001, todoOf Tryz.f110 100001)]
noncomputable def k110 : FCode := .of X110 L110 cuts110
theorem o110_6 : OOk Tryz.prog Tryz.f110 cuts110 L110 (6, X110_6, todoOf Tryz.f110 6) := by
  intro vs Γ m H r h; replace h : (X110_6 vs).run _ _ _ _ = _ := h; unfold X110_6 at h; split at h
  · replace h := M.iPtr h; obtain ⟨_, rfl, h⟩ := h; replace h := M.iSl h; obtain ⟨_, _, _, rfl, h⟩ := h; replace h := M.iInt h; obtain ⟨_, rfl, h⟩ := h; replace h := M.iInt h; obtain ⟨_, rfl, h⟩ := h; exact Eq.trans (by kernel_rfl) h
  · exact M.iFail h
theorem o110_100001 : OOk Tryz.prog Tryz.f110 cuts110 L110 (100001, X110_100001, todoOf Tryz.f110 100001) := by
  intro vs Γ m H r h; replace h : (X110_100001 vs).run _ _ _ _ = _ := h; unfold X110_100001 at h; split at h
  · replace h := M.iPtr h; obtain ⟨_, rfl, h⟩ := h; replace h := M.iSl h; obtain ⟨_, _, _, rfl, h⟩ := h; replace h := M.iInt h; obtain ⟨_, rfl, h⟩ := h; replace h := M.iInt h; obtain ⟨_, rfl, h⟩ := h; exact Eq.trans (by kernel_rfl) h
  · exact M.iFail h
theorem h110 : XOk Tryz.prog Tryz.f110 cuts110 L110 X110 := by
  intro Γ m args H r h; unfold X110 at h; split at h
  · replace h := M.iPtr h; obtain ⟨_, rfl, h⟩ := h; replace h := M.iSl h; obtain ⟨_, _, _, rfl, h⟩ := h; exact ⟨Eq.trans (by kernel_rfl) h, Nat.le_of_ble_eq_true (by kernel_rfl)⟩
  · exact M.iFail h
theorem K110 : CodeOk Tryz.prog 110 k110 := .of Tryz.func110 (by kernel_rfl) (by kernel_rfl) h110 (fc o110_6 (fc o110_100001 fe))
-- sternpost/icmp.Answer
noncomputable def X113 : List Value → M := fun args => match args with
 | [v0] => .kAgg v0 fun x0 => 
 .new (.cells x0.toList 0 true) fun b1 =>
 .new (.cells [.int .i64 (0 : Int), .int .i64 (0 : Int), .int .i64 (0 : Int), .int .i64 (0 : Int), .string (⟨#[]⟩ : ByteArray)] 0 true) fun b2 =>
 .ldn b1 0 5 fun cs3 =>
 .call 81 [.agg cs3] fun r4 =>
 .kInt .i64 r4 fun n5 =>
 .cmp .neq n5 (0 : Int) fun t6 =>
 .bool t6 (
 .jmp 2 [.pointer (some (⟨b2, 0, none⟩ : Addr))]) (
 .ld b1 0 fun v7 =>
 .kInt .i64 v7 fun n8 =>
 .cmp .neq n8 (8 : Int) fun t9 =>
 .bool t9 (
 .jmp 2 [.pointer (some (⟨b2, 0, none⟩ : Addr))]) (
 .ld b1 (0 + 1) fun v10 =>
 .kInt .i64 v10 fun n11 =>
 .cmp .gtr n11 (0 : Int) fun t12 =>
 .bool t12 (
 .jmp 2 [.pointer (some (⟨b2, 0, none⟩ : Addr))]) (
 .st 1 (⟨b1, 0, none⟩ : Addr) (.int .i64 (0 : Int)) (
 .ldn b1 0 5 fun cs14 =>
 .st 5 (⟨b2, 0, none⟩ : Addr) (.agg cs14) (
 .ldn b2 0 5 fun cs16 =>
 .ret (.tuple #[.agg cs16, .int .i64 (0 : Int)]))))))
 | _ => .fail
noncomputable def X113_2 : List Value → M := fun args => match args with
 | [v0] => .kPtr v0 fun x0 => 
 .onS x0 fun a1 =>
 .st 5 a1 (.agg #[.int .i64 (0 : Int), .int .i64 (0 : Int), .int .i64 (0 : Int), .int .i64 (0 : Int), .string (⟨#[]⟩ : ByteArray)]) (
 .onS x0 fun a3 =>
 .ldn a3.block a3.off 5 fun cs4 =>
 .ret (.tuple #[.agg cs4, .int .i64 (60 : Int)]))
 | _ => .fail
noncomputable def cuts113 : Cuts := [(2, [2])]
noncomputable def L113 : Places := [(2, X113_2, todoOf Tryz.f113 2)]
noncomputable def k113 : FCode := .of X113 L113 cuts113
theorem o113_2 : OOk Tryz.prog Tryz.f113 cuts113 L113 (2, X113_2, todoOf Tryz.f113 2) := by
  intro vs Γ m H r h; replace h : (X113_2 vs).run _ _ _ _ = _ := h; unfold X113_2 at h; split at h
  · replace h := M.iPtr h; obtain ⟨_, rfl, h⟩ := h; exact Eq.trans (by kernel_rfl) h
  · exact M.iFail h
theorem h113 : XOk Tryz.prog Tryz.f113 cuts113 L113 X113 := by
  intro Γ m args H r h; unfold X113 at h; split at h
  · replace h := M.iAgg h; obtain ⟨_, rfl, h⟩ := h; exact ⟨Eq.trans (by kernel_rfl) h, Nat.le_of_ble_eq_true (by kernel_rfl)⟩
  · exact M.iFail h
theorem K113 : CodeOk Tryz.prog 113 k113 := .of Tryz.func113 (by kernel_rfl) (by kernel_rfl) h113 (fc o113_2 fe)
-- sternpost/arp.ip
noncomputable def X114 : List Value → M := fun args => match args with
 | [v0] => .kInt .i64 v0 fun x0 => 
 .cmp .geq x0 (0 : Int) fun t1 =>
 .bool t1 (
 .cmp .leq x0 (4294967295 : Int) fun t2 =>
 .ret (.bool t2)) (
 .ret (.bool false))
 | _ => .fail
noncomputable def cuts114 : Cuts := []
noncomputable def L114 : Places := []
noncomputable def k114 : FCode := .of X114 L114 cuts114
theorem h114 : XOk Tryz.prog Tryz.f114 cuts114 L114 X114 := by
  intro Γ m args H r h; unfold X114 at h; split at h
  · replace h := M.iInt h; obtain ⟨_, rfl, h⟩ := h; exact ⟨Eq.trans (by kernel_rfl) h, Nat.le_of_ble_eq_true (by kernel_rfl)⟩
  · exact M.iFail h
theorem K114 : CodeOk Tryz.prog 114 k114 := .of Tryz.func114 (by kernel_rfl) (by kernel_rfl) h114 fe
-- maps.Keys[map[int]*sternpost/neigh.asked,int,*sternpost/neigh.asked]
noncomputable def X125 : List Value → M := fun args => match args with
 | [v0] => .kMp v0 fun x0 => 
 .new (.cells [.map x0] 178257920 true) fun b1 =>
 .ret (.func (.func 183) #[] #[.pointer (some (⟨b1, 0, none⟩ : Addr))])
 | _ => .fail
noncomputable def cuts125 : Cuts := []
noncomputable def L125 : Places := []
noncomputable def k125 : FCode := .of X125 L125 cuts125
theorem h125 : XOk Tryz.prog Tryz.f125 cuts125 L125 X125 := by
  intro Γ m args H r h; unfold X125 at h; split at h
  · replace h := M.iMp h; obtain ⟨_, rfl, h⟩ := h; exact ⟨Eq.trans (by kernel_rfl) h, Nat.le_of_ble_eq_true (by kernel_rfl)⟩
  · exact M.iFail h
theorem K125 : CodeOk Tryz.prog 125 k125 := .of Tryz.func125 (by kernel_rfl) (by kernel_rfl) h125 fe
-- (*sternpost/neigh.Cache).ask
noncomputable def X126 : List Value → M := fun args => match args with
 | [v0, v1] => .kPtr v0 fun x0 => .kInt .i64 v1 fun x1 => 
 .new (.cells [.int .i64 (0 : Int), .int .i64 (0 : Int), .int .i64 (0 : Int), .int .i64 (0 : Int), .int .i64 (0 : Int)] 0 true) fun b2 =>
 .onS x0 fun a3 =>
 .ld a3.block (a3.off + 6) fun v4 =>
 .kSl v4 fun a5 l6 c7 =>
 .cmp .gtr ((l6 : Nat) : Int) (0 : Int) fun t8 =>
 .bool t8 (
 .onS x0 fun a9 =>
 .ld a9.block (a9.off + 6) fun v10 =>
 .kSl v10 fun a11 l12 c13 =>
 .onS a11 fun a14 =>
 .inb (0 : Int) l12 (
 .ld ((a14.add ((0 : Int).toNat * 1)).block) ((a14.add ((0 : Int).toNat * 1)).off) fun v15 =>
 .kInt .i64 v15 fun n16 =>
 .jmp 4 [.pointer x0, .int .i64 x1, .pointer (some (⟨b2, 0, none⟩ : Addr)), .int .i64 n16])) (
 .jmp 4 [.pointer x0, .int .i64 x1, .pointer (some (⟨b2, 0, none⟩ : Addr)), .int .i64 (0 : Int)])
 | _ => .fail
noncomputable def X126_4 : List Value → M := fun args => match args with
 | [v0, v1, v2, v3] => .kPtr v0 fun x0 => .kInt .i64 v1 fun x1 => .kPtr v2 fun x2 => .kInt .i64 v3 fun x3 => 
 .onS x0 fun a4 =>
 .ld a4.block a4.off fun v5 =>
 .kInt .i64 v5 fun n6 =>
 .call 64 [.int .i64 n6, .int .i64 x3, .int .i64 x1] fun r7 =>
 .kTup r7 fun vs8 =>
 .nthA vs8 0 fun v9 =>
 .kAgg v9 fun cs10 =>
 .ite (cs10.size = 5) (
 .kTup r7 fun vs11 =>
 .nthA vs11 1 fun v12 =>
 .kInt .i64 v12 fun n13 =>
 .new (.cells [.int .i64 (0 : Int), .int .i64 (0 : Int), .int .i64 (0 : Int), .int .i64 (0 : Int), .int .i64 (0 : Int)] 0 true) fun b14 =>
 .st 5 (⟨b14, 0, none⟩ : Addr) (.agg cs10) (
 .ldn b14 0 5 fun cs16 =>
 .onS x2 fun a17 =>
 .st 5 a17 (.agg cs16) (
 .onS x2 fun a19 =>
 .ldn a19.block a19.off 5 fun cs20 =>
 .ret (.agg cs20))))
 | _ => .fail
noncomputable def cuts126 : Cuts := [(4, [0, 1, 4, 5])]
noncomputable def L126 : Places := [(4, X126_4, todoOf Tryz.f126 4)]
noncomputable def k126 : FCode := .of X126 L126 cuts126
theorem o126_4 : OOk Tryz.prog Tryz.f126 cuts126 L126 (4, X126_4, todoOf Tryz.f126 4) := by
  intro vs Γ m H r h; replace h : (X126_4 vs).run _ _ _ _ = _ := h; unfold X126_4 at h; split at h
  · replace h := M.iPtr h; obtain ⟨_, rfl, h⟩ := h; replace h := M.iInt h; obtain ⟨_, rfl, h⟩ := h; replace h := M.iPtr h; obtain ⟨_, rfl, h⟩ := h; replace h := M.iInt h; obtain ⟨_, rfl, h⟩ := h; exact Eq.trans (by kernel_rfl) h
  · exact M.iFail h
theorem h126 : XOk Tryz.prog Tryz.f126 cuts126 L126 X126 := by
  intro Γ m args H r h; unfold X126 at h; split at h
  · replace h := M.iPtr h; obtain ⟨_, rfl, h⟩ := h; replace h := M.iInt h; obtain ⟨_, rfl, h⟩ := h; exact ⟨Eq.trans (by kernel_rfl) h, Nat.le_of_ble_eq_true (by kernel_rfl)⟩
  · exact M.iFail h
theorem K126 : CodeOk Tryz.prog 126 k126 := .of Tryz.func126 (by kernel_rfl) (by kernel_rfl) h126 (fc o126_4 fe)
-- maps.Keys[map[sternpost/frag.key]*sternpost/frag.pile,sternpost/frag.key,*sternpost/frag.pile]
noncomputable def X128 : List Value → M := fun args => match args with
 | [v0] => .kMp v0 fun x0 => 
 .new (.cells [.map x0] 184549376 true) fun b1 =>
 .ret (.func (.func 185) #[] #[.pointer (some (⟨b1, 0, none⟩ : Addr))])
 | _ => .fail
noncomputable def cuts128 : Cuts := []
noncomputable def L128 : Places := []
noncomputable def k128 : FCode := .of X128 L128 cuts128
theorem h128 : XOk Tryz.prog Tryz.f128 cuts128 L128 X128 := by
  intro Γ m args H r h; unfold X128 at h; split at h
  · replace h := M.iMp h; obtain ⟨_, rfl, h⟩ := h; exact ⟨Eq.trans (by kernel_rfl) h, Nat.le_of_ble_eq_true (by kernel_rfl)⟩
  · exact M.iFail h
theorem K128 : CodeOk Tryz.prog 128 k128 := .of Tryz.func128 (by kernel_rfl) (by kernel_rfl) h128 fe
-- slices.SortFunc[[]sternpost/frag.key,sternpost/frag.key]
noncomputable def X129 : List Value → M := fun args => match args with
 | [v0, x3] => .kSl v0 fun a0 l1 c2 => 
 .wr .u64 ((l1 : Nat) : Int) fun n4 =>
 .call 136 [.int .u64 n4] fun r5 =>
 .kInt .i64 r5 fun n6 =>
 .fxI ((l1 : Nat) : Int) fun n7 =>
 .call 186 [.slice a0 l1 c2, .int .i64 (0 : Int), .int .i64 n7, .int .i64 n6, x3] fun r8 =>
 .ret (.tuple #[])
 | _ => .fail
noncomputable def cuts129 : Cuts := []
noncomputable def L129 : Places := []
noncomputable def k129 : FCode := .of X129 L129 cuts129
theorem h129 : XOk Tryz.prog Tryz.f129 cuts129 L129 X129 := by
  intro Γ m args H r h; unfold X129 at h; split at h
  · replace h := M.iSl h; obtain ⟨_, _, _, rfl, h⟩ := h; exact ⟨Eq.trans (by kernel_rfl) h, Nat.le_of_ble_eq_true (by kernel_rfl)⟩
  · exact M.iFail h
theorem K129 : CodeOk Tryz.prog 129 k129 := .of Tryz.func129 (by kernel_rfl) (by kernel_rfl) h129 fe
-- (*sternpost/table.Table).Tick
noncomputable def X133 : List Value → M := fun args => match args with
 | [v0, v1] => .kPtr v0 fun x0 => .kInt .i64 v1 fun x1 => 
 .call 189 [.pointer x0] fun r2 =>
 .kSl r2 fun a3 l4 c5 =>
 .fxI ((l4 : Nat) : Int) fun n6 =>
 .jmp 100003 [.pointer x0, .int .i64 x1, .slice none 0 0, .slice a3 l4 c5, .int .i64 n6, .int .i64 (0 : Int)]
 | _ => .fail
noncomputable def X133_100003 : List Value → M := fun args => match args with
 | [v0, v1, v2, v3, v4, v5] => .kPtr v0 fun x0 => .kInt .i64 v1 fun x1 => .kSl v2 fun a2 l3 c4 => .kSl v3 fun a5 l6 c7 => .kInt .i64 v4 fun x8 => .kInt .i64 v5 fun x9 => 
 .cmp .lss x9 x8 fun t10 =>
 .bool t10 (
 .onS a5 fun a11 =>
 .inb x9 l6 (
 .ld ((a11.add (x9.toNat * 1)).block) ((a11.add (x9.toNat * 1)).off) fun v12 =>
 .kInt .i64 v12 fun n13 =>
 .onS x0 fun a14 =>
 .ld a14.block (a14.off + 15) fun v15 =>
 .kMp v15 fun r16 =>
 .lookupK 261 (.map r16) (.int .i64 n13) false fun v17 =>
 .kPtr v17 fun p18 =>
 .onS p18 fun a19 =>
 .ld a19.block (a19.off + 1) fun v20 =>
 .kPtr v20 fun p21 =>
 .call 190 [.pointer p21, .int .i64 x1] fun r22 =>
 .kSl r22 fun a23 l24 c25 =>
 .call 161 [.pointer p18, .slice a23 l24 c25] fun r26 =>
 .kSl r26 fun a27 l28 c29 =>
 .firstC 17 (.slice a27 l28 c29) fun n30 nw31 =>
 .app 307 (.slice a2 l3 c4) n30 nw31 fun v32 =>
 .kSl v32 fun a34 l35 c36 =>
 .call 160 [.pointer x0, .pointer p18] fun r37 =>
 .wr .i64 (x9 + (1 : Int)) fun n38 =>
 .jmp 100003 [.pointer x0, .int .i64 x1, .slice a34 l35 c36, .slice a5 l6 c7, .int .i64 x8, .int .i64 n38])) (
 .ret (.slice a2 l3 c4))
 | _ => .fail
noncomputable def cuts133 : Cuts := [(100003, [0, 1, 5, 10, 11, 12])]
noncomputable def L133 : Places := [(100003, X133_100003, todoOf Tryz.f133 100003)]
noncomputable def k133 : FCode := .of X133 L133 cuts133
theorem o133_100003 : OOk Tryz.prog Tryz.f133 cuts133 L133 (100003, X133_100003, todoOf Tryz.f133 100003) := by
  intro vs Γ m H r h; replace h : (X133_100003 vs).run _ _ _ _ = _ := h; unfold X133_100003 at h; split at h
  · replace h := M.iPtr h; obtain ⟨_, rfl, h⟩ := h; replace h := M.iInt h; obtain ⟨_, rfl, h⟩ := h; replace h := M.iSl h; obtain ⟨_, _, _, rfl, h⟩ := h; replace h := M.iSl h; obtain ⟨_, _, _, rfl, h⟩ := h; replace h := M.iInt h; obtain ⟨_, rfl, h⟩ := h; replace h := M.iInt h; obtain ⟨_, rfl, h⟩ := h; exact Eq.trans (by kernel_rfl) h
  · exact M.iFail h
theorem h133 : XOk Tryz.prog Tryz.f133 cuts133 L133 X133 := by
  intro Γ m args H r h; unfold X133 at h; split at h
  · replace h := M.iPtr h; obtain ⟨_, rfl, h⟩ := h; replace h := M.iInt h; obtain ⟨_, rfl, h⟩ := h; exact ⟨Eq.trans (by kernel_rfl) h, Nat.le_of_ble_eq_true (by kernel_rfl)⟩
  · exact M.iFail h
theorem K133 : CodeOk Tryz.prog 133 k133 := .of Tryz.func133 (by kernel_rfl) (by kernel_rfl) h133 (fc o133_100003 fe)
-- slices.IndexFunc[[]int,int]
noncomputable def X134 : List Value → M := fun args => match args with
 | [v0, x3] => .kSl v0 fun a0 l1 c2 => 
 .fxI ((l1 : Nat) : Int) fun n4 =>
 .jmp 100002 [.slice a0 l1 c2, x3, .int .i64 n4, .int .i64 (0 : Int)]
 | _ => .fail
noncomputable def X134_100002 : List Value → M := fun args => match args with
 | [v0, x3, v2, v3] => .kSl v0 fun a0 l1 c2 => .kInt .i64 v2 fun x4 => .kInt .i64 v3 fun x5 => 
 .cmp .lss x5 x4 fun t6 =>
 .bool t6 (
 .onS a0 fun a7 =>
 .inb x5 l1 (
 .ld ((a7.add (x5.toNat * 1)).block) ((a7.add (x5.toNat * 1)).off) fun v8 =>
 .kInt .i64 v8 fun n9 =>
 .callV x3 [.int .i64 n9] fun r10 =>
 .kBool r10 fun b11 =>
 .bool b11 (
 .ret (.int .i64 x5)) (
 .wr .i64 (x5 + (1 : Int)) fun n12 =>
 .jmp 100002 [.slice a0 l1 c2, x3, .int .i64 x4, .int .i64 n12]))) (
 .ret (.int .i64 (-1 : Int)))
 | _ => .fail
noncomputable def cuts134 : Cuts := [(100002, [0, 1, 7, 8])]
noncomputable def L134 : Places := [(100002, X134_100002, todoOf Tryz.f134 100002)]
noncomputable def k134 : FCode := .of X134 L134 cuts134
theorem o134_100002 : OOk Tryz.prog Tryz.f134 cuts134 L134 (100002, X134_100002, todoOf Tryz.f134 100002) := by
  intro vs Γ m H r h; replace h : (X134_100002 vs).run _ _ _ _ = _ := h; unfold X134_100002 at h; split at h
  · replace h := M.iSl h; obtain ⟨_, _, _, rfl, h⟩ := h; replace h := M.iInt h; obtain ⟨_, rfl, h⟩ := h; replace h := M.iInt h; obtain ⟨_, rfl, h⟩ := h; exact Eq.trans (by kernel_rfl) h
  · exact M.iFail h
theorem h134 : XOk Tryz.prog Tryz.f134 cuts134 L134 X134 := by
  intro Γ m args H r h; unfold X134 at h; split at h
  · replace h := M.iSl h; obtain ⟨_, _, _, rfl, h⟩ := h; exact ⟨Eq.trans (by kernel_rfl) h, Nat.le_of_ble_eq_true (by kernel_rfl)⟩
  · exact M.iFail h
theorem K134 : CodeOk Tryz.prog 134 k134 := .of Tryz.func134 (by kernel_rfl) (by kernel_rfl) h134 (fc o134_100002 fe)
-- slices.pdqsortOrdered[int]
noncomputable def X135 : List Value → M := fun args => match args with
 | [v0, v1, v2, v3] => .kSl v0 fun a0 l1 c2 => .kInt .i64 v1 fun x3 => .kInt .i64 v2 fun x4 => .kInt .i64 v3 fun x5 => 
 .jmp 100002 [.slice a0 l1 c2, .int .i64 x3, .int .i64 x4, .int .i64 x5, .bool true, .bool true]
 | _ => .fail
noncomputable def X135_10 : List Value → M := fun args => match args with
 | [v0, v1, v2, v3, v4, v5, v6] => .kSl v0 fun a0 l1 c2 => .kInt .i64 v1 fun x3 => .kInt .i64 v2 fun x4 => .kInt .i64 v3 fun x5 => .kBool v4 fun x6 => .kBool v5 fun x7 => .kInt .i64 v6 fun x8 => 
 .call 194 [.slice a0 l1 c2, .int .i64 x3, .int .i64 x4] fun r9 =>
 .kTup r9 fun vs10 =>
 .nthA vs10 0 fun v11 =>
 .kInt .i64 v11 fun n12 =>
 .kTup r9 fun vs13 =>
 .nthA vs13 1 fun v14 =>
 .kInt .i64 v14 fun n15 =>
 .cmp .eql n15 (2 : Int) fun t16 =>
 .bool t16 (
 .call 195 [.slice a0 l1 c2, .int .i64 x3, .int .i64 x4] fun r17 =>
 .wr .i64 (x4 - (1 : Int)) fun n18 =>
 .wr .i64 (n12 - x3) fun n19 =>
 .wr .i64 (n18 - n19) fun n20 =>
 .jmp 15 [.slice a0 l1 c2, .int .i64 x3, .int .i64 x4, .int .i64 x5, .bool x6, .bool x7, .int .i64 x8, .int .i64 n20, .int .i64 (1 : Int)]) (
 .jmp 15 [.slice a0 l1 c2, .int .i64 x3, .int .i64 x4, .int .i64 x5, .bool x6, .bool x7, .int .i64 x8, .int .i64 n12, .int .i64 n15])
 | _ => .fail
noncomputable def X135_15 : List Value → M := fun args => match args with
 | [v0, v1, v2, v3, v4, v5, v6, v7, v8] => .kSl v0 fun a0 l1 c2 => .kInt .i64 v1 fun x3 => .kInt .i64 v2 fun x4 => .kInt .i64 v3 fun x5 => .kBool v4 fun x6 => .kBool v5 fun x7 => .kInt .i64 v6 fun x8 => .kInt .i64 v7 fun x9 => .kInt .i64 v8 fun x10 => 
 .bool x6 (
 .bool x7 (
 .cmp .eql x10 (1 : Int) fun t11 =>
 .bool t11 (
 .call 196 [.slice a0 l1 c2, .int .i64 x3, .int .i64 x4] fun r12 =>
 .kBool r12 fun b13 =>
 .bool b13 (
 .ret (.tuple #[])) (
 .jmp 17 [.slice a0 l1 c2, .int .i64 x3, .int .i64 x4, .int .i64 x5, .bool x6, .bool x7, .int .i64 x8, .int .i64 x9])) (
 .jmp 17 [.slice a0 l1 c2, .int .i64 x3, .int .i64 x4, .int .i64 x5, .bool x6, .bool x7, .int .i64 x8, .int .i64 x9])) (
 .jmp 17 [.slice a0 l1 c2, .int .i64 x3, .int .i64 x4, .int .i64 x5, .bool x6, .bool x7, .int .i64 x8, .int .i64 x9])) (
 .jmp 17 [.slice a0 l1 c2, .int .i64 x3, .int .i64 x4, .int .i64 x5, .bool x6, .bool x7, .int .i64 x8, .int .i64 x9])
 | _ => .fail
noncomputable def X135_17 : List Value → M := fun args => match args with
 | [v0, v1, v2, v3, v4, v5, v6, v7] => .kSl v0 fun a0 l1 c2 => .kInt .i64 v1 fun x3 => .kInt .i64 v2 fun x4 => .kInt .i64 v3 fun x5 => .kBool v4 fun x6 => .kBool v5 fun x7 => .kInt .i64 v6 fun x8 => .kInt .i64 v7 fun x9 => 
 .cmp .gtr x3 (0 : Int) fun t10 =>
 .bool t10 (
 .wr .i64 (x3 - (1 : Int)) fun n11 =>
 .onS a0 fun a12 =>
 .inb n11 l1 (
 .ld ((a12.add (n11.toNat * 1)).block) ((a12.add (n11.toNat * 1)).off) fun v13 =>
 .kInt .i64 v13 fun n14 =>
 .onS a0 fun a15 =>
 .inb x9 l1 (
 .ld ((a15.add (x9.toNat * 1)).block) ((a15.add (x9.toNat * 1)).off) fun v16 =>
 .kInt .i64 v16 fun n17 =>
 .call 197 [.int .i64 n14, .int .i64 n17] fun r18 =>
 .kBool r18 fun b19 =>
 .bool (!b19) (
 .call 198 [.slice a0 l1 c2, .int .i64 x3, .int .i64 x4, .int .i64 x9] fun r20 =>
 .kInt .i64 r20 fun n21 =>
 .jmp 100002 [.slice a0 l1 c2, .int .i64 n21, .int .i64 x4, .int .i64 x5, .bool x6, .bool x7]) (
 .jmp 20 [.slice a0 l1 c2, .int .i64 x3, .int .i64 x4, .int .i64 x5, .int .i64 x8, .int .i64 x9])))) (
 .jmp 20 [.slice a0 l1 c2, .int .i64 x3, .int .i64 x4, .int .i64 x5, .int .i64 x8, .int .i64 x9])
 | _ => .fail
noncomputable def X135_20 : List Value → M := fun args => match args with
 | [v0, v1, v2, v3, v4, v5] => .kSl v0 fun a0 l1 c2 => .kInt .i64 v1 fun x3 => .kInt .i64 v2 fun x4 => .kInt .i64 v3 fun x5 => .kInt .i64 v4 fun x6 => .kInt .i64 v5 fun x7 => 
 .call 199 [.slice a0 l1 c2, .int .i64 x3, .int .i64 x4, .int .i64 x7] fun r8 =>
 .kTup r8 fun vs9 =>
 .nthA vs9 0 fun v10 =>
 .kInt .i64 v10 fun n11 =>
 .kTup r8 fun vs12 =>
 .nthA vs12 1 fun v13 =>
 .kBool v13 fun b14 =>
 .wr .i64 (n11 - x3) fun n15 =>
 .wr .i64 (x4 - n11) fun n16 =>
 .nite ((8 : Int) = 0) (
 .wr .i64 (x6.tdiv (8 : Int)) fun n17 =>
 .cmp .lss n15 n16 fun t18 =>
 .bool t18 (
 .cmp .geq n15 n17 fun t19 =>
 .call 135 [.slice a0 l1 c2, .int .i64 x3, .int .i64 n11, .int .i64 x5] fun r20 =>
 .wr .i64 (n11 + (1 : Int)) fun n21 =>
 .jmp 100002 [.slice a0 l1 c2, .int .i64 n21, .int .i64 x4, .int .i64 x5, .bool t19, .bool b14]) (
 .cmp .geq n16 n17 fun t22 =>
 .wr .i64 (n11 + (1 : Int)) fun n23 =>
 .call 135 [.slice a0 l1 c2, .int .i64 n23, .int .i64 x4, .int .i64 x5] fun r24 =>
 .jmp 100002 [.slice a0 l1 c2, .int .i64 x3, .int .i64 n11, .int .i64 x5, .bool t22, .bool b14]))
 | _ => .fail
noncomputable def X135_100002 : List Value → M := fun args => match args with
 | [v0, v1, v2, v3, v4, v5] => .kSl v0 fun a0 l1 c2 => .kInt .i64 v1 fun x3 => .kInt .i64 v2 fun x4 => .kInt .i64 v3 fun x5 => .kBool v4 fun x6 => .kBool v5 fun x7 => 
 .wr .i64 (x4 - x3) fun n8 =>
 .cmp .leq n8 (12 : Int) fun t9 =>
 .bool t9 (
 .call 191 [.slice a0 l1 c2, .int .i64 x3, .int .i64 x4] fun r10 =>
 .ret (.tuple #[])) (
 .cmp .eql x5 (0 : Int) fun t11 =>
 .bool t11 (
 .call 192 [.slice a0 l1 c2, .int .i64 x3, .int .i64 x4] fun r12 =>
 .ret (.tuple #[])) (
 .bool (!x6) (
 .call 193 [.slice a0 l1 c2, .int .i64 x3, .int .i64 x4] fun r13 =>
 .wr .i64 (x5 - (1 : Int)) fun n14 =>
 .jmp 10 [.slice a0 l1 c2, .int .i64 x3, .int .i64 x4, .int .i64 n14, .bool x6, .bool x7, .int .i64 n8]) (
 .jmp 10 [.slice a0 l1 c2, .int .i64 x3, .int .i64 x4, .int .i64 x5, .bool x6, .bool x7, .int .i64 n8])))
 | _ => .fail
noncomputable def cuts135 : Cuts := [(100002, [0, 1, 2, 3, 8, 9]), (15, [0, 1, 2, 3, 8, 9, 10, 11, 12]), (17, [0, 1, 2, 3, 8, 9, 10, 11]), (20, [0, 1, 2, 3, 10, 11]), (10, [0, 1, 2, 3, 8, 9, 10])]
noncomputable def L135 : Places := [(10, X135_10, todoOf Tryz.f135 10), (15, X135_15, todoOf Tryz.f135 15), (17, X135_17, todoOf Tryz.f135 17), (20, X135_20, todoOf Tryz.f135 20), (100002, X135_100002, todoOf Tryz.f135 100002)]
noncomputable def k135 : FCode := .of X135 L135 cuts135
theorem o135_10 : OOk Tryz.prog Tryz.f135 cuts135 L135 (10, X135_10, todoOf Tryz.f135 10) := by
  intro vs Γ m H r h; replace h : (X135_10 vs).run _ _ _ _ = _ := h; unfold X135_10 at h; split at h
  · replace h := M.iSl h; obtain ⟨_, _, _, rfl, h⟩ := h; replace h := M.iInt h; obtain ⟨_, rfl, h⟩ := h; replace h := M.iInt h; obtain ⟨_, rfl, h⟩ := h; replace h := M.iInt h; obtain ⟨_, rfl, h⟩ := h; replace h := M.iBool h; obtain ⟨_, rfl, h⟩ := h; replace h := M.iBool h; obtain ⟨_, rfl, h⟩ := h; replace h := M.iInt h; obtain ⟨_, rfl, h⟩ := h; exact Eq.trans (by kernel_rfl) h
  · exact M.iFail h
theorem o135_15 : OOk Tryz.prog Tryz.f135 cuts135 L135 (15, X135_15, todoOf Tryz.f135 15) := by
  intro vs Γ m H r h; replace h : (X135_15 vs).run _ _ _ _ = _ := h; unfold X135_15 at h; split at h
  · replace h := M.iSl h; obtain ⟨_, _, _, rfl, h⟩ := h; replace h := M.iInt h; obtain ⟨_, rfl, h⟩ := h; replace h := M.iInt h; obtain ⟨_, rfl, h⟩ := h; replace h := M.iInt h; obtain ⟨_, rfl, h⟩ := h; replace h := M.iBool h; obtain ⟨_, rfl, h⟩ := h; replace h := M.iBool h; obtain ⟨_, rfl, h⟩ := h; replace h := M.iInt h; obtain ⟨_, rfl, h⟩ := h; replace h := M.iInt h; obtain ⟨_, rfl, h⟩ := h; replace h := M.iInt h; obtain ⟨_, rfl, h⟩ := h; exact Eq.trans (by kernel_rfl) h
  · exact M.iFail h
theorem o135_17 : OOk Tryz.prog Tryz.f135 cuts135 L135 (17, X135_17, todoOf Tryz.f135 17) := by
  intro vs Γ m H r h; replace h : (X135_17 vs).run _ _ _ _ = _ := h; unfold X135_17 at h; split at h
  · replace h := M.iSl h; obtain ⟨_, _, _, rfl, h⟩ := h; replace h := M.iInt h; obtain ⟨_, rfl, h⟩ := h; replace h := M.iInt h; obtain ⟨_, rfl, h⟩ := h; replace h := M.iInt h; obtain ⟨_, rfl, h⟩ := h; replace h := M.iBool h; obtain ⟨_, rfl, h⟩ := h; replace h := M.iBool h; obtain ⟨_, rfl, h⟩ := h; replace h := M.iInt h; obtain ⟨_, rfl, h⟩ := h; replace h := M.iInt h; obtain ⟨_, rfl, h⟩ := h; exact Eq.trans (by kernel_rfl) h
  · exact M.iFail h
theorem o135_20 : OOk Tryz.prog Tryz.f135 cuts135 L135 (20, X135_20, todoOf Tryz.f135 20) := by
  intro vs Γ m H r h; replace h : (X135_20 vs).run _ _ _ _ = _ := h; unfold X135_20 at h; split at h
  · replace h := M.iSl h; obtain ⟨_, _, _, rfl, h⟩ := h; replace h := M.iInt h; obtain ⟨_, rfl, h⟩ := h; replace h := M.iInt h; obtain ⟨_, rfl, h⟩ := h; replace h := M.iInt h; obtain ⟨_, rfl, h⟩ := h; replace h := M.iInt h; obtain ⟨_, rfl, h⟩ := h; replace h := M.iInt h; obtain ⟨_, rfl, h⟩ := h; exact Eq.trans (by kernel_rfl) h
  · exact M.iFail h
theorem o135_100002 : OOk Tryz.prog Tryz.f135 cuts135 L135 (100002, X135_100002, todoOf Tryz.f135 100002) := by
  intro vs Γ m H r h; replace h : (X135_100002 vs).run _ _ _ _ = _ := h; unfold X135_100002 at h; split at h
  · replace h := M.iSl h; obtain ⟨_, _, _, rfl, h⟩ := h; replace h := M.iInt h; obtain ⟨_, rfl, h⟩ := h; replace h := M.iInt h; obtain ⟨_, rfl, h⟩ := h; replace h := M.iInt h; obtain ⟨_, rfl, h⟩ := h; replace h := M.iBool h; obtain ⟨_, rfl, h⟩ := h; replace h := M.iBool h; obtain ⟨_, rfl, h⟩ := h; exact Eq.trans (by kernel_rfl) h
  · exact M.iFail h
theorem h135 : XOk Tryz.prog Tryz.f135 cuts135 L135 X135 := by
  intro Γ m args H r h; unfold X135 at h; split at h
  · replace h := M.iSl h; obtain ⟨_, _, _, rfl, h⟩ := h; replace h := M.iInt h; obtain ⟨_, rfl, h⟩ := h; replace h := M.iInt h; obtain ⟨_, rfl, h⟩ := h; replace h := M.iInt h; obtain ⟨_, rfl, h⟩ := h; exact ⟨Eq.trans (by kernel_rfl) h, Nat.le_of_ble_eq_true (by kernel_rfl)⟩
  · exact M.iFail h
theorem K135 : CodeOk Tryz.prog 135 k135 := .of Tryz.func135 (by kernel_rfl) (by kernel_rfl) h135 (fc o135_10 (fc o135_15 (fc o135_17 (fc o135_20 (fc o135_100002 fe)))))
-- math/bits.Len
noncomputable def X136 : List Value → M := fun args => match args with
 | [v0] => .kInt .u64 v0 fun x0 => 
 .call 201 [.int .u64 x0] fun r1 =>
 .kInt .i64 r1 fun n2 =>
 .ret (.int .i64 n2)
 | _ => .fail
noncomputable def cuts136 : Cuts := []
noncomputable def L136 : Places := []
noncomputable def k136 : FCode := .of X136 L136 cuts136
theorem h136 : XOk Tryz.prog Tryz.f136 cuts136 L136 X136 := by
  intro Γ m args H r h; unfold X136 at h; split at h
  · replace h := M.iInt h; obtain ⟨_, rfl, h⟩ := h; exact ⟨Eq.trans (by kernel_rfl) h, Nat.le_of_ble_eq_true (by kernel_rfl)⟩
  · exact M.iFail h
theorem K136 : CodeOk Tryz.prog 136 k136 := .of Tryz.func136 (by kernel_rfl) (by kernel_rfl) h136 fe
-- sternpost/conn.Check
noncomputable def X137 : List Value → M := fun args => match args with
 | [v0] => .kAgg v0 fun x0 => 
 .new (.cells x0.toList 0 true) fun b1 =>
 .ld b1 0 fun v2 =>
 .kInt .i64 v2 fun n3 =>
 .ld b1 (0 + 1) fun v4 =>
 .kInt .i64 v4 fun n5 =>
 .ld b1 (0 + 7) fun v6 =>
 .kInt .i64 v6 fun n7 =>
 .cmp .lss (mni (mni n3 n5) n7) (1 : Int) fun t8 =>
 .bool t8 (
 .jmp 2 []) (
 .ld b1 (0 + 2) fun v9 =>
 .kInt .i64 v9 fun n10 =>
 .ld b1 (0 + 6) fun v11 =>
 .kInt .i64 v11 fun n12 =>
 .cmp .lss (mni n10 n12) (0 : Int) fun t13 =>
 .bool t13 (
 .jmp 2 []) (
 .ld b1 0 fun v14 =>
 .kInt .i64 v14 fun n15 =>
 .cmp .gtr n15 (1460 : Int) fun t16 =>
 .bool t16 (
 .jmp 2 []) (
 .ld b1 (0 + 1) fun v17 =>
 .kInt .i64 v17 fun n18 =>
 .cmp .gtr n18 (65535 : Int) fun t19 =>
 .bool t19 (
 .jmp 2 []) (
 .ld b1 (0 + 2) fun v20 =>
 .kInt .i64 v20 fun n21 =>
 .ld b1 (0 + 7) fun v22 =>
 .kInt .i64 v22 fun n23 =>
 .cmp .gtr (mxi n21 n23) (1048576 : Int) fun t24 =>
 .bool t24 (
 .jmp 2 []) (
 .ld b1 (0 + 6) fun v25 =>
 .kInt .i64 v25 fun n26 =>
 .cmp .gtr n26 (32 : Int) fun t27 =>
 .bool t27 (
 .jmp 2 []) (
 .ld b1 (0 + 3) fun v28 =>
 .kInt .i64 v28 fun n29 =>
 .ld b1 (0 + 4) fun v30 =>
 .kInt .i64 v30 fun n31 =>
 .ld b1 (0 + 5) fun v32 =>
 .kInt .i64 v32 fun n33 =>
 .call 202 [.int .i64 n29, .int .i64 n31, .int .i64 n33] fun r34 =>
 .kTup r34 fun vs35 =>
 .nthA vs35 0 fun v36 =>
 .kPtr v36 fun p37 =>
 .kTup r34 fun vs38 =>
 .nthA vs38 1 fun v39 =>
 .kInt .i64 v39 fun n40 =>
 .ret (.int .i64 n40)))))))
 | _ => .fail
noncomputable def X137_2 : List Value → M := fun args => match args with
 | [] => 
 .ret (.int .i64 (1 : Int))
 | _ => .fail
noncomputable def cuts137 : Cuts := [(2, [])]
noncomputable def L137 : Places := [(2, X137_2, todoOf Tryz.f137 2)]
noncomputable def k137 : FCode := .of X137 L137 cuts137
theorem o137_2 : OOk Tryz.prog Tryz.f137 cuts137 L137 (2, X137_2, todoOf Tryz.f137 2) := by
  intro vs Γ m H r h; replace h : (X137_2 vs).run _ _ _ _ = _ := h; unfold X137_2 at h; split at h
  · exact Eq.trans (by kernel_rfl) h
  · exact M.iFail h
theorem h137 : XOk Tryz.prog Tryz.f137 cuts137 L137 X137 := by
  intro Γ m args H r h; unfold X137 at h; split at h
  · replace h := M.iAgg h; obtain ⟨_, rfl, h⟩ := h; exact ⟨Eq.trans (by kernel_rfl) h, Nat.le_of_ble_eq_true (by kernel_rfl)⟩
  · exact M.iFail h
theorem K137 : CodeOk Tryz.prog 137 k137 := .of Tryz.func137 (by kernel_rfl) (by kernel_rfl) h137 (fc o137_2 fe)
-- (*sternpost/host.Host).tag
noncomputable def X139 : List Value → M := fun args => match args with
 | [v0] => .kPtr v0 fun x0 => 
 .onS x0 fun a1 =>
 .ld a1.block ((a1.off + 27) + 1) fun v2 =>
 .kInt .i64 v2 fun n3 =>
 .wr .i64 (n3 + (1 : Int)) fun n4 =>
 .onS x0 fun a5 =>
 .st 1 (⟨a5.block, (a5.off + 27) + 1, none⟩ : Addr) (.int .i64 n4) (
 .onS x0 fun a7 =>
 .ld a7.block ((a7.off + 27) + 1) fun v8 =>
 .kInt .i64 v8 fun n9 =>
 .ret (.int .i64 n9))
 | _ => .fail
noncomputable def cuts139 : Cuts := []
noncomputable def L139 : Places := []
noncomputable def k139 : FCode := .of X139 L139 cuts139
theorem h139 : XOk Tryz.prog Tryz.f139 cuts139 L139 X139 := by
  intro Γ m args H r h; unfold X139 at h; split at h
  · replace h := M.iPtr h; obtain ⟨_, rfl, h⟩ := h; exact ⟨Eq.trans (by kernel_rfl) h, Nat.le_of_ble_eq_true (by kernel_rfl)⟩
  · exact M.iFail h
theorem K139 : CodeOk Tryz.prog 139 k139 := .of Tryz.func139 (by kernel_rfl) (by kernel_rfl) h139 fe
-- (*sternpost/neigh.Cache).waiting
noncomputable def X141 : List Value → M := fun args => match args with
 | [v0] => .kPtr v0 fun x0 => 
 .onS x0 fun a1 =>
 .ld a1.block (a1.off + 8) fun v2 =>
 .kMp v2 fun r3 =>
 .rng r3 fun v4 =>
 .jmp 100003 [.int .i64 (0 : Int), v4]
 | _ => .fail
noncomputable def X141_100003 : List Value → M := fun args => match args with
 | [v0, x1] => .kInt .i64 v0 fun x0 => 
 .kPtr x1 fun p2 =>
 .onS p2 fun a3 =>
 .nxt a3 fun v4 =>
 .kTup v4 fun vs5 =>
 .nthA vs5 0 fun v6 =>
 .kBool v6 fun b7 =>
 .bool b7 (
 .kPtr x1 fun p8 =>
 .onS p8 fun a9 =>
 .entr a9 fun v10 =>
 .kTup v10 fun vs11 =>
 .nthA vs11 1 fun v12 =>
 .kPtr v12 fun p13 =>
 .onS p13 fun a14 =>
 .ld a14.block (a14.off + 2) fun v15 =>
 .kSl v15 fun a16 l17 c18 =>
 .wr .i64 (x0 + ((l17 : Nat) : Int)) fun n19 =>
 .jmp 100003 [.int .i64 n19, x1]) (
 .ret (.int .i64 x0))
 | _ => .fail
noncomputable def cuts141 : Cuts := [(100003, [3, 10])]
noncomputable def L141 : Places := [(100003, X141_100003, todoOf Tryz.f141 100003)]
noncomputable def k141 : FCode := .of X141 L141 cuts141
theorem o141_100003 : OOk Tryz.prog Tryz.f141 cuts141 L141 (100003, X141_100003, todoOf Tryz.f141 100003) := by
  intro vs Γ m H r h; replace h : (X141_100003 vs).run _ _ _ _ = _ := h; unfold X141_100003 at h; split at h
  · replace h := M.iInt h; obtain ⟨_, rfl, h⟩ := h; exact Eq.trans (by kernel_rfl) h
  · exact M.iFail h
theorem h141 : XOk Tryz.prog Tryz.f141 cuts141 L141 X141 := by
  intro Γ m args H r h; unfold X141 at h; split at h
  · replace h := M.iPtr h; obtain ⟨_, rfl, h⟩ := h; exact ⟨Eq.trans (by kernel_rfl) h, Nat.le_of_ble_eq_true (by kernel_rfl)⟩
  · exact M.iFail h
theorem K141 : CodeOk Tryz.prog 141 k141 := .of Tryz.func141 (by kernel_rfl) (by kernel_rfl) h141 (fc o141_100003 fe)
-- (*sternpost/neigh.Cache).fresh
noncomputable def X142 : List Value → M := fun args => match args with
 | [v0, v1, v2] => .kPtr v0 fun x0 => .kAgg v1 fun x1 => .kInt .i64 v2 fun x2 => 
 .new (.cells x1.toList 0 true) fun b3 =>
 .ld b3 (0 + 1) fun v4 =>
 .kInt .i64 v4 fun n5 =>
 .onS x0 fun a6 =>
 .ld a6.block (a6.off + 1) fun v7 =>
 .kInt .i64 v7 fun n8 =>
 .wr .i64 (n5 + n8) fun n9 =>
 .cmp .lss x2 n9 fun t10 =>
 .ret (.bool t10)
 | _ => .fail
noncomputable def cuts142 : Cuts := []
noncomputable def L142 : Places := []
noncomputable def k142 : FCode := .of X142 L142 cuts142
theorem h142 : XOk Tryz.prog Tryz.f142 cuts142 L142 X142 := by
  intro Γ m args H r h; unfold X142 at h; split at h
  · replace h := M.iPtr h; obtain ⟨_, rfl, h⟩ := h; replace h := M.iAgg h; obtain ⟨_, rfl, h⟩ := h; replace h := M.iInt h; obtain ⟨_, rfl, h⟩ := h; exact ⟨Eq.trans (by kernel_rfl) h, Nat.le_of_ble_eq_true (by kernel_rfl)⟩
  · exact M.iFail h
theorem K142 : CodeOk Tryz.prog 142 k142 := .of Tryz.func142 (by kernel_rfl) (by kernel_rfl) h142 fe
-- maps.Keys[map[int]sternpost/neigh.known,int,sternpost/neigh.known]
noncomputable def X143 : List Value → M := fun args => match args with
 | [v0] => .kMp v0 fun x0 => 
 .new (.cells [.map x0] 177209344 true) fun b1 =>
 .ret (.func (.func 203) #[] #[.pointer (some (⟨b1, 0, none⟩ : Addr))])
 | _ => .fail
noncomputable def cuts143 : Cuts := []
noncomputable def L143 : Places := []
noncomputable def k143 : FCode := .of X143 L143 cuts143
theorem h143 : XOk Tryz.prog Tryz.f143 cuts143 L143 X143 := by
  intro Γ m args H r h; unfold X143 at h; split at h
  · replace h := M.iMp h; obtain ⟨_, rfl, h⟩ := h; exact ⟨Eq.trans (by kernel_rfl) h, Nat.le_of_ble_eq_true (by kernel_rfl)⟩
  · exact M.iFail h
theorem K143 : CodeOk Tryz.prog 143 k143 := .of Tryz.func143 (by kernel_rfl) (by kernel_rfl) h143 fe
-- sternpost/ip.num
noncomputable def X144 : List Value → M := fun args => match args with
 | [v0, v1] => .kInt .i64 v0 fun x0 => .kInt .i64 v1 fun x1 => 
 .call 66 [.int .i64 x0, .int .i64 x1] fun r2 =>
 .kTup r2 fun vs3 =>
 .nthA vs3 0 fun v4 =>
 .kStr v4 fun s5 =>
 .kTup r2 fun vs6 =>
 .nthA vs6 1 fun v7 =>
 .kInt .i64 v7 fun n8 =>
 .ret (.string s5)
 | _ => .fail
noncomputable def cuts144 : Cuts := []
noncomputable def L144 : Places := []
noncomputable def k144 : FCode := .of X144 L144 cuts144
theorem h144 : XOk Tryz.prog Tryz.f144 cuts144 L144 X144 := by
  intro Γ m args H r h; unfold X144 at h; split at h
  · replace h := M.iInt h; obtain ⟨_, rfl, h⟩ := h; replace h := M.iInt h; obtain ⟨_, rfl, h⟩ := h; exact ⟨Eq.trans (by kernel_rfl) h, Nat.le_of_ble_eq_true (by kernel_rfl)⟩
  · exact M.iFail h
theorem K144 : CodeOk Tryz.prog 144 k144 := .of Tryz.func144 (by kernel_rfl) (by kernel_rfl) h144 fe
-- sternpost/sum.carry
noncomputable def X145 : List Value → M := fun args => match args with
 | [v0] => .kInt .i64 v0 fun x0 => 
 .jmp 100001 [.int .i64 x0]
 | _ => .fail
noncomputable def X145_100001 : List Value → M := fun args => match args with
 | [v0] => .kInt .i64 v0 fun x0 => 
 .cmp .gtr x0 (65535 : Int) fun t1 =>
 .bool t1 (
 .nite ((16 : Int) < 0) (
 .wr .i64 ((x0 / 2 ^ (min (16 : Int).toNat IntKind.i64.bits)) + (bits .and .i64 x0 (65535 : Int))) fun n2 =>
 .jmp 100001 [.int .i64 n2])) (
 .ret (.int .i64 x0))
 | _ => .fail
noncomputable def cuts145 : Cuts := [(100001, [0])]
noncomputable def L145 : Places := [(100001, X145_100001, todoOf Tryz.f145 100001)]
noncomputable def k145 : FCode := .of X145 L145 cuts145
theorem o145_100001 : OOk Tryz.prog Tryz.f145 cuts145 L145 (100001, X145_100001, todoOf Tryz.f145 100001) := by
  intro vs Γ m H r h; replace h : (X145_100001 vs).run _ _ _ _ = _ := h; unfold X145_100001 at h; split at h
  · replace h := M.iInt h; obtain ⟨_, rfl, h⟩ := h; exact Eq.trans (by kernel_rfl) h
  · exact M.iFail h
theorem h145 : XOk Tryz.prog Tryz.f145 cuts145 L145 X145 := by
  intro Γ m args H r h; unfold X145 at h; split at h
  · replace h := M.iInt h; obtain ⟨_, rfl, h⟩ := h; exact ⟨Eq.trans (by kernel_rfl) h, Nat.le_of_ble_eq_true (by kernel_rfl)⟩
  · exact M.iFail h
theorem K145 : CodeOk Tryz.prog 145 k145 := .of Tryz.func145 (by kernel_rfl) (by kernel_rfl) h145 (fc o145_100001 fe)
-- (*sternpost/sock.Box).look
noncomputable def X166 : List Value → M := fun args => match args with
 | [v0] => .kPtr v0 fun x0 => 
 .jmp 100002 [.pointer x0, .slice none 0 0, .int .i64 (0 : Int)]
 | _ => .fail
noncomputable def X166_3 : List Value → M := fun args => match args with
 | [v0, v1, v2] => .kPtr v0 fun x0 => .kSl v1 fun a1 l2 c3 => .kInt .i64 v2 fun x4 => 
 .wr .i64 (x4 + (1 : Int)) fun n5 =>
 .jmp 100002 [.pointer x0, .slice a1 l2 c3, .int .i64 n5]
 | _ => .fail
noncomputable def X166_100002 : List Value → M := fun args => match args with
 | [v0, v1, v2] => .kPtr v0 fun x0 => .kSl v1 fun a1 l2 c3 => .kInt .i64 v2 fun x4 => 
 .onS x0 fun a5 =>
 .ld a5.block (a5.off + 2) fun v6 =>
 .kSl v6 fun a7 l8 c9 =>
 .cmp .lss x4 ((l8 : Nat) : Int) fun t10 =>
 .bool t10 (
 .onS x0 fun a11 =>
 .ld a11.block (a11.off + 2) fun v12 =>
 .kSl v12 fun a13 l14 c15 =>
 .onS a13 fun a16 =>
 .inb x4 l14 (
 .ld ((a16.add (x4.toNat * 1)).block) ((a16.add (x4.toNat * 1)).off) fun v17 =>
 .kPtr v17 fun p18 =>
 .call 218 [.pointer x0, .pointer p18] fun r19 =>
 .kPtr r19 fun p20 =>
 .bool p20.isNone (
 .jmp 3 [.pointer x0, .slice a1 l2 c3, .int .i64 x4]) (
 .onS p20 fun a21 =>
 .ldn a21.block a21.off 5 fun cs22 =>
 .cellsOks [.agg cs22] (.onS (Instr.fill (fun i => some (i * 5, 5)) ([.int .i64 (0 : Int), .int .i64 (0 : Int), .int .i64 (0 : Int), .int .i64 (0 : Int), .string (⟨#[]⟩ : ByteArray)] : List Value).toArray (([0] : List Nat).zip [.agg cs22])) fun cells23q =>
 .fxV (.agg cells23q) fun cells23v =>
 .kAgg cells23v fun cells23 =>
 .new (.cells cells23.toList 5 true) fun b24 =>
 .firstC 5 (.slice (some ⟨b24, 0, none⟩) 1 1) fun n25 nw26 =>
 .app 166 (.slice a1 l2 c3) n25 nw26 fun v27 =>
 .kSl v27 fun a29 l30 c31 =>
 .onS x0 fun a32 =>
 .ld a32.block (a32.off + 2) fun v33 =>
 .kSl v33 fun a34 l35 c36 =>
 .wr .i64 (x4 + (1 : Int)) fun n37 =>
 .call 219 [.slice a34 l35 c36, .int .i64 x4, .int .i64 n37] fun r38 =>
 .kSl r38 fun a39 l40 c41 =>
 .onS x0 fun a42 =>
 .st 1 (⟨a42.block, a42.off + 2, none⟩ : Addr) (.slice a39 l40 c41) (
 .jmp 3 [.pointer x0, .slice a29 l30 c31, .int .i64 (-1 : Int)]))))) (
 .ret (.slice a1 l2 c3))
 | _ => .fail
noncomputable def cuts166 : Cuts := [(100002, [0, 2, 3]), (3, [0, 2, 3])]
noncomputable def L166 : Places := [(3, X166_3, todoOf Tryz.f166 3), (100002, X166_100002, todoOf Tryz.f166 100002)]
noncomputable def k166 : FCode := .of X166 L166 cuts166
theorem o166_3 : OOk Tryz.prog Tryz.f166 cuts166 L166 (3, X166_3, todoOf Tryz.f166 3) := by
  intro vs Γ m H r h; replace h : (X166_3 vs).run _ _ _ _ = _ := h; unfold X166_3 at h; split at h
  · replace h := M.iPtr h; obtain ⟨_, rfl, h⟩ := h; replace h := M.iSl h; obtain ⟨_, _, _, rfl, h⟩ := h; replace h := M.iInt h; obtain ⟨_, rfl, h⟩ := h; exact Eq.trans (by kernel_rfl) h
  · exact M.iFail h
theorem o166_100002 : OOk Tryz.prog Tryz.f166 cuts166 L166 (100002, X166_100002, todoOf Tryz.f166 100002) := by
  intro vs Γ m H r h; replace h : (X166_100002 vs).run _ _ _ _ = _ := h; unfold X166_100002 at h; split at h
  · replace h := M.iPtr h; obtain ⟨_, rfl, h⟩ := h; replace h := M.iSl h; obtain ⟨_, _, _, rfl, h⟩ := h; replace h := M.iInt h; obtain ⟨_, rfl, h⟩ := h; exact Eq.trans (by kernel_rfl) h
  · exact M.iFail h
theorem h166 : XOk Tryz.prog Tryz.f166 cuts166 L166 X166 := by
  intro Γ m args H r h; unfold X166 at h; split at h
  · replace h := M.iPtr h; obtain ⟨_, rfl, h⟩ := h; exact ⟨Eq.trans (by kernel_rfl) h, Nat.le_of_ble_eq_true (by kernel_rfl)⟩
  · exact M.iFail h
theorem K166 : CodeOk Tryz.prog 166 k166 := .of Tryz.func166 (by kernel_rfl) (by kernel_rfl) h166 (fc o166_3 (fc o166_100002 fe))
-- slices.pdqsortCmpFunc[sternpost/frag.key]
noncomputable def X186 : List Value → M := fun args => match args with
 | [v0, v1, v2, v3, x6] => .kSl v0 fun a0 l1 c2 => .kInt .i64 v1 fun x3 => .kInt .i64 v2 fun x4 => .kInt .i64 v3 fun x5 => 
 .jmp 100002 [.slice a0 l1 c2, .int .i64 x3, .int .i64 x4, .int .i64 x5, x6, .bool true, .bool true]
 | _ => .fail
noncomputable def X186_10 : List Value → M := fun args => match args with
 | [v0, v1, v2, v3, x6, v5, v6, v7] => .kSl v0 fun a0 l1 c2 => .kInt .i64 v1 fun x3 => .kInt .i64 v2 fun x4 => .kInt .i64 v3 fun x5 => .kBool v5 fun x7 => .kBool v6 fun x8 => .kInt .i64 v7 fun x9 => 
 .call 234 [.slice a0 l1 c2, .int .i64 x3, .int .i64 x4, x6] fun r10 =>
 .kTup r10 fun vs11 =>
 .nthA vs11 0 fun v12 =>
 .kInt .i64 v12 fun n13 =>
 .kTup r10 fun vs14 =>
 .nthA vs14 1 fun v15 =>
 .kInt .i64 v15 fun n16 =>
 .cmp .eql n16 (2 : Int) fun t17 =>
 .bool t17 (
 .call 235 [.slice a0 l1 c2, .int .i64 x3, .int .i64 x4, x6] fun r18 =>
 .wr .i64 (x4 - (1 : Int)) fun n19 =>
 .wr .i64 (n13 - x3) fun n20 =>
 .wr .i64 (n19 - n20) fun n21 =>
 .jmp 15 [.slice a0 l1 c2, .int .i64 x3, .int .i64 x4, .int .i64 x5, x6, .bool x7, .bool x8, .int .i64 x9, .int .i64 n21, .int .i64 (1 : Int)]) (
 .jmp 15 [.slice a0 l1 c2, .int .i64 x3, .int .i64 x4, .int .i64 x5, x6, .bool x7, .bool x8, .int .i64 x9, .int .i64 n13, .int .i64 n16])
 | _ => .fail
noncomputable def X186_15 : List Value → M := fun args => match args with
 | [v0, v1, v2, v3, x6, v5, v6, v7, v8, v9] => .kSl v0 fun a0 l1 c2 => .kInt .i64 v1 fun x3 => .kInt .i64 v2 fun x4 => .kInt .i64 v3 fun x5 => .kBool v5 fun x7 => .kBool v6 fun x8 => .kInt .i64 v7 fun x9 => .kInt .i64 v8 fun x10 => .kInt .i64 v9 fun x11 => 
 .bool x7 (
 .bool x8 (
 .cmp .eql x11 (1 : Int) fun t12 =>
 .bool t12 (
 .call 236 [.slice a0 l1 c2, .int .i64 x3, .int .i64 x4, x6] fun r13 =>
 .kBool r13 fun b14 =>
 .bool b14 (
 .ret (.tuple #[])) (
 .jmp 17 [.slice a0 l1 c2, .int .i64 x3, .int .i64 x4, .int .i64 x5, x6, .bool x7, .bool x8, .int .i64 x9, .int .i64 x10])) (
 .jmp 17 [.slice a0 l1 c2, .int .i64 x3, .int .i64 x4, .int .i64 x5, x6, .bool x7, .bool x8, .int .i64 x9, .int .i64 x10])) (
 .jmp 17 [.slice a0 l1 c2, .int .i64 x3, .int .i64 x4, .int .i64 x5, x6, .bool x7, .bool x8, .int .i64 x9, .int .i64 x10])) (
 .jmp 17 [.slice a0 l1 c2, .int .i64 x3, .int .i64 x4, .int .i64 x5, x6, .bool x7, .bool x8, .int .i64 x9, .int .i64 x10])
 | _ => .fail
noncomputable def X186_17 : List Value → M := fun args => match args with
 | [v0, v1, v2, v3, x6, v5, v6, v7, v8] => .kSl v0 fun a0 l1 c2 => .kInt .i64 v1 fun x3 => .kInt .i64 v2 fun x4 => .kInt .i64 v3 fun x5 => .kBool v5 fun x7 => .kBool v6 fun x8 => .kInt .i64 v7 fun x9 => .kInt .i64 v8 fun x10 => 
 .cmp .gtr x3 (0 : Int) fun t11 =>
 .bool t11 (
 .wr .i64 (x3 - (1 : Int)) fun n12 =>
 .onS a0 fun a13 =>
 .inb n12 l1 (
 .ldn ((a13.add (n12.toNat * 4)).block) ((a13.add (n12.toNat * 4)).off) 4 fun cs14 =>
 .onS a0 fun a15 =>
 .inb x10 l1 (
 .ldn ((a15.add (x10.toNat * 4)).block) ((a15.add (x10.toNat * 4)).off) 4 fun cs16 =>
 .callV x6 [.agg cs14, .agg cs16] fun r17 =>
 .kInt .i64 r17 fun n18 =>
 .cmp .lss n18 (0 : Int) fun t19 =>
 .bool (!t19) (
 .call 237 [.slice a0 l1 c2, .int .i64 x3, .int .i64 x4, .int .i64 x10, x6] fun r20 =>
 .kInt .i64 r20 fun n21 =>
 .jmp 100002 [.slice a0 l1 c2, .int .i64 n21, .int .i64 x4, .int .i64 x5, x6, .bool x7, .bool x8]) (
 .jmp 20 [.slice a0 l1 c2, .int .i64 x3, .int .i64 x4, .int .i64 x5, x6, .int .i64 x9, .int .i64 x10])))) (
 .jmp 20 [.slice a0 l1 c2, .int .i64 x3, .int .i64 x4, .int .i64 x5, x6, .int .i64 x9, .int .i64 x10])
 | _ => .fail
noncomputable def X186_20 : List Value → M := fun args => match args with
 | [v0, v1, v2, v3, x6, v5, v6] => .kSl v0 fun a0 l1 c2 => .kInt .i64 v1 fun x3 => .kInt .i64 v2 fun x4 => .kInt .i64 v3 fun x5 => .kInt .i64 v5 fun x7 => .kInt .i64 v6 fun x8 => 
 .call 238 [.slice a0 l1 c2, .int .i64 x3, .int .i64 x4, .int .i64 x8, x6] fun r9 =>
 .kTup r9 fun vs10 =>
 .nthA vs10 0 fun v11 =>
 .kInt .i64 v11 fun n12 =>
 .kTup r9 fun vs13 =>
 .nthA vs13 1 fun v14 =>
 .kBool v14 fun b15 =>
 .wr .i64 (n12 - x3) fun n16 =>
 .wr .i64 (x4 - n12) fun n17 =>
 .nite ((8 : Int) = 0) (
 .wr .i64 (x7.tdiv (8 : Int)) fun n18 =>
 .cmp .lss n16 n17 fun t19 =>
 .bool t19 (
 .cmp .geq n16 n18 fun t20 =>
 .call 186 [.slice a0 l1 c2, .int .i64 x3, .int .i64 n12, .int .i64 x5, x6] fun r21 =>
 .wr .i64 (n12 + (1 : Int)) fun n22 =>
 .jmp 100002 [.slice a0 l1 c2, .int .i64 n22, .int .i64 x4, .int .i64 x5, x6, .bool t20, .bool b15]) (
 .cmp .geq n17 n18 fun t23 =>
 .wr .i64 (n12 + (1 : Int)) fun n24 =>
 .call 186 [.slice a0 l1 c2, .int .i64 n24, .int .i64 x4, .int .i64 x5, x6] fun r25 =>
 .jmp 100002 [.slice a0 l1 c2, .int .i64 x3, .int .i64 n12, .int .i64 x5, x6, .bool t23, .bool b15]))
 | _ => .fail
noncomputable def X186_100002 : List Value → M := fun args => match args with
 | [v0, v1, v2, v3, x6, v5, v6] => .kSl v0 fun a0 l1 c2 => .kInt .i64 v1 fun x3 => .kInt .i64 v2 fun x4 => .kInt .i64 v3 fun x5 => .kBool v5 fun x7 => .kBool v6 fun x8 => 
 .wr .i64 (x4 - x3) fun n9 =>
 .cmp .leq n9 (12 : Int) fun t10 =>
 .bool t10 (
 .call 231 [.slice a0 l1 c2, .int .i64 x3, .int .i64 x4, x6] fun r11 =>
 .ret (.tuple #[])) (
 .cmp .eql x5 (0 : Int) fun t12 =>
 .bool t12 (
 .call 232 [.slice a0 l1 c2, .int .i64 x3, .int .i64 x4, x6] fun r13 =>
 .ret (.tuple #[])) (
 .bool (!x7) (
 .call 233 [.slice a0 l1 c2, .int .i64 x3, .int .i64 x4, x6] fun r14 =>
 .wr .i64 (x5 - (1 : Int)) fun n15 =>
 .jmp 10 [.slice a0 l1 c2, .int .i64 x3, .int .i64 x4, .int .i64 n15, x6, .bool x7, .bool x8, .int .i64 n9]) (
 .jmp 10 [.slice a0 l1 c2, .int .i64 x3, .int .i64 x4, .int .i64 x5, x6, .bool x7, .bool x8, .int .i64 n9])))
 | _ => .fail
noncomputable def cuts186 : Cuts := [(100002, [0, 1, 2, 3, 4, 10, 11]), (15, [0, 1, 2, 3, 4, 10, 11, 12, 13, 14]), (17, [0, 1, 2, 3, 4, 10, 11, 12, 13]), (20, [0, 1, 2, 3, 4, 12, 13]), (10, [0, 1, 2, 3, 4, 10, 11, 12])]
noncomputable def L186 : Places := [(10, X186_10, todoOf Tryz.f186 10), (15, X186_15, todoOf Tryz.f186 15), (17, X186_17, todoOf Tryz.f186 17), (20, X186_20, todoOf Tryz.f186 20), (100002, X186_100002, todoOf Tryz.f186 100002)]
noncomputable def k186 : FCode := .of X186 L186 cuts186
theorem o186_10 : OOk Tryz.prog Tryz.f186 cuts186 L186 (10, X186_10, todoOf Tryz.f186 10) := by
  intro vs Γ m H r h; replace h : (X186_10 vs).run _ _ _ _ = _ := h; unfold X186_10 at h; split at h
  · replace h := M.iSl h; obtain ⟨_, _, _, rfl, h⟩ := h; replace h := M.iInt h; obtain ⟨_, rfl, h⟩ := h; replace h := M.iInt h; obtain ⟨_, rfl, h⟩ := h; replace h := M.iInt h; obtain ⟨_, rfl, h⟩ := h; replace h := M.iBool h; obtain ⟨_, rfl, h⟩ := h; replace h := M.iBool h; obtain ⟨_, rfl, h⟩ := h; replace h := M.iInt h; obtain ⟨_, rfl, h⟩ := h; exact Eq.trans (by kernel_rfl) h
  · exact M.iFail h
theorem o186_15 : OOk Tryz.prog Tryz.f186 cuts186 L186 (15, X186_15, todoOf Tryz.f186 15) := by
  intro vs Γ m H r h; replace h : (X186_15 vs).run _ _ _ _ = _ := h; unfold X186_15 at h; split at h
  · replace h := M.iSl h; obtain ⟨_, _, _, rfl, h⟩ := h; replace h := M.iInt h; obtain ⟨_, rfl, h⟩ := h; replace h := M.iInt h; obtain ⟨_, rfl, h⟩ := h; replace h := M.iInt h; obtain ⟨_, rfl, h⟩ := h; replace h := M.iBool h; obtain ⟨_, rfl, h⟩ := h; replace h := M.iBool h; obtain ⟨_, rfl, h⟩ := h; replace h := M.iInt h; obtain ⟨_, rfl, h⟩ := h; replace h := M.iInt h; obtain ⟨_, rfl, h⟩ := h; replace h := M.iInt h; obtain ⟨_, rfl, h⟩ := h; exact Eq.trans (by kernel_rfl) h
  · exact M.iFail h
theorem o186_17 : OOk Tryz.prog Tryz.f186 cuts186 L186 (17, X186_17, todoOf Tryz.f186 17) := by
  intro vs Γ m H r h; replace h : (X186_17 vs).run _ _ _ _ = _ := h; unfold X186_17 at h; split at h
  · replace h := M.iSl h; obtain ⟨_, _, _, rfl, h⟩ := h; replace h := M.iInt h; obtain ⟨_, rfl, h⟩ := h; replace h := M.iInt h; obtain ⟨_, rfl, h⟩ := h; replace h := M.iInt h; obtain ⟨_, rfl, h⟩ := h; replace h := M.iBool h; obtain ⟨_, rfl, h⟩ := h; replace h := M.iBool h; obtain ⟨_, rfl, h⟩ := h; replace h := M.iInt h; obtain ⟨_, rfl, h⟩ := h; replace h := M.iInt h; obtain ⟨_, rfl, h⟩ := h; exact Eq.trans (by kernel_rfl) h
  · exact M.iFail h
theorem o186_20 : OOk Tryz.prog Tryz.f186 cuts186 L186 (20, X186_20, todoOf Tryz.f186 20) := by
  intro vs Γ m H r h; replace h : (X186_20 vs).run _ _ _ _ = _ := h; unfold X186_20 at h; split at h
  · replace h := M.iSl h; obtain ⟨_, _, _, rfl, h⟩ := h; replace h := M.iInt h; obtain ⟨_, rfl, h⟩ := h; replace h := M.iInt h; obtain ⟨_, rfl, h⟩ := h; replace h := M.iInt h; obtain ⟨_, rfl, h⟩ := h; replace h := M.iInt h; obtain ⟨_, rfl, h⟩ := h; replace h := M.iInt h; obtain ⟨_, rfl, h⟩ := h; exact Eq.trans (by kernel_rfl) h
  · exact M.iFail h
theorem o186_100002 : OOk Tryz.prog Tryz.f186 cuts186 L186 (100002, X186_100002, todoOf Tryz.f186 100002) := by
  intro vs Γ m H r h; replace h : (X186_100002 vs).run _ _ _ _ = _ := h; unfold X186_100002 at h; split at h
  · replace h := M.iSl h; obtain ⟨_, _, _, rfl, h⟩ := h; replace h := M.iInt h; obtain ⟨_, rfl, h⟩ := h; replace h := M.iInt h; obtain ⟨_, rfl, h⟩ := h; replace h := M.iInt h; obtain ⟨_, rfl, h⟩ := h; replace h := M.iBool h; obtain ⟨_, rfl, h⟩ := h; replace h := M.iBool h; obtain ⟨_, rfl, h⟩ := h; exact Eq.trans (by kernel_rfl) h
  · exact M.iFail h
theorem h186 : XOk Tryz.prog Tryz.f186 cuts186 L186 X186 := by
  intro Γ m args H r h; unfold X186 at h; split at h
  · replace h := M.iSl h; obtain ⟨_, _, _, rfl, h⟩ := h; replace h := M.iInt h; obtain ⟨_, rfl, h⟩ := h; replace h := M.iInt h; obtain ⟨_, rfl, h⟩ := h; replace h := M.iInt h; obtain ⟨_, rfl, h⟩ := h; exact ⟨Eq.trans (by kernel_rfl) h, Nat.le_of_ble_eq_true (by kernel_rfl)⟩
  · exact M.iFail h
theorem K186 : CodeOk Tryz.prog 186 k186 := .of Tryz.func186 (by kernel_rfl) (by kernel_rfl) h186 (fc o186_10 (fc o186_15 (fc o186_17 (fc o186_20 (fc o186_100002 fe)))))
-- (*sternpost/table.Table).Numbers
noncomputable def X189 : List Value → M := fun args => match args with
 | [v0] => .kPtr v0 fun x0 => 
 .onS x0 fun a1 =>
 .ld a1.block (a1.off + 15) fun v2 =>
 .kMp v2 fun r3 =>
 .call 239 [.map r3] fun r4 =>
 .call 124 [r4] fun r5 =>
 .kSl r5 fun a6 l7 c8 =>
 .ret (.slice a6 l7 c8)
 | _ => .fail
noncomputable def cuts189 : Cuts := []
noncomputable def L189 : Places := []
noncomputable def k189 : FCode := .of X189 L189 cuts189
theorem h189 : XOk Tryz.prog Tryz.f189 cuts189 L189 X189 := by
  intro Γ m args H r h; unfold X189 at h; split at h
  · replace h := M.iPtr h; obtain ⟨_, rfl, h⟩ := h; exact ⟨Eq.trans (by kernel_rfl) h, Nat.le_of_ble_eq_true (by kernel_rfl)⟩
  · exact M.iFail h
theorem K189 : CodeOk Tryz.prog 189 k189 := .of Tryz.func189 (by kernel_rfl) (by kernel_rfl) h189 fe
-- slices.insertionSortOrdered[int]
noncomputable def X191 : List Value → M := fun args => match args with
 | [v0, v1, v2] => .kSl v0 fun a0 l1 c2 => .kInt .i64 v1 fun x3 => .kInt .i64 v2 fun x4 => 
 .wr .i64 (x3 + (1 : Int)) fun n5 =>
 .jmp 100001 [.slice a0 l1 c2, .int .i64 x3, .int .i64 x4, .int .i64 n5]
 | _ => .fail
noncomputable def X191_2 : List Value → M := fun args => match args with
 | [v0, v1, v2, v3] => .kSl v0 fun a0 l1 c2 => .kInt .i64 v1 fun x3 => .kInt .i64 v2 fun x4 => .kInt .i64 v3 fun x5 => 
 .wr .i64 (x5 + (1 : Int)) fun n6 =>
 .jmp 100001 [.slice a0 l1 c2, .int .i64 x3, .int .i64 x4, .int .i64 n6]
 | _ => .fail
noncomputable def X191_100001 : List Value → M := fun args => match args with
 | [v0, v1, v2, v3] => .kSl v0 fun a0 l1 c2 => .kInt .i64 v1 fun x3 => .kInt .i64 v2 fun x4 => .kInt .i64 v3 fun x5 => 
 .cmp .lss x5 x4 fun t6 =>
 .bool t6 (
 .jmp 100004 [.slice a0 l1 c2, .int .i64 x3, .int .i64 x4, .int .i64 x5, .int .i64 x5]) (
 .ret (.tuple #[]))
 | _ => .fail
noncomputable def X191_100004 : List Value → M := fun args => match args with
 | [v0, v1, v2, v3, v4] => .kSl v0 fun a0 l1 c2 => .kInt .i64 v1 fun x3 => .kInt .i64 v2 fun x4 => .kInt .i64 v3 fun x5 => .kInt .i64 v4 fun x6 => 
 .cmp .gtr x6 x3 fun t7 =>
 .bool t7 (
 .onS a0 fun a8 =>
 .inb x6 l1 (
 .ld ((a8.add (x6.toNat * 1)).block) ((a8.add (x6.toNat * 1)).off) fun v9 =>
 .kInt .i64 v9 fun n10 =>
 .wr .i64 (x6 - (1 : Int)) fun n11 =>
 .onS a0 fun a12 =>
 .inb n11 l1 (
 .ld ((a12.add (n11.toNat * 1)).block) ((a12.add (n11.toNat * 1)).off) fun v13 =>
 .kInt .i64 v13 fun n14 =>
 .call 197 [.int .i64 n10, .int .i64 n14] fun r15 =>
 .kBool r15 fun b16 =>
 .bool b16 (
 .wr .i64 (x6 - (1 : Int)) fun n17 =>
 .wr .i64 (x6 - (1 : Int)) fun n18 =>
 .onS a0 fun a19 =>
 .inb n18 l1 (
 .ld ((a19.add (n18.toNat * 1)).block) ((a19.add (n18.toNat * 1)).off) fun v20 =>
 .kInt .i64 v20 fun n21 =>
 .onS a0 fun a22 =>
 .inb x6 l1 (
 .ld ((a22.add (x6.toNat * 1)).block) ((a22.add (x6.toNat * 1)).off) fun v23 =>
 .kInt .i64 v23 fun n24 =>
 .onS a0 fun a25 =>
 .inb x6 l1 (
 .st 1 (a25.add (x6.toNat * 1)) (.int .i64 n21) (
 .onS a0 fun a27 =>
 .inb n17 l1 (
 .st 1 (a27.add (n17.toNat * 1)) (.int .i64 n24) (
 .wr .i64 (x6 - (1 : Int)) fun n29 =>
 .jmp 100004 [.slice a0 l1 c2, .int .i64 x3, .int .i64 x4, .int .i64 x5, .int .i64 n29]))))))) (
 .jmp 2 [.slice a0 l1 c2, .int .i64 x3, .int .i64 x4, .int .i64 x5])))) (
 .jmp 2 [.slice a0 l1 c2, .int .i64 x3, .int .i64 x4, .int .i64 x5])
 | _ => .fail
noncomputable def cuts191 : Cuts := [(100001, [0, 1, 2, 6]), (100004, [0, 1, 2, 6, 7]), (2, [0, 1, 2, 6])]
noncomputable def L191 : Places := [(2, X191_2, todoOf Tryz.f191 2), (100001, X191_100001, todoOf Tryz.f191 100001), (100004, X191_100004, todoOf Tryz.f191 100004)]
noncomputable def k191 : FCode := .of X191 L191 cuts191
theorem o191_2 : OOk Tryz.prog Tryz.f191 cuts191 L191 (2, X191_2, todoOf Tryz.f191 2) := by
  intro vs Γ m H r h; replace h : (X191_2 vs).run _ _ _ _ = _ := h; unfold X191_2 at h; split at h
  · replace h := M.iSl h; obtain ⟨_, _, _, rfl, h⟩ := h; replace h := M.iInt h; obtain ⟨_, rfl, h⟩ := h; replace h := M.iInt h; obtain ⟨_, rfl, h⟩ := h; replace h := M.iInt h; obtain ⟨_, rfl, h⟩ := h; exact Eq.trans (by kernel_rfl) h
  · exact M.iFail h
theorem o191_100001 : OOk Tryz.prog Tryz.f191 cuts191 L191 (100001, X191_100001, todoOf Tryz.f191 100001) := by
  intro vs Γ m H r h; replace h : (X191_100001 vs).run _ _ _ _ = _ := h; unfold X191_100001 at h; split at h
  · replace h := M.iSl h; obtain ⟨_, _, _, rfl, h⟩ := h; replace h := M.iInt h; obtain ⟨_, rfl, h⟩ := h; replace h := M.iInt h; obtain ⟨_, rfl, h⟩ := h; replace h := M.iInt h; obtain ⟨_, rfl, h⟩ := h; exact Eq.trans (by kernel_rfl) h
  · exact M.iFail h
theorem o191_100004 : OOk Tryz.prog Tryz.f191 cuts191 L191 (100004, X191_100004, todoOf Tryz.f191 100004) := by
  intro vs Γ m H r h; replace h : (X191_100004 vs).run _ _ _ _ = _ := h; unfold X191_100004 at h; split at h
  · replace h := M.iSl h; obtain ⟨_, _, _, rfl, h⟩ := h; replace h := M.iInt h; obtain ⟨_, rfl, h⟩ := h; replace h := M.iInt h; obtain ⟨_, rfl, h⟩ := h; replace h := M.iInt h; obtain ⟨_, rfl, h⟩ := h; replace h := M.iInt h; obtain ⟨_, rfl, h⟩ := h; exact Eq.trans (by kernel_rfl) h
  · exact M.iFail h
theorem h191 : XOk Tryz.prog Tryz.f191 cuts191 L191 X191 := by
  intro Γ m args H r h; unfold X191 at h; split at h
  · replace h := M.iSl h; obtain ⟨_, _, _, rfl, h⟩ := h; replace h := M.iInt h; obtain ⟨_, rfl, h⟩ := h; replace h := M.iInt h; obtain ⟨_, rfl, h⟩ := h; exact ⟨Eq.trans (by kernel_rfl) h, Nat.le_of_ble_eq_true (by kernel_rfl)⟩
  · exact M.iFail h
theorem K191 : CodeOk Tryz.prog 191 k191 := .of Tryz.func191 (by kernel_rfl) (by kernel_rfl) h191 (fc o191_2 (fc o191_100001 (fc o191_100004 fe)))
-- math/bits.Len64
noncomputable def X201 : List Value → M := fun args => match args with
 | [v0] => .kInt .u64 v0 fun x0 => 
 .cmp .geq x0 (4294967296 : Int) fun t1 =>
 .bool t1 (
 .nite ((32 : Int) < 0) (
 .fxI (x0 / 2 ^ (min (32 : Int).toNat IntKind.u64.bits)) fun n2 =>
 .jmp 4 [.int .u64 n2, .int .i64 (32 : Int)])) (
 .jmp 4 [.int .u64 x0, .int .i64 (0 : Int)])
 | _ => .fail
noncomputable def X201_4 : List Value → M := fun args => match args with
 | [v0, v1] => .kInt .u64 v0 fun x0 => .kInt .i64 v1 fun x1 => 
 .cmp .geq x0 (65536 : Int) fun t2 =>
 .bool t2 (
 .nite ((16 : Int) < 0) (
 .wr .i64 (x1 + (16 : Int)) fun n3 =>
 .fxI (x0 / 2 ^ (min (16 : Int).toNat IntKind.u64.bits)) fun n4 =>
 .jmp 7 [.int .u64 n4, .int .i64 n3])) (
 .jmp 7 [.int .u64 x0, .int .i64 x1])
 | _ => .fail
noncomputable def X201_7 : List Value → M := fun args => match args with
 | [v0, v1] => .kInt .u64 v0 fun x0 => .kInt .i64 v1 fun x1 => 
 .cmp .geq x0 (256 : Int) fun t2 =>
 .bool t2 (
 .nite ((8 : Int) < 0) (
 .wr .i64 (x1 + (8 : Int)) fun n3 =>
 .fxI (x0 / 2 ^ (min (8 : Int).toNat IntKind.u64.bits)) fun n4 =>
 .jmp 10 [.int .u64 n4, .int .i64 n3])) (
 .jmp 10 [.int .u64 x0, .int .i64 x1])
 | _ => .fail
noncomputable def X201_10 : List Value → M := fun args => match args with
 | [v0, v1] => .kInt .u64 v0 fun x0 => .kInt .i64 v1 fun x1 => 
 .wr .u8 x0 fun n2 =>
 .inb n2 (⟨#[0, 1, 2, 2, 3, 3, 3, 3, 4, 4, 4, 4, 4, 4, 4, 4, 5, 5, 5, 5, 5, 5, 5, 5, 5, 5, 5, 5, 5, 5, 5, 5, 6, 6, 6, 6, 6, 6, 6, 6, 6, 6, 6, 6, 6, 6, 6, 6, 6, 6, 6, 6, 6, 6, 6, 6, 6, 6, 6, 6, 6, 6, 6, 6, 7, 7, 7, 7, 7, 7, 7, 7, 7, 7, 7, 7, 7, 7, 7, 7, 7, 7, 7, 7, 7, 7, 7, 7, 7, 7, 7, 7, 7, 7, 7, 7, 7, 7, 7, 7, 7, 7, 7, 7, 7, 7, 7, 7, 7, 7, 7, 7, 7, 7, 7, 7, 7, 7, 7, 7, 7, 7, 7, 7, 7, 7, 7, 7, 8, 8, 8, 8, 8, 8, 8, 8, 8, 8, 8, 8, 8, 8, 8, 8, 8, 8, 8, 8, 8, 8, 8, 8, 8, 8, 8, 8, 8, 8, 8, 8, 8, 8, 8, 8, 8, 8, 8, 8, 8, 8, 8, 8, 8, 8, 8, 8, 8, 8, 8, 8, 8, 8, 8, 8, 8, 8, 8, 8, 8, 8, 8, 8, 8, 8, 8, 8, 8, 8, 8, 8, 8, 8, 8, 8, 8, 8, 8, 8, 8, 8, 8, 8, 8, 8, 8, 8, 8, 8, 8, 8, 8, 8, 8, 8, 8, 8, 8, 8, 8, 8, 8, 8, 8, 8, 8, 8, 8, 8, 8, 8, 8, 8, 8, 8, 8, 8, 8, 8, 8, 8, 8, 8, 8, 8, 8, 8]⟩ : ByteArray).size (
 .byte (⟨#[0, 1, 2, 2, 3, 3, 3, 3, 4, 4, 4, 4, 4, 4, 4, 4, 5, 5, 5, 5, 5, 5, 5, 5, 5, 5, 5, 5, 5, 5, 5, 5, 6, 6, 6, 6, 6, 6, 6, 6, 6, 6, 6, 6, 6, 6, 6, 6, 6, 6, 6, 6, 6, 6, 6, 6, 6, 6, 6, 6, 6, 6, 6, 6, 7, 7, 7, 7, 7, 7, 7, 7, 7, 7, 7, 7, 7, 7, 7, 7, 7, 7, 7, 7, 7, 7, 7, 7, 7, 7, 7, 7, 7, 7, 7, 7, 7, 7, 7, 7, 7, 7, 7, 7, 7, 7, 7, 7, 7, 7, 7, 7, 7, 7, 7, 7, 7, 7, 7, 7, 7, 7, 7, 7, 7, 7, 7, 7, 8, 8, 8, 8, 8, 8, 8, 8, 8, 8, 8, 8, 8, 8, 8, 8, 8, 8, 8, 8, 8, 8, 8, 8, 8, 8, 8, 8, 8, 8, 8, 8, 8, 8, 8, 8, 8, 8, 8, 8, 8, 8, 8, 8, 8, 8, 8, 8, 8, 8, 8, 8, 8, 8, 8, 8, 8, 8, 8, 8, 8, 8, 8, 8, 8, 8, 8, 8, 8, 8, 8, 8, 8, 8, 8, 8, 8, 8, 8, 8, 8, 8, 8, 8, 8, 8, 8, 8, 8, 8, 8, 8, 8, 8, 8, 8, 8, 8, 8, 8, 8, 8, 8, 8, 8, 8, 8, 8, 8, 8, 8, 8, 8, 8, 8, 8, 8, 8, 8, 8, 8, 8, 8, 8, 8, 8, 8, 8]⟩ : ByteArray) n2.toNat fun n3 =>
 .wr .i64 n3 fun n4 =>
 .wr .i64 (x1 + n4) fun n5 =>
 .ret (.int .i64 n5))
 | _ => .fail
noncomputable def cuts201 : Cuts := [(10, [0, 2]), (7, [0, 2]), (4, [0, 2])]
noncomputable def L201 : Places := [(4, X201_4, todoOf Tryz.f201 4), (7, X201_7, todoOf Tryz.f201 7), (10, X201_10, todoOf Tryz.f201 10)]
noncomputable def k201 : FCode := .of X201 L201 cuts201
theorem o201_4 : OOk Tryz.prog Tryz.f201 cuts201 L201 (4, X201_4, todoOf Tryz.f201 4) := by
  intro vs Γ m H r h; replace h : (X201_4 vs).run _ _ _ _ = _ := h; unfold X201_4 at h; split at h
  · replace h := M.iInt h; obtain ⟨_, rfl, h⟩ := h; replace h := M.iInt h; obtain ⟨_, rfl, h⟩ := h; exact Eq.trans (by kernel_rfl) h
  · exact M.iFail h
theorem o201_7 : OOk Tryz.prog Tryz.f201 cuts201 L201 (7, X201_7, todoOf Tryz.f201 7) := by
  intro vs Γ m H r h; replace h : (X201_7 vs).run _ _ _ _ = _ := h; unfold X201_7 at h; split at h
  · replace h := M.iInt h; obtain ⟨_, rfl, h⟩ := h; replace h := M.iInt h; obtain ⟨_, rfl, h⟩ := h; exact Eq.trans (by kernel_rfl) h
  · exact M.iFail h
theorem o201_10 : OOk Tryz.prog Tryz.f201 cuts201 L201 (10, X201_10, todoOf Tryz.f201 10) := by
  intro vs Γ m H r h; replace h : (X201_10 vs).run _ _ _ _ = _ := h; unfold X201_10 at h; split at h
  · replace h := M.iInt h; obtain ⟨_, rfl, h⟩ := h; replace h := M.iInt h; obtain ⟨_, rfl, h⟩ := h; exact Eq.trans (by kernel_rfl) h
  · exact M.iFail h
theorem h201 : XOk Tryz.prog Tryz.f201 cuts201 L201 X201 := by
  intro Γ m args H r h; unfold X201 at h; split at h
  · replace h := M.iInt h; obtain ⟨_, rfl, h⟩ := h; exact ⟨Eq.trans (by kernel_rfl) h, Nat.le_of_ble_eq_true (by kernel_rfl)⟩
  · exact M.iFail h
theorem K201 : CodeOk Tryz.prog 201 k201 := .of Tryz.func201 (by kernel_rfl) (by kernel_rfl) h201 (fc o201_4 (fc o201_7 (fc o201_10 fe)))
-- sternpost/rto.New
noncomputable def X202 : List Value → M := fun args => match args with
 | [v0, v1, v2] => .kInt .i64 v0 fun x0 => .kInt .i64 v1 fun x1 => .kInt .i64 v2 fun x2 => 
 .cmp .lss x1 (1 : Int) fun t3 =>
 .bool t3 (
 .jmp 2 []) (
 .cmp .gtr x2 (1048576 : Int) fun t4 =>
 .bool t4 (
 .jmp 2 []) (
 .cmp .lss x0 x1 fun t5 =>
 .bool t5 (
 .jmp 2 []) (
 .cmp .gtr x0 x2 fun t6 =>
 .bool t6 (
 .jmp 2 []) (
 .new (.cells [.int .i64 x1, .int .i64 x2, .int .i64 x0, .int .i64 (0 : Int), .int .i64 (0 : Int), .int .i64 (0 : Int), .bool false] 0 true) fun b7 =>
 .ret (.tuple #[.pointer (some (⟨b7, 0, none⟩ : Addr)), .int .i64 (0 : Int)])))))
 | _ => .fail
noncomputable def X202_2 : List Value → M := fun args => match args with
 | [] => 
 .ret (.tuple #[.pointer none, .int .i64 (1 : Int)])
 | _ => .fail
noncomputable def cuts202 : Cuts := [(2, [])]
noncomputable def L202 : Places := [(2, X202_2, todoOf Tryz.f202 2)]
noncomputable def k202 : FCode := .of X202 L202 cuts202
theorem o202_2 : OOk Tryz.prog Tryz.f202 cuts202 L202 (2, X202_2, todoOf Tryz.f202 2) := by
  intro vs Γ m H r h; replace h : (X202_2 vs).run _ _ _ _ = _ := h; unfold X202_2 at h; split at h
  · exact Eq.trans (by kernel_rfl) h
  · exact M.iFail h
theorem h202 : XOk Tryz.prog Tryz.f202 cuts202 L202 X202 := by
  intro Γ m args H r h; unfold X202 at h; split at h
  · replace h := M.iInt h; obtain ⟨_, rfl, h⟩ := h; replace h := M.iInt h; obtain ⟨_, rfl, h⟩ := h; replace h := M.iInt h; obtain ⟨_, rfl, h⟩ := h; exact ⟨Eq.trans (by kernel_rfl) h, Nat.le_of_ble_eq_true (by kernel_rfl)⟩
  · exact M.iFail h
theorem K202 : CodeOk Tryz.prog 202 k202 := .of Tryz.func202 (by kernel_rfl) (by kernel_rfl) h202 (fc o202_2 fe)
-- (*sternpost/sock.Box).turn
noncomputable def X218 : List Value → M := fun args => match args with
 | [v0, v1] => .kPtr v0 fun x0 => .kPtr v1 fun x1 => 
 .onS x1 fun a2 =>
 .ld a2.block (a2.off + 1) fun v3 =>
 .kInt .i64 v3 fun n4 =>
 .cmp .eql n4 (1 : Int) fun t5 =>
 .bool t5 (
 .call 275 [.pointer x0, .pointer x1] fun r6 =>
 .kPtr r6 fun p7 =>
 .ret (.pointer p7)) (
 .cmp .eql n4 (3 : Int) fun t8 =>
 .bool t8 (
 .call 276 [.pointer x0, .pointer x1] fun r9 =>
 .kPtr r9 fun p10 =>
 .ret (.pointer p10)) (
 .onS x0 fun a11 =>
 .ld a11.block (a11.off + 1) fun v12 =>
 .kMp v12 fun r13 =>
 .onS x1 fun a14 =>
 .ld a14.block (a14.off + 2) fun v15 =>
 .kInt .i64 v15 fun n16 =>
 .lookupK 181 (.map r13) (.int .i64 n16) false fun v17 =>
 .opt (r13 : Option Nat) (
 .jmp 7 [.pointer x0, .pointer x1, v17]) (fun blk18 =>
 .jmp 7 [.pointer x0, .pointer x1, v17])))
 | _ => .fail
noncomputable def X218_7 : List Value → M := fun args => match args with
 | [v0, v1, x2] => .kPtr v0 fun x0 => .kPtr v1 fun x1 => 
 .tyAs 437 true x2 fun v3 =>
 .kTup v3 fun vs4 =>
 .nthA vs4 1 fun v5 =>
 .kBool v5 fun b6 =>
 .kTup v3 fun vs7 =>
 .nthA vs7 0 fun v8 =>
 .kPtr v8 fun p9 =>
 .bool b6 (
 .call 277 [.pointer x0, .pointer x1, .pointer p9] fun r10 =>
 .kPtr r10 fun p11 =>
 .ret (.pointer p11)) (
 .tyAs 265 true x2 fun v12 =>
 .kTup v12 fun vs13 =>
 .nthA vs13 1 fun v14 =>
 .kBool v14 fun b15 =>
 .kTup v12 fun vs16 =>
 .nthA vs16 0 fun v17 =>
 .kPtr v17 fun p18 =>
 .bool b15 (
 .call 278 [.pointer x0, .pointer x1, .pointer p18] fun r19 =>
 .kPtr r19 fun p20 =>
 .ret (.pointer p20)) (
 .call 138 [.pointer x1, .int .i64 (5 : Int)] fun r21 =>
 .kPtr r21 fun p22 =>
 .ret (.pointer p22)))
 | _ => .fail
noncomputable def cuts218 : Cuts := [(7, [0, 1, 31])]
noncomputable def L218 : Places := [(7, X218_7, todoOf Tryz.f218 7)]
noncomputable def k218 : FCode := .of X218 L218 cuts218
theorem o218_7 : OOk Tryz.prog Tryz.f218 cuts218 L218 (7, X218_7, todoOf Tryz.f218 7) := by
  intro vs Γ m H r h; replace h : (X218_7 vs).run _ _ _ _ = _ := h; unfold X218_7 at h; split at h
  · replace h := M.iPtr h; obtain ⟨_, rfl, h⟩ := h; replace h := M.iPtr h; obtain ⟨_, rfl, h⟩ := h; exact Eq.trans (by kernel_rfl) h
  · exact M.iFail h
theorem h218 : XOk Tryz.prog Tryz.f218 cuts218 L218 X218 := by
  intro Γ m args H r h; unfold X218 at h; split at h
  · replace h := M.iPtr h; obtain ⟨_, rfl, h⟩ := h; replace h := M.iPtr h; obtain ⟨_, rfl, h⟩ := h; exact ⟨Eq.trans (by kernel_rfl) h, Nat.le_of_ble_eq_true (by kernel_rfl)⟩
  · exact M.iFail h
theorem K218 : CodeOk Tryz.prog 218 k218 := .of Tryz.func218 (by kernel_rfl) (by kernel_rfl) h218 (fc o218_7 fe)
-- slices.Delete[[]*sternpost/sock.wait,*sternpost/sock.wait]
noncomputable def X219 : List Value → M := fun args => match args with
 | [v0, v1, v2] => .kSl v0 fun a0 l1 c2 => .kInt .i64 v1 fun x3 => .kInt .i64 v2 fun x4 => 
 .slSl3 1 a0 l1 c2 x3 x4 ((l1 : Nat) : Int) fun v5 =>
 .kSl v5 fun a6 l7 c8 =>
 .cmp .eql x3 x4 fun t9 =>
 .bool t9 (
 .ret (.slice a0 l1 c2)) (
 .slSl 1 a0 l1 c2 (0 : Int) x3 fun v10 =>
 .kSl v10 fun a11 l12 c13 =>
 .opt (a0.map (·.block) : Option Nat) (
 .slSl 1 a0 l1 c2 x4 (l1 : Int) fun v36 =>
 .kSl v36 fun a37 l38 c39 =>
 .opt (a0.map (·.block) : Option Nat) (
 .firstC 1 (.slice a37 l38 c39) fun n49 nw50 =>
 .app 264 (.slice a11 l12 c13) n49 nw50 fun v51 =>
 .kSl v51 fun a53 l54 c55 =>
 .fxI ((l1 : Nat) : Int) fun n56 =>
 .jmp 6 [.slice a53 l54 c55, .int .i64 n56]) (fun blk40 =>
 .firstC 1 (.slice a37 l38 c39) fun n41 nw42 =>
 .app 264 (.slice a11 l12 c13) n41 nw42 fun v43 =>
 .kSl v43 fun a45 l46 c47 =>
 .fxI ((l1 : Nat) : Int) fun n48 =>
 .jmp 6 [.slice a45 l46 c47, .int .i64 n48])) (fun blk14 =>
 .slSl 1 a0 l1 c2 x4 (l1 : Int) fun v15 =>
 .kSl v15 fun a16 l17 c18 =>
 .opt (a0.map (·.block) : Option Nat) (
 .firstC 1 (.slice a16 l17 c18) fun n28 nw29 =>
 .app 264 (.slice a11 l12 c13) n28 nw29 fun v30 =>
 .kSl v30 fun a32 l33 c34 =>
 .fxI ((l1 : Nat) : Int) fun n35 =>
 .jmp 6 [.slice a32 l33 c34, .int .i64 n35]) (fun blk19 =>
 .firstC 1 (.slice a16 l17 c18) fun n20 nw21 =>
 .app 264 (.slice a11 l12 c13) n20 nw21 fun v22 =>
 .kSl v22 fun a24 l25 c26 =>
 .fxI ((l1 : Nat) : Int) fun n27 =>
 .jmp 6 [.slice a24 l25 c26, .int .i64 n27])))
 | _ => .fail
noncomputable def X219_6 : List Value → M := fun args => match args with
 | [v0, v1] => .kSl v0 fun a0 l1 c2 => .kInt .i64 v1 fun x3 => 
 .slSl 1 a0 l1 c2 ((l1 : Nat) : Int) x3 fun v4 =>
 .kSl v4 fun a5 l6 c7 =>
 .clr 1 (.pointer none) a5 l6 (
 .ret (.slice a0 l1 c2))
 | _ => .fail
noncomputable def cuts219 : Cuts := [(6, [0, 7])]
noncomputable def L219 : Places := [(6, X219_6, todoOf Tryz.f219 6)]
noncomputable def k219 : FCode := .of X219 L219 cuts219
theorem o219_6 : OOk Tryz.prog Tryz.f219 cuts219 L219 (6, X219_6, todoOf Tryz.f219 6) := by
  intro vs Γ m H r h; replace h : (X219_6 vs).run _ _ _ _ = _ := h; unfold X219_6 at h; split at h
  · replace h := M.iSl h; obtain ⟨_, _, _, rfl, h⟩ := h; replace h := M.iInt h; obtain ⟨_, rfl, h⟩ := h; exact Eq.trans (by kernel_rfl) h
  · exact M.iFail h
theorem h219 : XOk Tryz.prog Tryz.f219 cuts219 L219 X219 := by
  intro Γ m args H r h; unfold X219 at h; split at h
  · replace h := M.iSl h; obtain ⟨_, _, _, rfl, h⟩ := h; replace h := M.iInt h; obtain ⟨_, rfl, h⟩ := h; replace h := M.iInt h; obtain ⟨_, rfl, h⟩ := h; exact ⟨Eq.trans (by kernel_rfl) h, Nat.le_of_ble_eq_true (by kernel_rfl)⟩
  · exact M.iFail h
theorem K219 : CodeOk Tryz.prog 219 k219 := .of Tryz.func219 (by kernel_rfl) (by kernel_rfl) h219 (fc o219_6 fe)
-- slices.insertionSortCmpFunc[sternpost/frag.key]
noncomputable def X231 : List Value → M := fun args => match args with
 | [v0, v1, v2, x5] => .kSl v0 fun a0 l1 c2 => .kInt .i64 v1 fun x3 => .kInt .i64 v2 fun x4 => 
 .wr .i64 (x3 + (1 : Int)) fun n6 =>
 .jmp 100001 [.slice a0 l1 c2, .int .i64 x3, .int .i64 x4, x5, .int .i64 n6]
 | _ => .fail
noncomputable def X231_2 : List Value → M := fun args => match args with
 | [v0, v1, v2, x5, v4] => .kSl v0 fun a0 l1 c2 => .kInt .i64 v1 fun x3 => .kInt .i64 v2 fun x4 => .kInt .i64 v4 fun x6 => 
 .wr .i64 (x6 + (1 : Int)) fun n7 =>
 .jmp 100001 [.slice a0 l1 c2, .int .i64 x3, .int .i64 x4, x5, .int .i64 n7]
 | _ => .fail
noncomputable def X231_100001 : List Value → M := fun args => match args with
 | [v0, v1, v2, x5, v4] => .kSl v0 fun a0 l1 c2 => .kInt .i64 v1 fun x3 => .kInt .i64 v2 fun x4 => .kInt .i64 v4 fun x6 => 
 .cmp .lss x6 x4 fun t7 =>
 .bool t7 (
 .jmp 100004 [.slice a0 l1 c2, .int .i64 x3, .int .i64 x4, x5, .int .i64 x6, .int .i64 x6]) (
 .ret (.tuple #[]))
 | _ => .fail
noncomputable def X231_100004 : List Value → M := fun args => match args with
 | [v0, v1, v2, x5, v4, v5] => .kSl v0 fun a0 l1 c2 => .kInt .i64 v1 fun x3 => .kInt .i64 v2 fun x4 => .kInt .i64 v4 fun x6 => .kInt .i64 v5 fun x7 => 
 .cmp .gtr x7 x3 fun t8 =>
 .bool t8 (
 .onS a0 fun a9 =>
 .inb x7 l1 (
 .ldn ((a9.add (x7.toNat * 4)).block) ((a9.add (x7.toNat * 4)).off) 4 fun cs10 =>
 .wr .i64 (x7 - (1 : Int)) fun n11 =>
 .onS a0 fun a12 =>
 .inb n11 l1 (
 .ldn ((a12.add (n11.toNat * 4)).block) ((a12.add (n11.toNat * 4)).off) 4 fun cs13 =>
 .callV x5 [.agg cs10, .agg cs13] fun r14 =>
 .kInt .i64 r14 fun n15 =>
 .cmp .lss n15 (0 : Int) fun t16 =>
 .bool t16 (
 .wr .i64 (x7 - (1 : Int)) fun n17 =>
 .wr .i64 (x7 - (1 : Int)) fun n18 =>
 .onS a0 fun a19 =>
 .inb n18 l1 (
 .ldn ((a19.add (n18.toNat * 4)).block) ((a19.add (n18.toNat * 4)).off) 4 fun cs20 =>
 .onS a0 fun a21 =>
 .inb x7 l1 (
 .ldn ((a21.add (x7.toNat * 4)).block) ((a21.add (x7.toNat * 4)).off) 4 fun cs22 =>
 .onS a0 fun a23 =>
 .inb x7 l1 (
 .st 4 (a23.add (x7.toNat * 4)) (.agg cs20) (
 .onS a0 fun a25 =>
 .inb n17 l1 (
 .st 4 (a25.add (n17.toNat * 4)) (.agg cs22) (
 .wr .i64 (x7 - (1 : Int)) fun n27 =>
 .jmp 100004 [.slice a0 l1 c2, .int .i64 x3, .int .i64 x4, x5, .int .i64 x6, .int .i64 n27]))))))) (
 .jmp 2 [.slice a0 l1 c2, .int .i64 x3, .int .i64 x4, x5, .int .i64 x6])))) (
 .jmp 2 [.slice a0 l1 c2, .int .i64 x3, .int .i64 x4, x5, .int .i64 x6])
 | _ => .fail
noncomputable def cuts231 : Cuts := [(100001, [0, 1, 2, 3, 8]), (100004, [0, 1, 2, 3, 8, 9]), (2, [0, 1, 2, 3, 8])]
noncomputable def L231 : Places := [(2, X231_2, todoOf Tryz.f231 2), (100001, X231_100001, todoOf Tryz.f231 100001), (100004, X231_100004, todoOf Tryz.f231 100004)]
noncomputable def k231 : FCode := .of X231 L231 cuts231
theorem o231_2 : OOk Tryz.prog Tryz.f231 cuts231 L231 (2, X231_2, todoOf Tryz.f231 2) := by
  intro vs Γ m H r h; replace h : (X231_2 vs).run _ _ _ _ = _ := h; unfold X231_2 at h; split at h
  · replace h := M.iSl h; obtain ⟨_, _, _, rfl, h⟩ := h; replace h := M.iInt h; obtain ⟨_, rfl, h⟩ := h; replace h := M.iInt h; obtain ⟨_, rfl, h⟩ := h; replace h := M.iInt h; obtain ⟨_, rfl, h⟩ := h; exact Eq.trans (by kernel_rfl) h
  · exact M.iFail h
theorem o231_100001 : OOk Tryz.prog Tryz.f231 cuts231 L231 (100001, X231_100001, todoOf Tryz.f231 100001) := by
  intro vs Γ m H r h; replace h : (X231_100001 vs).run _ _ _ _ = _ := h; unfold X231_100001 at h; split at h
  · replace h := M.iSl h; obtain ⟨_, _, _, rfl, h⟩ := h; replace h := M.iInt h; obtain ⟨_, rfl, h⟩ := h; replace h := M.iInt h; obtain ⟨_, rfl, h⟩ := h; replace h := M.iInt h; obtain ⟨_, rfl, h⟩ := h; exact Eq.trans (by kernel_rfl) h
  · exact M.iFail h
theorem o231_100004 : OOk Tryz.prog Tryz.f231 cuts231 L231 (100004, X231_100004, todoOf Tryz.f231 100004) := by
  intro vs Γ m H r h; replace h : (X231_100004 vs).run _ _ _ _ = _ := h; unfold X231_100004 at h; split at h
  · replace h := M.iSl h; obtain ⟨_, _, _, rfl, h⟩ := h; replace h := M.iInt h; obtain ⟨_, rfl, h⟩ := h; replace h := M.iInt h; obtain ⟨_, rfl, h⟩ := h; replace h := M.iInt h; obtain ⟨_, rfl, h⟩ := h; replace h := M.iInt h; obtain ⟨_, rfl, h⟩ := h; exact Eq.trans (by kernel_rfl) h
  · exact M.iFail h
theorem h231 : XOk Tryz.prog Tryz.f231 cuts231 L231 X231 := by
  intro Γ m args H r h; unfold X231 at h; split at h
  · replace h := M.iSl h; obtain ⟨_, _, _, rfl, h⟩ := h; replace h := M.iInt h; obtain ⟨_, rfl, h⟩ := h; replace h := M.iInt h; obtain ⟨_, rfl, h⟩ := h; exact ⟨Eq.trans (by kernel_rfl) h, Nat.le_of_ble_eq_true (by kernel_rfl)⟩
  · exact M.iFail h
theorem K231 : CodeOk Tryz.prog 231 k231 := .of Tryz.func231 (by kernel_rfl) (by kernel_rfl) h231 (fc o231_2 (fc o231_100001 (fc o231_100004 fe)))
-- maps.Keys[map[int]*sternpost/table.one,int,*sternpost/table.one]
noncomputable def X239 : List Value → M := fun args => match args with
 | [v0] => .kMp v0 fun x0 => 
 .new (.cells [.map x0] 274726912 true) fun b1 =>
 .ret (.func (.func 288) #[] #[.pointer (some (⟨b1, 0, none⟩ : Addr))])
 | _ => .fail
noncomputable def cuts239 : Cuts := []
noncomputable def L239 : Places := []
noncomputable def k239 : FCode := .of X239 L239 cuts239
theorem h239 : XOk Tryz.prog Tryz.f239 cuts239 L239 X239 := by
  intro Γ m args H r h; unfold X239 at h; split at h
  · replace h := M.iMp h; obtain ⟨_, rfl, h⟩ := h; exact ⟨Eq.trans (by kernel_rfl) h, Nat.le_of_ble_eq_true (by kernel_rfl)⟩
  · exact M.iFail h
theorem K239 : CodeOk Tryz.prog 239 k239 := .of Tryz.func239 (by kernel_rfl) (by kernel_rfl) h239 fe
-- (*sternpost/sock.Box).listen
noncomputable def X275 : List Value → M := fun args => match args with
 | [v0, v1] => .kPtr v0 fun x0 => .kPtr v1 fun x1 => 
 .call 321 [.pointer x0] fun r2 =>
 .kTup r2 fun vs3 =>
 .nthA vs3 0 fun v4 =>
 .kInt .i64 v4 fun n5 =>
 .kTup r2 fun vs6 =>
 .nthA vs6 1 fun v7 =>
 .kBool v7 fun b8 =>
 .bool (!b8) (
 .call 138 [.pointer x1, .int .i64 (150 : Int)] fun r9 =>
 .kPtr r9 fun p10 =>
 .ret (.pointer p10)) (
 .onS x0 fun a11 =>
 .ld a11.block a11.off fun v12 =>
 .kPtr v12 fun p13 =>
 .onS x1 fun a14 =>
 .ld a14.block (a14.off + 4) fun v15 =>
 .kInt .i64 v15 fun n16 =>
 .call 322 [.pointer p13, .int .i64 n16] fun r17 =>
 .kInt .i64 r17 fun n18 =>
 .cmp .neq n18 (0 : Int) fun t19 =>
 .bool t19 (
 .call 138 [.pointer x1, .int .i64 n18] fun r20 =>
 .kPtr r20 fun p21 =>
 .ret (.pointer p21)) (
 .onS x0 fun a22 =>
 .ld a22.block (a22.off + 1) fun v23 =>
 .kMp v23 fun r24 =>
 .onS x1 fun a25 =>
 .ld a25.block (a25.off + 4) fun v26 =>
 .kInt .i64 v26 fun n27 =>
 .new (.cells [.int .i64 n27] 0 true) fun b28 =>
 .onS r24 fun q29 =>
 .mupd q29 (.int .i64 n5) (.iface 437 (.pointer (some (⟨b28, 0, none⟩ : Addr)))) (
 .onS x1 fun a30 =>
 .ld a30.block a30.off fun v31 =>
 .kInt .i64 v31 fun n32 =>
 .new (.cells [.int .i64 n32, .int .i64 (0 : Int), .int .i64 n5, .int .i64 (0 : Int), .string (⟨#[]⟩ : ByteArray)] 0 true) fun b33 =>
 .ret (.pointer (some (⟨b33, 0, none⟩ : Addr))))))
 | _ => .fail
noncomputable def cuts275 : Cuts := []
noncomputable def L275 : Places := []
noncomputable def k275 : FCode := .of X275 L275 cuts275
theorem h275 : XOk Tryz.prog Tryz.f275 cuts275 L275 X275 := by
  intro Γ m args H r h; unfold X275 at h; split at h
  · replace h := M.iPtr h; obtain ⟨_, rfl, h⟩ := h; replace h := M.iPtr h; obtain ⟨_, rfl, h⟩ := h; exact ⟨Eq.trans (by kernel_rfl) h, Nat.le_of_ble_eq_true (by kernel_rfl)⟩
  · exact M.iFail h
theorem K275 : CodeOk Tryz.prog 275 k275 := .of Tryz.func275 (by kernel_rfl) (by kernel_rfl) h275 fe
-- (*sternpost/sock.Box).onListening
noncomputable def X277 : List Value → M := fun args => match args with
 | [v0, v1, v2] => .kPtr v0 fun x0 => .kPtr v1 fun x1 => .kPtr v2 fun x2 => 
 .onS x1 fun a3 =>
 .ld a3.block (a3.off + 1) fun v4 =>
 .kInt .i64 v4 fun n5 =>
 .cmp .eql n5 (2 : Int) fun t6 =>
 .bool t6 (
 .call 326 [.pointer x0, .pointer x1, .pointer x2] fun r7 =>
 .kPtr r7 fun p8 =>
 .ret (.pointer p8)) (
 .cmp .eql n5 (7 : Int) fun t9 =>
 .bool t9 (
 .onS x0 fun a10 =>
 .ld a10.block a10.off fun v11 =>
 .kPtr v11 fun p12 =>
 .onS x2 fun a13 =>
 .ld a13.block a13.off fun v14 =>
 .kInt .i64 v14 fun n15 =>
 .call 327 [.pointer p12, .int .i64 n15] fun r16 =>
 .kInt .i64 r16 fun n17 =>
 .onS x0 fun a18 =>
 .ld a18.block (a18.off + 1) fun v19 =>
 .kMp v19 fun r20 =>
 .onS x1 fun a21 =>
 .ld a21.block (a21.off + 2) fun v22 =>
 .kInt .i64 v22 fun n23 =>
 .dele r20 (.int .i64 n23) (
 .call 138 [.pointer x1, .int .i64 (0 : Int)] fun r24 =>
 .kPtr r24 fun p25 =>
 .ret (.pointer p25))) (
 .cmp .eql n5 (9 : Int) fun t26 =>
 .bool t26 (
 .onS x1 fun a27 =>
 .ld a27.block a27.off fun v28 =>
 .kInt .i64 v28 fun n29 =>
 .new (.cells [.int .i64 n29, .int .i64 (0 : Int), .int .i64 (0 : Int), .int .i64 (1 : Int), .string (⟨#[]⟩ : ByteArray)] 0 true) fun b30 =>
 .ret (.pointer (some (⟨b30, 0, none⟩ : Addr)))) (
 .call 138 [.pointer x1, .int .i64 (4 : Int)] fun r31 =>
 .kPtr r31 fun p32 =>
 .ret (.pointer p32))))
 | _ => .fail
noncomputable def cuts277 : Cuts := []
noncomputable def L277 : Places := []
noncomputable def k277 : FCode := .of X277 L277 cuts277
theorem h277 : XOk Tryz.prog Tryz.f277 cuts277 L277 X277 := by
  intro Γ m args H r h; unfold X277 at h; split at h
  · replace h := M.iPtr h; obtain ⟨_, rfl, h⟩ := h; replace h := M.iPtr h; obtain ⟨_, rfl, h⟩ := h; replace h := M.iPtr h; obtain ⟨_, rfl, h⟩ := h; exact ⟨Eq.trans (by kernel_rfl) h, Nat.le_of_ble_eq_true (by kernel_rfl)⟩
  · exact M.iFail h
theorem K277 : CodeOk Tryz.prog 277 k277 := .of Tryz.func277 (by kernel_rfl) (by kernel_rfl) h277 fe
-- (*sternpost/sock.Box).free
noncomputable def X321 : List Value → M := fun args => match args with
 | [v0] => .kPtr v0 fun x0 => 
 .jmp 100002 [.pointer x0, .int .i64 (0 : Int)]
 | _ => .fail
noncomputable def X321_100002 : List Value → M := fun args => match args with
 | [v0, v1] => .kPtr v0 fun x0 => .kInt .i64 v1 fun x1 => 
 .cmp .lss x1 (64 : Int) fun t2 =>
 .bool t2 (
 .onS x0 fun a3 =>
 .ld a3.block (a3.off + 1) fun v4 =>
 .kMp v4 fun r5 =>
 .lookupK 181 (.map r5) (.int .i64 x1) false fun v6 =>
 .nilI v6 (.ret (.tuple #[.int .i64 x1, .bool true])) (.wr .i64 (x1 + (1 : Int)) fun n7 =>
 .jmp 100002 [.pointer x0, .int .i64 n7])) (
 .ret (.tuple #[.int .i64 (0 : Int), .bool false]))
 | _ => .fail
noncomputable def cuts321 : Cuts := [(100002, [0, 5])]
noncomputable def L321 : Places := [(100002, X321_100002, todoOf Tryz.f321 100002)]
noncomputable def k321 : FCode := .of X321 L321 cuts321
theorem o321_100002 : OOk Tryz.prog Tryz.f321 cuts321 L321 (100002, X321_100002, todoOf Tryz.f321 100002) := by
  intro vs Γ m H r h; replace h : (X321_100002 vs).run _ _ _ _ = _ := h; unfold X321_100002 at h; split at h
  · replace h := M.iPtr h; obtain ⟨_, rfl, h⟩ := h; replace h := M.iInt h; obtain ⟨_, rfl, h⟩ := h; exact Eq.trans (by kernel_rfl) h
  · exact M.iFail h
theorem h321 : XOk Tryz.prog Tryz.f321 cuts321 L321 X321 := by
  intro Γ m args H r h; unfold X321 at h; split at h
  · replace h := M.iPtr h; obtain ⟨_, rfl, h⟩ := h; exact ⟨Eq.trans (by kernel_rfl) h, Nat.le_of_ble_eq_true (by kernel_rfl)⟩
  · exact M.iFail h
theorem K321 : CodeOk Tryz.prog 321 k321 := .of Tryz.func321 (by kernel_rfl) (by kernel_rfl) h321 (fc o321_100002 fe)
-- (*sternpost/table.Table).Listen
noncomputable def X322 : List Value → M := fun args => match args with
 | [v0, v1] => .kPtr v0 fun x0 => .kInt .i64 v1 fun x1 => 
 .call 351 [.int .i64 x1] fun r2 =>
 .kBool r2 fun b3 =>
 .bool (!b3) (
 .ret (.int .i64 (1 : Int))) (
 .onS x0 fun a4 =>
 .ld a4.block (a4.off + 13) fun v5 =>
 .kMp v5 fun r6 =>
 .lookupK 259 (.map r6) (.int .i64 x1) false fun v7 =>
 .kBool v7 fun b8 =>
 .bool b8 (
 .ret (.int .i64 (190 : Int))) (
 .onS x0 fun a9 =>
 .ld a9.block (a9.off + 13) fun v10 =>
 .kMp v10 fun r11 =>
 .onS r11 fun q12 =>
 .mupd q12 (.int .i64 x1) (.bool true) (
 .ret (.int .i64 (0 : Int)))))
 | _ => .fail
noncomputable def cuts322 : Cuts := []
noncomputable def L322 : Places := []
noncomputable def k322 : FCode := .of X322 L322 cuts322
theorem h322 : XOk Tryz.prog Tryz.f322 cuts322 L322 X322 := by
  intro Γ m args H r h; unfold X322 at h; split at h
  · replace h := M.iPtr h; obtain ⟨_, rfl, h⟩ := h; replace h := M.iInt h; obtain ⟨_, rfl, h⟩ := h; exact ⟨Eq.trans (by kernel_rfl) h, Nat.le_of_ble_eq_true (by kernel_rfl)⟩
  · exact M.iFail h
theorem K322 : CodeOk Tryz.prog 322 k322 := .of Tryz.func322 (by kernel_rfl) (by kernel_rfl) h322 fe
-- (*sternpost/sock.Box).accept
noncomputable def X326 : List Value → M := fun args => match args with
 | [v0, v1, v2] => .kPtr v0 fun x0 => .kPtr v1 fun x1 => .kPtr v2 fun x2 => 
 .call 321 [.pointer x0] fun r3 =>
 .kTup r3 fun vs4 =>
 .nthA vs4 0 fun v5 =>
 .kInt .i64 v5 fun n6 =>
 .kTup r3 fun vs7 =>
 .nthA vs7 1 fun v8 =>
 .kBool v8 fun b9 =>
 .bool (!b9) (
 .call 138 [.pointer x1, .int .i64 (150 : Int)] fun r10 =>
 .kPtr r10 fun p11 =>
 .ret (.pointer p11)) (
 .onS x0 fun a12 =>
 .ld a12.block a12.off fun v13 =>
 .kPtr v13 fun p14 =>
 .onS x2 fun a15 =>
 .ld a15.block a15.off fun v16 =>
 .kInt .i64 v16 fun n17 =>
 .call 354 [.pointer p14, .int .i64 n17] fun r18 =>
 .kTup r18 fun vs19 =>
 .nthA vs19 0 fun v20 =>
 .kInt .i64 v20 fun n21 =>
 .kTup r18 fun vs22 =>
 .nthA vs22 1 fun v23 =>
 .kBool v23 fun b24 =>
 .bool (!b24) (
 .ret (.pointer none)) (
 .onS x0 fun a25 =>
 .ld a25.block (a25.off + 1) fun v26 =>
 .kMp v26 fun r27 =>
 .new (.cells [.int .i64 n21] 0 true) fun b28 =>
 .onS r27 fun q29 =>
 .mupd q29 (.int .i64 n6) (.iface 265 (.pointer (some (⟨b28, 0, none⟩ : Addr)))) (
 .onS x1 fun a30 =>
 .ld a30.block a30.off fun v31 =>
 .kInt .i64 v31 fun n32 =>
 .new (.cells [.int .i64 n32, .int .i64 (0 : Int), .int .i64 n6, .int .i64 (0 : Int), .string (⟨#[]⟩ : ByteArray)] 0 true) fun b33 =>
 .ret (.pointer (some (⟨b33, 0, none⟩ : Addr))))))
 | _ => .fail
noncomputable def cuts326 : Cuts := []
noncomputable def L326 : Places := []
noncomputable def k326 : FCode := .of X326 L326 cuts326
theorem h326 : XOk Tryz.prog Tryz.f326 cuts326 L326 X326 := by
  intro Γ m args H r h; unfold X326 at h; split at h
  · replace h := M.iPtr h; obtain ⟨_, rfl, h⟩ := h; replace h := M.iPtr h; obtain ⟨_, rfl, h⟩ := h; replace h := M.iPtr h; obtain ⟨_, rfl, h⟩ := h; exact ⟨Eq.trans (by kernel_rfl) h, Nat.le_of_ble_eq_true (by kernel_rfl)⟩
  · exact M.iFail h
theorem K326 : CodeOk Tryz.prog 326 k326 := .of Tryz.func326 (by kernel_rfl) (by kernel_rfl) h326 fe
-- sternpost/table.port
noncomputable def X351 : List Value → M := fun args => match args with
 | [v0] => .kInt .i64 v0 fun x0 => 
 .cmp .geq x0 (1 : Int) fun t1 =>
 .bool t1 (
 .cmp .leq x0 (65535 : Int) fun t2 =>
 .ret (.bool t2)) (
 .ret (.bool false))
 | _ => .fail
noncomputable def cuts351 : Cuts := []
noncomputable def L351 : Places := []
noncomputable def k351 : FCode := .of X351 L351 cuts351
theorem h351 : XOk Tryz.prog Tryz.f351 cuts351 L351 X351 := by
  intro Γ m args H r h; unfold X351 at h; split at h
  · replace h := M.iInt h; obtain ⟨_, rfl, h⟩ := h; exact ⟨Eq.trans (by kernel_rfl) h, Nat.le_of_ble_eq_true (by kernel_rfl)⟩
  · exact M.iFail h
theorem K351 : CodeOk Tryz.prog 351 k351 := .of Tryz.func351 (by kernel_rfl) (by kernel_rfl) h351 fe
-- (*sternpost/table.Table).Accept
noncomputable def X354 : List Value → M := fun args => match args with
 | [v0, v1] => .kPtr v0 fun x0 => .kInt .i64 v1 fun x1 => 
 .call 189 [.pointer x0] fun r2 =>
 .kSl r2 fun a3 l4 c5 =>
 .fxI ((l4 : Nat) : Int) fun n6 =>
 .jmp 100002 [.pointer x0, .int .i64 x1, .slice a3 l4 c5, .int .i64 n6, .int .i64 (0 : Int)]
 | _ => .fail
noncomputable def X354_8 : List Value → M := fun args => match args with
 | [v0, v1, v2, v3, v4] => .kPtr v0 fun x0 => .kInt .i64 v1 fun x1 => .kSl v2 fun a2 l3 c4 => .kInt .i64 v3 fun x5 => .kInt .i64 v4 fun x6 => 
 .wr .i64 (x6 + (1 : Int)) fun n7 =>
 .jmp 100002 [.pointer x0, .int .i64 x1, .slice a2 l3 c4, .int .i64 x5, .int .i64 n7]
 | _ => .fail
noncomputable def X354_100002 : List Value → M := fun args => match args with
 | [v0, v1, v2, v3, v4] => .kPtr v0 fun x0 => .kInt .i64 v1 fun x1 => .kSl v2 fun a2 l3 c4 => .kInt .i64 v3 fun x5 => .kInt .i64 v4 fun x6 => 
 .cmp .lss x6 x5 fun t7 =>
 .bool t7 (
 .onS a2 fun a8 =>
 .inb x6 l3 (
 .ld ((a8.add (x6.toNat * 1)).block) ((a8.add (x6.toNat * 1)).off) fun v9 =>
 .kInt .i64 v9 fun n10 =>
 .onS x0 fun a11 =>
 .ld a11.block (a11.off + 15) fun v12 =>
 .kMp v12 fun r13 =>
 .lookupK 261 (.map r13) (.int .i64 n10) false fun v14 =>
 .kPtr v14 fun p15 =>
 .onS p15 fun a16 =>
 .ld a16.block (a16.off + 7) fun v17 =>
 .kBool v17 fun b18 =>
 .bool b18 (
 .onS p15 fun a19 =>
 .ld a19.block ((a19.off + 2) + 1) fun v20 =>
 .kInt .i64 v20 fun n21 =>
 .cmp .eql n21 x1 fun t22 =>
 .bool t22 (
 .call 375 [.pointer p15] fun r23 =>
 .kBool r23 fun b24 =>
 .bool b24 (
 .onS p15 fun a25 =>
 .st 1 (⟨a25.block, a25.off + 6, none⟩ : Addr) (.bool true) (
 .onS p15 fun a27 =>
 .st 1 (⟨a27.block, a27.off + 7, none⟩ : Addr) (.bool false) (
 .ret (.tuple #[.int .i64 n10, .bool true])))) (
 .jmp 8 [.pointer x0, .int .i64 x1, .slice a2 l3 c4, .int .i64 x5, .int .i64 x6])) (
 .jmp 8 [.pointer x0, .int .i64 x1, .slice a2 l3 c4, .int .i64 x5, .int .i64 x6])) (
 .jmp 8 [.pointer x0, .int .i64 x1, .slice a2 l3 c4, .int .i64 x5, .int .i64 x6]))) (
 .ret (.tuple #[.int .i64 (0 : Int), .bool false]))
 | _ => .fail
noncomputable def cuts354 : Cuts := [(100002, [0, 1, 10, 11, 12]), (8, [0, 1, 10, 11, 12])]
noncomputable def L354 : Places := [(8, X354_8, todoOf Tryz.f354 8), (100002, X354_100002, todoOf Tryz.f354 100002)]
noncomputable def k354 : FCode := .of X354 L354 cuts354
theorem o354_8 : OOk Tryz.prog Tryz.f354 cuts354 L354 (8, X354_8, todoOf Tryz.f354 8) := by
  intro vs Γ m H r h; replace h : (X354_8 vs).run _ _ _ _ = _ := h; unfold X354_8 at h; split at h
  · replace h := M.iPtr h; obtain ⟨_, rfl, h⟩ := h; replace h := M.iInt h; obtain ⟨_, rfl, h⟩ := h; replace h := M.iSl h; obtain ⟨_, _, _, rfl, h⟩ := h; replace h := M.iInt h; obtain ⟨_, rfl, h⟩ := h; replace h := M.iInt h; obtain ⟨_, rfl, h⟩ := h; exact Eq.trans (by kernel_rfl) h
  · exact M.iFail h
theorem o354_100002 : OOk Tryz.prog Tryz.f354 cuts354 L354 (100002, X354_100002, todoOf Tryz.f354 100002) := by
  intro vs Γ m H r h; replace h : (X354_100002 vs).run _ _ _ _ = _ := h; unfold X354_100002 at h; split at h
  · replace h := M.iPtr h; obtain ⟨_, rfl, h⟩ := h; replace h := M.iInt h; obtain ⟨_, rfl, h⟩ := h; replace h := M.iSl h; obtain ⟨_, _, _, rfl, h⟩ := h; replace h := M.iInt h; obtain ⟨_, rfl, h⟩ := h; replace h := M.iInt h; obtain ⟨_, rfl, h⟩ := h; exact Eq.trans (by kernel_rfl) h
  · exact M.iFail h
theorem h354 : XOk Tryz.prog Tryz.f354 cuts354 L354 X354 := by
  intro Γ m args H r h; unfold X354 at h; split at h
  · replace h := M.iPtr h; obtain ⟨_, rfl, h⟩ := h; replace h := M.iInt h; obtain ⟨_, rfl, h⟩ := h; exact ⟨Eq.trans (by kernel_rfl) h, Nat.le_of_ble_eq_true (by kernel_rfl)⟩
  · exact M.iFail h
theorem K354 : CodeOk Tryz.prog 354 k354 := .of Tryz.func354 (by kernel_rfl) (by kernel_rfl) h354 (fc o354_8 (fc o354_100002 fe))
end Go.Proofs.YtgnkjpbecgpjoaaGreatDoor
