/- PRINTED by a program of the session (Pm.lean): functions of the program as texts, for concrete runs, each checked by the kernel. Conditions: none. -/
import Derived.Test.YtlpeldimmaajkaaGreatPm1
import Derived.Test.YtlpeldimmaajkaaGreatKg
set_option linter.unusedVariables false
set_option linter.unusedSimpArgs false
namespace Go.Proofs.YtlpeldimmaajkaaGreat
open Go Go.Proofs.YtlpeldimmaajkaaGreat.Fw Go.RowKit
-- slices.Sort[[]int,int]
noncomputable def X114 : List Value → M := fun args => match args with
 | [v0] => .kSl v0 fun a0 l1 c2 => 
 .wr .u64 ((l1 : Nat) : Int) fun n3 =>
 .call 158 [.int .u64 n3] fun r4 =>
 .kInt .i64 r4 fun n5 =>
 .fxI ((l1 : Nat) : Int) fun n6 =>
 .call 157 [.slice a0 l1 c2, .int .i64 (0 : Int), .int .i64 n6, .int .i64 n5] fun r7 =>
 .ret (.tuple #[])
 | _ => .fail
noncomputable def cuts114 : Cuts := []
noncomputable def L114 : Places := []
noncomputable def k114 : FCode := .of X114 L114 cuts114
theorem h114 : XOk Tryz.prog Tryz.f114 cuts114 L114 X114 := by
  intro Γ m args H r h; unfold X114 at h; split at h
  · replace h := M.iSl h; obtain ⟨_, _, _, rfl, h⟩ := h; exact ⟨Eq.trans (by kernel_rfl) h, Nat.le_of_ble_eq_true (by kernel_rfl)⟩
  · exact M.iFail h
theorem K114 : CodeOk Tryz.prog 114 k114 := .of Tryz.func114 (by kernel_rfl) (by kernel_rfl) h114 fe
-- (*sternpost/table.one).closed
noncomputable def X117 : List Value → M := fun args => match args with
 | [v0] => .kPtr v0 fun x0 => 
 .onS x0 fun a1 =>
 .ld a1.block (a1.off + 1) fun v2 =>
 .kPtr v2 fun p3 =>
 .call 39 [.pointer p3] fun r4 =>
 .kTup r4 fun vs5 =>
 .nthA vs5 0 fun v6 =>
 .kInt .i64 v6 fun n7 =>
 .kTup r4 fun vs8 =>
 .nthA vs8 1 fun v9 =>
 .kInt .i64 v9 fun n10 =>
 .cmp .eql n7 (0 : Int) fun t11 =>
 .ret (.bool t11)
 | _ => .fail
noncomputable def cuts117 : Cuts := []
noncomputable def L117 : Places := []
noncomputable def k117 : FCode := .of X117 L117 cuts117
theorem h117 : XOk Tryz.prog Tryz.f117 cuts117 L117 X117 := by
  intro Γ m args H r h; unfold X117 at h; split at h
  · replace h := M.iPtr h; obtain ⟨_, rfl, h⟩ := h; exact ⟨Eq.trans (by kernel_rfl) h, Nat.le_of_ble_eq_true (by kernel_rfl)⟩
  · exact M.iFail h
theorem K117 : CodeOk Tryz.prog 117 k117 := .of Tryz.func117 (by kernel_rfl) (by kernel_rfl) h117 fe
-- sternpost/conn.begun
noncomputable def X118 : List Value → M := fun args => match args with
 | [v0, v1, v2, v3] => .kAgg v0 fun x0 => .kAgg v1 fun x1 => .kInt .i64 v2 fun x2 => .kInt .i64 v3 fun x3 => 
 .new (.cells x0.toList 0 true) fun b4 =>
 .new (.cells x1.toList 0 true) fun b5 =>
 .ldn b4 0 8 fun cs6 =>
 .call 51 [.agg cs6] fun r7 =>
 .kInt .i64 r7 fun n8 =>
 .cmp .neq n8 (0 : Int) fun t9 =>
 .bool t9 (
 .ret (.tuple #[.pointer none, .int .i64 n8])) (
 .ld b5 0 fun v10 =>
 .kInt .i64 v10 fun n11 =>
 .ld b5 (0 + 2) fun v12 =>
 .kInt .i64 v12 fun n13 =>
 .snap b5 fun o14 =>
 .call 62 [.int .i64 n11] fun r15 =>
 .kInt .i64 r15 fun n16 =>
 .same b5 o14 (
 .call 62 [.int .i64 n13] fun r17 =>
 .kInt .i64 r17 fun n18 =>
 .call 62 [.int .i64 x2] fun r19 =>
 .kInt .i64 r19 fun n20 =>
 .cmp .gtr (mxi (mxi n16 n18) n20) (0 : Int) fun t21 =>
 .bool t21 (
 .jmp 6 []) (
 .ld b5 (0 + 1) fun v22 =>
 .kInt .i64 v22 fun n23 =>
 .call 159 [.int .i64 n23] fun r24 =>
 .kBool r24 fun b25 =>
 .bool (!b25) (
 .jmp 6 []) (
 .ld b5 (0 + 3) fun v26 =>
 .kInt .i64 v26 fun n27 =>
 .call 159 [.int .i64 n27] fun r28 =>
 .kBool r28 fun b29 =>
 .bool (!b29) (
 .jmp 6 []) (
 .cmp .lss x3 (0 : Int) fun t30 =>
 .bool t30 (
 .jmp 6 []) (
 .cmp .gtr x3 (1099511627776 : Int) fun t31 =>
 .bool t31 (
 .jmp 6 []) (
 .ldn b4 0 8 fun cs32 =>
 .ldn b5 0 4 fun cs33 =>
 .cellsOks [.agg cs32, .agg cs33, .int .i64 x2, .int .i64 x3, .agg #[.int .i64 (-1 : Int), .int .i64 (-1 : Int), .int .i64 (-1 : Int)]] (.onS (Program.built Tryz.prog 187 (([0, 1, 3, 4, 17] : List Nat).zip [.agg cs32, .agg cs33, .int .i64 x2, .int .i64 x3, .agg #[.int .i64 (-1 : Int), .int .i64 (-1 : Int), .int .i64 (-1 : Int)]])) fun cells34q =>
 .fxV (.agg cells34q) fun cells34v =>
 .kAgg cells34v fun cells34 =>
 .new (.cells cells34.toList 0 true) fun b35 =>
 .call 121 [.int .i64 x2, .int .i64 (1 : Int)] fun r36 =>
 .kTup r36 fun vs37 =>
 .nthA vs37 0 fun v38 =>
 .kInt .i64 v38 fun n39 =>
 .kTup r36 fun vs40 =>
 .nthA vs40 1 fun v41 =>
 .kInt .i64 v41 fun n42 =>
 .ld b4 (0 + 1) fun v43 =>
 .kInt .i64 v43 fun n44 =>
 .call 160 [.int .i64 n39, .int .i64 n44] fun r45 =>
 .kTup r45 fun vs46 =>
 .nthA vs46 0 fun v47 =>
 .kPtr v47 fun p48 =>
 .kTup r45 fun vs49 =>
 .nthA vs49 1 fun v50 =>
 .kInt .i64 v50 fun n51 =>
 .st 1 (⟨b35, 0 + 21, none⟩ : Addr) (.pointer p48) (
 .ld b4 (0 + 3) fun v53 =>
 .kInt .i64 v53 fun n54 =>
 .ld b4 (0 + 4) fun v55 =>
 .kInt .i64 v55 fun n56 =>
 .ld b4 (0 + 5) fun v57 =>
 .kInt .i64 v57 fun n58 =>
 .call 108 [.int .i64 n54, .int .i64 n56, .int .i64 n58] fun r59 =>
 .kTup r59 fun vs60 =>
 .nthA vs60 0 fun v61 =>
 .kPtr v61 fun p62 =>
 .kTup r59 fun vs63 =>
 .nthA vs63 1 fun v64 =>
 .kInt .i64 v64 fun n65 =>
 .st 1 (⟨b35, 0 + 32, none⟩ : Addr) (.pointer p62) (
 .ld b4 0 fun v67 =>
 .kInt .i64 v67 fun n68 =>
 .fxI (mni n68 (536 : Int)) fun n69 =>
 .st 1 (⟨b35, (0 + 23) + 2, none⟩ : Addr) (.int .i64 n69) (
 .ld b35 ((0 + 23) + 2) fun v71 =>
 .kInt .i64 v71 fun n72 =>
 .call 161 [.int .i64 n72] fun r73 =>
 .kTup r73 fun vs74 =>
 .nthA vs74 0 fun v75 =>
 .kPtr v75 fun p76 =>
 .kTup r73 fun vs77 =>
 .nthA vs77 1 fun v78 =>
 .kInt .i64 v78 fun n79 =>
 .st 1 (⟨b35, 0 + 33, none⟩ : Addr) (.pointer p76) (
 .ld b35 (0 + 32) fun v81 =>
 .kPtr v81 fun p82 =>
 .call 143 [.pointer p82] fun r83 =>
 .kInt .i64 r83 fun n84 =>
 .call 92 [.pointer (some (⟨b35, 0, none⟩ : Addr)), .int .i64 (0 : Int), .int .i64 n84] fun r85 =>
 .call 142 [.pointer (some (⟨b35, 0, none⟩ : Addr)), .int .i64 n39] fun r86 =>
 .ret (.tuple #[.pointer (some (⟨b35, 0, none⟩ : Addr)), .int .i64 (0 : Int)])))))))))))))
 | _ => .fail
noncomputable def X118_6 : List Value → M := fun args => match args with
 | [] => 
 .ret (.tuple #[.pointer none, .int .i64 (1 : Int)])
 | _ => .fail
noncomputable def cuts118 : Cuts := [(6, [])]
noncomputable def L118 : Places := [(6, X118_6, todoOf Tryz.f118 6)]
noncomputable def k118 : FCode := .of X118 L118 cuts118
theorem o118_6 : OOk Tryz.prog Tryz.f118 cuts118 L118 (6, X118_6, todoOf Tryz.f118 6) := by
  intro vs Γ m H r h; replace h : (X118_6 vs).run _ _ _ _ = _ := h; unfold X118_6 at h; split at h
  · exact Eq.trans (by kernel_rfl) h
  · exact M.iFail h
theorem h118 : XOk Tryz.prog Tryz.f118 cuts118 L118 X118 := by
  intro Γ m args H r h; unfold X118 at h; split at h
  · replace h := M.iAgg h; obtain ⟨_, rfl, h⟩ := h; replace h := M.iAgg h; obtain ⟨_, rfl, h⟩ := h; replace h := M.iInt h; obtain ⟨_, rfl, h⟩ := h; replace h := M.iInt h; obtain ⟨_, rfl, h⟩ := h; exact ⟨Eq.trans (by kernel_rfl) h, Nat.le_of_ble_eq_true (by kernel_rfl)⟩
  · exact M.iFail h
theorem K118 : CodeOk Tryz.prog 118 k118 := .of Tryz.func118 (by kernel_rfl) (by kernel_rfl) h118 (fc o118_6 fe)
-- WARN 118: build of an unknown part
-- (*sternpost/conn.Conn).syn
noncomputable def X119 : List Value → M := fun args => match args with
 | [v0] => .kPtr v0 fun x0 => 
 .new (.cells [.int .i64 (0 : Int), .int .i64 (0 : Int), .int .i64 (0 : Int), .int .i64 (0 : Int), .int .i64 (0 : Int), .int .i64 (0 : Int), .int .i64 (0 : Int), .int .i64 (0 : Int), .int .i64 (0 : Int), .int .i64 (0 : Int), .int .i64 (0 : Int), .bool false, .bool false, .bool false, .slice none 0 0, .string (⟨#[]⟩ : ByteArray)] 0 true) fun b1 =>
 .onS x0 fun a2 =>
 .ld a2.block (a2.off + 13) fun v3 =>
 .kInt .i64 v3 fun n4 =>
 .call 88 [.pointer x0, .int .i64 (2 : Int), .int .i64 n4, .string (⟨#[]⟩ : ByteArray)] fun r5 =>
 .kAgg r5 fun cs6 =>
 .ite (cs6.size = 16) (
 .new (.cells [.int .i64 (0 : Int), .int .i64 (0 : Int), .int .i64 (0 : Int), .int .i64 (0 : Int), .int .i64 (0 : Int), .int .i64 (0 : Int), .int .i64 (0 : Int), .int .i64 (0 : Int), .int .i64 (0 : Int), .int .i64 (0 : Int), .int .i64 (0 : Int), .bool false, .bool false, .bool false, .slice none 0 0, .string (⟨#[]⟩ : ByteArray)] 0 true) fun b7 =>
 .st 16 (⟨b7, 0, none⟩ : Addr) (.agg cs6) (
 .onS x0 fun a9 =>
 .ld a9.block a9.off fun v10 =>
 .kInt .i64 v10 fun n11 =>
 .st 8 (⟨b7, 0 + 7, none⟩ : Addr) (.agg #[.int .i64 n11, .int .i64 (0 : Int), .int .i64 (0 : Int), .int .i64 (0 : Int), .bool false, .bool true, .bool false, .slice none 0 0]) (
 .ldn b7 0 16 fun cs13 =>
 .st 16 (⟨b1, 0, none⟩ : Addr) (.agg cs13) (
 .ldn b1 0 16 fun cs15 =>
 .ret (.agg cs15)))))
 | _ => .fail
noncomputable def cuts119 : Cuts := []
noncomputable def L119 : Places := []
noncomputable def k119 : FCode := .of X119 L119 cuts119
theorem h119 : XOk Tryz.prog Tryz.f119 cuts119 L119 X119 := by
  intro Γ m args H r h; unfold X119 at h; split at h
  · replace h := M.iPtr h; obtain ⟨_, rfl, h⟩ := h; exact ⟨Eq.trans (by kernel_rfl) h, Nat.le_of_ble_eq_true (by kernel_rfl)⟩
  · exact M.iFail h
theorem K119 : CodeOk Tryz.prog 119 k119 := .of Tryz.func119 (by kernel_rfl) (by kernel_rfl) h119 fe
-- (*sternpost/table.Table).full
noncomputable def X120 : List Value → M := fun args => match args with
 | [v0, v1] => .kPtr v0 fun x0 => .kInt .i64 v1 fun x1 => 
 .onS x0 fun a2 =>
 .ld a2.block (a2.off + 15) fun v3 =>
 .kMp v3 fun r4 =>
 .rng r4 fun v5 =>
 .jmp 100003 [.pointer x0, .int .i64 x1, .int .i64 (0 : Int), v5]
 | _ => .fail
noncomputable def X120_100003 : List Value → M := fun args => match args with
 | [v0, v1, v2, x3] => .kPtr v0 fun x0 => .kInt .i64 v1 fun x1 => .kInt .i64 v2 fun x2 => 
 .kPtr x3 fun p4 =>
 .onS p4 fun a5 =>
 .nxt a5 fun v6 =>
 .kTup v6 fun vs7 =>
 .nthA vs7 0 fun v8 =>
 .kBool v8 fun b9 =>
 .bool b9 (
 .kPtr x3 fun p10 =>
 .onS p10 fun a11 =>
 .entr a11 fun v12 =>
 .kTup v12 fun vs13 =>
 .nthA vs13 1 fun v14 =>
 .kPtr v14 fun p15 =>
 .onS p15 fun a16 =>
 .ld a16.block (a16.off + 7) fun v17 =>
 .kBool v17 fun b18 =>
 .bool b18 (
 .onS p15 fun a19 =>
 .ld a19.block ((a19.off + 2) + 1) fun v20 =>
 .kInt .i64 v20 fun n21 =>
 .cmp .eql n21 x1 fun t22 =>
 .bool t22 (
 .wr .i64 (x2 + (1 : Int)) fun n23 =>
 .jmp 100003 [.pointer x0, .int .i64 x1, .int .i64 n23, x3]) (
 .jmp 100003 [.pointer x0, .int .i64 x1, .int .i64 x2, x3])) (
 .jmp 100003 [.pointer x0, .int .i64 x1, .int .i64 x2, x3])) (
 .onS x0 fun a24 =>
 .ld a24.block (a24.off + 9) fun v25 =>
 .kInt .i64 v25 fun n26 =>
 .cmp .geq x2 n26 fun t27 =>
 .bool t27 (
 .ret (.bool true)) (
 .onS x0 fun a28 =>
 .ld a28.block (a28.off + 15) fun v29 =>
 .kMp v29 fun r30 =>
 .ldmo r30 fun es31 =>
 .opt (r30 : Option Nat) (
 .onS x0 fun a37 =>
 .ld a37.block (a37.off + 10) fun v38 =>
 .kInt .i64 v38 fun n39 =>
 .cmp .geq (es31.length : Int) n39 fun t40 =>
 .ret (.bool t40)) (fun blk32 =>
 .onS x0 fun a33 =>
 .ld a33.block (a33.off + 10) fun v34 =>
 .kInt .i64 v34 fun n35 =>
 .cmp .geq (es31.length : Int) n35 fun t36 =>
 .ret (.bool t36))))
 | _ => .fail
noncomputable def cuts120 : Cuts := [(100003, [0, 1, 5, 12])]
noncomputable def L120 : Places := [(100003, X120_100003, todoOf Tryz.f120 100003)]
noncomputable def k120 : FCode := .of X120 L120 cuts120
theorem o120_100003 : OOk Tryz.prog Tryz.f120 cuts120 L120 (100003, X120_100003, todoOf Tryz.f120 100003) := by
  intro vs Γ m H r h; replace h : (X120_100003 vs).run _ _ _ _ = _ := h; unfold X120_100003 at h; split at h
  · replace h := M.iPtr h; obtain ⟨_, rfl, h⟩ := h; replace h := M.iInt h; obtain ⟨_, rfl, h⟩ := h; replace h := M.iInt h; obtain ⟨_, rfl, h⟩ := h; exact Eq.trans (by kernel_rfl) h
  · exact M.iFail h
theorem h120 : XOk Tryz.prog Tryz.f120 cuts120 L120 X120 := by
  intro Γ m args H r h; unfold X120 at h; split at h
  · replace h := M.iPtr h; obtain ⟨_, rfl, h⟩ := h; replace h := M.iInt h; obtain ⟨_, rfl, h⟩ := h; exact ⟨Eq.trans (by kernel_rfl) h, Nat.le_of_ble_eq_true (by kernel_rfl)⟩
  · exact M.iFail h
theorem K120 : CodeOk Tryz.prog 120 k120 := .of Tryz.func120 (by kernel_rfl) (by kernel_rfl) h120 (fc o120_100003 fe)
-- sternpost/seq.Add
noncomputable def X121 : List Value → M := fun args => match args with
 | [v0, v1] => .kInt .i64 v0 fun x0 => .kInt .i64 v1 fun x1 => 
 .call 62 [.int .i64 x0] fun r2 =>
 .kInt .i64 r2 fun n3 =>
 .cmp .neq n3 (0 : Int) fun t4 =>
 .bool t4 (
 .jmp 2 []) (
 .call 162 [.int .i64 x1, .int .i64 (-4294967296 : Int), .int .i64 (4294967296 : Int)] fun r5 =>
 .kBool r5 fun b6 =>
 .bool (!b6) (
 .jmp 2 []) (
 .wr .i64 (x0 + x1) fun n7 =>
 .fxI (bits .and .i64 n7 (4294967295 : Int)) fun n8 =>
 .ret (.tuple #[.int .i64 n8, .int .i64 (0 : Int)])))
 | _ => .fail
noncomputable def X121_2 : List Value → M := fun args => match args with
 | [] => 
 .ret (.tuple #[.int .i64 (0 : Int), .int .i64 (1 : Int)])
 | _ => .fail
noncomputable def cuts121 : Cuts := [(2, [])]
noncomputable def L121 : Places := [(2, X121_2, todoOf Tryz.f121 2)]
noncomputable def k121 : FCode := .of X121 L121 cuts121
theorem o121_2 : OOk Tryz.prog Tryz.f121 cuts121 L121 (2, X121_2, todoOf Tryz.f121 2) := by
  intro vs Γ m H r h; replace h : (X121_2 vs).run _ _ _ _ = _ := h; unfold X121_2 at h; split at h
  · exact Eq.trans (by kernel_rfl) h
  · exact M.iFail h
theorem h121 : XOk Tryz.prog Tryz.f121 cuts121 L121 X121 := by
  intro Γ m args H r h; unfold X121 at h; split at h
  · replace h := M.iInt h; obtain ⟨_, rfl, h⟩ := h; replace h := M.iInt h; obtain ⟨_, rfl, h⟩ := h; exact ⟨Eq.trans (by kernel_rfl) h, Nat.le_of_ble_eq_true (by kernel_rfl)⟩
  · exact M.iFail h
theorem K121 : CodeOk Tryz.prog 121 k121 := .of Tryz.func121 (by kernel_rfl) (by kernel_rfl) h121 (fc o121_2 fe)
-- sternpost/seg.Length
noncomputable def X122 : List Value → M := fun args => match args with
 | [v0] => .kAgg v0 fun x0 => 
 .new (.cells x0.toList 0 true) fun b1 =>
 .ld b1 (0 + 15) fun v2 =>
 .kStr v2 fun s3 =>
 .ld b1 (0 + 4) fun v4 =>
 .kInt .i64 v4 fun n5 =>
 .nite ((2 : Int) = 0) (
 .wr .i64 ((bits .and .i64 n5 (2 : Int)).tdiv (2 : Int)) fun n6 =>
 .wr .i64 ((s3.size : Int) + n6) fun n7 =>
 .ld b1 (0 + 4) fun v8 =>
 .kInt .i64 v8 fun n9 =>
 .wr .i64 (n7 + (bits .and .i64 n9 (1 : Int))) fun n10 =>
 .ret (.int .i64 n10))
 | _ => .fail
noncomputable def cuts122 : Cuts := []
noncomputable def L122 : Places := []
noncomputable def k122 : FCode := .of X122 L122 cuts122
theorem h122 : XOk Tryz.prog Tryz.f122 cuts122 L122 X122 := by
  intro Γ m args H r h; unfold X122 at h; split at h
  · replace h := M.iAgg h; obtain ⟨_, rfl, h⟩ := h; exact ⟨Eq.trans (by kernel_rfl) h, Nat.le_of_ble_eq_true (by kernel_rfl)⟩
  · exact M.iFail h
theorem K122 : CodeOk Tryz.prog 122 k122 := .of Tryz.func122 (by kernel_rfl) (by kernel_rfl) h122 fe
-- sternpost/conn.opens
noncomputable def X124 : List Value → M := fun args => match args with
 | [v0] => .kAgg v0 fun x0 => 
 .new (.cells x0.toList 0 true) fun b1 =>
 .ldn b1 0 16 fun cs2 =>
 .call 42 [.agg cs2] fun r3 =>
 .kInt .i64 r3 fun n4 =>
 .cmp .eql n4 (0 : Int) fun t5 =>
 .bool t5 (
 .ldn b1 0 16 fun cs6 =>
 .call 83 [.agg cs6, .int .i64 (2 : Int)] fun r7 =>
 .kBool r7 fun b8 =>
 .bool b8 (
 .ld b1 (0 + 4) fun v9 =>
 .kInt .i64 v9 fun n10 =>
 .cmp .eql (bits .and .i64 n10 (21 : Int)) (0 : Int) fun t11 =>
 .ret (.bool t11)) (
 .ret (.bool false))) (
 .ret (.bool false))
 | _ => .fail
noncomputable def cuts124 : Cuts := []
noncomputable def L124 : Places := []
noncomputable def k124 : FCode := .of X124 L124 cuts124
theorem h124 : XOk Tryz.prog Tryz.f124 cuts124 L124 X124 := by
  intro Γ m args H r h; unfold X124 at h; split at h
  · replace h := M.iAgg h; obtain ⟨_, rfl, h⟩ := h; exact ⟨Eq.trans (by kernel_rfl) h, Nat.le_of_ble_eq_true (by kernel_rfl)⟩
  · exact M.iFail h
theorem K124 : CodeOk Tryz.prog 124 k124 := .of Tryz.func124 (by kernel_rfl) (by kernel_rfl) h124 fe
-- (*sternpost/conn.Conn).takeSyn
noncomputable def X125 : List Value → M := fun args => match args with
 | [v0, v1] => .kPtr v0 fun x0 => .kAgg v1 fun x1 => 
 .new (.cells x1.toList 0 true) fun b2 =>
 .ld b2 (0 + 7) fun v3 =>
 .kInt .i64 v3 fun n4 =>
 .cmp .eql n4 (0 : Int) fun t5 =>
 .bool t5 (
 .jmp 4 [.pointer x0, .pointer (some (⟨b2, 0, none⟩ : Addr)), .int .i64 (536 : Int)]) (
 .jmp 4 [.pointer x0, .pointer (some (⟨b2, 0, none⟩ : Addr)), .int .i64 n4])
 | _ => .fail
noncomputable def X125_4 : List Value → M := fun args => match args with
 | [v0, v1, v2] => .kPtr v0 fun x0 => .kPtr v1 fun x1 => .kInt .i64 v2 fun x2 => 
 .onS x1 fun a3 =>
 .ld a3.block ((a3.off + 7) + 5) fun v4 =>
 .kBool v4 fun b5 =>
 .onS x0 fun a6 =>
 .ld a6.block a6.off fun v7 =>
 .kInt .i64 v7 fun n8 =>
 .onS x1 fun a9 =>
 .ld a9.block (a9.off + 5) fun v10 =>
 .kInt .i64 v10 fun n11 =>
 .onS x1 fun a12 =>
 .ld a12.block (a12.off + 2) fun v13 =>
 .kInt .i64 v13 fun n14 =>
 .onS x1 fun a15 =>
 .ld a15.block (a15.off + 3) fun v16 =>
 .kInt .i64 v16 fun n17 =>
 .onS x0 fun a18 =>
 .fxV (.agg #[.bool true, .bool b5, .int .i64 (mni n8 x2), .int .i64 n11, .int .i64 n14, .int .i64 n17, .bool false, .bool false, .int .i64 (0 : Int)]) fun v19 =>
 .st 9 (⟨a18.block, a18.off + 23, none⟩ : Addr) v19 (
 .onS x1 fun a21 =>
 .ld a21.block (a21.off + 2) fun v22 =>
 .kInt .i64 v22 fun n23 =>
 .onS x0 fun a24 =>
 .ld a24.block (a24.off + 1) fun v25 =>
 .kInt .i64 v25 fun n26 =>
 .snap a24.block fun o27 =>
 .call 95 [.int .i64 n23, .int .i64 (1 : Int)] fun r28 =>
 .kInt .i64 r28 fun n29 =>
 .same a24.block o27 (
 .call 163 [.int .i64 n29, .int .i64 n26] fun r30 =>
 .kTup r30 fun vs31 =>
 .nthA vs31 0 fun v32 =>
 .kPtr v32 fun p33 =>
 .kTup r30 fun vs34 =>
 .nthA vs34 1 fun v35 =>
 .kInt .i64 v35 fun n36 =>
 .onS x0 fun a37 =>
 .st 1 (⟨a37.block, a37.off + 22, none⟩ : Addr) (.pointer p33) (
 .onS x0 fun a39 =>
 .ld a39.block ((a39.off + 23) + 2) fun v40 =>
 .kInt .i64 v40 fun n41 =>
 .call 161 [.int .i64 n41] fun r42 =>
 .kTup r42 fun vs43 =>
 .nthA vs43 0 fun v44 =>
 .kPtr v44 fun p45 =>
 .kTup r42 fun vs46 =>
 .nthA vs46 1 fun v47 =>
 .kInt .i64 v47 fun n48 =>
 .onS x0 fun a49 =>
 .st 1 (⟨a49.block, a49.off + 33, none⟩ : Addr) (.pointer p45) (
 .ret (.tuple #[])))))
 | _ => .fail
noncomputable def cuts125 : Cuts := [(4, [0, 3, 4])]
noncomputable def L125 : Places := [(4, X125_4, todoOf Tryz.f125 4)]
noncomputable def k125 : FCode := .of X125 L125 cuts125
theorem o125_4 : OOk Tryz.prog Tryz.f125 cuts125 L125 (4, X125_4, todoOf Tryz.f125 4) := by
  intro vs Γ m H r h; replace h : (X125_4 vs).run _ _ _ _ = _ := h; unfold X125_4 at h; split at h
  · replace h := M.iPtr h; obtain ⟨_, rfl, h⟩ := h; replace h := M.iPtr h; obtain ⟨_, rfl, h⟩ := h; replace h := M.iInt h; obtain ⟨_, rfl, h⟩ := h; exact Eq.trans (by kernel_rfl) h
  · exact M.iFail h
theorem h125 : XOk Tryz.prog Tryz.f125 cuts125 L125 X125 := by
  intro Γ m args H r h; unfold X125 at h; split at h
  · replace h := M.iPtr h; obtain ⟨_, rfl, h⟩ := h; replace h := M.iAgg h; obtain ⟨_, rfl, h⟩ := h; exact ⟨Eq.trans (by kernel_rfl) h, Nat.le_of_ble_eq_true (by kernel_rfl)⟩
  · exact M.iFail h
theorem K125 : CodeOk Tryz.prog 125 k125 := .of Tryz.func125 (by kernel_rfl) (by kernel_rfl) h125 (fc o125_4 fe)
-- slices.ContainsFunc[[]sternpost/api.Range,sternpost/api.Range]
noncomputable def X126 : List Value → M := fun args => match args with
 | [v0, x3] => .kSl v0 fun a0 l1 c2 => 
 .call 164 [.slice a0 l1 c2, x3] fun r4 =>
 .kInt .i64 r4 fun n5 =>
 .cmp .geq n5 (0 : Int) fun t6 =>
 .ret (.bool t6)
 | _ => .fail
noncomputable def cuts126 : Cuts := []
noncomputable def L126 : Places := []
noncomputable def k126 : FCode := .of X126 L126 cuts126
theorem h126 : XOk Tryz.prog Tryz.f126 cuts126 L126 X126 := by
  intro Γ m args H r h; unfold X126 at h; split at h
  · replace h := M.iSl h; obtain ⟨_, _, _, rfl, h⟩ := h; exact ⟨Eq.trans (by kernel_rfl) h, Nat.le_of_ble_eq_true (by kernel_rfl)⟩
  · exact M.iFail h
theorem K126 : CodeOk Tryz.prog 126 k126 := .of Tryz.func126 (by kernel_rfl) (by kernel_rfl) h126 fe
-- sternpost/opts.text
noncomputable def X128 : List Value → M := fun args => match args with
 | [v0] => .kAgg v0 fun x0 => 
 .new (.cells x0.toList 0 true) fun b1 =>
 .ld b1 0 fun v2 =>
 .kInt .i64 v2 fun n3 =>
 .cmp .gtr n3 (0 : Int) fun t4 =>
 .bool t4 (
 .ld b1 0 fun v5 =>
 .kInt .i64 v5 fun n6 =>
 .call 166 [.int .i64 n6, .int .i64 (2 : Int)] fun r7 =>
 .kStr r7 fun s8 =>
 .call 165 [.int .i64 (2 : Int), .string s8] fun r9 =>
 .kStr r9 fun s10 =>
 .cat (⟨#[]⟩ : ByteArray) s10 fun s11 =>
 .jmp 4 [.pointer (some (⟨b1, 0, none⟩ : Addr)), .string s11]) (
 .jmp 4 [.pointer (some (⟨b1, 0, none⟩ : Addr)), .string (⟨#[]⟩ : ByteArray)])
 | _ => .fail
noncomputable def X128_4 : List Value → M := fun args => match args with
 | [v0, v1] => .kPtr v0 fun x0 => .kStr v1 fun x1 => 
 .onS x0 fun a2 =>
 .ld a2.block (a2.off + 4) fun v3 =>
 .kBool v3 fun b4 =>
 .bool b4 (
 .onS x0 fun a5 =>
 .ld a5.block (a5.off + 1) fun v6 =>
 .kInt .i64 v6 fun n7 =>
 .call 166 [.int .i64 n7, .int .i64 (1 : Int)] fun r8 =>
 .kStr r8 fun s9 =>
 .call 165 [.int .i64 (3 : Int), .string s9] fun r10 =>
 .kStr r10 fun s11 =>
 .cat x1 s11 fun s12 =>
 .jmp 6 [.pointer x0, .string s12]) (
 .jmp 6 [.pointer x0, .string x1])
 | _ => .fail
noncomputable def X128_6 : List Value → M := fun args => match args with
 | [v0, v1] => .kPtr v0 fun x0 => .kStr v1 fun x1 => 
 .onS x0 fun a2 =>
 .ld a2.block (a2.off + 5) fun v3 =>
 .kBool v3 fun b4 =>
 .bool b4 (
 .call 165 [.int .i64 (4 : Int), .string (⟨#[]⟩ : ByteArray)] fun r5 =>
 .kStr r5 fun s6 =>
 .cat x1 s6 fun s7 =>
 .jmp 8 [.pointer x0, .string s7]) (
 .jmp 8 [.pointer x0, .string x1])
 | _ => .fail
noncomputable def X128_8 : List Value → M := fun args => match args with
 | [v0, v1] => .kPtr v0 fun x0 => .kStr v1 fun x1 => 
 .onS x0 fun a2 =>
 .ld a2.block (a2.off + 6) fun v3 =>
 .kBool v3 fun b4 =>
 .bool b4 (
 .onS x0 fun a5 =>
 .ld a5.block (a5.off + 2) fun v6 =>
 .kInt .i64 v6 fun n7 =>
 .onS x0 fun a8 =>
 .ld a8.block (a8.off + 3) fun v9 =>
 .kInt .i64 v9 fun n10 =>
 .snap a8.block fun o11 =>
 .call 166 [.int .i64 n7, .int .i64 (4 : Int)] fun r12 =>
 .kStr r12 fun s13 =>
 .same a8.block o11 (
 .call 166 [.int .i64 n10, .int .i64 (4 : Int)] fun r14 =>
 .kStr r14 fun s15 =>
 .cat s13 s15 fun s16 =>
 .call 165 [.int .i64 (8 : Int), .string s16] fun r17 =>
 .kStr r17 fun s18 =>
 .cat x1 s18 fun s19 =>
 .jmp 10 [.pointer x0, .string s19])) (
 .jmp 10 [.pointer x0, .string x1])
 | _ => .fail
noncomputable def X128_10 : List Value → M := fun args => match args with
 | [v0, v1] => .kPtr v0 fun x0 => .kStr v1 fun x1 => 
 .onS x0 fun a2 =>
 .ld a2.block (a2.off + 7) fun v3 =>
 .kSl v3 fun a4 l5 c6 =>
 .cmp .gtr ((l5 : Nat) : Int) (0 : Int) fun t7 =>
 .bool t7 (
 .onS x0 fun a8 =>
 .ld a8.block (a8.off + 7) fun v9 =>
 .kSl v9 fun a10 l11 c12 =>
 .fxI ((l11 : Nat) : Int) fun n13 =>
 .jmp 100013 [.string x1, .string (⟨#[]⟩ : ByteArray), .slice a10 l11 c12, .int .i64 n13, .int .i64 (0 : Int)]) (
 .jmp 18 [.string x1])
 | _ => .fail
noncomputable def X128_18 : List Value → M := fun args => match args with
 | [v0] => .kStr v0 fun x0 => 
 .wr .i64 (0 - (x0.size : Int)) fun n1 =>
 .fxI (bits .and .i64 n1 (3 : Int)) fun n2 =>
 .call 167 [.string (⟨#[0]⟩ : ByteArray), .int .i64 n2] fun r3 =>
 .kStr r3 fun s4 =>
 .cat x0 s4 fun s5 =>
 .ret (.string s5)
 | _ => .fail
noncomputable def X128_100013 : List Value → M := fun args => match args with
 | [v0, v1, v2, v3, v4] => .kStr v0 fun x0 => .kStr v1 fun x1 => .kSl v2 fun a2 l3 c4 => .kInt .i64 v3 fun x5 => .kInt .i64 v4 fun x6 => 
 .cmp .lss x6 x5 fun t7 =>
 .bool t7 (
 .onS a2 fun a8 =>
 .inb x6 l3 (
 .ldn ((a8.add (x6.toNat * 2)).block) ((a8.add (x6.toNat * 2)).off) 2 fun cs9 =>
 .new (.cells [.int .i64 (0 : Int), .int .i64 (0 : Int)] 0 true) fun b10 =>
 .st 2 (⟨b10, 0, none⟩ : Addr) (.agg cs9) (
 .ld b10 0 fun v12 =>
 .kInt .i64 v12 fun n13 =>
 .ld b10 (0 + 1) fun v14 =>
 .kInt .i64 v14 fun n15 =>
 .snap b10 fun o16 =>
 .call 166 [.int .i64 n13, .int .i64 (4 : Int)] fun r17 =>
 .kStr r17 fun s18 =>
 .same b10 o16 (
 .call 166 [.int .i64 n15, .int .i64 (4 : Int)] fun r19 =>
 .kStr r19 fun s20 =>
 .cat s18 s20 fun s21 =>
 .cat x1 s21 fun s22 =>
 .wr .i64 (x6 + (1 : Int)) fun n23 =>
 .jmp 100013 [.string x0, .string s22, .slice a2 l3 c4, .int .i64 x5, .int .i64 n23])))) (
 .call 165 [.int .i64 (5 : Int), .string x1] fun r24 =>
 .kStr r24 fun s25 =>
 .cat x0 s25 fun s26 =>
 .jmp 18 [.string s26])
 | _ => .fail
noncomputable def cuts128 : Cuts := [(100013, [3, 4, 46, 47, 48]), (18, [3]), (10, [1, 3]), (8, [1, 3]), (6, [1, 3]), (4, [1, 3])]
noncomputable def L128 : Places := [(4, X128_4, todoOf Tryz.f128 4), (6, X128_6, todoOf Tryz.f128 6), (8, X128_8, todoOf Tryz.f128 8), (10, X128_10, todoOf Tryz.f128 10), (18, X128_18, todoOf Tryz.f128 18), (100013, X128_100013, todoOf Tryz.f128 100013)]
noncomputable def k128 : FCode := .of X128 L128 cuts128
theorem o128_4 : OOk Tryz.prog Tryz.f128 cuts128 L128 (4, X128_4, todoOf Tryz.f128 4) := by
  intro vs Γ m H r h; replace h : (X128_4 vs).run _ _ _ _ = _ := h; unfold X128_4 at h; split at h
  · replace h := M.iPtr h; obtain ⟨_, rfl, h⟩ := h; replace h := M.iStr h; obtain ⟨_, rfl, h⟩ := h; exact Eq.trans (by kernel_rfl) h
  · exact M.iFail h
theorem o128_6 : OOk Tryz.prog Tryz.f128 cuts128 L128 (6, X128_6, todoOf Tryz.f128 6) := by
  intro vs Γ m H r h; replace h : (X128_6 vs).run _ _ _ _ = _ := h; unfold X128_6 at h; split at h
  · replace h := M.iPtr h; obtain ⟨_, rfl, h⟩ := h; replace h := M.iStr h; obtain ⟨_, rfl, h⟩ := h; exact Eq.trans (by kernel_rfl) h
  · exact M.iFail h
theorem o128_8 : OOk Tryz.prog Tryz.f128 cuts128 L128 (8, X128_8, todoOf Tryz.f128 8) := by
  intro vs Γ m H r h; replace h : (X128_8 vs).run _ _ _ _ = _ := h; unfold X128_8 at h; split at h
  · replace h := M.iPtr h; obtain ⟨_, rfl, h⟩ := h; replace h := M.iStr h; obtain ⟨_, rfl, h⟩ := h; exact Eq.trans (by kernel_rfl) h
  · exact M.iFail h
theorem o128_10 : OOk Tryz.prog Tryz.f128 cuts128 L128 (10, X128_10, todoOf Tryz.f128 10) := by
  intro vs Γ m H r h; replace h : (X128_10 vs).run _ _ _ _ = _ := h; unfold X128_10 at h; split at h
  · replace h := M.iPtr h; obtain ⟨_, rfl, h⟩ := h; replace h := M.iStr h; obtain ⟨_, rfl, h⟩ := h; exact Eq.trans (by kernel_rfl) h
  · exact M.iFail h
theorem o128_18 : OOk Tryz.prog Tryz.f128 cuts128 L128 (18, X128_18, todoOf Tryz.f128 18) := by
  intro vs Γ m H r h; replace h : (X128_18 vs).run _ _ _ _ = _ := h; unfold X128_18 at h; split at h
  · replace h := M.iStr h; obtain ⟨_, rfl, h⟩ := h; exact Eq.trans (by kernel_rfl) h
  · exact M.iFail h
theorem o128_100013 : OOk Tryz.prog Tryz.f128 cuts128 L128 (100013, X128_100013, todoOf Tryz.f128 100013) := by
  intro vs Γ m H r h; replace h : (X128_100013 vs).run _ _ _ _ = _ := h; unfold X128_100013 at h; split at h
  · replace h := M.iStr h; obtain ⟨_, rfl, h⟩ := h; replace h := M.iStr h; obtain ⟨_, rfl, h⟩ := h; replace h := M.iSl h; obtain ⟨_, _, _, rfl, h⟩ := h; replace h := M.iInt h; obtain ⟨_, rfl, h⟩ := h; replace h := M.iInt h; obtain ⟨_, rfl, h⟩ := h; exact Eq.trans (by kernel_rfl) h
  · exact M.iFail h
theorem h128 : XOk Tryz.prog Tryz.f128 cuts128 L128 X128 := by
  intro Γ m args H r h; unfold X128 at h; split at h
  · replace h := M.iAgg h; obtain ⟨_, rfl, h⟩ := h; exact ⟨Eq.trans (by kernel_rfl) h, Nat.le_of_ble_eq_true (by kernel_rfl)⟩
  · exact M.iFail h
theorem K128 : CodeOk Tryz.prog 128 k128 := .of Tryz.func128 (by kernel_rfl) (by kernel_rfl) h128 (fc o128_4 (fc o128_6 (fc o128_8 (fc o128_10 (fc o128_18 (fc o128_100013 fe))))))
-- (*sternpost/recvq.Queue).Apart
noncomputable def X129 : List Value → M := fun args => match args with
 | [v0, v1] => .kPtr v0 fun x0 => .kInt .i64 v1 fun x1 => 
 .onS x0 fun a2 =>
 .ld a2.block (a2.off + 3) fun v3 =>
 .kMp v3 fun r4 =>
 .rng r4 fun v5 =>
 .jmp 100003 [.pointer x0, .int .i64 x1, .slice none 0 0, v5]
 | _ => .fail
noncomputable def X129_16 : List Value → M := fun args => match args with
 | [v0, v1, v2, v3, v4, v5, v6, v7, v8] => .kPtr v0 fun x0 => .kInt .i64 v1 fun x1 => .kSl v2 fun a2 l3 c4 => .kSl v3 fun a5 l6 c7 => .kInt .i64 v4 fun x8 => .kInt .i64 v5 fun x9 => .kSl v6 fun a10 l11 c12 => .kInt .i64 v7 fun x13 => .kInt .i64 v8 fun x14 => 
 .new (.cells [.int .i64 x8, .int .i64 x9] 2 true) fun b15 =>
 .firstC 2 (.slice (some ⟨b15, 0, none⟩) 1 1) fun n16 nw17 =>
 .app 226 (.slice a5 l6 c7) n16 nw17 fun v18 =>
 .kSl v18 fun a20 l21 c22 =>
 .jmp 17 [.pointer x0, .int .i64 x1, .slice a2 l3 c4, .slice a20 l21 c22, .slice a10 l11 c12, .int .i64 x13, .int .i64 x14]
 | _ => .fail
noncomputable def X129_17 : List Value → M := fun args => match args with
 | [v0, v1, v2, v3, v4, v5, v6] => .kPtr v0 fun x0 => .kInt .i64 v1 fun x1 => .kSl v2 fun a2 l3 c4 => .kSl v3 fun a5 l6 c7 => .kSl v4 fun a8 l9 c10 => .kInt .i64 v5 fun x11 => .kInt .i64 v6 fun x12 => 
 .wr .i64 (x12 + (1 : Int)) fun n13 =>
 .jmp 100010 [.pointer x0, .int .i64 x1, .slice a2 l3 c4, .slice a5 l6 c7, .slice a8 l9 c10, .int .i64 x11, .int .i64 n13]
 | _ => .fail
noncomputable def X129_100003 : List Value → M := fun args => match args with
 | [v0, v1, v2, x5] => .kPtr v0 fun x0 => .kInt .i64 v1 fun x1 => .kSl v2 fun a2 l3 c4 => 
 .kPtr x5 fun p6 =>
 .onS p6 fun a7 =>
 .nxt a7 fun v8 =>
 .kTup v8 fun vs9 =>
 .nthA vs9 0 fun v10 =>
 .kBool v10 fun b11 =>
 .bool b11 (
 .kPtr x5 fun p12 =>
 .onS p12 fun a13 =>
 .entr a13 fun v14 =>
 .kTup v14 fun vs15 =>
 .nthA vs15 0 fun v16 =>
 .kInt .i64 v16 fun n17 =>
 .onS x0 fun a18 =>
 .ld a18.block a18.off fun v19 =>
 .kInt .i64 v19 fun n20 =>
 .call 131 [.int .i64 n20, .int .i64 n17] fun r21 =>
 .kTup r21 fun vs22 =>
 .nthA vs22 0 fun v23 =>
 .kInt .i64 v23 fun n24 =>
 .kTup r21 fun vs25 =>
 .nthA vs25 1 fun v26 =>
 .kInt .i64 v26 fun n27 =>
 .new (.cells [.int .i64 n24] 1 true) fun b28 =>
 .firstC 1 (.slice (some ⟨b28, 0, none⟩) 1 1) fun n29 nw30 =>
 .app 3 (.slice a2 l3 c4) n29 nw30 fun v31 =>
 .kSl v31 fun a33 l34 c35 =>
 .jmp 100003 [.pointer x0, .int .i64 x1, .slice a33 l34 c35, x5]) (
 .call 114 [.slice a2 l3 c4] fun r36 =>
 .fxI ((l3 : Nat) : Int) fun n37 =>
 .jmp 100010 [.pointer x0, .int .i64 x1, .slice a2 l3 c4, .slice none 0 0, .slice a2 l3 c4, .int .i64 n37, .int .i64 (0 : Int)])
 | _ => .fail
noncomputable def X129_100010 : List Value → M := fun args => match args with
 | [v0, v1, v2, v3, v4, v5, v6] => .kPtr v0 fun x0 => .kInt .i64 v1 fun x1 => .kSl v2 fun a2 l3 c4 => .kSl v3 fun a5 l6 c7 => .kSl v4 fun a8 l9 c10 => .kInt .i64 v5 fun x11 => .kInt .i64 v6 fun x12 => 
 .cmp .lss x12 x11 fun t13 =>
 .bool t13 (
 .onS a8 fun a14 =>
 .inb x12 l9 (
 .ld ((a14.add (x12.toNat * 1)).block) ((a14.add (x12.toNat * 1)).off) fun v15 =>
 .kInt .i64 v15 fun n16 =>
 .onS x0 fun a17 =>
 .ld a17.block a17.off fun v18 =>
 .kInt .i64 v18 fun n19 =>
 .call 121 [.int .i64 n19, .int .i64 n16] fun r20 =>
 .kTup r20 fun vs21 =>
 .nthA vs21 0 fun v22 =>
 .kInt .i64 v22 fun n23 =>
 .kTup r20 fun vs24 =>
 .nthA vs24 1 fun v25 =>
 .kInt .i64 v25 fun n26 =>
 .call 121 [.int .i64 n23, .int .i64 (1 : Int)] fun r27 =>
 .kTup r27 fun vs28 =>
 .nthA vs28 0 fun v29 =>
 .kInt .i64 v29 fun n30 =>
 .kTup r27 fun vs31 =>
 .nthA vs31 1 fun v32 =>
 .kInt .i64 v32 fun n33 =>
 .cmp .gtr x12 (0 : Int) fun t34 =>
 .bool t34 (
 .wr .i64 (x12 - (1 : Int)) fun n35 =>
 .onS a2 fun a36 =>
 .inb n35 l3 (
 .ld ((a36.add (n35.toNat * 1)).block) ((a36.add (n35.toNat * 1)).off) fun v37 =>
 .kInt .i64 v37 fun n38 =>
 .wr .i64 (n16 - (1 : Int)) fun n39 =>
 .cmp .eql n38 n39 fun t40 =>
 .bool t40 (
 .wr .i64 (((l6 : Nat) : Int) - (1 : Int)) fun n41 =>
 .onS a5 fun a42 =>
 .inb n41 l6 (
 .st 1 (⟨(a42.add (n41.toNat * 2)).block, (a42.add (n41.toNat * 2)).off + 1, none⟩ : Addr) (.int .i64 n30) (
 .jmp 17 [.pointer x0, .int .i64 x1, .slice a2 l3 c4, .slice a5 l6 c7, .slice a8 l9 c10, .int .i64 x11, .int .i64 x12]))) (
 .jmp 16 [.pointer x0, .int .i64 x1, .slice a2 l3 c4, .slice a5 l6 c7, .int .i64 n23, .int .i64 n30, .slice a8 l9 c10, .int .i64 x11, .int .i64 x12]))) (
 .jmp 16 [.pointer x0, .int .i64 x1, .slice a2 l3 c4, .slice a5 l6 c7, .int .i64 n23, .int .i64 n30, .slice a8 l9 c10, .int .i64 x11, .int .i64 x12]))) (
 .slSl 2 a5 l6 c7 (0 : Int) (mxi (0 : Int) (mni x1 ((l6 : Nat) : Int))) fun v44 =>
 .kSl v44 fun a45 l46 c47 =>
 .ret (.slice a45 l46 c47))
 | _ => .fail
noncomputable def cuts129 : Cuts := [(100003, [0, 1, 5, 20]), (100010, [0, 1, 5, 9, 40, 41, 42]), (17, [0, 1, 5, 9, 40, 41, 42]), (16, [0, 1, 5, 9, 12, 14, 40, 41, 42])]
noncomputable def L129 : Places := [(16, X129_16, todoOf Tryz.f129 16), (17, X129_17, todoOf Tryz.f129 17), (100003, X129_100003, todoOf Tryz.f129 100003), (100010, X129_100010, todoOf Tryz.f129 100010)]
noncomputable def k129 : FCode := .of X129 L129 cuts129
theorem o129_16 : OOk Tryz.prog Tryz.f129 cuts129 L129 (16, X129_16, todoOf Tryz.f129 16) := by
  intro vs Γ m H r h; replace h : (X129_16 vs).run _ _ _ _ = _ := h; unfold X129_16 at h; split at h
  · replace h := M.iPtr h; obtain ⟨_, rfl, h⟩ := h; replace h := M.iInt h; obtain ⟨_, rfl, h⟩ := h; replace h := M.iSl h; obtain ⟨_, _, _, rfl, h⟩ := h; replace h := M.iSl h; obtain ⟨_, _, _, rfl, h⟩ := h; replace h := M.iInt h; obtain ⟨_, rfl, h⟩ := h; replace h := M.iInt h; obtain ⟨_, rfl, h⟩ := h; replace h := M.iSl h; obtain ⟨_, _, _, rfl, h⟩ := h; replace h := M.iInt h; obtain ⟨_, rfl, h⟩ := h; replace h := M.iInt h; obtain ⟨_, rfl, h⟩ := h; exact Eq.trans (by kernel_rfl) h
  · exact M.iFail h
theorem o129_17 : OOk Tryz.prog Tryz.f129 cuts129 L129 (17, X129_17, todoOf Tryz.f129 17) := by
  intro vs Γ m H r h; replace h : (X129_17 vs).run _ _ _ _ = _ := h; unfold X129_17 at h; split at h
  · replace h := M.iPtr h; obtain ⟨_, rfl, h⟩ := h; replace h := M.iInt h; obtain ⟨_, rfl, h⟩ := h; replace h := M.iSl h; obtain ⟨_, _, _, rfl, h⟩ := h; replace h := M.iSl h; obtain ⟨_, _, _, rfl, h⟩ := h; replace h := M.iSl h; obtain ⟨_, _, _, rfl, h⟩ := h; replace h := M.iInt h; obtain ⟨_, rfl, h⟩ := h; replace h := M.iInt h; obtain ⟨_, rfl, h⟩ := h; exact Eq.trans (by kernel_rfl) h
  · exact M.iFail h
theorem o129_100003 : OOk Tryz.prog Tryz.f129 cuts129 L129 (100003, X129_100003, todoOf Tryz.f129 100003) := by
  intro vs Γ m H r h; replace h : (X129_100003 vs).run _ _ _ _ = _ := h; unfold X129_100003 at h; split at h
  · replace h := M.iPtr h; obtain ⟨_, rfl, h⟩ := h; replace h := M.iInt h; obtain ⟨_, rfl, h⟩ := h; replace h := M.iSl h; obtain ⟨_, _, _, rfl, h⟩ := h; exact Eq.trans (by kernel_rfl) h
  · exact M.iFail h
theorem o129_100010 : OOk Tryz.prog Tryz.f129 cuts129 L129 (100010, X129_100010, todoOf Tryz.f129 100010) := by
  intro vs Γ m H r h; replace h : (X129_100010 vs).run _ _ _ _ = _ := h; unfold X129_100010 at h; split at h
  · replace h := M.iPtr h; obtain ⟨_, rfl, h⟩ := h; replace h := M.iInt h; obtain ⟨_, rfl, h⟩ := h; replace h := M.iSl h; obtain ⟨_, _, _, rfl, h⟩ := h; replace h := M.iSl h; obtain ⟨_, _, _, rfl, h⟩ := h; replace h := M.iSl h; obtain ⟨_, _, _, rfl, h⟩ := h; replace h := M.iInt h; obtain ⟨_, rfl, h⟩ := h; replace h := M.iInt h; obtain ⟨_, rfl, h⟩ := h; exact Eq.trans (by kernel_rfl) h
  · exact M.iFail h
theorem h129 : XOk Tryz.prog Tryz.f129 cuts129 L129 X129 := by
  intro Γ m args H r h; unfold X129 at h; split at h
  · replace h := M.iPtr h; obtain ⟨_, rfl, h⟩ := h; replace h := M.iInt h; obtain ⟨_, rfl, h⟩ := h; exact ⟨Eq.trans (by kernel_rfl) h, Nat.le_of_ble_eq_true (by kernel_rfl)⟩
  · exact M.iFail h
theorem K129 : CodeOk Tryz.prog 129 k129 := .of Tryz.func129 (by kernel_rfl) (by kernel_rfl) h129 (fc o129_16 (fc o129_17 (fc o129_100003 (fc o129_100010 fe))))
-- (*sternpost/recvq.Queue).Window
noncomputable def X130 : List Value → M := fun args => match args with
 | [v0] => .kPtr v0 fun x0 => 
 .onS x0 fun a1 =>
 .ld a1.block (a1.off + 1) fun v2 =>
 .kInt .i64 v2 fun n3 =>
 .onS x0 fun a4 =>
 .ld a4.block (a4.off + 2) fun v5 =>
 .kStr v5 fun s6 =>
 .wr .i64 (n3 - (s6.size : Int)) fun n7 =>
 .ret (.int .i64 n7)
 | _ => .fail
noncomputable def cuts130 : Cuts := []
noncomputable def L130 : Places := []
noncomputable def k130 : FCode := .of X130 L130 cuts130
theorem h130 : XOk Tryz.prog Tryz.f130 cuts130 L130 X130 := by
  intro Γ m args H r h; unfold X130 at h; split at h
  · replace h := M.iPtr h; obtain ⟨_, rfl, h⟩ := h; exact ⟨Eq.trans (by kernel_rfl) h, Nat.le_of_ble_eq_true (by kernel_rfl)⟩
  · exact M.iFail h
theorem K130 : CodeOk Tryz.prog 130 k130 := .of Tryz.func130 (by kernel_rfl) (by kernel_rfl) h130 fe
-- sternpost/seq.Distance
noncomputable def X131 : List Value → M := fun args => match args with
 | [v0, v1] => .kInt .i64 v0 fun x0 => .kInt .i64 v1 fun x1 => 
 .call 168 [.int .i64 x0, .int .i64 x1] fun r2 =>
 .kInt .i64 r2 fun n3 =>
 .cmp .neq n3 (0 : Int) fun t4 =>
 .bool t4 (
 .ret (.tuple #[.int .i64 (0 : Int), .int .i64 n3])) (
 .wr .i64 (x1 - x0) fun n5 =>
 .fxI (bits .and .i64 n5 (4294967295 : Int)) fun n6 =>
 .ret (.tuple #[.int .i64 n6, .int .i64 (0 : Int)]))
 | _ => .fail
noncomputable def cuts131 : Cuts := []
noncomputable def L131 : Places := []
noncomputable def k131 : FCode := .of X131 L131 cuts131
theorem h131 : XOk Tryz.prog Tryz.f131 cuts131 L131 X131 := by
  intro Γ m args H r h; unfold X131 at h; split at h
  · replace h := M.iInt h; obtain ⟨_, rfl, h⟩ := h; replace h := M.iInt h; obtain ⟨_, rfl, h⟩ := h; exact ⟨Eq.trans (by kernel_rfl) h, Nat.le_of_ble_eq_true (by kernel_rfl)⟩
  · exact M.iFail h
theorem K131 : CodeOk Tryz.prog 131 k131 := .of Tryz.func131 (by kernel_rfl) (by kernel_rfl) h131 fe
-- (*sternpost/conn.Conn).open
noncomputable def X134 : List Value → M := fun args => match args with
 | [v0] => .kPtr v0 fun x0 => 
 .call 45 [.pointer x0] fun r1 =>
 .kTup r1 fun vs2 =>
 .nthA vs2 0 fun v3 =>
 .kInt .i64 v3 fun n4 =>
 .kTup r1 fun vs5 =>
 .nthA vs5 1 fun v6 =>
 .kInt .i64 v6 fun n7 =>
 .kTup r1 fun vs8 =>
 .nthA vs8 2 fun v9 =>
 .kInt .i64 v9 fun n10 =>
 .kTup r1 fun vs11 =>
 .nthA vs11 3 fun v12 =>
 .kInt .i64 v12 fun n13 =>
 .cmp .neq n4 n7 fun t14 =>
 .ret (.bool t14)
 | _ => .fail
noncomputable def cuts134 : Cuts := []
noncomputable def L134 : Places := []
noncomputable def k134 : FCode := .of X134 L134 cuts134
theorem h134 : XOk Tryz.prog Tryz.f134 cuts134 L134 X134 := by
  intro Γ m args H r h; unfold X134 at h; split at h
  · replace h := M.iPtr h; obtain ⟨_, rfl, h⟩ := h; exact ⟨Eq.trans (by kernel_rfl) h, Nat.le_of_ble_eq_true (by kernel_rfl)⟩
  · exact M.iFail h
theorem K134 : CodeOk Tryz.prog 134 k134 := .of Tryz.func134 (by kernel_rfl) (by kernel_rfl) h134 fe
-- (*sternpost/sendq.Queue).at
noncomputable def X137 : List Value → M := fun args => match args with
 | [v0, v1] => .kPtr v0 fun x0 => .kInt .i64 v1 fun x1 => 
 .onS x0 fun a2 =>
 .ld a2.block a2.off fun v3 =>
 .kInt .i64 v3 fun n4 =>
 .call 121 [.int .i64 n4, .int .i64 x1] fun r5 =>
 .kTup r5 fun vs6 =>
 .nthA vs6 0 fun v7 =>
 .kInt .i64 v7 fun n8 =>
 .kTup r5 fun vs9 =>
 .nthA vs9 1 fun v10 =>
 .kInt .i64 v10 fun n11 =>
 .ret (.int .i64 n8)
 | _ => .fail
noncomputable def cuts137 : Cuts := []
noncomputable def L137 : Places := []
noncomputable def k137 : FCode := .of X137 L137 cuts137
theorem h137 : XOk Tryz.prog Tryz.f137 cuts137 L137 X137 := by
  intro Γ m args H r h; unfold X137 at h; split at h
  · replace h := M.iPtr h; obtain ⟨_, rfl, h⟩ := h; replace h := M.iInt h; obtain ⟨_, rfl, h⟩ := h; exact ⟨Eq.trans (by kernel_rfl) h, Nat.le_of_ble_eq_true (by kernel_rfl)⟩
  · exact M.iFail h
theorem K137 : CodeOk Tryz.prog 137 k137 := .of Tryz.func137 (by kernel_rfl) (by kernel_rfl) h137 fe
-- (*sternpost/conn.Conn).sends
noncomputable def X138 : List Value → M := fun args => match args with
 | [v0] => .kPtr v0 fun x0 => 
 .onS x0 fun a1 =>
 .ld a1.block (a1.off + 12) fun v2 =>
 .kInt .i64 v2 fun n3 =>
 .cmp .eql n3 (4 : Int) fun t4 =>
 .bool t4 (
 .bool t4 (
 .jmp 7 []) (
 .jmp 4 [.int .i64 n3])) (
 .cmp .eql n3 (5 : Int) fun t5 =>
 .bool t5 (
 .jmp 7 []) (
 .jmp 4 [.int .i64 n3]))
 | _ => .fail
noncomputable def X138_4 : List Value → M := fun args => match args with
 | [v0] => .kInt .i64 v0 fun x0 => 
 .cmp .eql x0 (7 : Int) fun t1 =>
 .bool t1 (
 .bool t1 (
 .jmp 7 []) (
 .jmp 8 [])) (
 .cmp .eql x0 (8 : Int) fun t2 =>
 .bool t2 (
 .bool t2 (
 .jmp 7 []) (
 .jmp 8 [])) (
 .cmp .eql x0 (9 : Int) fun t3 =>
 .bool t3 (
 .jmp 7 []) (
 .jmp 8 [])))
 | _ => .fail
noncomputable def X138_7 : List Value → M := fun args => match args with
 | [] => 
 .ret (.bool true)
 | _ => .fail
noncomputable def X138_8 : List Value → M := fun args => match args with
 | [] => 
 .ret (.bool false)
 | _ => .fail
noncomputable def cuts138 : Cuts := [(7, []), (8, []), (4, [6])]
noncomputable def L138 : Places := [(4, X138_4, todoOf Tryz.f138 4), (7, X138_7, todoOf Tryz.f138 7), (8, X138_8, todoOf Tryz.f138 8)]
noncomputable def k138 : FCode := .of X138 L138 cuts138
theorem o138_4 : OOk Tryz.prog Tryz.f138 cuts138 L138 (4, X138_4, todoOf Tryz.f138 4) := by
  intro vs Γ m H r h; replace h : (X138_4 vs).run _ _ _ _ = _ := h; unfold X138_4 at h; split at h
  · replace h := M.iInt h; obtain ⟨_, rfl, h⟩ := h; exact Eq.trans (by kernel_rfl) h
  · exact M.iFail h
theorem o138_7 : OOk Tryz.prog Tryz.f138 cuts138 L138 (7, X138_7, todoOf Tryz.f138 7) := by
  intro vs Γ m H r h; replace h : (X138_7 vs).run _ _ _ _ = _ := h; unfold X138_7 at h; split at h
  · exact Eq.trans (by kernel_rfl) h
  · exact M.iFail h
theorem o138_8 : OOk Tryz.prog Tryz.f138 cuts138 L138 (8, X138_8, todoOf Tryz.f138 8) := by
  intro vs Γ m H r h; replace h : (X138_8 vs).run _ _ _ _ = _ := h; unfold X138_8 at h; split at h
  · exact Eq.trans (by kernel_rfl) h
  · exact M.iFail h
theorem h138 : XOk Tryz.prog Tryz.f138 cuts138 L138 X138 := by
  intro Γ m args H r h; unfold X138 at h; split at h
  · replace h := M.iPtr h; obtain ⟨_, rfl, h⟩ := h; exact ⟨Eq.trans (by kernel_rfl) h, Nat.le_of_ble_eq_true (by kernel_rfl)⟩
  · exact M.iFail h
theorem K138 : CodeOk Tryz.prog 138 k138 := .of Tryz.func138 (by kernel_rfl) (by kernel_rfl) h138 (fc o138_4 (fc o138_7 (fc o138_8 fe)))
-- (*sternpost/conn.Conn).piece
noncomputable def X139 : List Value → M := fun args => match args with
 | [v0] => .kPtr v0 fun x0 => 
 .call 89 [.pointer x0] fun r1 =>
 .kTup r1 fun vs2 =>
 .nthA vs2 0 fun v3 =>
 .kInt .i64 v3 fun n4 =>
 .kTup r1 fun vs5 =>
 .nthA vs5 1 fun v6 =>
 .kInt .i64 v6 fun n7 =>
 .onS x0 fun a8 =>
 .ld a8.block ((a8.off + 23) + 2) fun v9 =>
 .kInt .i64 v9 fun n10 =>
 .onS x0 fun a11 =>
 .ld a11.block ((a11.off + 23) + 3) fun v12 =>
 .kInt .i64 v12 fun n13 =>
 .wr .i64 (n13 - n4) fun n14 =>
 .onS x0 fun a15 =>
 .ld a15.block (a15.off + 33) fun v16 =>
 .kPtr v16 fun p17 =>
 .snap a11.block fun o18 =>
 .snap a8.block fun o19 =>
 .call 170 [.pointer p17] fun r20 =>
 .kInt .i64 r20 fun n21 =>
 .same a11.block o18 (
 .same a8.block o19 (
 .wr .i64 (n21 - n4) fun n22 =>
 .cmp .lss (mni (mni (mni n7 n10) n14) n22) (1 : Int) fun t23 =>
 .bool t23 (
 .jmp 4 []) (
 .onS x0 fun a24 =>
 .ld a24.block ((a24.off + 23) + 2) fun v25 =>
 .kInt .i64 v25 fun n26 =>
 .cmp .lss (mni (mni (mni n7 n10) n14) n22) n26 fun t27 =>
 .bool t27 (
 .cmp .gtr n4 (0 : Int) fun t28 =>
 .bool t28 (
 .onS x0 fun a29 =>
 .ld a29.block (a29.off + 18) fun v30 =>
 .kBool v30 fun b31 =>
 .bool (!b31) (
 .jmp 4 []) (
 .fxI (mni (mni (mni n7 n10) n14) n22) fun n32 =>
 .jmp 5 [.int .i64 n32])) (
 .fxI (mni (mni (mni n7 n10) n14) n22) fun n33 =>
 .jmp 5 [.int .i64 n33])) (
 .fxI (mni (mni (mni n7 n10) n14) n22) fun n34 =>
 .jmp 5 [.int .i64 n34]))))
 | _ => .fail
noncomputable def X139_4 : List Value → M := fun args => match args with
 | [] => 
 .ret (.int .i64 (0 : Int))
 | _ => .fail
noncomputable def X139_5 : List Value → M := fun args => match args with
 | [v0] => .kInt .i64 v0 fun x0 => 
 .ret (.int .i64 x0)
 | _ => .fail
noncomputable def cuts139 : Cuts := [(4, []), (5, [5])]
noncomputable def L139 : Places := [(4, X139_4, todoOf Tryz.f139 4), (5, X139_5, todoOf Tryz.f139 5)]
noncomputable def k139 : FCode := .of X139 L139 cuts139
theorem o139_4 : OOk Tryz.prog Tryz.f139 cuts139 L139 (4, X139_4, todoOf Tryz.f139 4) := by
  intro vs Γ m H r h; replace h : (X139_4 vs).run _ _ _ _ = _ := h; unfold X139_4 at h; split at h
  · exact Eq.trans (by kernel_rfl) h
  · exact M.iFail h
theorem o139_5 : OOk Tryz.prog Tryz.f139 cuts139 L139 (5, X139_5, todoOf Tryz.f139 5) := by
  intro vs Γ m H r h; replace h : (X139_5 vs).run _ _ _ _ = _ := h; unfold X139_5 at h; split at h
  · replace h := M.iInt h; obtain ⟨_, rfl, h⟩ := h; exact Eq.trans (by kernel_rfl) h
  · exact M.iFail h
theorem h139 : XOk Tryz.prog Tryz.f139 cuts139 L139 X139 := by
  intro Γ m args H r h; unfold X139 at h; split at h
  · replace h := M.iPtr h; obtain ⟨_, rfl, h⟩ := h; exact ⟨Eq.trans (by kernel_rfl) h, Nat.le_of_ble_eq_true (by kernel_rfl)⟩
  · exact M.iFail h
theorem K139 : CodeOk Tryz.prog 139 k139 := .of Tryz.func139 (by kernel_rfl) (by kernel_rfl) h139 (fc o139_4 (fc o139_5 fe))
-- (*sternpost/conn.Conn).last
noncomputable def X141 : List Value → M := fun args => match args with
 | [v0] => .kPtr v0 fun x0 => 
 .call 89 [.pointer x0] fun r1 =>
 .kTup r1 fun vs2 =>
 .nthA vs2 0 fun v3 =>
 .kInt .i64 v3 fun n4 =>
 .kTup r1 fun vs5 =>
 .nthA vs5 1 fun v6 =>
 .kInt .i64 v6 fun n7 =>
 .onS x0 fun a8 =>
 .ld a8.block (a8.off + 18) fun v9 =>
 .kBool v9 fun b10 =>
 .bool b10 (
 .onS x0 fun a11 =>
 .ld a11.block (a11.off + 19) fun v12 =>
 .kBool v12 fun b13 =>
 .bool (!b13) (
 .cmp .eql n7 (0 : Int) fun t14 =>
 .ret (.bool t14)) (
 .ret (.bool false))) (
 .ret (.bool false))
 | _ => .fail
noncomputable def cuts141 : Cuts := []
noncomputable def L141 : Places := []
noncomputable def k141 : FCode := .of X141 L141 cuts141
theorem h141 : XOk Tryz.prog Tryz.f141 cuts141 L141 X141 := by
  intro Γ m args H r h; unfold X141 at h; split at h
  · replace h := M.iPtr h; obtain ⟨_, rfl, h⟩ := h; exact ⟨Eq.trans (by kernel_rfl) h, Nat.le_of_ble_eq_true (by kernel_rfl)⟩
  · exact M.iFail h
theorem K141 : CodeOk Tryz.prog 141 k141 := .of Tryz.func141 (by kernel_rfl) (by kernel_rfl) h141 fe
-- (*sternpost/conn.Conn).begin
noncomputable def X142 : List Value → M := fun args => match args with
 | [v0, v1] => .kPtr v0 fun x0 => .kInt .i64 v1 fun x1 => 
 .onS x0 fun a2 =>
 .ld a2.block (a2.off + 34) fun v3 =>
 .kBool v3 fun b4 =>
 .bool (!b4) (
 .onS x0 fun a5 =>
 .ld a5.block (a5.off + 14) fun v6 =>
 .kInt .i64 v6 fun n7 =>
 .onS x0 fun a8 =>
 .st 3 (⟨a8.block, a8.off + 34, none⟩ : Addr) (.agg #[.bool true, .int .i64 x1, .int .i64 n7]) (
 .ret (.tuple #[]))) (
 .ret (.tuple #[]))
 | _ => .fail
noncomputable def cuts142 : Cuts := []
noncomputable def L142 : Places := []
noncomputable def k142 : FCode := .of X142 L142 cuts142
theorem h142 : XOk Tryz.prog Tryz.f142 cuts142 L142 X142 := by
  intro Γ m args H r h; unfold X142 at h; split at h
  · replace h := M.iPtr h; obtain ⟨_, rfl, h⟩ := h; replace h := M.iInt h; obtain ⟨_, rfl, h⟩ := h; exact ⟨Eq.trans (by kernel_rfl) h, Nat.le_of_ble_eq_true (by kernel_rfl)⟩
  · exact M.iFail h
theorem K142 : CodeOk Tryz.prog 142 k142 := .of Tryz.func142 (by kernel_rfl) (by kernel_rfl) h142 fe
-- (*sternpost/rto.Rto).Wait
noncomputable def X143 : List Value → M := fun args => match args with
 | [v0] => .kPtr v0 fun x0 => 
 .onS x0 fun a1 =>
 .ld a1.block (a1.off + 2) fun v2 =>
 .kInt .i64 v2 fun n3 =>
 .ret (.int .i64 n3)
 | _ => .fail
noncomputable def cuts143 : Cuts := []
noncomputable def L143 : Places := []
noncomputable def k143 : FCode := .of X143 L143 cuts143
theorem h143 : XOk Tryz.prog Tryz.f143 cuts143 L143 X143 := by
  intro Γ m args H r h; unfold X143 at h; split at h
  · replace h := M.iPtr h; obtain ⟨_, rfl, h⟩ := h; exact ⟨Eq.trans (by kernel_rfl) h, Nat.le_of_ble_eq_true (by kernel_rfl)⟩
  · exact M.iFail h
theorem K143 : CodeOk Tryz.prog 143 k143 := .of Tryz.func143 (by kernel_rfl) (by kernel_rfl) h143 fe
-- (*sternpost/conn.Conn).took
noncomputable def X144 : List Value → M := fun args => match args with
 | [v0, v1] => .kPtr v0 fun x0 => .kInt .i64 v1 fun x1 => 
 .call 45 [.pointer x0] fun r2 =>
 .kTup r2 fun vs3 =>
 .nthA vs3 0 fun v4 =>
 .kInt .i64 v4 fun n5 =>
 .kTup r2 fun vs6 =>
 .nthA vs6 1 fun v7 =>
 .kInt .i64 v7 fun n8 =>
 .kTup r2 fun vs9 =>
 .nthA vs9 2 fun v10 =>
 .kInt .i64 v10 fun n11 =>
 .kTup r2 fun vs12 =>
 .nthA vs12 3 fun v13 =>
 .kInt .i64 v13 fun n14 =>
 .onS x0 fun a15 =>
 .st 1 (⟨a15.block, a15.off + 17, none⟩ : Addr) (.bool true) (
 .onS x0 fun a17 =>
 .ld a17.block (a17.off + 19) fun v18 =>
 .kBool v18 fun b19 =>
 .bool b19 (
 .cmp .eql x1 n8 fun t20 =>
 .bool t20 (
 .onS x0 fun a21 =>
 .st 1 (⟨a21.block, a21.off + 20, none⟩ : Addr) (.bool true) (
 .call 95 [.int .i64 x1, .int .i64 (-1 : Int)] fun r23 =>
 .kInt .i64 r23 fun n24 =>
 .jmp 6 [.pointer x0, .int .i64 n24])) (
 .jmp 6 [.pointer x0, .int .i64 x1])) (
 .jmp 6 [.pointer x0, .int .i64 x1]))
 | _ => .fail
noncomputable def X144_6 : List Value → M := fun args => match args with
 | [v0, v1] => .kPtr v0 fun x0 => .kInt .i64 v1 fun x1 => 
 .onS x0 fun a2 =>
 .ld a2.block (a2.off + 21) fun v3 =>
 .kPtr v3 fun p4 =>
 .call 171 [.pointer p4, .int .i64 x1] fun r5 =>
 .kTup r5 fun vs6 =>
 .nthA vs6 0 fun v7 =>
 .kInt .i64 v7 fun n8 =>
 .kTup r5 fun vs9 =>
 .nthA vs9 1 fun v10 =>
 .kInt .i64 v10 fun n11 =>
 .onS x0 fun a12 =>
 .ld a12.block (a12.off + 20) fun v13 =>
 .kBool v13 fun b14 =>
 .call 96 [.bool b14] fun r15 =>
 .kInt .i64 r15 fun n16 =>
 .call 95 [.int .i64 x1, .int .i64 n16] fun r17 =>
 .kInt .i64 r17 fun n18 =>
 .onS x0 fun a19 =>
 .ld a19.block (a19.off + 34) fun v20 =>
 .kBool v20 fun b21 =>
 .bool b21 (
 .onS x0 fun a22 =>
 .ld a22.block ((a22.off + 34) + 1) fun v23 =>
 .kInt .i64 v23 fun n24 =>
 .call 146 [.int .i64 n18, .int .i64 n24] fun r25 =>
 .kBool r25 fun b26 =>
 .bool (!b26) (
 .onS x0 fun a27 =>
 .ld a27.block (a27.off + 32) fun v28 =>
 .kPtr v28 fun p29 =>
 .onS x0 fun a30 =>
 .ld a30.block (a30.off + 14) fun v31 =>
 .kInt .i64 v31 fun n32 =>
 .onS x0 fun a33 =>
 .ld a33.block ((a33.off + 34) + 2) fun v34 =>
 .kInt .i64 v34 fun n35 =>
 .wr .i64 (n32 - n35) fun n36 =>
 .fxI (mni n36 (1048576 : Int)) fun n37 =>
 .call 172 [.pointer p29, .int .i64 n37] fun r38 =>
 .kInt .i64 r38 fun n39 =>
 .onS x0 fun a40 =>
 .st 1 (⟨a40.block, a40.off + 34, none⟩ : Addr) (.bool false) (
 .jmp 11 [.pointer x0, .int .i64 n18, .int .i64 n8])) (
 .jmp 11 [.pointer x0, .int .i64 n18, .int .i64 n8])) (
 .jmp 11 [.pointer x0, .int .i64 n18, .int .i64 n8])
 | _ => .fail
noncomputable def X144_11 : List Value → M := fun args => match args with
 | [v0, v1, v2] => .kPtr v0 fun x0 => .kInt .i64 v1 fun x1 => .kInt .i64 v2 fun x2 => 
 .onS x0 fun a3 =>
 .onS x0 fun a4 =>
 .st 1 (⟨a3.block, a3.off + 15, none⟩ : Addr) (.int .i64 (0 : Int)) (
 .inb (0 : Int) 3 (
 .st 1 ((⟨a4.block, a4.off + 37, none⟩ : Addr).add ((0 : Int).toNat * 1)) (.int .i64 (-1 : Int)) (
 .call 134 [.pointer x0] fun r7 =>
 .kBool r7 fun b8 =>
 .bool b8 (
 .onS x0 fun a9 =>
 .ld a9.block (a9.off + 32) fun v10 =>
 .kPtr v10 fun p11 =>
 .call 143 [.pointer p11] fun r12 =>
 .kInt .i64 r12 fun n13 =>
 .call 92 [.pointer x0, .int .i64 (0 : Int), .int .i64 n13] fun r14 =>
 .jmp 14 [.pointer x0, .int .i64 x1, .int .i64 x2]) (
 .jmp 14 [.pointer x0, .int .i64 x1, .int .i64 x2]))))
 | _ => .fail
noncomputable def X144_14 : List Value → M := fun args => match args with
 | [v0, v1, v2] => .kPtr v0 fun x0 => .kInt .i64 v1 fun x1 => .kInt .i64 v2 fun x2 => 
 .onS x0 fun a3 =>
 .ld a3.block (a3.off + 33) fun v4 =>
 .kPtr v4 fun p5 =>
 .call 173 [.pointer p5, .int .i64 x2, .int .i64 x1] fun r6 =>
 .kBool r6 fun b7 =>
 .ret (.bool b7)
 | _ => .fail
noncomputable def cuts144 : Cuts := [(14, [0, 1, 9]), (11, [0, 1, 9]), (6, [0, 1])]
noncomputable def L144 : Places := [(6, X144_6, todoOf Tryz.f144 6), (11, X144_11, todoOf Tryz.f144 11), (14, X144_14, todoOf Tryz.f144 14)]
noncomputable def k144 : FCode := .of X144 L144 cuts144
theorem o144_6 : OOk Tryz.prog Tryz.f144 cuts144 L144 (6, X144_6, todoOf Tryz.f144 6) := by
  intro vs Γ m H r h; replace h : (X144_6 vs).run _ _ _ _ = _ := h; unfold X144_6 at h; split at h
  · replace h := M.iPtr h; obtain ⟨_, rfl, h⟩ := h; replace h := M.iInt h; obtain ⟨_, rfl, h⟩ := h; exact Eq.trans (by kernel_rfl) h
  · exact M.iFail h
theorem o144_11 : OOk Tryz.prog Tryz.f144 cuts144 L144 (11, X144_11, todoOf Tryz.f144 11) := by
  intro vs Γ m H r h; replace h : (X144_11 vs).run _ _ _ _ = _ := h; unfold X144_11 at h; split at h
  · replace h := M.iPtr h; obtain ⟨_, rfl, h⟩ := h; replace h := M.iInt h; obtain ⟨_, rfl, h⟩ := h; replace h := M.iInt h; obtain ⟨_, rfl, h⟩ := h; exact Eq.trans (by kernel_rfl) h
  · exact M.iFail h
theorem o144_14 : OOk Tryz.prog Tryz.f144 cuts144 L144 (14, X144_14, todoOf Tryz.f144 14) := by
  intro vs Γ m H r h; replace h : (X144_14 vs).run _ _ _ _ = _ := h; unfold X144_14 at h; split at h
  · replace h := M.iPtr h; obtain ⟨_, rfl, h⟩ := h; replace h := M.iInt h; obtain ⟨_, rfl, h⟩ := h; replace h := M.iInt h; obtain ⟨_, rfl, h⟩ := h; exact Eq.trans (by kernel_rfl) h
  · exact M.iFail h
theorem h144 : XOk Tryz.prog Tryz.f144 cuts144 L144 X144 := by
  intro Γ m args H r h; unfold X144 at h; split at h
  · replace h := M.iPtr h; obtain ⟨_, rfl, h⟩ := h; replace h := M.iInt h; obtain ⟨_, rfl, h⟩ := h; exact ⟨Eq.trans (by kernel_rfl) h, Nat.le_of_ble_eq_true (by kernel_rfl)⟩
  · exact M.iFail h
theorem K144 : CodeOk Tryz.prog 144 k144 := .of Tryz.func144 (by kernel_rfl) (by kernel_rfl) h144 (fc o144_6 (fc o144_11 (fc o144_14 fe)))
-- (*sternpost/conn.Conn).fits
noncomputable def X145 : List Value → M := fun args => match args with
 | [v0, v1] => .kPtr v0 fun x0 => .kAgg v1 fun x1 => 
 .new (.cells x1.toList 0 true) fun b2 =>
 .call 45 [.pointer x0] fun r3 =>
 .kTup r3 fun vs4 =>
 .nthA vs4 0 fun v5 =>
 .kInt .i64 v5 fun n6 =>
 .kTup r3 fun vs7 =>
 .nthA vs7 1 fun v8 =>
 .kInt .i64 v8 fun n9 =>
 .kTup r3 fun vs10 =>
 .nthA vs10 2 fun v11 =>
 .kInt .i64 v11 fun n12 =>
 .kTup r3 fun vs13 =>
 .nthA vs13 3 fun v14 =>
 .kInt .i64 v14 fun n15 =>
 .ldn b2 0 16 fun cs16 =>
 .onS x0 fun a17 =>
 .ld a17.block (a17.off + 22) fun v18 =>
 .kPtr v18 fun p19 =>
 .snap a17.block fun o20 =>
 .call 122 [.agg cs16] fun r21 =>
 .kInt .i64 r21 fun n22 =>
 .same a17.block o20 (
 .call 130 [.pointer p19] fun r23 =>
 .kInt .i64 r23 fun n24 =>
 .jmp 3 [.pointer (some (⟨b2, 0, none⟩ : Addr)), .int .i64 n12, .int .i64 n22, .int .i64 n24])
 | _ => .fail
noncomputable def X145_3 : List Value → M := fun args => match args with
 | [v0, v1, v2, v3] => .kPtr v0 fun x0 => .kInt .i64 v1 fun x1 => .kInt .i64 v2 fun x2 => .kInt .i64 v3 fun x3 => 
 .cmp .eql x2 (0 : Int) fun t4 =>
 .bool t4 (
 .cmp .eql x3 (0 : Int) fun t5 =>
 .bool t5 (
 .onS x0 fun a6 =>
 .ld a6.block (a6.off + 2) fun v7 =>
 .kInt .i64 v7 fun n8 =>
 .cmp .eql n8 x1 fun t9 =>
 .ret (.bool t9)) (
 .jmp 5 [.pointer x0, .int .i64 x1, .int .i64 x2, .int .i64 x3])) (
 .jmp 5 [.pointer x0, .int .i64 x1, .int .i64 x2, .int .i64 x3])
 | _ => .fail
noncomputable def X145_5 : List Value → M := fun args => match args with
 | [v0, v1, v2, v3] => .kPtr v0 fun x0 => .kInt .i64 v1 fun x1 => .kInt .i64 v2 fun x2 => .kInt .i64 v3 fun x3 => 
 .onS x0 fun a4 =>
 .ld a4.block (a4.off + 2) fun v5 =>
 .kInt .i64 v5 fun n6 =>
 .call 174 [.int .i64 n6, .int .i64 x1, .int .i64 x3] fun r7 =>
 .kTup r7 fun vs8 =>
 .nthA vs8 0 fun v9 =>
 .kBool v9 fun b10 =>
 .kTup r7 fun vs11 =>
 .nthA vs11 1 fun v12 =>
 .kInt .i64 v12 fun n13 =>
 .onS x0 fun a14 =>
 .ld a14.block (a14.off + 2) fun v15 =>
 .kInt .i64 v15 fun n16 =>
 .wr .i64 (x2 - (1 : Int)) fun n17 =>
 .call 95 [.int .i64 n16, .int .i64 n17] fun r18 =>
 .kInt .i64 r18 fun n19 =>
 .call 174 [.int .i64 n19, .int .i64 x1, .int .i64 x3] fun r20 =>
 .kTup r20 fun vs21 =>
 .nthA vs21 0 fun v22 =>
 .kBool v22 fun b23 =>
 .kTup r20 fun vs24 =>
 .nthA vs24 1 fun v25 =>
 .kInt .i64 v25 fun n26 =>
 .bool b10 (
 .ret (.bool true)) (
 .cmp .gtr x2 (0 : Int) fun t27 =>
 .bool t27 (
 .ret (.bool b23)) (
 .ret (.bool false)))
 | _ => .fail
noncomputable def cuts145 : Cuts := [(5, [3, 7, 9, 10]), (3, [3, 7, 9, 10])]
noncomputable def L145 : Places := [(3, X145_3, todoOf Tryz.f145 3), (5, X145_5, todoOf Tryz.f145 5)]
noncomputable def k145 : FCode := .of X145 L145 cuts145
theorem o145_3 : OOk Tryz.prog Tryz.f145 cuts145 L145 (3, X145_3, todoOf Tryz.f145 3) := by
  intro vs Γ m H r h; replace h : (X145_3 vs).run _ _ _ _ = _ := h; unfold X145_3 at h; split at h
  · replace h := M.iPtr h; obtain ⟨_, rfl, h⟩ := h; replace h := M.iInt h; obtain ⟨_, rfl, h⟩ := h; replace h := M.iInt h; obtain ⟨_, rfl, h⟩ := h; replace h := M.iInt h; obtain ⟨_, rfl, h⟩ := h; exact Eq.trans (by kernel_rfl) h
  · exact M.iFail h
theorem o145_5 : OOk Tryz.prog Tryz.f145 cuts145 L145 (5, X145_5, todoOf Tryz.f145 5) := by
  intro vs Γ m H r h; replace h : (X145_5 vs).run _ _ _ _ = _ := h; unfold X145_5 at h; split at h
  · replace h := M.iPtr h; obtain ⟨_, rfl, h⟩ := h; replace h := M.iInt h; obtain ⟨_, rfl, h⟩ := h; replace h := M.iInt h; obtain ⟨_, rfl, h⟩ := h; replace h := M.iInt h; obtain ⟨_, rfl, h⟩ := h; exact Eq.trans (by kernel_rfl) h
  · exact M.iFail h
theorem h145 : XOk Tryz.prog Tryz.f145 cuts145 L145 X145 := by
  intro Γ m args H r h; unfold X145 at h; split at h
  · replace h := M.iPtr h; obtain ⟨_, rfl, h⟩ := h; replace h := M.iAgg h; obtain ⟨_, rfl, h⟩ := h; exact ⟨Eq.trans (by kernel_rfl) h, Nat.le_of_ble_eq_true (by kernel_rfl)⟩
  · exact M.iFail h
theorem K145 : CodeOk Tryz.prog 145 k145 := .of Tryz.func145 (by kernel_rfl) (by kernel_rfl) h145 (fc o145_3 (fc o145_5 fe))
-- sternpost/conn.ahead
noncomputable def X146 : List Value → M := fun args => match args with
 | [v0, v1] => .kInt .i64 v0 fun x0 => .kInt .i64 v1 fun x1 => 
 .call 175 [.int .i64 x0, .int .i64 x1] fun r2 =>
 .kTup r2 fun vs3 =>
 .nthA vs3 0 fun v4 =>
 .kBool v4 fun b5 =>
 .kTup r2 fun vs6 =>
 .nthA vs6 1 fun v7 =>
 .kInt .i64 v7 fun n8 =>
 .ret (.bool b5)
 | _ => .fail
noncomputable def cuts146 : Cuts := []
noncomputable def L146 : Places := []
noncomputable def k146 : FCode := .of X146 L146 cuts146
theorem h146 : XOk Tryz.prog Tryz.f146 cuts146 L146 X146 := by
  intro Γ m args H r h; unfold X146 at h; split at h
  · replace h := M.iInt h; obtain ⟨_, rfl, h⟩ := h; replace h := M.iInt h; obtain ⟨_, rfl, h⟩ := h; exact ⟨Eq.trans (by kernel_rfl) h, Nat.le_of_ble_eq_true (by kernel_rfl)⟩
  · exact M.iFail h
theorem K146 : CodeOk Tryz.prog 146 k146 := .of Tryz.func146 (by kernel_rfl) (by kernel_rfl) h146 fe
-- (*sternpost/conn.Conn).news
noncomputable def X147 : List Value → M := fun args => match args with
 | [v0, v1] => .kPtr v0 fun x0 => .kAgg v1 fun x1 => 
 .new (.cells x1.toList 0 true) fun b2 =>
 .call 45 [.pointer x0] fun r3 =>
 .kTup r3 fun vs4 =>
 .nthA vs4 0 fun v5 =>
 .kInt .i64 v5 fun n6 =>
 .kTup r3 fun vs7 =>
 .nthA vs7 1 fun v8 =>
 .kInt .i64 v8 fun n9 =>
 .kTup r3 fun vs10 =>
 .nthA vs10 2 fun v11 =>
 .kInt .i64 v11 fun n12 =>
 .kTup r3 fun vs13 =>
 .nthA vs13 3 fun v14 =>
 .kInt .i64 v14 fun n15 =>
 .call 89 [.pointer x0] fun r16 =>
 .kTup r16 fun vs17 =>
 .nthA vs17 0 fun v18 =>
 .kInt .i64 v18 fun n19 =>
 .kTup r16 fun vs20 =>
 .nthA vs20 1 fun v21 =>
 .kInt .i64 v21 fun n22 =>
 .ld b2 (0 + 3) fun v23 =>
 .kInt .i64 v23 fun n24 =>
 .call 146 [.int .i64 n6, .int .i64 n24] fun r25 =>
 .kBool r25 fun b26 =>
 .bool b26 (
 .ld b2 (0 + 3) fun v27 =>
 .kInt .i64 v27 fun n28 =>
 .call 144 [.pointer x0, .int .i64 n28] fun r29 =>
 .kBool r29 fun b30 =>
 .ret (.bool b30)) (
 .ld b2 (0 + 3) fun v31 =>
 .kInt .i64 v31 fun n32 =>
 .cmp .eql n32 n6 fun t33 =>
 .bool t33 (
 .ldn b2 0 16 fun cs34 =>
 .call 122 [.agg cs34] fun r35 =>
 .kInt .i64 r35 fun n36 =>
 .cmp .eql n36 (0 : Int) fun t37 =>
 .bool t37 (
 .ld b2 (0 + 5) fun v38 =>
 .kInt .i64 v38 fun n39 =>
 .onS x0 fun a40 =>
 .ld a40.block ((a40.off + 23) + 3) fun v41 =>
 .kInt .i64 v41 fun n42 =>
 .cmp .eql n39 n42 fun t43 =>
 .bool t43 (
 .cmp .gtr n19 (0 : Int) fun t44 =>
 .bool t44 (
 .jmp 6 [.pointer x0, .int .i64 n9, .int .i64 n19]) (
 .jmp 7 [])) (
 .jmp 7 [])) (
 .jmp 7 [])) (
 .jmp 7 []))
 | _ => .fail
noncomputable def X147_6 : List Value → M := fun args => match args with
 | [v0, v1, v2] => .kPtr v0 fun x0 => .kInt .i64 v1 fun x1 => .kInt .i64 v2 fun x2 => 
 .onS x0 fun a3 =>
 .ld a3.block (a3.off + 33) fun v4 =>
 .kPtr v4 fun p5 =>
 .call 176 [.pointer p5, .int .i64 x2, .int .i64 x1] fun r6 =>
 .kBool r6 fun b7 =>
 .ret (.bool b7)
 | _ => .fail
noncomputable def X147_7 : List Value → M := fun args => match args with
 | [] => 
 .ret (.bool false)
 | _ => .fail
noncomputable def cuts147 : Cuts := [(6, [0, 6, 9]), (7, [])]
noncomputable def L147 : Places := [(6, X147_6, todoOf Tryz.f147 6), (7, X147_7, todoOf Tryz.f147 7)]
noncomputable def k147 : FCode := .of X147 L147 cuts147
theorem o147_6 : OOk Tryz.prog Tryz.f147 cuts147 L147 (6, X147_6, todoOf Tryz.f147 6) := by
  intro vs Γ m H r h; replace h : (X147_6 vs).run _ _ _ _ = _ := h; unfold X147_6 at h; split at h
  · replace h := M.iPtr h; obtain ⟨_, rfl, h⟩ := h; replace h := M.iInt h; obtain ⟨_, rfl, h⟩ := h; replace h := M.iInt h; obtain ⟨_, rfl, h⟩ := h; exact Eq.trans (by kernel_rfl) h
  · exact M.iFail h
theorem o147_7 : OOk Tryz.prog Tryz.f147 cuts147 L147 (7, X147_7, todoOf Tryz.f147 7) := by
  intro vs Γ m H r h; replace h : (X147_7 vs).run _ _ _ _ = _ := h; unfold X147_7 at h; split at h
  · exact Eq.trans (by kernel_rfl) h
  · exact M.iFail h
theorem h147 : XOk Tryz.prog Tryz.f147 cuts147 L147 X147 := by
  intro Γ m args H r h; unfold X147 at h; split at h
  · replace h := M.iPtr h; obtain ⟨_, rfl, h⟩ := h; replace h := M.iAgg h; obtain ⟨_, rfl, h⟩ := h; exact ⟨Eq.trans (by kernel_rfl) h, Nat.le_of_ble_eq_true (by kernel_rfl)⟩
  · exact M.iFail h
theorem K147 : CodeOk Tryz.prog 147 k147 := .of Tryz.func147 (by kernel_rfl) (by kernel_rfl) h147 (fc o147_6 (fc o147_7 fe))
-- (*sternpost/sendq.Queue).Apart
noncomputable def X148 : List Value → M := fun args => match args with
 | [v0, v1] => .kPtr v0 fun x0 => .kSl v1 fun a1 l2 c3 => 
 .fxI ((l2 : Nat) : Int) fun n4 =>
 .jmp 100002 [.pointer x0, .slice a1 l2 c3, .int .i64 n4, .int .i64 (0 : Int)]
 | _ => .fail
noncomputable def X148_9 : List Value → M := fun args => match args with
 | [v0, v1, v2, v3] => .kPtr v0 fun x0 => .kSl v1 fun a1 l2 c3 => .kInt .i64 v2 fun x4 => .kInt .i64 v3 fun x5 => 
 .wr .i64 (x5 + (1 : Int)) fun n6 =>
 .jmp 100002 [.pointer x0, .slice a1 l2 c3, .int .i64 x4, .int .i64 n6]
 | _ => .fail
noncomputable def X148_100002 : List Value → M := fun args => match args with
 | [v0, v1, v2, v3] => .kPtr v0 fun x0 => .kSl v1 fun a1 l2 c3 => .kInt .i64 v2 fun x4 => .kInt .i64 v3 fun x5 => 
 .cmp .lss x5 x4 fun t6 =>
 .bool t6 (
 .onS a1 fun a7 =>
 .inb x5 l2 (
 .ldn ((a7.add (x5.toNat * 2)).block) ((a7.add (x5.toNat * 2)).off) 2 fun cs8 =>
 .new (.cells [.int .i64 (0 : Int), .int .i64 (0 : Int)] 0 true) fun b9 =>
 .st 2 (⟨b9, 0, none⟩ : Addr) (.agg cs8) (
 .ld b9 0 fun v11 =>
 .kInt .i64 v11 fun n12 =>
 .call 177 [.pointer x0, .int .i64 n12] fun r13 =>
 .kTup r13 fun vs14 =>
 .nthA vs14 0 fun v15 =>
 .kInt .i64 v15 fun n16 =>
 .kTup r13 fun vs17 =>
 .nthA vs17 1 fun v18 =>
 .kBool v18 fun b19 =>
 .ld b9 (0 + 1) fun v20 =>
 .kInt .i64 v20 fun n21 =>
 .call 177 [.pointer x0, .int .i64 n21] fun r22 =>
 .kTup r22 fun vs23 =>
 .nthA vs23 0 fun v24 =>
 .kInt .i64 v24 fun n25 =>
 .kTup r22 fun vs26 =>
 .nthA vs26 1 fun v27 =>
 .kBool v27 fun b28 =>
 .ld b9 0 fun v29 =>
 .kInt .i64 v29 fun n30 =>
 .ld b9 (0 + 1) fun v31 =>
 .kInt .i64 v31 fun n32 =>
 .call 175 [.int .i64 n30, .int .i64 n32] fun r33 =>
 .kTup r33 fun vs34 =>
 .nthA vs34 0 fun v35 =>
 .kBool v35 fun b36 =>
 .kTup r33 fun vs37 =>
 .nthA vs37 1 fun v38 =>
 .kInt .i64 v38 fun n39 =>
 .bool b19 (
 .bool b28 (
 .bool b36 (
 .cmp .eql n39 (0 : Int) fun t40 =>
 .bool t40 (
 .call 178 [.pointer x0, .agg #[.int .i64 n16, .int .i64 n25]] fun r41 =>
 .jmp 9 [.pointer x0, .slice a1 l2 c3, .int .i64 x4, .int .i64 x5]) (
 .jmp 9 [.pointer x0, .slice a1 l2 c3, .int .i64 x4, .int .i64 x5])) (
 .jmp 9 [.pointer x0, .slice a1 l2 c3, .int .i64 x4, .int .i64 x5])) (
 .jmp 9 [.pointer x0, .slice a1 l2 c3, .int .i64 x4, .int .i64 x5])) (
 .jmp 9 [.pointer x0, .slice a1 l2 c3, .int .i64 x4, .int .i64 x5])))) (
 .onS x0 fun a42 =>
 .ld a42.block (a42.off + 4) fun v43 =>
 .kSl v43 fun a44 l45 c46 =>
 .fxI ((l45 : Nat) : Int) fun n47 =>
 .jmp 100012 [.int .i64 (0 : Int), .slice a44 l45 c46, .int .i64 n47, .int .i64 (0 : Int)])
 | _ => .fail
noncomputable def X148_100012 : List Value → M := fun args => match args with
 | [v0, v1, v2, v3] => .kInt .i64 v0 fun x0 => .kSl v1 fun a1 l2 c3 => .kInt .i64 v2 fun x4 => .kInt .i64 v3 fun x5 => 
 .cmp .lss x5 x4 fun t6 =>
 .bool t6 (
 .onS a1 fun a7 =>
 .inb x5 l2 (
 .ldn ((a7.add (x5.toNat * 2)).block) ((a7.add (x5.toNat * 2)).off) 2 fun cs8 =>
 .new (.cells [.int .i64 (0 : Int), .int .i64 (0 : Int)] 0 true) fun b9 =>
 .st 2 (⟨b9, 0, none⟩ : Addr) (.agg cs8) (
 .ld b9 (0 + 1) fun v11 =>
 .kInt .i64 v11 fun n12 =>
 .ld b9 0 fun v13 =>
 .kInt .i64 v13 fun n14 =>
 .wr .i64 (n12 - n14) fun n15 =>
 .wr .i64 (x0 + n15) fun n16 =>
 .wr .i64 (x5 + (1 : Int)) fun n17 =>
 .jmp 100012 [.int .i64 n16, .slice a1 l2 c3, .int .i64 x4, .int .i64 n17]))) (
 .ret (.int .i64 x0))
 | _ => .fail
noncomputable def cuts148 : Cuts := [(100002, [0, 16, 17, 18]), (100012, [13, 64, 65, 66]), (9, [0, 16, 17, 18])]
noncomputable def L148 : Places := [(9, X148_9, todoOf Tryz.f148 9), (100002, X148_100002, todoOf Tryz.f148 100002), (100012, X148_100012, todoOf Tryz.f148 100012)]
noncomputable def k148 : FCode := .of X148 L148 cuts148
theorem o148_9 : OOk Tryz.prog Tryz.f148 cuts148 L148 (9, X148_9, todoOf Tryz.f148 9) := by
  intro vs Γ m H r h; replace h : (X148_9 vs).run _ _ _ _ = _ := h; unfold X148_9 at h; split at h
  · replace h := M.iPtr h; obtain ⟨_, rfl, h⟩ := h; replace h := M.iSl h; obtain ⟨_, _, _, rfl, h⟩ := h; replace h := M.iInt h; obtain ⟨_, rfl, h⟩ := h; replace h := M.iInt h; obtain ⟨_, rfl, h⟩ := h; exact Eq.trans (by kernel_rfl) h
  · exact M.iFail h
theorem o148_100002 : OOk Tryz.prog Tryz.f148 cuts148 L148 (100002, X148_100002, todoOf Tryz.f148 100002) := by
  intro vs Γ m H r h; replace h : (X148_100002 vs).run _ _ _ _ = _ := h; unfold X148_100002 at h; split at h
  · replace h := M.iPtr h; obtain ⟨_, rfl, h⟩ := h; replace h := M.iSl h; obtain ⟨_, _, _, rfl, h⟩ := h; replace h := M.iInt h; obtain ⟨_, rfl, h⟩ := h; replace h := M.iInt h; obtain ⟨_, rfl, h⟩ := h; exact Eq.trans (by kernel_rfl) h
  · exact M.iFail h
theorem o148_100012 : OOk Tryz.prog Tryz.f148 cuts148 L148 (100012, X148_100012, todoOf Tryz.f148 100012) := by
  intro vs Γ m H r h; replace h : (X148_100012 vs).run _ _ _ _ = _ := h; unfold X148_100012 at h; split at h
  · replace h := M.iInt h; obtain ⟨_, rfl, h⟩ := h; replace h := M.iSl h; obtain ⟨_, _, _, rfl, h⟩ := h; replace h := M.iInt h; obtain ⟨_, rfl, h⟩ := h; replace h := M.iInt h; obtain ⟨_, rfl, h⟩ := h; exact Eq.trans (by kernel_rfl) h
  · exact M.iFail h
theorem h148 : XOk Tryz.prog Tryz.f148 cuts148 L148 X148 := by
  intro Γ m args H r h; unfold X148 at h; split at h
  · replace h := M.iPtr h; obtain ⟨_, rfl, h⟩ := h; replace h := M.iSl h; obtain ⟨_, _, _, rfl, h⟩ := h; exact ⟨Eq.trans (by kernel_rfl) h, Nat.le_of_ble_eq_true (by kernel_rfl)⟩
  · exact M.iFail h
theorem K148 : CodeOk Tryz.prog 148 k148 := .of Tryz.func148 (by kernel_rfl) (by kernel_rfl) h148 (fc o148_9 (fc o148_100002 (fc o148_100012 fe)))
-- (*sternpost/conn.Conn).finDone
noncomputable def X149 : List Value → M := fun args => match args with
 | [v0] => .kPtr v0 fun x0 => 
 .onS x0 fun a1 =>
 .ld a1.block (a1.off + 12) fun v2 =>
 .kInt .i64 v2 fun n3 =>
 .cmp .eql n3 (5 : Int) fun t4 =>
 .bool t4 (
 .onS x0 fun a5 =>
 .st 1 (⟨a5.block, a5.off + 12, none⟩ : Addr) (.int .i64 (6 : Int)) (
 .ret (.tuple #[]))) (
 .cmp .eql n3 (8 : Int) fun t7 =>
 .bool t7 (
 .call 179 [.pointer x0] fun r8 =>
 .ret (.tuple #[])) (
 .cmp .eql n3 (9 : Int) fun t9 =>
 .bool t9 (
 .call 86 [.pointer x0, .int .i64 (0 : Int)] fun r10 =>
 .ret (.tuple #[])) (
 .ret (.tuple #[]))))
 | _ => .fail
noncomputable def cuts149 : Cuts := []
noncomputable def L149 : Places := []
noncomputable def k149 : FCode := .of X149 L149 cuts149
theorem h149 : XOk Tryz.prog Tryz.f149 cuts149 L149 X149 := by
  intro Γ m args H r h; unfold X149 at h; split at h
  · replace h := M.iPtr h; obtain ⟨_, rfl, h⟩ := h; exact ⟨Eq.trans (by kernel_rfl) h, Nat.le_of_ble_eq_true (by kernel_rfl)⟩
  · exact M.iFail h
theorem K149 : CodeOk Tryz.prog 149 k149 := .of Tryz.func149 (by kernel_rfl) (by kernel_rfl) h149 fe
-- (*sternpost/recvq.Queue).Put
noncomputable def X150 : List Value → M := fun args => match args with
 | [v0, v1, v2] => .kPtr v0 fun x0 => .kInt .i64 v1 fun x1 => .kStr v2 fun x2 => 
 .call 62 [.int .i64 x1] fun r3 =>
 .kInt .i64 r3 fun n4 =>
 .cmp .neq n4 (0 : Int) fun t5 =>
 .bool t5 (
 .jmp 2 []) (
 .cmp .gtr (x2.size : Int) (65536 : Int) fun t6 =>
 .bool t6 (
 .jmp 2 []) (
 .onS x0 fun a7 =>
 .ld a7.block a7.off fun v8 =>
 .kInt .i64 v8 fun n9 =>
 .snap a7.block fun o10 =>
 .call 130 [.pointer x0] fun r11 =>
 .kInt .i64 r11 fun n12 =>
 .same a7.block o10 (
 .fxI (x2.size : Int) fun n13 =>
 .call 180 [.int .i64 x1, .int .i64 n13, .int .i64 n9, .int .i64 n12] fun r14 =>
 .kTup r14 fun vs15 =>
 .nthA vs15 0 fun v16 =>
 .kInt .i64 v16 fun n17 =>
 .kTup r14 fun vs18 =>
 .nthA vs18 1 fun v19 =>
 .kInt .i64 v19 fun n20 =>
 .kTup r14 fun vs21 =>
 .nthA vs21 2 fun v22 =>
 .kInt .i64 v22 fun n23 =>
 .cmp .neq n23 (0 : Int) fun t24 =>
 .bool t24 (
 .ret (.tuple #[.int .i64 (0 : Int), .int .i64 n23])) (
 .jmp 100007 [.pointer x0, .int .i64 x1, .string x2, .int .i64 n17, .int .i64 n20, .int .i64 (0 : Int)]))))
 | _ => .fail
noncomputable def X150_2 : List Value → M := fun args => match args with
 | [] => 
 .ret (.tuple #[.int .i64 (0 : Int), .int .i64 (1 : Int)])
 | _ => .fail
noncomputable def X150_13 : List Value → M := fun args => match args with
 | [v0, v1, v2, v3, v4, v5] => .kPtr v0 fun x0 => .kInt .i64 v1 fun x1 => .kStr v2 fun x2 => .kInt .i64 v3 fun x3 => .kInt .i64 v4 fun x4 => .kInt .i64 v5 fun x5 => 
 .wr .i64 (x5 + (1 : Int)) fun n6 =>
 .jmp 100007 [.pointer x0, .int .i64 x1, .string x2, .int .i64 x3, .int .i64 x4, .int .i64 n6]
 | _ => .fail
noncomputable def X150_16 : List Value → M := fun args => match args with
 | [v0, v1, v2, v3] => .kPtr v0 fun x0 => .kSl v1 fun a1 l2 c3 => .kInt .u8 v2 fun x4 => .kBool v3 fun x5 => 
 .bool (!x5) (
 .onS x0 fun a6 =>
 .ld a6.block (a6.off + 2) fun v7 =>
 .kStr v7 fun s8 =>
 .opt a1 (
 .opt (a1.map (·.block) : Option Nat) (
 .cat s8 .empty fun s13 =>
 .onS x0 fun a14 =>
 .st 1 (⟨a14.block, a14.off + 2, none⟩ : Addr) (.string s13) (
 .jmp 21 [.slice a1 l2 c3])) (fun blk9 =>
 .cat s8 .empty fun s10 =>
 .onS x0 fun a11 =>
 .st 1 (⟨a11.block, a11.off + 2, none⟩ : Addr) (.string s10) (
 .jmp 21 [.slice a1 l2 c3]))) (fun a16 =>
 .ldc a16.block fun cs17 =>
 .ite (a16.off + l2 ≤ cs17.length) (
 .onS (bytesOf (range cs17 a16.off l2)) fun l18 =>
 .opt (a1.map (·.block) : Option Nat) (
 .cat s8 (⟨l18.toArray⟩ : ByteArray) fun s23 =>
 .onS x0 fun a24 =>
 .st 1 (⟨a24.block, a24.off + 2, none⟩ : Addr) (.string s23) (
 .jmp 21 [.slice a1 l2 c3])) (fun blk19 =>
 .cat s8 (⟨l18.toArray⟩ : ByteArray) fun s20 =>
 .onS x0 fun a21 =>
 .st 1 (⟨a21.block, a21.off + 2, none⟩ : Addr) (.string s20) (
 .jmp 21 [.slice a1 l2 c3]))))) (
 .onS x0 fun a26 =>
 .ld a26.block (a26.off + 3) fun v27 =>
 .kMp v27 fun r28 =>
 .onS x0 fun a29 =>
 .ld a29.block a29.off fun v30 =>
 .kInt .i64 v30 fun n31 =>
 .dele r28 (.int .i64 n31) (
 .new (.cells [.int .u8 x4] 1 true) fun b32 =>
 .firstC 1 (.slice (some ⟨b32, 0, none⟩) 1 1) fun n33 nw34 =>
 .app 5 (.slice a1 l2 c3) n33 nw34 fun v35 =>
 .kSl v35 fun a37 l38 c39 =>
 .onS x0 fun a40 =>
 .ld a40.block a40.off fun v41 =>
 .kInt .i64 v41 fun n42 =>
 .call 121 [.int .i64 n42, .int .i64 (1 : Int)] fun r43 =>
 .kTup r43 fun vs44 =>
 .nthA vs44 0 fun v45 =>
 .kInt .i64 v45 fun n46 =>
 .kTup r43 fun vs47 =>
 .nthA vs47 1 fun v48 =>
 .kInt .i64 v48 fun n49 =>
 .onS x0 fun a50 =>
 .st 1 a50 (.int .i64 n46) (
 .jmp 100015 [.pointer x0, .slice a37 l38 c39])))
 | _ => .fail
noncomputable def X150_21 : List Value → M := fun args => match args with
 | [v0] => .kSl v0 fun a0 l1 c2 => 
 .fxI ((l1 : Nat) : Int) fun n3 =>
 .ret (.tuple #[.int .i64 n3, .int .i64 (0 : Int)])
 | _ => .fail
noncomputable def X150_100007 : List Value → M := fun args => match args with
 | [v0, v1, v2, v3, v4, v5] => .kPtr v0 fun x0 => .kInt .i64 v1 fun x1 => .kStr v2 fun x2 => .kInt .i64 v3 fun x3 => .kInt .i64 v4 fun x4 => .kInt .i64 v5 fun x5 => 
 .cmp .lss x5 x4 fun t6 =>
 .bool t6 (
 .wr .i64 (x3 + x5) fun n7 =>
 .call 121 [.int .i64 x1, .int .i64 n7] fun r8 =>
 .kTup r8 fun vs9 =>
 .nthA vs9 0 fun v10 =>
 .kInt .i64 v10 fun n11 =>
 .kTup r8 fun vs12 =>
 .nthA vs12 1 fun v13 =>
 .kInt .i64 v13 fun n14 =>
 .onS x0 fun a15 =>
 .ld a15.block (a15.off + 3) fun v16 =>
 .kMp v16 fun r17 =>
 .lookupK 243 (.map r17) (.int .i64 n11) true fun v18 =>
 .kTup v18 fun vs19 =>
 .nthA vs19 0 fun v20 =>
 .kInt .u8 v20 fun n21 =>
 .kTup v18 fun vs22 =>
 .nthA vs22 1 fun v23 =>
 .kBool v23 fun b24 =>
 .bool (!b24) (
 .onS x0 fun a25 =>
 .ld a25.block (a25.off + 3) fun v26 =>
 .kMp v26 fun r27 =>
 .wr .i64 (x3 + x5) fun n28 =>
 .inb n28 x2.size (
 .byte x2 n28.toNat fun n29 =>
 .onS r27 fun q30 =>
 .mupd q30 (.int .i64 n11) (.int .u8 n29) (
 .jmp 13 [.pointer x0, .int .i64 x1, .string x2, .int .i64 x3, .int .i64 x4, .int .i64 x5]))) (
 .jmp 13 [.pointer x0, .int .i64 x1, .string x2, .int .i64 x3, .int .i64 x4, .int .i64 x5])) (
 .jmp 100015 [.pointer x0, .slice none 0 0])
 | _ => .fail
noncomputable def X150_100015 : List Value → M := fun args => match args with
 | [v0, v1] => .kPtr v0 fun x0 => .kSl v1 fun a1 l2 c3 => 
 .onS x0 fun a4 =>
 .ld a4.block (a4.off + 3) fun v5 =>
 .kMp v5 fun r6 =>
 .onS x0 fun a7 =>
 .ld a7.block a7.off fun v8 =>
 .kInt .i64 v8 fun n9 =>
 .lookupK 243 (.map r6) (.int .i64 n9) true fun v10 =>
 .opt (r6 : Option Nat) (
 .kTup v10 fun vs18 =>
 .nthA vs18 0 fun v19 =>
 .kInt .u8 v19 fun n20 =>
 .kTup v10 fun vs21 =>
 .nthA vs21 1 fun v22 =>
 .kBool v22 fun b23 =>
 .jmp 16 [.pointer x0, .slice a1 l2 c3, .int .u8 n20, .bool b23]) (fun blk11 =>
 .kTup v10 fun vs12 =>
 .nthA vs12 0 fun v13 =>
 .kInt .u8 v13 fun n14 =>
 .kTup v10 fun vs15 =>
 .nthA vs15 1 fun v16 =>
 .kBool v16 fun b17 =>
 .jmp 16 [.pointer x0, .slice a1 l2 c3, .int .u8 n14, .bool b17])
 | _ => .fail
noncomputable def cuts150 : Cuts := [(100007, [0, 1, 2, 8, 44, 45]), (100015, [0, 16]), (13, [0, 1, 2, 8, 44, 45]), (21, [16]), (16, [0, 16, 17, 18]), (2, [])]
noncomputable def L150 : Places := [(2, X150_2, todoOf Tryz.f150 2), (13, X150_13, todoOf Tryz.f150 13), (16, X150_16, todoOf Tryz.f150 16), (21, X150_21, todoOf Tryz.f150 21), (100007, X150_100007, todoOf Tryz.f150 100007), (100015, X150_100015, todoOf Tryz.f150 100015)]
noncomputable def k150 : FCode := .of X150 L150 cuts150
theorem o150_2 : OOk Tryz.prog Tryz.f150 cuts150 L150 (2, X150_2, todoOf Tryz.f150 2) := by
  intro vs Γ m H r h; replace h : (X150_2 vs).run _ _ _ _ = _ := h; unfold X150_2 at h; split at h
  · exact Eq.trans (by kernel_rfl) h
  · exact M.iFail h
theorem o150_13 : OOk Tryz.prog Tryz.f150 cuts150 L150 (13, X150_13, todoOf Tryz.f150 13) := by
  intro vs Γ m H r h; replace h : (X150_13 vs).run _ _ _ _ = _ := h; unfold X150_13 at h; split at h
  · replace h := M.iPtr h; obtain ⟨_, rfl, h⟩ := h; replace h := M.iInt h; obtain ⟨_, rfl, h⟩ := h; replace h := M.iStr h; obtain ⟨_, rfl, h⟩ := h; replace h := M.iInt h; obtain ⟨_, rfl, h⟩ := h; replace h := M.iInt h; obtain ⟨_, rfl, h⟩ := h; replace h := M.iInt h; obtain ⟨_, rfl, h⟩ := h; exact Eq.trans (by kernel_rfl) h
  · exact M.iFail h
theorem o150_16 : OOk Tryz.prog Tryz.f150 cuts150 L150 (16, X150_16, todoOf Tryz.f150 16) := by
  intro vs Γ m H r h; replace h : (X150_16 vs).run _ _ _ _ = _ := h; unfold X150_16 at h; split at h
  · replace h := M.iPtr h; obtain ⟨_, rfl, h⟩ := h; replace h := M.iSl h; obtain ⟨_, _, _, rfl, h⟩ := h; replace h := M.iInt h; obtain ⟨_, rfl, h⟩ := h; replace h := M.iBool h; obtain ⟨_, rfl, h⟩ := h; exact Eq.trans (by kernel_rfl) h
  · exact M.iFail h
theorem o150_21 : OOk Tryz.prog Tryz.f150 cuts150 L150 (21, X150_21, todoOf Tryz.f150 21) := by
  intro vs Γ m H r h; replace h : (X150_21 vs).run _ _ _ _ = _ := h; unfold X150_21 at h; split at h
  · replace h := M.iSl h; obtain ⟨_, _, _, rfl, h⟩ := h; exact Eq.trans (by kernel_rfl) h
  · exact M.iFail h
theorem o150_100007 : OOk Tryz.prog Tryz.f150 cuts150 L150 (100007, X150_100007, todoOf Tryz.f150 100007) := by
  intro vs Γ m H r h; replace h : (X150_100007 vs).run _ _ _ _ = _ := h; unfold X150_100007 at h; split at h
  · replace h := M.iPtr h; obtain ⟨_, rfl, h⟩ := h; replace h := M.iInt h; obtain ⟨_, rfl, h⟩ := h; replace h := M.iStr h; obtain ⟨_, rfl, h⟩ := h; replace h := M.iInt h; obtain ⟨_, rfl, h⟩ := h; replace h := M.iInt h; obtain ⟨_, rfl, h⟩ := h; replace h := M.iInt h; obtain ⟨_, rfl, h⟩ := h; exact Eq.trans (by kernel_rfl) h
  · exact M.iFail h
theorem o150_100015 : OOk Tryz.prog Tryz.f150 cuts150 L150 (100015, X150_100015, todoOf Tryz.f150 100015) := by
  intro vs Γ m H r h; replace h : (X150_100015 vs).run _ _ _ _ = _ := h; unfold X150_100015 at h; split at h
  · replace h := M.iPtr h; obtain ⟨_, rfl, h⟩ := h; replace h := M.iSl h; obtain ⟨_, _, _, rfl, h⟩ := h; exact Eq.trans (by kernel_rfl) h
  · exact M.iFail h
theorem h150 : XOk Tryz.prog Tryz.f150 cuts150 L150 X150 := by
  intro Γ m args H r h; unfold X150 at h; split at h
  · replace h := M.iPtr h; obtain ⟨_, rfl, h⟩ := h; replace h := M.iInt h; obtain ⟨_, rfl, h⟩ := h; replace h := M.iStr h; obtain ⟨_, rfl, h⟩ := h; exact ⟨Eq.trans (by kernel_rfl) h, Nat.le_of_ble_eq_true (by kernel_rfl)⟩
  · exact M.iFail h
theorem K150 : CodeOk Tryz.prog 150 k150 := .of Tryz.func150 (by kernel_rfl) (by kernel_rfl) h150 (fc o150_2 (fc o150_13 (fc o150_16 (fc o150_21 (fc o150_100007 (fc o150_100015 fe))))))
-- (*sternpost/conn.Conn).fin
noncomputable def X151 : List Value → M := fun args => match args with
 | [v0, v1] => .kPtr v0 fun x0 => .kAgg v1 fun x1 => 
 .new (.cells x1.toList 0 true) fun b2 =>
 .ldn b2 0 16 fun cs3 =>
 .call 83 [.agg cs3, .int .i64 (1 : Int)] fun r4 =>
 .kBool r4 fun b5 =>
 .bool b5 (
 .onS x0 fun a6 =>
 .ld a6.block ((a6.off + 23) + 6) fun v7 =>
 .kBool v7 fun b8 =>
 .bool (!b8) (
 .ld b2 (0 + 2) fun v9 =>
 .kInt .i64 v9 fun n10 =>
 .ld b2 (0 + 15) fun v11 =>
 .kStr v11 fun s12 =>
 .fxI (s12.size : Int) fun n13 =>
 .call 95 [.int .i64 n10, .int .i64 n13] fun r14 =>
 .kInt .i64 r14 fun n15 =>
 .onS x0 fun a16 =>
 .st 1 (⟨a16.block, (a16.off + 23) + 6, none⟩ : Addr) (.bool true) (
 .onS x0 fun a18 =>
 .st 1 (⟨a18.block, (a18.off + 23) + 8, none⟩ : Addr) (.int .i64 n15) (
 .jmp 3 [.pointer x0]))) (
 .jmp 3 [.pointer x0])) (
 .jmp 3 [.pointer x0])
 | _ => .fail
noncomputable def X151_3 : List Value → M := fun args => match args with
 | [v0] => .kPtr v0 fun x0 => 
 .onS x0 fun a1 =>
 .ld a1.block ((a1.off + 23) + 6) fun v2 =>
 .kBool v2 fun b3 =>
 .bool (!b3) (
 .jmp 4 []) (
 .onS x0 fun a4 =>
 .ld a4.block ((a4.off + 23) + 7) fun v5 =>
 .kBool v5 fun b6 =>
 .bool b6 (
 .jmp 4 []) (
 .onS x0 fun a7 =>
 .ld a7.block (a7.off + 22) fun v8 =>
 .kPtr v8 fun p9 =>
 .onS x0 fun a10 =>
 .ld a10.block ((a10.off + 23) + 8) fun v11 =>
 .kInt .i64 v11 fun n12 =>
 .snap a10.block fun o13 =>
 .call 97 [.pointer p9] fun r14 =>
 .kInt .i64 r14 fun n15 =>
 .same a10.block o13 (
 .cmp .neq n15 n12 fun t16 =>
 .bool t16 (
 .jmp 4 []) (
 .onS x0 fun a17 =>
 .st 1 (⟨a17.block, (a17.off + 23) + 7, none⟩ : Addr) (.bool true) (
 .onS x0 fun a19 =>
 .ld a19.block (a19.off + 12) fun v20 =>
 .kInt .i64 v20 fun n21 =>
 .cmp .eql n21 (4 : Int) fun t22 =>
 .bool t22 (
 .onS x0 fun a23 =>
 .st 1 (⟨a23.block, a23.off + 12, none⟩ : Addr) (.int .i64 (7 : Int)) (
 .jmp 12 [])) (
 .cmp .eql n21 (5 : Int) fun t25 =>
 .bool t25 (
 .onS x0 fun a26 =>
 .st 1 (⟨a26.block, a26.off + 12, none⟩ : Addr) (.int .i64 (8 : Int)) (
 .jmp 12 [])) (
 .call 179 [.pointer x0] fun r28 =>
 .jmp 12 [])))))))
 | _ => .fail
noncomputable def X151_4 : List Value → M := fun args => match args with
 | [] => 
 .ret (.bool false)
 | _ => .fail
noncomputable def X151_12 : List Value → M := fun args => match args with
 | [] => 
 .ret (.bool true)
 | _ => .fail
noncomputable def cuts151 : Cuts := [(12, []), (3, [0]), (4, [])]
noncomputable def L151 : Places := [(3, X151_3, todoOf Tryz.f151 3), (4, X151_4, todoOf Tryz.f151 4), (12, X151_12, todoOf Tryz.f151 12)]
noncomputable def k151 : FCode := .of X151 L151 cuts151
theorem o151_3 : OOk Tryz.prog Tryz.f151 cuts151 L151 (3, X151_3, todoOf Tryz.f151 3) := by
  intro vs Γ m H r h; replace h : (X151_3 vs).run _ _ _ _ = _ := h; unfold X151_3 at h; split at h
  · replace h := M.iPtr h; obtain ⟨_, rfl, h⟩ := h; exact Eq.trans (by kernel_rfl) h
  · exact M.iFail h
theorem o151_4 : OOk Tryz.prog Tryz.f151 cuts151 L151 (4, X151_4, todoOf Tryz.f151 4) := by
  intro vs Γ m H r h; replace h : (X151_4 vs).run _ _ _ _ = _ := h; unfold X151_4 at h; split at h
  · exact Eq.trans (by kernel_rfl) h
  · exact M.iFail h
theorem o151_12 : OOk Tryz.prog Tryz.f151 cuts151 L151 (12, X151_12, todoOf Tryz.f151 12) := by
  intro vs Γ m H r h; replace h : (X151_12 vs).run _ _ _ _ = _ := h; unfold X151_12 at h; split at h
  · exact Eq.trans (by kernel_rfl) h
  · exact M.iFail h
theorem h151 : XOk Tryz.prog Tryz.f151 cuts151 L151 X151 := by
  intro Γ m args H r h; unfold X151 at h; split at h
  · replace h := M.iPtr h; obtain ⟨_, rfl, h⟩ := h; replace h := M.iAgg h; obtain ⟨_, rfl, h⟩ := h; exact ⟨Eq.trans (by kernel_rfl) h, Nat.le_of_ble_eq_true (by kernel_rfl)⟩
  · exact M.iFail h
theorem K151 : CodeOk Tryz.prog 151 k151 := .of Tryz.func151 (by kernel_rfl) (by kernel_rfl) h151 (fc o151_3 (fc o151_4 (fc o151_12 fe)))
-- (*sternpost/sock.Box).turn
noncomputable def X154 : List Value → M := fun args => match args with
 | [v0, v1] => .kPtr v0 fun x0 => .kPtr v1 fun x1 => 
 .onS x1 fun a2 =>
 .ld a2.block (a2.off + 1) fun v3 =>
 .kInt .i64 v3 fun n4 =>
 .cmp .eql n4 (1 : Int) fun t5 =>
 .bool t5 (
 .call 181 [.pointer x0, .pointer x1] fun r6 =>
 .kPtr r6 fun p7 =>
 .ret (.pointer p7)) (
 .cmp .eql n4 (3 : Int) fun t8 =>
 .bool t8 (
 .call 182 [.pointer x0, .pointer x1] fun r9 =>
 .kPtr r9 fun p10 =>
 .ret (.pointer p10)) (
 .onS x0 fun a11 =>
 .ld a11.block (a11.off + 1) fun v12 =>
 .kMp v12 fun r13 =>
 .onS x1 fun a14 =>
 .ld a14.block (a14.off + 2) fun v15 =>
 .kInt .i64 v15 fun n16 =>
 .lookupK 133 (.map r13) (.int .i64 n16) false fun v17 =>
 .opt (r13 : Option Nat) (
 .jmp 7 [.pointer x0, .pointer x1, v17]) (fun blk18 =>
 .jmp 7 [.pointer x0, .pointer x1, v17])))
 | _ => .fail
noncomputable def X154_7 : List Value → M := fun args => match args with
 | [v0, v1, x2] => .kPtr v0 fun x0 => .kPtr v1 fun x1 => 
 .tyAs 279 true x2 fun v3 =>
 .kTup v3 fun vs4 =>
 .nthA vs4 1 fun v5 =>
 .kBool v5 fun b6 =>
 .kTup v3 fun vs7 =>
 .nthA vs7 0 fun v8 =>
 .kPtr v8 fun p9 =>
 .bool b6 (
 .call 183 [.pointer x0, .pointer x1, .pointer p9] fun r10 =>
 .kPtr r10 fun p11 =>
 .ret (.pointer p11)) (
 .tyAs 138 true x2 fun v12 =>
 .kTup v12 fun vs13 =>
 .nthA vs13 1 fun v14 =>
 .kBool v14 fun b15 =>
 .kTup v12 fun vs16 =>
 .nthA vs16 0 fun v17 =>
 .kPtr v17 fun p18 =>
 .bool b15 (
 .call 184 [.pointer x0, .pointer x1, .pointer p18] fun r19 =>
 .kPtr r19 fun p20 =>
 .ret (.pointer p20)) (
 .call 58 [.pointer x1, .int .i64 (5 : Int)] fun r21 =>
 .kPtr r21 fun p22 =>
 .ret (.pointer p22)))
 | _ => .fail
noncomputable def cuts154 : Cuts := [(7, [0, 1, 31])]
noncomputable def L154 : Places := [(7, X154_7, todoOf Tryz.f154 7)]
noncomputable def k154 : FCode := .of X154 L154 cuts154
theorem o154_7 : OOk Tryz.prog Tryz.f154 cuts154 L154 (7, X154_7, todoOf Tryz.f154 7) := by
  intro vs Γ m H r h; replace h : (X154_7 vs).run _ _ _ _ = _ := h; unfold X154_7 at h; split at h
  · replace h := M.iPtr h; obtain ⟨_, rfl, h⟩ := h; replace h := M.iPtr h; obtain ⟨_, rfl, h⟩ := h; exact Eq.trans (by kernel_rfl) h
  · exact M.iFail h
theorem h154 : XOk Tryz.prog Tryz.f154 cuts154 L154 X154 := by
  intro Γ m args H r h; unfold X154 at h; split at h
  · replace h := M.iPtr h; obtain ⟨_, rfl, h⟩ := h; replace h := M.iPtr h; obtain ⟨_, rfl, h⟩ := h; exact ⟨Eq.trans (by kernel_rfl) h, Nat.le_of_ble_eq_true (by kernel_rfl)⟩
  · exact M.iFail h
theorem K154 : CodeOk Tryz.prog 154 k154 := .of Tryz.func154 (by kernel_rfl) (by kernel_rfl) h154 (fc o154_7 fe)
-- slices.Delete[[]*sternpost/sock.wait,*sternpost/sock.wait]
noncomputable def X155 : List Value → M := fun args => match args with
 | [v0, v1, v2] => .kSl v0 fun a0 l1 c2 => .kInt .i64 v1 fun x3 => .kInt .i64 v2 fun x4 => 
 .slSl3 1 a0 l1 c2 x3 x4 ((l1 : Nat) : Int) fun v5 =>
 .kSl v5 fun a6 l7 c8 =>
 .cmp .eql x3 x4 fun t9 =>
 .bool t9 (
 .ret (.slice a0 l1 c2)) (
 .slSl 1 a0 l1 c2 (0 : Int) x3 fun v10 =>
 .kSl v10 fun a11 l12 c13 =>
 .opt (a0.map (·.block) : Option Nat) (
 .slSl 1 a0 l1 c2 x4 (l1 : Int) fun v36 =>
 .kSl v36 fun a37 l38 c39 =>
 .opt (a0.map (·.block) : Option Nat) (
 .firstC 1 (.slice a37 l38 c39) fun n49 nw50 =>
 .app 137 (.slice a11 l12 c13) n49 nw50 fun v51 =>
 .kSl v51 fun a53 l54 c55 =>
 .fxI ((l1 : Nat) : Int) fun n56 =>
 .jmp 6 [.slice a53 l54 c55, .int .i64 n56]) (fun blk40 =>
 .firstC 1 (.slice a37 l38 c39) fun n41 nw42 =>
 .app 137 (.slice a11 l12 c13) n41 nw42 fun v43 =>
 .kSl v43 fun a45 l46 c47 =>
 .fxI ((l1 : Nat) : Int) fun n48 =>
 .jmp 6 [.slice a45 l46 c47, .int .i64 n48])) (fun blk14 =>
 .slSl 1 a0 l1 c2 x4 (l1 : Int) fun v15 =>
 .kSl v15 fun a16 l17 c18 =>
 .opt (a0.map (·.block) : Option Nat) (
 .firstC 1 (.slice a16 l17 c18) fun n28 nw29 =>
 .app 137 (.slice a11 l12 c13) n28 nw29 fun v30 =>
 .kSl v30 fun a32 l33 c34 =>
 .fxI ((l1 : Nat) : Int) fun n35 =>
 .jmp 6 [.slice a32 l33 c34, .int .i64 n35]) (fun blk19 =>
 .firstC 1 (.slice a16 l17 c18) fun n20 nw21 =>
 .app 137 (.slice a11 l12 c13) n20 nw21 fun v22 =>
 .kSl v22 fun a24 l25 c26 =>
 .fxI ((l1 : Nat) : Int) fun n27 =>
 .jmp 6 [.slice a24 l25 c26, .int .i64 n27])))
 | _ => .fail
noncomputable def X155_6 : List Value → M := fun args => match args with
 | [v0, v1] => .kSl v0 fun a0 l1 c2 => .kInt .i64 v1 fun x3 => 
 .slSl 1 a0 l1 c2 ((l1 : Nat) : Int) x3 fun v4 =>
 .kSl v4 fun a5 l6 c7 =>
 .clr 1 (.pointer none) a5 l6 (
 .ret (.slice a0 l1 c2))
 | _ => .fail
noncomputable def cuts155 : Cuts := [(6, [0, 7])]
noncomputable def L155 : Places := [(6, X155_6, todoOf Tryz.f155 6)]
noncomputable def k155 : FCode := .of X155 L155 cuts155
theorem o155_6 : OOk Tryz.prog Tryz.f155 cuts155 L155 (6, X155_6, todoOf Tryz.f155 6) := by
  intro vs Γ m H r h; replace h : (X155_6 vs).run _ _ _ _ = _ := h; unfold X155_6 at h; split at h
  · replace h := M.iSl h; obtain ⟨_, _, _, rfl, h⟩ := h; replace h := M.iInt h; obtain ⟨_, rfl, h⟩ := h; exact Eq.trans (by kernel_rfl) h
  · exact M.iFail h
theorem h155 : XOk Tryz.prog Tryz.f155 cuts155 L155 X155 := by
  intro Γ m args H r h; unfold X155 at h; split at h
  · replace h := M.iSl h; obtain ⟨_, _, _, rfl, h⟩ := h; replace h := M.iInt h; obtain ⟨_, rfl, h⟩ := h; replace h := M.iInt h; obtain ⟨_, rfl, h⟩ := h; exact ⟨Eq.trans (by kernel_rfl) h, Nat.le_of_ble_eq_true (by kernel_rfl)⟩
  · exact M.iFail h
theorem K155 : CodeOk Tryz.prog 155 k155 := .of Tryz.func155 (by kernel_rfl) (by kernel_rfl) h155 (fc o155_6 fe)
-- slices.pdqsortOrdered[int]
noncomputable def X157 : List Value → M := fun args => match args with
 | [v0, v1, v2, v3] => .kSl v0 fun a0 l1 c2 => .kInt .i64 v1 fun x3 => .kInt .i64 v2 fun x4 => .kInt .i64 v3 fun x5 => 
 .jmp 100002 [.slice a0 l1 c2, .int .i64 x3, .int .i64 x4, .int .i64 x5, .bool true, .bool true]
 | _ => .fail
noncomputable def X157_10 : List Value → M := fun args => match args with
 | [v0, v1, v2, v3, v4, v5, v6] => .kSl v0 fun a0 l1 c2 => .kInt .i64 v1 fun x3 => .kInt .i64 v2 fun x4 => .kInt .i64 v3 fun x5 => .kBool v4 fun x6 => .kBool v5 fun x7 => .kInt .i64 v6 fun x8 => 
 .call 188 [.slice a0 l1 c2, .int .i64 x3, .int .i64 x4] fun r9 =>
 .kTup r9 fun vs10 =>
 .nthA vs10 0 fun v11 =>
 .kInt .i64 v11 fun n12 =>
 .kTup r9 fun vs13 =>
 .nthA vs13 1 fun v14 =>
 .kInt .i64 v14 fun n15 =>
 .cmp .eql n15 (2 : Int) fun t16 =>
 .bool t16 (
 .call 189 [.slice a0 l1 c2, .int .i64 x3, .int .i64 x4] fun r17 =>
 .wr .i64 (x4 - (1 : Int)) fun n18 =>
 .wr .i64 (n12 - x3) fun n19 =>
 .wr .i64 (n18 - n19) fun n20 =>
 .jmp 15 [.slice a0 l1 c2, .int .i64 x3, .int .i64 x4, .int .i64 x5, .bool x6, .bool x7, .int .i64 x8, .int .i64 n20, .int .i64 (1 : Int)]) (
 .jmp 15 [.slice a0 l1 c2, .int .i64 x3, .int .i64 x4, .int .i64 x5, .bool x6, .bool x7, .int .i64 x8, .int .i64 n12, .int .i64 n15])
 | _ => .fail
noncomputable def X157_15 : List Value → M := fun args => match args with
 | [v0, v1, v2, v3, v4, v5, v6, v7, v8] => .kSl v0 fun a0 l1 c2 => .kInt .i64 v1 fun x3 => .kInt .i64 v2 fun x4 => .kInt .i64 v3 fun x5 => .kBool v4 fun x6 => .kBool v5 fun x7 => .kInt .i64 v6 fun x8 => .kInt .i64 v7 fun x9 => .kInt .i64 v8 fun x10 => 
 .bool x6 (
 .bool x7 (
 .cmp .eql x10 (1 : Int) fun t11 =>
 .bool t11 (
 .call 190 [.slice a0 l1 c2, .int .i64 x3, .int .i64 x4] fun r12 =>
 .kBool r12 fun b13 =>
 .bool b13 (
 .ret (.tuple #[])) (
 .jmp 17 [.slice a0 l1 c2, .int .i64 x3, .int .i64 x4, .int .i64 x5, .bool x6, .bool x7, .int .i64 x8, .int .i64 x9])) (
 .jmp 17 [.slice a0 l1 c2, .int .i64 x3, .int .i64 x4, .int .i64 x5, .bool x6, .bool x7, .int .i64 x8, .int .i64 x9])) (
 .jmp 17 [.slice a0 l1 c2, .int .i64 x3, .int .i64 x4, .int .i64 x5, .bool x6, .bool x7, .int .i64 x8, .int .i64 x9])) (
 .jmp 17 [.slice a0 l1 c2, .int .i64 x3, .int .i64 x4, .int .i64 x5, .bool x6, .bool x7, .int .i64 x8, .int .i64 x9])
 | _ => .fail
noncomputable def X157_17 : List Value → M := fun args => match args with
 | [v0, v1, v2, v3, v4, v5, v6, v7] => .kSl v0 fun a0 l1 c2 => .kInt .i64 v1 fun x3 => .kInt .i64 v2 fun x4 => .kInt .i64 v3 fun x5 => .kBool v4 fun x6 => .kBool v5 fun x7 => .kInt .i64 v6 fun x8 => .kInt .i64 v7 fun x9 => 
 .cmp .gtr x3 (0 : Int) fun t10 =>
 .bool t10 (
 .wr .i64 (x3 - (1 : Int)) fun n11 =>
 .onS a0 fun a12 =>
 .inb n11 l1 (
 .ld ((a12.add (n11.toNat * 1)).block) ((a12.add (n11.toNat * 1)).off) fun v13 =>
 .kInt .i64 v13 fun n14 =>
 .onS a0 fun a15 =>
 .inb x9 l1 (
 .ld ((a15.add (x9.toNat * 1)).block) ((a15.add (x9.toNat * 1)).off) fun v16 =>
 .kInt .i64 v16 fun n17 =>
 .call 191 [.int .i64 n14, .int .i64 n17] fun r18 =>
 .kBool r18 fun b19 =>
 .bool (!b19) (
 .call 192 [.slice a0 l1 c2, .int .i64 x3, .int .i64 x4, .int .i64 x9] fun r20 =>
 .kInt .i64 r20 fun n21 =>
 .jmp 100002 [.slice a0 l1 c2, .int .i64 n21, .int .i64 x4, .int .i64 x5, .bool x6, .bool x7]) (
 .jmp 20 [.slice a0 l1 c2, .int .i64 x3, .int .i64 x4, .int .i64 x5, .int .i64 x8, .int .i64 x9])))) (
 .jmp 20 [.slice a0 l1 c2, .int .i64 x3, .int .i64 x4, .int .i64 x5, .int .i64 x8, .int .i64 x9])
 | _ => .fail
noncomputable def X157_20 : List Value → M := fun args => match args with
 | [v0, v1, v2, v3, v4, v5] => .kSl v0 fun a0 l1 c2 => .kInt .i64 v1 fun x3 => .kInt .i64 v2 fun x4 => .kInt .i64 v3 fun x5 => .kInt .i64 v4 fun x6 => .kInt .i64 v5 fun x7 => 
 .call 193 [.slice a0 l1 c2, .int .i64 x3, .int .i64 x4, .int .i64 x7] fun r8 =>
 .kTup r8 fun vs9 =>
 .nthA vs9 0 fun v10 =>
 .kInt .i64 v10 fun n11 =>
 .kTup r8 fun vs12 =>
 .nthA vs12 1 fun v13 =>
 .kBool v13 fun b14 =>
 .wr .i64 (n11 - x3) fun n15 =>
 .wr .i64 (x4 - n11) fun n16 =>
 .nite ((8 : Int) = 0) (
 .wr .i64 (x6.tdiv (8 : Int)) fun n17 =>
 .cmp .lss n15 n16 fun t18 =>
 .bool t18 (
 .cmp .geq n15 n17 fun t19 =>
 .call 157 [.slice a0 l1 c2, .int .i64 x3, .int .i64 n11, .int .i64 x5] fun r20 =>
 .wr .i64 (n11 + (1 : Int)) fun n21 =>
 .jmp 100002 [.slice a0 l1 c2, .int .i64 n21, .int .i64 x4, .int .i64 x5, .bool t19, .bool b14]) (
 .cmp .geq n16 n17 fun t22 =>
 .wr .i64 (n11 + (1 : Int)) fun n23 =>
 .call 157 [.slice a0 l1 c2, .int .i64 n23, .int .i64 x4, .int .i64 x5] fun r24 =>
 .jmp 100002 [.slice a0 l1 c2, .int .i64 x3, .int .i64 n11, .int .i64 x5, .bool t22, .bool b14]))
 | _ => .fail
noncomputable def X157_100002 : List Value → M := fun args => match args with
 | [v0, v1, v2, v3, v4, v5] => .kSl v0 fun a0 l1 c2 => .kInt .i64 v1 fun x3 => .kInt .i64 v2 fun x4 => .kInt .i64 v3 fun x5 => .kBool v4 fun x6 => .kBool v5 fun x7 => 
 .wr .i64 (x4 - x3) fun n8 =>
 .cmp .leq n8 (12 : Int) fun t9 =>
 .bool t9 (
 .call 185 [.slice a0 l1 c2, .int .i64 x3, .int .i64 x4] fun r10 =>
 .ret (.tuple #[])) (
 .cmp .eql x5 (0 : Int) fun t11 =>
 .bool t11 (
 .call 186 [.slice a0 l1 c2, .int .i64 x3, .int .i64 x4] fun r12 =>
 .ret (.tuple #[])) (
 .bool (!x6) (
 .call 187 [.slice a0 l1 c2, .int .i64 x3, .int .i64 x4] fun r13 =>
 .wr .i64 (x5 - (1 : Int)) fun n14 =>
 .jmp 10 [.slice a0 l1 c2, .int .i64 x3, .int .i64 x4, .int .i64 n14, .bool x6, .bool x7, .int .i64 n8]) (
 .jmp 10 [.slice a0 l1 c2, .int .i64 x3, .int .i64 x4, .int .i64 x5, .bool x6, .bool x7, .int .i64 n8])))
 | _ => .fail
noncomputable def cuts157 : Cuts := [(100002, [0, 1, 2, 3, 8, 9]), (15, [0, 1, 2, 3, 8, 9, 10, 11, 12]), (17, [0, 1, 2, 3, 8, 9, 10, 11]), (20, [0, 1, 2, 3, 10, 11]), (10, [0, 1, 2, 3, 8, 9, 10])]
noncomputable def L157 : Places := [(10, X157_10, todoOf Tryz.f157 10), (15, X157_15, todoOf Tryz.f157 15), (17, X157_17, todoOf Tryz.f157 17), (20, X157_20, todoOf Tryz.f157 20), (100002, X157_100002, todoOf Tryz.f157 100002)]
noncomputable def k157 : FCode := .of X157 L157 cuts157
theorem o157_10 : OOk Tryz.prog Tryz.f157 cuts157 L157 (10, X157_10, todoOf Tryz.f157 10) := by
  intro vs Γ m H r h; replace h : (X157_10 vs).run _ _ _ _ = _ := h; unfold X157_10 at h; split at h
  · replace h := M.iSl h; obtain ⟨_, _, _, rfl, h⟩ := h; replace h := M.iInt h; obtain ⟨_, rfl, h⟩ := h; replace h := M.iInt h; obtain ⟨_, rfl, h⟩ := h; replace h := M.iInt h; obtain ⟨_, rfl, h⟩ := h; replace h := M.iBool h; obtain ⟨_, rfl, h⟩ := h; replace h := M.iBool h; obtain ⟨_, rfl, h⟩ := h; replace h := M.iInt h; obtain ⟨_, rfl, h⟩ := h; exact Eq.trans (by kernel_rfl) h
  · exact M.iFail h
theorem o157_15 : OOk Tryz.prog Tryz.f157 cuts157 L157 (15, X157_15, todoOf Tryz.f157 15) := by
  intro vs Γ m H r h; replace h : (X157_15 vs).run _ _ _ _ = _ := h; unfold X157_15 at h; split at h
  · replace h := M.iSl h; obtain ⟨_, _, _, rfl, h⟩ := h; replace h := M.iInt h; obtain ⟨_, rfl, h⟩ := h; replace h := M.iInt h; obtain ⟨_, rfl, h⟩ := h; replace h := M.iInt h; obtain ⟨_, rfl, h⟩ := h; replace h := M.iBool h; obtain ⟨_, rfl, h⟩ := h; replace h := M.iBool h; obtain ⟨_, rfl, h⟩ := h; replace h := M.iInt h; obtain ⟨_, rfl, h⟩ := h; replace h := M.iInt h; obtain ⟨_, rfl, h⟩ := h; replace h := M.iInt h; obtain ⟨_, rfl, h⟩ := h; exact Eq.trans (by kernel_rfl) h
  · exact M.iFail h
theorem o157_17 : OOk Tryz.prog Tryz.f157 cuts157 L157 (17, X157_17, todoOf Tryz.f157 17) := by
  intro vs Γ m H r h; replace h : (X157_17 vs).run _ _ _ _ = _ := h; unfold X157_17 at h; split at h
  · replace h := M.iSl h; obtain ⟨_, _, _, rfl, h⟩ := h; replace h := M.iInt h; obtain ⟨_, rfl, h⟩ := h; replace h := M.iInt h; obtain ⟨_, rfl, h⟩ := h; replace h := M.iInt h; obtain ⟨_, rfl, h⟩ := h; replace h := M.iBool h; obtain ⟨_, rfl, h⟩ := h; replace h := M.iBool h; obtain ⟨_, rfl, h⟩ := h; replace h := M.iInt h; obtain ⟨_, rfl, h⟩ := h; replace h := M.iInt h; obtain ⟨_, rfl, h⟩ := h; exact Eq.trans (by kernel_rfl) h
  · exact M.iFail h
theorem o157_20 : OOk Tryz.prog Tryz.f157 cuts157 L157 (20, X157_20, todoOf Tryz.f157 20) := by
  intro vs Γ m H r h; replace h : (X157_20 vs).run _ _ _ _ = _ := h; unfold X157_20 at h; split at h
  · replace h := M.iSl h; obtain ⟨_, _, _, rfl, h⟩ := h; replace h := M.iInt h; obtain ⟨_, rfl, h⟩ := h; replace h := M.iInt h; obtain ⟨_, rfl, h⟩ := h; replace h := M.iInt h; obtain ⟨_, rfl, h⟩ := h; replace h := M.iInt h; obtain ⟨_, rfl, h⟩ := h; replace h := M.iInt h; obtain ⟨_, rfl, h⟩ := h; exact Eq.trans (by kernel_rfl) h
  · exact M.iFail h
theorem o157_100002 : OOk Tryz.prog Tryz.f157 cuts157 L157 (100002, X157_100002, todoOf Tryz.f157 100002) := by
  intro vs Γ m H r h; replace h : (X157_100002 vs).run _ _ _ _ = _ := h; unfold X157_100002 at h; split at h
  · replace h := M.iSl h; obtain ⟨_, _, _, rfl, h⟩ := h; replace h := M.iInt h; obtain ⟨_, rfl, h⟩ := h; replace h := M.iInt h; obtain ⟨_, rfl, h⟩ := h; replace h := M.iInt h; obtain ⟨_, rfl, h⟩ := h; replace h := M.iBool h; obtain ⟨_, rfl, h⟩ := h; replace h := M.iBool h; obtain ⟨_, rfl, h⟩ := h; exact Eq.trans (by kernel_rfl) h
  · exact M.iFail h
theorem h157 : XOk Tryz.prog Tryz.f157 cuts157 L157 X157 := by
  intro Γ m args H r h; unfold X157 at h; split at h
  · replace h := M.iSl h; obtain ⟨_, _, _, rfl, h⟩ := h; replace h := M.iInt h; obtain ⟨_, rfl, h⟩ := h; replace h := M.iInt h; obtain ⟨_, rfl, h⟩ := h; replace h := M.iInt h; obtain ⟨_, rfl, h⟩ := h; exact ⟨Eq.trans (by kernel_rfl) h, Nat.le_of_ble_eq_true (by kernel_rfl)⟩
  · exact M.iFail h
theorem K157 : CodeOk Tryz.prog 157 k157 := .of Tryz.func157 (by kernel_rfl) (by kernel_rfl) h157 (fc o157_10 (fc o157_15 (fc o157_17 (fc o157_20 (fc o157_100002 fe)))))
-- math/bits.Len
noncomputable def X158 : List Value → M := fun args => match args with
 | [v0] => .kInt .u64 v0 fun x0 => 
 .call 195 [.int .u64 x0] fun r1 =>
 .kInt .i64 r1 fun n2 =>
 .ret (.int .i64 n2)
 | _ => .fail
noncomputable def cuts158 : Cuts := []
noncomputable def L158 : Places := []
noncomputable def k158 : FCode := .of X158 L158 cuts158
theorem h158 : XOk Tryz.prog Tryz.f158 cuts158 L158 X158 := by
  intro Γ m args H r h; unfold X158 at h; split at h
  · replace h := M.iInt h; obtain ⟨_, rfl, h⟩ := h; exact ⟨Eq.trans (by kernel_rfl) h, Nat.le_of_ble_eq_true (by kernel_rfl)⟩
  · exact M.iFail h
theorem K158 : CodeOk Tryz.prog 158 k158 := .of Tryz.func158 (by kernel_rfl) (by kernel_rfl) h158 fe
-- sternpost/conn.port
noncomputable def X159 : List Value → M := fun args => match args with
 | [v0] => .kInt .i64 v0 fun x0 => 
 .cmp .geq x0 (1 : Int) fun t1 =>
 .bool t1 (
 .cmp .leq x0 (65535 : Int) fun t2 =>
 .ret (.bool t2)) (
 .ret (.bool false))
 | _ => .fail
noncomputable def cuts159 : Cuts := []
noncomputable def L159 : Places := []
noncomputable def k159 : FCode := .of X159 L159 cuts159
theorem h159 : XOk Tryz.prog Tryz.f159 cuts159 L159 X159 := by
  intro Γ m args H r h; unfold X159 at h; split at h
  · replace h := M.iInt h; obtain ⟨_, rfl, h⟩ := h; exact ⟨Eq.trans (by kernel_rfl) h, Nat.le_of_ble_eq_true (by kernel_rfl)⟩
  · exact M.iFail h
theorem K159 : CodeOk Tryz.prog 159 k159 := .of Tryz.func159 (by kernel_rfl) (by kernel_rfl) h159 fe
-- sternpost/sendq.New
noncomputable def X160 : List Value → M := fun args => match args with
 | [v0, v1] => .kInt .i64 v0 fun x0 => .kInt .i64 v1 fun x1 => 
 .call 62 [.int .i64 x0] fun r2 =>
 .kInt .i64 r2 fun n3 =>
 .cmp .neq n3 (0 : Int) fun t4 =>
 .bool t4 (
 .jmp 2 []) (
 .cmp .lss x1 (1 : Int) fun t5 =>
 .bool t5 (
 .jmp 2 []) (
 .cmp .gtr x1 (65536 : Int) fun t6 =>
 .bool t6 (
 .jmp 2 []) (
 .new (.cells [.int .i64 x0, .int .i64 (0 : Int), .int .i64 x1, .string (⟨#[]⟩ : ByteArray), .slice none 0 0] 0 true) fun b7 =>
 .ret (.tuple #[.pointer (some (⟨b7, 0, none⟩ : Addr)), .int .i64 (0 : Int)]))))
 | _ => .fail
noncomputable def X160_2 : List Value → M := fun args => match args with
 | [] => 
 .ret (.tuple #[.pointer none, .int .i64 (1 : Int)])
 | _ => .fail
noncomputable def cuts160 : Cuts := [(2, [])]
noncomputable def L160 : Places := [(2, X160_2, todoOf Tryz.f160 2)]
noncomputable def k160 : FCode := .of X160 L160 cuts160
theorem o160_2 : OOk Tryz.prog Tryz.f160 cuts160 L160 (2, X160_2, todoOf Tryz.f160 2) := by
  intro vs Γ m H r h; replace h : (X160_2 vs).run _ _ _ _ = _ := h; unfold X160_2 at h; split at h
  · exact Eq.trans (by kernel_rfl) h
  · exact M.iFail h
theorem h160 : XOk Tryz.prog Tryz.f160 cuts160 L160 X160 := by
  intro Γ m args H r h; unfold X160 at h; split at h
  · replace h := M.iInt h; obtain ⟨_, rfl, h⟩ := h; replace h := M.iInt h; obtain ⟨_, rfl, h⟩ := h; exact ⟨Eq.trans (by kernel_rfl) h, Nat.le_of_ble_eq_true (by kernel_rfl)⟩
  · exact M.iFail h
theorem K160 : CodeOk Tryz.prog 160 k160 := .of Tryz.func160 (by kernel_rfl) (by kernel_rfl) h160 (fc o160_2 fe)
-- sternpost/cong.New
noncomputable def X161 : List Value → M := fun args => match args with
 | [v0] => .kInt .i64 v0 fun x0 => 
 .new (.cells [.int .i64 x0] 0 true) fun b1 =>
 .ld b1 0 fun v2 =>
 .kInt .i64 v2 fun n3 =>
 .cmp .lss n3 (1 : Int) fun t4 =>
 .bool t4 (
 .jmp 2 []) (
 .ld b1 0 fun v5 =>
 .kInt .i64 v5 fun n6 =>
 .cmp .gtr n6 (1460 : Int) fun t7 =>
 .bool t7 (
 .jmp 2 []) (
 .ld b1 0 fun v8 =>
 .kInt .i64 v8 fun n9 =>
 .ld b1 0 fun v10 =>
 .kInt .i64 v10 fun n11 =>
 .wr .i64 ((4 : Int) * n11) fun n12 =>
 .ld b1 0 fun v13 =>
 .kInt .i64 v13 fun n14 =>
 .wr .i64 ((2 : Int) * n14) fun n15 =>
 .fxV (.agg #[.int .i64 n9, .int .i64 (mni n12 (mxi n15 (4380 : Int))), .int .i64 (1048576 : Int), .int .i64 (0 : Int), .int .i64 (0 : Int), .bool false, .int .i64 (0 : Int), .func (.func 196) #[] #[.pointer (some (⟨b1, 0, none⟩ : Addr))]]) fun v16 =>
 .new (.cells (Value.cells v16).toList 0 true) fun b17 =>
 .ret (.tuple #[.pointer (some (⟨b17, 0, none⟩ : Addr)), .int .i64 (0 : Int)])))
 | _ => .fail
noncomputable def X161_2 : List Value → M := fun args => match args with
 | [] => 
 .ret (.tuple #[.pointer none, .int .i64 (1 : Int)])
 | _ => .fail
noncomputable def cuts161 : Cuts := [(2, [])]
noncomputable def L161 : Places := [(2, X161_2, todoOf Tryz.f161 2)]
noncomputable def k161 : FCode := .of X161 L161 cuts161
theorem o161_2 : OOk Tryz.prog Tryz.f161 cuts161 L161 (2, X161_2, todoOf Tryz.f161 2) := by
  intro vs Γ m H r h; replace h : (X161_2 vs).run _ _ _ _ = _ := h; unfold X161_2 at h; split at h
  · exact Eq.trans (by kernel_rfl) h
  · exact M.iFail h
theorem h161 : XOk Tryz.prog Tryz.f161 cuts161 L161 X161 := by
  intro Γ m args H r h; unfold X161 at h; split at h
  · replace h := M.iInt h; obtain ⟨_, rfl, h⟩ := h; exact ⟨Eq.trans (by kernel_rfl) h, Nat.le_of_ble_eq_true (by kernel_rfl)⟩
  · exact M.iFail h
theorem K161 : CodeOk Tryz.prog 161 k161 := .of Tryz.func161 (by kernel_rfl) (by kernel_rfl) h161 (fc o161_2 fe)
-- sternpost/seq.within
noncomputable def X162 : List Value → M := fun args => match args with
 | [v0, v1, v2] => .kInt .i64 v0 fun x0 => .kInt .i64 v1 fun x1 => .kInt .i64 v2 fun x2 => 
 .cmp .geq x0 x1 fun t3 =>
 .bool t3 (
 .cmp .leq x0 x2 fun t4 =>
 .ret (.bool t4)) (
 .ret (.bool false))
 | _ => .fail
noncomputable def cuts162 : Cuts := []
noncomputable def L162 : Places := []
noncomputable def k162 : FCode := .of X162 L162 cuts162
theorem h162 : XOk Tryz.prog Tryz.f162 cuts162 L162 X162 := by
  intro Γ m args H r h; unfold X162 at h; split at h
  · replace h := M.iInt h; obtain ⟨_, rfl, h⟩ := h; replace h := M.iInt h; obtain ⟨_, rfl, h⟩ := h; replace h := M.iInt h; obtain ⟨_, rfl, h⟩ := h; exact ⟨Eq.trans (by kernel_rfl) h, Nat.le_of_ble_eq_true (by kernel_rfl)⟩
  · exact M.iFail h
theorem K162 : CodeOk Tryz.prog 162 k162 := .of Tryz.func162 (by kernel_rfl) (by kernel_rfl) h162 fe
-- sternpost/recvq.New
noncomputable def X163 : List Value → M := fun args => match args with
 | [v0, v1] => .kInt .i64 v0 fun x0 => .kInt .i64 v1 fun x1 => 
 .call 62 [.int .i64 x0] fun r2 =>
 .kInt .i64 r2 fun n3 =>
 .cmp .neq n3 (0 : Int) fun t4 =>
 .bool t4 (
 .jmp 2 []) (
 .cmp .lss x1 (1 : Int) fun t5 =>
 .bool t5 (
 .jmp 2 []) (
 .cmp .gtr x1 (65536 : Int) fun t6 =>
 .bool t6 (
 .jmp 2 []) (
 .new (.map [] [] 0) fun b7 =>
 .new (.cells [.int .i64 x0, .int .i64 x1, .string (⟨#[]⟩ : ByteArray), .map (some b7)] 0 true) fun b8 =>
 .ret (.tuple #[.pointer (some (⟨b8, 0, none⟩ : Addr)), .int .i64 (0 : Int)]))))
 | _ => .fail
noncomputable def X163_2 : List Value → M := fun args => match args with
 | [] => 
 .ret (.tuple #[.pointer none, .int .i64 (1 : Int)])
 | _ => .fail
noncomputable def cuts163 : Cuts := [(2, [])]
noncomputable def L163 : Places := [(2, X163_2, todoOf Tryz.f163 2)]
noncomputable def k163 : FCode := .of X163 L163 cuts163
theorem o163_2 : OOk Tryz.prog Tryz.f163 cuts163 L163 (2, X163_2, todoOf Tryz.f163 2) := by
  intro vs Γ m H r h; replace h : (X163_2 vs).run _ _ _ _ = _ := h; unfold X163_2 at h; split at h
  · exact Eq.trans (by kernel_rfl) h
  · exact M.iFail h
theorem h163 : XOk Tryz.prog Tryz.f163 cuts163 L163 X163 := by
  intro Γ m args H r h; unfold X163 at h; split at h
  · replace h := M.iInt h; obtain ⟨_, rfl, h⟩ := h; replace h := M.iInt h; obtain ⟨_, rfl, h⟩ := h; exact ⟨Eq.trans (by kernel_rfl) h, Nat.le_of_ble_eq_true (by kernel_rfl)⟩
  · exact M.iFail h
theorem K163 : CodeOk Tryz.prog 163 k163 := .of Tryz.func163 (by kernel_rfl) (by kernel_rfl) h163 (fc o163_2 fe)
-- slices.IndexFunc[[]sternpost/api.Range,sternpost/api.Range]
noncomputable def X164 : List Value → M := fun args => match args with
 | [v0, x3] => .kSl v0 fun a0 l1 c2 => 
 .fxI ((l1 : Nat) : Int) fun n4 =>
 .jmp 100002 [.slice a0 l1 c2, x3, .int .i64 n4, .int .i64 (0 : Int)]
 | _ => .fail
noncomputable def X164_100002 : List Value → M := fun args => match args with
 | [v0, x3, v2, v3] => .kSl v0 fun a0 l1 c2 => .kInt .i64 v2 fun x4 => .kInt .i64 v3 fun x5 => 
 .cmp .lss x5 x4 fun t6 =>
 .bool t6 (
 .onS a0 fun a7 =>
 .inb x5 l1 (
 .ldn ((a7.add (x5.toNat * 2)).block) ((a7.add (x5.toNat * 2)).off) 2 fun cs8 =>
 .callV x3 [.agg cs8] fun r9 =>
 .kBool r9 fun b10 =>
 .bool b10 (
 .ret (.int .i64 x5)) (
 .wr .i64 (x5 + (1 : Int)) fun n11 =>
 .jmp 100002 [.slice a0 l1 c2, x3, .int .i64 x4, .int .i64 n11]))) (
 .ret (.int .i64 (-1 : Int)))
 | _ => .fail
noncomputable def cuts164 : Cuts := [(100002, [0, 1, 7, 8])]
noncomputable def L164 : Places := [(100002, X164_100002, todoOf Tryz.f164 100002)]
noncomputable def k164 : FCode := .of X164 L164 cuts164
theorem o164_100002 : OOk Tryz.prog Tryz.f164 cuts164 L164 (100002, X164_100002, todoOf Tryz.f164 100002) := by
  intro vs Γ m H r h; replace h : (X164_100002 vs).run _ _ _ _ = _ := h; unfold X164_100002 at h; split at h
  · replace h := M.iSl h; obtain ⟨_, _, _, rfl, h⟩ := h; replace h := M.iInt h; obtain ⟨_, rfl, h⟩ := h; replace h := M.iInt h; obtain ⟨_, rfl, h⟩ := h; exact Eq.trans (by kernel_rfl) h
  · exact M.iFail h
theorem h164 : XOk Tryz.prog Tryz.f164 cuts164 L164 X164 := by
  intro Γ m args H r h; unfold X164 at h; split at h
  · replace h := M.iSl h; obtain ⟨_, _, _, rfl, h⟩ := h; exact ⟨Eq.trans (by kernel_rfl) h, Nat.le_of_ble_eq_true (by kernel_rfl)⟩
  · exact M.iFail h
theorem K164 : CodeOk Tryz.prog 164 k164 := .of Tryz.func164 (by kernel_rfl) (by kernel_rfl) h164 (fc o164_100002 fe)
-- sternpost/opts.option
noncomputable def X165 : List Value → M := fun args => match args with
 | [v0, v1] => .kInt .i64 v0 fun x0 => .kStr v1 fun x1 => 
 .wr .u8 x0 fun n2 =>
 .wr .i64 ((2 : Int) + (x1.size : Int)) fun n3 =>
 .wr .u8 n3 fun n4 =>
 .new (.cells [.int .u8 n2, .int .u8 n4] 1 true) fun b5 =>
 .ldc b5 fun cs6 =>
 .ite (0 + 2 ≤ cs6.length) (
 .onS (bytesOf (range cs6 0 2)) fun l7 =>
 .cat (⟨l7.toArray⟩ : ByteArray) x1 fun s8 =>
 .ret (.string s8))
 | _ => .fail
noncomputable def cuts165 : Cuts := []
noncomputable def L165 : Places := []
noncomputable def k165 : FCode := .of X165 L165 cuts165
theorem h165 : XOk Tryz.prog Tryz.f165 cuts165 L165 X165 := by
  intro Γ m args H r h; unfold X165 at h; split at h
  · replace h := M.iInt h; obtain ⟨_, rfl, h⟩ := h; replace h := M.iStr h; obtain ⟨_, rfl, h⟩ := h; exact ⟨Eq.trans (by kernel_rfl) h, Nat.le_of_ble_eq_true (by kernel_rfl)⟩
  · exact M.iFail h
theorem K165 : CodeOk Tryz.prog 165 k165 := .of Tryz.func165 (by kernel_rfl) (by kernel_rfl) h165 fe
-- sternpost/opts.num
noncomputable def X166 : List Value → M := fun args => match args with
 | [v0, v1] => .kInt .i64 v0 fun x0 => .kInt .i64 v1 fun x1 => 
 .call 197 [.int .i64 x0, .int .i64 x1] fun r2 =>
 .kTup r2 fun vs3 =>
 .nthA vs3 0 fun v4 =>
 .kStr v4 fun s5 =>
 .kTup r2 fun vs6 =>
 .nthA vs6 1 fun v7 =>
 .kInt .i64 v7 fun n8 =>
 .ret (.string s5)
 | _ => .fail
noncomputable def cuts166 : Cuts := []
noncomputable def L166 : Places := []
noncomputable def k166 : FCode := .of X166 L166 cuts166
theorem h166 : XOk Tryz.prog Tryz.f166 cuts166 L166 X166 := by
  intro Γ m args H r h; unfold X166 at h; split at h
  · replace h := M.iInt h; obtain ⟨_, rfl, h⟩ := h; replace h := M.iInt h; obtain ⟨_, rfl, h⟩ := h; exact ⟨Eq.trans (by kernel_rfl) h, Nat.le_of_ble_eq_true (by kernel_rfl)⟩
  · exact M.iFail h
theorem K166 : CodeOk Tryz.prog 166 k166 := .of Tryz.func166 (by kernel_rfl) (by kernel_rfl) h166 fe
-- sternpost/seq.both
noncomputable def X168 : List Value → M := fun args => match args with
 | [v0, v1] => .kInt .i64 v0 fun x0 => .kInt .i64 v1 fun x1 => 
 .call 62 [.int .i64 x0] fun r2 =>
 .kInt .i64 r2 fun n3 =>
 .call 62 [.int .i64 x1] fun r4 =>
 .kInt .i64 r4 fun n5 =>
 .fxI (mxi n3 n5) fun n6 =>
 .ret (.int .i64 n6)
 | _ => .fail
noncomputable def cuts168 : Cuts := []
noncomputable def L168 : Places := []
noncomputable def k168 : FCode := .of X168 L168 cuts168
theorem h168 : XOk Tryz.prog Tryz.f168 cuts168 L168 X168 := by
  intro Γ m args H r h; unfold X168 at h; split at h
  · replace h := M.iInt h; obtain ⟨_, rfl, h⟩ := h; replace h := M.iInt h; obtain ⟨_, rfl, h⟩ := h; exact ⟨Eq.trans (by kernel_rfl) h, Nat.le_of_ble_eq_true (by kernel_rfl)⟩
  · exact M.iFail h
theorem K168 : CodeOk Tryz.prog 168 k168 := .of Tryz.func168 (by kernel_rfl) (by kernel_rfl) h168 fe
-- sternpost/cong.count
noncomputable def X169 : List Value → M := fun args => match args with
 | [v0] => .kInt .i64 v0 fun x0 => 
 .fxI (mxi (0 : Int) (mni (1048576 : Int) x0)) fun n1 =>
 .ret (.int .i64 n1)
 | _ => .fail
noncomputable def cuts169 : Cuts := []
noncomputable def L169 : Places := []
noncomputable def k169 : FCode := .of X169 L169 cuts169
theorem h169 : XOk Tryz.prog Tryz.f169 cuts169 L169 X169 := by
  intro Γ m args H r h; unfold X169 at h; split at h
  · replace h := M.iInt h; obtain ⟨_, rfl, h⟩ := h; exact ⟨Eq.trans (by kernel_rfl) h, Nat.le_of_ble_eq_true (by kernel_rfl)⟩
  · exact M.iFail h
theorem K169 : CodeOk Tryz.prog 169 k169 := .of Tryz.func169 (by kernel_rfl) (by kernel_rfl) h169 fe
-- (*sternpost/cong.Valve).Window
noncomputable def X170 : List Value → M := fun args => match args with
 | [v0] => .kPtr v0 fun x0 => 
 .onS x0 fun a1 =>
 .ld a1.block (a1.off + 1) fun v2 =>
 .kInt .i64 v2 fun n3 =>
 .ret (.int .i64 n3)
 | _ => .fail
noncomputable def cuts170 : Cuts := []
noncomputable def L170 : Places := []
noncomputable def k170 : FCode := .of X170 L170 cuts170
theorem h170 : XOk Tryz.prog Tryz.f170 cuts170 L170 X170 := by
  intro Γ m args H r h; unfold X170 at h; split at h
  · replace h := M.iPtr h; obtain ⟨_, rfl, h⟩ := h; exact ⟨Eq.trans (by kernel_rfl) h, Nat.le_of_ble_eq_true (by kernel_rfl)⟩
  · exact M.iFail h
theorem K170 : CodeOk Tryz.prog 170 k170 := .of Tryz.func170 (by kernel_rfl) (by kernel_rfl) h170 fe
-- (*sternpost/sendq.Queue).Ack
noncomputable def X171 : List Value → M := fun args => match args with
 | [v0, v1] => .kPtr v0 fun x0 => .kInt .i64 v1 fun x1 => 
 .call 177 [.pointer x0, .int .i64 x1] fun r2 =>
 .kTup r2 fun vs3 =>
 .nthA vs3 0 fun v4 =>
 .kInt .i64 v4 fun n5 =>
 .kTup r2 fun vs6 =>
 .nthA vs6 1 fun v7 =>
 .kBool v7 fun b8 =>
 .bool (!b8) (
 .ret (.tuple #[.int .i64 (0 : Int), .int .i64 (1 : Int)])) (
 .onS x0 fun a9 =>
 .ld a9.block (a9.off + 3) fun v10 =>
 .kStr v10 fun s11 =>
 .slStr s11 n5 (s11.size : Int) fun s13 =>
 .onS x0 fun a14 =>
 .ld a14.block (a14.off + 1) fun v15 =>
 .kInt .i64 v15 fun n16 =>
 .wr .i64 (n16 - n5) fun n17 =>
 .onS x0 fun a18 =>
 .st 1 a18 (.int .i64 x1) (
 .onS x0 fun a20 =>
 .st 1 (⟨a20.block, a20.off + 3, none⟩ : Addr) (.string s13) (
 .onS x0 fun a22 =>
 .st 1 (⟨a22.block, a22.off + 1, none⟩ : Addr) (.int .i64 n17) (
 .onS x0 fun a24 =>
 .ld a24.block (a24.off + 4) fun v25 =>
 .kSl v25 fun a26 l27 c28 =>
 .fxI ((l27 : Nat) : Int) fun n29 =>
 .jmp 100007 [.pointer x0, .int .i64 n5, .slice none 0 0, .slice a26 l27 c28, .int .i64 n29, .int .i64 (0 : Int)]))))
 | _ => .fail
noncomputable def X171_11 : List Value → M := fun args => match args with
 | [v0, v1, v2, v3, v4, v5] => .kPtr v0 fun x0 => .kInt .i64 v1 fun x1 => .kSl v2 fun a2 l3 c4 => .kSl v3 fun a5 l6 c7 => .kInt .i64 v4 fun x8 => .kInt .i64 v5 fun x9 => 
 .wr .i64 (x9 + (1 : Int)) fun n10 =>
 .jmp 100007 [.pointer x0, .int .i64 x1, .slice a2 l3 c4, .slice a5 l6 c7, .int .i64 x8, .int .i64 n10]
 | _ => .fail
noncomputable def X171_100007 : List Value → M := fun args => match args with
 | [v0, v1, v2, v3, v4, v5] => .kPtr v0 fun x0 => .kInt .i64 v1 fun x1 => .kSl v2 fun a2 l3 c4 => .kSl v3 fun a5 l6 c7 => .kInt .i64 v4 fun x8 => .kInt .i64 v5 fun x9 => 
 .cmp .lss x9 x8 fun t10 =>
 .bool t10 (
 .onS a5 fun a11 =>
 .inb x9 l6 (
 .ldn ((a11.add (x9.toNat * 2)).block) ((a11.add (x9.toNat * 2)).off) 2 fun cs12 =>
 .new (.cells [.int .i64 (0 : Int), .int .i64 (0 : Int)] 0 true) fun b13 =>
 .st 2 (⟨b13, 0, none⟩ : Addr) (.agg cs12) (
 .ld b13 (0 + 1) fun v15 =>
 .kInt .i64 v15 fun n16 =>
 .cmp .gtr n16 x1 fun t17 =>
 .bool t17 (
 .ld b13 0 fun v18 =>
 .kInt .i64 v18 fun n19 =>
 .wr .i64 (n19 - x1) fun n20 =>
 .ld b13 (0 + 1) fun v21 =>
 .kInt .i64 v21 fun n22 =>
 .wr .i64 (n22 - x1) fun n23 =>
 .fxV (.agg #[.int .i64 (mxi (0 : Int) n20), .int .i64 n23]) fun v24 =>
 .cellsOks [v24] (.onS (Instr.fill (fun i => some (i * 2, 2)) ([.int .i64 (0 : Int), .int .i64 (0 : Int)] : List Value).toArray (([0] : List Nat).zip [v24])) fun cells25q =>
 .fxV (.agg cells25q) fun cells25v =>
 .kAgg cells25v fun cells25 =>
 .new (.cells cells25.toList 2 true) fun b26 =>
 .firstC 2 (.slice (some ⟨b26, 0, none⟩) 1 1) fun n27 nw28 =>
 .app 269 (.slice a2 l3 c4) n27 nw28 fun v29 =>
 .kSl v29 fun a31 l32 c33 =>
 .jmp 11 [.pointer x0, .int .i64 x1, .slice a31 l32 c33, .slice a5 l6 c7, .int .i64 x8, .int .i64 x9])) (
 .jmp 11 [.pointer x0, .int .i64 x1, .slice a2 l3 c4, .slice a5 l6 c7, .int .i64 x8, .int .i64 x9])))) (
 .onS x0 fun a34 =>
 .st 1 (⟨a34.block, a34.off + 4, none⟩ : Addr) (.slice a2 l3 c4) (
 .ret (.tuple #[.int .i64 x1, .int .i64 (0 : Int)])))
 | _ => .fail
noncomputable def cuts171 : Cuts := [(100007, [0, 6, 8, 44, 45, 46]), (11, [0, 6, 8, 44, 45, 46])]
noncomputable def L171 : Places := [(11, X171_11, todoOf Tryz.f171 11), (100007, X171_100007, todoOf Tryz.f171 100007)]
noncomputable def k171 : FCode := .of X171 L171 cuts171
theorem o171_11 : OOk Tryz.prog Tryz.f171 cuts171 L171 (11, X171_11, todoOf Tryz.f171 11) := by
  intro vs Γ m H r h; replace h : (X171_11 vs).run _ _ _ _ = _ := h; unfold X171_11 at h; split at h
  · replace h := M.iPtr h; obtain ⟨_, rfl, h⟩ := h; replace h := M.iInt h; obtain ⟨_, rfl, h⟩ := h; replace h := M.iSl h; obtain ⟨_, _, _, rfl, h⟩ := h; replace h := M.iSl h; obtain ⟨_, _, _, rfl, h⟩ := h; replace h := M.iInt h; obtain ⟨_, rfl, h⟩ := h; replace h := M.iInt h; obtain ⟨_, rfl, h⟩ := h; exact Eq.trans (by kernel_rfl) h
  · exact M.iFail h
theorem o171_100007 : OOk Tryz.prog Tryz.f171 cuts171 L171 (100007, X171_100007, todoOf Tryz.f171 100007) := by
  intro vs Γ m H r h; replace h : (X171_100007 vs).run _ _ _ _ = _ := h; unfold X171_100007 at h; split at h
  · replace h := M.iPtr h; obtain ⟨_, rfl, h⟩ := h; replace h := M.iInt h; obtain ⟨_, rfl, h⟩ := h; replace h := M.iSl h; obtain ⟨_, _, _, rfl, h⟩ := h; replace h := M.iSl h; obtain ⟨_, _, _, rfl, h⟩ := h; replace h := M.iInt h; obtain ⟨_, rfl, h⟩ := h; replace h := M.iInt h; obtain ⟨_, rfl, h⟩ := h; exact Eq.trans (by kernel_rfl) h
  · exact M.iFail h
theorem h171 : XOk Tryz.prog Tryz.f171 cuts171 L171 X171 := by
  intro Γ m args H r h; unfold X171 at h; split at h
  · replace h := M.iPtr h; obtain ⟨_, rfl, h⟩ := h; replace h := M.iInt h; obtain ⟨_, rfl, h⟩ := h; exact ⟨Eq.trans (by kernel_rfl) h, Nat.le_of_ble_eq_true (by kernel_rfl)⟩
  · exact M.iFail h
theorem K171 : CodeOk Tryz.prog 171 k171 := .of Tryz.func171 (by kernel_rfl) (by kernel_rfl) h171 (fc o171_11 (fc o171_100007 fe))
-- (*sternpost/rto.Rto).Sample
noncomputable def X172 : List Value → M := fun args => match args with
 | [v0, v1] => .kPtr v0 fun x0 => .kInt .i64 v1 fun x1 => 
 .cmp .lss x1 (0 : Int) fun t2 =>
 .bool t2 (
 .jmp 2 []) (
 .cmp .gtr x1 (1048576 : Int) fun t3 =>
 .bool t3 (
 .jmp 2 []) (
 .onS x0 fun a4 =>
 .ld a4.block (a4.off + 3) fun v5 =>
 .kInt .i64 v5 fun n6 =>
 .nite ((8 : Int) = 0) (
 .wr .i64 (n6.tdiv (8 : Int)) fun n7 =>
 .wr .i64 (x1 - n7) fun n8 =>
 .onS x0 fun a9 =>
 .ld a9.block (a9.off + 6) fun v10 =>
 .kBool v10 fun b11 =>
 .bool b11 (
 .onS x0 fun a12 =>
 .ld a12.block (a12.off + 3) fun v13 =>
 .kInt .i64 v13 fun n14 =>
 .wr .i64 (n14 + n8) fun n15 =>
 .onS x0 fun a16 =>
 .ld a16.block ((a16.off + 3) + 1) fun v17 =>
 .kInt .i64 v17 fun n18 =>
 .onS x0 fun a19 =>
 .ld a19.block ((a19.off + 3) + 1) fun v20 =>
 .kInt .i64 v20 fun n21 =>
 .nite ((4 : Int) = 0) (
 .wr .i64 (n21.tdiv (4 : Int)) fun n22 =>
 .wr .i64 (n18 - n22) fun n23 =>
 .wr .i64 (0 - n8) fun n24 =>
 .wr .i64 (n23 + (mxi n8 n24)) fun n25 =>
 .onS x0 fun a26 =>
 .st 3 (⟨a26.block, a26.off + 3, none⟩ : Addr) (.agg #[.int .i64 n15, .int .i64 n25, .int .i64 (0 : Int)]) (
 .jmp 7 [.pointer x0]))) (
 .wr .i64 ((8 : Int) * x1) fun n28 =>
 .wr .i64 ((2 : Int) * x1) fun n29 =>
 .onS x0 fun a30 =>
 .st 1 (⟨a30.block, a30.off + 6, none⟩ : Addr) (.bool true) (
 .onS x0 fun a32 =>
 .st 3 (⟨a32.block, a32.off + 3, none⟩ : Addr) (.agg #[.int .i64 n28, .int .i64 n29, .int .i64 (0 : Int)]) (
 .jmp 7 [.pointer x0]))))))
 | _ => .fail
noncomputable def X172_2 : List Value → M := fun args => match args with
 | [] => 
 .ret (.int .i64 (1 : Int))
 | _ => .fail
noncomputable def X172_7 : List Value → M := fun args => match args with
 | [v0] => .kPtr v0 fun x0 => 
 .onS x0 fun a1 =>
 .ld a1.block (a1.off + 1) fun v2 =>
 .kInt .i64 v2 fun n3 =>
 .onS x0 fun a4 =>
 .ld a4.block a4.off fun v5 =>
 .kInt .i64 v5 fun n6 =>
 .onS x0 fun a7 =>
 .ld a7.block (a7.off + 3) fun v8 =>
 .kInt .i64 v8 fun n9 =>
 .nite ((8 : Int) = 0) (
 .wr .i64 (n9.tdiv (8 : Int)) fun n10 =>
 .onS x0 fun a11 =>
 .ld a11.block ((a11.off + 3) + 1) fun v12 =>
 .kInt .i64 v12 fun n13 =>
 .wr .i64 (n10 + (mxi (1 : Int) n13)) fun n14 =>
 .onS x0 fun a15 =>
 .fxI (mni n3 (mxi n6 n14)) fun n16 =>
 .st 1 (⟨a15.block, a15.off + 2, none⟩ : Addr) (.int .i64 n16) (
 .ret (.int .i64 (0 : Int))))
 | _ => .fail
noncomputable def cuts172 : Cuts := [(7, [0]), (2, [])]
noncomputable def L172 : Places := [(2, X172_2, todoOf Tryz.f172 2), (7, X172_7, todoOf Tryz.f172 7)]
noncomputable def k172 : FCode := .of X172 L172 cuts172
theorem o172_2 : OOk Tryz.prog Tryz.f172 cuts172 L172 (2, X172_2, todoOf Tryz.f172 2) := by
  intro vs Γ m H r h; replace h : (X172_2 vs).run _ _ _ _ = _ := h; unfold X172_2 at h; split at h
  · exact Eq.trans (by kernel_rfl) h
  · exact M.iFail h
theorem o172_7 : OOk Tryz.prog Tryz.f172 cuts172 L172 (7, X172_7, todoOf Tryz.f172 7) := by
  intro vs Γ m H r h; replace h : (X172_7 vs).run _ _ _ _ = _ := h; unfold X172_7 at h; split at h
  · replace h := M.iPtr h; obtain ⟨_, rfl, h⟩ := h; exact Eq.trans (by kernel_rfl) h
  · exact M.iFail h
theorem h172 : XOk Tryz.prog Tryz.f172 cuts172 L172 X172 := by
  intro Γ m args H r h; unfold X172 at h; split at h
  · replace h := M.iPtr h; obtain ⟨_, rfl, h⟩ := h; replace h := M.iInt h; obtain ⟨_, rfl, h⟩ := h; exact ⟨Eq.trans (by kernel_rfl) h, Nat.le_of_ble_eq_true (by kernel_rfl)⟩
  · exact M.iFail h
theorem K172 : CodeOk Tryz.prog 172 k172 := .of Tryz.func172 (by kernel_rfl) (by kernel_rfl) h172 (fc o172_2 (fc o172_7 fe))
-- (*sternpost/cong.Valve).Acked
noncomputable def X173 : List Value → M := fun args => match args with
 | [v0, v1, v2] => .kPtr v0 fun x0 => .kInt .i64 v1 fun x1 => .kInt .i64 v2 fun x2 => 
 .call 169 [.int .i64 x1] fun r3 =>
 .kInt .i64 r3 fun n4 =>
 .onS x0 fun a5 =>
 .ld a5.block (a5.off + 5) fun v6 =>
 .kBool v6 fun b7 =>
 .bool b7 (
 .call 204 [.pointer x0, .int .i64 n4, .int .i64 x2] fun r8 =>
 .kBool r8 fun b9 =>
 .ret (.bool b9)) (
 .onS x0 fun a10 =>
 .st 1 (⟨a10.block, a10.off + 3, none⟩ : Addr) (.int .i64 (0 : Int)) (
 .onS x0 fun a12 =>
 .ld a12.block (a12.off + 1) fun v13 =>
 .kInt .i64 v13 fun n14 =>
 .onS x0 fun a15 =>
 .ld a15.block (a15.off + 2) fun v16 =>
 .kInt .i64 v16 fun n17 =>
 .cmp .lss n14 n17 fun t18 =>
 .bool t18 (
 .onS x0 fun a19 =>
 .ld a19.block (a19.off + 7) fun v20 =>
 .onS x0 fun a21 =>
 .ld a21.block (a21.off + 1) fun v22 =>
 .kInt .i64 v22 fun n23 =>
 .onS x0 fun a24 =>
 .ld a24.block a24.off fun v25 =>
 .kInt .i64 v25 fun n26 =>
 .wr .i64 (n23 + (mni n4 n26)) fun n27 =>
 .callV v20 [.int .i64 n27] fun r28 =>
 .kInt .i64 r28 fun n29 =>
 .onS x0 fun a30 =>
 .st 1 (⟨a30.block, a30.off + 1, none⟩ : Addr) (.int .i64 n29) (
 .ret (.bool false))) (
 .onS x0 fun a32 =>
 .ld a32.block (a32.off + 4) fun v33 =>
 .kInt .i64 v33 fun n34 =>
 .wr .i64 (n34 + n4) fun n35 =>
 .onS x0 fun a36 =>
 .st 1 (⟨a36.block, a36.off + 4, none⟩ : Addr) (.int .i64 n35) (
 .onS x0 fun a38 =>
 .ld a38.block (a38.off + 4) fun v39 =>
 .kInt .i64 v39 fun n40 =>
 .onS x0 fun a41 =>
 .ld a41.block (a41.off + 1) fun v42 =>
 .kInt .i64 v42 fun n43 =>
 .cmp .geq n40 n43 fun t44 =>
 .bool t44 (
 .onS x0 fun a45 =>
 .ld a45.block (a45.off + 4) fun v46 =>
 .kInt .i64 v46 fun n47 =>
 .onS x0 fun a48 =>
 .ld a48.block (a48.off + 1) fun v49 =>
 .kInt .i64 v49 fun n50 =>
 .wr .i64 (n47 - n50) fun n51 =>
 .onS x0 fun a52 =>
 .st 1 (⟨a52.block, a52.off + 4, none⟩ : Addr) (.int .i64 n51) (
 .onS x0 fun a54 =>
 .ld a54.block (a54.off + 7) fun v55 =>
 .onS x0 fun a56 =>
 .ld a56.block (a56.off + 1) fun v57 =>
 .kInt .i64 v57 fun n58 =>
 .onS x0 fun a59 =>
 .ld a59.block a59.off fun v60 =>
 .kInt .i64 v60 fun n61 =>
 .wr .i64 (n58 + n61) fun n62 =>
 .callV v55 [.int .i64 n62] fun r63 =>
 .kInt .i64 r63 fun n64 =>
 .onS x0 fun a65 =>
 .st 1 (⟨a65.block, a65.off + 1, none⟩ : Addr) (.int .i64 n64) (
 .jmp 12 []))) (
 .jmp 12 [])))))
 | _ => .fail
noncomputable def X173_12 : List Value → M := fun args => match args with
 | [] => 
 .ret (.bool false)
 | _ => .fail
noncomputable def cuts173 : Cuts := [(12, [])]
noncomputable def L173 : Places := [(12, X173_12, todoOf Tryz.f173 12)]
noncomputable def k173 : FCode := .of X173 L173 cuts173
theorem o173_12 : OOk Tryz.prog Tryz.f173 cuts173 L173 (12, X173_12, todoOf Tryz.f173 12) := by
  intro vs Γ m H r h; replace h : (X173_12 vs).run _ _ _ _ = _ := h; unfold X173_12 at h; split at h
  · exact Eq.trans (by kernel_rfl) h
  · exact M.iFail h
theorem h173 : XOk Tryz.prog Tryz.f173 cuts173 L173 X173 := by
  intro Γ m args H r h; unfold X173 at h; split at h
  · replace h := M.iPtr h; obtain ⟨_, rfl, h⟩ := h; replace h := M.iInt h; obtain ⟨_, rfl, h⟩ := h; replace h := M.iInt h; obtain ⟨_, rfl, h⟩ := h; exact ⟨Eq.trans (by kernel_rfl) h, Nat.le_of_ble_eq_true (by kernel_rfl)⟩
  · exact M.iFail h
theorem K173 : CodeOk Tryz.prog 173 k173 := .of Tryz.func173 (by kernel_rfl) (by kernel_rfl) h173 (fc o173_12 fe)
-- sternpost/seq.In
noncomputable def X174 : List Value → M := fun args => match args with
 | [v0, v1, v2] => .kInt .i64 v0 fun x0 => .kInt .i64 v1 fun x1 => .kInt .i64 v2 fun x2 => 
 .call 131 [.int .i64 x1, .int .i64 x0] fun r3 =>
 .kTup r3 fun vs4 =>
 .nthA vs4 0 fun v5 =>
 .kInt .i64 v5 fun n6 =>
 .kTup r3 fun vs7 =>
 .nthA vs7 1 fun v8 =>
 .kInt .i64 v8 fun n9 =>
 .cmp .neq n9 (0 : Int) fun t10 =>
 .bool t10 (
 .jmp 3 []) (
 .call 162 [.int .i64 x2, .int .i64 (0 : Int), .int .i64 (4294967296 : Int)] fun r11 =>
 .kBool r11 fun b12 =>
 .bool (!b12) (
 .jmp 3 []) (
 .cmp .lss n6 x2 fun t13 =>
 .ret (.tuple #[.bool t13, .int .i64 (0 : Int)])))
 | _ => .fail
noncomputable def X174_3 : List Value → M := fun args => match args with
 | [] => 
 .ret (.tuple #[.bool false, .int .i64 (1 : Int)])
 | _ => .fail
noncomputable def cuts174 : Cuts := [(3, [])]
noncomputable def L174 : Places := [(3, X174_3, todoOf Tryz.f174 3)]
noncomputable def k174 : FCode := .of X174 L174 cuts174
theorem o174_3 : OOk Tryz.prog Tryz.f174 cuts174 L174 (3, X174_3, todoOf Tryz.f174 3) := by
  intro vs Γ m H r h; replace h : (X174_3 vs).run _ _ _ _ = _ := h; unfold X174_3 at h; split at h
  · exact Eq.trans (by kernel_rfl) h
  · exact M.iFail h
theorem h174 : XOk Tryz.prog Tryz.f174 cuts174 L174 X174 := by
  intro Γ m args H r h; unfold X174 at h; split at h
  · replace h := M.iInt h; obtain ⟨_, rfl, h⟩ := h; replace h := M.iInt h; obtain ⟨_, rfl, h⟩ := h; replace h := M.iInt h; obtain ⟨_, rfl, h⟩ := h; exact ⟨Eq.trans (by kernel_rfl) h, Nat.le_of_ble_eq_true (by kernel_rfl)⟩
  · exact M.iFail h
theorem K174 : CodeOk Tryz.prog 174 k174 := .of Tryz.func174 (by kernel_rfl) (by kernel_rfl) h174 (fc o174_3 fe)
-- sternpost/seq.Ahead
noncomputable def X175 : List Value → M := fun args => match args with
 | [v0, v1] => .kInt .i64 v0 fun x0 => .kInt .i64 v1 fun x1 => 
 .call 131 [.int .i64 x0, .int .i64 x1] fun r2 =>
 .kTup r2 fun vs3 =>
 .nthA vs3 0 fun v4 =>
 .kInt .i64 v4 fun n5 =>
 .kTup r2 fun vs6 =>
 .nthA vs6 1 fun v7 =>
 .kInt .i64 v7 fun n8 =>
 .call 162 [.int .i64 n5, .int .i64 (1 : Int), .int .i64 (2147483647 : Int)] fun r9 =>
 .kBool r9 fun b10 =>
 .ret (.tuple #[.bool b10, .int .i64 n8])
 | _ => .fail
noncomputable def cuts175 : Cuts := []
noncomputable def L175 : Places := []
noncomputable def k175 : FCode := .of X175 L175 cuts175
theorem h175 : XOk Tryz.prog Tryz.f175 cuts175 L175 X175 := by
  intro Γ m args H r h; unfold X175 at h; split at h
  · replace h := M.iInt h; obtain ⟨_, rfl, h⟩ := h; replace h := M.iInt h; obtain ⟨_, rfl, h⟩ := h; exact ⟨Eq.trans (by kernel_rfl) h, Nat.le_of_ble_eq_true (by kernel_rfl)⟩
  · exact M.iFail h
theorem K175 : CodeOk Tryz.prog 175 k175 := .of Tryz.func175 (by kernel_rfl) (by kernel_rfl) h175 fe
-- (*sternpost/sendq.Queue).off
noncomputable def X177 : List Value → M := fun args => match args with
 | [v0, v1] => .kPtr v0 fun x0 => .kInt .i64 v1 fun x1 => 
 .onS x0 fun a2 =>
 .ld a2.block a2.off fun v3 =>
 .kInt .i64 v3 fun n4 =>
 .call 131 [.int .i64 n4, .int .i64 x1] fun r5 =>
 .kTup r5 fun vs6 =>
 .nthA vs6 0 fun v7 =>
 .kInt .i64 v7 fun n8 =>
 .kTup r5 fun vs9 =>
 .nthA vs9 1 fun v10 =>
 .kInt .i64 v10 fun n11 =>
 .cmp .eql n11 (0 : Int) fun t12 =>
 .bool t12 (
 .onS x0 fun a13 =>
 .ld a13.block (a13.off + 1) fun v14 =>
 .kInt .i64 v14 fun n15 =>
 .cmp .leq n8 n15 fun t16 =>
 .ret (.tuple #[.int .i64 n8, .bool t16])) (
 .ret (.tuple #[.int .i64 n8, .bool false]))
 | _ => .fail
noncomputable def cuts177 : Cuts := []
noncomputable def L177 : Places := []
noncomputable def k177 : FCode := .of X177 L177 cuts177
theorem h177 : XOk Tryz.prog Tryz.f177 cuts177 L177 X177 := by
  intro Γ m args H r h; unfold X177 at h; split at h
  · replace h := M.iPtr h; obtain ⟨_, rfl, h⟩ := h; replace h := M.iInt h; obtain ⟨_, rfl, h⟩ := h; exact ⟨Eq.trans (by kernel_rfl) h, Nat.le_of_ble_eq_true (by kernel_rfl)⟩
  · exact M.iFail h
theorem K177 : CodeOk Tryz.prog 177 k177 := .of Tryz.func177 (by kernel_rfl) (by kernel_rfl) h177 fe
-- (*sternpost/conn.Conn).linger
noncomputable def X179 : List Value → M := fun args => match args with
 | [v0] => .kPtr v0 fun x0 => 
 .onS x0 fun a1 =>
 .onS x0 fun a2 =>
 .st 1 (⟨a1.block, a1.off + 12, none⟩ : Addr) (.int .i64 (10 : Int)) (
 .inb (0 : Int) 3 (
 .st 1 ((⟨a2.block, a2.off + 37, none⟩ : Addr).add ((0 : Int).toNat * 1)) (.int .i64 (-1 : Int)) (
 .onS x0 fun a5 =>
 .ld a5.block (a5.off + 7) fun v6 =>
 .kInt .i64 v6 fun n7 =>
 .call 92 [.pointer x0, .int .i64 (2 : Int), .int .i64 n7] fun r8 =>
 .ret (.tuple #[]))))
 | _ => .fail
noncomputable def cuts179 : Cuts := []
noncomputable def L179 : Places := []
noncomputable def k179 : FCode := .of X179 L179 cuts179
theorem h179 : XOk Tryz.prog Tryz.f179 cuts179 L179 X179 := by
  intro Γ m args H r h; unfold X179 at h; split at h
  · replace h := M.iPtr h; obtain ⟨_, rfl, h⟩ := h; exact ⟨Eq.trans (by kernel_rfl) h, Nat.le_of_ble_eq_true (by kernel_rfl)⟩
  · exact M.iFail h
theorem K179 : CodeOk Tryz.prog 179 k179 := .of Tryz.func179 (by kernel_rfl) (by kernel_rfl) h179 fe
-- sternpost/seq.Cut
noncomputable def X180 : List Value → M := fun args => match args with
 | [v0, v1, v2, v3] => .kInt .i64 v0 fun x0 => .kInt .i64 v1 fun x1 => .kInt .i64 v2 fun x2 => .kInt .i64 v3 fun x3 => 
 .call 131 [.int .i64 x0, .int .i64 x2] fun r4 =>
 .kTup r4 fun vs5 =>
 .nthA vs5 0 fun v6 =>
 .kInt .i64 v6 fun n7 =>
 .kTup r4 fun vs8 =>
 .nthA vs8 1 fun v9 =>
 .kInt .i64 v9 fun n10 =>
 .cmp .neq n10 (0 : Int) fun t11 =>
 .bool t11 (
 .jmp 3 []) (
 .call 162 [.int .i64 x1, .int .i64 (0 : Int), .int .i64 (1073741824 : Int)] fun r12 =>
 .kBool r12 fun b13 =>
 .bool (!b13) (
 .jmp 3 []) (
 .call 162 [.int .i64 x3, .int .i64 (0 : Int), .int .i64 (1073741824 : Int)] fun r14 =>
 .kBool r14 fun b15 =>
 .bool (!b15) (
 .jmp 3 []) (
 .cmp .geq n7 (2147483648 : Int) fun t16 =>
 .bool t16 (
 .wr .i64 ((4294967296 : Int) - n7) fun n17 =>
 .wr .i64 (x3 - n17) fun n18 =>
 .fxI (mxi (0 : Int) (mni x1 n18)) fun n19 =>
 .ret (.tuple #[.int .i64 (0 : Int), .int .i64 n19, .int .i64 (0 : Int)])) (
 .wr .i64 (x1 - (mni n7 x1)) fun n20 =>
 .fxI (mni n7 x1) fun n21 =>
 .fxI (mni n20 x3) fun n22 =>
 .ret (.tuple #[.int .i64 n21, .int .i64 n22, .int .i64 (0 : Int)])))))
 | _ => .fail
noncomputable def X180_3 : List Value → M := fun args => match args with
 | [] => 
 .ret (.tuple #[.int .i64 (0 : Int), .int .i64 (0 : Int), .int .i64 (1 : Int)])
 | _ => .fail
noncomputable def cuts180 : Cuts := [(3, [])]
noncomputable def L180 : Places := [(3, X180_3, todoOf Tryz.f180 3)]
noncomputable def k180 : FCode := .of X180 L180 cuts180
theorem o180_3 : OOk Tryz.prog Tryz.f180 cuts180 L180 (3, X180_3, todoOf Tryz.f180 3) := by
  intro vs Γ m H r h; replace h : (X180_3 vs).run _ _ _ _ = _ := h; unfold X180_3 at h; split at h
  · exact Eq.trans (by kernel_rfl) h
  · exact M.iFail h
theorem h180 : XOk Tryz.prog Tryz.f180 cuts180 L180 X180 := by
  intro Γ m args H r h; unfold X180 at h; split at h
  · replace h := M.iInt h; obtain ⟨_, rfl, h⟩ := h; replace h := M.iInt h; obtain ⟨_, rfl, h⟩ := h; replace h := M.iInt h; obtain ⟨_, rfl, h⟩ := h; replace h := M.iInt h; obtain ⟨_, rfl, h⟩ := h; exact ⟨Eq.trans (by kernel_rfl) h, Nat.le_of_ble_eq_true (by kernel_rfl)⟩
  · exact M.iFail h
theorem K180 : CodeOk Tryz.prog 180 k180 := .of Tryz.func180 (by kernel_rfl) (by kernel_rfl) h180 (fc o180_3 fe)
-- (*sternpost/sock.Box).listen
noncomputable def X181 : List Value → M := fun args => match args with
 | [v0, v1] => .kPtr v0 fun x0 => .kPtr v1 fun x1 => 
 .call 207 [.pointer x0] fun r2 =>
 .kTup r2 fun vs3 =>
 .nthA vs3 0 fun v4 =>
 .kInt .i64 v4 fun n5 =>
 .kTup r2 fun vs6 =>
 .nthA vs6 1 fun v7 =>
 .kBool v7 fun b8 =>
 .bool (!b8) (
 .call 58 [.pointer x1, .int .i64 (150 : Int)] fun r9 =>
 .kPtr r9 fun p10 =>
 .ret (.pointer p10)) (
 .onS x0 fun a11 =>
 .ld a11.block a11.off fun v12 =>
 .kPtr v12 fun p13 =>
 .onS x1 fun a14 =>
 .ld a14.block (a14.off + 4) fun v15 =>
 .kInt .i64 v15 fun n16 =>
 .call 63 [.pointer p13, .int .i64 n16] fun r17 =>
 .kInt .i64 r17 fun n18 =>
 .cmp .neq n18 (0 : Int) fun t19 =>
 .bool t19 (
 .call 58 [.pointer x1, .int .i64 n18] fun r20 =>
 .kPtr r20 fun p21 =>
 .ret (.pointer p21)) (
 .onS x0 fun a22 =>
 .ld a22.block (a22.off + 1) fun v23 =>
 .kMp v23 fun r24 =>
 .onS x1 fun a25 =>
 .ld a25.block (a25.off + 4) fun v26 =>
 .kInt .i64 v26 fun n27 =>
 .new (.cells [.int .i64 n27] 0 true) fun b28 =>
 .onS r24 fun q29 =>
 .mupd q29 (.int .i64 n5) (.iface 279 (.pointer (some (⟨b28, 0, none⟩ : Addr)))) (
 .onS x1 fun a30 =>
 .ld a30.block a30.off fun v31 =>
 .kInt .i64 v31 fun n32 =>
 .new (.cells [.int .i64 n32, .int .i64 (0 : Int), .int .i64 n5, .int .i64 (0 : Int), .string (⟨#[]⟩ : ByteArray)] 0 true) fun b33 =>
 .ret (.pointer (some (⟨b33, 0, none⟩ : Addr))))))
 | _ => .fail
noncomputable def cuts181 : Cuts := []
noncomputable def L181 : Places := []
noncomputable def k181 : FCode := .of X181 L181 cuts181
theorem h181 : XOk Tryz.prog Tryz.f181 cuts181 L181 X181 := by
  intro Γ m args H r h; unfold X181 at h; split at h
  · replace h := M.iPtr h; obtain ⟨_, rfl, h⟩ := h; replace h := M.iPtr h; obtain ⟨_, rfl, h⟩ := h; exact ⟨Eq.trans (by kernel_rfl) h, Nat.le_of_ble_eq_true (by kernel_rfl)⟩
  · exact M.iFail h
theorem K181 : CodeOk Tryz.prog 181 k181 := .of Tryz.func181 (by kernel_rfl) (by kernel_rfl) h181 fe
-- (*sternpost/sock.Box).onListening
noncomputable def X183 : List Value → M := fun args => match args with
 | [v0, v1, v2] => .kPtr v0 fun x0 => .kPtr v1 fun x1 => .kPtr v2 fun x2 => 
 .onS x1 fun a3 =>
 .ld a3.block (a3.off + 1) fun v4 =>
 .kInt .i64 v4 fun n5 =>
 .cmp .eql n5 (2 : Int) fun t6 =>
 .bool t6 (
 .call 211 [.pointer x0, .pointer x1, .pointer x2] fun r7 =>
 .kPtr r7 fun p8 =>
 .ret (.pointer p8)) (
 .cmp .eql n5 (7 : Int) fun t9 =>
 .bool t9 (
 .onS x0 fun a10 =>
 .ld a10.block a10.off fun v11 =>
 .kPtr v11 fun p12 =>
 .onS x2 fun a13 =>
 .ld a13.block a13.off fun v14 =>
 .kInt .i64 v14 fun n15 =>
 .call 31 [.pointer p12, .int .i64 n15] fun r16 =>
 .kInt .i64 r16 fun n17 =>
 .onS x0 fun a18 =>
 .ld a18.block (a18.off + 1) fun v19 =>
 .kMp v19 fun r20 =>
 .onS x1 fun a21 =>
 .ld a21.block (a21.off + 2) fun v22 =>
 .kInt .i64 v22 fun n23 =>
 .dele r20 (.int .i64 n23) (
 .call 58 [.pointer x1, .int .i64 (0 : Int)] fun r24 =>
 .kPtr r24 fun p25 =>
 .ret (.pointer p25))) (
 .cmp .eql n5 (9 : Int) fun t26 =>
 .bool t26 (
 .onS x1 fun a27 =>
 .ld a27.block a27.off fun v28 =>
 .kInt .i64 v28 fun n29 =>
 .new (.cells [.int .i64 n29, .int .i64 (0 : Int), .int .i64 (0 : Int), .int .i64 (1 : Int), .string (⟨#[]⟩ : ByteArray)] 0 true) fun b30 =>
 .ret (.pointer (some (⟨b30, 0, none⟩ : Addr)))) (
 .call 58 [.pointer x1, .int .i64 (4 : Int)] fun r31 =>
 .kPtr r31 fun p32 =>
 .ret (.pointer p32))))
 | _ => .fail
noncomputable def cuts183 : Cuts := []
noncomputable def L183 : Places := []
noncomputable def k183 : FCode := .of X183 L183 cuts183
theorem h183 : XOk Tryz.prog Tryz.f183 cuts183 L183 X183 := by
  intro Γ m args H r h; unfold X183 at h; split at h
  · replace h := M.iPtr h; obtain ⟨_, rfl, h⟩ := h; replace h := M.iPtr h; obtain ⟨_, rfl, h⟩ := h; replace h := M.iPtr h; obtain ⟨_, rfl, h⟩ := h; exact ⟨Eq.trans (by kernel_rfl) h, Nat.le_of_ble_eq_true (by kernel_rfl)⟩
  · exact M.iFail h
theorem K183 : CodeOk Tryz.prog 183 k183 := .of Tryz.func183 (by kernel_rfl) (by kernel_rfl) h183 fe
-- slices.insertionSortOrdered[int]
noncomputable def X185 : List Value → M := fun args => match args with
 | [v0, v1, v2] => .kSl v0 fun a0 l1 c2 => .kInt .i64 v1 fun x3 => .kInt .i64 v2 fun x4 => 
 .wr .i64 (x3 + (1 : Int)) fun n5 =>
 .jmp 100001 [.slice a0 l1 c2, .int .i64 x3, .int .i64 x4, .int .i64 n5]
 | _ => .fail
noncomputable def X185_2 : List Value → M := fun args => match args with
 | [v0, v1, v2, v3] => .kSl v0 fun a0 l1 c2 => .kInt .i64 v1 fun x3 => .kInt .i64 v2 fun x4 => .kInt .i64 v3 fun x5 => 
 .wr .i64 (x5 + (1 : Int)) fun n6 =>
 .jmp 100001 [.slice a0 l1 c2, .int .i64 x3, .int .i64 x4, .int .i64 n6]
 | _ => .fail
noncomputable def X185_100001 : List Value → M := fun args => match args with
 | [v0, v1, v2, v3] => .kSl v0 fun a0 l1 c2 => .kInt .i64 v1 fun x3 => .kInt .i64 v2 fun x4 => .kInt .i64 v3 fun x5 => 
 .cmp .lss x5 x4 fun t6 =>
 .bool t6 (
 .jmp 100004 [.slice a0 l1 c2, .int .i64 x3, .int .i64 x4, .int .i64 x5, .int .i64 x5]) (
 .ret (.tuple #[]))
 | _ => .fail
noncomputable def X185_100004 : List Value → M := fun args => match args with
 | [v0, v1, v2, v3, v4] => .kSl v0 fun a0 l1 c2 => .kInt .i64 v1 fun x3 => .kInt .i64 v2 fun x4 => .kInt .i64 v3 fun x5 => .kInt .i64 v4 fun x6 => 
 .cmp .gtr x6 x3 fun t7 =>
 .bool t7 (
 .onS a0 fun a8 =>
 .inb x6 l1 (
 .ld ((a8.add (x6.toNat * 1)).block) ((a8.add (x6.toNat * 1)).off) fun v9 =>
 .kInt .i64 v9 fun n10 =>
 .wr .i64 (x6 - (1 : Int)) fun n11 =>
 .onS a0 fun a12 =>
 .inb n11 l1 (
 .ld ((a12.add (n11.toNat * 1)).block) ((a12.add (n11.toNat * 1)).off) fun v13 =>
 .kInt .i64 v13 fun n14 =>
 .call 191 [.int .i64 n10, .int .i64 n14] fun r15 =>
 .kBool r15 fun b16 =>
 .bool b16 (
 .wr .i64 (x6 - (1 : Int)) fun n17 =>
 .wr .i64 (x6 - (1 : Int)) fun n18 =>
 .onS a0 fun a19 =>
 .inb n18 l1 (
 .ld ((a19.add (n18.toNat * 1)).block) ((a19.add (n18.toNat * 1)).off) fun v20 =>
 .kInt .i64 v20 fun n21 =>
 .onS a0 fun a22 =>
 .inb x6 l1 (
 .ld ((a22.add (x6.toNat * 1)).block) ((a22.add (x6.toNat * 1)).off) fun v23 =>
 .kInt .i64 v23 fun n24 =>
 .onS a0 fun a25 =>
 .inb x6 l1 (
 .st 1 (a25.add (x6.toNat * 1)) (.int .i64 n21) (
 .onS a0 fun a27 =>
 .inb n17 l1 (
 .st 1 (a27.add (n17.toNat * 1)) (.int .i64 n24) (
 .wr .i64 (x6 - (1 : Int)) fun n29 =>
 .jmp 100004 [.slice a0 l1 c2, .int .i64 x3, .int .i64 x4, .int .i64 x5, .int .i64 n29]))))))) (
 .jmp 2 [.slice a0 l1 c2, .int .i64 x3, .int .i64 x4, .int .i64 x5])))) (
 .jmp 2 [.slice a0 l1 c2, .int .i64 x3, .int .i64 x4, .int .i64 x5])
 | _ => .fail
noncomputable def cuts185 : Cuts := [(100001, [0, 1, 2, 6]), (100004, [0, 1, 2, 6, 7]), (2, [0, 1, 2, 6])]
noncomputable def L185 : Places := [(2, X185_2, todoOf Tryz.f185 2), (100001, X185_100001, todoOf Tryz.f185 100001), (100004, X185_100004, todoOf Tryz.f185 100004)]
noncomputable def k185 : FCode := .of X185 L185 cuts185
theorem o185_2 : OOk Tryz.prog Tryz.f185 cuts185 L185 (2, X185_2, todoOf Tryz.f185 2) := by
  intro vs Γ m H r h; replace h : (X185_2 vs).run _ _ _ _ = _ := h; unfold X185_2 at h; split at h
  · replace h := M.iSl h; obtain ⟨_, _, _, rfl, h⟩ := h; replace h := M.iInt h; obtain ⟨_, rfl, h⟩ := h; replace h := M.iInt h; obtain ⟨_, rfl, h⟩ := h; replace h := M.iInt h; obtain ⟨_, rfl, h⟩ := h; exact Eq.trans (by kernel_rfl) h
  · exact M.iFail h
theorem o185_100001 : OOk Tryz.prog Tryz.f185 cuts185 L185 (100001, X185_100001, todoOf Tryz.f185 100001) := by
  intro vs Γ m H r h; replace h : (X185_100001 vs).run _ _ _ _ = _ := h; unfold X185_100001 at h; split at h
  · replace h := M.iSl h; obtain ⟨_, _, _, rfl, h⟩ := h; replace h := M.iInt h; obtain ⟨_, rfl, h⟩ := h; replace h := M.iInt h; obtain ⟨_, rfl, h⟩ := h; replace h := M.iInt h; obtain ⟨_, rfl, h⟩ := h; exact Eq.trans (by kernel_rfl) h
  · exact M.iFail h
theorem o185_100004 : OOk Tryz.prog Tryz.f185 cuts185 L185 (100004, X185_100004, todoOf Tryz.f185 100004) := by
  intro vs Γ m H r h; replace h : (X185_100004 vs).run _ _ _ _ = _ := h; unfold X185_100004 at h; split at h
  · replace h := M.iSl h; obtain ⟨_, _, _, rfl, h⟩ := h; replace h := M.iInt h; obtain ⟨_, rfl, h⟩ := h; replace h := M.iInt h; obtain ⟨_, rfl, h⟩ := h; replace h := M.iInt h; obtain ⟨_, rfl, h⟩ := h; replace h := M.iInt h; obtain ⟨_, rfl, h⟩ := h; exact Eq.trans (by kernel_rfl) h
  · exact M.iFail h
theorem h185 : XOk Tryz.prog Tryz.f185 cuts185 L185 X185 := by
  intro Γ m args H r h; unfold X185 at h; split at h
  · replace h := M.iSl h; obtain ⟨_, _, _, rfl, h⟩ := h; replace h := M.iInt h; obtain ⟨_, rfl, h⟩ := h; replace h := M.iInt h; obtain ⟨_, rfl, h⟩ := h; exact ⟨Eq.trans (by kernel_rfl) h, Nat.le_of_ble_eq_true (by kernel_rfl)⟩
  · exact M.iFail h
theorem K185 : CodeOk Tryz.prog 185 k185 := .of Tryz.func185 (by kernel_rfl) (by kernel_rfl) h185 (fc o185_2 (fc o185_100001 (fc o185_100004 fe)))
-- math/bits.Len64
noncomputable def X195 : List Value → M := fun args => match args with
 | [v0] => .kInt .u64 v0 fun x0 => 
 .cmp .geq x0 (4294967296 : Int) fun t1 =>
 .bool t1 (
 .nite ((32 : Int) < 0) (
 .fxI (x0 / 2 ^ (min (32 : Int).toNat IntKind.u64.bits)) fun n2 =>
 .jmp 4 [.int .u64 n2, .int .i64 (32 : Int)])) (
 .jmp 4 [.int .u64 x0, .int .i64 (0 : Int)])
 | _ => .fail
noncomputable def X195_4 : List Value → M := fun args => match args with
 | [v0, v1] => .kInt .u64 v0 fun x0 => .kInt .i64 v1 fun x1 => 
 .cmp .geq x0 (65536 : Int) fun t2 =>
 .bool t2 (
 .nite ((16 : Int) < 0) (
 .wr .i64 (x1 + (16 : Int)) fun n3 =>
 .fxI (x0 / 2 ^ (min (16 : Int).toNat IntKind.u64.bits)) fun n4 =>
 .jmp 7 [.int .u64 n4, .int .i64 n3])) (
 .jmp 7 [.int .u64 x0, .int .i64 x1])
 | _ => .fail
noncomputable def X195_7 : List Value → M := fun args => match args with
 | [v0, v1] => .kInt .u64 v0 fun x0 => .kInt .i64 v1 fun x1 => 
 .cmp .geq x0 (256 : Int) fun t2 =>
 .bool t2 (
 .nite ((8 : Int) < 0) (
 .wr .i64 (x1 + (8 : Int)) fun n3 =>
 .fxI (x0 / 2 ^ (min (8 : Int).toNat IntKind.u64.bits)) fun n4 =>
 .jmp 10 [.int .u64 n4, .int .i64 n3])) (
 .jmp 10 [.int .u64 x0, .int .i64 x1])
 | _ => .fail
noncomputable def X195_10 : List Value → M := fun args => match args with
 | [v0, v1] => .kInt .u64 v0 fun x0 => .kInt .i64 v1 fun x1 => 
 .wr .u8 x0 fun n2 =>
 .inb n2 (⟨#[0, 1, 2, 2, 3, 3, 3, 3, 4, 4, 4, 4, 4, 4, 4, 4, 5, 5, 5, 5, 5, 5, 5, 5, 5, 5, 5, 5, 5, 5, 5, 5, 6, 6, 6, 6, 6, 6, 6, 6, 6, 6, 6, 6, 6, 6, 6, 6, 6, 6, 6, 6, 6, 6, 6, 6, 6, 6, 6, 6, 6, 6, 6, 6, 7, 7, 7, 7, 7, 7, 7, 7, 7, 7, 7, 7, 7, 7, 7, 7, 7, 7, 7, 7, 7, 7, 7, 7, 7, 7, 7, 7, 7, 7, 7, 7, 7, 7, 7, 7, 7, 7, 7, 7, 7, 7, 7, 7, 7, 7, 7, 7, 7, 7, 7, 7, 7, 7, 7, 7, 7, 7, 7, 7, 7, 7, 7, 7, 8, 8, 8, 8, 8, 8, 8, 8, 8, 8, 8, 8, 8, 8, 8, 8, 8, 8, 8, 8, 8, 8, 8, 8, 8, 8, 8, 8, 8, 8, 8, 8, 8, 8, 8, 8, 8, 8, 8, 8, 8, 8, 8, 8, 8, 8, 8, 8, 8, 8, 8, 8, 8, 8, 8, 8, 8, 8, 8, 8, 8, 8, 8, 8, 8, 8, 8, 8, 8, 8, 8, 8, 8, 8, 8, 8, 8, 8, 8, 8, 8, 8, 8, 8, 8, 8, 8, 8, 8, 8, 8, 8, 8, 8, 8, 8, 8, 8, 8, 8, 8, 8, 8, 8, 8, 8, 8, 8, 8, 8, 8, 8, 8, 8, 8, 8, 8, 8, 8, 8, 8, 8, 8, 8, 8, 8, 8, 8]⟩ : ByteArray).size (
 .byte (⟨#[0, 1, 2, 2, 3, 3, 3, 3, 4, 4, 4, 4, 4, 4, 4, 4, 5, 5, 5, 5, 5, 5, 5, 5, 5, 5, 5, 5, 5, 5, 5, 5, 6, 6, 6, 6, 6, 6, 6, 6, 6, 6, 6, 6, 6, 6, 6, 6, 6, 6, 6, 6, 6, 6, 6, 6, 6, 6, 6, 6, 6, 6, 6, 6, 7, 7, 7, 7, 7, 7, 7, 7, 7, 7, 7, 7, 7, 7, 7, 7, 7, 7, 7, 7, 7, 7, 7, 7, 7, 7, 7, 7, 7, 7, 7, 7, 7, 7, 7, 7, 7, 7, 7, 7, 7, 7, 7, 7, 7, 7, 7, 7, 7, 7, 7, 7, 7, 7, 7, 7, 7, 7, 7, 7, 7, 7, 7, 7, 8, 8, 8, 8, 8, 8, 8, 8, 8, 8, 8, 8, 8, 8, 8, 8, 8, 8, 8, 8, 8, 8, 8, 8, 8, 8, 8, 8, 8, 8, 8, 8, 8, 8, 8, 8, 8, 8, 8, 8, 8, 8, 8, 8, 8, 8, 8, 8, 8, 8, 8, 8, 8, 8, 8, 8, 8, 8, 8, 8, 8, 8, 8, 8, 8, 8, 8, 8, 8, 8, 8, 8, 8, 8, 8, 8, 8, 8, 8, 8, 8, 8, 8, 8, 8, 8, 8, 8, 8, 8, 8, 8, 8, 8, 8, 8, 8, 8, 8, 8, 8, 8, 8, 8, 8, 8, 8, 8, 8, 8, 8, 8, 8, 8, 8, 8, 8, 8, 8, 8, 8, 8, 8, 8, 8, 8, 8, 8]⟩ : ByteArray) n2.toNat fun n3 =>
 .wr .i64 n3 fun n4 =>
 .wr .i64 (x1 + n4) fun n5 =>
 .ret (.int .i64 n5))
 | _ => .fail
noncomputable def cuts195 : Cuts := [(10, [0, 2]), (7, [0, 2]), (4, [0, 2])]
noncomputable def L195 : Places := [(4, X195_4, todoOf Tryz.f195 4), (7, X195_7, todoOf Tryz.f195 7), (10, X195_10, todoOf Tryz.f195 10)]
noncomputable def k195 : FCode := .of X195 L195 cuts195
theorem o195_4 : OOk Tryz.prog Tryz.f195 cuts195 L195 (4, X195_4, todoOf Tryz.f195 4) := by
  intro vs Γ m H r h; replace h : (X195_4 vs).run _ _ _ _ = _ := h; unfold X195_4 at h; split at h
  · replace h := M.iInt h; obtain ⟨_, rfl, h⟩ := h; replace h := M.iInt h; obtain ⟨_, rfl, h⟩ := h; exact Eq.trans (by kernel_rfl) h
  · exact M.iFail h
theorem o195_7 : OOk Tryz.prog Tryz.f195 cuts195 L195 (7, X195_7, todoOf Tryz.f195 7) := by
  intro vs Γ m H r h; replace h : (X195_7 vs).run _ _ _ _ = _ := h; unfold X195_7 at h; split at h
  · replace h := M.iInt h; obtain ⟨_, rfl, h⟩ := h; replace h := M.iInt h; obtain ⟨_, rfl, h⟩ := h; exact Eq.trans (by kernel_rfl) h
  · exact M.iFail h
theorem o195_10 : OOk Tryz.prog Tryz.f195 cuts195 L195 (10, X195_10, todoOf Tryz.f195 10) := by
  intro vs Γ m H r h; replace h : (X195_10 vs).run _ _ _ _ = _ := h; unfold X195_10 at h; split at h
  · replace h := M.iInt h; obtain ⟨_, rfl, h⟩ := h; replace h := M.iInt h; obtain ⟨_, rfl, h⟩ := h; exact Eq.trans (by kernel_rfl) h
  · exact M.iFail h
theorem h195 : XOk Tryz.prog Tryz.f195 cuts195 L195 X195 := by
  intro Γ m args H r h; unfold X195 at h; split at h
  · replace h := M.iInt h; obtain ⟨_, rfl, h⟩ := h; exact ⟨Eq.trans (by kernel_rfl) h, Nat.le_of_ble_eq_true (by kernel_rfl)⟩
  · exact M.iFail h
theorem K195 : CodeOk Tryz.prog 195 k195 := .of Tryz.func195 (by kernel_rfl) (by kernel_rfl) h195 (fc o195_4 (fc o195_7 (fc o195_10 fe)))
-- sternpost/cong.New$1
noncomputable def X196 : List Value → M := fun args => match args with
 | [v0, x1] => .kInt .i64 v0 fun x0 => 
 .kPtr x1 fun p2 =>
 .onS p2 fun a3 =>
 .ld a3.block a3.off fun v4 =>
 .kInt .i64 v4 fun n5 =>
 .fxI (mni (1048576 : Int) (mxi n5 x0)) fun n6 =>
 .ret (.int .i64 n6)
 | _ => .fail
noncomputable def cuts196 : Cuts := []
noncomputable def L196 : Places := []
noncomputable def k196 : FCode := .of X196 L196 cuts196
theorem h196 : XOk Tryz.prog Tryz.f196 cuts196 L196 X196 := by
  intro Γ m args H r h; unfold X196 at h; split at h
  · replace h := M.iInt h; obtain ⟨_, rfl, h⟩ := h; exact ⟨Eq.trans (by kernel_rfl) h, Nat.le_of_ble_eq_true (by kernel_rfl)⟩
  · exact M.iFail h
theorem K196 : CodeOk Tryz.prog 196 k196 := .of Tryz.func196 (by kernel_rfl) (by kernel_rfl) h196 fe
-- sternpost/sum.Put
noncomputable def X197 : List Value → M := fun args => match args with
 | [v0, v1] => .kInt .i64 v0 fun x0 => .kInt .i64 v1 fun x1 => 
 .cmp .lss x1 (1 : Int) fun t2 =>
 .bool t2 (
 .jmp 2 []) (
 .cmp .gtr x1 (6 : Int) fun t3 =>
 .bool t3 (
 .jmp 2 []) (
 .cmp .lss x0 (0 : Int) fun t4 =>
 .bool t4 (
 .jmp 2 []) (
 .wr .i64 ((8 : Int) * x1) fun n5 =>
 .nite (n5 < 0) (
 .cmp .gtr (x0 / 2 ^ (min n5.toNat IntKind.i64.bits)) (0 : Int) fun t6 =>
 .bool t6 (
 .jmp 2 []) (
 .ite (0 ≤ x1 ∧ x1 ≤ x1 ∧ 1 * x1 ≤ 140737488351232 ∧ x1 ≤ 140737488351232) (
 .new (.cells (zeroCellsOf (.int .u8 (0 : Int)) x1.toNat) 1 true) fun b7 =>
 .fxV (.slice (some ⟨b7, 0, none⟩) x1.toNat x1.toNat) fun v8 =>
 .fxI ((x1.toNat : Nat) : Int) fun n9 =>
 .jmp 100005 [.int .i64 x0, .int .i64 x1, v8, .int .i64 n9, .int .i64 (0 : Int)]))))))
 | _ => .fail
noncomputable def X197_2 : List Value → M := fun args => match args with
 | [] => 
 .ret (.tuple #[.string (⟨#[]⟩ : ByteArray), .int .i64 (1 : Int)])
 | _ => .fail
noncomputable def X197_100005 : List Value → M := fun args => match args with
 | [v0, v1, x2, v3, v4] => .kInt .i64 v0 fun x0 => .kInt .i64 v1 fun x1 => .kInt .i64 v3 fun x3 => .kInt .i64 v4 fun x4 => 
 .cmp .lss x4 x3 fun t5 =>
 .bool t5 (
 .wr .i64 (x1 - (1 : Int)) fun n6 =>
 .wr .i64 (n6 - x4) fun n7 =>
 .wr .i64 ((8 : Int) * n7) fun n8 =>
 .nite (n8 < 0) (
 .wr .u8 (x0 / 2 ^ (min n8.toNat IntKind.i64.bits)) fun n9 =>
 .kSl x2 fun a10 l11 c12 =>
 .onS a10 fun a13 =>
 .inb x4 l11 (
 .st 1 (a13.add (x4.toNat * 1)) (.int .u8 n9) (
 .wr .i64 (x4 + (1 : Int)) fun n15 =>
 .jmp 100005 [.int .i64 x0, .int .i64 x1, x2, .int .i64 x3, .int .i64 n15])))) (
 .kSl x2 fun a16 l17 c18 =>
 .opt a16 (
 .ret (.tuple #[.string .empty, .int .i64 (0 : Int)])) (fun a19 =>
 .ldc a19.block fun cs20 =>
 .ite (a19.off + l17 ≤ cs20.length) (
 .onS (bytesOf (range cs20 a19.off l17)) fun l21 =>
 .fxV (.string (⟨l21.toArray⟩ : ByteArray)) fun v22 =>
 .ret (.tuple #[v22, .int .i64 (0 : Int)]))))
 | _ => .fail
noncomputable def cuts197 : Cuts := [(100005, [0, 1, 6, 28, 29]), (2, [])]
noncomputable def L197 : Places := [(2, X197_2, todoOf Tryz.f197 2), (100005, X197_100005, todoOf Tryz.f197 100005)]
noncomputable def k197 : FCode := .of X197 L197 cuts197
theorem o197_2 : OOk Tryz.prog Tryz.f197 cuts197 L197 (2, X197_2, todoOf Tryz.f197 2) := by
  intro vs Γ m H r h; replace h : (X197_2 vs).run _ _ _ _ = _ := h; unfold X197_2 at h; split at h
  · exact Eq.trans (by kernel_rfl) h
  · exact M.iFail h
theorem o197_100005 : OOk Tryz.prog Tryz.f197 cuts197 L197 (100005, X197_100005, todoOf Tryz.f197 100005) := by
  intro vs Γ m H r h; replace h : (X197_100005 vs).run _ _ _ _ = _ := h; unfold X197_100005 at h; split at h
  · replace h := M.iInt h; obtain ⟨_, rfl, h⟩ := h; replace h := M.iInt h; obtain ⟨_, rfl, h⟩ := h; replace h := M.iInt h; obtain ⟨_, rfl, h⟩ := h; replace h := M.iInt h; obtain ⟨_, rfl, h⟩ := h; exact Eq.trans (by kernel_rfl) h
  · exact M.iFail h
theorem h197 : XOk Tryz.prog Tryz.f197 cuts197 L197 X197 := by
  intro Γ m args H r h; unfold X197 at h; split at h
  · replace h := M.iInt h; obtain ⟨_, rfl, h⟩ := h; replace h := M.iInt h; obtain ⟨_, rfl, h⟩ := h; exact ⟨Eq.trans (by kernel_rfl) h, Nat.le_of_ble_eq_true (by kernel_rfl)⟩
  · exact M.iFail h
theorem K197 : CodeOk Tryz.prog 197 k197 := .of Tryz.func197 (by kernel_rfl) (by kernel_rfl) h197 (fc o197_2 (fc o197_100005 fe))
-- (*sternpost/sock.Box).free
noncomputable def X207 : List Value → M := fun args => match args with
 | [v0] => .kPtr v0 fun x0 => 
 .jmp 100002 [.pointer x0, .int .i64 (0 : Int)]
 | _ => .fail
noncomputable def X207_100002 : List Value → M := fun args => match args with
 | [v0, v1] => .kPtr v0 fun x0 => .kInt .i64 v1 fun x1 => 
 .cmp .lss x1 (64 : Int) fun t2 =>
 .bool t2 (
 .onS x0 fun a3 =>
 .ld a3.block (a3.off + 1) fun v4 =>
 .kMp v4 fun r5 =>
 .lookupK 133 (.map r5) (.int .i64 x1) false fun v6 =>
 .nilI v6 (.ret (.tuple #[.int .i64 x1, .bool true])) (.wr .i64 (x1 + (1 : Int)) fun n7 =>
 .jmp 100002 [.pointer x0, .int .i64 n7])) (
 .ret (.tuple #[.int .i64 (0 : Int), .bool false]))
 | _ => .fail
noncomputable def cuts207 : Cuts := [(100002, [0, 5])]
noncomputable def L207 : Places := [(100002, X207_100002, todoOf Tryz.f207 100002)]
noncomputable def k207 : FCode := .of X207 L207 cuts207
theorem o207_100002 : OOk Tryz.prog Tryz.f207 cuts207 L207 (100002, X207_100002, todoOf Tryz.f207 100002) := by
  intro vs Γ m H r h; replace h : (X207_100002 vs).run _ _ _ _ = _ := h; unfold X207_100002 at h; split at h
  · replace h := M.iPtr h; obtain ⟨_, rfl, h⟩ := h; replace h := M.iInt h; obtain ⟨_, rfl, h⟩ := h; exact Eq.trans (by kernel_rfl) h
  · exact M.iFail h
theorem h207 : XOk Tryz.prog Tryz.f207 cuts207 L207 X207 := by
  intro Γ m args H r h; unfold X207 at h; split at h
  · replace h := M.iPtr h; obtain ⟨_, rfl, h⟩ := h; exact ⟨Eq.trans (by kernel_rfl) h, Nat.le_of_ble_eq_true (by kernel_rfl)⟩
  · exact M.iFail h
theorem K207 : CodeOk Tryz.prog 207 k207 := .of Tryz.func207 (by kernel_rfl) (by kernel_rfl) h207 (fc o207_100002 fe)
-- (*sternpost/sock.Box).accept
noncomputable def X211 : List Value → M := fun args => match args with
 | [v0, v1, v2] => .kPtr v0 fun x0 => .kPtr v1 fun x1 => .kPtr v2 fun x2 => 
 .call 207 [.pointer x0] fun r3 =>
 .kTup r3 fun vs4 =>
 .nthA vs4 0 fun v5 =>
 .kInt .i64 v5 fun n6 =>
 .kTup r3 fun vs7 =>
 .nthA vs7 1 fun v8 =>
 .kBool v8 fun b9 =>
 .bool (!b9) (
 .call 58 [.pointer x1, .int .i64 (150 : Int)] fun r10 =>
 .kPtr r10 fun p11 =>
 .ret (.pointer p11)) (
 .onS x0 fun a12 =>
 .ld a12.block a12.off fun v13 =>
 .kPtr v13 fun p14 =>
 .onS x2 fun a15 =>
 .ld a15.block a15.off fun v16 =>
 .kInt .i64 v16 fun n17 =>
 .call 55 [.pointer p14, .int .i64 n17] fun r18 =>
 .kTup r18 fun vs19 =>
 .nthA vs19 0 fun v20 =>
 .kInt .i64 v20 fun n21 =>
 .kTup r18 fun vs22 =>
 .nthA vs22 1 fun v23 =>
 .kBool v23 fun b24 =>
 .bool (!b24) (
 .ret (.pointer none)) (
 .onS x0 fun a25 =>
 .ld a25.block (a25.off + 1) fun v26 =>
 .kMp v26 fun r27 =>
 .new (.cells [.int .i64 n21] 0 true) fun b28 =>
 .onS r27 fun q29 =>
 .mupd q29 (.int .i64 n6) (.iface 138 (.pointer (some (⟨b28, 0, none⟩ : Addr)))) (
 .onS x1 fun a30 =>
 .ld a30.block a30.off fun v31 =>
 .kInt .i64 v31 fun n32 =>
 .new (.cells [.int .i64 n32, .int .i64 (0 : Int), .int .i64 n6, .int .i64 (0 : Int), .string (⟨#[]⟩ : ByteArray)] 0 true) fun b33 =>
 .ret (.pointer (some (⟨b33, 0, none⟩ : Addr))))))
 | _ => .fail
noncomputable def cuts211 : Cuts := []
noncomputable def L211 : Places := []
noncomputable def k211 : FCode := .of X211 L211 cuts211
theorem h211 : XOk Tryz.prog Tryz.f211 cuts211 L211 X211 := by
  intro Γ m args H r h; unfold X211 at h; split at h
  · replace h := M.iPtr h; obtain ⟨_, rfl, h⟩ := h; replace h := M.iPtr h; obtain ⟨_, rfl, h⟩ := h; replace h := M.iPtr h; obtain ⟨_, rfl, h⟩ := h; exact ⟨Eq.trans (by kernel_rfl) h, Nat.le_of_ble_eq_true (by kernel_rfl)⟩
  · exact M.iFail h
theorem K211 : CodeOk Tryz.prog 211 k211 := .of Tryz.func211 (by kernel_rfl) (by kernel_rfl) h211 fe
noncomputable def EE : Tr Ent := (.n none (.n none (.n none (.n none (.n (some (.code k15)) (.n none (.n (some (.code k63)) .e .e) (.n (some (.code k95)) (.n (some (.code k159)) .e .e) .e)) (.n none (.n none (.n (some (.code k143)) .e .e) (.n (some (.code k207)) .e .e)) (.n none (.n (some (.code k175)) .e .e) .e))) (.n (some (.code k23)) (.n (some (.code k39)) (.n (some (.code k71)) .e .e) (.n (some (.code k103)) (.n (some (.giv g167)) .e .e) .e)) (.n (some (.code k55)) (.n (some (.code k87)) (.n (some (.code k151)) .e .e) .e) (.n (some (.code k119)) (.n (some (.code k183)) .e .e) .e)))) (.n none (.n (some (.code k19)) (.n none (.n (some (.code k67)) (.n (some (.code k131)) .e .e) (.n (some (.code k195)) .e .e)) (.n none (.n (some (.code k163)) .e .e) .e)) (.n (some (.code k51)) (.n (some (.code k83)) (.n (some (.code k147)) .e .e) (.n (some (.code k211)) .e .e)) (.n none (.n (some (.code k179)) .e .e) .e))) (.n (some (.code k27)) (.n none (.n (some (.code k75)) (.n (some (.code k139)) .e .e) .e) (.n none (.n (some (.code k171)) .e .e) .e)) (.n (some (.code k59)) (.n none (.n (some (.code k155)) .e .e) .e) .e)))) (.n none (.n none (.n (some (.code k17)) (.n (some (.code k33)) (.n (some (.code k65)) (.n (some (.code k129)) .e .e) .e) (.n (some (.code k97)) (.n (some (.code k161)) .e .e) .e)) (.n (some (.code k49)) (.n none (.n (some (.code k145)) .e .e) .e) (.n none (.n (some (.code k177)) .e .e) .e))) (.n (some (.code k25)) (.n none (.n (some (.code k73)) (.n (some (.code k137)) .e .e) .e) (.n (some (.code k105)) (.n (some (.code k169)) .e .e) .e)) (.n none (.n (some (.code k89)) .e .e) (.n (some (.code k121)) (.n (some (.code k185)) .e .e) .e)))) (.n (some (.code k13)) (.n (some (.code k21)) (.n (some (.code k37)) (.n (some (.code k69)) .e (.n (some (.code k197)) .e .e)) (.n none (.n (some (.code k165)) .e .e) .e)) (.n (some (.code k53)) (.n (some (.code k85)) (.n (some (.code k149)) .e .e) .e) (.n (some (.code k117)) (.n (some (.code k181)) .e .e) .e))) (.n (some (.code k29)) (.n (some (.code k45)) (.n none (.n (some (.code k141)) .e .e) .e) (.n (some (.code k109)) (.n (some (.code k173)) .e .e) .e)) (.n none (.n none (.n (some (.code k157)) .e .e) .e) (.n (some (.code k125)) .e .e)))))) (.n none (.n none (.n none (.n (some (.code k16)) (.n (some (.code k32)) (.n (some (.code k64)) (.n (some (.code k128)) .e .e) .e) (.n (some (.code k96)) (.n (some (.code k160)) .e .e) .e)) (.n none (.n (some (.code k80)) (.n (some (.code k144)) .e .e) .e) (.n (some (.code k112)) .e .e))) (.n (some (.code k24)) (.n none (.n (some (.code k72)) .e .e) (.n (some (.code k104)) (.n (some (.code k168)) .e .e) .e)) (.n none (.n (some (.code k88)) .e .e) (.n (some (.code k120)) .e .e)))) (.n none (.n none (.n (some (.code k36)) (.n (some (.code k68)) .e (.n (some (.code k196)) .e .e)) (.n (some (.code k100)) (.n (some (.code k164)) .e .e) .e)) (.n (some (.code k52)) (.n (some (.code k84)) (.n (some (.code k148)) .e .e) .e) (.n none (.n (some (.code k180)) .e .e) .e))) (.n (some (.code k28)) (.n (some (.code k44)) .e (.n (some (.code k108)) (.n (some (.code k172)) .e .e) .e)) (.n (some (.giv g60)) (.n (some (.code k92)) .e .e) (.n (some (.code k124)) .e .e))))) (.n none (.n none (.n (some (.code k18)) (.n none (.n (some (.code k66)) (.n (some (.code k130)) .e .e) .e) (.n (some (.code k98)) (.n (some (.code k162)) .e .e) .e)) (.n none (.n (some (.code k82)) (.n (some (.code k146)) .e .e) .e) (.n (some (.code k114)) .e .e))) (.n (some (.code k26)) (.n (some (.code k42)) (.n (some (.code k74)) (.n (some (.code k138)) .e .e) .e) (.n (some (.code k106)) (.n (some (.code k170)) .e .e) .e)) (.n none (.n none (.n (some (.code k154)) .e .e) .e) (.n (some (.code k122)) .e .e)))) (.n none (.n (some (.code k22)) (.n (some (.code k38)) (.n (some (.code k70)) (.n (some (.code k134)) .e .e) .e) (.n (some (.code k102)) (.n (some (.code k166)) .e .e) .e)) (.n (some (.code k54)) (.n (some (.code k86)) (.n (some (.code k150)) .e .e) .e) (.n (some (.code k118)) .e .e))) (.n (some (.code k30)) (.n (some (.code k46)) (.n none (.n (some (.code k142)) .e .e) .e) (.n (some (.code k110)) (.n (some (.code k174)) .e .e) .e)) (.n (some (.code k62)) (.n (some (.code k94)) (.n (some (.code k158)) .e .e) .e) (.n (some (.code k126)) .e .e)))))))
theorem EE_ok : TrOk Tryz.prog EE := ((TrOkAt.n ent_none (TrOkAt.n ent_none (TrOkAt.n ent_none (TrOkAt.n ent_none (TrOkAt.n (ent_one K15) (TrOkAt.n ent_none (TrOkAt.n (ent_one K63) TrOkAt.e TrOkAt.e) (TrOkAt.n (ent_one K95) (TrOkAt.n (ent_one K159) TrOkAt.e TrOkAt.e) TrOkAt.e)) (TrOkAt.n ent_none (TrOkAt.n ent_none (TrOkAt.n (ent_one K143) TrOkAt.e TrOkAt.e) (TrOkAt.n (ent_one K207) TrOkAt.e TrOkAt.e)) (TrOkAt.n ent_none (TrOkAt.n (ent_one K175) TrOkAt.e TrOkAt.e) TrOkAt.e))) (TrOkAt.n (ent_one K23) (TrOkAt.n (ent_one K39) (TrOkAt.n (ent_one K71) TrOkAt.e TrOkAt.e) (TrOkAt.n (ent_one K103) (TrOkAt.n (ent_one g167_ok) TrOkAt.e TrOkAt.e) TrOkAt.e)) (TrOkAt.n (ent_one K55) (TrOkAt.n (ent_one K87) (TrOkAt.n (ent_one K151) TrOkAt.e TrOkAt.e) TrOkAt.e) (TrOkAt.n (ent_one K119) (TrOkAt.n (ent_one K183) TrOkAt.e TrOkAt.e) TrOkAt.e)))) (TrOkAt.n ent_none (TrOkAt.n (ent_one K19) (TrOkAt.n ent_none (TrOkAt.n (ent_one K67) (TrOkAt.n (ent_one K131) TrOkAt.e TrOkAt.e) (TrOkAt.n (ent_one K195) TrOkAt.e TrOkAt.e)) (TrOkAt.n ent_none (TrOkAt.n (ent_one K163) TrOkAt.e TrOkAt.e) TrOkAt.e)) (TrOkAt.n (ent_one K51) (TrOkAt.n (ent_one K83) (TrOkAt.n (ent_one K147) TrOkAt.e TrOkAt.e) (TrOkAt.n (ent_one K211) TrOkAt.e TrOkAt.e)) (TrOkAt.n ent_none (TrOkAt.n (ent_one K179) TrOkAt.e TrOkAt.e) TrOkAt.e))) (TrOkAt.n (ent_one K27) (TrOkAt.n ent_none (TrOkAt.n (ent_one K75) (TrOkAt.n (ent_one K139) TrOkAt.e TrOkAt.e) TrOkAt.e) (TrOkAt.n ent_none (TrOkAt.n (ent_one K171) TrOkAt.e TrOkAt.e) TrOkAt.e)) (TrOkAt.n (ent_one K59) (TrOkAt.n ent_none (TrOkAt.n (ent_one K155) TrOkAt.e TrOkAt.e) TrOkAt.e) TrOkAt.e)))) (TrOkAt.n ent_none (TrOkAt.n ent_none (TrOkAt.n (ent_one K17) (TrOkAt.n (ent_one K33) (TrOkAt.n (ent_one K65) (TrOkAt.n (ent_one K129) TrOkAt.e TrOkAt.e) TrOkAt.e) (TrOkAt.n (ent_one K97) (TrOkAt.n (ent_one K161) TrOkAt.e TrOkAt.e) TrOkAt.e)) (TrOkAt.n (ent_one K49) (TrOkAt.n ent_none (TrOkAt.n (ent_one K145) TrOkAt.e TrOkAt.e) TrOkAt.e) (TrOkAt.n ent_none (TrOkAt.n (ent_one K177) TrOkAt.e TrOkAt.e) TrOkAt.e))) (TrOkAt.n (ent_one K25) (TrOkAt.n ent_none (TrOkAt.n (ent_one K73) (TrOkAt.n (ent_one K137) TrOkAt.e TrOkAt.e) TrOkAt.e) (TrOkAt.n (ent_one K105) (TrOkAt.n (ent_one K169) TrOkAt.e TrOkAt.e) TrOkAt.e)) (TrOkAt.n ent_none (TrOkAt.n (ent_one K89) TrOkAt.e TrOkAt.e) (TrOkAt.n (ent_one K121) (TrOkAt.n (ent_one K185) TrOkAt.e TrOkAt.e) TrOkAt.e)))) (TrOkAt.n (ent_one K13) (TrOkAt.n (ent_one K21) (TrOkAt.n (ent_one K37) (TrOkAt.n (ent_one K69) TrOkAt.e (TrOkAt.n (ent_one K197) TrOkAt.e TrOkAt.e)) (TrOkAt.n ent_none (TrOkAt.n (ent_one K165) TrOkAt.e TrOkAt.e) TrOkAt.e)) (TrOkAt.n (ent_one K53) (TrOkAt.n (ent_one K85) (TrOkAt.n (ent_one K149) TrOkAt.e TrOkAt.e) TrOkAt.e) (TrOkAt.n (ent_one K117) (TrOkAt.n (ent_one K181) TrOkAt.e TrOkAt.e) TrOkAt.e))) (TrOkAt.n (ent_one K29) (TrOkAt.n (ent_one K45) (TrOkAt.n ent_none (TrOkAt.n (ent_one K141) TrOkAt.e TrOkAt.e) TrOkAt.e) (TrOkAt.n (ent_one K109) (TrOkAt.n (ent_one K173) TrOkAt.e TrOkAt.e) TrOkAt.e)) (TrOkAt.n ent_none (TrOkAt.n ent_none (TrOkAt.n (ent_one K157) TrOkAt.e TrOkAt.e) TrOkAt.e) (TrOkAt.n (ent_one K125) TrOkAt.e TrOkAt.e)))))) (TrOkAt.n ent_none (TrOkAt.n ent_none (TrOkAt.n ent_none (TrOkAt.n (ent_one K16) (TrOkAt.n (ent_one K32) (TrOkAt.n (ent_one K64) (TrOkAt.n (ent_one K128) TrOkAt.e TrOkAt.e) TrOkAt.e) (TrOkAt.n (ent_one K96) (TrOkAt.n (ent_one K160) TrOkAt.e TrOkAt.e) TrOkAt.e)) (TrOkAt.n ent_none (TrOkAt.n (ent_one K80) (TrOkAt.n (ent_one K144) TrOkAt.e TrOkAt.e) TrOkAt.e) (TrOkAt.n (ent_one K112) TrOkAt.e TrOkAt.e))) (TrOkAt.n (ent_one K24) (TrOkAt.n ent_none (TrOkAt.n (ent_one K72) TrOkAt.e TrOkAt.e) (TrOkAt.n (ent_one K104) (TrOkAt.n (ent_one K168) TrOkAt.e TrOkAt.e) TrOkAt.e)) (TrOkAt.n ent_none (TrOkAt.n (ent_one K88) TrOkAt.e TrOkAt.e) (TrOkAt.n (ent_one K120) TrOkAt.e TrOkAt.e)))) (TrOkAt.n ent_none (TrOkAt.n ent_none (TrOkAt.n (ent_one K36) (TrOkAt.n (ent_one K68) TrOkAt.e (TrOkAt.n (ent_one K196) TrOkAt.e TrOkAt.e)) (TrOkAt.n (ent_one K100) (TrOkAt.n (ent_one K164) TrOkAt.e TrOkAt.e) TrOkAt.e)) (TrOkAt.n (ent_one K52) (TrOkAt.n (ent_one K84) (TrOkAt.n (ent_one K148) TrOkAt.e TrOkAt.e) TrOkAt.e) (TrOkAt.n ent_none (TrOkAt.n (ent_one K180) TrOkAt.e TrOkAt.e) TrOkAt.e))) (TrOkAt.n (ent_one K28) (TrOkAt.n (ent_one K44) TrOkAt.e (TrOkAt.n (ent_one K108) (TrOkAt.n (ent_one K172) TrOkAt.e TrOkAt.e) TrOkAt.e)) (TrOkAt.n (ent_one g60_ok) (TrOkAt.n (ent_one K92) TrOkAt.e TrOkAt.e) (TrOkAt.n (ent_one K124) TrOkAt.e TrOkAt.e))))) (TrOkAt.n ent_none (TrOkAt.n ent_none (TrOkAt.n (ent_one K18) (TrOkAt.n ent_none (TrOkAt.n (ent_one K66) (TrOkAt.n (ent_one K130) TrOkAt.e TrOkAt.e) TrOkAt.e) (TrOkAt.n (ent_one K98) (TrOkAt.n (ent_one K162) TrOkAt.e TrOkAt.e) TrOkAt.e)) (TrOkAt.n ent_none (TrOkAt.n (ent_one K82) (TrOkAt.n (ent_one K146) TrOkAt.e TrOkAt.e) TrOkAt.e) (TrOkAt.n (ent_one K114) TrOkAt.e TrOkAt.e))) (TrOkAt.n (ent_one K26) (TrOkAt.n (ent_one K42) (TrOkAt.n (ent_one K74) (TrOkAt.n (ent_one K138) TrOkAt.e TrOkAt.e) TrOkAt.e) (TrOkAt.n (ent_one K106) (TrOkAt.n (ent_one K170) TrOkAt.e TrOkAt.e) TrOkAt.e)) (TrOkAt.n ent_none (TrOkAt.n ent_none (TrOkAt.n (ent_one K154) TrOkAt.e TrOkAt.e) TrOkAt.e) (TrOkAt.n (ent_one K122) TrOkAt.e TrOkAt.e)))) (TrOkAt.n ent_none (TrOkAt.n (ent_one K22) (TrOkAt.n (ent_one K38) (TrOkAt.n (ent_one K70) (TrOkAt.n (ent_one K134) TrOkAt.e TrOkAt.e) TrOkAt.e) (TrOkAt.n (ent_one K102) (TrOkAt.n (ent_one K166) TrOkAt.e TrOkAt.e) TrOkAt.e)) (TrOkAt.n (ent_one K54) (TrOkAt.n (ent_one K86) (TrOkAt.n (ent_one K150) TrOkAt.e TrOkAt.e) TrOkAt.e) (TrOkAt.n (ent_one K118) TrOkAt.e TrOkAt.e))) (TrOkAt.n (ent_one K30) (TrOkAt.n (ent_one K46) (TrOkAt.n ent_none (TrOkAt.n (ent_one K142) TrOkAt.e TrOkAt.e) TrOkAt.e) (TrOkAt.n (ent_one K110) (TrOkAt.n (ent_one K174) TrOkAt.e TrOkAt.e) TrOkAt.e)) (TrOkAt.n (ent_one K62) (TrOkAt.n (ent_one K94) (TrOkAt.n (ent_one K158) TrOkAt.e TrOkAt.e) TrOkAt.e) (TrOkAt.n (ent_one K126) TrOkAt.e TrOkAt.e))))))) : TrOkAt Tryz.prog EE fun q => q)
end Go.Proofs.YtlpeldimmaajkaaGreat
