/- PRINTED by a program of the session (Pm.lean): functions of the program as texts, for concrete runs, each checked by the kernel. Conditions: none. -/
import Derived.Test.YtlpeldimmaajkaaGreatFwZ
import Derived.Test.YtlpeldimmaajkaaGreatProg
set_option linter.unusedVariables false
set_option linter.unusedSimpArgs false
namespace Go.Proofs.YtlpeldimmaajkaaGreat
open Go Go.Proofs.YtlpeldimmaajkaaGreat.Fw Go.RowKit
-- sternpost/sternpostlaw19.TableGone
noncomputable def X13 : List Value → M := fun args => match args with
 | [v0, v1] => .kInt .i64 v0 fun x0 => .kSl v1 fun a1 l2 c3 => 
 .call 30 [.int .i64 (2 : Int)] fun r4 =>
 .kPtr r4 fun p5 =>
 .bool p5.isNone (
 .jmp 3 []) (
 .call 24 [] fun r6 =>
 .kBool r6 fun b7 =>
 .bool (!b7) (
 .jmp 3 []) (
 .call 18 [.int .i64 x0, .int .i64 (3 : Int)] fun r8 =>
 .kInt .i64 r8 fun n9 =>
 .wr .i64 ((1 : Int) + n9) fun n10 =>
 .jmp 100007 [.int .i64 n10, .slice a1 l2 c3, .pointer p5, .slice none 0 0, .slice none 0 0, .int .i64 n10, .int .i64 (0 : Int)]))
 | _ => .fail
noncomputable def X13_3 : List Value → M := fun args => match args with
 | [] => 
 .ret (.bool false)
 | _ => .fail
noncomputable def X13_24 : List Value → M := fun args => match args with
 | [v0, v1, v2, v3, v4, v5, v6, v7] => .kSl v0 fun a0 l1 c2 => .kPtr v1 fun x3 => .kSl v2 fun a4 l5 c6 => .kSl v3 fun a7 l8 c9 => .kInt .i64 v4 fun x10 => .kInt .i64 v5 fun x11 => .kInt .i64 v6 fun x12 => .kInt .i64 v7 fun x13 => 
 .onS x3 fun a14 =>
 .ld a14.block a14.off fun v15 =>
 .kSl v15 fun a16 l17 c18 =>
 .onS a16 fun a19 =>
 .inb (0 : Int) l17 (
 .ld ((a19.add ((0 : Int).toNat * 1)).block) ((a19.add ((0 : Int).toNat * 1)).off) fun v20 =>
 .kPtr v20 fun p21 =>
 .onS a4 fun a22 =>
 .inb x11 l5 (
 .ld ((a22.add (x11.toNat * 1)).block) ((a22.add (x11.toNat * 1)).off) fun v23 =>
 .kInt .i64 v23 fun n24 =>
 .onS x3 fun a25 =>
 .ld a25.block (a25.off + 2) fun v26 =>
 .kInt .i64 v26 fun n27 =>
 .call 26 [.pointer p21, .int .i64 n24, .int .i64 n27] fun r28 =>
 .kTup r28 fun vs29 =>
 .nthA vs29 0 fun v30 =>
 .kSl v30 fun a31 l32 c33 =>
 .kTup r28 fun vs34 =>
 .nthA vs34 1 fun v35 =>
 .kInt .i64 v35 fun n36 =>
 .onS x3 fun a37 =>
 .ld a37.block a37.off fun v38 =>
 .kSl v38 fun a39 l40 c41 =>
 .onS a39 fun a42 =>
 .inb (1 : Int) l40 (
 .ld ((a42.add ((1 : Int).toNat * 1)).block) ((a42.add ((1 : Int).toNat * 1)).off) fun v43 =>
 .kPtr v43 fun p44 =>
 .onS a7 fun a45 =>
 .inb x11 l8 (
 .ld ((a45.add (x11.toNat * 1)).block) ((a45.add (x11.toNat * 1)).off) fun v46 =>
 .kInt .i64 v46 fun n47 =>
 .onS x3 fun a48 =>
 .ld a48.block (a48.off + 2) fun v49 =>
 .kInt .i64 v49 fun n50 =>
 .call 26 [.pointer p44, .int .i64 n47, .int .i64 n50] fun r51 =>
 .kTup r51 fun vs52 =>
 .nthA vs52 0 fun v53 =>
 .kSl v53 fun a54 l55 c56 =>
 .kTup r51 fun vs57 =>
 .nthA vs57 1 fun v58 =>
 .kInt .i64 v58 fun n59 =>
 .call 53 [.pointer x3, .int .i64 (10 : Int), .slice a31 l32 c33] fun r60 =>
 .call 53 [.pointer x3, .int .i64 (11 : Int), .slice a54 l55 c56] fun r61 =>
 .cmp .neq n36 (0 : Int) fun t62 =>
 .bool t62 (
 .jmp 29 []) (
 .cmp .neq n59 (0 : Int) fun t63 =>
 .bool t63 (
 .jmp 29 []) (
 .onS x3 fun a64 =>
 .ld a64.block a64.off fun v65 =>
 .kSl v65 fun a66 l67 c68 =>
 .onS a66 fun a69 =>
 .inb (0 : Int) l67 (
 .ld ((a69.add ((0 : Int).toNat * 1)).block) ((a69.add ((0 : Int).toNat * 1)).off) fun v70 =>
 .kPtr v70 fun p71 =>
 .onS a4 fun a72 =>
 .inb x11 l5 (
 .ld ((a72.add (x11.toNat * 1)).block) ((a72.add (x11.toNat * 1)).off) fun v73 =>
 .kInt .i64 v73 fun n74 =>
 .call 27 [.pointer p71, .int .i64 n74] fun r75 =>
 .kInt .i64 r75 fun n76 =>
 .cmp .neq n76 (0 : Int) fun t77 =>
 .bool t77 (
 .jmp 29 []) (
 .onS x3 fun a78 =>
 .ld a78.block a78.off fun v79 =>
 .kSl v79 fun a80 l81 c82 =>
 .onS a80 fun a83 =>
 .inb (1 : Int) l81 (
 .ld ((a83.add ((1 : Int).toNat * 1)).block) ((a83.add ((1 : Int).toNat * 1)).off) fun v84 =>
 .kPtr v84 fun p85 =>
 .onS a7 fun a86 =>
 .inb x11 l8 (
 .ld ((a86.add (x11.toNat * 1)).block) ((a86.add (x11.toNat * 1)).off) fun v87 =>
 .kInt .i64 v87 fun n88 =>
 .call 27 [.pointer p85, .int .i64 n88] fun r89 =>
 .kInt .i64 r89 fun n90 =>
 .cmp .neq n90 (0 : Int) fun t91 =>
 .bool t91 (
 .jmp 29 []) (
 .jmp 30 [.slice a0 l1 c2, .pointer x3, .slice a4 l5 c6, .slice a7 l8 c9, .int .i64 x10, .int .i64 x12, .int .i64 x13]))))))))))))
 | _ => .fail
noncomputable def X13_29 : List Value → M := fun args => match args with
 | [] => 
 .ret (.bool false)
 | _ => .fail
noncomputable def X13_30 : List Value → M := fun args => match args with
 | [v0, v1, v2, v3, v4, v5, v6] => .kSl v0 fun a0 l1 c2 => .kPtr v1 fun x3 => .kSl v2 fun a4 l5 c6 => .kSl v3 fun a7 l8 c9 => .kInt .i64 v4 fun x10 => .kInt .i64 v5 fun x11 => .kInt .i64 v6 fun x12 => 
 .wr .i64 (x12 + (1 : Int)) fun n13 =>
 .jmp 100020 [.slice a0 l1 c2, .pointer x3, .slice a4 l5 c6, .slice a7 l8 c9, .int .i64 x10, .int .i64 x11, .int .i64 n13]
 | _ => .fail
noncomputable def X13_33 : List Value → M := fun args => match args with
 | [] => 
 .ret (.bool false)
 | _ => .fail
noncomputable def X13_100007 : List Value → M := fun args => match args with
 | [v0, v1, v2, v3, v4, v5, v6] => .kInt .i64 v0 fun x0 => .kSl v1 fun a1 l2 c3 => .kPtr v2 fun x4 => .kSl v3 fun a5 l6 c7 => .kSl v4 fun a8 l9 c10 => .kInt .i64 v5 fun x11 => .kInt .i64 v6 fun x12 => 
 .cmp .lss x12 x11 fun t13 =>
 .bool t13 (
 .onS x4 fun a14 =>
 .ld a14.block a14.off fun v15 =>
 .kSl v15 fun a16 l17 c18 =>
 .onS a16 fun a19 =>
 .inb (0 : Int) l17 (
 .ld ((a19.add ((0 : Int).toNat * 1)).block) ((a19.add ((0 : Int).toNat * 1)).off) fun v20 =>
 .kPtr v20 fun p21 =>
 .onS x4 fun a22 =>
 .ld a22.block (a22.off + 2) fun v23 =>
 .kInt .i64 v23 fun n24 =>
 .call 28 [.pointer p21, .int .i64 (11 : Int), .int .i64 (80 : Int), .int .i64 n24] fun r25 =>
 .kTup r25 fun vs26 =>
 .nthA vs26 0 fun v27 =>
 .kInt .i64 v27 fun n28 =>
 .kTup r25 fun vs29 =>
 .nthA vs29 1 fun v30 =>
 .kSl v30 fun a31 l32 c33 =>
 .kTup r25 fun vs34 =>
 .nthA vs34 2 fun v35 =>
 .kInt .i64 v35 fun n36 =>
 .cmp .neq n36 (0 : Int) fun t37 =>
 .bool t37 (
 .ret (.bool false)) (
 .call 53 [.pointer x4, .int .i64 (10 : Int), .slice a31 l32 c33] fun r38 =>
 .call 54 [.pointer x4, .int .i64 (6 : Int)] fun r39 =>
 .onS x4 fun a40 =>
 .ld a40.block a40.off fun v41 =>
 .kSl v41 fun a42 l43 c44 =>
 .onS a42 fun a45 =>
 .inb (1 : Int) l43 (
 .ld ((a45.add ((1 : Int).toNat * 1)).block) ((a45.add ((1 : Int).toNat * 1)).off) fun v46 =>
 .kPtr v46 fun p47 =>
 .call 55 [.pointer p47, .int .i64 (80 : Int)] fun r48 =>
 .kTup r48 fun vs49 =>
 .nthA vs49 0 fun v50 =>
 .kInt .i64 v50 fun n51 =>
 .kTup r48 fun vs52 =>
 .nthA vs52 1 fun v53 =>
 .kBool v53 fun b54 =>
 .bool (!b54) (
 .ret (.bool false)) (
 .new (.cells [.int .i64 n28] 1 true) fun b55 =>
 .firstC 1 (.slice (some ⟨b55, 0, none⟩) 1 1) fun n56 nw57 =>
 .app 3 (.slice a5 l6 c7) n56 nw57 fun v58 =>
 .kSl v58 fun a60 l61 c62 =>
 .new (.cells [.int .i64 n51] 1 true) fun b63 =>
 .firstC 1 (.slice (some ⟨b63, 0, none⟩) 1 1) fun n64 nw65 =>
 .app 3 (.slice a8 l9 c10) n64 nw65 fun v66 =>
 .kSl v66 fun a68 l69 c70 =>
 .wr .i64 (x12 + (1 : Int)) fun n71 =>
 .jmp 100007 [.int .i64 x0, .slice a1 l2 c3, .pointer x4, .slice a60 l61 c62, .slice a68 l69 c70, .int .i64 x11, .int .i64 n71]))))) (
 .jmp 100020 [.slice a1 l2 c3, .pointer x4, .slice a5 l6 c7, .slice a8 l9 c10, .int .i64 (0 : Int), .int .i64 x0, .int .i64 (0 : Int)])
 | _ => .fail
noncomputable def X13_100020 : List Value → M := fun args => match args with
 | [v0, v1, v2, v3, v4, v5, v6] => .kSl v0 fun a0 l1 c2 => .kPtr v1 fun x3 => .kSl v2 fun a4 l5 c6 => .kSl v3 fun a7 l8 c9 => .kInt .i64 v4 fun x10 => .kInt .i64 v5 fun x11 => .kInt .i64 v6 fun x12 => 
 .cmp .lss x12 x11 fun t13 =>
 .bool t13 (
 .cmp .lss x12 ((l1 : Nat) : Int) fun t14 =>
 .bool t14 (
 .onS a0 fun a15 =>
 .inb x12 l1 (
 .ld ((a15.add (x12.toNat * 1)).block) ((a15.add (x12.toNat * 1)).off) fun v16 =>
 .kBool v16 fun b17 =>
 .bool (!b17) (
 .wr .i64 (x10 + (1 : Int)) fun n18 =>
 .jmp 30 [.slice a0 l1 c2, .pointer x3, .slice a4 l5 c6, .slice a7 l8 c9, .int .i64 n18, .int .i64 x11, .int .i64 x12]) (
 .jmp 24 [.slice a0 l1 c2, .pointer x3, .slice a4 l5 c6, .slice a7 l8 c9, .int .i64 x10, .int .i64 x12, .int .i64 x11, .int .i64 x12]))) (
 .jmp 24 [.slice a0 l1 c2, .pointer x3, .slice a4 l5 c6, .slice a7 l8 c9, .int .i64 x10, .int .i64 x12, .int .i64 x11, .int .i64 x12])) (
 .call 54 [.pointer x3, .int .i64 (60 : Int)] fun r19 =>
 .onS x3 fun a20 =>
 .ld a20.block a20.off fun v21 =>
 .kSl v21 fun a22 l23 c24 =>
 .onS a22 fun a25 =>
 .inb (0 : Int) l23 (
 .ld ((a25.add ((0 : Int).toNat * 1)).block) ((a25.add ((0 : Int).toNat * 1)).off) fun v26 =>
 .kPtr v26 fun p27 =>
 .call 25 [.pointer p27] fun r28 =>
 .kSl r28 fun a29 l30 c31 =>
 .cmp .neq ((l30 : Nat) : Int) x10 fun t32 =>
 .bool t32 (
 .jmp 33 []) (
 .onS x3 fun a33 =>
 .ld a33.block a33.off fun v34 =>
 .kSl v34 fun a35 l36 c37 =>
 .onS a35 fun a38 =>
 .inb (1 : Int) l36 (
 .ld ((a38.add ((1 : Int).toNat * 1)).block) ((a38.add ((1 : Int).toNat * 1)).off) fun v39 =>
 .kPtr v39 fun p40 =>
 .call 25 [.pointer p40] fun r41 =>
 .kSl r41 fun a42 l43 c44 =>
 .cmp .neq ((l43 : Nat) : Int) x10 fun t45 =>
 .bool t45 (
 .jmp 33 []) (
 .onS x3 fun a46 =>
 .ld a46.block a46.off fun v47 =>
 .kSl v47 fun a48 l49 c50 =>
 .onS a48 fun a51 =>
 .inb (0 : Int) l49 (
 .ld ((a51.add ((0 : Int).toNat * 1)).block) ((a51.add ((0 : Int).toNat * 1)).off) fun v52 =>
 .kPtr v52 fun p53 =>
 .onS x3 fun a54 =>
 .ld a54.block (a54.off + 2) fun v55 =>
 .kInt .i64 v55 fun n56 =>
 .call 28 [.pointer p53, .int .i64 (11 : Int), .int .i64 (80 : Int), .int .i64 n56] fun r57 =>
 .kTup r57 fun vs58 =>
 .nthA vs58 0 fun v59 =>
 .kInt .i64 v59 fun n60 =>
 .kTup r57 fun vs61 =>
 .nthA vs61 1 fun v62 =>
 .kSl v62 fun a63 l64 c65 =>
 .kTup r57 fun vs66 =>
 .nthA vs66 2 fun v67 =>
 .kInt .i64 v67 fun n68 =>
 .onS x3 fun a69 =>
 .ld a69.block a69.off fun v70 =>
 .kSl v70 fun a71 l72 c73 =>
 .onS a71 fun a74 =>
 .inb (0 : Int) l72 (
 .ld ((a74.add ((0 : Int).toNat * 1)).block) ((a74.add ((0 : Int).toNat * 1)).off) fun v75 =>
 .kPtr v75 fun p76 =>
 .call 29 [.pointer p76, .int .i64 n60] fun r77 =>
 .kTup r77 fun vs78 =>
 .nthA vs78 0 fun v79 =>
 .kAgg v79 fun cs80 =>
 .ite (cs80.size = 4) (
 .kTup r77 fun vs81 =>
 .nthA vs81 1 fun v82 =>
 .kBool v82 fun b83 =>
 .new (.cells [.int .i64 (0 : Int), .int .i64 (0 : Int), .int .i64 (0 : Int), .int .i64 (0 : Int)] 0 true) fun b84 =>
 .st 4 (⟨b84, 0, none⟩ : Addr) (.agg cs80) (
 .cmp .eql n68 (0 : Int) fun t86 =>
 .bool t86 (
 .bool b83 (
 .ld b84 (0 + 1) fun v87 =>
 .kInt .i64 v87 fun n88 =>
 .cmp .geq n88 (49152 : Int) fun t89 =>
 .bool t89 (
 .ld b84 (0 + 1) fun v90 =>
 .kInt .i64 v90 fun n91 =>
 .wr .i64 ((49152 : Int) + x10) fun n92 =>
 .cmp .leq n91 n92 fun t93 =>
 .ret (.bool t93)) (
 .ret (.bool false))) (
 .ret (.bool false))) (
 .ret (.bool false)))))))))))
 | _ => .fail
noncomputable def cuts13 : Cuts := [(100007, [0, 1, 5, 6, 7, 34, 35]), (100020, [1, 5, 6, 7, 13, 80, 81]), (29, []), (30, [1, 5, 6, 7, 13, 80, 81]), (24, [1, 5, 6, 7, 13, 14, 80, 81]), (33, []), (3, [])]
noncomputable def L13 : Places := [(3, X13_3, todoOf Tryz.f13 3), (24, X13_24, todoOf Tryz.f13 24), (29, X13_29, todoOf Tryz.f13 29), (30, X13_30, todoOf Tryz.f13 30), (33, X13_33, todoOf Tryz.f13 33), (100007, X13_100007, todoOf Tryz.f13 100007), (100020, X13_100020, todoOf Tryz.f13 100020)]
noncomputable def k13 : FCode := .of X13 L13 cuts13
theorem o13_3 : OOk Tryz.prog Tryz.f13 cuts13 L13 (3, X13_3, todoOf Tryz.f13 3) := by
  intro vs Γ m H r h; replace h : (X13_3 vs).run _ _ _ _ = _ := h; unfold X13_3 at h; split at h
  · exact Eq.trans (by kernel_rfl) h
  · exact M.iFail h
theorem o13_24 : OOk Tryz.prog Tryz.f13 cuts13 L13 (24, X13_24, todoOf Tryz.f13 24) := by
  intro vs Γ m H r h; replace h : (X13_24 vs).run _ _ _ _ = _ := h; unfold X13_24 at h; split at h
  · replace h := M.iSl h; obtain ⟨_, _, _, rfl, h⟩ := h; replace h := M.iPtr h; obtain ⟨_, rfl, h⟩ := h; replace h := M.iSl h; obtain ⟨_, _, _, rfl, h⟩ := h; replace h := M.iSl h; obtain ⟨_, _, _, rfl, h⟩ := h; replace h := M.iInt h; obtain ⟨_, rfl, h⟩ := h; replace h := M.iInt h; obtain ⟨_, rfl, h⟩ := h; replace h := M.iInt h; obtain ⟨_, rfl, h⟩ := h; replace h := M.iInt h; obtain ⟨_, rfl, h⟩ := h; exact Eq.trans (by kernel_rfl) h
  · exact M.iFail h
theorem o13_29 : OOk Tryz.prog Tryz.f13 cuts13 L13 (29, X13_29, todoOf Tryz.f13 29) := by
  intro vs Γ m H r h; replace h : (X13_29 vs).run _ _ _ _ = _ := h; unfold X13_29 at h; split at h
  · exact Eq.trans (by kernel_rfl) h
  · exact M.iFail h
theorem o13_30 : OOk Tryz.prog Tryz.f13 cuts13 L13 (30, X13_30, todoOf Tryz.f13 30) := by
  intro vs Γ m H r h; replace h : (X13_30 vs).run _ _ _ _ = _ := h; unfold X13_30 at h; split at h
  · replace h := M.iSl h; obtain ⟨_, _, _, rfl, h⟩ := h; replace h := M.iPtr h; obtain ⟨_, rfl, h⟩ := h; replace h := M.iSl h; obtain ⟨_, _, _, rfl, h⟩ := h; replace h := M.iSl h; obtain ⟨_, _, _, rfl, h⟩ := h; replace h := M.iInt h; obtain ⟨_, rfl, h⟩ := h; replace h := M.iInt h; obtain ⟨_, rfl, h⟩ := h; replace h := M.iInt h; obtain ⟨_, rfl, h⟩ := h; exact Eq.trans (by kernel_rfl) h
  · exact M.iFail h
theorem o13_33 : OOk Tryz.prog Tryz.f13 cuts13 L13 (33, X13_33, todoOf Tryz.f13 33) := by
  intro vs Γ m H r h; replace h : (X13_33 vs).run _ _ _ _ = _ := h; unfold X13_33 at h; split at h
  · exact Eq.trans (by kernel_rfl) h
  · exact M.iFail h
theorem o13_100007 : OOk Tryz.prog Tryz.f13 cuts13 L13 (100007, X13_100007, todoOf Tryz.f13 100007) := by
  intro vs Γ m H r h; replace h : (X13_100007 vs).run _ _ _ _ = _ := h; unfold X13_100007 at h; split at h
  · replace h := M.iInt h; obtain ⟨_, rfl, h⟩ := h; replace h := M.iSl h; obtain ⟨_, _, _, rfl, h⟩ := h; replace h := M.iPtr h; obtain ⟨_, rfl, h⟩ := h; replace h := M.iSl h; obtain ⟨_, _, _, rfl, h⟩ := h; replace h := M.iSl h; obtain ⟨_, _, _, rfl, h⟩ := h; replace h := M.iInt h; obtain ⟨_, rfl, h⟩ := h; replace h := M.iInt h; obtain ⟨_, rfl, h⟩ := h; exact Eq.trans (by kernel_rfl) h
  · exact M.iFail h
theorem o13_100020 : OOk Tryz.prog Tryz.f13 cuts13 L13 (100020, X13_100020, todoOf Tryz.f13 100020) := by
  intro vs Γ m H r h; replace h : (X13_100020 vs).run _ _ _ _ = _ := h; unfold X13_100020 at h; split at h
  · replace h := M.iSl h; obtain ⟨_, _, _, rfl, h⟩ := h; replace h := M.iPtr h; obtain ⟨_, rfl, h⟩ := h; replace h := M.iSl h; obtain ⟨_, _, _, rfl, h⟩ := h; replace h := M.iSl h; obtain ⟨_, _, _, rfl, h⟩ := h; replace h := M.iInt h; obtain ⟨_, rfl, h⟩ := h; replace h := M.iInt h; obtain ⟨_, rfl, h⟩ := h; replace h := M.iInt h; obtain ⟨_, rfl, h⟩ := h; exact Eq.trans (by kernel_rfl) h
  · exact M.iFail h
theorem h13 : XOk Tryz.prog Tryz.f13 cuts13 L13 X13 := by
  intro Γ m args H r h; unfold X13 at h; split at h
  · replace h := M.iInt h; obtain ⟨_, rfl, h⟩ := h; replace h := M.iSl h; obtain ⟨_, _, _, rfl, h⟩ := h; exact ⟨Eq.trans (by kernel_rfl) h, Nat.le_of_ble_eq_true (by kernel_rfl)⟩
  · exact M.iFail h
theorem K13 : CodeOk Tryz.prog 13 k13 := .of Tryz.func13 (by kernel_rfl) (by kernel_rfl) h13 (fc o13_3 (fc o13_24 (fc o13_29 (fc o13_30 (fc o13_33 (fc o13_100007 (fc o13_100020 fe)))))))
-- sternpost/sock.New
noncomputable def X15 : List Value → M := fun args => match args with
 | [v0, v1] => .kAgg v0 fun x0 => .kInt .i64 v1 fun x1 => 
 .new (.cells x0.toList 0 true) fun b2 =>
 .ldn b2 0 11 fun cs3 =>
 .call 23 [.agg cs3, .int .i64 x1] fun r4 =>
 .kTup r4 fun vs5 =>
 .nthA vs5 0 fun v6 =>
 .kPtr v6 fun p7 =>
 .kTup r4 fun vs8 =>
 .nthA vs8 1 fun v9 =>
 .kInt .i64 v9 fun n10 =>
 .cmp .neq n10 (0 : Int) fun t11 =>
 .bool t11 (
 .ret (.tuple #[.pointer none, .int .i64 n10])) (
 .new (.map [] [] 0) fun b12 =>
 .new (.cells [.pointer p7, .map (some b12), .slice none 0 0, .slice none 0 0, .int .i64 (0 : Int)] 0 true) fun b13 =>
 .ret (.tuple #[.pointer (some (⟨b13, 0, none⟩ : Addr)), .int .i64 (0 : Int)]))
 | _ => .fail
noncomputable def cuts15 : Cuts := []
noncomputable def L15 : Places := []
noncomputable def k15 : FCode := .of X15 L15 cuts15
theorem h15 : XOk Tryz.prog Tryz.f15 cuts15 L15 X15 := by
  intro Γ m args H r h; unfold X15 at h; split at h
  · replace h := M.iAgg h; obtain ⟨_, rfl, h⟩ := h; replace h := M.iInt h; obtain ⟨_, rfl, h⟩ := h; exact ⟨Eq.trans (by kernel_rfl) h, Nat.le_of_ble_eq_true (by kernel_rfl)⟩
  · exact M.iFail h
theorem K15 : CodeOk Tryz.prog 15 k15 := .of Tryz.func15 (by kernel_rfl) (by kernel_rfl) h15 fe
-- sternpost/sternpostlaw20.setup
noncomputable def X16 : List Value → M := fun args => match args with
 | [] => 
 .new (.cells [.int .i64 (0 : Int), .int .i64 (0 : Int), .int .i64 (0 : Int), .int .i64 (0 : Int), .int .i64 (0 : Int), .int .i64 (0 : Int), .int .i64 (0 : Int), .int .i64 (0 : Int), .int .i64 (0 : Int), .int .i64 (0 : Int), .int .i64 (0 : Int)] 0 true) fun b0 =>
 .st 11 (⟨b0, 0, none⟩ : Addr) (.agg #[.int .i64 (20 : Int), .int .i64 (60 : Int), .int .i64 (1 : Int), .int .i64 (8 : Int), .int .i64 (4 : Int), .int .i64 (40 : Int), .int .i64 (20 : Int), .int .i64 (10 : Int), .int .i64 (7 : Int), .int .i64 (8 : Int), .int .i64 (20 : Int)]) (
 .ldn b0 0 11 fun cs2 =>
 .ret (.agg cs2))
 | _ => .fail
noncomputable def cuts16 : Cuts := []
noncomputable def L16 : Places := []
noncomputable def k16 : FCode := .of X16 L16 cuts16
theorem h16 : XOk Tryz.prog Tryz.f16 cuts16 L16 X16 := by
  intro Γ m args H r h; unfold X16 at h; split at h
  · exact ⟨Eq.trans (by kernel_rfl) h, Nat.le_of_ble_eq_true (by kernel_rfl)⟩
  · exact M.iFail h
theorem K16 : CodeOk Tryz.prog 16 k16 := .of Tryz.func16 (by kernel_rfl) (by kernel_rfl) h16 fe
-- sternpost/sternpostlaw20.works
noncomputable def X17 : List Value → M := fun args => match args with
 | [] => 
 .call 16 [] fun r0 =>
 .kAgg r0 fun cs1 =>
 .ite (cs1.size = 11) (
 .call 15 [.agg cs1, .int .i64 (11 : Int)] fun r2 =>
 .kTup r2 fun vs3 =>
 .nthA vs3 0 fun v4 =>
 .kPtr v4 fun p5 =>
 .kTup r2 fun vs6 =>
 .nthA vs6 1 fun v7 =>
 .kInt .i64 v7 fun n8 =>
 .bool p5.isNone (
 .jmp 3 []) (
 .cmp .neq n8 (0 : Int) fun t9 =>
 .bool t9 (
 .jmp 3 []) (
 .call 19 [.pointer p5, .agg #[.int .i64 (5 : Int), .int .i64 (1 : Int), .int .i64 (0 : Int), .int .i64 (0 : Int), .int .i64 (80 : Int), .int .i64 (0 : Int), .string (⟨#[]⟩ : ByteArray)], .int .i64 (0 : Int)] fun r10 =>
 .kTup r10 fun vs11 =>
 .nthA vs11 0 fun v12 =>
 .kSl v12 fun a13 l14 c15 =>
 .kTup r10 fun vs16 =>
 .nthA vs16 1 fun v17 =>
 .kSl v17 fun a18 l19 c20 =>
 .call 19 [.pointer p5, .agg #[.int .i64 (6 : Int), .int .i64 (2 : Int), .int .i64 (0 : Int), .int .i64 (0 : Int), .int .i64 (0 : Int), .int .i64 (0 : Int), .string (⟨#[]⟩ : ByteArray)], .int .i64 (0 : Int)] fun r21 =>
 .kTup r21 fun vs22 =>
 .nthA vs22 0 fun v23 =>
 .kSl v23 fun a24 l25 c26 =>
 .kTup r21 fun vs27 =>
 .nthA vs27 1 fun v28 =>
 .kSl v28 fun a29 l30 c31 =>
 .cmp .eql ((l14 : Nat) : Int) (1 : Int) fun t32 =>
 .bool t32 (
 .onS a13 fun a33 =>
 .inb (0 : Int) l14 (
 .ldn ((a33.add ((0 : Int).toNat * 5)).block) ((a33.add ((0 : Int).toNat * 5)).off) 5 fun cs34 =>
 .eqv 43 (.agg cs34) (.agg #[.int .i64 (5 : Int), .int .i64 (0 : Int), .int .i64 (0 : Int), .int .i64 (0 : Int), .string (⟨#[]⟩ : ByteArray)]) fun r35 =>
 .bool r35 (
 .cmp .eql ((l25 : Nat) : Int) (0 : Int) fun t36 =>
 .bool t36 (
 .call 21 [.pointer p5] fun r37 =>
 .kSl r37 fun a38 l39 c40 =>
 .new (.cells [.int .i64 (6 : Int)] 1 true) fun b41 =>
 .call 36 [.slice a38 l39 c40, .slice (some ⟨b41, 0, none⟩) 1 1] fun r42 =>
 .kBool r42 fun b43 =>
 .ret (.bool b43)) (
 .ret (.bool false))) (
 .ret (.bool false)))) (
 .ret (.bool false)))))
 | _ => .fail
noncomputable def X17_3 : List Value → M := fun args => match args with
 | [] => 
 .ret (.bool false)
 | _ => .fail
noncomputable def cuts17 : Cuts := [(3, [])]
noncomputable def L17 : Places := [(3, X17_3, todoOf Tryz.f17 3)]
noncomputable def k17 : FCode := .of X17 L17 cuts17
theorem o17_3 : OOk Tryz.prog Tryz.f17 cuts17 L17 (3, X17_3, todoOf Tryz.f17 3) := by
  intro vs Γ m H r h; replace h : (X17_3 vs).run _ _ _ _ = _ := h; unfold X17_3 at h; split at h
  · exact Eq.trans (by kernel_rfl) h
  · exact M.iFail h
theorem h17 : XOk Tryz.prog Tryz.f17 cuts17 L17 X17 := by
  intro Γ m args H r h; unfold X17 at h; split at h
  · exact ⟨Eq.trans (by kernel_rfl) h, Nat.le_of_ble_eq_true (by kernel_rfl)⟩
  · exact M.iFail h
theorem K17 : CodeOk Tryz.prog 17 k17 := .of Tryz.func17 (by kernel_rfl) (by kernel_rfl) h17 (fc o17_3 fe)
-- sternpost/sternpostbook.Among
noncomputable def X18 : List Value → M := fun args => match args with
 | [v0, v1] => .kInt .i64 v0 fun x0 => .kInt .i64 v1 fun x1 => 
 .nite (x1 = 0) (
 .wr .i64 ((x0.tmod x1) + x1) fun n2 =>
 .nite (x1 = 0) (
 .fxI (n2.tmod x1) fun n3 =>
 .ret (.int .i64 n3)))
 | _ => .fail
noncomputable def cuts18 : Cuts := []
noncomputable def L18 : Places := []
noncomputable def k18 : FCode := .of X18 L18 cuts18
theorem h18 : XOk Tryz.prog Tryz.f18 cuts18 L18 X18 := by
  intro Γ m args H r h; unfold X18 at h; split at h
  · replace h := M.iInt h; obtain ⟨_, rfl, h⟩ := h; replace h := M.iInt h; obtain ⟨_, rfl, h⟩ := h; exact ⟨Eq.trans (by kernel_rfl) h, Nat.le_of_ble_eq_true (by kernel_rfl)⟩
  · exact M.iFail h
theorem K18 : CodeOk Tryz.prog 18 k18 := .of Tryz.func18 (by kernel_rfl) (by kernel_rfl) h18 fe
-- (*sternpost/sock.Box).Ask
noncomputable def X19 : List Value → M := fun args => match args with
 | [v0, v1, v2] => .kPtr v0 fun x0 => .kAgg v1 fun x1 => .kInt .i64 v2 fun x2 => 
 .new (.cells x1.toList 0 true) fun b3 =>
 .ldn b3 0 7 fun cs4 =>
 .cellsOks [.agg cs4] (.onS (Program.built Tryz.prog 140 (([0] : List Nat).zip [.agg cs4])) fun cells5q =>
 .fxV (.agg cells5q) fun cells5v =>
 .kAgg cells5v fun cells5 =>
 .new (.cells cells5.toList 0 true) fun b6 =>
 .ld b3 (0 + 1) fun v7 =>
 .kInt .i64 v7 fun n8 =>
 .cmp .lss n8 (1 : Int) fun t9 =>
 .bool t9 (
 .jmp 3 [.pointer (some (⟨b6, 0, none⟩ : Addr))]) (
 .ld b3 (0 + 1) fun v10 =>
 .kInt .i64 v10 fun n11 =>
 .cmp .gtr n11 (9 : Int) fun t12 =>
 .bool t12 (
 .jmp 3 [.pointer (some (⟨b6, 0, none⟩ : Addr))]) (
 .onS x0 fun a13 =>
 .ld a13.block (a13.off + 2) fun v14 =>
 .kSl v14 fun a15 l16 c17 =>
 .cmp .geq ((l16 : Nat) : Int) (64 : Int) fun t18 =>
 .bool t18 (
 .call 58 [.pointer (some (⟨b6, 0, none⟩ : Addr)), .int .i64 (2 : Int)] fun r19 =>
 .kPtr r19 fun p20 =>
 .onS p20 fun a21 =>
 .ldn a21.block a21.off 5 fun cs22 =>
 .cellsOks [.agg cs22] (.onS (Instr.fill (fun i => some (i * 5, 5)) ([.int .i64 (0 : Int), .int .i64 (0 : Int), .int .i64 (0 : Int), .int .i64 (0 : Int), .string (⟨#[]⟩ : ByteArray)] : List Value).toArray (([0] : List Nat).zip [.agg cs22])) fun cells23q =>
 .fxV (.agg cells23q) fun cells23v =>
 .kAgg cells23v fun cells23 =>
 .new (.cells cells23.toList 5 true) fun b24 =>
 .ret (.tuple #[.slice (some ⟨b24, 0, none⟩) 1 1, .slice none 0 0]))) (
 .onS x0 fun a25 =>
 .st 1 (⟨a25.block, a25.off + 4, none⟩ : Addr) (.int .i64 x2) (
 .onS x0 fun a27 =>
 .ld a27.block (a27.off + 2) fun v28 =>
 .kSl v28 fun a29 l30 c31 =>
 .new (.cells [.pointer (some (⟨b6, 0, none⟩ : Addr))] 1 true) fun b32 =>
 .firstC 1 (.slice (some ⟨b32, 0, none⟩) 1 1) fun n33 nw34 =>
 .app 137 (.slice a29 l30 c31) n33 nw34 fun v35 =>
 .kSl v35 fun a37 l38 c39 =>
 .onS x0 fun a40 =>
 .st 1 (⟨a40.block, a40.off + 2, none⟩ : Addr) (.slice a37 l38 c39) (
 .call 59 [.pointer x0] fun r42 =>
 .kTup r42 fun vs43 =>
 .nthA vs43 0 fun v44 =>
 .kSl v44 fun a45 l46 c47 =>
 .kTup r42 fun vs48 =>
 .nthA vs48 1 fun v49 =>
 .kSl v49 fun a50 l51 c52 =>
 .ret (.tuple #[.slice a45 l46 c47, .slice a50 l51 c52])))))))
 | _ => .fail
noncomputable def X19_3 : List Value → M := fun args => match args with
 | [v0] => .kPtr v0 fun x0 => 
 .call 58 [.pointer x0, .int .i64 (3 : Int)] fun r1 =>
 .kPtr r1 fun p2 =>
 .onS p2 fun a3 =>
 .ldn a3.block a3.off 5 fun cs4 =>
 .cellsOks [.agg cs4] (.onS (Instr.fill (fun i => some (i * 5, 5)) ([.int .i64 (0 : Int), .int .i64 (0 : Int), .int .i64 (0 : Int), .int .i64 (0 : Int), .string (⟨#[]⟩ : ByteArray)] : List Value).toArray (([0] : List Nat).zip [.agg cs4])) fun cells5q =>
 .fxV (.agg cells5q) fun cells5v =>
 .kAgg cells5v fun cells5 =>
 .new (.cells cells5.toList 5 true) fun b6 =>
 .ret (.tuple #[.slice (some ⟨b6, 0, none⟩) 1 1, .slice none 0 0]))
 | _ => .fail
noncomputable def cuts19 : Cuts := [(3, [8])]
noncomputable def L19 : Places := [(3, X19_3, todoOf Tryz.f19 3)]
noncomputable def k19 : FCode := .of X19 L19 cuts19
theorem o19_3 : OOk Tryz.prog Tryz.f19 cuts19 L19 (3, X19_3, todoOf Tryz.f19 3) := by
  intro vs Γ m H r h; replace h : (X19_3 vs).run _ _ _ _ = _ := h; unfold X19_3 at h; split at h
  · replace h := M.iPtr h; obtain ⟨_, rfl, h⟩ := h; exact Eq.trans (by kernel_rfl) h
  · exact M.iFail h
theorem h19 : XOk Tryz.prog Tryz.f19 cuts19 L19 X19 := by
  intro Γ m args H r h; unfold X19 at h; split at h
  · replace h := M.iPtr h; obtain ⟨_, rfl, h⟩ := h; replace h := M.iAgg h; obtain ⟨_, rfl, h⟩ := h; replace h := M.iInt h; obtain ⟨_, rfl, h⟩ := h; exact ⟨Eq.trans (by kernel_rfl) h, Nat.le_of_ble_eq_true (by kernel_rfl)⟩
  · exact M.iFail h
theorem K19 : CodeOk Tryz.prog 19 k19 := .of Tryz.func19 (by kernel_rfl) (by kernel_rfl) h19 (fc o19_3 fe)
-- WARN 19: build of an unknown part
-- (*sternpost/sock.Box).Waiting
noncomputable def X21 : List Value → M := fun args => match args with
 | [v0] => .kPtr v0 fun x0 => 
 .onS x0 fun a1 =>
 .ld a1.block (a1.off + 2) fun v2 =>
 .kSl v2 fun a3 l4 c5 =>
 .fxI ((l4 : Nat) : Int) fun n6 =>
 .jmp 100003 [.slice none 0 0, .slice a3 l4 c5, .int .i64 n6, .int .i64 (0 : Int)]
 | _ => .fail
noncomputable def X21_100003 : List Value → M := fun args => match args with
 | [v0, v1, v2, v3] => .kSl v0 fun a0 l1 c2 => .kSl v1 fun a3 l4 c5 => .kInt .i64 v2 fun x6 => .kInt .i64 v3 fun x7 => 
 .cmp .lss x7 x6 fun t8 =>
 .bool t8 (
 .onS a3 fun a9 =>
 .inb x7 l4 (
 .ld ((a9.add (x7.toNat * 1)).block) ((a9.add (x7.toNat * 1)).off) fun v10 =>
 .kPtr v10 fun p11 =>
 .onS p11 fun a12 =>
 .ld a12.block a12.off fun v13 =>
 .kInt .i64 v13 fun n14 =>
 .new (.cells [.int .i64 n14] 1 true) fun b15 =>
 .firstC 1 (.slice (some ⟨b15, 0, none⟩) 1 1) fun n16 nw17 =>
 .app 3 (.slice a0 l1 c2) n16 nw17 fun v18 =>
 .kSl v18 fun a20 l21 c22 =>
 .wr .i64 (x7 + (1 : Int)) fun n23 =>
 .jmp 100003 [.slice a20 l21 c22, .slice a3 l4 c5, .int .i64 x6, .int .i64 n23])) (
 .ret (.slice a0 l1 c2))
 | _ => .fail
noncomputable def cuts21 : Cuts := [(100003, [3, 9, 10, 11])]
noncomputable def L21 : Places := [(100003, X21_100003, todoOf Tryz.f21 100003)]
noncomputable def k21 : FCode := .of X21 L21 cuts21
theorem o21_100003 : OOk Tryz.prog Tryz.f21 cuts21 L21 (100003, X21_100003, todoOf Tryz.f21 100003) := by
  intro vs Γ m H r h; replace h : (X21_100003 vs).run _ _ _ _ = _ := h; unfold X21_100003 at h; split at h
  · replace h := M.iSl h; obtain ⟨_, _, _, rfl, h⟩ := h; replace h := M.iSl h; obtain ⟨_, _, _, rfl, h⟩ := h; replace h := M.iInt h; obtain ⟨_, rfl, h⟩ := h; replace h := M.iInt h; obtain ⟨_, rfl, h⟩ := h; exact Eq.trans (by kernel_rfl) h
  · exact M.iFail h
theorem h21 : XOk Tryz.prog Tryz.f21 cuts21 L21 X21 := by
  intro Γ m args H r h; unfold X21 at h; split at h
  · replace h := M.iPtr h; obtain ⟨_, rfl, h⟩ := h; exact ⟨Eq.trans (by kernel_rfl) h, Nat.le_of_ble_eq_true (by kernel_rfl)⟩
  · exact M.iFail h
theorem K21 : CodeOk Tryz.prog 21 k21 := .of Tryz.func21 (by kernel_rfl) (by kernel_rfl) h21 (fc o21_100003 fe)
-- sternpost/sternpostlaw19.setup
noncomputable def X22 : List Value → M := fun args => match args with
 | [] => 
 .new (.cells [.int .i64 (0 : Int), .int .i64 (0 : Int), .int .i64 (0 : Int), .int .i64 (0 : Int), .int .i64 (0 : Int), .int .i64 (0 : Int), .int .i64 (0 : Int), .int .i64 (0 : Int), .int .i64 (0 : Int), .int .i64 (0 : Int), .int .i64 (0 : Int)] 0 true) fun b0 =>
 .st 11 (⟨b0, 0, none⟩ : Addr) (.agg #[.int .i64 (20 : Int), .int .i64 (60 : Int), .int .i64 (1 : Int), .int .i64 (8 : Int), .int .i64 (4 : Int), .int .i64 (40 : Int), .int .i64 (20 : Int), .int .i64 (10 : Int), .int .i64 (7 : Int), .int .i64 (3 : Int), .int .i64 (6 : Int)]) (
 .ldn b0 0 11 fun cs2 =>
 .ret (.agg cs2))
 | _ => .fail
noncomputable def cuts22 : Cuts := []
noncomputable def L22 : Places := []
noncomputable def k22 : FCode := .of X22 L22 cuts22
theorem h22 : XOk Tryz.prog Tryz.f22 cuts22 L22 X22 := by
  intro Γ m args H r h; unfold X22 at h; split at h
  · exact ⟨Eq.trans (by kernel_rfl) h, Nat.le_of_ble_eq_true (by kernel_rfl)⟩
  · exact M.iFail h
theorem K22 : CodeOk Tryz.prog 22 k22 := .of Tryz.func22 (by kernel_rfl) (by kernel_rfl) h22 fe
-- sternpost/table.New
noncomputable def X23 : List Value → M := fun args => match args with
 | [v0, v1] => .kAgg v0 fun x0 => .kInt .i64 v1 fun x1 => 
 .new (.cells x0.toList 0 true) fun b2 =>
 .ldn b2 0 8 fun cs3 =>
 .call 51 [.agg cs3] fun r4 =>
 .kInt .i64 r4 fun n5 =>
 .cmp .neq n5 (0 : Int) fun t6 =>
 .bool t6 (
 .ret (.tuple #[.pointer none, .int .i64 n5])) (
 .ld b2 (0 + 8) fun v7 =>
 .kInt .i64 v7 fun n8 =>
 .call 62 [.int .i64 n8] fun r9 =>
 .kInt .i64 r9 fun n10 =>
 .call 62 [.int .i64 x1] fun r11 =>
 .kInt .i64 r11 fun n12 =>
 .cmp .gtr (mxi n10 n12) (0 : Int) fun t13 =>
 .bool t13 (
 .jmp 5 []) (
 .ld b2 (0 + 9) fun v14 =>
 .kInt .i64 v14 fun n15 =>
 .ld b2 (0 + 10) fun v16 =>
 .kInt .i64 v16 fun n17 =>
 .cmp .lss (mni n15 n17) (1 : Int) fun t18 =>
 .bool t18 (
 .jmp 5 []) (
 .ld b2 (0 + 9) fun v19 =>
 .kInt .i64 v19 fun n20 =>
 .cmp .gtr n20 (64 : Int) fun t21 =>
 .bool t21 (
 .jmp 5 []) (
 .ld b2 (0 + 10) fun v22 =>
 .kInt .i64 v22 fun n23 =>
 .cmp .gtr n23 (256 : Int) fun t24 =>
 .bool t24 (
 .jmp 5 []) (
 .ldn b2 0 11 fun cs25 =>
 .new (.map [] [] 0) fun b26 =>
 .new (.map [] [] 0) fun b27 =>
 .new (.map [] [] 0) fun b28 =>
 .cellsOks [.agg cs25, .int .i64 x1, .map (some b26), .map (some b27), .map (some b28)] (.onS (Program.built Tryz.prog 153 (([0, 1, 3, 4, 5] : List Nat).zip [.agg cs25, .int .i64 x1, .map (some b26), .map (some b27), .map (some b28)])) fun cells29q =>
 .fxV (.agg cells29q) fun cells29v =>
 .kAgg cells29v fun cells29 =>
 .new (.cells cells29.toList 0 true) fun b30 =>
 .ret (.tuple #[.pointer (some (⟨b30, 0, none⟩ : Addr)), .int .i64 (0 : Int)])))))))
 | _ => .fail
noncomputable def X23_5 : List Value → M := fun args => match args with
 | [] => 
 .ret (.tuple #[.pointer none, .int .i64 (1 : Int)])
 | _ => .fail
noncomputable def cuts23 : Cuts := [(5, [])]
noncomputable def L23 : Places := [(5, X23_5, todoOf Tryz.f23 5)]
noncomputable def k23 : FCode := .of X23 L23 cuts23
theorem o23_5 : OOk Tryz.prog Tryz.f23 cuts23 L23 (5, X23_5, todoOf Tryz.f23 5) := by
  intro vs Γ m H r h; replace h : (X23_5 vs).run _ _ _ _ = _ := h; unfold X23_5 at h; split at h
  · exact Eq.trans (by kernel_rfl) h
  · exact M.iFail h
theorem h23 : XOk Tryz.prog Tryz.f23 cuts23 L23 X23 := by
  intro Γ m args H r h; unfold X23 at h; split at h
  · replace h := M.iAgg h; obtain ⟨_, rfl, h⟩ := h; replace h := M.iInt h; obtain ⟨_, rfl, h⟩ := h; exact ⟨Eq.trans (by kernel_rfl) h, Nat.le_of_ble_eq_true (by kernel_rfl)⟩
  · exact M.iFail h
theorem K23 : CodeOk Tryz.prog 23 k23 := .of Tryz.func23 (by kernel_rfl) (by kernel_rfl) h23 (fc o23_5 fe)
-- WARN 23: build of an unknown part
-- sternpost/sternpostlaw19.works
noncomputable def X24 : List Value → M := fun args => match args with
 | [] => 
 .call 22 [] fun r0 =>
 .kAgg r0 fun cs1 =>
 .ite (cs1.size = 11) (
 .call 23 [.agg cs1, .int .i64 (11 : Int)] fun r2 =>
 .kTup r2 fun vs3 =>
 .nthA vs3 0 fun v4 =>
 .kPtr v4 fun p5 =>
 .kTup r2 fun vs6 =>
 .nthA vs6 1 fun v7 =>
 .kInt .i64 v7 fun n8 =>
 .bool p5.isNone (
 .jmp 3 []) (
 .cmp .neq n8 (0 : Int) fun t9 =>
 .bool t9 (
 .jmp 3 []) (
 .call 63 [.pointer p5, .int .i64 (80 : Int)] fun r10 =>
 .kInt .i64 r10 fun n11 =>
 .cmp .neq n11 (0 : Int) fun t12 =>
 .bool t12 (
 .jmp 3 []) (
 .call 32 [.pointer p5, .int .i64 (10 : Int), .agg #[.int .i64 (5 : Int), .int .i64 (80 : Int), .int .i64 (9 : Int), .int .i64 (0 : Int), .int .i64 (2 : Int), .int .i64 (100 : Int), .int .i64 (0 : Int), .int .i64 (0 : Int), .int .i64 (0 : Int), .int .i64 (0 : Int), .int .i64 (0 : Int), .bool false, .bool false, .bool false, .slice none 0 0, .string (⟨#[]⟩ : ByteArray)], .int .i64 (3 : Int)] fun r13 =>
 .kTup r13 fun vs14 =>
 .nthA vs14 0 fun v15 =>
 .kInt .i64 v15 fun n16 =>
 .kTup r13 fun vs17 =>
 .nthA vs17 1 fun v18 =>
 .kSl v18 fun a19 l20 c21 =>
 .cmp .eql n16 (1 : Int) fun t22 =>
 .bool t22 (
 .cmp .eql ((l20 : Nat) : Int) (1 : Int) fun t23 =>
 .bool t23 (
 .onS a19 fun a24 =>
 .inb (0 : Int) l20 (
 .ld ((a24.add ((0 : Int).toNat * 17)).block) ((a24.add ((0 : Int).toNat * 17)).off) fun v25 =>
 .kInt .i64 v25 fun n26 =>
 .cmp .eql n26 (10 : Int) fun t27 =>
 .bool t27 (
 .onS a19 fun a28 =>
 .inb (0 : Int) l20 (
 .ld ((a28.add ((0 : Int).toNat * 17)).block) (((a28.add ((0 : Int).toNat * 17)).off + 1) + 4) fun v29 =>
 .kInt .i64 v29 fun n30 =>
 .cmp .eql n30 (18 : Int) fun t31 =>
 .bool t31 (
 .onS a19 fun a32 =>
 .inb (0 : Int) l20 (
 .ld ((a32.add ((0 : Int).toNat * 17)).block) (((a32.add ((0 : Int).toNat * 17)).off + 1) + 3) fun v33 =>
 .kInt .i64 v33 fun n34 =>
 .cmp .eql n34 (10 : Int) fun t35 =>
 .ret (.bool t35))) (
 .ret (.bool false)))) (
 .ret (.bool false)))) (
 .ret (.bool false))) (
 .ret (.bool false))))))
 | _ => .fail
noncomputable def X24_3 : List Value → M := fun args => match args with
 | [] => 
 .ret (.bool false)
 | _ => .fail
noncomputable def cuts24 : Cuts := [(3, [])]
noncomputable def L24 : Places := [(3, X24_3, todoOf Tryz.f24 3)]
noncomputable def k24 : FCode := .of X24 L24 cuts24
theorem o24_3 : OOk Tryz.prog Tryz.f24 cuts24 L24 (3, X24_3, todoOf Tryz.f24 3) := by
  intro vs Γ m H r h; replace h : (X24_3 vs).run _ _ _ _ = _ := h; unfold X24_3 at h; split at h
  · exact Eq.trans (by kernel_rfl) h
  · exact M.iFail h
theorem h24 : XOk Tryz.prog Tryz.f24 cuts24 L24 X24 := by
  intro Γ m args H r h; unfold X24 at h; split at h
  · exact ⟨Eq.trans (by kernel_rfl) h, Nat.le_of_ble_eq_true (by kernel_rfl)⟩
  · exact M.iFail h
theorem K24 : CodeOk Tryz.prog 24 k24 := .of Tryz.func24 (by kernel_rfl) (by kernel_rfl) h24 (fc o24_3 fe)
-- (*sternpost/table.Table).Numbers
noncomputable def X25 : List Value → M := fun args => match args with
 | [v0] => .kPtr v0 fun x0 => 
 .onS x0 fun a1 =>
 .ld a1.block (a1.off + 15) fun v2 =>
 .kMp v2 fun r3 =>
 .call 64 [.map r3] fun r4 =>
 .call 60 [r4] fun r5 =>
 .kSl r5 fun a6 l7 c8 =>
 .ret (.slice a6 l7 c8)
 | _ => .fail
noncomputable def cuts25 : Cuts := []
noncomputable def L25 : Places := []
noncomputable def k25 : FCode := .of X25 L25 cuts25
theorem h25 : XOk Tryz.prog Tryz.f25 cuts25 L25 X25 := by
  intro Γ m args H r h; unfold X25 at h; split at h
  · replace h := M.iPtr h; obtain ⟨_, rfl, h⟩ := h; exact ⟨Eq.trans (by kernel_rfl) h, Nat.le_of_ble_eq_true (by kernel_rfl)⟩
  · exact M.iFail h
theorem K25 : CodeOk Tryz.prog 25 k25 := .of Tryz.func25 (by kernel_rfl) (by kernel_rfl) h25 fe
-- (*sternpost/table.Table).Close
noncomputable def X26 : List Value → M := fun args => match args with
 | [v0, v1, v2] => .kPtr v0 fun x0 => .kInt .i64 v1 fun x1 => .kInt .i64 v2 fun x2 => 
 .call 65 [.pointer x0, .int .i64 x1] fun r3 =>
 .kPtr r3 fun p4 =>
 .bool p4.isNone (
 .ret (.tuple #[.slice none 0 0, .int .i64 (5 : Int)])) (
 .onS p4 fun a5 =>
 .ld a5.block (a5.off + 1) fun v6 =>
 .kPtr v6 fun p7 =>
 .call 46 [.pointer p7, .int .i64 x2] fun r8 =>
 .kTup r8 fun vs9 =>
 .nthA vs9 0 fun v10 =>
 .kSl v10 fun a11 l12 c13 =>
 .kTup r8 fun vs14 =>
 .nthA vs14 1 fun v15 =>
 .kInt .i64 v15 fun n16 =>
 .call 66 [.pointer p4, .slice a11 l12 c13] fun r17 =>
 .kSl r17 fun a18 l19 c20 =>
 .ret (.tuple #[.slice a18 l19 c20, .int .i64 n16]))
 | _ => .fail
noncomputable def cuts26 : Cuts := []
noncomputable def L26 : Places := []
noncomputable def k26 : FCode := .of X26 L26 cuts26
theorem h26 : XOk Tryz.prog Tryz.f26 cuts26 L26 X26 := by
  intro Γ m args H r h; unfold X26 at h; split at h
  · replace h := M.iPtr h; obtain ⟨_, rfl, h⟩ := h; replace h := M.iInt h; obtain ⟨_, rfl, h⟩ := h; replace h := M.iInt h; obtain ⟨_, rfl, h⟩ := h; exact ⟨Eq.trans (by kernel_rfl) h, Nat.le_of_ble_eq_true (by kernel_rfl)⟩
  · exact M.iFail h
theorem K26 : CodeOk Tryz.prog 26 k26 := .of Tryz.func26 (by kernel_rfl) (by kernel_rfl) h26 fe
-- (*sternpost/table.Table).Drop
noncomputable def X27 : List Value → M := fun args => match args with
 | [v0, v1] => .kPtr v0 fun x0 => .kInt .i64 v1 fun x1 => 
 .call 65 [.pointer x0, .int .i64 x1] fun r2 =>
 .kPtr r2 fun p3 =>
 .bool p3.isNone (
 .ret (.int .i64 (5 : Int))) (
 .onS p3 fun a4 =>
 .st 1 (⟨a4.block, a4.off + 6, none⟩ : Addr) (.bool false) (
 .call 67 [.pointer x0, .pointer p3] fun r6 =>
 .ret (.int .i64 (0 : Int))))
 | _ => .fail
noncomputable def cuts27 : Cuts := []
noncomputable def L27 : Places := []
noncomputable def k27 : FCode := .of X27 L27 cuts27
theorem h27 : XOk Tryz.prog Tryz.f27 cuts27 L27 X27 := by
  intro Γ m args H r h; unfold X27 at h; split at h
  · replace h := M.iPtr h; obtain ⟨_, rfl, h⟩ := h; replace h := M.iInt h; obtain ⟨_, rfl, h⟩ := h; exact ⟨Eq.trans (by kernel_rfl) h, Nat.le_of_ble_eq_true (by kernel_rfl)⟩
  · exact M.iFail h
theorem K27 : CodeOk Tryz.prog 27 k27 := .of Tryz.func27 (by kernel_rfl) (by kernel_rfl) h27 fe
-- (*sternpost/table.Table).Connect
noncomputable def X28 : List Value → M := fun args => match args with
 | [v0, v1, v2, v3] => .kPtr v0 fun x0 => .kInt .i64 v1 fun x1 => .kInt .i64 v2 fun x2 => .kInt .i64 v3 fun x3 => 
 .call 62 [.int .i64 x1] fun r4 =>
 .kInt .i64 r4 fun n5 =>
 .cmp .neq n5 (0 : Int) fun t6 =>
 .bool t6 (
 .jmp 2 []) (
 .call 68 [.int .i64 x2] fun r7 =>
 .kBool r7 fun b8 =>
 .bool (!b8) (
 .jmp 2 []) (
 .cmp .lss x3 (0 : Int) fun t9 =>
 .bool t9 (
 .jmp 2 []) (
 .cmp .gtr x3 (1099511627776 : Int) fun t10 =>
 .bool t10 (
 .jmp 2 []) (
 .call 69 [.pointer x0, .int .i64 x1, .int .i64 x2] fun r11 =>
 .kTup r11 fun vs12 =>
 .nthA vs12 0 fun v13 =>
 .kAgg v13 fun cs14 =>
 .ite (cs14.size = 4) (
 .kTup r11 fun vs15 =>
 .nthA vs15 1 fun v16 =>
 .kBool v16 fun b17 =>
 .new (.cells [.int .i64 (0 : Int), .int .i64 (0 : Int), .int .i64 (0 : Int), .int .i64 (0 : Int)] 0 true) fun b18 =>
 .st 4 (⟨b18, 0, none⟩ : Addr) (.agg cs14) (
 .bool (!b17) (
 .jmp 5 []) (
 .onS x0 fun a20 =>
 .ld a20.block (a20.off + 15) fun v21 =>
 .kMp v21 fun r22 =>
 .ldmo r22 fun es23 =>
 .opt (r22 : Option Nat) (
 .onS x0 fun a29 =>
 .ld a29.block (a29.off + 10) fun v30 =>
 .kInt .i64 v30 fun n31 =>
 .cmp .geq (es23.length : Int) n31 fun t32 =>
 .bool t32 (
 .jmp 5 []) (
 .jmp 6 [.pointer x0, .int .i64 x1, .int .i64 x3, .pointer (some (⟨b18, 0, none⟩ : Addr))])) (fun blk24 =>
 .onS x0 fun a25 =>
 .ld a25.block (a25.off + 10) fun v26 =>
 .kInt .i64 v26 fun n27 =>
 .cmp .geq (es23.length : Int) n27 fun t28 =>
 .bool t28 (
 .jmp 5 []) (
 .jmp 6 [.pointer x0, .int .i64 x1, .int .i64 x3, .pointer (some (⟨b18, 0, none⟩ : Addr))])))))))))
 | _ => .fail
noncomputable def X28_2 : List Value → M := fun args => match args with
 | [] => 
 .ret (.tuple #[.int .i64 (0 : Int), .slice none 0 0, .int .i64 (1 : Int)])
 | _ => .fail
noncomputable def X28_5 : List Value → M := fun args => match args with
 | [] => 
 .ret (.tuple #[.int .i64 (0 : Int), .slice none 0 0, .int .i64 (150 : Int)])
 | _ => .fail
noncomputable def X28_6 : List Value → M := fun args => match args with
 | [v0, v1, v2, v3] => .kPtr v0 fun x0 => .kInt .i64 v1 fun x1 => .kInt .i64 v2 fun x2 => .kPtr v3 fun x3 => 
 .onS x0 fun a4 =>
 .ldn a4.block a4.off 8 fun cs5 =>
 .onS x3 fun a6 =>
 .ldn a6.block a6.off 4 fun cs7 =>
 .opt (onSome x3 fun z => some z.block : Option Nat) (
 .onS x3 fun a44 =>
 .ldn a44.block a44.off 4 fun cs45 =>
 .opt (onSome x3 fun z => some z.block : Option Nat) (
 .snap a4.block fun o62 =>
 .call 71 [.pointer x0, .agg cs45, .int .i64 x2] fun r63 =>
 .kInt .i64 r63 fun n64 =>
 .same a4.block o62 (
 .call 70 [.agg cs5, .agg cs7, .int .i64 n64, .int .i64 x2] fun r65 =>
 .kTup r65 fun vs66 =>
 .nthA vs66 0 fun v67 =>
 .kPtr v67 fun p68 =>
 .kTup r65 fun vs69 =>
 .nthA vs69 1 fun v70 =>
 .kSl v70 fun a71 l72 c73 =>
 .kTup r65 fun vs74 =>
 .nthA vs74 2 fun v75 =>
 .kInt .i64 v75 fun n76 =>
 .jmp 7 [.pointer x0, .int .i64 x1, .int .i64 n76, .pointer x3, .pointer p68, .slice a71 l72 c73])) (fun blk46 =>
 .snap a4.block fun o47 =>
 .call 71 [.pointer x0, .agg cs45, .int .i64 x2] fun r48 =>
 .kInt .i64 r48 fun n49 =>
 .same a4.block o47 (
 .call 70 [.agg cs5, .agg cs7, .int .i64 n49, .int .i64 x2] fun r50 =>
 .kTup r50 fun vs51 =>
 .nthA vs51 0 fun v52 =>
 .kPtr v52 fun p53 =>
 .kTup r50 fun vs54 =>
 .nthA vs54 1 fun v55 =>
 .kSl v55 fun a56 l57 c58 =>
 .kTup r50 fun vs59 =>
 .nthA vs59 2 fun v60 =>
 .kInt .i64 v60 fun n61 =>
 .jmp 7 [.pointer x0, .int .i64 x1, .int .i64 n61, .pointer x3, .pointer p53, .slice a56 l57 c58]))) (fun blk8 =>
 .onS x3 fun a9 =>
 .ldn a9.block a9.off 4 fun cs10 =>
 .opt (onSome x3 fun z => some z.block : Option Nat) (
 .snap blk8 fun o28 =>
 .snap a4.block fun o29 =>
 .call 71 [.pointer x0, .agg cs10, .int .i64 x2] fun r30 =>
 .kInt .i64 r30 fun n31 =>
 .same blk8 o28 (
 .same a4.block o29 (
 .call 70 [.agg cs5, .agg cs7, .int .i64 n31, .int .i64 x2] fun r32 =>
 .kTup r32 fun vs33 =>
 .nthA vs33 0 fun v34 =>
 .kPtr v34 fun p35 =>
 .kTup r32 fun vs36 =>
 .nthA vs36 1 fun v37 =>
 .kSl v37 fun a38 l39 c40 =>
 .kTup r32 fun vs41 =>
 .nthA vs41 2 fun v42 =>
 .kInt .i64 v42 fun n43 =>
 .jmp 7 [.pointer x0, .int .i64 x1, .int .i64 n43, .pointer x3, .pointer p35, .slice a38 l39 c40]))) (fun blk11 =>
 .snap blk8 fun o12 =>
 .snap a4.block fun o13 =>
 .call 71 [.pointer x0, .agg cs10, .int .i64 x2] fun r14 =>
 .kInt .i64 r14 fun n15 =>
 .same blk8 o12 (
 .same a4.block o13 (
 .call 70 [.agg cs5, .agg cs7, .int .i64 n15, .int .i64 x2] fun r16 =>
 .kTup r16 fun vs17 =>
 .nthA vs17 0 fun v18 =>
 .kPtr v18 fun p19 =>
 .kTup r16 fun vs20 =>
 .nthA vs20 1 fun v21 =>
 .kSl v21 fun a22 l23 c24 =>
 .kTup r16 fun vs25 =>
 .nthA vs25 2 fun v26 =>
 .kInt .i64 v26 fun n27 =>
 .jmp 7 [.pointer x0, .int .i64 x1, .int .i64 n27, .pointer x3, .pointer p19, .slice a22 l23 c24]))))
 | _ => .fail
noncomputable def X28_7 : List Value → M := fun args => match args with
 | [v0, v1, v2, v3, v4, v5] => .kPtr v0 fun x0 => .kInt .i64 v1 fun x1 => .kInt .i64 v2 fun x2 => .kPtr v3 fun x3 => .kPtr v4 fun x4 => .kSl v5 fun a5 l6 c7 => 
 .cmp .neq x2 (0 : Int) fun t8 =>
 .bool t8 (
 .ret (.tuple #[.int .i64 (0 : Int), .slice none 0 0, .int .i64 x2])) (
 .onS x3 fun a9 =>
 .ldn a9.block a9.off 4 fun cs10 =>
 .call 72 [.pointer x0, .pointer x4, .agg cs10, .bool true] fun r11 =>
 .kInt .i64 r11 fun n12 =>
 .call 73 [.int .i64 x1, .slice a5 l6 c7] fun r13 =>
 .kSl r13 fun a14 l15 c16 =>
 .ret (.tuple #[.int .i64 n12, .slice a14 l15 c16, .int .i64 (0 : Int)]))
 | _ => .fail
noncomputable def cuts28 : Cuts := [(7, [0, 1, 10, 11, 13, 14]), (5, []), (6, [0, 1, 3, 11]), (2, [])]
noncomputable def L28 : Places := [(2, X28_2, todoOf Tryz.f28 2), (5, X28_5, todoOf Tryz.f28 5), (6, X28_6, todoOf Tryz.f28 6), (7, X28_7, todoOf Tryz.f28 7)]
noncomputable def k28 : FCode := .of X28 L28 cuts28
theorem o28_2 : OOk Tryz.prog Tryz.f28 cuts28 L28 (2, X28_2, todoOf Tryz.f28 2) := by
  intro vs Γ m H r h; replace h : (X28_2 vs).run _ _ _ _ = _ := h; unfold X28_2 at h; split at h
  · exact Eq.trans (by kernel_rfl) h
  · exact M.iFail h
theorem o28_5 : OOk Tryz.prog Tryz.f28 cuts28 L28 (5, X28_5, todoOf Tryz.f28 5) := by
  intro vs Γ m H r h; replace h : (X28_5 vs).run _ _ _ _ = _ := h; unfold X28_5 at h; split at h
  · exact Eq.trans (by kernel_rfl) h
  · exact M.iFail h
theorem o28_6 : OOk Tryz.prog Tryz.f28 cuts28 L28 (6, X28_6, todoOf Tryz.f28 6) := by
  intro vs Γ m H r h; replace h : (X28_6 vs).run _ _ _ _ = _ := h; unfold X28_6 at h; split at h
  · replace h := M.iPtr h; obtain ⟨_, rfl, h⟩ := h; replace h := M.iInt h; obtain ⟨_, rfl, h⟩ := h; replace h := M.iInt h; obtain ⟨_, rfl, h⟩ := h; replace h := M.iPtr h; obtain ⟨_, rfl, h⟩ := h; exact Eq.trans (by kernel_rfl) h
  · exact M.iFail h
theorem o28_7 : OOk Tryz.prog Tryz.f28 cuts28 L28 (7, X28_7, todoOf Tryz.f28 7) := by
  intro vs Γ m H r h; replace h : (X28_7 vs).run _ _ _ _ = _ := h; unfold X28_7 at h; split at h
  · replace h := M.iPtr h; obtain ⟨_, rfl, h⟩ := h; replace h := M.iInt h; obtain ⟨_, rfl, h⟩ := h; replace h := M.iInt h; obtain ⟨_, rfl, h⟩ := h; replace h := M.iPtr h; obtain ⟨_, rfl, h⟩ := h; replace h := M.iPtr h; obtain ⟨_, rfl, h⟩ := h; replace h := M.iSl h; obtain ⟨_, _, _, rfl, h⟩ := h; exact Eq.trans (by kernel_rfl) h
  · exact M.iFail h
theorem h28 : XOk Tryz.prog Tryz.f28 cuts28 L28 X28 := by
  intro Γ m args H r h; unfold X28 at h; split at h
  · replace h := M.iPtr h; obtain ⟨_, rfl, h⟩ := h; replace h := M.iInt h; obtain ⟨_, rfl, h⟩ := h; replace h := M.iInt h; obtain ⟨_, rfl, h⟩ := h; replace h := M.iInt h; obtain ⟨_, rfl, h⟩ := h; exact ⟨Eq.trans (by kernel_rfl) h, Nat.le_of_ble_eq_true (by kernel_rfl)⟩
  · exact M.iFail h
theorem K28 : CodeOk Tryz.prog 28 k28 := .of Tryz.func28 (by kernel_rfl) (by kernel_rfl) h28 (fc o28_2 (fc o28_5 (fc o28_6 (fc o28_7 fe))))
-- (*sternpost/table.Table).Ends
noncomputable def X29 : List Value → M := fun args => match args with
 | [v0, v1] => .kPtr v0 fun x0 => .kInt .i64 v1 fun x1 => 
 .new (.cells [.int .i64 (0 : Int), .int .i64 (0 : Int), .int .i64 (0 : Int), .int .i64 (0 : Int)] 0 true) fun b2 =>
 .onS x0 fun a3 =>
 .ld a3.block (a3.off + 15) fun v4 =>
 .kMp v4 fun r5 =>
 .lookupK 151 (.map r5) (.int .i64 x1) false fun v6 =>
 .kPtr v6 fun p7 =>
 .bool p7.isNone (
 .ldn b2 0 4 fun cs8 =>
 .st 4 (⟨b2, 0, none⟩ : Addr) (.agg cs8) (
 .ldn b2 0 4 fun cs10 =>
 .ret (.tuple #[.agg cs10, .bool false]))) (
 .onS p7 fun a11 =>
 .ldn a11.block (a11.off + 2) 4 fun cs12 =>
 .st 4 (⟨b2, 0, none⟩ : Addr) (.agg cs12) (
 .ldn b2 0 4 fun cs14 =>
 .ret (.tuple #[.agg cs14, .bool true])))
 | _ => .fail
noncomputable def cuts29 : Cuts := []
noncomputable def L29 : Places := []
noncomputable def k29 : FCode := .of X29 L29 cuts29
theorem h29 : XOk Tryz.prog Tryz.f29 cuts29 L29 X29 := by
  intro Γ m args H r h; unfold X29 at h; split at h
  · replace h := M.iPtr h; obtain ⟨_, rfl, h⟩ := h; replace h := M.iInt h; obtain ⟨_, rfl, h⟩ := h; exact ⟨Eq.trans (by kernel_rfl) h, Nat.le_of_ble_eq_true (by kernel_rfl)⟩
  · exact M.iFail h
theorem K29 : CodeOk Tryz.prog 29 k29 := .of Tryz.func29 (by kernel_rfl) (by kernel_rfl) h29 fe
-- sternpost/sternpostlaw19.made
noncomputable def X30 : List Value → M := fun args => match args with
 | [v0] => .kInt .i64 v0 fun x0 => 
 .new (.cells [.slice none 0 0, .slice none 0 0, .int .i64 (0 : Int)] 0 true) fun b1 =>
 .jmp 100003 [.int .i64 x0, .pointer (some (⟨b1, 0, none⟩ : Addr)), .int .i64 x0, .int .i64 (0 : Int)]
 | _ => .fail
noncomputable def X30_7 : List Value → M := fun args => match args with
 | [] => 
 .ret (.pointer none)
 | _ => .fail
noncomputable def X30_100003 : List Value → M := fun args => match args with
 | [v0, v1, v2, v3] => .kInt .i64 v0 fun x0 => .kPtr v1 fun x1 => .kInt .i64 v2 fun x2 => .kInt .i64 v3 fun x3 => 
 .cmp .lss x3 x2 fun t4 =>
 .bool t4 (
 .call 22 [] fun r5 =>
 .kAgg r5 fun cs6 =>
 .ite (cs6.size = 11) (
 .wr .i64 ((10 : Int) + x3) fun n7 =>
 .call 23 [.agg cs6, .int .i64 n7] fun r8 =>
 .kTup r8 fun vs9 =>
 .nthA vs9 0 fun v10 =>
 .kPtr v10 fun p11 =>
 .kTup r8 fun vs12 =>
 .nthA vs12 1 fun v13 =>
 .kInt .i64 v13 fun n14 =>
 .bool p11.isNone (
 .jmp 7 []) (
 .cmp .neq n14 (0 : Int) fun t15 =>
 .bool t15 (
 .jmp 7 []) (
 .onS x1 fun a16 =>
 .ld a16.block a16.off fun v17 =>
 .kSl v17 fun a18 l19 c20 =>
 .new (.cells [.pointer p11] 1 true) fun b21 =>
 .firstC 1 (.slice (some ⟨b21, 0, none⟩) 1 1) fun n22 nw23 =>
 .app 46 (.slice a18 l19 c20) n22 nw23 fun v24 =>
 .kSl v24 fun a26 l27 c28 =>
 .onS x1 fun a29 =>
 .st 1 a29 (.slice a26 l27 c28) (
 .wr .i64 (x3 + (1 : Int)) fun n31 =>
 .jmp 100003 [.int .i64 x0, .pointer x1, .int .i64 x2, .int .i64 n31]))))) (
 .onS x1 fun a32 =>
 .ld a32.block a32.off fun v33 =>
 .kSl v33 fun a34 l35 c36 =>
 .wr .i64 (x0 - (1 : Int)) fun n37 =>
 .onS a34 fun a38 =>
 .inb n37 l35 (
 .ld ((a38.add (n37.toNat * 1)).block) ((a38.add (n37.toNat * 1)).off) fun v39 =>
 .kPtr v39 fun p40 =>
 .call 63 [.pointer p40, .int .i64 (80 : Int)] fun r41 =>
 .kInt .i64 r41 fun n42 =>
 .cmp .neq n42 (0 : Int) fun t43 =>
 .bool t43 (
 .ret (.pointer none)) (
 .ret (.pointer x1))))
 | _ => .fail
noncomputable def cuts30 : Cuts := [(100003, [0, 3, 9, 10]), (7, [])]
noncomputable def L30 : Places := [(7, X30_7, todoOf Tryz.f30 7), (100003, X30_100003, todoOf Tryz.f30 100003)]
noncomputable def k30 : FCode := .of X30 L30 cuts30
theorem o30_7 : OOk Tryz.prog Tryz.f30 cuts30 L30 (7, X30_7, todoOf Tryz.f30 7) := by
  intro vs Γ m H r h; replace h : (X30_7 vs).run _ _ _ _ = _ := h; unfold X30_7 at h; split at h
  · exact Eq.trans (by kernel_rfl) h
  · exact M.iFail h
theorem o30_100003 : OOk Tryz.prog Tryz.f30 cuts30 L30 (100003, X30_100003, todoOf Tryz.f30 100003) := by
  intro vs Γ m H r h; replace h : (X30_100003 vs).run _ _ _ _ = _ := h; unfold X30_100003 at h; split at h
  · replace h := M.iInt h; obtain ⟨_, rfl, h⟩ := h; replace h := M.iPtr h; obtain ⟨_, rfl, h⟩ := h; replace h := M.iInt h; obtain ⟨_, rfl, h⟩ := h; replace h := M.iInt h; obtain ⟨_, rfl, h⟩ := h; exact Eq.trans (by kernel_rfl) h
  · exact M.iFail h
theorem h30 : XOk Tryz.prog Tryz.f30 cuts30 L30 X30 := by
  intro Γ m args H r h; unfold X30 at h; split at h
  · replace h := M.iInt h; obtain ⟨_, rfl, h⟩ := h; exact ⟨Eq.trans (by kernel_rfl) h, Nat.le_of_ble_eq_true (by kernel_rfl)⟩
  · exact M.iFail h
theorem K30 : CodeOk Tryz.prog 30 k30 := .of Tryz.func30 (by kernel_rfl) (by kernel_rfl) h30 (fc o30_7 (fc o30_100003 fe))
-- (*sternpost/table.Table).Take
noncomputable def X32 : List Value → M := fun args => match args with
 | [v0, v1, v2, v3] => .kPtr v0 fun x0 => .kInt .i64 v1 fun x1 => .kAgg v2 fun x2 => .kInt .i64 v3 fun x3 => 
 .new (.cells x2.toList 0 true) fun b4 =>
 .call 62 [.int .i64 x1] fun r5 =>
 .kInt .i64 r5 fun n6 =>
 .cmp .neq n6 (0 : Int) fun t7 =>
 .bool t7 (
 .jmp 2 []) (
 .ldn b4 0 16 fun cs8 =>
 .call 42 [.agg cs8] fun r9 =>
 .kInt .i64 r9 fun n10 =>
 .cmp .neq n10 (0 : Int) fun t11 =>
 .bool t11 (
 .jmp 2 []) (
 .onS x0 fun a12 =>
 .ld a12.block (a12.off + 11) fun v13 =>
 .kInt .i64 v13 fun n14 =>
 .ld b4 (0 + 1) fun v15 =>
 .kInt .i64 v15 fun n16 =>
 .ld b4 0 fun v17 =>
 .kInt .i64 v17 fun n18 =>
 .new (.cells [.int .i64 (0 : Int), .int .i64 (0 : Int), .int .i64 (0 : Int), .int .i64 (0 : Int)] 0 true) fun b19 =>
 .st 4 (⟨b19, 0, none⟩ : Addr) (.agg #[.int .i64 n14, .int .i64 n16, .int .i64 x1, .int .i64 n18]) (
 .onS x0 fun a21 =>
 .ld a21.block (a21.off + 14) fun v22 =>
 .kMp v22 fun r23 =>
 .ldn b19 0 4 fun cs24 =>
 .lookupK 150 (.map r23) (.agg cs24) false fun v25 =>
 .kPtr v25 fun p26 =>
 .opt (r23 : Option Nat) (
 .jmp 5 [.pointer x0, .int .i64 x1, .int .i64 x3, .pointer (some (⟨b4, 0, none⟩ : Addr)), .pointer (some (⟨b19, 0, none⟩ : Addr)), .pointer p26]) (fun blk27 =>
 .jmp 5 [.pointer x0, .int .i64 x1, .int .i64 x3, .pointer (some (⟨b4, 0, none⟩ : Addr)), .pointer (some (⟨b19, 0, none⟩ : Addr)), .pointer p26]))))
 | _ => .fail
noncomputable def X32_2 : List Value → M := fun args => match args with
 | [] => 
 .ret (.tuple #[.int .i64 (0 : Int), .slice none 0 0])
 | _ => .fail
noncomputable def X32_5 : List Value → M := fun args => match args with
 | [v0, v1, v2, v3, v4, v5] => .kPtr v0 fun x0 => .kInt .i64 v1 fun x1 => .kInt .i64 v2 fun x2 => .kPtr v3 fun x3 => .kPtr v4 fun x4 => .kPtr v5 fun x5 => 
 .bool (!x5.isNone) (
 .onS x5 fun a6 =>
 .ld a6.block (a6.off + 1) fun v7 =>
 .kPtr v7 fun p8 =>
 .onS x3 fun a9 =>
 .ldn a9.block a9.off 16 fun cs10 =>
 .opt (onSome x3 fun z => some z.block : Option Nat) (
 .call 49 [.pointer p8, .agg cs10, .int .i64 x2] fun r16 =>
 .kSl r16 fun a17 l18 c19 =>
 .jmp 7 [.pointer x0, .pointer x5, .slice a17 l18 c19]) (fun blk11 =>
 .call 49 [.pointer p8, .agg cs10, .int .i64 x2] fun r12 =>
 .kSl r12 fun a13 l14 c15 =>
 .jmp 7 [.pointer x0, .pointer x5, .slice a13 l14 c15])) (
 .onS x0 fun a20 =>
 .ld a20.block (a20.off + 13) fun v21 =>
 .kMp v21 fun r22 =>
 .onS x3 fun a23 =>
 .ld a23.block (a23.off + 1) fun v24 =>
 .kInt .i64 v24 fun n25 =>
 .lookupK 34 (.map r22) (.int .i64 n25) false fun v26 =>
 .kBool v26 fun b27 =>
 .opt (r22 : Option Nat) (
 .bool b27 (
 .onS x3 fun a36 =>
 .ldn a36.block a36.off 16 fun cs37 =>
 .opt (onSome x3 fun z => some z.block : Option Nat) (
 .call 74 [.agg cs37] fun r41 =>
 .kBool r41 fun b42 =>
 .bool b42 (
 .jmp 10 [.pointer x0, .int .i64 x2, .pointer x3, .pointer x4]) (
 .jmp 11 [.int .i64 x1, .pointer x3])) (fun blk38 =>
 .call 74 [.agg cs37] fun r39 =>
 .kBool r39 fun b40 =>
 .bool b40 (
 .jmp 10 [.pointer x0, .int .i64 x2, .pointer x3, .pointer x4]) (
 .jmp 11 [.int .i64 x1, .pointer x3]))) (
 .jmp 11 [.int .i64 x1, .pointer x3])) (fun blk28 =>
 .bool b27 (
 .onS x3 fun a29 =>
 .ldn a29.block a29.off 16 fun cs30 =>
 .opt (onSome x3 fun z => some z.block : Option Nat) (
 .call 74 [.agg cs30] fun r34 =>
 .kBool r34 fun b35 =>
 .bool b35 (
 .jmp 10 [.pointer x0, .int .i64 x2, .pointer x3, .pointer x4]) (
 .jmp 11 [.int .i64 x1, .pointer x3])) (fun blk31 =>
 .call 74 [.agg cs30] fun r32 =>
 .kBool r32 fun b33 =>
 .bool b33 (
 .jmp 10 [.pointer x0, .int .i64 x2, .pointer x3, .pointer x4]) (
 .jmp 11 [.int .i64 x1, .pointer x3]))) (
 .jmp 11 [.int .i64 x1, .pointer x3])))
 | _ => .fail
noncomputable def X32_7 : List Value → M := fun args => match args with
 | [v0, v1, v2] => .kPtr v0 fun x0 => .kPtr v1 fun x1 => .kSl v2 fun a2 l3 c4 => 
 .call 67 [.pointer x0, .pointer x1] fun r5 =>
 .onS x1 fun a6 =>
 .ld a6.block a6.off fun v7 =>
 .kInt .i64 v7 fun n8 =>
 .snap a6.block fun o9 =>
 .call 66 [.pointer x1, .slice a2 l3 c4] fun r10 =>
 .kSl r10 fun a11 l12 c13 =>
 .same a6.block o9 (
 .ret (.tuple #[.int .i64 n8, .slice a11 l12 c13]))
 | _ => .fail
noncomputable def X32_10 : List Value → M := fun args => match args with
 | [v0, v1, v2, v3] => .kPtr v0 fun x0 => .kInt .i64 v1 fun x1 => .kPtr v2 fun x2 => .kPtr v3 fun x3 => 
 .onS x3 fun a4 =>
 .ldn a4.block a4.off 4 fun cs5 =>
 .onS x2 fun a6 =>
 .ldn a6.block a6.off 16 fun cs7 =>
 .call 75 [.pointer x0, .agg cs5, .agg cs7, .int .i64 x1] fun r8 =>
 .kTup r8 fun vs9 =>
 .nthA vs9 0 fun v10 =>
 .kInt .i64 v10 fun n11 =>
 .kTup r8 fun vs12 =>
 .nthA vs12 1 fun v13 =>
 .kSl v13 fun a14 l15 c16 =>
 .ret (.tuple #[.int .i64 n11, .slice a14 l15 c16])
 | _ => .fail
noncomputable def X32_11 : List Value → M := fun args => match args with
 | [v0, v1] => .kInt .i64 v0 fun x0 => .kPtr v1 fun x1 => 
 .onS x1 fun a2 =>
 .ldn a2.block a2.off 16 fun cs3 =>
 .call 76 [.agg cs3] fun r4 =>
 .kTup r4 fun vs5 =>
 .nthA vs5 0 fun v6 =>
 .kAgg v6 fun cs7 =>
 .ite (cs7.size = 16) (
 .kTup r4 fun vs8 =>
 .nthA vs8 1 fun v9 =>
 .kBool v9 fun b10 =>
 .new (.cells [.int .i64 (0 : Int), .int .i64 (0 : Int), .int .i64 (0 : Int), .int .i64 (0 : Int), .int .i64 (0 : Int), .int .i64 (0 : Int), .int .i64 (0 : Int), .int .i64 (0 : Int), .int .i64 (0 : Int), .int .i64 (0 : Int), .int .i64 (0 : Int), .bool false, .bool false, .bool false, .slice none 0 0, .string (⟨#[]⟩ : ByteArray)] 0 true) fun b11 =>
 .st 16 (⟨b11, 0, none⟩ : Addr) (.agg cs7) (
 .bool (!b10) (
 .ret (.tuple #[.int .i64 (0 : Int), .slice none 0 0])) (
 .ldn b11 0 16 fun cs13 =>
 .cellsOks [.agg cs13] (.onS (Instr.fill (fun i => some (i * 16, 16)) ([.int .i64 (0 : Int), .int .i64 (0 : Int), .int .i64 (0 : Int), .int .i64 (0 : Int), .int .i64 (0 : Int), .int .i64 (0 : Int), .int .i64 (0 : Int), .int .i64 (0 : Int), .int .i64 (0 : Int), .int .i64 (0 : Int), .int .i64 (0 : Int), .bool false, .bool false, .bool false, .slice none 0 0, .string (⟨#[]⟩ : ByteArray)] : List Value).toArray (([0] : List Nat).zip [.agg cs13])) fun cells14q =>
 .fxV (.agg cells14q) fun cells14v =>
 .kAgg cells14v fun cells14 =>
 .new (.cells cells14.toList 16 true) fun b15 =>
 .call 73 [.int .i64 x0, .slice (some ⟨b15, 0, none⟩) 1 1] fun r16 =>
 .kSl r16 fun a17 l18 c19 =>
 .ret (.tuple #[.int .i64 (0 : Int), .slice a17 l18 c19])))))
 | _ => .fail
noncomputable def cuts32 : Cuts := [(7, [0, 11, 12]), (10, [0, 3, 6, 10]), (11, [1, 6]), (5, [0, 1, 3, 6, 10, 11]), (2, [])]
noncomputable def L32 : Places := [(2, X32_2, todoOf Tryz.f32 2), (5, X32_5, todoOf Tryz.f32 5), (7, X32_7, todoOf Tryz.f32 7), (10, X32_10, todoOf Tryz.f32 10), (11, X32_11, todoOf Tryz.f32 11)]
noncomputable def k32 : FCode := .of X32 L32 cuts32
theorem o32_2 : OOk Tryz.prog Tryz.f32 cuts32 L32 (2, X32_2, todoOf Tryz.f32 2) := by
  intro vs Γ m H r h; replace h : (X32_2 vs).run _ _ _ _ = _ := h; unfold X32_2 at h; split at h
  · exact Eq.trans (by kernel_rfl) h
  · exact M.iFail h
theorem o32_5 : OOk Tryz.prog Tryz.f32 cuts32 L32 (5, X32_5, todoOf Tryz.f32 5) := by
  intro vs Γ m H r h; replace h : (X32_5 vs).run _ _ _ _ = _ := h; unfold X32_5 at h; split at h
  · replace h := M.iPtr h; obtain ⟨_, rfl, h⟩ := h; replace h := M.iInt h; obtain ⟨_, rfl, h⟩ := h; replace h := M.iInt h; obtain ⟨_, rfl, h⟩ := h; replace h := M.iPtr h; obtain ⟨_, rfl, h⟩ := h; replace h := M.iPtr h; obtain ⟨_, rfl, h⟩ := h; replace h := M.iPtr h; obtain ⟨_, rfl, h⟩ := h; exact Eq.trans (by kernel_rfl) h
  · exact M.iFail h
theorem o32_7 : OOk Tryz.prog Tryz.f32 cuts32 L32 (7, X32_7, todoOf Tryz.f32 7) := by
  intro vs Γ m H r h; replace h : (X32_7 vs).run _ _ _ _ = _ := h; unfold X32_7 at h; split at h
  · replace h := M.iPtr h; obtain ⟨_, rfl, h⟩ := h; replace h := M.iPtr h; obtain ⟨_, rfl, h⟩ := h; replace h := M.iSl h; obtain ⟨_, _, _, rfl, h⟩ := h; exact Eq.trans (by kernel_rfl) h
  · exact M.iFail h
theorem o32_10 : OOk Tryz.prog Tryz.f32 cuts32 L32 (10, X32_10, todoOf Tryz.f32 10) := by
  intro vs Γ m H r h; replace h : (X32_10 vs).run _ _ _ _ = _ := h; unfold X32_10 at h; split at h
  · replace h := M.iPtr h; obtain ⟨_, rfl, h⟩ := h; replace h := M.iInt h; obtain ⟨_, rfl, h⟩ := h; replace h := M.iPtr h; obtain ⟨_, rfl, h⟩ := h; replace h := M.iPtr h; obtain ⟨_, rfl, h⟩ := h; exact Eq.trans (by kernel_rfl) h
  · exact M.iFail h
theorem o32_11 : OOk Tryz.prog Tryz.f32 cuts32 L32 (11, X32_11, todoOf Tryz.f32 11) := by
  intro vs Γ m H r h; replace h : (X32_11 vs).run _ _ _ _ = _ := h; unfold X32_11 at h; split at h
  · replace h := M.iInt h; obtain ⟨_, rfl, h⟩ := h; replace h := M.iPtr h; obtain ⟨_, rfl, h⟩ := h; exact Eq.trans (by kernel_rfl) h
  · exact M.iFail h
theorem h32 : XOk Tryz.prog Tryz.f32 cuts32 L32 X32 := by
  intro Γ m args H r h; unfold X32 at h; split at h
  · replace h := M.iPtr h; obtain ⟨_, rfl, h⟩ := h; replace h := M.iInt h; obtain ⟨_, rfl, h⟩ := h; replace h := M.iAgg h; obtain ⟨_, rfl, h⟩ := h; replace h := M.iInt h; obtain ⟨_, rfl, h⟩ := h; exact ⟨Eq.trans (by kernel_rfl) h, Nat.le_of_ble_eq_true (by kernel_rfl)⟩
  · exact M.iFail h
theorem K32 : CodeOk Tryz.prog 32 k32 := .of Tryz.func32 (by kernel_rfl) (by kernel_rfl) h32 (fc o32_2 (fc o32_5 (fc o32_7 (fc o32_10 (fc o32_11 fe)))))
-- sternpost/sternpostlaw20.made
noncomputable def X33 : List Value → M := fun args => match args with
 | [] => 
 .new (.map [] [] 0) fun b0 =>
 .new (.map [] [] 0) fun b1 =>
 .new (.cells [.pointer none, .pointer none, .slice none 0 0, .map (some b0), .map (some b1), .int .i64 (0 : Int)] 0 true) fun b2 =>
 .jmp 100003 [.pointer (some (⟨b2, 0, none⟩ : Addr)), .int .i64 (0 : Int)]
 | _ => .fail
noncomputable def X33_7 : List Value → M := fun args => match args with
 | [] => 
 .ret (.pointer none)
 | _ => .fail
noncomputable def X33_12 : List Value → M := fun args => match args with
 | [] => 
 .ret (.pointer none)
 | _ => .fail
noncomputable def X33_100003 : List Value → M := fun args => match args with
 | [v0, v1] => .kPtr v0 fun x0 => .kInt .i64 v1 fun x1 => 
 .cmp .lss x1 (2 : Int) fun t2 =>
 .bool t2 (
 .call 16 [] fun r3 =>
 .kAgg r3 fun cs4 =>
 .ite (cs4.size = 11) (
 .wr .i64 ((10 : Int) + x1) fun n5 =>
 .call 15 [.agg cs4, .int .i64 n5] fun r6 =>
 .kTup r6 fun vs7 =>
 .nthA vs7 0 fun v8 =>
 .kPtr v8 fun p9 =>
 .kTup r6 fun vs10 =>
 .nthA vs10 1 fun v11 =>
 .kInt .i64 v11 fun n12 =>
 .bool p9.isNone (
 .jmp 7 []) (
 .cmp .neq n12 (0 : Int) fun t13 =>
 .bool t13 (
 .jmp 7 []) (
 .onS x0 fun a14 =>
 .inb x1 2 (
 .st 1 (a14.add (x1.toNat * 1)) (.pointer p9) (
 .wr .i64 (x1 + (1 : Int)) fun n16 =>
 .jmp 100003 [.pointer x0, .int .i64 n16])))))) (
 .onS x0 fun a17 =>
 .inb (1 : Int) 2 (
 .ld ((a17.add ((1 : Int).toNat * 1)).block) ((a17.add ((1 : Int).toNat * 1)).off) fun v18 =>
 .kPtr v18 fun p19 =>
 .call 19 [.pointer p19, .agg #[.int .i64 (0 : Int), .int .i64 (1 : Int), .int .i64 (0 : Int), .int .i64 (0 : Int), .int .i64 (80 : Int), .int .i64 (0 : Int), .string (⟨#[]⟩ : ByteArray)], .int .i64 (0 : Int)] fun r20 =>
 .kTup r20 fun vs21 =>
 .nthA vs21 0 fun v22 =>
 .kSl v22 fun a23 l24 c25 =>
 .kTup r20 fun vs26 =>
 .nthA vs26 1 fun v27 =>
 .kSl v27 fun a28 l29 c30 =>
 .cmp .neq ((l24 : Nat) : Int) (1 : Int) fun t31 =>
 .bool t31 (
 .jmp 12 []) (
 .onS a23 fun a32 =>
 .inb (0 : Int) l24 (
 .ld ((a32.add ((0 : Int).toNat * 5)).block) ((a32.add ((0 : Int).toNat * 5)).off + 1) fun v33 =>
 .kInt .i64 v33 fun n34 =>
 .cmp .neq n34 (0 : Int) fun t35 =>
 .bool t35 (
 .jmp 12 []) (
 .onS a23 fun a36 =>
 .inb (0 : Int) l24 (
 .ld ((a36.add ((0 : Int).toNat * 5)).block) ((a36.add ((0 : Int).toNat * 5)).off + 2) fun v37 =>
 .kInt .i64 v37 fun n38 =>
 .cmp .neq n38 (0 : Int) fun t39 =>
 .bool t39 (
 .jmp 12 []) (
 .ret (.pointer x0))))))))
 | _ => .fail
noncomputable def cuts33 : Cuts := [(100003, [1, 11]), (7, []), (12, [])]
noncomputable def L33 : Places := [(7, X33_7, todoOf Tryz.f33 7), (12, X33_12, todoOf Tryz.f33 12), (100003, X33_100003, todoOf Tryz.f33 100003)]
noncomputable def k33 : FCode := .of X33 L33 cuts33
theorem o33_7 : OOk Tryz.prog Tryz.f33 cuts33 L33 (7, X33_7, todoOf Tryz.f33 7) := by
  intro vs Γ m H r h; replace h : (X33_7 vs).run _ _ _ _ = _ := h; unfold X33_7 at h; split at h
  · exact Eq.trans (by kernel_rfl) h
  · exact M.iFail h
theorem o33_12 : OOk Tryz.prog Tryz.f33 cuts33 L33 (12, X33_12, todoOf Tryz.f33 12) := by
  intro vs Γ m H r h; replace h : (X33_12 vs).run _ _ _ _ = _ := h; unfold X33_12 at h; split at h
  · exact Eq.trans (by kernel_rfl) h
  · exact M.iFail h
theorem o33_100003 : OOk Tryz.prog Tryz.f33 cuts33 L33 (100003, X33_100003, todoOf Tryz.f33 100003) := by
  intro vs Γ m H r h; replace h : (X33_100003 vs).run _ _ _ _ = _ := h; unfold X33_100003 at h; split at h
  · replace h := M.iPtr h; obtain ⟨_, rfl, h⟩ := h; replace h := M.iInt h; obtain ⟨_, rfl, h⟩ := h; exact Eq.trans (by kernel_rfl) h
  · exact M.iFail h
theorem h33 : XOk Tryz.prog Tryz.f33 cuts33 L33 X33 := by
  intro Γ m args H r h; unfold X33 at h; split at h
  · exact ⟨Eq.trans (by kernel_rfl) h, Nat.le_of_ble_eq_true (by kernel_rfl)⟩
  · exact M.iFail h
theorem K33 : CodeOk Tryz.prog 33 k33 := .of Tryz.func33 (by kernel_rfl) (by kernel_rfl) h33 (fc o33_7 (fc o33_12 (fc o33_100003 fe)))
-- sternpost/sternpostbook.SameInts
noncomputable def X36 : List Value → M := fun args => match args with
 | [v0, v1] => .kSl v0 fun a0 l1 c2 => .kSl v1 fun a3 l4 c5 => 
 .cmp .neq ((l1 : Nat) : Int) ((l4 : Nat) : Int) fun t6 =>
 .bool t6 (
 .ret (.bool false)) (
 .jmp 100004 [.slice a0 l1 c2, .slice a3 l4 c5, .int .i64 (0 : Int)])
 | _ => .fail
noncomputable def X36_100004 : List Value → M := fun args => match args with
 | [v0, v1, v2] => .kSl v0 fun a0 l1 c2 => .kSl v1 fun a3 l4 c5 => .kInt .i64 v2 fun x6 => 
 .cmp .lss x6 ((l1 : Nat) : Int) fun t7 =>
 .bool t7 (
 .onS a0 fun a8 =>
 .inb x6 l1 (
 .ld ((a8.add (x6.toNat * 1)).block) ((a8.add (x6.toNat * 1)).off) fun v9 =>
 .kInt .i64 v9 fun n10 =>
 .onS a3 fun a11 =>
 .inb x6 l4 (
 .ld ((a11.add (x6.toNat * 1)).block) ((a11.add (x6.toNat * 1)).off) fun v12 =>
 .kInt .i64 v12 fun n13 =>
 .cmp .neq n10 n13 fun t14 =>
 .bool t14 (
 .ret (.bool false)) (
 .wr .i64 (x6 + (1 : Int)) fun n15 =>
 .jmp 100004 [.slice a0 l1 c2, .slice a3 l4 c5, .int .i64 n15])))) (
 .ret (.bool true))
 | _ => .fail
noncomputable def cuts36 : Cuts := [(100004, [0, 1, 5])]
noncomputable def L36 : Places := [(100004, X36_100004, todoOf Tryz.f36 100004)]
noncomputable def k36 : FCode := .of X36 L36 cuts36
theorem o36_100004 : OOk Tryz.prog Tryz.f36 cuts36 L36 (100004, X36_100004, todoOf Tryz.f36 100004) := by
  intro vs Γ m H r h; replace h : (X36_100004 vs).run _ _ _ _ = _ := h; unfold X36_100004 at h; split at h
  · replace h := M.iSl h; obtain ⟨_, _, _, rfl, h⟩ := h; replace h := M.iSl h; obtain ⟨_, _, _, rfl, h⟩ := h; replace h := M.iInt h; obtain ⟨_, rfl, h⟩ := h; exact Eq.trans (by kernel_rfl) h
  · exact M.iFail h
theorem h36 : XOk Tryz.prog Tryz.f36 cuts36 L36 X36 := by
  intro Γ m args H r h; unfold X36 at h; split at h
  · replace h := M.iSl h; obtain ⟨_, _, _, rfl, h⟩ := h; replace h := M.iSl h; obtain ⟨_, _, _, rfl, h⟩ := h; exact ⟨Eq.trans (by kernel_rfl) h, Nat.le_of_ble_eq_true (by kernel_rfl)⟩
  · exact M.iFail h
theorem K36 : CodeOk Tryz.prog 36 k36 := .of Tryz.func36 (by kernel_rfl) (by kernel_rfl) h36 (fc o36_100004 fe)
-- sternpost/sternpostlaw18.begun2
noncomputable def X37 : List Value → M := fun args => match args with
 | [v0] => .kAgg v0 fun x0 => 
 .new (.cells x0.toList 0 true) fun b1 =>
 .new (.cells [.pointer none, .pointer none, .slice none 0 0, .slice none 0 0, .string (⟨#[]⟩ : ByteArray), .string (⟨#[]⟩ : ByteArray), .string (⟨#[]⟩ : ByteArray), .string (⟨#[]⟩ : ByteArray), .bool false, .bool false, .bool false, .bool false, .int .i64 (0 : Int)] 0 true) fun b2 =>
 .inb (0 : Int) 2 (
 .ld (((⟨b1, 0, none⟩ : Addr).add ((0 : Int).toNat * 1)).block) (((⟨b1, 0, none⟩ : Addr).add ((0 : Int).toNat * 1)).off) fun v3 =>
 .kInt .i64 v3 fun n4 =>
 .snap (((⟨b1, 0, none⟩ : Addr).add ((0 : Int).toNat * 1)).block) fun o5 =>
 .call 52 [] fun r6 =>
 .kAgg r6 fun cs7 =>
 .ite (cs7.size = 8) (
 .same (((⟨b1, 0, none⟩ : Addr).add ((0 : Int).toNat * 1)).block) o5 (
 .call 18 [.int .i64 n4, .int .i64 (4294967296 : Int)] fun r8 =>
 .kInt .i64 r8 fun n9 =>
 .call 70 [.agg cs7, .agg #[.int .i64 (10 : Int), .int .i64 (5 : Int), .int .i64 (11 : Int), .int .i64 (80 : Int)], .int .i64 n9, .int .i64 (0 : Int)] fun r10 =>
 .kTup r10 fun vs11 =>
 .nthA vs11 0 fun v12 =>
 .kPtr v12 fun p13 =>
 .kTup r10 fun vs14 =>
 .nthA vs14 1 fun v15 =>
 .kSl v15 fun a16 l17 c18 =>
 .kTup r10 fun vs19 =>
 .nthA vs19 2 fun v20 =>
 .kInt .i64 v20 fun n21 =>
 .bool p13.isNone (
 .jmp 4 []) (
 .cmp .neq n21 (0 : Int) fun t22 =>
 .bool t22 (
 .jmp 4 []) (
 .cmp .neq ((l17 : Nat) : Int) (1 : Int) fun t23 =>
 .bool t23 (
 .jmp 4 []) (
 .inb (1 : Int) 2 (
 .ld (((⟨b1, 0, none⟩ : Addr).add ((1 : Int).toNat * 1)).block) (((⟨b1, 0, none⟩ : Addr).add ((1 : Int).toNat * 1)).off) fun v24 =>
 .kInt .i64 v24 fun n25 =>
 .onS a16 fun a26 =>
 .inb (0 : Int) l17 (
 .ldn ((a26.add ((0 : Int).toNat * 16)).block) ((a26.add ((0 : Int).toNat * 16)).off) 16 fun cs27 =>
 .snap ((a26.add ((0 : Int).toNat * 16)).block) fun o28 =>
 .snap (((⟨b1, 0, none⟩ : Addr).add ((1 : Int).toNat * 1)).block) fun o29 =>
 .call 52 [] fun r30 =>
 .kAgg r30 fun cs31 =>
 .ite (cs31.size = 8) (
 .same ((a26.add ((0 : Int).toNat * 16)).block) o28 (
 .same (((⟨b1, 0, none⟩ : Addr).add ((1 : Int).toNat * 1)).block) o29 (
 .snap ((a26.add ((0 : Int).toNat * 16)).block) fun o32 =>
 .call 18 [.int .i64 n25, .int .i64 (4294967296 : Int)] fun r33 =>
 .kInt .i64 r33 fun n34 =>
 .same ((a26.add ((0 : Int).toNat * 16)).block) o32 (
 .call 80 [.agg cs31, .agg #[.int .i64 (11 : Int), .int .i64 (80 : Int), .int .i64 (10 : Int), .int .i64 (5 : Int)], .int .i64 n34, .agg cs27, .int .i64 (0 : Int)] fun r35 =>
 .kTup r35 fun vs36 =>
 .nthA vs36 0 fun v37 =>
 .kPtr v37 fun p38 =>
 .kTup r35 fun vs39 =>
 .nthA vs39 1 fun v40 =>
 .kSl v40 fun a41 l42 c43 =>
 .kTup r35 fun vs44 =>
 .nthA vs44 2 fun v45 =>
 .kInt .i64 v45 fun n46 =>
 .bool p38.isNone (
 .jmp 7 []) (
 .cmp .neq n46 (0 : Int) fun t47 =>
 .bool t47 (
 .jmp 7 []) (
 .st 2 (⟨b2, 0, none⟩ : Addr) (.agg #[.pointer p13, .pointer p38]) (
 .inb (0 : Int) 2 (
 .st 1 ((⟨b2, 0 + 2, none⟩ : Addr).add ((0 : Int).toNat * 1)) (.slice a41 l42 c43) (
 .ret (.pointer (some (⟨b2, 0, none⟩ : Addr))))))))))))))))))))
 | _ => .fail
noncomputable def X37_4 : List Value → M := fun args => match args with
 | [] => 
 .ret (.pointer none)
 | _ => .fail
noncomputable def X37_7 : List Value → M := fun args => match args with
 | [] => 
 .ret (.pointer none)
 | _ => .fail
noncomputable def cuts37 : Cuts := [(7, []), (4, [])]
noncomputable def L37 : Places := [(4, X37_4, todoOf Tryz.f37 4), (7, X37_7, todoOf Tryz.f37 7)]
noncomputable def k37 : FCode := .of X37 L37 cuts37
theorem o37_4 : OOk Tryz.prog Tryz.f37 cuts37 L37 (4, X37_4, todoOf Tryz.f37 4) := by
  intro vs Γ m H r h; replace h : (X37_4 vs).run _ _ _ _ = _ := h; unfold X37_4 at h; split at h
  · exact Eq.trans (by kernel_rfl) h
  · exact M.iFail h
theorem o37_7 : OOk Tryz.prog Tryz.f37 cuts37 L37 (7, X37_7, todoOf Tryz.f37 7) := by
  intro vs Γ m H r h; replace h : (X37_7 vs).run _ _ _ _ = _ := h; unfold X37_7 at h; split at h
  · exact Eq.trans (by kernel_rfl) h
  · exact M.iFail h
theorem h37 : XOk Tryz.prog Tryz.f37 cuts37 L37 X37 := by
  intro Γ m args H r h; unfold X37 at h; split at h
  · replace h := M.iAgg h; obtain ⟨_, rfl, h⟩ := h; exact ⟨Eq.trans (by kernel_rfl) h, Nat.le_of_ble_eq_true (by kernel_rfl)⟩
  · exact M.iFail h
theorem K37 : CodeOk Tryz.prog 37 k37 := .of Tryz.func37 (by kernel_rfl) (by kernel_rfl) h37 (fc o37_4 (fc o37_7 fe))
-- sternpost/sternpostlaw18.works
noncomputable def X38 : List Value → M := fun args => match args with
 | [] => 
 .call 37 [.agg #[.int .i64 (100 : Int), .int .i64 (300 : Int)]] fun r0 =>
 .kPtr r0 fun p1 =>
 .bool p1.isNone (
 .jmp 3 []) (
 .onS p1 fun a2 =>
 .inb (0 : Int) 2 (
 .ld (((⟨a2.block, a2.off + 2, none⟩ : Addr).add ((0 : Int).toNat * 1)).block) (((⟨a2.block, a2.off + 2, none⟩ : Addr).add ((0 : Int).toNat * 1)).off) fun v3 =>
 .kSl v3 fun a4 l5 c6 =>
 .cmp .neq ((l5 : Nat) : Int) (1 : Int) fun t7 =>
 .bool t7 (
 .jmp 3 []) (
 .onS p1 fun a8 =>
 .inb (0 : Int) 2 (
 .ld ((a8.add ((0 : Int).toNat * 1)).block) ((a8.add ((0 : Int).toNat * 1)).off) fun v9 =>
 .kPtr v9 fun p10 =>
 .onS p1 fun a11 =>
 .inb (0 : Int) 2 (
 .ld (((⟨a11.block, a11.off + 2, none⟩ : Addr).add ((0 : Int).toNat * 1)).block) (((⟨a11.block, a11.off + 2, none⟩ : Addr).add ((0 : Int).toNat * 1)).off) fun v12 =>
 .kSl v12 fun a13 l14 c15 =>
 .onS a13 fun a16 =>
 .inb (0 : Int) l14 (
 .ldn ((a16.add ((0 : Int).toNat * 16)).block) ((a16.add ((0 : Int).toNat * 16)).off) 16 fun cs17 =>
 .call 49 [.pointer p10, .agg cs17, .int .i64 (1 : Int)] fun r18 =>
 .kSl r18 fun a19 l20 c21 =>
 .cmp .neq ((l20 : Nat) : Int) (1 : Int) fun t22 =>
 .bool t22 (
 .ret (.bool false)) (
 .onS p1 fun a23 =>
 .inb (1 : Int) 2 (
 .ld ((a23.add ((1 : Int).toNat * 1)).block) ((a23.add ((1 : Int).toNat * 1)).off) fun v24 =>
 .kPtr v24 fun p25 =>
 .onS a19 fun a26 =>
 .inb (0 : Int) l20 (
 .ldn ((a26.add ((0 : Int).toNat * 16)).block) ((a26.add ((0 : Int).toNat * 16)).off) 16 fun cs27 =>
 .call 49 [.pointer p25, .agg cs27, .int .i64 (2 : Int)] fun r28 =>
 .kSl r28 fun a29 l30 c31 =>
 .onS p1 fun a32 =>
 .inb (0 : Int) 2 (
 .ld ((a32.add ((0 : Int).toNat * 1)).block) ((a32.add ((0 : Int).toNat * 1)).off) fun v33 =>
 .kPtr v33 fun p34 =>
 .call 39 [.pointer p34] fun r35 =>
 .kTup r35 fun vs36 =>
 .nthA vs36 0 fun v37 =>
 .kInt .i64 v37 fun n38 =>
 .kTup r35 fun vs39 =>
 .nthA vs39 1 fun v40 =>
 .kInt .i64 v40 fun n41 =>
 .onS p1 fun a42 =>
 .inb (1 : Int) 2 (
 .ld ((a42.add ((1 : Int).toNat * 1)).block) ((a42.add ((1 : Int).toNat * 1)).off) fun v43 =>
 .kPtr v43 fun p44 =>
 .call 39 [.pointer p44] fun r45 =>
 .kTup r45 fun vs46 =>
 .nthA vs46 0 fun v47 =>
 .kInt .i64 v47 fun n48 =>
 .kTup r45 fun vs49 =>
 .nthA vs49 1 fun v50 =>
 .kInt .i64 v50 fun n51 =>
 .cmp .eql n38 (4 : Int) fun t52 =>
 .bool t52 (
 .cmp .eql n48 (4 : Int) fun t53 =>
 .ret (.bool t53)) (
 .ret (.bool false)))))))))))))
 | _ => .fail
noncomputable def X38_3 : List Value → M := fun args => match args with
 | [] => 
 .ret (.bool false)
 | _ => .fail
noncomputable def cuts38 : Cuts := [(3, [])]
noncomputable def L38 : Places := [(3, X38_3, todoOf Tryz.f38 3)]
noncomputable def k38 : FCode := .of X38 L38 cuts38
theorem o38_3 : OOk Tryz.prog Tryz.f38 cuts38 L38 (3, X38_3, todoOf Tryz.f38 3) := by
  intro vs Γ m H r h; replace h : (X38_3 vs).run _ _ _ _ = _ := h; unfold X38_3 at h; split at h
  · exact Eq.trans (by kernel_rfl) h
  · exact M.iFail h
theorem h38 : XOk Tryz.prog Tryz.f38 cuts38 L38 X38 := by
  intro Γ m args H r h; unfold X38 at h; split at h
  · exact ⟨Eq.trans (by kernel_rfl) h, Nat.le_of_ble_eq_true (by kernel_rfl)⟩
  · exact M.iFail h
theorem K38 : CodeOk Tryz.prog 38 k38 := .of Tryz.func38 (by kernel_rfl) (by kernel_rfl) h38 (fc o38_3 fe)
-- (*sternpost/conn.Conn).State
noncomputable def X39 : List Value → M := fun args => match args with
 | [v0] => .kPtr v0 fun x0 => 
 .onS x0 fun a1 =>
 .ld a1.block (a1.off + 12) fun v2 =>
 .kInt .i64 v2 fun n3 =>
 .onS x0 fun a4 =>
 .ld a4.block (a4.off + 16) fun v5 =>
 .kInt .i64 v5 fun n6 =>
 .ret (.tuple #[.int .i64 n3, .int .i64 n6])
 | _ => .fail
noncomputable def cuts39 : Cuts := []
noncomputable def L39 : Places := []
noncomputable def k39 : FCode := .of X39 L39 cuts39
theorem h39 : XOk Tryz.prog Tryz.f39 cuts39 L39 X39 := by
  intro Γ m args H r h; unfold X39 at h; split at h
  · replace h := M.iPtr h; obtain ⟨_, rfl, h⟩ := h; exact ⟨Eq.trans (by kernel_rfl) h, Nat.le_of_ble_eq_true (by kernel_rfl)⟩
  · exact M.iFail h
theorem K39 : CodeOk Tryz.prog 39 k39 := .of Tryz.func39 (by kernel_rfl) (by kernel_rfl) h39 fe
-- sternpost/seg.Check
noncomputable def X42 : List Value → M := fun args => match args with
 | [v0] => .kAgg v0 fun x0 => 
 .new (.cells x0.toList 0 true) fun b1 =>
 .ld b1 0 fun v2 =>
 .kInt .i64 v2 fun n3 =>
 .ld b1 (0 + 1) fun v4 =>
 .kInt .i64 v4 fun n5 =>
 .ld b1 (0 + 5) fun v6 =>
 .kInt .i64 v6 fun n7 =>
 .ld b1 (0 + 6) fun v8 =>
 .kInt .i64 v8 fun n9 =>
 .ld b1 (0 + 4) fun v10 =>
 .kInt .i64 v10 fun n11 =>
 .cmp .lss (mni (mni (mni (mni n3 n5) n7) n9) n11) (0 : Int) fun t12 =>
 .bool t12 (
 .jmp 2 [.pointer (some (⟨b1, 0, none⟩ : Addr)), .bool true]) (
 .ld b1 0 fun v13 =>
 .kInt .i64 v13 fun n14 =>
 .ld b1 (0 + 1) fun v15 =>
 .kInt .i64 v15 fun n16 =>
 .ld b1 (0 + 5) fun v17 =>
 .kInt .i64 v17 fun n18 =>
 .ld b1 (0 + 6) fun v19 =>
 .kInt .i64 v19 fun n20 =>
 .cmp .gtr (mxi (mxi (mxi n14 n16) n18) n20) (65535 : Int) fun t21 =>
 .bool t21 (
 .jmp 2 [.pointer (some (⟨b1, 0, none⟩ : Addr)), .bool true]) (
 .ld b1 (0 + 4) fun v22 =>
 .kInt .i64 v22 fun n23 =>
 .cmp .gtr n23 (63 : Int) fun t24 =>
 .jmp 2 [.pointer (some (⟨b1, 0, none⟩ : Addr)), .bool t24]))
 | _ => .fail
noncomputable def X42_2 : List Value → M := fun args => match args with
 | [v0, v1] => .kPtr v0 fun x0 => .kBool v1 fun x1 => 
 .bool x1 (
 .jmp 3 [.pointer x0, .bool true]) (
 .onS x0 fun a2 =>
 .ld a2.block (a2.off + 2) fun v3 =>
 .kInt .i64 v3 fun n4 =>
 .onS x0 fun a5 =>
 .ld a5.block (a5.off + 3) fun v6 =>
 .kInt .i64 v6 fun n7 =>
 .onS x0 fun a8 =>
 .ldn a8.block (a8.off + 7) 8 fun cs9 =>
 .snap a8.block fun o10 =>
 .snap a5.block fun o11 =>
 .call 62 [.int .i64 n4] fun r12 =>
 .kInt .i64 r12 fun n13 =>
 .same a8.block o10 (
 .same a5.block o11 (
 .snap a8.block fun o14 =>
 .call 62 [.int .i64 n7] fun r15 =>
 .kInt .i64 r15 fun n16 =>
 .same a8.block o14 (
 .call 82 [.agg cs9] fun r17 =>
 .kInt .i64 r17 fun n18 =>
 .cmp .gtr (mxi (mxi n13 n16) n18) (0 : Int) fun t19 =>
 .bool t19 (
 .jmp 3 [.pointer x0, .bool true]) (
 .onS x0 fun a20 =>
 .ld a20.block (a20.off + 15) fun v21 =>
 .kStr v21 fun s22 =>
 .cmp .gtr (s22.size : Int) (1480 : Int) fun t23 =>
 .jmp 3 [.pointer x0, .bool t23])))))
 | _ => .fail
noncomputable def X42_3 : List Value → M := fun args => match args with
 | [v0, v1] => .kPtr v0 fun x0 => .kBool v1 fun x1 => 
 .bool x1 (
 .jmp 4 []) (
 .onS x0 fun a2 =>
 .ld a2.block (a2.off + 3) fun v3 =>
 .kInt .i64 v3 fun n4 =>
 .cmp .gtr n4 (0 : Int) fun t5 =>
 .bool t5 (
 .onS x0 fun a6 =>
 .ldn a6.block a6.off 16 fun cs7 =>
 .call 83 [.agg cs7, .int .i64 (16 : Int)] fun r8 =>
 .kBool r8 fun b9 =>
 .bool (!b9) (
 .jmp 4 []) (
 .onS x0 fun a10 =>
 .ld a10.block (a10.off + 6) fun v11 =>
 .kInt .i64 v11 fun n12 =>
 .cmp .gtr n12 (0 : Int) fun t13 =>
 .bool t13 (
 .onS x0 fun a14 =>
 .ldn a14.block a14.off 16 fun cs15 =>
 .call 83 [.agg cs15, .int .i64 (32 : Int)] fun r16 =>
 .kBool r16 fun b17 =>
 .bool (!b17) (
 .jmp 4 []) (
 .jmp 5 [])) (
 .jmp 5 []))) (
 .onS x0 fun a18 =>
 .ld a18.block (a18.off + 6) fun v19 =>
 .kInt .i64 v19 fun n20 =>
 .cmp .gtr n20 (0 : Int) fun t21 =>
 .bool t21 (
 .onS x0 fun a22 =>
 .ldn a22.block a22.off 16 fun cs23 =>
 .call 83 [.agg cs23, .int .i64 (32 : Int)] fun r24 =>
 .kBool r24 fun b25 =>
 .bool (!b25) (
 .jmp 4 []) (
 .jmp 5 [])) (
 .jmp 5 [])))
 | _ => .fail
noncomputable def X42_4 : List Value → M := fun args => match args with
 | [] => 
 .ret (.int .i64 (80 : Int))
 | _ => .fail
noncomputable def X42_5 : List Value → M := fun args => match args with
 | [] => 
 .ret (.int .i64 (0 : Int))
 | _ => .fail
noncomputable def cuts42 : Cuts := [(4, []), (5, []), (3, [1, 3]), (2, [1, 3])]
noncomputable def L42 : Places := [(2, X42_2, todoOf Tryz.f42 2), (3, X42_3, todoOf Tryz.f42 3), (4, X42_4, todoOf Tryz.f42 4), (5, X42_5, todoOf Tryz.f42 5)]
noncomputable def k42 : FCode := .of X42 L42 cuts42
theorem o42_2 : OOk Tryz.prog Tryz.f42 cuts42 L42 (2, X42_2, todoOf Tryz.f42 2) := by
  intro vs Γ m H r h; replace h : (X42_2 vs).run _ _ _ _ = _ := h; unfold X42_2 at h; split at h
  · replace h := M.iPtr h; obtain ⟨_, rfl, h⟩ := h; replace h := M.iBool h; obtain ⟨_, rfl, h⟩ := h; exact Eq.trans (by kernel_rfl) h
  · exact M.iFail h
theorem o42_3 : OOk Tryz.prog Tryz.f42 cuts42 L42 (3, X42_3, todoOf Tryz.f42 3) := by
  intro vs Γ m H r h; replace h : (X42_3 vs).run _ _ _ _ = _ := h; unfold X42_3 at h; split at h
  · replace h := M.iPtr h; obtain ⟨_, rfl, h⟩ := h; replace h := M.iBool h; obtain ⟨_, rfl, h⟩ := h; exact Eq.trans (by kernel_rfl) h
  · exact M.iFail h
theorem o42_4 : OOk Tryz.prog Tryz.f42 cuts42 L42 (4, X42_4, todoOf Tryz.f42 4) := by
  intro vs Γ m H r h; replace h : (X42_4 vs).run _ _ _ _ = _ := h; unfold X42_4 at h; split at h
  · exact Eq.trans (by kernel_rfl) h
  · exact M.iFail h
theorem o42_5 : OOk Tryz.prog Tryz.f42 cuts42 L42 (5, X42_5, todoOf Tryz.f42 5) := by
  intro vs Γ m H r h; replace h : (X42_5 vs).run _ _ _ _ = _ := h; unfold X42_5 at h; split at h
  · exact Eq.trans (by kernel_rfl) h
  · exact M.iFail h
theorem h42 : XOk Tryz.prog Tryz.f42 cuts42 L42 X42 := by
  intro Γ m args H r h; unfold X42 at h; split at h
  · replace h := M.iAgg h; obtain ⟨_, rfl, h⟩ := h; exact ⟨Eq.trans (by kernel_rfl) h, Nat.le_of_ble_eq_true (by kernel_rfl)⟩
  · exact M.iFail h
theorem K42 : CodeOk Tryz.prog 42 k42 := .of Tryz.func42 (by kernel_rfl) (by kernel_rfl) h42 (fc o42_2 (fc o42_3 (fc o42_4 (fc o42_5 fe))))
-- (*sternpost/conn.Conn).Tick
noncomputable def X44 : List Value → M := fun args => match args with
 | [v0, v1] => .kPtr v0 fun x0 => .kInt .i64 v1 fun x1 => 
 .onS x0 fun a2 =>
 .ld a2.block (a2.off + 12) fun v3 =>
 .kInt .i64 v3 fun n4 =>
 .cmp .eql n4 (0 : Int) fun t5 =>
 .bool t5 (
 .ret (.slice none 0 0)) (
 .call 84 [.pointer x0, .int .i64 x1] fun r6 =>
 .call 85 [.pointer x0, .int .i64 (2 : Int)] fun r7 =>
 .kBool r7 fun b8 =>
 .bool b8 (
 .call 86 [.pointer x0, .int .i64 (0 : Int)] fun r9 =>
 .ret (.slice none 0 0)) (
 .call 85 [.pointer x0, .int .i64 (1 : Int)] fun r10 =>
 .kBool r10 fun b11 =>
 .bool b11 (
 .call 87 [.pointer x0] fun r12 =>
 .kAgg r12 fun cs13 =>
 .ite (cs13.size = 16) (
 .cellsOks [.agg cs13] (.onS (Instr.fill (fun i => some (i * 16, 16)) ([.int .i64 (0 : Int), .int .i64 (0 : Int), .int .i64 (0 : Int), .int .i64 (0 : Int), .int .i64 (0 : Int), .int .i64 (0 : Int), .int .i64 (0 : Int), .int .i64 (0 : Int), .int .i64 (0 : Int), .int .i64 (0 : Int), .int .i64 (0 : Int), .bool false, .bool false, .bool false, .slice none 0 0, .string (⟨#[]⟩ : ByteArray)] : List Value).toArray (([0] : List Nat).zip [.agg cs13])) fun cells14q =>
 .fxV (.agg cells14q) fun cells14v =>
 .kAgg cells14v fun cells14 =>
 .new (.cells cells14.toList 16 true) fun b15 =>
 .firstC 16 (.slice (some ⟨b15, 0, none⟩) 1 1) fun n16 nw17 =>
 .app 62 (.slice none 0 0) n16 nw17 fun v18 =>
 .kSl v18 fun a20 l21 c22 =>
 .jmp 10 [.pointer x0, .slice a20 l21 c22]))) (
 .jmp 10 [.pointer x0, .slice none 0 0])))
 | _ => .fail
noncomputable def X44_10 : List Value → M := fun args => match args with
 | [v0, v1] => .kPtr v0 fun x0 => .kSl v1 fun a1 l2 c3 => 
 .call 85 [.pointer x0, .int .i64 (0 : Int)] fun r4 =>
 .kBool r4 fun b5 =>
 .bool (!b5) (
 .ret (.slice a1 l2 c3)) (
 .onS x0 fun a6 =>
 .ld a6.block (a6.off + 15) fun v7 =>
 .kInt .i64 v7 fun n8 =>
 .onS x0 fun a9 =>
 .ld a9.block (a9.off + 6) fun v10 =>
 .kInt .i64 v10 fun n11 =>
 .cmp .geq n8 n11 fun t12 =>
 .bool t12 (
 .call 45 [.pointer x0] fun r13 =>
 .kTup r13 fun vs14 =>
 .nthA vs14 0 fun v15 =>
 .kInt .i64 v15 fun n16 =>
 .kTup r13 fun vs17 =>
 .nthA vs17 1 fun v18 =>
 .kInt .i64 v18 fun n19 =>
 .kTup r13 fun vs20 =>
 .nthA vs20 2 fun v21 =>
 .kInt .i64 v21 fun n22 =>
 .kTup r13 fun vs23 =>
 .nthA vs23 3 fun v24 =>
 .kInt .i64 v24 fun n25 =>
 .call 88 [.pointer x0, .int .i64 (4 : Int), .int .i64 n19, .string (⟨#[]⟩ : ByteArray)] fun r26 =>
 .kAgg r26 fun cs27 =>
 .ite (cs27.size = 16) (
 .cellsOks [.agg cs27] (.onS (Instr.fill (fun i => some (i * 16, 16)) ([.int .i64 (0 : Int), .int .i64 (0 : Int), .int .i64 (0 : Int), .int .i64 (0 : Int), .int .i64 (0 : Int), .int .i64 (0 : Int), .int .i64 (0 : Int), .int .i64 (0 : Int), .int .i64 (0 : Int), .int .i64 (0 : Int), .int .i64 (0 : Int), .bool false, .bool false, .bool false, .slice none 0 0, .string (⟨#[]⟩ : ByteArray)] : List Value).toArray (([0] : List Nat).zip [.agg cs27])) fun cells28q =>
 .fxV (.agg cells28q) fun cells28v =>
 .kAgg cells28v fun cells28 =>
 .new (.cells cells28.toList 16 true) fun b29 =>
 .firstC 16 (.slice (some ⟨b29, 0, none⟩) 1 1) fun n30 nw31 =>
 .app 62 (.slice a1 l2 c3) n30 nw31 fun v32 =>
 .kSl v32 fun a34 l35 c36 =>
 .call 86 [.pointer x0, .int .i64 (182 : Int)] fun r37 =>
 .ret (.slice a34 l35 c36)))) (
 .onS x0 fun a38 =>
 .ld a38.block (a38.off + 15) fun v39 =>
 .kInt .i64 v39 fun n40 =>
 .wr .i64 (n40 + (1 : Int)) fun n41 =>
 .onS x0 fun a42 =>
 .st 1 (⟨a42.block, a42.off + 15, none⟩ : Addr) (.int .i64 n41) (
 .onS x0 fun a44 =>
 .st 1 (⟨a44.block, a44.off + 34, none⟩ : Addr) (.bool false) (
 .call 89 [.pointer x0] fun r46 =>
 .kTup r46 fun vs47 =>
 .nthA vs47 0 fun v48 =>
 .kInt .i64 v48 fun n49 =>
 .kTup r46 fun vs50 =>
 .nthA vs50 1 fun v51 =>
 .kInt .i64 v51 fun n52 =>
 .cmp .gtr n49 (0 : Int) fun t53 =>
 .bool t53 (
 .onS x0 fun a54 =>
 .ld a54.block (a54.off + 33) fun v55 =>
 .kPtr v55 fun p56 =>
 .call 90 [.pointer p56, .int .i64 n49] fun r57 =>
 .jmp 22 [.pointer x0, .slice a1 l2 c3]) (
 .jmp 22 [.pointer x0, .slice a1 l2 c3])))))
 | _ => .fail
noncomputable def X44_22 : List Value → M := fun args => match args with
 | [v0, v1] => .kPtr v0 fun x0 => .kSl v1 fun a1 l2 c3 => 
 .call 91 [.pointer x0] fun r4 =>
 .kSl r4 fun a5 l6 c7 =>
 .firstC 16 (.slice a5 l6 c7) fun n8 nw9 =>
 .app 62 (.slice a1 l2 c3) n8 nw9 fun v10 =>
 .kSl v10 fun a12 l13 c14 =>
 .onS x0 fun a15 =>
 .ld a15.block (a15.off + 32) fun v16 =>
 .kPtr v16 fun p17 =>
 .call 93 [.pointer p17] fun r18 =>
 .kInt .i64 r18 fun n19 =>
 .call 92 [.pointer x0, .int .i64 (0 : Int), .int .i64 n19] fun r20 =>
 .ret (.slice a12 l13 c14)
 | _ => .fail
noncomputable def cuts44 : Cuts := [(22, [0, 5]), (10, [0, 5])]
noncomputable def L44 : Places := [(10, X44_10, todoOf Tryz.f44 10), (22, X44_22, todoOf Tryz.f44 22)]
noncomputable def k44 : FCode := .of X44 L44 cuts44
theorem o44_10 : OOk Tryz.prog Tryz.f44 cuts44 L44 (10, X44_10, todoOf Tryz.f44 10) := by
  intro vs Γ m H r h; replace h : (X44_10 vs).run _ _ _ _ = _ := h; unfold X44_10 at h; split at h
  · replace h := M.iPtr h; obtain ⟨_, rfl, h⟩ := h; replace h := M.iSl h; obtain ⟨_, _, _, rfl, h⟩ := h; exact Eq.trans (by kernel_rfl) h
  · exact M.iFail h
theorem o44_22 : OOk Tryz.prog Tryz.f44 cuts44 L44 (22, X44_22, todoOf Tryz.f44 22) := by
  intro vs Γ m H r h; replace h : (X44_22 vs).run _ _ _ _ = _ := h; unfold X44_22 at h; split at h
  · replace h := M.iPtr h; obtain ⟨_, rfl, h⟩ := h; replace h := M.iSl h; obtain ⟨_, _, _, rfl, h⟩ := h; exact Eq.trans (by kernel_rfl) h
  · exact M.iFail h
theorem h44 : XOk Tryz.prog Tryz.f44 cuts44 L44 X44 := by
  intro Γ m args H r h; unfold X44 at h; split at h
  · replace h := M.iPtr h; obtain ⟨_, rfl, h⟩ := h; replace h := M.iInt h; obtain ⟨_, rfl, h⟩ := h; exact ⟨Eq.trans (by kernel_rfl) h, Nat.le_of_ble_eq_true (by kernel_rfl)⟩
  · exact M.iFail h
theorem K44 : CodeOk Tryz.prog 44 k44 := .of Tryz.func44 (by kernel_rfl) (by kernel_rfl) h44 (fc o44_10 (fc o44_22 fe))
-- (*sternpost/conn.Conn).Numbers
noncomputable def X45 : List Value → M := fun args => match args with
 | [v0] => .kPtr v0 fun x0 => 
 .onS x0 fun a1 =>
 .ld a1.block (a1.off + 21) fun v2 =>
 .kPtr v2 fun p3 =>
 .call 94 [.pointer p3] fun r4 =>
 .kTup r4 fun vs5 =>
 .nthA vs5 0 fun v6 =>
 .kInt .i64 v6 fun n7 =>
 .kTup r4 fun vs8 =>
 .nthA vs8 1 fun v9 =>
 .kInt .i64 v9 fun n10 =>
 .kTup r4 fun vs11 =>
 .nthA vs11 2 fun v12 =>
 .kInt .i64 v12 fun n13 =>
 .onS x0 fun a14 =>
 .ld a14.block (a14.off + 20) fun v15 =>
 .kBool v15 fun b16 =>
 .onS x0 fun a17 =>
 .ld a17.block (a17.off + 19) fun v18 =>
 .kBool v18 fun b19 =>
 .snap a17.block fun o20 =>
 .call 96 [.bool b16] fun r21 =>
 .kInt .i64 r21 fun n22 =>
 .same a17.block o20 (
 .snap a17.block fun o23 =>
 .call 95 [.int .i64 n7, .int .i64 n22] fun r24 =>
 .kInt .i64 r24 fun n25 =>
 .same a17.block o23 (
 .call 96 [.bool b19] fun r26 =>
 .kInt .i64 r26 fun n27 =>
 .call 95 [.int .i64 n10, .int .i64 n27] fun r28 =>
 .kInt .i64 r28 fun n29 =>
 .onS x0 fun a30 =>
 .ld a30.block (a30.off + 17) fun v31 =>
 .kBool v31 fun b32 =>
 .bool (!b32) (
 .onS x0 fun a33 =>
 .ld a33.block (a33.off + 13) fun v34 =>
 .kInt .i64 v34 fun n35 =>
 .jmp 5 [.pointer x0, .int .i64 n35, .int .i64 n29, .int .i64 (0 : Int)]) (
 .jmp 5 [.pointer x0, .int .i64 n25, .int .i64 n29, .int .i64 (0 : Int)])))
 | _ => .fail
noncomputable def X45_5 : List Value → M := fun args => match args with
 | [v0, v1, v2, v3] => .kPtr v0 fun x0 => .kInt .i64 v1 fun x1 => .kInt .i64 v2 fun x2 => .kInt .i64 v3 fun x3 => 
 .onS x0 fun a4 =>
 .ld a4.block (a4.off + 23) fun v5 =>
 .kBool v5 fun b6 =>
 .bool b6 (
 .onS x0 fun a7 =>
 .ld a7.block (a7.off + 22) fun v8 =>
 .kPtr v8 fun p9 =>
 .onS x0 fun a10 =>
 .ld a10.block ((a10.off + 23) + 7) fun v11 =>
 .kBool v11 fun b12 =>
 .snap a10.block fun o13 =>
 .call 97 [.pointer p9] fun r14 =>
 .kInt .i64 r14 fun n15 =>
 .same a10.block o13 (
 .call 96 [.bool b12] fun r16 =>
 .kInt .i64 r16 fun n17 =>
 .call 95 [.int .i64 n15, .int .i64 n17] fun r18 =>
 .kInt .i64 r18 fun n19 =>
 .jmp 7 [.pointer x0, .int .i64 x1, .int .i64 x2, .int .i64 n19])) (
 .jmp 7 [.pointer x0, .int .i64 x1, .int .i64 x2, .int .i64 x3])
 | _ => .fail
noncomputable def X45_7 : List Value → M := fun args => match args with
 | [v0, v1, v2, v3] => .kPtr v0 fun x0 => .kInt .i64 v1 fun x1 => .kInt .i64 v2 fun x2 => .kInt .i64 v3 fun x3 => 
 .onS x0 fun a4 =>
 .ld a4.block ((a4.off + 23) + 3) fun v5 =>
 .kInt .i64 v5 fun n6 =>
 .ret (.tuple #[.int .i64 x1, .int .i64 x2, .int .i64 x3, .int .i64 n6])
 | _ => .fail
noncomputable def cuts45 : Cuts := [(7, [0, 2, 3, 4]), (5, [0, 2, 3, 4])]
noncomputable def L45 : Places := [(5, X45_5, todoOf Tryz.f45 5), (7, X45_7, todoOf Tryz.f45 7)]
noncomputable def k45 : FCode := .of X45 L45 cuts45
theorem o45_5 : OOk Tryz.prog Tryz.f45 cuts45 L45 (5, X45_5, todoOf Tryz.f45 5) := by
  intro vs Γ m H r h; replace h : (X45_5 vs).run _ _ _ _ = _ := h; unfold X45_5 at h; split at h
  · replace h := M.iPtr h; obtain ⟨_, rfl, h⟩ := h; replace h := M.iInt h; obtain ⟨_, rfl, h⟩ := h; replace h := M.iInt h; obtain ⟨_, rfl, h⟩ := h; replace h := M.iInt h; obtain ⟨_, rfl, h⟩ := h; exact Eq.trans (by kernel_rfl) h
  · exact M.iFail h
theorem o45_7 : OOk Tryz.prog Tryz.f45 cuts45 L45 (7, X45_7, todoOf Tryz.f45 7) := by
  intro vs Γ m H r h; replace h : (X45_7 vs).run _ _ _ _ = _ := h; unfold X45_7 at h; split at h
  · replace h := M.iPtr h; obtain ⟨_, rfl, h⟩ := h; replace h := M.iInt h; obtain ⟨_, rfl, h⟩ := h; replace h := M.iInt h; obtain ⟨_, rfl, h⟩ := h; replace h := M.iInt h; obtain ⟨_, rfl, h⟩ := h; exact Eq.trans (by kernel_rfl) h
  · exact M.iFail h
theorem h45 : XOk Tryz.prog Tryz.f45 cuts45 L45 X45 := by
  intro Γ m args H r h; unfold X45 at h; split at h
  · replace h := M.iPtr h; obtain ⟨_, rfl, h⟩ := h; exact ⟨Eq.trans (by kernel_rfl) h, Nat.le_of_ble_eq_true (by kernel_rfl)⟩
  · exact M.iFail h
theorem K45 : CodeOk Tryz.prog 45 k45 := .of Tryz.func45 (by kernel_rfl) (by kernel_rfl) h45 (fc o45_5 (fc o45_7 fe))
-- (*sternpost/conn.Conn).Close
noncomputable def X46 : List Value → M := fun args => match args with
 | [v0, v1] => .kPtr v0 fun x0 => .kInt .i64 v1 fun x1 => 
 .call 84 [.pointer x0, .int .i64 x1] fun r2 =>
 .onS x0 fun a3 =>
 .ld a3.block (a3.off + 12) fun v4 =>
 .kInt .i64 v4 fun n5 =>
 .cmp .eql n5 (2 : Int) fun t6 =>
 .bool t6 (
 .call 86 [.pointer x0, .int .i64 (0 : Int)] fun r7 =>
 .ret (.tuple #[.slice none 0 0, .int .i64 (0 : Int)])) (
 .call 98 [.pointer x0] fun r8 =>
 .kBool r8 fun b9 =>
 .bool (!b9) (
 .call 99 [.pointer x0] fun r10 =>
 .kInt .i64 r10 fun n11 =>
 .ret (.tuple #[.slice none 0 0, .int .i64 n11])) (
 .onS x0 fun a12 =>
 .st 1 (⟨a12.block, a12.off + 18, none⟩ : Addr) (.bool true) (
 .onS x0 fun a14 =>
 .ld a14.block (a14.off + 12) fun v15 =>
 .kInt .i64 v15 fun n16 =>
 .cmp .eql n16 (4 : Int) fun t17 =>
 .bool t17 (
 .onS x0 fun a18 =>
 .st 1 (⟨a18.block, a18.off + 12, none⟩ : Addr) (.int .i64 (5 : Int)) (
 .jmp 13 [.pointer x0])) (
 .cmp .eql n16 (7 : Int) fun t20 =>
 .bool t20 (
 .onS x0 fun a21 =>
 .st 1 (⟨a21.block, a21.off + 12, none⟩ : Addr) (.int .i64 (9 : Int)) (
 .jmp 13 [.pointer x0])) (
 .jmp 13 [.pointer x0])))))
 | _ => .fail
noncomputable def X46_13 : List Value → M := fun args => match args with
 | [v0] => .kPtr v0 fun x0 => 
 .call 100 [.pointer x0] fun r1 =>
 .kSl r1 fun a2 l3 c4 =>
 .ret (.tuple #[.slice a2 l3 c4, .int .i64 (0 : Int)])
 | _ => .fail
noncomputable def cuts46 : Cuts := [(13, [0])]
noncomputable def L46 : Places := [(13, X46_13, todoOf Tryz.f46 13)]
noncomputable def k46 : FCode := .of X46 L46 cuts46
theorem o46_13 : OOk Tryz.prog Tryz.f46 cuts46 L46 (13, X46_13, todoOf Tryz.f46 13) := by
  intro vs Γ m H r h; replace h : (X46_13 vs).run _ _ _ _ = _ := h; unfold X46_13 at h; split at h
  · replace h := M.iPtr h; obtain ⟨_, rfl, h⟩ := h; exact Eq.trans (by kernel_rfl) h
  · exact M.iFail h
theorem h46 : XOk Tryz.prog Tryz.f46 cuts46 L46 X46 := by
  intro Γ m args H r h; unfold X46 at h; split at h
  · replace h := M.iPtr h; obtain ⟨_, rfl, h⟩ := h; replace h := M.iInt h; obtain ⟨_, rfl, h⟩ := h; exact ⟨Eq.trans (by kernel_rfl) h, Nat.le_of_ble_eq_true (by kernel_rfl)⟩
  · exact M.iFail h
theorem K46 : CodeOk Tryz.prog 46 k46 := .of Tryz.func46 (by kernel_rfl) (by kernel_rfl) h46 (fc o46_13 fe)
-- (*sternpost/conn.Conn).Take
noncomputable def X49 : List Value → M := fun args => match args with
 | [v0, v1, v2] => .kPtr v0 fun x0 => .kAgg v1 fun x1 => .kInt .i64 v2 fun x2 => 
 .new (.cells x1.toList 0 true) fun b3 =>
 .onS x0 fun a4 =>
 .ld a4.block (a4.off + 12) fun v5 =>
 .kInt .i64 v5 fun n6 =>
 .cmp .eql n6 (0 : Int) fun t7 =>
 .bool t7 (
 .jmp 2 []) (
 .ldn b3 0 16 fun cs8 =>
 .call 42 [.agg cs8] fun r9 =>
 .kInt .i64 r9 fun n10 =>
 .cmp .neq n10 (0 : Int) fun t11 =>
 .bool t11 (
 .jmp 2 []) (
 .ld b3 0 fun v12 =>
 .kInt .i64 v12 fun n13 =>
 .onS x0 fun a14 =>
 .ld a14.block ((a14.off + 8) + 3) fun v15 =>
 .kInt .i64 v15 fun n16 =>
 .cmp .neq n13 n16 fun t17 =>
 .bool t17 (
 .jmp 2 []) (
 .ld b3 (0 + 1) fun v18 =>
 .kInt .i64 v18 fun n19 =>
 .onS x0 fun a20 =>
 .ld a20.block ((a20.off + 8) + 1) fun v21 =>
 .kInt .i64 v21 fun n22 =>
 .cmp .neq n19 n22 fun t23 =>
 .bool t23 (
 .jmp 2 []) (
 .jmp 3 [.pointer x0, .int .i64 x2, .pointer (some (⟨b3, 0, none⟩ : Addr))]))))
 | _ => .fail
noncomputable def X49_2 : List Value → M := fun args => match args with
 | [] => 
 .ret (.slice none 0 0)
 | _ => .fail
noncomputable def X49_3 : List Value → M := fun args => match args with
 | [v0, v1, v2] => .kPtr v0 fun x0 => .kInt .i64 v1 fun x1 => .kPtr v2 fun x2 => 
 .call 84 [.pointer x0, .int .i64 x1] fun r3 =>
 .onS x0 fun a4 =>
 .ld a4.block (a4.off + 12) fun v5 =>
 .kInt .i64 v5 fun n6 =>
 .cmp .eql n6 (2 : Int) fun t7 =>
 .bool t7 (
 .onS x2 fun a8 =>
 .ldn a8.block a8.off 16 fun cs9 =>
 .call 102 [.pointer x0, .agg cs9] fun r10 =>
 .kSl r10 fun a11 l12 c13 =>
 .ret (.slice a11 l12 c13)) (
 .onS x2 fun a14 =>
 .ldn a14.block a14.off 16 fun cs15 =>
 .call 103 [.pointer x0, .agg cs15] fun r16 =>
 .kTup r16 fun vs17 =>
 .nthA vs17 0 fun v18 =>
 .kSl v18 fun a19 l20 c21 =>
 .kTup r16 fun vs22 =>
 .nthA vs22 1 fun v23 =>
 .kBool v23 fun b24 =>
 .bool b24 (
 .ret (.slice a19 l20 c21)) (
 .onS x0 fun a25 =>
 .ld a25.block (a25.off + 12) fun v26 =>
 .kInt .i64 v26 fun n27 =>
 .cmp .eql n27 (3 : Int) fun t28 =>
 .bool t28 (
 .call 104 [.pointer x0] fun r29 =>
 .jmp 11 [.pointer x0, .pointer x2]) (
 .jmp 11 [.pointer x0, .pointer x2])))
 | _ => .fail
noncomputable def X49_11 : List Value → M := fun args => match args with
 | [v0, v1] => .kPtr v0 fun x0 => .kPtr v1 fun x1 => 
 .onS x1 fun a2 =>
 .ldn a2.block a2.off 16 fun cs3 =>
 .call 105 [.pointer x0, .agg cs3] fun r4 =>
 .kBool r4 fun b5 =>
 .onS x0 fun a6 =>
 .ld a6.block (a6.off + 12) fun v7 =>
 .kInt .i64 v7 fun n8 =>
 .cmp .eql n8 (0 : Int) fun t9 =>
 .bool t9 (
 .ret (.slice none 0 0)) (
 .onS x1 fun a10 =>
 .ldn a10.block a10.off 16 fun cs11 =>
 .call 106 [.pointer x0, .agg cs11, .bool b5] fun r12 =>
 .kSl r12 fun a13 l14 c15 =>
 .ret (.slice a13 l14 c15))
 | _ => .fail
noncomputable def cuts49 : Cuts := [(11, [0, 4]), (2, []), (3, [0, 2, 4])]
noncomputable def L49 : Places := [(2, X49_2, todoOf Tryz.f49 2), (3, X49_3, todoOf Tryz.f49 3), (11, X49_11, todoOf Tryz.f49 11)]
noncomputable def k49 : FCode := .of X49 L49 cuts49
theorem o49_2 : OOk Tryz.prog Tryz.f49 cuts49 L49 (2, X49_2, todoOf Tryz.f49 2) := by
  intro vs Γ m H r h; replace h : (X49_2 vs).run _ _ _ _ = _ := h; unfold X49_2 at h; split at h
  · exact Eq.trans (by kernel_rfl) h
  · exact M.iFail h
theorem o49_3 : OOk Tryz.prog Tryz.f49 cuts49 L49 (3, X49_3, todoOf Tryz.f49 3) := by
  intro vs Γ m H r h; replace h : (X49_3 vs).run _ _ _ _ = _ := h; unfold X49_3 at h; split at h
  · replace h := M.iPtr h; obtain ⟨_, rfl, h⟩ := h; replace h := M.iInt h; obtain ⟨_, rfl, h⟩ := h; replace h := M.iPtr h; obtain ⟨_, rfl, h⟩ := h; exact Eq.trans (by kernel_rfl) h
  · exact M.iFail h
theorem o49_11 : OOk Tryz.prog Tryz.f49 cuts49 L49 (11, X49_11, todoOf Tryz.f49 11) := by
  intro vs Γ m H r h; replace h : (X49_11 vs).run _ _ _ _ = _ := h; unfold X49_11 at h; split at h
  · replace h := M.iPtr h; obtain ⟨_, rfl, h⟩ := h; replace h := M.iPtr h; obtain ⟨_, rfl, h⟩ := h; exact Eq.trans (by kernel_rfl) h
  · exact M.iFail h
theorem h49 : XOk Tryz.prog Tryz.f49 cuts49 L49 X49 := by
  intro Γ m args H r h; unfold X49 at h; split at h
  · replace h := M.iPtr h; obtain ⟨_, rfl, h⟩ := h; replace h := M.iAgg h; obtain ⟨_, rfl, h⟩ := h; replace h := M.iInt h; obtain ⟨_, rfl, h⟩ := h; exact ⟨Eq.trans (by kernel_rfl) h, Nat.le_of_ble_eq_true (by kernel_rfl)⟩
  · exact M.iFail h
theorem K49 : CodeOk Tryz.prog 49 k49 := .of Tryz.func49 (by kernel_rfl) (by kernel_rfl) h49 (fc o49_2 (fc o49_3 (fc o49_11 fe)))
-- sternpost/conn.Check
noncomputable def X51 : List Value → M := fun args => match args with
 | [v0] => .kAgg v0 fun x0 => 
 .new (.cells x0.toList 0 true) fun b1 =>
 .ld b1 0 fun v2 =>
 .kInt .i64 v2 fun n3 =>
 .ld b1 (0 + 1) fun v4 =>
 .kInt .i64 v4 fun n5 =>
 .ld b1 (0 + 7) fun v6 =>
 .kInt .i64 v6 fun n7 =>
 .cmp .lss (mni (mni n3 n5) n7) (1 : Int) fun t8 =>
 .bool t8 (
 .jmp 2 []) (
 .ld b1 (0 + 2) fun v9 =>
 .kInt .i64 v9 fun n10 =>
 .ld b1 (0 + 6) fun v11 =>
 .kInt .i64 v11 fun n12 =>
 .cmp .lss (mni n10 n12) (0 : Int) fun t13 =>
 .bool t13 (
 .jmp 2 []) (
 .ld b1 0 fun v14 =>
 .kInt .i64 v14 fun n15 =>
 .cmp .gtr n15 (1460 : Int) fun t16 =>
 .bool t16 (
 .jmp 2 []) (
 .ld b1 (0 + 1) fun v17 =>
 .kInt .i64 v17 fun n18 =>
 .cmp .gtr n18 (65535 : Int) fun t19 =>
 .bool t19 (
 .jmp 2 []) (
 .ld b1 (0 + 2) fun v20 =>
 .kInt .i64 v20 fun n21 =>
 .ld b1 (0 + 7) fun v22 =>
 .kInt .i64 v22 fun n23 =>
 .cmp .gtr (mxi n21 n23) (1048576 : Int) fun t24 =>
 .bool t24 (
 .jmp 2 []) (
 .ld b1 (0 + 6) fun v25 =>
 .kInt .i64 v25 fun n26 =>
 .cmp .gtr n26 (32 : Int) fun t27 =>
 .bool t27 (
 .jmp 2 []) (
 .ld b1 (0 + 3) fun v28 =>
 .kInt .i64 v28 fun n29 =>
 .ld b1 (0 + 4) fun v30 =>
 .kInt .i64 v30 fun n31 =>
 .ld b1 (0 + 5) fun v32 =>
 .kInt .i64 v32 fun n33 =>
 .call 108 [.int .i64 n29, .int .i64 n31, .int .i64 n33] fun r34 =>
 .kTup r34 fun vs35 =>
 .nthA vs35 0 fun v36 =>
 .kPtr v36 fun p37 =>
 .kTup r34 fun vs38 =>
 .nthA vs38 1 fun v39 =>
 .kInt .i64 v39 fun n40 =>
 .ret (.int .i64 n40)))))))
 | _ => .fail
noncomputable def X51_2 : List Value → M := fun args => match args with
 | [] => 
 .ret (.int .i64 (1 : Int))
 | _ => .fail
noncomputable def cuts51 : Cuts := [(2, [])]
noncomputable def L51 : Places := [(2, X51_2, todoOf Tryz.f51 2)]
noncomputable def k51 : FCode := .of X51 L51 cuts51
theorem o51_2 : OOk Tryz.prog Tryz.f51 cuts51 L51 (2, X51_2, todoOf Tryz.f51 2) := by
  intro vs Γ m H r h; replace h : (X51_2 vs).run _ _ _ _ = _ := h; unfold X51_2 at h; split at h
  · exact Eq.trans (by kernel_rfl) h
  · exact M.iFail h
theorem h51 : XOk Tryz.prog Tryz.f51 cuts51 L51 X51 := by
  intro Γ m args H r h; unfold X51 at h; split at h
  · replace h := M.iAgg h; obtain ⟨_, rfl, h⟩ := h; exact ⟨Eq.trans (by kernel_rfl) h, Nat.le_of_ble_eq_true (by kernel_rfl)⟩
  · exact M.iFail h
theorem K51 : CodeOk Tryz.prog 51 k51 := .of Tryz.func51 (by kernel_rfl) (by kernel_rfl) h51 (fc o51_2 fe)
-- sternpost/sternpostlaw18.setup
noncomputable def X52 : List Value → M := fun args => match args with
 | [] => 
 .new (.cells [.int .i64 (0 : Int), .int .i64 (0 : Int), .int .i64 (0 : Int), .int .i64 (0 : Int), .int .i64 (0 : Int), .int .i64 (0 : Int), .int .i64 (0 : Int), .int .i64 (0 : Int)] 0 true) fun b0 =>
 .st 8 (⟨b0, 0, none⟩ : Addr) (.agg #[.int .i64 (20 : Int), .int .i64 (60 : Int), .int .i64 (2 : Int), .int .i64 (8 : Int), .int .i64 (4 : Int), .int .i64 (40 : Int), .int .i64 (32 : Int), .int .i64 (20 : Int)]) (
 .ldn b0 0 8 fun cs2 =>
 .ret (.agg cs2))
 | _ => .fail
noncomputable def cuts52 : Cuts := []
noncomputable def L52 : Places := []
noncomputable def k52 : FCode := .of X52 L52 cuts52
theorem h52 : XOk Tryz.prog Tryz.f52 cuts52 L52 X52 := by
  intro Γ m args H r h; unfold X52 at h; split at h
  · exact ⟨Eq.trans (by kernel_rfl) h, Nat.le_of_ble_eq_true (by kernel_rfl)⟩
  · exact M.iFail h
theorem K52 : CodeOk Tryz.prog 52 k52 := .of Tryz.func52 (by kernel_rfl) (by kernel_rfl) h52 fe
-- (*sternpost/sternpostlaw19.world).send
noncomputable def X53 : List Value → M := fun args => match args with
 | [v0, v1, v2] => .kPtr v0 fun x0 => .kInt .i64 v1 fun x1 => .kSl v2 fun a2 l3 c4 => 
 .fxI ((l3 : Nat) : Int) fun n5 =>
 .jmp 100001 [.pointer x0, .int .i64 x1, .slice a2 l3 c4, .int .i64 n5, .int .i64 (0 : Int)]
 | _ => .fail
noncomputable def X53_100001 : List Value → M := fun args => match args with
 | [v0, v1, v2, v3, v4] => .kPtr v0 fun x0 => .kInt .i64 v1 fun x1 => .kSl v2 fun a2 l3 c4 => .kInt .i64 v3 fun x5 => .kInt .i64 v4 fun x6 => 
 .cmp .lss x6 x5 fun t7 =>
 .bool t7 (
 .onS a2 fun a8 =>
 .inb x6 l3 (
 .ldn ((a8.add (x6.toNat * 17)).block) ((a8.add (x6.toNat * 17)).off) 17 fun cs9 =>
 .new (.cells [.int .i64 (0 : Int), .int .i64 (0 : Int), .int .i64 (0 : Int), .int .i64 (0 : Int), .int .i64 (0 : Int), .int .i64 (0 : Int), .int .i64 (0 : Int), .int .i64 (0 : Int), .int .i64 (0 : Int), .int .i64 (0 : Int), .int .i64 (0 : Int), .int .i64 (0 : Int), .bool false, .bool false, .bool false, .slice none 0 0, .string (⟨#[]⟩ : ByteArray)] 0 true) fun b10 =>
 .st 17 (⟨b10, 0, none⟩ : Addr) (.agg cs9) (
 .onS x0 fun a12 =>
 .ld a12.block (a12.off + 1) fun v13 =>
 .kSl v13 fun a14 l15 c16 =>
 .ld b10 0 fun v17 =>
 .kInt .i64 v17 fun n18 =>
 .ldn b10 (0 + 1) 16 fun cs19 =>
 .cellsOks [.int .i64 x1, .int .i64 n18, .agg cs19] (.onS (Program.built Tryz.prog 211 (([0, 1, 2] : List Nat).zip [.int .i64 x1, .int .i64 n18, .agg cs19])) fun cells20q =>
 .fxV (.agg cells20q) fun cells20v =>
 .kAgg cells20v fun cells20 =>
 .cellsOks [.agg cells20] (.onS (Instr.fill (fun i => some (i * 18, 18)) ([.int .i64 (0 : Int), .int .i64 (0 : Int), .int .i64 (0 : Int), .int .i64 (0 : Int), .int .i64 (0 : Int), .int .i64 (0 : Int), .int .i64 (0 : Int), .int .i64 (0 : Int), .int .i64 (0 : Int), .int .i64 (0 : Int), .int .i64 (0 : Int), .int .i64 (0 : Int), .int .i64 (0 : Int), .bool false, .bool false, .bool false, .slice none 0 0, .string (⟨#[]⟩ : ByteArray)] : List Value).toArray (([0] : List Nat).zip [.agg cells20])) fun cells21q =>
 .fxV (.agg cells21q) fun cells21v =>
 .kAgg cells21v fun cells21 =>
 .new (.cells cells21.toList 18 true) fun b22 =>
 .firstC 18 (.slice (some ⟨b22, 0, none⟩) 1 1) fun n23 nw24 =>
 .app 211 (.slice a14 l15 c16) n23 nw24 fun v25 =>
 .kSl v25 fun a27 l28 c29 =>
 .onS x0 fun a30 =>
 .st 1 (⟨a30.block, a30.off + 1, none⟩ : Addr) (.slice a27 l28 c29) (
 .wr .i64 (x6 + (1 : Int)) fun n32 =>
 .jmp 100001 [.pointer x0, .int .i64 x1, .slice a2 l3 c4, .int .i64 x5, .int .i64 n32])))))) (
 .ret (.tuple #[]))
 | _ => .fail
noncomputable def cuts53 : Cuts := [(100001, [0, 1, 8, 9, 10])]
noncomputable def L53 : Places := [(100001, X53_100001, todoOf Tryz.f53 100001)]
noncomputable def k53 : FCode := .of X53 L53 cuts53
theorem o53_100001 : OOk Tryz.prog Tryz.f53 cuts53 L53 (100001, X53_100001, todoOf Tryz.f53 100001) := by
  intro vs Γ m H r h; replace h : (X53_100001 vs).run _ _ _ _ = _ := h; unfold X53_100001 at h; split at h
  · replace h := M.iPtr h; obtain ⟨_, rfl, h⟩ := h; replace h := M.iInt h; obtain ⟨_, rfl, h⟩ := h; replace h := M.iSl h; obtain ⟨_, _, _, rfl, h⟩ := h; replace h := M.iInt h; obtain ⟨_, rfl, h⟩ := h; replace h := M.iInt h; obtain ⟨_, rfl, h⟩ := h; exact Eq.trans (by kernel_rfl) h
  · exact M.iFail h
theorem h53 : XOk Tryz.prog Tryz.f53 cuts53 L53 X53 := by
  intro Γ m args H r h; unfold X53 at h; split at h
  · replace h := M.iPtr h; obtain ⟨_, rfl, h⟩ := h; replace h := M.iInt h; obtain ⟨_, rfl, h⟩ := h; replace h := M.iSl h; obtain ⟨_, _, _, rfl, h⟩ := h; exact ⟨Eq.trans (by kernel_rfl) h, Nat.le_of_ble_eq_true (by kernel_rfl)⟩
  · exact M.iFail h
theorem K53 : CodeOk Tryz.prog 53 k53 := .of Tryz.func53 (by kernel_rfl) (by kernel_rfl) h53 (fc o53_100001 fe)
-- WARN 53: build of an unknown part
-- (*sternpost/sternpostlaw19.world).goes
noncomputable def X54 : List Value → M := fun args => match args with
 | [v0, v1] => .kPtr v0 fun x0 => .kInt .i64 v1 fun x1 => 
 .jmp 100001 [.pointer x0, .int .i64 x1, .int .i64 (0 : Int)]
 | _ => .fail
noncomputable def X54_17 : List Value → M := fun args => match args with
 | [v0, v1, v2, v3, v4, v5] => .kPtr v0 fun x0 => .kInt .i64 v1 fun x1 => .kInt .i64 v2 fun x2 => .kSl v3 fun a3 l4 c5 => .kInt .i64 v4 fun x6 => .kInt .i64 v5 fun x7 => 
 .wr .i64 (x7 + (1 : Int)) fun n8 =>
 .jmp 100011 [.pointer x0, .int .i64 x1, .int .i64 x2, .slice a3 l4 c5, .int .i64 x6, .int .i64 n8]
 | _ => .fail
noncomputable def X54_100001 : List Value → M := fun args => match args with
 | [v0, v1, v2] => .kPtr v0 fun x0 => .kInt .i64 v1 fun x1 => .kInt .i64 v2 fun x2 => 
 .cmp .lss x2 x1 fun t3 =>
 .bool t3 (
 .onS x0 fun a4 =>
 .ld a4.block (a4.off + 2) fun v5 =>
 .kInt .i64 v5 fun n6 =>
 .wr .i64 (n6 + (1 : Int)) fun n7 =>
 .onS x0 fun a8 =>
 .st 1 (⟨a8.block, a8.off + 2, none⟩ : Addr) (.int .i64 n7) (
 .onS x0 fun a10 =>
 .ld a10.block a10.off fun v11 =>
 .kSl v11 fun a12 l13 c14 =>
 .fxI ((l13 : Nat) : Int) fun n15 =>
 .jmp 100004 [.pointer x0, .int .i64 x1, .int .i64 x2, .slice a12 l13 c14, .int .i64 n15, .int .i64 (0 : Int)])) (
 .ret (.tuple #[]))
 | _ => .fail
noncomputable def X54_100004 : List Value → M := fun args => match args with
 | [v0, v1, v2, v3, v4, v5] => .kPtr v0 fun x0 => .kInt .i64 v1 fun x1 => .kInt .i64 v2 fun x2 => .kSl v3 fun a3 l4 c5 => .kInt .i64 v4 fun x6 => .kInt .i64 v5 fun x7 => 
 .cmp .lss x7 x6 fun t8 =>
 .bool t8 (
 .onS a3 fun a9 =>
 .inb x7 l4 (
 .ld ((a9.add (x7.toNat * 1)).block) ((a9.add (x7.toNat * 1)).off) fun v10 =>
 .kPtr v10 fun p11 =>
 .wr .i64 ((10 : Int) + x7) fun n12 =>
 .onS x0 fun a13 =>
 .ld a13.block (a13.off + 2) fun v14 =>
 .kInt .i64 v14 fun n15 =>
 .call 109 [.pointer p11, .int .i64 n15] fun r16 =>
 .kSl r16 fun a17 l18 c19 =>
 .call 53 [.pointer x0, .int .i64 n12, .slice a17 l18 c19] fun r20 =>
 .wr .i64 (x7 + (1 : Int)) fun n21 =>
 .jmp 100004 [.pointer x0, .int .i64 x1, .int .i64 x2, .slice a3 l4 c5, .int .i64 x6, .int .i64 n21])) (
 .onS x0 fun a22 =>
 .ld a22.block (a22.off + 1) fun v23 =>
 .kSl v23 fun a24 l25 c26 =>
 .onS x0 fun a27 =>
 .st 1 (⟨a27.block, a27.off + 1, none⟩ : Addr) (.slice none 0 0) (
 .fxI ((l25 : Nat) : Int) fun n29 =>
 .jmp 100011 [.pointer x0, .int .i64 x1, .int .i64 x2, .slice a24 l25 c26, .int .i64 n29, .int .i64 (0 : Int)]))
 | _ => .fail
noncomputable def X54_100011 : List Value → M := fun args => match args with
 | [v0, v1, v2, v3, v4, v5] => .kPtr v0 fun x0 => .kInt .i64 v1 fun x1 => .kInt .i64 v2 fun x2 => .kSl v3 fun a3 l4 c5 => .kInt .i64 v4 fun x6 => .kInt .i64 v5 fun x7 => 
 .cmp .lss x7 x6 fun t8 =>
 .bool t8 (
 .onS a3 fun a9 =>
 .inb x7 l4 (
 .ldn ((a9.add (x7.toNat * 18)).block) ((a9.add (x7.toNat * 18)).off) 18 fun cs10 =>
 .new (.cells [.int .i64 (0 : Int), .int .i64 (0 : Int), .int .i64 (0 : Int), .int .i64 (0 : Int), .int .i64 (0 : Int), .int .i64 (0 : Int), .int .i64 (0 : Int), .int .i64 (0 : Int), .int .i64 (0 : Int), .int .i64 (0 : Int), .int .i64 (0 : Int), .int .i64 (0 : Int), .int .i64 (0 : Int), .bool false, .bool false, .bool false, .slice none 0 0, .string (⟨#[]⟩ : ByteArray)] 0 true) fun b11 =>
 .st 18 (⟨b11, 0, none⟩ : Addr) (.agg cs10) (
 .ld b11 (0 + 1) fun v13 =>
 .kInt .i64 v13 fun n14 =>
 .wr .i64 (n14 - (10 : Int)) fun n15 =>
 .cmp .geq n15 (0 : Int) fun t16 =>
 .bool t16 (
 .onS x0 fun a17 =>
 .ld a17.block a17.off fun v18 =>
 .kSl v18 fun a19 l20 c21 =>
 .cmp .lss n15 ((l20 : Nat) : Int) fun t22 =>
 .bool t22 (
 .onS x0 fun a23 =>
 .ld a23.block a23.off fun v24 =>
 .kSl v24 fun a25 l26 c27 =>
 .onS a25 fun a28 =>
 .inb n15 l26 (
 .ld ((a28.add (n15.toNat * 1)).block) ((a28.add (n15.toNat * 1)).off) fun v29 =>
 .kPtr v29 fun p30 =>
 .ld b11 0 fun v31 =>
 .kInt .i64 v31 fun n32 =>
 .ldn b11 (0 + 2) 16 fun cs33 =>
 .onS x0 fun a34 =>
 .ld a34.block (a34.off + 2) fun v35 =>
 .kInt .i64 v35 fun n36 =>
 .call 32 [.pointer p30, .int .i64 n32, .agg cs33, .int .i64 n36] fun r37 =>
 .kTup r37 fun vs38 =>
 .nthA vs38 0 fun v39 =>
 .kInt .i64 v39 fun n40 =>
 .kTup r37 fun vs41 =>
 .nthA vs41 1 fun v42 =>
 .kSl v42 fun a43 l44 c45 =>
 .ld b11 (0 + 1) fun v46 =>
 .kInt .i64 v46 fun n47 =>
 .call 53 [.pointer x0, .int .i64 n47, .slice a43 l44 c45] fun r48 =>
 .jmp 17 [.pointer x0, .int .i64 x1, .int .i64 x2, .slice a3 l4 c5, .int .i64 x6, .int .i64 x7])) (
 .jmp 17 [.pointer x0, .int .i64 x1, .int .i64 x2, .slice a3 l4 c5, .int .i64 x6, .int .i64 x7])) (
 .jmp 17 [.pointer x0, .int .i64 x1, .int .i64 x2, .slice a3 l4 c5, .int .i64 x6, .int .i64 x7])))) (
 .wr .i64 (x2 + (1 : Int)) fun n49 =>
 .jmp 100001 [.pointer x0, .int .i64 x1, .int .i64 n49])
 | _ => .fail
noncomputable def cuts54 : Cuts := [(100001, [0, 12, 13]), (100004, [0, 12, 13, 25, 26, 27]), (100011, [0, 12, 13, 50, 51, 52]), (17, [0, 12, 13, 50, 51, 52])]
noncomputable def L54 : Places := [(17, X54_17, todoOf Tryz.f54 17), (100001, X54_100001, todoOf Tryz.f54 100001), (100004, X54_100004, todoOf Tryz.f54 100004), (100011, X54_100011, todoOf Tryz.f54 100011)]
noncomputable def k54 : FCode := .of X54 L54 cuts54
theorem o54_17 : OOk Tryz.prog Tryz.f54 cuts54 L54 (17, X54_17, todoOf Tryz.f54 17) := by
  intro vs Γ m H r h; replace h : (X54_17 vs).run _ _ _ _ = _ := h; unfold X54_17 at h; split at h
  · replace h := M.iPtr h; obtain ⟨_, rfl, h⟩ := h; replace h := M.iInt h; obtain ⟨_, rfl, h⟩ := h; replace h := M.iInt h; obtain ⟨_, rfl, h⟩ := h; replace h := M.iSl h; obtain ⟨_, _, _, rfl, h⟩ := h; replace h := M.iInt h; obtain ⟨_, rfl, h⟩ := h; replace h := M.iInt h; obtain ⟨_, rfl, h⟩ := h; exact Eq.trans (by kernel_rfl) h
  · exact M.iFail h
theorem o54_100001 : OOk Tryz.prog Tryz.f54 cuts54 L54 (100001, X54_100001, todoOf Tryz.f54 100001) := by
  intro vs Γ m H r h; replace h : (X54_100001 vs).run _ _ _ _ = _ := h; unfold X54_100001 at h; split at h
  · replace h := M.iPtr h; obtain ⟨_, rfl, h⟩ := h; replace h := M.iInt h; obtain ⟨_, rfl, h⟩ := h; replace h := M.iInt h; obtain ⟨_, rfl, h⟩ := h; exact Eq.trans (by kernel_rfl) h
  · exact M.iFail h
theorem o54_100004 : OOk Tryz.prog Tryz.f54 cuts54 L54 (100004, X54_100004, todoOf Tryz.f54 100004) := by
  intro vs Γ m H r h; replace h : (X54_100004 vs).run _ _ _ _ = _ := h; unfold X54_100004 at h; split at h
  · replace h := M.iPtr h; obtain ⟨_, rfl, h⟩ := h; replace h := M.iInt h; obtain ⟨_, rfl, h⟩ := h; replace h := M.iInt h; obtain ⟨_, rfl, h⟩ := h; replace h := M.iSl h; obtain ⟨_, _, _, rfl, h⟩ := h; replace h := M.iInt h; obtain ⟨_, rfl, h⟩ := h; replace h := M.iInt h; obtain ⟨_, rfl, h⟩ := h; exact Eq.trans (by kernel_rfl) h
  · exact M.iFail h
theorem o54_100011 : OOk Tryz.prog Tryz.f54 cuts54 L54 (100011, X54_100011, todoOf Tryz.f54 100011) := by
  intro vs Γ m H r h; replace h : (X54_100011 vs).run _ _ _ _ = _ := h; unfold X54_100011 at h; split at h
  · replace h := M.iPtr h; obtain ⟨_, rfl, h⟩ := h; replace h := M.iInt h; obtain ⟨_, rfl, h⟩ := h; replace h := M.iInt h; obtain ⟨_, rfl, h⟩ := h; replace h := M.iSl h; obtain ⟨_, _, _, rfl, h⟩ := h; replace h := M.iInt h; obtain ⟨_, rfl, h⟩ := h; replace h := M.iInt h; obtain ⟨_, rfl, h⟩ := h; exact Eq.trans (by kernel_rfl) h
  · exact M.iFail h
theorem h54 : XOk Tryz.prog Tryz.f54 cuts54 L54 X54 := by
  intro Γ m args H r h; unfold X54 at h; split at h
  · replace h := M.iPtr h; obtain ⟨_, rfl, h⟩ := h; replace h := M.iInt h; obtain ⟨_, rfl, h⟩ := h; exact ⟨Eq.trans (by kernel_rfl) h, Nat.le_of_ble_eq_true (by kernel_rfl)⟩
  · exact M.iFail h
theorem K54 : CodeOk Tryz.prog 54 k54 := .of Tryz.func54 (by kernel_rfl) (by kernel_rfl) h54 (fc o54_17 (fc o54_100001 (fc o54_100004 (fc o54_100011 fe))))
-- (*sternpost/table.Table).Accept
noncomputable def X55 : List Value → M := fun args => match args with
 | [v0, v1] => .kPtr v0 fun x0 => .kInt .i64 v1 fun x1 => 
 .call 25 [.pointer x0] fun r2 =>
 .kSl r2 fun a3 l4 c5 =>
 .fxI ((l4 : Nat) : Int) fun n6 =>
 .jmp 100002 [.pointer x0, .int .i64 x1, .slice a3 l4 c5, .int .i64 n6, .int .i64 (0 : Int)]
 | _ => .fail
noncomputable def X55_8 : List Value → M := fun args => match args with
 | [v0, v1, v2, v3, v4] => .kPtr v0 fun x0 => .kInt .i64 v1 fun x1 => .kSl v2 fun a2 l3 c4 => .kInt .i64 v3 fun x5 => .kInt .i64 v4 fun x6 => 
 .wr .i64 (x6 + (1 : Int)) fun n7 =>
 .jmp 100002 [.pointer x0, .int .i64 x1, .slice a2 l3 c4, .int .i64 x5, .int .i64 n7]
 | _ => .fail
noncomputable def X55_100002 : List Value → M := fun args => match args with
 | [v0, v1, v2, v3, v4] => .kPtr v0 fun x0 => .kInt .i64 v1 fun x1 => .kSl v2 fun a2 l3 c4 => .kInt .i64 v3 fun x5 => .kInt .i64 v4 fun x6 => 
 .cmp .lss x6 x5 fun t7 =>
 .bool t7 (
 .onS a2 fun a8 =>
 .inb x6 l3 (
 .ld ((a8.add (x6.toNat * 1)).block) ((a8.add (x6.toNat * 1)).off) fun v9 =>
 .kInt .i64 v9 fun n10 =>
 .onS x0 fun a11 =>
 .ld a11.block (a11.off + 15) fun v12 =>
 .kMp v12 fun r13 =>
 .lookupK 151 (.map r13) (.int .i64 n10) false fun v14 =>
 .kPtr v14 fun p15 =>
 .onS p15 fun a16 =>
 .ld a16.block (a16.off + 7) fun v17 =>
 .kBool v17 fun b18 =>
 .bool b18 (
 .onS p15 fun a19 =>
 .ld a19.block ((a19.off + 2) + 1) fun v20 =>
 .kInt .i64 v20 fun n21 =>
 .cmp .eql n21 x1 fun t22 =>
 .bool t22 (
 .call 110 [.pointer p15] fun r23 =>
 .kBool r23 fun b24 =>
 .bool b24 (
 .onS p15 fun a25 =>
 .st 1 (⟨a25.block, a25.off + 6, none⟩ : Addr) (.bool true) (
 .onS p15 fun a27 =>
 .st 1 (⟨a27.block, a27.off + 7, none⟩ : Addr) (.bool false) (
 .ret (.tuple #[.int .i64 n10, .bool true])))) (
 .jmp 8 [.pointer x0, .int .i64 x1, .slice a2 l3 c4, .int .i64 x5, .int .i64 x6])) (
 .jmp 8 [.pointer x0, .int .i64 x1, .slice a2 l3 c4, .int .i64 x5, .int .i64 x6])) (
 .jmp 8 [.pointer x0, .int .i64 x1, .slice a2 l3 c4, .int .i64 x5, .int .i64 x6]))) (
 .ret (.tuple #[.int .i64 (0 : Int), .bool false]))
 | _ => .fail
noncomputable def cuts55 : Cuts := [(100002, [0, 1, 10, 11, 12]), (8, [0, 1, 10, 11, 12])]
noncomputable def L55 : Places := [(8, X55_8, todoOf Tryz.f55 8), (100002, X55_100002, todoOf Tryz.f55 100002)]
noncomputable def k55 : FCode := .of X55 L55 cuts55
theorem o55_8 : OOk Tryz.prog Tryz.f55 cuts55 L55 (8, X55_8, todoOf Tryz.f55 8) := by
  intro vs Γ m H r h; replace h : (X55_8 vs).run _ _ _ _ = _ := h; unfold X55_8 at h; split at h
  · replace h := M.iPtr h; obtain ⟨_, rfl, h⟩ := h; replace h := M.iInt h; obtain ⟨_, rfl, h⟩ := h; replace h := M.iSl h; obtain ⟨_, _, _, rfl, h⟩ := h; replace h := M.iInt h; obtain ⟨_, rfl, h⟩ := h; replace h := M.iInt h; obtain ⟨_, rfl, h⟩ := h; exact Eq.trans (by kernel_rfl) h
  · exact M.iFail h
theorem o55_100002 : OOk Tryz.prog Tryz.f55 cuts55 L55 (100002, X55_100002, todoOf Tryz.f55 100002) := by
  intro vs Γ m H r h; replace h : (X55_100002 vs).run _ _ _ _ = _ := h; unfold X55_100002 at h; split at h
  · replace h := M.iPtr h; obtain ⟨_, rfl, h⟩ := h; replace h := M.iInt h; obtain ⟨_, rfl, h⟩ := h; replace h := M.iSl h; obtain ⟨_, _, _, rfl, h⟩ := h; replace h := M.iInt h; obtain ⟨_, rfl, h⟩ := h; replace h := M.iInt h; obtain ⟨_, rfl, h⟩ := h; exact Eq.trans (by kernel_rfl) h
  · exact M.iFail h
theorem h55 : XOk Tryz.prog Tryz.f55 cuts55 L55 X55 := by
  intro Γ m args H r h; unfold X55 at h; split at h
  · replace h := M.iPtr h; obtain ⟨_, rfl, h⟩ := h; replace h := M.iInt h; obtain ⟨_, rfl, h⟩ := h; exact ⟨Eq.trans (by kernel_rfl) h, Nat.le_of_ble_eq_true (by kernel_rfl)⟩
  · exact M.iFail h
theorem K55 : CodeOk Tryz.prog 55 k55 := .of Tryz.func55 (by kernel_rfl) (by kernel_rfl) h55 (fc o55_8 (fc o55_100002 fe))
-- (*sternpost/sock.Box).told
noncomputable def X59 : List Value → M := fun args => match args with
 | [v0] => .kPtr v0 fun x0 => 
 .call 112 [.pointer x0] fun r1 =>
 .kSl r1 fun a2 l3 c4 =>
 .onS x0 fun a5 =>
 .ld a5.block (a5.off + 3) fun v6 =>
 .kSl v6 fun a7 l8 c9 =>
 .onS x0 fun a10 =>
 .st 1 (⟨a10.block, a10.off + 3, none⟩ : Addr) (.slice none 0 0) (
 .ret (.tuple #[.slice a2 l3 c4, .slice a7 l8 c9]))
 | _ => .fail
noncomputable def cuts59 : Cuts := []
noncomputable def L59 : Places := []
noncomputable def k59 : FCode := .of X59 L59 cuts59
theorem h59 : XOk Tryz.prog Tryz.f59 cuts59 L59 X59 := by
  intro Γ m args H r h; unfold X59 at h; split at h
  · replace h := M.iPtr h; obtain ⟨_, rfl, h⟩ := h; exact ⟨Eq.trans (by kernel_rfl) h, Nat.le_of_ble_eq_true (by kernel_rfl)⟩
  · exact M.iFail h
theorem K59 : CodeOk Tryz.prog 59 k59 := .of Tryz.func59 (by kernel_rfl) (by kernel_rfl) h59 fe
-- sternpost/seq.Check
noncomputable def X62 : List Value → M := fun args => match args with
 | [v0] => .kInt .i64 v0 fun x0 => 
 .cmp .neq (bits .and .i64 x0 (4294967295 : Int)) x0 fun t1 =>
 .bool t1 (
 .ret (.int .i64 (1 : Int))) (
 .ret (.int .i64 (0 : Int)))
 | _ => .fail
noncomputable def cuts62 : Cuts := []
noncomputable def L62 : Places := []
noncomputable def k62 : FCode := .of X62 L62 cuts62
theorem h62 : XOk Tryz.prog Tryz.f62 cuts62 L62 X62 := by
  intro Γ m args H r h; unfold X62 at h; split at h
  · replace h := M.iInt h; obtain ⟨_, rfl, h⟩ := h; exact ⟨Eq.trans (by kernel_rfl) h, Nat.le_of_ble_eq_true (by kernel_rfl)⟩
  · exact M.iFail h
theorem K62 : CodeOk Tryz.prog 62 k62 := .of Tryz.func62 (by kernel_rfl) (by kernel_rfl) h62 fe
-- (*sternpost/table.Table).Listen
noncomputable def X63 : List Value → M := fun args => match args with
 | [v0, v1] => .kPtr v0 fun x0 => .kInt .i64 v1 fun x1 => 
 .call 68 [.int .i64 x1] fun r2 =>
 .kBool r2 fun b3 =>
 .bool (!b3) (
 .ret (.int .i64 (1 : Int))) (
 .onS x0 fun a4 =>
 .ld a4.block (a4.off + 13) fun v5 =>
 .kMp v5 fun r6 =>
 .lookupK 34 (.map r6) (.int .i64 x1) false fun v7 =>
 .kBool v7 fun b8 =>
 .bool b8 (
 .ret (.int .i64 (190 : Int))) (
 .onS x0 fun a9 =>
 .ld a9.block (a9.off + 13) fun v10 =>
 .kMp v10 fun r11 =>
 .onS r11 fun q12 =>
 .mupd q12 (.int .i64 x1) (.bool true) (
 .ret (.int .i64 (0 : Int)))))
 | _ => .fail
noncomputable def cuts63 : Cuts := []
noncomputable def L63 : Places := []
noncomputable def k63 : FCode := .of X63 L63 cuts63
theorem h63 : XOk Tryz.prog Tryz.f63 cuts63 L63 X63 := by
  intro Γ m args H r h; unfold X63 at h; split at h
  · replace h := M.iPtr h; obtain ⟨_, rfl, h⟩ := h; replace h := M.iInt h; obtain ⟨_, rfl, h⟩ := h; exact ⟨Eq.trans (by kernel_rfl) h, Nat.le_of_ble_eq_true (by kernel_rfl)⟩
  · exact M.iFail h
theorem K63 : CodeOk Tryz.prog 63 k63 := .of Tryz.func63 (by kernel_rfl) (by kernel_rfl) h63 fe
-- maps.Keys[map[int]*sternpost/table.one,int,*sternpost/table.one]
noncomputable def X64 : List Value → M := fun args => match args with
 | [v0] => .kMp v0 fun x0 => 
 .new (.cells [.map x0] 159383552 true) fun b1 =>
 .ret (.func (.func 116) #[] #[.pointer (some (⟨b1, 0, none⟩ : Addr))])
 | _ => .fail
noncomputable def cuts64 : Cuts := []
noncomputable def L64 : Places := []
noncomputable def k64 : FCode := .of X64 L64 cuts64
theorem h64 : XOk Tryz.prog Tryz.f64 cuts64 L64 X64 := by
  intro Γ m args H r h; unfold X64 at h; split at h
  · replace h := M.iMp h; obtain ⟨_, rfl, h⟩ := h; exact ⟨Eq.trans (by kernel_rfl) h, Nat.le_of_ble_eq_true (by kernel_rfl)⟩
  · exact M.iFail h
theorem K64 : CodeOk Tryz.prog 64 k64 := .of Tryz.func64 (by kernel_rfl) (by kernel_rfl) h64 fe
-- (*sternpost/table.Table).held
noncomputable def X65 : List Value → M := fun args => match args with
 | [v0, v1] => .kPtr v0 fun x0 => .kInt .i64 v1 fun x1 => 
 .onS x0 fun a2 =>
 .ld a2.block (a2.off + 15) fun v3 =>
 .kMp v3 fun r4 =>
 .lookupK 151 (.map r4) (.int .i64 x1) false fun v5 =>
 .kPtr v5 fun p6 =>
 .bool (!p6.isNone) (
 .onS p6 fun a7 =>
 .ld a7.block (a7.off + 6) fun v8 =>
 .kBool v8 fun b9 =>
 .bool b9 (
 .ret (.pointer p6)) (
 .jmp 4 [])) (
 .jmp 4 [])
 | _ => .fail
noncomputable def X65_4 : List Value → M := fun args => match args with
 | [] => 
 .ret (.pointer none)
 | _ => .fail
noncomputable def cuts65 : Cuts := [(4, [])]
noncomputable def L65 : Places := [(4, X65_4, todoOf Tryz.f65 4)]
noncomputable def k65 : FCode := .of X65 L65 cuts65
theorem o65_4 : OOk Tryz.prog Tryz.f65 cuts65 L65 (4, X65_4, todoOf Tryz.f65 4) := by
  intro vs Γ m H r h; replace h : (X65_4 vs).run _ _ _ _ = _ := h; unfold X65_4 at h; split at h
  · exact Eq.trans (by kernel_rfl) h
  · exact M.iFail h
theorem h65 : XOk Tryz.prog Tryz.f65 cuts65 L65 X65 := by
  intro Γ m args H r h; unfold X65 at h; split at h
  · replace h := M.iPtr h; obtain ⟨_, rfl, h⟩ := h; replace h := M.iInt h; obtain ⟨_, rfl, h⟩ := h; exact ⟨Eq.trans (by kernel_rfl) h, Nat.le_of_ble_eq_true (by kernel_rfl)⟩
  · exact M.iFail h
theorem K65 : CodeOk Tryz.prog 65 k65 := .of Tryz.func65 (by kernel_rfl) (by kernel_rfl) h65 (fc o65_4 fe)
-- (*sternpost/table.one).outs
noncomputable def X66 : List Value → M := fun args => match args with
 | [v0, v1] => .kPtr v0 fun x0 => .kSl v1 fun a1 l2 c3 => 
 .onS x0 fun a4 =>
 .ld a4.block ((a4.off + 2) + 2) fun v5 =>
 .kInt .i64 v5 fun n6 =>
 .call 73 [.int .i64 n6, .slice a1 l2 c3] fun r7 =>
 .kSl r7 fun a8 l9 c10 =>
 .ret (.slice a8 l9 c10)
 | _ => .fail
noncomputable def cuts66 : Cuts := []
noncomputable def L66 : Places := []
noncomputable def k66 : FCode := .of X66 L66 cuts66
theorem h66 : XOk Tryz.prog Tryz.f66 cuts66 L66 X66 := by
  intro Γ m args H r h; unfold X66 at h; split at h
  · replace h := M.iPtr h; obtain ⟨_, rfl, h⟩ := h; replace h := M.iSl h; obtain ⟨_, _, _, rfl, h⟩ := h; exact ⟨Eq.trans (by kernel_rfl) h, Nat.le_of_ble_eq_true (by kernel_rfl)⟩
  · exact M.iFail h
theorem K66 : CodeOk Tryz.prog 66 k66 := .of Tryz.func66 (by kernel_rfl) (by kernel_rfl) h66 fe
-- (*sternpost/table.Table).sweep
noncomputable def X67 : List Value → M := fun args => match args with
 | [v0, v1] => .kPtr v0 fun x0 => .kPtr v1 fun x1 => 
 .onS x1 fun a2 =>
 .ld a2.block (a2.off + 6) fun v3 =>
 .kBool v3 fun b4 =>
 .bool b4 (
 .ret (.tuple #[])) (
 .call 117 [.pointer x1] fun r5 =>
 .kBool r5 fun b6 =>
 .bool (!b6) (
 .ret (.tuple #[])) (
 .onS x0 fun a7 =>
 .ld a7.block (a7.off + 15) fun v8 =>
 .kMp v8 fun r9 =>
 .onS x1 fun a10 =>
 .ld a10.block a10.off fun v11 =>
 .kInt .i64 v11 fun n12 =>
 .dele r9 (.int .i64 n12) (
 .onS x0 fun a13 =>
 .ld a13.block (a13.off + 14) fun v14 =>
 .kMp v14 fun r15 =>
 .onS x1 fun a16 =>
 .ldn a16.block (a16.off + 2) 4 fun cs17 =>
 .kKey 55 (.agg cs17) fun v18 =>
 .dele r15 v18 (
 .ret (.tuple #[])))))
 | _ => .fail
noncomputable def cuts67 : Cuts := []
noncomputable def L67 : Places := []
noncomputable def k67 : FCode := .of X67 L67 cuts67
theorem h67 : XOk Tryz.prog Tryz.f67 cuts67 L67 X67 := by
  intro Γ m args H r h; unfold X67 at h; split at h
  · replace h := M.iPtr h; obtain ⟨_, rfl, h⟩ := h; replace h := M.iPtr h; obtain ⟨_, rfl, h⟩ := h; exact ⟨Eq.trans (by kernel_rfl) h, Nat.le_of_ble_eq_true (by kernel_rfl)⟩
  · exact M.iFail h
theorem K67 : CodeOk Tryz.prog 67 k67 := .of Tryz.func67 (by kernel_rfl) (by kernel_rfl) h67 fe
-- sternpost/table.port
noncomputable def X68 : List Value → M := fun args => match args with
 | [v0] => .kInt .i64 v0 fun x0 => 
 .cmp .geq x0 (1 : Int) fun t1 =>
 .bool t1 (
 .cmp .leq x0 (65535 : Int) fun t2 =>
 .ret (.bool t2)) (
 .ret (.bool false))
 | _ => .fail
noncomputable def cuts68 : Cuts := []
noncomputable def L68 : Places := []
noncomputable def k68 : FCode := .of X68 L68 cuts68
theorem h68 : XOk Tryz.prog Tryz.f68 cuts68 L68 X68 := by
  intro Γ m args H r h; unfold X68 at h; split at h
  · replace h := M.iInt h; obtain ⟨_, rfl, h⟩ := h; exact ⟨Eq.trans (by kernel_rfl) h, Nat.le_of_ble_eq_true (by kernel_rfl)⟩
  · exact M.iFail h
theorem K68 : CodeOk Tryz.prog 68 k68 := .of Tryz.func68 (by kernel_rfl) (by kernel_rfl) h68 fe
-- (*sternpost/table.Table).free
noncomputable def X69 : List Value → M := fun args => match args with
 | [v0, v1, v2] => .kPtr v0 fun x0 => .kInt .i64 v1 fun x1 => .kInt .i64 v2 fun x2 => 
 .new (.cells [.int .i64 (0 : Int), .int .i64 (0 : Int), .int .i64 (0 : Int), .int .i64 (0 : Int)] 0 true) fun b3 =>
 .jmp 100002 [.pointer x0, .int .i64 x1, .int .i64 x2, .pointer (some (⟨b3, 0, none⟩ : Addr)), .int .i64 (49152 : Int)]
 | _ => .fail
noncomputable def X69_3 : List Value → M := fun args => match args with
 | [v0, v1, v2, v3, v4] => .kPtr v0 fun x0 => .kInt .i64 v1 fun x1 => .kInt .i64 v2 fun x2 => .kPtr v3 fun x3 => .kInt .i64 v4 fun x4 => 
 .wr .i64 (x4 + (1 : Int)) fun n5 =>
 .jmp 100002 [.pointer x0, .int .i64 x1, .int .i64 x2, .pointer x3, .int .i64 n5]
 | _ => .fail
noncomputable def X69_6 : List Value → M := fun args => match args with
 | [v0, v1] => .kPtr v0 fun x0 => .kPtr v1 fun x1 => 
 .onS x1 fun a2 =>
 .ldn a2.block a2.off 4 fun cs3 =>
 .onS x0 fun a4 =>
 .st 4 a4 (.agg cs3) (
 .onS x0 fun a6 =>
 .ldn a6.block a6.off 4 fun cs7 =>
 .ret (.tuple #[.agg cs7, .bool true]))
 | _ => .fail
noncomputable def X69_100002 : List Value → M := fun args => match args with
 | [v0, v1, v2, v3, v4] => .kPtr v0 fun x0 => .kInt .i64 v1 fun x1 => .kInt .i64 v2 fun x2 => .kPtr v3 fun x3 => .kInt .i64 v4 fun x4 => 
 .cmp .leq x4 (65535 : Int) fun t5 =>
 .bool t5 (
 .onS x0 fun a6 =>
 .ld a6.block (a6.off + 11) fun v7 =>
 .kInt .i64 v7 fun n8 =>
 .new (.cells [.int .i64 (0 : Int), .int .i64 (0 : Int), .int .i64 (0 : Int), .int .i64 (0 : Int)] 0 true) fun b9 =>
 .st 4 (⟨b9, 0, none⟩ : Addr) (.agg #[.int .i64 n8, .int .i64 x4, .int .i64 x1, .int .i64 x2]) (
 .onS x0 fun a11 =>
 .ld a11.block (a11.off + 13) fun v12 =>
 .kMp v12 fun r13 =>
 .lookupK 34 (.map r13) (.int .i64 x4) false fun v14 =>
 .kBool v14 fun b15 =>
 .opt (r13 : Option Nat) (
 .bool (!b15) (
 .onS x0 fun a24 =>
 .ld a24.block (a24.off + 14) fun v25 =>
 .kMp v25 fun r26 =>
 .ldn b9 0 4 fun cs27 =>
 .lookupK 150 (.map r26) (.agg cs27) false fun v28 =>
 .kPtr v28 fun p29 =>
 .opt (r26 : Option Nat) (
 .bool p29.isNone (
 .jmp 6 [.pointer x3, .pointer (some (⟨b9, 0, none⟩ : Addr))]) (
 .jmp 3 [.pointer x0, .int .i64 x1, .int .i64 x2, .pointer x3, .int .i64 x4])) (fun blk30 =>
 .bool p29.isNone (
 .jmp 6 [.pointer x3, .pointer (some (⟨b9, 0, none⟩ : Addr))]) (
 .jmp 3 [.pointer x0, .int .i64 x1, .int .i64 x2, .pointer x3, .int .i64 x4]))) (
 .jmp 3 [.pointer x0, .int .i64 x1, .int .i64 x2, .pointer x3, .int .i64 x4])) (fun blk16 =>
 .bool (!b15) (
 .onS x0 fun a17 =>
 .ld a17.block (a17.off + 14) fun v18 =>
 .kMp v18 fun r19 =>
 .ldn b9 0 4 fun cs20 =>
 .lookupK 150 (.map r19) (.agg cs20) false fun v21 =>
 .kPtr v21 fun p22 =>
 .opt (r19 : Option Nat) (
 .bool p22.isNone (
 .jmp 6 [.pointer x3, .pointer (some (⟨b9, 0, none⟩ : Addr))]) (
 .jmp 3 [.pointer x0, .int .i64 x1, .int .i64 x2, .pointer x3, .int .i64 x4])) (fun blk23 =>
 .bool p22.isNone (
 .jmp 6 [.pointer x3, .pointer (some (⟨b9, 0, none⟩ : Addr))]) (
 .jmp 3 [.pointer x0, .int .i64 x1, .int .i64 x2, .pointer x3, .int .i64 x4]))) (
 .jmp 3 [.pointer x0, .int .i64 x1, .int .i64 x2, .pointer x3, .int .i64 x4])))) (
 .onS x3 fun a31 =>
 .st 4 a31 (.agg #[.int .i64 (0 : Int), .int .i64 (0 : Int), .int .i64 (0 : Int), .int .i64 (0 : Int)]) (
 .onS x3 fun a33 =>
 .ldn a33.block a33.off 4 fun cs34 =>
 .ret (.tuple #[.agg cs34, .bool false])))
 | _ => .fail
noncomputable def cuts69 : Cuts := [(100002, [0, 1, 2, 6, 8]), (6, [6, 9]), (3, [0, 1, 2, 6, 8])]
noncomputable def L69 : Places := [(3, X69_3, todoOf Tryz.f69 3), (6, X69_6, todoOf Tryz.f69 6), (100002, X69_100002, todoOf Tryz.f69 100002)]
noncomputable def k69 : FCode := .of X69 L69 cuts69
theorem o69_3 : OOk Tryz.prog Tryz.f69 cuts69 L69 (3, X69_3, todoOf Tryz.f69 3) := by
  intro vs Γ m H r h; replace h : (X69_3 vs).run _ _ _ _ = _ := h; unfold X69_3 at h; split at h
  · replace h := M.iPtr h; obtain ⟨_, rfl, h⟩ := h; replace h := M.iInt h; obtain ⟨_, rfl, h⟩ := h; replace h := M.iInt h; obtain ⟨_, rfl, h⟩ := h; replace h := M.iPtr h; obtain ⟨_, rfl, h⟩ := h; replace h := M.iInt h; obtain ⟨_, rfl, h⟩ := h; exact Eq.trans (by kernel_rfl) h
  · exact M.iFail h
theorem o69_6 : OOk Tryz.prog Tryz.f69 cuts69 L69 (6, X69_6, todoOf Tryz.f69 6) := by
  intro vs Γ m H r h; replace h : (X69_6 vs).run _ _ _ _ = _ := h; unfold X69_6 at h; split at h
  · replace h := M.iPtr h; obtain ⟨_, rfl, h⟩ := h; replace h := M.iPtr h; obtain ⟨_, rfl, h⟩ := h; exact Eq.trans (by kernel_rfl) h
  · exact M.iFail h
theorem o69_100002 : OOk Tryz.prog Tryz.f69 cuts69 L69 (100002, X69_100002, todoOf Tryz.f69 100002) := by
  intro vs Γ m H r h; replace h : (X69_100002 vs).run _ _ _ _ = _ := h; unfold X69_100002 at h; split at h
  · replace h := M.iPtr h; obtain ⟨_, rfl, h⟩ := h; replace h := M.iInt h; obtain ⟨_, rfl, h⟩ := h; replace h := M.iInt h; obtain ⟨_, rfl, h⟩ := h; replace h := M.iPtr h; obtain ⟨_, rfl, h⟩ := h; replace h := M.iInt h; obtain ⟨_, rfl, h⟩ := h; exact Eq.trans (by kernel_rfl) h
  · exact M.iFail h
theorem h69 : XOk Tryz.prog Tryz.f69 cuts69 L69 X69 := by
  intro Γ m args H r h; unfold X69 at h; split at h
  · replace h := M.iPtr h; obtain ⟨_, rfl, h⟩ := h; replace h := M.iInt h; obtain ⟨_, rfl, h⟩ := h; replace h := M.iInt h; obtain ⟨_, rfl, h⟩ := h; exact ⟨Eq.trans (by kernel_rfl) h, Nat.le_of_ble_eq_true (by kernel_rfl)⟩
  · exact M.iFail h
theorem K69 : CodeOk Tryz.prog 69 k69 := .of Tryz.func69 (by kernel_rfl) (by kernel_rfl) h69 (fc o69_3 (fc o69_6 (fc o69_100002 fe)))
-- sternpost/conn.Open
noncomputable def X70 : List Value → M := fun args => match args with
 | [v0, v1, v2, v3] => .kAgg v0 fun x0 => .kAgg v1 fun x1 => .kInt .i64 v2 fun x2 => .kInt .i64 v3 fun x3 => 
 .new (.cells x0.toList 0 true) fun b4 =>
 .new (.cells x1.toList 0 true) fun b5 =>
 .ldn b4 0 8 fun cs6 =>
 .ldn b5 0 4 fun cs7 =>
 .call 118 [.agg cs6, .agg cs7, .int .i64 x2, .int .i64 x3] fun r8 =>
 .kTup r8 fun vs9 =>
 .nthA vs9 0 fun v10 =>
 .kPtr v10 fun p11 =>
 .kTup r8 fun vs12 =>
 .nthA vs12 1 fun v13 =>
 .kInt .i64 v13 fun n14 =>
 .cmp .neq n14 (0 : Int) fun t15 =>
 .bool t15 (
 .ret (.tuple #[.pointer none, .slice none 0 0, .int .i64 n14])) (
 .onS p11 fun a16 =>
 .st 1 (⟨a16.block, a16.off + 12, none⟩ : Addr) (.int .i64 (2 : Int)) (
 .call 119 [.pointer p11] fun r18 =>
 .kAgg r18 fun cs19 =>
 .ite (cs19.size = 16) (
 .cellsOks [.agg cs19] (.onS (Instr.fill (fun i => some (i * 16, 16)) ([.int .i64 (0 : Int), .int .i64 (0 : Int), .int .i64 (0 : Int), .int .i64 (0 : Int), .int .i64 (0 : Int), .int .i64 (0 : Int), .int .i64 (0 : Int), .int .i64 (0 : Int), .int .i64 (0 : Int), .int .i64 (0 : Int), .int .i64 (0 : Int), .bool false, .bool false, .bool false, .slice none 0 0, .string (⟨#[]⟩ : ByteArray)] : List Value).toArray (([0] : List Nat).zip [.agg cs19])) fun cells20q =>
 .fxV (.agg cells20q) fun cells20v =>
 .kAgg cells20v fun cells20 =>
 .new (.cells cells20.toList 16 true) fun b21 =>
 .ret (.tuple #[.pointer p11, .slice (some ⟨b21, 0, none⟩) 1 1, .int .i64 (0 : Int)])))))
 | _ => .fail
noncomputable def cuts70 : Cuts := []
noncomputable def L70 : Places := []
noncomputable def k70 : FCode := .of X70 L70 cuts70
theorem h70 : XOk Tryz.prog Tryz.f70 cuts70 L70 X70 := by
  intro Γ m args H r h; unfold X70 at h; split at h
  · replace h := M.iAgg h; obtain ⟨_, rfl, h⟩ := h; replace h := M.iAgg h; obtain ⟨_, rfl, h⟩ := h; replace h := M.iInt h; obtain ⟨_, rfl, h⟩ := h; replace h := M.iInt h; obtain ⟨_, rfl, h⟩ := h; exact ⟨Eq.trans (by kernel_rfl) h, Nat.le_of_ble_eq_true (by kernel_rfl)⟩
  · exact M.iFail h
theorem K70 : CodeOk Tryz.prog 70 k70 := .of Tryz.func70 (by kernel_rfl) (by kernel_rfl) h70 fe
-- (*sternpost/table.Table).iss
noncomputable def X71 : List Value → M := fun args => match args with
 | [v0, v1, v2] => .kPtr v0 fun x0 => .kAgg v1 fun x1 => .kInt .i64 v2 fun x2 => 
 .new (.cells x1.toList 0 true) fun b3 =>
 .onS x0 fun a4 =>
 .ld a4.block (a4.off + 8) fun v5 =>
 .kInt .i64 v5 fun n6 =>
 .ld b3 0 fun v7 =>
 .kInt .i64 v7 fun n8 =>
 .ld b3 (0 + 1) fun v9 =>
 .kInt .i64 v9 fun n10 =>
 .ld b3 (0 + 2) fun v11 =>
 .kInt .i64 v11 fun n12 =>
 .ld b3 (0 + 3) fun v13 =>
 .kInt .i64 v13 fun n14 =>
 .jmp 100003 [.int .i64 x2, .int .i64 n6, .agg #[.int .i64 n8, .int .i64 n10, .int .i64 n12, .int .i64 n14], .int .i64 (0 : Int)]
 | _ => .fail
noncomputable def X71_100003 : List Value → M := fun args => match args with
 | [v0, v1, v2, v3] => .kInt .i64 v0 fun x0 => .kInt .i64 v1 fun x1 => .kAgg v2 fun x2 => .kInt .i64 v3 fun x3 => 
 .cmp .lss x3 (4 : Int) fun t4 =>
 .bool t4 (
 .inb x3 4 (
 .nthA x2 (x3.toNat * 1) fun v5 =>
 .kInt .i64 v5 fun n6 =>
 .wr .i64 ((bits .xor .i64 x1 n6) * (16777619 : Int)) fun n7 =>
 .wr .i64 (x3 + (1 : Int)) fun n8 =>
 .fxI (bits .and .i64 n7 (4294967295 : Int)) fun n9 =>
 .jmp 100003 [.int .i64 x0, .int .i64 n9, .agg x2, .int .i64 n8])) (
 .wr .i64 ((64 : Int) * x0) fun n10 =>
 .wr .i64 (x1 + n10) fun n11 =>
 .fxI (bits .and .i64 n11 (4294967295 : Int)) fun n12 =>
 .ret (.int .i64 n12))
 | _ => .fail
noncomputable def cuts71 : Cuts := [(100003, [2, 7, 23, 24])]
noncomputable def L71 : Places := [(100003, X71_100003, todoOf Tryz.f71 100003)]
noncomputable def k71 : FCode := .of X71 L71 cuts71
theorem o71_100003 : OOk Tryz.prog Tryz.f71 cuts71 L71 (100003, X71_100003, todoOf Tryz.f71 100003) := by
  intro vs Γ m H r h; replace h : (X71_100003 vs).run _ _ _ _ = _ := h; unfold X71_100003 at h; split at h
  · replace h := M.iInt h; obtain ⟨_, rfl, h⟩ := h; replace h := M.iInt h; obtain ⟨_, rfl, h⟩ := h; replace h := M.iAgg h; obtain ⟨_, rfl, h⟩ := h; replace h := M.iInt h; obtain ⟨_, rfl, h⟩ := h; exact Eq.trans (by kernel_rfl) h
  · exact M.iFail h
theorem h71 : XOk Tryz.prog Tryz.f71 cuts71 L71 X71 := by
  intro Γ m args H r h; unfold X71 at h; split at h
  · replace h := M.iPtr h; obtain ⟨_, rfl, h⟩ := h; replace h := M.iAgg h; obtain ⟨_, rfl, h⟩ := h; replace h := M.iInt h; obtain ⟨_, rfl, h⟩ := h; exact ⟨Eq.trans (by kernel_rfl) h, Nat.le_of_ble_eq_true (by kernel_rfl)⟩
  · exact M.iFail h
theorem K71 : CodeOk Tryz.prog 71 k71 := .of Tryz.func71 (by kernel_rfl) (by kernel_rfl) h71 (fc o71_100003 fe)
-- (*sternpost/table.Table).add
noncomputable def X72 : List Value → M := fun args => match args with
 | [v0, v1, v2, v3] => .kPtr v0 fun x0 => .kPtr v1 fun x1 => .kAgg v2 fun x2 => .kBool v3 fun x3 => 
 .new (.cells x2.toList 0 true) fun b4 =>
 .onS x0 fun a5 =>
 .ld a5.block (a5.off + 12) fun v6 =>
 .kInt .i64 v6 fun n7 =>
 .wr .i64 (n7 + (1 : Int)) fun n8 =>
 .onS x0 fun a9 =>
 .st 1 (⟨a9.block, a9.off + 12, none⟩ : Addr) (.int .i64 n8) (
 .onS x0 fun a11 =>
 .ld a11.block (a11.off + 12) fun v12 =>
 .kInt .i64 v12 fun n13 =>
 .ldn b4 0 4 fun cs14 =>
 .cellsOks [.int .i64 n13, .pointer x1, .agg cs14, .bool x3, .bool (!x3)] (.onS (Program.built Tryz.prog 158 (([0, 1, 2, 3, 4] : List Nat).zip [.int .i64 n13, .pointer x1, .agg cs14, .bool x3, .bool (!x3)])) fun cells15q =>
 .fxV (.agg cells15q) fun cells15v =>
 .kAgg cells15v fun cells15 =>
 .new (.cells cells15.toList 0 true) fun b16 =>
 .jmp 3 [.pointer x0, .pointer (some (⟨b4, 0, none⟩ : Addr)), .pointer (some (⟨b16, 0, none⟩ : Addr))]))
 | _ => .fail
noncomputable def X72_3 : List Value → M := fun args => match args with
 | [v0, v1, v2] => .kPtr v0 fun x0 => .kPtr v1 fun x1 => .kPtr v2 fun x2 => 
 .onS x0 fun a3 =>
 .ld a3.block (a3.off + 15) fun v4 =>
 .kMp v4 fun r5 =>
 .onS x2 fun a6 =>
 .ld a6.block a6.off fun v7 =>
 .kInt .i64 v7 fun n8 =>
 .onS x0 fun a9 =>
 .ld a9.block (a9.off + 14) fun v10 =>
 .kMp v10 fun r11 =>
 .onS x1 fun a12 =>
 .ldn a12.block a12.off 4 fun cs13 =>
 .opt (onSome x1 fun z => some z.block : Option Nat) (
 .onS r5 fun q30 =>
 .ment 155 q30 (.int .i64 n8) fun v31 =>
 .kTup v31 fun vs32 =>
 .nthA vs32 1 fun v33 =>
 .kInt .i64 v33 fun n34 =>
 .onS r5 fun q35 =>
 .esto q35 n34 (.pointer x2) (
 .onS r11 fun q36 =>
 .kKey 55 (.agg cs13) fun v37 =>
 .ment 155 q36 v37 fun v38 =>
 .kTup v38 fun vs39 =>
 .nthA vs39 1 fun v40 =>
 .kInt .i64 v40 fun n41 =>
 .onS r11 fun q42 =>
 .esto q42 n41 (.pointer x2) (
 .jmp 4 [.pointer x2]))) (fun blk14 =>
 .snap blk14 fun o15 =>
 .onS r5 fun q16 =>
 .ment 155 q16 (.int .i64 n8) fun v17 =>
 .same blk14 o15 (
 .kTup v17 fun vs18 =>
 .nthA vs18 1 fun v19 =>
 .kInt .i64 v19 fun n20 =>
 .snap blk14 fun o21 =>
 .onS r5 fun q22 =>
 .esto q22 n20 (.pointer x2) (
 .same blk14 o21 (
 .onS r11 fun q23 =>
 .kKey 55 (.agg cs13) fun v24 =>
 .ment 155 q23 v24 fun v25 =>
 .kTup v25 fun vs26 =>
 .nthA vs26 1 fun v27 =>
 .kInt .i64 v27 fun n28 =>
 .onS r11 fun q29 =>
 .esto q29 n28 (.pointer x2) (
 .jmp 4 [.pointer x2])))))
 | _ => .fail
noncomputable def X72_4 : List Value → M := fun args => match args with
 | [v0] => .kPtr v0 fun x0 => 
 .onS x0 fun a1 =>
 .ld a1.block a1.off fun v2 =>
 .kInt .i64 v2 fun n3 =>
 .ret (.int .i64 n3)
 | _ => .fail
noncomputable def cuts72 : Cuts := [(4, [9]), (3, [0, 6, 9])]
noncomputable def L72 : Places := [(3, X72_3, todoOf Tryz.f72 3), (4, X72_4, todoOf Tryz.f72 4)]
noncomputable def k72 : FCode := .of X72 L72 cuts72
theorem o72_3 : OOk Tryz.prog Tryz.f72 cuts72 L72 (3, X72_3, todoOf Tryz.f72 3) := by
  intro vs Γ m H r h; replace h : (X72_3 vs).run _ _ _ _ = _ := h; unfold X72_3 at h; split at h
  · replace h := M.iPtr h; obtain ⟨_, rfl, h⟩ := h; replace h := M.iPtr h; obtain ⟨_, rfl, h⟩ := h; replace h := M.iPtr h; obtain ⟨_, rfl, h⟩ := h; exact Eq.trans (by kernel_rfl) h
  · exact M.iFail h
theorem o72_4 : OOk Tryz.prog Tryz.f72 cuts72 L72 (4, X72_4, todoOf Tryz.f72 4) := by
  intro vs Γ m H r h; replace h : (X72_4 vs).run _ _ _ _ = _ := h; unfold X72_4 at h; split at h
  · replace h := M.iPtr h; obtain ⟨_, rfl, h⟩ := h; exact Eq.trans (by kernel_rfl) h
  · exact M.iFail h
theorem h72 : XOk Tryz.prog Tryz.f72 cuts72 L72 X72 := by
  intro Γ m args H r h; unfold X72 at h; split at h
  · replace h := M.iPtr h; obtain ⟨_, rfl, h⟩ := h; replace h := M.iPtr h; obtain ⟨_, rfl, h⟩ := h; replace h := M.iAgg h; obtain ⟨_, rfl, h⟩ := h; replace h := M.iBool h; obtain ⟨_, rfl, h⟩ := h; exact ⟨Eq.trans (by kernel_rfl) h, Nat.le_of_ble_eq_true (by kernel_rfl)⟩
  · exact M.iFail h
theorem K72 : CodeOk Tryz.prog 72 k72 := .of Tryz.func72 (by kernel_rfl) (by kernel_rfl) h72 (fc o72_3 (fc o72_4 fe))
-- WARN 72: build of an unknown part
-- sternpost/table.outs
noncomputable def X73 : List Value → M := fun args => match args with
 | [v0, v1] => .kInt .i64 v0 fun x0 => .kSl v1 fun a1 l2 c3 => 
 .fxI ((l2 : Nat) : Int) fun n4 =>
 .jmp 100003 [.int .i64 x0, .slice none 0 0, .slice a1 l2 c3, .int .i64 n4, .int .i64 (0 : Int)]
 | _ => .fail
noncomputable def X73_100003 : List Value → M := fun args => match args with
 | [v0, v1, v2, v3, v4] => .kInt .i64 v0 fun x0 => .kSl v1 fun a1 l2 c3 => .kSl v2 fun a4 l5 c6 => .kInt .i64 v3 fun x7 => .kInt .i64 v4 fun x8 => 
 .cmp .lss x8 x7 fun t9 =>
 .bool t9 (
 .onS a4 fun a10 =>
 .inb x8 l5 (
 .ldn ((a10.add (x8.toNat * 16)).block) ((a10.add (x8.toNat * 16)).off) 16 fun cs11 =>
 .new (.cells [.int .i64 (0 : Int), .int .i64 (0 : Int), .int .i64 (0 : Int), .int .i64 (0 : Int), .int .i64 (0 : Int), .int .i64 (0 : Int), .int .i64 (0 : Int), .int .i64 (0 : Int), .int .i64 (0 : Int), .int .i64 (0 : Int), .int .i64 (0 : Int), .bool false, .bool false, .bool false, .slice none 0 0, .string (⟨#[]⟩ : ByteArray)] 0 true) fun b12 =>
 .st 16 (⟨b12, 0, none⟩ : Addr) (.agg cs11) (
 .ldn b12 0 16 fun cs14 =>
 .cellsOks [.int .i64 x0, .agg cs14] (.onS (Program.built Tryz.prog 64 (([0, 1] : List Nat).zip [.int .i64 x0, .agg cs14])) fun cells15q =>
 .fxV (.agg cells15q) fun cells15v =>
 .kAgg cells15v fun cells15 =>
 .cellsOks [.agg cells15] (.onS (Instr.fill (fun i => some (i * 17, 17)) ([.int .i64 (0 : Int), .int .i64 (0 : Int), .int .i64 (0 : Int), .int .i64 (0 : Int), .int .i64 (0 : Int), .int .i64 (0 : Int), .int .i64 (0 : Int), .int .i64 (0 : Int), .int .i64 (0 : Int), .int .i64 (0 : Int), .int .i64 (0 : Int), .int .i64 (0 : Int), .bool false, .bool false, .bool false, .slice none 0 0, .string (⟨#[]⟩ : ByteArray)] : List Value).toArray (([0] : List Nat).zip [.agg cells15])) fun cells16q =>
 .fxV (.agg cells16q) fun cells16v =>
 .kAgg cells16v fun cells16 =>
 .new (.cells cells16.toList 17 true) fun b17 =>
 .firstC 17 (.slice (some ⟨b17, 0, none⟩) 1 1) fun n18 nw19 =>
 .app 64 (.slice a1 l2 c3) n18 nw19 fun v20 =>
 .kSl v20 fun a22 l23 c24 =>
 .wr .i64 (x8 + (1 : Int)) fun n25 =>
 .jmp 100003 [.int .i64 x0, .slice a22 l23 c24, .slice a4 l5 c6, .int .i64 x7, .int .i64 n25]))))) (
 .ret (.slice a1 l2 c3))
 | _ => .fail
noncomputable def cuts73 : Cuts := [(100003, [0, 5, 8, 9, 10])]
noncomputable def L73 : Places := [(100003, X73_100003, todoOf Tryz.f73 100003)]
noncomputable def k73 : FCode := .of X73 L73 cuts73
theorem o73_100003 : OOk Tryz.prog Tryz.f73 cuts73 L73 (100003, X73_100003, todoOf Tryz.f73 100003) := by
  intro vs Γ m H r h; replace h : (X73_100003 vs).run _ _ _ _ = _ := h; unfold X73_100003 at h; split at h
  · replace h := M.iInt h; obtain ⟨_, rfl, h⟩ := h; replace h := M.iSl h; obtain ⟨_, _, _, rfl, h⟩ := h; replace h := M.iSl h; obtain ⟨_, _, _, rfl, h⟩ := h; replace h := M.iInt h; obtain ⟨_, rfl, h⟩ := h; replace h := M.iInt h; obtain ⟨_, rfl, h⟩ := h; exact Eq.trans (by kernel_rfl) h
  · exact M.iFail h
theorem h73 : XOk Tryz.prog Tryz.f73 cuts73 L73 X73 := by
  intro Γ m args H r h; unfold X73 at h; split at h
  · replace h := M.iInt h; obtain ⟨_, rfl, h⟩ := h; replace h := M.iSl h; obtain ⟨_, _, _, rfl, h⟩ := h; exact ⟨Eq.trans (by kernel_rfl) h, Nat.le_of_ble_eq_true (by kernel_rfl)⟩
  · exact M.iFail h
theorem K73 : CodeOk Tryz.prog 73 k73 := .of Tryz.func73 (by kernel_rfl) (by kernel_rfl) h73 (fc o73_100003 fe)
-- WARN 73: build of an unknown part
-- sternpost/table.opens
noncomputable def X74 : List Value → M := fun args => match args with
 | [v0] => .kAgg v0 fun x0 => 
 .new (.cells x0.toList 0 true) fun b1 =>
 .ldn b1 0 16 fun cs2 =>
 .call 83 [.agg cs2, .int .i64 (2 : Int)] fun r3 =>
 .kBool r3 fun b4 =>
 .bool b4 (
 .ld b1 (0 + 4) fun v5 =>
 .kInt .i64 v5 fun n6 =>
 .cmp .eql (bits .and .i64 n6 (21 : Int)) (0 : Int) fun t7 =>
 .ret (.bool t7)) (
 .ret (.bool false))
 | _ => .fail
noncomputable def cuts74 : Cuts := []
noncomputable def L74 : Places := []
noncomputable def k74 : FCode := .of X74 L74 cuts74
theorem h74 : XOk Tryz.prog Tryz.f74 cuts74 L74 X74 := by
  intro Γ m args H r h; unfold X74 at h; split at h
  · replace h := M.iAgg h; obtain ⟨_, rfl, h⟩ := h; exact ⟨Eq.trans (by kernel_rfl) h, Nat.le_of_ble_eq_true (by kernel_rfl)⟩
  · exact M.iFail h
theorem K74 : CodeOk Tryz.prog 74 k74 := .of Tryz.func74 (by kernel_rfl) (by kernel_rfl) h74 fe
-- (*sternpost/table.Table).comes
noncomputable def X75 : List Value → M := fun args => match args with
 | [v0, v1, v2, v3] => .kPtr v0 fun x0 => .kAgg v1 fun x1 => .kAgg v2 fun x2 => .kInt .i64 v3 fun x3 => 
 .new (.cells x1.toList 0 true) fun b4 =>
 .new (.cells x2.toList 0 true) fun b5 =>
 .ld b4 (0 + 1) fun v6 =>
 .kInt .i64 v6 fun n7 =>
 .call 120 [.pointer x0, .int .i64 n7] fun r8 =>
 .kBool r8 fun b9 =>
 .bool b9 (
 .ret (.tuple #[.int .i64 (0 : Int), .slice none 0 0])) (
 .onS x0 fun a10 =>
 .ldn a10.block a10.off 8 fun cs11 =>
 .ldn b4 0 4 fun cs12 =>
 .ldn b4 0 4 fun cs13 =>
 .ldn b5 0 16 fun cs14 =>
 .snap b5 fun o15 =>
 .snap b4 fun o16 =>
 .snap a10.block fun o17 =>
 .fxI (mxi (0 : Int) (mni x3 (1099511627776 : Int))) fun n18 =>
 .call 71 [.pointer x0, .agg cs13, .int .i64 n18] fun r19 =>
 .kInt .i64 r19 fun n20 =>
 .same b5 o15 (
 .same b4 o16 (
 .same a10.block o17 (
 .fxI (mxi (0 : Int) (mni x3 (1099511627776 : Int))) fun n21 =>
 .call 80 [.agg cs11, .agg cs12, .int .i64 n20, .agg cs14, .int .i64 n21] fun r22 =>
 .kTup r22 fun vs23 =>
 .nthA vs23 0 fun v24 =>
 .kPtr v24 fun p25 =>
 .kTup r22 fun vs26 =>
 .nthA vs26 1 fun v27 =>
 .kSl v27 fun a28 l29 c30 =>
 .kTup r22 fun vs31 =>
 .nthA vs31 2 fun v32 =>
 .kInt .i64 v32 fun n33 =>
 .jmp 5 [.pointer x0, .pointer (some (⟨b4, 0, none⟩ : Addr)), .pointer p25, .slice a28 l29 c30, .int .i64 n33]))))
 | _ => .fail
noncomputable def X75_5 : List Value → M := fun args => match args with
 | [v0, v1, v2, v3, v4] => .kPtr v0 fun x0 => .kPtr v1 fun x1 => .kPtr v2 fun x2 => .kSl v3 fun a3 l4 c5 => .kInt .i64 v4 fun x6 => 
 .cmp .neq x6 (0 : Int) fun t7 =>
 .bool t7 (
 .ret (.tuple #[.int .i64 (0 : Int), .slice none 0 0])) (
 .onS x1 fun a8 =>
 .ldn a8.block a8.off 4 fun cs9 =>
 .opt (onSome x1 fun z => some z.block : Option Nat) (
 .onS x1 fun a21 =>
 .ld a21.block (a21.off + 2) fun v22 =>
 .kInt .i64 v22 fun n23 =>
 .snap a21.block fun o24 =>
 .call 72 [.pointer x0, .pointer x2, .agg cs9, .bool false] fun r25 =>
 .kInt .i64 r25 fun n26 =>
 .same a21.block o24 (
 .call 73 [.int .i64 n23, .slice a3 l4 c5] fun r27 =>
 .kSl r27 fun a28 l29 c30 =>
 .ret (.tuple #[.int .i64 n26, .slice a28 l29 c30]))) (fun blk10 =>
 .onS x1 fun a11 =>
 .ld a11.block (a11.off + 2) fun v12 =>
 .kInt .i64 v12 fun n13 =>
 .snap a11.block fun o14 =>
 .call 72 [.pointer x0, .pointer x2, .agg cs9, .bool false] fun r15 =>
 .kInt .i64 r15 fun n16 =>
 .same a11.block o14 (
 .call 73 [.int .i64 n13, .slice a3 l4 c5] fun r17 =>
 .kSl r17 fun a18 l19 c20 =>
 .ret (.tuple #[.int .i64 n16, .slice a18 l19 c20]))))
 | _ => .fail
noncomputable def cuts75 : Cuts := [(5, [0, 5, 10, 11, 12])]
noncomputable def L75 : Places := [(5, X75_5, todoOf Tryz.f75 5)]
noncomputable def k75 : FCode := .of X75 L75 cuts75
theorem o75_5 : OOk Tryz.prog Tryz.f75 cuts75 L75 (5, X75_5, todoOf Tryz.f75 5) := by
  intro vs Γ m H r h; replace h : (X75_5 vs).run _ _ _ _ = _ := h; unfold X75_5 at h; split at h
  · replace h := M.iPtr h; obtain ⟨_, rfl, h⟩ := h; replace h := M.iPtr h; obtain ⟨_, rfl, h⟩ := h; replace h := M.iPtr h; obtain ⟨_, rfl, h⟩ := h; replace h := M.iSl h; obtain ⟨_, _, _, rfl, h⟩ := h; replace h := M.iInt h; obtain ⟨_, rfl, h⟩ := h; exact Eq.trans (by kernel_rfl) h
  · exact M.iFail h
theorem h75 : XOk Tryz.prog Tryz.f75 cuts75 L75 X75 := by
  intro Γ m args H r h; unfold X75 at h; split at h
  · replace h := M.iPtr h; obtain ⟨_, rfl, h⟩ := h; replace h := M.iAgg h; obtain ⟨_, rfl, h⟩ := h; replace h := M.iAgg h; obtain ⟨_, rfl, h⟩ := h; replace h := M.iInt h; obtain ⟨_, rfl, h⟩ := h; exact ⟨Eq.trans (by kernel_rfl) h, Nat.le_of_ble_eq_true (by kernel_rfl)⟩
  · exact M.iFail h
theorem K75 : CodeOk Tryz.prog 75 k75 := .of Tryz.func75 (by kernel_rfl) (by kernel_rfl) h75 (fc o75_5 fe)
-- sternpost/conn.Accept
noncomputable def X80 : List Value → M := fun args => match args with
 | [v0, v1, v2, v3, v4] => .kAgg v0 fun x0 => .kAgg v1 fun x1 => .kInt .i64 v2 fun x2 => .kAgg v3 fun x3 => .kInt .i64 v4 fun x4 => 
 .new (.cells x0.toList 0 true) fun b5 =>
 .new (.cells x1.toList 0 true) fun b6 =>
 .new (.cells x3.toList 0 true) fun b7 =>
 .ldn b5 0 8 fun cs8 =>
 .ldn b6 0 4 fun cs9 =>
 .call 118 [.agg cs8, .agg cs9, .int .i64 x2, .int .i64 x4] fun r10 =>
 .kTup r10 fun vs11 =>
 .nthA vs11 0 fun v12 =>
 .kPtr v12 fun p13 =>
 .kTup r10 fun vs14 =>
 .nthA vs14 1 fun v15 =>
 .kInt .i64 v15 fun n16 =>
 .cmp .neq n16 (0 : Int) fun t17 =>
 .bool t17 (
 .ret (.tuple #[.pointer none, .slice none 0 0, .int .i64 n16])) (
 .ldn b7 0 16 fun cs18 =>
 .call 124 [.agg cs18] fun r19 =>
 .kBool r19 fun b20 =>
 .bool (!b20) (
 .ret (.tuple #[.pointer none, .slice none 0 0, .int .i64 (80 : Int)])) (
 .onS p13 fun a21 =>
 .st 1 (⟨a21.block, a21.off + 12, none⟩ : Addr) (.int .i64 (3 : Int)) (
 .ldn b7 0 16 fun cs23 =>
 .call 125 [.pointer p13, .agg cs23] fun r24 =>
 .call 119 [.pointer p13] fun r25 =>
 .kAgg r25 fun cs26 =>
 .ite (cs26.size = 16) (
 .cellsOks [.agg cs26] (.onS (Instr.fill (fun i => some (i * 16, 16)) ([.int .i64 (0 : Int), .int .i64 (0 : Int), .int .i64 (0 : Int), .int .i64 (0 : Int), .int .i64 (0 : Int), .int .i64 (0 : Int), .int .i64 (0 : Int), .int .i64 (0 : Int), .int .i64 (0 : Int), .int .i64 (0 : Int), .int .i64 (0 : Int), .bool false, .bool false, .bool false, .slice none 0 0, .string (⟨#[]⟩ : ByteArray)] : List Value).toArray (([0] : List Nat).zip [.agg cs26])) fun cells27q =>
 .fxV (.agg cells27q) fun cells27v =>
 .kAgg cells27v fun cells27 =>
 .new (.cells cells27.toList 16 true) fun b28 =>
 .ret (.tuple #[.pointer p13, .slice (some ⟨b28, 0, none⟩) 1 1, .int .i64 (0 : Int)]))))))
 | _ => .fail
noncomputable def cuts80 : Cuts := []
noncomputable def L80 : Places := []
noncomputable def k80 : FCode := .of X80 L80 cuts80
theorem h80 : XOk Tryz.prog Tryz.f80 cuts80 L80 X80 := by
  intro Γ m args H r h; unfold X80 at h; split at h
  · replace h := M.iAgg h; obtain ⟨_, rfl, h⟩ := h; replace h := M.iAgg h; obtain ⟨_, rfl, h⟩ := h; replace h := M.iInt h; obtain ⟨_, rfl, h⟩ := h; replace h := M.iAgg h; obtain ⟨_, rfl, h⟩ := h; replace h := M.iInt h; obtain ⟨_, rfl, h⟩ := h; exact ⟨Eq.trans (by kernel_rfl) h, Nat.le_of_ble_eq_true (by kernel_rfl)⟩
  · exact M.iFail h
theorem K80 : CodeOk Tryz.prog 80 k80 := .of Tryz.func80 (by kernel_rfl) (by kernel_rfl) h80 fe
-- sternpost/opts.Check
noncomputable def X82 : List Value → M := fun args => match args with
 | [v0] => .kAgg v0 fun x0 => 
 .new (.cells x0.toList 0 true) fun b1 =>
 .ld b1 0 fun v2 =>
 .kInt .i64 v2 fun n3 =>
 .cmp .lss n3 (0 : Int) fun t4 =>
 .bool t4 (
 .jmp 2 [.pointer (some (⟨b1, 0, none⟩ : Addr)), .bool true]) (
 .ld b1 0 fun v5 =>
 .kInt .i64 v5 fun n6 =>
 .cmp .gtr n6 (65535 : Int) fun t7 =>
 .bool t7 (
 .jmp 2 [.pointer (some (⟨b1, 0, none⟩ : Addr)), .bool true]) (
 .ld b1 (0 + 1) fun v8 =>
 .kInt .i64 v8 fun n9 =>
 .cmp .lss n9 (0 : Int) fun t10 =>
 .bool t10 (
 .jmp 2 [.pointer (some (⟨b1, 0, none⟩ : Addr)), .bool true]) (
 .ld b1 (0 + 1) fun v11 =>
 .kInt .i64 v11 fun n12 =>
 .cmp .gtr n12 (14 : Int) fun t13 =>
 .bool t13 (
 .jmp 2 [.pointer (some (⟨b1, 0, none⟩ : Addr)), .bool true]) (
 .ld b1 (0 + 7) fun v14 =>
 .kSl v14 fun a15 l16 c17 =>
 .cmp .gtr ((l16 : Nat) : Int) (4 : Int) fun t18 =>
 .jmp 2 [.pointer (some (⟨b1, 0, none⟩ : Addr)), .bool t18]))))
 | _ => .fail
noncomputable def X82_2 : List Value → M := fun args => match args with
 | [v0, v1] => .kPtr v0 fun x0 => .kBool v1 fun x1 => 
 .bool x1 (
 .jmp 3 [.pointer x0, .bool true]) (
 .onS x0 fun a2 =>
 .ld a2.block (a2.off + 2) fun v3 =>
 .kInt .i64 v3 fun n4 =>
 .onS x0 fun a5 =>
 .ld a5.block (a5.off + 3) fun v6 =>
 .kInt .i64 v6 fun n7 =>
 .snap a5.block fun o8 =>
 .call 62 [.int .i64 n4] fun r9 =>
 .kInt .i64 r9 fun n10 =>
 .same a5.block o8 (
 .call 62 [.int .i64 n7] fun r11 =>
 .kInt .i64 r11 fun n12 =>
 .cmp .gtr (mxi n10 n12) (0 : Int) fun t13 =>
 .jmp 3 [.pointer x0, .bool t13]))
 | _ => .fail
noncomputable def X82_3 : List Value → M := fun args => match args with
 | [v0, v1] => .kPtr v0 fun x0 => .kBool v1 fun x1 => 
 .bool x1 (
 .jmp 4 [.pointer x0, .bool true]) (
 .onS x0 fun a2 =>
 .ld a2.block (a2.off + 4) fun v3 =>
 .kBool v3 fun b4 =>
 .bool (!b4) (
 .onS x0 fun a5 =>
 .ld a5.block (a5.off + 1) fun v6 =>
 .kInt .i64 v6 fun n7 =>
 .cmp .gtr n7 (0 : Int) fun t8 =>
 .bool t8 (
 .jmp 4 [.pointer x0, .bool true]) (
 .onS x0 fun a9 =>
 .ld a9.block (a9.off + 6) fun v10 =>
 .kBool v10 fun b11 =>
 .bool (!b11) (
 .onS x0 fun a12 =>
 .ld a12.block (a12.off + 2) fun v13 =>
 .kInt .i64 v13 fun n14 =>
 .onS x0 fun a15 =>
 .ld a15.block (a15.off + 3) fun v16 =>
 .kInt .i64 v16 fun n17 =>
 .cmp .gtr (mxi n14 n17) (0 : Int) fun t18 =>
 .jmp 4 [.pointer x0, .bool t18]) (
 .jmp 4 [.pointer x0, .bool false]))) (
 .onS x0 fun a19 =>
 .ld a19.block (a19.off + 6) fun v20 =>
 .kBool v20 fun b21 =>
 .bool (!b21) (
 .onS x0 fun a22 =>
 .ld a22.block (a22.off + 2) fun v23 =>
 .kInt .i64 v23 fun n24 =>
 .onS x0 fun a25 =>
 .ld a25.block (a25.off + 3) fun v26 =>
 .kInt .i64 v26 fun n27 =>
 .cmp .gtr (mxi n24 n27) (0 : Int) fun t28 =>
 .jmp 4 [.pointer x0, .bool t28]) (
 .jmp 4 [.pointer x0, .bool false])))
 | _ => .fail
noncomputable def X82_4 : List Value → M := fun args => match args with
 | [v0, v1] => .kPtr v0 fun x0 => .kBool v1 fun x1 => 
 .bool x1 (
 .jmp 5 [.pointer x0, .bool true]) (
 .onS x0 fun a2 =>
 .ld a2.block (a2.off + 7) fun v3 =>
 .kSl v3 fun a4 l5 c6 =>
 .call 126 [.slice a4 l5 c6, .func (.func 127) #[] #[]] fun r7 =>
 .kBool r7 fun b8 =>
 .jmp 5 [.pointer x0, .bool b8])
 | _ => .fail
noncomputable def X82_5 : List Value → M := fun args => match args with
 | [v0, v1] => .kPtr v0 fun x0 => .kBool v1 fun x1 => 
 .bool x1 (
 .jmp 6 []) (
 .onS x0 fun a2 =>
 .ldn a2.block a2.off 8 fun cs3 =>
 .call 128 [.agg cs3] fun r4 =>
 .kStr r4 fun s5 =>
 .cmp .gtr (s5.size : Int) (40 : Int) fun t6 =>
 .bool t6 (
 .jmp 6 []) (
 .ret (.int .i64 (0 : Int))))
 | _ => .fail
noncomputable def X82_6 : List Value → M := fun args => match args with
 | [] => 
 .ret (.int .i64 (70 : Int))
 | _ => .fail
noncomputable def cuts82 : Cuts := [(6, []), (5, [1, 3]), (4, [1, 3]), (3, [1, 3]), (2, [1, 3])]
noncomputable def L82 : Places := [(2, X82_2, todoOf Tryz.f82 2), (3, X82_3, todoOf Tryz.f82 3), (4, X82_4, todoOf Tryz.f82 4), (5, X82_5, todoOf Tryz.f82 5), (6, X82_6, todoOf Tryz.f82 6)]
noncomputable def k82 : FCode := .of X82 L82 cuts82
theorem o82_2 : OOk Tryz.prog Tryz.f82 cuts82 L82 (2, X82_2, todoOf Tryz.f82 2) := by
  intro vs Γ m H r h; replace h : (X82_2 vs).run _ _ _ _ = _ := h; unfold X82_2 at h; split at h
  · replace h := M.iPtr h; obtain ⟨_, rfl, h⟩ := h; replace h := M.iBool h; obtain ⟨_, rfl, h⟩ := h; exact Eq.trans (by kernel_rfl) h
  · exact M.iFail h
theorem o82_3 : OOk Tryz.prog Tryz.f82 cuts82 L82 (3, X82_3, todoOf Tryz.f82 3) := by
  intro vs Γ m H r h; replace h : (X82_3 vs).run _ _ _ _ = _ := h; unfold X82_3 at h; split at h
  · replace h := M.iPtr h; obtain ⟨_, rfl, h⟩ := h; replace h := M.iBool h; obtain ⟨_, rfl, h⟩ := h; exact Eq.trans (by kernel_rfl) h
  · exact M.iFail h
theorem o82_4 : OOk Tryz.prog Tryz.f82 cuts82 L82 (4, X82_4, todoOf Tryz.f82 4) := by
  intro vs Γ m H r h; replace h : (X82_4 vs).run _ _ _ _ = _ := h; unfold X82_4 at h; split at h
  · replace h := M.iPtr h; obtain ⟨_, rfl, h⟩ := h; replace h := M.iBool h; obtain ⟨_, rfl, h⟩ := h; exact Eq.trans (by kernel_rfl) h
  · exact M.iFail h
theorem o82_5 : OOk Tryz.prog Tryz.f82 cuts82 L82 (5, X82_5, todoOf Tryz.f82 5) := by
  intro vs Γ m H r h; replace h : (X82_5 vs).run _ _ _ _ = _ := h; unfold X82_5 at h; split at h
  · replace h := M.iPtr h; obtain ⟨_, rfl, h⟩ := h; replace h := M.iBool h; obtain ⟨_, rfl, h⟩ := h; exact Eq.trans (by kernel_rfl) h
  · exact M.iFail h
theorem o82_6 : OOk Tryz.prog Tryz.f82 cuts82 L82 (6, X82_6, todoOf Tryz.f82 6) := by
  intro vs Γ m H r h; replace h : (X82_6 vs).run _ _ _ _ = _ := h; unfold X82_6 at h; split at h
  · exact Eq.trans (by kernel_rfl) h
  · exact M.iFail h
theorem h82 : XOk Tryz.prog Tryz.f82 cuts82 L82 X82 := by
  intro Γ m args H r h; unfold X82 at h; split at h
  · replace h := M.iAgg h; obtain ⟨_, rfl, h⟩ := h; exact ⟨Eq.trans (by kernel_rfl) h, Nat.le_of_ble_eq_true (by kernel_rfl)⟩
  · exact M.iFail h
theorem K82 : CodeOk Tryz.prog 82 k82 := .of Tryz.func82 (by kernel_rfl) (by kernel_rfl) h82 (fc o82_2 (fc o82_3 (fc o82_4 (fc o82_5 (fc o82_6 fe)))))
-- sternpost/seg.Has
noncomputable def X83 : List Value → M := fun args => match args with
 | [v0, v1] => .kAgg v0 fun x0 => .kInt .i64 v1 fun x1 => 
 .new (.cells x0.toList 0 true) fun b2 =>
 .ld b2 (0 + 4) fun v3 =>
 .kInt .i64 v3 fun n4 =>
 .cmp .eql (bits .and .i64 n4 x1) x1 fun t5 =>
 .ret (.bool t5)
 | _ => .fail
noncomputable def cuts83 : Cuts := []
noncomputable def L83 : Places := []
noncomputable def k83 : FCode := .of X83 L83 cuts83
theorem h83 : XOk Tryz.prog Tryz.f83 cuts83 L83 X83 := by
  intro Γ m args H r h; unfold X83 at h; split at h
  · replace h := M.iAgg h; obtain ⟨_, rfl, h⟩ := h; replace h := M.iInt h; obtain ⟨_, rfl, h⟩ := h; exact ⟨Eq.trans (by kernel_rfl) h, Nat.le_of_ble_eq_true (by kernel_rfl)⟩
  · exact M.iFail h
theorem K83 : CodeOk Tryz.prog 83 k83 := .of Tryz.func83 (by kernel_rfl) (by kernel_rfl) h83 fe
-- (*sternpost/conn.Conn).turn
noncomputable def X84 : List Value → M := fun args => match args with
 | [v0, v1] => .kPtr v0 fun x0 => .kInt .i64 v1 fun x1 => 
 .onS x0 fun a2 =>
 .ld a2.block (a2.off + 14) fun v3 =>
 .kInt .i64 v3 fun n4 =>
 .onS x0 fun a5 =>
 .fxI (mxi n4 (mni x1 (1099511627776 : Int))) fun n6 =>
 .st 1 (⟨a5.block, a5.off + 14, none⟩ : Addr) (.int .i64 n6) (
 .ret (.tuple #[]))
 | _ => .fail
noncomputable def cuts84 : Cuts := []
noncomputable def L84 : Places := []
noncomputable def k84 : FCode := .of X84 L84 cuts84
theorem h84 : XOk Tryz.prog Tryz.f84 cuts84 L84 X84 := by
  intro Γ m args H r h; unfold X84 at h; split at h
  · replace h := M.iPtr h; obtain ⟨_, rfl, h⟩ := h; replace h := M.iInt h; obtain ⟨_, rfl, h⟩ := h; exact ⟨Eq.trans (by kernel_rfl) h, Nat.le_of_ble_eq_true (by kernel_rfl)⟩
  · exact M.iFail h
theorem K84 : CodeOk Tryz.prog 84 k84 := .of Tryz.func84 (by kernel_rfl) (by kernel_rfl) h84 fe
-- (*sternpost/conn.Conn).due
noncomputable def X85 : List Value → M := fun args => match args with
 | [v0, v1] => .kPtr v0 fun x0 => .kInt .i64 v1 fun x1 => 
 .onS x0 fun a2 =>
 .inb x1 3 (
 .ld (((⟨a2.block, a2.off + 37, none⟩ : Addr).add (x1.toNat * 1)).block) (((⟨a2.block, a2.off + 37, none⟩ : Addr).add (x1.toNat * 1)).off) fun v3 =>
 .kInt .i64 v3 fun n4 =>
 .cmp .neq n4 (-1 : Int) fun t5 =>
 .bool t5 (
 .onS x0 fun a6 =>
 .inb x1 3 (
 .ld (((⟨a6.block, a6.off + 37, none⟩ : Addr).add (x1.toNat * 1)).block) (((⟨a6.block, a6.off + 37, none⟩ : Addr).add (x1.toNat * 1)).off) fun v7 =>
 .kInt .i64 v7 fun n8 =>
 .onS x0 fun a9 =>
 .ld a9.block (a9.off + 14) fun v10 =>
 .kInt .i64 v10 fun n11 =>
 .cmp .leq n8 n11 fun t12 =>
 .ret (.bool t12))) (
 .ret (.bool false)))
 | _ => .fail
noncomputable def cuts85 : Cuts := []
noncomputable def L85 : Places := []
noncomputable def k85 : FCode := .of X85 L85 cuts85
theorem h85 : XOk Tryz.prog Tryz.f85 cuts85 L85 X85 := by
  intro Γ m args H r h; unfold X85 at h; split at h
  · replace h := M.iPtr h; obtain ⟨_, rfl, h⟩ := h; replace h := M.iInt h; obtain ⟨_, rfl, h⟩ := h; exact ⟨Eq.trans (by kernel_rfl) h, Nat.le_of_ble_eq_true (by kernel_rfl)⟩
  · exact M.iFail h
theorem K85 : CodeOk Tryz.prog 85 k85 := .of Tryz.func85 (by kernel_rfl) (by kernel_rfl) h85 fe
-- (*sternpost/conn.Conn).end
noncomputable def X86 : List Value → M := fun args => match args with
 | [v0, v1] => .kPtr v0 fun x0 => .kInt .i64 v1 fun x1 => 
 .onS x0 fun a2 =>
 .st 1 (⟨a2.block, a2.off + 12, none⟩ : Addr) (.int .i64 (0 : Int)) (
 .onS x0 fun a4 =>
 .st 1 (⟨a4.block, a4.off + 16, none⟩ : Addr) (.int .i64 x1) (
 .onS x0 fun a6 =>
 .st 3 (⟨a6.block, a6.off + 37, none⟩ : Addr) (.agg #[.int .i64 (-1 : Int), .int .i64 (-1 : Int), .int .i64 (-1 : Int)]) (
 .ret (.tuple #[]))))
 | _ => .fail
noncomputable def cuts86 : Cuts := []
noncomputable def L86 : Places := []
noncomputable def k86 : FCode := .of X86 L86 cuts86
theorem h86 : XOk Tryz.prog Tryz.f86 cuts86 L86 X86 := by
  intro Γ m args H r h; unfold X86 at h; split at h
  · replace h := M.iPtr h; obtain ⟨_, rfl, h⟩ := h; replace h := M.iInt h; obtain ⟨_, rfl, h⟩ := h; exact ⟨Eq.trans (by kernel_rfl) h, Nat.le_of_ble_eq_true (by kernel_rfl)⟩
  · exact M.iFail h
theorem K86 : CodeOk Tryz.prog 86 k86 := .of Tryz.func86 (by kernel_rfl) (by kernel_rfl) h86 fe
-- (*sternpost/conn.Conn).ack
noncomputable def X87 : List Value → M := fun args => match args with
 | [v0] => .kPtr v0 fun x0 => 
 .new (.cells [.int .i64 (0 : Int), .int .i64 (0 : Int), .int .i64 (0 : Int), .int .i64 (0 : Int), .int .i64 (0 : Int), .int .i64 (0 : Int), .int .i64 (0 : Int), .int .i64 (0 : Int), .int .i64 (0 : Int), .int .i64 (0 : Int), .int .i64 (0 : Int), .bool false, .bool false, .bool false, .slice none 0 0, .string (⟨#[]⟩ : ByteArray)] 0 true) fun b1 =>
 .call 45 [.pointer x0] fun r2 =>
 .kTup r2 fun vs3 =>
 .nthA vs3 0 fun v4 =>
 .kInt .i64 v4 fun n5 =>
 .kTup r2 fun vs6 =>
 .nthA vs6 1 fun v7 =>
 .kInt .i64 v7 fun n8 =>
 .kTup r2 fun vs9 =>
 .nthA vs9 2 fun v10 =>
 .kInt .i64 v10 fun n11 =>
 .kTup r2 fun vs12 =>
 .nthA vs12 3 fun v13 =>
 .kInt .i64 v13 fun n14 =>
 .call 88 [.pointer x0, .int .i64 (0 : Int), .int .i64 n8, .string (⟨#[]⟩ : ByteArray)] fun r15 =>
 .kAgg r15 fun cs16 =>
 .ite (cs16.size = 16) (
 .new (.cells [.int .i64 (0 : Int), .int .i64 (0 : Int), .int .i64 (0 : Int), .int .i64 (0 : Int), .int .i64 (0 : Int), .int .i64 (0 : Int), .int .i64 (0 : Int), .int .i64 (0 : Int), .int .i64 (0 : Int), .int .i64 (0 : Int), .int .i64 (0 : Int), .bool false, .bool false, .bool false, .slice none 0 0, .string (⟨#[]⟩ : ByteArray)] 0 true) fun b17 =>
 .st 16 (⟨b17, 0, none⟩ : Addr) (.agg cs16) (
 .onS x0 fun a19 =>
 .ld a19.block ((a19.off + 23) + 1) fun v20 =>
 .kBool v20 fun b21 =>
 .bool b21 (
 .onS x0 fun a22 =>
 .ld a22.block (a22.off + 22) fun v23 =>
 .kPtr v23 fun p24 =>
 .call 129 [.pointer p24, .int .i64 (3 : Int)] fun r25 =>
 .kSl r25 fun a26 l27 c28 =>
 .st 1 (⟨b17, (0 + 7) + 7, none⟩ : Addr) (.slice a26 l27 c28) (
 .jmp 5 [.pointer (some (⟨b1, 0, none⟩ : Addr)), .pointer (some (⟨b17, 0, none⟩ : Addr))])) (
 .jmp 5 [.pointer (some (⟨b1, 0, none⟩ : Addr)), .pointer (some (⟨b17, 0, none⟩ : Addr))])))
 | _ => .fail
noncomputable def X87_5 : List Value → M := fun args => match args with
 | [v0, v1] => .kPtr v0 fun x0 => .kPtr v1 fun x1 => 
 .onS x1 fun a2 =>
 .ldn a2.block a2.off 16 fun cs3 =>
 .onS x0 fun a4 =>
 .st 16 a4 (.agg cs3) (
 .onS x0 fun a6 =>
 .ldn a6.block a6.off 16 fun cs7 =>
 .ret (.agg cs7))
 | _ => .fail
noncomputable def cuts87 : Cuts := [(5, [2, 7])]
noncomputable def L87 : Places := [(5, X87_5, todoOf Tryz.f87 5)]
noncomputable def k87 : FCode := .of X87 L87 cuts87
theorem o87_5 : OOk Tryz.prog Tryz.f87 cuts87 L87 (5, X87_5, todoOf Tryz.f87 5) := by
  intro vs Γ m H r h; replace h : (X87_5 vs).run _ _ _ _ = _ := h; unfold X87_5 at h; split at h
  · replace h := M.iPtr h; obtain ⟨_, rfl, h⟩ := h; replace h := M.iPtr h; obtain ⟨_, rfl, h⟩ := h; exact Eq.trans (by kernel_rfl) h
  · exact M.iFail h
theorem h87 : XOk Tryz.prog Tryz.f87 cuts87 L87 X87 := by
  intro Γ m args H r h; unfold X87 at h; split at h
  · replace h := M.iPtr h; obtain ⟨_, rfl, h⟩ := h; exact ⟨Eq.trans (by kernel_rfl) h, Nat.le_of_ble_eq_true (by kernel_rfl)⟩
  · exact M.iFail h
theorem K87 : CodeOk Tryz.prog 87 k87 := .of Tryz.func87 (by kernel_rfl) (by kernel_rfl) h87 (fc o87_5 fe)
-- (*sternpost/conn.Conn).seg
noncomputable def X88 : List Value → M := fun args => match args with
 | [v0, v1, v2, v3] => .kPtr v0 fun x0 => .kInt .i64 v1 fun x1 => .kInt .i64 v2 fun x2 => .kStr v3 fun x3 => 
 .new (.cells [.int .i64 (0 : Int), .int .i64 (0 : Int), .int .i64 (0 : Int), .int .i64 (0 : Int), .int .i64 (0 : Int), .int .i64 (0 : Int), .int .i64 (0 : Int), .int .i64 (0 : Int), .int .i64 (0 : Int), .int .i64 (0 : Int), .int .i64 (0 : Int), .bool false, .bool false, .bool false, .slice none 0 0, .string (⟨#[]⟩ : ByteArray)] 0 true) fun b4 =>
 .onS x0 fun a5 =>
 .ld a5.block ((a5.off + 8) + 1) fun v6 =>
 .kInt .i64 v6 fun n7 =>
 .onS x0 fun a8 =>
 .ld a8.block ((a8.off + 8) + 3) fun v9 =>
 .kInt .i64 v9 fun n10 =>
 .onS x0 fun a11 =>
 .ld a11.block (a11.off + 1) fun v12 =>
 .kInt .i64 v12 fun n13 =>
 .new (.cells [.int .i64 (0 : Int), .int .i64 (0 : Int), .int .i64 (0 : Int), .int .i64 (0 : Int), .int .i64 (0 : Int), .int .i64 (0 : Int), .int .i64 (0 : Int), .int .i64 (0 : Int), .int .i64 (0 : Int), .int .i64 (0 : Int), .int .i64 (0 : Int), .bool false, .bool false, .bool false, .slice none 0 0, .string (⟨#[]⟩ : ByteArray)] 0 true) fun b14 =>
 .st 16 (⟨b14, 0, none⟩ : Addr) (.agg #[.int .i64 n7, .int .i64 n10, .int .i64 x2, .int .i64 (0 : Int), .int .i64 x1, .int .i64 n13, .int .i64 (0 : Int), .int .i64 (0 : Int), .int .i64 (0 : Int), .int .i64 (0 : Int), .int .i64 (0 : Int), .bool false, .bool false, .bool false, .slice none 0 0, .string x3]) (
 .onS x0 fun a16 =>
 .ld a16.block (a16.off + 23) fun v17 =>
 .kBool v17 fun b18 =>
 .bool b18 (
 .call 45 [.pointer x0] fun r19 =>
 .kTup r19 fun vs20 =>
 .nthA vs20 0 fun v21 =>
 .kInt .i64 v21 fun n22 =>
 .kTup r19 fun vs23 =>
 .nthA vs23 1 fun v24 =>
 .kInt .i64 v24 fun n25 =>
 .kTup r19 fun vs26 =>
 .nthA vs26 2 fun v27 =>
 .kInt .i64 v27 fun n28 =>
 .kTup r19 fun vs29 =>
 .nthA vs29 3 fun v30 =>
 .kInt .i64 v30 fun n31 =>
 .st 1 (⟨b14, 0 + 3, none⟩ : Addr) (.int .i64 n28) (
 .ld b14 (0 + 4) fun v33 =>
 .kInt .i64 v33 fun n34 =>
 .fxI (bits .or .i64 n34 (16 : Int)) fun n35 =>
 .st 1 (⟨b14, 0 + 4, none⟩ : Addr) (.int .i64 n35) (
 .onS x0 fun a37 =>
 .ld a37.block (a37.off + 22) fun v38 =>
 .kPtr v38 fun p39 =>
 .call 130 [.pointer p39] fun r40 =>
 .kInt .i64 r40 fun n41 =>
 .st 1 (⟨b14, 0 + 5, none⟩ : Addr) (.int .i64 n41) (
 .onS x0 fun a43 =>
 .inb (1 : Int) 3 (
 .st 1 ((⟨a43.block, a43.off + 37, none⟩ : Addr).add ((1 : Int).toNat * 1)) (.int .i64 (-1 : Int)) (
 .jmp 7 [.pointer (some (⟨b4, 0, none⟩ : Addr)), .pointer (some (⟨b14, 0, none⟩ : Addr))])))))) (
 .jmp 7 [.pointer (some (⟨b4, 0, none⟩ : Addr)), .pointer (some (⟨b14, 0, none⟩ : Addr))]))
 | _ => .fail
noncomputable def X88_7 : List Value → M := fun args => match args with
 | [v0, v1] => .kPtr v0 fun x0 => .kPtr v1 fun x1 => 
 .onS x1 fun a2 =>
 .ldn a2.block a2.off 16 fun cs3 =>
 .onS x0 fun a4 =>
 .st 16 a4 (.agg cs3) (
 .onS x0 fun a6 =>
 .ldn a6.block a6.off 16 fun cs7 =>
 .ret (.agg cs7))
 | _ => .fail
noncomputable def cuts88 : Cuts := [(7, [8, 9])]
noncomputable def L88 : Places := [(7, X88_7, todoOf Tryz.f88 7)]
noncomputable def k88 : FCode := .of X88 L88 cuts88
theorem o88_7 : OOk Tryz.prog Tryz.f88 cuts88 L88 (7, X88_7, todoOf Tryz.f88 7) := by
  intro vs Γ m H r h; replace h : (X88_7 vs).run _ _ _ _ = _ := h; unfold X88_7 at h; split at h
  · replace h := M.iPtr h; obtain ⟨_, rfl, h⟩ := h; replace h := M.iPtr h; obtain ⟨_, rfl, h⟩ := h; exact Eq.trans (by kernel_rfl) h
  · exact M.iFail h
theorem h88 : XOk Tryz.prog Tryz.f88 cuts88 L88 X88 := by
  intro Γ m args H r h; unfold X88 at h; split at h
  · replace h := M.iPtr h; obtain ⟨_, rfl, h⟩ := h; replace h := M.iInt h; obtain ⟨_, rfl, h⟩ := h; replace h := M.iInt h; obtain ⟨_, rfl, h⟩ := h; replace h := M.iStr h; obtain ⟨_, rfl, h⟩ := h; exact ⟨Eq.trans (by kernel_rfl) h, Nat.le_of_ble_eq_true (by kernel_rfl)⟩
  · exact M.iFail h
theorem K88 : CodeOk Tryz.prog 88 k88 := .of Tryz.func88 (by kernel_rfl) (by kernel_rfl) h88 (fc o88_7 fe)
-- (*sternpost/conn.Conn).flight
noncomputable def X89 : List Value → M := fun args => match args with
 | [v0] => .kPtr v0 fun x0 => 
 .onS x0 fun a1 =>
 .ld a1.block (a1.off + 21) fun v2 =>
 .kPtr v2 fun p3 =>
 .call 94 [.pointer p3] fun r4 =>
 .kTup r4 fun vs5 =>
 .nthA vs5 0 fun v6 =>
 .kInt .i64 v6 fun n7 =>
 .kTup r4 fun vs8 =>
 .nthA vs8 1 fun v9 =>
 .kInt .i64 v9 fun n10 =>
 .kTup r4 fun vs11 =>
 .nthA vs11 2 fun v12 =>
 .kInt .i64 v12 fun n13 =>
 .call 131 [.int .i64 n7, .int .i64 n10] fun r14 =>
 .kTup r14 fun vs15 =>
 .nthA vs15 0 fun v16 =>
 .kInt .i64 v16 fun n17 =>
 .kTup r14 fun vs18 =>
 .nthA vs18 1 fun v19 =>
 .kInt .i64 v19 fun n20 =>
 .wr .i64 (n13 - n17) fun n21 =>
 .ret (.tuple #[.int .i64 n17, .int .i64 n21])
 | _ => .fail
noncomputable def cuts89 : Cuts := []
noncomputable def L89 : Places := []
noncomputable def k89 : FCode := .of X89 L89 cuts89
theorem h89 : XOk Tryz.prog Tryz.f89 cuts89 L89 X89 := by
  intro Γ m args H r h; unfold X89 at h; split at h
  · replace h := M.iPtr h; obtain ⟨_, rfl, h⟩ := h; exact ⟨Eq.trans (by kernel_rfl) h, Nat.le_of_ble_eq_true (by kernel_rfl)⟩
  · exact M.iFail h
theorem K89 : CodeOk Tryz.prog 89 k89 := .of Tryz.func89 (by kernel_rfl) (by kernel_rfl) h89 fe
-- (*sternpost/conn.Conn).set
noncomputable def X92 : List Value → M := fun args => match args with
 | [v0, v1, v2] => .kPtr v0 fun x0 => .kInt .i64 v1 fun x1 => .kInt .i64 v2 fun x2 => 
 .onS x0 fun a3 =>
 .ld a3.block (a3.off + 14) fun v4 =>
 .kInt .i64 v4 fun n5 =>
 .wr .i64 (n5 + x2) fun n6 =>
 .onS x0 fun a7 =>
 .inb x1 3 (
 .st 1 ((⟨a7.block, a7.off + 37, none⟩ : Addr).add (x1.toNat * 1)) (.int .i64 n6) (
 .ret (.tuple #[])))
 | _ => .fail
noncomputable def cuts92 : Cuts := []
noncomputable def L92 : Places := []
noncomputable def k92 : FCode := .of X92 L92 cuts92
theorem h92 : XOk Tryz.prog Tryz.f92 cuts92 L92 X92 := by
  intro Γ m args H r h; unfold X92 at h; split at h
  · replace h := M.iPtr h; obtain ⟨_, rfl, h⟩ := h; replace h := M.iInt h; obtain ⟨_, rfl, h⟩ := h; replace h := M.iInt h; obtain ⟨_, rfl, h⟩ := h; exact ⟨Eq.trans (by kernel_rfl) h, Nat.le_of_ble_eq_true (by kernel_rfl)⟩
  · exact M.iFail h
theorem K92 : CodeOk Tryz.prog 92 k92 := .of Tryz.func92 (by kernel_rfl) (by kernel_rfl) h92 fe
-- (*sternpost/sendq.Queue).State
noncomputable def X94 : List Value → M := fun args => match args with
 | [v0] => .kPtr v0 fun x0 => 
 .onS x0 fun a1 =>
 .ld a1.block a1.off fun v2 =>
 .kInt .i64 v2 fun n3 =>
 .onS x0 fun a4 =>
 .ld a4.block (a4.off + 1) fun v5 =>
 .kInt .i64 v5 fun n6 =>
 .onS x0 fun a7 =>
 .ld a7.block (a7.off + 3) fun v8 =>
 .kStr v8 fun s9 =>
 .snap a7.block fun o10 =>
 .snap a1.block fun o11 =>
 .call 137 [.pointer x0, .int .i64 n6] fun r12 =>
 .kInt .i64 r12 fun n13 =>
 .same a7.block o10 (
 .same a1.block o11 (
 .fxI (s9.size : Int) fun n14 =>
 .ret (.tuple #[.int .i64 n3, .int .i64 n13, .int .i64 n14])))
 | _ => .fail
noncomputable def cuts94 : Cuts := []
noncomputable def L94 : Places := []
noncomputable def k94 : FCode := .of X94 L94 cuts94
theorem h94 : XOk Tryz.prog Tryz.f94 cuts94 L94 X94 := by
  intro Γ m args H r h; unfold X94 at h; split at h
  · replace h := M.iPtr h; obtain ⟨_, rfl, h⟩ := h; exact ⟨Eq.trans (by kernel_rfl) h, Nat.le_of_ble_eq_true (by kernel_rfl)⟩
  · exact M.iFail h
theorem K94 : CodeOk Tryz.prog 94 k94 := .of Tryz.func94 (by kernel_rfl) (by kernel_rfl) h94 fe
-- sternpost/conn.behind
noncomputable def X95 : List Value → M := fun args => match args with
 | [v0, v1] => .kInt .i64 v0 fun x0 => .kInt .i64 v1 fun x1 => 
 .call 121 [.int .i64 x0, .int .i64 x1] fun r2 =>
 .kTup r2 fun vs3 =>
 .nthA vs3 0 fun v4 =>
 .kInt .i64 v4 fun n5 =>
 .kTup r2 fun vs6 =>
 .nthA vs6 1 fun v7 =>
 .kInt .i64 v7 fun n8 =>
 .ret (.int .i64 n5)
 | _ => .fail
noncomputable def cuts95 : Cuts := []
noncomputable def L95 : Places := []
noncomputable def k95 : FCode := .of X95 L95 cuts95
theorem h95 : XOk Tryz.prog Tryz.f95 cuts95 L95 X95 := by
  intro Γ m args H r h; unfold X95 at h; split at h
  · replace h := M.iInt h; obtain ⟨_, rfl, h⟩ := h; replace h := M.iInt h; obtain ⟨_, rfl, h⟩ := h; exact ⟨Eq.trans (by kernel_rfl) h, Nat.le_of_ble_eq_true (by kernel_rfl)⟩
  · exact M.iFail h
theorem K95 : CodeOk Tryz.prog 95 k95 := .of Tryz.func95 (by kernel_rfl) (by kernel_rfl) h95 fe
-- sternpost/conn.one
noncomputable def X96 : List Value → M := fun args => match args with
 | [v0] => .kBool v0 fun x0 => 
 .bool x0 (
 .ret (.int .i64 (1 : Int))) (
 .ret (.int .i64 (0 : Int)))
 | _ => .fail
noncomputable def cuts96 : Cuts := []
noncomputable def L96 : Places := []
noncomputable def k96 : FCode := .of X96 L96 cuts96
theorem h96 : XOk Tryz.prog Tryz.f96 cuts96 L96 X96 := by
  intro Γ m args H r h; unfold X96 at h; split at h
  · replace h := M.iBool h; obtain ⟨_, rfl, h⟩ := h; exact ⟨Eq.trans (by kernel_rfl) h, Nat.le_of_ble_eq_true (by kernel_rfl)⟩
  · exact M.iFail h
theorem K96 : CodeOk Tryz.prog 96 k96 := .of Tryz.func96 (by kernel_rfl) (by kernel_rfl) h96 fe
-- (*sternpost/recvq.Queue).Next
noncomputable def X97 : List Value → M := fun args => match args with
 | [v0] => .kPtr v0 fun x0 => 
 .onS x0 fun a1 =>
 .ld a1.block a1.off fun v2 =>
 .kInt .i64 v2 fun n3 =>
 .ret (.int .i64 n3)
 | _ => .fail
noncomputable def cuts97 : Cuts := []
noncomputable def L97 : Places := []
noncomputable def k97 : FCode := .of X97 L97 cuts97
theorem h97 : XOk Tryz.prog Tryz.f97 cuts97 L97 X97 := by
  intro Γ m args H r h; unfold X97 at h; split at h
  · replace h := M.iPtr h; obtain ⟨_, rfl, h⟩ := h; exact ⟨Eq.trans (by kernel_rfl) h, Nat.le_of_ble_eq_true (by kernel_rfl)⟩
  · exact M.iFail h
theorem K97 : CodeOk Tryz.prog 97 k97 := .of Tryz.func97 (by kernel_rfl) (by kernel_rfl) h97 fe
-- (*sternpost/conn.Conn).writes
noncomputable def X98 : List Value → M := fun args => match args with
 | [v0] => .kPtr v0 fun x0 => 
 .onS x0 fun a1 =>
 .ld a1.block (a1.off + 12) fun v2 =>
 .kInt .i64 v2 fun n3 =>
 .cmp .eql n3 (3 : Int) fun t4 =>
 .bool t4 (
 .bool t4 (
 .jmp 5 [.pointer x0]) (
 .jmp 4 [.pointer x0, .int .i64 n3])) (
 .cmp .eql n3 (4 : Int) fun t5 =>
 .bool t5 (
 .jmp 5 [.pointer x0]) (
 .jmp 4 [.pointer x0, .int .i64 n3]))
 | _ => .fail
noncomputable def X98_4 : List Value → M := fun args => match args with
 | [v0, v1] => .kPtr v0 fun x0 => .kInt .i64 v1 fun x1 => 
 .cmp .eql x1 (7 : Int) fun t2 =>
 .bool t2 (
 .jmp 5 [.pointer x0]) (
 .ret (.bool false))
 | _ => .fail
noncomputable def X98_5 : List Value → M := fun args => match args with
 | [v0] => .kPtr v0 fun x0 => 
 .onS x0 fun a1 =>
 .ld a1.block (a1.off + 18) fun v2 =>
 .kBool v2 fun b3 =>
 .fxB (!b3) fun t4 =>
 .ret (.bool t4)
 | _ => .fail
noncomputable def cuts98 : Cuts := [(5, [0]), (4, [0, 6])]
noncomputable def L98 : Places := [(4, X98_4, todoOf Tryz.f98 4), (5, X98_5, todoOf Tryz.f98 5)]
noncomputable def k98 : FCode := .of X98 L98 cuts98
theorem o98_4 : OOk Tryz.prog Tryz.f98 cuts98 L98 (4, X98_4, todoOf Tryz.f98 4) := by
  intro vs Γ m H r h; replace h : (X98_4 vs).run _ _ _ _ = _ := h; unfold X98_4 at h; split at h
  · replace h := M.iPtr h; obtain ⟨_, rfl, h⟩ := h; replace h := M.iInt h; obtain ⟨_, rfl, h⟩ := h; exact Eq.trans (by kernel_rfl) h
  · exact M.iFail h
theorem o98_5 : OOk Tryz.prog Tryz.f98 cuts98 L98 (5, X98_5, todoOf Tryz.f98 5) := by
  intro vs Γ m H r h; replace h : (X98_5 vs).run _ _ _ _ = _ := h; unfold X98_5 at h; split at h
  · replace h := M.iPtr h; obtain ⟨_, rfl, h⟩ := h; exact Eq.trans (by kernel_rfl) h
  · exact M.iFail h
theorem h98 : XOk Tryz.prog Tryz.f98 cuts98 L98 X98 := by
  intro Γ m args H r h; unfold X98 at h; split at h
  · replace h := M.iPtr h; obtain ⟨_, rfl, h⟩ := h; exact ⟨Eq.trans (by kernel_rfl) h, Nat.le_of_ble_eq_true (by kernel_rfl)⟩
  · exact M.iFail h
theorem K98 : CodeOk Tryz.prog 98 k98 := .of Tryz.func98 (by kernel_rfl) (by kernel_rfl) h98 (fc o98_4 (fc o98_5 fe))
-- (*sternpost/conn.Conn).output
noncomputable def X100 : List Value → M := fun args => match args with
 | [v0] => .kPtr v0 fun x0 => 
 .call 138 [.pointer x0] fun r1 =>
 .kBool r1 fun b2 =>
 .bool (!b2) (
 .ret (.slice none 0 0)) (
 .call 139 [.pointer x0] fun r3 =>
 .kInt .i64 r3 fun n4 =>
 .jmp 100005 [.pointer x0, .slice none 0 0, .int .i64 n4])
 | _ => .fail
noncomputable def X100_12 : List Value → M := fun args => match args with
 | [v0, v1, v2, v3, v4] => .kPtr v0 fun x0 => .kSl v1 fun a1 l2 c3 => .kInt .i64 v2 fun x4 => .kStr v3 fun x5 => .kInt .i64 v4 fun x6 => 
 .call 141 [.pointer x0] fun r7 =>
 .kBool r7 fun b8 =>
 .bool b8 (
 .onS x0 fun a9 =>
 .st 1 (⟨a9.block, a9.off + 19, none⟩ : Addr) (.bool true) (
 .fxI (bits .or .i64 x6 (1 : Int)) fun n11 =>
 .jmp 15 [.pointer x0, .slice a1 l2 c3, .int .i64 x4, .string x5, .int .i64 n11])) (
 .jmp 15 [.pointer x0, .slice a1 l2 c3, .int .i64 x4, .string x5, .int .i64 x6])
 | _ => .fail
noncomputable def X100_15 : List Value → M := fun args => match args with
 | [v0, v1, v2, v3, v4] => .kPtr v0 fun x0 => .kSl v1 fun a1 l2 c3 => .kInt .i64 v2 fun x4 => .kStr v3 fun x5 => .kInt .i64 v4 fun x6 => 
 .call 88 [.pointer x0, .int .i64 x6, .int .i64 x4, .string x5] fun r7 =>
 .kAgg r7 fun cs8 =>
 .ite (cs8.size = 16) (
 .cellsOks [.agg cs8] (.onS (Instr.fill (fun i => some (i * 16, 16)) ([.int .i64 (0 : Int), .int .i64 (0 : Int), .int .i64 (0 : Int), .int .i64 (0 : Int), .int .i64 (0 : Int), .int .i64 (0 : Int), .int .i64 (0 : Int), .int .i64 (0 : Int), .int .i64 (0 : Int), .int .i64 (0 : Int), .int .i64 (0 : Int), .bool false, .bool false, .bool false, .slice none 0 0, .string (⟨#[]⟩ : ByteArray)] : List Value).toArray (([0] : List Nat).zip [.agg cs8])) fun cells9q =>
 .fxV (.agg cells9q) fun cells9v =>
 .kAgg cells9v fun cells9 =>
 .new (.cells cells9.toList 16 true) fun b10 =>
 .firstC 16 (.slice (some ⟨b10, 0, none⟩) 1 1) fun n11 nw12 =>
 .app 62 (.slice a1 l2 c3) n11 nw12 fun v13 =>
 .kSl v13 fun a15 l16 c17 =>
 .wr .i64 ((x5.size : Int) + (bits .and .i64 x6 (1 : Int))) fun n18 =>
 .call 95 [.int .i64 x4, .int .i64 n18] fun r19 =>
 .kInt .i64 r19 fun n20 =>
 .call 142 [.pointer x0, .int .i64 n20] fun r21 =>
 .call 139 [.pointer x0] fun r22 =>
 .kInt .i64 r22 fun n23 =>
 .jmp 100005 [.pointer x0, .slice a15 l16 c17, .int .i64 n23]))
 | _ => .fail
noncomputable def X100_22 : List Value → M := fun args => match args with
 | [v0, v1] => .kPtr v0 fun x0 => .kSl v1 fun a1 l2 c3 => 
 .onS x0 fun a4 =>
 .ld a4.block (a4.off + 21) fun v5 =>
 .kPtr v5 fun p6 =>
 .call 94 [.pointer p6] fun r7 =>
 .kTup r7 fun vs8 =>
 .nthA vs8 0 fun v9 =>
 .kInt .i64 v9 fun n10 =>
 .kTup r7 fun vs11 =>
 .nthA vs11 1 fun v12 =>
 .kInt .i64 v12 fun n13 =>
 .kTup r7 fun vs14 =>
 .nthA vs14 2 fun v15 =>
 .kInt .i64 v15 fun n16 =>
 .onS x0 fun a17 =>
 .inb (0 : Int) 3 (
 .ld (((⟨a17.block, a17.off + 37, none⟩ : Addr).add ((0 : Int).toNat * 1)).block) (((⟨a17.block, a17.off + 37, none⟩ : Addr).add ((0 : Int).toNat * 1)).off) fun v18 =>
 .kInt .i64 v18 fun n19 =>
 .cmp .eql n19 (-1 : Int) fun t20 =>
 .bool t20 (
 .call 134 [.pointer x0] fun r21 =>
 .kBool r21 fun b22 =>
 .bool b22 (
 .jmp 24 [.pointer x0, .slice a1 l2 c3]) (
 .onS x0 fun a23 =>
 .ld a23.block ((a23.off + 23) + 3) fun v24 =>
 .kInt .i64 v24 fun n25 =>
 .cmp .eql n25 (0 : Int) fun t26 =>
 .bool t26 (
 .cmp .gtr n16 (0 : Int) fun t27 =>
 .bool t27 (
 .jmp 24 [.pointer x0, .slice a1 l2 c3]) (
 .jmp 25 [.slice a1 l2 c3])) (
 .jmp 25 [.slice a1 l2 c3]))) (
 .jmp 25 [.slice a1 l2 c3]))
 | _ => .fail
noncomputable def X100_24 : List Value → M := fun args => match args with
 | [v0, v1] => .kPtr v0 fun x0 => .kSl v1 fun a1 l2 c3 => 
 .onS x0 fun a4 =>
 .ld a4.block (a4.off + 32) fun v5 =>
 .kPtr v5 fun p6 =>
 .call 143 [.pointer p6] fun r7 =>
 .kInt .i64 r7 fun n8 =>
 .call 92 [.pointer x0, .int .i64 (0 : Int), .int .i64 n8] fun r9 =>
 .jmp 25 [.slice a1 l2 c3]
 | _ => .fail
noncomputable def X100_25 : List Value → M := fun args => match args with
 | [v0] => .kSl v0 fun a0 l1 c2 => 
 .ret (.slice a0 l1 c2)
 | _ => .fail
noncomputable def X100_100005 : List Value → M := fun args => match args with
 | [v0, v1, v2] => .kPtr v0 fun x0 => .kSl v1 fun a1 l2 c3 => .kInt .i64 v2 fun x4 => 
 .cmp .gtr x4 (0 : Int) fun t5 =>
 .bool t5 (
 .onS x0 fun a6 =>
 .ld a6.block (a6.off + 21) fun v7 =>
 .kPtr v7 fun p8 =>
 .onS x0 fun a9 =>
 .ld a9.block ((a9.off + 23) + 3) fun v10 =>
 .kInt .i64 v10 fun n11 =>
 .call 140 [.pointer p8, .int .i64 n11, .int .i64 x4] fun r12 =>
 .kTup r12 fun vs13 =>
 .nthA vs13 0 fun v14 =>
 .kInt .i64 v14 fun n15 =>
 .kTup r12 fun vs16 =>
 .nthA vs16 1 fun v17 =>
 .kStr v17 fun s18 =>
 .call 89 [.pointer x0] fun r19 =>
 .kTup r19 fun vs20 =>
 .nthA vs20 0 fun v21 =>
 .kInt .i64 v21 fun n22 =>
 .kTup r19 fun vs23 =>
 .nthA vs23 1 fun v24 =>
 .kInt .i64 v24 fun n25 =>
 .cmp .eql n25 (0 : Int) fun t26 =>
 .bool t26 (
 .jmp 12 [.pointer x0, .slice a1 l2 c3, .int .i64 n15, .string s18, .int .i64 (8 : Int)]) (
 .jmp 12 [.pointer x0, .slice a1 l2 c3, .int .i64 n15, .string s18, .int .i64 (0 : Int)])) (
 .call 141 [.pointer x0] fun r27 =>
 .kBool r27 fun b28 =>
 .bool b28 (
 .onS x0 fun a29 =>
 .ld a29.block (a29.off + 21) fun v30 =>
 .kPtr v30 fun p31 =>
 .call 94 [.pointer p31] fun r32 =>
 .kTup r32 fun vs33 =>
 .nthA vs33 0 fun v34 =>
 .kInt .i64 v34 fun n35 =>
 .kTup r32 fun vs36 =>
 .nthA vs36 1 fun v37 =>
 .kInt .i64 v37 fun n38 =>
 .kTup r32 fun vs39 =>
 .nthA vs39 2 fun v40 =>
 .kInt .i64 v40 fun n41 =>
 .onS x0 fun a42 =>
 .st 1 (⟨a42.block, a42.off + 19, none⟩ : Addr) (.bool true) (
 .call 88 [.pointer x0, .int .i64 (1 : Int), .int .i64 n38, .string (⟨#[]⟩ : ByteArray)] fun r44 =>
 .kAgg r44 fun cs45 =>
 .ite (cs45.size = 16) (
 .cellsOks [.agg cs45] (.onS (Instr.fill (fun i => some (i * 16, 16)) ([.int .i64 (0 : Int), .int .i64 (0 : Int), .int .i64 (0 : Int), .int .i64 (0 : Int), .int .i64 (0 : Int), .int .i64 (0 : Int), .int .i64 (0 : Int), .int .i64 (0 : Int), .int .i64 (0 : Int), .int .i64 (0 : Int), .int .i64 (0 : Int), .bool false, .bool false, .bool false, .slice none 0 0, .string (⟨#[]⟩ : ByteArray)] : List Value).toArray (([0] : List Nat).zip [.agg cs45])) fun cells46q =>
 .fxV (.agg cells46q) fun cells46v =>
 .kAgg cells46v fun cells46 =>
 .new (.cells cells46.toList 16 true) fun b47 =>
 .firstC 16 (.slice (some ⟨b47, 0, none⟩) 1 1) fun n48 nw49 =>
 .app 62 (.slice a1 l2 c3) n48 nw49 fun v50 =>
 .kSl v50 fun a52 l53 c54 =>
 .call 95 [.int .i64 n38, .int .i64 (1 : Int)] fun r55 =>
 .kInt .i64 r55 fun n56 =>
 .call 142 [.pointer x0, .int .i64 n56] fun r57 =>
 .jmp 22 [.pointer x0, .slice a52 l53 c54])))) (
 .jmp 22 [.pointer x0, .slice a1 l2 c3]))
 | _ => .fail
noncomputable def cuts100 : Cuts := [(100005, [0, 3, 4]), (15, [0, 3, 5, 6, 7]), (12, [0, 3, 5, 6, 7]), (22, [0, 3]), (25, [3]), (24, [0, 3])]
noncomputable def L100 : Places := [(12, X100_12, todoOf Tryz.f100 12), (15, X100_15, todoOf Tryz.f100 15), (22, X100_22, todoOf Tryz.f100 22), (24, X100_24, todoOf Tryz.f100 24), (25, X100_25, todoOf Tryz.f100 25), (100005, X100_100005, todoOf Tryz.f100 100005)]
noncomputable def k100 : FCode := .of X100 L100 cuts100
theorem o100_12 : OOk Tryz.prog Tryz.f100 cuts100 L100 (12, X100_12, todoOf Tryz.f100 12) := by
  intro vs Γ m H r h; replace h : (X100_12 vs).run _ _ _ _ = _ := h; unfold X100_12 at h; split at h
  · replace h := M.iPtr h; obtain ⟨_, rfl, h⟩ := h; replace h := M.iSl h; obtain ⟨_, _, _, rfl, h⟩ := h; replace h := M.iInt h; obtain ⟨_, rfl, h⟩ := h; replace h := M.iStr h; obtain ⟨_, rfl, h⟩ := h; replace h := M.iInt h; obtain ⟨_, rfl, h⟩ := h; exact Eq.trans (by kernel_rfl) h
  · exact M.iFail h
theorem o100_15 : OOk Tryz.prog Tryz.f100 cuts100 L100 (15, X100_15, todoOf Tryz.f100 15) := by
  intro vs Γ m H r h; replace h : (X100_15 vs).run _ _ _ _ = _ := h; unfold X100_15 at h; split at h
  · replace h := M.iPtr h; obtain ⟨_, rfl, h⟩ := h; replace h := M.iSl h; obtain ⟨_, _, _, rfl, h⟩ := h; replace h := M.iInt h; obtain ⟨_, rfl, h⟩ := h; replace h := M.iStr h; obtain ⟨_, rfl, h⟩ := h; replace h := M.iInt h; obtain ⟨_, rfl, h⟩ := h; exact Eq.trans (by kernel_rfl) h
  · exact M.iFail h
theorem o100_22 : OOk Tryz.prog Tryz.f100 cuts100 L100 (22, X100_22, todoOf Tryz.f100 22) := by
  intro vs Γ m H r h; replace h : (X100_22 vs).run _ _ _ _ = _ := h; unfold X100_22 at h; split at h
  · replace h := M.iPtr h; obtain ⟨_, rfl, h⟩ := h; replace h := M.iSl h; obtain ⟨_, _, _, rfl, h⟩ := h; exact Eq.trans (by kernel_rfl) h
  · exact M.iFail h
theorem o100_24 : OOk Tryz.prog Tryz.f100 cuts100 L100 (24, X100_24, todoOf Tryz.f100 24) := by
  intro vs Γ m H r h; replace h : (X100_24 vs).run _ _ _ _ = _ := h; unfold X100_24 at h; split at h
  · replace h := M.iPtr h; obtain ⟨_, rfl, h⟩ := h; replace h := M.iSl h; obtain ⟨_, _, _, rfl, h⟩ := h; exact Eq.trans (by kernel_rfl) h
  · exact M.iFail h
theorem o100_25 : OOk Tryz.prog Tryz.f100 cuts100 L100 (25, X100_25, todoOf Tryz.f100 25) := by
  intro vs Γ m H r h; replace h : (X100_25 vs).run _ _ _ _ = _ := h; unfold X100_25 at h; split at h
  · replace h := M.iSl h; obtain ⟨_, _, _, rfl, h⟩ := h; exact Eq.trans (by kernel_rfl) h
  · exact M.iFail h
theorem o100_100005 : OOk Tryz.prog Tryz.f100 cuts100 L100 (100005, X100_100005, todoOf Tryz.f100 100005) := by
  intro vs Γ m H r h; replace h : (X100_100005 vs).run _ _ _ _ = _ := h; unfold X100_100005 at h; split at h
  · replace h := M.iPtr h; obtain ⟨_, rfl, h⟩ := h; replace h := M.iSl h; obtain ⟨_, _, _, rfl, h⟩ := h; replace h := M.iInt h; obtain ⟨_, rfl, h⟩ := h; exact Eq.trans (by kernel_rfl) h
  · exact M.iFail h
theorem h100 : XOk Tryz.prog Tryz.f100 cuts100 L100 X100 := by
  intro Γ m args H r h; unfold X100 at h; split at h
  · replace h := M.iPtr h; obtain ⟨_, rfl, h⟩ := h; exact ⟨Eq.trans (by kernel_rfl) h, Nat.le_of_ble_eq_true (by kernel_rfl)⟩
  · exact M.iFail h
theorem K100 : CodeOk Tryz.prog 100 k100 := .of Tryz.func100 (by kernel_rfl) (by kernel_rfl) h100 (fc o100_12 (fc o100_15 (fc o100_22 (fc o100_24 (fc o100_25 (fc o100_100005 fe))))))
-- (*sternpost/conn.Conn).takeFirst
noncomputable def X102 : List Value → M := fun args => match args with
 | [v0, v1] => .kPtr v0 fun x0 => .kAgg v1 fun x1 => 
 .new (.cells x1.toList 0 true) fun b2 =>
 .call 45 [.pointer x0] fun r3 =>
 .kTup r3 fun vs4 =>
 .nthA vs4 0 fun v5 =>
 .kInt .i64 v5 fun n6 =>
 .kTup r3 fun vs7 =>
 .nthA vs7 1 fun v8 =>
 .kInt .i64 v8 fun n9 =>
 .kTup r3 fun vs10 =>
 .nthA vs10 2 fun v11 =>
 .kInt .i64 v11 fun n12 =>
 .kTup r3 fun vs13 =>
 .nthA vs13 3 fun v14 =>
 .kInt .i64 v14 fun n15 =>
 .ldn b2 0 16 fun cs16 =>
 .ldn b2 0 16 fun cs17 =>
 .snap b2 fun o18 =>
 .call 83 [.agg cs16, .int .i64 (16 : Int)] fun r19 =>
 .kBool r19 fun b20 =>
 .same b2 o18 (
 .call 83 [.agg cs17, .int .i64 (4 : Int)] fun r21 =>
 .kBool r21 fun b22 =>
 .jmp 3 [.pointer x0, .pointer (some (⟨b2, 0, none⟩ : Addr)), .int .i64 n9, .bool b20, .bool b22])
 | _ => .fail
noncomputable def X102_3 : List Value → M := fun args => match args with
 | [v0, v1, v2, v3, v4] => .kPtr v0 fun x0 => .kPtr v1 fun x1 => .kInt .i64 v2 fun x2 => .kBool v3 fun x3 => .kBool v4 fun x4 => 
 .bool x3 (
 .onS x1 fun a5 =>
 .ld a5.block (a5.off + 3) fun v6 =>
 .kInt .i64 v6 fun n7 =>
 .cmp .neq n7 x2 fun t8 =>
 .bool t8 (
 .bool x4 (
 .ret (.slice none 0 0)) (
 .jmp 4 [.pointer x0, .pointer x1, .int .i64 x2, .bool x3, .bool x4])) (
 .jmp 4 [.pointer x0, .pointer x1, .int .i64 x2, .bool x3, .bool x4])) (
 .jmp 4 [.pointer x0, .pointer x1, .int .i64 x2, .bool x3, .bool x4])
 | _ => .fail
noncomputable def X102_4 : List Value → M := fun args => match args with
 | [v0, v1, v2, v3, v4] => .kPtr v0 fun x0 => .kPtr v1 fun x1 => .kInt .i64 v2 fun x2 => .kBool v3 fun x3 => .kBool v4 fun x4 => 
 .bool x3 (
 .onS x1 fun a5 =>
 .ld a5.block (a5.off + 3) fun v6 =>
 .kInt .i64 v6 fun n7 =>
 .cmp .neq n7 x2 fun t8 =>
 .bool t8 (
 .onS x1 fun a9 =>
 .ld a9.block (a9.off + 3) fun v10 =>
 .kInt .i64 v10 fun n11 =>
 .call 101 [.pointer x0, .int .i64 n11] fun r12 =>
 .kAgg r12 fun cs13 =>
 .ite (cs13.size = 16) (
 .cellsOks [.agg cs13] (.onS (Instr.fill (fun i => some (i * 16, 16)) ([.int .i64 (0 : Int), .int .i64 (0 : Int), .int .i64 (0 : Int), .int .i64 (0 : Int), .int .i64 (0 : Int), .int .i64 (0 : Int), .int .i64 (0 : Int), .int .i64 (0 : Int), .int .i64 (0 : Int), .int .i64 (0 : Int), .int .i64 (0 : Int), .bool false, .bool false, .bool false, .slice none 0 0, .string (⟨#[]⟩ : ByteArray)] : List Value).toArray (([0] : List Nat).zip [.agg cs13])) fun cells14q =>
 .fxV (.agg cells14q) fun cells14v =>
 .kAgg cells14v fun cells14 =>
 .new (.cells cells14.toList 16 true) fun b15 =>
 .ret (.slice (some ⟨b15, 0, none⟩) 1 1)))) (
 .jmp 5 [.pointer x0, .pointer x1, .bool x3, .bool x4])) (
 .jmp 5 [.pointer x0, .pointer x1, .bool x3, .bool x4])
 | _ => .fail
noncomputable def X102_5 : List Value → M := fun args => match args with
 | [v0, v1, v2, v3] => .kPtr v0 fun x0 => .kPtr v1 fun x1 => .kBool v2 fun x2 => .kBool v3 fun x3 => 
 .bool x2 (
 .bool x3 (
 .call 86 [.pointer x0, .int .i64 (181 : Int)] fun r4 =>
 .jmp 11 []) (
 .jmp 6 [.pointer x0, .pointer x1, .bool x2, .bool x3])) (
 .jmp 6 [.pointer x0, .pointer x1, .bool x2, .bool x3])
 | _ => .fail
noncomputable def X102_6 : List Value → M := fun args => match args with
 | [v0, v1, v2, v3] => .kPtr v0 fun x0 => .kPtr v1 fun x1 => .kBool v2 fun x2 => .kBool v3 fun x3 => 
 .bool x3 (
 .bool x3 (
 .jmp 11 []) (
 .jmp 12 [.pointer x0, .pointer x1, .bool x2])) (
 .onS x1 fun a4 =>
 .ldn a4.block a4.off 16 fun cs5 =>
 .call 83 [.agg cs5, .int .i64 (2 : Int)] fun r6 =>
 .kBool r6 fun b7 =>
 .bool (!b7) (
 .jmp 11 []) (
 .jmp 12 [.pointer x0, .pointer x1, .bool x2]))
 | _ => .fail
noncomputable def X102_11 : List Value → M := fun args => match args with
 | [] => 
 .ret (.slice none 0 0)
 | _ => .fail
noncomputable def X102_12 : List Value → M := fun args => match args with
 | [v0, v1, v2] => .kPtr v0 fun x0 => .kPtr v1 fun x1 => .kBool v2 fun x2 => 
 .onS x1 fun a3 =>
 .ldn a3.block a3.off 16 fun cs4 =>
 .call 125 [.pointer x0, .agg cs4] fun r5 =>
 .bool (!x2) (
 .onS x0 fun a6 =>
 .st 1 (⟨a6.block, a6.off + 12, none⟩ : Addr) (.int .i64 (3 : Int)) (
 .call 119 [.pointer x0] fun r8 =>
 .kAgg r8 fun cs9 =>
 .ite (cs9.size = 16) (
 .cellsOks [.agg cs9] (.onS (Instr.fill (fun i => some (i * 16, 16)) ([.int .i64 (0 : Int), .int .i64 (0 : Int), .int .i64 (0 : Int), .int .i64 (0 : Int), .int .i64 (0 : Int), .int .i64 (0 : Int), .int .i64 (0 : Int), .int .i64 (0 : Int), .int .i64 (0 : Int), .int .i64 (0 : Int), .int .i64 (0 : Int), .bool false, .bool false, .bool false, .slice none 0 0, .string (⟨#[]⟩ : ByteArray)] : List Value).toArray (([0] : List Nat).zip [.agg cs9])) fun cells10q =>
 .fxV (.agg cells10q) fun cells10v =>
 .kAgg cells10v fun cells10 =>
 .new (.cells cells10.toList 16 true) fun b11 =>
 .ret (.slice (some ⟨b11, 0, none⟩) 1 1))))) (
 .call 104 [.pointer x0] fun r12 =>
 .onS x1 fun a13 =>
 .ld a13.block (a13.off + 3) fun v14 =>
 .kInt .i64 v14 fun n15 =>
 .call 144 [.pointer x0, .int .i64 n15] fun r16 =>
 .kBool r16 fun b17 =>
 .call 87 [.pointer x0] fun r18 =>
 .kAgg r18 fun cs19 =>
 .ite (cs19.size = 16) (
 .cellsOks [.agg cs19] (.onS (Instr.fill (fun i => some (i * 16, 16)) ([.int .i64 (0 : Int), .int .i64 (0 : Int), .int .i64 (0 : Int), .int .i64 (0 : Int), .int .i64 (0 : Int), .int .i64 (0 : Int), .int .i64 (0 : Int), .int .i64 (0 : Int), .int .i64 (0 : Int), .int .i64 (0 : Int), .int .i64 (0 : Int), .bool false, .bool false, .bool false, .slice none 0 0, .string (⟨#[]⟩ : ByteArray)] : List Value).toArray (([0] : List Nat).zip [.agg cs19])) fun cells20q =>
 .fxV (.agg cells20q) fun cells20v =>
 .kAgg cells20v fun cells20 =>
 .new (.cells cells20.toList 16 true) fun b21 =>
 .call 100 [.pointer x0] fun r22 =>
 .kSl r22 fun a23 l24 c25 =>
 .firstC 16 (.slice a23 l24 c25) fun n26 nw27 =>
 .app 62 (.slice (some ⟨b21, 0, none⟩) 1 1) n26 nw27 fun v28 =>
 .kSl v28 fun a30 l31 c32 =>
 .ret (.slice a30 l31 c32))))
 | _ => .fail
noncomputable def cuts102 : Cuts := [(11, []), (12, [0, 3, 9]), (6, [0, 3, 9, 10]), (5, [0, 3, 9, 10]), (4, [0, 3, 6, 9, 10]), (3, [0, 3, 6, 9, 10])]
noncomputable def L102 : Places := [(3, X102_3, todoOf Tryz.f102 3), (4, X102_4, todoOf Tryz.f102 4), (5, X102_5, todoOf Tryz.f102 5), (6, X102_6, todoOf Tryz.f102 6), (11, X102_11, todoOf Tryz.f102 11), (12, X102_12, todoOf Tryz.f102 12)]
noncomputable def k102 : FCode := .of X102 L102 cuts102
theorem o102_3 : OOk Tryz.prog Tryz.f102 cuts102 L102 (3, X102_3, todoOf Tryz.f102 3) := by
  intro vs Γ m H r h; replace h : (X102_3 vs).run _ _ _ _ = _ := h; unfold X102_3 at h; split at h
  · replace h := M.iPtr h; obtain ⟨_, rfl, h⟩ := h; replace h := M.iPtr h; obtain ⟨_, rfl, h⟩ := h; replace h := M.iInt h; obtain ⟨_, rfl, h⟩ := h; replace h := M.iBool h; obtain ⟨_, rfl, h⟩ := h; replace h := M.iBool h; obtain ⟨_, rfl, h⟩ := h; exact Eq.trans (by kernel_rfl) h
  · exact M.iFail h
theorem o102_4 : OOk Tryz.prog Tryz.f102 cuts102 L102 (4, X102_4, todoOf Tryz.f102 4) := by
  intro vs Γ m H r h; replace h : (X102_4 vs).run _ _ _ _ = _ := h; unfold X102_4 at h; split at h
  · replace h := M.iPtr h; obtain ⟨_, rfl, h⟩ := h; replace h := M.iPtr h; obtain ⟨_, rfl, h⟩ := h; replace h := M.iInt h; obtain ⟨_, rfl, h⟩ := h; replace h := M.iBool h; obtain ⟨_, rfl, h⟩ := h; replace h := M.iBool h; obtain ⟨_, rfl, h⟩ := h; exact Eq.trans (by kernel_rfl) h
  · exact M.iFail h
theorem o102_5 : OOk Tryz.prog Tryz.f102 cuts102 L102 (5, X102_5, todoOf Tryz.f102 5) := by
  intro vs Γ m H r h; replace h : (X102_5 vs).run _ _ _ _ = _ := h; unfold X102_5 at h; split at h
  · replace h := M.iPtr h; obtain ⟨_, rfl, h⟩ := h; replace h := M.iPtr h; obtain ⟨_, rfl, h⟩ := h; replace h := M.iBool h; obtain ⟨_, rfl, h⟩ := h; replace h := M.iBool h; obtain ⟨_, rfl, h⟩ := h; exact Eq.trans (by kernel_rfl) h
  · exact M.iFail h
theorem o102_6 : OOk Tryz.prog Tryz.f102 cuts102 L102 (6, X102_6, todoOf Tryz.f102 6) := by
  intro vs Γ m H r h; replace h : (X102_6 vs).run _ _ _ _ = _ := h; unfold X102_6 at h; split at h
  · replace h := M.iPtr h; obtain ⟨_, rfl, h⟩ := h; replace h := M.iPtr h; obtain ⟨_, rfl, h⟩ := h; replace h := M.iBool h; obtain ⟨_, rfl, h⟩ := h; replace h := M.iBool h; obtain ⟨_, rfl, h⟩ := h; exact Eq.trans (by kernel_rfl) h
  · exact M.iFail h
theorem o102_11 : OOk Tryz.prog Tryz.f102 cuts102 L102 (11, X102_11, todoOf Tryz.f102 11) := by
  intro vs Γ m H r h; replace h : (X102_11 vs).run _ _ _ _ = _ := h; unfold X102_11 at h; split at h
  · exact Eq.trans (by kernel_rfl) h
  · exact M.iFail h
theorem o102_12 : OOk Tryz.prog Tryz.f102 cuts102 L102 (12, X102_12, todoOf Tryz.f102 12) := by
  intro vs Γ m H r h; replace h : (X102_12 vs).run _ _ _ _ = _ := h; unfold X102_12 at h; split at h
  · replace h := M.iPtr h; obtain ⟨_, rfl, h⟩ := h; replace h := M.iPtr h; obtain ⟨_, rfl, h⟩ := h; replace h := M.iBool h; obtain ⟨_, rfl, h⟩ := h; exact Eq.trans (by kernel_rfl) h
  · exact M.iFail h
theorem h102 : XOk Tryz.prog Tryz.f102 cuts102 L102 X102 := by
  intro Γ m args H r h; unfold X102 at h; split at h
  · replace h := M.iPtr h; obtain ⟨_, rfl, h⟩ := h; replace h := M.iAgg h; obtain ⟨_, rfl, h⟩ := h; exact ⟨Eq.trans (by kernel_rfl) h, Nat.le_of_ble_eq_true (by kernel_rfl)⟩
  · exact M.iFail h
theorem K102 : CodeOk Tryz.prog 102 k102 := .of Tryz.func102 (by kernel_rfl) (by kernel_rfl) h102 (fc o102_3 (fc o102_4 (fc o102_5 (fc o102_6 (fc o102_11 (fc o102_12 fe))))))
-- (*sternpost/conn.Conn).refuse
noncomputable def X103 : List Value → M := fun args => match args with
 | [v0, v1] => .kPtr v0 fun x0 => .kAgg v1 fun x1 => 
 .new (.cells x1.toList 0 true) fun b2 =>
 .call 45 [.pointer x0] fun r3 =>
 .kTup r3 fun vs4 =>
 .nthA vs4 0 fun v5 =>
 .kInt .i64 v5 fun n6 =>
 .kTup r3 fun vs7 =>
 .nthA vs7 1 fun v8 =>
 .kInt .i64 v8 fun n9 =>
 .kTup r3 fun vs10 =>
 .nthA vs10 2 fun v11 =>
 .kInt .i64 v11 fun n12 =>
 .kTup r3 fun vs13 =>
 .nthA vs13 3 fun v14 =>
 .kInt .i64 v14 fun n15 =>
 .ldn b2 0 16 fun cs16 =>
 .call 83 [.agg cs16, .int .i64 (4 : Int)] fun r17 =>
 .kBool r17 fun b18 =>
 .ldn b2 0 16 fun cs19 =>
 .call 145 [.pointer x0, .agg cs19] fun r20 =>
 .kBool r20 fun b21 =>
 .bool (!b21) (
 .bool b18 (
 .ret (.tuple #[.slice none 0 0, .bool true])) (
 .jmp 5 [.pointer x0, .pointer (some (⟨b2, 0, none⟩ : Addr)), .int .i64 n9, .int .i64 n12, .bool b18])) (
 .jmp 5 [.pointer x0, .pointer (some (⟨b2, 0, none⟩ : Addr)), .int .i64 n9, .int .i64 n12, .bool b18])
 | _ => .fail
noncomputable def X103_5 : List Value → M := fun args => match args with
 | [v0, v1, v2, v3, v4] => .kPtr v0 fun x0 => .kPtr v1 fun x1 => .kInt .i64 v2 fun x2 => .kInt .i64 v3 fun x3 => .kBool v4 fun x4 => 
 .bool x4 (
 .onS x1 fun a5 =>
 .ld a5.block (a5.off + 2) fun v6 =>
 .kInt .i64 v6 fun n7 =>
 .cmp .eql n7 x3 fun t8 =>
 .bool t8 (
 .call 86 [.pointer x0, .int .i64 (181 : Int)] fun r9 =>
 .ret (.tuple #[.slice none 0 0, .bool true])) (
 .jmp 8 [.pointer x0, .pointer x1, .int .i64 x2, .bool x4])) (
 .jmp 8 [.pointer x0, .pointer x1, .int .i64 x2, .bool x4])
 | _ => .fail
noncomputable def X103_8 : List Value → M := fun args => match args with
 | [v0, v1, v2, v3] => .kPtr v0 fun x0 => .kPtr v1 fun x1 => .kInt .i64 v2 fun x2 => .kBool v3 fun x3 => 
 .onS x1 fun a4 =>
 .ldn a4.block a4.off 16 fun cs5 =>
 .call 145 [.pointer x0, .agg cs5] fun r6 =>
 .kBool r6 fun b7 =>
 .bool (!b7) (
 .bool (!b7) (
 .jmp 11 [.pointer x0]) (
 .jmp 12 [.pointer x0, .pointer x1, .int .i64 x2])) (
 .bool x3 (
 .bool x3 (
 .jmp 11 [.pointer x0]) (
 .jmp 12 [.pointer x0, .pointer x1, .int .i64 x2])) (
 .onS x1 fun a8 =>
 .ldn a8.block a8.off 16 fun cs9 =>
 .call 83 [.agg cs9, .int .i64 (2 : Int)] fun r10 =>
 .kBool r10 fun b11 =>
 .bool b11 (
 .jmp 11 [.pointer x0]) (
 .jmp 12 [.pointer x0, .pointer x1, .int .i64 x2])))
 | _ => .fail
noncomputable def X103_11 : List Value → M := fun args => match args with
 | [v0] => .kPtr v0 fun x0 => 
 .call 87 [.pointer x0] fun r1 =>
 .kAgg r1 fun cs2 =>
 .ite (cs2.size = 16) (
 .cellsOks [.agg cs2] (.onS (Instr.fill (fun i => some (i * 16, 16)) ([.int .i64 (0 : Int), .int .i64 (0 : Int), .int .i64 (0 : Int), .int .i64 (0 : Int), .int .i64 (0 : Int), .int .i64 (0 : Int), .int .i64 (0 : Int), .int .i64 (0 : Int), .int .i64 (0 : Int), .int .i64 (0 : Int), .int .i64 (0 : Int), .bool false, .bool false, .bool false, .slice none 0 0, .string (⟨#[]⟩ : ByteArray)] : List Value).toArray (([0] : List Nat).zip [.agg cs2])) fun cells3q =>
 .fxV (.agg cells3q) fun cells3v =>
 .kAgg cells3v fun cells3 =>
 .new (.cells cells3.toList 16 true) fun b4 =>
 .ret (.tuple #[.slice (some ⟨b4, 0, none⟩) 1 1, .bool true])))
 | _ => .fail
noncomputable def X103_12 : List Value → M := fun args => match args with
 | [v0, v1, v2] => .kPtr v0 fun x0 => .kPtr v1 fun x1 => .kInt .i64 v2 fun x2 => 
 .onS x1 fun a3 =>
 .ldn a3.block a3.off 16 fun cs4 =>
 .call 83 [.agg cs4, .int .i64 (16 : Int)] fun r5 =>
 .kBool r5 fun b6 =>
 .bool (!b6) (
 .ret (.tuple #[.slice none 0 0, .bool true])) (
 .onS x0 fun a7 =>
 .ld a7.block (a7.off + 12) fun v8 =>
 .kInt .i64 v8 fun n9 =>
 .cmp .eql n9 (3 : Int) fun t10 =>
 .bool t10 (
 .onS x0 fun a11 =>
 .ld a11.block (a11.off + 13) fun v12 =>
 .kInt .i64 v12 fun n13 =>
 .onS x1 fun a14 =>
 .ld a14.block (a14.off + 3) fun v15 =>
 .kInt .i64 v15 fun n16 =>
 .call 146 [.int .i64 n13, .int .i64 n16] fun r17 =>
 .kBool r17 fun b18 =>
 .bool (!b18) (
 .jmp 15 [.pointer x0, .pointer x1]) (
 .onS x1 fun a19 =>
 .ld a19.block (a19.off + 3) fun v20 =>
 .kInt .i64 v20 fun n21 =>
 .call 146 [.int .i64 x2, .int .i64 n21] fun r22 =>
 .kBool r22 fun b23 =>
 .bool b23 (
 .jmp 15 [.pointer x0, .pointer x1]) (
 .jmp 16 [.pointer x0, .pointer x1, .int .i64 x2]))) (
 .jmp 16 [.pointer x0, .pointer x1, .int .i64 x2]))
 | _ => .fail
noncomputable def X103_15 : List Value → M := fun args => match args with
 | [v0, v1] => .kPtr v0 fun x0 => .kPtr v1 fun x1 => 
 .onS x1 fun a2 =>
 .ld a2.block (a2.off + 3) fun v3 =>
 .kInt .i64 v3 fun n4 =>
 .call 101 [.pointer x0, .int .i64 n4] fun r5 =>
 .kAgg r5 fun cs6 =>
 .ite (cs6.size = 16) (
 .cellsOks [.agg cs6] (.onS (Instr.fill (fun i => some (i * 16, 16)) ([.int .i64 (0 : Int), .int .i64 (0 : Int), .int .i64 (0 : Int), .int .i64 (0 : Int), .int .i64 (0 : Int), .int .i64 (0 : Int), .int .i64 (0 : Int), .int .i64 (0 : Int), .int .i64 (0 : Int), .int .i64 (0 : Int), .int .i64 (0 : Int), .bool false, .bool false, .bool false, .slice none 0 0, .string (⟨#[]⟩ : ByteArray)] : List Value).toArray (([0] : List Nat).zip [.agg cs6])) fun cells7q =>
 .fxV (.agg cells7q) fun cells7v =>
 .kAgg cells7v fun cells7 =>
 .new (.cells cells7.toList 16 true) fun b8 =>
 .ret (.tuple #[.slice (some ⟨b8, 0, none⟩) 1 1, .bool true])))
 | _ => .fail
noncomputable def X103_16 : List Value → M := fun args => match args with
 | [v0, v1, v2] => .kPtr v0 fun x0 => .kPtr v1 fun x1 => .kInt .i64 v2 fun x2 => 
 .onS x1 fun a3 =>
 .ld a3.block (a3.off + 3) fun v4 =>
 .kInt .i64 v4 fun n5 =>
 .call 146 [.int .i64 x2, .int .i64 n5] fun r6 =>
 .kBool r6 fun b7 =>
 .bool b7 (
 .call 87 [.pointer x0] fun r8 =>
 .kAgg r8 fun cs9 =>
 .ite (cs9.size = 16) (
 .cellsOks [.agg cs9] (.onS (Instr.fill (fun i => some (i * 16, 16)) ([.int .i64 (0 : Int), .int .i64 (0 : Int), .int .i64 (0 : Int), .int .i64 (0 : Int), .int .i64 (0 : Int), .int .i64 (0 : Int), .int .i64 (0 : Int), .int .i64 (0 : Int), .int .i64 (0 : Int), .int .i64 (0 : Int), .int .i64 (0 : Int), .bool false, .bool false, .bool false, .slice none 0 0, .string (⟨#[]⟩ : ByteArray)] : List Value).toArray (([0] : List Nat).zip [.agg cs9])) fun cells10q =>
 .fxV (.agg cells10q) fun cells10v =>
 .kAgg cells10v fun cells10 =>
 .new (.cells cells10.toList 16 true) fun b11 =>
 .ret (.tuple #[.slice (some ⟨b11, 0, none⟩) 1 1, .bool true])))) (
 .ret (.tuple #[.slice none 0 0, .bool false]))
 | _ => .fail
noncomputable def cuts103 : Cuts := [(15, [0, 3]), (16, [0, 3, 7]), (11, [0]), (12, [0, 3, 7]), (8, [0, 3, 7, 10]), (5, [0, 3, 7, 8, 10])]
noncomputable def L103 : Places := [(5, X103_5, todoOf Tryz.f103 5), (8, X103_8, todoOf Tryz.f103 8), (11, X103_11, todoOf Tryz.f103 11), (12, X103_12, todoOf Tryz.f103 12), (15, X103_15, todoOf Tryz.f103 15), (16, X103_16, todoOf Tryz.f103 16)]
noncomputable def k103 : FCode := .of X103 L103 cuts103
theorem o103_5 : OOk Tryz.prog Tryz.f103 cuts103 L103 (5, X103_5, todoOf Tryz.f103 5) := by
  intro vs Γ m H r h; replace h : (X103_5 vs).run _ _ _ _ = _ := h; unfold X103_5 at h; split at h
  · replace h := M.iPtr h; obtain ⟨_, rfl, h⟩ := h; replace h := M.iPtr h; obtain ⟨_, rfl, h⟩ := h; replace h := M.iInt h; obtain ⟨_, rfl, h⟩ := h; replace h := M.iInt h; obtain ⟨_, rfl, h⟩ := h; replace h := M.iBool h; obtain ⟨_, rfl, h⟩ := h; exact Eq.trans (by kernel_rfl) h
  · exact M.iFail h
theorem o103_8 : OOk Tryz.prog Tryz.f103 cuts103 L103 (8, X103_8, todoOf Tryz.f103 8) := by
  intro vs Γ m H r h; replace h : (X103_8 vs).run _ _ _ _ = _ := h; unfold X103_8 at h; split at h
  · replace h := M.iPtr h; obtain ⟨_, rfl, h⟩ := h; replace h := M.iPtr h; obtain ⟨_, rfl, h⟩ := h; replace h := M.iInt h; obtain ⟨_, rfl, h⟩ := h; replace h := M.iBool h; obtain ⟨_, rfl, h⟩ := h; exact Eq.trans (by kernel_rfl) h
  · exact M.iFail h
theorem o103_11 : OOk Tryz.prog Tryz.f103 cuts103 L103 (11, X103_11, todoOf Tryz.f103 11) := by
  intro vs Γ m H r h; replace h : (X103_11 vs).run _ _ _ _ = _ := h; unfold X103_11 at h; split at h
  · replace h := M.iPtr h; obtain ⟨_, rfl, h⟩ := h; exact Eq.trans (by kernel_rfl) h
  · exact M.iFail h
theorem o103_12 : OOk Tryz.prog Tryz.f103 cuts103 L103 (12, X103_12, todoOf Tryz.f103 12) := by
  intro vs Γ m H r h; replace h : (X103_12 vs).run _ _ _ _ = _ := h; unfold X103_12 at h; split at h
  · replace h := M.iPtr h; obtain ⟨_, rfl, h⟩ := h; replace h := M.iPtr h; obtain ⟨_, rfl, h⟩ := h; replace h := M.iInt h; obtain ⟨_, rfl, h⟩ := h; exact Eq.trans (by kernel_rfl) h
  · exact M.iFail h
theorem o103_15 : OOk Tryz.prog Tryz.f103 cuts103 L103 (15, X103_15, todoOf Tryz.f103 15) := by
  intro vs Γ m H r h; replace h : (X103_15 vs).run _ _ _ _ = _ := h; unfold X103_15 at h; split at h
  · replace h := M.iPtr h; obtain ⟨_, rfl, h⟩ := h; replace h := M.iPtr h; obtain ⟨_, rfl, h⟩ := h; exact Eq.trans (by kernel_rfl) h
  · exact M.iFail h
theorem o103_16 : OOk Tryz.prog Tryz.f103 cuts103 L103 (16, X103_16, todoOf Tryz.f103 16) := by
  intro vs Γ m H r h; replace h : (X103_16 vs).run _ _ _ _ = _ := h; unfold X103_16 at h; split at h
  · replace h := M.iPtr h; obtain ⟨_, rfl, h⟩ := h; replace h := M.iPtr h; obtain ⟨_, rfl, h⟩ := h; replace h := M.iInt h; obtain ⟨_, rfl, h⟩ := h; exact Eq.trans (by kernel_rfl) h
  · exact M.iFail h
theorem h103 : XOk Tryz.prog Tryz.f103 cuts103 L103 X103 := by
  intro Γ m args H r h; unfold X103 at h; split at h
  · replace h := M.iPtr h; obtain ⟨_, rfl, h⟩ := h; replace h := M.iAgg h; obtain ⟨_, rfl, h⟩ := h; exact ⟨Eq.trans (by kernel_rfl) h, Nat.le_of_ble_eq_true (by kernel_rfl)⟩
  · exact M.iFail h
theorem K103 : CodeOk Tryz.prog 103 k103 := .of Tryz.func103 (by kernel_rfl) (by kernel_rfl) h103 (fc o103_5 (fc o103_8 (fc o103_11 (fc o103_12 (fc o103_15 (fc o103_16 fe))))))
-- (*sternpost/conn.Conn).up
noncomputable def X104 : List Value → M := fun args => match args with
 | [v0] => .kPtr v0 fun x0 => 
 .onS x0 fun a1 =>
 .st 1 (⟨a1.block, a1.off + 12, none⟩ : Addr) (.int .i64 (4 : Int)) (
 .onS x0 fun a3 =>
 .ld a3.block (a3.off + 18) fun v4 =>
 .kBool v4 fun b5 =>
 .bool b5 (
 .onS x0 fun a6 =>
 .st 1 (⟨a6.block, a6.off + 12, none⟩ : Addr) (.int .i64 (5 : Int)) (
 .ret (.tuple #[]))) (
 .ret (.tuple #[])))
 | _ => .fail
noncomputable def cuts104 : Cuts := []
noncomputable def L104 : Places := []
noncomputable def k104 : FCode := .of X104 L104 cuts104
theorem h104 : XOk Tryz.prog Tryz.f104 cuts104 L104 X104 := by
  intro Γ m args H r h; unfold X104 at h; split at h
  · replace h := M.iPtr h; obtain ⟨_, rfl, h⟩ := h; exact ⟨Eq.trans (by kernel_rfl) h, Nat.le_of_ble_eq_true (by kernel_rfl)⟩
  · exact M.iFail h
theorem K104 : CodeOk Tryz.prog 104 k104 := .of Tryz.func104 (by kernel_rfl) (by kernel_rfl) h104 fe
-- (*sternpost/conn.Conn).acks
noncomputable def X105 : List Value → M := fun args => match args with
 | [v0, v1] => .kPtr v0 fun x0 => .kAgg v1 fun x1 => 
 .new (.cells x1.toList 0 true) fun b2 =>
 .ldn b2 0 16 fun cs3 =>
 .call 147 [.pointer x0, .agg cs3] fun r4 =>
 .kBool r4 fun b5 =>
 .onS x0 fun a6 =>
 .ld a6.block ((a6.off + 23) + 1) fun v7 =>
 .kBool v7 fun b8 =>
 .bool b8 (
 .onS x0 fun a9 =>
 .ld a9.block (a9.off + 21) fun v10 =>
 .kPtr v10 fun p11 =>
 .ld b2 ((0 + 7) + 7) fun v12 =>
 .kSl v12 fun a13 l14 c15 =>
 .call 148 [.pointer p11, .slice a13 l14 c15] fun r16 =>
 .kInt .i64 r16 fun n17 =>
 .jmp 4 [.pointer x0, .pointer (some (⟨b2, 0, none⟩ : Addr)), .bool b5]) (
 .jmp 4 [.pointer x0, .pointer (some (⟨b2, 0, none⟩ : Addr)), .bool b5])
 | _ => .fail
noncomputable def X105_4 : List Value → M := fun args => match args with
 | [v0, v1, v2] => .kPtr v0 fun x0 => .kPtr v1 fun x1 => .kBool v2 fun x2 => 
 .onS x1 fun a3 =>
 .ld a3.block (a3.off + 2) fun v4 =>
 .kInt .i64 v4 fun n5 =>
 .onS x0 fun a6 =>
 .ld a6.block ((a6.off + 23) + 4) fun v7 =>
 .kInt .i64 v7 fun n8 =>
 .call 146 [.int .i64 n5, .int .i64 n8] fun r9 =>
 .kBool r9 fun b10 =>
 .bool b10 (
 .jmp 5 [.pointer x0, .pointer x1, .bool x2, .bool true]) (
 .onS x1 fun a11 =>
 .ld a11.block (a11.off + 2) fun v12 =>
 .kInt .i64 v12 fun n13 =>
 .onS x0 fun a14 =>
 .ld a14.block ((a14.off + 23) + 4) fun v15 =>
 .kInt .i64 v15 fun n16 =>
 .cmp .eql n13 n16 fun t17 =>
 .bool t17 (
 .onS x1 fun a18 =>
 .ld a18.block (a18.off + 3) fun v19 =>
 .kInt .i64 v19 fun n20 =>
 .onS x0 fun a21 =>
 .ld a21.block ((a21.off + 23) + 5) fun v22 =>
 .kInt .i64 v22 fun n23 =>
 .call 146 [.int .i64 n20, .int .i64 n23] fun r24 =>
 .kBool r24 fun b25 =>
 .jmp 5 [.pointer x0, .pointer x1, .bool x2, .bool b25]) (
 .jmp 5 [.pointer x0, .pointer x1, .bool x2, .bool false]))
 | _ => .fail
noncomputable def X105_5 : List Value → M := fun args => match args with
 | [v0, v1, v2, v3] => .kPtr v0 fun x0 => .kPtr v1 fun x1 => .kBool v2 fun x2 => .kBool v3 fun x3 => 
 .bool (!x3) (
 .onS x1 fun a4 =>
 .ld a4.block (a4.off + 5) fun v5 =>
 .kInt .i64 v5 fun n6 =>
 .onS x1 fun a7 =>
 .ld a7.block (a7.off + 2) fun v8 =>
 .kInt .i64 v8 fun n9 =>
 .onS x1 fun a10 =>
 .ld a10.block (a10.off + 3) fun v11 =>
 .kInt .i64 v11 fun n12 =>
 .onS x0 fun a13 =>
 .snap a10.block fun o14 =>
 .snap a7.block fun o15 =>
 .st 1 (⟨a13.block, (a13.off + 23) + 3, none⟩ : Addr) (.int .i64 n6) (
 .same a10.block o14 (
 .same a7.block o15 (
 .onS x0 fun a17 =>
 .snap a10.block fun o18 =>
 .st 1 (⟨a17.block, (a17.off + 23) + 4, none⟩ : Addr) (.int .i64 n9) (
 .same a10.block o18 (
 .onS x0 fun a20 =>
 .st 1 (⟨a20.block, (a20.off + 23) + 5, none⟩ : Addr) (.int .i64 n12) (
 .jmp 7 [.pointer x0, .bool x2]))))))) (
 .jmp 7 [.pointer x0, .bool x2])
 | _ => .fail
noncomputable def X105_7 : List Value → M := fun args => match args with
 | [v0, v1] => .kPtr v0 fun x0 => .kBool v1 fun x1 => 
 .onS x0 fun a2 =>
 .ld a2.block ((a2.off + 23) + 3) fun v3 =>
 .kInt .i64 v3 fun n4 =>
 .cmp .eql n4 (0 : Int) fun t5 =>
 .bool t5 (
 .onS x0 fun a6 =>
 .st 1 (⟨a6.block, a6.off + 15, none⟩ : Addr) (.int .i64 (0 : Int)) (
 .jmp 9 [.pointer x0, .bool x1])) (
 .jmp 9 [.pointer x0, .bool x1])
 | _ => .fail
noncomputable def X105_9 : List Value → M := fun args => match args with
 | [v0, v1] => .kPtr v0 fun x0 => .kBool v1 fun x1 => 
 .onS x0 fun a2 =>
 .ld a2.block (a2.off + 20) fun v3 =>
 .kBool v3 fun b4 =>
 .bool b4 (
 .call 149 [.pointer x0] fun r5 =>
 .ret (.bool false)) (
 .bool x1 (
 .call 134 [.pointer x0] fun r6 =>
 .kBool r6 fun b7 =>
 .ret (.bool b7)) (
 .ret (.bool false)))
 | _ => .fail
noncomputable def cuts105 : Cuts := [(9, [0, 5]), (7, [0, 5]), (4, [0, 3, 5]), (5, [0, 3, 5, 6])]
noncomputable def L105 : Places := [(4, X105_4, todoOf Tryz.f105 4), (5, X105_5, todoOf Tryz.f105 5), (7, X105_7, todoOf Tryz.f105 7), (9, X105_9, todoOf Tryz.f105 9)]
noncomputable def k105 : FCode := .of X105 L105 cuts105
theorem o105_4 : OOk Tryz.prog Tryz.f105 cuts105 L105 (4, X105_4, todoOf Tryz.f105 4) := by
  intro vs Γ m H r h; replace h : (X105_4 vs).run _ _ _ _ = _ := h; unfold X105_4 at h; split at h
  · replace h := M.iPtr h; obtain ⟨_, rfl, h⟩ := h; replace h := M.iPtr h; obtain ⟨_, rfl, h⟩ := h; replace h := M.iBool h; obtain ⟨_, rfl, h⟩ := h; exact Eq.trans (by kernel_rfl) h
  · exact M.iFail h
theorem o105_5 : OOk Tryz.prog Tryz.f105 cuts105 L105 (5, X105_5, todoOf Tryz.f105 5) := by
  intro vs Γ m H r h; replace h : (X105_5 vs).run _ _ _ _ = _ := h; unfold X105_5 at h; split at h
  · replace h := M.iPtr h; obtain ⟨_, rfl, h⟩ := h; replace h := M.iPtr h; obtain ⟨_, rfl, h⟩ := h; replace h := M.iBool h; obtain ⟨_, rfl, h⟩ := h; replace h := M.iBool h; obtain ⟨_, rfl, h⟩ := h; exact Eq.trans (by kernel_rfl) h
  · exact M.iFail h
theorem o105_7 : OOk Tryz.prog Tryz.f105 cuts105 L105 (7, X105_7, todoOf Tryz.f105 7) := by
  intro vs Γ m H r h; replace h : (X105_7 vs).run _ _ _ _ = _ := h; unfold X105_7 at h; split at h
  · replace h := M.iPtr h; obtain ⟨_, rfl, h⟩ := h; replace h := M.iBool h; obtain ⟨_, rfl, h⟩ := h; exact Eq.trans (by kernel_rfl) h
  · exact M.iFail h
theorem o105_9 : OOk Tryz.prog Tryz.f105 cuts105 L105 (9, X105_9, todoOf Tryz.f105 9) := by
  intro vs Γ m H r h; replace h : (X105_9 vs).run _ _ _ _ = _ := h; unfold X105_9 at h; split at h
  · replace h := M.iPtr h; obtain ⟨_, rfl, h⟩ := h; replace h := M.iBool h; obtain ⟨_, rfl, h⟩ := h; exact Eq.trans (by kernel_rfl) h
  · exact M.iFail h
theorem h105 : XOk Tryz.prog Tryz.f105 cuts105 L105 X105 := by
  intro Γ m args H r h; unfold X105 at h; split at h
  · replace h := M.iPtr h; obtain ⟨_, rfl, h⟩ := h; replace h := M.iAgg h; obtain ⟨_, rfl, h⟩ := h; exact ⟨Eq.trans (by kernel_rfl) h, Nat.le_of_ble_eq_true (by kernel_rfl)⟩
  · exact M.iFail h
theorem K105 : CodeOk Tryz.prog 105 k105 := .of Tryz.func105 (by kernel_rfl) (by kernel_rfl) h105 (fc o105_4 (fc o105_5 (fc o105_7 (fc o105_9 fe))))
-- (*sternpost/conn.Conn).text
noncomputable def X106 : List Value → M := fun args => match args with
 | [v0, v1, v2] => .kPtr v0 fun x0 => .kAgg v1 fun x1 => .kBool v2 fun x2 => 
 .new (.cells x1.toList 0 true) fun b3 =>
 .onS x0 fun a4 =>
 .ld a4.block (a4.off + 22) fun v5 =>
 .kPtr v5 fun p6 =>
 .call 129 [.pointer p6, .int .i64 (1 : Int)] fun r7 =>
 .kSl r7 fun a8 l9 c10 =>
 .cmp .gtr ((l9 : Nat) : Int) (0 : Int) fun t11 =>
 .onS x0 fun a12 =>
 .ld a12.block (a12.off + 12) fun v13 =>
 .kInt .i64 v13 fun n14 =>
 .cmp .eql n14 (4 : Int) fun t15 =>
 .bool t15 (
 .bool t15 (
 .jmp 6 [.pointer x0, .bool x2, .pointer (some (⟨b3, 0, none⟩ : Addr)), .bool t11]) (
 .jmp 8 [.pointer x0, .bool x2, .pointer (some (⟨b3, 0, none⟩ : Addr)), .bool t11, .bool false])) (
 .cmp .eql n14 (5 : Int) fun t16 =>
 .bool t16 (
 .bool t16 (
 .jmp 6 [.pointer x0, .bool x2, .pointer (some (⟨b3, 0, none⟩ : Addr)), .bool t11]) (
 .jmp 8 [.pointer x0, .bool x2, .pointer (some (⟨b3, 0, none⟩ : Addr)), .bool t11, .bool false])) (
 .cmp .eql n14 (6 : Int) fun t17 =>
 .bool t17 (
 .jmp 6 [.pointer x0, .bool x2, .pointer (some (⟨b3, 0, none⟩ : Addr)), .bool t11]) (
 .jmp 8 [.pointer x0, .bool x2, .pointer (some (⟨b3, 0, none⟩ : Addr)), .bool t11, .bool false])))
 | _ => .fail
noncomputable def X106_6 : List Value → M := fun args => match args with
 | [v0, v1, v2, v3] => .kPtr v0 fun x0 => .kBool v1 fun x1 => .kPtr v2 fun x2 => .kBool v3 fun x3 => 
 .onS x0 fun a4 =>
 .ld a4.block (a4.off + 22) fun v5 =>
 .kPtr v5 fun p6 =>
 .onS x2 fun a7 =>
 .ld a7.block (a7.off + 2) fun v8 =>
 .kInt .i64 v8 fun n9 =>
 .onS x2 fun a10 =>
 .ld a10.block (a10.off + 15) fun v11 =>
 .kStr v11 fun s12 =>
 .call 150 [.pointer p6, .int .i64 n9, .string s12] fun r13 =>
 .onS x2 fun a14 =>
 .ldn a14.block a14.off 16 fun cs15 =>
 .call 151 [.pointer x0, .agg cs15] fun r16 =>
 .kBool r16 fun b17 =>
 .jmp 8 [.pointer x0, .bool x1, .pointer x2, .bool x3, .bool b17]
 | _ => .fail
noncomputable def X106_8 : List Value → M := fun args => match args with
 | [v0, v1, v2, v3, v4] => .kPtr v0 fun x0 => .kBool v1 fun x1 => .kPtr v2 fun x2 => .kBool v3 fun x3 => .kBool v4 fun x4 => 
 .onS x2 fun a5 =>
 .ldn a5.block a5.off 16 fun cs6 =>
 .call 122 [.agg cs6] fun r7 =>
 .kInt .i64 r7 fun n8 =>
 .cmp .gtr n8 (0 : Int) fun t9 =>
 .bool t9 (
 .onS x0 fun a10 =>
 .ld a10.block (a10.off + 12) fun v11 =>
 .kInt .i64 v11 fun n12 =>
 .cmp .eql n12 (10 : Int) fun t13 =>
 .bool t13 (
 .onS x0 fun a14 =>
 .ld a14.block (a14.off + 7) fun v15 =>
 .kInt .i64 v15 fun n16 =>
 .call 92 [.pointer x0, .int .i64 (2 : Int), .int .i64 n16] fun r17 =>
 .jmp 12 [.pointer x0, .bool x1, .pointer x2, .bool x3, .bool x4]) (
 .jmp 12 [.pointer x0, .bool x1, .pointer x2, .bool x3, .bool x4])) (
 .jmp 15 [.pointer x0, .bool x1, .bool false])
 | _ => .fail
noncomputable def X106_12 : List Value → M := fun args => match args with
 | [v0, v1, v2, v3, v4] => .kPtr v0 fun x0 => .kBool v1 fun x1 => .kPtr v2 fun x2 => .kBool v3 fun x3 => .kBool v4 fun x4 => 
 .bool x4 (
 .jmp 13 [.pointer x0, .bool x1, .bool true]) (
 .onS x2 fun a5 =>
 .ldn a5.block a5.off 16 fun cs6 =>
 .call 83 [.agg cs6, .int .i64 (1 : Int)] fun r7 =>
 .kBool r7 fun b8 =>
 .bool b8 (
 .jmp 13 [.pointer x0, .bool x1, .bool true]) (
 .bool x3 (
 .jmp 13 [.pointer x0, .bool x1, .bool true]) (
 .onS x0 fun a9 =>
 .ld a9.block (a9.off + 22) fun v10 =>
 .kPtr v10 fun p11 =>
 .call 129 [.pointer p11, .int .i64 (1 : Int)] fun r12 =>
 .kSl r12 fun a13 l14 c15 =>
 .cmp .gtr ((l14 : Nat) : Int) (0 : Int) fun t16 =>
 .bool t16 (
 .jmp 13 [.pointer x0, .bool x1, .bool true]) (
 .onS x0 fun a17 =>
 .inb (1 : Int) 3 (
 .ld (((⟨a17.block, a17.off + 37, none⟩ : Addr).add ((1 : Int).toNat * 1)).block) (((⟨a17.block, a17.off + 37, none⟩ : Addr).add ((1 : Int).toNat * 1)).off) fun v18 =>
 .kInt .i64 v18 fun n19 =>
 .cmp .neq n19 (-1 : Int) fun t20 =>
 .bool t20 (
 .jmp 13 [.pointer x0, .bool x1, .bool true]) (
 .onS x0 fun a21 =>
 .ld a21.block (a21.off + 2) fun v22 =>
 .kInt .i64 v22 fun n23 =>
 .cmp .eql n23 (0 : Int) fun t24 =>
 .jmp 13 [.pointer x0, .bool x1, .bool t24]))))))
 | _ => .fail
noncomputable def X106_13 : List Value → M := fun args => match args with
 | [v0, v1, v2] => .kPtr v0 fun x0 => .kBool v1 fun x1 => .kBool v2 fun x2 => 
 .bool (!x2) (
 .onS x0 fun a3 =>
 .ld a3.block (a3.off + 2) fun v4 =>
 .kInt .i64 v4 fun n5 =>
 .call 92 [.pointer x0, .int .i64 (1 : Int), .int .i64 n5] fun r6 =>
 .jmp 15 [.pointer x0, .bool x1, .bool x2]) (
 .jmp 15 [.pointer x0, .bool x1, .bool x2])
 | _ => .fail
noncomputable def X106_15 : List Value → M := fun args => match args with
 | [v0, v1, v2] => .kPtr v0 fun x0 => .kBool v1 fun x1 => .kBool v2 fun x2 => 
 .bool x1 (
 .onS x0 fun a3 =>
 .st 1 (⟨a3.block, a3.off + 34, none⟩ : Addr) (.bool false) (
 .call 91 [.pointer x0] fun r5 =>
 .kSl r5 fun a6 l7 c8 =>
 .jmp 19 [.pointer x0, .bool x2, .slice a6 l7 c8])) (
 .jmp 19 [.pointer x0, .bool x2, .slice none 0 0])
 | _ => .fail
noncomputable def X106_19 : List Value → M := fun args => match args with
 | [v0, v1, v2] => .kPtr v0 fun x0 => .kBool v1 fun x1 => .kSl v2 fun a2 l3 c4 => 
 .call 100 [.pointer x0] fun r5 =>
 .kSl r5 fun a6 l7 c8 =>
 .firstC 16 (.slice a6 l7 c8) fun n9 nw10 =>
 .app 62 (.slice a2 l3 c4) n9 nw10 fun v11 =>
 .kSl v11 fun a13 l14 c15 =>
 .bool x1 (
 .cmp .eql ((l14 : Nat) : Int) (0 : Int) fun t16 =>
 .bool t16 (
 .call 87 [.pointer x0] fun r17 =>
 .kAgg r17 fun cs18 =>
 .ite (cs18.size = 16) (
 .cellsOks [.agg cs18] (.onS (Instr.fill (fun i => some (i * 16, 16)) ([.int .i64 (0 : Int), .int .i64 (0 : Int), .int .i64 (0 : Int), .int .i64 (0 : Int), .int .i64 (0 : Int), .int .i64 (0 : Int), .int .i64 (0 : Int), .int .i64 (0 : Int), .int .i64 (0 : Int), .int .i64 (0 : Int), .int .i64 (0 : Int), .bool false, .bool false, .bool false, .slice none 0 0, .string (⟨#[]⟩ : ByteArray)] : List Value).toArray (([0] : List Nat).zip [.agg cs18])) fun cells19q =>
 .fxV (.agg cells19q) fun cells19v =>
 .kAgg cells19v fun cells19 =>
 .new (.cells cells19.toList 16 true) fun b20 =>
 .firstC 16 (.slice (some ⟨b20, 0, none⟩) 1 1) fun n21 nw22 =>
 .app 62 (.slice a13 l14 c15) n21 nw22 fun v23 =>
 .kSl v23 fun a25 l26 c27 =>
 .jmp 22 [.slice a25 l26 c27]))) (
 .jmp 22 [.slice a13 l14 c15])) (
 .jmp 22 [.slice a13 l14 c15])
 | _ => .fail
noncomputable def X106_22 : List Value → M := fun args => match args with
 | [v0] => .kSl v0 fun a0 l1 c2 => 
 .ret (.slice a0 l1 c2)
 | _ => .fail
noncomputable def cuts106 : Cuts := [(22, [10]), (15, [0, 2, 9]), (19, [0, 9, 10]), (12, [0, 2, 4, 7, 8]), (13, [0, 2, 9]), (8, [0, 2, 4, 7, 8]), (6, [0, 2, 4, 7])]
noncomputable def L106 : Places := [(6, X106_6, todoOf Tryz.f106 6), (8, X106_8, todoOf Tryz.f106 8), (12, X106_12, todoOf Tryz.f106 12), (13, X106_13, todoOf Tryz.f106 13), (15, X106_15, todoOf Tryz.f106 15), (19, X106_19, todoOf Tryz.f106 19), (22, X106_22, todoOf Tryz.f106 22)]
noncomputable def k106 : FCode := .of X106 L106 cuts106
theorem o106_6 : OOk Tryz.prog Tryz.f106 cuts106 L106 (6, X106_6, todoOf Tryz.f106 6) := by
  intro vs Γ m H r h; replace h : (X106_6 vs).run _ _ _ _ = _ := h; unfold X106_6 at h; split at h
  · replace h := M.iPtr h; obtain ⟨_, rfl, h⟩ := h; replace h := M.iBool h; obtain ⟨_, rfl, h⟩ := h; replace h := M.iPtr h; obtain ⟨_, rfl, h⟩ := h; replace h := M.iBool h; obtain ⟨_, rfl, h⟩ := h; exact Eq.trans (by kernel_rfl) h
  · exact M.iFail h
theorem o106_8 : OOk Tryz.prog Tryz.f106 cuts106 L106 (8, X106_8, todoOf Tryz.f106 8) := by
  intro vs Γ m H r h; replace h : (X106_8 vs).run _ _ _ _ = _ := h; unfold X106_8 at h; split at h
  · replace h := M.iPtr h; obtain ⟨_, rfl, h⟩ := h; replace h := M.iBool h; obtain ⟨_, rfl, h⟩ := h; replace h := M.iPtr h; obtain ⟨_, rfl, h⟩ := h; replace h := M.iBool h; obtain ⟨_, rfl, h⟩ := h; replace h := M.iBool h; obtain ⟨_, rfl, h⟩ := h; exact Eq.trans (by kernel_rfl) h
  · exact M.iFail h
theorem o106_12 : OOk Tryz.prog Tryz.f106 cuts106 L106 (12, X106_12, todoOf Tryz.f106 12) := by
  intro vs Γ m H r h; replace h : (X106_12 vs).run _ _ _ _ = _ := h; unfold X106_12 at h; split at h
  · replace h := M.iPtr h; obtain ⟨_, rfl, h⟩ := h; replace h := M.iBool h; obtain ⟨_, rfl, h⟩ := h; replace h := M.iPtr h; obtain ⟨_, rfl, h⟩ := h; replace h := M.iBool h; obtain ⟨_, rfl, h⟩ := h; replace h := M.iBool h; obtain ⟨_, rfl, h⟩ := h; exact Eq.trans (by kernel_rfl) h
  · exact M.iFail h
theorem o106_13 : OOk Tryz.prog Tryz.f106 cuts106 L106 (13, X106_13, todoOf Tryz.f106 13) := by
  intro vs Γ m H r h; replace h : (X106_13 vs).run _ _ _ _ = _ := h; unfold X106_13 at h; split at h
  · replace h := M.iPtr h; obtain ⟨_, rfl, h⟩ := h; replace h := M.iBool h; obtain ⟨_, rfl, h⟩ := h; replace h := M.iBool h; obtain ⟨_, rfl, h⟩ := h; exact Eq.trans (by kernel_rfl) h
  · exact M.iFail h
theorem o106_15 : OOk Tryz.prog Tryz.f106 cuts106 L106 (15, X106_15, todoOf Tryz.f106 15) := by
  intro vs Γ m H r h; replace h : (X106_15 vs).run _ _ _ _ = _ := h; unfold X106_15 at h; split at h
  · replace h := M.iPtr h; obtain ⟨_, rfl, h⟩ := h; replace h := M.iBool h; obtain ⟨_, rfl, h⟩ := h; replace h := M.iBool h; obtain ⟨_, rfl, h⟩ := h; exact Eq.trans (by kernel_rfl) h
  · exact M.iFail h
theorem o106_19 : OOk Tryz.prog Tryz.f106 cuts106 L106 (19, X106_19, todoOf Tryz.f106 19) := by
  intro vs Γ m H r h; replace h : (X106_19 vs).run _ _ _ _ = _ := h; unfold X106_19 at h; split at h
  · replace h := M.iPtr h; obtain ⟨_, rfl, h⟩ := h; replace h := M.iBool h; obtain ⟨_, rfl, h⟩ := h; replace h := M.iSl h; obtain ⟨_, _, _, rfl, h⟩ := h; exact Eq.trans (by kernel_rfl) h
  · exact M.iFail h
theorem o106_22 : OOk Tryz.prog Tryz.f106 cuts106 L106 (22, X106_22, todoOf Tryz.f106 22) := by
  intro vs Γ m H r h; replace h : (X106_22 vs).run _ _ _ _ = _ := h; unfold X106_22 at h; split at h
  · replace h := M.iSl h; obtain ⟨_, _, _, rfl, h⟩ := h; exact Eq.trans (by kernel_rfl) h
  · exact M.iFail h
theorem h106 : XOk Tryz.prog Tryz.f106 cuts106 L106 X106 := by
  intro Γ m args H r h; unfold X106 at h; split at h
  · replace h := M.iPtr h; obtain ⟨_, rfl, h⟩ := h; replace h := M.iAgg h; obtain ⟨_, rfl, h⟩ := h; replace h := M.iBool h; obtain ⟨_, rfl, h⟩ := h; exact ⟨Eq.trans (by kernel_rfl) h, Nat.le_of_ble_eq_true (by kernel_rfl)⟩
  · exact M.iFail h
theorem K106 : CodeOk Tryz.prog 106 k106 := .of Tryz.func106 (by kernel_rfl) (by kernel_rfl) h106 (fc o106_6 (fc o106_8 (fc o106_12 (fc o106_13 (fc o106_15 (fc o106_19 (fc o106_22 fe)))))))
-- sternpost/rto.New
noncomputable def X108 : List Value → M := fun args => match args with
 | [v0, v1, v2] => .kInt .i64 v0 fun x0 => .kInt .i64 v1 fun x1 => .kInt .i64 v2 fun x2 => 
 .cmp .lss x1 (1 : Int) fun t3 =>
 .bool t3 (
 .jmp 2 []) (
 .cmp .gtr x2 (1048576 : Int) fun t4 =>
 .bool t4 (
 .jmp 2 []) (
 .cmp .lss x0 x1 fun t5 =>
 .bool t5 (
 .jmp 2 []) (
 .cmp .gtr x0 x2 fun t6 =>
 .bool t6 (
 .jmp 2 []) (
 .new (.cells [.int .i64 x1, .int .i64 x2, .int .i64 x0, .int .i64 (0 : Int), .int .i64 (0 : Int), .int .i64 (0 : Int), .bool false] 0 true) fun b7 =>
 .ret (.tuple #[.pointer (some (⟨b7, 0, none⟩ : Addr)), .int .i64 (0 : Int)])))))
 | _ => .fail
noncomputable def X108_2 : List Value → M := fun args => match args with
 | [] => 
 .ret (.tuple #[.pointer none, .int .i64 (1 : Int)])
 | _ => .fail
noncomputable def cuts108 : Cuts := [(2, [])]
noncomputable def L108 : Places := [(2, X108_2, todoOf Tryz.f108 2)]
noncomputable def k108 : FCode := .of X108 L108 cuts108
theorem o108_2 : OOk Tryz.prog Tryz.f108 cuts108 L108 (2, X108_2, todoOf Tryz.f108 2) := by
  intro vs Γ m H r h; replace h : (X108_2 vs).run _ _ _ _ = _ := h; unfold X108_2 at h; split at h
  · exact Eq.trans (by kernel_rfl) h
  · exact M.iFail h
theorem h108 : XOk Tryz.prog Tryz.f108 cuts108 L108 X108 := by
  intro Γ m args H r h; unfold X108 at h; split at h
  · replace h := M.iInt h; obtain ⟨_, rfl, h⟩ := h; replace h := M.iInt h; obtain ⟨_, rfl, h⟩ := h; replace h := M.iInt h; obtain ⟨_, rfl, h⟩ := h; exact ⟨Eq.trans (by kernel_rfl) h, Nat.le_of_ble_eq_true (by kernel_rfl)⟩
  · exact M.iFail h
theorem K108 : CodeOk Tryz.prog 108 k108 := .of Tryz.func108 (by kernel_rfl) (by kernel_rfl) h108 (fc o108_2 fe)
-- (*sternpost/table.Table).Tick
noncomputable def X109 : List Value → M := fun args => match args with
 | [v0, v1] => .kPtr v0 fun x0 => .kInt .i64 v1 fun x1 => 
 .call 25 [.pointer x0] fun r2 =>
 .kSl r2 fun a3 l4 c5 =>
 .fxI ((l4 : Nat) : Int) fun n6 =>
 .jmp 100003 [.pointer x0, .int .i64 x1, .slice none 0 0, .slice a3 l4 c5, .int .i64 n6, .int .i64 (0 : Int)]
 | _ => .fail
noncomputable def X109_100003 : List Value → M := fun args => match args with
 | [v0, v1, v2, v3, v4, v5] => .kPtr v0 fun x0 => .kInt .i64 v1 fun x1 => .kSl v2 fun a2 l3 c4 => .kSl v3 fun a5 l6 c7 => .kInt .i64 v4 fun x8 => .kInt .i64 v5 fun x9 => 
 .cmp .lss x9 x8 fun t10 =>
 .bool t10 (
 .onS a5 fun a11 =>
 .inb x9 l6 (
 .ld ((a11.add (x9.toNat * 1)).block) ((a11.add (x9.toNat * 1)).off) fun v12 =>
 .kInt .i64 v12 fun n13 =>
 .onS x0 fun a14 =>
 .ld a14.block (a14.off + 15) fun v15 =>
 .kMp v15 fun r16 =>
 .lookupK 151 (.map r16) (.int .i64 n13) false fun v17 =>
 .kPtr v17 fun p18 =>
 .onS p18 fun a19 =>
 .ld a19.block (a19.off + 1) fun v20 =>
 .kPtr v20 fun p21 =>
 .call 44 [.pointer p21, .int .i64 x1] fun r22 =>
 .kSl r22 fun a23 l24 c25 =>
 .call 66 [.pointer p18, .slice a23 l24 c25] fun r26 =>
 .kSl r26 fun a27 l28 c29 =>
 .firstC 17 (.slice a27 l28 c29) fun n30 nw31 =>
 .app 64 (.slice a2 l3 c4) n30 nw31 fun v32 =>
 .kSl v32 fun a34 l35 c36 =>
 .call 67 [.pointer x0, .pointer p18] fun r37 =>
 .wr .i64 (x9 + (1 : Int)) fun n38 =>
 .jmp 100003 [.pointer x0, .int .i64 x1, .slice a34 l35 c36, .slice a5 l6 c7, .int .i64 x8, .int .i64 n38])) (
 .ret (.slice a2 l3 c4))
 | _ => .fail
noncomputable def cuts109 : Cuts := [(100003, [0, 1, 5, 10, 11, 12])]
noncomputable def L109 : Places := [(100003, X109_100003, todoOf Tryz.f109 100003)]
noncomputable def k109 : FCode := .of X109 L109 cuts109
theorem o109_100003 : OOk Tryz.prog Tryz.f109 cuts109 L109 (100003, X109_100003, todoOf Tryz.f109 100003) := by
  intro vs Γ m H r h; replace h : (X109_100003 vs).run _ _ _ _ = _ := h; unfold X109_100003 at h; split at h
  · replace h := M.iPtr h; obtain ⟨_, rfl, h⟩ := h; replace h := M.iInt h; obtain ⟨_, rfl, h⟩ := h; replace h := M.iSl h; obtain ⟨_, _, _, rfl, h⟩ := h; replace h := M.iSl h; obtain ⟨_, _, _, rfl, h⟩ := h; replace h := M.iInt h; obtain ⟨_, rfl, h⟩ := h; replace h := M.iInt h; obtain ⟨_, rfl, h⟩ := h; exact Eq.trans (by kernel_rfl) h
  · exact M.iFail h
theorem h109 : XOk Tryz.prog Tryz.f109 cuts109 L109 X109 := by
  intro Γ m args H r h; unfold X109 at h; split at h
  · replace h := M.iPtr h; obtain ⟨_, rfl, h⟩ := h; replace h := M.iInt h; obtain ⟨_, rfl, h⟩ := h; exact ⟨Eq.trans (by kernel_rfl) h, Nat.le_of_ble_eq_true (by kernel_rfl)⟩
  · exact M.iFail h
theorem K109 : CodeOk Tryz.prog 109 k109 := .of Tryz.func109 (by kernel_rfl) (by kernel_rfl) h109 (fc o109_100003 fe)
-- (*sternpost/table.one).stands
noncomputable def X110 : List Value → M := fun args => match args with
 | [v0] => .kPtr v0 fun x0 => 
 .onS x0 fun a1 =>
 .ld a1.block (a1.off + 1) fun v2 =>
 .kPtr v2 fun p3 =>
 .call 39 [.pointer p3] fun r4 =>
 .kTup r4 fun vs5 =>
 .nthA vs5 0 fun v6 =>
 .kInt .i64 v6 fun n7 =>
 .kTup r4 fun vs8 =>
 .nthA vs8 1 fun v9 =>
 .kInt .i64 v9 fun n10 =>
 .cmp .eql n7 (0 : Int) fun t11 =>
 .bool t11 (
 .bool t11 (
 .jmp 6 []) (
 .jmp 7 [])) (
 .cmp .eql n7 (2 : Int) fun t12 =>
 .bool t12 (
 .bool t12 (
 .jmp 6 []) (
 .jmp 7 [])) (
 .cmp .eql n7 (3 : Int) fun t13 =>
 .bool t13 (
 .jmp 6 []) (
 .jmp 7 [])))
 | _ => .fail
noncomputable def X110_6 : List Value → M := fun args => match args with
 | [] => 
 .ret (.bool false)
 | _ => .fail
noncomputable def X110_7 : List Value → M := fun args => match args with
 | [] => 
 .ret (.bool true)
 | _ => .fail
noncomputable def cuts110 : Cuts := [(6, []), (7, [])]
noncomputable def L110 : Places := [(6, X110_6, todoOf Tryz.f110 6), (7, X110_7, todoOf Tryz.f110 7)]
noncomputable def k110 : FCode := .of X110 L110 cuts110
theorem o110_6 : OOk Tryz.prog Tryz.f110 cuts110 L110 (6, X110_6, todoOf Tryz.f110 6) := by
  intro vs Γ m H r h; replace h : (X110_6 vs).run _ _ _ _ = _ := h; unfold X110_6 at h; split at h
  · exact Eq.trans (by kernel_rfl) h
  · exact M.iFail h
theorem o110_7 : OOk Tryz.prog Tryz.f110 cuts110 L110 (7, X110_7, todoOf Tryz.f110 7) := by
  intro vs Γ m H r h; replace h : (X110_7 vs).run _ _ _ _ = _ := h; unfold X110_7 at h; split at h
  · exact Eq.trans (by kernel_rfl) h
  · exact M.iFail h
theorem h110 : XOk Tryz.prog Tryz.f110 cuts110 L110 X110 := by
  intro Γ m args H r h; unfold X110 at h; split at h
  · replace h := M.iPtr h; obtain ⟨_, rfl, h⟩ := h; exact ⟨Eq.trans (by kernel_rfl) h, Nat.le_of_ble_eq_true (by kernel_rfl)⟩
  · exact M.iFail h
theorem K110 : CodeOk Tryz.prog 110 k110 := .of Tryz.func110 (by kernel_rfl) (by kernel_rfl) h110 (fc o110_6 (fc o110_7 fe))
-- (*sternpost/sock.Box).look
noncomputable def X112 : List Value → M := fun args => match args with
 | [v0] => .kPtr v0 fun x0 => 
 .jmp 100002 [.pointer x0, .slice none 0 0, .int .i64 (0 : Int)]
 | _ => .fail
noncomputable def X112_3 : List Value → M := fun args => match args with
 | [v0, v1, v2] => .kPtr v0 fun x0 => .kSl v1 fun a1 l2 c3 => .kInt .i64 v2 fun x4 => 
 .wr .i64 (x4 + (1 : Int)) fun n5 =>
 .jmp 100002 [.pointer x0, .slice a1 l2 c3, .int .i64 n5]
 | _ => .fail
noncomputable def X112_100002 : List Value → M := fun args => match args with
 | [v0, v1, v2] => .kPtr v0 fun x0 => .kSl v1 fun a1 l2 c3 => .kInt .i64 v2 fun x4 => 
 .onS x0 fun a5 =>
 .ld a5.block (a5.off + 2) fun v6 =>
 .kSl v6 fun a7 l8 c9 =>
 .cmp .lss x4 ((l8 : Nat) : Int) fun t10 =>
 .bool t10 (
 .onS x0 fun a11 =>
 .ld a11.block (a11.off + 2) fun v12 =>
 .kSl v12 fun a13 l14 c15 =>
 .onS a13 fun a16 =>
 .inb x4 l14 (
 .ld ((a16.add (x4.toNat * 1)).block) ((a16.add (x4.toNat * 1)).off) fun v17 =>
 .kPtr v17 fun p18 =>
 .call 154 [.pointer x0, .pointer p18] fun r19 =>
 .kPtr r19 fun p20 =>
 .bool p20.isNone (
 .jmp 3 [.pointer x0, .slice a1 l2 c3, .int .i64 x4]) (
 .onS p20 fun a21 =>
 .ldn a21.block a21.off 5 fun cs22 =>
 .cellsOks [.agg cs22] (.onS (Instr.fill (fun i => some (i * 5, 5)) ([.int .i64 (0 : Int), .int .i64 (0 : Int), .int .i64 (0 : Int), .int .i64 (0 : Int), .string (⟨#[]⟩ : ByteArray)] : List Value).toArray (([0] : List Nat).zip [.agg cs22])) fun cells23q =>
 .fxV (.agg cells23q) fun cells23v =>
 .kAgg cells23v fun cells23 =>
 .new (.cells cells23.toList 5 true) fun b24 =>
 .firstC 5 (.slice (some ⟨b24, 0, none⟩) 1 1) fun n25 nw26 =>
 .app 43 (.slice a1 l2 c3) n25 nw26 fun v27 =>
 .kSl v27 fun a29 l30 c31 =>
 .onS x0 fun a32 =>
 .ld a32.block (a32.off + 2) fun v33 =>
 .kSl v33 fun a34 l35 c36 =>
 .wr .i64 (x4 + (1 : Int)) fun n37 =>
 .call 155 [.slice a34 l35 c36, .int .i64 x4, .int .i64 n37] fun r38 =>
 .kSl r38 fun a39 l40 c41 =>
 .onS x0 fun a42 =>
 .st 1 (⟨a42.block, a42.off + 2, none⟩ : Addr) (.slice a39 l40 c41) (
 .jmp 3 [.pointer x0, .slice a29 l30 c31, .int .i64 (-1 : Int)]))))) (
 .ret (.slice a1 l2 c3))
 | _ => .fail
noncomputable def cuts112 : Cuts := [(100002, [0, 2, 3]), (3, [0, 2, 3])]
noncomputable def L112 : Places := [(3, X112_3, todoOf Tryz.f112 3), (100002, X112_100002, todoOf Tryz.f112 100002)]
noncomputable def k112 : FCode := .of X112 L112 cuts112
theorem o112_3 : OOk Tryz.prog Tryz.f112 cuts112 L112 (3, X112_3, todoOf Tryz.f112 3) := by
  intro vs Γ m H r h; replace h : (X112_3 vs).run _ _ _ _ = _ := h; unfold X112_3 at h; split at h
  · replace h := M.iPtr h; obtain ⟨_, rfl, h⟩ := h; replace h := M.iSl h; obtain ⟨_, _, _, rfl, h⟩ := h; replace h := M.iInt h; obtain ⟨_, rfl, h⟩ := h; exact Eq.trans (by kernel_rfl) h
  · exact M.iFail h
theorem o112_100002 : OOk Tryz.prog Tryz.f112 cuts112 L112 (100002, X112_100002, todoOf Tryz.f112 100002) := by
  intro vs Γ m H r h; replace h : (X112_100002 vs).run _ _ _ _ = _ := h; unfold X112_100002 at h; split at h
  · replace h := M.iPtr h; obtain ⟨_, rfl, h⟩ := h; replace h := M.iSl h; obtain ⟨_, _, _, rfl, h⟩ := h; replace h := M.iInt h; obtain ⟨_, rfl, h⟩ := h; exact Eq.trans (by kernel_rfl) h
  · exact M.iFail h
theorem h112 : XOk Tryz.prog Tryz.f112 cuts112 L112 X112 := by
  intro Γ m args H r h; unfold X112 at h; split at h
  · replace h := M.iPtr h; obtain ⟨_, rfl, h⟩ := h; exact ⟨Eq.trans (by kernel_rfl) h, Nat.le_of_ble_eq_true (by kernel_rfl)⟩
  · exact M.iFail h
theorem K112 : CodeOk Tryz.prog 112 k112 := .of Tryz.func112 (by kernel_rfl) (by kernel_rfl) h112 (fc o112_3 (fc o112_100002 fe))
end Go.Proofs.YtlpeldimmaajkaaGreat
