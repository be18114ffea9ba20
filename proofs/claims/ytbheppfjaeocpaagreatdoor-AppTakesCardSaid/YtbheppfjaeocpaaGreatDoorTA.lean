/- PRINTED by a program of the session (Pr.lean): what functions of the program come to on the abstract heap, each checked by the kernel. Conditions: none. -/
import Derived.Test.YtbheppfjaeocpaaGreatDoorKt2
import Derived.Test.YtbheppfjaeocpaaGreatDoorProg
set_option linter.unusedVariables false
namespace Go.Proofs.YtbheppfjaeocpaaGreatDoor
open Go Go.Proofs.YtbheppfjaeocpaaGreatDoor.Fw Go.RowKit
-- sternpost/app.New
def G13 : Fs := Fs.none
theorem A13 : AllSound Tryz.prog G13 := AllSound.none
noncomputable def cuts13 : Cuts := []
noncomputable def F13 : List Value → Heap → R := FN Tryz.prog G13 Tryz.f13 cuts13
theorem S13 : Sound Tryz.prog 13 F13 := FN_sound A13 Tryz.func13 (by kernel_rfl) (by kernel_rfl)
noncomputable abbrev R13 (m : Nat) : List Item → List Value → Heap → R := run Tryz.prog G13 Tryz.f13 cuts13 m
theorem t13 (m : Nat)  (H : Heap) : fnE Tryz.prog G13 Tryz.f13 cuts13 m [] H =
    let H0 := H ++ [.map []]
    let H1 := H0 ++ [.cells [.map (some H.length), .slice none 0 0, .bool false, .bool false] 0 true]
    some (.pointer (some (⟨H0.length, 0, none⟩ : Addr)), H1) := by kernel_rfl
-- internal/abi.NoEscape
noncomputable def G58 : Fs := Fs.ext G13 13 F13
theorem A58 : AllSound Tryz.prog G58 := AllSound.ext A13 S13
def F58 : List Value → Heap → R := noEsc
theorem S58 : Sound Tryz.prog 58 F58 := noEsc_sound Tryz.func58 (by kernel_rfl) (by kernel_rfl) (by kernel_rfl) (by kernel_rfl)
-- (*strings.Builder).copyCheck
noncomputable def G39 : Fs := Fs.ext G58 58 F58
theorem A39 : AllSound Tryz.prog G39 := AllSound.ext A58 S58
noncomputable def cuts39 : Cuts := []
noncomputable def F39 : List Value → Heap → R := FN Tryz.prog G39 Tryz.f39 cuts39
theorem S39 : Sound Tryz.prog 39 F39 := FN_sound A39 Tryz.func39 (by kernel_rfl) (by kernel_rfl)
noncomputable abbrev R39 (m : Nat) : List Item → List Value → Heap → R := run Tryz.prog G39 Tryz.f39 cuts39 m
theorem t39 (m : Nat) (x0 : Option Addr) (H : Heap) : fnE Tryz.prog G39 Tryz.f39 cuts39 m [.pointer x0] H =
    onSome x0 fun a1 =>
    ldc H a1.block fun cs2 =>
    onSome cs2[a1.off]? fun v3 =>
    kPtr v3 fun p4 =>
    (match p4.isNone with
    | true => (onSome x0 fun a5 =>
    ldc H a5.block fun cs6 =>
    if a5.off < cs6.length then
    onSome (F58 [.pointer (some a5)] H) fun r7 =>
    kPtr r7.1 fun p8 =>
    onSome p8 fun a9 =>
    fromU r7.2 a9 63 2 (
    onSome x0 fun a10 =>
    st 1 r7.2 a10 (.pointer (some a9)) fun _ H11 =>
    some (.tuple #[], H11))
    else none)
    | false => (onSome x0 fun a12 =>
    ldc H a12.block fun cs13 =>
    onSome cs13[a12.off]? fun v14 =>
    kPtr v14 fun p15 =>
    ptrEq p15 x0 fun e16 =>
    (match (!e16) with
    | true => (none)
    | false => (some (.tuple #[], H))))) := by kernel_rfl
-- WARN 39: exec
-- (*strings.Builder).WriteString
noncomputable def G29 : Fs := Fs.ext G39 39 F39
theorem A29 : AllSound Tryz.prog G29 := AllSound.ext A39 S39
noncomputable def cuts29 : Cuts := []
noncomputable def F29 : List Value → Heap → R := FN Tryz.prog G29 Tryz.f29 cuts29
theorem S29 : Sound Tryz.prog 29 F29 := FN_sound A29 Tryz.func29 (by kernel_rfl) (by kernel_rfl)
noncomputable abbrev R29 (m : Nat) : List Item → List Value → Heap → R := run Tryz.prog G29 Tryz.f29 cuts29 m
theorem t29 (m : Nat) (x0 : Option Addr) (x1 : ByteArray) (H : Heap) : fnE Tryz.prog G29 Tryz.f29 cuts29 m [.pointer x0, .string x1] H =
    onSome (F39 [.pointer x0] H) fun r2 =>
    onSome x0 fun a3 =>
    ldc r2.2 a3.block fun cs4 =>
    onSome cs4[(a3.off + 1)]? fun v5 =>
    kSl v5 fun a6 l7 c8 =>
    firstC r2.2 1 (.string x1) fun n9 nw10 =>
    app Tryz.prog 5 r2.2 (.slice a6 l7 c8) n9 nw10 fun v11 H12 =>
    kSl v11 fun a13 l14 c15 =>
    onSome x0 fun a16 =>
    st 1 H12 (⟨a16.block, a16.off + 1, none⟩ : Addr) (.slice a13 l14 c15) fun _ H17 =>
    some (.tuple #[.int .i64 (x1.size : Int), .nilIface], H17) := by kernel_rfl
-- (*strings.Builder).String
noncomputable def G28 : Fs := Fs.ext G29 29 F29
theorem A28 : AllSound Tryz.prog G28 := AllSound.ext A29 S29
noncomputable def cuts28 : Cuts := []
noncomputable def F28 : List Value → Heap → R := FN Tryz.prog G28 Tryz.f28 cuts28
theorem S28 : Sound Tryz.prog 28 F28 := FN_sound A28 Tryz.func28 (by kernel_rfl) (by kernel_rfl)
noncomputable abbrev R28 (m : Nat) : List Item → List Value → Heap → R := run Tryz.prog G28 Tryz.f28 cuts28 m
theorem t28 (m : Nat) (x0 : Option Addr) (H : Heap) : fnE Tryz.prog G28 Tryz.f28 cuts28 m [.pointer x0] H =
    onSome x0 fun a1 =>
    ldc H a1.block fun cs2 =>
    onSome cs2[(a1.off + 1)]? fun v3 =>
    kSl v3 fun a4 l5 c6 =>
    (match a4 with
    | none => (onSome x0 fun a7 =>
    ldc H a7.block fun cs8 =>
    onSome cs8[(a7.off + 1)]? fun v9 =>
    kSl v9 fun a10 l11 c12 =>
    if ((l11 : Nat) : Int) = 0 then
    some (.string .empty, H)
    else none)
    | some a13 => (if 0 < (l5 : Nat) then
    onSome x0 fun a14 =>
    ldc H a14.block fun cs15 =>
    onSome cs15[(a14.off + 1)]? fun v16 =>
    kSl v16 fun a17 l18 c19 =>
    uStr H a13 ((l18 : Nat) : Int) 5 1 fun s20 H21 =>
    some (.string s20, H21)
    else none)) := by kernel_rfl
-- maps.Keys[map[string]string,string,string]
noncomputable def G32 : Fs := Fs.ext G28 28 F28
theorem A32 : AllSound Tryz.prog G32 := AllSound.ext A28 S28
noncomputable def cuts32 : Cuts := []
noncomputable def F32 : List Value → Heap → R := FN Tryz.prog G32 Tryz.f32 cuts32
theorem S32 : Sound Tryz.prog 32 F32 := FN_sound A32 Tryz.func32 (by kernel_rfl) (by kernel_rfl)
noncomputable abbrev R32 (m : Nat) : List Item → List Value → Heap → R := run Tryz.prog G32 Tryz.f32 cuts32 m
theorem t32 (m : Nat) (x0 : Option Nat) (H : Heap) : fnE Tryz.prog G32 Tryz.f32 cuts32 m [.map x0] H =
    let H1 := H ++ [.cells [.map x0] 31457280 true]
    some (.func (.func 43) #[] #[.pointer (some (⟨H.length, 0, none⟩ : Addr))], H1) := by kernel_rfl
noncomputable def G31 : Fs := Fs.ext G32 32 F32
theorem A31 : AllSound Tryz.prog G31 := AllSound.ext A32 S32
-- (*sternpost/app.Session).Names
noncomputable def G17 : Fs := Fs.ext G31 31 F31
theorem A17 : AllSound Tryz.prog G17 := AllSound.ext A31 S31
noncomputable def cuts17 : Cuts := []
noncomputable def F17 : List Value → Heap → R := FN Tryz.prog G17 Tryz.f17 cuts17
theorem S17 : Sound Tryz.prog 17 F17 := FN_sound A17 Tryz.func17 (by kernel_rfl) (by kernel_rfl)
noncomputable abbrev R17 (m : Nat) : List Item → List Value → Heap → R := run Tryz.prog G17 Tryz.f17 cuts17 m
theorem t17 (m : Nat) (x0 : Option Addr) (H : Heap) : fnE Tryz.prog G17 Tryz.f17 cuts17 m [.pointer x0] H =
    onSome x0 fun a1 =>
    ldc H a1.block fun cs2 =>
    onSome cs2[a1.off]? fun v3 =>
    kMp v3 fun r4 =>
    onSome (F32 [.map r4] H) fun r5 =>
    onSome (F31 [r5.1] r5.2) fun r6 =>
    kSl r6.1 fun a7 l8 c9 =>
    some (.slice a7 l8 c9, r6.2) := by kernel_rfl
noncomputable def G74 : Fs := Fs.ext G17 17 F17
theorem A74 : AllSound Tryz.prog G74 := AllSound.ext A17 S17
noncomputable def G14 : Fs := Fs.ext G74 74 F74
theorem A14 : AllSound Tryz.prog G14 := AllSound.ext A74 S74
-- (*sternpost/app.Session).plain
noncomputable def G59 : Fs := Fs.ext G14 14 F14
theorem A59 : AllSound Tryz.prog G59 := AllSound.ext A14 S14
noncomputable def cuts59 : Cuts := []
noncomputable def F59 : List Value → Heap → R := FN Tryz.prog G59 Tryz.f59 cuts59
theorem S59 : Sound Tryz.prog 59 F59 := FN_sound A59 Tryz.func59 (by kernel_rfl) (by kernel_rfl)
noncomputable abbrev R59 (m : Nat) : List Item → List Value → Heap → R := run Tryz.prog G59 Tryz.f59 cuts59 m
theorem t59 (m : Nat) (x0 : Option Addr) (x1 : ByteArray) (H : Heap) : fnE Tryz.prog G59 Tryz.f59 cuts59 m [.pointer x0, .string x1] H =
    (match (x1.toList == (⟨#[76, 73, 83, 84]⟩ : ByteArray).toList) with
    | true => (let H2 := H ++ [.cells [.string x1] 1 true]
    onSome (F17 [.pointer x0] H2) fun r3 =>
    kSl r3.1 fun a4 l5 c6 =>
    firstC r3.2 1 (.slice a4 l5 c6) fun n7 nw8 =>
    app Tryz.prog 9 r3.2 (.slice (some ⟨H.length, 0, none⟩) 1 1) n7 nw8 fun v9 H10 =>
    kSl v9 fun a11 l12 c13 =>
    onSome (F74 [.slice a11 l12 c13, .string (⟨#[32]⟩ : ByteArray)] H10) fun r14 =>
    kStr r14.1 fun s15 =>
    some (.tuple #[.string s15, .bool true], r14.2))
    | false => ((match (x1.toList == (⟨#[67, 79, 85, 78, 84]⟩ : ByteArray).toList) with
    | true => (onSome x0 fun a16 =>
    ldc H a16.block fun cs17 =>
    onSome cs17[a16.off]? fun v18 =>
    kMp v18 fun r19 =>
    ldmo H r19 fun es20 =>
    onSome (F14 [.int .i64 (es20.length : Int)] H) fun r21 =>
    kStr r21.1 fun s22 =>
    if (⟨#[67, 79, 85, 78, 84, 32]⟩ : ByteArray).size + s22.size ≤ 9223372036854775807 then
    some (.tuple #[.string ((⟨#[67, 79, 85, 78, 84, 32]⟩ : ByteArray) ++ s22), .bool true], r21.2)
    else none)
    | false => ((match (x1.toList == (⟨#[81, 85, 73, 84]⟩ : ByteArray).toList) with
    | true => (onSome x0 fun a23 =>
    st 1 H (⟨a23.block, a23.off + 3, none⟩ : Addr) (.bool true) fun _ H24 =>
    some (.tuple #[.string (⟨#[66, 89, 69]⟩ : ByteArray), .bool true], H24))
    | false => (some (.tuple #[.string (⟨#[]⟩ : ByteArray), .bool false], H))))))) := by kernel_rfl
noncomputable def G94 : Fs := Fs.ext G59 59 F59
theorem A94 : AllSound Tryz.prog G94 := AllSound.ext A59 S59
-- internal/stringslite.Cut
noncomputable def G75 : Fs := Fs.ext G94 94 F94
theorem A75 : AllSound Tryz.prog G75 := AllSound.ext A94 S94
noncomputable def cuts75 : Cuts := []
noncomputable def F75 : List Value → Heap → R := FN Tryz.prog G75 Tryz.f75 cuts75
theorem S75 : Sound Tryz.prog 75 F75 := FN_sound A75 Tryz.func75 (by kernel_rfl) (by kernel_rfl)
noncomputable abbrev R75 (m : Nat) : List Item → List Value → Heap → R := run Tryz.prog G75 Tryz.f75 cuts75 m
theorem t75 (m : Nat) (x0 : ByteArray) (x1 : ByteArray) (H : Heap) : fnE Tryz.prog G75 Tryz.f75 cuts75 m [.string x0, .string x1] H =
    onSome (F94 [.string x0, .string x1] H) fun r2 =>
    kInt .i64 r2.1 fun n3 =>
    (match (decide ((0 : Int) ≤ n3)) with
    | true => (slStr x0 (0 : Int) n3 fun v4 =>
    kStr v4 fun s5 =>
    slStr x0 (IntKind.i64.wrap (n3 + (x1.size : Int))) (x0.size : Int) fun v6 =>
    kStr v6 fun s7 =>
    some (.tuple #[.string s5, .string s7, .bool true], r2.2))
    | false => (some (.tuple #[.string x0, .string (⟨#[]⟩ : ByteArray), .bool false], r2.2))) := by kernel_rfl
-- strings.Cut
noncomputable def G60 : Fs := Fs.ext G75 75 F75
theorem A60 : AllSound Tryz.prog G60 := AllSound.ext A75 S75
noncomputable def cuts60 : Cuts := []
noncomputable def F60 : List Value → Heap → R := FN Tryz.prog G60 Tryz.f60 cuts60
theorem S60 : Sound Tryz.prog 60 F60 := FN_sound A60 Tryz.func60 (by kernel_rfl) (by kernel_rfl)
noncomputable abbrev R60 (m : Nat) : List Item → List Value → Heap → R := run Tryz.prog G60 Tryz.f60 cuts60 m
theorem t60 (m : Nat) (x0 : ByteArray) (x1 : ByteArray) (H : Heap) : fnE Tryz.prog G60 Tryz.f60 cuts60 m [.string x0, .string x1] H =
    onSome (F75 [.string x0, .string x1] H) fun r2 =>
    kTup r2.1 fun vs3 =>
    onSome vs3[0]? fun v4 =>
    kStr v4 fun s5 =>
    kTup r2.1 fun vs6 =>
    onSome vs6[1]? fun v7 =>
    kStr v7 fun s8 =>
    kTup r2.1 fun vs9 =>
    onSome vs9[2]? fun v10 =>
    kBool v10 fun b11 =>
    some (.tuple #[.string s5, .string s8, .bool b11], r2.2) := by kernel_rfl
noncomputable def G76 : Fs := Fs.ext G60 60 F60
theorem A76 : AllSound Tryz.prog G76 := AllSound.ext A60 S60
-- sternpost/app.isName
noncomputable def G61 : Fs := Fs.ext G76 76 F76
theorem A61 : AllSound Tryz.prog G61 := AllSound.ext A76 S76
noncomputable def cuts61 : Cuts := []
noncomputable def F61 : List Value → Heap → R := FN Tryz.prog G61 Tryz.f61 cuts61
theorem S61 : Sound Tryz.prog 61 F61 := FN_sound A61 Tryz.func61 (by kernel_rfl) (by kernel_rfl)
noncomputable abbrev R61 (m : Nat) : List Item → List Value → Heap → R := run Tryz.prog G61 Tryz.f61 cuts61 m
theorem t61 (m : Nat) (x0 : ByteArray) (H : Heap) : fnE Tryz.prog G61 Tryz.f61 cuts61 m [.string x0] H =
    onSome (F76 [.string x0, .func (.func 77) #[] #[]] H) fun r1 =>
    kInt .i64 r1.1 fun n2 =>
    (match (!(x0.toList == (⟨#[]⟩ : ByteArray).toList)) with
    | true => ((match (decide ((x0.size : Int) ≤ (32 : Int))) with
    | true => (some (.bool (!(decide ((0 : Int) ≤ n2))), r1.2))
    | false => (some (.bool false, r1.2))))
    | false => (some (.bool false, r1.2))) := by kernel_rfl
-- (*sternpost/app.Session).ask
noncomputable def G62 : Fs := Fs.ext G61 61 F61
theorem A62 : AllSound Tryz.prog G62 := AllSound.ext A61 S61
noncomputable def cuts62 : Cuts := []
noncomputable def F62 : List Value → Heap → R := FN Tryz.prog G62 Tryz.f62 cuts62
theorem S62 : Sound Tryz.prog 62 F62 := FN_sound A62 Tryz.func62 (by kernel_rfl) (by kernel_rfl)
noncomputable abbrev R62 (m : Nat) : List Item → List Value → Heap → R := run Tryz.prog G62 Tryz.f62 cuts62 m
theorem t62 (m : Nat) (x0 : Option Addr) (x1 : ByteArray) (x2 : ByteArray) (H : Heap) : fnE Tryz.prog G62 Tryz.f62 cuts62 m [.pointer x0, .string x1, .string x2] H =
    onSome x0 fun a3 =>
    ldc H a3.block fun cs4 =>
    onSome cs4[a3.off]? fun v5 =>
    kMp v5 fun r6 =>
    lookupK Tryz.prog 29 H (.map r6) (.string x2) true fun v7 =>
    kTup v7 fun vs8 =>
    onSome vs8[0]? fun v9 =>
    kStr v9 fun s10 =>
    kTup v7 fun vs11 =>
    onSome vs11[1]? fun v12 =>
    kBool v12 fun b13 =>
    (match (!b13) with
    | true => (some (.string (⟨#[78, 79, 78, 69]⟩ : ByteArray), H))
    | false => ((match (x1.toList == (⟨#[68, 69, 76]⟩ : ByteArray).toList) with
    | true => (onSome x0 fun a14 =>
    ldc H a14.block fun cs15 =>
    onSome cs15[a14.off]? fun v16 =>
    kMp v16 fun r17 =>
    dele H r17 (.string x2) fun H18 =>
    some (.string (⟨#[79, 75]⟩ : ByteArray), H18))
    | false => (if (⟨#[86, 65, 76, 85, 69, 32]⟩ : ByteArray).size + s10.size ≤ 9223372036854775807 then
    some (.string ((⟨#[86, 65, 76, 85, 69, 32]⟩ : ByteArray) ++ s10), H)
    else none)))) := by kernel_rfl
noncomputable def G108 : Fs := Fs.ext G62 62 F62
theorem A108 : AllSound Tryz.prog G108 := AllSound.ext A62 S62
noncomputable def G109 : Fs := Fs.ext G108 108 F108
theorem A109 : AllSound Tryz.prog G109 := AllSound.ext A108 S108
noncomputable def G110 : Fs := Fs.ext G109 109 F109
theorem A110 : AllSound Tryz.prog G110 := AllSound.ext A109 S109
-- sternpost/app.number
noncomputable def G96 : Fs := Fs.ext G110 110 F110
theorem A96 : AllSound Tryz.prog G96 := AllSound.ext A110 S110
noncomputable def cuts96 : Cuts := [(3, []), (4, [0])]
noncomputable def td96_3 : List Item := todoOf Tryz.f96 3
noncomputable def td96_4 : List Item := todoOf Tryz.f96 4
noncomputable def F96 : List Value → Heap → R := FN Tryz.prog G96 Tryz.f96 cuts96
theorem S96 : Sound Tryz.prog 96 F96 := FN_sound A96 Tryz.func96 (by kernel_rfl) (by kernel_rfl)
noncomputable abbrev R96 (m : Nat) : List Item → List Value → Heap → R := run Tryz.prog G96 Tryz.f96 cuts96 m
theorem t96 (m : Nat) (x0 : ByteArray) (H : Heap) : fnE Tryz.prog G96 Tryz.f96 cuts96 m [.string x0] H =
    onSome (F108 [.string x0, .string (⟨#[45]⟩ : ByteArray)] H) fun r1 =>
    kTup r1.1 fun vs2 =>
    onSome vs2[0]? fun v3 =>
    kStr v3 fun s4 =>
    kTup r1.1 fun vs5 =>
    onSome vs5[1]? fun v6 =>
    kBool v6 fun b7 =>
    (match (s4.toList == (⟨#[]⟩ : ByteArray).toList) with
    | true => (R96 m td96_3 [] r1.2)
    | false => ((match (decide ((9 : Int) < (s4.size : Int))) with
    | true => (R96 m td96_3 [] r1.2)
    | false => (onSome (F109 [.string s4, .string (⟨#[48, 49, 50, 51, 52, 53, 54, 55, 56, 57]⟩ : ByteArray)] r1.2) fun r8 =>
    kStr r8.1 fun s9 =>
    (match (!(s9.toList == (⟨#[]⟩ : ByteArray).toList)) with
    | true => (R96 m td96_3 [] r8.2)
    | false => ((match (decide ((1 : Int) < (s4.size : Int))) with
    | true => (if 0 ≤ (0 : Int) ∧ (0 : Int) < s4.size then
    (match ((byteAt s4 (0 : Int).toNat) == (48 : Int)) with
    | true => (R96 m td96_3 [] r8.2)
    | false => ((match b7 with
    | true => ((match (s4.toList == (⟨#[48]⟩ : ByteArray).toList) with
    | true => (R96 m td96_3 [] r8.2)
    | false => (R96 m td96_4 [.string x0] r8.2)))
    | false => (R96 m td96_4 [.string x0] r8.2))))
    else none)
    | false => ((match b7 with
    | true => ((match (s4.toList == (⟨#[48]⟩ : ByteArray).toList) with
    | true => (R96 m td96_3 [] r8.2)
    | false => (R96 m td96_4 [.string x0] r8.2)))
    | false => (R96 m td96_4 [.string x0] r8.2)))))))))) := by kernel_rfl
theorem c96_3 (m : Nat)  (H : Heap) : R96 (m + 1) td96_3 [] H =
    some (.tuple #[.int .i64 (0 : Int), .bool false], H) := by kernel_rfl
theorem c96_4 (m : Nat) (x0 : ByteArray) (H : Heap) : R96 (m + 1) td96_4 [.string x0] H =
    onSome (F110 [.string x0] H) fun r1 =>
    kTup r1.1 fun vs2 =>
    onSome vs2[0]? fun v3 =>
    kInt .i64 v3 fun n4 =>
    kTup r1.1 fun vs5 =>
    onSome vs5[1]? fun v6 =>
    (match v6 with | .nilIface => (some (.tuple #[.int .i64 n4, .bool true], r1.2)) | .iface _ _ => (some (.tuple #[.int .i64 n4, .bool false], r1.2)) | _ => none) := by kernel_rfl
-- (*sternpost/app.Session).set
noncomputable def G80 : Fs := Fs.ext G96 96 F96
theorem A80 : AllSound Tryz.prog G80 := AllSound.ext A96 S96
noncomputable def cuts80 : Cuts := [(4, [0, 1, 2])]
noncomputable def td80_4 : List Item := todoOf Tryz.f80 4
noncomputable def F80 : List Value → Heap → R := FN Tryz.prog G80 Tryz.f80 cuts80
theorem S80 : Sound Tryz.prog 80 F80 := FN_sound A80 Tryz.func80 (by kernel_rfl) (by kernel_rfl)
noncomputable abbrev R80 (m : Nat) : List Item → List Value → Heap → R := run Tryz.prog G80 Tryz.f80 cuts80 m
theorem t80 (m : Nat) (x0 : Option Addr) (x1 : ByteArray) (x2 : ByteArray) (H : Heap) : fnE Tryz.prog G80 Tryz.f80 cuts80 m [.pointer x0, .string x1, .string x2] H =
    onSome x0 fun a3 =>
    ldc H a3.block fun cs4 =>
    onSome cs4[a3.off]? fun v5 =>
    kMp v5 fun r6 =>
    lookupK Tryz.prog 29 H (.map r6) (.string x1) true fun v7 =>
    kTup v7 fun vs8 =>
    onSome vs8[0]? fun v9 =>
    kStr v9 fun s10 =>
    kTup v7 fun vs11 =>
    onSome vs11[1]? fun v12 =>
    kBool v12 fun b13 =>
    (match (!b13) with
    | true => (onSome x0 fun a14 =>
    ldc H a14.block fun cs15 =>
    onSome cs15[a14.off]? fun v16 =>
    kMp v16 fun r17 =>
    ldmo H r17 fun es18 =>
    (match (decide ((64 : Int) ≤ (es18.length : Int))) with
    | true => (some (.bool false, H))
    | false => (R80 m td80_4 [.pointer x0, .string x1, .string x2] H)))
    | false => (R80 m td80_4 [.pointer x0, .string x1, .string x2] H)) := by kernel_rfl
theorem c80_4 (m : Nat) (x0 : Option Addr) (x1 : ByteArray) (x2 : ByteArray) (H : Heap) : R80 (m + 1) td80_4 [.pointer x0, .string x1, .string x2] H =
    onSome x0 fun a3 =>
    ldc H a3.block fun cs4 =>
    onSome cs4[a3.off]? fun v5 =>
    kMp v5 fun r6 =>
    onSome r6 fun q7 =>
    mupd H q7 (.string x1) (.string x2) fun H8 =>
    some (.bool true, H8) := by kernel_rfl
-- (*sternpost/app.Session).add
noncomputable def G78 : Fs := Fs.ext G80 80 F80
theorem A78 : AllSound Tryz.prog G78 := AllSound.ext A80 S80
noncomputable def cuts78 : Cuts := [(5, [])]
noncomputable def td78_5 : List Item := todoOf Tryz.f78 5
noncomputable def F78 : List Value → Heap → R := FN Tryz.prog G78 Tryz.f78 cuts78
theorem S78 : Sound Tryz.prog 78 F78 := FN_sound A78 Tryz.func78 (by kernel_rfl) (by kernel_rfl)
noncomputable abbrev R78 (m : Nat) : List Item → List Value → Heap → R := run Tryz.prog G78 Tryz.f78 cuts78 m
theorem t78 (m : Nat) (x0 : Option Addr) (x1 : ByteArray) (x2 : ByteArray) (H : Heap) : fnE Tryz.prog G78 Tryz.f78 cuts78 m [.pointer x0, .string x1, .string x2] H =
    onSome (F96 [.string x2] H) fun r3 =>
    kTup r3.1 fun vs4 =>
    onSome vs4[0]? fun v5 =>
    kInt .i64 v5 fun n6 =>
    kTup r3.1 fun vs7 =>
    onSome vs7[1]? fun v8 =>
    kBool v8 fun b9 =>
    onSome x0 fun a10 =>
    ldc r3.2 a10.block fun cs11 =>
    onSome cs11[a10.off]? fun v12 =>
    kMp v12 fun r13 =>
    lookupK Tryz.prog 29 r3.2 (.map r13) (.string x1) false fun v14 =>
    onSome (F96 [v14] r3.2) fun r15 =>
    kTup r15.1 fun vs16 =>
    onSome vs16[0]? fun v17 =>
    kInt .i64 v17 fun n18 =>
    kTup r15.1 fun vs19 =>
    onSome vs19[1]? fun v20 =>
    kBool v20 fun b21 =>
    (match (!b9) with
    | true => (R78 m td78_5 [] r15.2)
    | false => ((match (decide ((1000000000 : Int) ≤ (mxi (IntKind.i64.wrap (n18 + n6)) (IntKind.i64.wrap (0 - (IntKind.i64.wrap (n18 + n6))))))) with
    | true => (R78 m td78_5 [] r15.2)
    | false => (onSome (F14 [.int .i64 (IntKind.i64.wrap (n18 + n6))] r15.2) fun r22 =>
    kStr r22.1 fun s23 =>
    onSome (F80 [.pointer x0, .string x1, .string s23] r22.2) fun r24 =>
    kBool r24.1 fun b25 =>
    (match (!b25) with
    | true => (some (.string (⟨#[70, 85, 76, 76]⟩ : ByteArray), r24.2))
    | false => (onSome x0 fun a26 =>
    ldc r24.2 a26.block fun cs27 =>
    onSome cs27[a26.off]? fun v28 =>
    kMp v28 fun r29 =>
    lookupK Tryz.prog 29 r24.2 (.map r29) (.string x1) false fun v30 =>
    kStr v30 fun s31 =>
    if (⟨#[86, 65, 76, 85, 69, 32]⟩ : ByteArray).size + s31.size ≤ 9223372036854775807 then
    some (.string ((⟨#[86, 65, 76, 85, 69, 32]⟩ : ByteArray) ++ s31), r24.2)
    else none)))))) := by kernel_rfl
theorem c78_5 (m : Nat)  (H : Heap) : R78 (m + 1) td78_5 [] H =
    some (.string (⟨#[66, 65, 68]⟩ : ByteArray), H) := by kernel_rfl
-- (*sternpost/app.Session).extend
noncomputable def G79 : Fs := Fs.ext G78 78 F78
theorem A79 : AllSound Tryz.prog G79 := AllSound.ext A78 S78
noncomputable def cuts79 : Cuts := [(3, [])]
noncomputable def td79_3 : List Item := todoOf Tryz.f79 3
noncomputable def F79 : List Value → Heap → R := FN Tryz.prog G79 Tryz.f79 cuts79
theorem S79 : Sound Tryz.prog 79 F79 := FN_sound A79 Tryz.func79 (by kernel_rfl) (by kernel_rfl)
noncomputable abbrev R79 (m : Nat) : List Item → List Value → Heap → R := run Tryz.prog G79 Tryz.f79 cuts79 m
theorem t79 (m : Nat) (x0 : Option Addr) (x1 : ByteArray) (x2 : ByteArray) (H : Heap) : fnE Tryz.prog G79 Tryz.f79 cuts79 m [.pointer x0, .string x1, .string x2] H =
    onSome x0 fun a3 =>
    ldc H a3.block fun cs4 =>
    onSome cs4[a3.off]? fun v5 =>
    kMp v5 fun r6 =>
    lookupK Tryz.prog 29 H (.map r6) (.string x1) false fun v7 =>
    kStr v7 fun s8 =>
    if s8.size + x2.size ≤ 9223372036854775807 then
    (match (decide ((200 : Int) < ((s8 ++ x2).size : Int))) with
    | true => (R79 m td79_3 [] H)
    | false => (onSome (F80 [.pointer x0, .string x1, .string (s8 ++ x2)] H) fun r9 =>
    kBool r9.1 fun b10 =>
    (match (!b10) with
    | true => (R79 m td79_3 [] r9.2)
    | false => (onSome (F14 [.int .i64 ((s8 ++ x2).size : Int)] r9.2) fun r11 =>
    kStr r11.1 fun s12 =>
    if (⟨#[67, 79, 85, 78, 84, 32]⟩ : ByteArray).size + s12.size ≤ 9223372036854775807 then
    some (.string ((⟨#[67, 79, 85, 78, 84, 32]⟩ : ByteArray) ++ s12), r11.2)
    else none))))
    else none := by kernel_rfl
theorem c79_3 (m : Nat)  (H : Heap) : R79 (m + 1) td79_3 [] H =
    some (.string (⟨#[70, 85, 76, 76]⟩ : ByteArray), H) := by kernel_rfl
-- (*sternpost/app.Session).change
noncomputable def G63 : Fs := Fs.ext G79 79 F79
theorem A63 : AllSound Tryz.prog G63 := AllSound.ext A79 S79
noncomputable def cuts63 : Cuts := []
noncomputable def F63 : List Value → Heap → R := FN Tryz.prog G63 Tryz.f63 cuts63
theorem S63 : Sound Tryz.prog 63 F63 := FN_sound A63 Tryz.func63 (by kernel_rfl) (by kernel_rfl)
noncomputable abbrev R63 (m : Nat) : List Item → List Value → Heap → R := run Tryz.prog G63 Tryz.f63 cuts63 m
theorem t63 (m : Nat) (x0 : Option Addr) (x1 : ByteArray) (x2 : ByteArray) (x3 : ByteArray) (H : Heap) : fnE Tryz.prog G63 Tryz.f63 cuts63 m [.pointer x0, .string x1, .string x2, .string x3] H =
    (match (x1.toList == (⟨#[65, 68, 68]⟩ : ByteArray).toList) with
    | true => (onSome (F78 [.pointer x0, .string x2, .string x3] H) fun r4 =>
    kStr r4.1 fun s5 =>
    some (.string s5, r4.2))
    | false => ((match (x1.toList == (⟨#[65, 80, 80]⟩ : ByteArray).toList) with
    | true => (onSome (F79 [.pointer x0, .string x2, .string x3] H) fun r6 =>
    kStr r6.1 fun s7 =>
    some (.string s7, r6.2))
    | false => (onSome (F80 [.pointer x0, .string x2, .string x3] H) fun r8 =>
    kBool r8.1 fun b9 =>
    (match (!b9) with
    | true => (some (.string (⟨#[70, 85, 76, 76]⟩ : ByteArray), r8.2))
    | false => (some (.string (⟨#[79, 75]⟩ : ByteArray), r8.2))))))) := by kernel_rfl
-- (*sternpost/app.Session).answer
noncomputable def G40 : Fs := Fs.ext G63 63 F63
theorem A40 : AllSound Tryz.prog G40 := AllSound.ext A63 S63
noncomputable def cuts40 : Cuts := [(18, []), (16, [0, 7, 10, 11, 12]), (13, [0, 7, 10, 11, 12, 40]), (14, [0, 7, 10, 12]), (11, [0, 7, 10, 11, 12, 40]), (7, [])]
noncomputable def td40_18 : List Item := todoOf Tryz.f40 18
noncomputable def td40_16 : List Item := todoOf Tryz.f40 16
noncomputable def td40_13 : List Item := todoOf Tryz.f40 13
noncomputable def td40_14 : List Item := todoOf Tryz.f40 14
noncomputable def td40_11 : List Item := todoOf Tryz.f40 11
noncomputable def td40_7 : List Item := todoOf Tryz.f40 7
noncomputable def F40 : List Value → Heap → R := FN Tryz.prog G40 Tryz.f40 cuts40
theorem S40 : Sound Tryz.prog 40 F40 := FN_sound A40 Tryz.func40 (by kernel_rfl) (by kernel_rfl)
noncomputable abbrev R40 (m : Nat) : List Item → List Value → Heap → R := run Tryz.prog G40 Tryz.f40 cuts40 m
theorem t40 (m : Nat) (x0 : Option Addr) (x1 : ByteArray) (H : Heap) : fnE Tryz.prog G40 Tryz.f40 cuts40 m [.pointer x0, .string x1] H =
    onSome (F59 [.pointer x0, .string x1] H) fun r2 =>
    kTup r2.1 fun vs3 =>
    onSome vs3[0]? fun v4 =>
    kStr v4 fun s5 =>
    kTup r2.1 fun vs6 =>
    onSome vs6[1]? fun v7 =>
    kBool v7 fun b8 =>
    (match b8 with
    | true => (some (.string s5, r2.2))
    | false => (onSome (F60 [.string x1, .string (⟨#[32]⟩ : ByteArray)] r2.2) fun r9 =>
    kTup r9.1 fun vs10 =>
    onSome vs10[0]? fun v11 =>
    kStr v11 fun s12 =>
    kTup r9.1 fun vs13 =>
    onSome vs13[1]? fun v14 =>
    kStr v14 fun s15 =>
    kTup r9.1 fun vs16 =>
    onSome vs16[2]? fun v17 =>
    kBool v17 fun b18 =>
    onSome (F60 [.string s15, .string (⟨#[32]⟩ : ByteArray)] r9.2) fun r19 =>
    kTup r19.1 fun vs20 =>
    onSome vs20[0]? fun v21 =>
    kStr v21 fun s22 =>
    kTup r19.1 fun vs23 =>
    onSome vs23[1]? fun v24 =>
    kStr v24 fun s25 =>
    kTup r19.1 fun vs26 =>
    onSome vs26[2]? fun v27 =>
    kBool v27 fun b28 =>
    (match (!b18) with
    | true => (R40 m td40_7 [] r19.2)
    | false => (onSome (F61 [.string s22] r19.2) fun r29 =>
    kBool r29.1 fun b30 =>
    (match (!b30) with
    | true => (R40 m td40_7 [] r29.2)
    | false => ((match (s12.toList == (⟨#[71, 69, 84]⟩ : ByteArray).toList) with
    | true => ((match (s12.toList == (⟨#[71, 69, 84]⟩ : ByteArray).toList) with
    | true => (R40 m td40_14 [.pointer x0, .string s12, .string s22, .bool b28] r29.2)
    | false => (R40 m td40_11 [.pointer x0, .string s12, .string s22, .string s25, .bool b28, .string s12] r29.2)))
    | false => ((match (s12.toList == (⟨#[68, 69, 76]⟩ : ByteArray).toList) with
    | true => (R40 m td40_14 [.pointer x0, .string s12, .string s22, .bool b28] r29.2)
    | false => (R40 m td40_11 [.pointer x0, .string s12, .string s22, .string s25, .bool b28, .string s12] r29.2)))))))))) := by kernel_rfl
theorem c40_7 (m : Nat)  (H : Heap) : R40 (m + 1) td40_7 [] H =
    some (.string (⟨#[66, 65, 68]⟩ : ByteArray), H) := by kernel_rfl
theorem c40_11 (m : Nat) (x0 : Option Addr) (x1 : ByteArray) (x2 : ByteArray) (x3 : ByteArray) (x4 : Bool) (x5 : ByteArray) (H : Heap) : R40 (m + 1) td40_11 [.pointer x0, .string x1, .string x2, .string x3, .bool x4, .string x5] H =
    (match (x5.toList == (⟨#[80, 85, 84]⟩ : ByteArray).toList) with
    | true => ((match (x5.toList == (⟨#[80, 85, 84]⟩ : ByteArray).toList) with
    | true => (R40 m td40_16 [.pointer x0, .string x1, .string x2, .string x3, .bool x4] H)
    | false => (R40 m td40_13 [.pointer x0, .string x1, .string x2, .string x3, .bool x4, .string x5] H)))
    | false => ((match (x5.toList == (⟨#[65, 68, 68]⟩ : ByteArray).toList) with
    | true => (R40 m td40_16 [.pointer x0, .string x1, .string x2, .string x3, .bool x4] H)
    | false => (R40 m td40_13 [.pointer x0, .string x1, .string x2, .string x3, .bool x4, .string x5] H)))) := by kernel_rfl
theorem c40_13 (m : Nat) (x0 : Option Addr) (x1 : ByteArray) (x2 : ByteArray) (x3 : ByteArray) (x4 : Bool) (x5 : ByteArray) (H : Heap) : R40 (m + 1) td40_13 [.pointer x0, .string x1, .string x2, .string x3, .bool x4, .string x5] H =
    (match (x5.toList == (⟨#[65, 80, 80]⟩ : ByteArray).toList) with
    | true => (R40 m td40_16 [.pointer x0, .string x1, .string x2, .string x3, .bool x4] H)
    | false => (R40 m td40_18 [] H)) := by kernel_rfl
theorem c40_14 (m : Nat) (x0 : Option Addr) (x1 : ByteArray) (x2 : ByteArray) (x3 : Bool) (H : Heap) : R40 (m + 1) td40_14 [.pointer x0, .string x1, .string x2, .bool x3] H =
    (match (!x3) with
    | true => (onSome (F62 [.pointer x0, .string x1, .string x2] H) fun r4 =>
    kStr r4.1 fun s5 =>
    some (.string s5, r4.2))
    | false => (R40 m td40_18 [] H)) := by kernel_rfl
theorem c40_16 (m : Nat) (x0 : Option Addr) (x1 : ByteArray) (x2 : ByteArray) (x3 : ByteArray) (x4 : Bool) (H : Heap) : R40 (m + 1) td40_16 [.pointer x0, .string x1, .string x2, .string x3, .bool x4] H =
    (match x4 with
    | true => (onSome (F63 [.pointer x0, .string x1, .string x2, .string x3] H) fun r5 =>
    kStr r5.1 fun s6 =>
    some (.string s6, r5.2))
    | false => (R40 m td40_18 [] H)) := by kernel_rfl
theorem c40_18 (m : Nat)  (H : Heap) : R40 (m + 1) td40_18 [] H =
    some (.string (⟨#[66, 65, 68]⟩ : ByteArray), H) := by kernel_rfl
-- (*sternpost/app.Session).end
noncomputable def G30 : Fs := Fs.ext G40 40 F40
theorem A30 : AllSound Tryz.prog G30 := AllSound.ext A40 S40
noncomputable def cuts30 : Cuts := [(2, [0, 3, 4])]
noncomputable def td30_2 : List Item := todoOf Tryz.f30 2
noncomputable def F30 : List Value → Heap → R := FN Tryz.prog G30 Tryz.f30 cuts30
theorem S30 : Sound Tryz.prog 30 F30 := FN_sound A30 Tryz.func30 (by kernel_rfl) (by kernel_rfl)
noncomputable abbrev R30 (m : Nat) : List Item → List Value → Heap → R := run Tryz.prog G30 Tryz.f30 cuts30 m
theorem t30 (m : Nat) (x0 : Option Addr) (H : Heap) : fnE Tryz.prog G30 Tryz.f30 cuts30 m [.pointer x0] H =
    onSome x0 fun a1 =>
    ldc H a1.block fun cs2 =>
    onSome cs2[(a1.off + 1)]? fun v3 =>
    kSl v3 fun a4 l5 c6 =>
    (match a4 with
    | none => ((match (a4.map (·.block) : Option Nat) with
    | some blk7 => (onSome x0 fun a8 =>
    ldc H a8.block fun cs9 =>
    onSome cs9[(a8.off + 2)]? fun v10 =>
    kBool v10 fun b11 =>
    R30 m td30_2 [.pointer x0, .string .empty, .bool b11] H)
    | none => (onSome x0 fun a12 =>
    ldc H a12.block fun cs13 =>
    onSome cs13[(a12.off + 2)]? fun v14 =>
    kBool v14 fun b15 =>
    R30 m td30_2 [.pointer x0, .string .empty, .bool b15] H)))
    | some a16 => (ldc H a16.block fun cs17 =>
    if a16.off + l5 ≤ cs17.length then
    onSome (bytesOf (range cs17 a16.off l5)) fun l18 =>
    (match (a4.map (·.block) : Option Nat) with
    | some blk19 => (onSome x0 fun a20 =>
    ldc H a20.block fun cs21 =>
    onSome cs21[(a20.off + 2)]? fun v22 =>
    kBool v22 fun b23 =>
    R30 m td30_2 [.pointer x0, .string (⟨l18.toArray⟩ : ByteArray), .bool b23] H)
    | none => (onSome x0 fun a24 =>
    ldc H a24.block fun cs25 =>
    onSome cs25[(a24.off + 2)]? fun v26 =>
    kBool v26 fun b27 =>
    R30 m td30_2 [.pointer x0, .string (⟨l18.toArray⟩ : ByteArray), .bool b27] H))
    else none)) := by kernel_rfl
theorem c30_2 (m : Nat) (x0 : Option Addr) (x1 : ByteArray) (x2 : Bool) (H : Heap) : R30 (m + 1) td30_2 [.pointer x0, .string x1, .bool x2] H =
    onSome x0 fun a3 =>
    st 1 H (⟨a3.block, a3.off + 1, none⟩ : Addr) (.slice none 0 0) fun _ H4 =>
    onSome x0 fun a5 =>
    st 1 H4 (⟨a5.block, a5.off + 2, none⟩ : Addr) (.bool false) fun _ H6 =>
    (match x2 with
    | true => (some (.string (⟨#[66, 65, 68, 10]⟩ : ByteArray), H6))
    | false => (onSome (F40 [.pointer x0, .string x1] H6) fun r7 =>
    kStr r7.1 fun s8 =>
    if s8.size + (⟨#[10]⟩ : ByteArray).size ≤ 9223372036854775807 then
    some (.string (s8 ++ (⟨#[10]⟩ : ByteArray)), r7.2)
    else none)) := by kernel_rfl
-- (*sternpost/app.Session).Take
noncomputable def G16 : Fs := Fs.ext G30 30 F30
theorem A16 : AllSound Tryz.prog G16 := AllSound.ext A30 S30
noncomputable def cuts16 : Cuts := [(100007, [0, 6, 19, 20, 21]), (16, [0, 6, 19, 20, 21])]
noncomputable def td16_100007 : List Item := todoOf Tryz.f16 100007
noncomputable def td16_16 : List Item := todoOf Tryz.f16 16
noncomputable def F16 : List Value → Heap → R := FN Tryz.prog G16 Tryz.f16 cuts16
theorem S16 : Sound Tryz.prog 16 F16 := FN_sound A16 Tryz.func16 (by kernel_rfl) (by kernel_rfl)
noncomputable abbrev R16 (m : Nat) : List Item → List Value → Heap → R := run Tryz.prog G16 Tryz.f16 cuts16 m
theorem t16 (m : Nat) (x0 : Option Addr) (x1 : ByteArray) (H : Heap) : fnE Tryz.prog G16 Tryz.f16 cuts16 m [.pointer x0, .string x1] H =
    (match (decide ((65536 : Int) < (x1.size : Int))) with
    | true => (some (.tuple #[.string (⟨#[]⟩ : ByteArray), .int .i64 (2 : Int)], H))
    | false => (onSome x0 fun a2 =>
    ldc H a2.block fun cs3 =>
    onSome cs3[(a2.off + 3)]? fun v4 =>
    kBool v4 fun b5 =>
    (match b5 with
    | true => (some (.tuple #[.string (⟨#[]⟩ : ByteArray), .int .i64 (183 : Int)], H))
    | false => (let H6 := H ++ [.cells [.pointer none, .slice none 0 0] 67108864 true]
    if x1.size ≤ 140737488351232 then
    let H7 := H6 ++ [.cells (x1.data.toList.map fun b => .int .u8 b.toNat) 1 true]
    R16 m td16_100007 [.pointer x0, .pointer (some (⟨H.length, 0, none⟩ : Addr)), .slice (some ⟨H6.length, 0, none⟩) x1.size unk, .int .i64 ((x1.size : Nat) : Int), .int .i64 (0 : Int)] H7
    else none)))) := by kernel_rfl
theorem c16_16 (m : Nat) (x0 : Option Addr) (x1 : Option Addr) (a2 : Option Addr) (l3 : Nat) (c4 : Nat) (x5 : Int) (x6 : Int) (H : Heap) : R16 (m + 1) td16_16 [.pointer x0, .pointer x1, .slice a2 l3 c4, .int .i64 x5, .int .i64 x6] H =
    R16 m td16_100007 [.pointer x0, .pointer x1, .slice a2 l3 c4, .int .i64 x5, .int .i64 (IntKind.i64.wrap (x6 + (1 : Int)))] H := by kernel_rfl
theorem c16_100007 (m : Nat) (x0 : Option Addr) (x1 : Option Addr) (a2 : Option Addr) (l3 : Nat) (c4 : Nat) (x5 : Int) (x6 : Int) (H : Heap) : R16 (m + 1) td16_100007 [.pointer x0, .pointer x1, .slice a2 l3 c4, .int .i64 x5, .int .i64 x6] H =
    (match (decide (x6 < x5)) with
    | true => (onSome a2 fun a7 =>
    if 0 ≤ x6 ∧ x6 < (l3 : Nat) then
    ldc H ((a7.add (x6.toNat * 1)).block) fun cs8 =>
    onSome cs8[(a7.add (x6.toNat * 1)).off]? fun v9 =>
    kInt .u8 v9 fun n10 =>
    onSome x0 fun a11 =>
    ldc H a11.block fun cs12 =>
    onSome cs12[(a11.off + 3)]? fun v13 =>
    kBool v13 fun b14 =>
    (match b14 with
    | true => (onSome (F28 [.pointer x1] H) fun r15 =>
    kStr r15.1 fun s16 =>
    some (.tuple #[.string s16, .int .i64 (0 : Int)], r15.2))
    | false => ((match (n10 == (10 : Int)) with
    | true => (onSome (F30 [.pointer x0] H) fun r17 =>
    kStr r17.1 fun s18 =>
    onSome (F29 [.pointer x1, .string s18] r17.2) fun r19 =>
    R16 m td16_16 [.pointer x0, .pointer x1, .slice a2 l3 c4, .int .i64 x5, .int .i64 x6] r19.2)
    | false => (onSome x0 fun a20 =>
    ldc H a20.block fun cs21 =>
    onSome cs21[(a20.off + 1)]? fun v22 =>
    kSl v22 fun a23 l24 c25 =>
    (match (decide (((l24 : Nat) : Int) < (256 : Int))) with
    | true => (onSome x0 fun a26 =>
    ldc H a26.block fun cs27 =>
    onSome cs27[(a26.off + 1)]? fun v28 =>
    kSl v28 fun a29 l30 c31 =>
    let H32 := H ++ [.cells [.int .u8 n10] 1 true]
    firstC H32 1 (.slice (some ⟨H.length, 0, none⟩) 1 1) fun n33 nw34 =>
    app Tryz.prog 5 H32 (.slice a29 l30 c31) n33 nw34 fun v35 H36 =>
    kSl v35 fun a37 l38 c39 =>
    onSome x0 fun a40 =>
    st 1 H36 (⟨a40.block, a40.off + 1, none⟩ : Addr) (.slice a37 l38 c39) fun _ H41 =>
    R16 m td16_16 [.pointer x0, .pointer x1, .slice a2 l3 c4, .int .i64 x5, .int .i64 x6] H41)
    | false => (onSome x0 fun a42 =>
    st 1 H (⟨a42.block, a42.off + 2, none⟩ : Addr) (.bool true) fun _ H43 =>
    R16 m td16_16 [.pointer x0, .pointer x1, .slice a2 l3 c4, .int .i64 x5, .int .i64 x6] H43))))))
    else none)
    | false => (onSome (F28 [.pointer x1] H) fun r44 =>
    kStr r44.1 fun s45 =>
    some (.tuple #[.string s45, .int .i64 (0 : Int)], r44.2))) := by kernel_rfl
-- sternpost/app.Answer
noncomputable def G11 : Fs := Fs.ext G16 16 F16
theorem A11 : AllSound Tryz.prog G11 := AllSound.ext A16 S16
noncomputable def cuts11 : Cuts := []
noncomputable def F11 : List Value → Heap → R := FN Tryz.prog G11 Tryz.f11 cuts11
theorem S11 : Sound Tryz.prog 11 F11 := FN_sound A11 Tryz.func11 (by kernel_rfl) (by kernel_rfl)
noncomputable abbrev R11 (m : Nat) : List Item → List Value → Heap → R := run Tryz.prog G11 Tryz.f11 cuts11 m
theorem t11 (m : Nat) (x0 : ByteArray) (H : Heap) : fnE Tryz.prog G11 Tryz.f11 cuts11 m [.string x0] H =
    onSome (F13 [] H) fun r1 =>
    kPtr r1.1 fun p2 =>
    onSome (F16 [.pointer p2, .string x0] r1.2) fun r3 =>
    kTup r3.1 fun vs4 =>
    onSome vs4[0]? fun v5 =>
    kStr v5 fun s6 =>
    kTup r3.1 fun vs7 =>
    onSome vs7[1]? fun v8 =>
    kInt .i64 v8 fun n9 =>
    onSome p2 fun a10 =>
    ldc r3.2 a10.block fun cs11 =>
    onSome cs11[(a10.off + 3)]? fun v12 =>
    kBool v12 fun b13 =>
    some (.tuple #[.string s6, .bool b13], r3.2) := by kernel_rfl
-- sternpost/sternpostlaw21.works
noncomputable def G10 : Fs := Fs.ext G11 11 F11
theorem A10 : AllSound Tryz.prog G10 := AllSound.ext A11 S11
noncomputable def cuts10 : Cuts := []
noncomputable def F10 : List Value → Heap → R := FN Tryz.prog G10 Tryz.f10 cuts10
theorem S10 : Sound Tryz.prog 10 F10 := FN_sound A10 Tryz.func10 (by kernel_rfl) (by kernel_rfl)
noncomputable abbrev R10 (m : Nat) : List Item → List Value → Heap → R := run Tryz.prog G10 Tryz.f10 cuts10 m
theorem t10 (m : Nat)  (H : Heap) : fnE Tryz.prog G10 Tryz.f10 cuts10 m [] H =
    onSome (F11 [.string (⟨#[80, 85, 84, 32, 97, 32, 49, 10, 65, 68, 68, 32, 97, 32, 50, 10, 71, 69, 84, 32, 97, 10, 81, 85, 73, 84, 10]⟩ : ByteArray)] H) fun r0 =>
    kTup r0.1 fun vs1 =>
    onSome vs1[0]? fun v2 =>
    kStr v2 fun s3 =>
    kTup r0.1 fun vs4 =>
    onSome vs4[1]? fun v5 =>
    kBool v5 fun b6 =>
    (match (s3.toList == (⟨#[79, 75, 10, 86, 65, 76, 85, 69, 32, 51, 10, 86, 65, 76, 85, 69, 32, 51, 10, 66, 89, 69, 10]⟩ : ByteArray).toList) with
    | true => (some (.bool b6, r0.2))
    | false => (some (.bool false, r0.2))) := by kernel_rfl
end Go.Proofs.YtbheppfjaeocpaaGreatDoor
