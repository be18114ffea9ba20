/- PRINTED by a program of the session (Pm.lean): functions of the program as texts, for concrete runs, each checked by the kernel. Conditions: none. -/
import Derived.Test.YtgnkjpbecgpjoaaGreatDoorFx4
import Derived.Test.YtgnkjpbecgpjoaaGreatDoorProg
set_option linter.unusedVariables false
set_option linter.unusedSimpArgs false
namespace Go.Proofs.YtgnkjpbecgpjoaaGreatDoor
open Go Go.Proofs.YtgnkjpbecgpjoaaGreatDoor.Fw Go.RowKit
-- maps.Keys[map[sternpost/frag.key]*sternpost/frag.pile,sternpost/frag.key,*sternpost/frag.pile]$1
noncomputable def X185 : List Value → M := fun args => match args with
 | [x0, x1] => 
 .kPtr x1 fun p2 =>
 .onS p2 fun a3 =>
 .ld a3.block a3.off fun v4 =>
 .kMp v4 fun r5 =>
 .rng r5 fun v6 =>
 .jmp 100001 [x0, v6]
 | _ => .fail
noncomputable def X185_100001 : List Value → M := fun args => match args with
 | [x0, x1] => 
 .kPtr x1 fun p2 =>
 .onS p2 fun a3 =>
 .nxt a3 fun v4 =>
 .kTup v4 fun vs5 =>
 .nthA vs5 0 fun v6 =>
 .kBool v6 fun b7 =>
 .bool b7 (
 .kPtr x1 fun p8 =>
 .onS p8 fun a9 =>
 .entr a9 fun v10 =>
 .kTup v10 fun vs11 =>
 .nthA vs11 0 fun v12 =>
 .kAgg v12 fun cs13 =>
 .ite (cs13.size = 4) (
 .new (.cells [.int .i64 (0 : Int), .int .i64 (0 : Int), .int .i64 (0 : Int), .int .i64 (0 : Int)] 0 true) fun b14 =>
 .st 4 (⟨b14, 0, none⟩ : Addr) (.agg cs13) (
 .ldn b14 0 4 fun cs16 =>
 .callV x0 [.agg cs16] fun r17 =>
 .kBool r17 fun b18 =>
 .bool (!b18) (
 .ret (.tuple #[])) (
 .jmp 100001 [x0, x1])))) (
 .ret (.tuple #[]))
 | _ => .fail
noncomputable def cuts185 : Cuts := [(100001, [0, 5])]
noncomputable def L185 : Places := [(100001, X185_100001, todoOf Tryz.f185 100001)]
noncomputable def k185 : FCode := .of X185 L185 cuts185
theorem o185_100001 : OOk Tryz.prog Tryz.f185 cuts185 L185 (100001, X185_100001, todoOf Tryz.f185 100001) := by
  intro vs Γ m H r h; replace h : (X185_100001 vs).run _ _ _ _ = _ := h; unfold X185_100001 at h; split at h
  · exact Eq.trans (by kernel_rfl) h
  · exact M.iFail h
theorem h185 : XOk Tryz.prog Tryz.f185 cuts185 L185 X185 := by
  intro Γ m args H r h; unfold X185 at h; split at h
  · exact ⟨Eq.trans (by kernel_rfl) h, Nat.le_of_ble_eq_true (by kernel_rfl)⟩
  · exact M.iFail h
theorem K185 : CodeOk Tryz.prog 185 k185 := .of Tryz.func185 (by kernel_rfl) (by kernel_rfl) h185 (fc o185_100001 fe)
noncomputable def EF : Tr Ent := (.n none (.n none .e (.n none (.n none .e (.n none .e (.n none .e (.n none (.n (some (.code k185)) .e .e) .e)))) .e)) .e)
theorem EF_ok : TrOk Tryz.prog EF := ((TrOkAt.n ent_none (TrOkAt.n ent_none TrOkAt.e (TrOkAt.n ent_none (TrOkAt.n ent_none TrOkAt.e (TrOkAt.n ent_none TrOkAt.e (TrOkAt.n ent_none TrOkAt.e (TrOkAt.n ent_none (TrOkAt.n (ent_one K185) TrOkAt.e TrOkAt.e) TrOkAt.e)))) TrOkAt.e)) TrOkAt.e) : TrOkAt Tryz.prog EF fun q => q)
end Go.Proofs.YtgnkjpbecgpjoaaGreatDoor
