/- AppKeeps answers true, whatever the input, and the input reads as it did. Conditions: none. -/
import Derived.Test.YtbheppfjaeocpaaGreatDoorRows
import Derived.Test.YtbheppfjaeocpaaGreatDoorLz
import Derived.Test.YtbheppfjaeocpaaGreatDoorSl4
import Derived.WalkKit
import Derived.ProofKit
import Derived.OpenShut
import Derived.ShutString
import Derived.ChangeOld
import Derived.Below
import Derived.SizedLaws
import Derived.ChangeMaps5
import Derived.Handed
import Derived.LaidLaws
import Derived.Lay
import Derived.LaidOnce
import Derived.SevenTiedAt
import Derived.MakeChecks
set_option linter.unusedVariables false
set_option linter.unusedSimpArgs false
namespace Go.Proofs.YtbheppfjaeocpaaGreatDoor.appKeeps
open Go Go.ChangeShapes Go.WideShapes Go.ChangeAt Go.RowKit Go.Proofs.YtbheppfjaeocpaaGreatDoor.Fw

theorem own : ownKnob Tryz.prog.godebug = none := by kernel_rfl
theorem laidOut : laidOutB Tryz.prog = true := by kernel_rfl

theorem walk (W : World) {el : TypeId} {fz : Nat × Nat} (hpw : W.heap[0]? = some (.cells powCells.toArray el fz)) {a0 : Option Addr} {len0 cap0 : Nat} {es0 : List (List Value)} (r0 : RowE W a0 len0 cap0 3 es0) (k0 : ∀ e ∈ es0, Flat [.int .i64, .int .i64, .string] e) (y0 : len0 * 32 ≤ 140737488351232) :
    Calls Tryz.prog 4 #[.slice a0 len0 cap0] W fun e W' => e = .returned (.bool true) ∧ Below W.heap.size W W' := by
  obtain ⟨xs0, fl0, hx0⟩ := RowE.recs (f := recA) (ks := [.int .i64, .int .i64, .string]) recA_inv r0 (by decide) k0
  let L : List (Pl × AObj) := globL ++ [(rowPlE W a0 3, rowObjE 3 es0.flatten)]
  obtain ⟨H', hF⟩ : ∃ H', F4 [rowVal 8 a0 len0 cap0] (iniH L) = some (.bool true, H') := main4 (globL_pow _) (hx0 (iniH L) 8 rfl) y0 (fun x h => by cases a0 <;> simp at h; subst h; simp [iniH, L, globL]) fl0
  refine law_calls S4 Tryz.func4 (by kernel_rfl) (by kernel_rfl) (L := L) (w := W) (args' := [.slice a0 len0 cap0]) (globL_glob _) (fun x hx => ?_) (VL.cons ((r0.val (by decide) rfl)) VL.nil) hF
  rcases List.mem_append.1 hx with hx | hx
  · exact globL_ok hpw x hx
  simp only [List.mem_cons, List.not_mem_nil, or_false] at hx
  subst hx
  exact ⟨rowObjE_own _ _, fun ρ => r0.obj (by decide) ρ⟩

set_option maxRecDepth 100000 in
theorem lifted (os : Os) (started : os.Started) (H : Type) (enc : TypeId × Value → H) :
    ReturnsInHanded {} Tryz.checked os 4 .any (fun w args => (Rows.appKeepsSpec.pre enc Tryz.prog Tryz.f4 Rows.appKeepsRow.domain false w args ∧ laidMetH Tryz.prog Rows.appKeepsRow.laid w) ∧ sizedMet enc Tryz.prog Tryz.f4 (OpenSpec.ofChange Rows.appKeepsSpec) false w args)
      (Rows.appKeepsSpec.post enc Tryz.prog Tryz.f4 false true false false) := by
  refine returnsInHanded_of_change_and (C := Tryz.checked) (X := fun w _ => laidMetH Tryz.prog Rows.appKeepsRow.laid w) (fun _ _ _ hh h => h.of_heap hh) own started (by kernel_rfl) Tryz.func4
    (ChangeSpec.witness_shaped (enc := enc) (C := Tryz.checked) (os := os) (X := fun w _ => laidMetH Tryz.prog Rows.appKeepsRow.laid w) false (World.laidAll Tryz.prog os Rows.appKeepsRow.laid) #[.slice none 0 0] 8 (World.laidAll_os _ _ _)
      (World.shaped_of_ZipB (by kernel_rfl) (by kernel_rfl)) (by kernel_rfl) (by kernel_rfl) (by kernel_rfl)
      (by rw [MakeChecks.laidMetH_plain _ _ _ (by kernel_rfl)]; exact laidMet_laidAll _ (by kernel_rfl) (by kernel_rfl))) ?_
  intro W base args ds gs before hval0 hW hcnd hsz0 hL _
  rw [MakeChecks.laidMetH_plain _ _ _ (by kernel_rfl)] at hL
  obtain ⟨el, fz, hpw⟩ := pow_laid hL (by simp [Rows.appKeepsRow])
  have hsz : (DataW.weightsEach Tryz.prog (Tryz.f4.params.toList ++ Rows.appKeepsSpec.plain.varTypes Tryz.prog) (ds ++ gs)).all (· ≤ reachBytes) = true := hsz0
  have hval : ∀ (j : Nat) t v, Tryz.f4.params[j]? = some t → args[j]? = some v → Value.okWide Tryz.prog W .any base t v := hval0
  have hW' := hW
  obtain ⟨p, q, hA0, hV, rfl, hfz, hnd⟩ := hW
  have hA : DataW.TrodAll enc Tryz.prog W 0 (fun _ => true) true Tryz.f4.params.toList args.toList ds p := hA0
  rw [Tryz.params4] at hA hval hsz
  obtain ⟨v0, vs0, d0, ds0, p0, q0, hargs, rfl, rfl, h0, r0⟩ := trodAll_cons hA
  obtain ⟨rfl, rfl, rfl⟩ := trodAll_nil r0
  obtain rfl : args = #[v0] := by cases args; simp_all
  obtain ⟨rfl, rfl⟩ := trodVars_none hV
  have er : reachBytes = 140737488351232 := rfl
  obtain ⟨a0, len0, cap0, rfl⟩ := okWide_slice Tryz.underlying26 (hval 0 26 v0 rfl rfl)
  have k0 := h0
  have lt0 : ∀ x ∈ p0, x.block < W.heap.size := by obtain ⟨m, hm⟩ := k0; exact DataW.trod_lt m _ _ _ hm
  obtain ⟨fuel0, hf0⟩ := h0
  obtain ⟨m0, es0, w0, o0⟩ := open_flat (ks := [.int .i64, .int .i64, .string]) 20 Tryz.underlying26 (by kernel_rfl) (by kernel_rfl) hf0 rfl
  have y0 : len0 * 32 ≤ 140737488351232 := by
    rcases slice_len Tryz.underlying26 hf0 rfl with h | ⟨el, r, rfl, hel⟩
    · omega
    · have z := sized_slice hsz (j := 0) (t := 26) rfl rfl Tryz.underlying26
      rw [show Tryz.prog.bytesOf 33 = 32 by kernel_rfl] at z
      omega
  clear hA0 hval0 hsz0 hsz
  refine (walk W hpw w0 o0 y0).mono fun e W' ⟨he, bel⟩ => ?_
  subst he
  exact ⟨_, rfl, _, _, _, [], _, [], hW', trodAll_mk1 (shut_bool Tryz.underlying4 _), (trodAll_cons_mk (Below.trod laidOut (by kernel_rfl) (of_decide_eq_true (by kernel_rfl)) k0 bel lt0) trodAll_mk0), rfl, bel.frame _, fun h => by cases h⟩

theorem over : Rows.appKeepsRow.holds Tryz.pinned (OpenSpec.ofChange Rows.appKeepsSpec) :=
  OpenClaim.holds_of_wide 4 Tryz.f4 rfl rfl rfl rfl rfl rfl rfl ⟨rfl, rfl, rfl, rfl, rfl⟩ rfl rfl rfl rfl rfl (by kernel_rfl) Tryz.func4 (by kernel_rfl)
    (of_decide_eq_true (by kernel_rfl)) (by unfold Func.isWrapper; first | (rw [if_pos (by decide +kernel)]; kernel_rfl) | (rw [if_neg (by decide +kernel)]; exact ⟨rfl, rfl⟩))
    (fun os started H enc _ => lifted os started H enc)
theorem proved : Rows.AppKeepsSaid := over
theorem plain (f : FuncId) (fn : Func) (hf : Tryz.pinned.checked.prog.funcNamed "sternpost/sternpostlaw21.AppKeeps" = some f) (hfn : Tryz.pinned.checked.prog.funcs[f]? = some fn) :
    true = Tryz.pinned.checked.prog.looks [] ∧ ∀ (j : Nat) t, fn.params[j]? = some t → Tryz.pinned.checked.prog.wantsStandIn t = false := by
  obtain rfl : f = 4 := Option.some.inj ((show Tryz.prog.funcNamed "sternpost/sternpostlaw21.AppKeeps" = some 4 by kernel_rfl).symm.trans hf) |>.symm
  obtain rfl : fn = Tryz.f4 := (Option.some.inj (Tryz.func4.symm.trans hfn)).symm
  refine ⟨by kernel_rfl, fun j t ht => ?_⟩
  rw [Tryz.params4] at ht
  have hm := Array.mem_of_getElem? ht
  simp at hm
  rcases hm with rfl
  all_goals exact (show Tryz.prog.wantsStandIn _ = false by kernel_rfl)
theorem carded : Rows.AppKeepsCardSaid :=
  Claim7.holds_tied_plain_at .later [] _ _ _ _ proved (fun _ h => by cases h) (by kernel_rfl) (fun _ h => by cases h) appKeeps_row_tie rfl ⟨rfl, rfl⟩ (by kernel_rfl) rfl plain (by kernel_rfl)
end Go.Proofs.YtbheppfjaeocpaaGreatDoor.appKeeps
namespace Go.Proofs.YtbheppfjaeocpaaGreatDoor
/-- The card, under a short name, for the claim. -/
theorem appKeeps_holds : Rows.AppKeepsCardSaid := appKeeps.carded
#print axioms appKeeps_holds
end Go.Proofs.YtbheppfjaeocpaaGreatDoor
