/- AppTakes answers true, whatever the input, and the input reads as it did. Conditions: none. -/
import Derived.Test.YtbheppfjaeocpaaGreatDoorRows
import Derived.Test.YtbheppfjaeocpaaGreatDoorLz
import Derived.Test.YtbheppfjaeocpaaGreatDoorTk1
import Derived.WalkKit
import Derived.ProofKit
import Derived.OpenShut
import Derived.ShutString
import Derived.ChangeOld
import Derived.Below
import Derived.SizedLaws
import Derived.ChangeMaps5
import Derived.Handed
import Derived.LaidLaws
import Derived.Lay
import Derived.LaidOnce
import Derived.SevenTiedAt
import Derived.MakeChecks
set_option linter.unusedVariables false
set_option linter.unusedSimpArgs false
namespace Go.Proofs.YtbheppfjaeocpaaGreatDoor.appTakes
open Go Go.ChangeShapes Go.WideShapes Go.ChangeAt Go.RowKit Go.Proofs.YtbheppfjaeocpaaGreatDoor.Fw

theorem own : ownKnob Tryz.prog.godebug = none := by kernel_rfl
theorem laidOut : laidOutB Tryz.prog = true := by kernel_rfl

theorem walk (W : World) {el : TypeId} {fz : Nat × Nat} (hpw : W.heap[0]? = some (.cells powCells.toArray el fz)) {a0 : Option Addr} {len0 cap0 : Nat} {es0 : List (List Value)} (r0 : RowE W a0 len0 cap0 1 es0) (k0 : ∀ e ∈ es0, Flat [.string] e) (y0 : len0 * 16 ≤ 140737488351232) :
    Calls Tryz.prog 8 #[.slice a0 len0 cap0] W fun e W' => e = .returned (.bool true) ∧ Below W.heap.size W W' := by
  obtain ⟨xs0, fl0, hx0⟩ := RowE.recs (f := recT) (ks := [.string]) recT_inv r0 (by decide) k0
  let L : List (Pl × AObj) := globL ++ [(rowPlE W a0 1, rowObjE 1 es0.flatten)]
  obtain ⟨H', hF⟩ : ∃ H', F8 [rowVal 8 a0 len0 cap0] (iniH L) = some (.bool true, H') := main8 (globL_pow _) (hx0 (iniH L) 8 rfl) y0 (fun x h => by cases a0 <;> simp at h; subst h; simp [iniH, L, globL])
  refine law_calls S8 Tryz.func8 (by kernel_rfl) (by kernel_rfl) (L := L) (w := W) (args' := [.slice a0 len0 cap0]) (globL_glob _) (fun x hx => ?_) (VL.cons ((r0.val (by decide) rfl)) VL.nil) hF
  rcases List.mem_append.1 hx with hx | hx
  · exact globL_ok hpw x hx
  simp only [List.mem_cons, List.not_mem_nil, or_false] at hx
  subst hx
  exact ⟨rowObjE_own _ _, fun ρ => r0.obj (by decide) ρ⟩

set_option maxRecDepth 100000 in
theorem lifted (os : Os) (started : os.Started) (H : Type) (enc : TypeId × Value → H) :
    ReturnsInHanded {} Tryz.checked os 8 .any (fun w args => (Rows.appTakesSpec.pre enc Tryz.prog Tryz.f8 Rows.appTakesRow.domain false w args ∧ laidMetH Tryz.prog Rows.appTakesRow.laid w) ∧ sizedMet enc Tryz.prog Tryz.f8 (OpenSpec.ofChange Rows.appTakesSpec) false w args)
      (Rows.appTakesSpec.post enc Tryz.prog Tryz.f8 false true false false) := by
  refine returnsInHanded_of_change_and (C := Tryz.checked) (X := fun w _ => laidMetH Tryz.prog Rows.appTakesRow.laid w) (fun _ _ _ hh h => h.of_heap hh) own started (by kernel_rfl) Tryz.func8
    (ChangeSpec.witness_shaped (enc := enc) (C := Tryz.checked) (os := os) (X := fun w _ => laidMetH Tryz.prog Rows.appTakesRow.laid w) false (World.laidAll Tryz.prog os Rows.appTakesRow.laid) #[.slice none 0 0] 8 (World.laidAll_os _ _ _)
      (World.shaped_of_ZipB (by kernel_rfl) (by kernel_rfl)) (by kernel_rfl) (by kernel_rfl) (by kernel_rfl)
      (by rw [MakeChecks.laidMetH_plain _ _ _ (by kernel_rfl)]; exact laidMet_laidAll _ (by kernel_rfl) (by kernel_rfl))) ?_
  intro W base args ds gs before hval0 hW hcnd hsz0 hL _
  rw [MakeChecks.laidMetH_plain _ _ _ (by kernel_rfl)] at hL
  obtain ⟨el, fz, hpw⟩ := pow_laid hL (by simp [Rows.appTakesRow])
  have hsz : (DataW.weightsEach Tryz.prog (Tryz.f8.params.toList ++ Rows.appTakesSpec.plain.varTypes Tryz.prog) (ds ++ gs)).all (· ≤ reachBytes) = true := hsz0
  have hval : ∀ (j : Nat) t v, Tryz.f8.params[j]? = some t → args[j]? = some v → Value.okWide Tryz.prog W .any base t v := hval0
  have hW' := hW
  obtain ⟨p, q, hA0, hV, rfl, hfz, hnd⟩ := hW
  have hA : DataW.TrodAll enc Tryz.prog W 0 (fun _ => true) true Tryz.f8.params.toList args.toList ds p := hA0
  rw [Tryz.params8] at hA hval hsz
  obtain ⟨v0, vs0, d0, ds0, p0, q0, hargs, rfl, rfl, h0, r0⟩ := trodAll_cons hA
  obtain ⟨rfl, rfl, rfl⟩ := trodAll_nil r0
  obtain rfl : args = #[v0] := by cases args; simp_all
  obtain ⟨rfl, rfl⟩ := trodVars_none hV
  have er : reachBytes = 140737488351232 := rfl
  obtain ⟨a0, len0, cap0, rfl⟩ := okWide_slice Tryz.underlying37 (hval 0 37 v0 rfl rfl)
  have k0 := h0
  have lt0 : ∀ x ∈ p0, x.block < W.heap.size := by obtain ⟨m, hm⟩ := k0; exact DataW.trod_lt m _ _ _ hm
  obtain ⟨fuel0, hf0⟩ := h0
  obtain ⟨m0, es0, w0, o0⟩ := open_flat (ks := [.string]) 20 Tryz.underlying37 (by kernel_rfl) (by kernel_rfl) hf0 rfl
  have y0 : len0 * 16 ≤ 140737488351232 := by
    rcases slice_len Tryz.underlying37 hf0 rfl with h | ⟨el, r, rfl, hel⟩
    · omega
    · have z := sized_slice hsz (j := 0) (t := 37) rfl rfl Tryz.underlying37
      rw [show Tryz.prog.bytesOf 9 = 16 by kernel_rfl] at z
      omega
  clear hA0 hval0 hsz0 hsz
  refine (walk W hpw w0 o0 y0).mono fun e W' ⟨he, bel⟩ => ?_
  subst he
  exact ⟨_, rfl, _, _, _, [], _, [], hW', trodAll_mk1 (shut_bool Tryz.underlying4 _), (trodAll_cons_mk (Below.trod laidOut (by kernel_rfl) (of_decide_eq_true (by kernel_rfl)) k0 bel lt0) trodAll_mk0), rfl, bel.frame _, fun h => by cases h⟩

theorem over : Rows.appTakesRow.holds Tryz.pinned (OpenSpec.ofChange Rows.appTakesSpec) :=
  OpenClaim.holds_of_wide 8 Tryz.f8 rfl rfl rfl rfl rfl rfl rfl ⟨rfl, rfl, rfl, rfl, rfl⟩ rfl rfl rfl rfl rfl (by kernel_rfl) Tryz.func8 (by kernel_rfl)
    (of_decide_eq_true (by kernel_rfl)) (by unfold Func.isWrapper; first | (rw [if_pos (by decide +kernel)]; kernel_rfl) | (rw [if_neg (by decide +kernel)]; exact ⟨rfl, rfl⟩))
    (fun os started H enc _ => lifted os started H enc)
theorem proved : Rows.AppTakesSaid := over
theorem plain (f : FuncId) (fn : Func) (hf : Tryz.pinned.checked.prog.funcNamed "sternpost/sternpostlaw21.AppTakes" = some f) (hfn : Tryz.pinned.checked.prog.funcs[f]? = some fn) :
    true = Tryz.pinned.checked.prog.looks [] ∧ ∀ (j : Nat) t, fn.params[j]? = some t → Tryz.pinned.checked.prog.wantsStandIn t = false := by
  obtain rfl : f = 8 := Option.some.inj ((show Tryz.prog.funcNamed "sternpost/sternpostlaw21.AppTakes" = some 8 by kernel_rfl).symm.trans hf) |>.symm
  obtain rfl : fn = Tryz.f8 := (Option.some.inj (Tryz.func8.symm.trans hfn)).symm
  refine ⟨by kernel_rfl, fun j t ht => ?_⟩
  rw [Tryz.params8] at ht
  have hm := Array.mem_of_getElem? ht
  simp at hm
  rcases hm with rfl
  all_goals exact (show Tryz.prog.wantsStandIn _ = false by kernel_rfl)
theorem carded : Rows.AppTakesCardSaid :=
  Claim7.holds_tied_plain_at .later [] _ _ _ _ proved (fun _ h => by cases h) (by kernel_rfl) (fun _ h => by cases h) appTakes_row_tie rfl ⟨rfl, rfl⟩ (by kernel_rfl) rfl plain (by kernel_rfl)
end Go.Proofs.YtbheppfjaeocpaaGreatDoor.appTakes
namespace Go.Proofs.YtbheppfjaeocpaaGreatDoor
/-- The card, under a short name, for the claim. -/
theorem appTakes_holds : Rows.AppTakesCardSaid := appTakes.carded
#print axioms appTakes_holds
end Go.Proofs.YtbheppfjaeocpaaGreatDoor
