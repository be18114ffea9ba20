/- TopClaims answers true, whatever the input, and the input reads as it did. Conditions: none. -/
import Derived.Test.YtgnkjpbecgpjoaaGreatDoorRows
import Derived.Test.YtgnkjpbecgpjoaaGreatDoorLz5
import Derived.Test.YtgnkjpbecgpjoaaGreatDoorTc2
import Derived.Test.YtgnkjpbecgpjoaaGreatDoorRb
import Derived.Test.YtgnkjpbecgpjoaaGreatDoorRi
import Derived.Test.YtgnkjpbecgpjoaaGreatDoorRo
import Derived.Test.YtgnkjpbecgpjoaaGreatDoorRf
import Derived.Test.YtgnkjpbecgpjoaaGreatDoorRg
import Derived.Test.YtgnkjpbecgpjoaaGreatDoorRh
import Derived.Test.YtgnkjpbecgpjoaaGreatDoorCards
import Derived.Test.YtgnkjpbecgpjoaaGreatDoorYt
import Derived.WalkKit
import Derived.ProofKit
import Derived.OpenShut
import Derived.ShutString
import Derived.ChangeOld
import Derived.Below
import Derived.SizedLaws
import Derived.ChangeMaps5
import Derived.Handed
import Derived.LaidLaws
import Derived.Lay
import Derived.LaidOnce
import Derived.SevenTiedAt
import Derived.MakeChecks
set_option linter.unusedVariables false
set_option linter.unusedSimpArgs false
namespace Go.Proofs.YtgnkjpbecgpjoaaGreatDoor.topClaims
open Go Go.ChangeShapes Go.WideShapes Go.ChangeAt Go.RowKit Go.Proofs.YtgnkjpbecgpjoaaGreatDoor.Fw


theorem walk (W : World) {a0 : Option Addr} {len0 cap0 : Nat} {es0 : List (List Value)} (r0 : RowE W a0 len0 cap0 1 es0) (k0 : ∀ e ∈ es0, Flat [.int .i64] e) (y0 : len0 * 8 ≤ 140737488351232) :
    Calls Tryz.prog 3 #[.slice a0 len0 cap0] W fun e W' => e = .returned (.bool true) ∧ Below W.heap.size W W' :=
  main3 r0 k0

set_option maxRecDepth 100000 in
theorem lifted (os : Os) (started : os.Started) (H : Type) (enc : TypeId × Value → H) :
    ReturnsInHanded {} Tryz.checked os 3 .any (fun w args => (Rows.topClaimsSpec.pre enc Tryz.prog Tryz.f3 Rows.topClaimsRow.domain false w args ∧ laidMetH Tryz.prog Rows.topClaimsRow.laid w) ∧ sizedMet enc Tryz.prog Tryz.f3 (OpenSpec.ofChange Rows.topClaimsSpec) false w args)
      (Rows.topClaimsSpec.post enc Tryz.prog Tryz.f3 false true false false) := by
  refine returnsInHanded_of_change_and (C := Tryz.checked) (X := fun w _ => laidMetH Tryz.prog Rows.topClaimsRow.laid w) (fun _ _ _ hh h => h.of_heap hh) own started no_init Tryz.func3
    (ChangeSpec.witness_shaped (enc := enc) (C := Tryz.checked) (os := os) (X := fun w _ => laidMetH Tryz.prog Rows.topClaimsRow.laid w) false (wit os) #[.slice none 0 0] 8 (wit_os os)
      (World.shaped_of_ZipB (wit_zip os) (wit_rest os)) (wit_ok os) (wit_pre enc os) (wit_size enc os) (wit_met os)) ?_
  intro W base args ds gs before hval0 hW hcnd hsz0 hL _
  have hsz : (DataW.weightsEach Tryz.prog (Tryz.f3.params.toList ++ Rows.topClaimsSpec.plain.varTypes Tryz.prog) (ds ++ gs)).all (· ≤ reachBytes) = true := hsz0
  have hval : ∀ (j : Nat) t v, Tryz.f3.params[j]? = some t → args[j]? = some v → Value.okWide Tryz.prog W .any base t v := hval0
  have hW' := hW
  obtain ⟨p, q, hA0, hV, rfl, hfz, hnd⟩ := hW
  have hA : DataW.TrodAll enc Tryz.prog W 0 (fun _ => true) true Tryz.f3.params.toList args.toList ds p := hA0
  rw [Tryz.params3] at hA hval hsz
  obtain ⟨v0, vs0, d0, ds0, p0, q0, hargs, rfl, rfl, h0, r0⟩ := trodAll_cons hA
  obtain ⟨rfl, rfl, rfl⟩ := trodAll_nil r0
  obtain rfl : args = #[v0] := by cases args; simp_all
  obtain ⟨rfl, rfl⟩ := trodVars_none hV
  have er : reachBytes = 140737488351232 := rfl
  obtain ⟨a0, len0, cap0, rfl⟩ := okWide_slice Tryz.underlying22 (hval 0 22 v0 rfl rfl)
  have k0 := h0
  have lt0 : ∀ x ∈ p0, x.block < W.heap.size := by obtain ⟨m, hm⟩ := k0; exact DataW.trod_lt m _ _ _ hm
  obtain ⟨fuel0, hf0⟩ := h0
  obtain ⟨m0, es0, w0, o0⟩ := open_flat (ks := [.int .i64]) 20 Tryz.underlying22 (by kernel_rfl) (by kernel_rfl) hf0 rfl
  have y0 : len0 * 8 ≤ 140737488351232 := by
    rcases slice_len Tryz.underlying22 hf0 rfl with h | ⟨el, r, rfl, hel⟩
    · omega
    · have z := sized_slice hsz (j := 0) (t := 22) rfl rfl Tryz.underlying22
      rw [show Tryz.prog.bytesOf 3 = 8 by kernel_rfl] at z
      omega
  clear hA0 hval0 hsz0 hsz
  refine (walk W w0 o0 y0).mono fun e W' ⟨he, bel⟩ => ?_
  subst he
  exact ⟨_, rfl, _, _, _, [], _, [], hW', trodAll_mk1 (shut_bool Tryz.underlying4 _), (trodAll_cons_mk (Below.trod laidOut (by kernel_rfl) (of_decide_eq_true (by kernel_rfl)) k0 bel lt0) trodAll_mk0), rfl, bel.frame _, fun h => by cases h⟩

theorem over : Rows.topClaimsRow.holds Tryz.pinned (OpenSpec.ofChange Rows.topClaimsSpec) :=
  OpenClaim.holds_of_wide 3 Tryz.f3 rfl rfl rfl rfl rfl rfl rfl ⟨rfl, rfl, rfl, rfl, rfl⟩ rfl rfl rfl rfl rfl fact_name Tryz.func3 closed
    (of_decide_eq_true fact_inst) fact_wrap
    (fun os started H enc _ => lifted os started H enc)
theorem proved : Rows.TopClaimsSaid := over
theorem plain (f : FuncId) (fn : Func) (hf : Tryz.pinned.checked.prog.funcNamed "sternpost/sternposttop.TopClaims" = some f) (hfn : Tryz.pinned.checked.prog.funcs[f]? = some fn) :
    true = Tryz.pinned.checked.prog.looks [] ∧ ∀ (j : Nat) t, fn.params[j]? = some t → Tryz.pinned.checked.prog.wantsStandIn t = false := by
  obtain rfl : f = 3 := Option.some.inj (fact_name.symm.trans hf) |>.symm
  obtain rfl : fn = Tryz.f3 := (Option.some.inj (Tryz.func3.symm.trans hfn)).symm
  refine ⟨fact_looks, fun j t ht => ?_⟩
  rw [Tryz.params3] at ht
  have hm := Array.mem_of_getElem? ht
  simp at hm
  rcases hm with rfl
  all_goals exact (show Tryz.prog.wantsStandIn _ = false by kernel_rfl)
theorem carded : Rows.TopClaimsCardSaid :=
  Claim7.holds_tied_plain_at .later [] _ _ _ _ proved (fun _ h => by cases h) fact_wf (fun _ h => by cases h) topClaims_row_tie rfl ⟨rfl, rfl⟩ fact_main rfl plain fact_goes
end Go.Proofs.YtgnkjpbecgpjoaaGreatDoor.topClaims
namespace Go.Proofs.YtgnkjpbecgpjoaaGreatDoor
/-- The card, under a short name, for the claim. -/
theorem topClaims_holds : Rows.TopClaimsCardSaid := topClaims.carded
#print axioms topClaims_holds
end Go.Proofs.YtgnkjpbecgpjoaaGreatDoor
