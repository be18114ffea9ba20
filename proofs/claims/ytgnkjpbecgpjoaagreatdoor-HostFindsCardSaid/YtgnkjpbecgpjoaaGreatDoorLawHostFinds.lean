/- HostFinds answers true, whatever the input, and the input reads as it did. Conditions: none. -/
import Derived.Test.YtgnkjpbecgpjoaaGreatDoorRows
import Derived.Test.YtgnkjpbecgpjoaaGreatDoorLz5
import Derived.Test.YtgnkjpbecgpjoaaGreatDoorHf2
import Derived.Test.YtgnkjpbecgpjoaaGreatDoorRb
import Derived.Test.YtgnkjpbecgpjoaaGreatDoorRi
import Derived.Test.YtgnkjpbecgpjoaaGreatDoorRo
import Derived.Test.YtgnkjpbecgpjoaaGreatDoorRh
import Derived.Test.YtgnkjpbecgpjoaaGreatDoorRg
import Derived.Test.YtgnkjpbecgpjoaaGreatDoorCards
import Derived.Test.YtgnkjpbecgpjoaaGreatDoorYt
import Derived.WalkKit
import Derived.ProofKit
import Derived.OpenShut
import Derived.ShutString
import Derived.ChangeOld
import Derived.Below
import Derived.SizedLaws
import Derived.ChangeMaps5
import Derived.Handed
import Derived.LaidLaws
import Derived.Lay
import Derived.LaidOnce
import Derived.SevenTiedAt
import Derived.MakeChecks
set_option linter.unusedVariables false
set_option linter.unusedSimpArgs false
namespace Go.Proofs.YtgnkjpbecgpjoaaGreatDoor.hostFinds
open Go Go.ChangeShapes Go.WideShapes Go.ChangeAt Go.RowKit Go.Proofs.YtgnkjpbecgpjoaaGreatDoor.Fw


theorem walk (W : World) (x0 : Int) (b1 : Bool) :
    Calls Tryz.prog 4 #[.int .i64 x0, .bool b1] W fun e W' => e = .returned (.bool true) ∧ Below W.heap.size W W' := by
  let L : List (Pl × AObj) := globL ++ []
  obtain ⟨H', hF⟩ : ∃ H', F4 [.int .i64 x0, .bool b1] (iniH L) = some (.bool true, H') := main4 x0 b1
  refine law_calls S4 Tryz.func4 (by kernel_rfl) (by kernel_rfl) (L := L) (w := W) (args' := [.int .i64 x0, .bool b1]) (globL_glob _) (fun x hx => ?_) (VL.cons (VR.int _ _) (VL.cons (VR.bool _) VL.nil)) hF
  rcases List.mem_append.1 hx with hx | hx
  · exact globL_ok x hx
  simp at hx

set_option maxRecDepth 100000 in
theorem lifted (os : Os) (started : os.Started) (H : Type) (enc : TypeId × Value → H) :
    ReturnsInHanded {} Tryz.checked os 4 .any (fun w args => (Rows.hostFindsSpec.pre enc Tryz.prog Tryz.f4 Rows.hostFindsRow.domain false w args ∧ laidMetH Tryz.prog Rows.hostFindsRow.laid w) ∧ sizedMet enc Tryz.prog Tryz.f4 (OpenSpec.ofChange Rows.hostFindsSpec) false w args)
      (Rows.hostFindsSpec.post enc Tryz.prog Tryz.f4 false true false false) := by
  refine returnsInHanded_of_change_and (C := Tryz.checked) (X := fun w _ => laidMetH Tryz.prog Rows.hostFindsRow.laid w) (fun _ _ _ hh h => h.of_heap hh) own started no_init Tryz.func4
    (ChangeSpec.witness_shaped (enc := enc) (C := Tryz.checked) (os := os) (X := fun w _ => laidMetH Tryz.prog Rows.hostFindsRow.laid w) false (wit os) #[.int .i64 0, .bool false] 8 (wit_os os)
      (World.shaped_of_ZipB (wit_zip os) (wit_rest os)) (wit_ok os) (wit_pre enc os) (wit_size enc os) (wit_met os)) ?_
  intro W base args ds gs before hval0 hW hcnd hsz0 hL _
  have hsz : (DataW.weightsEach Tryz.prog (Tryz.f4.params.toList ++ Rows.hostFindsSpec.plain.varTypes Tryz.prog) (ds ++ gs)).all (· ≤ reachBytes) = true := hsz0
  have hval : ∀ (j : Nat) t v, Tryz.f4.params[j]? = some t → args[j]? = some v → Value.okWide Tryz.prog W .any base t v := hval0
  have hW' := hW
  obtain ⟨p, q, hA0, hV, rfl, hfz, hnd⟩ := hW
  have hA : DataW.TrodAll enc Tryz.prog W 0 (fun _ => true) true Tryz.f4.params.toList args.toList ds p := hA0
  rw [Tryz.params4] at hA hval hsz
  obtain ⟨v0, vs0, d0, ds0, p0, q0, hargs, rfl, rfl, h0, r0⟩ := trodAll_cons hA
  obtain ⟨v1, vs1, d1, ds1, p1, q1, rfl, rfl, rfl, h1, r1⟩ := trodAll_cons r0
  obtain ⟨rfl, rfl, rfl⟩ := trodAll_nil r1
  obtain rfl : args = #[v0, v1] := by cases args; simp_all
  obtain ⟨rfl, rfl⟩ := trodVars_none hV
  have er : reachBytes = 140737488351232 := rfl
  obtain ⟨a0, rfl, rfl, rfl, w0⟩ := open_int Tryz.underlying3 (hval 0 3 v0 rfl rfl) h0
  obtain ⟨b1, rfl, rfl, rfl⟩ := open_bool Tryz.underlying4 (hval 1 4 v1 rfl rfl) h1
  clear hA0 hval0 hsz0 hsz
  refine (walk W a0 b1).mono fun e W' ⟨he, bel⟩ => ?_
  subst he
  exact ⟨_, rfl, _, _, _, [], _, [], hW', trodAll_mk1 (shut_bool Tryz.underlying4 _), (trodAll_cons_mk (shut_int Tryz.underlying3 w0) (trodAll_cons_mk (shut_bool Tryz.underlying4 _) trodAll_mk0)), rfl, bel.frame _, fun h => by cases h⟩

theorem over : Rows.hostFindsRow.holds Tryz.pinned (OpenSpec.ofChange Rows.hostFindsSpec) :=
  OpenClaim.holds_of_wide 4 Tryz.f4 rfl rfl rfl rfl rfl rfl rfl ⟨rfl, rfl, rfl, rfl, rfl⟩ rfl rfl rfl rfl rfl fact_name Tryz.func4 closed
    (of_decide_eq_true fact_inst) fact_wrap
    (fun os started H enc _ => lifted os started H enc)
theorem proved : Rows.HostFindsSaid := over
theorem plain (f : FuncId) (fn : Func) (hf : Tryz.pinned.checked.prog.funcNamed "sternpost/sternpostlaw22.HostFinds" = some f) (hfn : Tryz.pinned.checked.prog.funcs[f]? = some fn) :
    true = Tryz.pinned.checked.prog.looks [] ∧ ∀ (j : Nat) t, fn.params[j]? = some t → Tryz.pinned.checked.prog.wantsStandIn t = false := by
  obtain rfl : f = 4 := Option.some.inj (fact_name.symm.trans hf) |>.symm
  obtain rfl : fn = Tryz.f4 := (Option.some.inj (Tryz.func4.symm.trans hfn)).symm
  refine ⟨fact_looks, fun j t ht => ?_⟩
  rw [Tryz.params4] at ht
  have hm := Array.mem_of_getElem? ht
  simp at hm
  rcases hm with rfl | rfl
  all_goals exact (show Tryz.prog.wantsStandIn _ = false by kernel_rfl)
theorem carded : Rows.HostFindsCardSaid :=
  Claim7.holds_tied_plain_at .later [] _ _ _ _ proved (fun _ h => by cases h) fact_wf (fun _ h => by cases h) hostFinds_row_tie rfl ⟨rfl, rfl⟩ fact_main rfl plain fact_goes
end Go.Proofs.YtgnkjpbecgpjoaaGreatDoor.hostFinds
namespace Go.Proofs.YtgnkjpbecgpjoaaGreatDoor
/-- The card, under a short name, for the claim. -/
theorem hostFinds_holds : Rows.HostFindsCardSaid := hostFinds.carded
#print axioms hostFinds_holds
end Go.Proofs.YtgnkjpbecgpjoaaGreatDoor
