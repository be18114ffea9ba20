/- AppPieces answers true, whatever the input, and the input reads as it did. Conditions: none. -/
import Derived.Test.YtbheppfjaeocpaaGreatDoorRows
import Derived.Test.YtbheppfjaeocpaaGreatDoorLz
import Derived.Test.YtbheppfjaeocpaaGreatDoorSl2
import Derived.WalkKit
import Derived.ProofKit
import Derived.OpenShut
import Derived.ShutString
import Derived.ChangeOld
import Derived.Below
import Derived.SizedLaws
import Derived.ChangeMaps5
import Derived.Handed
import Derived.LaidLaws
import Derived.Lay
import Derived.LaidOnce
import Derived.SevenTiedAt
import Derived.MakeChecks
set_option linter.unusedVariables false
set_option linter.unusedSimpArgs false
namespace Go.Proofs.YtbheppfjaeocpaaGreatDoor.appPieces
open Go Go.ChangeShapes Go.WideShapes Go.ChangeAt Go.RowKit Go.Proofs.YtbheppfjaeocpaaGreatDoor.Fw

theorem own : ownKnob Tryz.prog.godebug = none := by kernel_rfl
theorem laidOut : laidOutB Tryz.prog = true := by kernel_rfl

theorem walk (W : World) {el : TypeId} {fz : Nat × Nat} (hpw : W.heap[0]? = some (.cells powCells.toArray el fz)) (s0 : ByteArray) (hs0 : s0.size ≤ 140737488351232) {a1 : Option Addr} {len1 cap1 : Nat} {es1 : List (List Value)} (r1 : RowE W a1 len1 cap1 1 es1) (k1 : ∀ e ∈ es1, Flat [.int .i64] e) (y1 : len1 * 8 ≤ 140737488351232) :
    Calls Tryz.prog 6 #[.string s0, .slice a1 len1 cap1] W fun e W' => e = .returned (.bool true) ∧ Below W.heap.size W W' := by
  obtain ⟨xs1, fl1, hx1⟩ := RowE.recs (f := recI) (ks := [.int .i64]) recI_inv r1 (by decide) k1
  let L : List (Pl × AObj) := globL ++ [(rowPlE W a1 1, rowObjE 1 es1.flatten)]
  obtain ⟨H', hF⟩ : ∃ H', F6 [.string s0, rowVal 8 a1 len1 cap1] (iniH L) = some (.bool true, H') := main6 (globL_pow _) s0 hs0 (hx1 (iniH L) 8 rfl) y1 (fun x h => by cases a1 <;> simp at h; subst h; simp [iniH, L, globL])
  refine law_calls S6 Tryz.func6 (by kernel_rfl) (by kernel_rfl) (L := L) (w := W) (args' := [.string s0, .slice a1 len1 cap1]) (globL_glob _) (fun x hx => ?_) (VL.cons (VR.string _) (VL.cons ((r1.val (by decide) rfl)) VL.nil)) hF
  rcases List.mem_append.1 hx with hx | hx
  · exact globL_ok hpw x hx
  simp only [List.mem_cons, List.not_mem_nil, or_false] at hx
  subst hx
  exact ⟨rowObjE_own _ _, fun ρ => r1.obj (by decide) ρ⟩

set_option maxRecDepth 100000 in
theorem lifted (os : Os) (started : os.Started) (H : Type) (enc : TypeId × Value → H) :
    ReturnsInHanded {} Tryz.checked os 6 .any (fun w args => (Rows.appPiecesSpec.pre enc Tryz.prog Tryz.f6 Rows.appPiecesRow.domain false w args ∧ laidMetH Tryz.prog Rows.appPiecesRow.laid w) ∧ sizedMet enc Tryz.prog Tryz.f6 (OpenSpec.ofChange Rows.appPiecesSpec) false w args)
      (Rows.appPiecesSpec.post enc Tryz.prog Tryz.f6 false true false false) := by
  refine returnsInHanded_of_change_and (C := Tryz.checked) (X := fun w _ => laidMetH Tryz.prog Rows.appPiecesRow.laid w) (fun _ _ _ hh h => h.of_heap hh) own started (by kernel_rfl) Tryz.func6
    (ChangeSpec.witness_shaped (enc := enc) (C := Tryz.checked) (os := os) (X := fun w _ => laidMetH Tryz.prog Rows.appPiecesRow.laid w) false (World.laidAll Tryz.prog os Rows.appPiecesRow.laid) #[.string ⟨#[]⟩, .slice none 0 0] 8 (World.laidAll_os _ _ _)
      (World.shaped_of_ZipB (by kernel_rfl) (by kernel_rfl)) (by kernel_rfl) (by kernel_rfl) (by kernel_rfl)
      (by rw [MakeChecks.laidMetH_plain _ _ _ (by kernel_rfl)]; exact laidMet_laidAll _ (by kernel_rfl) (by kernel_rfl))) ?_
  intro W base args ds gs before hval0 hW hcnd hsz0 hL _
  rw [MakeChecks.laidMetH_plain _ _ _ (by kernel_rfl)] at hL
  obtain ⟨el, fz, hpw⟩ := pow_laid hL (by simp [Rows.appPiecesRow])
  have hsz : (DataW.weightsEach Tryz.prog (Tryz.f6.params.toList ++ Rows.appPiecesSpec.plain.varTypes Tryz.prog) (ds ++ gs)).all (· ≤ reachBytes) = true := hsz0
  have hval : ∀ (j : Nat) t v, Tryz.f6.params[j]? = some t → args[j]? = some v → Value.okWide Tryz.prog W .any base t v := hval0
  have hW' := hW
  obtain ⟨p, q, hA0, hV, rfl, hfz, hnd⟩ := hW
  have hA : DataW.TrodAll enc Tryz.prog W 0 (fun _ => true) true Tryz.f6.params.toList args.toList ds p := hA0
  rw [Tryz.params6] at hA hval hsz
  obtain ⟨v0, vs0, d0, ds0, p0, q0, hargs, rfl, rfl, h0, r0⟩ := trodAll_cons hA
  obtain ⟨v1, vs1, d1, ds1, p1, q1, rfl, rfl, rfl, h1, r1⟩ := trodAll_cons r0
  obtain ⟨rfl, rfl, rfl⟩ := trodAll_nil r1
  obtain rfl : args = #[v0, v1] := by cases args; simp_all
  obtain ⟨rfl, rfl⟩ := trodVars_none hV
  have er : reachBytes = 140737488351232 := rfl
  obtain ⟨s0, rfl, rfl, rfl, m0⟩ := Go.ChangeMaps.open_string Tryz.underlying9 (hval 0 9 v0 rfl rfl) h0
  have z0 : s0.size ≤ 140737488351232 := by have := sized_string hsz (j := 0) (t := 9) rfl rfl; simpa [er] using this
  obtain ⟨a1, len1, cap1, rfl⟩ := okWide_slice Tryz.underlying40 (hval 1 40 v1 rfl rfl)
  have k1 := h1
  have lt1 : ∀ x ∈ p1, x.block < W.heap.size := by obtain ⟨m, hm⟩ := k1; exact DataW.trod_lt m _ _ _ hm
  obtain ⟨fuel1, hf1⟩ := h1
  obtain ⟨m1, es1, w1, o1⟩ := open_flat (ks := [.int .i64]) 20 Tryz.underlying40 (by kernel_rfl) (by kernel_rfl) hf1 rfl
  have y1 : len1 * 8 ≤ 140737488351232 := by
    rcases slice_len Tryz.underlying40 hf1 rfl with h | ⟨el, r, rfl, hel⟩
    · omega
    · have z := sized_slice hsz (j := 1) (t := 40) rfl rfl Tryz.underlying40
      rw [show Tryz.prog.bytesOf 3 = 8 by kernel_rfl] at z
      omega
  clear hA0 hval0 hsz0 hsz
  refine (walk W hpw s0 z0 w1 o1 y1).mono fun e W' ⟨he, bel⟩ => ?_
  subst he
  exact ⟨_, rfl, _, _, _, [], _, [], hW', trodAll_mk1 (shut_bool Tryz.underlying4 _), (trodAll_cons_mk (Go.ChangeMaps.shut_string Tryz.underlying9 m0) (trodAll_cons_mk (Below.trod laidOut (by kernel_rfl) (of_decide_eq_true (by kernel_rfl)) k1 bel lt1) trodAll_mk0)), rfl, bel.frame _, fun h => by cases h⟩

theorem over : Rows.appPiecesRow.holds Tryz.pinned (OpenSpec.ofChange Rows.appPiecesSpec) :=
  OpenClaim.holds_of_wide 6 Tryz.f6 rfl rfl rfl rfl rfl rfl rfl ⟨rfl, rfl, rfl, rfl, rfl⟩ rfl rfl rfl rfl rfl (by kernel_rfl) Tryz.func6 (by kernel_rfl)
    (of_decide_eq_true (by kernel_rfl)) (by unfold Func.isWrapper; first | (rw [if_pos (by decide +kernel)]; kernel_rfl) | (rw [if_neg (by decide +kernel)]; exact ⟨rfl, rfl⟩))
    (fun os started H enc _ => lifted os started H enc)
theorem proved : Rows.AppPiecesSaid := over
theorem plain (f : FuncId) (fn : Func) (hf : Tryz.pinned.checked.prog.funcNamed "sternpost/sternpostlaw21.AppPieces" = some f) (hfn : Tryz.pinned.checked.prog.funcs[f]? = some fn) :
    true = Tryz.pinned.checked.prog.looks [] ∧ ∀ (j : Nat) t, fn.params[j]? = some t → Tryz.pinned.checked.prog.wantsStandIn t = false := by
  obtain rfl : f = 6 := Option.some.inj ((show Tryz.prog.funcNamed "sternpost/sternpostlaw21.AppPieces" = some 6 by kernel_rfl).symm.trans hf) |>.symm
  obtain rfl : fn = Tryz.f6 := (Option.some.inj (Tryz.func6.symm.trans hfn)).symm
  refine ⟨by kernel_rfl, fun j t ht => ?_⟩
  rw [Tryz.params6] at ht
  have hm := Array.mem_of_getElem? ht
  simp at hm
  rcases hm with rfl | rfl
  all_goals exact (show Tryz.prog.wantsStandIn _ = false by kernel_rfl)
theorem carded : Rows.AppPiecesCardSaid :=
  Claim7.holds_tied_plain_at .later [] _ _ _ _ proved (fun _ h => by cases h) (by kernel_rfl) (fun _ h => by cases h) appPieces_row_tie rfl ⟨rfl, rfl⟩ (by kernel_rfl) rfl plain (by kernel_rfl)
end Go.Proofs.YtbheppfjaeocpaaGreatDoor.appPieces
namespace Go.Proofs.YtbheppfjaeocpaaGreatDoor
/-- The card, under a short name, for the claim. -/
theorem appPieces_holds : Rows.AppPiecesCardSaid := appPieces.carded
#print axioms appPieces_holds
end Go.Proofs.YtbheppfjaeocpaaGreatDoor
