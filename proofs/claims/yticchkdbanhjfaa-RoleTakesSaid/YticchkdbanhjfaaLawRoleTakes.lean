/- RoleTakes answers true, whatever the input, and the input reads as it did. Conditions: none. -/
import Derived.Test.YticchkdbanhjfaaRows
import Derived.Test.YticchkdbanhjfaaRo5
import Derived.WalkKit
import Derived.ProofKit
import Derived.OpenShut
import Derived.ShutString
import Derived.ChangeOld
import Derived.Below
import Derived.SizedLaws
set_option linter.unusedVariables false
namespace Go.Proofs.Yticchkdbanhjfaa.roleTakes
open Go Go.ChangeShapes Go.WideShapes Go.ChangeAt Go.RowKit Go.Proofs.Yticchkdbanhjfaa.Fw

theorem own : ownKnob Try.prog.godebug = none := by kernel_rfl
theorem laidOut : laidOutB Try.prog = true := by kernel_rfl

theorem walk (W : World) (x0 : Int) {a1 : Option Addr} {len1 cap1 : Nat} {vs1 : List Value} (r1 : Row W a1 len1 cap1 vs1) (k1 : ∀ v ∈ vs1, ofKind (.int .i64) v) (y1 : len1 < 9223372036854775807) :
    Calls Try.prog 5 #[.int .i64 x0, .slice a1 len1 cap1] W fun e W' => e = .returned (.bool true) ∧ Below W.heap.size W W' := by
  obtain ⟨xs, hx⟩ := Go.Proofs.Yticchkdbanhjfaa.Row.ints r1 k1
  let L : List (Pl × AObj) := [(rowPl W a1, rowObj vs1)]
  obtain ⟨H', hF⟩ := takes5 (c := cap1) x0 (hx (iniH L) 0 rfl) y1 (fun x h => by cases a1 <;> simp at h; subst h; simp [iniH, L])
  exact law_calls S5 (L := L) (w := W) (args' := [.int .i64 x0, .slice a1 len1 cap1]) (fun x hx => by
    simp only [L, List.mem_cons, List.not_mem_nil, or_false] at hx
    subst hx
    exact ⟨rowObj_own _, fun ρ => r1.obj ρ⟩) (VL.cons (VR.int _ _) (VL.cons (r1.val rfl) VL.nil)) hF

set_option maxRecDepth 100000 in
theorem lifted (os : Os) (started : os.Started) (H : Type) (enc : TypeId × Value → H) :
    ReturnsInHanded {} Try.checked os 5 .any (Rows.roleTakesSpec.pre6 enc Try.prog Try.f5 Rows.roleTakesRow.domain false) (Rows.roleTakesSpec.post enc Try.prog Try.f5 false true false false) := by
  refine returnsInHanded_of_change_sized (C := Try.checked) own started (by kernel_rfl) Try.func5
    (ChangeSpec.witness6 (enc := enc) (C := Try.checked) false ⟨#[], #[.int .i64 0, .slice none 0 0], []⟩ 8 (by kernel_rfl) (by kernel_rfl) (by kernel_rfl) (by kernel_rfl)) ?_
  intro W base args ds gs before hval0 hW hcnd hsz0 _
  have hsz : (DataW.weightsEach Try.prog (Try.f5.params.toList ++ Rows.roleTakesSpec.plain.varTypes Try.prog) (ds ++ gs)).all (· ≤ reachBytes) = true := hsz0
  have hval : ∀ (j : Nat) t v, Try.f5.params[j]? = some t → args[j]? = some v → Value.okWide Try.prog W .any base t v := hval0
  have hW' := hW
  obtain ⟨p, q, hA0, hV, rfl, hfz, hnd⟩ := hW
  have hA : DataW.TrodAll enc Try.prog W 0 (fun _ => true) true Try.f5.params.toList args.toList ds p := hA0
  rw [Try.params5] at hA hval hsz
  obtain ⟨v0, vs0, d0, ds0, p0, q0, hargs, rfl, rfl, h0, r0⟩ := trodAll_cons hA
  obtain ⟨v1, vs1, d1, ds1, p1, q1, rfl, rfl, rfl, h1, r1⟩ := trodAll_cons r0
  obtain ⟨rfl, rfl, rfl⟩ := trodAll_nil r1
  obtain rfl : args = #[v0, v1] := by cases args; simp_all
  obtain ⟨rfl, rfl⟩ := trodVars_none hV
  obtain ⟨a0, rfl, rfl, rfl, w0⟩ := open_int Try.underlying3 (hval 0 3 v0 rfl rfl) h0
  obtain ⟨a1, len1, cap1, rfl⟩ := okWide_slice Try.underlying47 (hval 1 47 v1 rfl rfl)
  have k1 := h1
  have lt1 : ∀ x ∈ p1, x.block < W.heap.size := by obtain ⟨m, hm⟩ := k1; exact DataW.trod_lt m _ _ _ hm
  obtain ⟨fuel1, hf1⟩ := h1
  obtain ⟨m1, zs1, w1, o1⟩ := open_plain Try.underlying47 Try.underlying3 (.inr (.inl ⟨_, rfl⟩)) (by kernel_rfl) hf1 rfl
  have er : reachBytes = 140737488351232 := rfl
  have y1 : len1 < 9223372036854775807 := by
    rcases slice_len Try.underlying47 hf1 rfl with h | ⟨el, r, rfl, hel⟩
    · omega
    · have z := sized_slice hsz (j := 1) (t := 47) rfl rfl Try.underlying47
      rw [show Try.prog.bytesOf 3 = 8 by kernel_rfl] at z
      omega
  clear hA0 hval0 hsz0 hsz
  refine (walk W a0 w1 o1 y1).mono fun e W' ⟨he, bel⟩ => ?_
  subst he
  exact ⟨_, rfl, _, _, _, [], _, [], hW', trodAll_mk1 (shut_bool Try.underlying4 _), (trodAll_cons_mk (shut_int Try.underlying3 w0) (trodAll_cons_mk (Below.trod laidOut (by kernel_rfl) (of_decide_eq_true (by kernel_rfl)) k1 bel lt1) trodAll_mk0)), rfl, bel.frame _, fun h => by cases h⟩

theorem over : Rows.roleTakesRow.holds Try.pinned (OpenSpec.ofChange Rows.roleTakesSpec) :=
  OpenClaim.holds_of_wide 5 Try.f5 rfl rfl rfl rfl rfl rfl rfl ⟨rfl, rfl, rfl, rfl, rfl⟩ rfl rfl rfl rfl rfl (by kernel_rfl) Try.func5 (by kernel_rfl)
    (of_decide_eq_true (by kernel_rfl)) (by unfold Func.isWrapper; first | (rw [if_pos (by decide +kernel)]; kernel_rfl) | (rw [if_neg (by decide +kernel)]; exact ⟨rfl, rfl⟩))
    (fun os started H enc _ => lifted os started H enc)
theorem proved : Rows.RoleTakesSaid := over
end Go.Proofs.Yticchkdbanhjfaa.roleTakes
namespace Go.Proofs.Yticchkdbanhjfaa
/-- The row, under a short name, for the claim. -/
theorem roleTakes_holds : Rows.RoleTakesSaid := roleTakes.proved
#print axioms roleTakes_holds
end Go.Proofs.Yticchkdbanhjfaa
