/- RolePlays answers true, whatever the input, and the input reads as it did. Conditions: none. -/
import Derived.Test.YticchkdbanhjfaaRows
import Derived.Test.YticchkdbanhjfaaRp2
import Derived.WalkKit
import Derived.ProofKit
import Derived.OpenShut
import Derived.ShutString
import Derived.ChangeOld
import Derived.Below
import Derived.SizedLaws
import Derived.ChangeMaps5
set_option linter.unusedVariables false
set_option linter.unusedSimpArgs false
namespace Go.Proofs.Yticchkdbanhjfaa.rolePlays
open Go Go.ChangeShapes Go.WideShapes Go.ChangeAt Go.RowKit Go.Proofs.Yticchkdbanhjfaa.Fw

theorem own : ownKnob Try.prog.godebug = none := by kernel_rfl
theorem laidOut : laidOutB Try.prog = true := by kernel_rfl

theorem walk (W : World) (x0 : Int) (x1 : Int) {a2 : Option Addr} {len2 cap2 : Nat} {es2 : List (List Value)} (r2 : RowE W a2 len2 cap2 10 es2) (k2 : ∀ e ∈ es2, Flat [.int .i64, .int .i64, .int .i64, .int .i64, .int .i64, .int .i64, .int .i64, .int .i64, .string, .bool] e) (y2 : len2 * 88 ≤ 140737488351232) :
    Calls Try.prog 7 #[.int .i64 x0, .int .i64 x1, .slice a2 len2 cap2] W fun e W' => e = .returned (.bool true) ∧ Below W.heap.size W W' := by
  obtain ⟨xs2, fl2, hx2⟩ := RowE.recs (f := Ac.cs) (ks := [.int .i64, .int .i64, .int .i64, .int .i64, .int .i64, .int .i64, .int .i64, .int .i64, .string, .bool]) inv_ac r2 (by decide) k2
  let L : List (Pl × AObj) := [(rowPlE W a2 10, rowObjE 10 es2.flatten)]
  obtain ⟨H', hF⟩ : ∃ H', F7 [.int .i64 x0, .int .i64 x1, rowVal 0 a2 len2 cap2] (iniH L) = some (.bool true, H') := plays7' x0 x1 (hx2 (iniH L) 0 rfl) y2 (fun x h => by cases a2 <;> simp at h; subst h; simp [iniH, L])
  exact law_calls S7 (L := L) (w := W) (args' := [.int .i64 x0, .int .i64 x1, .slice a2 len2 cap2]) (fun x hx => by
    simp only [L, List.mem_cons, List.not_mem_nil, or_false] at hx
    subst hx
    exact ⟨rowObjE_own _ _, fun ρ => r2.obj ρ⟩) (VL.cons (VR.int _ _) (VL.cons (VR.int _ _) (VL.cons ((r2.val (by decide) rfl)) VL.nil))) hF

set_option maxRecDepth 100000 in
theorem lifted (os : Os) (started : os.Started) (H : Type) (enc : TypeId × Value → H) :
    ReturnsInHanded {} Try.checked os 7 .any (Rows.rolePlaysSpec.pre6 enc Try.prog Try.f7 Rows.rolePlaysRow.domain false) (Rows.rolePlaysSpec.post enc Try.prog Try.f7 false true false false) := by
  refine returnsInHanded_of_change_sized (C := Try.checked) own started (by kernel_rfl) Try.func7
    (ChangeSpec.witness6 (enc := enc) (C := Try.checked) false ⟨#[], #[.int .i64 0, .int .i64 0, .slice none 0 0], []⟩ 8 (by kernel_rfl) (by kernel_rfl) (by kernel_rfl) (by kernel_rfl)) ?_
  intro W base args ds gs before hval0 hW hcnd hsz0 _
  have hsz : (DataW.weightsEach Try.prog (Try.f7.params.toList ++ Rows.rolePlaysSpec.plain.varTypes Try.prog) (ds ++ gs)).all (· ≤ reachBytes) = true := hsz0
  have hval : ∀ (j : Nat) t v, Try.f7.params[j]? = some t → args[j]? = some v → Value.okWide Try.prog W .any base t v := hval0
  have hW' := hW
  obtain ⟨p, q, hA0, hV, rfl, hfz, hnd⟩ := hW
  have hA : DataW.TrodAll enc Try.prog W 0 (fun _ => true) true Try.f7.params.toList args.toList ds p := hA0
  rw [Try.params7] at hA hval hsz
  obtain ⟨v0, vs0, d0, ds0, p0, q0, hargs, rfl, rfl, h0, r0⟩ := trodAll_cons hA
  obtain ⟨v1, vs1, d1, ds1, p1, q1, rfl, rfl, rfl, h1, r1⟩ := trodAll_cons r0
  obtain ⟨v2, vs2, d2, ds2, p2, q2, rfl, rfl, rfl, h2, r2⟩ := trodAll_cons r1
  obtain ⟨rfl, rfl, rfl⟩ := trodAll_nil r2
  obtain rfl : args = #[v0, v1, v2] := by cases args; simp_all
  obtain ⟨rfl, rfl⟩ := trodVars_none hV
  have er : reachBytes = 140737488351232 := rfl
  obtain ⟨a0, rfl, rfl, rfl, w0⟩ := open_int Try.underlying3 (hval 0 3 v0 rfl rfl) h0
  obtain ⟨a1, rfl, rfl, rfl, w1⟩ := open_int Try.underlying3 (hval 1 3 v1 rfl rfl) h1
  obtain ⟨a2, len2, cap2, rfl⟩ := okWide_slice Try.underlying64 (hval 2 64 v2 rfl rfl)
  have k2 := h2
  have lt2 : ∀ x ∈ p2, x.block < W.heap.size := by obtain ⟨m, hm⟩ := k2; exact DataW.trod_lt m _ _ _ hm
  obtain ⟨fuel2, hf2⟩ := h2
  obtain ⟨m2, es2, w2, o2⟩ := open_flat (ks := [.int .i64, .int .i64, .int .i64, .int .i64, .int .i64, .int .i64, .int .i64, .int .i64, .string, .bool]) 20 Try.underlying64 (by kernel_rfl) (by kernel_rfl) hf2 rfl
  have y2 : len2 * 88 ≤ 140737488351232 := by
    rcases slice_len Try.underlying64 hf2 rfl with h | ⟨el, r, rfl, hel⟩
    · omega
    · have z := sized_slice hsz (j := 2) (t := 64) rfl rfl Try.underlying64
      rw [show Try.prog.bytesOf 69 = 88 by kernel_rfl] at z
      omega
  clear hA0 hval0 hsz0 hsz
  refine (walk W a0 a1 w2 o2 y2).mono fun e W' ⟨he, bel⟩ => ?_
  subst he
  exact ⟨_, rfl, _, _, _, [], _, [], hW', trodAll_mk1 (shut_bool Try.underlying4 _), (trodAll_cons_mk (shut_int Try.underlying3 w0) (trodAll_cons_mk (shut_int Try.underlying3 w1) (trodAll_cons_mk (Below.trod laidOut (by kernel_rfl) (of_decide_eq_true (by kernel_rfl)) k2 bel lt2) trodAll_mk0))), rfl, bel.frame _, fun h => by cases h⟩

theorem over : Rows.rolePlaysRow.holds Try.pinned (OpenSpec.ofChange Rows.rolePlaysSpec) :=
  OpenClaim.holds_of_wide 7 Try.f7 rfl rfl rfl rfl rfl rfl rfl ⟨rfl, rfl, rfl, rfl, rfl⟩ rfl rfl rfl rfl rfl (by kernel_rfl) Try.func7 (by kernel_rfl)
    (of_decide_eq_true (by kernel_rfl)) (by unfold Func.isWrapper; first | (rw [if_pos (by decide +kernel)]; kernel_rfl) | (rw [if_neg (by decide +kernel)]; exact ⟨rfl, rfl⟩))
    (fun os started H enc _ => lifted os started H enc)
theorem proved : Rows.RolePlaysSaid := over
end Go.Proofs.Yticchkdbanhjfaa.rolePlays
namespace Go.Proofs.Yticchkdbanhjfaa
/-- The row, under a short name, for the claim. -/
theorem rolePlays_holds : Rows.RolePlaysSaid := rolePlays.proved
#print axioms rolePlays_holds
end Go.Proofs.Yticchkdbanhjfaa
