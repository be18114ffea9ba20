/- JudgeAmong answers true, whatever the input, and the input reads as it did. Conditions: none. -/
import Derived.Test.YticchkdbanhjfaaRows
import Derived.Test.YticchkdbanhjfaaJa7
import Derived.WalkKit
import Derived.ProofKit
import Derived.OpenShut
import Derived.ShutString
import Derived.ChangeOld
import Derived.Below
import Derived.SizedLaws
import Derived.ChangeMaps5
set_option linter.unusedVariables false
set_option linter.unusedSimpArgs false
namespace Go.Proofs.Yticchkdbanhjfaa.judgeAmong
open Go Go.ChangeShapes Go.WideShapes Go.ChangeAt Go.RowKit Go.Proofs.Yticchkdbanhjfaa.Fw

theorem own : ownKnob Try.prog.godebug = none := by kernel_rfl
theorem laidOut : laidOutB Try.prog = true := by kernel_rfl

theorem walk (W : World) {a0 : Option Addr} {len0 cap0 : Nat} {es0 : List (List Value)} (r0 : RowE W a0 len0 cap0 1 es0) (k0 : ∀ e ∈ es0, Flat [.string] e) (y0 : len0 * 16 ≤ 140737488351232) {a1 : Option Addr} {len1 cap1 : Nat} {es1 : List (List Value)} (r1 : RowE W a1 len1 cap1 1 es1) (k1 : ∀ e ∈ es1, Flat [.string] e) (y1 : len1 * 16 ≤ 140737488351232) :
    Calls Try.prog 6 #[.slice a0 len0 cap0, .slice a1 len1 cap1] W fun e W' => e = .returned (.bool true) ∧ Below W.heap.size W W' := by
  obtain ⟨xs0, fl0, hx0⟩ := RowE.recs (f := sc) (ks := [.string]) inv_str r0 (by decide) k0
  obtain ⟨xs1, fl1, hx1⟩ := RowE.recs (f := sc) (ks := [.string]) inv_str r1 (by decide) k1
  let L : List (Pl × AObj) := [(rowPlE W a0 1, rowObjE 1 es0.flatten), (rowPlE W a1 1, rowObjE 1 es1.flatten)]
  obtain ⟨H', hF⟩ : ∃ H', F6 [rowVal 0 a0 len0 cap0, rowVal 1 a1 len1 cap1] (iniH L) = some (.bool true, H') := among6 (hx0 (iniH L) 0 rfl) y0 (fun x h => by cases a0 <;> simp at h; subst h; simp [iniH, L]) fl0 (hx1 (iniH L) 1 rfl) y1 (fun x h => by cases a1 <;> simp at h; subst h; simp [iniH, L])
  exact law_calls S6 (L := L) (w := W) (args' := [.slice a0 len0 cap0, .slice a1 len1 cap1]) (fun x hx => by
    simp only [L, List.mem_cons, List.not_mem_nil, or_false] at hx
    rcases hx with rfl | rfl
    · exact ⟨rowObjE_own _ _, fun ρ => r0.obj ρ⟩
    · exact ⟨rowObjE_own _ _, fun ρ => r1.obj ρ⟩) (VL.cons ((r0.val (by decide) rfl)) (VL.cons ((r1.val (by decide) rfl)) VL.nil)) hF

set_option maxRecDepth 100000 in
theorem lifted (os : Os) (started : os.Started) (H : Type) (enc : TypeId × Value → H) :
    ReturnsInHanded {} Try.checked os 6 .any (Rows.judgeAmongSpec.pre6 enc Try.prog Try.f6 Rows.judgeAmongRow.domain false) (Rows.judgeAmongSpec.post enc Try.prog Try.f6 false true false false) := by
  refine returnsInHanded_of_change_sized (C := Try.checked) own started (by kernel_rfl) Try.func6
    (ChangeSpec.witness6 (enc := enc) (C := Try.checked) false ⟨#[], #[.slice none 0 0, .slice none 0 0], []⟩ 8 (by kernel_rfl) (by kernel_rfl) (by kernel_rfl) (by kernel_rfl)) ?_
  intro W base args ds gs before hval0 hW hcnd hsz0 _
  have hsz : (DataW.weightsEach Try.prog (Try.f6.params.toList ++ Rows.judgeAmongSpec.plain.varTypes Try.prog) (ds ++ gs)).all (· ≤ reachBytes) = true := hsz0
  have hval : ∀ (j : Nat) t v, Try.f6.params[j]? = some t → args[j]? = some v → Value.okWide Try.prog W .any base t v := hval0
  have hW' := hW
  obtain ⟨p, q, hA0, hV, rfl, hfz, hnd⟩ := hW
  have hA : DataW.TrodAll enc Try.prog W 0 (fun _ => true) true Try.f6.params.toList args.toList ds p := hA0
  rw [Try.params6] at hA hval hsz
  obtain ⟨v0, vs0, d0, ds0, p0, q0, hargs, rfl, rfl, h0, r0⟩ := trodAll_cons hA
  obtain ⟨v1, vs1, d1, ds1, p1, q1, rfl, rfl, rfl, h1, r1⟩ := trodAll_cons r0
  obtain ⟨rfl, rfl, rfl⟩ := trodAll_nil r1
  obtain rfl : args = #[v0, v1] := by cases args; simp_all
  obtain ⟨rfl, rfl⟩ := trodVars_none hV
  have er : reachBytes = 140737488351232 := rfl
  obtain ⟨a0, len0, cap0, rfl⟩ := okWide_slice Try.underlying22 (hval 0 22 v0 rfl rfl)
  have k0 := h0
  have lt0 : ∀ x ∈ p0, x.block < W.heap.size := by obtain ⟨m, hm⟩ := k0; exact DataW.trod_lt m _ _ _ hm
  obtain ⟨fuel0, hf0⟩ := h0
  obtain ⟨m0, es0, w0, o0⟩ := open_flat (ks := [.string]) 20 Try.underlying22 (by kernel_rfl) (by kernel_rfl) hf0 rfl
  have y0 : len0 * 16 ≤ 140737488351232 := by
    rcases slice_len Try.underlying22 hf0 rfl with h | ⟨el, r, rfl, hel⟩
    · omega
    · have z := sized_slice hsz (j := 0) (t := 22) rfl rfl Try.underlying22
      rw [show Try.prog.bytesOf 9 = 16 by kernel_rfl] at z
      omega
  obtain ⟨a1, len1, cap1, rfl⟩ := okWide_slice Try.underlying22 (hval 1 22 v1 rfl rfl)
  have k1 := h1
  have lt1 : ∀ x ∈ p1, x.block < W.heap.size := by obtain ⟨m, hm⟩ := k1; exact DataW.trod_lt m _ _ _ hm
  obtain ⟨fuel1, hf1⟩ := h1
  obtain ⟨m1, es1, w1, o1⟩ := open_flat (ks := [.string]) 20 Try.underlying22 (by kernel_rfl) (by kernel_rfl) hf1 rfl
  have y1 : len1 * 16 ≤ 140737488351232 := by
    rcases slice_len Try.underlying22 hf1 rfl with h | ⟨el, r, rfl, hel⟩
    · omega
    · have z := sized_slice hsz (j := 1) (t := 22) rfl rfl Try.underlying22
      rw [show Try.prog.bytesOf 9 = 16 by kernel_rfl] at z
      omega
  clear hA0 hval0 hsz0 hsz
  refine (walk W w0 o0 y0 w1 o1 y1).mono fun e W' ⟨he, bel⟩ => ?_
  subst he
  exact ⟨_, rfl, _, _, _, [], _, [], hW', trodAll_mk1 (shut_bool Try.underlying4 _), (trodAll_cons_mk (Below.trod laidOut (by kernel_rfl) (of_decide_eq_true (by kernel_rfl)) k0 bel lt0) (trodAll_cons_mk (Below.trod laidOut (by kernel_rfl) (of_decide_eq_true (by kernel_rfl)) k1 bel lt1) trodAll_mk0)), rfl, bel.frame _, fun h => by cases h⟩

theorem over : Rows.judgeAmongRow.holds Try.pinned (OpenSpec.ofChange Rows.judgeAmongSpec) :=
  OpenClaim.holds_of_wide 6 Try.f6 rfl rfl rfl rfl rfl rfl rfl ⟨rfl, rfl, rfl, rfl, rfl⟩ rfl rfl rfl rfl rfl (by kernel_rfl) Try.func6 (by kernel_rfl)
    (of_decide_eq_true (by kernel_rfl)) (by unfold Func.isWrapper; first | (rw [if_pos (by decide +kernel)]; kernel_rfl) | (rw [if_neg (by decide +kernel)]; exact ⟨rfl, rfl⟩))
    (fun os started H enc _ => lifted os started H enc)
theorem proved : Rows.JudgeAmongSaid := over
end Go.Proofs.Yticchkdbanhjfaa.judgeAmong
namespace Go.Proofs.Yticchkdbanhjfaa
/-- The row, under a short name, for the claim. -/
theorem judgeAmong_holds : Rows.JudgeAmongSaid := judgeAmong.proved
#print axioms judgeAmong_holds
end Go.Proofs.Yticchkdbanhjfaa
