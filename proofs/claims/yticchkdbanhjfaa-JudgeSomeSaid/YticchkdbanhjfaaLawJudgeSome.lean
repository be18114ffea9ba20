/- JudgeSome answers true, whatever the input, and the input reads as it did. Conditions: none. -/
import Derived.Test.YticchkdbanhjfaaRows
import Derived.Test.YticchkdbanhjfaaJs2
import Derived.WalkKit
import Derived.ProofKit
import Derived.OpenShut
import Derived.ShutString
import Derived.ChangeOld
import Derived.Below
import Derived.SizedLaws
set_option linter.unusedVariables false
namespace Go.Proofs.Yticchkdbanhjfaa.judgeSome
open Go Go.ChangeShapes Go.WideShapes Go.ChangeAt Go.RowKit Go.Proofs.Yticchkdbanhjfaa.Fw

theorem own : ownKnob Try.prog.godebug = none := by kernel_rfl
theorem laidOut : laidOutB Try.prog = true := by kernel_rfl

theorem walk (W : World) {a0 : Option Addr} {len0 cap0 : Nat} {a1 : Option Addr} {len1 cap1 : Nat} {vs0 vs1 : List Value} (r0 : Row W a0 len0 cap0 vs0) (k0 : ∀ v ∈ vs0, ofKind .string v) (r1 : Row W a1 len1 cap1 vs1) (k1 : ∀ v ∈ vs1, ofKind .bool v)
    (y0 : (len0 + 1) * 16 ≤ 140737488355328) (y1 : len1 < 9223372036854775807) :
    Calls Try.prog 3 #[.slice a0 len0 cap0, .slice a1 len1 cap1] W fun e W' => e = .returned (.bool true) ∧ Below W.heap.size W W' := by
  obtain ⟨xs, _, hx⟩ := r0.strs k0
  obtain ⟨bs, hb⟩ := r1.bls k1
  let L : List (Pl × AObj) := [(rowPl W a0, rowObj vs0), (rowPl W a1, rowObj vs1)]
  obtain ⟨H', hF⟩ := some3 (c0 := cap0) (c1 := cap1) (hx (iniH L) 0 rfl) y0 (hb (iniH L) 1 rfl) y1
    (fun x h => by cases a0 <;> simp at h; subst h; simp [iniH, L]) (fun x h => by cases a1 <;> simp at h; subst h; simp [iniH, L])
  exact law_calls S3 (L := L) (w := W) (args' := [.slice a0 len0 cap0, .slice a1 len1 cap1]) (fun x hx => by
    simp only [L, List.mem_cons, List.not_mem_nil, or_false] at hx
    rcases hx with rfl | rfl
    · exact ⟨rowObj_own _, fun ρ => r0.obj ρ⟩
    · exact ⟨rowObj_own _, fun ρ => r1.obj ρ⟩) (VL.cons (r0.val rfl) (VL.cons (r1.val rfl) VL.nil)) hF

set_option maxRecDepth 100000 in
theorem lifted (os : Os) (started : os.Started) (H : Type) (enc : TypeId × Value → H) :
    ReturnsInHanded {} Try.checked os 3 .any (Rows.judgeSomeSpec.pre6 enc Try.prog Try.f3 Rows.judgeSomeRow.domain false) (Rows.judgeSomeSpec.post enc Try.prog Try.f3 false true false false) := by
  refine returnsInHanded_of_change_sized (C := Try.checked) own started (by kernel_rfl) Try.func3
    (ChangeSpec.witness6 (enc := enc) (C := Try.checked) false ⟨#[], #[.slice none 0 0, .slice none 0 0], []⟩ 8 (by kernel_rfl) (by kernel_rfl) (by kernel_rfl) (by kernel_rfl)) ?_
  intro W base args ds gs before hval0 hW hcnd hsz0 _
  have hsz : (DataW.weightsEach Try.prog (Try.f3.params.toList ++ Rows.judgeSomeSpec.plain.varTypes Try.prog) (ds ++ gs)).all (· ≤ reachBytes) = true := hsz0
  have hval : ∀ (j : Nat) t v, Try.f3.params[j]? = some t → args[j]? = some v → Value.okWide Try.prog W .any base t v := hval0
  have hW' := hW
  obtain ⟨p, q, hA0, hV, rfl, hfz, hnd⟩ := hW
  have hA : DataW.TrodAll enc Try.prog W 0 (fun _ => true) true Try.f3.params.toList args.toList ds p := hA0
  rw [Try.params3] at hA hval hsz
  obtain ⟨v0, vs0, d0, ds0, p0, q0, hargs, rfl, rfl, h0, r0⟩ := trodAll_cons hA
  obtain ⟨v1, vs1, d1, ds1, p1, q1, rfl, rfl, rfl, h1, r1⟩ := trodAll_cons r0
  obtain ⟨rfl, rfl, rfl⟩ := trodAll_nil r1
  obtain rfl : args = #[v0, v1] := by cases args; simp_all
  obtain ⟨rfl, rfl⟩ := trodVars_none hV
  obtain ⟨a0, len0, cap0, rfl⟩ := okWide_slice Try.underlying22 (hval 0 22 v0 rfl rfl)
  obtain ⟨a1, len1, cap1, rfl⟩ := okWide_slice Try.underlying23 (hval 1 23 v1 rfl rfl)
  have k0 := h0
  have lt0 : ∀ x ∈ p0, x.block < W.heap.size := by obtain ⟨m, hm⟩ := k0; exact DataW.trod_lt m _ _ _ hm
  have k1 := h1
  have lt1 : ∀ x ∈ p1, x.block < W.heap.size := by obtain ⟨m, hm⟩ := k1; exact DataW.trod_lt m _ _ _ hm
  obtain ⟨fuel0, hf0⟩ := h0
  obtain ⟨fuel1, hf1⟩ := h1
  obtain ⟨m0, zs0, w0, o0⟩ := open_plain Try.underlying22 Try.underlying9 (.inr (.inr rfl)) (by kernel_rfl) hf0 rfl
  obtain ⟨m1, zs1, w1, o1⟩ := open_plain Try.underlying23 Try.underlying4 (.inl rfl) (by kernel_rfl) hf1 rfl
  have er : reachBytes = 140737488351232 := rfl
  have y0 : (len0 + 1) * 16 ≤ 140737488355328 := by
    rcases slice_len Try.underlying22 hf0 rfl with h | ⟨el, r, rfl, hel⟩
    · omega
    · have z := sized_slice hsz (j := 0) (t := 22) rfl rfl Try.underlying22
      rw [bytes9] at z
      omega
  have y1 : len1 < 9223372036854775807 := by
    rcases slice_len Try.underlying23 hf1 rfl with h | ⟨el, r, rfl, hel⟩
    · omega
    · have z := sized_slice hsz (j := 1) (t := 23) rfl rfl Try.underlying23
      rw [show Try.prog.bytesOf 4 = 1 by kernel_rfl] at z
      omega
  clear hA0 hval0 hsz0 hsz
  refine (walk W w0 o0 w1 o1 y0 y1).mono fun e W' ⟨he, bel⟩ => ?_
  subst he
  exact ⟨_, rfl, _, _, _, [], _, [], hW', trodAll_mk1 (shut_bool Try.underlying4 _), (trodAll_cons_mk (Below.trod laidOut (by kernel_rfl) (of_decide_eq_true (by kernel_rfl)) k0 bel lt0) (trodAll_cons_mk (Below.trod laidOut (by kernel_rfl) (of_decide_eq_true (by kernel_rfl)) k1 bel lt1) trodAll_mk0)), rfl, bel.frame _, fun h => by cases h⟩

theorem over : Rows.judgeSomeRow.holds Try.pinned (OpenSpec.ofChange Rows.judgeSomeSpec) :=
  OpenClaim.holds_of_wide 3 Try.f3 rfl rfl rfl rfl rfl rfl rfl ⟨rfl, rfl, rfl, rfl, rfl⟩ rfl rfl rfl rfl rfl (by kernel_rfl) Try.func3 (by kernel_rfl)
    (of_decide_eq_true (by kernel_rfl)) (by unfold Func.isWrapper; first | (rw [if_pos (by decide +kernel)]; kernel_rfl) | (rw [if_neg (by decide +kernel)]; exact ⟨rfl, rfl⟩))
    (fun os started H enc _ => lifted os started H enc)
theorem proved : Rows.JudgeSomeSaid := over
end Go.Proofs.Yticchkdbanhjfaa.judgeSome
namespace Go.Proofs.Yticchkdbanhjfaa
/-- The row, under a short name, for the claim. -/
theorem judgeSome_holds : Rows.JudgeSomeSaid := judgeSome.proved
#print axioms judgeSome_holds
end Go.Proofs.Yticchkdbanhjfaa
