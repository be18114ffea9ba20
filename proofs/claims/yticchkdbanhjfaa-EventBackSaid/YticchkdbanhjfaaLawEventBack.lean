/- EventBack answers true, whatever the input, and the input reads as it did. Conditions: none. -/
import Derived.Test.YticchkdbanhjfaaRows
import Derived.Test.YticchkdbanhjfaaEb5
import Derived.WalkKit
import Derived.ProofKit
import Derived.OpenShut
import Derived.ShutString
import Derived.ChangeOld
import Derived.Below
import Derived.SizedLaws
import Derived.ChangeMaps5
set_option linter.unusedVariables false
set_option linter.unusedSimpArgs false
namespace Go.Proofs.Yticchkdbanhjfaa.eventBack
open Go Go.ChangeShapes Go.WideShapes Go.ChangeAt Go.RowKit Go.Proofs.Yticchkdbanhjfaa.Fw

theorem own : ownKnob Try.prog.godebug = none := by kernel_rfl
theorem laidOut : laidOutB Try.prog = true := by kernel_rfl

theorem walk (W : World) {a0 : Option Addr} {len0 cap0 : Nat} {es0 : List (List Value)} (r0 : RowE W a0 len0 cap0 3 es0) (k0 : ∀ e ∈ es0, Flat [.int .i64, .int .i64, .string] e) (y0 : len0 * 32 ≤ 140737488351232) (s1 : ByteArray) (hs1 : s1.size ≤ 140737488351232) (x2 : Int) :
    Calls Try.prog 9 #[.slice a0 len0 cap0, .string s1, .int .i64 x2] W fun e W' => e = .returned (.bool true) ∧ Below W.heap.size W W' := by
  obtain ⟨xs0, fl0, hx0⟩ := RowE.recs (f := Ev.cs) (ks := [.int .i64, .int .i64, .string]) inv_ev r0 (by decide) k0
  let L : List (Pl × AObj) := [(rowPlE W a0 3, rowObjE 3 es0.flatten)]
  obtain ⟨H', hF⟩ : ∃ H', F9 [rowVal 0 a0 len0 cap0, .string s1, .int .i64 x2] (iniH L) = some (.bool true, H') := back9 (hx0 (iniH L) 0 rfl) y0 (fun x h => by cases a0 <;> simp at h; subst h; simp [iniH, L]) s1 hs1 x2
  exact law_calls S9 Try.func9 (by kernel_rfl) (by kernel_rfl) (L := L) (w := W) (args' := [.slice a0 len0 cap0, .string s1, .int .i64 x2]) (fun x hx => by
    simp only [L, List.mem_cons, List.not_mem_nil, or_false] at hx
    subst hx
    exact ⟨rowObjE_own _ _, fun ρ => r0.obj (by decide) ρ⟩) (VL.cons ((r0.val (by decide) rfl)) (VL.cons (VR.string _) (VL.cons (VR.int _ _) VL.nil))) hF

set_option maxRecDepth 100000 in
theorem lifted (os : Os) (started : os.Started) (H : Type) (enc : TypeId × Value → H) :
    ReturnsInHanded {} Try.checked os 9 .any (Rows.eventBackSpec.pre6 enc Try.prog Try.f9 Rows.eventBackRow.domain false) (Rows.eventBackSpec.post enc Try.prog Try.f9 false true false false) := by
  refine returnsInHanded_of_change_sized (C := Try.checked) own started (by kernel_rfl) Try.func9
    (ChangeSpec.witness6 (enc := enc) (C := Try.checked) false ⟨#[], #[.slice none 0 0, .string ⟨#[]⟩, .int .i64 0], []⟩ 8 (by kernel_rfl) (by kernel_rfl) (by kernel_rfl) (by kernel_rfl)) ?_
  intro W base args ds gs before hval0 hW hcnd hsz0 _
  have hsz : (DataW.weightsEach Try.prog (Try.f9.params.toList ++ Rows.eventBackSpec.plain.varTypes Try.prog) (ds ++ gs)).all (· ≤ reachBytes) = true := hsz0
  have hval : ∀ (j : Nat) t v, Try.f9.params[j]? = some t → args[j]? = some v → Value.okWide Try.prog W .any base t v := hval0
  have hW' := hW
  obtain ⟨p, q, hA0, hV, rfl, hfz, hnd⟩ := hW
  have hA : DataW.TrodAll enc Try.prog W 0 (fun _ => true) true Try.f9.params.toList args.toList ds p := hA0
  rw [Try.params9] at hA hval hsz
  obtain ⟨v0, vs0, d0, ds0, p0, q0, hargs, rfl, rfl, h0, r0⟩ := trodAll_cons hA
  obtain ⟨v1, vs1, d1, ds1, p1, q1, rfl, rfl, rfl, h1, r1⟩ := trodAll_cons r0
  obtain ⟨v2, vs2, d2, ds2, p2, q2, rfl, rfl, rfl, h2, r2⟩ := trodAll_cons r1
  obtain ⟨rfl, rfl, rfl⟩ := trodAll_nil r2
  obtain rfl : args = #[v0, v1, v2] := by cases args; simp_all
  obtain ⟨rfl, rfl⟩ := trodVars_none hV
  have er : reachBytes = 140737488351232 := rfl
  obtain ⟨a0, len0, cap0, rfl⟩ := okWide_slice Try.underlying29 (hval 0 29 v0 rfl rfl)
  have k0 := h0
  have lt0 : ∀ x ∈ p0, x.block < W.heap.size := by obtain ⟨m, hm⟩ := k0; exact DataW.trod_lt m _ _ _ hm
  obtain ⟨fuel0, hf0⟩ := h0
  obtain ⟨m0, es0, w0, o0⟩ := open_flat (ks := [.int .i64, .int .i64, .string]) 20 Try.underlying29 (by kernel_rfl) (by kernel_rfl) hf0 rfl
  have y0 : len0 * 32 ≤ 140737488351232 := by
    rcases slice_len Try.underlying29 hf0 rfl with h | ⟨el, r, rfl, hel⟩
    · omega
    · have z := sized_slice hsz (j := 0) (t := 29) rfl rfl Try.underlying29
      rw [show Try.prog.bytesOf 40 = 32 by kernel_rfl] at z
      omega
  obtain ⟨s1, rfl, rfl, rfl, m1⟩ := Go.ChangeMaps.open_string Try.underlying9 (hval 1 9 v1 rfl rfl) h1
  have z1 : s1.size ≤ 140737488351232 := by have := sized_string hsz (j := 1) (t := 9) rfl rfl; simpa [er] using this
  obtain ⟨a2, rfl, rfl, rfl, w2⟩ := open_int Try.underlying3 (hval 2 3 v2 rfl rfl) h2
  clear hA0 hval0 hsz0 hsz
  refine (walk W w0 o0 y0 s1 z1 a2).mono fun e W' ⟨he, bel⟩ => ?_
  subst he
  exact ⟨_, rfl, _, _, _, [], _, [], hW', trodAll_mk1 (shut_bool Try.underlying4 _), (trodAll_cons_mk (Below.trod laidOut (by kernel_rfl) (of_decide_eq_true (by kernel_rfl)) k0 bel lt0) (trodAll_cons_mk (Go.ChangeMaps.shut_string Try.underlying9 m1) (trodAll_cons_mk (shut_int Try.underlying3 w2) trodAll_mk0))), rfl, bel.frame _, fun h => by cases h⟩

theorem over : Rows.eventBackRow.holds Try.pinned (OpenSpec.ofChange Rows.eventBackSpec) :=
  OpenClaim.holds_of_wide 9 Try.f9 rfl rfl rfl rfl rfl rfl rfl ⟨rfl, rfl, rfl, rfl, rfl⟩ rfl rfl rfl rfl rfl (by kernel_rfl) Try.func9 (by kernel_rfl)
    (of_decide_eq_true (by kernel_rfl)) (by unfold Func.isWrapper; first | (rw [if_pos (by decide +kernel)]; kernel_rfl) | (rw [if_neg (by decide +kernel)]; exact ⟨rfl, rfl⟩))
    (fun os started H enc _ => lifted os started H enc)
theorem proved : Rows.EventBackSaid := over
end Go.Proofs.Yticchkdbanhjfaa.eventBack
namespace Go.Proofs.Yticchkdbanhjfaa
/-- The row, under a short name, for the claim. -/
theorem eventBack_holds : Rows.EventBackSaid := eventBack.proved
#print axioms eventBack_holds
end Go.Proofs.Yticchkdbanhjfaa
