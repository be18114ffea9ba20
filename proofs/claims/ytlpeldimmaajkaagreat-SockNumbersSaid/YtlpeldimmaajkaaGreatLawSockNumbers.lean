/- SockNumbers answers true, whatever the input, and the input reads as it did. Conditions: none. -/
import Derived.Test.YtlpeldimmaajkaaGreatRows
import Derived.Test.YtlpeldimmaajkaaGreatSkH
import Derived.WalkKit
import Derived.ProofKit
import Derived.OpenShut
import Derived.ShutString
import Derived.ChangeOld
import Derived.Below
import Derived.SizedLaws
import Derived.ChangeMaps5
set_option linter.unusedVariables false
set_option linter.unusedSimpArgs false
namespace Go.Proofs.YtlpeldimmaajkaaGreat.sockNumbers
open Go Go.ChangeShapes Go.WideShapes Go.ChangeAt Go.RowKit Go.Proofs.YtlpeldimmaajkaaGreat.Fw

theorem own : ownKnob Tryz.prog.godebug = none := by kernel_rfl
theorem laidOut : laidOutB Tryz.prog = true := by kernel_rfl

theorem walk (W : World) {a0 : Option Addr} {len0 cap0 : Nat} {es0 : List (List Value)} (r0 : RowE W a0 len0 cap0 1 es0) (k0 : ∀ e ∈ es0, Flat [.int .i64] e) (y0 : len0 * 8 ≤ 140737488351232) :
    Calls Tryz.prog 3 #[.slice a0 len0 cap0] W fun e W' => e = .returned (.bool true) ∧ Below W.heap.size W W' := by
  obtain ⟨xs0, fl0, hx0⟩ := RowE.recs (f := recI) (ks := [.int .i64]) recI_inv r0 (by decide) k0
  let L : List (Pl × AObj) := [(rowPlE W a0 1, rowObjE 1 es0.flatten)]
  obtain ⟨H', hF⟩ : ∃ H', F3 [rowVal 0 a0 len0 cap0] (iniH L) = some (.bool true, H') := main3 (hx0 (iniH L) 0 rfl) y0 (fun x h => by cases a0 <;> simp at h; subst h; simp [iniH, L])
  exact law_calls S3 Tryz.func3 (by kernel_rfl) (by kernel_rfl) (L := L) (w := W) (args' := [.slice a0 len0 cap0]) (fun g hg => absurd hg (Nat.not_lt_zero g)) (fun x hx => by
    simp only [L, List.mem_cons, List.not_mem_nil, or_false] at hx
    subst hx
    exact ⟨rowObjE_own _ _, fun ρ => r0.obj (by decide) ρ⟩) (VL.cons ((r0.val (by decide) rfl)) VL.nil) hF

set_option maxRecDepth 100000 in
theorem lifted (os : Os) (started : os.Started) (H : Type) (enc : TypeId × Value → H) :
    ReturnsInHanded {} Tryz.checked os 3 .any (Rows.sockNumbersSpec.pre6 enc Tryz.prog Tryz.f3 Rows.sockNumbersRow.domain false) (Rows.sockNumbersSpec.post enc Tryz.prog Tryz.f3 false true false false) := by
  refine returnsInHanded_of_change_sized (C := Tryz.checked) own started (by kernel_rfl) Tryz.func3
    (ChangeSpec.witness6 (enc := enc) (C := Tryz.checked) false ⟨#[], #[.slice none 0 0], []⟩ 8 (by kernel_rfl) (by kernel_rfl) (by kernel_rfl) (by kernel_rfl)) ?_
  intro W base args ds gs before hval0 hW hcnd hsz0 _
  have hsz : (DataW.weightsEach Tryz.prog (Tryz.f3.params.toList ++ Rows.sockNumbersSpec.plain.varTypes Tryz.prog) (ds ++ gs)).all (· ≤ reachBytes) = true := hsz0
  have hval : ∀ (j : Nat) t v, Tryz.f3.params[j]? = some t → args[j]? = some v → Value.okWide Tryz.prog W .any base t v := hval0
  have hW' := hW
  obtain ⟨p, q, hA0, hV, rfl, hfz, hnd⟩ := hW
  have hA : DataW.TrodAll enc Tryz.prog W 0 (fun _ => true) true Tryz.f3.params.toList args.toList ds p := hA0
  rw [Tryz.params3] at hA hval hsz
  obtain ⟨v0, vs0, d0, ds0, p0, q0, hargs, rfl, rfl, h0, r0⟩ := trodAll_cons hA
  obtain ⟨rfl, rfl, rfl⟩ := trodAll_nil r0
  obtain rfl : args = #[v0] := by cases args; simp_all
  obtain ⟨rfl, rfl⟩ := trodVars_none hV
  have er : reachBytes = 140737488351232 := rfl
  obtain ⟨a0, len0, cap0, rfl⟩ := okWide_slice Tryz.underlying22 (hval 0 22 v0 rfl rfl)
  have k0 := h0
  have lt0 : ∀ x ∈ p0, x.block < W.heap.size := by obtain ⟨m, hm⟩ := k0; exact DataW.trod_lt m _ _ _ hm
  obtain ⟨fuel0, hf0⟩ := h0
  obtain ⟨m0, es0, w0, o0⟩ := open_flat (ks := [.int .i64]) 20 Tryz.underlying22 (by kernel_rfl) (by kernel_rfl) hf0 rfl
  have y0 : len0 * 8 ≤ 140737488351232 := by
    rcases slice_len Tryz.underlying22 hf0 rfl with h | ⟨el, r, rfl, hel⟩
    · omega
    · have z := sized_slice hsz (j := 0) (t := 22) rfl rfl Tryz.underlying22
      rw [show Tryz.prog.bytesOf 3 = 8 by kernel_rfl] at z
      omega
  clear hA0 hval0 hsz0 hsz
  refine (walk W w0 o0 y0).mono fun e W' ⟨he, bel⟩ => ?_
  subst he
  exact ⟨_, rfl, _, _, _, [], _, [], hW', trodAll_mk1 (shut_bool Tryz.underlying4 _), (trodAll_cons_mk (Below.trod laidOut (by kernel_rfl) (of_decide_eq_true (by kernel_rfl)) k0 bel lt0) trodAll_mk0), rfl, bel.frame _, fun h => by cases h⟩

/-! Three facts of the whole program, each by itself: taken together they outgrow the kernel's room. -/
theorem fact_mayEnter : Tryz.prog.mayEnter = true := by kernel_rfl
theorem fact_lifts : (Rows.sockNumbersRow.lifted == Tryz.prog.liftsFinal) = true := by kernel_rfl
theorem fact_make : (Tryz.prog.make == some Rows.sockNumbersRow.make) = true := by kernel_rfl
theorem closed : joinedFacts Tryz.prog 3 Tryz.f3 Rows.sockNumbersSpec Rows.sockNumbersRow = true := by
  unfold joinedFacts
  rw [fact_mayEnter, fact_lifts, fact_make]
  kernel_rfl
theorem over : Rows.sockNumbersRow.holds Tryz.pinned (OpenSpec.ofChange Rows.sockNumbersSpec) :=
  OpenClaim.holds_of_wide 3 Tryz.f3 rfl rfl rfl rfl rfl rfl rfl ⟨rfl, rfl, rfl, rfl, rfl⟩ rfl rfl rfl rfl rfl (by kernel_rfl) Tryz.func3 closed
    (of_decide_eq_true (by kernel_rfl)) (by unfold Func.isWrapper; first | (rw [if_pos (by decide +kernel)]; kernel_rfl) | (rw [if_neg (by decide +kernel)]; exact ⟨rfl, rfl⟩))
    (fun os started H enc _ => lifted os started H enc)
theorem proved : Rows.SockNumbersSaid := over
end Go.Proofs.YtlpeldimmaajkaaGreat.sockNumbers
namespace Go.Proofs.YtlpeldimmaajkaaGreat
/-- The row, under a short name, for the claim. -/
theorem sockNumbers_holds : Rows.SockNumbersSaid := sockNumbers.proved
#print axioms sockNumbers_holds
end Go.Proofs.YtlpeldimmaajkaaGreat
