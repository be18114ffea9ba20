/- TableGone answers true, whatever the input, and the input reads as it did. Conditions: none. -/
import Derived.Test.YtlpeldimmaajkaaGreatRows
import Derived.Test.YtlpeldimmaajkaaGreatTg2
import Derived.WalkKit
import Derived.ProofKit
import Derived.OpenShut
import Derived.ShutString
import Derived.ChangeOld
import Derived.Below
import Derived.SizedLaws
import Derived.ChangeMaps5
set_option linter.unusedVariables false
set_option linter.unusedSimpArgs false
namespace Go.Proofs.YtlpeldimmaajkaaGreat.tableGone
open Go Go.ChangeShapes Go.WideShapes Go.ChangeAt Go.RowKit Go.Proofs.YtlpeldimmaajkaaGreat.Fw

theorem own : ownKnob Tryz.prog.godebug = none := by kernel_rfl
theorem laidOut : laidOutB Tryz.prog = true := by kernel_rfl

theorem walk (W : World) (x0 : Int) {a1 : Option Addr} {len1 cap1 : Nat} {es1 : List (List Value)} (r1 : RowE W a1 len1 cap1 1 es1) (k1 : ∀ e ∈ es1, Flat [.bool] e) (y1 : len1 * 1 ≤ 140737488351232) :
    Calls Tryz.prog 13 #[.int .i64 x0, .slice a1 len1 cap1] W fun e W' => e = .returned (.bool true) ∧ Below W.heap.size W W' := by
  obtain ⟨xs1, fl1, hx1⟩ := RowE.recs (f := recB) (ks := [.bool]) recB_inv r1 (by decide) k1
  have hX := hx1 [rowObjE 1 es1.flatten] 0 rfl
  let L : List (Pl × AObj) := [(rowPlE W a1 1, obj xs1)]
  obtain ⟨H', hF⟩ : ∃ H', F13 [.int .i64 x0, .slice (a1.map fun _ => ⟨0, 0, none⟩) len1 (capU a1)] (iniH L) = some (.bool true, H') := main13 x0 hX.len (fun h => by
    subst h
    cases xs1 with
    | nil => rfl
    | cons b r => obtain ⟨y, cs, own, e, _⟩ := hX.at_ (by simp); cases e)
  exact law_calls S13 Tryz.func13 (by kernel_rfl) (by kernel_rfl) (L := L) (w := W) (args' := [.int .i64 x0, .slice a1 len1 cap1]) (fun g hg => absurd hg (Nat.not_lt_zero g)) (fun x hx => by
    simp only [L, List.mem_cons, List.not_mem_nil, or_false] at hx
    subst hx
    exact ⟨obj_own _, fun ρ => obj_or hX (rowObjE_own _ _) (r1.obj (by decide) ρ)⟩) (VL.cons (VR.int _ _) (VL.cons (RowE.valU r1 (by decide) rfl) VL.nil)) hF

set_option maxRecDepth 100000 in
theorem lifted (os : Os) (started : os.Started) (H : Type) (enc : TypeId × Value → H) :
    ReturnsInHanded {} Tryz.checked os 13 .any (Rows.tableGoneSpec.pre6 enc Tryz.prog Tryz.f13 Rows.tableGoneRow.domain false) (Rows.tableGoneSpec.post enc Tryz.prog Tryz.f13 false true false false) := by
  refine returnsInHanded_of_change_sized (C := Tryz.checked) own started (by kernel_rfl) Tryz.func13
    (ChangeSpec.witness6 (enc := enc) (C := Tryz.checked) false ⟨#[], #[.int .i64 0, .slice none 0 0], []⟩ 8 (by kernel_rfl) (by kernel_rfl) (by kernel_rfl) (by kernel_rfl)) ?_
  intro W base args ds gs before hval0 hW hcnd hsz0 _
  have hsz : (DataW.weightsEach Tryz.prog (Tryz.f13.params.toList ++ Rows.tableGoneSpec.plain.varTypes Tryz.prog) (ds ++ gs)).all (· ≤ reachBytes) = true := hsz0
  have hval : ∀ (j : Nat) t v, Tryz.f13.params[j]? = some t → args[j]? = some v → Value.okWide Tryz.prog W .any base t v := hval0
  have hW' := hW
  obtain ⟨p, q, hA0, hV, rfl, hfz, hnd⟩ := hW
  have hA : DataW.TrodAll enc Tryz.prog W 0 (fun _ => true) true Tryz.f13.params.toList args.toList ds p := hA0
  rw [Tryz.params13] at hA hval hsz
  obtain ⟨v0, vs0, d0, ds0, p0, q0, hargs, rfl, rfl, h0, r0⟩ := trodAll_cons hA
  obtain ⟨v1, vs1, d1, ds1, p1, q1, rfl, rfl, rfl, h1, r1⟩ := trodAll_cons r0
  obtain ⟨rfl, rfl, rfl⟩ := trodAll_nil r1
  obtain rfl : args = #[v0, v1] := by cases args; simp_all
  obtain ⟨rfl, rfl⟩ := trodVars_none hV
  have er : reachBytes = 140737488351232 := rfl
  obtain ⟨a0, rfl, rfl, rfl, w0⟩ := open_int Tryz.underlying3 (hval 0 3 v0 rfl rfl) h0
  obtain ⟨a1, len1, cap1, rfl⟩ := okWide_slice Tryz.underlying120 (hval 1 120 v1 rfl rfl)
  have k1 := h1
  have lt1 : ∀ x ∈ p1, x.block < W.heap.size := by obtain ⟨m, hm⟩ := k1; exact DataW.trod_lt m _ _ _ hm
  obtain ⟨fuel1, hf1⟩ := h1
  obtain ⟨m1, es1, w1, o1⟩ := open_flat (ks := [.bool]) 20 Tryz.underlying120 (by kernel_rfl) (by kernel_rfl) hf1 rfl
  have y1 : len1 * 1 ≤ 140737488351232 := by
    rcases slice_len Tryz.underlying120 hf1 rfl with h | ⟨el, r, rfl, hel⟩
    · omega
    · have z := sized_slice hsz (j := 1) (t := 120) rfl rfl Tryz.underlying120
      rw [show Tryz.prog.bytesOf 4 = 1 by kernel_rfl] at z
      omega
  clear hA0 hval0 hsz0 hsz
  refine (walk W a0 w1 o1 y1).mono fun e W' ⟨he, bel⟩ => ?_
  subst he
  exact ⟨_, rfl, _, _, _, [], _, [], hW', trodAll_mk1 (shut_bool Tryz.underlying4 _), (trodAll_cons_mk (shut_int Tryz.underlying3 w0) (trodAll_cons_mk (Below.trod laidOut (by kernel_rfl) (of_decide_eq_true (by kernel_rfl)) k1 bel lt1) trodAll_mk0)), rfl, bel.frame _, fun h => by cases h⟩

/-! Three facts of the whole program, each by itself: taken together they outgrow the kernel's room. -/
theorem fact_mayEnter : Tryz.prog.mayEnter = true := by kernel_rfl
theorem fact_lifts : (Rows.tableGoneRow.lifted == Tryz.prog.liftsFinal) = true := by kernel_rfl
theorem fact_make : (Tryz.prog.make == some Rows.tableGoneRow.make) = true := by kernel_rfl
theorem closed : joinedFacts Tryz.prog 13 Tryz.f13 Rows.tableGoneSpec Rows.tableGoneRow = true := by
  unfold joinedFacts
  rw [fact_mayEnter, fact_lifts, fact_make]
  kernel_rfl
theorem over : Rows.tableGoneRow.holds Tryz.pinned (OpenSpec.ofChange Rows.tableGoneSpec) :=
  OpenClaim.holds_of_wide 13 Tryz.f13 rfl rfl rfl rfl rfl rfl rfl ⟨rfl, rfl, rfl, rfl, rfl⟩ rfl rfl rfl rfl rfl (by kernel_rfl) Tryz.func13 closed
    (of_decide_eq_true (by kernel_rfl)) (by unfold Func.isWrapper; first | (rw [if_pos (by decide +kernel)]; kernel_rfl) | (rw [if_neg (by decide +kernel)]; exact ⟨rfl, rfl⟩))
    (fun os started H enc _ => lifted os started H enc)
theorem proved : Rows.TableGoneSaid := over
end Go.Proofs.YtlpeldimmaajkaaGreat.tableGone
namespace Go.Proofs.YtlpeldimmaajkaaGreat
/-- The row, under a short name, for the claim. -/
theorem tableGone_holds : Rows.TableGoneSaid := tableGone.proved
#print axioms tableGone_holds
end Go.Proofs.YtlpeldimmaajkaaGreat
