/- r4: HostFinds: what it comes to, whatever its input. Conditions: none. -/
import Derived.Test.YtgnkjpbecgpjoaaGreatDoorHfr1
import Derived.Test.YtgnkjpbecgpjoaaGreatDoorHfr2
import Derived.Test.YtgnkjpbecgpjoaaGreatDoorHfr3
import Derived.Test.YtgnkjpbecgpjoaaGreatDoorHfp
import Derived.Test.YtgnkjpbecgpjoaaGreatDoorLz5
import Derived.Test.YtgnkjpbecgpjoaaGreatDoorFwQ
import Derived.Test.YtgnkjpbecgpjoaaGreatDoorFx2
set_option linter.unusedVariables false
set_option linter.unusedSimpArgs false
namespace Go.Proofs.YtgnkjpbecgpjoaaGreatDoor
open Go Go.Proofs.YtgnkjpbecgpjoaaGreatDoor.Fw Go.RowKit
theorem T9_H : T9.H = iniH globL := by
  apply List.ext_getElem?
  intro i
  rw [KH.at_]
  match i with
  | 0 => rfl
  | 1 => rfl
  | 2 => rfl
  | 3 => rfl
  | 4 => rfl
  | 5 => rfl
  | 6 => rfl
  | 7 => rfl
  | 8 => rfl
  | i + 9 => rw [if_neg (show ¬ i + 9 < T9.n from by show ¬ i + 9 < 9; omega)]; simp [globL, iniH]
theorem isT_out {r : KR} (h : isT r = true) : ∃ T, r = some (.bool true, T) := by
  unfold isT at h
  split at h
  · exact ⟨_, rfl⟩
  · cases h
theorem FL_code {P : Program} {E : Tr Ent} {m f : Nat} {c : FCode} {fn : Func} {args : List Value} {H : Heap} (h1 : E.get f = some (.code c)) (h2 : P.funcs[f]? = some fn) : FL P E (m + 1) f args H = FN P (fun g => some (FL P E m g)) fn c.cuts args H := by
  simp only [FL, h1, h2]
/-- From the place behind the first calls it comes to true. -/
def Hfd (fn : Func) (n far : Nat) (b : Bool) : Prop := ∃ H', Gd Tryz.prog 4 fn k4.cuts (k4.td 8) [vi n, .bool b, vp 10, vi far] hfL.H (.bool true) H'
theorem hfe {fn : Func} (hc : Fw.Code Tryz.prog 4 k4 fn) {n far : Nat} {b : Bool} (h : isT (hfRun n far b) = true) : Hfd fn n far b := by
  obtain ⟨T, h⟩ := isT_out h
  exact ⟨_, Gd.ends EE_ok hc h⟩
theorem hfe2 {fn : Func} (hc : Fw.Code Tryz.prog 4 k4 fn) {n far : Nat} {b : Bool} (h : isT (hfRun2 n far b) = true) : Hfd fn n far b := by
  obtain ⟨T, h⟩ := isT_out h
  exact ⟨_, Gd.ends EE2_ok hc h⟩
theorem hfAll_f {fn : Func} (hc : Fw.Code Tryz.prog 4 k4 fn) (n : Nat) (h : n < 29) : Hfd fn n 11 false := by
  match n, h with
  | 0, _ => exact hfe hc hf_0_f
  | 1, _ => exact hfe hc hf_1_f
  | 2, _ => exact hfe hc hf_2_f
  | 3, _ => exact hfe hc hf_3_f
  | 4, _ => exact hfe hc hf_4_f
  | 5, _ => exact hfe hc hf_5_f
  | 6, _ => exact hfe hc hf_6_f
  | 7, _ => exact hfe hc hf_7_f
  | 8, _ => exact hfe hc hf_8_f
  | 9, _ => exact hfe hc hf_9_f
  | 10, _ => exact hfe hc hf_10_f
  | 11, _ => exact hfe hc hf_11_f
  | 12, _ => exact hfe hc hf_12_f
  | 13, _ => exact hfe2 hc hf_13_f
  | 14, _ => exact hfe2 hc hf_14_f
  | 15, _ => exact hfe2 hc hf_15_f
  | 16, _ => exact hfe2 hc hf_16_f
  | 17, _ => exact hfe2 hc hf_17_f
  | 18, _ => exact hfe2 hc hf_18_f
  | 19, _ => exact hfe2 hc hf_19_f
  | 20, _ => exact hfe2 hc hf_20_f
  | 21, _ => exact hfe2 hc hf_21_f
  | 22, _ => exact hfe2 hc hf_22_f
  | 23, _ => exact hfe2 hc hf_23_f
  | 24, _ => exact hfe2 hc hf_24_f
  | 25, _ => exact hfe2 hc hf_25_f
  | 26, _ => exact hfe2 hc hf_26_f
  | 27, _ => exact hfe2 hc hf_27_f
  | 28, _ => exact hfe2 hc hf_28_f
  | n + 29, h => exact absurd h (by omega)
theorem hfAll_t {fn : Func} (hc : Fw.Code Tryz.prog 4 k4 fn) (n : Nat) (h : n < 29) : Hfd fn n 77 true := by
  match n, h with
  | 0, _ => exact hfe hc hf_0_t
  | 1, _ => exact hfe hc hf_1_t
  | 2, _ => exact hfe hc hf_2_t
  | 3, _ => exact hfe hc hf_3_t
  | 4, _ => exact hfe hc hf_4_t
  | 5, _ => exact hfe hc hf_5_t
  | 6, _ => exact hfe hc hf_6_t
  | 7, _ => exact hfe hc hf_7_t
  | 8, _ => exact hfe hc hf_8_t
  | 9, _ => exact hfe hc hf_9_t
  | 10, _ => exact hfe hc hf_10_t
  | 11, _ => exact hfe hc hf_11_t
  | 12, _ => exact hfe hc hf_12_t
  | 13, _ => exact hfe hc hf_13_t
  | 14, _ => exact hfe hc hf_14_t
  | 15, _ => exact hfe hc hf_15_t
  | 16, _ => exact hfe hc hf_16_t
  | 17, _ => exact hfe hc hf_17_t
  | 18, _ => exact hfe hc hf_18_t
  | 19, _ => exact hfe hc hf_19_t
  | 20, _ => exact hfe hc hf_20_t
  | 21, _ => exact hfe hc hf_21_t
  | 22, _ => exact hfe hc hf_22_t
  | 23, _ => exact hfe hc hf_23_t
  | 24, _ => exact hfe hc hf_24_t
  | 25, _ => exact hfe hc hf_25_t
  | 26, _ => exact hfe hc hf_26_t
  | 27, _ => exact hfe hc hf_27_t
  | 28, _ => exact hfe hc hf_28_t
  | n + 29, h => exact absurd h (by omega)
theorem among (x : Int) : ∃ n : Nat, n < 29 ∧ ∀ H, FL Tryz.prog EE 300 9 [.int .i64 x, .int .i64 29] H = some (.int .i64 (.ofNat n), H) := by
  obtain ⟨fn, q1, q2, q3, q4, q5⟩ := K9.ex
  have hg : EE.get 9 = some (.code k9) := by kernel_rfl
  have key : ∀ v H, (∀ Γ J, (X9 [.int .i64 x, .int .i64 29]).run Tryz.prog Γ J H = some (v, H)) → FL Tryz.prog EE 300 9 [.int .i64 x, .int .i64 29] H = some (v, H) := fun v H h => by
    have hx : (k9.X [.int .i64 x, .int .i64 29]).run Tryz.prog (fun g => some (FL Tryz.prog EE 299 g)) (fun key vs H => run Tryz.prog (fun g => some (FL Tryz.prog EE 299 g)) fn k9.cuts 1 (k9.td key) vs H) H = some (v, H) := h _ _
    obtain ⟨h6, h7⟩ := q4 _ (run Tryz.prog _ fn k9.cuts 1) _ _ _ hx
    exact (FL_code hg q1).trans (FN_of 1 h6 h7)
  have h1 := Int.lt_tmod_of_pos x (b := 29) (by decide)
  have h2 := Int.tmod_lt_of_pos x (b := 29) (by decide)
  have h3 : 0 ≤ (x.tmod 29 + 29).tmod 29 := Int.tmod_nonneg _ (by omega)
  have h4 := Int.tmod_lt_of_pos (x.tmod 29 + 29) (b := 29) (by decide)
  refine ⟨((x.tmod 29 + 29).tmod 29).toNat, by omega, fun H => key _ H fun Γ J => ?_⟩
  have h5 : Int.ofNat ((x.tmod 29 + 29).tmod 29).toNat = (x.tmod 29 + 29).tmod 29 := Int.toNat_of_nonneg h3
  rw [h5]
  have h29 : ¬ ((29 : Int) = 0) := by decide
  simp only [X9, M.run, Fw.kInt, if_true, if_neg h29, wrap_in (show -9223372036854775808 ≤ x.tmod 29 + 29 ∧ x.tmod 29 + 29 < 9223372036854775808 by omega)]
theorem hfPre_out {r : KR} (h : hfPre r = true) : ∃ T1 T2, r = some (vp 10, T1) ∧ KC 14 [] T1 = some (.bool true, T2) ∧ kkill T2 hfL = true := by
  unfold hfPre at h
  split at h
  · rename_i T1
    unfold hfPre2 at h
    split at h
    · rename_i T2 e
      exact ⟨T1, T2, rfl, e, h⟩
    · cases h
  · cases h
theorem hf_main (x : Int) (b : Bool) : ∃ H', Gf Tryz.prog 4 [.int .i64 x, .bool b] T9.H (.bool true) H' := by
  obtain ⟨fn, hc⟩ := Fw.Code.of K4
  obtain ⟨n, hn, h9⟩ := among x
  obtain ⟨T1, T2, e1, e2, hk⟩ := hfPre_out hf_pre
  have g1 := kcall_sound EE_ok 300 13 _ _ _ _ e1
  have g2 := kcall_sound EE_ok 300 14 _ _ _ _ e2
  cases b with
  | false =>
    obtain ⟨H', hG⟩ := hfAll_f hc n hn
    refine ⟨H', Gf.of_text EE_ok hc (m := 300) ?_⟩
    show (X4 [.int .i64 x, .bool false]).run _ _ _ _ = _
    simp only [X4, M.run, Fw.kInt, Fw.kPtr, Fw.kBool, onSome, g1, g2, h9, Option.isNone, Bool.not_true, Bool.not_false, if_true]
    exact Jm.of (hG.kill_l (kkill_ok hk))
  | true =>
    obtain ⟨H', hG⟩ := hfAll_t hc n hn
    refine ⟨H', Gf.of_text EE_ok hc (m := 300) ?_⟩
    show (X4 [.int .i64 x, .bool true]).run _ _ _ _ = _
    simp only [X4, M.run, Fw.kInt, Fw.kPtr, Fw.kBool, onSome, g1, g2, h9, Option.isNone, Bool.not_true, Bool.not_false, if_true]
    exact Jm.of (hG.kill_l (kkill_ok hk))
noncomputable def F4 : List Value → Heap → R := Fgf Tryz.prog 4 (.bool true)
theorem S4 : Sound Tryz.prog 4 F4 := Fgf_sound Tryz.func4 (by kernel_rfl) (by kernel_rfl) _
theorem main4 (x : Int) (b : Bool) : ∃ H', F4 [.int .i64 x, .bool b] (iniH globL) = some (.bool true, H') := by
  obtain ⟨H', h⟩ := hf_main x b
  rw [T9_H] at h
  exact Fgf_of h
end Go.Proofs.YtgnkjpbecgpjoaaGreatDoor
