/- r3: TableGone: the run behind its first three calls, for the kernel. -/
import Derived.Test.YtlpeldimmaajkaaGreatPm2
set_option linter.unusedVariables false
set_option linter.unusedSimpArgs false
namespace Go.Proofs.YtlpeldimmaajkaaGreat
open Go Go.Proofs.YtlpeldimmaajkaaGreat.Fw Go.RowKit
noncomputable abbrev KC : KFs := kcall Tryz.prog EE 100000 300
noncomputable def T0 (o : AObj) : KH := ⟨1, .n (some o) .e .e⟩
noncomputable def goes13 (n : Int) (sl : Value) (p : Option Addr) : M := .jmp 100007 [.int .i64 n, sl, .pointer p, .slice none 0 0, .slice none 0 0, .int .i64 n, .int .i64 0]
noncomputable def seg2 (n : Int) (sl : Value) (p : Option Addr) (r : KR) : KR := (match r with
  | some (.bool true, T2) => kdrv Tryz.prog KC k13 100000 (goes13 n sl p) T2
  | _ => none)
noncomputable def seg (n : Int) (o : AObj) (sl : Value) : KR := (match KC 30 [.int .i64 2] (T0 o) with
  | some (.pointer (some p), T1) => seg2 n sl (some p) (KC 24 [] T1)
  | _ => none)
theorem isT_out {r : KR} (h : isT r = true) : ∃ T, r = some (.bool true, T) := by
  unfold isT at h
  split at h
  · exact ⟨_, rfl⟩
  · cases h
theorem seg_out {n : Int} {o : AObj} {sl : Value} (h : isT (seg n o sl) = true) : ∃ p T1 T2 T3, KC 30 [.int .i64 2] (T0 o) = some (.pointer (some p), T1) ∧ KC 24 [] T1 = some (.bool true, T2) ∧ kdrv Tryz.prog KC k13 100000 (goes13 n sl (some p)) T2 = some (.bool true, T3) := by
  obtain ⟨T3, h⟩ := isT_out h
  unfold seg at h
  split at h
  · rename_i p T1 e1
    unfold seg2 at h
    split at h
    · rename_i T2 e2
      exact ⟨p, T1, T2, T3, e1, e2, h⟩
    · cases h
  · cases h
theorem T0_H (o : AObj) : (T0 o).H = [o] := by
  apply List.ext_getElem?
  intro i
  rw [KH.at_]
  cases i with
  | zero => rfl
  | succ i => simp [T0]
theorem FL_code {P : Program} {E : Tr Ent} {m f : Nat} {c : FCode} {fn : Func} {args : List Value} {H : Heap} (h1 : E.get f = some (.code c)) (h2 : P.funcs[f]? = some fn) : FL P E (m + 1) f args H = FN P (fun g => some (FL P E m g)) fn c.cuts args H := by
  simp only [FL, h1, h2]
/-- What TableGone comes to, of how many streams it makes, and a run behind that. -/
theorem gone {x n : Int} {o : AObj} {a : Option Addr} {l c : Nat} (h18 : ∀ H, FL Tryz.prog EE 300 18 [.int .i64 x, .int .i64 3] H = some (.int .i64 (n - 1), H)) (hn : n = 1 ∨ n = 2 ∨ n = 3)
    (h : isT (seg n o (.slice a l c)) = true) : ∃ H', FL Tryz.prog EE 301 13 [.int .i64 x, .slice a l c] [o] = some (.bool true, H') := by
  obtain ⟨p, T1, T2, T3, e1, e2, e3⟩ := seg_out h
  refine ⟨T3.H, ?_⟩
  have g1 := kcall_sound EE_ok 300 30 _ _ _ _ e1
  have g2 := kcall_sound EE_ok 300 24 _ _ _ _ e2
  have hΓ : ∀ f args T v T', kcall Tryz.prog EE 100000 300 f args T = some (v, T') → ∃ F, (fun g => some (FL Tryz.prog EE 300 g) : Fs) f = some F ∧ F args T.H = some (v, T'.H) := fun f args T v T' h => ⟨_, rfl, kcall_sound EE_ok 300 f args T v T' h⟩
  obtain ⟨fn, q1, q2, q3, q4, q5⟩ := K13.ex
  have g3 := kdrv_sound (P := Tryz.prog) (Γ := fun g => some (FL Tryz.prog EE 300 g)) hΓ (c := k13) (fn := fn) (fun m key vs H r => q5 _ m key vs H r) 100000 _ T2 _ T3 e3
  rw [T0_H] at g1
  have hx : (k13.X [.int .i64 x, .slice a l c]).run Tryz.prog (fun g => some (FL Tryz.prog EE 300 g)) (fun key vs H => run Tryz.prog (fun g => some (FL Tryz.prog EE 300 g)) fn k13.cuts 100000 (k13.td key) vs H) [o] = some (.bool true, T3.H) := by
    have hw : IntKind.wrap .i64 (1 + (n - 1)) = n := by rcases hn with rfl | rfl | rfl <;> kernel_rfl
    show (X13 [.int .i64 x, .slice a l c]).run _ _ _ _ = _
    simp only [goes13, M.run] at g3
    simp only [X13, M.run, Fw.kInt, Fw.kSl, Fw.kPtr, Fw.kBool, onSome, g1, g2, h18, Option.isNone, Bool.not_true, Bool.not_false, hw]
    exact g3
  obtain ⟨h6, h7⟩ := q4 _ _ _ _ _ hx
  have hg : EE.get 13 = some (.code k13) := by kernel_rfl
  exact (FL_code hg q1).trans (FN_of 100000 h6 h7)
end Go.Proofs.YtlpeldimmaajkaaGreat
