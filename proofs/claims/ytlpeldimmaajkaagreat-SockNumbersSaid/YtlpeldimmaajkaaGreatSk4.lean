/- r3: sockets: the requests that wait are looked at (one waits, and is answered). -/
import Derived.Test.YtlpeldimmaajkaaGreatSk3
set_option linter.unusedVariables false
set_option linter.unusedSimpArgs false
namespace Go.Proofs.YtlpeldimmaajkaaGreat
open Go Go.RowKit Go.Lib Go.Proofs.YtlpeldimmaajkaaGreat.Fw
theorem c43' : Tryz.prog.cellsOf 43 = 5 := by kernel_rfl
theorem e43' : tyE Tryz.prog 43 = 5 := by kernel_rfl
theorem b43' : Tryz.prog.bytesOf 43 ≤ 100 := by decide +kernel
theorem cellsOks_agg (x : Array Value) (K : R) : cellsOks [.agg x] K = K := by simp [cellsOks, cellsOk]
theorem add0 (j n : Nat) : (⟨j, 0, none⟩ : Addr).add n = ⟨j, n, none⟩ := by
  unfold Addr.add
  split
  · rename_i h; subst h; rfl
  · simp
/-- What came of a request. -/
def DC (tag code fd n : Int) (s : ByteArray) : List Value := [.int .i64 tag, .int .i64 code, .int .i64 fd, .int .i64 n, .string s]
section
variable {H H1 : Heap} {b j D W c : Nat} {tv fv nv : Value} {tag code fd n : Int} {s : ByteArray}
theorem fill5 : Instr.fill (fun i => some (i * 5, 5)) ([.int .i64 (0 : Int), .int .i64 (0 : Int), .int .i64 (0 : Int), .int .i64 (0 : Int), .string (⟨#[]⟩ : ByteArray)] : List Value).toArray (([0] : List Nat).zip [.agg (DC tag code fd n s).toArray]) = some (DC tag code fd n s).toArray := rfl
theorem look112 (hb : H[b]? = some (.cells [tv, fv, .slice (some ⟨j, 0, none⟩) 1 c, .slice none 0 0, nv] 0 true)) (hj : H[j]? = some (.cells [.pointer (some ⟨W, 0, none⟩)] 1 true)) (hc : c = unk ∨ c = unk + 1)
    (turn : F154 [.pointer (some ⟨b, 0, none⟩), .pointer (some ⟨W, 0, none⟩)] H = some (.pointer (some ⟨D, 0, none⟩), H1)) (hb1 : H1[b]? = H[b]?) (hj1 : H1[j]? = H[j]?) (hD : H1[D]? = some (.cells (DC tag code fd n s) 0 true)) :
    ∃ r H2, F112 [.pointer (some ⟨b, 0, none⟩)] H = some (.slice (some ⟨r, 0, none⟩) 1 unk, H2) ∧ H1.length ≤ r ∧ H2[r]? = some (.cells (DC tag code fd n s) 5 true) ∧ H2[b]? = some (.cells [tv, fv, .slice (some ⟨j, 0, none⟩) 0 (unk + 1), .slice none 0 0, nv] 0 true) ∧ H2[j]? = some (.cells [.pointer none] 1 true) ∧ Ch (fun k => k = b ∨ k = j) H1 H2 := by
  have hbj : b ≠ j := ne_at hb hj (by simp)
  rw [hb] at hb1
  rw [hj] at hj1
  obtain ⟨H26, hH26⟩ : ∃ X, X = H1 ++ [.cells (DC tag code fd n s) 5 true] := ⟨_, rfl⟩
  have b26 : H26[H1.length]? = some (.cells (DC tag code fd n s) 5 true) := by rw [hH26]; simp
  have l26 : H26.length = H1.length + 1 := by rw [hH26]; simp
  have f26 : ∀ K : Nat → List Value → R, firstC H26 5 (.slice (some ⟨H1.length, 0, none⟩) 1 1) K = K 1 (DC tag code fd n s) := fun K => by
    simp only [firstC, ↓ldc_at b26]
    rw [if_pos (by simp [DC]), show range (DC tag code fd n s) 0 (1 * 5) = DC tag code fd n s from range_all _ 5 rfl]
  obtain ⟨H30, hH30⟩ : ∃ X, X = H26 ++ [.cells (DC tag code fd n s) 5 true] := ⟨_, rfl⟩
  have l30 : H30.length = H26.length + 1 := by rw [hH30]; simp
  have a26 : ∀ K : Value → Heap → R, Fw.app Tryz.prog 43 H26 (.slice none 0 0) 1 (DC tag code fd n s) K = K (.slice (some ⟨H26.length, 0, none⟩) 1 unk) H30 := fun K => by
    simp only [Fw.app, kSl]
    have := b43'
    rw [if_pos ⟨by omega, by omega⟩, if_pos ⟨trivial, trivial⟩, if_neg (by omega), e43', hH30]
  have b30 : H30[b]? = some (.cells [tv, fv, .slice (some ⟨j, 0, none⟩) 1 c, .slice none 0 0, nv] 0 true) := by rw [hH30, hH26]; exact at_push (at_push hb1 _) _
  have j30 : H30[j]? = some (.cells [.pointer (some ⟨W, 0, none⟩)] 1 true) := by rw [hH30, hH26]; exact at_push (at_push hj1 _) _
  obtain ⟨H40, hH40⟩ : ∃ X, X = H30.set j (.cells [.pointer none] 1 true) := ⟨_, rfl⟩
  have e155 : F155 [.slice (some ⟨j, 0, none⟩) 1 c, .int .i64 0, .int .i64 1] H30 = some (.slice (some ⟨j, 0, none⟩) 0 (unk + 1), H40) := by rw [hH40]; exact delete155 j30 hc
  have b40 : H40[b]? = some (.cells [tv, fv, .slice (some ⟨j, 0, none⟩) 1 c, .slice none 0 0, nv] 0 true) := by rw [hH40]; exact at_set b30 hbj.symm
  obtain ⟨H45, hH45⟩ : ∃ X, X = H40.set b (.cells [tv, fv, .slice (some ⟨j, 0, none⟩) 0 (unk + 1), .slice none 0 0, nv] 0 true) := ⟨_, rfl⟩
  have b45 : H45[b]? = some (.cells [tv, fv, .slice (some ⟨j, 0, none⟩) 0 (unk + 1), .slice none 0 0, nv] 0 true) := by rw [hH45]; exact at_set_self (lt_of_at b40) _
  have st45 : ∀ K : Value → Heap → R, Fw.st 1 H40 ⟨b, 2, none⟩ (.slice (some ⟨j, 0, none⟩) 0 (unk + 1)) K = K undef H45 := fun K => by
    rw [st_one (a := ⟨b, 2, none⟩) b40 (by simp) rfl, hH45]; rfl
  have w0 : IntKind.i64.wrap ((-1 : Int) + 1) = 0 := by decide
  have w1 : IntKind.i64.wrap ((0 : Int) + 1) = 1 := by decide
  have last : ∀ m, R112 (m + 1) td112_100002 [.pointer (some ⟨b, 0, none⟩), .slice (some ⟨H26.length, 0, none⟩) 1 unk, .int .i64 0] H45 = some (.slice (some ⟨H26.length, 0, none⟩) 1 unk, H45) := fun m => by
    rw [c112_100002]
    simp only [↓onS, ↓kInt_int, ↓kInt_u8, ↓kBool_bool, ↓kStr_str, ↓kTup_tup, ↓kPtr_ptr, ↓kSl_sl, ↓kAgg_agg, ↓kMp_mp, ↓ldc_at b45, Nat.zero_add, List.getElem?_toArray, List.getElem?_cons_zero, List.getElem?_cons_succ]
    rfl
  have first : ∀ m, R112 (m + 1 + 1 + 1) td112_100002 [.pointer (some ⟨b, 0, none⟩), .slice none 0 0, .int .i64 0] H = some (.slice (some ⟨H26.length, 0, none⟩) 1 unk, H45) := fun m => by
    rw [c112_100002]
    simp only [↓onS, ↓kInt_int, ↓kInt_u8, ↓kBool_bool, ↓kStr_str, ↓kTup_tup, ↓kPtr_ptr, ↓kSl_sl, ↓kAgg_agg, ↓kMp_mp, ↓ldc_at hb, Nat.zero_add, List.getElem?_toArray, List.getElem?_cons_zero, List.getElem?_cons_succ]
    rw [show decide ((0 : Int) < ((1 : Nat) : Int)) = true from rfl]
    simp only []
    rw [if_pos ⟨by omega, by omega⟩, show ((0 : Int).toNat * 1) = 0 from rfl, add0]
    simp only [↓ldc_at hj, List.getElem?_toArray, List.getElem?_cons_zero, List.getElem?_cons_succ, ↓onS, ↓kInt_int, ↓kInt_u8, ↓kBool_bool, ↓kStr_str, ↓kTup_tup, ↓kPtr_ptr, ↓kSl_sl, ↓kAgg_agg, ↓kMp_mp, ↓on_of turn, Option.isNone_some, ↓ldc_at hD, Nat.zero_add]
    rw [if_pos (by simp [DC]), show range (DC tag code fd n s) 0 5 = DC tag code fd n s from range_all _ 5 rfl]
    rw [cellsOks_agg, fill5]
    simp only [↓onS, ↓kInt_int, ↓kInt_u8, ↓kBool_bool, ↓kStr_str, ↓kTup_tup, ↓kPtr_ptr, ↓kSl_sl, ↓kAgg_agg, ↓kMp_mp, ← hH26, f26, a26, ↓ldc_at b30, Nat.zero_add, List.getElem?_toArray, List.getElem?_cons_zero, List.getElem?_cons_succ, w1, ↓on_of e155, st45]
    rw [c112_3, w0]
    exact last m
  refine ⟨H26.length, H45, FN_of (0 + 1 + 1 + 1) ((t112 _ (some ⟨b, 0, none⟩) H).trans (first 0)) (Nat.le_of_ble_eq_true (by kernel_rfl)), by omega, ?_, b45, ?_, ?_⟩
  · have hr : H30[H26.length]? = some (.cells (DC tag code fd n s) 5 true) := by rw [hH30]; simp
    have hjl := lt_of_at hj1
    have hbl := lt_of_at hb1
    rw [hH45, List.getElem?_set_ne (by omega), hH40, List.getElem?_set_ne (by omega)]
    exact hr
  · rw [hH45]; exact at_set (by rw [hH40]; exact at_set_self (lt_of_at j30) _) hbj
  · refine ⟨by rw [hH45, hH40, List.length_set, List.length_set]; omega, fun k hk hn => ?_⟩
    rw [hH45, List.getElem?_set_ne (fun q => hn (.inl q.symm)), hH40, List.getElem?_set_ne (fun q => hn (.inr q.symm)), hH30, List.getElem?_append_left (by omega), hH26, List.getElem?_append_left hk]
theorem told59 (hb : H[b]? = some (.cells [tv, fv, .slice (some ⟨j, 0, none⟩) 1 c, .slice none 0 0, nv] 0 true)) (hj : H[j]? = some (.cells [.pointer (some ⟨W, 0, none⟩)] 1 true)) (hc : c = unk ∨ c = unk + 1)
    (turn : F154 [.pointer (some ⟨b, 0, none⟩), .pointer (some ⟨W, 0, none⟩)] H = some (.pointer (some ⟨D, 0, none⟩), H1)) (hb1 : H1[b]? = H[b]?) (hj1 : H1[j]? = H[j]?) (hD : H1[D]? = some (.cells (DC tag code fd n s) 0 true)) :
    ∃ r H2, F59 [.pointer (some ⟨b, 0, none⟩)] H = some (.tuple #[.slice (some ⟨r, 0, none⟩) 1 unk, .slice none 0 0], H2) ∧ H1.length ≤ r ∧ H2[r]? = some (.cells (DC tag code fd n s) 5 true) ∧ H2[b]? = some (.cells [tv, fv, .slice (some ⟨j, 0, none⟩) 0 (unk + 1), .slice none 0 0, nv] 0 true) ∧ H2[j]? = some (.cells [.pointer none] 1 true) ∧ Ch (fun k => k = b ∨ k = j) H1 H2 := by
  obtain ⟨r, H2, e, q1, q2, q3, q4, q5⟩ := look112 hb hj hc turn hb1 hj1 hD
  refine ⟨r, H2, FN_of 1 ((t59 1 (some ⟨b, 0, none⟩) H).trans ?_) (Nat.le_of_ble_eq_true (by kernel_rfl)), q1, q2, q3, q4, q5⟩
  simp only [↓on_of e, ↓onS, ↓kInt_int, ↓kInt_u8, ↓kBool_bool, ↓kStr_str, ↓kTup_tup, ↓kPtr_ptr, ↓kSl_sl, ↓kAgg_agg, ↓kMp_mp, ↓ldc_at q3, Nat.zero_add, List.getElem?_toArray, List.getElem?_cons_zero, List.getElem?_cons_succ]
  rw [st_one (a := ⟨b, 3, none⟩) q3 (by simp) rfl]
  have : H2.set b (.cells ([tv, fv, .slice (some ⟨j, 0, none⟩) 0 (unk + 1), .slice none 0 0, nv].set 3 (.slice none 0 0)) 0 true) = H2 := set_self q3
  simp only [this]
end
end Go.Proofs.YtlpeldimmaajkaaGreat
