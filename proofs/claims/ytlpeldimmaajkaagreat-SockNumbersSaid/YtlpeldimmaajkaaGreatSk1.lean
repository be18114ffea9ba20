/- r3: sockets that listen: maps as lists; a new box. -/
import Derived.Test.YtlpeldimmaajkaaGreatTA
set_option linter.unusedVariables false
set_option linter.unusedSimpArgs false
namespace Go.Proofs.YtlpeldimmaajkaaGreat
open Go Go.RowKit Go.Lib Go.Proofs.YtlpeldimmaajkaaGreat.Fw
/-! ### Maps whose keys are whole numbers -/
section
variable {T : Type} (κ : T → Int) (ν : T → Value)
def mp (κ : T → Int) (ν : T → Value) (l : List T) : List (Value × Value) := l.map fun e => (.int .i64 (κ e), ν e)
def fi (κ : T → Int) (n : Int) (l : List T) : Option T := l.find? fun e => decide (n = κ e)
theorem mfind_mp (n : Int) (l : List T) : mfind (.int .i64 n) (mp κ ν l) = (fi κ n l).map ν := by
  induction l with
  | nil => rfl
  | cons e r ih =>
    simp only [mp, List.map_cons, mfind, keyEq, fi, List.find?_cons]
    by_cases h : n = κ e
    · simp [h]
    · simp only [h, beq_iff_eq, if_false, decide_false]
      exact ih
theorem keysOk_mp (n : Int) (l : List T) : keysOk (.int .i64 n) (mp κ ν l) = true := by
  simp only [keysOk, mp, List.all_map, List.all_eq_true]
  intro p _; rfl
theorem mset_mp {n : Int} {l : List T} (h : fi κ n l = none) (e : T) (he : κ e = n) : mset (.int .i64 n) (ν e) (mp κ ν l) = mp κ ν (l ++ [e]) := by
  induction l with
  | nil => simp [mp, mset, he]
  | cons x r ih =>
    have h1 : ¬ n = κ x := fun q => by simp [fi, List.find?_cons, q] at h
    have h2 : fi κ n r = none := by simpa [fi, List.find?_cons, h1] using h
    have := ih h2
    simp only [mp, List.map_cons, List.cons_append, mset, keyEq, beq_iff_eq, h1, if_false] at this ⊢
    rw [this]
theorem mdel_mp {n : Int} {l : List T} (hn : (l.map κ).Nodup) : mdel (.int .i64 n) (mp κ ν l) = mp κ ν (l.filter fun e => decide (¬ n = κ e)) := by
  induction l with
  | nil => rfl
  | cons x r ih =>
    obtain ⟨h1, h2⟩ := List.nodup_cons.1 hn
    by_cases h : n = κ x
    · have hr : r.filter (fun e => decide (¬ n = κ e)) = r := List.filter_eq_self.2 fun e he => by
        simp only [decide_eq_true_eq]
        intro q
        exact h1 (List.mem_map.2 ⟨e, he, by rw [← q, h]⟩)
      rw [List.filter_cons, if_neg (by simp [h]), hr]
      simp [mp, mdel, keyEq, h]
    · have := ih h2
      rw [List.filter_cons, if_pos (by simp [h])]
      simp only [mp, List.map_cons, mdel, keyEq, beq_iff_eq, h, if_false] at this ⊢
      rw [this]
theorem fi_some {n : Int} {l : List T} {e : T} (h : fi κ n l = some e) : e ∈ l ∧ n = κ e := by
  have h1 := List.mem_of_find?_eq_some h
  have h2 := List.find?_some h
  exact ⟨h1, by simpa using h2⟩
theorem fi_none {n : Int} {l : List T} : fi κ n l = none ↔ ∀ e ∈ l, ¬ n = κ e := by
  unfold fi
  rw [List.find?_eq_none]
  simp
end
/-! ### A box -/
def SU : List Value := [.int .i64 20, .int .i64 60, .int .i64 1, .int .i64 8, .int .i64 4, .int .i64 40, .int .i64 20, .int .i64 10, .int .i64 7, .int .i64 8, .int .i64 20]
theorem range_all (l : List Value) (n : Nat) (h : l.length = n) : range l 0 n = l := by
  unfold range
  rw [List.drop_zero, List.take_of_length_le (by omega)]
theorem setup16 (H : Heap) : ∃ H', F16 [] H = some (.agg SU.toArray, H') ∧ Ch (fun _ => False) H H' := by
  obtain ⟨H0, hH0⟩ : ∃ X, X = H ++ [.cells [.int .i64 (0 : Int), .int .i64 (0 : Int), .int .i64 (0 : Int), .int .i64 (0 : Int), .int .i64 (0 : Int), .int .i64 (0 : Int), .int .i64 (0 : Int), .int .i64 (0 : Int), .int .i64 (0 : Int), .int .i64 (0 : Int), .int .i64 (0 : Int)] 0 true] := ⟨_, rfl⟩
  have b0 : H0[H.length]? = some (.cells [.int .i64 (0 : Int), .int .i64 (0 : Int), .int .i64 (0 : Int), .int .i64 (0 : Int), .int .i64 (0 : Int), .int .i64 (0 : Int), .int .i64 (0 : Int), .int .i64 (0 : Int), .int .i64 (0 : Int), .int .i64 (0 : Int), .int .i64 (0 : Int)] 0 true) := by rw [hH0]; simp
  obtain ⟨H1, hH1⟩ : ∃ X, X = H0.set H.length (.cells SU 0 true) := ⟨_, rfl⟩
  have b1 : H1[H.length]? = some (.cells SU 0 true) := by rw [hH1]; exact at_set_self (lt_of_at b0) _
  refine ⟨H1, FN_of 1 ((t16 1 H).trans ?_) (Nat.le_of_ble_eq_true (by kernel_rfl)), ⟨by rw [hH1, hH0]; simp, fun k hk _ => ?_⟩⟩
  · have hs : ∀ K : Value → Heap → R, Fw.st 11 H0 ⟨H.length, 0, none⟩ (.agg SU.toArray) K = K undef H1 := fun K => by
      rw [st_whole (vs := SU) (n := 11) b0 rfl rfl, hH1]
    show (Fw.st 11 _ _ (.agg SU.toArray) _) = _
    rw [← hH0, hs]
    simp only [↓ldc_at b1]
    rw [if_pos (by decide), range_all SU 11 rfl]
  · rw [hH1, List.getElem?_set_ne (by omega), hH0, List.getElem?_append_left hk]
theorem check51 (H : Heap) : ∃ H', F51 [.agg #[.int .i64 20, .int .i64 60, .int .i64 1, .int .i64 8, .int .i64 4, .int .i64 40, .int .i64 20, .int .i64 10]] H = some (.int .i64 0, H') ∧ Ch (fun _ => False) H H' := by
  obtain ⟨H8, hH8⟩ : ∃ X, X = H ++ [.cells [.int .i64 20, .int .i64 60, .int .i64 1, .int .i64 8, .int .i64 4, .int .i64 40, .int .i64 20, .int .i64 10] 0 true] := ⟨_, rfl⟩
  have b8 : H8[H.length]? = some (.cells [.int .i64 20, .int .i64 60, .int .i64 1, .int .i64 8, .int .i64 4, .int .i64 40, .int .i64 20, .int .i64 10] 0 true) := by rw [hH8]; simp
  have e108 : F108 [.int .i64 8, .int .i64 4, .int .i64 40] H8 = some (.tuple #[.pointer (some ⟨H8.length, 0, none⟩), .int .i64 0], H8 ++ [.cells [.int .i64 4, .int .i64 40, .int .i64 8, .int .i64 0, .int .i64 0, .int .i64 0, .bool false] 0 true]) :=
    FN_of 1 (t108 1 8 4 40 H8) (Nat.le_of_ble_eq_true (by kernel_rfl))
  refine ⟨H8 ++ [.cells [.int .i64 4, .int .i64 40, .int .i64 8, .int .i64 0, .int .i64 0, .int .i64 0, .bool false] 0 true], FN_of 1 ((t51 1 20 60 1 8 4 40 20 10 H).trans ?_) (Nat.le_of_ble_eq_true (by kernel_rfl)), ?_⟩
  · simp only [← hH8, ↓ldc_at b8, Nat.zero_add, List.getElem?_toArray, List.getElem?_cons_zero, List.getElem?_cons_succ, ↓onS, ↓kInt_int, ↓kInt_u8, ↓kBool_bool, ↓kStr_str, ↓kTup_tup, ↓kPtr_ptr, ↓kSl_sl, ↓kAgg_agg, ↓kMp_mp]
    rw [show decide (mni (mni 20 60) 10 < 1) = false by decide]
    simp only []
    rw [show decide (mni 1 20 < 0) = false by decide]
    simp only []
    rw [show decide ((1460 : Int) < 20) = false by decide]
    simp only []
    rw [show decide ((65535 : Int) < 60) = false by decide]
    simp only []
    rw [show decide ((1048576 : Int) < mxi 1 10) = false by decide]
    simp only []
    rw [show decide ((32 : Int) < 20) = false by decide]
    simp only [↓on_of e108, ↓onS, ↓kInt_int, ↓kInt_u8, ↓kBool_bool, ↓kStr_str, ↓kTup_tup, ↓kPtr_ptr, ↓kSl_sl, ↓kAgg_agg, ↓kMp_mp, List.getElem?_toArray, List.getElem?_cons_zero, List.getElem?_cons_succ]
  · rw [hH8]; exact (Ch.push _ _ _).trans (Ch.push _ _ _)
def TB (m1 m2 m3 : Nat) (last : Int) : List Value := SU ++ [.int .i64 11, .int .i64 last, .map (some m1), .map (some m2), .map (some m3)]
theorem built153 (m1 m2 m3 : Nat) : Program.built Tryz.prog 153 (([0, 1, 3, 4, 5] : List Nat).zip [.agg SU.toArray, .int .i64 11, .map (some m1), .map (some m2), .map (some m3)]) = some (TB m1 m2 m3 0).toArray := by kernel_rfl
theorem table23 (H : Heap) : ∃ t m H', F23 [.agg SU.toArray, .int .i64 11] H = some (.tuple #[.pointer (some ⟨t, 0, none⟩), .int .i64 0], H') ∧ Ch (fun _ => False) H H' ∧ H.length ≤ m ∧ t = m + 3 ∧ H'.length = t + 1 ∧ H'[t]? = some (.cells (TB m (m + 1) (m + 2) 0) 0 true) ∧ H'[m]? = some (.map []) ∧ H'[m + 2]? = some (.map []) := by
  obtain ⟨H12, hH12⟩ : ∃ X, X = H ++ [.cells SU 0 true] := ⟨_, rfl⟩
  have b12 : H12[H.length]? = some (.cells SU 0 true) := by rw [hH12]; simp
  obtain ⟨H1, e51, c51⟩ := check51 H12
  have b1 := c51.at_ b12 id
  have e62a : ∀ H, F62 [.int .i64 7] H = some (.int .i64 0, H) := fun H => FN_of 1 (t62 1 7 H) (Nat.le_of_ble_eq_true (by kernel_rfl))
  have e62b : ∀ H, F62 [.int .i64 11] H = some (.int .i64 0, H) := fun H => FN_of 1 (t62 1 11 H) (Nat.le_of_ble_eq_true (by kernel_rfl))
  obtain ⟨H38, hH38⟩ : ∃ X, X = H1 ++ [.map []] ++ [.map []] ++ [.map []] := ⟨_, rfl⟩
  have l38 : H38.length = H1.length + 3 := by rw [hH38]; simp
  have l1 := c51.len
  have l12 : H12.length = H.length + 1 := by rw [hH12]; simp
  refine ⟨H38.length, H1.length, H38 ++ [.cells (TB H1.length (H1.length + 1) (H1.length + 2) 0) 0 true], FN_of 1 ((t23 1 20 60 1 8 4 40 20 10 7 8 20 11 H).trans ?_) (Nat.le_of_ble_eq_true (by kernel_rfl)), ?_, by omega, l38, by simp, by simp, ?_, ?_⟩
  · have hSU : ([.int .i64 20, .int .i64 60, .int .i64 1, .int .i64 8, .int .i64 4, .int .i64 40, .int .i64 20, .int .i64 10, .int .i64 7, .int .i64 8, .int .i64 20] : List Value) = SU := rfl
    rw [hSU]
    simp only [← hH12, ↓ldc_at b12]
    rw [if_pos (by decide), show range SU 0 8 = [.int .i64 20, .int .i64 60, .int .i64 1, .int .i64 8, .int .i64 4, .int .i64 40, .int .i64 20, .int .i64 10] from rfl]
    have q8 : SU[0 + 8]? = some (.int .i64 7) := rfl
    have q9 : SU[0 + 9]? = some (.int .i64 8) := rfl
    have q10 : SU[0 + 10]? = some (.int .i64 20) := rfl
    have d1 : decide ((0 : Int) < mxi 0 0) = false := by decide
    have d2 : decide (mni 8 20 < 1) = false := by decide
    have d3 : decide ((64 : Int) < 8) = false := by decide
    have d4 : decide ((256 : Int) < 20) = false := by decide
    simp only [↓on_of e51, ↓onS, ↓kInt_int, ↓kInt_u8, ↓kBool_bool, ↓kStr_str, ↓kTup_tup, ↓kPtr_ptr, ↓kSl_sl, ↓kAgg_agg, ↓kMp_mp, bne_self_eq_false, ↓ldc_at b1, q8, q9, q10, ↓on_of (e62a H1), ↓on_of (e62b H1), d1, d2, d3, d4]
    rw [if_pos (by decide), range_all SU 11 rfl]
    have e1 : (H1 ++ [AObj.map []]).length = H1.length + 1 := by simp
    have e2 : (H1 ++ [AObj.map []] ++ [AObj.map []]).length = H1.length + 2 := by simp
    rw [e1, e2, ← hH38, built153]
    rfl
  · refine Ch.trans (H1 := H1) ?_ ?_
    · refine Ch.trans (H1 := H12) ?_ c51
      rw [hH12]; exact Ch.push _ _ _
    · rw [hH38, List.append_assoc, List.append_assoc, List.append_assoc]; exact Ch.push _ _ _
  · rw [hH38, List.append_assoc, List.append_assoc, List.append_assoc, List.getElem?_append_right (Nat.le_refl _)]; simp
  · rw [hH38, List.append_assoc, List.append_assoc, List.append_assoc, List.getElem?_append_right (by omega)]; simp
end Go.Proofs.YtlpeldimmaajkaaGreat
