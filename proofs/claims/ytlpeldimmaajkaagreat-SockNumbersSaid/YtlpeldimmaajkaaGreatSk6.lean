/- r3: sockets: a request is asked. -/
import Derived.Test.YtlpeldimmaajkaaGreatSk5
set_option linter.unusedVariables false
set_option linter.unusedSimpArgs false
namespace Go.Proofs.YtlpeldimmaajkaaGreat
open Go Go.RowKit Go.Lib Go.Proofs.YtlpeldimmaajkaaGreat.Fw
/-- No request waits. -/
def Ws (a : Option Addr) (c : Nat) (H : Heap) : Prop := (a = none ∧ c = 0) ∨ ∃ j v, a = some ⟨j, 0, none⟩ ∧ c = unk + 1 ∧ H[j]? = some (.cells [.pointer v] 1 true)
theorem e137' : tyE Tryz.prog 137 = 1 := by kernel_rfl
theorem app1 {H : Heap} {a : Option Addr} {c : Nat} (h : Ws a c H) (u : Value) : ∃ j c' H', (∀ K : Value → Heap → R, Fw.app Tryz.prog 137 H (.slice a 0 c) 1 [u] K = K (.slice (some ⟨j, 0, none⟩) 1 c') H') ∧ (c' = unk ∨ c' = unk + 1) ∧ H'[j]? = some (.cells [u] 1 true) ∧ (∀ k, k < H.length → k ≠ j → H'[k]? = H[k]?) ∧ H.length ≤ H'.length ∧ (ab a = some j ∨ H.length ≤ j) := by
  rcases h with ⟨rfl, rfl⟩ | ⟨j, v, rfl, rfl, hj⟩
  · refine ⟨H.length, unk, H ++ [.cells [u] 1 true], fun K => ?_, .inl rfl, by simp, fun k hk _ => List.getElem?_append_left hk, by simp, .inr (Nat.le_refl _)⟩
    simp only [Fw.app, kSl]
    rw [if_pos ⟨by rw [b137']; omega, by omega⟩, if_pos ⟨trivial, trivial⟩, if_neg (by omega), e137']
  · refine ⟨j, unk + 1, H.set j (.cells [u] 1 true), fun K => ?_, .inr rfl, at_set_self (lt_of_at hj) _, fun k _ hn => List.getElem?_set_ne (Ne.symm hn), by simp, .inl rfl⟩
    simp only [Fw.app, kSl]
    rw [if_pos ⟨by rw [b137']; omega, by omega⟩]
    simp only [hj, c137']
    rw [if_pos ⟨by simp, s137⟩, if_pos (by omega), if_pos ⟨by omega, by omega⟩, if_pos ⟨trivial, by simp⟩]
    rfl
def RQ7 (tag kind fd p : Int) : List Value := [.int .i64 tag, .int .i64 kind, .int .i64 fd, .int .i64 0, .int .i64 p, .int .i64 0, .string (⟨#[]⟩ : ByteArray)]
theorem built140 (tag kind fd p : Int) : Program.built Tryz.prog 140 (([0] : List Nat).zip [.agg (RQ7 tag kind fd p).toArray]) = some (RQ tag kind fd p).toArray := by kernel_rfl
theorem ask_pre {H : Heap} {b c : Nat} {a : Option Addr} {tv fv : Value} {now0 : Int} (hb : H[b]? = some (.cells [tv, fv, .slice a 0 c, .slice none 0 0, .int .i64 now0] 0 true)) (hws : Ws a c H) (tag kind fd p now : Int) (k1 : 1 ≤ kind) (k9 : kind ≤ 9) :
    ∃ W j c' H', (∀ a2 l3 c4 a8 l9 c10 H2, F59 [.pointer (some ⟨b, 0, none⟩)] H' = some (.tuple #[.slice a2 l3 c4, .slice a8 l9 c10], H2) → F19 [.pointer (some ⟨b, 0, none⟩), .agg #[.int .i64 tag, .int .i64 kind, .int .i64 fd, .int .i64 0, .int .i64 p, .int .i64 0, .string (⟨#[]⟩ : ByteArray)], .int .i64 now] H = some (.tuple #[.slice a2 l3 c4, .slice a8 l9 c10], H2)) ∧
      H'[b]? = some (.cells [tv, fv, .slice (some ⟨j, 0, none⟩) 1 c', .slice none 0 0, .int .i64 now] 0 true) ∧ H'[j]? = some (.cells [.pointer (some ⟨W, 0, none⟩)] 1 true) ∧ (c' = unk ∨ c' = unk + 1) ∧ H'[W]? = some (.cells (RQ tag kind fd p) 0 true) ∧ (∀ k, k < H.length → k ≠ b → k ≠ j → H'[k]? = H[k]?) ∧ H.length ≤ H'.length ∧ (ab a = some j ∨ H.length ≤ j) := by
  have hbl := lt_of_at hb
  obtain ⟨H9, hH9⟩ : ∃ X, X = H ++ [.cells (RQ7 tag kind fd p) 0 true] := ⟨_, rfl⟩
  have b9 : H9[H.length]? = some (.cells (RQ7 tag kind fd p) 0 true) := by rw [hH9]; simp
  have l9 : H9.length = H.length + 1 := by rw [hH9]; simp
  obtain ⟨H12, hH12⟩ : ∃ X, X = H9 ++ [.cells (RQ tag kind fd p) 0 true] := ⟨_, rfl⟩
  have l12 : H12.length = H.length + 2 := by rw [hH12]; simp [l9]
  have w12 : H12[H9.length]? = some (.cells (RQ tag kind fd p) 0 true) := by rw [hH12]; simp
  have bb12 : H12[b]? = some (.cells [tv, fv, .slice a 0 c, .slice none 0 0, .int .i64 now0] 0 true) := by rw [hH12, hH9]; exact at_push (at_push hb _) _
  obtain ⟨H32, hH32⟩ : ∃ X, X = H12.set b (.cells [tv, fv, .slice a 0 c, .slice none 0 0, .int .i64 now] 0 true) := ⟨_, rfl⟩
  have l32 : H32.length = H.length + 2 := by rw [hH32]; simp [l12]
  have bb32 : H32[b]? = some (.cells [tv, fv, .slice a 0 c, .slice none 0 0, .int .i64 now] 0 true) := by rw [hH32]; exact at_set_self (lt_of_at bb12) _
  have s32 : ∀ K : Value → Heap → R, Fw.st 1 H12 ⟨b, 4, none⟩ (.int .i64 now) K = K undef H32 := fun K => by
    rw [st_one (a := ⟨b, 4, none⟩) bb12 (by simp) rfl, hH32]; rfl
  obtain ⟨H39, hH39⟩ : ∃ X, X = H32 ++ [.cells [.pointer (some ⟨H9.length, 0, none⟩)] 1 true] := ⟨_, rfl⟩
  have l39 : H39.length = H.length + 3 := by rw [hH39]; simp [l32]
  have b39 : H39[H32.length]? = some (.cells [.pointer (some ⟨H9.length, 0, none⟩)] 1 true) := by rw [hH39]; simp
  have k39 : ∀ k, k < H.length → k ≠ b → H39[k]? = H[k]? := fun k hk hn => by
    rw [hH39, List.getElem?_append_left (by omega), hH32, List.getElem?_set_ne (Ne.symm hn), hH12, List.getElem?_append_left (by omega), hH9, List.getElem?_append_left hk]
  have bb39 : H39[b]? = some (.cells [tv, fv, .slice a 0 c, .slice none 0 0, .int .i64 now] 0 true) := by rw [hH39]; exact at_push bb32 _
  have w39 : H39[H9.length]? = some (.cells (RQ tag kind fd p) 0 true) := by rw [hH39, hH32]; exact at_push (at_set w12 (by omega)) _
  have f39 : ∀ K : Nat → List Value → R, firstC H39 1 (.slice (some ⟨H32.length, 0, none⟩) 1 1) K = K 1 [.pointer (some ⟨H9.length, 0, none⟩)] := fun K => by
    simp only [firstC, ↓ldc_at b39]
    rw [if_pos (by simp)]; rfl
  have hws39 : Ws a c H39 := by
    rcases hws with h | ⟨j, v, h1, h2, h3⟩
    · exact .inl h
    · exact .inr ⟨j, v, h1, h2, (k39 j (lt_of_at h3) (ne_at h3 hb (by simp))).trans h3⟩
  obtain ⟨j, c', H43, ap, hc', hj, hk, hl, hab⟩ := app1 hws39 (.pointer (some ⟨H9.length, 0, none⟩))
  have hbj : b ≠ j := by
    rcases hab with q | q
    · rcases hws with ⟨h, _⟩ | ⟨j2, v, h1, h2, h3⟩
      · rw [h] at q; cases q
      · rw [h1] at q
        have e : j2 = j := by simpa [ab] using q
        subst e
        exact ne_at hb h3 (by simp)
    · omega
  have hWj : H9.length ≠ j := by
    rcases hab with q | q
    · rcases hws with ⟨h, _⟩ | ⟨j2, v, h1, h2, h3⟩
      · rw [h] at q; cases q
      · rw [h1] at q
        have e : j2 = j := by simpa [ab] using q
        subst e
        have := lt_of_at h3
        omega
    · omega
  have bb43 : H43[b]? = some (.cells [tv, fv, .slice a 0 c, .slice none 0 0, .int .i64 now] 0 true) := (hk b (by omega) hbj).trans bb39
  obtain ⟨H48, hH48⟩ : ∃ X, X = H43.set b (.cells [tv, fv, .slice (some ⟨j, 0, none⟩) 1 c', .slice none 0 0, .int .i64 now] 0 true) := ⟨_, rfl⟩
  have s48 : ∀ K : Value → Heap → R, Fw.st 1 H43 ⟨b, 2, none⟩ (.slice (some ⟨j, 0, none⟩) 1 c') K = K undef H48 := fun K => by
    rw [st_one (a := ⟨b, 2, none⟩) bb43 (by simp) rfl, hH48]; rfl
  refine ⟨H9.length, j, c', H48, fun a2 l3 c4 a8 l9' c10 H2 e59 => ?_, by rw [hH48]; exact at_set_self (lt_of_at bb43) _, by rw [hH48]; exact at_set hj hbj, hc', by rw [hH48]; exact at_set ((hk _ (by omega) hWj).trans w39) (by omega), fun k hk1 hk2 hk3 => ?_, by rw [hH48, List.length_set]; omega, ?_⟩
  · refine FN_of 1 ((t19 1 (some ⟨b, 0, none⟩) tag kind fd 0 p 0 (⟨#[]⟩ : ByteArray) now H).trans ?_) (Nat.le_of_ble_eq_true (by kernel_rfl))
    have h7 : ([.int .i64 tag, .int .i64 kind, .int .i64 fd, .int .i64 0, .int .i64 p, .int .i64 0, .string (⟨#[]⟩ : ByteArray)] : List Value) = RQ7 tag kind fd p := rfl
    rw [h7]
    simp only [← hH9, ↓ldc_at b9]
    rw [if_pos (by simp [RQ7]), show range (RQ7 tag kind fd p) 0 7 = RQ7 tag kind fd p from range_all _ 7 rfl, cellsOks_agg, built140]
    have r12 : H12[H.length]? = some (.cells (RQ7 tag kind fd p) 0 true) := by rw [hH12]; exact at_push b9 _
    have q1 : (RQ7 tag kind fd p)[0 + 1]? = some (.int .i64 kind) := rfl
    simp only [↓onS, ↓kInt_int, ↓kInt_u8, ↓kBool_bool, ↓kStr_str, ↓kTup_tup, ↓kPtr_ptr, ↓kSl_sl, ↓kAgg_agg, ↓kMp_mp, ← hH12, ↓ldc_at r12, q1]
    rw [decide_eq_false (show ¬ kind < 1 by omega)]
    simp only [↓ldc_at r12, q1, ↓onS, ↓kInt_int, ↓kInt_u8, ↓kBool_bool, ↓kStr_str, ↓kTup_tup, ↓kPtr_ptr, ↓kSl_sl, ↓kAgg_agg, ↓kMp_mp]
    rw [decide_eq_false (show ¬ 9 < kind by omega)]
    simp only [↓onS, ↓kInt_int, ↓kInt_u8, ↓kBool_bool, ↓kStr_str, ↓kTup_tup, ↓kPtr_ptr, ↓kSl_sl, ↓kAgg_agg, ↓kMp_mp, ↓ldc_at bb12, Nat.zero_add, List.getElem?_toArray, List.getElem?_cons_zero, List.getElem?_cons_succ]
    rw [show decide ((64 : Int) ≤ ((0 : Nat) : Int)) = false from rfl]
    simp only [↓onS, ↓kInt_int, ↓kInt_u8, ↓kBool_bool, ↓kStr_str, ↓kTup_tup, ↓kPtr_ptr, ↓kSl_sl, ↓kAgg_agg, ↓kMp_mp, s32, ↓ldc_at bb32, Nat.zero_add, List.getElem?_toArray, List.getElem?_cons_zero, List.getElem?_cons_succ, ← hH39, f39, ap, s48, ↓on_of e59]
  · rw [hH48, List.getElem?_set_ne (Ne.symm hk2), hk k (by omega) hk3, k39 k hk1 hk2]
  · rcases hab with q | q
    · exact .inl q
    · exact .inr (by omega)
end Go.Proofs.YtlpeldimmaajkaaGreat
