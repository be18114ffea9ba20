/- r3: sockets: a new box; its numbers; what waits. -/
import Derived.Test.YtlpeldimmaajkaaGreatSk7
set_option linter.unusedVariables false
set_option linter.unusedSimpArgs false
namespace Go.Proofs.YtlpeldimmaajkaaGreat
open Go Go.RowKit Go.Lib Go.Proofs.YtlpeldimmaajkaaGreat.Fw
theorem new15 (H : Heap) : ∃ b t f m m2 m3 H', F15 [.agg SU.toArray, .int .i64 11] H = some (.tuple #[.pointer (some ⟨b, 0, none⟩), .int .i64 0], H') ∧ Bx b t f m m2 m3 [] H' ∧ Ch (fun _ => False) H H' ∧ Lo H.length b f m H' := by
  obtain ⟨H12, hH12⟩ : ∃ X, X = H ++ [.cells SU 0 true] := ⟨_, rfl⟩
  have b12 : H12[H.length]? = some (.cells SU 0 true) := by rw [hH12]; simp
  have l12 : H12.length = H.length + 1 := by rw [hH12]; simp
  obtain ⟨t, m, H1, e23, c1, hm, ht, hl, at_t, at_m, at_m3⟩ := table23 H12
  obtain ⟨H21, hH21⟩ : ∃ X, X = H1 ++ [.map []] := ⟨_, rfl⟩
  have l21 : H21.length = H1.length + 1 := by rw [hH21]; simp
  obtain ⟨H22, hH22⟩ : ∃ X, X = H21 ++ [.cells [.pointer (some ⟨t, 0, none⟩), .map (some H1.length), .slice none 0 0, .slice none 0 0, .int .i64 0] 0 true] := ⟨_, rfl⟩
  have up : ∀ {k o}, H1[k]? = some o → H22[k]? = some o := fun {k o} h => by rw [hH22, hH21]; exact at_push (at_push h _) _
  refine ⟨H21.length, t, H1.length, m, m + 1, m + 2, H22, FN_of 1 ((t15 1 20 60 1 8 4 40 20 10 7 8 20 11 H).trans ?_) (Nat.le_of_ble_eq_true (by kernel_rfl)), ⟨⟨none, 0, 0, by rw [hH22]; simp, .inl ⟨rfl, rfl⟩⟩, ⟨up at_t, by rw [hH22, hH21]; exact at_push (by simp; rfl) _, up at_m, up at_m3, fun e he => by cases he⟩, by omega, by omega, by omega, by simp, by simp⟩, ?_, by omega, by omega, by omega, fun cs e o a l c h1 h2 => ?_⟩
  · have hSU : ([.int .i64 20, .int .i64 60, .int .i64 1, .int .i64 8, .int .i64 4, .int .i64 40, .int .i64 20, .int .i64 10, .int .i64 7, .int .i64 8, .int .i64 20] : List Value) = SU := rfl
    rw [hSU]
    simp only [← hH12, ↓ldc_at b12]
    rw [if_pos (by decide), range_all SU 11 rfl]
    simp only [↓on_of e23, ↓onS, ↓kInt_int, ↓kInt_u8, ↓kBool_bool, ↓kStr_str, ↓kTup_tup, ↓kPtr_ptr, ↓kSl_sl, ↓kAgg_agg, ↓kMp_mp, List.getElem?_toArray, List.getElem?_cons_zero, List.getElem?_cons_succ, bne_self_eq_false, ← hH21, ← hH22]
  · refine Ch.trans (H1 := H12) (by rw [hH12]; exact Ch.push _ _ _) (c1.trans ?_)
    rw [hH22, hH21, List.append_assoc]; exact Ch.push _ _ _
  · have hb : H22[H21.length]? = some (.cells [.pointer (some ⟨t, 0, none⟩), .map (some H1.length), .slice none 0 0, .slice none 0 0, .int .i64 0] 0 true) := by rw [hH22]; simp
    rw [hb] at h1
    have h1 := Option.some.inj h1
    injection h1 with h1
    rw [← h1] at h2
    have h2 : (Value.slice none 0 0) = .slice (some a) l c := Option.some.inj h2
    cases h2
section
variable {b t f m m2 m3 : Nat} {E : List En} {H : Heap}
theorem fds20 (hB : Bx b t f m m2 m3 E H) (hk : ∀ e ∈ E, 0 ≤ e.fd ∧ e.fd < 64) (hlen : E.length ≤ 1000) : ∃ a c H', F20 [.pointer (some ⟨b, 0, none⟩)] H = some (.slice a E.length c, H') ∧ Ch (fun _ => False) H H' := by
  obtain ⟨a, c, now0, hb, hws⟩ := hB.box
  obtain ⟨H1, hH1⟩ : ∃ X, X = H ++ [.cells [.map (some f)] 140509184 true] := ⟨_, rfl⟩
  have b1 : H1[H.length]? = some (.cells [.map (some f)] 140509184 true) := by rw [hH1]; simp
  have f1 : H1[f]? = some (.map (mp En.fd fdV E)) := by rw [hH1]; exact at_push hB.pt.fds _
  have e61 : F61 [.map (some f)] H = some (.func (.func 115) #[] #[.pointer (some ⟨H.length, 0, none⟩)], H1) := by
    rw [hH1]; exact FN_of 1 (t61 1 (some f) H) (Nat.le_of_ble_eq_true (by kernel_rfl))
  obtain ⟨a', c', g', e60, _⟩ := sort60 (.inr ⟨rfl, by decide⟩) b1 f1 hB.ndf (fun e he => by have := hk e he; omega) hlen
  refine ⟨a', c', H1 ++ g', FN_of 1 ((t20 1 (some ⟨b, 0, none⟩) H).trans ?_) (Nat.le_of_ble_eq_true (by kernel_rfl)), ?_⟩
  · simp only [↓onS, ↓kInt_int, ↓kInt_u8, ↓kBool_bool, ↓kStr_str, ↓kTup_tup, ↓kPtr_ptr, ↓kSl_sl, ↓kAgg_agg, ↓kMp_mp, ↓ldc_at hb, Nat.zero_add, List.getElem?_toArray, List.getElem?_cons_zero, List.getElem?_cons_succ, ↓on_of e61, ↓on_of e60]
  · rw [hH1, List.append_assoc]; exact Ch.push _ _ _
theorem waiting21 (hB : Bx b t f m m2 m3 E H) : F21 [.pointer (some ⟨b, 0, none⟩)] H = some (.slice none 0 0, H) := by
  obtain ⟨a, c, now0, hb, hws⟩ := hB.box
  refine FN_of (0 + 1) ((t21 (0 + 1) (some ⟨b, 0, none⟩) H).trans ?_) (Nat.le_of_ble_eq_true (by kernel_rfl))
  simp only [↓onS, ↓kInt_int, ↓kInt_u8, ↓kBool_bool, ↓kStr_str, ↓kTup_tup, ↓kPtr_ptr, ↓kSl_sl, ↓kAgg_agg, ↓kMp_mp, ↓ldc_at hb, Nat.zero_add, List.getElem?_toArray, List.getElem?_cons_zero, List.getElem?_cons_succ]
  rw [show (1 : Nat) = 0 + 1 from rfl, c21_100003]
  rfl
theorem among18 (x : Int) {n : Int} (hn : 0 < n) (h1 : n ≤ 1000000) (H : Heap) : F18 [.int .i64 x, .int .i64 n] H = some (.int .i64 (x % n), H) := by
  refine FN_of 1 ((t18 1 x n H).trans ?_) (Nat.le_of_ble_eq_true (by kernel_rfl))
  rw [if_neg (by omega), if_neg (by omega)]
  have h2 := Int.tmod_lt_of_pos x hn
  have h3 := Int.lt_tmod_of_pos x hn
  rw [wrap_in ⟨by omega, by omega⟩]
  congr 3
  have e1 : (x.tmod n + n) % n = x % n := by
    rw [Int.add_emod_right, Int.tmod_eq_emod]
    split
    · show (x % n - 0) % n = x % n
      rw [Int.sub_zero]; exact Int.emod_emod_of_dvd _ (Int.dvd_refl n)
    · rw [Int.sub_emod]
      have hab : (n.natAbs : Int) = n := by omega
      simp only [hab, Int.emod_self, Int.sub_zero, Int.emod_emod_of_dvd _ (Int.dvd_refl n)]
  rw [Int.tmod_eq_emod_of_nonneg (by omega), e1]
end
end Go.Proofs.YtlpeldimmaajkaaGreat
