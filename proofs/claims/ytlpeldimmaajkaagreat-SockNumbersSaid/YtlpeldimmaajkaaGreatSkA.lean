/- r3: sockets: works. -/
import Derived.Test.YtlpeldimmaajkaaGreatSk9
set_option linter.unusedVariables false
set_option linter.unusedSimpArgs false
namespace Go.Proofs.YtlpeldimmaajkaaGreat
open Go Go.RowKit Go.Lib Go.Proofs.YtlpeldimmaajkaaGreat.Fw
section
variable {b t f m m2 m3 : Nat} {E : List En} {H : Heap}
theorem ask_wait (hB : Bx b t f m m2 m3 E H) (tag now : Int) {e : En} (hu : fi En.fd 0 E = some e) {n : Nat} (hn : Least E n) (h64 : n < 64) :
    ∃ W j c' H2, F19 [.pointer (some ⟨b, 0, none⟩), .agg #[.int .i64 tag, .int .i64 2, .int .i64 0, .int .i64 0, .int .i64 0, .int .i64 0, .string (⟨#[]⟩ : ByteArray)], .int .i64 now] H = some (.tuple #[.slice none 0 0, .slice none 0 0], H2) ∧
      H2[b]? = some (.cells [.pointer (some ⟨t, 0, none⟩), .map (some f), .slice (some ⟨j, 0, none⟩) 1 c', .slice none 0 0, .int .i64 now] 0 true) ∧ H2[j]? = some (.cells [.pointer (some ⟨W, 0, none⟩)] 1 true) ∧ H2[W]? = some (.cells (RQ tag 2 0 0) 0 true) ∧
      H.length ≤ H2.length ∧ (∀ k, k < H.length → k ≠ b → (∀ v, H[k]? ≠ some (.cells [.pointer v] 1 true)) → H2[k]? = H[k]?) ∧ ∀ L, Lo L b f m H → L ≤ H.length → ∀ k, k < L → H2[k]? = H[k]? := by
  obtain ⟨a, c, now0, hb, hws⟩ := hB.box
  obtain ⟨W, j, c', G, e19, gb, gj, hc', gW, gk, gl, gab⟩ := ask_pre hb hws tag 2 0 0 now (by omega) (by omega)
  have jne : ∀ k o, H[k]? = some o → (∀ v, o ≠ .cells [.pointer v] 1 true) → k ≠ j := fun k o h1 h2 => by
    rcases gab with q | q
    · rcases hws with ⟨h, _⟩ | ⟨j2, v, e1, e2, e3⟩
      · rw [h] at q; cases q
      · rw [e1] at q
        have e : j2 = j := by simpa [ab] using q
        subst e
        exact ne_at h1 e3 (h2 v)
    · have := lt_of_at h1; omega
  have kp : ∀ k o, H[k]? = some o → k ≠ b → (∀ v, o ≠ .cells [.pointer v] 1 true) → G[k]? = some o := fun k o h1 h2 h3 => (gk k (lt_of_at h1) h2 (jne k o h1 h3)).trans h1
  have tne : ∀ v, AObj.cells (TB m m2 m3 0) 0 true ≠ .cells [.pointer v] 1 true := fun v q => by injection q with q; exact tb_ne v q
  have hPt : Pt t f m m2 m3 E G := ⟨kp t _ hB.pt.tab (ne_at hB.pt.tab hb (fun q => by injection q with q; have := congrArg List.length q; simp [TB, SU] at this)) tne, kp f _ hB.pt.fds (ne_at hB.pt.fds hb (by simp)) (by simp), kp m _ hB.pt.lst (ne_at hB.pt.lst hb (by simp)) (by simp), kp m3 _ hB.pt.alm (ne_at hB.pt.alm hb (by simp)) (by simp), fun e he => kp _ _ (hB.pt.prt e he) (ne_at (hB.pt.prt e he) hb (by simp)) (by simp)⟩
  obtain ⟨H1, e154, ch⟩ := turn_wait gb hPt gW hu hn h64
  have e59 := told_wait gb gj e154 ch
  refine ⟨W, j, c', H1, e19 _ _ _ _ _ _ _ e59, ch.at_ gb id, ch.at_ gj id, ch.at_ gW id, Nat.le_trans gl ch.len, fun k h1 h2 h3 => ?_, fun L hLo hLH k hk => ?_⟩
  · have hkj : k ≠ j := by
      cases hq : H[k]? with
      | none => rw [List.getElem?_eq_none_iff] at hq; omega
      | some o => exact jne k o hq fun v z => h3 v (by rw [hq, z])
    rw [ch.kept k (by omega) id, gk k h1 h2 hkj]
  · obtain ⟨o1, o2, o3, o4⟩ := hLo
    have hLj : L ≤ j := by
      rcases gab with q | q
      · cases a with
        | none => cases q
        | some ad =>
          have e : ad.block = j := by simpa [ab] using q
          rw [← e]
          exact o4 _ _ _ ad _ _ hb rfl
      · omega
    rw [ch.kept k (by omega) id, gk k (by omega) (by omega) (by omega)]
theorem waiting_one {j W c : Nat} {tv fv nv : Value} {tag : Int} (hb : H[b]? = some (.cells [tv, fv, .slice (some ⟨j, 0, none⟩) 1 c, .slice none 0 0, nv] 0 true)) (hj : H[j]? = some (.cells [.pointer (some ⟨W, 0, none⟩)] 1 true)) (hW : H[W]? = some (.cells (RQ tag 2 0 0) 0 true)) :
    ∃ r H', F21 [.pointer (some ⟨b, 0, none⟩)] H = some (.slice (some ⟨r, 0, none⟩) 1 unk, H') ∧ H'[r]? = some (.cells [.int .i64 tag] 1 true) ∧ Ch (fun _ => False) H H' := by
  obtain ⟨H16, hH16⟩ : ∃ X, X = H ++ [.cells [.int .i64 tag] 1 true] := ⟨_, rfl⟩
  have b16 : H16[H.length]? = some (.cells [.int .i64 tag] 1 true) := by rw [hH16]; simp
  obtain ⟨H20, hH20⟩ : ∃ X, X = H16 ++ [.cells [.int .i64 tag] 1 true] := ⟨_, rfl⟩
  have f16 : ∀ K : Nat → List Value → R, firstC H16 1 (.slice (some ⟨H.length, 0, none⟩) 1 1) K = K 1 [.int .i64 tag] := fun K => by
    simp only [firstC, ↓ldc_at b16]
    rw [if_pos (by simp)]; rfl
  have a16 : ∀ K : Value → Heap → R, Fw.app Tryz.prog 3 H16 (.slice none 0 0) 1 [.int .i64 tag] K = K (.slice (some ⟨H16.length, 0, none⟩) 1 unk) H20 := fun K => by
    simp only [Fw.app, kSl]
    rw [if_pos ⟨by rw [b3']; omega, by omega⟩, if_pos ⟨trivial, trivial⟩, if_neg (by omega), e3', hH20]
  have w1 : IntKind.i64.wrap ((0 : Int) + 1) = 1 := by decide
  refine ⟨H16.length, H20, FN_of (0 + 1 + 1) ((t21 (0 + 1 + 1) (some ⟨b, 0, none⟩) H).trans ?_) (Nat.le_of_ble_eq_true (by kernel_rfl)), by rw [hH20]; simp, by rw [hH20, hH16, List.append_assoc]; exact Ch.push _ _ _⟩
  simp only [↓onS, ↓kInt_int, ↓kInt_u8, ↓kBool_bool, ↓kStr_str, ↓kTup_tup, ↓kPtr_ptr, ↓kSl_sl, ↓kAgg_agg, ↓kMp_mp, ↓ldc_at hb, Nat.zero_add, List.getElem?_toArray, List.getElem?_cons_zero, List.getElem?_cons_succ]
  rw [show (1 + 1 : Nat) = 0 + 1 + 1 from rfl, c21_100003]
  rw [show decide ((0 : Int) < ((1 : Nat) : Int)) = true from rfl]
  simp only [↓onS, ↓kInt_int, ↓kInt_u8, ↓kBool_bool, ↓kStr_str, ↓kTup_tup, ↓kPtr_ptr, ↓kSl_sl, ↓kAgg_agg, ↓kMp_mp]
  rw [if_pos ⟨by omega, by omega⟩, show ((0 : Int).toNat * 1) = 0 from rfl, add0]
  simp only [↓ldc_at hj, List.getElem?_toArray, List.getElem?_cons_zero, List.getElem?_cons_succ, ↓onS, ↓kInt_int, ↓kInt_u8, ↓kBool_bool, ↓kStr_str, ↓kTup_tup, ↓kPtr_ptr, ↓kSl_sl, ↓kAgg_agg, ↓kMp_mp, ↓ldc_at hW]
  rw [show (RQ tag 2 0 0)[0]? = some (.int .i64 tag) from rfl]
  simp only [↓onS, ↓kInt_int, ↓kInt_u8, ↓kBool_bool, ↓kStr_str, ↓kTup_tup, ↓kPtr_ptr, ↓kSl_sl, ↓kAgg_agg, ↓kMp_mp, ← hH16, f16, a16, w1]
  rw [c21_100003]
  rfl
theorem works17 (H : Heap) : ∃ H', F17 [] H = some (.bool true, H') ∧ Ch (fun _ => False) H H' := by
  obtain ⟨H1, e16, c1⟩ := setup16 H
  obtain ⟨b, t, f, m, m2, m3, H2, e15, hB, c2, hlo⟩ := new15 H1
  have l1 := c1.len
  have l2 := c2.len
  have hL0 : Least [] 0 := ⟨rfl, fun k hk => by omega⟩
  obtain ⟨E', r, H3, ⟨L, rfl⟩, e19, hr, hB3, fr, lr, lo3⟩ := ask_new hB 5 80 0 (by omega) (by omega) rfl hL0 (by omega)
  have hu : fi En.fd 0 ([] ++ [⟨((0 : Nat) : Int), L, 80⟩]) = some ⟨((0 : Nat) : Int), L, 80⟩ := rfl
  have hL1 : Least ([] ++ [(⟨((0 : Nat) : Int), L, 80⟩ : En)]) 1 := ⟨rfl, fun k hk => by
    obtain rfl : k = 0 := by omega
    rfl⟩
  obtain ⟨W, j, c', H4, e19b, hb4, hj4, hW4, l4, k4, lo4⟩ := ask_wait hB3 6 0 hu hL1 (by omega)
  obtain ⟨ab', cb', nb', hb3, _⟩ := hB3.box
  have hr4 : H4[r]? = some (.cells (DC 5 0 ((0 : Nat) : Int) 0 (⟨#[]⟩ : ByteArray)) 5 true) := (k4 r (lt_of_at hr) (ne_at hr hb3 (by simp)) (fun v q => by rw [hr] at q; simp [DC] at q)).trans hr
  obtain ⟨r5, H5, e21, hr5, c5⟩ := waiting_one hb4 hj4 hW4
  obtain ⟨H38, hH38⟩ : ∃ X, X = H5 ++ [.cells [.int .i64 (6 : Int)] 1 true] := ⟨_, rfl⟩
  have b38 : H38[H5.length]? = some (.cells [.int .i64 (6 : Int)] 1 true) := by rw [hH38]; simp
  have r38 : H38[r5]? = some (.cells [.int .i64 (6 : Int)] 1 true) := by rw [hH38]; exact at_push hr5 _
  have w1 : IntKind.i64.wrap ((0 : Int) + 1) = 1 := by decide
  have e36 : F36 [.slice (some ⟨r5, 0, none⟩) 1 unk, .slice (some ⟨H5.length, 0, none⟩) 1 1] H38 = some (.bool true, H38) := by
    refine FN_of (0 + 1 + 1) ((t36 (0 + 1 + 1) (some ⟨r5, 0, none⟩) 1 unk (some ⟨H5.length, 0, none⟩) 1 1 H38).trans ?_) (Nat.le_of_ble_eq_true (by kernel_rfl))
    rw [bne_self_eq_false]
    simp only []
    rw [c36_100004, show decide ((0 : Int) < ((1 : Nat) : Int)) = true from rfl]
    simp only [↓onS, ↓kInt_int, ↓kInt_u8, ↓kBool_bool, ↓kStr_str, ↓kTup_tup, ↓kPtr_ptr, ↓kSl_sl, ↓kAgg_agg, ↓kMp_mp]
    rw [if_pos ⟨by omega, by omega⟩, show ((0 : Int).toNat * 1) = 0 from rfl, add0, add0]
    simp only [↓ldc_at r38, List.getElem?_toArray, List.getElem?_cons_zero, List.getElem?_cons_succ, ↓onS, ↓kInt_int, ↓kInt_u8, ↓kBool_bool, ↓kStr_str, ↓kTup_tup, ↓kPtr_ptr, ↓kSl_sl, ↓kAgg_agg, ↓kMp_mp]
    rw [if_pos ⟨by omega, by omega⟩]
    simp only [↓ldc_at b38, List.getElem?_toArray, List.getElem?_cons_zero, List.getElem?_cons_succ, ↓onS, ↓kInt_int, ↓kInt_u8, ↓kBool_bool, ↓kStr_str, ↓kTup_tup, ↓kPtr_ptr, ↓kSl_sl, ↓kAgg_agg, ↓kMp_mp, bne_self_eq_false, w1]
    rw [c36_100004]; rfl
  have chB : Ch (fun _ => False) H2 H2 := Ch.refl _ _
  refine ⟨H38, FN_of 1 ((t17 1 H).trans ?_) (Nat.le_of_ble_eq_true (by kernel_rfl)), ?_⟩
  · simp only [↓on_of e16, ↓onS, ↓kInt_int, ↓kInt_u8, ↓kBool_bool, ↓kStr_str, ↓kTup_tup, ↓kPtr_ptr, ↓kSl_sl, ↓kAgg_agg, ↓kMp_mp]
    rw [if_pos (by decide)]
    simp only [↓on_of e15, ↓onS, ↓kInt_int, ↓kInt_u8, ↓kBool_bool, ↓kStr_str, ↓kTup_tup, ↓kPtr_ptr, ↓kSl_sl, ↓kAgg_agg, ↓kMp_mp, List.getElem?_toArray, List.getElem?_cons_zero, List.getElem?_cons_succ, Option.isNone_some, bne_self_eq_false]
    rw [show ([.int .i64 5, .int .i64 1, .int .i64 0, .int .i64 0, .int .i64 80, .int .i64 0, .string (⟨#[]⟩ : ByteArray)] : List Value) = [.int .i64 5, .int .i64 1, .int .i64 0, .int .i64 0, .int .i64 80, .int .i64 0, .string (⟨#[]⟩ : ByteArray)] from rfl]
    simp only [↓on_of e19, ↓onS, ↓kInt_int, ↓kInt_u8, ↓kBool_bool, ↓kStr_str, ↓kTup_tup, ↓kPtr_ptr, ↓kSl_sl, ↓kAgg_agg, ↓kMp_mp, List.getElem?_toArray, List.getElem?_cons_zero, List.getElem?_cons_succ, ↓on_of e19b]
    rw [show ((((1 : Nat) : Int) == (1 : Int))) = true from rfl]
    simp only [↓onS, ↓kInt_int, ↓kInt_u8, ↓kBool_bool, ↓kStr_str, ↓kTup_tup, ↓kPtr_ptr, ↓kSl_sl, ↓kAgg_agg, ↓kMp_mp]
    rw [if_pos ⟨by omega, by omega⟩, show ((0 : Int).toNat * 5) = 0 from rfl, add0]
    simp only [↓ldc_at hr4]
    rw [if_pos (by simp [DC]), show range (DC 5 0 ((0 : Nat) : Int) 0 (⟨#[]⟩ : ByteArray)) 0 5 = DC 5 0 0 0 (⟨#[]⟩ : ByteArray) from range_all _ 5 rfl, eq43]
    rw [show ((((0 : Nat) : Int) == (0 : Int))) = true from rfl]
    simp only [↓on_of e21, ↓onS, ↓kInt_int, ↓kInt_u8, ↓kBool_bool, ↓kStr_str, ↓kTup_tup, ↓kPtr_ptr, ↓kSl_sl, ↓kAgg_agg, ↓kMp_mp, ← hH38, ↓on_of e36]
  · have hfull : ∀ k, k < H.length → H38[k]? = H[k]? := fun k hk => by
      have z2 : H2[k]? = H[k]? := (c2.kept k (by omega) id).trans (c1.kept k hk id)
      obtain ⟨lo3a, lo3b⟩ := lo3 _ hlo (by omega)
      have z3 := lo3b k (by omega)
      have z4 := lo4 _ lo3a (by have := fr.len; omega) k (by omega)
      have z5 := c5.kept k (by have := fr.len; omega) id
      rw [hH38, List.getElem?_append_left (by have := fr.len; have := c5.len; omega), z5, z4, z3, z2]
    exact ⟨by have := c5.len; have := fr.len; rw [hH38]; simp; omega, fun k hk _ => hfull k hk⟩
end
end Go.Proofs.YtlpeldimmaajkaaGreat
