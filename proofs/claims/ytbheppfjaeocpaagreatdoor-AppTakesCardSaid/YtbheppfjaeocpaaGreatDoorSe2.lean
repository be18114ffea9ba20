/- r2: strings.Builder on the abstract heap; strings.Cut; what is a name; what is a whole number. -/
import Derived.Test.YtbheppfjaeocpaaGreatDoorTA
import Derived.Test.YtbheppfjaeocpaaGreatDoorFwV
set_option linter.unusedVariables false
set_option linter.unusedSimpArgs false
namespace Go.Proofs.YtbheppfjaeocpaaGreatDoor
open Go Go.RowKit Go.Lib Go.Proofs.YtbheppfjaeocpaaGreatDoor.Fw
/-! ### strings.Builder -/
def ZT (e : Nat) : Prop := e = tz 1 5
theorem zt_ok (e : Nat) (h : ZT e) : szOk e 1 5 = true := by rw [h]; decide
theorem zt5 : ZT (tyE Tryz.prog 5) := by unfold ZT; kernel_rfl
theorem c5' : Tryz.prog.cellsOf 5 = 1 := by kernel_rfl
theorem b5' : Tryz.prog.bytesOf 5 = 1 := by kernel_rfl
/-- A builder that holds bytes. -/
structure Bd (N : Nat → Prop) (w : Nat) (t : List UInt8) (H : Heap) : Prop where
  nb : N w
  lt : ∀ k, N k → k < H.length
  body : ∃ p a c, (p = .pointer none ∨ p = .pointer (some ⟨w, 0, none⟩)) ∧ H[w]? = some (.cells [p, .slice a t.length c] 67108864 true) ∧ Vec 1 ZT H a t.length c (bc t) ∧ ab a ≠ some w ∧ (∀ j, ab a = some j → N j) ∧ (a = none ∨ t ≠ [])
section
variable {N : Nat → Prop} {w : Nat} {t : List UInt8} {H : Heap}
theorem Bd.keep (h : Bd N w t H) {H' : Heap} (hl : H.length ≤ H'.length) (hk : ∀ k, N k → H'[k]? = H[k]?) : Bd N w t H' := by
  obtain ⟨nb, lt, p, a, c, h0, h1, h2, h3, h4, h5⟩ := h
  exact ⟨nb, fun k hh => by have := lt k hh; omega, p, a, c, h0, (hk w nb).trans h1, h2.keep fun j hj => hk j (h4 j hj), h3, h4, h5⟩
theorem Bd.push (h : Bd N w t H) (g : Heap) : Bd N w t (H ++ g) := h.keep (by simp) fun k hk => List.getElem?_append_left (h.lt k hk)
theorem F58_eq (v : Value) (H : Heap) : F58 [v] H = some (v, H) := rfl
theorem check39 {p s : Value} (hp : p = .pointer none ∨ p = .pointer (some ⟨w, 0, none⟩)) (h : H[w]? = some (.cells [p, s] 67108864 true)) : F39 [.pointer (some ⟨w, 0, none⟩)] H = some (.tuple #[], H.set w (.cells [.pointer (some ⟨w, 0, none⟩), s] 67108864 true)) := by
  have f : ∀ m r, fnE Tryz.prog G39 Tryz.f39 cuts39 m [.pointer (some ⟨w, 0, none⟩)] H = some r → F39 [.pointer (some ⟨w, 0, none⟩)] H = some r := fun m r h => FN_of m h (Nat.le_of_ble_eq_true (by kernel_rfl))
  have e := t39 1 (some ⟨w, 0, none⟩) H
  rcases hp with rfl | rfl
  · have hst : ∀ K : Value → Heap → R, st 1 H ⟨w, 0, none⟩ (.pointer (some ⟨w, 0, none⟩)) K = K undef (H.set w (.cells [.pointer (some ⟨w, 0, none⟩), s] 67108864 true)) := fun K => by
      rw [st_one h (by simp) rfl]; rfl
    simp only [↓onS, ↓kInt_int, ↓kInt_u8, ↓kBool_bool, ↓kStr_str, ↓kTup_tup, ↓kPtr_ptr, ↓kSl_sl, ↓kAgg_agg, ↓kMp_mp, ↓ldc_at h, List.getElem?_toArray, List.getElem?_cons_zero, List.getElem?_cons_succ, Option.isNone_none, List.length_cons, List.length_nil, ↓on_of (F58_eq _ _), ↓fromU_at h (Nat.le_refl 2) (by decide) (show 67108864 / tyM = 63 + 1 by decide), hst] at e
    rw [if_pos (by decide)] at e
    exact f _ _ e
  · simp only [↓onS, ↓kInt_int, ↓kInt_u8, ↓kBool_bool, ↓kStr_str, ↓kTup_tup, ↓kPtr_ptr, ↓kSl_sl, ↓kAgg_agg, ↓kMp_mp, ↓ldc_at h, List.getElem?_toArray, List.getElem?_cons_zero, List.getElem?_cons_succ, Option.isNone_some, ↓ptrEq_same, Bool.not_true] at e
    rw [set_self h]
    exact f _ _ e
theorem write29 (h : Bd N w t H) {x : List UInt8} (hx : x ≠ []) (hb : t.length + x.length ≤ 140737488355328) : ∃ N' H', F29 [.pointer (some ⟨w, 0, none⟩), .string (bs x)] H = some (.tuple #[.int .i64 (x.length : Int), .nilIface], H') ∧ Bd N' w (t ++ x) H' ∧ Go' N H N' H' := by
  have f : ∀ m r, fnE Tryz.prog G29 Tryz.f29 cuts29 m [.pointer (some ⟨w, 0, none⟩), .string (bs x)] H = some r → F29 [.pointer (some ⟨w, 0, none⟩), .string (bs x)] H = some r := fun m r h => FN_of m h (Nat.le_of_ble_eq_true (by kernel_rfl))
  have e := t29 1 (some ⟨w, 0, none⟩) (bs x) H
  obtain ⟨p, a, c, hp, hw, hv, hab, hown, _⟩ := h.body
  have hwl : w < H.length := h.lt w h.nb
  obtain ⟨H1, hH1⟩ : ∃ X, X = H.set w (.cells [.pointer (some ⟨w, 0, none⟩), .slice a t.length c] 67108864 true) := ⟨_, rfl⟩
  have c39 : F39 [.pointer (some ⟨w, 0, none⟩)] H = some (.tuple #[], H1) := by rw [hH1]; exact check39 hp hw
  have l1 : H1.length = H.length := by rw [hH1]; simp
  have k1 : ∀ k, k ≠ w → H1[k]? = H[k]? := fun k hk => by rw [hH1]; exact List.getElem?_set_ne (Ne.symm hk)
  have hw1 : H1[w]? = some (.cells [.pointer (some ⟨w, 0, none⟩), .slice a t.length c] 67108864 true) := by rw [hH1]; simp [hwl]
  have hv1 : Vec 1 ZT H1 a t.length c (bc t) := hv.keep fun j hj => k1 j fun q => hab (by rw [← q]; exact hj)
  obtain ⟨a', c', H2, app1, V, L2, K2, N2⟩ := hv1.app (P := Tryz.prog) (e := 5) c5' zt_ok zt5 (n := x.length) (nw := bc x) (by rw [bc_len, Nat.mul_one]) (by rw [b5']; omega) hb
  have hw2 : H2[w]? = some (.cells [.pointer (some ⟨w, 0, none⟩), .slice a t.length c] 67108864 true) := by rw [K2 w (by omega) hab]; exact hw1
  have hw2l : w < H2.length := lt_of_at hw2
  have hst : ∀ K : Value → Heap → R, st 1 H2 ⟨w, 0 + 1, none⟩ (.slice a' (t.length + x.length) c') K = K undef (H2.set w (.cells [.pointer (some ⟨w, 0, none⟩), .slice a' (t.length + x.length) c'] 67108864 true)) := fun K => by
    rw [st_one (a := ⟨w, 0 + 1, none⟩) hw2 (by simp) rfl]; rfl
  simp only [↓onS, ↓kInt_int, ↓kInt_u8, ↓kBool_bool, ↓kStr_str, ↓kTup_tup, ↓kPtr_ptr, ↓kSl_sl, ↓kAgg_agg, ↓kMp_mp, ↓on_of c39, ↓ldc_at hw1, Nat.zero_add, List.getElem?_toArray, List.getElem?_cons_zero, List.getElem?_cons_succ, firstC_str, app1, bs_size] at e
  simp only [Nat.zero_add] at hst
  simp only [hst] at e
  have hab' : ab a' ≠ some w := fun q => by
    rcases N2 w q with q2 | q2
    · exact hab q2
    · omega
  refine ⟨fun k => N k ∨ (H.length ≤ k ∧ k < (H2.set w (.cells [.pointer (some ⟨w, 0, none⟩), .slice a' (t.length + x.length) c'] 67108864 true)).length), _, f _ _ e, ⟨.inl h.nb, fun k hk => ?_, .pointer (some ⟨w, 0, none⟩), a', c', .inr rfl, by simp [hw2l], ?_, hab', fun j hj => ?_, .inr (by simp [hx])⟩, ?_⟩
  · rcases hk with hk | hk
    · have := h.lt k hk; simp; omega
    · exact hk.2
  · rw [List.length_append]
    have e2 : bc (t ++ x) = bc t ++ bc x := by simp [bc]
    rw [e2]
    exact V.keep fun j hj => List.getElem?_set_ne (fun q => hab' (by rw [q]; exact hj))
  · have jl := V.lt hj
    rcases N2 j hj with q | q
    · exact .inl (hown j q)
    · exact .inr ⟨by omega, by simpa using jl⟩
  · refine ⟨⟨by simp; omega, fun k hk hn => ?_⟩, fun k hk => by rcases hk with hk | hk; exact .inl hk; exact .inr hk.1⟩
    have hkw : k ≠ w := fun q => hn (q ▸ h.nb)
    rw [List.getElem?_set_ne (Ne.symm hkw), K2 k (by omega) (fun q => hn (hown k q)), k1 k hkw]
theorem string28 (h : Bd N w t H) (h63 : (t.length : Int) ≤ 9223372036854775807) : ∃ H', F28 [.pointer (some ⟨w, 0, none⟩)] H = some (.string (bs t), H') ∧ Ch N H H' := by
  have f : ∀ m r, fnE Tryz.prog G28 Tryz.f28 cuts28 m [.pointer (some ⟨w, 0, none⟩)] H = some r → F28 [.pointer (some ⟨w, 0, none⟩)] H = some r := fun m r h => FN_of m h (Nat.le_of_ble_eq_true (by kernel_rfl))
  have e := t28 1 (some ⟨w, 0, none⟩) H
  obtain ⟨p, a, c, hp, hw, hv, hab, hown, hnil⟩ := h.body
  simp only [↓onS, ↓kInt_int, ↓kInt_u8, ↓kBool_bool, ↓kStr_str, ↓kTup_tup, ↓kPtr_ptr, ↓kSl_sl, ↓kAgg_agg, ↓kMp_mp, ↓ldc_at hw, Nat.zero_add, List.getElem?_toArray, List.getElem?_cons_zero, List.getElem?_cons_succ] at e
  by_cases ht : t = []
  · subst ht
    have ha : a = none := by
      rcases hnil with h | h
      · exact h
      · exact absurd rfl h
    subst ha
    simp only [List.length_nil] at e
    rw [if_pos (by decide)] at e
    exact ⟨H, f _ _ e, Ch.refl _ _⟩
  · have h0 : 0 < t.length := by
      cases t with
      | nil => exact absurd rfl ht
      | cons => simp
    obtain ⟨j, cs, ez, hz, rfl, hj, htk, _⟩ := hv.at_ h0
    rw [Nat.mul_one] at htk
    simp only [] at e
    rw [if_pos h0] at e
    simp only [↓onS, ↓kInt_int, ↓kInt_u8, ↓kBool_bool, ↓kStr_str, ↓kTup_tup, ↓kPtr_ptr, ↓kSl_sl, ↓kAgg_agg, ↓kMp_mp, ↓uStr_at (show ez / tyM = 5 + 1 by rw [hz]; decide) hj htk h0 h63] at e
    exact ⟨_, f _ _ e, Ch.set (hown j rfl) _⟩
end

/-! ### strings.Cut at a blank -/
theorem indexByte_cut : ∀ t : Tx, (cutB t).2.2 = decide (0 ≤ Lib.indexByte t 32) ∧ (0 ≤ Lib.indexByte t 32 → (cutB t).1 = t.take (Lib.indexByte t 32).toNat ∧ (cutB t).2.1 = t.drop ((Lib.indexByte t 32).toNat + 1) ∧ (Lib.indexByte t 32).toNat < t.length) ∧ (¬ 0 ≤ Lib.indexByte t 32 → (cutB t).1 = t ∧ (cutB t).2.1 = [])
  | [] => by simp [cutB, Lib.indexByte]
  | b :: r => by
    obtain ⟨h1, h2, h3⟩ := indexByte_cut r
    have hg := Lib.indexByte_ge r 32
    by_cases hb : b = 32
    · simp [cutB, Lib.indexByte, hb]
    · have e : Lib.indexByte (b :: r) 32 = if Lib.indexByte r 32 == -1 then -1 else Lib.indexByte r 32 + 1 := by simp [Lib.indexByte, hb]
      rw [e]
      simp only [cutB, hb, if_false]
      by_cases hi : Lib.indexByte r 32 = -1
      · rw [hi]
        simp only [beq_self_eq_true, if_true]
        rw [hi] at h1 h3
        refine ⟨by rw [h1], fun h => by omega, fun _ => ?_⟩
        obtain ⟨q1, q2⟩ := h3 (by decide)
        rw [q1, q2]; exact ⟨rfl, rfl⟩
      · have hi' : (Lib.indexByte r 32 == -1) = false := by simpa using hi
        rw [hi']
        simp only [Bool.false_eq_true, if_false]
        obtain ⟨q1, q2, q3⟩ := h2 (by omega)
        have en : (Lib.indexByte r 32 + 1).toNat = (Lib.indexByte r 32).toNat + 1 := by omega
        refine ⟨by rw [h1, decide_eq_true (by omega), decide_eq_true (by omega)], fun _ => ?_, fun h => absurd (by omega) h⟩
        rw [en, q1, q2]
        exact ⟨rfl, rfl, by simpa using q3⟩
theorem F94_one (t : Tx) (H : Heap) : F94 [.string (bs t), .string (⟨#[32]⟩ : ByteArray)] H = some (.int .i64 (Lib.indexByte t 32), H) := by
  simp only [F94, bs_data]
theorem cut75 (t : Tx) (H : Heap) (ht : t.length ≤ 140737488355328) : F75 [.string (bs t), .string (⟨#[32]⟩ : ByteArray)] H = some (.tuple #[.string (bs (cutB t).1), .string (bs (cutB t).2.1), .bool (cutB t).2.2], H) := by
  refine FN_of 1 ((t75 1 (bs t) ⟨#[32]⟩ H).trans ?_) (Nat.le_of_ble_eq_true (by kernel_rfl))
  obtain ⟨h1, h2, h3⟩ := indexByte_cut t
  simp only [↓on_of (F94_one t H), ↓onS, ↓kInt_int, ↓kInt_u8, ↓kBool_bool, ↓kStr_str, ↓kTup_tup, ↓kPtr_ptr, ↓kSl_sl, ↓kAgg_agg, ↓kMp_mp]
  by_cases h : 0 ≤ Lib.indexByte t 32
  · obtain ⟨q1, q2, q3⟩ := h2 h
    rw [decide_eq_true h, h1, decide_eq_true h, q1, q2]
    have en : Lib.indexByte t 32 = ((Lib.indexByte t 32).toNat : Int) := by omega
    have ew : IntKind.i64.wrap (Lib.indexByte t 32 + ((⟨#[32]⟩ : ByteArray).size : Int)) = (((Lib.indexByte t 32).toNat + 1 : Nat) : Int) := by
      rw [show ((⟨#[32]⟩ : ByteArray).size : Int) = 1 from rfl, wrap_in ⟨by omega, by omega⟩]; omega
    simp only [slStr_bs (l := t) (x := 0) (i := 0) rfl en (Nat.zero_le _) (Nat.le_of_lt q3), ↓onS, ↓kInt_int, ↓kInt_u8, ↓kBool_bool, ↓kStr_str, ↓kTup_tup, ↓kPtr_ptr, ↓kSl_sl, ↓kAgg_agg, ↓kMp_mp, slStr_all (l := t) ew (by omega), Nat.sub_zero, List.drop_zero]
  · obtain ⟨q1, q2⟩ := h3 h
    rw [decide_eq_false h, h1, decide_eq_false h, q1, q2]
    rfl
theorem cut60 (t : Tx) (H : Heap) (ht : t.length ≤ 140737488355328) : F60 [.string (bs t), .string (⟨#[32]⟩ : ByteArray)] H = some (.tuple #[.string (bs (cutB t).1), .string (bs (cutB t).2.1), .bool (cutB t).2.2], H) := by
  refine FN_of 1 ((t60 1 (bs t) ⟨#[32]⟩ H).trans ?_) (Nat.le_of_ble_eq_true (by kernel_rfl))
  simp only [↓on_of (cut75 t H ht), ↓onS, ↓kInt_int, ↓kInt_u8, ↓kBool_bool, ↓kStr_str, ↓kTup_tup, ↓kPtr_ptr, ↓kSl_sl, ↓kAgg_agg, ↓kMp_mp, List.getElem?_toArray, List.getElem?_cons_zero, List.getElem?_cons_succ]
theorem cutB_len (t : Tx) : (cutB t).1.length ≤ t.length ∧ (cutB t).2.1.length ≤ t.length := by
  induction t with
  | nil => simp [cutB]
  | cons b r ih =>
    unfold cutB
    split
    · simp
    · simp only [List.length_cons]; omega

/-! ### What is a name -/
theorem idx_name (t : Tx) : ∀ (f pos : Nat), t.length ≤ pos + f → (0 ≤ Lib.idxFuncFrom strange true (bs t) f pos ↔ (t.drop pos).all isNmB = false)
  | 0, pos, h => by
    rw [List.drop_eq_nil_of_le (by omega)]
    simp [Lib.idxFuncFrom]
  | f + 1, pos, h => by
    unfold Lib.idxFuncFrom
    by_cases hp : pos < (bs t).size
    · rw [if_pos hp]
      have hp' : pos < t.length := by rwa [bs_size] at hp
      have hb : (bs t)[pos]'hp = t[pos] := by show t.toArray[pos]'(by simpa using hp') = _; simp
      rw [List.drop_eq_getElem_cons hp', List.all_cons]
      by_cases ha : t[pos].toNat < 128
      · have hd : Utf8.decode (bs t) pos = (t[pos].toNat, 1) := by
          have := decode_ascii (bs t) pos hp (by rw [hb]; exact ha)
          rw [this, hb]
        rw [hd]
        have hs : strange t[pos].toNat = !isNmB t[pos] := by
          have key : ∀ n : Nat, n < 128 → strange n = !(Nat.blt 32 n && Nat.blt n 127) := by decide +kernel
          exact key _ ha
        simp only [hs]
        cases hn : isNmB t[pos] with
        | false => simp
        | true =>
          simp only [Bool.not_true, Bool.false_eq_true, if_false, Bool.true_and]
          exact idx_name t f (pos + 1) (by omega)
      · have hd := decode_high (bs t) pos hp (by rw [hb]; omega)
        have hs : strange (Utf8.decode (bs t) pos).1 = true := by
          unfold strange
          rw [decide_eq_true (show 127 ≤ _ by omega), Bool.or_true]
        rw [if_pos hs]
        have hn : isNmB t[pos] = false := by
          unfold isNmB
          have : Nat.blt t[pos].toNat 127 = false := by
            rw [← Bool.not_eq_true]; intro q
            have := Nat.le_of_ble_eq_true q
            omega
          rw [this, Bool.and_false]
        simp [hn]
    · rw [if_neg hp]
      rw [bs_size] at hp
      rw [List.drop_eq_nil_of_le (by omega)]
      simp
theorem F76_eq (t : Tx) (H : Heap) : F76 [.string (bs t), .func (.func 77) #[] #[]] H = some (.int .i64 (Lib.idxFunc strange true (bs t)), H) := by
  simp [F76]
theorem name61 (t : Tx) (H : Heap) : F61 [.string (bs t)] H = some (.bool (isNm t), H) := by
  refine FN_of 1 ((t61 1 (bs t) H).trans ?_) (Nat.le_of_ble_eq_true (by kernel_rfl))
  simp only [↓on_of (F76_eq t H), ↓onS, ↓kInt_int, ↓kInt_u8, ↓kBool_bool, ↓kStr_str, ↓kTup_tup, ↓kPtr_ptr, ↓kSl_sl, ↓kAgg_agg, ↓kMp_mp, eq_lit, bs_size]
  have hi := idx_name t (bs t).size 0 (by rw [bs_size]; omega)
  rw [List.drop_zero] at hi
  have hx : decide ((0 : Int) ≤ Lib.idxFunc strange true (bs t)) = !(t.all isNmB) := by
    unfold Lib.idxFunc
    cases h : t.all isNmB with
    | true => rw [decide_eq_false (fun q => by rw [hi.1 q] at h; cases h)]; rfl
    | false => rw [decide_eq_true (hi.2 h)]; rfl
  unfold isNm
  have e1 : (t == []) = decide (t = []) := by cases t <;> simp
  rw [e1, hx]
  by_cases h0 : t = []
  · simp [h0]
  · rw [decide_eq_false h0]
    simp only [show (#[] : Array UInt8).toList = [] from rfl, decide_eq_false h0, Bool.not_false, Bool.true_and, Bool.not_not]
    by_cases h2 : t.length ≤ 32
    · rw [decide_eq_true (show ((t.length : Nat) : Int) ≤ 32 by omega), Nat.ble_eq_true_of_le h2]; rfl
    · rw [decide_eq_false (show ¬ ((t.length : Nat) : Int) ≤ 32 by omega)]
      have : Nat.ble t.length 32 = false := by
        rw [← Bool.not_eq_true]; intro q; exact h2 (Nat.le_of_ble_eq_true q)
      rw [this]; rfl
end Go.Proofs.YtbheppfjaeocpaaGreatDoor
