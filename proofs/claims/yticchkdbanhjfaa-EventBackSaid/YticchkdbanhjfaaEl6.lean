/- EventLogs: strings.Builder on the abstract heap. -/
import Derived.Test.YticchkdbanhjfaaEl5
set_option linter.unusedVariables false
set_option linter.unusedSimpArgs false
namespace Go.Proofs.Yticchkdbanhjfaa
open Go Go.RowKit Go.Proofs.Yticchkdbanhjfaa.Fw
def ZT (e : Nat) : Prop := e = tz 1 5
theorem zt_ok (e : Nat) (h : ZT e) : szOk e 1 5 = true := by rw [h]; decide
theorem zt5 : ZT (tyE Try.prog 5) := by unfold ZT; kernel_rfl
/-- A builder that holds bytes. -/
structure Bd (N : Nat → Prop) (w : Nat) (t : List UInt8) (H : Heap) : Prop where
  nb : N w
  lt : ∀ k, N k → k < H.length
  body : ∃ p a c, (p = .pointer none ∨ p = .pointer (some ⟨w, 0, none⟩)) ∧ H[w]? = some (.cells [p, .slice a t.length c] 103809024 true) ∧ Vec 1 ZT H a t.length c (bc t) ∧ ab a ≠ some w ∧ (∀ j, ab a = some j → N j) ∧ (a = none ∨ t ≠ [])
section
variable {N : Nat → Prop} {w : Nat} {t : List UInt8} {H : Heap}
theorem Bd.keep (h : Bd N w t H) {H' : Heap} (hl : H.length ≤ H'.length) (hk : ∀ k, N k → H'[k]? = H[k]?) : Bd N w t H' := by
  obtain ⟨nb, lt, p, a, c, h0, h1, h2, h3, h4, h5⟩ := h
  exact ⟨nb, fun k hh => by have := lt k hh; omega, p, a, c, h0, (hk w nb).trans h1, h2.keep fun j hj => hk j (h4 j hj), h3, h4, h5⟩
theorem Bd.push (h : Bd N w t H) (g : Heap) : Bd N w t (H ++ g) := h.keep (by simp) fun k hk => List.getElem?_append_left (h.lt k hk)
theorem len50 (h : Bd N w t H) : F50 [.pointer (some ⟨w, 0, none⟩)] H = some (.int .i64 ((t.length : Nat) : Int), H) := by
  obtain ⟨p, a, c, h0, h1, _⟩ := h.body
  refine FN_of 1 ((t50 1 _ H).trans ?_) (Nat.le_of_ble_eq_true (by kernel_rfl))
  simp only [↓onS, ↓kInt_int, ↓kInt_u8, ↓kBool_bool, ↓kStr_str, ↓kTup_tup, ↓kPtr_ptr, ↓kSl_sl, ↓kAgg_agg, ↓ldc_at h1, List.getElem?_toArray, List.getElem?_cons_zero, List.getElem?_cons_succ, Nat.zero_add]
theorem set_self {H : Heap} {k : Nat} {o : AObj} (h : H[k]? = some o) : H.set k o = H := by
  apply List.ext_getElem?
  intro j
  by_cases e : j = k
  · subst e
    have hlt := (List.getElem?_eq_some_iff.1 h).1
    rw [h]; simp [hlt]
  · rw [List.getElem?_set_ne (Ne.symm e)]
theorem ptrEq_same (w : Nat) (K : Bool → R) : Fw.ptrEq (some ⟨w, 0, none⟩) (some ⟨w, 0, none⟩) K = K true := by simp [Fw.ptrEq]
theorem fromU_at {H : Heap} {w : Nat} {cs : List Value} (h : H[w]? = some (.cells cs 103809024 true)) (hl : 2 ≤ cs.length) (k : R) : fromU H ⟨w, 0, none⟩ 98 2 k = k := by
  simp only [fromU, h]
  rw [if_pos ⟨trivial, hl, by decide, by decide⟩]
theorem F88_eq (v : Value) (H : Heap) : F88 [v] H = some (v, H) := rfl
theorem check75 {p s : Value} (hp : p = .pointer none ∨ p = .pointer (some ⟨w, 0, none⟩)) (h : H[w]? = some (.cells [p, s] 103809024 true)) : F75 [.pointer (some ⟨w, 0, none⟩)] H = some (.tuple #[], H.set w (.cells [.pointer (some ⟨w, 0, none⟩), s] 103809024 true)) := by
  have f : ∀ m r, fnE Try.prog G75 Try.f75 cuts75 m [.pointer (some ⟨w, 0, none⟩)] H = some r → F75 [.pointer (some ⟨w, 0, none⟩)] H = some r := fun m r h => FN_of m h (Nat.le_of_ble_eq_true (by kernel_rfl))
  have e := t75 1 (some ⟨w, 0, none⟩) H
  rcases hp with rfl | rfl
  · have hst : ∀ K : Value → Heap → R, st 1 H ⟨w, 0, none⟩ (.pointer (some ⟨w, 0, none⟩)) K = K undef (H.set w (.cells [.pointer (some ⟨w, 0, none⟩), s] 103809024 true)) := fun K => by
      rw [st_one h (by simp) rfl]; rfl
    simp only [↓onS, ↓kInt_int, ↓kInt_u8, ↓kBool_bool, ↓kStr_str, ↓kTup_tup, ↓kPtr_ptr, ↓kSl_sl, ↓kAgg_agg, ↓ldc_at h, List.getElem?_toArray, List.getElem?_cons_zero, List.getElem?_cons_succ, Option.isNone_none, List.length_cons, List.length_nil, ↓on_of (F88_eq _ _), ↓fromU_at h (Nat.le_refl 2), hst] at e
    rw [if_pos (by decide)] at e
    exact f _ _ e
  · simp only [↓onS, ↓kInt_int, ↓kInt_u8, ↓kBool_bool, ↓kStr_str, ↓kTup_tup, ↓kPtr_ptr, ↓kSl_sl, ↓kAgg_agg, ↓ldc_at h, List.getElem?_toArray, List.getElem?_cons_zero, List.getElem?_cons_succ, Option.isNone_some, ↓ptrEq_same, Bool.not_true] at e
    rw [set_self h]
    exact f _ _ e
theorem firstC_str (H : Heap) (x : List UInt8) (K : Nat → List Value → R) : firstC H 1 (.string (bs x)) K = K x.length (bc x) := by
  simp only [firstC, Nat.beq_refl, bs_size, bs_data]
  rfl
theorem write51 (h : Bd N w t H) {x : List UInt8} (hx : x ≠ []) (hb : t.length + x.length ≤ 140737488355328) : ∃ N' H', F51 [.pointer (some ⟨w, 0, none⟩), .string (bs x)] H = some (.tuple #[.int .i64 (x.length : Int), .nilIface], H') ∧ Bd N' w (t ++ x) H' ∧ Gone N H N' H' := by
  have f : ∀ m r, fnE Try.prog G51 Try.f51 cuts51 m [.pointer (some ⟨w, 0, none⟩), .string (bs x)] H = some r → F51 [.pointer (some ⟨w, 0, none⟩), .string (bs x)] H = some r := fun m r h => FN_of m h (Nat.le_of_ble_eq_true (by kernel_rfl))
  have e := t51 1 (some ⟨w, 0, none⟩) (bs x) H
  obtain ⟨p, a, c, hp, hw, hv, hab, hown, _⟩ := h.body
  have hwl : w < H.length := h.lt w h.nb
  obtain ⟨H1, hH1⟩ : ∃ X, X = H.set w (.cells [.pointer (some ⟨w, 0, none⟩), .slice a t.length c] 103809024 true) := ⟨_, rfl⟩
  have c75 : F75 [.pointer (some ⟨w, 0, none⟩)] H = some (.tuple #[], H1) := by rw [hH1]; exact check75 hp hw
  have l1 : H1.length = H.length := by rw [hH1]; simp
  have k1 : ∀ k, k ≠ w → H1[k]? = H[k]? := fun k hk => by rw [hH1]; exact List.getElem?_set_ne (Ne.symm hk)
  have hw1 : H1[w]? = some (.cells [.pointer (some ⟨w, 0, none⟩), .slice a t.length c] 103809024 true) := by rw [hH1]; simp [hwl]
  have hv1 : Vec 1 ZT H1 a t.length c (bc t) := hv.keep fun j hj => k1 j fun q => hab (by rw [← q]; exact hj)
  obtain ⟨a', c', H2, app1, V, L2, K2, N2⟩ := hv1.app (P := Try.prog) (e := 5) c5' zt_ok zt5 (n := x.length) (nw := bc x) (by rw [bc_len, Nat.mul_one]) (by rw [b5']; omega) hb
  have hw2 : H2[w]? = some (.cells [.pointer (some ⟨w, 0, none⟩), .slice a t.length c] 103809024 true) := by rw [K2 w (by omega) hab]; exact hw1
  have hw2l : w < H2.length := (List.getElem?_eq_some_iff.1 hw2).1
  have hst : ∀ K : Value → Heap → R, st 1 H2 ⟨w, 0 + 1, none⟩ (.slice a' (t.length + x.length) c') K = K undef (H2.set w (.cells [.pointer (some ⟨w, 0, none⟩), .slice a' (t.length + x.length) c'] 103809024 true)) := fun K => by
    rw [st_one (a := ⟨w, 0 + 1, none⟩) hw2 (by simp) rfl]; rfl
  simp only [↓onS, ↓kInt_int, ↓kInt_u8, ↓kBool_bool, ↓kStr_str, ↓kTup_tup, ↓kPtr_ptr, ↓kSl_sl, ↓kAgg_agg, ↓on_of c75, ↓ldc_at hw1, Nat.zero_add, List.getElem?_toArray, List.getElem?_cons_zero, List.getElem?_cons_succ, firstC_str, app1, bs_size] at e
  simp only [Nat.zero_add] at hst
  simp only [hst] at e
  have hab' : ab a' ≠ some w := fun q => by
    rcases N2 w q with q2 | q2
    · exact hab q2
    · omega
  refine ⟨fun k => N k ∨ (H.length ≤ k ∧ k < (H2.set w (.cells [.pointer (some ⟨w, 0, none⟩), .slice a' (t.length + x.length) c'] 103809024 true)).length), _, f _ _ e, ⟨.inl h.nb, fun k hk => ?_, .pointer (some ⟨w, 0, none⟩), a', c', .inr rfl, by simp [hw2l], ?_, hab', fun j hj => ?_, .inr (by simp [hx])⟩, ?_⟩
  · rcases hk with hk | hk
    · have := h.lt k hk; simp; omega
    · exact hk.2
  · rw [List.length_append]
    have e2 : bc (t ++ x) = bc t ++ bc x := by simp [bc]
    rw [e2]
    exact V.keep fun j hj => List.getElem?_set_ne (fun q => hab' (by rw [q]; exact hj))
  · have jl := V.lt hj
    rcases N2 j hj with q | q
    · exact .inl (hown j q)
    · exact .inr ⟨by omega, by simpa using jl⟩
  · refine ⟨by simp; omega, fun k hk => by rcases hk with hk | hk; exact .inl hk; exact .inr hk.1, fun k hk hn => ?_⟩
    have hkw : k ≠ w := fun q => hn (q ▸ h.nb)
    rw [List.getElem?_set_ne (Ne.symm hkw), K2 k (by omega) (fun q => hn (hown k q)), k1 k hkw]
theorem uStr_at {H : Heap} {j : Nat} {cs : List Value} {ez : Nat} {t : List UInt8} (hz : ZT ez) (h : H[j]? = some (.cells cs ez true)) (ht : cs.take t.length = bc t) (h0 : 0 < t.length) (h63 : (t.length : Int) ≤ 9223372036854775807) (K : ByteArray → Heap → R) :
    uStr H ⟨j, 0, none⟩ ((t.length : Nat) : Int) 5 1 K = K (bs t) (H.set j .dead) := by
  have hle : t.length ≤ cs.length := by
    have := congrArg List.length ht
    rw [List.length_take, bc_len] at this; omega
  simp only [uStr, h]
  rw [if_pos ⟨by omega, h63, by simpa using hle, trivial, by rw [hz]; decide, trivial⟩, Int.toNat_natCast, ht, bytesOf_bc]
  rfl
theorem string52 (h : Bd N w t H) (h63 : (t.length : Int) ≤ 9223372036854775807) : ∃ H', F52 [.pointer (some ⟨w, 0, none⟩)] H = some (.string (bs t), H') ∧ Gone N H N H' := by
  have f : ∀ m r, fnE Try.prog G52 Try.f52 cuts52 m [.pointer (some ⟨w, 0, none⟩)] H = some r → F52 [.pointer (some ⟨w, 0, none⟩)] H = some r := fun m r h => FN_of m h (Nat.le_of_ble_eq_true (by kernel_rfl))
  have e := t52 1 (some ⟨w, 0, none⟩) H
  obtain ⟨p, a, c, hp, hw, hv, hab, hown, hnil⟩ := h.body
  simp only [↓onS, ↓kInt_int, ↓kInt_u8, ↓kBool_bool, ↓kStr_str, ↓kTup_tup, ↓kPtr_ptr, ↓kSl_sl, ↓kAgg_agg, ↓ldc_at hw, Nat.zero_add, List.getElem?_toArray, List.getElem?_cons_zero, List.getElem?_cons_succ] at e
  by_cases ht : t = []
  · subst ht
    have ha : a = none := by
      rcases hnil with h | h
      · exact h
      · exact absurd rfl h
    subst ha
    simp only [] at e
    exact ⟨H, f _ _ e, Gone.push N H [] |> fun g => by simpa using g⟩
  · have h0 : 0 < t.length := by
      cases t with
      | nil => exact absurd rfl ht
      | cons => simp
    obtain ⟨j, cs, ez, hz, rfl, hj, htk, _⟩ := hv.at_ h0
    rw [Nat.mul_one] at htk
    simp only [] at e
    rw [if_pos h0] at e
    simp only [↓onS, ↓kInt_int, ↓kInt_u8, ↓kBool_bool, ↓kStr_str, ↓kTup_tup, ↓kPtr_ptr, ↓kSl_sl, ↓kAgg_agg, ↓uStr_at hz hj htk h0 h63] at e
    refine ⟨_, f _ _ e, ⟨by simp, fun k hk => .inl hk, fun k hk hn => ?_⟩⟩
    exact List.getElem?_set_ne (fun q : j = k => hn (by rw [← q]; exact hown j rfl))
end
end Go.Proofs.Yticchkdbanhjfaa
