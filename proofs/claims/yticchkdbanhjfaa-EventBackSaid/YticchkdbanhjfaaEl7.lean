/- EventLogs: the bytes of a log. -/
import Derived.Test.YticchkdbanhjfaaEl6
set_option linter.unusedVariables false
set_option linter.unusedSimpArgs false
namespace Go.Proofs.Yticchkdbanhjfaa
open Go Go.RowKit Go.Proofs.Yticchkdbanhjfaa.Fw
/-- The bytes of the events from one on, up to a size, and the number of the first that is left. -/
def bytesM (M : Int) : List Ev → Int → List UInt8 → List UInt8 × Int
  | [], n, t => (t, n)
  | e :: rest, n, t => match !(t == []) with
    | true => (match decide (M < (t.length : Int) + ((enc e).length : Int)) with
      | true => (t, n)
      | false => bytesM M rest (n + 1) (t ++ enc e))
    | false => bytesM M rest (n + 1) (t ++ enc e)
theorem pos_nil (t : List UInt8) : decide ((0 : Int) < ((t.length : Nat) : Int)) = !(t == []) := by
  cases t with
  | nil => rfl
  | cons x t => simp
theorem enc_ne (e : Ev) : enc e ≠ [] := fun h => by
  have := enc_len e
  rw [h] at this; simp at this; omega
theorem enc_le {e : Ev} (h : ok e = true) : (enc e).length ≤ 1523 := by
  obtain ⟨K, N, s, rfl, _, _, _, hs, _⟩ := ok_parts h
  rw [enc_len]; simp only []; omega
section
variable {N : Nat → Prop} {b : Nat} {es : List Ev} {H0 H : Heap}
theorem fin19 (hl : ∀ k, k < H0.length → H[k]? = H0[k]?) (hlen : H0.length ≤ H.length) {N' : Nat → Prop} {w : Nat} {t : List UInt8} (hB : Bd N' w t H) (hN : ∀ k, N' k → H0.length ≤ k) (ht : t.length ≤ 6238208) (m : Nat) (n : Int) :
    ∃ H', R19 (m + 1) td19_8 [.int .i64 n, .pointer (some ⟨w, 0, none⟩)] H = some (.tuple #[.string (bs t), .int .i64 n], H') ∧ H0.length ≤ H'.length ∧ ∀ k, k < H0.length → H'[k]? = H0[k]? := by
  obtain ⟨H', e52, g⟩ := string52 hB (by omega)
  refine ⟨H', ?_, by have := g.len; omega, fun k hk' => (g.kept k (by omega) fun q => by have := hN k q; omega).trans (hl k hk')⟩
  rw [c19_8]
  simp only [↓onS, ↓kInt_int, ↓kInt_u8, ↓kBool_bool, ↓kStr_str, ↓kTup_tup, ↓kPtr_ptr, ↓kSl_sl, ↓kAgg_agg, ↓on_of e52]
theorem loop19 (h : Lg N b es H0) (hle : es.length ≤ 4096) (hok : ∀ e ∈ es, ok e = true) (M : Int) : ∀ (rest : List Ev) (n : Int) (t : List UInt8) (H : Heap) (N' : Nat → Prop) (w m : Nat),
    1 ≤ n → rest = es.drop (n - 1).toNat → t.length + 1523 * rest.length ≤ 6238208 → Bd N' w t H → H0.length ≤ H.length → (∀ k, k < H0.length → H[k]? = H0[k]?) → (∀ k, N' k → H0.length ≤ k) →
    ∃ H', R19 (m + 2 * rest.length + 2) td19_100003 [.pointer (some ⟨b, 0, none⟩), .int .i64 M, .int .i64 n, .pointer (some ⟨w, 0, none⟩)] H = some (.tuple #[.string (bs (bytesM M rest n t).1), .int .i64 (bytesM M rest n t).2], H') ∧ H0.length ≤ H'.length ∧ ∀ k, k < H0.length → H'[k]? = H0[k]?
  | [], n, t, H, N', w, m, h1, hr, ht, hB, hl, hk, hN => by
    have hL : Lg N b es H := h.keep hl fun k hh => hk k (h.lt k hh)
    obtain ⟨a, c, hb, hv, hab, hown⟩ := hL.body
    have hout : (es.length : Int) < n := by
      have := List.drop_eq_nil_iff.1 hr.symm
      omega
    obtain ⟨H', e1, e2⟩ := fin19 hk hl hB hN (by omega) m n
    refine ⟨H', ?_, e2⟩
    show R19 ((m + 1) + 1) _ _ _ = _
    rw [c19_100003]
    simp only [↓onS, ↓kInt_int, ↓kInt_u8, ↓kBool_bool, ↓kStr_str, ↓kTup_tup, ↓kPtr_ptr, ↓kSl_sl, ↓kAgg_agg, ↓ldc_at hb, List.getElem?_toArray, List.getElem?_cons_zero, List.getElem?_cons_succ]
    rw [decide_eq_false (by omega)]
    exact e1
  | e :: rest, n, t, H, N', w, m, h1, hr, ht, hB, hl, hk, hN => by
    have hL : Lg N b es H := h.keep hl fun k hh => hk k (h.lt k hh)
    obtain ⟨a, c, hb, hv, hab, hown⟩ := hL.body
    simp only [List.length_cons] at ht
    have hlt : (n - 1).toNat < es.length := by
      rcases Nat.lt_or_ge (n - 1).toNat es.length with q | q
      · exact q
      · rw [List.drop_eq_nil_of_le q] at hr; cases hr
    rw [List.drop_eq_getElem_cons hlt] at hr
    obtain ⟨he, hr⟩ := List.cons.inj hr
    have hx : es[(n - 1).toNat]? = some e := by rw [he]; simp
    have hoke := hok e (by rw [he]; exact List.getElem_mem hlt)
    have hel := enc_le hoke
    have ew2 : IntKind.i64.wrap (((t.length : Nat) : Int) + ((enc e).length : Int)) = (t.length : Int) + ((enc e).length : Int) := wrap_in ⟨by omega, by omega⟩
    obtain ⟨j, cs, ez, hz, rfl, hj, htk, hle3⟩ := hv.at_ (by omega)
    have ew : IntKind.i64.wrap (n - 1) = (((n - 1).toNat : Nat) : Int) := by rw [wrap_in ⟨by omega, by omega⟩]; omega
    have hrow := row_get htk rfl hx
    obtain ⟨g1, q49⟩ := enc49 H hoke
    have hB1 := hB.push g1
    have e0 := c19_100003 (m + 2 * (rest.length + 1) + 1) (some ⟨b, 0, none⟩) M n (some ⟨w, 0, none⟩) H
    rw [List.length_cons]
    simp only [↓onS, ↓kInt_int, ↓kInt_u8, ↓kBool_bool, ↓kStr_str, ↓kTup_tup, ↓kPtr_ptr, ↓kSl_sl, ↓kAgg_agg, ↓ldc_at hb, List.getElem?_toArray, List.getElem?_cons_zero, List.getElem?_cons_succ] at e0
    rw [decide_eq_true (show n ≤ ((es.length : Nat) : Int) by omega)] at e0
    simp only [↓onS, ↓kInt_int, ↓kInt_u8, ↓kBool_bool, ↓kStr_str, ↓kTup_tup, ↓kPtr_ptr, ↓kSl_sl, ↓kAgg_agg, ew, Int.toNat_natCast, ↓ldc_add, ↓ldc_at hj, add_off, Nat.zero_add, hrow] at e0
    rw [if_pos ⟨by omega, by omega⟩, if_pos (by omega)] at e0
    simp only [↓onS, ↓kInt_int, ↓kInt_u8, ↓kBool_bool, ↓kStr_str, ↓kTup_tup, ↓kPtr_ptr, ↓kSl_sl, ↓kAgg_agg, ↓on_of q49, ↓on_of (len50 hB1), pos_nil, bs_size] at e0
    have hl1 : H0.length ≤ (H ++ g1).length := by simp; omega
    have hk1 : ∀ k, k < H0.length → (H ++ g1)[k]? = H0[k]? := fun k hk' => by rw [List.getElem?_append_left (by omega)]; exact hk k hk'
    rw [ew2] at e0
    have on : ∃ H', R19 (m + 2 * (rest.length + 1) + 1) td19_6 [.pointer (some ⟨b, 0, none⟩), .int .i64 M, .int .i64 n, .pointer (some ⟨w, 0, none⟩), .string (bs (enc e))] (H ++ g1) = some (.tuple #[.string (bs (bytesM M rest (n + 1) (t ++ enc e)).1), .int .i64 (bytesM M rest (n + 1) (t ++ enc e)).2], H') ∧ H0.length ≤ H'.length ∧ ∀ k, k < H0.length → H'[k]? = H0[k]? := by
      obtain ⟨N2, H2, e51, hB2, g⟩ := write51 hB1 (enc_ne e) (by omega)
      obtain ⟨H', e1, e2⟩ := loop19 h hle hok M rest (n + 1) (t ++ enc e) H2 N2 w m (by omega) (by have q : (n + 1 - 1).toNat = (n - 1).toNat + 1 := (by omega); rw [q]; exact hr) (by rw [List.length_append]; omega) hB2 (by have := g.len; omega) (fun k hk' => (g.kept k (by omega) fun q => by have := hN k q; omega).trans (hk1 k hk')) (fun k q => by
        rcases g.own k q with q | q
        · exact hN k q
        · omega)
      refine ⟨H', ?_, e2⟩
      rw [c19_6]
      have ew3 : IntKind.i64.wrap (n + 1) = n + 1 := wrap_in ⟨by omega, by omega⟩
      simp only [↓onS, ↓kInt_int, ↓kInt_u8, ↓kBool_bool, ↓kStr_str, ↓kTup_tup, ↓kPtr_ptr, ↓kSl_sl, ↓kAgg_agg, ↓on_of e51, ew3]
      exact e1
    unfold bytesM
    rcases Bool.eq_false_or_eq_true (!(t == [])) with q1 | q1
    · rcases Bool.eq_false_or_eq_true (decide (M < (t.length : Int) + ((enc e).length : Int))) with q2 | q2
      · simp only [q1, q2] at e0 ⊢
        obtain ⟨H', e1, e2⟩ := fin19 hk1 hl1 hB1 hN (by omega) (m + 2 * (rest.length + 1)) n
        exact ⟨H', e0.trans e1, e2⟩
      · simp only [q1, q2] at e0 ⊢
        obtain ⟨H', e1, e2⟩ := on
        exact ⟨H', e0.trans e1, e2⟩
    · simp only [q1] at e0 ⊢
      obtain ⟨H', e1, e2⟩ := on
      exact ⟨H', e0.trans e1, e2⟩

def fromM (x : Int) : Int := mxi 1 x
theorem from_in (x : Int) : 1 ≤ fromM x := by
  unfold fromM mxi; split <;> omega
theorem bytes19 (h : Lg N b es H0) (hle : es.length ≤ 4096) (hok : ∀ e ∈ es, ok e = true) (x M : Int) :
    ∃ g, F19 [.pointer (some ⟨b, 0, none⟩), .int .i64 x, .int .i64 M] H0 = some (.tuple #[.string (bs (bytesM M (es.drop (fromM x - 1).toNat) (fromM x) []).1), .int .i64 (bytesM M (es.drop (fromM x - 1).toNat) (fromM x) []).2], H0 ++ g) := by
  have f : ∀ m r, fnE Try.prog G19 Try.f19 cuts19 m [.pointer (some ⟨b, 0, none⟩), .int .i64 x, .int .i64 M] H0 = some r → F19 [.pointer (some ⟨b, 0, none⟩), .int .i64 x, .int .i64 M] H0 = some r := fun m r h => FN_of m h (Nat.le_of_ble_eq_true (by kernel_rfl))
  have i1 := from_in x
  have hB : Bd (fun k => k = H0.length) H0.length [] (H0 ++ [.cells [.pointer none, .slice none 0 0] 103809024 true]) :=
    ⟨rfl, fun k hk => by simp; omega, .pointer none, none, 0, .inl rfl, by simp, by simpa [bc] using Vec.none 1 _, by simp [ab], (fun j hj => by cases hj), .inl rfl⟩
  have hd : (es.drop (fromM x - 1).toNat).length ≤ 4096 := by rw [List.length_drop]; omega
  obtain ⟨H', e1, e2, e3⟩ := loop19 h hle hok M (es.drop (fromM x - 1).toNat) (fromM x) [] (H0 ++ [.cells [.pointer none, .slice none 0 0] 103809024 true]) _ H0.length 0 i1 rfl (by simp only [List.length_nil]; omega) hB (by simp) (fun k hk => List.getElem?_append_left hk) (fun k hk => by omega)
  obtain ⟨g, rfl⟩ := ext_app e2 e3
  exact ⟨g, f _ _ ((t19 _ _ _ _ _).trans e1)⟩
end
end Go.Proofs.Yticchkdbanhjfaa
