/- EventLogs: the document's bytes of a log; one event of a log. -/
import Derived.Test.YticchkdbanhjfaaEl7
set_option linter.unusedVariables false
set_option linter.unusedSimpArgs false
namespace Go.Proofs.Yticchkdbanhjfaa
open Go Go.RowKit Go.Proofs.Yticchkdbanhjfaa.Fw
section
variable {N : Nat → Prop} {b : Nat} {es : List Ev}
theorem loop20 (hle : es.length ≤ 4096) (hok : ∀ e ∈ es, ok e = true) (M : Int) : ∀ (rest : List Ev) (n : Int) (t : List UInt8) (H : Heap) (m : Nat), Lg N b es H →
    1 ≤ n → rest = es.drop (n - 1).toNat → t.length + 1523 * rest.length ≤ 6238208 →
    ∃ g, R20 (m + 2 * rest.length + 2) td20_100004 [.pointer (some ⟨b, 0, none⟩), .int .i64 n, .int .i64 M, .string (bs t), .int .i64 n] H = some (.tuple #[.string (bs (bytesM M rest n t).1), .int .i64 (bytesM M rest n t).2], H ++ g)
  | [], n, t, H, m, hL, h1, hr, ht => by
    obtain ⟨a, c, hb, hv, hab, hown⟩ := hL.body
    have hout : (es.length : Int) < n := by
      have := List.drop_eq_nil_iff.1 hr.symm
      omega
    refine ⟨[], ?_⟩
    show R20 ((m + 1) + 1) _ _ _ = _
    rw [c20_100004]
    simp only [↓onS, ↓kInt_int, ↓kInt_u8, ↓kBool_bool, ↓kStr_str, ↓kTup_tup, ↓kPtr_ptr, ↓kSl_sl, ↓kAgg_agg, ↓ldc_at hb, List.getElem?_toArray, List.getElem?_cons_zero, List.getElem?_cons_succ]
    rw [decide_eq_false (by omega)]
    simp only [c20_10, List.append_nil]
    rfl
  | e :: rest, n, t, H, m, hL, h1, hr, ht => by
    obtain ⟨a, c, hb, hv, hab, hown⟩ := hL.body
    simp only [List.length_cons] at ht
    have hlt : (n - 1).toNat < es.length := by
      rcases Nat.lt_or_ge (n - 1).toNat es.length with q | q
      · exact q
      · rw [List.drop_eq_nil_of_le q] at hr; cases hr
    rw [List.drop_eq_getElem_cons hlt] at hr
    obtain ⟨he, hr⟩ := List.cons.inj hr
    have hx : es[(n - 1).toNat]? = some e := by rw [he]; simp
    have hoke := hok e (by rw [he]; exact List.getElem_mem hlt)
    have hel := enc_le hoke
    have ew2 : IntKind.i64.wrap (((t.length : Nat) : Int) + ((enc e).length : Int)) = (t.length : Int) + ((enc e).length : Int) := wrap_in ⟨by omega, by omega⟩
    obtain ⟨j, cs, ez, hz, rfl, hj, htk, hle3⟩ := hv.at_ (by omega)
    have ew : IntKind.i64.wrap (n - 1) = (((n - 1).toNat : Nat) : Int) := by rw [wrap_in ⟨by omega, by omega⟩]; omega
    have ew3 : IntKind.i64.wrap (n + 1) = n + 1 := wrap_in ⟨by omega, by omega⟩
    have hrow := row_get htk rfl hx
    obtain ⟨g1, q53⟩ := enc53 H hoke
    have e0 := c20_100004 (m + 2 * (rest.length + 1) + 1) (some ⟨b, 0, none⟩) n M (bs t) n H
    rw [List.length_cons]
    simp only [↓onS, ↓kInt_int, ↓kInt_u8, ↓kBool_bool, ↓kStr_str, ↓kTup_tup, ↓kPtr_ptr, ↓kSl_sl, ↓kAgg_agg, ↓ldc_at hb, List.getElem?_toArray, List.getElem?_cons_zero, List.getElem?_cons_succ] at e0
    rw [decide_eq_true (show n ≤ ((es.length : Nat) : Int) by omega)] at e0
    simp only [↓onS, ↓kInt_int, ↓kInt_u8, ↓kBool_bool, ↓kStr_str, ↓kTup_tup, ↓kPtr_ptr, ↓kSl_sl, ↓kAgg_agg, ew, Int.toNat_natCast, ↓ldc_add, ↓ldc_at hj, add_off, Nat.zero_add, hrow] at e0
    rw [if_pos ⟨by omega, by omega⟩, if_pos (by omega)] at e0
    simp only [↓onS, ↓kInt_int, ↓kInt_u8, ↓kBool_bool, ↓kStr_str, ↓kTup_tup, ↓kPtr_ptr, ↓kSl_sl, ↓kAgg_agg, ↓on_of q53, bs_nil, bs_list, bs_size, ew2] at e0
    have on : ∃ g, R20 (m + 2 * (rest.length + 1) + 1) td20_8 [.pointer (some ⟨b, 0, none⟩), .int .i64 M, .string (bs t), .int .i64 n, .string (bs (enc e))] (H ++ g1) = some (.tuple #[.string (bs (bytesM M rest (n + 1) (t ++ enc e)).1), .int .i64 (bytesM M rest (n + 1) (t ++ enc e)).2], H ++ g) := by
      obtain ⟨g, e1⟩ := loop20 hle hok M rest (n + 1) (t ++ enc e) (H ++ g1) m (hL.push g1) (by omega) (by have q : (n + 1 - 1).toNat = (n - 1).toNat + 1 := (by omega); rw [q]; exact hr) (by rw [List.length_append]; omega)
      refine ⟨g1 ++ g, ?_⟩
      rw [c20_8, bs_size, bs_size, if_pos (by omega), ew3, bs_app, ← List.append_assoc]
      exact e1
    unfold bytesM
    rcases Bool.eq_false_or_eq_true (!(t == [])) with q1 | q1
    · rcases Bool.eq_false_or_eq_true (decide (M < (t.length : Int) + ((enc e).length : Int))) with q2 | q2
      · simp only [q1, q2, c20_10] at e0 ⊢
        exact ⟨g1, e0⟩
      · simp only [q1, q2] at e0 ⊢
        obtain ⟨g, e1⟩ := on
        exact ⟨g, e0.trans e1⟩
    · simp only [q1] at e0 ⊢
      obtain ⟨g, e1⟩ := on
      exact ⟨g, e0.trans e1⟩
theorem bytes20 {H : Heap} (h : Lg N b es H) (hle : es.length ≤ 4096) (hok : ∀ e ∈ es, ok e = true) (x M : Int) :
    ∃ g, F20 [.pointer (some ⟨b, 0, none⟩), .int .i64 x, .int .i64 M] H = some (.tuple #[.string (bs (bytesM M (es.drop (fromM x - 1).toNat) (fromM x) []).1), .int .i64 (bytesM M (es.drop (fromM x - 1).toNat) (fromM x) []).2], H ++ g) := by
  have f : ∀ m r, fnE Try.prog G20 Try.f20 cuts20 m [.pointer (some ⟨b, 0, none⟩), .int .i64 x, .int .i64 M] H = some r → F20 [.pointer (some ⟨b, 0, none⟩), .int .i64 x, .int .i64 M] H = some r := fun m r h => FN_of m h (Nat.le_of_ble_eq_true (by kernel_rfl))
  have i1 := from_in x
  have hd : (es.drop (fromM x - 1).toNat).length ≤ 4096 := by rw [List.length_drop]; omega
  obtain ⟨g, e1⟩ := loop20 (N := N) (b := b) hle hok M (es.drop (fromM x - 1).toNat) (fromM x) [] H 0 h i1 rfl (by simp only [List.length_nil]; omega)
  have e2 := t20 (0 + 2 * (es.drop (fromM x - 1).toNat).length + 2) (some ⟨b, 0, none⟩) x M H
  rw [bs_nil] at e2
  exact ⟨g, f _ _ (e2.trans e1)⟩

/-! ### One event -/
def ev0 : Ev := ⟨0, 0, []⟩
def getM (es : List Ev) (x : Int) : Ev × Int :=
  match decide (x < 1) with
  | true => (ev0, 5)
  | false => match decide (((es.length : Nat) : Int) < x) with
    | true => (ev0, 5)
    | false => ((es[(x - 1).toNat]?).getD ev0, 0)
theorem z_cs : ([.int .i64 (0 : Int), .int .i64 (0 : Int), .string (⟨#[]⟩ : ByteArray)] : List Value) = ev0.cs := by rw [bs_nil]; rfl
theorem z_arr : (#[.int .i64 (0 : Int), .int .i64 (0 : Int), .string (⟨#[]⟩ : ByteArray)] : Array Value) = ev0.cs.toArray := by rw [bs_nil]; rfl
theorem st_bx {H : Heap} {j : Nat} {e e' : Ev} (h : H[j]? = some (bx e)) (K : Value → Heap → R) : st 3 H ⟨j, 0, none⟩ (.agg e'.cs.toArray) K = K undef (H.set j (bx e')) := st_whole (vs := e'.cs) (n := 3) h rfl rfl K
theorem bx_at (H : Heap) (e : Ev) : (H ++ [bx e])[H.length]? = some (bx e) := by simp
theorem bx_set (H : Heap) (e e' : Ev) : (H ++ [bx e]).set H.length (bx e') = H ++ [bx e'] := by simp
theorem get21 {H : Heap} (h : Lg N b es H) (hle : es.length ≤ 4096) (x : Int) : ∃ g, F21 [.pointer (some ⟨b, 0, none⟩), .int .i64 x] H = some (.tuple #[.agg (getM es x).1.cs.toArray, .int .i64 (getM es x).2], H ++ g) := by
  have f : ∀ m r, fnE Try.prog G21 Try.f21 cuts21 m [.pointer (some ⟨b, 0, none⟩), .int .i64 x] H = some r → F21 [.pointer (some ⟨b, 0, none⟩), .int .i64 x] H = some r := fun m r h => FN_of m h (Nat.le_of_ble_eq_true (by kernel_rfl))
  obtain ⟨m, hm⟩ : ∃ m : Nat, m = 0 := ⟨0, rfl⟩
  have e0 := t21 (m + 1) (some ⟨b, 0, none⟩) x H
  have hL := h.push [bx ev0]
  obtain ⟨a, c, hb, hv, hab, hown⟩ := hL.body
  have eb : AObj.cells ev0.cs 0 true = bx ev0 := rfl
  have c2 : R21 (m + 1) td21_2 [.pointer (some ⟨H.length, 0, none⟩)] (H ++ [bx ev0]) = some (.tuple #[.agg ev0.cs.toArray, .int .i64 5], H ++ [bx ev0]) := by
    rw [c21_2]
    simp only [↓onS, ↓kInt_int, ↓kInt_u8, ↓kBool_bool, ↓kStr_str, ↓kTup_tup, ↓kPtr_ptr, ↓kSl_sl, ↓kAgg_agg, z_arr, ↓st_bx (bx_at H ev0), bx_set, ↓ldc_bx (bx_at H ev0), ↓cond3, range_cs]
  simp only [z_cs, eb, c2] at e0
  unfold getM
  rcases Bool.eq_false_or_eq_true (decide (x < 1)) with q1 | q1
  · simp only [q1] at e0 ⊢
    exact ⟨_, f _ _ e0⟩
  simp only [q1, ↓onS, ↓kInt_int, ↓kInt_u8, ↓kBool_bool, ↓kStr_str, ↓kTup_tup, ↓kPtr_ptr, ↓kSl_sl, ↓kAgg_agg, ↓ldc_at hb, List.getElem?_toArray, List.getElem?_cons_zero, List.getElem?_cons_succ] at e0
  rcases Bool.eq_false_or_eq_true (decide (((es.length : Nat) : Int) < x)) with q2 | q2
  · simp only [q1, q2] at e0 ⊢
    exact ⟨_, f _ _ e0⟩
  have h1 : 1 ≤ x := by have := of_decide_eq_false q1; omega
  have h2 : x ≤ es.length := by have := of_decide_eq_false q2; omega
  obtain ⟨j, cs, ez, hz, rfl, hj, htk, hle3⟩ := hv.at_ (by omega)
  have ew : IntKind.i64.wrap (x - 1) = (((x - 1).toNat : Nat) : Int) := by rw [wrap_in ⟨by omega, by omega⟩]; omega
  have hlt : (x - 1).toNat < es.length := by omega
  have hx : es[(x - 1).toNat]? = some es[(x - 1).toNat] := by simp [hlt]
  have hrow := row_get htk rfl hx
  have hc : (x - 1).toNat * 3 + 3 ≤ cs.length := by omega
  simp only [q2, ↓onS, ↓kInt_int, ↓kInt_u8, ↓kBool_bool, ↓kStr_str, ↓kTup_tup, ↓kPtr_ptr, ↓kSl_sl, ↓kAgg_agg, ew, Int.toNat_natCast, ↓ldc_add, ↓ldc_at hj, add_off, Nat.zero_add, hrow, ↓st_bx (bx_at H ev0), bx_set, ↓ldc_bx (bx_at H es[(x - 1).toNat]), range_cs] at e0
  rw [if_pos ⟨by omega, by omega⟩, if_pos hc, if_pos (by simp [Ev.cs])] at e0
  simp only [q1, q2, hx, Option.getD_some]
  exact ⟨_, f _ _ e0⟩
theorem get22 {H : Heap} (h : Lg N b es H) (hle : es.length ≤ 4096) (x : Int) : ∃ g, F22 [.pointer (some ⟨b, 0, none⟩), .int .i64 x] H = some (.tuple #[.agg (getM es x).1.cs.toArray, .int .i64 (getM es x).2], H ++ g) := by
  have f : ∀ m r, fnE Try.prog G22 Try.f22 cuts22 m [.pointer (some ⟨b, 0, none⟩), .int .i64 x] H = some r → F22 [.pointer (some ⟨b, 0, none⟩), .int .i64 x] H = some r := fun m r h => FN_of m h (Nat.le_of_ble_eq_true (by kernel_rfl))
  obtain ⟨m, hm⟩ : ∃ m : Nat, m = 0 := ⟨0, rfl⟩
  have e0 := t22 (m + 1) (some ⟨b, 0, none⟩) x H
  have hL := h.push [bx ev0]
  obtain ⟨a, c, hb, hv, hab, hown⟩ := hL.body
  have eb : AObj.cells ev0.cs 0 true = bx ev0 := rfl
  have c2 : R22 (m + 1) td22_2 [.pointer (some ⟨H.length, 0, none⟩)] (H ++ [bx ev0]) = some (.tuple #[.agg ev0.cs.toArray, .int .i64 5], H ++ [bx ev0]) := by
    rw [c22_2]
    simp only [↓onS, ↓kInt_int, ↓kInt_u8, ↓kBool_bool, ↓kStr_str, ↓kTup_tup, ↓kPtr_ptr, ↓kSl_sl, ↓kAgg_agg, z_arr, ↓st_bx (bx_at H ev0), bx_set, ↓ldc_bx (bx_at H ev0), ↓cond3, range_cs]
  simp only [z_cs, eb, c2] at e0
  unfold getM
  rcases Bool.eq_false_or_eq_true (decide (x < 1)) with q1 | q1
  · simp only [q1] at e0 ⊢
    exact ⟨_, f _ _ e0⟩
  simp only [q1, ↓onS, ↓kInt_int, ↓kInt_u8, ↓kBool_bool, ↓kStr_str, ↓kTup_tup, ↓kPtr_ptr, ↓kSl_sl, ↓kAgg_agg, ↓ldc_at hb, List.getElem?_toArray, List.getElem?_cons_zero, List.getElem?_cons_succ] at e0
  rcases Bool.eq_false_or_eq_true (decide (((es.length : Nat) : Int) < x)) with q2 | q2
  · simp only [q1, q2] at e0 ⊢
    exact ⟨_, f _ _ e0⟩
  have h1 : 1 ≤ x := by have := of_decide_eq_false q1; omega
  have h2 : x ≤ es.length := by have := of_decide_eq_false q2; omega
  obtain ⟨j, cs, ez, hz, rfl, hj, htk, hle3⟩ := hv.at_ (by omega)
  have ew : IntKind.i64.wrap (x - 1) = (((x - 1).toNat : Nat) : Int) := by rw [wrap_in ⟨by omega, by omega⟩]; omega
  have hlt : (x - 1).toNat < es.length := by omega
  have hx : es[(x - 1).toNat]? = some es[(x - 1).toNat] := by simp [hlt]
  have hrow := row_get htk rfl hx
  have hc : (x - 1).toNat * 3 + 3 ≤ cs.length := by omega
  simp only [q2, ↓onS, ↓kInt_int, ↓kInt_u8, ↓kBool_bool, ↓kStr_str, ↓kTup_tup, ↓kPtr_ptr, ↓kSl_sl, ↓kAgg_agg, ew, Int.toNat_natCast, ↓ldc_add, ↓ldc_at hj, add_off, Nat.zero_add, hrow, ↓st_bx (bx_at H ev0), bx_set, ↓ldc_bx (bx_at H es[(x - 1).toNat]), range_cs] at e0
  rw [if_pos ⟨by omega, by omega⟩, if_pos hc, if_pos (by simp [Ev.cs])] at e0
  simp only [q1, q2, hx, Option.getD_some]
  exact ⟨_, f _ _ e0⟩
end
end Go.Proofs.Yticchkdbanhjfaa
