/- EventLogs: an event's bytes; the chapter's example. -/
import Derived.Test.YticchkdbanhjfaaEl2
set_option linter.unusedVariables false
set_option linter.unusedSimpArgs false
namespace Go.Proofs.Yticchkdbanhjfaa
open Go Go.RowKit Go.Proofs.Yticchkdbanhjfaa.Fw
/-- An event's bytes. -/
def enc (e : Ev) : List UInt8 := ((be 1 e.k.toNat ++ be 6 e.n.toNat) ++ be 2 e.s.length) ++ e.s
theorem enc_len (e : Ev) : (enc e).length = 9 + e.s.length := by simp [enc, be_len]; omega
theorem ok_parts {e : Ev} (h : ok e = true) : ∃ (K N : Nat) (s : List UInt8), e = ⟨(K : Int), (N : Int), s⟩ ∧ K < 256 ^ 1 ∧ N < 256 ^ 6 ∧ s.length < 256 ^ 2 ∧ s.length ≤ 1514 ∧ (K = 1 ∨ K = 2) ∧ N ≤ 1099511627776 := by
  obtain ⟨k, n, s⟩ := e
  unfold ok okT at h
  simp only [Bool.and_eq_true, Bool.or_eq_true, Bool.not_eq_true', decide_eq_false_iff_not, decide_eq_true_eq, beq_iff_eq] at h
  obtain ⟨h1, h2, h3⟩ := h
  have e6 : (256 : Nat) ^ 6 = 281474976710656 := by decide
  rcases h3 with ⟨rfl, h3⟩ | ⟨rfl, rfl⟩
  · exact ⟨1, n.toNat, s, by simp; omega, by decide, by omega, by omega, by omega, .inl rfl, by omega⟩
  · exact ⟨2, n.toNat, [], by simp; omega, by decide, by omega, by decide, by simp, .inr rfl, by omega⟩
theorem enc49 (H : Heap) {e : Ev} (h : ok e = true) : ∃ g, F49 [.agg e.cs.toArray] H = some (.string (bs (enc e)), H ++ g) := by
  obtain ⟨K, N, s, rfl, hK, hN, hs, hs2, _⟩ := ok_parts h
  have f : ∀ m r, fnE Try.prog G49 Try.f49 cuts49 m [.agg (Ev.cs ⟨(K : Int), (N : Int), s⟩).toArray] H = some r → F49 [.agg (Ev.cs ⟨(K : Int), (N : Int), s⟩).toArray] H = some r := fun m r h => FN_of m h (Nat.le_of_ble_eq_true (by kernel_rfl))
  have p1 : ∀ H, F74 [.int .i64 (K : Int), .int .i64 (1 : Int)] H = _ := fun H => put74 H (n := 1) (v := K) (by omega) (by omega) hK
  have p6 : ∀ H, F74 [.int .i64 (N : Int), .int .i64 (6 : Int)] H = _ := fun H => put74 H (n := 6) (v := N) (by omega) (by omega) hN
  have p2 : ∀ H, F74 [.int .i64 (s.length : Int), .int .i64 (2 : Int)] H = _ := fun H => put74 H (n := 2) (v := s.length) (by omega) (by omega) hs
  have e1 := t49 1 (K : Int) (N : Int) (bs s) H
  simp (disch := (refine id ?_; with_unfolding_all rfl)) only [↓onS, ↓kInt_int, ↓kInt_u8, ↓kBool_bool, ↓kStr_str, ↓kTup_tup, ↓kPtr_ptr, ↓kSl_sl, ↓kAgg_agg, List.getElem?_toArray, List.getElem?_cons_zero, List.getElem?_cons_succ, List.append_assoc, List.cons_append, List.nil_append, List.length_append, List.length_cons, List.length_nil, ↓ldc_L0, ↓ldc_L, ↓ldc_C0, ↓ldc_CS, ↓st_L0, ↓st_L, ↓st_CS, ↓st_C1, ↓st_CN, ↓ite_len, ↓ite_size, ldc_L0, ldc_L, ldc_C0, ldc_CS, st_L0, st_L, st_CS, st_C1, st_CN, range_all, List.set_cons_zero, List.set_cons_succ, unt_same, ↓unt_L0, ↓unt_C0, ↓on_of (p1 _), ↓on_of (p6 _), ↓on_of (p2 _), bs_size, bs_app, be_len] at e1
  rw [if_pos (by omega), if_pos (by omega), if_pos (by omega)] at e1
  have ee : enc ⟨(K : Int), (N : Int), s⟩ = be 1 K ++ (be 6 N ++ (be 2 s.length ++ s)) := by simp [enc]
  rw [ee]
  exact ⟨_, f 1 _ e1⟩
theorem enc53 (H : Heap) {e : Ev} (h : ok e = true) : ∃ g, F53 [.agg e.cs.toArray] H = some (.string (bs (enc e)), H ++ g) := by
  obtain ⟨K, N, s, rfl, hK, hN, hs, hs2, _⟩ := ok_parts h
  have f : ∀ m r, fnE Try.prog G53 Try.f53 cuts53 m [.agg (Ev.cs ⟨(K : Int), (N : Int), s⟩).toArray] H = some r → F53 [.agg (Ev.cs ⟨(K : Int), (N : Int), s⟩).toArray] H = some r := fun m r h => FN_of m h (Nat.le_of_ble_eq_true (by kernel_rfl))
  have p1 : ∀ H, ∃ g, F76 [.int .i64 (K : Int), .int .i64 (1 : Int)] H = some (_, H ++ g) := fun H => text76 H (n := 1) (v := K) (by omega) (by omega)
  have p6 : ∀ H, ∃ g, F76 [.int .i64 (N : Int), .int .i64 (6 : Int)] H = some (_, H ++ g) := fun H => text76 H (n := 6) (v := N) (by omega) (by omega)
  have p2 : ∀ H, ∃ g, F76 [.int .i64 (s.length : Int), .int .i64 (2 : Int)] H = some (_, H ++ g) := fun H => text76 H (n := 2) (v := s.length) (by omega) (by omega)
  have e1 := t53 1 (K : Int) (N : Int) (bs s) H
  obtain ⟨g1, q1⟩ := p1 (H ++ [.cells [.int .i64 (K : Int), .int .i64 (N : Int), .string (bs s)] 0 true])
  simp (disch := (refine id ?_; with_unfolding_all rfl)) only [↓onS, ↓kInt_int, ↓kInt_u8, ↓kBool_bool, ↓kStr_str, ↓kTup_tup, ↓kPtr_ptr, ↓kSl_sl, ↓kAgg_agg, List.getElem?_toArray, List.getElem?_cons_zero, List.getElem?_cons_succ, List.append_assoc, List.cons_append, List.nil_append, List.length_append, List.length_cons, List.length_nil, ↓ldc_L0, ↓ldc_L, ↓ldc_C0, ↓ldc_CS, ↓st_L0, ↓st_L, ↓st_CS, ↓st_C1, ↓st_CN, ↓ite_len, ↓ite_size, ldc_L0, ldc_L, ldc_C0, ldc_CS, st_L0, st_L, st_CS, st_C1, st_CN, range_all, List.set_cons_zero, List.set_cons_succ, unt_same, ↓unt_L0, ↓unt_C0, ↓on_of q1, bs_size, bs_app, be_len] at e1
  obtain ⟨g2, q2⟩ := p6 (H ++ ([.cells [.int .i64 (K : Int), .int .i64 (N : Int), .string (bs s)] 0 true] ++ g1))
  simp only [List.getElem?_toArray, List.getElem?_cons_zero, List.getElem?_cons_succ, List.append_assoc, List.cons_append, List.nil_append, List.length_append, List.length_cons, List.length_nil] at q2
  simp (disch := (refine id ?_; with_unfolding_all rfl)) only [↓onS, ↓kInt_int, ↓kInt_u8, ↓kBool_bool, ↓kStr_str, ↓kTup_tup, ↓kPtr_ptr, ↓kSl_sl, ↓kAgg_agg, List.getElem?_toArray, List.getElem?_cons_zero, List.getElem?_cons_succ, List.append_assoc, List.cons_append, List.nil_append, List.length_append, List.length_cons, List.length_nil, ↓ldc_L0, ↓ldc_L, ↓ldc_C0, ↓ldc_CS, ↓st_L0, ↓st_L, ↓st_CS, ↓st_C1, ↓st_CN, ↓ite_len, ↓ite_size, ldc_L0, ldc_L, ldc_C0, ldc_CS, st_L0, st_L, st_CS, st_C1, st_CN, range_all, List.set_cons_zero, List.set_cons_succ, unt_same, ↓unt_L0, ↓unt_C0, ↓on_of q2, bs_size, bs_app, be_len] at e1
  rw [if_pos (by omega)] at e1
  obtain ⟨g3, q3⟩ := p2 (H ++ (([.cells [.int .i64 (K : Int), .int .i64 (N : Int), .string (bs s)] 0 true] ++ g1) ++ g2))
  simp only [List.getElem?_toArray, List.getElem?_cons_zero, List.getElem?_cons_succ, List.append_assoc, List.cons_append, List.nil_append, List.length_append, List.length_cons, List.length_nil] at q3
  simp (disch := (refine id ?_; with_unfolding_all rfl)) only [↓onS, ↓kInt_int, ↓kInt_u8, ↓kBool_bool, ↓kStr_str, ↓kTup_tup, ↓kPtr_ptr, ↓kSl_sl, ↓kAgg_agg, List.getElem?_toArray, List.getElem?_cons_zero, List.getElem?_cons_succ, List.append_assoc, List.cons_append, List.nil_append, List.length_append, List.length_cons, List.length_nil, ↓ldc_L0, ↓ldc_L, ↓ldc_C0, ↓ldc_CS, ↓st_L0, ↓st_L, ↓st_CS, ↓st_C1, ↓st_CN, ↓ite_len, ↓ite_size, ldc_L0, ldc_L, ldc_C0, ldc_CS, st_L0, st_L, st_CS, st_C1, st_CN, range_all, List.set_cons_zero, List.set_cons_succ, unt_same, ↓unt_L0, ↓unt_C0, ↓on_of q3, bs_size, bs_app, be_len] at e1
  rw [if_pos (by omega), if_pos (by omega)] at e1
  have ee : enc ⟨(K : Int), (N : Int), s⟩ = be 1 K ++ (be 6 N ++ (be 2 s.length ++ s)) := by simp [enc]
  rw [ee]
  exact ⟨_, f 1 _ e1⟩
theorem enc43 (H : Heap) (e : Ev) : ∃ g, F43 [.agg e.cs.toArray] H = some ((match ok e with | true => .tuple #[.string (bs (enc e)), .int .i64 0] | false => .tuple #[.string (bs []), .int .i64 230]), H ++ g) := by
  have f : ∀ m r, fnE Try.prog G43 Try.f43 cuts43 m [.agg e.cs.toArray] H = some r → F43 [.agg e.cs.toArray] H = some r := fun m r h => FN_of m h (Nat.le_of_ble_eq_true (by kernel_rfl))
  have e1 := t43 1 e.k e.n (bs e.s) H
  have c := fun H => chk47 H e
  unfold Ev.cs at c
  simp (disch := (refine id ?_; with_unfolding_all rfl)) only [↓onS, ↓kInt_int, ↓kInt_u8, ↓kBool_bool, ↓kStr_str, ↓kTup_tup, ↓kPtr_ptr, ↓kSl_sl, ↓kAgg_agg, List.getElem?_toArray, List.getElem?_cons_zero, List.getElem?_cons_succ, List.append_assoc, List.cons_append, List.nil_append, List.length_append, List.length_cons, List.length_nil, ↓ldc_L0, ↓ldc_L, ↓ldc_C0, ↓ldc_CS, ↓st_L0, ↓st_L, ↓st_CS, ↓st_C1, ↓st_CN, ↓ite_len, ↓ite_size, ldc_L0, ldc_L, ldc_C0, ldc_CS, st_L0, st_L, st_CS, st_C1, st_CN, range_all, List.set_cons_zero, List.set_cons_succ, unt_same, ↓unt_L0, ↓unt_C0, ↓on_of (c _)] at e1
  rcases Bool.eq_false_or_eq_true (ok e) with h | h
  · obtain ⟨g, q⟩ := enc49 (H ++ ([.cells [.int .i64 e.k, .int .i64 e.n, .string (bs e.s)] 0 true] ++ [.cells [.int .i64 e.k, .int .i64 e.n, .string (bs e.s)] 0 true])) h
    unfold Ev.cs at q
    simp only [List.getElem?_toArray, List.getElem?_cons_zero, List.getElem?_cons_succ, List.append_assoc, List.cons_append, List.nil_append, List.length_append, List.length_cons, List.length_nil] at q
    simp (disch := (refine id ?_; with_unfolding_all rfl)) only [h, bne_self_eq_false, ↓onS, ↓kInt_int, ↓kInt_u8, ↓kBool_bool, ↓kStr_str, ↓kTup_tup, ↓kPtr_ptr, ↓kSl_sl, ↓kAgg_agg, List.getElem?_toArray, List.getElem?_cons_zero, List.getElem?_cons_succ, List.append_assoc, List.cons_append, List.nil_append, List.length_append, List.length_cons, List.length_nil, ↓ldc_L0, ↓ldc_L, ↓ldc_C0, ↓ldc_CS, ↓st_L0, ↓st_L, ↓st_CS, ↓st_C1, ↓st_CN, ↓ite_len, ↓ite_size, ldc_L0, ldc_L, ldc_C0, ldc_CS, st_L0, st_L, st_CS, st_C1, st_CN, range_all, List.set_cons_zero, List.set_cons_succ, unt_same, ↓unt_L0, ↓unt_C0, ↓on_of q] at e1
    exact ⟨_, by simp only [h]; exact f 1 _ e1⟩
  · simp (disch := (refine id ?_; with_unfolding_all rfl)) only [h, show ((230 : Int) != 0) = true from rfl, ↓onS, ↓kInt_int, ↓kInt_u8, ↓kBool_bool, ↓kStr_str, ↓kTup_tup, ↓kPtr_ptr, ↓kSl_sl, ↓kAgg_agg, List.getElem?_toArray, List.getElem?_cons_zero, List.getElem?_cons_succ, List.append_assoc, List.cons_append, List.nil_append, List.length_append, List.length_cons, List.length_nil, ↓ldc_L0, ↓ldc_L, ↓ldc_C0, ↓ldc_CS, ↓st_L0, ↓st_L, ↓st_CS, ↓st_C1, ↓st_CN, ↓ite_len, ↓ite_size, ldc_L0, ldc_L, ldc_C0, ldc_CS, st_L0, st_L, st_CS, st_C1, st_CN, range_all, List.set_cons_zero, List.set_cons_succ, unt_same, ↓unt_L0, ↓unt_C0, bs_nil] at e1
    exact ⟨_, by simp only [h]; exact f 1 _ e1⟩
/-- The chapter's example. -/
theorem works13 (H : Heap) : ∃ g, F13 [] H = some (.bool true, H ++ g) := by
  obtain ⟨g, q⟩ := enc43 H ⟨2, 5, []⟩
  have e1 := t13 1 H
  have h : ok ⟨2, 5, []⟩ = true := by decide
  have he : enc ⟨2, 5, []⟩ = [2, 0, 0, 0, 0, 0, 5, 0, 0] := by decide +kernel
  unfold Ev.cs at q
  simp only [h, he] at q
  have e9 : (⟨#[2, 0, 0, 0, 0, 0, 5, 0, 0]⟩ : ByteArray) = bs [2, 0, 0, 0, 0, 0, 5, 0, 0] := rfl
  simp (disch := (refine id ?_; with_unfolding_all rfl)) only [bs_nil] at e1
  simp (disch := (refine id ?_; with_unfolding_all rfl)) only [↓onS, ↓kInt_int, ↓kInt_u8, ↓kBool_bool, ↓kStr_str, ↓kTup_tup, ↓kPtr_ptr, ↓kSl_sl, ↓kAgg_agg, List.getElem?_toArray, List.getElem?_cons_zero, List.getElem?_cons_succ, List.append_assoc, List.cons_append, List.nil_append, List.length_append, List.length_cons, List.length_nil, ↓ldc_L0, ↓ldc_L, ↓ldc_C0, ↓ldc_CS, ↓st_L0, ↓st_L, ↓st_CS, ↓st_C1, ↓st_CN, ↓ite_len, ↓ite_size, ldc_L0, ldc_L, ldc_C0, ldc_CS, st_L0, st_L, st_CS, st_C1, st_CN, range_all, List.set_cons_zero, List.set_cons_succ, unt_same, ↓unt_L0, ↓unt_C0, ↓on_of q, e9, bs_list, beq_self_eq_true] at e1
  exact ⟨_, FN_of 1 e1 (Nat.le_of_ble_eq_true (by kernel_rfl))⟩
end Go.Proofs.Yticchkdbanhjfaa
