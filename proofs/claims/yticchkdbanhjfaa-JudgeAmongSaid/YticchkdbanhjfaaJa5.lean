/- JudgeAmong: claims. -/
import Derived.Test.YticchkdbanhjfaaJa4
set_option linter.unusedVariables false
set_option linter.unusedSimpArgs false
namespace Go.Proofs.Yticchkdbanhjfaa
open Go Go.RowKit Go.Proofs.Yticchkdbanhjfaa.Fw
theorem eqv122 (a1 a2 a3 a4 a5 b1 b2 b3 b4 b5 : Int) (K : Bool → R) : eqv Try.prog 20 122 (.agg #[.int .i64 a1, .int .i64 a2, .int .i64 a3, .int .i64 a4, .int .i64 a5]) (.agg #[.int .i64 b1, .int .i64 b2, .int .i64 b3, .int .i64 b4, .int .i64 b5]) K =
    (match a1 == b1 with | false => K false | true => (match a2 == b2 with | false => K false | true => (match a3 == b3 with | false => K false | true => (match a4 == b4 with | false => K false | true => (match a5 == b5 with | false => K false | true => K true))))) := by kernel_rfl
theorem isClaim81 (H : Heap) (a : Arp) : ∃ g, F81 [.agg a.cs.toArray] H = some (.bool (a.ok && a.fi == a.ti), H ++ g) := by
  have f : ∀ r, fnE Try.prog G81 Try.f81 cuts81 1 [.agg a.cs.toArray] H = some r → F81 [.agg a.cs.toArray] H = some r := fun r h => FN_of 1 h (Nat.le_of_ble_eq_true (by kernel_rfl))
  have e := t81 1 a.op a.fm a.fi a.tm a.ti H
  have c := fun H => check93 H a
  unfold Arp.cs at c
  simp (disch := (refine id ?_; with_unfolding_all rfl)) only [↓onS, ↓kInt_int, ↓kInt_u8, ↓kBool_bool, ↓kStr_str, ↓kTup_tup, ↓kPtr_ptr, ↓kSl_sl, ↓kAgg_agg, List.getElem?_toArray, List.getElem?_cons_zero, List.getElem?_cons_succ, List.append_assoc, List.cons_append, List.nil_append, List.length_append, List.length_cons, List.length_nil, ↓ldc_L0, ↓ldc_L, ↓ldc_C0, ↓ldc_CS, ↓st_L0, ↓st_L, ↓st_CS, ↓st_C1, ↓st_CN, ↓ite_len, ↓ite_size, ldc_L0, ldc_L, ldc_C0, ldc_CS, st_L0, st_L, st_CS, st_C1, st_CN, range_all, List.set_cons_zero, List.set_cons_succ, unt_same, ↓on_of (c _)] at e
  rcases Bool.eq_false_or_eq_true a.ok with h2 | h2
  · simp (disch := (refine id ?_; with_unfolding_all rfl)) only [h2, beq_self_eq_true, ↓onS, ↓kInt_int, ↓kInt_u8, ↓kBool_bool, ↓kStr_str, ↓kTup_tup, ↓kPtr_ptr, ↓kSl_sl, ↓kAgg_agg, List.getElem?_toArray, List.getElem?_cons_zero, List.getElem?_cons_succ, List.append_assoc, List.cons_append, List.nil_append, List.length_append, List.length_cons, List.length_nil, ↓ldc_L0, ↓ldc_L, ↓ldc_C0, ↓ldc_CS, ↓st_L0, ↓st_L, ↓st_CS, ↓st_C1, ↓st_CN, ↓ite_len, ↓ite_size, ldc_L0, ldc_L, ldc_C0, ldc_CS, st_L0, st_L, st_CS, st_C1, st_CN, range_all, List.set_cons_zero, List.set_cons_succ, unt_same, eqv122] at e
    rcases Bool.eq_false_or_eq_true (a.fi == a.ti) with h3 | h3
    · simp only [h3] at e
      exact ⟨_, by simp only [h2, h3]; exact f _ e⟩
    · simp only [h3] at e
      exact ⟨_, by simp only [h2, h3]; exact f _ e⟩
  · simp (disch := (refine id ?_; with_unfolding_all rfl)) only [h2, show ((40 : Int) == 0) = false from rfl] at e
    exact ⟨_, by simp only [h2]; exact f _ e⟩
theorem isClaim84 (H : Heap) (a : Arp) : ∃ g, F84 [.agg a.cs.toArray] H = some (.bool (a.ok && a.fi == a.ti), H ++ g) := by
  have f : ∀ r, fnE Try.prog G84 Try.f84 cuts84 1 [.agg a.cs.toArray] H = some r → F84 [.agg a.cs.toArray] H = some r := fun r h => FN_of 1 h (Nat.le_of_ble_eq_true (by kernel_rfl))
  have e := t84 1 a.op a.fm a.fi a.tm a.ti H
  have c := fun H => check97 H a
  unfold Arp.cs at c
  simp (disch := (refine id ?_; with_unfolding_all rfl)) only [↓onS, ↓kInt_int, ↓kInt_u8, ↓kBool_bool, ↓kStr_str, ↓kTup_tup, ↓kPtr_ptr, ↓kSl_sl, ↓kAgg_agg, List.getElem?_toArray, List.getElem?_cons_zero, List.getElem?_cons_succ, List.append_assoc, List.cons_append, List.nil_append, List.length_append, List.length_cons, List.length_nil, ↓ldc_L0, ↓ldc_L, ↓ldc_C0, ↓ldc_CS, ↓st_L0, ↓st_L, ↓st_CS, ↓st_C1, ↓st_CN, ↓ite_len, ↓ite_size, ldc_L0, ldc_L, ldc_C0, ldc_CS, st_L0, st_L, st_CS, st_C1, st_CN, range_all, List.set_cons_zero, List.set_cons_succ, unt_same, ↓on_of (c _)] at e
  rcases Bool.eq_false_or_eq_true a.ok with h2 | h2
  · simp (disch := (refine id ?_; with_unfolding_all rfl)) only [h2, beq_self_eq_true, ↓onS, ↓kInt_int, ↓kInt_u8, ↓kBool_bool, ↓kStr_str, ↓kTup_tup, ↓kPtr_ptr, ↓kSl_sl, ↓kAgg_agg, List.getElem?_toArray, List.getElem?_cons_zero, List.getElem?_cons_succ, List.append_assoc, List.cons_append, List.nil_append, List.length_append, List.length_cons, List.length_nil, ↓ldc_L0, ↓ldc_L, ↓ldc_C0, ↓ldc_CS, ↓st_L0, ↓st_L, ↓st_CS, ↓st_C1, ↓st_CN, ↓ite_len, ↓ite_size, ldc_L0, ldc_L, ldc_C0, ldc_CS, st_L0, st_L, st_CS, st_C1, st_CN, range_all, List.set_cons_zero, List.set_cons_succ, unt_same] at e
    exact ⟨_, by simp only [h2, Bool.true_and]; exact f _ e⟩
  · simp (disch := (refine id ?_; with_unfolding_all rfl)) only [h2, show ((40 : Int) == 0) = false from rfl] at e
    exact ⟨_, by simp only [h2]; exact f _ e⟩

/-- Is a frame a claim? -/
def claimB (l : List UInt8) : Bool := isFrame l && (pnum l 12 2 == 2054 && (isArp (l.drop 14) && ((arpOf (l.drop 14)).ok && (arpOf (l.drop 14)).fi == (arpOf (l.drop 14)).ti)))
theorem claim59 (H : Heap) (l : List UInt8) (hl : l.length ≤ 9223372036854775807) : ∃ g, F59 [.string (bs l)] H = some (.bool (claimB l), H ++ g) := by
  obtain ⟨m, hm⟩ : ∃ m : Nat, m = 0 := ⟨0, rfl⟩
  have f : ∀ r, fnE Try.prog G59 Try.f59 cuts59 (m + 1) [.string (bs l)] H = some r → F59 [.string (bs l)] H = some r := fun r h => FN_of (m + 1) h (Nat.le_of_ble_eq_true (by kernel_rfl))
  have e := t59 (m + 1) (bs l) H
  have c := fun H => c59_3 m H
  obtain ⟨g1, e1⟩ := dec79 H l hl
  unfold frameV at e1
  unfold claimB
  rcases Bool.eq_false_or_eq_true (isFrame l) with h1 | h1
  case inr =>
    rw [h1] at e1
    unfold f0 at e1
    simp (disch := (refine id ?_; with_unfolding_all rfl)) only [↓on_of e1, ↓onS, ↓kInt_int, ↓kInt_u8, ↓kBool_bool, ↓kStr_str, ↓kTup_tup, ↓kPtr_ptr, ↓kSl_sl, ↓kAgg_agg, List.getElem?_toArray, List.getElem?_cons_zero, List.getElem?_cons_succ, List.append_assoc, List.cons_append, List.nil_append, List.length_append, List.length_cons, List.length_nil, ↓ldc_L0, ↓ldc_L, ↓ldc_C0, ↓ldc_CS, ↓st_L0, ↓st_L, ↓st_CS, ↓st_C1, ↓st_CN, ↓ite_len, ↓ite_size, ldc_L0, ldc_L, ldc_C0, ldc_CS, st_L0, st_L, st_CS, st_C1, st_CN, range_all, List.set_cons_zero, List.set_cons_succ, unt_same, st_L0, show ((30 : Int) != 0) = true from rfl, c] at e
    rw [← List.append_assoc] at e
    simp (disch := (refine id ?_; with_unfolding_all rfl)) only [st_L0, st_CN, c, List.append_assoc] at e
    exact ⟨_, by simp only [h1]; exact f _ e⟩
  rw [h1] at e1
  have rw14 : (fcells l).toArray = #[.int .i64 (pnum l 0 6), .int .i64 (pnum l 6 6), .int .i64 (pnum l 12 2), .string (bs (l.drop 14))] := rfl
  simp only [rw14] at e1
  generalize hH1 : H ++ g1 = H1 at e1
  simp (disch := (refine id ?_; with_unfolding_all rfl)) only [↓on_of e1, ↓onS, ↓kInt_int, ↓kInt_u8, ↓kBool_bool, ↓kStr_str, ↓kTup_tup, ↓kPtr_ptr, ↓kSl_sl, ↓kAgg_agg, List.getElem?_toArray, List.getElem?_cons_zero, List.getElem?_cons_succ, List.append_assoc, List.cons_append, List.nil_append, List.length_append, List.length_cons, List.length_nil, ↓ldc_L0, ↓ldc_L, ↓ldc_C0, ↓ldc_CS, ↓st_L0, ↓st_L, ↓st_CS, ↓st_C1, ↓st_CN, ↓ite_len, ↓ite_size, ldc_L0, ldc_L, ldc_C0, ldc_CS, st_L0, st_L, st_CS, st_C1, st_CN, range_all, List.set_cons_zero, List.set_cons_succ, unt_same, bne_self_eq_false] at e
  rcases Bool.eq_false_or_eq_true (pnum l 12 2 == 2054) with h2 | h2
  case inr =>
    simp only [bne, h2, Bool.not_false, c] at e
    subst hH1
    rw [List.append_assoc] at e
    exact ⟨_, by simp only [h1, h2]; exact f _ e⟩
  obtain ⟨g2, e2⟩ := dec80 (H1 ++ [.cells [.int .i64 (pnum l 0 6), .int .i64 (pnum l 6 6), .int .i64 (pnum l 12 2), .string (bs (l.drop 14))] 0 true]) (l.drop 14) (by rw [List.length_drop]; omega)
  generalize hH2 : H1 ++ [AObj.cells [.int .i64 (pnum l 0 6), .int .i64 (pnum l 6 6), .int .i64 (pnum l 12 2), .string (bs (l.drop 14))] 0 true] ++ g2 = H2 at e2
  have hpre : H2 = H ++ (g1 ++ ([AObj.cells [.int .i64 (pnum l 0 6), .int .i64 (pnum l 6 6), .int .i64 (pnum l 12 2), .string (bs (l.drop 14))] 0 true] ++ g2)) := by rw [← hH2, ← hH1]; simp
  unfold arpV at e2
  rcases Bool.eq_false_or_eq_true (isArp (l.drop 14)) with h3 | h3
  case inr =>
    rw [h3] at e2
    unfold a0 at e2
    simp (disch := (refine id ?_; with_unfolding_all rfl)) only [bne, h2, Bool.not_true, ↓on_of e2, ↓onS, ↓kInt_int, ↓kInt_u8, ↓kBool_bool, ↓kStr_str, ↓kTup_tup, ↓kPtr_ptr, ↓kSl_sl, ↓kAgg_agg, List.getElem?_toArray, List.getElem?_cons_zero, List.getElem?_cons_succ, List.append_assoc, List.cons_append, List.nil_append, List.length_append, List.length_cons, List.length_nil, ↓ldc_L0, ↓ldc_L, ↓ldc_C0, ↓ldc_CS, ↓st_L0, ↓st_L, ↓st_CS, ↓st_C1, ↓st_CN, ↓ite_len, ↓ite_size, ldc_L0, ldc_L, ldc_C0, ldc_CS, st_L0, st_L, st_CS, st_C1, st_CN, range_all, List.set_cons_zero, List.set_cons_succ, unt_same, show ((40 : Int) == 0) = false from rfl] at e
    rw [hpre, List.append_assoc] at e
    exact ⟨_, by simp only [h1, h2, h3]; exact f _ e⟩
  rw [h3] at e2
  have rw5 : (arpOf (l.drop 14)).cs.toArray = #[.int .i64 (arpOf (l.drop 14)).op, .int .i64 (arpOf (l.drop 14)).fm, .int .i64 (arpOf (l.drop 14)).fi, .int .i64 (arpOf (l.drop 14)).tm, .int .i64 (arpOf (l.drop 14)).ti] := rfl
  simp only [rw5] at e2
  obtain ⟨g3, e3⟩ := isClaim81 (H2 ++ [.cells (arpOf (l.drop 14)).cs 0 true]) (arpOf (l.drop 14))
  simp only [rw5] at e3
  unfold Arp.cs at e3
  simp (disch := (refine id ?_; with_unfolding_all rfl)) only [bne, h2, Bool.not_true, ↓on_of e2, ↓onS, ↓kInt_int, ↓kInt_u8, ↓kBool_bool, ↓kStr_str, ↓kTup_tup, ↓kPtr_ptr, ↓kSl_sl, ↓kAgg_agg, List.getElem?_toArray, List.getElem?_cons_zero, List.getElem?_cons_succ, List.append_assoc, List.cons_append, List.nil_append, List.length_append, List.length_cons, List.length_nil, ↓ldc_L0, ↓ldc_L, ↓ldc_C0, ↓ldc_CS, ↓st_L0, ↓st_L, ↓st_CS, ↓st_C1, ↓st_CN, ↓ite_len, ↓ite_size, ldc_L0, ldc_L, ldc_C0, ldc_CS, st_L0, st_L, st_CS, st_C1, st_CN, range_all, List.set_cons_zero, List.set_cons_succ, unt_same, beq_self_eq_true] at e
  simp only [List.append_assoc] at e3
  simp (disch := (refine id ?_; with_unfolding_all rfl)) only [↓on_of e3, ↓onS, ↓kInt_int, ↓kInt_u8, ↓kBool_bool, ↓kStr_str, ↓kTup_tup, ↓kPtr_ptr, ↓kSl_sl, ↓kAgg_agg] at e
  rw [hpre] at e
  simp only [List.append_assoc] at e
  exact ⟨_, by simp only [h1, h2, h3, Bool.true_and]; exact f _ e⟩
theorem claim60 (H : Heap) (l : List UInt8) (hl : l.length ≤ 9223372036854775807) : ∃ g, F60 [.string (bs l)] H = some (.bool (claimB l), H ++ g) := by
  obtain ⟨m, hm⟩ : ∃ m : Nat, m = 0 := ⟨0, rfl⟩
  have f : ∀ r, fnE Try.prog G60 Try.f60 cuts60 (m + 1) [.string (bs l)] H = some r → F60 [.string (bs l)] H = some r := fun r h => FN_of (m + 1) h (Nat.le_of_ble_eq_true (by kernel_rfl))
  have e := t60 (m + 1) (bs l) H
  have c := fun H => c60_3 m H
  obtain ⟨g1, e1⟩ := dec82 H l hl
  unfold frameV at e1
  unfold claimB
  rcases Bool.eq_false_or_eq_true (isFrame l) with h1 | h1
  case inr =>
    rw [h1] at e1
    unfold f0 at e1
    simp (disch := (refine id ?_; with_unfolding_all rfl)) only [↓on_of e1, ↓onS, ↓kInt_int, ↓kInt_u8, ↓kBool_bool, ↓kStr_str, ↓kTup_tup, ↓kPtr_ptr, ↓kSl_sl, ↓kAgg_agg, List.getElem?_toArray, List.getElem?_cons_zero, List.getElem?_cons_succ, List.append_assoc, List.cons_append, List.nil_append, List.length_append, List.length_cons, List.length_nil, ↓ldc_L0, ↓ldc_L, ↓ldc_C0, ↓ldc_CS, ↓st_L0, ↓st_L, ↓st_CS, ↓st_C1, ↓st_CN, ↓ite_len, ↓ite_size, ldc_L0, ldc_L, ldc_C0, ldc_CS, st_L0, st_L, st_CS, st_C1, st_CN, range_all, List.set_cons_zero, List.set_cons_succ, unt_same, st_L0, show ((30 : Int) != 0) = true from rfl, c] at e
    rw [← List.append_assoc] at e
    simp (disch := (refine id ?_; with_unfolding_all rfl)) only [st_L0, st_CN, c, List.append_assoc] at e
    exact ⟨_, by simp only [h1]; exact f _ e⟩
  rw [h1] at e1
  have rw14 : (fcells l).toArray = #[.int .i64 (pnum l 0 6), .int .i64 (pnum l 6 6), .int .i64 (pnum l 12 2), .string (bs (l.drop 14))] := rfl
  simp only [rw14] at e1
  generalize hH1 : H ++ g1 = H1 at e1
  simp (disch := (refine id ?_; with_unfolding_all rfl)) only [↓on_of e1, ↓onS, ↓kInt_int, ↓kInt_u8, ↓kBool_bool, ↓kStr_str, ↓kTup_tup, ↓kPtr_ptr, ↓kSl_sl, ↓kAgg_agg, List.getElem?_toArray, List.getElem?_cons_zero, List.getElem?_cons_succ, List.append_assoc, List.cons_append, List.nil_append, List.length_append, List.length_cons, List.length_nil, ↓ldc_L0, ↓ldc_L, ↓ldc_C0, ↓ldc_CS, ↓st_L0, ↓st_L, ↓st_CS, ↓st_C1, ↓st_CN, ↓ite_len, ↓ite_size, ldc_L0, ldc_L, ldc_C0, ldc_CS, st_L0, st_L, st_CS, st_C1, st_CN, range_all, List.set_cons_zero, List.set_cons_succ, unt_same, bne_self_eq_false] at e
  rcases Bool.eq_false_or_eq_true (pnum l 12 2 == 2054) with h2 | h2
  case inr =>
    simp only [bne, h2, Bool.not_false, c] at e
    subst hH1
    rw [List.append_assoc] at e
    exact ⟨_, by simp only [h1, h2]; exact f _ e⟩
  obtain ⟨g2, e2⟩ := dec83 (H1 ++ [.cells [.int .i64 (pnum l 0 6), .int .i64 (pnum l 6 6), .int .i64 (pnum l 12 2), .string (bs (l.drop 14))] 0 true]) (l.drop 14) (by rw [List.length_drop]; omega)
  generalize hH2 : H1 ++ [AObj.cells [.int .i64 (pnum l 0 6), .int .i64 (pnum l 6 6), .int .i64 (pnum l 12 2), .string (bs (l.drop 14))] 0 true] ++ g2 = H2 at e2
  have hpre : H2 = H ++ (g1 ++ ([AObj.cells [.int .i64 (pnum l 0 6), .int .i64 (pnum l 6 6), .int .i64 (pnum l 12 2), .string (bs (l.drop 14))] 0 true] ++ g2)) := by rw [← hH2, ← hH1]; simp
  unfold arpV at e2
  rcases Bool.eq_false_or_eq_true (isArp (l.drop 14)) with h3 | h3
  case inr =>
    rw [h3] at e2
    unfold a0 at e2
    simp (disch := (refine id ?_; with_unfolding_all rfl)) only [bne, h2, Bool.not_true, ↓on_of e2, ↓onS, ↓kInt_int, ↓kInt_u8, ↓kBool_bool, ↓kStr_str, ↓kTup_tup, ↓kPtr_ptr, ↓kSl_sl, ↓kAgg_agg, List.getElem?_toArray, List.getElem?_cons_zero, List.getElem?_cons_succ, List.append_assoc, List.cons_append, List.nil_append, List.length_append, List.length_cons, List.length_nil, ↓ldc_L0, ↓ldc_L, ↓ldc_C0, ↓ldc_CS, ↓st_L0, ↓st_L, ↓st_CS, ↓st_C1, ↓st_CN, ↓ite_len, ↓ite_size, ldc_L0, ldc_L, ldc_C0, ldc_CS, st_L0, st_L, st_CS, st_C1, st_CN, range_all, List.set_cons_zero, List.set_cons_succ, unt_same, show ((40 : Int) == 0) = false from rfl] at e
    rw [hpre, List.append_assoc] at e
    exact ⟨_, by simp only [h1, h2, h3]; exact f _ e⟩
  rw [h3] at e2
  have rw5 : (arpOf (l.drop 14)).cs.toArray = #[.int .i64 (arpOf (l.drop 14)).op, .int .i64 (arpOf (l.drop 14)).fm, .int .i64 (arpOf (l.drop 14)).fi, .int .i64 (arpOf (l.drop 14)).tm, .int .i64 (arpOf (l.drop 14)).ti] := rfl
  simp only [rw5] at e2
  obtain ⟨g3, e3⟩ := isClaim84 (H2 ++ [.cells (arpOf (l.drop 14)).cs 0 true]) (arpOf (l.drop 14))
  simp only [rw5] at e3
  unfold Arp.cs at e3
  simp (disch := (refine id ?_; with_unfolding_all rfl)) only [bne, h2, Bool.not_true, ↓on_of e2, ↓onS, ↓kInt_int, ↓kInt_u8, ↓kBool_bool, ↓kStr_str, ↓kTup_tup, ↓kPtr_ptr, ↓kSl_sl, ↓kAgg_agg, List.getElem?_toArray, List.getElem?_cons_zero, List.getElem?_cons_succ, List.append_assoc, List.cons_append, List.nil_append, List.length_append, List.length_cons, List.length_nil, ↓ldc_L0, ↓ldc_L, ↓ldc_C0, ↓ldc_CS, ↓st_L0, ↓st_L, ↓st_CS, ↓st_C1, ↓st_CN, ↓ite_len, ↓ite_size, ldc_L0, ldc_L, ldc_C0, ldc_CS, st_L0, st_L, st_CS, st_C1, st_CN, range_all, List.set_cons_zero, List.set_cons_succ, unt_same, beq_self_eq_true] at e
  simp only [List.append_assoc] at e3
  simp (disch := (refine id ?_; with_unfolding_all rfl)) only [↓on_of e3, ↓onS, ↓kInt_int, ↓kInt_u8, ↓kBool_bool, ↓kStr_str, ↓kTup_tup, ↓kPtr_ptr, ↓kSl_sl, ↓kAgg_agg] at e
  rw [hpre] at e
  simp only [List.append_assoc] at e
  exact ⟨_, by simp only [h1, h2, h3, Bool.true_and]; exact f _ e⟩
end Go.Proofs.Yticchkdbanhjfaa
