/- JudgeAmong: packets of ARP. -/
import Derived.Test.YticchkdbanhjfaaJa2
set_option linter.unusedVariables false
set_option linter.unusedSimpArgs false
namespace Go.Proofs.Yticchkdbanhjfaa
open Go Go.RowKit Go.Proofs.Yticchkdbanhjfaa.Fw
/-- A packet. -/
structure Arp where
  op : Int
  fm : Int
  fi : Int
  tm : Int
  ti : Int
def Arp.cs (a : Arp) : List Value := [.int .i64 a.op, .int .i64 a.fm, .int .i64 a.fi, .int .i64 a.tm, .int .i64 a.ti]
def isIP (n : Int) : Bool := decide (0 ≤ n) && decide (n ≤ 4294967295)
theorem ip103 (H : Heap) (n : Int) : F103 [.int .i64 n] H = some (.bool (isIP n), H) := by
  refine FN_of 1 ((t103 1 n H).trans ?_) (Nat.le_of_ble_eq_true (by kernel_rfl))
  unfold isIP
  cases decide ((0 : Int) ≤ n) <;> rfl
theorem ip107 (H : Heap) (n : Int) : F107 [.int .i64 n] H = some (.int .i64 (match isIP n with | true => 0 | false => 1), H) := by
  have c := c107_2 0 H
  refine FN_of (0 + 1) ((t107 (0 + 1) n H).trans ?_) (Nat.le_of_ble_eq_true (by kernel_rfl))
  unfold isIP
  rw [c]
  by_cases h1 : n < 0
  · rw [decide_eq_true h1, decide_eq_false (show ¬ (0 ≤ n) by omega)]; rfl
  · rw [decide_eq_false h1, decide_eq_true (show 0 ≤ n by omega)]
    by_cases h2 : n ≤ 4294967295
    · rw [decide_eq_true h2, decide_eq_false (show ¬ (4294967295 < n) by omega)]; rfl
    · rw [decide_eq_false h2, decide_eq_true (show (4294967295 < n) by omega)]; rfl
/-- May a packet be? -/
def Arp.ok (a : Arp) : Bool := isMac a.fm && (isMac a.tm && (!grp a.fm && ((a.op == 1 || a.op == 2) && (isIP a.fi && isIP a.ti))))
theorem check93 (H : Heap) (a : Arp) : F93 [.agg a.cs.toArray] H = some (.int .i64 (match a.ok with | true => 0 | false => 40), H ++ [.cells a.cs 0 true]) := by
  have c := fun H => c93_5 0 H
  refine FN_of (0 + 1 + 1) ((t93 (0 + 1 + 1) a.op a.fm a.fi a.tm a.ti H).trans ?_) (Nat.le_of_ble_eq_true (by kernel_rfl))
  have c4 : ∀ (b : Bool) (n1 n2 : Int) (b2 : Bool), R93 (0 + 1 + 1) td93_4 [.pointer (some ⟨H.length, 0, none⟩), .bool b, .int .i64 n1, .int .i64 n2, .bool b2] (H ++ [.cells a.cs 0 true]) = some (.int .i64 (match (n1 != 0 || (n2 != 0 || (b || (!b2 || (!isIP a.fi || !isIP a.ti))))) with | true => 40 | false => 0), H ++ [.cells a.cs 0 true]) := fun b n1 n2 b2 => by
    rw [c93_4]
    unfold Arp.cs
    simp (disch := (refine id ?_; with_unfolding_all rfl)) only [↓onS, ↓kInt_int, ↓kInt_u8, ↓kBool_bool, ↓kStr_str, ↓kTup_tup, ↓kPtr_ptr, ↓kSl_sl, ↓kAgg_agg, List.getElem?_toArray, List.getElem?_cons_zero, List.getElem?_cons_succ, List.append_assoc, List.cons_append, List.nil_append, List.length_append, List.length_cons, List.length_nil, ↓ldc_L0, ↓ldc_L, ↓ldc_C0, ↓ldc_CS, ↓st_L0, ↓st_L, ↓st_CS, ↓st_C1, ↓st_CN, ↓ite_len, ↓ite_size, ldc_L0, ldc_L, ldc_C0, ldc_CS, st_L0, st_L, st_CS, st_C1, st_CN, range_all, List.set_cons_zero, List.set_cons_succ, unt_same, ↓on_of (ip103 _ _), c]
    cases n1 != 0 <;> cases n2 != 0 <;> cases b <;> cases b2 <;> cases isIP a.fi <;> cases isIP a.ti <;> rfl
  unfold Arp.cs at c4
  simp (disch := (refine id ?_; with_unfolding_all rfl)) only [↓onS, ↓kInt_int, ↓kInt_u8, ↓kBool_bool, ↓kStr_str, ↓kTup_tup, ↓kPtr_ptr, ↓kSl_sl, ↓kAgg_agg, List.getElem?_toArray, List.getElem?_cons_zero, List.getElem?_cons_succ, List.append_assoc, List.cons_append, List.nil_append, List.length_append, List.length_cons, List.length_nil, ↓ldc_L0, ↓ldc_L, ↓ldc_C0, ↓ldc_CS, ↓st_L0, ↓st_L, ↓st_CS, ↓st_C1, ↓st_CN, ↓ite_len, ↓ite_size, ldc_L0, ldc_L, ldc_C0, ldc_CS, st_L0, st_L, st_CS, st_C1, st_CN, range_all, List.set_cons_zero, List.set_cons_succ, unt_same, ↓on_of (group100 _ _), c4]
  unfold Arp.ok Arp.cs
  cases isMac a.fm <;> cases isMac a.tm <;> cases grp a.fm <;> cases a.op == 1 <;> cases a.op == 2 <;> cases isIP a.fi <;> cases isIP a.ti <;> rfl
theorem check97 (H : Heap) (a : Arp) : F97 [.agg a.cs.toArray] H = some (.int .i64 (match a.ok with | true => 0 | false => 40), H ++ [.cells a.cs 0 true]) := by
  have c := fun H => c97_3 0 H
  have c2 := fun H => c97_4 0 H
  refine FN_of (0 + 1) ((t97 (0 + 1) a.op a.fm a.fi a.tm a.ti H).trans ?_) (Nat.le_of_ble_eq_true (by kernel_rfl))
  simp (disch := (refine id ?_; with_unfolding_all rfl)) only [↓onS, ↓kInt_int, ↓kInt_u8, ↓kBool_bool, ↓kStr_str, ↓kTup_tup, ↓kPtr_ptr, ↓kSl_sl, ↓kAgg_agg, List.getElem?_toArray, List.getElem?_cons_zero, List.getElem?_cons_succ, List.append_assoc, List.cons_append, List.nil_append, List.length_append, List.length_cons, List.length_nil, ↓ldc_L0, ↓ldc_L, ↓ldc_C0, ↓ldc_CS, ↓st_L0, ↓st_L, ↓st_CS, ↓st_C1, ↓st_CN, ↓ite_len, ↓ite_size, ldc_L0, ldc_L, ldc_C0, ldc_CS, st_L0, st_L, st_CS, st_C1, st_CN, range_all, List.set_cons_zero, List.set_cons_succ, unt_same, ↓on_of (group106 _ _), ↓on_of (mac104 _ _), ↓on_of (ip107 _ _), c, c2]
  unfold Arp.ok Arp.cs
  simp only [bne]
  cases isMac a.fm <;> cases isMac a.tm <;> cases grp a.fm <;> cases a.op == 1 <;> cases a.op == 2 <;> cases isIP a.fi <;> cases isIP a.ti <;> rfl

def a0 : List Value := [.int .i64 0, .int .i64 0, .int .i64 0, .int .i64 0, .int .i64 0]
theorem made92 (H : Heap) (a : Arp) : ∃ g, F92 [.agg a.cs.toArray] H = some ((match a.ok with | true => .tuple #[.agg a.cs.toArray, .int .i64 0] | false => .tuple #[.agg a0.toArray, .int .i64 40]), H ++ g) := by
  have f : ∀ r, fnE Try.prog G92 Try.f92 cuts92 1 [.agg a.cs.toArray] H = some r → F92 [.agg a.cs.toArray] H = some r := fun r h => FN_of 1 h (Nat.le_of_ble_eq_true (by kernel_rfl))
  have e := t92 1 a.op a.fm a.fi a.tm a.ti H
  have c := fun H => check93 H a
  unfold Arp.cs at c
  simp (disch := (refine id ?_; with_unfolding_all rfl)) only [↓onS, ↓kInt_int, ↓kInt_u8, ↓kBool_bool, ↓kStr_str, ↓kTup_tup, ↓kPtr_ptr, ↓kSl_sl, ↓kAgg_agg, List.getElem?_toArray, List.getElem?_cons_zero, List.getElem?_cons_succ, List.append_assoc, List.cons_append, List.nil_append, List.length_append, List.length_cons, List.length_nil, ↓ldc_L0, ↓ldc_L, ↓ldc_C0, ↓ldc_CS, ↓st_L0, ↓st_L, ↓st_CS, ↓st_C1, ↓st_CN, ↓ite_len, ↓ite_size, ldc_L0, ldc_L, ldc_C0, ldc_CS, st_L0, st_L, st_CS, st_C1, st_CN, range_all, List.set_cons_zero, List.set_cons_succ, unt_same, ↓on_of (c _)] at e
  rcases Bool.eq_false_or_eq_true a.ok with h2 | h2
  · simp (disch := (refine id ?_; with_unfolding_all rfl)) only [h2, bne_self_eq_false, ↓onS, ↓kInt_int, ↓kInt_u8, ↓kBool_bool, ↓kStr_str, ↓kTup_tup, ↓kPtr_ptr, ↓kSl_sl, ↓kAgg_agg, List.getElem?_toArray, List.getElem?_cons_zero, List.getElem?_cons_succ, List.append_assoc, List.cons_append, List.nil_append, List.length_append, List.length_cons, List.length_nil, ↓ldc_L0, ↓ldc_L, ↓ldc_C0, ↓ldc_CS, ↓st_L0, ↓st_L, ↓st_CS, ↓st_C1, ↓st_CN, ↓ite_len, ↓ite_size, ldc_L0, ldc_L, ldc_C0, ldc_CS, st_L0, st_L, st_CS, st_C1, st_CN, range_all, List.set_cons_zero, List.set_cons_succ, unt_same] at e
    exact ⟨_, by simp only [h2]; exact f _ e⟩
  · simp (disch := (refine id ?_; with_unfolding_all rfl)) only [h2, show ((40 : Int) != 0) = true from rfl, ↓onS, ↓kInt_int, ↓kInt_u8, ↓kBool_bool, ↓kStr_str, ↓kTup_tup, ↓kPtr_ptr, ↓kSl_sl, ↓kAgg_agg, List.getElem?_toArray, List.getElem?_cons_zero, List.getElem?_cons_succ, List.append_assoc, List.cons_append, List.nil_append, List.length_append, List.length_cons, List.length_nil, ↓ldc_L0, ↓ldc_L, ↓ldc_C0, ↓ldc_CS, ↓st_L0, ↓st_L, ↓st_CS, ↓st_C1, ↓st_CN, ↓ite_len, ↓ite_size, ldc_L0, ldc_L, ldc_C0, ldc_CS, st_L0, st_L, st_CS, st_C1, st_CN, range_all, List.set_cons_zero, List.set_cons_succ, unt_same] at e
    exact ⟨_, by simp only [h2]; exact f _ e⟩

/-- A packet of bytes. -/
def arpOf (l : List UInt8) : Arp := ⟨pnum l 6 2, pnum l 8 6, pnum l 14 4, pnum l 18 6, pnum l 24 4⟩
def headL : List UInt8 := [0, 1, 8, 0, 6, 4]
def isArp (l : List UInt8) : Bool := !decide ((l.length : Int) < 28) && (!decide (46 < (l.length : Int)) && (part l 0 6 == headL && (arpOf l).ok))
def arpV (l : List UInt8) : Value := match isArp l with
  | true => .tuple #[.agg (arpOf l).cs.toArray, .int .i64 0]
  | false => .tuple #[.agg a0.toArray, .int .i64 40]
theorem prefix90 (H : Heap) (a b : List UInt8) (h : b.length ≤ a.length) : F90 [.string (bs a), .string (bs b)] H = some (.bool (part a 0 b.length == b), H) := by
  have e : F102 [.string (bs a), .string (bs b)] H = some (.bool (part a 0 b.length == b), H) := by
    refine FN_of 1 ((t102 1 (bs a) (bs b) H).trans ?_) (Nat.le_of_ble_eq_true (by kernel_rfl))
    have s := fun k : Value → R => slStr_bs (l := a) (x := 0) (y := (b.length : Int)) (i := 0) (j := b.length) rfl rfl (by omega) h k
    simp only [bs_size, show decide ((b.length : Int) ≤ (a.length : Int)) = true from decide_eq_true (by omega), s, ↓onS, ↓kInt_int, ↓kInt_u8, ↓kBool_bool, ↓kStr_str, ↓kTup_tup, ↓kPtr_ptr, ↓kSl_sl, ↓kAgg_agg, bs_list]
    rfl
  refine FN_of 1 ((t90 1 (bs a) (bs b) H).trans ?_) (Nat.le_of_ble_eq_true (by kernel_rfl))
  simp only [↓on_of e, ↓onS, ↓kInt_int, ↓kInt_u8, ↓kBool_bool, ↓kStr_str, ↓kTup_tup, ↓kPtr_ptr, ↓kSl_sl, ↓kAgg_agg]
theorem dec80_2 (m : Nat) (H : Heap) : ∃ g, R80 (m + 1) td80_2 [.pointer (some ⟨H.length, 0, none⟩)] (H ++ [.cells a0 0 true]) = some (.tuple #[.agg a0.toArray, .int .i64 40], H ++ g) := by
  have e := c80_2 m (some ⟨H.length, 0, none⟩) (H ++ [.cells a0 0 true])
  unfold a0 at *
  simp (disch := (refine id ?_; with_unfolding_all rfl)) only [↓onS, ↓kInt_int, ↓kInt_u8, ↓kBool_bool, ↓kStr_str, ↓kTup_tup, ↓kPtr_ptr, ↓kSl_sl, ↓kAgg_agg, List.getElem?_toArray, List.getElem?_cons_zero, List.getElem?_cons_succ, List.append_assoc, List.cons_append, List.nil_append, List.length_append, List.length_cons, List.length_nil, ↓ldc_L0, ↓ldc_L, ↓ldc_C0, ↓ldc_CS, ↓st_L0, ↓st_L, ↓st_CS, ↓st_C1, ↓st_CN, ↓ite_len, ↓ite_size, ldc_L0, ldc_L, ldc_C0, ldc_CS, st_L0, st_L, st_CS, st_C1, st_CN, range_all, List.set_cons_zero, List.set_cons_succ, unt_same] at e
  exact ⟨_, e⟩
theorem dec83_2 (m : Nat) (H : Heap) : ∃ g, R83 (m + 1) td83_2 [.pointer (some ⟨H.length, 0, none⟩)] (H ++ [.cells a0 0 true]) = some (.tuple #[.agg a0.toArray, .int .i64 40], H ++ g) := by
  have e := c83_2 m (some ⟨H.length, 0, none⟩) (H ++ [.cells a0 0 true])
  unfold a0 at *
  simp (disch := (refine id ?_; with_unfolding_all rfl)) only [↓onS, ↓kInt_int, ↓kInt_u8, ↓kBool_bool, ↓kStr_str, ↓kTup_tup, ↓kPtr_ptr, ↓kSl_sl, ↓kAgg_agg, List.getElem?_toArray, List.getElem?_cons_zero, List.getElem?_cons_succ, List.append_assoc, List.cons_append, List.nil_append, List.length_append, List.length_cons, List.length_nil, ↓ldc_L0, ↓ldc_L, ↓ldc_C0, ↓ldc_CS, ↓st_L0, ↓st_L, ↓st_CS, ↓st_C1, ↓st_CN, ↓ite_len, ↓ite_size, ldc_L0, ldc_L, ldc_C0, ldc_CS, st_L0, st_L, st_CS, st_C1, st_CN, range_all, List.set_cons_zero, List.set_cons_succ, unt_same] at e
  exact ⟨_, e⟩
theorem bs_nil6 : (⟨#[0, 1, 8, 0, 6, 4]⟩ : ByteArray) = bs headL := rfl
theorem dec83 (H : Heap) (l : List UInt8) (hl : l.length ≤ 9223372036854775807) : ∃ g, F83 [.string (bs l)] H = some (arpV l, H ++ g) := by
  have f : ∀ m r, fnE Try.prog G83 Try.f83 cuts83 m [.string (bs l)] H = some r → F83 [.string (bs l)] H = some r := fun m r h => FN_of m h (Nat.le_of_ble_eq_true (by kernel_rfl))
  obtain ⟨m, hm⟩ : ∃ m : Nat, m = 0 := ⟨0, rfl⟩
  have e := t83 (m + 1) (bs l) H
  obtain ⟨g2, e2⟩ := dec83_2 m H
  have e96 : ∀ H, F96 [] H = some (.string (bs headL), H) := fun H => FN_of 1 ((t96 1 H).trans rfl) (Nat.le_of_ble_eq_true (by kernel_rfl))
  unfold arpV isArp
  unfold a0 at e2
  simp (disch := (refine id ?_; with_unfolding_all rfl)) only [bs_size, ↓onS, ↓kInt_int, ↓kInt_u8, ↓kBool_bool, ↓kStr_str, ↓kTup_tup, ↓kPtr_ptr, ↓kSl_sl, ↓kAgg_agg, List.getElem?_toArray, List.getElem?_cons_zero, List.getElem?_cons_succ, List.append_assoc, List.cons_append, List.nil_append, List.length_append, List.length_cons, List.length_nil] at e
  rcases Bool.eq_false_or_eq_true (decide ((l.length : Int) < 28)) with h1 | h1
  · simp only [h1] at e
    exact ⟨_, by simp only [h1]; exact f _ _ (e.trans e2)⟩
  rcases Bool.eq_false_or_eq_true (decide ((46 : Int) < (l.length : Int))) with h3 | h3
  · simp only [h1, h3] at e
    exact ⟨_, by simp only [h1, h3]; exact f _ _ (e.trans e2)⟩
  have hlen : 28 ≤ l.length := by have := of_decide_eq_false h1; omega
  have s0 : ∀ k : Value → R, slStr (bs l) (0 : Int) (6 : Int) k = k (.string (bs (part l 0 6))) := fun k => slStr_bs (i := 0) (j := 6) rfl rfl (by omega) (by omega) k
  have s1 : ∀ k : Value → R, slStr (bs l) (6 : Int) (8 : Int) k = k (.string (bs (part l 6 2))) := fun k => slStr_bs (i := 6) (j := 8) rfl rfl (by omega) (by omega) k
  have s2 : ∀ k : Value → R, slStr (bs l) (8 : Int) (14 : Int) k = k (.string (bs (part l 8 6))) := fun k => slStr_bs (i := 8) (j := 14) rfl rfl (by omega) (by omega) k
  have s3 : ∀ k : Value → R, slStr (bs l) (14 : Int) (18 : Int) k = k (.string (bs (part l 14 4))) := fun k => slStr_bs (i := 14) (j := 18) rfl rfl (by omega) (by omega) k
  have s4 : ∀ k : Value → R, slStr (bs l) (18 : Int) (24 : Int) k = k (.string (bs (part l 18 6))) := fun k => slStr_bs (i := 18) (j := 24) rfl rfl (by omega) (by omega) k
  have s5 : ∀ k : Value → R, slStr (bs l) (24 : Int) (28 : Int) k = k (.string (bs (part l 24 4))) := fun k => slStr_bs (i := 24) (j := 28) rfl rfl (by omega) (by omega) k
  have pl : ∀ i n, (part l i n).length ≤ n := fun i n => by unfold part; rw [List.length_take]; omega
  have g1 := fun H => num94 H (part l 6 2) (by have := pl 6 2; omega)
  have g2' := fun H => num94 H (part l 8 6) (by have := pl 8 6; omega)
  have g3 := fun H => num94 H (part l 14 4) (by have := pl 14 4; omega)
  have g4 := fun H => num94 H (part l 18 6) (by have := pl 18 6; omega)
  have g5 := fun H => num94 H (part l 24 4) (by have := pl 24 4; omega)
  simp (disch := (refine id ?_; with_unfolding_all rfl)) only [h1, h3, s0, ↓onS, ↓kInt_int, ↓kInt_u8, ↓kBool_bool, ↓kStr_str, ↓kTup_tup, ↓kPtr_ptr, ↓kSl_sl, ↓kAgg_agg, ↓on_of (e96 _), bs_list] at e
  rcases Bool.eq_false_or_eq_true (part l 0 6 == headL) with h4 | h4
  case inr =>
    simp only [h4, Bool.not_false] at e
    exact ⟨_, by simp only [h1, h3, h4]; exact f _ _ (e.trans e2)⟩
  have c := fun H => check97 H (arpOf l)
  unfold Arp.cs at c
  have ea : arpOf l = ⟨numL (part l 6 2), numL (part l 8 6), numL (part l 14 4), numL (part l 18 6), numL (part l 24 4)⟩ := rfl
  have ok : (arpOf l).ok = Arp.ok ⟨numL (part l 6 2), numL (part l 8 6), numL (part l 14 4), numL (part l 18 6), numL (part l 24 4)⟩ := rfl
  rw [ea] at c
  simp (disch := (refine id ?_; with_unfolding_all rfl)) only [h4, Bool.not_true, s1, s2, s3, s4, s5, ↓onS, ↓kInt_int, ↓kInt_u8, ↓kBool_bool, ↓kStr_str, ↓kTup_tup, ↓kPtr_ptr, ↓kSl_sl, ↓kAgg_agg, List.getElem?_toArray, List.getElem?_cons_zero, List.getElem?_cons_succ, List.append_assoc, List.cons_append, List.nil_append, List.length_append, List.length_cons, List.length_nil, ↓ldc_L0, ↓ldc_L, ↓ldc_C0, ↓ldc_CS, ↓st_L0, ↓st_L, ↓st_CS, ↓st_C1, ↓st_CN, ↓ite_len, ↓ite_size, ldc_L0, ldc_L, ldc_C0, ldc_CS, st_L0, st_L, st_CS, st_C1, st_CN, range_all, List.set_cons_zero, List.set_cons_succ, unt_same, ↓on_of (g1 _), ↓on_of (g2' _), ↓on_of (g3 _), ↓on_of (g4 _), ↓on_of (g5 _), ↓on_of (c _)] at e
  rcases Bool.eq_false_or_eq_true (arpOf l).ok with h5 | h5
  · rw [ok] at h5
    simp (disch := (refine id ?_; with_unfolding_all rfl)) only [h5, bne_self_eq_false, ↓onS, ↓kInt_int, ↓kInt_u8, ↓kBool_bool, ↓kStr_str, ↓kTup_tup, ↓kPtr_ptr, ↓kSl_sl, ↓kAgg_agg, List.getElem?_toArray, List.getElem?_cons_zero, List.getElem?_cons_succ, List.append_assoc, List.cons_append, List.nil_append, List.length_append, List.length_cons, List.length_nil, ↓ldc_L0, ↓ldc_L, ↓ldc_C0, ↓ldc_CS, ↓st_L0, ↓st_L, ↓st_CS, ↓st_C1, ↓st_CN, ↓ite_len, ↓ite_size, ldc_L0, ldc_L, ldc_C0, ldc_CS, st_L0, st_L, st_CS, st_C1, st_CN, range_all, List.set_cons_zero, List.set_cons_succ, unt_same] at e
    exact ⟨_, by simp only [h1, h3, h4, ok, h5]; exact f _ _ e⟩
  · rw [ok] at h5
    simp (disch := (refine id ?_; with_unfolding_all rfl)) only [h5, show ((40 : Int) != 0) = true from rfl, ↓onS, ↓kInt_int, ↓kInt_u8, ↓kBool_bool, ↓kStr_str, ↓kTup_tup, ↓kPtr_ptr, ↓kSl_sl, ↓kAgg_agg, List.getElem?_toArray, List.getElem?_cons_zero, List.getElem?_cons_succ, List.append_assoc, List.cons_append, List.nil_append, List.length_append, List.length_cons, List.length_nil, ↓ldc_L0, ↓ldc_L, ↓ldc_C0, ↓ldc_CS, ↓st_L0, ↓st_L, ↓st_CS, ↓st_C1, ↓st_CN, ↓ite_len, ↓ite_size, ldc_L0, ldc_L, ldc_C0, ldc_CS, st_L0, st_L, st_CS, st_C1, st_CN, range_all, List.set_cons_zero, List.set_cons_succ, unt_same] at e
    exact ⟨_, by simp only [h1, h3, h4, ok, h5]; exact f _ _ e⟩
end Go.Proofs.Yticchkdbanhjfaa
