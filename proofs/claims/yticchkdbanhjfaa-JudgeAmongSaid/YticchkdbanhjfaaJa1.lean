/- JudgeAmong: numbers of bytes, frames and packets, as the program and the document decode them. -/
import Derived.Test.YticchkdbanhjfaaFwS
import Derived.Test.YticchkdbanhjfaaT2
set_option linter.unusedVariables false
set_option linter.unusedSimpArgs false
namespace Go.Proofs.Yticchkdbanhjfaa
open Go Go.RowKit Go.Proofs.Yticchkdbanhjfaa.Fw

/-! ### sum.Get, Num -/
theorem get_loop (H0 : Heap) (l : List UInt8) (hl : l.length ≤ 6) : ∀ (d i : Nat), i + d = l.length → ∃ m, R87 m td87_100005 [.int .i64 (numL (l.take i) : Int), .slice (some ⟨H0.length, 0, none⟩) l.length unk, .int .i64 (l.length : Int), .int .i64 (i : Int)] (H0 ++ [.cells (bc l) 1 true]) = some (.tuple #[.int .i64 (numL l : Int), .int .i64 0], H0 ++ [.cells (bc l) 1 true]) := by
  intro d
  induction d with
  | zero =>
    intro i hi
    have : i = l.length := by omega
    subst this
    refine ⟨1, ?_⟩
    rw [c87_100005, List.take_length]
    simp only [show decide ((l.length : Int) < (l.length : Int)) = false from decide_eq_false (by omega)]
  | succ d ih =>
    intro i hi
    obtain ⟨m, hm⟩ := ih (i + 1) (by omega)
    refine ⟨m + 1, ?_⟩
    have hlt : i < l.length := by omega
    have hb : l[i]? = some l[i] := by simp [hlt]
    have e : (bc l)[(⟨H0.length, 0, none⟩ : Addr).off + i * 1]? = some (.int .u8 l[i].toNat) := by
      rw [show (⟨H0.length, 0, none⟩ : Addr).off + i * 1 = i by show 0 + i * 1 = i; omega, bc_get, hb]; rfl
    have hn := numL_lt (l.take i)
    rw [List.length_take, Nat.min_eq_left (by omega)] at hn
    have hp := pow256 (i := i) (by omega)
    rw [c87_100005]
    simp only [show decide ((i : Int) < (l.length : Int)) = true from decide_eq_true (by omega), ↓onS, ↓kInt_int, ↓kInt_u8, ↓kBool_bool, ↓kStr_str, ↓kTup_tup, ↓kPtr_ptr, ↓kSl_sl, ↓kAgg_agg]
    rw [if_pos ⟨by omega, by omega⟩, add_block, add_off, Int.toNat_natCast, ldc_new, on_of e]
    simp only [↓onS, ↓kInt_int, ↓kInt_u8, ↓kBool_bool, ↓kStr_str, ↓kTup_tup, ↓kPtr_ptr, ↓kSl_sl, ↓kAgg_agg]
    rw [if_neg (by decide), or_byte (by omega), wrap_succ (by omega), ← numL_take hb]
    exact hm

theorem get87 (H : Heap) (l : List UInt8) (off n : Nat) (hn : 1 ≤ n ∧ n ≤ 6) (ho : off + n ≤ l.length) (hl : l.length ≤ 9223372036854775807) : F87 [.string (bs l), .int .i64 (off : Int), .int .i64 (n : Int)] H = some (.tuple #[.int .i64 (numL ((l.drop off).take n) : Int), .int .i64 0], H ++ [.cells (bc ((l.drop off).take n)) 1 true]) := by
  have ll : ((l.drop off).take n).length = n := by rw [List.length_take, List.length_drop]; omega
  obtain ⟨m, hm⟩ := get_loop H ((l.drop off).take n) (by omega) n 0 (by omega)
  refine FN_of m ?_ (Nat.le_of_ble_eq_true (by kernel_rfl))
  rw [t87]
  have w1 : IntKind.i64.wrap (((bs l).size : Int) - (n : Int)) = ((l.length - n : Nat) : Int) := by rw [bs_size, wrap_in ⟨by omega, by omega⟩]; omega
  have w2 : IntKind.i64.wrap ((off : Int) + (n : Int)) = ((off + n : Nat) : Int) := by rw [wrap_in ⟨by omega, by omega⟩]; omega
  rw [w1, w2, decide_eq_false (by omega), decide_eq_false (by omega), decide_eq_false (by omega), decide_eq_false (by omega)]
  simp only []
  rw [slStr_bs rfl rfl (by omega) (by omega)]
  simp only [↓onS, ↓kInt_int, ↓kInt_u8, ↓kBool_bool, ↓kStr_str, ↓kTup_tup, ↓kPtr_ptr, ↓kSl_sl, ↓kAgg_agg, bs_size, bs_data, Nat.add_sub_cancel_left]
  rw [if_pos (by rw [ll]; omega), ll] at *
  exact hm

theorem num94 (H : Heap) (l : List UInt8) (hl : l.length ≤ 6) : F94 [.string (bs l)] H = some (.int .i64 (numL l : Int), H) := by
  have loop : ∀ (d i : Nat), i + d = l.length → ∃ m, R94 m td94_100003 [.string (bs l), .int .i64 (numL (l.take i) : Int), .int .i64 (i : Int)] H = some (.int .i64 (numL l : Int), H) := by
    intro d
    induction d with
    | zero =>
      intro i hi
      have : i = l.length := by omega
      subst this
      refine ⟨1, ?_⟩
      rw [c94_100003, List.take_length, bs_size]
      simp only [show decide ((l.length : Int) < (l.length : Int)) = false from decide_eq_false (by omega)]
    | succ d ih =>
      intro i hi
      obtain ⟨m, hm⟩ := ih (i + 1) (by omega)
      refine ⟨m + 1, ?_⟩
      have hlt : i < l.length := by omega
      have hb : l[i]? = some l[i] := by simp [hlt]
      have hn := numL_lt (l.take i)
      rw [List.length_take, Nat.min_eq_left (by omega)] at hn
      have hp := pow256 (i := i) (by omega)
      rw [c94_100003, bs_size]
      simp only [show decide ((i : Int) < (l.length : Int)) = true from decide_eq_true (by omega), ↓onS, ↓kInt_int, ↓kInt_u8, ↓kBool_bool, ↓kStr_str, ↓kTup_tup, ↓kPtr_ptr, ↓kSl_sl, ↓kAgg_agg]
      rw [if_pos ⟨by omega, by omega⟩, Int.toNat_natCast, byteAt_bs hb, mul_byte (by omega), wrap_succ (by omega), ← numL_take hb]
      exact hm
  obtain ⟨m, hm⟩ := loop l.length 0 (by omega)
  exact FN_of m ((t94 m (bs l) H).trans hm) (Nat.le_of_ble_eq_true (by kernel_rfl))

/-! ### ether -/
def isMac (n : Int) : Bool := decide (0 ≤ n) && decide (n ≤ 281474976710655)
def grp (n : Int) : Bool := (n / 1099511627776) % 2 == 1
theorem mac101 (H : Heap) (n : Int) : F101 [.int .i64 n] H = some (.bool (isMac n), H) := by
  refine FN_of 1 ((t101 1 n H).trans ?_) (Nat.le_of_ble_eq_true (by kernel_rfl))
  unfold isMac
  cases decide ((0 : Int) ≤ n) <;> rfl
theorem mac104 (H : Heap) (n : Int) : F104 [.int .i64 n] H = some (.bool (isMac n), H) := by
  refine FN_of 1 ((t104 1 n H).trans ?_) (Nat.le_of_ble_eq_true (by kernel_rfl))
  unfold isMac
  cases decide ((0 : Int) ≤ n) <;> rfl
theorem and_pow (a i : Nat) : a &&& 2 ^ i = (a.testBit i).toNat * 2 ^ i := by
  apply Nat.eq_of_testBit_eq
  intro j
  rw [Nat.testBit_and, Nat.testBit_two_pow]
  by_cases e : i = j
  · subst e
    cases h : a.testBit i <;> simp
  · cases h : a.testBit i <;> simp [Nat.testBit_two_pow, e]
theorem grp_and {n : Int} (h : isMac n = true) : decide ((0 : Int) < bits .and .i64 n 1099511627776) = grp n := by
  unfold isMac at h
  simp only [Bool.and_eq_true, decide_eq_true_eq] at h
  obtain ⟨a, rfl⟩ := Int.eq_ofNat_of_zero_le h.1
  have ha : a < 2 ^ 62 := by have : (2 : Nat) ^ 62 = 4611686018427387904 := (by decide); omega
  have e := (bits_nat .i64 62 (by decide) (fun n h0 h1 => wrap_in ⟨by omega, by have : (2 : Int) ^ 62 = 4611686018427387904 := (by decide); omega⟩) a 1099511627776 ha (by decide)).1
  have e2 : a &&& 1099511627776 = (a.testBit 40).toNat * 1099511627776 := and_pow a 40
  show decide ((0 : Int) < bits .and .i64 (a : Int) ((1099511627776 : Nat) : Int)) = _
  rw [e, e2, Nat.testBit_eq_decide_div_mod_eq]
  unfold grp
  have e3 : (2 : Nat) ^ 40 = 1099511627776 := by decide
  rw [e3]
  have e4 : ((a : Int) / 1099511627776 % 2 == 1) = decide (a / 1099511627776 % 2 = 1) := by
    rw [Bool.eq_iff_iff]; simp only [beq_iff_eq, decide_eq_true_eq]; omega
  rw [e4]
  cases hd : decide (a / 1099511627776 % 2 = 1) <;> rfl
theorem grp105 (H : Heap) (n : Int) (h0 : 0 ≤ n) : F105 [.int .i64 n] H = some (.bool (grp n), H) := by
  refine FN_of 1 ((t105 1 n H).trans ?_) (Nat.le_of_ble_eq_true (by kernel_rfl))
  rw [if_neg (by decide), if_neg (by decide)]
  have e : (2 : Int) ^ (min (40 : Int).toNat IntKind.i64.bits) = 1099511627776 := rfl
  rw [e]
  unfold grp
  have : (n / 1099511627776).tmod 2 = n / 1099511627776 % 2 := Int.tmod_eq_emod_of_nonneg (by omega)
  rw [this]
theorem group100 (H : Heap) (n : Int) : F100 [.int .i64 n] H = some (.tuple #[.bool (isMac n && grp n), .int .i64 (match isMac n with | true => 0 | false => 1)], H) := by
  refine FN_of 1 ((t100 1 n H).trans ?_) (Nat.le_of_ble_eq_true (by kernel_rfl))
  simp only [on_of (mac101 H n), ↓onS, ↓kInt_int, ↓kInt_u8, ↓kBool_bool, ↓kStr_str, ↓kTup_tup, ↓kPtr_ptr, ↓kSl_sl, ↓kAgg_agg]
  rcases Bool.eq_false_or_eq_true (isMac n) with h | h
  · simp only [h, Bool.not_true, grp_and h, Bool.true_and]
  · simp only [h, Bool.not_false, Bool.false_and]
theorem group106 (H : Heap) (n : Int) : F106 [.int .i64 n] H = some (.tuple #[.bool (isMac n && grp n), .int .i64 (match isMac n with | true => 0 | false => 1)], H) := by
  refine FN_of 1 ((t106 1 n H).trans ?_) (Nat.le_of_ble_eq_true (by kernel_rfl))
  simp only [on_of (mac104 H n), ↓onS, ↓kInt_int, ↓kInt_u8, ↓kBool_bool, ↓kStr_str, ↓kTup_tup, ↓kPtr_ptr, ↓kSl_sl, ↓kAgg_agg]
  rcases Bool.eq_false_or_eq_true (isMac n) with h | h
  · have h0 : 0 ≤ n := by unfold isMac at h; simp only [Bool.and_eq_true, decide_eq_true_eq] at h; exact h.1
    simp only [h, Bool.not_true, on_of (grp105 H n h0), ↓onS, ↓kInt_int, ↓kInt_u8, ↓kBool_bool, ↓kStr_str, ↓kTup_tup, ↓kPtr_ptr, ↓kSl_sl, ↓kAgg_agg, Bool.true_and]
  · simp only [h, Bool.not_false, Bool.false_and]

/-- May a frame be? -/
def frameOk (to_ from_ ty : Int) (n : Nat) : Bool := isMac from_ && (!grp from_ && (isMac to_ && (!decide (ty < 1536) && (!decide (65535 < ty) && !decide ((1500 : Int) < (n : Int))))))
theorem check89 (H : Heap) (t f y : Int) (d : List UInt8) : F89 [.agg #[.int .i64 t, .int .i64 f, .int .i64 y, .string (bs d)]] H = some (.int .i64 (match frameOk t f y d.length with | true => 0 | false => 30), H ++ [.cells [.int .i64 t, .int .i64 f, .int .i64 y, .string (bs d)] 0 true]) := by
  have c := fun H => c89_3 0 H
  refine FN_of (0 + 1) ((t89 (0 + 1) t f y (bs d) H).trans ?_) (Nat.le_of_ble_eq_true (by kernel_rfl))
  simp (disch := rfl) only [↓onS, ↓kInt_int, ↓kInt_u8, ↓kBool_bool, ↓kStr_str, ↓kTup_tup, ↓kPtr_ptr, ↓kSl_sl, ↓kAgg_agg, List.getElem?_toArray, List.getElem?_cons_zero, List.getElem?_cons_succ, List.append_assoc, List.cons_append, List.nil_append, List.length_append, List.length_cons, List.length_nil, ldc_L0, ldc_L, ldc_C0, ldc_CS, st_L0, st_L, st_CS, st_C1, st_CN, ite_len, ite_size, range_all, List.set_cons_zero, List.set_cons_succ, unt_same, ↓on_of (group100 _ _), ↓on_of (mac101 _ _), bs_size]
  unfold frameOk
  rcases Bool.eq_false_or_eq_true (isMac f) with h1 | h1
  · rcases Bool.eq_false_or_eq_true (grp f) with h2 | h2
    · simp only [h1, h2, c]; rfl
    · simp only [h1, h2, c]
      cases isMac t <;> cases decide (y < 1536) <;> cases decide (65535 < y) <;> cases decide ((1500 : Int) < (d.length : Int)) <;> rfl
  · simp only [h1, c]; rfl
theorem check95 (H : Heap) (t f y : Int) (d : List UInt8) : F95 [.agg #[.int .i64 t, .int .i64 f, .int .i64 y, .string (bs d)]] H = some (.int .i64 (match frameOk t f y d.length with | true => 0 | false => 30), H ++ [.cells [.int .i64 t, .int .i64 f, .int .i64 y, .string (bs d)] 0 true]) := by
  have c := fun H => c95_2 0 H
  refine FN_of (0 + 1) ((t95 (0 + 1) t f y (bs d) H).trans ?_) (Nat.le_of_ble_eq_true (by kernel_rfl))
  simp (disch := rfl) only [↓onS, ↓kInt_int, ↓kInt_u8, ↓kBool_bool, ↓kStr_str, ↓kTup_tup, ↓kPtr_ptr, ↓kSl_sl, ↓kAgg_agg, List.getElem?_toArray, List.getElem?_cons_zero, List.getElem?_cons_succ, List.append_assoc, List.cons_append, List.nil_append, List.length_append, List.length_cons, List.length_nil, ldc_L0, ldc_L, ldc_C0, ldc_CS, st_L0, st_L, st_CS, st_C1, st_CN, ite_len, ite_size, range_all, List.set_cons_zero, List.set_cons_succ, unt_same, ↓on_of (mac104 _ _), bs_size]
  unfold frameOk
  rcases Bool.eq_false_or_eq_true (isMac f) with h1 | h1
  · have h0 : 0 ≤ f := by unfold isMac at h1; simp only [Bool.and_eq_true, decide_eq_true_eq] at h1; exact h1.1
    simp (disch := rfl) only [h1, c, ↓onS, ↓kInt_int, ↓kInt_u8, ↓kBool_bool, ↓kStr_str, ↓kTup_tup, ↓kPtr_ptr, ↓kSl_sl, ↓kAgg_agg, List.getElem?_toArray, List.getElem?_cons_zero, List.getElem?_cons_succ, List.append_assoc, List.cons_append, List.nil_append, List.length_append, List.length_cons, List.length_nil, ldc_L0, ldc_L, ldc_C0, ldc_CS, st_L0, st_L, st_CS, st_C1, st_CN, ite_len, ite_size, range_all, List.set_cons_zero, List.set_cons_succ, unt_same, ↓on_of (grp105 _ f h0), bs_size]
    cases isMac t <;> cases grp f <;> cases decide (y < 1536) <;> cases decide (65535 < y) <;> cases decide ((1500 : Int) < (d.length : Int)) <;> rfl
  · simp only [h1, c]
    cases isMac t <;> rfl
end Go.Proofs.Yticchkdbanhjfaa
