/- EventLogs: events, may they be, and their bytes. -/
import Derived.Test.YticchkdbanhjfaaFwS
import Derived.Test.YticchkdbanhjfaaT6
set_option linter.unusedVariables false
set_option linter.unusedSimpArgs false
namespace Go.Proofs.Yticchkdbanhjfaa
open Go Go.RowKit Go.Proofs.Yticchkdbanhjfaa.Fw
/-- An event. -/
structure Ev where
  k : Int
  n : Int
  s : List UInt8
def Ev.cs (e : Ev) : List Value := [.int .i64 e.k, .int .i64 e.n, .string (bs e.s)]
def okT (e : Ev) : Bool := (e.k == 1 && decide ((e.s.length : Int) ≤ 1514)) || (e.k == 2 && e.s == [])
def ok (e : Ev) : Bool := !decide (e.n < 0) && (!decide (1099511627776 < e.n) && okT e)
theorem bs_nil : (⟨#[]⟩ : ByteArray) = bs [] := by simp [bs]
theorem chk47 (H : Heap) (e : Ev) : F47 [.agg e.cs.toArray] H = some (.int .i64 (match ok e with | true => 0 | false => 230), H ++ [.cells e.cs 0 true]) := by
  obtain ⟨m, hm⟩ : ∃ m : Nat, m = 0 := ⟨0, rfl⟩
  have c2 := fun H => c47_2 (m + 1) H
  have c5 := fun H => c47_5 m H
  have c6 := fun H => c47_6 m H
  have c5' := fun H => c47_5 (m + 1) H
  have c6' := fun H => c47_6 (m + 1) H
  have c4 : R47 (m + 1 + 1) td47_4 [.pointer (some ⟨H.length, 0, none⟩)] (H ++ [.cells e.cs 0 true]) = some (.int .i64 (match (e.k == 2 && e.s == []) with | true => 0 | false => 230), H ++ [.cells e.cs 0 true]) := by
    rw [c47_4]
    unfold Ev.cs
    simp (disch := (refine id ?_; with_unfolding_all rfl)) only [↓onS, ↓kInt_int, ↓kInt_u8, ↓kBool_bool, ↓kStr_str, ↓kTup_tup, ↓kPtr_ptr, ↓kSl_sl, ↓kAgg_agg, List.getElem?_toArray, List.getElem?_cons_zero, List.getElem?_cons_succ, List.append_assoc, List.cons_append, List.nil_append, List.length_append, List.length_cons, List.length_nil, ↓ldc_L0, ↓ldc_L, ↓ldc_C0, ↓ldc_CS, ↓st_L0, ↓st_L, ↓st_CS, ↓st_C1, ↓st_CN, ↓ite_len, ↓ite_size, ldc_L0, ldc_L, ldc_C0, ldc_CS, st_L0, st_L, st_CS, st_C1, st_CN, range_all, List.set_cons_zero, List.set_cons_succ, unt_same, bs_nil, bs_list, c5, c6]
    cases e.k == 2 <;> cases e.s == [] <;> rfl
  refine FN_of (m + 1 + 1) ((t47 (m + 1 + 1) e.k e.n (bs e.s) H).trans ?_) (by subst hm; exact (Nat.le_of_ble_eq_true (by kernel_rfl)))
  unfold Ev.cs at c4
  simp (disch := (refine id ?_; with_unfolding_all rfl)) only [↓onS, ↓kInt_int, ↓kInt_u8, ↓kBool_bool, ↓kStr_str, ↓kTup_tup, ↓kPtr_ptr, ↓kSl_sl, ↓kAgg_agg, List.getElem?_toArray, List.getElem?_cons_zero, List.getElem?_cons_succ, List.append_assoc, List.cons_append, List.nil_append, List.length_append, List.length_cons, List.length_nil, ↓ldc_L0, ↓ldc_L, ↓ldc_C0, ↓ldc_CS, ↓st_L0, ↓st_L, ↓st_CS, ↓st_C1, ↓st_CN, ↓ite_len, ↓ite_size, ldc_L0, ldc_L, ldc_C0, ldc_CS, st_L0, st_L, st_CS, st_C1, st_CN, range_all, List.set_cons_zero, List.set_cons_succ, unt_same, bs_size, c4, c2, c5', c6']
  unfold ok okT Ev.cs
  rcases Bool.eq_false_or_eq_true (e.k == 1) with h | h
  · have h2 : (e.k == 2) = false := by
      have := of_decide_eq_true h
      rw [this]; rfl
    simp only [h, h2]
    cases decide (e.n < 0) <;> cases decide (1099511627776 < e.n) <;> cases decide ((e.s.length : Int) ≤ 1514) <;> cases e.s == [] <;> rfl
  · simp only [h]
    cases decide (e.n < 0) <;> cases decide (1099511627776 < e.n) <;> cases decide ((e.s.length : Int) ≤ 1514) <;> cases e.k == 2 <;> cases e.s == [] <;> rfl
theorem chk48 (H : Heap) (e : Ev) : F48 [.agg e.cs.toArray] H = some (.int .i64 (match ok e with | true => 0 | false => 230), H ++ [.cells e.cs 0 true]) := by
  obtain ⟨m, hm⟩ : ∃ m : Nat, m = 0 := ⟨0, rfl⟩
  have c2 := fun H => c48_2 m H
  have c4 := fun H => c48_4 m H
  have c5 := fun H => c48_5 m H
  refine FN_of (m + 1) ((t48 (m + 1) e.k e.n (bs e.s) H).trans ?_) (by subst hm; exact (Nat.le_of_ble_eq_true (by kernel_rfl)))
  simp (disch := (refine id ?_; with_unfolding_all rfl)) only [↓onS, ↓kInt_int, ↓kInt_u8, ↓kBool_bool, ↓kStr_str, ↓kTup_tup, ↓kPtr_ptr, ↓kSl_sl, ↓kAgg_agg, List.getElem?_toArray, List.getElem?_cons_zero, List.getElem?_cons_succ, List.append_assoc, List.cons_append, List.nil_append, List.length_append, List.length_cons, List.length_nil, ↓ldc_L0, ↓ldc_L, ↓ldc_C0, ↓ldc_CS, ↓st_L0, ↓st_L, ↓st_CS, ↓st_C1, ↓st_CN, ↓ite_len, ↓ite_size, ldc_L0, ldc_L, ldc_C0, ldc_CS, st_L0, st_L, st_CS, st_C1, st_CN, range_all, List.set_cons_zero, List.set_cons_succ, unt_same, bs_size, bs_nil, bs_list, c2, c4, c5]
  unfold ok okT Ev.cs
  rcases Bool.eq_false_or_eq_true (e.k == 1) with h | h
  · have h2 : (e.k == 2) = false := by
      have := of_decide_eq_true h
      rw [this]; rfl
    simp only [h, h2]
    cases decide (e.n < 0) <;> cases decide (1099511627776 < e.n) <;> cases decide ((e.s.length : Int) ≤ 1514) <;> cases e.s == [] <;> rfl
  · simp only [h]
    cases decide (e.n < 0) <;> cases decide (1099511627776 < e.n) <;> cases decide ((e.s.length : Int) ≤ 1514) <;> cases e.k == 2 <;> cases e.s == [] <;> rfl

/-! ### Numbers as bytes -/
def by8 (v j : Nat) : UInt8 := UInt8.ofNat (v / 256 ^ j)
def be (n v : Nat) : List UInt8 := (List.range n).map fun i => by8 v (n - 1 - i)
theorem be_len (n v : Nat) : (be n v).length = n := by simp [be]
theorem be_get {n v i : Nat} (h : i < n) : (be n v)[i]? = some (by8 v (n - 1 - i)) := by
  simp [be, h]
theorem byte_at {v j : Nat} (hj : j ≤ 6) {x : Int} (hx : x = IntKind.i64.wrap ((8 : Int) * (j : Int))) : IntKind.u8.wrap ((v : Int) / 2 ^ (min x.toNat IntKind.i64.bits)) = ((by8 v j).toNat : Int) := by
  subst hx
  have e1 : IntKind.i64.wrap ((8 : Int) * (j : Int)) = ((8 * j : Nat) : Int) := by rw [wrap_in ⟨by omega, by omega⟩]; omega
  rw [e1, Int.toNat_natCast, Nat.min_eq_left (by show 8 * j ≤ 64; omega)]
  have e2 : (2 : Int) ^ (8 * j) = ((256 ^ j : Nat) : Int) := by
    rw [Int.natCast_pow, Int.pow_mul]; rfl
  rw [e2, ← Int.natCast_ediv]
  unfold by8
  rw [UInt8.toNat_ofNat']
  show ((v / 256 ^ j : Nat) : Int) % 2 ^ 8 = _
  omega
end Go.Proofs.Yticchkdbanhjfaa
