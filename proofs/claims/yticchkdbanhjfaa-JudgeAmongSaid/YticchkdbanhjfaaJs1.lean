/- slices.Index of texts and judge.Among: what they answer. -/
import Derived.Test.YticchkdbanhjfaaFwP
import Derived.Test.YticchkdbanhjfaaT1
set_option linter.unusedVariables false
set_option linter.unusedSimpArgs false
namespace Go.Proofs.Yticchkdbanhjfaa
open Go Go.RowKit Go.Proofs.Yticchkdbanhjfaa.Fw

theorem loop46 {H : Heap} {a : Option Addr} {l c : Nat} {xs : List ByteArray} {s : ByteArray} (hS : Strs H a l xs) (hl : l < 9223372036854775807) : ∀ (d i : Nat), i + d = l →
    ∃ m, R46 m td46_100002 [.slice a l c, .string s, .int .i64 (l : Int), .int .i64 (i : Int)] H = some (.int .i64 (match index s (xs.drop i) with | none => -1 | some n => ((i + n : Nat) : Int)), H) := by
  intro d
  induction d with
  | zero =>
    intro i hi
    refine ⟨1, ?_⟩
    rw [c46_100002]
    have : xs.drop i = [] := by rw [List.drop_eq_nil_iff]; have := hS.len; omega
    rw [show decide ((i : Int) < (l : Int)) = false by simp; omega, this]
    rfl
  | succ d ih =>
    intro i hi
    have hlt : i < xs.length := by have := hS.len; omega
    obtain ⟨x, cs, own, rfl, h1, h2⟩ := hS.get (i := i) (s := xs[i]) (by simp [hlt])
    have hd : xs.drop i = xs[i] :: xs.drop (i + 1) := List.drop_eq_getElem_cons hlt
    have hc : decide ((i : Int) < (l : Int)) = true := by simp; omega
    have h0 : (0 : Int) ≤ (i : Int) ∧ (i : Int) < ((l : Nat) : Int) := by omega
    cases hq : (s.toList == (xs[i]).toList) with
    | true =>
      refine ⟨1, ?_⟩
      rw [c46_100002, hc]
      simp only [onSome_some, if_pos h0, add_block, add_off, Int.toNat_natCast, Nat.mul_one, ldc_at h1, h2, kStr, hq, hd, index, if_true, Nat.add_zero]
    | false =>
      obtain ⟨m, hm⟩ := ih (i + 1) (by omega)
      refine ⟨m + 1, ?_⟩
      rw [c46_100002, hc]
      simp only [onSome_some, if_pos h0, add_block, add_off, Int.toNat_natCast, Nat.mul_one, ldc_at h1, h2, kStr, hq, hd, index, Bool.false_eq_true, if_false]
      rw [wrap_succ (by omega), hm]
      cases index s (xs.drop (i + 1)) with
      | none => rfl
      | some n => simp only [Option.map_some]; congr 3; omega

theorem index46 {H : Heap} {a : Option Addr} {l c : Nat} {xs : List ByteArray} {s : ByteArray} (hS : Strs H a l xs) (hl : l < 9223372036854775807) : F46 [.slice a l c, .string s] H = some (.int .i64 (indexI (index s xs)), H) := by
  obtain ⟨m, hm⟩ := loop46 (c := c) (s := s) hS hl l 0 (by omega)
  refine FN_of m ?_ (Nat.le_of_ble_eq_true (by kernel_rfl))
  rw [t46]
  have : ((0 : Nat) : Int) = 0 := rfl
  rw [this] at hm
  rw [hm]
  simp only [List.drop_zero, Nat.zero_add]
  cases index s xs <;> rfl

theorem loop11 {H : Heap} {a0 : Option Addr} {l c0 : Nat} {xs : List ByteArray} (hS : Strs H a0 l xs) (hl : l < 9223372036854775807) : ∀ (d i : Nat), i + d = l → ∀ (a3 : Option Addr) (l3 c3 : Nat) (ys : List ByteArray), Strs H a3 l3 ys → l3 < 9223372036854775807 →
    ∃ m, R11 m td11_100002 [.slice a0 l c0, .slice a3 l3 c3, .slice a0 l c0, .int .i64 (l : Int), .int .i64 (i : Int)] H = some (.tuple #[.int .i64 ((i + (among (xs.drop i) ys).1 : Nat) : Int), .bool (among (xs.drop i) ys).2], H) := by
  intro d
  induction d with
  | zero =>
    intro i hi a3 l3 c3 ys hY hl3
    refine ⟨1, ?_⟩
    rw [c11_100002]
    have : xs.drop i = [] := by rw [List.drop_eq_nil_iff]; have := hS.len; omega
    rw [show decide ((i : Int) < (l : Int)) = false by simp; omega, this]
    obtain rfl : i = l := by omega
    rfl
  | succ d ih =>
    intro i hi a3 l3 c3 ys hY hl3
    have hlt : i < xs.length := by have := hS.len; omega
    obtain ⟨x, cs, own, rfl, h1, h2⟩ := hS.get (i := i) (s := xs[i]) (by simp [hlt])
    have hd : xs.drop i = xs[i] :: xs.drop (i + 1) := List.drop_eq_getElem_cons hlt
    have hc : decide ((i : Int) < (l : Int)) = true := by simp; omega
    have h0 : (0 : Int) ≤ (i : Int) ∧ (i : Int) < ((l : Nat) : Int) := by omega
    cases hq : index xs[i] ys with
    | none =>
      refine ⟨1, ?_⟩
      rw [c11_100002, hc]
      simp only [onSome_some, if_pos h0, add_block, add_off, Int.toNat_natCast, Nat.mul_one, ldc_at h1, h2, kStr, index46 hY hl3, hq, indexI, kInt, if_true, hd, among, Nat.add_zero]
      rfl
    | some n =>
      have hn := index_lt hq
      obtain ⟨a', c', h3, h4⟩ := hY.tail (c := c3) hn
      obtain ⟨m, hm⟩ := ih (i + 1) (by omega) a' (l3 - (n + 1)) c' _ h4 (by omega)
      refine ⟨m + 1, ?_⟩
      have hw : IntKind.i64.wrap ((n : Int) + 1) = (n : Int) + 1 := wrap_in ⟨by omega, by have := hY.len; omega⟩
      rw [c11_100002, hc]
      simp only [onSome_some, if_pos h0, add_block, add_off, Int.toNat_natCast, Nat.mul_one, ldc_at h1, h2, kStr, index46 hY hl3, hq, indexI, kInt, if_true, hd, among, hw, h3, kSl]
      rw [show decide ((n : Int) < 0) = false from decide_eq_false (by omega)]
      simp only []
      rw [wrap_succ (by omega), hm]
      rw [show i + 1 + (among (xs.drop (i + 1)) (ys.drop (n + 1))).1 = i + ((among (xs.drop (i + 1)) (ys.drop (n + 1))).1 + 1) by omega]

theorem among11 {H : Heap} {a : Option Addr} {l c : Nat} {xs : List ByteArray} (hS : Strs H a l xs) (hl : l < 9223372036854775807) {a3 : Option Addr} {l3 c3 : Nat} {ys : List ByteArray} (hY : Strs H a3 l3 ys) (hl3 : l3 < 9223372036854775807) :
    F11 [.slice a l c, .slice a3 l3 c3] H = some (.tuple #[.int .i64 ((among xs ys).1 : Int), .bool (among xs ys).2], H) := by
  obtain ⟨m, hm⟩ := loop11 (c0 := c) hS hl l 0 (by omega) a3 l3 c3 ys hY hl3
  refine FN_of m ?_ (Nat.le_of_ble_eq_true (by kernel_rfl))
  rw [t11]
  have : ((0 : Nat) : Int) = 0 := rfl
  rw [this] at hm
  rw [hm]
  simp only [List.drop_zero, Nat.zero_add]
end Go.Proofs.Yticchkdbanhjfaa
