/- r2: the document's texts: a text at its first blank; what is a name; a number's digits; what is a whole number. -/
import Derived.Test.YtbheppfjaeocpaaGreatDoorTC
import Derived.Test.YtbheppfjaeocpaaGreatDoorSl2
set_option linter.unusedVariables false
set_option linter.unusedSimpArgs false
namespace Go.Proofs.YtbheppfjaeocpaaGreatDoor
open Go Go.RowKit Go.Lib Go.Proofs.YtbheppfjaeocpaaGreatDoor.Fw
theorem byte_eq (b : UInt8) (n : Nat) (c : UInt8) (hc : c.toNat = n) : (((b.toNat : Nat) : Int) == ((n : Nat) : Int)) = decide (b = c) := by
  by_cases h : b = c
  · subst h; rw [hc]; simp
  · have : b.toNat ≠ n := fun q => h (UInt8.toNat_inj.1 (by omega))
    rw [decide_eq_false h]; simp; omega
theorem split_at {t : Tx} {i : Nat} (h : i < t.length) : t = t.take i ++ t[i] :: t.drop (i + 1) := by
  rw [← List.drop_eq_getElem_cons h, List.take_append_drop]
theorem cut46 (t : Tx) (H : Heap) (ht : t.length ≤ 140737488355328) : F46 [.string (bs t)] H = some (.tuple #[.string (bs (cutB t).1), .string (bs (cutB t).2.1), .bool (cutB t).2.2], H) := by
  have key : ∀ (r i m : Nat), i + r = t.length → (∀ x ∈ t.take i, x ≠ 32) → R46 (m + r + 1) td46_100002 [.string (bs t), .int .i64 ((i : Nat) : Int)] H = some (.tuple #[.string (bs (cutB t).1), .string (bs (cutB t).2.1), .bool (cutB t).2.2], H) := by
    intro r
    induction r with
    | zero =>
      intro i m hi hno
      rw [c46_100002, decide_eq_false (show ¬ ((i : Nat) : Int) < ((bs t).size : Int) by rw [bs_size]; omega)]
      rw [List.take_of_length_le (by omega)] at hno
      rw [cutB_none hno]; rfl
    | succ r ih =>
      intro i m hi hno
      have hlt : i < t.length := by omega
      have hx : t[i]? = some (t[i]'hlt) := by simp [hlt]
      rw [show m + (r + 1) + 1 = (m + r + 1) + 1 by omega, c46_100002, decide_eq_true (show ((i : Nat) : Int) < ((bs t).size : Int) by rw [bs_size]; omega)]
      simp only []
      rw [if_pos ⟨by omega, by rw [bs_size]; omega⟩, Int.toNat_natCast, byteAt_bs hx, show (32 : Int) = ((32 : Nat) : Int) from rfl, byte_eq _ 32 32 rfl, wrap_succ (by omega)]
      by_cases hb : t[i]'hlt = 32
      · have hs : t = t.take i ++ 32 :: t.drop (i + 1) := by
          have := split_at hlt
          rw [hb] at this; exact this
        have hc : cutB t = (t.take i, t.drop (i + 1), true) := (congrArg cutB hs).trans (cutB_app hno _)
        rw [decide_eq_true hb, hc]
        simp only [slStr_bs (l := t) (x := 0) (i := 0) rfl rfl (Nat.zero_le i) (Nat.le_of_lt hlt), ↓onS, ↓kInt_int, ↓kInt_u8, ↓kBool_bool, ↓kStr_str, ↓kTup_tup, ↓kPtr_ptr, ↓kSl_sl, ↓kAgg_agg, ↓kMp_mp, slStr_all (l := t) (i := i + 1) rfl (by omega), Nat.sub_zero, List.drop_zero]
      · rw [decide_eq_false hb]
        refine ih (i + 1) m (by omega) fun x hx' => ?_
        rw [List.take_add_one, hx] at hx'
        rcases List.mem_append.1 hx' with q | q
        · exact hno x q
        · simp at q; rw [q]; exact hb
  exact FN_of (0 + t.length + 1) ((t46 _ (bs t) H).trans (key t.length 0 0 (by omega) (by simp))) (Nat.le_of_ble_eq_true (by kernel_rfl))
theorem name47 (t : Tx) (H : Heap) (ht : t.length ≤ 140737488355328) : F47 [.string (bs t)] H = some (.bool (isNm t), H) := by
  have key : ∀ (r i m : Nat), i + r = t.length → R47 (m + r + 2) td47_100004 [.string (bs t), .int .i64 ((i : Nat) : Int)] H = some (.bool ((t.drop i).all isNmB), H) := by
    intro r
    induction r with
    | zero =>
      intro i m hi
      rw [show m + 0 + 2 = (m + 1) + 1 from rfl, c47_100004, decide_eq_false (show ¬ ((i : Nat) : Int) < ((bs t).size : Int) by rw [bs_size]; omega), List.drop_eq_nil_of_le (by omega)]
      rfl
    | succ r ih =>
      intro i m hi
      have hlt : i < t.length := by omega
      have hx : t[i]? = some (t[i]'hlt) := by simp [hlt]
      rw [show m + (r + 1) + 2 = (m + r + 1 + 1) + 1 by omega, c47_100004, decide_eq_true (show ((i : Nat) : Int) < ((bs t).size : Int) by rw [bs_size]; omega), List.drop_eq_getElem_cons hlt, List.all_cons]
      simp only []
      rw [if_pos ⟨by omega, by rw [bs_size]; omega⟩, Int.toNat_natCast, byteAt_bs hx, wrap_succ (by omega)]
      have hn : isNmB (t[i]'hlt) = (decide (32 < (t[i]'hlt).toNat) && decide ((t[i]'hlt).toNat < 127)) := by
        have k2 : ∀ n : Fin 256, (Nat.blt 32 n.val && Nat.blt n.val 127) = (decide (32 < n.val) && decide (n.val < 127)) := by decide +kernel
        exact k2 ⟨(t[i]'hlt).toNat, (t[i]'hlt).toNat_lt⟩
      rw [hn]
      by_cases h1 : (t[i]'hlt).toNat ≤ 32
      · rw [decide_eq_true (show (((t[i]'hlt).toNat : Nat) : Int) ≤ 32 by omega), decide_eq_false (show ¬ 32 < (t[i]'hlt).toNat by omega)]
        simp only [c47_7]; rfl
      · rw [decide_eq_false (show ¬ (((t[i]'hlt).toNat : Nat) : Int) ≤ 32 by omega), decide_eq_true (show 32 < (t[i]'hlt).toNat by omega)]
        simp only []
        rw [if_pos ⟨by omega, by rw [bs_size]; omega⟩]
        by_cases h2 : 127 ≤ (t[i]'hlt).toNat
        · rw [decide_eq_true (show (127 : Int) ≤ (((t[i]'hlt).toNat : Nat) : Int) by omega), decide_eq_false (show ¬ (t[i]'hlt).toNat < 127 by omega)]
          simp only [c47_7]; rfl
        · rw [decide_eq_false (show ¬ (127 : Int) ≤ (((t[i]'hlt).toNat : Nat) : Int) by omega), decide_eq_true (show (t[i]'hlt).toNat < 127 by omega)]
          simp only [Bool.and_self, Bool.true_and]
          exact ih (i + 1) m (by omega)
  refine FN_of (0 + t.length + 2) ((t47 _ (bs t) H).trans ?_) (Nat.le_of_ble_eq_true (by kernel_rfl))
  simp only [eq_lit, bs_size]
  unfold isNm
  by_cases h0 : t = []
  · rw [decide_eq_true h0]
    simp only [show 0 + t.length + 2 = (0 + t.length + 1) + 1 from rfl, c47_2]
    rw [h0]; rfl
  · rw [decide_eq_false h0]
    simp only []
    have e1 : (t == []) = false := by simpa using h0
    rw [e1]
    by_cases h2 : 32 < t.length
    · rw [decide_eq_true (show (32 : Int) < ((t.length : Nat) : Int) by omega)]
      have : Nat.ble t.length 32 = false := by rw [← Bool.not_eq_true]; intro q; have := Nat.le_of_ble_eq_true q; omega
      rw [this]
      simp only [show 0 + t.length + 2 = (0 + t.length + 1) + 1 from rfl, c47_2]; rfl
    · rw [decide_eq_false (show ¬ (32 : Int) < ((t.length : Nat) : Int) by omega), Nat.ble_eq_true_of_le (show t.length ≤ 32 by omega)]
      simp only []
      have := key t.length 0 0 (by omega)
      rw [List.drop_zero] at this
      refine Eq.trans this ?_
      simp
/-! ### Digits -/
theorem u8_digit {x : Int} (h0 : 0 ≤ x) (h1 : x < 10) : IntKind.u8.wrap (IntKind.i64.wrap (48 + x)) = (((UInt8.ofNat (48 + x.toNat)).toNat : Nat) : Int) := by
  rw [wrap_in ⟨by omega, by omega⟩]
  show (48 + x) % 2 ^ 8 = _
  have : (UInt8.ofNat (48 + x.toNat)).toNat = (48 + x.toNat) % 256 := UInt8.toNat_ofNat'
  rw [this]
  omega
theorem one_byte (b : UInt8) : bytesOf (range [Value.int .u8 ((b.toNat : Nat) : Int)] 0 1) = some [b] := by
  have := bytesOf_bc [b]
  exact this
theorem mod_tdiv {n : Nat} : (((n : Nat) : Int).tmod 10) = ((n % 10 : Nat) : Int) ∧ (((n : Nat) : Int).tdiv 10) = ((n / 10 : Nat) : Int) := ⟨by rw [Int.tmod_eq_emod_of_nonneg (by omega)]; rfl, by rw [Int.tdiv_eq_ediv_of_nonneg (by omega)]; rfl⟩
theorem decD_small {n : Nat} (h : n < 10) : Lib.decDigits n = [UInt8.ofNat (48 + n)] := by rw [Lib.decDigits, dif_pos h]
theorem decD_big {n : Nat} (h : ¬ n < 10) : Lib.decDigits n = Lib.decDigits (n / 10) ++ [UInt8.ofNat (48 + n % 10)] := by rw [Lib.decDigits, dif_neg h]
def topD (n : Nat) (t : Tx) : Tx := if n < 10 then t else Lib.decDigits (n / 10) ++ t
theorem loopD2045 : ∀ (n : Nat), n < 4611686018427387904 → ∀ (t : Tx) (H : Heap), t.length + n ≤ 4611686018427387904 → ∃ m H', (∀ q, R2045 (m + q) td2045_100004 [.int .i64 ((n : Nat) : Int), .string (bs t)] H = some (.string (bs (topD n t)), H')) ∧ Ch (fun _ => False) H H' := by
  intro n
  induction n using Nat.strongRecOn with
  | _ n ih =>
    intro hn t H ht
    by_cases h : n < 10
    · refine ⟨1, H, fun q => ?_, Ch.refl _ _⟩
      rw [show 1 + q = q + 1 by omega, c2045_100004, decide_eq_false (show ¬ (10 : Int) ≤ ((n : Nat) : Int) by omega)]
      unfold topD
      rw [if_pos h]
    · have ew : IntKind.i64.wrap (((n : Nat) : Int).tdiv 10) = ((n / 10 : Nat) : Int) := by rw [mod_tdiv.2, wrap_in ⟨by omega, by omega⟩]
      obtain ⟨b, hb⟩ : ∃ b, b = UInt8.ofNat (48 + n / 10 % 10) := ⟨_, rfl⟩
      obtain ⟨m, H', hh, hc⟩ := ih (n / 10) (by omega) (by omega) (b :: t) (H ++ [.cells [.int .u8 ((b.toNat : Nat) : Int)] 1 true]) (by simp; omega)
      refine ⟨m + 1, H', fun q => ?_, (Ch.push _ _ _).trans hc⟩
      rw [show m + 1 + q = (m + q) + 1 by omega, c2045_100004, decide_eq_true (show (10 : Int) ≤ ((n : Nat) : Int) by omega)]
      simp only []
      rw [if_neg (by decide), if_neg (by decide), ew, mod_tdiv.1, u8_digit (by omega) (by omega), Int.toNat_natCast, ← hb, ldc_L0, ldc_C0, if_pos (by simp)]
      simp only [one_byte, ↓onS, lit_bs, bs_size]
      rw [if_pos (by simp; omega), bs_app]
      refine (hh q).trans ?_
      congr 3
      unfold topD
      rw [if_neg h]
      by_cases h2 : n / 10 < 10
      · rw [if_pos h2, decD_small h2, hb, Nat.mod_eq_of_lt h2]; rfl
      · rw [if_neg h2, decD_big h2, ← hb]; simp
theorem posD2045 (n : Nat) (hn : n < 4611686018427387904 - 10) (H : Heap) : ∃ H', F2045 [.int .i64 ((n : Nat) : Int)] H = some (.string (bs (Lib.decDigits n)), H') ∧ Ch (fun _ => False) H H' := by
  obtain ⟨b, hb⟩ : ∃ b, b = UInt8.ofNat (48 + n % 10) := ⟨_, rfl⟩
  obtain ⟨m, H', hh, hc⟩ := loopD2045 n (by omega) [b] (H ++ [.cells [.int .u8 ((b.toNat : Nat) : Int)] 1 true]) (by simp; omega)
  refine ⟨H', FN_of (m + 0) ((t2045 (m + 0) ((n : Nat) : Int) H).trans ?_) (Nat.le_of_ble_eq_true (by kernel_rfl)), (Ch.push _ _ _).trans hc⟩
  rw [decide_eq_false (show ¬ ((n : Nat) : Int) < 0 by omega)]
  simp only []
  rw [if_neg (by decide), mod_tdiv.1, u8_digit (by omega) (by omega), Int.toNat_natCast, ← hb, ldc_L0, ldc_C0, if_pos (by simp)]
  simp only [one_byte, ↓onS, lit_bs]
  refine (hh 0).trans ?_
  congr 3
  unfold topD
  by_cases h : n < 10
  · rw [if_pos h, decD_small h, hb, Nat.mod_eq_of_lt h]
  · rw [if_neg h, decD_big h, ← hb]
theorem loopD45 : ∀ (n : Nat), n < 4611686018427387904 → ∀ (t : Tx) (H : Heap), t.length + n ≤ 4611686018427387904 → ∃ m H', (∀ q, R45 (m + q) td45_100004 [.int .i64 ((n : Nat) : Int), .string (bs t)] H = some (.string (bs (topD n t)), H')) ∧ Ch (fun _ => False) H H' := by
  intro n
  induction n using Nat.strongRecOn with
  | _ n ih =>
    intro hn t H ht
    by_cases h : n < 10
    · refine ⟨1, H, fun q => ?_, Ch.refl _ _⟩
      rw [show 1 + q = q + 1 by omega, c45_100004, decide_eq_false (show ¬ (10 : Int) ≤ ((n : Nat) : Int) by omega)]
      unfold topD
      rw [if_pos h]
    · have ew : IntKind.i64.wrap (((n : Nat) : Int).tdiv 10) = ((n / 10 : Nat) : Int) := by rw [mod_tdiv.2, wrap_in ⟨by omega, by omega⟩]
      obtain ⟨b, hb⟩ : ∃ b, b = UInt8.ofNat (48 + n / 10 % 10) := ⟨_, rfl⟩
      obtain ⟨m, H', hh, hc⟩ := ih (n / 10) (by omega) (by omega) (b :: t) (H ++ [.cells [.int .u8 ((b.toNat : Nat) : Int)] 1 true]) (by simp; omega)
      refine ⟨m + 1, H', fun q => ?_, (Ch.push _ _ _).trans hc⟩
      rw [show m + 1 + q = (m + q) + 1 by omega, c45_100004, decide_eq_true (show (10 : Int) ≤ ((n : Nat) : Int) by omega)]
      simp only []
      rw [if_neg (by decide), if_neg (by decide), ew, mod_tdiv.1, u8_digit (by omega) (by omega), Int.toNat_natCast, ← hb, ldc_L0, ldc_C0, if_pos (by simp)]
      simp only [one_byte, ↓onS, lit_bs, bs_size]
      rw [if_pos (by simp; omega), bs_app]
      refine (hh q).trans ?_
      congr 3
      unfold topD
      rw [if_neg h]
      by_cases h2 : n / 10 < 10
      · rw [if_pos h2, decD_small h2, hb, Nat.mod_eq_of_lt h2]; rfl
      · rw [if_neg h2, decD_big h2, ← hb]; simp
theorem posD45 (n : Nat) (hn : n < 4611686018427387904 - 10) (H : Heap) : ∃ H', F45 [.int .i64 ((n : Nat) : Int)] H = some (.string (bs (Lib.decDigits n)), H') ∧ Ch (fun _ => False) H H' := by
  obtain ⟨b, hb⟩ : ∃ b, b = UInt8.ofNat (48 + n % 10) := ⟨_, rfl⟩
  obtain ⟨m, H', hh, hc⟩ := loopD45 n (by omega) [b] (H ++ [.cells [.int .u8 ((b.toNat : Nat) : Int)] 1 true]) (by simp; omega)
  refine ⟨H', FN_of (m + 0) ((t45 (m + 0) ((n : Nat) : Int) H).trans ?_) (Nat.le_of_ble_eq_true (by kernel_rfl)), (Ch.push _ _ _).trans hc⟩
  rw [decide_eq_false (show ¬ ((n : Nat) : Int) < 0 by omega)]
  simp only []
  rw [if_neg (by decide), mod_tdiv.1, u8_digit (by omega) (by omega), Int.toNat_natCast, ← hb, ldc_L0, ldc_C0, if_pos (by simp)]
  simp only [one_byte, ↓onS, lit_bs]
  refine (hh 0).trans ?_
  congr 3
  unfold topD
  by_cases h : n < 10
  · rw [if_pos h, decD_small h, hb, Nat.mod_eq_of_lt h]
  · rw [if_neg h, decD_big h, ← hb]
/-- Digits. -/
theorem digits45 {n : Int} (h0 : -4611686018427387000 ≤ n) (h1 : n ≤ 4611686018427387000) (H : Heap) : ∃ H', F45 [.int .i64 n] H = some (.string (bs (Lib.itoa n)), H') ∧ Ch (fun _ => False) H H' := by
  by_cases h : n < 0
  · obtain ⟨H', e, hc⟩ := posD2045 n.natAbs (by omega) H
    refine ⟨H', FN_of 1 ((t45 1 n H).trans ?_) (Nat.le_of_ble_eq_true (by kernel_rfl)), hc⟩
    have ew : IntKind.i64.wrap (0 - n) = ((n.natAbs : Nat) : Int) := by rw [wrap_in ⟨by omega, by omega⟩]; omega
    have hl := Lib.itoa_length_le (-(n.natAbs : Int)) (by omega) (by omega)
    have hi : Lib.itoa n = 45 :: Lib.decDigits n.natAbs := by unfold Lib.itoa; rw [if_pos h]
    rw [show (-(n.natAbs : Int)) = n by omega, hi] at hl
    rw [decide_eq_true h, ew]
    simp only [↓on_of e, ↓onS, ↓kInt_int, ↓kInt_u8, ↓kBool_bool, ↓kStr_str, ↓kTup_tup, ↓kPtr_ptr, ↓kSl_sl, ↓kAgg_agg, ↓kMp_mp, bs_size]
    rw [if_pos (by simp only [List.length_cons] at hl; rw [show (⟨#[45]⟩ : ByteArray).size = 1 from rfl]; omega), hi]
    rw [show (⟨#[45]⟩ : ByteArray) = bs [45] from rfl, bs_app]; rfl
  · obtain ⟨H', e, hc⟩ := posD45 n.toNat (by omega) H
    rw [show ((n.toNat : Nat) : Int) = n by omega] at e
    refine ⟨H', e.trans ?_, hc⟩
    unfold Lib.itoa
    rw [if_neg h]
/-! ### Whole numbers -/
theorem isDg_iff (b : UInt8) : isDg b = (!decide (b.toNat < 48) && !decide (57 < b.toNat)) := by
  have k2 : ∀ n : Fin 256, (Nat.ble 48 n.val && Nat.ble n.val 57) = (!decide (n.val < 48) && !decide (57 < n.val)) := by decide +kernel
  exact k2 ⟨b.toNat, b.toNat_lt⟩
def endW (mi : Bool) (o : Option Nat) : Value := match o with
  | none => .tuple #[.int .i64 0, .bool false]
  | some n => match mi with
    | true => .tuple #[.int .i64 (-(n : Int)), .bool (((n : Nat) : Int) != 0)]
    | false => .tuple #[.int .i64 n, .bool true]
theorem loopW (d : Tx) (hd : d.length ≤ 9) (mi : Bool) (H : Heap) : ∀ (r i m n : Nat), i + r = d.length → n < 10 ^ i → R68 (m + r + 2) td68_100008 [.string (bs d), .bool mi, .int .i64 ((n : Nat) : Int), .int .i64 ((i : Nat) : Int)] H = some (endW mi (Lib.decFrom n (d.drop i)), H) := by
  intro r
  induction r with
  | zero =>
    intro i m n hi hn
    have hp : (10 : Nat) ^ i ≤ 10 ^ 9 := Nat.pow_le_pow_right (by decide) (by omega)
    rw [show m + 0 + 2 = (m + 1) + 1 from rfl, c68_100008, decide_eq_false (show ¬ ((i : Nat) : Int) < ((bs d).size : Int) by rw [bs_size]; omega), List.drop_eq_nil_of_le (by omega)]
    simp only [Lib.decFrom, endW]
    cases mi with
    | true => rw [wrap_in ⟨by omega, by omega⟩, Int.zero_sub]
    | false => rfl
  | succ r ih =>
    intro i m n hi hn
    have hlt : i < d.length := by omega
    have hx : d[i]? = some (d[i]'hlt) := by simp [hlt]
    have hp : (10 : Nat) ^ i ≤ 10 ^ 8 := Nat.pow_le_pow_right (by decide) (by omega)
    rw [show m + (r + 1) + 2 = (m + r + 1 + 1) + 1 by omega, c68_100008, decide_eq_true (show ((i : Nat) : Int) < ((bs d).size : Int) by rw [bs_size]; omega), List.drop_eq_getElem_cons hlt]
    simp only []
    rw [if_pos ⟨by omega, by rw [bs_size]; omega⟩, Int.toNat_natCast, byteAt_bs hx, wrap_succ (by omega)]
    simp only [Lib.decFrom, Lib.digitVal]
    by_cases h1 : (d[i]'hlt).toNat < 48
    · rw [decide_eq_true (show (((d[i]'hlt).toNat : Nat) : Int) < 48 by omega)]
      simp only [c68_11]
      rw [if_neg (by omega)]; rfl
    · rw [decide_eq_false (show ¬ (((d[i]'hlt).toNat : Nat) : Int) < 48 by omega)]
      simp only []
      rw [if_pos ⟨by omega, by rw [bs_size]; omega⟩]
      by_cases h2 : 57 < (d[i]'hlt).toNat
      · rw [decide_eq_true (show (57 : Int) < (((d[i]'hlt).toNat : Nat) : Int) by omega)]
        simp only [c68_11]
        rw [if_neg (by omega)]; rfl
      · rw [decide_eq_false (show ¬ (57 : Int) < (((d[i]'hlt).toNat : Nat) : Int) by omega)]
        simp only []
        rw [if_pos ⟨by omega, by rw [bs_size]; omega⟩, if_pos (show 48 ≤ (d[i]'hlt).toNat ∧ (d[i]'hlt).toNat ≤ 57 by omega)]
        have e1 : IntKind.u8.wrap ((((d[i]'hlt).toNat : Nat) : Int) - 48) = (((d[i]'hlt).toNat - 48 : Nat) : Int) := by
          show ((((d[i]'hlt).toNat : Nat) : Int) - 48) % 2 ^ 8 = _
          omega
        have e2 : IntKind.i64.wrap (IntKind.i64.wrap (((n : Nat) : Int) * 10) + IntKind.i64.wrap (IntKind.u8.wrap ((((d[i]'hlt).toNat : Nat) : Int) - 48))) = ((n * 10 + ((d[i]'hlt).toNat - 48) : Nat) : Int) := by
          rw [e1, wrap_in (n := ((n : Nat) : Int) * 10) ⟨by omega, by omega⟩, wrap_in (n := (((d[i]'hlt).toNat - 48 : Nat) : Int)) ⟨by omega, by omega⟩, wrap_in ⟨by omega, by omega⟩]
          omega
        rw [e2]
        exact ih (i + 1) m _ (by omega) (by rw [Nat.pow_succ]; omega)
theorem whole68 (w : Tx) (H : Heap) (hw : w.length ≤ 140737488355328) : F68 [.string (bs w)] H = some (.tuple #[.int .i64 ((num w).getD 0), .bool (num w).isSome], H) := by
  have hdl := digs_len w
  have badv : num w = none → (some (.tuple #[.int .i64 (0 : Int), .bool false], H) : R) = some (.tuple #[.int .i64 ((num w).getD 0), .bool (num w).isSome], H) := fun h => by rw [h]; rfl
  have none_of : numU (digs w) = none → num w = none := fun h => by rw [num_eq, h]; cases minus w <;> rfl
  obtain ⟨k, hk⟩ : ∃ k : Nat, k = 0 := ⟨0, rfl⟩
  have e4 : R68 (k + (digs w).length + 2 + 1 + 1) td68_4 [.string (bs (digs w)), .bool (minus w)] H = some (.tuple #[.int .i64 ((num w).getD 0), .bool (num w).isSome], H) := by
    rw [c68_4]
    simp only [eq_lit, bs_size, c68_5]
    by_cases h1 : digs w = []
    · rw [decide_eq_true h1]
      exact badv (none_of (by rw [h1]; decide))
    rw [decide_eq_false h1]
    simp only []
    by_cases h2 : 9 < (digs w).length
    · rw [decide_eq_true (show (9 : Int) < (((digs w).length : Nat) : Int) by omega)]
      refine badv (none_of ?_)
      cases hq : numU (digs w) with
      | none => rfl
      | some n => have := (numU_some hq).2.1; omega
    rw [decide_eq_false (show ¬ (9 : Int) < (((digs w).length : Nat) : Int) by omega)]
    simp only []
    have good : (1 < (digs w).length → (digs w).head? ≠ some 48) → R68 (k + (digs w).length + 2 + 1) td68_6 [.string (bs (digs w)), .bool (minus w)] H = some (.tuple #[.int .i64 ((num w).getD 0), .bool (num w).isSome], H) := fun h4 => by
      rw [c68_6]
      have := loopW (digs w) (by omega) (minus w) H (digs w).length 0 k 0 (by omega) (by decide)
      refine this.trans ?_
      rw [List.drop_zero]
      by_cases h3 : (digs w).all isDg = true
      · have hU := numU_of h1 (by omega) h3 h4
        obtain ⟨n, hn, _⟩ := decFrom_all (digs w) 0 h3
        rw [hn]
        rw [hn] at hU
        rw [num_eq, hU]
        cases minus w with
        | false => rfl
        | true =>
          cases n with
          | zero => rfl
          | succ n =>
            have e0 : ((((n + 1 : Nat) : Int) != 0)) = true := by simp; omega
            simp only [endW, e0, Option.getD_some, Option.isSome_some]
            rw [Int.natCast_succ]
      · have hd : Lib.decFrom 0 (digs w) = none := by
          cases hq : Lib.decFrom 0 (digs w) with
          | none => rfl
          | some n =>
            exfalso
            refine h3 (List.all_eq_true.2 fun b hb => ?_)
            obtain ⟨j, hj⟩ := List.mem_iff_getElem?.1 hb
            obtain ⟨d, hd⟩ := Lib.digit_of_decFrom (digs w) 0 n hq j b hj
            obtain ⟨q1, q2, _⟩ := Lib.digitVal_eq hd
            rw [isDg_iff, decide_eq_false (by omega), decide_eq_false (by omega)]; rfl
        rw [hd]
        refine badv (none_of ?_)
        cases hq : numU (digs w) with
        | none => rfl
        | some n => exact absurd (numU_some hq).2.2.1 h3
    by_cases h4 : 1 < (digs w).length
    · rw [decide_eq_true (show (1 : Int) < (((digs w).length : Nat) : Int) by omega)]
      simp only []
      obtain ⟨b, r, hb⟩ : ∃ b r, digs w = b :: r := by cases hq : digs w with | nil => exact absurd hq h1 | cons b r => exact ⟨b, r, rfl⟩
      rw [if_pos ⟨by omega, by omega⟩, show ((0 : Int).toNat) = 0 from rfl, byteAt_bs (l := digs w) (i := 0) (b := b) (by rw [hb]; rfl), show (48 : Int) = ((48 : Nat) : Int) from rfl, byte_eq _ 48 48 rfl]
      by_cases hz : b = 48
      · rw [decide_eq_true hz]
        refine badv (none_of ?_)
        cases hq : numU (digs w) with
        | none => rfl
        | some n => exact absurd (by rw [hb, hz]; rfl) ((numU_some hq).2.2.2.1 h4)
      · rw [decide_eq_false hz]
        exact good fun _ q => by rw [hb] at q; exact hz (Option.some.inj q)
    · rw [decide_eq_false (show ¬ (1 : Int) < (((digs w).length : Nat) : Int) by omega)]
      exact good fun q => absurd q h4
  refine FN_of (k + (digs w).length + 2 + 1 + 1 + 1) ((t68 _ (bs w) H).trans ?_) (Nat.le_of_ble_eq_true (by kernel_rfl))
  simp only [eq_lit, bs_size]
  have e2 : R68 (k + (digs w).length + 2 + 1 + 1 + 1) td68_2 [.string (bs w), .bool (minus w)] H = some (.tuple #[.int .i64 ((num w).getD 0), .bool (num w).isSome], H) := by
    rw [c68_2]
    cases hm : minus w with
    | false =>
      have hdw : digs w = w := by
        cases w with
        | nil => rfl
        | cons b r => have hb : b ≠ 45 := by simpa [minus] using hm
                      simp [digs, hb]
      rw [hm, hdw] at e4
      exact (congrArg (fun z => R68 z td68_4 [.string (bs w), .bool false] H) (by rw [hdw])).trans e4
    | true =>
      have hdw : digs w = w.drop 1 := by
        cases w with
        | nil => rfl
        | cons b r => have hb : b = 45 := by simpa [minus] using hm
                      simp [digs, hb]
      have hw1 : 1 ≤ w.length := by cases w with | nil => cases hm | cons b r => simp
      rw [hm] at e4
      simp only [slStr_all (l := w) (x := 1) (i := 1) rfl hw1, ↓onS, ↓kInt_int, ↓kInt_u8, ↓kBool_bool, ↓kStr_str, ↓kTup_tup, ↓kPtr_ptr, ↓kSl_sl, ↓kAgg_agg, ↓kMp_mp, ← hdw]
      exact e4
  by_cases h0 : w = []
  · have hm : minus w = false := by rw [h0]; rfl
    rw [hm] at e2
    rw [decide_eq_true h0]
    exact e2
  · rw [decide_eq_false h0]
    simp only [Bool.not_false]
    obtain ⟨b, r, hb⟩ : ∃ b r, w = b :: r := by cases hq : w with | nil => exact absurd hq h0 | cons b r => exact ⟨b, r, rfl⟩
    have hl : 0 < w.length := by rw [hb]; simp
    rw [if_pos ⟨by omega, by omega⟩, show ((0 : Int).toNat) = 0 from rfl, byteAt_bs (l := w) (i := 0) (b := b) (by rw [hb]; rfl), show (45 : Int) = ((45 : Nat) : Int) from rfl, byte_eq _ 45 45 rfl]
    have hm : minus w = decide (b = 45) := by rw [hb]; rfl
    rw [← hm]
    exact e2
end Go.Proofs.YtbheppfjaeocpaaGreatDoor
