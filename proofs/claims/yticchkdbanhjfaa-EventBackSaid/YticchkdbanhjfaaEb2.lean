/- EventBack: the first event of bytes; decoding. -/
import Derived.Test.YticchkdbanhjfaaEb1
set_option linter.unusedVariables false
set_option linter.unusedSimpArgs false
namespace Go.Proofs.Yticchkdbanhjfaa
open Go Go.RowKit Go.Proofs.Yticchkdbanhjfaa.Fw
theorem get_loop (H0 : Heap) (l : List UInt8) (hl : l.length ≤ 6) : ∀ (d i : Nat), i + d = l.length → ∃ m, R87 m td87_100005 [.int .i64 (numL (l.take i) : Int), .slice (some ⟨H0.length, 0, none⟩) l.length unk, .int .i64 (l.length : Int), .int .i64 (i : Int)] (H0 ++ [.cells (bc l) 1 true]) = some (.tuple #[.int .i64 (numL l : Int), .int .i64 0], H0 ++ [.cells (bc l) 1 true]) := by
  intro d
  induction d with
  | zero =>
    intro i hi
    have : i = l.length := by omega
    subst this
    refine ⟨1, ?_⟩
    rw [c87_100005, List.take_length]
    simp only [show decide ((l.length : Int) < (l.length : Int)) = false from decide_eq_false (by omega)]
  | succ d ih =>
    intro i hi
    obtain ⟨m, hm⟩ := ih (i + 1) (by omega)
    refine ⟨m + 1, ?_⟩
    have hlt : i < l.length := by omega
    have hb : l[i]? = some l[i] := by simp [hlt]
    have e : (bc l)[(⟨H0.length, 0, none⟩ : Addr).off + i * 1]? = some (.int .u8 l[i].toNat) := by
      rw [show (⟨H0.length, 0, none⟩ : Addr).off + i * 1 = i by show 0 + i * 1 = i; omega, bc_get, hb]; rfl
    have hn := numL_lt (l.take i)
    rw [List.length_take, Nat.min_eq_left (by omega)] at hn
    have hp := pow256 (i := i) (by omega)
    rw [c87_100005]
    simp only [show decide ((i : Int) < (l.length : Int)) = true from decide_eq_true (by omega), ↓onS, ↓kInt_int, ↓kInt_u8, ↓kBool_bool, ↓kStr_str, ↓kTup_tup, ↓kPtr_ptr, ↓kSl_sl, ↓kAgg_agg]
    rw [if_pos ⟨by omega, by omega⟩, add_block, add_off, Int.toNat_natCast, ldc_new, on_of e]
    simp only [↓onS, ↓kInt_int, ↓kInt_u8, ↓kBool_bool, ↓kStr_str, ↓kTup_tup, ↓kPtr_ptr, ↓kSl_sl, ↓kAgg_agg]
    rw [if_neg (by decide), or_byte (by omega), wrap_succ (by omega), ← numL_take hb]
    exact hm
theorem get87 (H : Heap) (l : List UInt8) (off n : Nat) (hn : 1 ≤ n ∧ n ≤ 6) (ho : off + n ≤ l.length) (hl : l.length ≤ 9223372036854775807) : F87 [.string (bs l), .int .i64 (off : Int), .int .i64 (n : Int)] H = some (.tuple #[.int .i64 (num l off n : Int), .int .i64 0], H ++ [.cells (bc ((l.drop off).take n)) 1 true]) := by
  unfold num
  have ll : ((l.drop off).take n).length = n := by rw [List.length_take, List.length_drop]; omega
  obtain ⟨m, hm⟩ := get_loop H ((l.drop off).take n) (by omega) n 0 (by omega)
  refine FN_of m ?_ (Nat.le_of_ble_eq_true (by kernel_rfl))
  rw [t87]
  have w1 : IntKind.i64.wrap (((bs l).size : Int) - (n : Int)) = ((l.length - n : Nat) : Int) := by rw [bs_size, wrap_in ⟨by omega, by omega⟩]; omega
  have w2 : IntKind.i64.wrap ((off : Int) + (n : Int)) = ((off + n : Nat) : Int) := by rw [wrap_in ⟨by omega, by omega⟩]; omega
  rw [w1, w2, decide_eq_false (by omega), decide_eq_false (by omega), decide_eq_false (by omega), decide_eq_false (by omega)]
  simp only []
  rw [slStr_bs rfl rfl (by omega) (by omega)]
  simp only [↓onS, ↓kInt_int, ↓kInt_u8, ↓kBool_bool, ↓kStr_str, ↓kTup_tup, ↓kPtr_ptr, ↓kSl_sl, ↓kAgg_agg, bs_size, bs_data, Nat.add_sub_cancel_left]
  rw [if_pos (by rw [ll]; omega), ll] at *
  exact hm
theorem get87_no (H : Heap) (l : List UInt8) (h : l.length < 9) : F87 [.string (bs l), .int .i64 (7 : Int), .int .i64 (2 : Int)] H = some (.tuple #[.int .i64 0, .int .i64 1], H) := by
  refine FN_of (0 + 1) ?_ (Nat.le_of_ble_eq_true (by kernel_rfl))
  rw [t87, bs_size, wrap_in ⟨by omega, by omega⟩, decide_eq_false (by omega), decide_eq_false (by omega), decide_eq_false (by omega), decide_eq_true (show (l.length : Int) - 2 < 7 by omega)]
  exact c87_2 0 H
def notE : Ev := ev0
/-- event.first. -/
theorem first73 (H : Heap) (l : List UInt8) (hl : l.length ≤ 140737488351232) : ∃ g x r, F73 [.string (bs l)] H = some (.tuple #[.agg (Ev.cs x).toArray, .string (bs r), .bool (firstM l).isSome], H ++ g) ∧ ∀ y, firstM l = some y → (x, r) = y := by
  have f : ∀ m r, fnE Try.prog G73 Try.f73 cuts73 m [.string (bs l)] H = some r → F73 [.string (bs l)] H = some r := fun m r h => FN_of m h (Nat.le_of_ble_eq_true (by kernel_rfl))
  obtain ⟨m, _⟩ : ∃ m : Nat, m = 0 := ⟨0, rfl⟩
  have e := t73 (m + 1) (bs l) H
  have c3 : ∀ g, R73 (m + 1) td73_3 [.pointer (some ⟨H.length, 0, none⟩)] (H ++ (bx ev0 :: g)) = some (.tuple #[.agg ev0.cs.toArray, .string (bs []), .bool false], H ++ (bx ev0 :: g)) := fun g => by
    rw [c73_3]
    unfold bx
    simp (disch := (refine id ?_; with_unfolding_all rfl)) only [↓onS, ↓kInt_int, ↓kInt_u8, ↓kBool_bool, ↓kStr_str, ↓kTup_tup, ↓kPtr_ptr, ↓kSl_sl, ↓kAgg_agg, List.getElem?_toArray, List.getElem?_cons_zero, List.getElem?_cons_succ, ↓ldc_L0, ↓ldc_L, ↓ldc_C0, ↓ldc_CS, ↓st_L0, ↓st_L, ↓st_CS, ↓st_C1, ↓st_CN, ↓ite_len, ↓ite_size, ldc_L0, ldc_L, ldc_C0, ldc_CS, st_L0, st_L, st_CS, st_C1, st_CN, range_all, List.set_cons_zero, List.set_cons_succ, unt_same, ↓unt_L0, ↓unt_C0, bs_nil]
  have eb : AObj.cells ev0.cs 0 true = bx ev0 := rfl
  simp only [z_cs, eb] at e
  rcases Nat.lt_or_ge l.length 9 with h9 | h9
  · have hn : firstM l = none := by unfold firstM; rw [if_neg (by omega)]
    simp only [↓onS, ↓kInt_int, ↓kInt_u8, ↓kBool_bool, ↓kStr_str, ↓kTup_tup, ↓kPtr_ptr, ↓kSl_sl, ↓kAgg_agg, List.getElem?_toArray, List.getElem?_cons_zero, List.getElem?_cons_succ, ↓on_of (get87_no _ l h9), show ((1 : Int) != 0) = true from rfl, c3 []] at e
    exact ⟨_, ev0, [], by rw [hn]; exact f _ _ e, fun y hy => by rw [hn] at hy; cases hy⟩
  have g7 : ∀ H, F87 [.string (bs l), .int .i64 (7 : Int), .int .i64 (2 : Int)] H = _ := fun H => get87 H l 7 2 (by omega) (by omega) (by omega)
  have g0 : ∀ H, F87 [.string (bs l), .int .i64 (0 : Int), .int .i64 (1 : Int)] H = _ := fun H => get87 H l 0 1 (by omega) (by omega) (by omega)
  have g1 : ∀ H, F87 [.string (bs l), .int .i64 (1 : Int), .int .i64 (6 : Int)] H = _ := fun H => get87 H l 1 6 (by omega) (by omega) (by omega)
  have hnum : num l 7 2 < 65536 := by
    have := numL_lt ((l.drop 7).take 2)
    have e2 : ((l.drop 7).take 2).length = 2 := by rw [List.length_take, List.length_drop]; omega
    rw [e2] at this
    unfold num; simpa using this
  have w9 : IntKind.i64.wrap ((l.length : Int) - 9) = (l.length : Int) - 9 := wrap_in ⟨by omega, by omega⟩
  have w9n : IntKind.i64.wrap ((9 : Int) + (num l 7 2 : Int)) = ((9 + num l 7 2 : Nat) : Int) := by rw [wrap_in ⟨by omega, by omega⟩]; omega
  simp only [↓onS, ↓kInt_int, ↓kInt_u8, ↓kBool_bool, ↓kStr_str, ↓kTup_tup, ↓kPtr_ptr, ↓kSl_sl, ↓kAgg_agg, List.getElem?_toArray, List.getElem?_cons_zero, List.getElem?_cons_succ, List.append_assoc, List.cons_append, List.nil_append, List.length_append, List.length_cons, List.length_nil, ↓on_of (g7 _), bne_self_eq_false, bs_size, w9, c3] at e
  rcases Bool.eq_false_or_eq_true (decide ((l.length : Int) - 9 < (num l 7 2 : Int))) with hq | hq
  · have hn : firstM l = none := by unfold firstM; rw [if_neg (by have := of_decide_eq_true hq; omega)]
    simp only [hq] at e
    exact ⟨_, ev0, [], by rw [hn]; exact f _ _ e, fun y hy => by rw [hn] at hy; cases hy⟩
  have hle : num l 7 2 ≤ l.length - 9 := by have := of_decide_eq_false hq; omega
  have s1 : ∀ k : Value → R, slStr (bs l) (9 : Int) ((9 + num l 7 2 : Nat) : Int) k = k (.string (bs ((l.drop 9).take (num l 7 2)))) := fun k => by
    refine (slStr_bs (x := (9 : Int)) (i := 9) (j := 9 + num l 7 2) rfl rfl (by omega) (by omega) k).trans ?_
    rw [Nat.add_sub_cancel_left]
  have s2 : ∀ k : Value → R, slStr (bs l) ((9 + num l 7 2 : Nat) : Int) (l.length : Int) k = k (.string (bs (l.drop (9 + num l 7 2)))) := fun k => by
    rw [slStr_bs (i := 9 + num l 7 2) (j := l.length) rfl rfl (by omega) (by omega), List.take_of_length_le (by rw [List.length_drop]; exact Nat.le_refl _)]
  have ck := fun H => chk47 H (evOf l)
  have eo : (evOf l).cs = [.int .i64 (num l 0 1 : Int), .int .i64 (num l 1 6 : Int), .string (bs ((l.drop 9).take (num l 7 2)))] := rfl
  rw [eo] at ck
  unfold bx ev0 Ev.cs at e
  simp (disch := (refine id ?_; with_unfolding_all rfl)) only [hq, ↓onS, ↓kInt_int, ↓kInt_u8, ↓kBool_bool, ↓kStr_str, ↓kTup_tup, ↓kPtr_ptr, ↓kSl_sl, ↓kAgg_agg, List.getElem?_toArray, List.getElem?_cons_zero, List.getElem?_cons_succ, List.append_assoc, List.cons_append, List.nil_append, List.length_append, List.length_cons, List.length_nil, ↓ldc_L0, ↓ldc_L, ↓ldc_C0, ↓ldc_CS, ↓st_L0, ↓st_L, ↓st_CS, ↓st_C1, ↓st_CN, ↓ite_len, ↓ite_size, ldc_L0, ldc_L, ldc_C0, ldc_CS, st_L0, st_L, st_CS, st_C1, st_CN, range_all, List.set_cons_zero, List.set_cons_succ, unt_same, ↓unt_L0, ↓unt_C0, ↓on_of (g0 _), ↓on_of (g1 _), w9n, s1, s2, ↓on_of (ck _)] at e
  rcases Bool.eq_false_or_eq_true (ok (evOf l)) with h | h
  · have hf : firstM l = some (evOf l, l.drop (9 + num l 7 2)) := by unfold firstM; exact if_pos ⟨by omega, hle, h⟩
    simp only [h, beq_self_eq_true] at e
    exact ⟨_, evOf l, l.drop (9 + num l 7 2), by rw [hf]; exact f _ _ e, fun y hy => by rw [hf] at hy; exact Option.some.inj hy⟩
  · have hf : firstM l = none := by unfold firstM; exact if_neg (by rw [h]; simp)
    simp only [h, show ((230 : Int) == 0) = false from rfl] at e
    exact ⟨_, evOf l, l.drop (9 + num l 7 2), by rw [hf]; exact f _ _ e, fun y hy => by rw [hf] at hy; cases hy⟩
/-- event.Decode. -/
def decM (l : List UInt8) : Option Ev := match firstM l with | some (x, []) => some x | _ => none
theorem dec42 (H : Heap) (l : List UInt8) (hl : l.length ≤ 140737488351232) : ∃ g, F42 [.string (bs l)] H = some ((match decM l with | some x => .tuple #[.agg x.cs.toArray, .int .i64 0] | none => .tuple #[.agg ev0.cs.toArray, .int .i64 230]), H ++ g) := by
  have f : ∀ m r, fnE Try.prog G42 Try.f42 cuts42 m [.string (bs l)] H = some r → F42 [.string (bs l)] H = some r := fun m r h => FN_of m h (Nat.le_of_ble_eq_true (by kernel_rfl))
  obtain ⟨m, _⟩ : ∃ m : Nat, m = 0 := ⟨0, rfl⟩
  have e := t42 (m + 1) (bs l) H
  have eb : AObj.cells ev0.cs 0 true = bx ev0 := rfl
  obtain ⟨g, x, r, e73, hx⟩ := first73 (H ++ [bx ev0]) l hl
  obtain ⟨H2, hH2⟩ : ∃ X, X = (H ++ [bx ev0]) ++ g := ⟨_, rfl⟩
  rw [← hH2] at e73
  have hj : H2[H.length]? = some (bx ev0) := by rw [hH2, List.append_assoc]; simp
  have hl2 : H.length < H2.length := (List.getElem?_eq_some_iff.1 hj).1
  have hj3 : (H2 ++ [bx x])[H.length]? = some (bx ev0) := by rw [List.getElem?_append_left hl2]; exact hj
  have hset : ∀ y : Ev, ((H2 ++ [bx x]).set H.length (bx y))[H.length]? = some (bx y) := fun y => List.getElem?_set_self (by rw [List.length_append]; omega)
  have c3 : R42 (m + 1) td42_3 [.pointer (some ⟨H.length, 0, none⟩)] (H2 ++ [bx x]) = some (.tuple #[.agg ev0.cs.toArray, .int .i64 230], (H2 ++ [bx x]).set H.length (bx ev0)) := by
    rw [c42_3]
    simp only [↓onS, ↓kInt_int, ↓kInt_u8, ↓kBool_bool, ↓kStr_str, ↓kTup_tup, ↓kPtr_ptr, ↓kSl_sl, ↓kAgg_agg, z_arr, ↓st_bx hj3, ↓ldc_bx (hset _), ↓cond3, range_cs]
  have fin : ∀ y : Ev, ∃ g', (H2 ++ [bx x]).set H.length (bx y) = H ++ g' := fun y => ext_app (by simp; omega) fun j hjl => by
    rw [List.getElem?_set_ne (by omega), List.getElem?_append_left (by omega), hH2, List.append_assoc]
    exact List.getElem?_append_left hjl
  simp only [z_cs, eb] at e
  simp only [↓onS, ↓kInt_int, ↓kInt_u8, ↓kBool_bool, ↓kStr_str, ↓kTup_tup, ↓kPtr_ptr, ↓kSl_sl, ↓kAgg_agg, ↓on_of e73, List.getElem?_toArray, List.getElem?_cons_zero, List.getElem?_cons_succ, size3, if_true, ↓st_bx (bx_at H2 ev0), bx_set, c3, bs_nil, bs_list] at e
  unfold decM
  cases hf : firstM l with
  | none =>
    simp only [hf, Option.isSome_none, Bool.not_false] at e
    obtain ⟨g', hg'⟩ := fin ev0
    rw [hg'] at e
    exact ⟨g', f _ _ e⟩
  | some y =>
    have hy := hx y hf
    subst hy
    simp only [hf, Option.isSome_some, Bool.not_true] at e
    cases r with
    | nil =>
      simp only [beq_self_eq_true, Bool.not_true, ↓ldc_bx (bx_at H2 x), ↓cond3, range_cs, ↓st_bx hj3, ↓ldc_bx (hset _)] at e
      obtain ⟨g', hg'⟩ := fin x
      rw [hg'] at e
      exact ⟨g', f _ _ e⟩
    | cons c r =>
      simp only [show ((c :: r) == ([] : List UInt8)) = false from rfl, Bool.not_false] at e
      obtain ⟨g', hg'⟩ := fin ev0
      rw [hg'] at e
      exact ⟨g', f _ _ e⟩
end Go.Proofs.Yticchkdbanhjfaa
