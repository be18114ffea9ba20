/- JudgeAmong: frames and packets of bytes: which are claims. -/
import Derived.Test.YticchkdbanhjfaaJa1
set_option linter.unusedVariables false
set_option linter.unusedSimpArgs false
namespace Go.Proofs.Yticchkdbanhjfaa
open Go Go.RowKit Go.Proofs.Yticchkdbanhjfaa.Fw
def part (l : List UInt8) (i n : Nat) : List UInt8 := (l.drop i).take n
def pnum (l : List UInt8) (i n : Nat) : Int := (numL (part l i n) : Int)
def fcells (l : List UInt8) : List Value := [.int .i64 (pnum l 0 6), .int .i64 (pnum l 6 6), .int .i64 (pnum l 12 2), .string (bs (l.drop 14))]
def f0 : List Value := [.int .i64 0, .int .i64 0, .int .i64 0, .string (⟨#[]⟩ : ByteArray)]
/-- Do bytes decode as a frame? -/
def isFrame (l : List UInt8) : Bool := !decide ((l.length : Int) < 14) && frameOk (pnum l 0 6) (pnum l 6 6) (pnum l 12 2) (l.drop 14).length
def frameV (l : List UInt8) : Value := match isFrame l with
  | true => .tuple #[.agg (fcells l).toArray, .int .i64 0]
  | false => .tuple #[.agg f0.toArray, .int .i64 30]
theorem dec79 (H : Heap) (l : List UInt8) (hl : l.length ≤ 9223372036854775807) : ∃ g, F79 [.string (bs l)] H = some (frameV l, H ++ g) := by
  have f : ∀ r, fnE Try.prog G79 Try.f79 cuts79 1 [.string (bs l)] H = some r → F79 [.string (bs l)] H = some r := fun r h => FN_of 1 h (Nat.le_of_ble_eq_true (by kernel_rfl))
  have e := t79 1 (bs l) H
  unfold frameV isFrame
  rcases Bool.eq_false_or_eq_true (decide ((l.length : Int) < 14)) with h1 | h1
  · simp (disch := (refine id ?_; with_unfolding_all rfl)) only [bs_size, h1, ↓onS, ↓kInt_int, ↓kInt_u8, ↓kBool_bool, ↓kStr_str, ↓kTup_tup, ↓kPtr_ptr, ↓kSl_sl, ↓kAgg_agg, List.getElem?_toArray, List.getElem?_cons_zero, List.getElem?_cons_succ, List.append_assoc, List.cons_append, List.nil_append, List.length_append, List.length_cons, List.length_nil, ↓ldc_L0, ↓ldc_L, ↓ldc_C0, ↓ldc_CS, ↓st_L0, ↓st_L, ↓st_CS, ↓st_C1, ↓st_CN, ↓ite_len, ↓ite_size, ldc_L0, ldc_L, ldc_C0, ldc_CS, st_L0, st_L, st_CS, st_C1, st_CN, range_all, List.set_cons_zero, List.set_cons_succ, unt_same] at e
    exact ⟨_, by simp only [h1]; exact f _ e⟩
  · have hlen : 14 ≤ l.length := by have := of_decide_eq_false h1; omega
    have g1 : ∀ H, F87 [.string (bs l), .int .i64 (0 : Int), .int .i64 (6 : Int)] H = _ := fun H => get87 H l 0 6 (by omega) (by omega) hl
    have g2 : ∀ H, F87 [.string (bs l), .int .i64 (6 : Int), .int .i64 (6 : Int)] H = _ := fun H => get87 H l 6 6 (by omega) (by omega) hl
    have g3 : ∀ H, F87 [.string (bs l), .int .i64 (12 : Int), .int .i64 (2 : Int)] H = _ := fun H => get87 H l 12 2 (by omega) (by omega) hl
    have c := fun H => check89 H (pnum l 0 6) (pnum l 6 6) (pnum l 12 2) (l.drop 14)
    have s14 : ∀ k : Value → R, slStr (bs l) (14 : Int) ((l.length : Nat) : Int) k = k (.string (bs (l.drop 14))) := fun k => by
      have := slStr_all (l := l) (x := 14) (i := 14) rfl hlen k
      rwa [bs_size] at this
    unfold pnum part at c
    simp (disch := (refine id ?_; with_unfolding_all rfl)) only [bs_size, h1, ↓onS, ↓kInt_int, ↓kInt_u8, ↓kBool_bool, ↓kStr_str, ↓kTup_tup, ↓kPtr_ptr, ↓kSl_sl, ↓kAgg_agg, List.getElem?_toArray, List.getElem?_cons_zero, List.getElem?_cons_succ, List.append_assoc, List.cons_append, List.nil_append, List.length_append, List.length_cons, List.length_nil, ↓ldc_L0, ↓ldc_L, ↓ldc_C0, ↓ldc_CS, ↓st_L0, ↓st_L, ↓st_CS, ↓st_C1, ↓st_CN, ↓ite_len, ↓ite_size, ldc_L0, ldc_L, ldc_C0, ldc_CS, st_L0, st_L, st_CS, st_C1, st_CN, range_all, List.set_cons_zero, List.set_cons_succ, unt_same, s14, ↓on_of (g1 _), ↓on_of (g2 _), ↓on_of (g3 _), ↓on_of (c _)] at e
    unfold pnum part
    rcases Bool.eq_false_or_eq_true (frameOk (numL ((l.drop 0).take 6)) (numL ((l.drop 6).take 6)) (numL ((l.drop 12).take 2)) (l.drop 14).length) with h2 | h2
    · simp (disch := (refine id ?_; with_unfolding_all rfl)) only [h2, bne_self_eq_false, ↓onS, ↓kInt_int, ↓kInt_u8, ↓kBool_bool, ↓kStr_str, ↓kTup_tup, ↓kPtr_ptr, ↓kSl_sl, ↓kAgg_agg, List.getElem?_toArray, List.getElem?_cons_zero, List.getElem?_cons_succ, List.append_assoc, List.cons_append, List.nil_append, List.length_append, List.length_cons, List.length_nil, ↓ldc_L0, ↓ldc_L, ↓ldc_C0, ↓ldc_CS, ↓st_L0, ↓st_L, ↓st_CS, ↓st_C1, ↓st_CN, ↓ite_len, ↓ite_size, ldc_L0, ldc_L, ldc_C0, ldc_CS, st_L0, st_L, st_CS, st_C1, st_CN, range_all, List.set_cons_zero, List.set_cons_succ, unt_same] at e
      exact ⟨_, by simp only [h1, h2]; exact f _ e⟩
    · simp (disch := (refine id ?_; with_unfolding_all rfl)) only [h2, show ((30 : Int) != 0) = true from rfl, ↓onS, ↓kInt_int, ↓kInt_u8, ↓kBool_bool, ↓kStr_str, ↓kTup_tup, ↓kPtr_ptr, ↓kSl_sl, ↓kAgg_agg, List.getElem?_toArray, List.getElem?_cons_zero, List.getElem?_cons_succ, List.append_assoc, List.cons_append, List.nil_append, List.length_append, List.length_cons, List.length_nil, ↓ldc_L0, ↓ldc_L, ↓ldc_C0, ↓ldc_CS, ↓st_L0, ↓st_L, ↓st_CS, ↓st_C1, ↓st_CN, ↓ite_len, ↓ite_size, ldc_L0, ldc_L, ldc_C0, ldc_CS, st_L0, st_L, st_CS, st_C1, st_CN, range_all, List.set_cons_zero, List.set_cons_succ, unt_same] at e
      exact ⟨_, by simp only [h1, h2]; exact f _ e⟩
theorem dec82 (H : Heap) (l : List UInt8) (hl : l.length ≤ 9223372036854775807) : ∃ g, F82 [.string (bs l)] H = some (frameV l, H ++ g) := by
  have f : ∀ r, fnE Try.prog G82 Try.f82 cuts82 1 [.string (bs l)] H = some r → F82 [.string (bs l)] H = some r := fun r h => FN_of 1 h (Nat.le_of_ble_eq_true (by kernel_rfl))
  have e := t82 1 (bs l) H
  unfold frameV isFrame
  rcases Bool.eq_false_or_eq_true (decide ((l.length : Int) < 14)) with h1 | h1
  · simp (disch := (refine id ?_; with_unfolding_all rfl)) only [bs_size, h1, ↓onS, ↓kInt_int, ↓kInt_u8, ↓kBool_bool, ↓kStr_str, ↓kTup_tup, ↓kPtr_ptr, ↓kSl_sl, ↓kAgg_agg, List.getElem?_toArray, List.getElem?_cons_zero, List.getElem?_cons_succ, List.append_assoc, List.cons_append, List.nil_append, List.length_append, List.length_cons, List.length_nil, ↓ldc_L0, ↓ldc_L, ↓ldc_C0, ↓ldc_CS, ↓st_L0, ↓st_L, ↓st_CS, ↓st_C1, ↓st_CN, ↓ite_len, ↓ite_size, ldc_L0, ldc_L, ldc_C0, ldc_CS, st_L0, st_L, st_CS, st_C1, st_CN, range_all, List.set_cons_zero, List.set_cons_succ, unt_same] at e
    exact ⟨_, by simp only [h1]; exact f _ e⟩
  · have hlen : 14 ≤ l.length := by have := of_decide_eq_false h1; omega
    have s1 : ∀ k : Value → R, slStr (bs l) (0 : Int) (6 : Int) k = _ := fun k => slStr_bs (i := 0) (j := 6) rfl rfl (by omega) (by omega) k
    have s2 : ∀ k : Value → R, slStr (bs l) (6 : Int) (12 : Int) k = _ := fun k => slStr_bs (i := 6) (j := 12) rfl rfl (by omega) (by omega) k
    have s3 : ∀ k : Value → R, slStr (bs l) (12 : Int) (14 : Int) k = _ := fun k => slStr_bs (i := 12) (j := 14) rfl rfl (by omega) (by omega) k
    have g1 := fun H => num94 H ((l.drop 0).take (6 - 0)) (by rw [List.length_take]; omega)
    have g2 := fun H => num94 H ((l.drop 6).take (12 - 6)) (by rw [List.length_take]; omega)
    have g3 := fun H => num94 H ((l.drop 12).take (14 - 12)) (by rw [List.length_take]; omega)
    have c := fun H => check95 H (pnum l 0 6) (pnum l 6 6) (pnum l 12 2) (l.drop 14)
    have s14 : ∀ k : Value → R, slStr (bs l) (14 : Int) ((l.length : Nat) : Int) k = k (.string (bs (l.drop 14))) := fun k => by
      have := slStr_all (l := l) (x := 14) (i := 14) rfl hlen k
      rwa [bs_size] at this
    unfold pnum part at c
    simp only [show 6 - 0 = 6 from rfl, show 12 - 6 = 6 from rfl, show 14 - 12 = 2 from rfl] at s1 s2 s3 g1 g2 g3
    simp (disch := (refine id ?_; with_unfolding_all rfl)) only [bs_size, h1, ↓onS, ↓kInt_int, ↓kInt_u8, ↓kBool_bool, ↓kStr_str, ↓kTup_tup, ↓kPtr_ptr, ↓kSl_sl, ↓kAgg_agg, List.getElem?_toArray, List.getElem?_cons_zero, List.getElem?_cons_succ, List.append_assoc, List.cons_append, List.nil_append, List.length_append, List.length_cons, List.length_nil, ↓ldc_L0, ↓ldc_L, ↓ldc_C0, ↓ldc_CS, ↓st_L0, ↓st_L, ↓st_CS, ↓st_C1, ↓st_CN, ↓ite_len, ↓ite_size, ldc_L0, ldc_L, ldc_C0, ldc_CS, st_L0, st_L, st_CS, st_C1, st_CN, range_all, List.set_cons_zero, List.set_cons_succ, unt_same, s1, s2, s3, s14, ↓on_of (g1 _), ↓on_of (g2 _), ↓on_of (g3 _), ↓on_of (c _)] at e
    unfold pnum part
    rcases Bool.eq_false_or_eq_true (frameOk (numL ((l.drop 0).take 6)) (numL ((l.drop 6).take 6)) (numL ((l.drop 12).take 2)) (l.drop 14).length) with h2 | h2
    · simp (disch := (refine id ?_; with_unfolding_all rfl)) only [h2, bne_self_eq_false, ↓onS, ↓kInt_int, ↓kInt_u8, ↓kBool_bool, ↓kStr_str, ↓kTup_tup, ↓kPtr_ptr, ↓kSl_sl, ↓kAgg_agg, List.getElem?_toArray, List.getElem?_cons_zero, List.getElem?_cons_succ, List.append_assoc, List.cons_append, List.nil_append, List.length_append, List.length_cons, List.length_nil, ↓ldc_L0, ↓ldc_L, ↓ldc_C0, ↓ldc_CS, ↓st_L0, ↓st_L, ↓st_CS, ↓st_C1, ↓st_CN, ↓ite_len, ↓ite_size, ldc_L0, ldc_L, ldc_C0, ldc_CS, st_L0, st_L, st_CS, st_C1, st_CN, range_all, List.set_cons_zero, List.set_cons_succ, unt_same] at e
      exact ⟨_, by simp only [h1, h2]; exact f _ e⟩
    · simp (disch := (refine id ?_; with_unfolding_all rfl)) only [h2, show ((30 : Int) != 0) = true from rfl, ↓onS, ↓kInt_int, ↓kInt_u8, ↓kBool_bool, ↓kStr_str, ↓kTup_tup, ↓kPtr_ptr, ↓kSl_sl, ↓kAgg_agg, List.getElem?_toArray, List.getElem?_cons_zero, List.getElem?_cons_succ, List.append_assoc, List.cons_append, List.nil_append, List.length_append, List.length_cons, List.length_nil, ↓ldc_L0, ↓ldc_L, ↓ldc_C0, ↓ldc_CS, ↓st_L0, ↓st_L, ↓st_CS, ↓st_C1, ↓st_CN, ↓ite_len, ↓ite_size, ldc_L0, ldc_L, ldc_C0, ldc_CS, st_L0, st_L, st_CS, st_C1, st_CN, range_all, List.set_cons_zero, List.set_cons_succ, unt_same] at e
      exact ⟨_, by simp only [h1, h2]; exact f _ e⟩
end Go.Proofs.Yticchkdbanhjfaa
