/- JudgeAmong: the program's decoder of ARP; claims. -/
import Derived.Test.YticchkdbanhjfaaJa3
set_option linter.unusedVariables false
set_option linter.unusedSimpArgs false
namespace Go.Proofs.Yticchkdbanhjfaa
open Go Go.RowKit Go.Proofs.Yticchkdbanhjfaa.Fw
def hp (H : Heap) (cs ps : List Value) (g : Heap) : Heap := H ++ (.cells a0 0 true :: .cells cs 0 true :: .cells ps 2 true :: g)
theorem hp_1 (H : Heap) (cs ps : List Value) (g : Heap) : (hp H cs ps g)[H.length + 1]? = some (.cells cs 0 true) := by
  unfold hp; rw [List.getElem?_append_right (by omega)]; simp
theorem hp_2 (H : Heap) (cs ps : List Value) (g : Heap) : (hp H cs ps g)[H.length + 2]? = some (.cells ps 2 true) := by
  unfold hp; rw [List.getElem?_append_right (by omega)]; simp
theorem hp_app (H : Heap) (cs ps : List Value) (g l : Heap) : hp H cs ps g ++ l = hp H cs ps (g ++ l) := by simp [hp]
theorem hp_len (H : Heap) (cs ps : List Value) (g : Heap) : H.length + 3 ≤ (hp H cs ps g).length := by simp [hp]
theorem hp_set (H : Heap) (cs cs' ps : List Value) (g : Heap) : (hp H cs ps g).set (H.length + 1) (.cells cs' 0 true) = hp H cs' ps g := by
  unfold hp; rw [List.set_append_right _ _ (by omega)]; simp

theorem step80 {H : Heap} {cs ps : List Value} {l : List UInt8} (hl : l.length ≤ 9223372036854775807) (i at_ w : Nat) (hi : i < 5) (hcs : cs.length = 5) (hps : ps.length = 10) (hr : range ps (i * 2) 2 = [.pointer (some ⟨H.length + 1, i, none⟩), .int .i64 (w : Int)]) (hw : 1 ≤ w ∧ w ≤ 6) (ha : at_ + w ≤ l.length)
    (p1 p2 : Option Addr) (g : Heap) (m : Nat) :
    ∃ g', R80 (m + 1) td80_100006 [.string (bs l), .pointer p1, .pointer p2, .int .i64 (at_ : Int), .slice (some ⟨H.length + 2, 0, none⟩) 5 5, .int .i64 5, .int .i64 (i : Int)] (hp H cs ps g) =
      R80 m td80_100006 [.string (bs l), .pointer p1, .pointer p2, .int .i64 ((at_ + w : Nat) : Int), .slice (some ⟨H.length + 2, 0, none⟩) 5 5, .int .i64 5, .int .i64 ((i + 1 : Nat) : Int)] (hp H (cs.set i (.int .i64 (pnum l at_ w))) ps g') := by
  refine ⟨g ++ [.cells [.pointer (some ⟨H.length + 1, i, none⟩), .int .i64 (w : Int)] 0 true] ++ [.cells (bc ((l.drop at_).take w)) 1 true], ?_⟩
  have hin : (0 : Int) ≤ (i : Int) ∧ (i : Int) < ((5 : Nat) : Int) := by omega
  have e1 : ((⟨H.length + 2, 0, none⟩ : Addr).add ((i : Int).toNat * 2)).block = H.length + 2 := by rw [add_block]
  have e2 : ((⟨H.length + 2, 0, none⟩ : Addr).add ((i : Int).toNat * 2)).off = i * 2 := by rw [add_off, Int.toNat_natCast]; show 0 + i * 2 = _; omega
  have hle : i * 2 + 2 ≤ ps.length := by omega
  have g87 := fun H => get87 H l at_ w hw ha hl
  have x1 : ∀ K : List Value → R, ldc (hp H cs ps g ++ [.cells [.pointer (some ⟨H.length + 1, i, none⟩), .int .i64 (w : Int)] 0 true]) (hp H cs ps g).length K = K [.pointer (some ⟨H.length + 1, i, none⟩), .int .i64 (w : Int)] := fun K => ldc_new _ _ _ _ _
  have hl3 := hp_len H cs ps g
  have s1 : ∀ K : Value → Heap → R, st 1 (hp H cs ps g ++ [.cells [.pointer (some ⟨H.length + 1, i, none⟩), .int .i64 (w : Int)] 0 true] ++ [.cells (bc ((l.drop at_).take w)) 1 true]) ⟨H.length + 1, i, none⟩ (.int .i64 (pnum l at_ w)) K = K undef (hp H (cs.set i (.int .i64 (pnum l at_ w))) ps (g ++ [.cells [.pointer (some ⟨H.length + 1, i, none⟩), .int .i64 (w : Int)] 0 true] ++ [.cells (bc ((l.drop at_).take w)) 1 true])) := fun K => by
    rw [hp_app, hp_app, st_one (cs := cs) (e := 0) (hp_1 _ _ _ _) (by rw [hcs]; exact hi) rfl, hp_set]
  have x2 : (hp H (cs.set i (.int .i64 (pnum l at_ w))) ps (g ++ [.cells [.pointer (some ⟨H.length + 1, i, none⟩), .int .i64 (w : Int)] 0 true] ++ [.cells (bc ((l.drop at_).take w)) 1 true]))[(hp H cs ps g).length]? = some (.cells [.pointer (some ⟨H.length + 1, i, none⟩), .int .i64 (w : Int)] 0 true) := by
    have : (hp H cs ps g).length = (hp H (cs.set i (.int .i64 (pnum l at_ w))) ps g).length := by simp [hp]
    rw [this, ← hp_app, ← hp_app, List.append_assoc, List.getElem?_append_right (Nat.le_refl _)]
    simp
  have x2' : ∀ K : List Value → R, ldc (hp H (cs.set i (.int .i64 (pnum l at_ w))) ps (g ++ [.cells [.pointer (some ⟨H.length + 1, i, none⟩), .int .i64 (w : Int)] 0 true] ++ [.cells (bc ((l.drop at_).take w)) 1 true])) (hp H cs ps g).length K = K [.pointer (some ⟨H.length + 1, i, none⟩), .int .i64 (w : Int)] := fun K => ldc_at x2 K
  have w1 : IntKind.i64.wrap ((at_ : Int) + (w : Int)) = ((at_ + w : Nat) : Int) := by rw [wrap_in ⟨by omega, by omega⟩]; omega
  have sz : ∀ K : Value → Heap → R, st 2 (hp H cs ps g ++ [.cells [.pointer none, .int .i64 0] 0 true]) ⟨(hp H cs ps g).length, 0, none⟩ (.agg ([.pointer (some ⟨H.length + 1, i, none⟩), .int .i64 (w : Int)] : List Value).toArray) K = K undef (hp H cs ps g ++ [.cells [.pointer (some ⟨H.length + 1, i, none⟩), .int .i64 (w : Int)] 0 true]) := fun K => by
    rw [st_L0, st_CN rfl rfl]
  have lt5 : decide ((i : Int) < 5) = true := decide_eq_true (by omega)
  have u : ∀ K : R, unt (hp H cs ps g ++ [.cells [.pointer (some ⟨H.length + 1, i, none⟩), .int .i64 (w : Int)] 0 true]) (hp H cs ps g ++ [.cells [.pointer (some ⟨H.length + 1, i, none⟩), .int .i64 (w : Int)] 0 true] ++ [.cells (bc ((l.drop at_).take w)) 1 true]) (hp H cs ps g).length K = K := fun K => unt_app _ _ (by simp) K
  have i0 : ∀ K : Value → R, onSome ([.pointer (some ⟨H.length + 1, i, none⟩), .int .i64 (w : Int)] : List Value)[0]? K = K (.pointer (some ⟨H.length + 1, i, none⟩)) := fun K => onS _ _
  have i1 : ∀ K : Value → R, onSome ([.pointer (some ⟨H.length + 1, i, none⟩), .int .i64 (w : Int)] : List Value)[0 + 1]? K = K (.int .i64 (w : Int)) := fun K => onS _ _
  rw [c80_100006]
  simp only [lt5, ↓onS, ↓kInt_int, ↓kInt_u8, ↓kBool_bool, ↓kStr_str, ↓kTup_tup, ↓kPtr_ptr, ↓kSl_sl, ↓kAgg_agg, ↓if_pos hin, e1, e2, ↓ldc_at (hp_2 H cs ps g), ↓if_pos hle, hr, sz, ↓x1, ↓i0, ↓i1, ↓on_of (g87 _)]
  simp only [u, ↓onS, ↓kInt_int, ↓kInt_u8, ↓kBool_bool, ↓kStr_str, ↓kTup_tup, ↓kPtr_ptr, ↓kSl_sl, ↓kAgg_agg, List.getElem?_toArray, List.getElem?_cons_zero, List.getElem?_cons_succ]
  have s1' := s1
  unfold pnum part at s1' x2'
  simp only [s1', x2', ↓i1, ↓onS, ↓kInt_int, ↓kInt_u8, ↓kBool_bool, ↓kStr_str, ↓kTup_tup, ↓kPtr_ptr, ↓kSl_sl, ↓kAgg_agg, w1, wrap_succ (n := i) (by omega)]
  rfl

def ps0 (b : Nat) : List Value := [.pointer (some ⟨b, 0, none⟩), .int .i64 (2 : Nat), .pointer (some ⟨b, 1, none⟩), .int .i64 (6 : Nat), .pointer (some ⟨b, 2, none⟩), .int .i64 (4 : Nat), .pointer (some ⟨b, 3, none⟩), .int .i64 (6 : Nat), .pointer (some ⟨b, 4, none⟩), .int .i64 (4 : Nat)]
theorem loop80 {H : Heap} {l : List UInt8} (hl : l.length ≤ 9223372036854775807) (hlen : 28 ≤ l.length) (m : Nat) : ∃ g', R80 (m + 6) td80_100006 [.string (bs l), .pointer (some ⟨H.length, 0, none⟩), .pointer (some ⟨H.length + 1, 0, none⟩), .int .i64 6, .slice (some ⟨H.length + 2, 0, none⟩) 5 5, .int .i64 5, .int .i64 0] (hp H a0 (ps0 (H.length + 1)) []) = some ((match (arpOf l).ok with | true => .tuple #[.agg (arpOf l).cs.toArray, .int .i64 0] | false => .tuple #[.agg a0.toArray, .int .i64 40]), H ++ g') := by
  obtain ⟨g1, e1⟩ := step80 (H := H) (cs := a0) (ps := ps0 (H.length + 1)) hl 0 6 2 (by decide) rfl rfl rfl (by decide) (by omega) (some ⟨H.length, 0, none⟩) (some ⟨H.length + 1, 0, none⟩) [] (m + 5)
  obtain ⟨g2, e2⟩ := step80 (H := H) (cs := (a0.set 0 (.int .i64 (pnum l 6 2)))) (ps := ps0 (H.length + 1)) hl 1 8 6 (by decide) rfl rfl rfl (by decide) (by omega) (some ⟨H.length, 0, none⟩) (some ⟨H.length + 1, 0, none⟩) g1 (m + 4)
  obtain ⟨g3, e3⟩ := step80 (H := H) (cs := ((a0.set 0 (.int .i64 (pnum l 6 2))).set 1 (.int .i64 (pnum l 8 6)))) (ps := ps0 (H.length + 1)) hl 2 14 4 (by decide) rfl rfl rfl (by decide) (by omega) (some ⟨H.length, 0, none⟩) (some ⟨H.length + 1, 0, none⟩) g2 (m + 3)
  obtain ⟨g4, e4⟩ := step80 (H := H) (cs := (((a0.set 0 (.int .i64 (pnum l 6 2))).set 1 (.int .i64 (pnum l 8 6))).set 2 (.int .i64 (pnum l 14 4)))) (ps := ps0 (H.length + 1)) hl 3 18 6 (by decide) rfl rfl rfl (by decide) (by omega) (some ⟨H.length, 0, none⟩) (some ⟨H.length + 1, 0, none⟩) g3 (m + 2)
  obtain ⟨g5, e5⟩ := step80 (H := H) (cs := ((((a0.set 0 (.int .i64 (pnum l 6 2))).set 1 (.int .i64 (pnum l 8 6))).set 2 (.int .i64 (pnum l 14 4))).set 3 (.int .i64 (pnum l 18 6)))) (ps := ps0 (H.length + 1)) hl 4 24 4 (by decide) rfl rfl rfl (by decide) (by omega) (some ⟨H.length, 0, none⟩) (some ⟨H.length + 1, 0, none⟩) g4 (m + 1)
  have all := e1.trans (e2.trans (e3.trans (e4.trans e5)))
  have ecs : (((((a0.set 0 (.int .i64 (pnum l 6 2))).set 1 (.int .i64 (pnum l 8 6))).set 2 (.int .i64 (pnum l 14 4))).set 3 (.int .i64 (pnum l 18 6))).set 4 (.int .i64 (pnum l 24 4))) = (arpOf l).cs := rfl
  rw [ecs] at all
  obtain ⟨g, e92⟩ := made92 (hp H (arpOf l).cs (ps0 (H.length + 1)) g5) (arpOf l)
  have hx : ∀ K : List Value → R, ldc (hp H (arpOf l).cs (ps0 (H.length + 1)) g5) (H.length + 1) K = K (arpOf l).cs := fun K => ldc_at (hp_1 _ _ _ _) K
  have fin := c80_100006 m (bs l) (some ⟨H.length, 0, none⟩) (some ⟨H.length + 1, 0, none⟩) (28 : Int) (some ⟨H.length + 2, 0, none⟩) 5 5 5 5 (hp H (arpOf l).cs (ps0 (H.length + 1)) g5)
  have l5 : 0 + 5 ≤ (arpOf l).cs.length := by simp [Arp.cs]
  have r5 : range (arpOf l).cs 0 5 = (arpOf l).cs := rfl
  simp only [show decide ((5 : Int) < 5) = false from rfl, ↓onS, ↓kInt_int, ↓kInt_u8, ↓kBool_bool, ↓kStr_str, ↓kTup_tup, ↓kPtr_ptr, ↓kSl_sl, ↓kAgg_agg, ↓hx, ↓if_pos l5, r5, ↓on_of e92] at fin
  rw [hp_app] at fin
  unfold hp at fin
  rcases Bool.eq_false_or_eq_true (arpOf l).ok with h5 | h5
  · have r5' : range (arpOf l).cs 0 5 = (arpOf l).cs := rfl
    unfold Arp.cs a0 at fin
    simp (disch := (refine id ?_; with_unfolding_all rfl)) only [h5, ↓onS, ↓kInt_int, ↓kInt_u8, ↓kBool_bool, ↓kStr_str, ↓kTup_tup, ↓kPtr_ptr, ↓kSl_sl, ↓kAgg_agg, List.getElem?_toArray, List.getElem?_cons_zero, List.getElem?_cons_succ, List.append_assoc, List.cons_append, List.nil_append, List.length_append, List.length_cons, List.length_nil, ↓ldc_L0, ↓ldc_L, ↓ldc_C0, ↓ldc_CS, ↓st_L0, ↓st_L, ↓st_CS, ↓st_C1, ↓st_CN, ↓ite_len, ↓ite_size, ldc_L0, ldc_L, ldc_C0, ldc_CS, st_L0, st_L, st_CS, st_C1, st_CN, range_all, List.set_cons_zero, List.set_cons_succ, unt_same] at fin
    exact ⟨_, by simp only [h5]; exact all.trans fin⟩
  · unfold a0 at fin
    simp (disch := (refine id ?_; with_unfolding_all rfl)) only [h5, ↓onS, ↓kInt_int, ↓kInt_u8, ↓kBool_bool, ↓kStr_str, ↓kTup_tup, ↓kPtr_ptr, ↓kSl_sl, ↓kAgg_agg, List.getElem?_toArray, List.getElem?_cons_zero, List.getElem?_cons_succ, List.append_assoc, List.cons_append, List.nil_append, List.length_append, List.length_cons, List.length_nil, ↓ldc_L0, ↓ldc_L, ↓ldc_C0, ↓ldc_CS, ↓st_L0, ↓st_L, ↓st_CS, ↓st_C1, ↓st_CN, ↓ite_len, ↓ite_size, ldc_L0, ldc_L, ldc_C0, ldc_CS, st_L0, st_L, st_CS, st_C1, st_CN, range_all, List.set_cons_zero, List.set_cons_succ, unt_same] at fin
    exact ⟨_, by simp only [h5]; exact all.trans fin⟩

theorem dec80 (H : Heap) (l : List UInt8) (hl : l.length ≤ 9223372036854775807) : ∃ g, F80 [.string (bs l)] H = some (arpV l, H ++ g) := by
  have f : ∀ m r, fnE Try.prog G80 Try.f80 cuts80 m [.string (bs l)] H = some r → F80 [.string (bs l)] H = some r := fun m r h => FN_of m h (Nat.le_of_ble_eq_true (by kernel_rfl))
  obtain ⟨m, hm⟩ : ∃ m : Nat, m = 0 := ⟨0, rfl⟩
  have e := t80 (m + 6) (bs l) H
  obtain ⟨g2, e2⟩ := dec80_2 (m + 5) H
  unfold arpV isArp
  unfold a0 at e2
  simp (disch := (refine id ?_; with_unfolding_all rfl)) only [bs_size, ↓onS, ↓kInt_int, ↓kInt_u8, ↓kBool_bool, ↓kStr_str, ↓kTup_tup, ↓kPtr_ptr, ↓kSl_sl, ↓kAgg_agg, List.getElem?_toArray, List.getElem?_cons_zero, List.getElem?_cons_succ, List.append_assoc, List.cons_append, List.nil_append, List.length_append, List.length_cons, List.length_nil] at e
  rcases Bool.eq_false_or_eq_true (decide ((l.length : Int) < 28)) with h1 | h1
  · simp only [h1] at e
    exact ⟨_, by simp only [h1]; exact f _ _ (e.trans e2)⟩
  rcases Bool.eq_false_or_eq_true (decide ((46 : Int) < (l.length : Int))) with h3 | h3
  · simp only [h1, h3] at e
    exact ⟨_, by simp only [h1, h3]; exact f _ _ (e.trans e2)⟩
  have hlen : 28 ≤ l.length := by have := of_decide_eq_false h1; omega
  have e90 := fun H => prefix90 H l headL (by simp [headL]; omega)
  have hl6 : headL.length = 6 := rfl
  rw [hl6] at e90
  rcases Bool.eq_false_or_eq_true (part l 0 6 == headL) with h4 | h4
  case inr =>
    simp only [h1, h3, bs_nil6, ↓on_of (e90 _), ↓onS, ↓kInt_int, ↓kInt_u8, ↓kBool_bool, ↓kStr_str, ↓kTup_tup, ↓kPtr_ptr, ↓kSl_sl, ↓kAgg_agg, h4, Bool.not_false] at e
    exact ⟨_, by simp only [h1, h3, h4]; exact f _ _ (e.trans e2)⟩
  have e91 : ∀ (H : Heap) (b : Nat), F91 [.pointer (some ⟨b, 0, none⟩)] H = some (.slice (some ⟨H.length, 0, none⟩) 5 5, H ++ [.cells (ps0 b) 2 true]) := fun H b => by
    refine FN_of 1 ((t91 1 (some ⟨b, 0, none⟩) H).trans ?_) (Nat.le_of_ble_eq_true (by kernel_rfl))
    simp only [↓onS, ↓kInt_int, ↓kInt_u8, ↓kBool_bool, ↓kStr_str, ↓kTup_tup, ↓kPtr_ptr, ↓kSl_sl, ↓kAgg_agg]
    rfl
  obtain ⟨g', e'⟩ := loop80 (H := H) hl hlen m
  have l1 : (H ++ [AObj.cells a0 0 true]).length = H.length + 1 := by simp
  unfold a0 at l1
  have l2 : (H ++ [AObj.cells a0 0 true] ++ [AObj.cells a0 0 true]).length = H.length + 2 := by simp
  unfold a0 at l2
  simp only [h1, h3, bs_nil6, ↓on_of (e90 _), ↓onS, ↓kInt_int, ↓kInt_u8, ↓kBool_bool, ↓kStr_str, ↓kTup_tup, ↓kPtr_ptr, ↓kSl_sl, ↓kAgg_agg, h4, Bool.not_true, ↓on_of (e91 _ _), l1] at e
  have eh : H ++ ([AObj.cells a0 0 true] ++ ([AObj.cells a0 0 true] ++ [AObj.cells (ps0 (H.length + 1)) 2 true])) = hp H a0 (ps0 (H.length + 1)) [] := by simp [hp]
  unfold a0 at eh e'
  simp only [l2, List.append_assoc] at e
  have l3 : (H ++ ([AObj.cells [Value.int .i64 0, .int .i64 0, .int .i64 0, .int .i64 0, .int .i64 0] 0 true] ++ [AObj.cells [Value.int .i64 0, .int .i64 0, .int .i64 0, .int .i64 0, .int .i64 0] 0 true])).length = H.length + 2 := by simp
  rw [l3, eh] at e
  have e6 := f _ _ (e.trans e')
  exact ⟨g', by simp only [h1, h3, h4, Bool.not_false, Bool.true_and]; exact e6⟩
end Go.Proofs.Yticchkdbanhjfaa
