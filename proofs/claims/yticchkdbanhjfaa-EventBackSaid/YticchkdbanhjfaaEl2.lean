/- EventLogs: the bytes of whole numbers, written and appended. -/
import Derived.Test.YticchkdbanhjfaaEl1
set_option linter.unusedVariables false
set_option linter.unusedSimpArgs false
namespace Go.Proofs.Yticchkdbanhjfaa
open Go Go.RowKit Go.Proofs.Yticchkdbanhjfaa.Fw
theorem ext_app {H H' : Heap} (hl : H.length ≤ H'.length) (hk : ∀ j, j < H.length → H'[j]? = H[j]?) : ∃ g, H' = H ++ g := by
  refine ⟨H'.drop H.length, ?_⟩
  apply List.ext_getElem?
  intro i
  rcases Nat.lt_or_ge i H.length with h | h
  · rw [List.getElem?_append_left h, hk i h]
  · rw [List.getElem?_append_right h, List.getElem?_drop]
    congr 1; omega
theorem set_mid {l : List UInt8} {i k : Nat} {b : UInt8} (hb : l[i]? = some b) (z : Value) : (bc (l.take i) ++ List.replicate (k + 1) z).set i (.int .u8 (b.toNat : Int)) = bc (l.take (i + 1)) ++ List.replicate k z := by
  have hlt := (List.getElem?_eq_some_iff.1 hb).1
  have hl : (bc (l.take i)).length = i := by rw [bc_len, List.length_take]; omega
  rw [List.set_append_right _ _ (by omega), hl, Nat.sub_self, List.replicate_succ, List.set_cons_zero]
  have e : bc (l.take (i + 1)) = bc (l.take i) ++ [.int .u8 (b.toNat : Int)] := by
    rw [List.take_add_one, hb]
    simp [bc]
  rw [e, List.append_assoc]; rfl
theorem bc_range {l : List UInt8} {cs : List Value} {n : Nat} (h : cs.take n = bc l) (hn : n = l.length) : bytesOf (range cs 0 n) = some l := by
  unfold range
  rw [List.drop_zero, h, bytesOf_bc]
theorem put_loop {n v : Nat} (hn : n ≤ 6) (hn1 : 1 ≤ n) (H : Heap) : ∀ (k i m : Nat), i + k = n →
    R74 (m + k + 1) td74_100005 [.int .i64 (v : Int), .int .i64 (n : Int), .slice (some ⟨H.length, 0, none⟩) n n, .int .i64 (n : Int), .int .i64 (i : Int)] (H ++ [.cells (bc ((be n v).take i) ++ List.replicate k (.int .u8 0)) 1 true]) =
      some (.tuple #[.string (bs (be n v)), .int .i64 0], H ++ [.cells (bc (be n v)) 1 true])
  | 0, i, m, hi => by
    have hi : i = n := by omega
    subst hi
    rw [c74_100005]
    have et : (be i v).take i = be i v := List.take_of_length_le (by rw [be_len]; exact Nat.le_refl _)
    rw [decide_eq_false (by omega), et]
    simp only [List.replicate_zero, List.append_nil, ↓ldc_L0, ↓ldc_C0]
    rw [if_pos (by rw [bc_len, be_len]; omega), bc_range (l := be i v) (by rw [List.take_of_length_le (by rw [bc_len, be_len]; exact Nat.le_refl _)]) (be_len _ _).symm]
    rfl
  | k + 1, i, m, hi => by
    have hlt : i < n := by omega
    show R74 ((m + (k + 1)) + 1) _ _ _ = _
    rw [c74_100005]
    have ei : (i : Int).toNat = i := Int.toNat_natCast i
    have e1 : IntKind.i64.wrap (IntKind.i64.wrap ((n : Int) - 1) - (i : Int)) = ((n - 1 - i : Nat) : Int) := by
      rw [wrap_in (n := (n : Int) - 1) ⟨by omega, by omega⟩, wrap_in ⟨by omega, by omega⟩]; omega
    have e2 : IntKind.i64.wrap ((i : Int) + 1) = ((i + 1 : Nat) : Int) := by rw [wrap_in ⟨by omega, by omega⟩]; omega
    have hg := be_get (v := v) hlt
    have hb := byte_at (v := v) (j := n - 1 - i) (by omega) rfl
    rw [decide_eq_true (by omega)]
    simp only [↓onS, e1, ei, Nat.mul_one]
    rw [if_neg (by rw [wrap_in ⟨by omega, by omega⟩]; omega), if_pos ⟨by omega, by omega⟩, hb]
    have hblk : (H ++ [AObj.cells (bc ((be n v).take i) ++ List.replicate (k + 1) (.int .u8 0)) 1 true])[((⟨H.length, 0, none⟩ : Addr).add i).block]? = some (.cells (bc ((be n v).take i) ++ List.replicate (k + 1) (.int .u8 0)) 1 true) := by
      rw [add_block]; simp
    rw [st_one hblk (by rw [add_off]; simp [bc_len, be_len]; omega) rfl]
    rw [add_block, add_off, Nat.zero_add, set_mid hg, e2, List.set_append_right _ _ (Nat.le_refl _), Nat.sub_self, List.set_cons_zero]
    exact put_loop hn hn1 H k (i + 1) m (by omega)

theorem pow8 {n : Nat} (hn : n ≤ 6) : (2 : Int) ^ (min (IntKind.i64.wrap ((8 : Int) * (n : Int))).toNat IntKind.i64.bits) = ((256 ^ n : Nat) : Int) := by
  have e1 : IntKind.i64.wrap ((8 : Int) * (n : Int)) = ((8 * n : Nat) : Int) := by rw [wrap_in ⟨by omega, by omega⟩]; omega
  rw [e1, Int.toNat_natCast, Nat.min_eq_left (by show 8 * n ≤ 64; omega), Int.natCast_pow, Int.pow_mul]; rfl
/-- sum.Put. -/
theorem put74 (H : Heap) {n v : Nat} (hn : n ≤ 6) (hn1 : 1 ≤ n) (hv : v < 256 ^ n) : F74 [.int .i64 (v : Int), .int .i64 (n : Int)] H = some (.tuple #[.string (bs (be n v)), .int .i64 0], H ++ [.cells (bc (be n v)) 1 true]) := by
  have f : ∀ m r, fnE Try.prog G74 Try.f74 cuts74 m [.int .i64 (v : Int), .int .i64 (n : Int)] H = some r → F74 [.int .i64 (v : Int), .int .i64 (n : Int)] H = some r := fun m r h => FN_of m h (Nat.le_of_ble_eq_true (by kernel_rfl))
  refine f (0 + n + 1) _ ((t74 (0 + n + 1) v n H).trans ?_)
  have hd : ((v : Nat) : Int) / ((256 ^ n : Nat) : Int) = 0 := by
    rw [← Int.natCast_ediv, Nat.div_eq_of_lt hv]; rfl
  rw [decide_eq_false (show ¬ ((n : Int) < 1) by omega), decide_eq_false (show ¬ ((6 : Int) < (n : Int)) by omega), decide_eq_false (show ¬ ((v : Int) < 0) by omega), pow8 hn, hd, decide_eq_false (show ¬ ((0 : Int) < 0) by omega)]
  simp only []
  rw [if_neg (by rw [wrap_in ⟨by omega, by omega⟩]; omega), if_pos ⟨by omega, by omega, by omega, by omega⟩]
  have hz : zeroCellsOf (.int .u8 (0 : Int)) n = bc ((be n v).take 0) ++ List.replicate n (.int .u8 0) := by
    have : ∀ n : Nat, (List.replicate n ([.int .u8 0] : List Value)).flatten = List.replicate n (.int .u8 0) := fun n => by
      induction n with
      | zero => rfl
      | succ n ih => rw [List.replicate_succ, List.flatten_cons, ih]; rfl
    exact this n
  rw [Int.toNat_natCast, hz]
  exact put_loop hn hn1 H n 0 0 (by omega)

def ZB (e : Nat) : Prop := szOk e 1 5 = true
theorem zb5 : ZB (tyE Try.prog 5) := by unfold ZB; kernel_rfl
theorem c5' : Try.prog.cellsOf 5 = 1 := by kernel_rfl
theorem b5' : Try.prog.bytesOf 5 = 1 := by kernel_rfl
theorem firstC_end (H : Heap) (v : Value) (k : Nat → List Value → Option (Value × Heap)) : firstC (H ++ [.cells [v] 1 true]) 1 (.slice (some ⟨H.length, 0, none⟩) 1 1) k = k 1 [v] := by
  simp only [firstC, ↓ldc_L0, ↓ldc_C0]
  rfl
theorem text_loop {n v : Nat} (hn : n ≤ 6) (hn1 : 1 ≤ n) (H0 : Heap) : ∀ (k i m : Nat) (H : Heap) (a : Option Addr) (c : Nat), i + k = n → Vec 1 ZB H a i c (bc ((be n v).take i)) → H0.length ≤ H.length → (∀ j, j < H0.length → H[j]? = H0[j]?) → (∀ j, ab a = some j → H0.length ≤ j) →
    ∃ g, R76 (m + k + 1) td76_100003 [.int .i64 (v : Int), .slice a i c, .int .i64 ((k : Int) - 1)] H = some (.string (bs (be n v)), H0 ++ g)
  | 0, i, m, H, a, c, hi, hv, hl, hk, ha => by
    have hi : i = n := by omega
    subst hi
    obtain ⟨g, rfl⟩ := ext_app hl hk
    obtain ⟨j, cs, ez, _, rfl, hj, ht, hle⟩ := hv.at_ (by omega)
    refine ⟨g, ?_⟩
    rw [c76_100003]
    have et : (be i v).take i = be i v := List.take_of_length_le (by rw [be_len]; exact Nat.le_refl _)
    rw [et, Nat.mul_one] at ht
    rw [Nat.mul_one] at hle
    rw [decide_eq_false (by omega)]
    simp only [ldc, hj]
    rw [if_pos (by omega), bc_range ht (be_len _ _).symm]
    rfl
  | k + 1, i, m, H, a, c, hi, hv, hl, hk, ha => by
    have hlt : i < n := by omega
    have hg := be_get (v := v) hlt
    have e0 : (((k + 1 : Nat) : Int) - 1) = (k : Int) := by omega
    have ek : n - 1 - i = k := by omega
    rw [ek] at hg
    have hb := byte_at (v := v) (j := k) (by omega) rfl
    obtain ⟨a', c', H', h1, h2, h3, h4, h5⟩ := (hv.keep (H' := H ++ [.cells [.int .u8 ((by8 v k).toNat : Int)] 1 true]) (fun j hj => List.getElem?_append_left (hv.lt hj))).app (P := Try.prog) (e := 5) c5' (fun ez h => h) zb5 (n := 1) (nw := [.int .u8 ((by8 v k).toNat : Int)]) rfl (by rw [b5']; omega) (by omega)
    have e3 : bc ((be n v).take (i + 1)) = bc ((be n v).take i) ++ [.int .u8 ((by8 v k).toNat : Int)] := by
      rw [List.take_add_one, hg]; simp [bc]
    rw [← e3] at h2
    simp only [List.length_append, List.length_cons, List.length_nil] at h3 h4 h5
    obtain ⟨g, hgoal⟩ := text_loop hn hn1 H0 k (i + 1) m H' a' c' (by omega) h2 (by omega) (fun j hj => by
      rw [h4 j (by omega) (fun e => by have := ha j e; omega), List.getElem?_append_left (by omega)]; exact hk j hj) (fun j hj => by
      rcases h5 j hj with h | h
      · exact ha j h
      · omega)
    refine ⟨g, ?_⟩
    show R76 ((m + (k + 1)) + 1) _ _ _ = _
    rw [c76_100003, e0, decide_eq_true (show (0 : Int) ≤ (k : Int) by omega)]
    simp only []
    rw [if_neg (by rw [wrap_in ⟨by omega, by omega⟩]; omega), hb, firstC_end, h1]
    simp only [↓kSl_sl]
    have e4 : IntKind.i64.wrap ((k : Int) - 1) = (k : Int) - 1 := wrap_in ⟨by omega, by omega⟩
    rw [e4]
    exact hgoal
/-- sternpostref02.Text. -/
theorem text76 (H : Heap) {n v : Nat} (hn : n ≤ 6) (hn1 : 1 ≤ n) : ∃ g, F76 [.int .i64 (v : Int), .int .i64 (n : Int)] H = some (.string (bs (be n v)), H ++ g) := by
  obtain ⟨g, h⟩ := text_loop (v := v) hn hn1 H n 0 0 H none 0 (by omega) (by simpa [bc] using Vec.none 1 H) (Nat.le_refl _) (fun _ _ => rfl) (fun j hj => by cases hj)
  have f : ∀ m r, fnE Try.prog G76 Try.f76 cuts76 m [.int .i64 (v : Int), .int .i64 (n : Int)] H = some r → F76 [.int .i64 (v : Int), .int .i64 (n : Int)] H = some r := fun m r h => FN_of m h (Nat.le_of_ble_eq_true (by kernel_rfl))
  refine ⟨g, f (0 + n + 1) _ ((t76 (0 + n + 1) v n H).trans ?_)⟩
  rw [wrap_in ⟨by omega, by omega⟩]
  exact h
end Go.Proofs.Yticchkdbanhjfaa
