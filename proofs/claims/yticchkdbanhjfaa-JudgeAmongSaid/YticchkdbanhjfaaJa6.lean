/- JudgeAmong: what it answers. -/
import Derived.Test.YticchkdbanhjfaaJa5
import Derived.Test.YticchkdbanhjfaaJs2
set_option linter.unusedVariables false
set_option linter.unusedSimpArgs false
namespace Go.Proofs.Yticchkdbanhjfaa
open Go Go.RowKit Go.Proofs.Yticchkdbanhjfaa.Fw
theorem cells3 : Try.prog.cellsOf 3 = 1 := by kernel_rfl
theorem bytes3 : Try.prog.bytesOf 3 = 8 := by kernel_rfl
theorem firstC_at {β : Type} {H : Heap} {sz j o l c : Nat} {cs : List Value} {e : Nat} {own : Bool} (h : H[j]? = some (.cells cs e own)) (hl : o + l * sz ≤ cs.length) (k : Nat → List Value → Option β) :
    firstC H sz (.slice (some ⟨j, o, none⟩) l c) k = k l (range cs o (l * sz)) := by
  simp only [firstC, ldc, h]
  rw [if_pos hl]
def ic (xs : List Int) : List Value := xs.map fun n => .int .i64 n

/-- The places of claims from one on. -/
def claimsAt (p : ByteArray → Bool) : List ByteArray → Int → List Int
  | [], _ => []
  | s :: xs, i => match p s with | true => i :: claimsAt p xs (i + 1) | false => claimsAt p xs (i + 1)
theorem bs_self (s : ByteArray) : bs s.data.toList = s := by cases s; rfl

/-- All that lay there ahead goes on, but for what is owned. -/
structure Keep (n : Nat) (H H' : Heap) : Prop where
  len : H.length ≤ H'.length
  at_ : ∀ k, k < n → H'[k]? = H[k]?

theorem claims34 {p : ByteArray → Bool} (hp : ∀ H (s : ByteArray), s.size ≤ 9223372036854775807 → ∃ g, F59 [.string s] H = some (.bool (p s), H ++ g)) {n : Nat} {H0 : Heap} {a : Option Addr} {l c : Nat} {xs : List ByteArray} (hX : Strs H0 a l xs) (hl : l * 16 ≤ 140737488355328) (hs : ∀ s ∈ xs, s.size ≤ 9223372036854775807) (hA : ∀ x, a = some x → x.block < n) :
    ∀ (d i : Nat), i + d = l → ∀ (H : Heap) (ao : Option Addr) (lo co : Nat) (out : List Int), Keep n H0 H → n ≤ H.length → lo ≤ i → Vec 1 H ao lo co (ic out) → (∀ j, ab ao = some j → n ≤ j) →
      ∃ m H' ao' co', R34 m td34_100003 [.slice ao lo co, .slice a l c, .int .i64 (l : Int), .int .i64 (i : Int)] H = some (.slice ao' (lo + (claimsAt p (xs.drop i) i).length) co', H') ∧ Keep n H0 H' ∧ n ≤ H'.length ∧ Vec 1 H' ao' (lo + (claimsAt p (xs.drop i) i).length) co' (ic (out ++ claimsAt p (xs.drop i) i)) ∧ (∀ j, ab ao' = some j → n ≤ j) := by
  intro d
  induction d with
  | zero =>
    intro i hi H ao lo co out hK hn hlo hV hF
    have : i = l := by omega
    subst this
    have hd : xs.drop i = [] := by rw [List.drop_eq_nil_iff, hX.len]; exact Nat.le_refl _
    refine ⟨1, H, ao, co, ?_, hK, hn, ?_, hF⟩
    · rw [c34_100003, hd]
      simp only [show decide ((i : Int) < (i : Int)) = false from decide_eq_false (by omega), claimsAt, List.length_nil, Nat.add_zero]
    · rw [hd]; simpa [claimsAt] using hV
  | succ d ih =>
    intro i hi H ao lo co out hK hn hlo hV hF
    have hlt : i < xs.length := by have := hX.len; omega
    obtain ⟨x, cs, own, rfl, h1, h2⟩ := hX.get (i := i) (s := xs[i]) (by simp [hlt])
    have hxn := hA x rfl
    have g1 : H[x.block]? = some (.cells cs 1 own) := (hK.at_ _ hxn).trans h1
    have hin : (0 : Int) ≤ (i : Int) ∧ (i : Int) < ((l : Nat) : Int) := by omega
    obtain ⟨g, e59⟩ := hp H xs[i] (hs xs[i] (List.getElem_mem hlt))
    have hd : xs.drop i = xs[i] :: xs.drop (i + 1) := by rw [List.drop_eq_getElem_cons hlt]
    have e2 : cs[x.off + i * 1]? = some (.string xs[i]) := by rw [Nat.mul_one]; exact h2
    rcases Bool.eq_false_or_eq_true (p xs[i]) with hb | hb
    · -- a claim
      have V1 : Vec 1 (H ++ g ++ [.cells [.int .i64 (i : Int)] 1 true]) ao lo co (ic out) := hV.keep fun j hj => by
        have := hV.lt hj
        rw [List.getElem?_append_left (by simp; omega), List.getElem?_append_left this]
      obtain ⟨a1, c1, H1, app1, V2, L1, K1, N1⟩ := V1.app (P := Try.prog) (e := 3) cells3 (n := 1) (nw := [.int .i64 (i : Int)]) rfl (by rw [bytes3]; omega) (by omega)
      have f1 : ∀ K : Nat → List Value → R, firstC (H ++ g ++ [.cells [.int .i64 (i : Int)] 1 true]) 1 (.slice (some ⟨(H ++ g).length, 0, none⟩) 1 1) K = K 1 [.int .i64 (i : Int)] := fun K => by
        rw [firstC_at (cs := [.int .i64 (i : Int)]) (e := 1) (own := true) (by simp) (by simp)]
        rfl
      have hL : (H ++ g ++ [AObj.cells [.int .i64 (i : Int)] 1 true]).length = H.length + g.length + 1 := by simp [Nat.add_assoc]
      have hK1 : Keep n H0 H1 := ⟨by have := hK.len; omega, fun k hk => by
        rw [K1 k (by omega) (fun e => by have := hF k e; omega), List.getElem?_append_left (by simp; omega), List.getElem?_append_left (by omega)]
        exact hK.at_ k hk⟩
      have hF1 : ∀ j, ab a1 = some j → n ≤ j := fun j hj => by
        rcases N1 j hj with e | e
        · exact hF j e
        · omega
      obtain ⟨m, H', ao', co', e3, k3, n3, v3, f3⟩ := ih (i + 1) (by omega) H1 a1 (lo + 1) c1 (out ++ [(i : Int)]) hK1 (by omega) (by omega) (by simpa [ic] using V2) hF1
      have hc : claimsAt p (xs.drop i) i = (i : Int) :: claimsAt p (xs.drop (i + 1)) ((i + 1 : Nat) : Int) := by
        rw [hd]; simp only [claimsAt, hb]; rw [Int.natCast_succ]
      have hl2 : lo + 1 + (claimsAt p (xs.drop (i + 1)) ((i + 1 : Nat) : Int)).length = lo + (claimsAt p (xs.drop i) i).length := by rw [hc, List.length_cons]; omega
      rw [hl2] at e3 v3
      refine ⟨m + 1 + 1, H', ao', co', ?_, k3, n3, ?_, f3⟩
      · have c7 := c34_7 m a1 (lo + 1) c1 (some x) l c (l : Int) (i : Int) H1
        rw [wrap_succ (by omega)] at c7
        rw [c34_100003]
        rw [hb] at e59
        simp only [decide_eq_true hin.2, ↓onS, ↓kInt_int, ↓kInt_u8, ↓kBool_bool, ↓kStr_str, ↓kTup_tup, ↓kPtr_ptr, ↓kSl_sl, ↓kAgg_agg, ↓if_pos hin, add_block, add_off, Int.toNat_natCast, ↓ldc_at g1, e2, ↓on_of e59, f1, app1, c7]
        exact e3
      · have := v3
        rw [List.append_assoc] at this
        rw [show out ++ ([(i : Int)] ++ claimsAt p (xs.drop (i + 1)) ((i + 1 : Nat) : Int)) = out ++ claimsAt p (xs.drop i) i by rw [hc]; rfl] at this
        exact this
    · have V1 : Vec 1 (H ++ g) ao lo co (ic out) := hV.keep fun j hj => List.getElem?_append_left (hV.lt hj)
      have hK1 : Keep n H0 (H ++ g) := ⟨by have := hK.len; simp; omega, fun k hk => by rw [List.getElem?_append_left (by omega)]; exact hK.at_ k hk⟩
      obtain ⟨m, H', ao', co', e3, k3, n3, v3, f3⟩ := ih (i + 1) (by omega) (H ++ g) ao lo co out hK1 (by simp; omega) (by omega) V1 hF
      have hc : claimsAt p (xs.drop i) i = claimsAt p (xs.drop (i + 1)) ((i + 1 : Nat) : Int) := by
        rw [hd]; simp only [claimsAt, hb]; rw [Int.natCast_succ]
      rw [← hc] at e3 v3
      refine ⟨m + 1 + 1, H', ao', co', ?_, k3, n3, v3, f3⟩
      have c7 := c34_7 m ao lo co (some x) l c (l : Int) (i : Int) (H ++ g)
      rw [wrap_succ (by omega)] at c7
      rw [c34_100003]
      rw [hb] at e59
      simp only [decide_eq_true hin.2, ↓onS, ↓kInt_int, ↓kInt_u8, ↓kBool_bool, ↓kStr_str, ↓kTup_tup, ↓kPtr_ptr, ↓kSl_sl, ↓kAgg_agg, ↓if_pos hin, add_block, add_off, Int.toNat_natCast, ↓ldc_at g1, e2, ↓on_of e59, c7]
      exact e3
theorem claims35 {p : ByteArray → Bool} (hp : ∀ H (s : ByteArray), s.size ≤ 9223372036854775807 → ∃ g, F60 [.string s] H = some (.bool (p s), H ++ g)) {n : Nat} {H0 : Heap} {a : Option Addr} {l c : Nat} {xs : List ByteArray} (hX : Strs H0 a l xs) (hl : l * 16 ≤ 140737488355328) (hs : ∀ s ∈ xs, s.size ≤ 9223372036854775807) (hA : ∀ x, a = some x → x.block < n) :
    ∀ (d i : Nat), i + d = l → ∀ (H : Heap) (ao : Option Addr) (lo co : Nat) (out : List Int), Keep n H0 H → n ≤ H.length → lo ≤ i → Vec 1 H ao lo co (ic out) → (∀ j, ab ao = some j → n ≤ j) →
      ∃ m H' ao' co', R35 m td35_100003 [.slice a l c, .slice ao lo co, .int .i64 (i : Int)] H = some (.slice ao' (lo + (claimsAt p (xs.drop i) i).length) co', H') ∧ Keep n H0 H' ∧ n ≤ H'.length ∧ Vec 1 H' ao' (lo + (claimsAt p (xs.drop i) i).length) co' (ic (out ++ claimsAt p (xs.drop i) i)) ∧ (∀ j, ab ao' = some j → n ≤ j) := by
  intro d
  induction d with
  | zero =>
    intro i hi H ao lo co out hK hn hlo hV hF
    have : i = l := by omega
    subst this
    have hd : xs.drop i = [] := by rw [List.drop_eq_nil_iff, hX.len]; exact Nat.le_refl _
    refine ⟨1, H, ao, co, ?_, hK, hn, ?_, hF⟩
    · rw [c35_100003, hd]
      simp only [show decide ((i : Int) < (i : Int)) = false from decide_eq_false (by omega), claimsAt, List.length_nil, Nat.add_zero]
    · rw [hd]; simpa [claimsAt] using hV
  | succ d ih =>
    intro i hi H ao lo co out hK hn hlo hV hF
    have hlt : i < xs.length := by have := hX.len; omega
    obtain ⟨x, cs, own, rfl, h1, h2⟩ := hX.get (i := i) (s := xs[i]) (by simp [hlt])
    have hxn := hA x rfl
    have g1 : H[x.block]? = some (.cells cs 1 own) := (hK.at_ _ hxn).trans h1
    have hin : (0 : Int) ≤ (i : Int) ∧ (i : Int) < ((l : Nat) : Int) := by omega
    obtain ⟨g, e59⟩ := hp H xs[i] (hs xs[i] (List.getElem_mem hlt))
    have hd : xs.drop i = xs[i] :: xs.drop (i + 1) := by rw [List.drop_eq_getElem_cons hlt]
    have e2 : cs[x.off + i * 1]? = some (.string xs[i]) := by rw [Nat.mul_one]; exact h2
    rcases Bool.eq_false_or_eq_true (p xs[i]) with hb | hb
    · -- a claim
      have V1 : Vec 1 (H ++ g ++ [.cells [.int .i64 (i : Int)] 1 true]) ao lo co (ic out) := hV.keep fun j hj => by
        have := hV.lt hj
        rw [List.getElem?_append_left (by simp; omega), List.getElem?_append_left this]
      obtain ⟨a1, c1, H1, app1, V2, L1, K1, N1⟩ := V1.app (P := Try.prog) (e := 3) cells3 (n := 1) (nw := [.int .i64 (i : Int)]) rfl (by rw [bytes3]; omega) (by omega)
      have f1 : ∀ K : Nat → List Value → R, firstC (H ++ g ++ [.cells [.int .i64 (i : Int)] 1 true]) 1 (.slice (some ⟨(H ++ g).length, 0, none⟩) 1 1) K = K 1 [.int .i64 (i : Int)] := fun K => by
        rw [firstC_at (cs := [.int .i64 (i : Int)]) (e := 1) (own := true) (by simp) (by simp)]
        rfl
      have hL : (H ++ g ++ [AObj.cells [.int .i64 (i : Int)] 1 true]).length = H.length + g.length + 1 := by simp [Nat.add_assoc]
      have hK1 : Keep n H0 H1 := ⟨by have := hK.len; omega, fun k hk => by
        rw [K1 k (by omega) (fun e => by have := hF k e; omega), List.getElem?_append_left (by simp; omega), List.getElem?_append_left (by omega)]
        exact hK.at_ k hk⟩
      have hF1 : ∀ j, ab a1 = some j → n ≤ j := fun j hj => by
        rcases N1 j hj with e | e
        · exact hF j e
        · omega
      obtain ⟨m, H', ao', co', e3, k3, n3, v3, f3⟩ := ih (i + 1) (by omega) H1 a1 (lo + 1) c1 (out ++ [(i : Int)]) hK1 (by omega) (by omega) (by simpa [ic] using V2) hF1
      have hc : claimsAt p (xs.drop i) i = (i : Int) :: claimsAt p (xs.drop (i + 1)) ((i + 1 : Nat) : Int) := by
        rw [hd]; simp only [claimsAt, hb]; rw [Int.natCast_succ]
      have hl2 : lo + 1 + (claimsAt p (xs.drop (i + 1)) ((i + 1 : Nat) : Int)).length = lo + (claimsAt p (xs.drop i) i).length := by rw [hc, List.length_cons]; omega
      rw [hl2] at e3 v3
      refine ⟨m + 1 + 1, H', ao', co', ?_, k3, n3, ?_, f3⟩
      · have c7 := c35_4 m (some x) l c a1 (lo + 1) c1 (i : Int) H1
        rw [wrap_succ (by omega)] at c7
        rw [c35_100003]
        rw [hb] at e59
        simp only [decide_eq_true hin.2, ↓onS, ↓kInt_int, ↓kInt_u8, ↓kBool_bool, ↓kStr_str, ↓kTup_tup, ↓kPtr_ptr, ↓kSl_sl, ↓kAgg_agg, ↓if_pos hin, add_block, add_off, Int.toNat_natCast, ↓ldc_at g1, e2, ↓on_of e59, f1, app1, c7]
        exact e3
      · have := v3
        rw [List.append_assoc] at this
        rw [show out ++ ([(i : Int)] ++ claimsAt p (xs.drop (i + 1)) ((i + 1 : Nat) : Int)) = out ++ claimsAt p (xs.drop i) i by rw [hc]; rfl] at this
        exact this
    · have V1 : Vec 1 (H ++ g) ao lo co (ic out) := hV.keep fun j hj => List.getElem?_append_left (hV.lt hj)
      have hK1 : Keep n H0 (H ++ g) := ⟨by have := hK.len; simp; omega, fun k hk => by rw [List.getElem?_append_left (by omega)]; exact hK.at_ k hk⟩
      obtain ⟨m, H', ao', co', e3, k3, n3, v3, f3⟩ := ih (i + 1) (by omega) (H ++ g) ao lo co out hK1 (by simp; omega) (by omega) V1 hF
      have hc : claimsAt p (xs.drop i) i = claimsAt p (xs.drop (i + 1)) ((i + 1 : Nat) : Int) := by
        rw [hd]; simp only [claimsAt, hb]; rw [Int.natCast_succ]
      rw [← hc] at e3 v3
      refine ⟨m + 1 + 1, H', ao', co', ?_, k3, n3, v3, f3⟩
      have c7 := c35_4 m (some x) l c ao lo co (i : Int) (H ++ g)
      rw [wrap_succ (by omega)] at c7
      rw [c35_100003]
      rw [hb] at e59
      simp only [decide_eq_true hin.2, ↓onS, ↓kInt_int, ↓kInt_u8, ↓kBool_bool, ↓kStr_str, ↓kTup_tup, ↓kPtr_ptr, ↓kSl_sl, ↓kAgg_agg, ↓if_pos hin, add_block, add_off, Int.toNat_natCast, ↓ldc_at g1, e2, ↓on_of e59, c7]
      exact e3

/-- Two rows of the same numbers. -/
theorem same33 {H : Heap} {a1 a2 : Option Addr} {l c1 c2 : Nat} {out : List Int} (h1 : Vec 1 H a1 l c1 (ic out)) (h2 : Vec 1 H a2 l c2 (ic out)) (hl : l ≤ 140737488355328) : F33 [.slice a1 l c1, .slice a2 l c2] H = some (.bool true, H) := by
  have hlen : out.length = l := by have := h1.1; simp [ic] at this; exact this
  have loop : ∀ (d i : Nat), i + d = l → ∃ m, R33 m td33_100004 [.slice a1 l c1, .slice a2 l c2, .int .i64 (i : Int)] H = some (.bool true, H) := by
    intro d
    induction d with
    | zero =>
      intro i hi
      refine ⟨1, ?_⟩
      rw [c33_100004]
      simp only [show decide ((i : Int) < (l : Int)) = false from decide_eq_false (by omega)]
    | succ d ih =>
      intro i hi
      obtain ⟨m, hm⟩ := ih (i + 1) (by omega)
      refine ⟨m + 1, ?_⟩
      obtain ⟨j1, cs1, rfl, b1, t1, le1⟩ := h1.at_ (by omega)
      obtain ⟨j2, cs2, rfl, b2, t2, le2⟩ := h2.at_ (by omega)
      have hin : (0 : Int) ≤ (i : Int) ∧ (i : Int) < ((l : Nat) : Int) := by omega
      have x1 : cs1[0 + i * 1]? = some (.int .i64 out[i]) := by
        rw [Nat.zero_add, Nat.mul_one, ← List.getElem?_take_of_lt (show i < l * 1 by omega), t1]; simp [ic, hlen, show i < l by omega]
      have x2 : cs2[0 + i * 1]? = some (.int .i64 out[i]) := by
        rw [Nat.zero_add, Nat.mul_one, ← List.getElem?_take_of_lt (show i < l * 1 by omega), t2]; simp [ic, hlen, show i < l by omega]
      rw [c33_100004]
      simp only [decide_eq_true hin.2, ↓onS, ↓kInt_int, ↓kInt_u8, ↓kBool_bool, ↓kStr_str, ↓kTup_tup, ↓kPtr_ptr, ↓kSl_sl, ↓kAgg_agg, ↓if_pos hin, add_block, add_off, Int.toNat_natCast, ↓ldc_at b1, ↓ldc_at b2, x1, x2, bne_self_eq_false, wrap_succ (n := i) (by omega)]
      exact hm
  obtain ⟨m, hm⟩ := loop l 0 (by omega)
  refine FN_of m ((t33 m a1 l c1 a2 l c2 H).trans ?_) (Nat.le_of_ble_eq_true (by kernel_rfl))
  rw [show (((l : Nat) : Int) != ((l : Nat) : Int)) = false from bne_self_eq_false _]
  exact hm

/-- Among, by the document. -/
theorem among32 {H : Heap} {a b : Option Addr} {l l2 c c2 : Nat} {xs ys : List ByteArray} (hX : Strs H a l xs) (hY : Strs H b l2 ys) (hl : l < 9223372036854775807) (hl2 : l2 < 9223372036854775807) :
    F32 [.slice a l c, .slice b l2 c2] H = some (.tuple #[.int .i64 ((among xs ys).1 : Int), .bool (among xs ys).2], H) := by
  have xl := hX.len
  have yl := hY.len
  -- at text i of the first, place j of the second
  have loop : ∀ (d i j : Nat), (l - i) + (l2 - j) = d → i ≤ l → j ≤ l2 →
      (∃ m, R32 m td32_100003 [.slice a l c, .slice b l2 c2, .int .i64 (j : Int), .int .i64 (i : Int)] H = some (.tuple #[.int .i64 ((i + (among (xs.drop i) (ys.drop j)).1 : Nat) : Int), .bool (among (xs.drop i) (ys.drop j)).2], H)) ∧
      (i < l → ∃ m, R32 m td32_100005 [.slice a l c, .slice b l2 c2, .int .i64 (j : Int), .int .i64 (i : Int)] H = some (.tuple #[.int .i64 ((i + (among (xs.drop i) (ys.drop j)).1 : Nat) : Int), .bool (among (xs.drop i) (ys.drop j)).2], H)) := by
    intro d
    induction d using Nat.strongRecOn with
    | _ d ih =>
      intro i j hd hi hj
      have inner : i < l → ∃ m, R32 m td32_100005 [.slice a l c, .slice b l2 c2, .int .i64 (j : Int), .int .i64 (i : Int)] H = some (.tuple #[.int .i64 ((i + (among (xs.drop i) (ys.drop j)).1 : Nat) : Int), .bool (among (xs.drop i) (ys.drop j)).2], H) := by
        intro hil
        have hlt : i < xs.length := by omega
        have hdx : xs.drop i = xs[i] :: xs.drop (i + 1) := by rw [List.drop_eq_getElem_cons hlt]
        by_cases hjl : j < l2
        · have hlt2 : j < ys.length := by omega
          have hdy : ys.drop j = ys[j] :: ys.drop (j + 1) := by rw [List.drop_eq_getElem_cons hlt2]
          obtain ⟨x, cs, own, ex, h1, h2⟩ := hX.get (i := i) (s := xs[i]) (by simp [hlt])
          obtain ⟨y, cs2, own2, ey, g1, g2⟩ := hY.get (i := j) (s := ys[j]) (by simp [hlt2])
          have hin : (0 : Int) ≤ (i : Int) ∧ (i : Int) < ((l : Nat) : Int) := by omega
          have hin2 : (0 : Int) ≤ (j : Int) ∧ (j : Int) < ((l2 : Nat) : Int) := by omega
          have e1 : cs[x.off + i * 1]? = some (.string xs[i]) := by rw [Nat.mul_one]; exact h2
          have e2 : cs2[y.off + j * 1]? = some (.string ys[j]) := by rw [Nat.mul_one]; exact g2
          rcases Bool.eq_false_or_eq_true (ys[j].toList == xs[i].toList) with hq | hq
          · -- the same text
            have hq' : (xs[i].toList == ys[j].toList) = true := by rw [beq_iff_eq] at hq ⊢; exact hq.symm
            have hidx : index xs[i] (ys.drop j) = some 0 := by rw [hdy]; simp only [index, hq', if_true]
            have ham : among (xs.drop i) (ys.drop j) = ((among (xs.drop (i + 1)) (ys.drop (j + 1))).1 + 1, (among (xs.drop (i + 1)) (ys.drop (j + 1))).2) := by
              rw [hdx, among, hidx]; simp only [List.drop_drop, Nat.zero_add]
            obtain ⟨⟨m, hm⟩, _⟩ := ih ((l - (i + 1)) + (l2 - (j + 1))) (by omega) (i + 1) (j + 1) rfl (by omega) (by omega)
            refine ⟨m + 1 + 1, ?_⟩
            have c7 := c32_7 m a l c b l2 c2 (j : Int) (i : Int) H
            rw [wrap_succ (by omega), wrap_succ (by omega), hm, show ((j : Int) == ((l2 : Nat) : Int)) = false by simp; omega] at c7
            rw [c32_100005]
            subst ex; subst ey
            simp only [decide_eq_true hin2.2, ↓onS, ↓kInt_int, ↓kInt_u8, ↓kBool_bool, ↓kStr_str, ↓kTup_tup, ↓kPtr_ptr, ↓kSl_sl, ↓kAgg_agg, ↓if_pos hin, ↓if_pos hin2, add_block, add_off, Int.toNat_natCast, ↓ldc_at h1, ↓ldc_at g1, e1, e2, hq, Bool.not_true, c7]
            rw [ham]
            simp only [Nat.add_assoc, Nat.add_comm 1]
          · have hq' : (xs[i].toList == ys[j].toList) = false := by
              rcases Bool.eq_false_or_eq_true (xs[i].toList == ys[j].toList) with h | h
              · rw [beq_iff_eq] at h; rw [h] at hq; simp at hq
              · exact h
            have ham : among (xs.drop i) (ys.drop j) = among (xs.drop i) (ys.drop (j + 1)) := by
              rw [hdx, among, among, hdy]
              simp only [index, hq', Bool.false_eq_true, if_false]
              cases index xs[i] (ys.drop (j + 1)) with
              | none => rfl
              | some k => simp only [Option.map_some, List.drop_succ_cons]
            obtain ⟨_, hin'⟩ := ih ((l - i) + (l2 - (j + 1))) (by omega) i (j + 1) rfl hi (by omega)
            obtain ⟨m, hm⟩ := hin' hil
            refine ⟨m + 1, ?_⟩
            rw [c32_100005]
            subst ex; subst ey
            simp only [decide_eq_true hin2.2, ↓onS, ↓kInt_int, ↓kInt_u8, ↓kBool_bool, ↓kStr_str, ↓kTup_tup, ↓kPtr_ptr, ↓kSl_sl, ↓kAgg_agg, ↓if_pos hin, ↓if_pos hin2, add_block, add_off, Int.toNat_natCast, ↓ldc_at h1, ↓ldc_at g1, e1, e2, hq, Bool.not_false, wrap_succ (n := j) (by omega)]
            rw [ham]
            exact hm
        · have hjj : j = l2 := by omega
          subst hjj
          have hdy : ys.drop j = [] := by rw [List.drop_eq_nil_iff]; omega
          refine ⟨0 + 1 + 1, ?_⟩
          have c7 := c32_7 0 a l c b j c2 (j : Int) (i : Int) H
          rw [show ((j : Int) == ((j : Nat) : Int)) = true by simp] at c7
          rw [c32_100005]
          simp only [show decide ((j : Int) < (j : Int)) = false from decide_eq_false (by omega), c7]
          rw [hdx, hdy]
          rfl
      refine ⟨?_, inner⟩
      by_cases hil : i < l
      · obtain ⟨m, hm⟩ := inner hil
        refine ⟨m + 1, ?_⟩
        rw [c32_100003]
        simp only [show decide ((i : Int) < (l : Int)) = true from decide_eq_true (by omega)]
        exact hm
      · have : i = l := by omega
        subst this
        refine ⟨1, ?_⟩
        rw [c32_100003]
        simp only [show decide ((i : Int) < (i : Int)) = false from decide_eq_false (by omega)]
        have hd : xs.drop i = [] := by rw [List.drop_eq_nil_iff]; omega
        rw [hd]; rfl
  obtain ⟨⟨m, hm⟩, _⟩ := loop (l - 0 + (l2 - 0)) 0 0 rfl (by omega) (by omega)
  refine FN_of m ((t32 m a l c b l2 c2 H).trans ?_) (Nat.le_of_ble_eq_true (by kernel_rfl))
  simpa using hm
end Go.Proofs.Yticchkdbanhjfaa
