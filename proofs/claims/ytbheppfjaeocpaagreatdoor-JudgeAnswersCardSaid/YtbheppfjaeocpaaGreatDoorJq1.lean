/- r2: whether a server answered as a session does (JudgeAnswers). -/
import Derived.Test.YtbheppfjaeocpaaGreatDoorTE
import Derived.Test.YtbheppfjaeocpaaGreatDoorRe6
set_option linter.unusedVariables false
set_option linter.unusedSimpArgs false
namespace Go.Proofs.YtbheppfjaeocpaaGreatDoor
open Go Go.RowKit Go.Lib Go.Proofs.YtbheppfjaeocpaaGreatDoor.Fw
/-! ### Texts among others -/
def tix (n : Tx) : List Tx → Option Nat
  | [] => none
  | k :: r => if n = k then some 0 else (tix n r).map (· + 1)
theorem tix_cons (n k : Tx) (r : List Tx) : tix n (k :: r) = if n = k then some 0 else (tix n r).map (· + 1) := by simp [tix]
section
variable {H : Heap} {b o c : Nat} {cs : List Value} {ez : Nat} {own : Bool} {xs : List Tx}
theorem add_at (j o n : Nat) : ((⟨j, o, none⟩ : Addr).add n).block = j ∧ ((⟨j, o, none⟩ : Addr).add n).off = o + n := ⟨add_block _ _, add_off _ _⟩
theorem idx52 (h : H[b]? = some (.cells cs ez own)) (hx : ∀ i t, xs[i]? = some t → cs[o + i]? = some (.string (bs t))) (hl : xs.length ≤ 1000) (n : Tx) : F52 [.slice (some ⟨b, o, none⟩) xs.length c, .string (bs n)] H = some (.int .i64 (ixV (tix n xs)), H) := by
  have key : ∀ (r i m : Nat), i + r = xs.length → R52 (m + r + 1) td52_100002 [.slice (some ⟨b, o, none⟩) xs.length c, .string (bs n), .int .i64 ((xs.length : Nat) : Int), .int .i64 ((i : Nat) : Int)] H = some (.int .i64 (ixV ((tix n (xs.drop i)).map (· + i))), H) := by
    intro r
    induction r with
    | zero =>
      intro i m hi
      rw [c52_100002, decide_eq_false (show ¬ ((i : Nat) : Int) < ((xs.length : Nat) : Int) by omega), List.drop_eq_nil_of_le (by omega)]
      rfl
    | succ r ih =>
      intro i m hi
      have hlt : i < xs.length := by omega
      have hxi : xs[i]? = some (xs[i]'hlt) := by simp [hlt]
      have hc := hx i _ hxi
      rw [show m + (r + 1) + 1 = (m + r + 1) + 1 by omega, c52_100002, decide_eq_true (show ((i : Nat) : Int) < ((xs.length : Nat) : Int) by omega)]
      simp only [↓onS, ↓kInt_int, ↓kInt_u8, ↓kBool_bool, ↓kStr_str, ↓kTup_tup, ↓kPtr_ptr, ↓kSl_sl, ↓kAgg_agg, ↓kMp_mp]
      rw [if_pos ⟨by omega, by omega⟩, Int.toNat_natCast, Nat.mul_one, (add_at b o i).1, (add_at b o i).2]
      simp only [↓ldc_at h, hc, ↓onS, ↓kInt_int, ↓kInt_u8, ↓kBool_bool, ↓kStr_str, ↓kTup_tup, ↓kPtr_ptr, ↓kSl_sl, ↓kAgg_agg, ↓kMp_mp, bs_list, wrap_succ (show i + 1 < 9223372036854775808 by omega)]
      rw [List.drop_eq_getElem_cons hlt, tix_cons]
      by_cases e : n = xs[i]'hlt
      · rw [if_pos e, show (n == xs[i]'hlt) = true by simpa using e]
        simp [ixV]
      · rw [if_neg e, show (n == xs[i]'hlt) = false by simpa using e]
        have hm : ∀ o : Option Nat, (o.map (· + 1)).map (· + i) = o.map (· + (i + 1)) := fun o => by
          cases o with
          | none => rfl
          | some q => simp; omega
        rw [hm]
        exact ih (i + 1) m (by omega)
  refine FN_of (0 + xs.length + 1) ((t52 _ (some ⟨b, o, none⟩) xs.length c (bs n) H).trans ((key xs.length 0 0 (by omega)).trans ?_)) (Nat.le_of_ble_eq_true (by kernel_rfl))
  simp
end
def tA : Tx := [97]
def tB : Tx := [98]
def tC : Tx := [99]
theorem works24 (H : Heap) : ∃ H', F24 [] H = some (.bool true, H') ∧ Ch (fun _ => False) H H' := by
  have two : ∀ (H : Heap) (b d : Nat) (x y : Tx) (xs : List Tx) (m : Nat), H[b]? = some (.cells [.string (bs x), .string (bs y)] 1 true) → H[d]? = some (.cells [.string (bs tA), .string (bs tB), .string (bs tC)] 1 true) →
      (x = tA → y = tC → F36 [.slice (some ⟨b, 0, none⟩) 2 2, .slice (some ⟨d, 0, none⟩) 3 3] H = some (.tuple #[.int .i64 2, .bool true], H)) ∧ (x = tC → y = tA → F36 [.slice (some ⟨b, 0, none⟩) 2 2, .slice (some ⟨d, 0, none⟩) 3 3] H = some (.tuple #[.int .i64 1, .bool false], H)) := by
    intro H b d x y xs m hb hd
    have i3 := fun n => idx52 (c := 3) (xs := [tA, tB, tC]) (o := 0) hd (fun i t q => by
      match i, q with
      | 0, q => cases q; rfl
      | 1, q => cases q; rfl
      | 2, q => cases q; rfl) (by decide) n
    have i2 := fun n => idx52 (c := 2) (xs := [tB, tC]) (o := 1) hd (fun i t q => by
      match i, q with
      | 0, q => cases q; rfl
      | 1, q => cases q; rfl) (by decide) n
    have i0 := fun n => idx52 (c := 0) (xs := []) (o := 3) hd (fun i t q => by cases q) (by decide) n
    have s1 : ∀ K : Value → R, slSl H 1 (some ⟨d, 0, none⟩) 3 3 1 3 K = K (.slice (some ⟨d, 1, none⟩) 2 2) := fun K => by
      simp only [slSl, esOk, hd]; rfl
    have s2 : ∀ K : Value → R, slSl H 1 (some ⟨d, 1, none⟩) 2 2 2 2 K = K (.slice (some ⟨d, 3, none⟩) 0 0) := fun K => by
      simp only [slSl, esOk, hd]; rfl
    have s3 : ∀ K : Value → R, slSl H 1 (some ⟨d, 0, none⟩) 3 3 3 3 K = K (.slice (some ⟨d, 3, none⟩) 0 0) := fun K => by
      simp only [slSl, esOk, hd]; rfl
    have a1 : F52 [.slice (some ⟨d, 0, none⟩) 3 3, .string (bs tA)] H = some (.int .i64 0, H) := i3 tA
    have a3 : F52 [.slice (some ⟨d, 0, none⟩) 3 3, .string (bs tC)] H = some (.int .i64 2, H) := i3 tC
    have b2 : F52 [.slice (some ⟨d, 1, none⟩) 2 2, .string (bs tC)] H = some (.int .i64 1, H) := i2 tC
    have d0 : F52 [.slice (some ⟨d, 3, none⟩) 0 0, .string (bs tA)] H = some (.int .i64 (-1), H) := i0 tA
    have w1 : IntKind.i64.wrap (0 + 1) = 1 := by decide
    have w2 : IntKind.i64.wrap (1 + 1) = 2 := by decide
    have w3 : IntKind.i64.wrap (2 + 1) = 3 := by decide
    have o1 : ((⟨b, 0, none⟩ : Addr).add ((0 : Int).toNat * 1)).block = b ∧ ((⟨b, 0, none⟩ : Addr).add ((0 : Int).toNat * 1)).off = 0 := ⟨rfl, rfl⟩
    have o2 : ((⟨b, 0, none⟩ : Addr).add ((1 : Int).toNat * 1)).block = b ∧ ((⟨b, 0, none⟩ : Addr).add ((1 : Int).toNat * 1)).off = 1 := ⟨rfl, rfl⟩
    have e0 : ∀ (m : Nat) a l c, R36 (m + 1) td36_100002 [.slice (some ⟨b, 0, none⟩) 2 2, .slice a l c, .slice (some ⟨b, 0, none⟩) 2 2, .int .i64 2, .int .i64 0] H = _ := fun m a l c => c36_100002 m (some ⟨b, 0, none⟩) 2 2 a l c (some ⟨b, 0, none⟩) 2 2 2 0 H
    have e1 : ∀ (m : Nat) a l c, R36 (m + 1) td36_100002 [.slice (some ⟨b, 0, none⟩) 2 2, .slice a l c, .slice (some ⟨b, 0, none⟩) 2 2, .int .i64 2, .int .i64 1] H = _ := fun m a l c => c36_100002 m (some ⟨b, 0, none⟩) 2 2 a l c (some ⟨b, 0, none⟩) 2 2 2 1 H
    have e2 : ∀ (m : Nat) a l c, R36 (m + 1) td36_100002 [.slice (some ⟨b, 0, none⟩) 2 2, .slice a l c, .slice (some ⟨b, 0, none⟩) 2 2, .int .i64 2, .int .i64 2] H = _ := fun m a l c => c36_100002 m (some ⟨b, 0, none⟩) 2 2 a l c (some ⟨b, 0, none⟩) 2 2 2 2 H
    have t0 : decide ((0 : Int) < 2) = true := rfl
    have t1 : decide ((1 : Int) < 2) = true := rfl
    have t2 : decide ((2 : Int) < 2) = false := rfl
    have p0 : (0 ≤ (0 : Int) ∧ (0 : Int) < ((2 : Nat) : Int)) = True := by simp
    have p1 : (0 ≤ (1 : Int) ∧ (1 : Int) < ((2 : Nat) : Int)) = True := by simp
    have n0 : decide ((0 : Int) < 0) = false := rfl
    have n1 : decide ((1 : Int) < 0) = false := rfl
    have n2 : decide ((2 : Int) < 0) = false := rfl
    have nm : decide ((-1 : Int) < 0) = true := rfl
    obtain ⟨k, hk⟩ : ∃ k : Nat, k = 0 := ⟨0, rfl⟩
    have q2 : ((2 : Nat) : Int) = 2 := rfl
    have q3 : ((3 : Nat) : Int) = 3 := rfl
    constructor
    · intro hx hy
      subst hx hy
      refine FN_of (k + 1 + 1 + 1) ((t36 (k + 1 + 1 + 1) _ 2 2 _ 3 3 H).trans ?_) (Nat.le_of_ble_eq_true (by kernel_rfl))
      rw [q2, e0]
      simp only [t0, ↓onS, ↓kInt_int, ↓kInt_u8, ↓kBool_bool, ↓kStr_str, ↓kTup_tup, ↓kPtr_ptr, ↓kSl_sl, ↓kAgg_agg, ↓kMp_mp, p0, if_true, o1.1, o1.2, ↓ldc_at hb, List.getElem?_toArray, List.getElem?_cons_zero, List.getElem?_cons_succ, ↓on_of a1, n0, w1, q3, s1]
      rw [e1]
      simp only [t1, ↓onS, ↓kInt_int, ↓kInt_u8, ↓kBool_bool, ↓kStr_str, ↓kTup_tup, ↓kPtr_ptr, ↓kSl_sl, ↓kAgg_agg, ↓kMp_mp, p1, if_true, o2.1, o2.2, ↓ldc_at hb, List.getElem?_toArray, List.getElem?_cons_zero, List.getElem?_cons_succ, ↓on_of b2, n1, w2, q2, s2]
      rw [e2]
      simp only [t2]
      rw [if_pos ⟨by decide, by decide⟩]; rfl
    · intro hx hy
      subst hx hy
      refine FN_of (k + 1 + 1 + 1) ((t36 (k + 1 + 1 + 1) _ 2 2 _ 3 3 H).trans ?_) (Nat.le_of_ble_eq_true (by kernel_rfl))
      rw [q2, e0]
      simp only [t0, ↓onS, ↓kInt_int, ↓kInt_u8, ↓kBool_bool, ↓kStr_str, ↓kTup_tup, ↓kPtr_ptr, ↓kSl_sl, ↓kAgg_agg, ↓kMp_mp, p0, if_true, o1.1, o1.2, ↓ldc_at hb, List.getElem?_toArray, List.getElem?_cons_zero, List.getElem?_cons_succ, ↓on_of a3, n2, w3, w1, q3, s3]
      rw [e1]
      simp only [t1, ↓onS, ↓kInt_int, ↓kInt_u8, ↓kBool_bool, ↓kStr_str, ↓kTup_tup, ↓kPtr_ptr, ↓kSl_sl, ↓kAgg_agg, ↓kMp_mp, p1, if_true, o2.1, o2.2, ↓ldc_at hb, List.getElem?_toArray, List.getElem?_cons_zero, List.getElem?_cons_succ, ↓on_of d0, nm]
  obtain ⟨G0, hG0⟩ : ∃ X, X = H ++ [.cells [.string (bs tA), .string (bs tC)] 1 true] := ⟨_, rfl⟩
  obtain ⟨G1, hG1⟩ : ∃ X, X = G0 ++ [.cells [.string (bs tA), .string (bs tB), .string (bs tC)] 1 true] := ⟨_, rfl⟩
  obtain ⟨G9, hG9⟩ : ∃ X, X = G1 ++ [.cells [.string (bs tC), .string (bs tA)] 1 true] := ⟨_, rfl⟩
  obtain ⟨G10, hG10⟩ : ∃ X, X = G9 ++ [.cells [.string (bs tA), .string (bs tB), .string (bs tC)] 1 true] := ⟨_, rfl⟩
  have g0 : G0[H.length]? = some (.cells [.string (bs tA), .string (bs tC)] 1 true) := by rw [hG0]; simp
  have g1 : G1[G0.length]? = some (.cells [.string (bs tA), .string (bs tB), .string (bs tC)] 1 true) := by rw [hG1]; simp
  have g01 : G1[H.length]? = some (.cells [.string (bs tA), .string (bs tC)] 1 true) := by rw [hG1]; exact at_push g0 _
  have g9 : G9[G1.length]? = some (.cells [.string (bs tC), .string (bs tA)] 1 true) := by rw [hG9]; simp
  have g10 : G10[G9.length]? = some (.cells [.string (bs tA), .string (bs tB), .string (bs tC)] 1 true) := by rw [hG10]; simp
  have g910 : G10[G1.length]? = some (.cells [.string (bs tC), .string (bs tA)] 1 true) := by rw [hG10]; exact at_push g9 _
  have r1 := (two G1 H.length G0.length tA tC [] 0 g01 g1).1 rfl rfl
  have r2 := (two G10 G1.length G9.length tC tA [] 0 g910 g10).2 rfl rfl
  refine ⟨G10, FN_of 1 ((t24 1 H).trans ?_) (Nat.le_of_ble_eq_true (by kernel_rfl)), ?_⟩
  · have la : (⟨#[97]⟩ : ByteArray) = bs tA := rfl
    have lb : (⟨#[98]⟩ : ByteArray) = bs tB := rfl
    have lc : (⟨#[99]⟩ : ByteArray) = bs tC := rfl
    rw [la, lb, lc]
    simp only [← hG0, ← hG1, ↓on_of r1, ↓onS, ↓kInt_int, ↓kInt_u8, ↓kBool_bool, ↓kStr_str, ↓kTup_tup, ↓kPtr_ptr, ↓kSl_sl, ↓kAgg_agg, ↓kMp_mp, List.getElem?_toArray, List.getElem?_cons_zero, List.getElem?_cons_succ, ← hG9, ← hG10, ↓on_of r2]
    rfl
  · rw [hG10, hG9, hG1, hG0]
    exact (Ch.push _ _ _).trans ((Ch.push _ _ _).trans ((Ch.push _ _ _).trans (Ch.push _ _ _)))
theorem prefix_eq (a p : Tx) : Lib.hasPrefix a p = (decide (p.length ≤ a.length) && (a.take p.length == p)) := by
  unfold Lib.hasPrefix
  rw [Bool.eq_iff_iff]
  simp only [List.isPrefixOf_iff_prefix, Bool.and_eq_true, decide_eq_true_eq, beq_iff_eq]
  constructor
  · intro h
    exact ⟨h.length_le, (List.prefix_iff_eq_take.1 h).symm⟩
  · intro h
    exact List.prefix_iff_eq_take.2 h.2.symm
theorem main9 {H0 : Heap} (hp : Pow H0) (s : ByteArray) (hs : s.size ≤ 140737488351232) (s1 : ByteArray) (hs1 : s1.size ≤ 140737488351232) : ∃ H', F9 [.string s, .string s1] H0 = some (.bool true, H') := by
  obtain ⟨t, rfl⟩ := bs_of s
  obtain ⟨p, rfl⟩ := bs_of s1
  have f : ∀ k r, fnE Tryz.prog G9 Tryz.f9 cuts9 k [.string (bs t), .string (bs p)] H0 = some r → F9 [.string (bs t), .string (bs p)] H0 = some r := fun m r h => FN_of m h (Nat.le_of_ble_eq_true (by kernel_rfl))
  have e := t9 1 (bs t) (bs p) H0
  rw [bs_size] at e
  by_cases h3 : 3000 < t.length
  · obtain ⟨H1, e24, _⟩ := works24 H0
    rw [decide_eq_true (show (3000 : Int) < ((t.length : Nat) : Int) by omega)] at e
    simp only [↓on_of e24, ↓onS, ↓kInt_int, ↓kInt_u8, ↓kBool_bool, ↓kStr_str, ↓kTup_tup, ↓kPtr_ptr, ↓kSl_sl, ↓kAgg_agg, ↓kMp_mp] at e
    exact ⟨H1, f _ _ e⟩
  rw [decide_eq_false (show ¬ (3000 : Int) < ((t.length : Nat) : Int) by omega)] at e
  obtain ⟨A, hA⟩ : ∃ A, A = (takeM Ss.new t).2.1 := ⟨_, rfl⟩
  obtain ⟨recv, hrecv⟩ : ∃ r : List Value, r = [.string (bs t), .string (bs p), .bool false, .bool false, .int .i64 (0 : Int), .int .i64 (0 : Int), .bool false] := ⟨_, rfl⟩
  have r0 : recv[0]? = some (.string (bs t)) := by rw [hrecv]; rfl
  have r1 : recv[0 + 1]? = some (.string (bs p)) := by rw [hrecv]; rfl
  have j25 : ∃ H1, F25 [.agg #[.string (bs t), .string (bs p), .bool false, .bool false, .int .i64 (0 : Int), .int .i64 (0 : Int), .bool false]] H0 = some (.bool (Lib.hasPrefix A p), H1) ∧ Ch (fun _ => False) H0 H1 := by
    obtain ⟨H7, hH7⟩ : ∃ X, X = H0 ++ [.cells recv 0 true] := ⟨_, rfl⟩
    have c7 : Ch (fun _ => False) H0 H7 := by rw [hH7]; exact Ch.push _ _ _
    have b7 : H7[H0.length]? = some (.cells recv 0 true) := by rw [hH7]; simp
    obtain ⟨H8, c11, ch⟩ := answer11 (hp.ch c7 id) t
    have b8 := ch.at_ b7 id
    refine ⟨H8, FN_of 1 ((t25 1 (bs t) (bs p) false false 0 0 false H0).trans ?_) (Nat.le_of_ble_eq_true (by kernel_rfl)), c7.trans ch⟩
    have ef : F37 [.string (bs A), .string (bs p)] H8 = some (.bool (Lib.hasPrefix A p), H8) := by
      show some (Value.bool (Lib.hasPrefix (bs A).data.toList (bs p).data.toList), H8) = _
      rw [bs_data, bs_data]
    simp only [← hrecv, ← hH7, ↓ldc_at b7, r0, ↓onS, ↓kInt_int, ↓kInt_u8, ↓kBool_bool, ↓kStr_str, ↓kTup_tup, ↓kPtr_ptr, ↓kSl_sl, ↓kAgg_agg, ↓kMp_mp, ↓on_of c11, List.getElem?_toArray, List.getElem?_cons_zero, List.getElem?_cons_succ, ← hA, ↓ldc_at b8, r1, ↓on_of ef]
  obtain ⟨H1, c25, ch1⟩ := j25
  have j26 : ∃ H2, F26 [.agg #[.string (bs t), .string (bs p), .bool false, .bool false, .int .i64 (0 : Int), .int .i64 (0 : Int), .bool false]] H1 = some (.bool (Lib.hasPrefix A p), H2) := by
    obtain ⟨H7, hH7⟩ : ∃ X, X = H1 ++ [.cells recv 0 true] := ⟨_, rfl⟩
    have b7 : H7[H1.length]? = some (.cells recv 0 true) := by rw [hH7]; simp
    obtain ⟨H8, c12, ch⟩ := answer12 H7 t
    have b8 := ch.at_ b7 id
    refine ⟨H8, FN_of 1 ((t26 1 (bs t) (bs p) false false 0 0 false H1).trans ?_) (Nat.le_of_ble_eq_true (by kernel_rfl))⟩
    simp only [← hrecv, ← hH7, ↓ldc_at b7, r0, ↓onS, ↓kInt_int, ↓kInt_u8, ↓kBool_bool, ↓kStr_str, ↓kTup_tup, ↓kPtr_ptr, ↓kSl_sl, ↓kAgg_agg, ↓kMp_mp, ↓on_of c12, List.getElem?_toArray, List.getElem?_cons_zero, List.getElem?_cons_succ, ← hA, ↓ldc_at b8, r1, bs_size]
    rw [prefix_eq]
    by_cases hl : p.length ≤ A.length
    · rw [decide_eq_true (show ((p.length : Nat) : Int) ≤ ((A.length : Nat) : Int) by omega), decide_eq_true hl]
      simp only [slStr_bs (l := A) (x := 0) (i := 0) rfl rfl (Nat.zero_le _) hl, ↓onS, ↓kInt_int, ↓kInt_u8, ↓kBool_bool, ↓kStr_str, ↓kTup_tup, ↓kPtr_ptr, ↓kSl_sl, ↓kAgg_agg, ↓kMp_mp, bs_list, Nat.sub_zero, List.drop_zero, Bool.true_and]
    · rw [decide_eq_false (show ¬ ((p.length : Nat) : Int) ≤ ((A.length : Nat) : Int) by omega), decide_eq_false hl]; rfl
  obtain ⟨H2, c26⟩ := j26
  obtain ⟨H3, c24, _⟩ := works24 H2
  simp only [↓on_of c25, ↓onS, ↓kInt_int, ↓kInt_u8, ↓kBool_bool, ↓kStr_str, ↓kTup_tup, ↓kPtr_ptr, ↓kSl_sl, ↓kAgg_agg, ↓kMp_mp, ↓on_of c26, beq_self_eq_true, ↓on_of c24] at e
  exact ⟨H3, f _ _ e⟩
end Go.Proofs.YtbheppfjaeocpaaGreatDoor
