/- EventLogs, whole. -/
import Derived.Test.YticchkdbanhjfaaEl8
import Derived.Test.YticchkdbanhjfaaFwQ
set_option linter.unusedVariables false
set_option linter.unusedSimpArgs false
namespace Go.Proofs.Yticchkdbanhjfaa
open Go Go.RowKit Go.Proofs.Yticchkdbanhjfaa.Fw
theorem inv_ev (e : List Value) (h : Flat [.int .i64, .int .i64, .string] e) : ∃ x : Ev, e = x.cs := by
  obtain ⟨_, _, rfl, ⟨n0, rfl, _⟩, h1⟩ := h.cons_inv
  obtain ⟨_, _, rfl, ⟨n1, rfl, _⟩, h2⟩ := h1.cons_inv
  obtain ⟨_, _, rfl, ⟨s, rfl, _⟩, h3⟩ := h2.cons_inv
  obtain rfl := h3.nil_inv
  obtain ⟨l, rfl⟩ := bs_of s
  exact ⟨⟨n0, n1, l⟩, rfl⟩
theorem eqv_txt (k n k' n' : Int) (s s' : ByteArray) (K : Bool → R) : eqv Try.prog 20 40 (.agg #[.int .i64 k, .int .i64 n, .string s]) (.agg #[.int .i64 k', .int .i64 n', .string s']) K =
    (match (k == k') with | true => (match (n == n') with | true => (match (s.toList == s'.toList) with | true => K true | false => K false) | false => K false) | false => K false) := by kernel_rfl
/-- Two logs with the same events, and what lay there ahead. -/
structure Two (H0 : Heap) (N1 N2 : Nat → Prop) (b1 b2 : Nat) (es : List Ev) (H : Heap) : Prop where
  l1 : Lg N1 b1 es H
  l2 : Lg N2 b2 es H
  apart : ∀ k, N1 k → N2 k → False
  len : H0.length ≤ H.length
  kept : ∀ k, k < H0.length → H[k]? = H0[k]?
  n1 : ∀ k, N1 k → H0.length ≤ k
  n2 : ∀ k, N2 k → H0.length ≤ k
section
variable {H0 : Heap} {N1 N2 : Nat → Prop} {b1 b2 : Nat} {es : List Ev} {H : Heap}
theorem Two.push (h : Two H0 N1 N2 b1 b2 es H) (g : Heap) : Two H0 N1 N2 b1 b2 es (H ++ g) :=
  ⟨h.l1.push g, h.l2.push g, h.apart, by have := h.len; simp; omega, fun k hk => by have := h.len; rw [List.getElem?_append_left (by omega)]; exact h.kept k hk, h.n1, h.n2⟩
def arr (y z : Int) : AObj := .cells [.int .i64 y, .int .i64 z] 0 true
theorem ldc_arr {H : Heap} {j : Nat} {y z : Int} (h : H[j]? = some (arr y z)) (k : List Value → R) : ldc H j k = k [.int .i64 y, .int .i64 z] := ldc_at h k
theorem a0_ (q : Nat) : ((⟨q, 0, none⟩ : Addr).add ((0 : Int).toNat * 1)) = ⟨q, 0, none⟩ := by simp [Addr.add]
theorem a1_ (q : Nat) : ((⟨q, 0, none⟩ : Addr).add ((1 : Int).toNat * 1)) = ⟨q, 1, none⟩ := by simp [Addr.add]
theorem size3 (e : Ev) : (e.cs.toArray.size = 3) = True := by simp [Ev.cs]
theorem eqv_ev (e : Ev) (K : Bool → R) : eqv Try.prog 20 40 (.agg e.cs.toArray) (.agg e.cs.toArray) K = K true := by
  have := eqv_txt e.k e.n e.k e.n (bs e.s) (bs e.s) K
  simp only [beq_self_eq_true] at this
  exact this
theorem end11 (h : Two H0 N1 N2 b1 b2 es H) (hle : es.length ≤ 4096) (hok : ∀ e ∈ es, ok e = true) {q : Nat} {y z : Int} (hq : H[q]? = some (arr y z)) (m : Nat) (x : Int) :
    ∃ H', R4 (m + 1) td4_11 [.int .i64 x, .pointer (some ⟨q, 0, none⟩), .pointer (some ⟨b1, 0, none⟩), .pointer (some ⟨b2, 0, none⟩)] H = some (.bool true, H') := by
  have e0 := c4_11 m x (some ⟨q, 0, none⟩) (some ⟨b1, 0, none⟩) (some ⟨b2, 0, none⟩) H
  have ql : q < H.length := (List.getElem?_eq_some_iff.1 hq).1
  obtain ⟨g1, e19⟩ := bytes19 h.l1 hle hok x y
  have t1 := h.push g1
  have hq1 : (H ++ g1)[q]? = some (arr y z) := by rw [List.getElem?_append_left ql]; exact hq
  obtain ⟨g2, e20⟩ := bytes20 t1.l2 hle hok x y
  have t2 := t1.push g2
  have hq2 : (H ++ g1 ++ g2)[q]? = some (arr y z) := by rw [List.getElem?_append_left (by simp; omega)]; exact hq1
  obtain ⟨g3, e21⟩ := get21 t2.l1 hle z
  have t3 := t2.push g3
  obtain ⟨H3, hH3⟩ : ∃ X, X = H ++ g1 ++ g2 ++ g3 := ⟨_, rfl⟩
  rw [← hH3] at e21 t3
  have q3 : q < H3.length := by rw [hH3]; simp; omega
  have hq3 : H3[q]? = some (arr y z) := by rw [hH3, List.getElem?_append_left (by simp; omega)]; exact hq2
  have t4 := t3.push [bx (getM es z).1]
  have hq4 : (H3 ++ [bx (getM es z).1])[q]? = some (arr y z) := by rw [List.getElem?_append_left q3]; exact hq3
  obtain ⟨g5, e22⟩ := get22 t4.l2 hle z
  obtain ⟨H5, hH5⟩ : ∃ X, X = H3 ++ [bx (getM es z).1] ++ g5 := ⟨_, rfl⟩
  rw [← hH5] at e22
  have hz3 : H5[H3.length]? = some (bx (getM es z).1) := by rw [hH5, List.append_assoc]; simp
  have l5 : H3.length < H5.length := (List.getElem?_eq_some_iff.1 hz3).1
  have hz6 : (H5 ++ [bx (getM es z).1])[H3.length]? = some (bx (getM es z).1) := by rw [List.getElem?_append_left l5]; exact hz3
  have eb : AObj.cells ev0.cs 0 true = bx ev0 := rfl
  simp only [↓onS, ↓kInt_int, ↓kInt_u8, ↓kBool_bool, ↓kStr_str, ↓kTup_tup, ↓kPtr_ptr, ↓kSl_sl, ↓kAgg_agg, a0_, a1_, ↓ldc_arr hq, List.getElem?_toArray, List.getElem?_cons_zero, List.getElem?_cons_succ, ↓on_of e19, ↓ldc_arr hq1, ↓on_of e20, ↓ldc_arr hq2, ↓on_of e21, size3, if_true, z_cs, eb, ↓st_bx (bx_at H3 ev0), bx_set, ↓ldc_arr hq4, ↓on_of e22, ↓st_bx (bx_at H5 ev0), beq_self_eq_true, ↓ldc_bx hz6, ↓ldc_bx (bx_at H5 (getM es z).1), ↓cond3, range_cs, ↓eqv_ev] at e0
  exact ⟨_, e0⟩
theorem addM_ok (h : ∀ e ∈ es, ok e = true) (x : Ev) : ∀ e ∈ (addM es x).1, ok e = true := by
  unfold addM
  split
  · exact h
  · rename_i hx
    split
    · exact h
    · split
      · exact h
      · intro e he
        rcases List.mem_append.1 he with he | he
        · exact h e he
        · rw [List.mem_singleton.1 he]; exact hx
theorem addM_len (x : Ev) : (addM es x).1.length ≤ es.length + 1 := by
  unfold addM
  repeat' split
  all_goals simp
theorem bne_same (n : Int) : (n != n) = false := by simp
theorem loop4 {a0 : Option Addr} {l c : Nat} {xs : List Ev} (hX : Recs Ev.cs 3 H0 a0 l xs) (hl : l * 32 ≤ 140737488351232) (hA : ∀ x, a0 = some x → x.block < H0.length) {q : Nat} {y z : Int} (hq : H0[q]? = some (arr y z)) (x3 : Int) :
    ∀ (k i m : Nat) (N1 N2 : Nat → Prop) (es : List Ev) (H : Heap), i + k = l → Two H0 N1 N2 b1 b2 es H → i ≤ 100 → es.length ≤ i → (∀ e ∈ es, ok e = true) →
    ∃ H', R4 (m + k + 2) td4_100005 [.slice a0 l c, .int .i64 x3, .pointer (some ⟨q, 0, none⟩), .pointer (some ⟨b1, 0, none⟩), .pointer (some ⟨b2, 0, none⟩), .int .i64 (i : Int)] H = some (.bool true, H')
  | 0, i, m, N1, N2, es, H, hi, hT, h100, hes, hok => by
    have ql : q < H0.length := (List.getElem?_eq_some_iff.1 hq).1
    obtain ⟨H', e1⟩ := end11 hT (by omega) hok ((hT.kept q ql).trans hq) m x3
    refine ⟨H', ?_⟩
    show R4 ((m + 1) + 1) _ _ _ = _
    rw [c4_100005, decide_eq_false (by omega)]
    exact e1
  | k + 1, i, m, N1, N2, es, H, hi, hT, h100, hes, hok => by
    have ql : q < H0.length := (List.getElem?_eq_some_iff.1 hq).1
    have e0 := c4_100005 (m + (k + 1) + 1) a0 l c x3 (some ⟨q, 0, none⟩) (some ⟨b1, 0, none⟩) (some ⟨b2, 0, none⟩) (i : Int) H
    rw [decide_eq_true (show (i : Int) < ((l : Nat) : Int) by omega)] at e0
    rcases Bool.eq_false_or_eq_true (decide ((i : Int) < 100)) with q1 | q1
    case inr =>
      obtain ⟨H', e1⟩ := end11 hT (by omega) hok ((hT.kept q ql).trans hq) (m + (k + 1)) x3
      simp only [q1] at e0
      exact ⟨H', e0.trans e1⟩
    have hi100 : i < 100 := by have := of_decide_eq_true q1; omega
    have hil : i < xs.length := by rw [hX.len]; omega
    have hx : xs[i]? = some xs[i] := by simp
    obtain ⟨x, cs, own, rfl, hc, hcl, hr⟩ := hX.get hx
    have hxl : x.block < H0.length := hA x rfl
    have hcH : H[x.block]? = some (.cells cs 3 own) := (hT.kept _ hxl).trans hc
    obtain ⟨N1', H1, e14, L1, G1⟩ := add14 hT.l1 (by omega) xs[i]
    have L2 : Lg N2 b2 es H1 := hT.l2.keep G1.len fun k hk => G1.kept k (hT.l2.lt k hk) fun q => hT.apart k q hk
    have hl0 := hT.len
    have hcH1 : H1[x.block]? = some (.cells cs 3 own) := (G1.kept _ (by omega) fun q => by have := hT.n1 _ q; omega).trans hcH
    obtain ⟨N2', H2, e15, L2', G2⟩ := add15 L2 (by omega) xs[i]
    have L1' : Lg N1' b1 (addM es xs[i]).1 H2 := L1.keep G2.len fun k hk => G2.kept k (L1.lt k hk) fun q => by
      rcases G1.own k hk with h | h
      · exact hT.apart k h q
      · have := hT.l2.lt k q; omega
    have hlen1 := G1.len
    have hlen2 := G2.len
    have hT' : Two H0 N1' N2' b1 b2 (addM es xs[i]).1 H2 := by
      refine ⟨L1', L2', fun k h1 h2 => ?_, by omega, fun k hk => ?_, fun k hk => ?_, fun k hk => ?_⟩
      · rcases G2.own k h2 with h | h
        · rcases G1.own k h1 with h' | h'
          · exact hT.apart k h' h
          · have := hT.l2.lt k h; omega
        · have := L1.lt k h1; omega
      · rw [G2.kept k (by omega) fun q => by have := hT.n2 k q; omega, G1.kept k (by omega) fun q => by have := hT.n1 k q; omega]
        exact hT.kept k hk
      · rcases G1.own k hk with h | h
        · exact hT.n1 k h
        · omega
      · rcases G2.own k hk with h | h
        · exact hT.n2 k h
        · omega
    have hel := addM_len (es := es) xs[i]
    obtain ⟨a, cp, hb2, _⟩ := L2'.body
    obtain ⟨H', e1⟩ := loop4 (c := c) hX hl hA hq x3 k (i + 1) m N1' N2' (addM es xs[i]).1 H2 (by omega) hT' (by omega) (by omega) (addM_ok hok _)
    refine ⟨H', ?_⟩
    have ew : IntKind.i64.wrap ((i : Int) + 1) = ((i + 1 : Nat) : Int) := by rw [wrap_in ⟨by omega, by omega⟩]; omega
    have c1 : 0 ≤ (i : Int) ∧ (i : Int) < ((l : Nat) : Int) := ⟨by omega, by omega⟩
    simp only [q1, ↓onS, ↓kInt_int, ↓kInt_u8, ↓kBool_bool, ↓kStr_str, ↓kTup_tup, ↓kPtr_ptr, ↓kSl_sl, ↓kAgg_agg, ↓if_pos c1, ↓ldc_add, ↓ldc_at hcH, Int.toNat_natCast, add_off, ↓if_pos hcl, hr, ↓on_of e14, List.getElem?_toArray, List.getElem?_cons_zero, List.getElem?_cons_succ, ↓ldc_at hcH1, ↓on_of e15, bne_same, ↓ldc_at hb2, ↓on_of (len16 L1'), ↓unt_same, ↓on_of (now17 L1' (by omega)), ↓on_of (now18 L2' (by omega)), ew] at e0
    exact e0.trans e1
end
/-- THE LAW. -/
theorem logs4 {H : Heap} {a0 : Option Addr} {l c : Nat} {xs : List Ev} (hX : Recs Ev.cs 3 H a0 l xs) (hl : l * 32 ≤ 140737488351232) (hA : ∀ x, a0 = some x → x.block < H.length) (x3 : Int) (y z : Int) : ∃ H', F4 [.slice a0 l c, .int .i64 x3, .agg #[.int .i64 y, .int .i64 z]] H = some (.bool true, H') := by
  have f : ∀ m r, fnE Try.prog G4 Try.f4 cuts4 m [.slice a0 l c, .int .i64 x3, .agg #[.int .i64 y, .int .i64 z]] H = some r → F4 [.slice a0 l c, .int .i64 x3, .agg #[.int .i64 y, .int .i64 z]] H = some r := fun m r h => FN_of m h (Nat.le_of_ble_eq_true (by kernel_rfl))
  have e0 := t4 (0 + l + 2) a0 l c x3 y z H
  have eb : AObj.cells [.int .i64 y, .int .i64 z] 0 true = arr y z := rfl
  have e12 : F12 [] (H ++ [arr y z]) = some (.pointer (some ⟨(H ++ [arr y z]).length, 0, none⟩), (H ++ [arr y z]) ++ [.cells [.slice none 0 0] 0 true]) := FN_of 1 ((t12 1 _).trans rfl) (Nat.le_of_ble_eq_true (by kernel_rfl))
  obtain ⟨H0, hH0⟩ : ∃ X, X = H ++ [arr y z] := ⟨_, rfl⟩
  rw [← hH0] at e12
  have l0 : H0.length = H.length + 1 := by rw [hH0]; simp
  have hq : H0[H.length]? = some (arr y z) := by rw [hH0]; simp
  obtain ⟨g, e13⟩ := works13 ((H0 ++ [.cells [.slice none 0 0] 0 true]) ++ [.cells [.slice none 0 0] 0 true])
  have kk : ∀ k, k < H.length → H0[k]? = H[k]? := fun k hk => by rw [hH0]; exact List.getElem?_append_left hk
  have hX0 : Recs Ev.cs 3 H0 a0 l xs := hX.keep fun x hx cs own h => (kk _ (hA x hx)).trans h
  have hA0 : ∀ x, a0 = some x → x.block < H0.length := fun x hx => by have := hA x hx; omega
  have ll : (H0 ++ [AObj.cells [.slice none 0 0] 0 true]).length = H0.length + 1 := by simp
  obtain ⟨H1, hH1⟩ : ∃ X, X = (H0 ++ [AObj.cells [.slice none 0 0] 0 true]) ++ [.cells [.slice none 0 0] 0 true] := ⟨_, rfl⟩
  have l1 : H1.length = H0.length + 2 := by rw [hH1]; simp
  have b1 : H1[H0.length]? = some (.cells [.slice none 0 0] 0 true) := by rw [hH1, List.getElem?_append_left (by simp)]; simp
  have b2 : H1[H0.length + 1]? = some (.cells [.slice none 0 0] 0 true) := by rw [hH1, ← ll]; simp
  have k1 : ∀ k, k < H0.length → H1[k]? = H0[k]? := fun k hk => by rw [hH1, List.append_assoc]; exact List.getElem?_append_left hk
  have none_ : ab (none : Option Addr) = none := rfl
  have g1 : Lg (fun k => k = H0.length) H0.length [] H1 := ⟨rfl, fun k hk => by omega, none, 0, b1, Vec.none 3 H1, by rw [none_]; simp, fun j hj => by cases hj⟩
  have g2 : Lg (fun k => k = H0.length + 1) (H0.length + 1) [] H1 := ⟨rfl, fun k hk => by omega, none, 0, b2, Vec.none 3 H1, by rw [none_]; simp, fun j hj => by cases hj⟩
  have hT1 : Two H0 (fun k => k = H0.length) (fun k => k = H0.length + 1) H0.length (H0.length + 1) [] H1 := ⟨g1, g2, fun k h1 h2 => by omega, by omega, k1, fun k hk => by omega, fun k hk => by omega⟩
  rw [← hH1] at e13
  have hT := hT1.push g
  obtain ⟨H', e1⟩ := loop4 (c := c) hX0 hl hA0 hq x3 l 0 0 _ _ [] _ (by omega) hT (by omega) (by simp) (fun e he => by cases he)
  simp only [eb, ← hH0, ↓onS, ↓kInt_int, ↓kInt_u8, ↓kBool_bool, ↓kStr_str, ↓kTup_tup, ↓kPtr_ptr, ↓kSl_sl, ↓kAgg_agg, ↓on_of e12, Option.isNone_some, ← hH1, ↓on_of e13, Bool.not_true, ll] at e0
  exact ⟨H', f _ _ (e0.trans e1)⟩
end Go.Proofs.Yticchkdbanhjfaa
namespace Go.Proofs.Yticchkdbanhjfaa
open Go Go.RowKit Go.Proofs.Yticchkdbanhjfaa.Fw
theorem logs4' {H : Heap} {a0 : Option Addr} {l c : Nat} {xs : List Ev} (hX : Recs Ev.cs 3 H a0 l xs) (hl : l * 32 ≤ 140737488351232) (hA : ∀ x, a0 = some x → x.block < H.length) (x3 : Int) (cs : List Value) (kc : Flat [.int .i64, .int .i64] cs) :
    ∃ H', F4 [.slice a0 l c, .int .i64 x3, .agg cs.toArray] H = some (.bool true, H') := by
  obtain ⟨_, _, rfl, ⟨n0, rfl, _⟩, h1⟩ := kc.cons_inv
  obtain ⟨_, _, rfl, ⟨n1, rfl, _⟩, h2⟩ := h1.cons_inv
  obtain rfl := h2.nil_inv
  exact logs4 hX hl hA x3 n0 n1
end Go.Proofs.Yticchkdbanhjfaa
