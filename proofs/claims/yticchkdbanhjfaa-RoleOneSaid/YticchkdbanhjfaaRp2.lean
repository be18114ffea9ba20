/- RolePlays: what it answers. -/
import Derived.Test.YticchkdbanhjfaaRp1
set_option linter.unusedVariables false
set_option linter.unusedSimpArgs false
namespace Go.Proofs.Yticchkdbanhjfaa
open Go Go.RowKit Go.Proofs.Yticchkdbanhjfaa.Fw
theorem act_by (a : Ac) : a.cs[0 + 1]? = some (.int .i64 a.by_) := rfl

theorem off_cs {cs : List Value} {o n : Nat} {f : List Value} (h : range cs o n = f) {j : Nat} (hj : j < n) : cs[o + j]? = f[j]? := by
  rw [← h]; unfold range
  rw [List.getElem?_take_of_lt hj, List.getElem?_drop]

theorem loop7 {n : Nat} {H0 : Heap} {b c : Nat} {a : Option Addr} {l c0 : Nat} {xs : List Ac} (hX : Recs Ac.cs 10 H0 a l xs) (hA : ∀ x, a = some x → x.block < n) (hl : l < 9223372036854775807) :
    ∀ (d i : Nat), i + d = 80 → ∀ (H : Heap) (now : Int) (s : Pt), Two n H0 b c s H → s.Ok → 0 ≤ now ∧ now ≤ 99 * (i : Int) →
      ∃ m H', R7 m td7_100007 [.slice a l c0, .pointer (pn b), .pointer (pn c), .int .i64 now, .int .i64 (i : Int)] H = some (.bool true, H') := by
  have done : ∀ (i : Nat) (H : Heap) (now : Int), (decide ((i : Int) < (l : Int)) = false ∨ decide ((i : Int) < 80) = false) →
      ∃ m H', R7 m td7_100007 [.slice a l c0, .pointer (pn b), .pointer (pn c), .int .i64 now, .int .i64 (i : Int)] H = some (.bool true, H') := by
    intro i H now hc
    refine ⟨2, H, ?_⟩
    rw [c7_100007]
    simp only [pn, Option.isNone_some, Bool.not_false]
    rcases hc with hc | hc
    · simp only [hc]; rw [c7_15]
    · simp only [hc]
      cases decide ((i : Int) < ((l : Nat) : Int)) <;> simp only [] <;> rw [c7_15]
  intro d
  induction d with
  | zero =>
    intro i hi H now s hT ok hn
    exact done i H now (.inr (decide_eq_false (by omega)))
  | succ d ih =>
    intro i hi H now s hT ok hn
    by_cases hil : i < l
    · have hlt : i < xs.length := by have := hX.len; omega
      obtain ⟨x, cs, own, rfl, h1, h2, h3⟩ := hX.get (i := i) (t := xs[i]) (by simp [hlt])
      have hxn := hA x rfl
      have g1 : H[x.block]? = some (.cells cs 10 own) := (hT.keep _ hxn).trans h1
      have e1 : cs[x.off + i * 10 + 1]? = some (.int .i64 xs[i].by_) := off_cs h3 (by decide)
      have e2 : cs[x.off + i * 10 + 2]? = some (.int .i64 xs[i].n) := off_cs h3 (by decide)
      have hb := into_bnd (x := xs[i].by_) (m := 100) (by omega)
      have e23 := among23 H xs[i].by_ 100 (by omega) (by omega)
      have w1 : IntKind.i64.wrap (now + into xs[i].by_ 100) = now + into xs[i].by_ 100 := wrap_in ⟨by omega, by omega⟩
      obtain ⟨H1, s1, e37, t1, ok1⟩ := step37 hT ok xs[i] (now + into xs[i].by_ 100)
      have g2 : H1[x.block]? = some (.cells cs 10 own) := (t1.keep _ hxn).trans h1
      have e30 : F30 [.pointer (pn b)] H1 = _ := state30 t1.b_
      have e31 : F31 [.pointer (pn b)] H1 = _ := speaks31 t1.b_
      have e38 := w38 (s := s1) (g := []) t1.c_.lt
      have e28 : ∀ now, F28 [.pointer (pn b), .int .i64 now] H1 = _ := suspects28 t1.b_
      have e39 := fun now => w39 (s := s1) (g := []) ok1 t1.c_.lt now
      rw [W_of t1.c_] at e38
      simp only [W_of t1.c_] at e39
      obtain ⟨m, H', hm⟩ := ih (i + 1) (by omega) H1 (now + into xs[i].by_ 100) s1 t1 ok1 ⟨by omega, by push_cast; omega⟩
      refine ⟨m + 1, H', ?_⟩
      rw [c7_100007]
      have hin : (0 : Int) ≤ (i : Int) ∧ (i : Int) < ((l : Nat) : Int) := by omega
      unfold pn at *
      simp (disch := first | with_reducible assumption | decide) only [↓onSome_some, ↓kInt_int, ↓kBool_bool, ↓kStr_str, ↓kTup_tup, ↓kPtr_ptr, ↓o0, ↓o1, ↓o2, ↓o3, ↓o4, ↓o5, ↓o6, ↓o7, ↓o8, ↓y0, ↓y1, ↓y2, ↓y3, ↓y4, ↓y5, Option.isNone_some, Bool.not_false, decide_eq_true hin.2, decide_eq_true (show (i : Int) < 80 by omega), ↓if_pos hin, add_block, add_off, Int.toNat_natCast, ↓ldc_at g1, ↓ldc_at g2, e1, e2, ↓on_of e23, w1, ↓if_pos h2, h3, ↓on_of e37, Bool.not_true]
      simp (disch := first | with_reducible assumption | decide) only [↓onSome_some, ↓kInt_int, ↓kBool_bool, ↓kStr_str, ↓kTup_tup, ↓kPtr_ptr, ↓o0, ↓o1, ↓o2, ↓o3, ↓o4, ↓o5, ↓o6, ↓o7, ↓o8, ↓y0, ↓y1, ↓y2, ↓y3, ↓y4, ↓y5, ↓on_of e30, List.getElem?_toArray, List.getElem?_cons_zero, List.getElem?_cons_succ, ↓ldc_pt t1.c_, bne_self_eq_false, ↓on_of e31, ↓on_of e38, beq_self_eq_true, Bool.not_true, ↓on_of (e28 _), ↓on_of (e39 _), ↓if_pos hin, add_block, add_off, Int.toNat_natCast, ↓ldc_at g2, e2, unt, if_true, wrap_succ (n := i) (by omega)]
      exact hm
    · exact done i H now (.inl (decide_eq_false (by omega)))

/-- May a part be made so? -/
def newB (me pa : Int) : Bool := decide (me < 0) || (decide (1 < me) || (decide (pa < 1) || decide (1048576 < pa)))
def pt0 (me pa : Int) : Pt := ⟨me, pa, 0, 0, 0, 0, 0, 0, 0⟩
theorem n24 (H : Heap) (me pa : Int) : F24 [.int .i64 me, .int .i64 pa] H = match newB me pa with | true => some (.tuple #[.pointer none, .int .i64 1], H) | false => some (.tuple #[.pointer (pn H.length), .int .i64 0], H ++ [.cells (pt0 me pa).cs 0 true]) := by
  unfold newB
  have e := t24 1 me pa H
  have f : ∀ r, fnE Try.prog G24 Try.f24 cuts24 1 [.int .i64 me, .int .i64 pa] H = some r → F24 [.int .i64 me, .int .i64 pa] H = some r := fun r h => FN_of 1 h (Nat.le_of_ble_eq_true (by kernel_rfl))
  rcases Bool.eq_false_or_eq_true (decide (me < 0)) with h1 | h1 <;> rcases Bool.eq_false_or_eq_true (decide (1 < me)) with h2 | h2 <;> rcases Bool.eq_false_or_eq_true (decide (pa < 1)) with h3 | h3 <;> rcases Bool.eq_false_or_eq_true (decide (1048576 < pa)) with h4 | h4 <;>
    simp only [h1, h2, h3, h4] at e <;> simp only [h1, h2, h3, h4, Bool.true_or, Bool.or_true, Bool.or_self] <;> exact f _ e
theorem n36 (H : Heap) (me pa : Int) : F36 [.int .i64 me, .int .i64 pa] H = match newB me pa with | true => some (.tuple #[.pointer none, .int .i64 1], H) | false => some (.tuple #[.pointer (pn H.length), .int .i64 0], H ++ [.cells (pt0 me pa).cs 0 true]) := by
  unfold newB
  have e := t36 1 me pa H
  have f : ∀ r, fnE Try.prog G36 Try.f36 cuts36 1 [.int .i64 me, .int .i64 pa] H = some r → F36 [.int .i64 me, .int .i64 pa] H = some r := fun r h => FN_of 1 h (Nat.le_of_ble_eq_true (by kernel_rfl))
  rcases Bool.eq_false_or_eq_true (decide (me < 0)) with h1 | h1 <;> rcases Bool.eq_false_or_eq_true (decide (1 < me)) with h2 | h2 <;> rcases Bool.eq_false_or_eq_true (decide (pa < 1)) with h3 | h3 <;> rcases Bool.eq_false_or_eq_true (decide (1048576 < pa)) with h4 | h4 <;>
    simp only [h1, h2, h3, h4] at e <;> simp only [h1, h2, h3, h4, Bool.true_or, Bool.or_true, Bool.or_self] <;> exact f _ e

theorem plays7 {H : Heap} {a : Option Addr} {l c : Nat} {xs : List Ac} (me pa : Int) (hX : Recs Ac.cs 10 H a l xs) (hl : l < 9223372036854775807) (hA : ∀ x, a = some x → x.block < H.length) : ∃ H', F7 [.int .i64 me, .int .i64 pa, .slice a l c] H = some (.bool true, H') := by
  have f : ∀ m r, fnE Try.prog G7 Try.f7 cuts7 m [.int .i64 me, .int .i64 pa, .slice a l c] H = some r → F7 [.int .i64 me, .int .i64 pa, .slice a l c] H = some r := fun m r h => FN_of m h (Nat.le_of_ble_eq_true (by kernel_rfl))
  have e24 := n24 H me pa
  cases hb : newB me pa with
  | true =>
    rw [hb] at e24
    have e36 := n36 H me pa
    rw [hb] at e36
    simp only [] at e24 e36
    obtain ⟨H2, e25, _, _⟩ := works25 H
    obtain ⟨m, hm⟩ : ∃ m, R7 m td7_100007 [.slice a l c, .pointer none, .pointer none, .int .i64 0, .int .i64 0] H2 = some (.bool true, H2) := ⟨2, by
      rw [c7_100007]
      simp only [Option.isNone_none, Bool.not_true]
      rw [c7_15]⟩
    refine ⟨H2, f m _ ?_⟩
    rw [t7]
    simp (disch := first | with_reducible assumption | decide) only [↓onSome_some, ↓kInt_int, ↓kBool_bool, ↓kStr_str, ↓kTup_tup, ↓kPtr_ptr, ↓o0, ↓o1, ↓o2, ↓o3, ↓o4, ↓o5, ↓o6, ↓o7, ↓o8, ↓y0, ↓y1, ↓y2, ↓y3, ↓y4, ↓y5, ↓on_of e24, ↓on_of e36, ↓on_of e25, List.getElem?_toArray, List.getElem?_cons_zero, List.getElem?_cons_succ, bne_self_eq_false, Option.isNone_none, beq_self_eq_true, Bool.not_true]
    exact hm
  | false =>
    rw [hb] at e24
    simp only [] at e24
    have hb' : newB me pa = false := hb
    unfold newB at hb'
    simp only [Bool.or_eq_false_iff, decide_eq_false_iff_not] at hb'
    have e36 := n36 (H ++ [.cells (pt0 me pa).cs 0 true]) me pa
    rw [hb] at e36
    simp only [] at e36
    generalize hH1 : (H ++ [AObj.cells (pt0 me pa).cs 0 true]) = H1 at *
    have l1 : H1.length = H.length + 1 := by rw [← hH1]; simp
    have a1 : At H1 H.length (pt0 me pa) := by rw [← hH1]; simp [At]
    have k1 : ∀ k, k < H.length → H1[k]? = H[k]? := fun k hk => by rw [← hH1]; exact List.getElem?_append_left hk
    generalize hH2 : (H1 ++ [AObj.cells (pt0 me pa).cs 0 true]) = H2 at *
    have l2 : H2.length = H.length + 2 := by rw [← hH2]; simp [l1]
    have a2 : At H2 H1.length (pt0 me pa) := by rw [← hH2]; simp [At]
    have a3 : At H2 H.length (pt0 me pa) := by rw [← hH2]; exact heap_keep a1 _
    have k2 : ∀ k, k < H.length → H2[k]? = H[k]? := fun k hk => by rw [← hH2, List.getElem?_append_left (by omega)]; exact k1 k hk
    obtain ⟨H3, e25, l3, k3⟩ := works25 H2
    have T : Two H.length H H.length H1.length (pt0 me pa) H3 := ⟨(k3 _ (by omega)).trans a3, (k3 _ (by omega)).trans a2, by omega, Nat.le_refl _, by omega, by omega, fun k hk => (k3 k (by omega)).trans (k2 k hk)⟩
    have ok : (pt0 me pa).Ok := ⟨by show (0 : Int) ≤ 0 ∧ (0 : Int) ≤ 1099511627776; omega, by show (0 : Int) ≤ 0 ∧ (0 : Int) ≤ 1099511627776; omega, by show 1 ≤ pa ∧ pa ≤ 1048576; omega, by show (0 : Int) ≤ 0 ∧ (0 : Int) ≤ 4294967295; decide⟩
    obtain ⟨m, H', hm⟩ := loop7 (c0 := c) hX hA hl 80 0 rfl H3 0 _ T ok ⟨by decide, by decide⟩
    refine ⟨H', f m _ ?_⟩
    rw [t7]
    unfold pn at *
    simp (disch := first | with_reducible assumption | decide) only [↓onSome_some, ↓kInt_int, ↓kBool_bool, ↓kStr_str, ↓kTup_tup, ↓kPtr_ptr, ↓o0, ↓o1, ↓o2, ↓o3, ↓o4, ↓o5, ↓o6, ↓o7, ↓o8, ↓y0, ↓y1, ↓y2, ↓y3, ↓y4, ↓y5, ↓on_of e24, ↓on_of e36, ↓on_of e25, List.getElem?_toArray, List.getElem?_cons_zero, List.getElem?_cons_succ, bne_self_eq_false, Option.isNone_some, beq_self_eq_true, Bool.not_true]
    exact hm
theorem inv_ac (e : List Value) (h : Flat [.int .i64, .int .i64, .int .i64, .int .i64, .int .i64, .int .i64, .int .i64, .int .i64, .string, .bool] e) : ∃ t : Ac, e = t.cs := by
  obtain ⟨_, _, rfl, ⟨n0, rfl, _⟩, h1⟩ := h.cons_inv
  obtain ⟨_, _, rfl, ⟨n1, rfl, _⟩, h2⟩ := h1.cons_inv
  obtain ⟨_, _, rfl, ⟨n2, rfl, _⟩, h3⟩ := h2.cons_inv
  obtain ⟨_, _, rfl, ⟨n3, rfl, _⟩, h4⟩ := h3.cons_inv
  obtain ⟨_, _, rfl, ⟨n4, rfl, _⟩, h5⟩ := h4.cons_inv
  obtain ⟨_, _, rfl, ⟨n5, rfl, _⟩, h6⟩ := h5.cons_inv
  obtain ⟨_, _, rfl, ⟨n6, rfl, _⟩, h7⟩ := h6.cons_inv
  obtain ⟨_, _, rfl, ⟨n7, rfl, _⟩, h8⟩ := h7.cons_inv
  obtain ⟨_, _, rfl, ⟨s8, rfl, _⟩, h9⟩ := h8.cons_inv
  obtain ⟨_, _, rfl, ⟨b9, rfl⟩, h10⟩ := h9.cons_inv
  obtain rfl := h10.nil_inv
  exact ⟨⟨n0, n1, n2, ⟨n3, n4, n5, n6, n7, s8⟩, b9⟩, rfl⟩
theorem plays7' {H : Heap} {a : Option Addr} {l c : Nat} {xs : List Ac} (me pa : Int) (hX : Recs Ac.cs 10 H a l xs) (hl : l * 88 ≤ 140737488351232) (hA : ∀ x, a = some x → x.block < H.length) : ∃ H', F7 [.int .i64 me, .int .i64 pa, .slice a l c] H = some (.bool true, H') :=
  plays7 me pa hX (by omega) hA
end Go.Proofs.Yticchkdbanhjfaa
