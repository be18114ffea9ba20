/- RoleTakes: what it answers. -/
import Derived.Test.YticchkdbanhjfaaRo3
set_option linter.unusedVariables false
set_option linter.unusedSimpArgs false
namespace Go.Proofs.Yticchkdbanhjfaa
open Go Go.RowKit Go.Proofs.Yticchkdbanhjfaa.Fw

theorem tmod_bnd {x m : Int} (hm : 0 < m) : -m < x.tmod m ∧ x.tmod m < m :=
  ⟨by have := Int.lt_tmod_of_pos x hm; omega, Int.tmod_lt_of_pos x hm⟩
/-- A number brought into a range. -/
def into (x m : Int) : Int := (x.tmod m + m).tmod m
theorem into_bnd {x m : Int} (hm : 0 < m) : 0 ≤ into x m ∧ into x m < m := by
  have h1 := tmod_bnd (x := x) hm
  unfold into
  exact ⟨Int.tmod_nonneg _ (by omega), Int.tmod_lt_of_pos _ hm⟩
theorem among23 (H : Heap) (x m : Int) (hm : 0 < m) (hm2 : m < 4611686018427387904) : F23 [.int .i64 x, .int .i64 m] H = some (.int .i64 (into x m), H) := by
  have h1 := tmod_bnd (x := x) hm
  refine FN_of 1 ((t23 1 x m H).trans ?_) (Nat.le_of_ble_eq_true (by kernel_rfl))
  rw [if_neg (by omega), if_neg (by omega), wrap_in ⟨by omega, by omega⟩]
  rfl

theorem new24 (H : Heap) (me pa : Int) (h1 : 0 ≤ me ∧ me ≤ 1) (h2 : 1 ≤ pa ∧ pa ≤ 1048576) : F24 [.int .i64 me, .int .i64 pa] H = some (.tuple #[pp H.length, .int .i64 0], H ++ [.cells (Pt.cs ⟨me, pa, 0, 0, 0, 0, 0, 0, 0⟩) 0 true]) := by
  refine FN_of 1 ((t24 1 me pa H).trans ?_) (Nat.le_of_ble_eq_true (by kernel_rfl))
  rw [show decide (me < 0) = false from decide_eq_false (by omega), show decide ((1 : Int) < me) = false from decide_eq_false (by omega), show decide (pa < 1) = false from decide_eq_false (by omega), show decide ((1048576 : Int) < pa) = false from decide_eq_false (by omega)]
  rfl

theorem new_at (H : Heap) (s : Pt) : At (H ++ [.cells s.cs 0 true]) H.length s := by simp [At]

/-- Letters of the law. -/
def lt (e r n : Int) : Lt := ⟨2, e, r, n, 0, ⟨#[]⟩⟩

theorem tick_self (s : Pt) {n : Int} (h1 : s.now ≤ n) (h2 : n ≤ 1099511627776) : tick s n = n := by
  unfold tick mxi mni
  split <;> split <;> omega

theorem works25 (H : Heap) : ∃ H', F25 [] H = some (.bool true, H') ∧ H.length ≤ H'.length ∧ ∀ k, k < H.length → H'[k]? = H[k]? := by
  have e := t25 1 H
  have h0 := new_at H ⟨0, 5, 0, 0, 0, 0, 0, 0, 0⟩
  obtain ⟨H1, e1, t1⟩ := boot40 h0 0 rfl
  obtain ⟨H2, e2, t2⟩ := hear27 t1.at_ (lt 0 1 1) 1
  have hv : (hear ⟨0, 5, 4, 1, tick ⟨0, 5, 0, 0, 0, 0, 0, 0, 0⟩ 0, 0, 0, 0, 0⟩ (lt 0 1 1) 1) = (1, 0, { me := 0, patience := 5, role := 4, epoch := 2, now := 1, heard := 1, inc := 0, serves := 1, known := 1 }) := by
    simp [hear, Lt.good, lt, isWord, isRole, ByteArray.size, invited, asked, tick, mxi, mni, ByteArray.toList_eq, wrap_in]
  have t2' : To H.length { me := 0, patience := 5, role := 4, epoch := 2, now := 1, heard := 1, inc := 0, serves := 1, known := 1 } H1 H2 := by have := t2; rw [hv] at this; exact this
  obtain ⟨H3, e3, t3⟩ := synced54 t2'.at_ 2 rfl (by decide)
  have e24 : F24 [.int .i64 0, .int .i64 5] H = some (.tuple #[pp H.length, .int .i64 0], H ++ [.cells (Pt.cs ⟨0, 5, 0, 0, 0, 0, 0, 0, 0⟩) 0 true]) := new24 H 0 5 (by omega) (by omega)
  have e40 : F40 [.pointer (some ⟨H.length, 0, none⟩), .int .i64 0] (H ++ [.cells (Pt.cs ⟨0, 5, 0, 0, 0, 0, 0, 0, 0⟩) 0 true]) = some (.int .i64 0, H1) := e1
  have e27 : F27 [.pointer (some ⟨H.length, 0, none⟩), .agg #[.int .i64 2, .int .i64 0, .int .i64 1, .int .i64 1, .int .i64 0, .string (⟨#[]⟩ : ByteArray)], .int .i64 1] H1 = some (.tuple #[.int .i64 1, .int .i64 0], H2) := by have := e2; rw [hv] at this; exact this
  have e30 : F30 [.pointer (some ⟨H.length, 0, none⟩)] H2 = some (.tuple #[.int .i64 4, .int .i64 2, .int .i64 0, .int .i64 1], H2) := state30 t2'.at_
  have e54 : F54 [.pointer (some ⟨H.length, 0, none⟩), .int .i64 2] H2 = some (.int .i64 0, H3) := e3
  have e30' : F30 [.pointer (some ⟨H.length, 0, none⟩)] H3 = some (.tuple #[.int .i64 3, .int .i64 2, .int .i64 0, .int .i64 1], H3) := state30 t3.at_
  simp only [e24, pp, onSome_some, kTup, kPtr, kInt, kBool, if_true, List.getElem?_toArray, List.getElem?_cons_zero, List.getElem?_cons_succ, Option.isNone_some, bne_self_eq_false, e40, e27, e30, e54, e30'] at e
  refine ⟨H3, FN_of 1 e (Nat.le_of_ble_eq_true (by kernel_rfl)), ?_, ?_⟩
  · have h1 := t1.len; have h2 := t2.len; have h3 := t3.len
    simp at h1; omega
  · intro k hk
    have hl1 := t1.len; have hl2 := t2.len
    simp at hl1
    rw [t3.keep k (by omega) (by omega), t2.keep k (by omega) (by omega), t1.keep k (by simp; omega) (by omega)]
    exact List.getElem?_append_left hk

/-- A slice of whole numbers in a heap. -/
structure Ints (H : Heap) (a : Option Addr) (l : Nat) (xs : List Int) : Prop where
  len : xs.length = l
  at_ : xs ≠ [] → ∃ x cs own, a = some x ∧ H[x.block]? = some (.cells cs 1 own) ∧ ∀ (i : Nat) (n : Int), xs[i]? = some n → cs[x.off + i]? = some (.int .i64 n)

/-- The part, in the law's loop. -/
def lp (P now : Int) : Pt := ⟨1, P, 2, 4, now, now, 3, 0, 0⟩

theorem loop5 {H0 : Heap} {b : Nat} {a : Option Addr} {l c : Nat} {xs : List Int} (hX : Ints H0 a l xs) (hl : l < 9223372036854775807) (hA : ∀ x, a = some x → x.block < H0.length ∧ x.block ≠ b) {P : Int} (hP : 2 ≤ P ∧ P ≤ 51) :
    ∀ (d i : Nat), i + d = 30 → ∀ (H : Heap) (now : Int), To b (lp P now) H0 H → 2 ≤ now ∧ now ≤ 2 + 51 * (i : Int) →
      ∃ m H', R5 m td5_100013 [.int .i64 P, .slice a l c, pp b, .int .i64 now, .int .i64 (i : Int)] H = some (.bool true, H') := by
  have done : ∀ (i : Nat) (H : Heap) (now : Int), To b (lp P now) H0 H → 2 ≤ now ∧ now ≤ 2000 → (decide ((i : Int) < (l : Int)) = false ∨ decide ((i : Int) < 30) = false) →
      ∃ m H', R5 m td5_100013 [.int .i64 P, .slice a l c, pp b, .int .i64 now, .int .i64 (i : Int)] H = some (.bool true, H') := by
    intro i H now hT hn hc
    have e := c5_100013 0 P a l c (some ⟨b, 0, none⟩) now i H
    have w1 : IntKind.i64.wrap (now + P) = now + P := wrap_in ⟨by omega, by omega⟩
    have w2 : IntKind.i64.wrap (now + P + 1000) = now + P + 1000 := wrap_in ⟨by omega, by omega⟩
    have e30 : F30 [.pointer (some ⟨b, 0, none⟩)] H = some (.tuple #[.int .i64 2, .int .i64 4, .int .i64 3, .int .i64 0], H) := state30 hT.at_
    have e31 : F31 [.pointer (some ⟨b, 0, none⟩)] H = some (.bool false, H) := speaks31 hT.at_
    have tk : tick (lp P now) (now + P) = now + P := tick_self _ (by show now ≤ _; omega) (by omega)
    have e28 : F28 [.pointer (some ⟨b, 0, none⟩), .int .i64 (now + P)] H = some (.bool true, H) := by
      have := suspects28 hT.at_ (now + P)
      rw [tk] at this
      have hd : decide ((lp P now).patience ≤ IntKind.i64.wrap (now + P - (lp P now).heard)) = true := by
        show decide (P ≤ IntKind.i64.wrap (now + P - now)) = true
        rw [wrap_in ⟨by omega, by omega⟩]; exact decide_eq_true (by omega)
      rw [hd] at this
      exact this
    obtain ⟨H2, e29, t2⟩ := granted29 hT.at_ (now + P)
    have hg : granted (lp P now) (now + P) = (0, ⟨1, P, 4, 5, now + P, now, 3, 0, 0⟩) := by
      unfold granted
      simp only [tk]
      have tk2 : tick { lp P now with now := now + P } (now + P) = now + P := tick_self _ (Int.le_refl _) (by omega)
      have hd : decide (P ≤ IntKind.i64.wrap (now + P - now)) = true := by
        rw [wrap_in ⟨by omega, by omega⟩]; exact decide_eq_true (by omega)
      simp [lp] at tk2 ⊢
      simp [tk2, hd, wrap_in]
    rw [hg] at e29 t2
    have e29' : F29 [.pointer (some ⟨b, 0, none⟩), .int .i64 (now + P)] H = some (.int .i64 0, H2) := e29
    have e30' : F30 [.pointer (some ⟨b, 0, none⟩)] H2 = some (.tuple #[.int .i64 4, .int .i64 5, .int .i64 3, .int .i64 0], H2) := state30 t2.at_
    have e31' : F31 [.pointer (some ⟨b, 0, none⟩)] H2 = some (.bool true, H2) := speaks31 t2.at_
    have e28' : F28 [.pointer (some ⟨b, 0, none⟩), .int .i64 (now + P + 1000)] H2 = some (.bool false, H2) := suspects28 t2.at_ _
    refine ⟨1, H2, ?_⟩
    have g : R5 1 td5_100013 [.int .i64 P, .slice a l c, pp b, .int .i64 now, .int .i64 (i : Int)] H = _ := e
    rcases hc with hc | hc
    · rw [hc] at g
      simp only [w1, w2, e30, e31, e28, e29', e30', e31', e28', onSome_some, kTup, kInt, kBool, if_true, List.getElem?_toArray, List.getElem?_cons_zero, List.getElem?_cons_succ, bne_self_eq_false, beq_self_eq_true, Bool.not_true, Bool.not_false] at g
      exact g
    · rw [hc] at g
      cases hc2 : decide ((i : Int) < ((l : Nat) : Int)) <;> rw [hc2] at g <;>
        simp only [w1, w2, e30, e31, e28, e29', e30', e31', e28', onSome_some, kTup, kInt, kBool, if_true, List.getElem?_toArray, List.getElem?_cons_zero, List.getElem?_cons_succ, bne_self_eq_false, beq_self_eq_true, Bool.not_true, Bool.not_false] at g <;> exact g
  intro d
  induction d with
  | zero =>
    intro i hi H now hT hn
    exact done i H now hT ⟨hn.1, by omega⟩ (.inr (decide_eq_false (by omega)))
  | succ d ih =>
    intro i hi H now hT hn
    by_cases hil : i < l
    · have hlt : i < xs.length := by have := hX.len; omega
      obtain ⟨x, cs, own, rfl, h1, h2⟩ := hX.at_ (by intro e; rw [e] at hlt; simp at hlt)
      have h1' : H[x.block]? = some (.cells cs 1 own) := (hT.keep _ (hA x rfl).1 (hA x rfl).2).trans h1
      have h2' := h2 i xs[i] (by simp [hlt])
      have hb := into_bnd (x := xs[i]) (m := P) (by omega)
      have e23 := among23 H xs[i] P (by omega) (by omega)
      have w1 : IntKind.i64.wrap (now + into xs[i] P) = now + into xs[i] P := wrap_in ⟨by omega, by omega⟩
      have tk : tick (lp P now) (now + into xs[i] P) = now + into xs[i] P := tick_self _ (by show now ≤ _; omega) (by omega)
      have hd : decide (P ≤ IntKind.i64.wrap (now + into xs[i] P - now)) = false := by
        rw [wrap_in ⟨by omega, by omega⟩]; exact decide_eq_false (by omega)
      have e28 : F28 [.pointer (some ⟨b, 0, none⟩), .int .i64 (now + into xs[i] P)] H = some (.bool false, H) := by
        have := suspects28 hT.at_ (now + into xs[i] P)
        rw [tk] at this
        have hd' : decide ((lp P now).patience ≤ IntKind.i64.wrap (now + into xs[i] P - (lp P now).heard)) = false := hd
        rw [hd'] at this
        exact this
      obtain ⟨H2, e29, t2⟩ := granted29 hT.at_ (now + into xs[i] P)
      have hg : granted (lp P now) (now + into xs[i] P) = (261, ⟨1, P, 2, 4, now + into xs[i] P, now, 3, 0, 0⟩) := by
        unfold granted
        have tk2 : tick { lp P now with now := now + into xs[i] P } (now + into xs[i] P) = now + into xs[i] P := tick_self _ (Int.le_refl _) (by omega)
        simp only [tk, tk2]
        show (if (!(true && decide (P ≤ IntKind.i64.wrap (now + into xs[i] P - now))) || _) = true then _ else _) = _
        rw [hd]
        rfl
      rw [hg] at e29 t2
      obtain ⟨H3, e27, t3⟩ := hear27 t2.at_ (lt 4 3 0) (now + into xs[i] P)
      have hh : (hear ⟨1, P, 2, 4, now + into xs[i] P, now, 3, 0, 0⟩ (lt 4 3 0) (now + into xs[i] P)).2.2 = lp P (now + into xs[i] P) := by
        have tk3 : tick ⟨1, P, 2, 4, now + into xs[i] P, now, 3, 0, 0⟩ (now + into xs[i] P) = now + into xs[i] P := tick_self _ (Int.le_refl _) (by omega)
        simp [hear, Lt.good, lt, isWord, isRole, ByteArray.size, invited, asked, ByteArray.toList_eq, tk3, lp]
      rw [hh] at t3
      obtain ⟨m, H', hm⟩ := ih (i + 1) (by omega) H3 _ (hT.trans (t2.trans t3)) ⟨by omega, by push_cast; omega⟩
      refine ⟨m + 1, H', ?_⟩
      have e := c5_100013 m P (some x) l c (some ⟨b, 0, none⟩) now i H
      have g : R5 (m + 1) td5_100013 [.int .i64 P, .slice (some x) l c, pp b, .int .i64 now, .int .i64 (i : Int)] H = _ := e
      have e29' : F29 [.pointer (some ⟨b, 0, none⟩), .int .i64 (now + into xs[i] P)] H = some (.int .i64 261, H2) := e29
      have hin : (0 : Int) ≤ (i : Int) ∧ (i : Int) < ((l : Nat) : Int) := by omega
      have e27' : F27 [.pointer (some ⟨b, 0, none⟩), .agg #[.int .i64 2, .int .i64 4, .int .i64 3, .int .i64 0, .int .i64 0, .string (⟨#[]⟩ : ByteArray)], .int .i64 (now + into xs[i] P)] H2 = some (.tuple #[.int .i64 _, .int .i64 _], H3) := e27
      rw [decide_eq_true hin.2, decide_eq_true (show (i : Int) < 30 by omega)] at g
      simp only [onSome_some, if_pos hin, add_block, add_off, Int.toNat_natCast, Nat.mul_one, ldc_at h1', h2', kInt, kBool, if_true, e23, w1, e28, e29', e27', bne_self_eq_false, wrap_succ (n := i) (by omega)] at g
      exact g.trans hm
    · exact done i H now hT ⟨hn.1, by omega⟩ (.inl (decide_eq_false (by omega)))
end Go.Proofs.Yticchkdbanhjfaa
