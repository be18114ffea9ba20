/- JudgeAmong: the law. -/
import Derived.Test.YticchkdbanhjfaaJa6
set_option linter.unusedVariables false
set_option linter.unusedSimpArgs false
namespace Go.Proofs.Yticchkdbanhjfaa
open Go Go.RowKit Go.Proofs.Yticchkdbanhjfaa.Fw
def sc (s : ByteArray) : List Value := [.string s]
theorem inv_str (e : List Value) (h : Flat [.string] e) : ∃ s : ByteArray, e = sc s := by
  obtain ⟨_, _, rfl, ⟨s, rfl, _⟩, h1⟩ := h.cons_inv
  obtain rfl := h1.nil_inv
  exact ⟨s, rfl⟩
theorem flat_str {s : ByteArray} (h : Flat [.string] (sc s)) : s.size ≤ 9223372036854775807 := by
  obtain ⟨v, l, e, ⟨s', e2, h2⟩, _⟩ := h.cons_inv
  unfold sc at e
  injection e with e3 e4
  subst e3
  injection e2 with e5
  subst e5
  exact h2
theorem Recs.strs {H : Heap} {a : Option Addr} {l : Nat} {xs : List ByteArray} (h : Recs sc 1 H a l xs) : Strs H a l xs :=
  ⟨h.len, fun hne => by
    obtain ⟨x, cs, own, e, h1, h2, h3⟩ := h.at_ hne
    refine ⟨x, cs, own, e, h1, by omega, fun i s hs => ?_⟩
    have := h3 i s hs
    have h4 : (range cs (x.off + i * 1) 1)[0]? = some (.string s) := by rw [this]; rfl
    unfold range at h4
    rw [List.getElem?_take_of_lt (by decide), List.getElem?_drop] at h4
    rw [← h4]; congr 1; omega⟩

theorem among6 {H : Heap} {a b : Option Addr} {l l2 c c2 : Nat} {xs ys : List ByteArray} (hX : Recs sc 1 H a l xs) (hl : l * 16 ≤ 140737488351232) (hA : ∀ x, a = some x → x.block < H.length) (fx : ∀ t ∈ xs, Flat [.string] (sc t)) (hY : Recs sc 1 H b l2 ys) (hl2 : l2 * 16 ≤ 140737488351232) (hB : ∀ x, b = some x → x.block < H.length) :
    ∃ H', F6 [.slice a l c, .slice b l2 c2] H = some (.bool true, H') := by
  have sX := Recs.strs hX
  have sY := Recs.strs hY
  have e11 := among11 (c := c) (c3 := c2) sX (by omega) sY (by omega)
  have e32 := among32 (c := c) (c2 := c2) sX sY (by omega) (by omega)
  let p : ByteArray → Bool := fun s => claimB s.data.toList
  have sz : ∀ s : ByteArray, s.size ≤ 9223372036854775807 → s.data.toList.length ≤ 9223372036854775807 := fun s hs => by
    have e : s.size = s.data.size := rfl
    rw [Array.length_toList]; omega
  have hp : ∀ H (s : ByteArray), s.size ≤ 9223372036854775807 → ∃ g, F59 [.string s] H = some (.bool (p s), H ++ g) := fun H s hs => by
    obtain ⟨g, e⟩ := claim59 H s.data.toList (sz s hs)
    rw [bs_self] at e
    exact ⟨g, e⟩
  have hp2 : ∀ H (s : ByteArray), s.size ≤ 9223372036854775807 → ∃ g, F60 [.string s] H = some (.bool (p s), H ++ g) := fun H s hs => by
    obtain ⟨g, e⟩ := claim60 H s.data.toList (sz s hs)
    rw [bs_self] at e
    exact ⟨g, e⟩
  generalize p = p at hp hp2
  obtain ⟨m1, H1, a1, c1, e1, k1, n1, v1, f1⟩ := claims34 (c := c) hp sX (by omega) (fun s hs => flat_str (fx s hs)) hA l 0 (by omega) H none 0 0 [] ⟨Nat.le_refl _, fun _ _ => rfl⟩ (Nat.le_refl _) (Nat.le_refl _) (Vec.none 1 H) (fun j hj => by cases hj)
  have e34 : F34 [.slice a l c] H = some (.slice a1 (0 + (claimsAt p (xs.drop 0) ((0 : Nat) : Int)).length) c1, H1) := FN_of m1 ((t34 m1 a l c H).trans e1) (Nat.le_of_ble_eq_true (by kernel_rfl))
  -- the second row: over the first one's heap; the first row goes on
  obtain ⟨m2, H2, a2, c2', e2, k2, n2, v2, f2⟩ := claims35 (c := c) (n := H1.length) hp2 (xs := xs) (H0 := H1) (a := a) (l := l) (sX.keep fun x hx cs own h => (k1.at_ _ (hA x hx)).trans h) (by omega) (fun s hs => flat_str (fx s hs)) (fun x hx => by have := hA x hx; have := k1.len; omega) l 0 (by omega) H1 none 0 0 [] ⟨Nat.le_refl _, fun _ _ => rfl⟩ (Nat.le_refl _) (Nat.le_refl _) (Vec.none 1 H1) (fun j hj => by cases hj)
  have e35 : F35 [.slice a l c] H1 = some (.slice a2 (0 + (claimsAt p (xs.drop 0) ((0 : Nat) : Int)).length) c2', H2) := FN_of m2 ((t35 m2 a l c H1).trans e2) (Nat.le_of_ble_eq_true (by kernel_rfl))
  have v1' := v1.keep (H' := H2) fun j hj => k2.at_ j (v1.lt hj)
  have cl : ∀ (ys : List ByteArray) (i : Int), (claimsAt p ys i).length ≤ ys.length := by
    intro ys
    induction ys with
    | nil => intro i; exact Nat.le_refl _
    | cons y ys ih =>
      intro i
      have := ih (i + 1)
      simp only [claimsAt]
      cases p y <;> simp only [List.length_cons] <;> omega
  have hcl := cl (xs.drop 0) ((0 : Nat) : Int)
  rw [List.length_drop, hX.len] at hcl
  have e33 := same33 v1' v2 (by omega)
  obtain ⟨g3, e10⟩ := works10 H2
  refine ⟨H2 ++ g3, FN_of 1 ((t6 1 a l c b l2 c2 H).trans ?_) (Nat.le_of_ble_eq_true (by kernel_rfl))⟩
  simp only [↓on_of e11, ↓on_of e32, ↓onS, ↓kInt_int, ↓kInt_u8, ↓kBool_bool, ↓kStr_str, ↓kTup_tup, ↓kPtr_ptr, ↓kSl_sl, ↓kAgg_agg, List.getElem?_toArray, List.getElem?_cons_zero, List.getElem?_cons_succ, beq_self_eq_true, ↓on_of e34, ↓on_of e35, ↓on_of e33, ↓on_of e10]
end Go.Proofs.Yticchkdbanhjfaa
