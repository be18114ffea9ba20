/- RoleOne: 'does', whole. -/
import Derived.Test.YticchkdbanhjfaaOn2
set_option linter.unusedVariables false
set_option linter.unusedSimpArgs false
namespace Go.Proofs.Yticchkdbanhjfaa
open Go Go.RowKit Go.Proofs.Yticchkdbanhjfaa.Fw

/-- What an act leaves so. -/
structure Go1 (z z' : Sy) : Prop where
  ok : (∀ k, k < 2 → EpOk (z.s k)) → ∀ k, k < 2 → EpOk (z'.s k)
  one : ¬ (Sp (z.s 0) ∧ Sp (z.s 1)) → ¬ (Sp (z'.s 0) ∧ Sp (z'.s 1))
  ep : (∀ k, k < 2 → EpOk (z.s k)) → ∀ k, k < 2 → (z'.s k).role = 0 ∨ (z'.s k).role = 1 ∨ (z.s k).epoch ≤ (z'.s k).epoch
  len : ∀ k, k < 2 → (z'.w k).l ≤ (z.w k).l + 1
theorem Go1.mv {z z' : Sy} (h : ∀ k, k < 2 → Mv (z.s k) (z'.s k)) (hl : ∀ k, k < 2 → (z'.w k).l ≤ (z.w k).l + 1) : Go1 z z' :=
  ⟨fun ok k hk => (h k hk).ok (ok k hk), fun ho hn => ho ⟨(h 0 (by decide)).sp hn.1, (h 1 (by decide)).sp hn.2⟩, fun ok k hk => (h k hk).ep (ok k hk), hl⟩
theorem mv_up {z : Sy} {k : Nat} {s' : Pt} (h : Mv (z.s k) s') (j : Nat) : Mv (z.s j) (up z.s k s' j) := by
  by_cases e : j = k
  · subst e; rw [up_same]; exact h
  · rw [up_ne _ _ e]; exact .refl _

section
variable {n : Nat → Prop} {H0 : Heap} {q : Nat} {b : Nat → Nat} {z : Sy} {H : Heap} {k : Nat}
/-- What an act comes to. -/
def Done (n : Nat → Prop) (H0 : Heap) (q : Nat) (b : Nat → Nat) (z : Sy) (r : R) : Prop := ∃ H' z', r = some (.tuple #[], H') ∧ Q n H0 q b z' H' ∧ Go1 z z'

theorem r41_13 (h : Q n H0 q b z H) (hk : k < 2) (m : Nat) (x : Int) {y : Lt} {j : Nat} (hj : H[j]? = some (bx y)) : Done n H0 q b z (R41 (m + 1) td41_13 [.pointer (pn q), .pointer (pn (b k)), .int .i64 x, .pointer (pn j)] H) := by
  have e := c41_13 m (pn q) (pn (b k)) x (pn j) H
  unfold pn at *
  rcases Bool.eq_false_or_eq_true (x == 1) with hx | hx
  · obtain ⟨H1, e1, t1⟩ := hear27 (h.part k hk) y z.now
    have e1' : F27 [.pointer (some ⟨b k, 0, none⟩), .agg y.cs.toArray, .int .i64 z.now] H = _ := e1
    simp only [hx, ↓onSome_some, ↓Fw.kInt_int, ↓Fw.kBool_bool, ↓Fw.kStr_str, ↓Fw.kTup_tup, ↓Fw.kPtr_ptr, ↓Fw.kSl_sl, ↓Fw.kAgg_agg, ↓ldc_bx hj, ↓if_pos (len_x y), range_x, ↓ldc_at h.cell, ↓qN, ↓on_of e1'] at e
    exact ⟨_, _, e, h.to hk t1, .mv (fun j _ => mv_up (mv_hear _ _ _) j) fun j _ => Nat.le_succ _⟩
  · simp only [hx] at e
    exact ⟨_, _, e, h, .mv (fun j _ => .refl _) fun j _ => Nat.le_succ _⟩

theorem r41_23 (h : Q n H0 q b z H) (hk : k < 2) (m : Nat) (x : Int) : Done n H0 q b z (R41 (m + 1) td41_23 [.pointer (pn q), .int .i64 (k : Int), .pointer (pn (b k)), .int .i64 x] H) := by
  have e := c41_23 m (pn q) (k : Int) (pn (b k)) x H
  unfold pn at *
  rcases Bool.eq_false_or_eq_true (x == 6) with hx | hx
  · have hp := h.part k hk
    have e1 := w70 (s := z.s k) (g := []) hp.lt
    rw [W_of hp] at e1
    unfold pn at e1
    simp only [hx, ↓onSome_some, ↓Fw.kInt_int, ↓Fw.kBool_bool, ↓Fw.kStr_str, ↓Fw.kTup_tup, ↓Fw.kPtr_ptr, ↓Fw.kSl_sl, ↓Fw.kAgg_agg, ↓on_of e1] at e
    exact ⟨_, _, e, h.to hk (To_of hp []), .mv (fun j _ => mv_up (mv_crash _) j) fun j _ => Nat.le_succ _⟩
  rcases Bool.eq_false_or_eq_true (x == 7) with hx7 | hx7
  · have h1 := h.num (up z.inc k (IntKind.i64.wrap (z.inc k + 1))) z.now
    have hp := h1.part k hk
    have e1 := w26 (s := z.s k) (g := []) hp.lt (up z.inc k (IntKind.i64.wrap (z.inc k + 1)) k) z.now
    rw [W_of hp] at e1
    unfold pn at e1
    have cell1 := h1.cell
    have qI1 := fun K => qI (b := b) (z := { z with inc := up z.inc k (IntKind.i64.wrap (z.inc k + 1)), now := z.now }) (q := q) hk K
    have qN1 := fun K => qN (b := b) (z := { z with inc := up z.inc k (IntKind.i64.wrap (z.inc k + 1)), now := z.now }) K
    simp only [hx, hx7, ↓onSome_some, ↓Fw.kInt_int, ↓Fw.kBool_bool, ↓Fw.kStr_str, ↓Fw.kTup_tup, ↓Fw.kPtr_ptr, ↓Fw.kSl_sl, ↓Fw.kAgg_agg, ↓if_pos (kin hk), ↓ldc_add, ↓ldc_at h.cell, ↓qI hk, ↓h.stI hk, ↓ldc_at cell1, ↓qI1, ↓qN1, ↓on_of e1] at e
    exact ⟨_, _, e, h1.to hk (To_of hp []), .mv (fun j _ => mv_up (z := { z with inc := up z.inc k (IntKind.i64.wrap (z.inc k + 1)), now := z.now }) (mv_join _ _ _) j) fun j _ => Nat.le_succ _⟩
  · simp only [hx, hx7] at e
    exact ⟨_, _, e, h, .mv (fun j _ => .refl _) fun j _ => Nat.le_succ _⟩

theorem Done.trans_same {z1 : Sy} {r : R} (hs : z1.s = z.s) (hw : z1.w = z.w) (h : Done n H0 q b z1 r) : Done n H0 q b z r := by
  obtain ⟨H', z', h1, h2, h3⟩ := h
  exact ⟨H', z', h1, h2, ⟨by rw [← hs]; exact h3.ok, by rw [← hs]; exact h3.one, by rw [← hs]; exact h3.ep, by rw [← hw]; exact h3.len⟩⟩

/-- An act. -/
structure Dx where
  kind : Int
  n : Int
  sec : Bool
def Dx.cs (d : Dx) : List Value := [.int .i64 d.kind, .int .i64 d.n, .bool d.sec]
def bd (d : Dx) : AObj := .cells d.cs 0 true

theorem r41_15 (h : Q n H0 q b z H) (hk : k < 2) (m : Nat) (x : Int) {d : Dx} {j : Nat} (hj : H[j]? = some (bd d)) : Done n H0 q b z (R41 (m + 1 + 1) td41_15 [.pointer (pn q), .pointer (pn j), .int .i64 (k : Int), .pointer (pn (b k)), .int .i64 x] H) := by
  have e := c41_15 (m + 1) (pn q) (pn j) (k : Int) (pn (b k)) x H
  have e23 := among23 H d.n 4 (by omega) (by omega)
  have r23 := r41_23 h hk m x
  have dn : ∀ K : Value → R, onSome d.cs[0 + 1]? K = K (.int .i64 d.n) := fun _ => rfl
  unfold pn at *
  have hp := h.part k hk
  rcases Bool.eq_false_or_eq_true (x == 3) with hx | hx
  · have h1 := h.num z.inc (IntKind.i64.wrap (z.now + IntKind.i64.wrap (1 + into d.n 4)))
    simp only [hx, ↓onSome_some, ↓Fw.kInt_int, ↓Fw.kBool_bool, ↓Fw.kStr_str, ↓Fw.kTup_tup, ↓Fw.kPtr_ptr, ↓Fw.kSl_sl, ↓Fw.kAgg_agg, ↓ldc_at h.cell, ↓qN, ↓ldc_at hj, ↓dn, ↓on_of e23, ↓unt_of rfl, ↓h.stN] at e
    exact ⟨_, _, e, h1, .mv (fun j _ => .refl _) fun j _ => Nat.le_succ _⟩
  rcases Bool.eq_false_or_eq_true (x == 4) with hx4 | hx4
  · have e1 := w68 (s := z.s k) (g := []) hp.lt z.now
    rw [W_of hp] at e1
    have h1 := h.to hk (To_of (s' := (dropsM (z.s k) z.now).2) hp [])
    have hp1 := h1.part k hk
    have es : up z.s k (dropsM (z.s k) z.now).2 k = (dropsM (z.s k) z.now).2 := up_same _ _ _
    have e2 := w54 (s := (dropsM (z.s k) z.now).2) (g := []) hp1.lt z.now
    have hp1' : At (W H (b k) (dropsM (z.s k) z.now).2 []) (b k) (dropsM (z.s k) z.now).2 := by have := hp1; simp only [es] at this; exact this
    rw [W_of hp1'] at e2
    unfold pn at e1 e2
    have c1 := h1.cell
    have qN1 := fun K => qN (b := b) (z := { z with s := up z.s k (dropsM (z.s k) z.now).2 }) K
    simp only [hx, hx4, ↓onSome_some, ↓Fw.kInt_int, ↓Fw.kBool_bool, ↓Fw.kStr_str, ↓Fw.kTup_tup, ↓Fw.kPtr_ptr, ↓Fw.kSl_sl, ↓Fw.kAgg_agg, ↓ldc_at h.cell, ↓qN, ↓on_of e1, ↓ldc_at c1, ↓qN1, ↓on_of e2] at e
    have h2 := h1.to hk (To_of (s' := (syncM (dropsM (z.s k) z.now).2 z.now).2) hp1' [])
    refine ⟨_, _, e, h2, .mv (fun j _ => ?_) fun j _ => Nat.le_succ _⟩
    show Mv (z.s j) (up (up z.s k (dropsM (z.s k) z.now).2) k (syncM (dropsM (z.s k) z.now).2 z.now).2 j)
    by_cases e3 : j = k
    · subst e3
      rw [up_same]
      have := mv_drops (z.s j) z.now
      exact mv_trans this.1 this.2 (mv_sync _ _)
    · rw [up_ne _ _ e3, up_ne _ _ e3]; exact .refl _
  rcases Bool.eq_false_or_eq_true (x == 5) with hx5 | hx5
  · have e1 : F28 [.pointer (some ⟨b k, 0, none⟩), .int .i64 z.now] H = _ := suspects28 hp z.now
    simp only [hx, hx4, hx5, ↓onSome_some, ↓Fw.kInt_int, ↓Fw.kBool_bool, ↓Fw.kStr_str, ↓Fw.kTup_tup, ↓Fw.kPtr_ptr, ↓Fw.kSl_sl, ↓Fw.kAgg_agg, ↓ldc_at h.cell, ↓qN, ↓on_of e1] at e
    rcases Bool.eq_false_or_eq_true (((z.s k).role == 2 || (z.s k).role == 3) && decide ((z.s k).patience ≤ IntKind.i64.wrap (tick (z.s k) z.now - (z.s k).heard))) with hs | hs
    · have ho : 1 - k < 2 := by omega
      have hne : 1 - k ≠ k := by omega
      have hpo := h.part (1 - k) ho
      have e2 := w66 (s := z.s (1 - k)) (g := []) hpo.lt
      rw [W_of hpo] at e2
      have h1 := h.to ho (To_of (s' := fenceM (z.s (1 - k))) hpo [])
      obtain ⟨H2, e3, t3⟩ := granted29 (h1.part k hk) z.now
      have e3' : F29 [.pointer (some ⟨b k, 0, none⟩), .int .i64 z.now] (W H (b (1 - k)) (fenceM (z.s (1 - k))) []) = _ := e3
      have c1 := h1.cell
      have qN1 := fun K => qN (b := b) (z := { z with s := up z.s (1 - k) (fenceM (z.s (1 - k))) }) K
      unfold pn at e2
      simp only [hs, ↓onSome_some, ↓Fw.kInt_int, ↓Fw.kBool_bool, ↓Fw.kStr_str, ↓Fw.kTup_tup, ↓Fw.kPtr_ptr, ↓Fw.kSl_sl, ↓Fw.kAgg_agg, kother hk, ↓if_pos (kin ho), ↓ldc_add, ↓ldc_at h.cell, ↓qP ho, ↓on_of e2, ↓ldc_at c1, ↓qN1, ↓on_of e3'] at e
      refine ⟨_, _, e, h1.to hk t3, ?_⟩
      have sk : up (up z.s (1 - k) (fenceM (z.s (1 - k)))) k (granted (up z.s (1 - k) (fenceM (z.s (1 - k))) k) z.now).2 k = (granted (z.s k) z.now).2 := by rw [up_same, up_ne _ _ (Ne.symm hne)]
      have so : up (up z.s (1 - k) (fenceM (z.s (1 - k)))) k (granted (up z.s (1 - k) (fenceM (z.s (1 - k))) k) z.now).2 (1 - k) = fenceM (z.s (1 - k)) := by rw [up_ne _ _ hne, up_same]
      have cases : ∀ j, j < 2 → j = k ∨ j = 1 - k := fun j hj => by omega
      refine ⟨fun ok j hj => ?_, fun _ hn => ?_, fun ok j hj => ?_, fun j _ => Nat.le_succ _⟩
      · show EpOk (up (up z.s (1 - k) (fenceM (z.s (1 - k)))) k (granted (up z.s (1 - k) (fenceM (z.s (1 - k))) k) z.now).2 j)
        rcases cases j hj with rfl | rfl
        · rw [sk]; exact (granted_ok _ _ (ok j hj)).1
        · rw [so]; exact (mv_fence _).ok (ok _ ho)
      · have hn0 : Sp (up (up z.s (1 - k) (fenceM (z.s (1 - k)))) k (granted (up z.s (1 - k) (fenceM (z.s (1 - k))) k) z.now).2 (1 - k)) := by
          have hns : ∀ j, j < 2 → Sp (up (up z.s (1 - k) (fenceM (z.s (1 - k)))) k (granted (up z.s (1 - k) (fenceM (z.s (1 - k))) k) z.now).2 j) := fun j hj => by
            rcases (show j = 0 ∨ j = 1 by omega) with rfl | rfl
            · exact hn.1
            · exact hn.2
          exact hns _ ho
        rw [so] at hn0
        exact fence_nsp _ hn0
      · show (up (up z.s (1 - k) (fenceM (z.s (1 - k)))) k (granted (up z.s (1 - k) (fenceM (z.s (1 - k))) k) z.now).2 j).role = 0 ∨ (up (up z.s (1 - k) (fenceM (z.s (1 - k)))) k (granted (up z.s (1 - k) (fenceM (z.s (1 - k))) k) z.now).2 j).role = 1 ∨ (z.s j).epoch ≤ (up (up z.s (1 - k) (fenceM (z.s (1 - k)))) k (granted (up z.s (1 - k) (fenceM (z.s (1 - k))) k) z.now).2 j).epoch
        rcases cases j hj with rfl | rfl
        · rw [sk]; exact .inr (.inr (granted_ok _ _ (ok j hj)).2)
        · rw [so]; exact (mv_fence _).ep (ok _ ho)
    · simp only [hs] at e
      obtain ⟨H', z', e', h'⟩ := r23
      exact ⟨H', z', e.trans e', h'⟩
  · simp only [hx, hx4, hx5] at e
    obtain ⟨H', z', e', h'⟩ := r23
    exact ⟨H', z', e.trans e', h'⟩
end
end Go.Proofs.Yticchkdbanhjfaa
