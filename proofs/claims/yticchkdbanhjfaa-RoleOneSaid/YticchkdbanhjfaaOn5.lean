/- RoleOne: what it answers. -/
import Derived.Test.YticchkdbanhjfaaOn4
set_option linter.unusedVariables false
set_option linter.unusedSimpArgs false
namespace Go.Proofs.Yticchkdbanhjfaa
open Go Go.RowKit Go.Proofs.Yticchkdbanhjfaa.Fw

section
variable {n : Nat → Prop} {H0 : Heap} {q : Nat} {b : Nat → Nat} {z : Sy} {H : Heap} {k : Nat}
theorem stat (h : Q n H0 q b z H) (hk : k < 2) : F30 [.pointer (some ⟨b k, 0, none⟩)] H = some (.tuple #[.int .i64 (z.s k).role, .int .i64 (z.s k).epoch, .int .i64 (z.s k).inc, .int .i64 (z.s k).serves], H) := state30 (h.part k hk)
theorem spk (h : Q n H0 q b z H) (hk : k < 2) : F31 [.pointer (some ⟨b k, 0, none⟩)] H = some (.bool ((z.s k).role == 3 || (z.s k).role == 4), H) := speaks31 (h.part k hk)

def wasC (u v : Int) : AObj := .cells [.int .i64 u, .int .i64 v] 0 true
/-- The epochs that were. -/
def Was (H : Heap) (j : Nat) (f : Nat → Int) : Prop := H[j]? = some (wasC (f 0) (f 1))
theorem wGet {j : Nat} (f : Nat → Int) (hk : k < 2) (K : Value → R) : onSome ([.int .i64 (f 0), .int .i64 (f 1)] : List Value)[((⟨j, 0, none⟩ : Addr).add ((k : Int).toNat * 1)).off]? K = K (.int .i64 (f k)) := by
  rw [add_off, Int.toNat_natCast]
  match k, hk with
  | 0, _ => rfl
  | 1, _ => rfl
theorem wSet {j : Nat} {f : Nat → Int} (h : Was H j f) (hk : k < 2) (v : Int) (K : Value → Heap → R) : st 1 H ((⟨j, 0, none⟩ : Addr).add ((k : Int).toNat * 1)) (.int .i64 v) K = K undef (H.set j (wasC (up f k v 0) (up f k v 1))) := by
  unfold Was wasC at h
  rw [st_one (by rw [add_block]; exact h) (by rw [add_off, Int.toNat_natCast]; show 0 + k * 1 < 2; omega) rfl, add_block, add_off, Int.toNat_natCast]
  match k, hk with
  | 0, _ => rfl
  | 1, _ => rfl

/-- The checks behind an act. -/
theorem check8 (h : Q n H0 q b z H) {j : Nat} {f : Nat → Int} (hw : Was H j f) (hj : j < H.length) (hep : ∀ k, k < 2 → (z.s k).role = 0 ∨ (z.s k).role = 1 ∨ f k ≤ (z.s k).epoch) (a0 : Option Addr) (l1 c2 : Nat) (i : Nat) (hi : i < 1000) :
    ∀ (d k : Nat), k + d = 2 → ∀ m r, R8 m td8_100015 [.slice a0 l1 c2, .pointer (pn q), .int .i64 ((i + 1 : Nat) : Int)] H = some r →
      ∃ m', R8 m' td8_100027 [.slice a0 l1 c2, .pointer (pn q), .int .i64 (i : Int), .pointer (pn j), .int .i64 (k : Int)] H = some r := by
  intro d
  induction d with
  | zero =>
    intro k hk m r hr
    have : k = 2 := by omega
    subst this
    refine ⟨m + 1, ?_⟩
    rw [c8_100027]
    rw [show decide (((2 : Nat) : Int) < 2) = false from rfl]
    simp only [wrap_succ (n := i) (by omega)]
    exact hr
  | succ d ih =>
    intro k hk m r hr
    have hk2 : k < 2 := by omega
    obtain ⟨m', hm⟩ := ih (k + 1) (by omega) m r hr
    refine ⟨m' + 1 + 1, ?_⟩
    rw [c8_100027]
    have e32 := c8_32 m' a0 l1 c2 (pn q) (i : Int) (pn j) (k : Int) H
    rw [wrap_succ (n := k) (by omega), hm] at e32
    have hw' : H[j]? = some (.cells [.int .i64 (f 0), .int .i64 (f 1)] 0 true) := hw
    have e30 := stat h hk2
    have e31 := spk h hk2
    unfold pn at *
    simp only [show decide ((k : Int) < 2) = true from decide_eq_true (by omega), ↓onSome_some, ↓Fw.kInt_int, ↓Fw.kBool_bool, ↓Fw.kStr_str, ↓Fw.kTup_tup, ↓Fw.kPtr_ptr, ↓Fw.kSl_sl, ↓Fw.kAgg_agg, ↓if_pos (kin hk2), ↓ldc_add, ↓ldc_at h.cell, ↓qP hk2, ↓on_of e30, List.getElem?_toArray, List.getElem?_cons_zero, List.getElem?_cons_succ, ↓on_of e31]
    have hep' := hep k hk2
    have nd : (match decide ((z.s k).epoch < f k) with
        | true => (match (z.s k).role != 0 with
          | true => (match (z.s k).role != 1 with
            | true => R8 (m' + 1) td8_31 [] H
            | false => some r)
          | false => some r)
        | false => some r) = some r := by
      rcases hep' with h0 | h1 | he
      · rw [h0]; cases decide ((z.s k).epoch < f k) <;> rfl
      · rw [h1]; cases decide ((z.s k).epoch < f k) <;> rfl
      · rw [decide_eq_false (by omega)]
    rcases Bool.eq_false_or_eq_true ((z.s k).role == 3) with h3 | h3
    · simp only [h3, Bool.true_or, beq_self_eq_true, Bool.not_true, ↓onSome_some, ↓Fw.kInt_int, ↓Fw.kBool_bool, ↓Fw.kStr_str, ↓Fw.kTup_tup, ↓Fw.kPtr_ptr, ↓Fw.kSl_sl, ↓Fw.kAgg_agg, ↓if_pos (kin hk2), ↓ldc_add, ↓ldc_at hw', ↓wGet f hk2, e32]
      exact nd
    · simp only [h3, Bool.false_or, beq_self_eq_true, Bool.not_true, ↓onSome_some, ↓Fw.kInt_int, ↓Fw.kBool_bool, ↓Fw.kStr_str, ↓Fw.kTup_tup, ↓Fw.kPtr_ptr, ↓Fw.kSl_sl, ↓Fw.kAgg_agg, ↓if_pos (kin hk2), ↓ldc_add, ↓ldc_at hw', ↓wGet f hk2, e32]
      exact nd

theorem Q.set_fresh (h : Q n H0 q b z H) {j : Nat} (hj : j ≠ q) (hb : ∀ k, k < 2 → j ≠ b k) (hw : ∀ k, k < 2 → ab (z.w k).a ≠ some j) (hn : ¬ n j) (o : AObj) : Q n H0 q b z (H.set j o) := by
  have kp : ∀ i, i ≠ j → (H.set j o)[i]? = H[i]? := fun i hne => by rw [List.getElem?_set_ne (Ne.symm hne)]
  exact ⟨(kp q (Ne.symm hj)).trans h.cell, fun k hk => (kp _ (Ne.symm (hb k hk))).trans (h.part k hk), fun k hk => (h.way k hk).keep fun i hi => kp i (fun e => hw k hk (by rw [hi, e])),
    h.bb, h.qb, h.wq, h.wb, h.ww, h.nq, h.nb, h.nw, by simpa using h.len, fun i hi => (kp i (fun e => hn (e ▸ hi))).trans (h.keep i hi)⟩

/-- A block that is none of the pair's. -/
structure Far (q : Nat) (b : Nat → Nat) (z : Sy) (j : Nat) : Prop where
  q_ : j ≠ q
  b_ : ∀ k, k < 2 → j ≠ b k
  w_ : ∀ k, k < 2 → ab (z.w k).a ≠ some j
theorem Q.far (h : Q n H0 q b z H) {j : Nat} (hj : H.length ≤ j) : Far q b z j :=
  ⟨by have := h.ql; omega, fun k hk => by have := (h.part k hk).lt; omega, fun k hk e => by have := (h.way k hk).lt e; omega⟩
end

/-- Inv of the law's loop. -/
structure Iv (z : Sy) (i : Nat) : Prop where
  ok : ∀ k, k < 2 → EpOk (z.s k)
  one : ¬ (Sp (z.s 0) ∧ Sp (z.s 1))
  len : ∀ k, k < 2 → (z.w k).l ≤ i
end Go.Proofs.Yticchkdbanhjfaa
