/- RoleOne: what the methods of a part keep; the pair in a heap. -/
import Derived.Test.YticchkdbanhjfaaRp1
import Derived.Test.YticchkdbanhjfaaFwR
import Derived.Test.YticchkdbanhjfaaT5
set_option linter.unusedVariables false
set_option linter.unusedSimpArgs false
namespace Go.Proofs.Yticchkdbanhjfaa
open Go Go.RowKit Go.Proofs.Yticchkdbanhjfaa.Fw

/-- Does a part speak? -/
def Sp (s : Pt) : Prop := s.role = 3 ∨ s.role = 4
def EpOk (s : Pt) : Prop := 0 ≤ s.epoch ∧ s.epoch ≤ 4294967295
/-- What a part's turn leaves so. -/
structure Mv (s s' : Pt) : Prop where
  ok : EpOk s → EpOk s'
  sp : Sp s' → Sp s
  ep : EpOk s → s'.role = 0 ∨ s'.role = 1 ∨ s.epoch ≤ s'.epoch
theorem Mv.refl (s : Pt) : Mv s s := ⟨id, id, fun _ => .inr (.inr (Int.le_refl _))⟩
theorem Mv.same {s s' : Pt} (h1 : s'.role = s.role) (h2 : s'.epoch = s.epoch) : Mv s s' :=
  ⟨by unfold EpOk; rw [h2]; exact id, by unfold Sp; rw [h1]; exact id, fun _ => .inr (.inr (by rw [h2]; exact Int.le_refl _))⟩
theorem mv_hear (s : Pt) (x : Lt) (now : Int) : Mv s (hear s x now).2.2 := by
  unfold hear
  split
  · exact .refl s
  split
  · exact .refl s
  rename_i hg
  simp only []
  split
  · rename_i hi
    unfold invited at hi
    simp only [Bool.and_eq_true, beq_iff_eq, decide_eq_true_eq] at hi
    have hr := hi.1
    have he := hi.2.2.2.1
    exact ⟨fun _ => good_epoch (by simpa using hg), id, fun _ => .inr (.inl hr)⟩
  split
  · rename_i hi ha
    unfold asked at ha
    simp only [Bool.and_eq_true, Bool.or_eq_true, beq_iff_eq, decide_eq_true_eq] at ha
    have hs := ha.1
    have he := ha.2.2.2.2.2
    have hw : EpOk s → IntKind.i64.wrap (s.epoch + 1) = s.epoch + 1 := fun h => wrap_in ⟨by have := h.1; omega, by omega⟩
    refine ⟨fun h => ?_, fun _ => hs, fun h => .inr (.inr ?_)⟩
    · unfold EpOk
      show 0 ≤ IntKind.i64.wrap (s.epoch + 1) ∧ IntKind.i64.wrap (s.epoch + 1) ≤ 4294967295
      rw [hw h]; have := h.1; omega
    · show s.epoch ≤ IntKind.i64.wrap (s.epoch + 1)
      rw [hw h]; omega
  split
  · exact .same rfl rfl
  split
  · rename_i hr
    refine ⟨id, fun h => ?_, fun _ => .inr (.inr (Int.le_refl _))⟩
    rcases h with h | h <;> exact absurd h (by show ¬((2 : Int) = _); decide)
  · exact .same rfl rfl
theorem mv_drops (s : Pt) (now : Int) : (dropsM s now).2.role = s.role ∧ (dropsM s now).2.epoch = s.epoch := by
  unfold dropsM
  split
  · exact ⟨rfl, rfl⟩
  split
  · exact ⟨rfl, rfl⟩
  split
  · exact ⟨rfl, rfl⟩
  · exact ⟨rfl, rfl⟩
theorem mv_sync (s : Pt) (now : Int) : Mv s (syncM s now).2 := by
  unfold syncM
  split
  · exact .refl s
  rename_i h
  split
  · exact .refl s
  · have hr : s.role = 4 := by simpa using h
    exact ⟨id, fun _ => .inr hr, fun _ => .inr (.inr (Int.le_refl _))⟩
theorem mv_trans {s s' s'' : Pt} (h1 : s'.role = s.role) (h2 : s'.epoch = s.epoch) (h : Mv s' s'') : Mv s s'' :=
  ⟨fun k => h.ok (by unfold EpOk; rw [h2]; exact k), fun k => by have := h.sp k; unfold Sp at *; rwa [h1] at this, fun k => by have := h.ep (by unfold EpOk; rw [h2]; exact k); rwa [h2] at this⟩
theorem mv_join (s : Pt) (inc now : Int) : Mv s (joinM s inc now).2 := by
  unfold joinM
  split
  · exact .refl s
  split
  · exact .refl s
  split
  · exact .refl s
  · refine ⟨fun _ => by unfold EpOk; show (0 : Int) ≤ 0 ∧ (0 : Int) ≤ 4294967295; decide, fun h => ?_, fun _ => .inr (.inl rfl)⟩
    rcases h with h | h <;> exact absurd h (by show ¬((1 : Int) = _); decide)
theorem mv_crash (s : Pt) : Mv s (crashM s) := by
  refine ⟨fun _ => by unfold EpOk; show (0 : Int) ≤ 0 ∧ (0 : Int) ≤ 4294967295; decide, fun h => ?_, fun _ => .inl rfl⟩
  rcases h with h | h <;> exact absurd h (by show ¬((0 : Int) = _); decide)
theorem fence_role (s : Pt) : (fenceM s).role = 0 ∨ (fenceM s).role = 5 := by
  unfold fenceM
  split
  · exact .inr rfl
  · rename_i h
    exact .inl (by simpa using h)
theorem fence_nsp (s : Pt) : ¬ Sp (fenceM s) := by
  rcases fence_role s with h | h <;> unfold Sp <;> rw [h] <;> decide
theorem mv_fence (s : Pt) : Mv s (fenceM s) := by
  have he : (fenceM s).epoch = s.epoch := by unfold fenceM; split <;> rfl
  exact ⟨fun h => by unfold EpOk; rw [he]; exact h, fun h => absurd h (fence_nsp s), fun _ => .inr (.inr (by rw [he]; exact Int.le_refl _))⟩
theorem granted_ok (s : Pt) (now : Int) (h : EpOk s) : EpOk (granted s now).2 ∧ s.epoch ≤ (granted s now).2.epoch := by
  unfold granted
  split
  · exact ⟨h, Int.le_refl _⟩
  simp only []
  split
  · exact ⟨h, Int.le_refl _⟩
  · rename_i hn
    simp only [Bool.or_eq_true, decide_eq_true_eq, not_or] at hn
    have h1 := h.1
    have h2 := hn.2
    unfold EpOk
    show (0 ≤ IntKind.i64.wrap (s.epoch + 1) ∧ IntKind.i64.wrap (s.epoch + 1) ≤ 4294967295) ∧ s.epoch ≤ IntKind.i64.wrap (s.epoch + 1)
    rw [wrap_in ⟨by omega, by omega⟩]
    omega

/-! The pair. -/
structure Sl where
  a : Option Addr
  l : Nat
  c : Nat
def Sl.v (x : Sl) : Value := .slice x.a x.l x.c
structure Sy where
  s : Nat → Pt
  w : Nat → Sl
  ls : Nat → List Lt
  inc : Nat → Int
  now : Int
def qc (b : Nat → Nat) (z : Sy) : List Value := [pp (b 0), pp (b 1), (z.w 0).v, (z.w 1).v, .int .i64 (z.inc 0), .int .i64 (z.inc 1), .int .i64 z.now]
def up {α : Type} (f : Nat → α) (k : Nat) (v : α) : Nat → α := fun j => if j = k then v else f j
theorem up_same {α : Type} (f : Nat → α) (k : Nat) (v : α) : up f k v k = v := by simp [up]
theorem up_ne {α : Type} (f : Nat → α) {k j : Nat} (v : α) (h : j ≠ k) : up f k v j = f j := by simp [up, h]
def fl (ls : List Lt) : List Value := (ls.map Lt.cs).flatten
theorem fl_sz (ls : List Lt) : ∀ e ∈ ls.map Lt.cs, e.length = 6 := fun e he => by
  obtain ⟨x, _, rfl⟩ := List.mem_map.1 he; rfl
theorem fl_len (ls : List Lt) : (fl ls).length = ls.length * 6 := by
  unfold fl; rw [flatten_len (fl_sz ls)]; simp
theorem fl_app (a b : List Lt) : fl (a ++ b) = fl a ++ fl b := by simp [fl]
theorem fl_take (ls : List Lt) (n : Nat) : (fl ls).take (n * 6) = fl (ls.take n) := by
  induction n generalizing ls with
  | zero => simp [fl]
  | succ n ih =>
    cases ls with
    | nil => simp [fl]
    | cons x ls =>
      have := ih ls
      unfold fl at *
      simp only [List.map_cons, List.flatten_cons, List.take_succ_cons]
      rw [show (n + 1) * 6 = x.cs.length + n * 6 by simp [Lt.cs]; omega, List.take_length_add_append, this]
theorem fl_drop (ls : List Lt) (n : Nat) : (fl ls).drop (n * 6) = fl (ls.drop n) := by
  induction n generalizing ls with
  | zero => simp [fl]
  | succ n ih =>
    cases ls with
    | nil => simp [fl]
    | cons x ls =>
      have := ih ls
      unfold fl at *
      simp only [List.map_cons, List.flatten_cons, List.drop_succ_cons]
      rw [show (n + 1) * 6 = x.cs.length + n * 6 by simp [Lt.cs]; omega, List.drop_length_add_append, this]
theorem fl_get {ls : List Lt} {n : Nat} {x : Lt} (h : ls[n]? = some x) : range (fl ls) (n * 6) 6 = x.cs := by
  unfold fl
  exact range_flatten (fl_sz ls) (by rw [List.getElem?_map, h]; rfl)

structure Q (n : Nat → Prop) (H0 : Heap) (q : Nat) (b : Nat → Nat) (z : Sy) (H : Heap) : Prop where
  cell : H[q]? = some (.cells (qc b z) 0 true)
  part : ∀ k, k < 2 → At H (b k) (z.s k)
  way : ∀ k, k < 2 → Vec 6 H (z.w k).a (z.w k).l (z.w k).c (fl (z.ls k))
  bb : ∀ k j, k < 2 → j < 2 → b k = b j → k = j
  qb : ∀ k, k < 2 → q ≠ b k
  wq : ∀ k, k < 2 → ab (z.w k).a ≠ some q
  wb : ∀ k j, k < 2 → j < 2 → ab (z.w k).a ≠ some (b j)
  ww : ∀ k j i, k < 2 → j < 2 → ab (z.w k).a = some i → ab (z.w j).a = some i → k = j
  nq : ¬ n q
  nb : ∀ k, k < 2 → ¬ n (b k)
  nw : ∀ k i, k < 2 → ab (z.w k).a = some i → ¬ n i
  len : ∀ k, n k → k < H.length
  keep : ∀ k, n k → H[k]? = H0[k]?

section
variable {n : Nat → Prop} {H0 : Heap} {q : Nat} {b : Nat → Nat} {z : Sy} {H : Heap}
theorem Q.ql (h : Q n H0 q b z H) : q < H.length := (List.getElem?_eq_some_iff.1 h.cell).1
theorem Q.ext (h : Q n H0 q b z H) {H' : Heap} (hl : H.length ≤ H'.length) (hk : ∀ k, k < H.length → H'[k]? = H[k]?) : Q n H0 q b z H' :=
  ⟨(hk _ h.ql).trans h.cell, fun k hk2 => (hk _ (h.part k hk2).lt).trans (h.part k hk2), fun k hk2 => (h.way k hk2).keep fun j hj => hk j ((h.way k hk2).lt hj),
    h.bb, h.qb, h.wq, h.wb, h.ww, h.nq, h.nb, h.nw, fun k hk2 => Nat.lt_of_lt_of_le (h.len k hk2) hl, fun k hk2 => (hk k (h.len k hk2)).trans (h.keep k hk2)⟩
theorem Q.push (h : Q n H0 q b z H) (l : Heap) : Q n H0 q b z (H ++ l) := h.ext (by simp) fun k hk => List.getElem?_append_left hk
theorem Q.to (h : Q n H0 q b z H) {k : Nat} (hk : k < 2) {s' : Pt} {H' : Heap} (t : To (b k) s' H H') : Q n H0 q b { z with s := up z.s k s' } H' := by
  have kp : ∀ i, i < H.length → i ≠ b k → H'[i]? = H[i]? := fun i hi hne => t.keep i hi hne
  refine ⟨(kp q h.ql (h.qb k hk)).trans h.cell, fun j hj => ?_, fun j hj => (h.way j hj).keep fun i hi => kp i ((h.way j hj).lt hi) (fun e => h.wb j k hj hk (by rw [hi, e])), h.bb, h.qb, h.wq, h.wb, h.ww, h.nq, h.nb, h.nw, fun i hi => Nat.lt_of_lt_of_le (h.len i hi) t.len, fun i hi => ?_⟩
  · by_cases e : j = k
    · subst e
      show At H' (b j) (up z.s j s' j)
      rw [up_same]; exact t.at_
    · show At H' (b j) (up z.s k s' j)
      rw [up_ne _ _ e]
      exact (kp _ (h.part j hj).lt (fun e2 => e (h.bb j k hj hk e2))).trans (h.part j hj)
  · exact (kp i (h.len i hi) (fun e => h.nb k hk (e ▸ hi))).trans (h.keep i hi)
/-- The block of the pair is written: other joins, another tick. -/
theorem Q.num (h : Q n H0 q b z H) (inc : Nat → Int) (now : Int) : Q n H0 q b { z with inc := inc, now := now } (H.set q (.cells (qc b { z with inc := inc, now := now }) 0 true)) := by
  have kp : ∀ (o : AObj) i, i ≠ q → (H.set q o)[i]? = H[i]? := fun o i hne => by rw [List.getElem?_set_ne (Ne.symm hne)]
  refine ⟨List.getElem?_set_self h.ql, fun j hj => (kp _ _ (Ne.symm (h.qb j hj))).trans (h.part j hj), fun j hj => (h.way j hj).keep fun i hi => kp _ i (fun e => h.wq j hj (by rw [hi, e])), h.bb, h.qb, h.wq, h.wb, h.ww, h.nq, h.nb, h.nw, by simpa using h.len, fun i hi => ?_⟩
  exact (kp _ i (fun e => h.nq (e ▸ hi))).trans (h.keep i hi)
/-- A way is another one, and the block of the pair tells it. -/
theorem Q.ways (h : Q n H0 q b z H) {k : Nat} (hk : k < 2) {w : Sl} {ls : List Lt} {H1 : Heap} (hv : Vec 6 H1 w.a w.l w.c (fl ls)) (hl : H.length ≤ H1.length) (kp : ∀ i, i < H.length → ab (z.w k).a ≠ some i → H1[i]? = H[i]?)
    (hn : ∀ i, ab w.a = some i → ab (z.w k).a = some i ∨ H.length ≤ i) : Q n H0 q b { z with w := up z.w k w, ls := up z.ls k ls } (H1.set q (.cells (qc b { z with w := up z.w k w, ls := up z.ls k ls }) 0 true)) := by
  have kq : ∀ (o : AObj) i, i ≠ q → (H1.set q o)[i]? = H1[i]? := fun o i hne => by rw [List.getElem?_set_ne (Ne.symm hne)]
  have ql := h.ql
  have new : ∀ i, ab w.a = some i → i ≠ q ∧ (∀ j, j < 2 → i ≠ b j) ∧ (¬ n i) ∧ ∀ j, j < 2 → j ≠ k → ab (z.w j).a ≠ some i := fun i hi => by
    rcases hn i hi with e | e
    · exact ⟨fun e2 => h.wq k hk (by rw [e, e2]), fun j hj e2 => h.wb k j hk hj (by rw [e, e2]), h.nw k i hk e, fun j hj hne e2 => hne (h.ww j k i hj hk e2 e)⟩
    · exact ⟨by omega, fun j hj e2 => by have := (h.part j hj).lt; omega, fun hK => by have := h.len i hK; omega, fun j hj hne e2 => by have := (h.way j hj).lt e2; omega⟩
  refine ⟨List.getElem?_set_self (by omega), fun j hj => ?_, fun j hj => ?_, h.bb, h.qb, fun j hj e => ?_, fun j i hj hi e => ?_, fun j j' i hj hj' e e' => ?_, h.nq, h.nb, fun j i hj e => ?_, fun i hi => by have := h.len i hi; rw [List.length_set]; omega, fun i hi => ?_⟩
  · exact (kq _ _ (Ne.symm (h.qb j hj))).trans ((kp _ (h.part j hj).lt (h.wb k j hk hj)).trans (h.part j hj))
  · by_cases e : j = k
    · subst e
      show Vec 6 _ (up z.w j w j).a (up z.w j w j).l (up z.w j w j).c (fl (up z.ls j ls j))
      rw [up_same, up_same]
      exact hv.keep fun i hi => kq _ i (new i hi).1
    · show Vec 6 _ (up z.w k w j).a (up z.w k w j).l (up z.w k w j).c (fl (up z.ls k ls j))
      rw [up_ne _ _ e, up_ne _ _ e]
      exact (h.way j hj).keep fun i hi => (kq _ i (fun e2 => h.wq j hj (by rw [hi, e2]))).trans (kp i ((h.way j hj).lt hi) (fun e2 => e (h.ww j k i hj hk hi e2)))
  · by_cases e2 : j = k
    · subst e2
      have e : ab (up z.w j w j).a = some q := e
      rw [up_same] at e; exact (new q e).1 rfl
    · have e : ab (up z.w k w j).a = some q := e
      rw [up_ne _ _ e2] at e; exact h.wq j hj e
  · by_cases e2 : j = k
    · subst e2
      have e : ab (up z.w j w j).a = some (b i) := e
      rw [up_same] at e; exact (new _ e).2.1 i hi rfl
    · have e : ab (up z.w k w j).a = some (b i) := e
      rw [up_ne _ _ e2] at e; exact h.wb j i hj hi e
  · have e : ab (up z.w k w j).a = some i := e
    have e' : ab (up z.w k w j').a = some i := e'
    by_cases e1 : j = k <;> by_cases e2 : j' = k
    · rw [e1, e2]
    · subst e1
      rw [up_same] at e
      rw [up_ne _ _ e2] at e'
      exact absurd e' ((new i e).2.2.2 j' hj' e2)
    · subst e2
      rw [up_same] at e'
      rw [up_ne _ _ e1] at e
      exact absurd e ((new i e').2.2.2 j hj e1)
    · rw [up_ne _ _ e1] at e
      rw [up_ne _ _ e2] at e'
      exact h.ww j j' i hj hj' e e'
  · by_cases e2 : j = k
    · subst e2
      have e : ab (up z.w j w j).a = some i := e
      rw [up_same] at e; exact (new i e).2.2.1
    · have e : ab (up z.w k w j).a = some i := e
      rw [up_ne _ _ e2] at e; exact h.nw j i hj e
  · exact (kq _ i (fun e => h.nq (e ▸ hi))).trans ((kp i (h.len i hi) (fun e => h.nw k i hk e hi)).trans (h.keep i hi))
end
end Go.Proofs.Yticchkdbanhjfaa
