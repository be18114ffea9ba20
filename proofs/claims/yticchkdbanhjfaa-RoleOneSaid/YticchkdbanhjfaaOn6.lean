/- RoleOne: the law's loops. -/
import Derived.Test.YticchkdbanhjfaaOn5
import Derived.Test.YticchkdbanhjfaaRp2
set_option linter.unusedVariables false
set_option linter.unusedSimpArgs false
namespace Go.Proofs.Yticchkdbanhjfaa
open Go Go.RowKit Go.Proofs.Yticchkdbanhjfaa.Fw

section
variable {n : Nat → Prop} {H0 : Heap} {q : Nat} {b : Nat → Nat} {z : Sy} {H : Heap}
theorem loop19 {a0 : Option Addr} {l1 c2 i j : Nat} (hfar : Far q b z j) (hn : ¬ n j) (last : ∀ H, Q n H0 q b z H → ∀ f, Was H j f → (∀ k, k < 2 → f k = (z.s k).epoch) → ∃ m H', R8 m td8_100019 [.slice a0 l1 c2, .pointer (pn q), .int .i64 (i : Int), .pointer (pn j), .int .i64 ((2 : Nat) : Int)] H = some (.bool true, H')) :
    ∀ (d k : Nat), k + d = 2 → ∀ H f, Q n H0 q b z H → Was H j f → (∀ k', k' < k → f k' = (z.s k').epoch) → ∃ m H', R8 m td8_100019 [.slice a0 l1 c2, .pointer (pn q), .int .i64 (i : Int), .pointer (pn j), .int .i64 (k : Int)] H = some (.bool true, H') := by
  intro d
  induction d with
  | zero =>
    intro k hk H f h hw hf
    have : k = 2 := by omega
    subst this
    exact last H h f hw fun k hk => hf k hk
  | succ d ih =>
    intro k hk H f h hw hf
    have hk2 : k < 2 := by omega
    have h1 : Q n H0 q b z (H.set j (wasC (up f k (z.s k).epoch 0) (up f k (z.s k).epoch 1))) := h.set_fresh hfar.q_ hfar.b_ hfar.w_ hn _
    have hw1 : Was (H.set j (wasC (up f k (z.s k).epoch 0) (up f k (z.s k).epoch 1))) j (up f k (z.s k).epoch) := List.getElem?_set_self (List.getElem?_eq_some_iff.1 hw).1
    obtain ⟨m, H', hm⟩ := ih (k + 1) (by omega) _ _ h1 hw1 fun k' hk' => by
      by_cases e : k' = k
      · subst e; rw [up_same]
      · rw [up_ne _ _ e]; exact hf k' (by omega)
    refine ⟨m + 1, H', ?_⟩
    rw [c8_100019]
    have e30 := stat h hk2
    unfold pn at *
    simp only [show decide ((k : Int) < 2) = true from decide_eq_true (by omega), ↓onSome_some, ↓Fw.kInt_int, ↓Fw.kBool_bool, ↓Fw.kStr_str, ↓Fw.kTup_tup, ↓Fw.kPtr_ptr, ↓Fw.kSl_sl, ↓Fw.kAgg_agg, ↓if_pos (kin hk2), ↓ldc_add, ↓ldc_at h.cell, ↓qP hk2, ↓on_of e30, List.getElem?_toArray, List.getElem?_cons_zero, List.getElem?_cons_succ, ↓wSet hw hk2, wrap_succ (n := k) (by omega)]
    exact hm

theorem loop15 {a : Option Addr} {l c0 : Nat} {xs : List Dx} (hX : Recs Dx.cs 3 H0 a l xs) (hA : ∀ x, a = some x → n x.block) (hl : l < 9223372036854775807) :
    ∀ (d i : Nat), i + d = 120 → ∀ (H : Heap) (z : Sy), Q n H0 q b z H → Iv z i →
      ∃ m H', R8 m td8_100015 [.slice a l c0, .pointer (pn q), .int .i64 (i : Int)] H = some (.bool true, H') := by
  have done : ∀ (i : Nat) (H : Heap), (decide ((i : Int) < (l : Int)) = false ∨ decide ((i : Int) < 120) = false) →
      ∃ m H', R8 m td8_100015 [.slice a l c0, .pointer (pn q), .int .i64 (i : Int)] H = some (.bool true, H') := by
    intro i H hc
    refine ⟨0 + 1 + 1, H, ?_⟩
    rw [c8_100015]
    have e33 := c8_33 0 H
    rcases hc with hc | hc
    · simp only [hc]; exact e33
    · simp only [hc]
      cases decide ((i : Int) < ((l : Nat) : Int)) <;> exact e33
  intro d
  induction d with
  | zero =>
    intro i hi H z h hI
    exact done i H (.inr (decide_eq_false (by omega)))
  | succ d ih =>
    intro i hi H z h hI
    by_cases hil : i < l
    · have hlt : i < xs.length := by have := hX.len; omega
      obtain ⟨x, cs, own, rfl, h1, h2, h3⟩ := hX.get (i := i) (t := xs[i]) (by simp [hlt])
      have hxn := hA x rfl
      have hin : (0 : Int) ≤ (i : Int) ∧ (i : Int) < ((l : Nat) : Int) := by omega
      have h5 := h.push [wasC 0 0]
      have hw5 : Was (H ++ [wasC 0 0]) H.length (fun _ => 0) := by unfold Was; simp
      have hfar := h.far (Nat.le_refl H.length)
      have hnj : ¬ n H.length := fun hh => by have := h.len _ hh; omega
      obtain ⟨m, H', hm⟩ := loop19 (a0 := some x) (l1 := l) (c2 := c0) (i := i) (j := H.length) hfar hnj (fun H1 g1 f hf hfe => by
        have gx : H1[x.block]? = some (.cells cs 3 own) := (g1.keep _ hxn).trans h1
        have jl : H.length < H1.length := (List.getElem?_eq_some_iff.1 hf).1
        have g2 : Q (fun k => n k ∨ k = H.length) H1 q b z H1 := ⟨g1.cell, g1.part, g1.way, g1.bb, g1.qb, g1.wq, g1.wb, g1.ww,
          fun e => e.elim g1.nq fun e => hfar.q_ e.symm, fun k hk e => e.elim (g1.nb k hk) fun e => hfar.b_ k hk e.symm, fun k i' hk hi' e => e.elim (g1.nw k i' hk hi') fun e => hfar.w_ k hk (by rw [hi', e]),
          fun k e => e.elim (g1.len k) fun e => by omega, fun _ _ => rfl⟩
        obtain ⟨H2, z', e41, g3, s3⟩ := does41 g2 xs[i] (fun k hk => by have := hI.len k hk; omega)
        have hw2 : Was H2 H.length f := (g3.keep _ (.inr rfl)).trans hf
        have g4 : Q n H0 q b z' H2 := ⟨g3.cell, g3.part, g3.way, g3.bb, g3.qb, g3.wq, g3.wb, g3.ww, fun e => g3.nq (.inl e), fun k hk e => g3.nb k hk (.inl e), fun k i' hk hi' e => g3.nw k i' hk hi' (.inl e),
          fun k e => g3.len k (.inl e), fun k e => (g3.keep k (.inl e)).trans (g1.keep k e)⟩
        have ok' := s3.ok hI.ok
        have one' := s3.one hI.one
        have ep' := s3.ep hI.ok
        obtain ⟨m2, H3, hm2⟩ := ih (i + 1) (by omega) H2 z' g4 ⟨ok', one', fun k hk => by have := s3.len k hk; have := hI.len k hk; omega⟩
        obtain ⟨m3, hm3⟩ := check8 g4 hw2 (List.getElem?_eq_some_iff.1 hw2).1 (fun k hk => by rw [hfe k hk]; exact ep' k hk) (some x) l c0 i (by omega) 2 0 rfl m2 _ hm2
        refine ⟨m3 + 1 + 1, H3, ?_⟩
        have e26 := c8_26 m3 (some x) l c0 (pn q) (i : Int) (pn H.length) H2
        rw [show ((0 : Nat) : Int) = 0 from rfl] at hm3
        rw [hm3] at e26
        rw [c8_100019]
        have k0 : (0 : Int) = ((0 : Nat) : Int) := rfl
        have k1 : (1 : Int) = ((1 : Nat) : Int) := rfl
        have p0 := spk g4 (k := 0) (by decide)
        have p1 := spk g4 (k := 1) (by decide)
        have i0 : (0 : Int) ≤ 0 ∧ (0 : Int) < ((2 : Nat) : Int) := by decide
        have i1 : (0 : Int) ≤ 1 ∧ (1 : Int) < ((2 : Nat) : Int) := by decide
        have q0 := fun K => qP (b := b) (z := z') (q := q) (k := 0) (by decide) K
        have q1 := fun K => qP (b := b) (z := z') (q := q) (k := 1) (by decide) K
        rw [show ((0 : Nat) : Int) = 0 from rfl] at q0
        rw [show ((1 : Nat) : Int) = 1 from rfl] at q1
        have hle : (x.add ((i : Int).toNat * 3)).off + 3 ≤ cs.length := by rw [add_off, Int.toNat_natCast]; exact h2
        have hrg : range cs (x.add ((i : Int).toNat * 3)).off 3 = xs[i].cs := by rw [add_off, Int.toNat_natCast]; exact h3
        unfold pn at *
        simp only [show decide (((2 : Nat) : Int) < 2) = false from rfl, ↓onSome_some, ↓Fw.kInt_int, ↓Fw.kBool_bool, ↓Fw.kStr_str, ↓Fw.kTup_tup, ↓Fw.kPtr_ptr, ↓Fw.kSl_sl, ↓Fw.kAgg_agg, ↓if_pos hin, ↓ldc_add, ↓ldc_at gx, ↓if_pos hle, hrg, ↓on_of e41, ↓if_pos i0, ↓ldc_at g4.cell, ↓q0, ↓on_of p0, ↓if_pos i1, ↓q1, ↓on_of p1, e26]
        have one2 : ((z'.s 0).role == 3 || (z'.s 0).role == 4) = false ∨ ((z'.s 1).role == 3 || (z'.s 1).role == 4) = false := by
          rcases Bool.eq_false_or_eq_true ((z'.s 0).role == 3 || (z'.s 0).role == 4) with a1 | a1
          · rcases Bool.eq_false_or_eq_true ((z'.s 1).role == 3 || (z'.s 1).role == 4) with a2 | a2
            · exfalso
              refine one' ⟨?_, ?_⟩ <;> unfold Sp
              · simpa using a1
              · simpa using a2
            · exact .inr a2
          · exact .inl a1
        rcases one2 with hz | hz
        · rw [hz]
        · rw [hz]
          cases ((z'.s 0).role == 3 || (z'.s 0).role == 4) <;> rfl) 2 0 rfl _ _ h5 hw5 (fun k' hk' => by omega)
      refine ⟨m + 1, H', ?_⟩
      rw [c8_100015]
      rw [show ((0 : Nat) : Int) = 0 from rfl] at hm
      simp only [decide_eq_true hin.2, show decide ((i : Int) < 120) = true from decide_eq_true (by omega)]
      exact hm
    · exact done i H (.inl (decide_eq_false (by omega)))
end
end Go.Proofs.Yticchkdbanhjfaa
