/- r3: SockNumbers: all acts. -/
import Derived.Test.YtlpeldimmaajkaaGreatSkF
set_option linter.unusedVariables false
set_option linter.unusedSimpArgs false
namespace Go.Proofs.YtlpeldimmaajkaaGreat
open Go Go.RowKit Go.Lib Go.Proofs.YtlpeldimmaajkaaGreat.Fw
section
variable {b t f m m2 m3 pb ub L : Nat} {H0 : Heap} {a : Option Addr} {l c2 : Nat} {xs : List Int}
theorem loop3 (hR : Recs (fun x : Int => [.int .i64 x]) 1 H0 a l xs) (hA : ∀ x, a = some x → x.block < L) : ∀ (r i : Nat) (E : List En) (U : List (Int × Bool)) (H : Heap), i + r = 30 → Li b t f m m2 m3 pb ub L E U i H0 H →
    ∃ q, (∀ k, ∃ H', R3 (k + q) td3_100007 [.slice a l c2, .pointer (some ⟨b, 0, none⟩), .map (some pb), .map (some ub), .int .i64 ((i : Nat) : Int)] H = some (.bool true, H')) ∧ q ≤ 40 * r + 2 := by
  intro r
  induction r with
  | zero =>
    intro i E U H hi h
    refine ⟨2, fun k => ?_, by omega⟩
    obtain ⟨H', e⟩ := h.end28 (by omega) k
    refine ⟨H', ?_⟩
    rw [show k + 2 = k + 1 + 1 by omega, c3_100007, decide_eq_false (show ¬ ((i : Nat) : Int) < 30 by omega)]
    cases decide (((i : Nat) : Int) < ((l : Nat) : Int)) <;> exact e
  | succ r ih =>
    intro i E U H hi h
    by_cases hil : i < l
    rotate_left
    · refine ⟨2, fun k => ?_, by omega⟩
      obtain ⟨H', e⟩ := h.end28 (by omega) k
      refine ⟨H', ?_⟩
      rw [show k + 2 = k + 1 + 1 by omega, c3_100007, decide_eq_false (show ¬ ((i : Nat) : Int) < ((l : Nat) : Int) by omega)]
      exact e
    have hlen := hR.len
    obtain ⟨v, hx⟩ : ∃ x, xs[i]? = some x := ⟨xs[i]'(by omega), by simp⟩
    have hRH := hR.keep (H' := H) fun x hx cs own h1 => (h.kept _ (hA x hx)).trans h1
    obtain ⟨ad, cs, own, rfl, hat, hget⟩ := hRH.one hx
    have fin : ∀ q E' U' H1, (∀ k, R3 (k + q) td3_100007 [.slice (some ad) l c2, .pointer (some ⟨b, 0, none⟩), .map (some pb), .map (some ub), .int .i64 ((i : Nat) : Int)] H = R3 k td3_100007 [.slice (some ad) l c2, .pointer (some ⟨b, 0, none⟩), .map (some pb), .map (some ub), .int .i64 ((i + 1 : Nat) : Int)] H1) → Li b t f m m2 m3 pb ub L E' U' (i + 1) H0 H1 → q ≤ 40 →
        ∃ q, (∀ k, ∃ H', R3 (k + q) td3_100007 [.slice (some ad) l c2, .pointer (some ⟨b, 0, none⟩), .map (some pb), .map (some ub), .int .i64 ((i : Nat) : Int)] H = some (.bool true, H')) ∧ q ≤ 40 * (r + 1) + 2 := fun q E' U' H1 e hL hq => by
      obtain ⟨q2, e2, hq2⟩ := ih (i + 1) E' U' H1 (by omega) hL
      refine ⟨q2 + q, fun k => ?_, by omega⟩
      obtain ⟨H', e3⟩ := e2 k
      exact ⟨H', by rw [← Nat.add_assoc, e, e3]⟩
    by_cases h6 : v % 12 < 6
    · cases hu : fi En.port (100 + v % 12) E with
      | none =>
        obtain ⟨q, E', U', H1, e, hL, hq⟩ := act_new (c2 := c2) h (by omega) hil hat hget h6 hu
        exact fin q E' U' H1 e hL hq
      | some x =>
        obtain ⟨q, H1, e, hL, hq⟩ := act_used (c2 := c2) h (by omega) hil hat hget h6 (by rw [hu]; rfl)
        exact fin q E U H1 e hL hq
    · cases hu : fi En.fd (v % 12 - 6) E with
      | none =>
        obtain ⟨q, H1, e, hL, hq⟩ := act_none (c2 := c2) h (by omega) hil hat hget h6 hu
        exact fin q E U H1 e hL hq
      | some x =>
        obtain ⟨q, E', U', H1, e, hL, hq⟩ := act_close (c2 := c2) h (by omega) hil hat hget h6 hu
        exact fin q E' U' H1 e hL hq
end
end Go.Proofs.YtlpeldimmaajkaaGreat
