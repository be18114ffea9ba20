/- EventBack: pieces of a log, put together again. -/
import Derived.Test.YticchkdbanhjfaaEb3
set_option linter.unusedVariables false
set_option linter.unusedSimpArgs false
namespace Go.Proofs.Yticchkdbanhjfaa
open Go Go.RowKit Go.Proofs.Yticchkdbanhjfaa.Fw
theorem encs_pos {ps : List Ev} (h : ps ≠ []) : (encs ps == []) = false := by
  cases ps with
  | nil => exact absurd rfl h
  | cons e ps => rw [encs_cons]; exact ne_nil _ _ (enc_ne e)
theorem encs_snoc (ps : List Ev) (e : Ev) : encs (ps ++ [e]) = encs ps ++ enc e := by simp [encs]
/-- Pieces: how many events they hold. -/
theorem bytesM_take (M : Int) : ∀ (rest : List Ev) (n : Int) (ps : List Ev), (((encs ps).length : Int) ≤ M ∨ ps.length ≤ 1) →
    ∃ k, k ≤ rest.length ∧ bytesM M rest n (encs ps) = (encs (ps ++ rest.take k), n + (k : Int)) ∧ (((encs (ps ++ rest.take k)).length : Int) ≤ M ∨ (ps ++ rest.take k).length ≤ 1) ∧ (ps = [] → rest ≠ [] → 1 ≤ k)
  | [], n, ps, h => ⟨0, Nat.le_refl _, by simp [bytesM], by simpa using h, fun _ h => absurd rfl h⟩
  | e :: rest, n, ps, h => by
    have step : ∀ h', ∃ k, k ≤ (e :: rest).length ∧ bytesM M rest (n + 1) (encs ps ++ enc e) = (encs (ps ++ (e :: rest).take k), n + (k : Int)) ∧ (((encs (ps ++ (e :: rest).take k)).length : Int) ≤ M ∨ (ps ++ (e :: rest).take k).length ≤ 1) ∧ (ps = [] → (e :: rest) ≠ [] → 1 ≤ k) := fun (h' : ((encs (ps ++ [e])).length : Int) ≤ M ∨ (ps ++ [e]).length ≤ 1) => by
      obtain ⟨k, h1, h2, h3, _⟩ := bytesM_take M rest (n + 1) (ps ++ [e]) h'
      rw [encs_snoc] at h2
      have e1 : ps ++ (e :: rest).take (k + 1) = (ps ++ [e]) ++ rest.take k := by simp
      refine ⟨k + 1, by simp; omega, ?_, by rw [e1]; exact h3, fun _ _ => by omega⟩
      rw [h2, e1]
      congr 1; omega
    unfold bytesM
    by_cases hp : ps = []
    · subst hp
      obtain ⟨k, hk⟩ := step (.inr (by simp))
      simp only [encs_nil, beq_self_eq_true, Bool.not_true] at hk ⊢
      exact ⟨k, hk⟩
    · rw [encs_pos hp]
      simp only [Bool.not_false]
      rcases Bool.eq_false_or_eq_true (decide (M < ((encs ps).length : Int) + ((enc e).length : Int))) with q | q
      · simp only [q]
        exact ⟨0, by omega, by simp, by simpa using h, fun h => absurd h hp⟩
      · simp only [q]
        have := of_decide_eq_false q
        exact step (.inl (by rw [encs_snoc, List.length_append]; omega))
/-- A log, and a slice with the same events. -/
structure Wn (H0 : Heap) (N : Nat → Prop) (b : Nat) (es : List Ev) (w : Option Addr) (cw : Nat) (H : Heap) : Prop where
  lg : Lg N b es H
  wv : Vec 3 Z3 H w es.length cw (fe es)
  ap : ∀ j, ab w = some j → ¬ N j
  wb : ∀ j, ab w = some j → H0.length ≤ j
  nb : ∀ k, N k → H0.length ≤ k
  len : H0.length ≤ H.length
  kept : ∀ k, k < H0.length → H[k]? = H0[k]?
section
variable {H0 : Heap} {N : Nat → Prop} {b : Nat} {es : List Ev} {w : Option Addr} {cw : Nat} {H : Heap}
theorem Wn.ext (h : Wn H0 N b es w cw H) {H' : Heap} (hl : H.length ≤ H'.length) (hk : ∀ k, k < H.length → H'[k]? = H[k]?) : Wn H0 N b es w cw H' :=
  ⟨h.lg.keep hl fun k q => hk k (h.lg.lt k q), h.wv.keep fun j q => hk j (h.wv.lt q), h.ap, h.wb, h.nb, Nat.le_trans h.len hl, fun k q => (hk k (Nat.lt_of_lt_of_le q h.len)).trans (h.kept k q)⟩
theorem Wn.push (h : Wn H0 N b es w cw H) (g : Heap) : Wn H0 N b es w cw (H ++ g) := h.ext (by simp) fun k q => List.getElem?_append_left q
theorem from_id {n : Nat} (h : 1 ≤ n) : fromM (n : Int) = (n : Int) := by unfold fromM mxi; split <;> omega
theorem loopB (hle : es.length ≤ 40) (hok : ∀ e ∈ es, ok e = true) {M : Int} (hM : 1 ≤ M ∧ M ≤ 3000) : ∀ (r d m : Nat) (H : Heap) (gp : Option Addr) (gc : Nat), d + r = es.length → 2 * r + 1 ≤ m → Wn H0 N b es w cw H →
    Vec 3 Z3 H gp d gc (fe (es.take d)) → (∀ j, ab gp = some j → ¬ N j ∧ ab w ≠ some j ∧ H0.length ≤ j) →
    ∃ H', R9 m td9_100029 [.int .i64 M, .pointer (some ⟨b, 0, none⟩), .slice w es.length cw, .slice gp d gc, .int .i64 ((d : Int) + 1)] H = some (.bool true, H') := by
  intro r
  induction r using Nat.strongRecOn with
  | _ r ih =>
    intro d m H gp gc hd hm hW hG hS
    obtain ⟨m, rfl⟩ : ∃ m', m = m' + 1 := ⟨m - 1, by omega⟩
    have e0 := c9_100029 m M (some ⟨b, 0, none⟩) w es.length cw gp d gc ((d : Int) + 1) H
    simp only [↓onS, ↓kInt_int, ↓kInt_u8, ↓kBool_bool, ↓kStr_str, ↓kTup_tup, ↓kPtr_ptr, ↓kSl_sl, ↓kAgg_agg, ↓on_of (len16 hW.lg)] at e0
    by_cases hr : r = 0
    · have hde : d = es.length := by omega
      subst hde
      rw [List.take_length] at hG
      rw [decide_eq_false (by omega)] at e0
      simp only [↓onS, ↓kInt_int, ↓kInt_u8, ↓kBool_bool, ↓kStr_str, ↓kTup_tup, ↓kPtr_ptr, ↓kSl_sl, ↓kAgg_agg, ↓on_of (same45 hG hW.wv (by omega))] at e0
      exact ⟨_, e0⟩
    · rw [decide_eq_true (show (d : Int) + 1 ≤ ((es.length : Nat) : Int) by omega)] at e0
      obtain ⟨m, rfl⟩ : ∃ m', m = m' + 1 := ⟨m - 1, by omega⟩
      obtain ⟨g1, e19⟩ := bytes19 hW.lg (by omega) hok ((d : Int) + 1) M
      have ef : fromM ((d : Int) + 1) = (d : Int) + 1 := from_id (n := d + 1) (by omega)
      have ed : ((d : Int) + 1 - 1).toNat = d := by omega
      rw [ef, ed] at e19
      obtain ⟨k, hk1, hk2, hk3, hk4⟩ := bytesM_take M (es.drop d) ((d : Int) + 1) [] (.inr (by simp))
      rw [encs_nil] at hk2
      simp only [List.nil_append] at hk2 hk3
      rw [hk2] at e19
      have hkd : 1 ≤ k := hk4 rfl (fun q => by have := List.drop_eq_nil_iff.1 q; omega)
      rw [List.length_drop] at hk1
      have hpl : ((es.drop d).take k).length = k := by rw [List.length_take, List.length_drop]; omega
      have hpok : ∀ e ∈ (es.drop d).take k, ok e = true := fun e he => hok e (List.mem_of_mem_drop (List.mem_of_mem_take he))
      have hpb : ((encs ((es.drop d).take k)).length : Int) ≤ 3000 := by
        rcases hk3 with q | q
        · omega
        · rw [hpl] at q
          have : ∀ ps : List Ev, ps.length ≤ 1 → (∀ e ∈ ps, ok e = true) → (encs ps).length ≤ 1523 := fun ps h1 h2 => by
            match ps, h1 with
            | [], _ => simp [encs]
            | [e], _ => have := enc_le (h2 e (by simp)); simpa [encs] using this
          have := this _ (by rw [hpl]; exact q) hpok
          omega
      obtain ⟨a', c', H2, e44, V2, L2, K2, A2⟩ := parts44 (H ++ g1) ((es.drop d).take k) hpok (by omega) (by rw [hpl]; omega)
      rw [hpl] at e44 V2
      have hW2 : Wn H0 N b es w cw H2 := (hW.push g1).ext L2 K2
      have hG2 : Vec 3 Z3 H2 gp d gc (fe (es.take d)) := hG.keep fun j q => by
        have := hG.lt q
        rw [K2 j (by simp; omega), List.getElem?_append_left this]
      obtain ⟨a3, c3, H3, app1, V3, L3, K3, N3⟩ := hG2.app (P := Try.prog) (e := 40) c40 (fun ez h => h) z40 (n := k) (nw := fe ((es.drop d).take k)) (by rw [fe_len, hpl]) (by rw [b40]; omega) (by omega)
      have f1 := fun K : Nat → List Value → R => firstC_vec V2 K
      have ew : IntKind.i64.wrap ((d : Int) + 1 + (k : Int) - ((d : Int) + 1)) = (k : Int) := by rw [wrap_in ⟨by omega, by omega⟩]; omega
      -- the rest
      have ehlen : H.length ≤ H2.length := by simp at L2; omega
      have hgt := fun j (q : ab gp = some j) => hS j q
      have hW3 : Wn H0 N b es w cw H3 := by
        have kk : ∀ k, k < H2.length → (N k ∨ ab w = some k ∨ k < H0.length) → H3[k]? = H2[k]? := fun k hk q => K3 k hk fun q2 => by
          have := hgt k q2
          rcases q with q | q | q
          · exact this.1 q
          · exact this.2.1 q
          · omega
        refine ⟨hW2.lg.keep L3 fun k q => kk k (hW2.lg.lt k q) (.inl q), hW2.wv.keep fun j q => kk j (hW2.wv.lt q) (.inr (.inl q)), hW.ap, hW.wb, hW.nb, by have := hW2.len; omega, fun k q => (kk k (by have := hW2.len; omega) (.inr (.inr q))).trans (hW2.kept k q)⟩
      have hG3 : Vec 3 Z3 H3 a3 (d + k) c3 (fe (es.take (d + k))) := by
        have : fe (es.take (d + k)) = fe (es.take d) ++ fe ((es.drop d).take k) := by
          rw [List.take_add]; simp [fe]
        rw [this]; exact V3
      have hS3 : ∀ j, ab a3 = some j → ¬ N j ∧ ab w ≠ some j ∧ H0.length ≤ j := fun j q => by
        rcases N3 j q with q2 | q2
        · exact hgt j q2
        · subst q2
          refine ⟨fun q3 => by have := hW2.lg.lt _ q3; omega, fun q3 => by have := hW2.wv.lt q3; omega, by have := hW2.len; omega⟩
      obtain ⟨H', e1⟩ := ih (r - k) (by omega) (d + k) m H3 a3 c3 (by omega) (by omega) hW3 hG3 hS3
      have e34 := c9_34 m M (some ⟨b, 0, none⟩) w es.length cw gp d gc ((d : Int) + 1 + (k : Int)) a' k c' H2
      simp only [f1, app1, ↓kSl_sl] at e34
      have eat : ((d : Int) + 1 + (k : Int)) = (((d + k : Nat) : Int) + 1) := by omega
      have e2 : R9 (m + 1) td9_34 [.int .i64 M, .pointer (some ⟨b, 0, none⟩), .slice w es.length cw, .slice gp d gc, .int .i64 ((d : Int) + 1 + (k : Int)), .slice a' k c'] H2 = some (.bool true, H') := by
        rw [e34, eat]; exact e1
      refine ⟨H', ?_⟩
      simp only [↓onS, ↓kInt_int, ↓kInt_u8, ↓kBool_bool, ↓kStr_str, ↓kTup_tup, ↓kPtr_ptr, ↓kSl_sl, ↓kAgg_agg, ↓on_of e19, List.getElem?_toArray, List.getElem?_cons_zero, List.getElem?_cons_succ, ↓on_of e44, bne_self_eq_false, ew, bs_size] at e0
      rw [decide_eq_false (show ¬ ((d : Int) + 1 + (k : Int) ≤ (d : Int) + 1) by omega)] at e0
      simp only [e2] at e0
      rcases Bool.eq_false_or_eq_true (decide (M < ((encs ((es.drop d).take k)).length : Int))) with q | q
      · have hk1' : k = 1 := by
          have := of_decide_eq_true q
          rcases hk3 with q2 | q2
          · omega
          · rw [hpl] at q2; omega
        rw [q] at e0
        subst hk1'
        exact e0
      · rw [q] at e0
        exact e0
end
end Go.Proofs.Yticchkdbanhjfaa
