/- EventBack: the events of bytes; the same events; into a range. -/
import Derived.Test.YticchkdbanhjfaaEb2
set_option linter.unusedVariables false
set_option linter.unusedSimpArgs false
namespace Go.Proofs.Yticchkdbanhjfaa
open Go Go.RowKit Go.Proofs.Yticchkdbanhjfaa.Fw
def encs (ps : List Ev) : List UInt8 := (ps.map enc).flatten
theorem encs_cons (e : Ev) (ps : List Ev) : encs (e :: ps) = enc e ++ encs ps := rfl
theorem encs_app (a b : List Ev) : encs (a ++ b) = encs a ++ encs b := by simp [encs]
theorem encs_nil : encs [] = [] := rfl
theorem ne_nil (l r : List UInt8) (h : l ≠ []) : ((l ++ r) == []) = false := by
  cases l with
  | nil => exact absurd rfl h
  | cons x l => rfl
theorem fill3' (x : Ev) : Instr.fill (fun i => some (i * 3, 3)) ev0.cs.toArray (([0] : List Nat).zip [.agg x.cs.toArray]) = some x.cs.toArray := by
  have := fill3 x
  rwa [z_cs] at this
theorem parts_loop (H0 : Heap) : ∀ (ps done : List Ev) (H : Heap) (a : Option Addr) (c m : Nat), (∀ e ∈ ps, ok e = true) → (encs ps).length ≤ 65536 → done.length + ps.length ≤ 65536 → Vec 3 Z3 H a done.length c (fe done) → H0.length ≤ H.length → (∀ k, k < H0.length → H[k]? = H0[k]?) → (∀ j, ab a = some j → H0.length ≤ j) →
    ∃ a' c' H', R44 (m + ps.length + 1) td44_100004 [.string (bs (encs ps)), .slice a done.length c] H = some (.tuple #[.slice a' (done ++ ps).length c', .int .i64 0], H') ∧ Vec 3 Z3 H' a' (done ++ ps).length c' (fe (done ++ ps)) ∧ H0.length ≤ H'.length ∧ (∀ k, k < H0.length → H'[k]? = H0[k]?) ∧ (∀ j, ab a' = some j → H0.length ≤ j)
  | [], done, H, a, c, m, hok, hlen, hn, hv, hl, hk, ha => by
    refine ⟨a, c, H, ?_, by rw [List.append_nil]; exact hv, hl, hk, ha⟩
    rw [c44_100004, encs_nil, bs_nil]
    simp only [bs_list, beq_self_eq_true, Bool.not_true, List.append_nil]
  | e :: ps, done, H, a, c, m, hok, hlen, hn, hv, hl, hk, ha => by
    rw [encs_cons] at hlen
    simp only [List.length_cons] at hn
    have hoke := hok e (by simp)
    obtain ⟨g, x, r, e73, hx⟩ := first73 H (enc e ++ encs ps) (by omega)
    have hf := first_enc hoke (encs ps)
    obtain ⟨rfl, rfl⟩ := Prod.mk.inj (hx _ hf)
    rw [hf] at e73
    have e0 := c44_100004 (m + (ps.length + 1)) (bs (enc x ++ encs ps)) a done.length c H
    have eb : AObj.cells ev0.cs 0 true = bx ev0 := rfl
    simp only [z_cs, eb] at e0
    simp only [bs_nil, bs_list, ne_nil _ _ (enc_ne x), Bool.not_false] at e0
    obtain ⟨H2, hH2⟩ : ∃ X, X = H ++ g := ⟨_, rfl⟩
    rw [← hH2] at e73
    have l2 : H.length ≤ H2.length := by rw [hH2]; simp
    have k2 : ∀ k, k < H.length → H2[k]? = H[k]? := fun k hk => by rw [hH2]; exact List.getElem?_append_left hk
    have hv3 : Vec 3 Z3 ((H2 ++ [bx x]) ++ [.cells x.cs 3 true]) a done.length c (fe done) := hv.keep fun j hj => by
      have := hv.lt hj
      rw [List.append_assoc, List.getElem?_append_left (by omega)]; exact k2 j this
    obtain ⟨a', c', H3, app1, V, L3, K3, N3⟩ := hv3.app (P := Try.prog) (e := 40) c40 (fun ez h => h) z40 (n := 1) (nw := x.cs) rfl (by rw [b40]; omega) (by omega)
    simp only [List.length_append, List.length_cons, List.length_nil] at L3 K3 N3
    have f1 : ∀ K : Nat → List Value → R, firstC ((H2 ++ [bx x]) ++ [.cells x.cs 3 true]) 3 (.slice (some ⟨(H2 ++ [bx x]).length, 0, none⟩) 1 1) K = K 1 x.cs := fun K => firstC_blk (cs := x.cs) (ez := 3) (o := true) (by simp) rfl K
    simp only [↓onS, ↓kInt_int, ↓kInt_u8, ↓kBool_bool, ↓kStr_str, ↓kTup_tup, ↓kPtr_ptr, ↓kSl_sl, ↓kAgg_agg, ↓on_of e73, List.getElem?_toArray, List.getElem?_cons_zero, List.getElem?_cons_succ, size3, if_true, Option.isSome_some, Bool.not_true, ↓st_bx (bx_at H2 ev0), bx_set, ↓ldc_bx (bx_at H2 x), ↓cond3, range_cs, ↓cellsOks1, fill3', List.toList_toArray, f1, app1] at e0
    have V' : Vec 3 Z3 H3 a' (done ++ [x]).length c' (fe (done ++ [x])) := by
      rw [fe_snoc, List.length_append]; exact V
    obtain ⟨a2, c2, H4, r1, r2, r3, r4, r5⟩ := parts_loop H0 ps (done ++ [x]) H3 a' c' m (fun y hy => hok y (by simp [hy])) (by rw [List.length_append] at hlen; omega) (by simp; omega) V' (by omega) (fun k hk' => by
      rw [K3 k (by omega) (fun q => by have := ha k q; omega), List.append_assoc, List.getElem?_append_left (by omega), k2 k (by omega)]; exact hk k hk') (fun j hj => by
      rcases N3 j hj with q | q
      · exact ha j q
      · omega)
    rw [List.append_assoc] at r1 r2
    refine ⟨a2, c2, H4, ?_, r2, r3, r4, r5⟩
    rw [encs_cons, List.length_cons]
    rw [show (done ++ [x]).length = done.length + 1 by simp, Nat.add_assoc m ps.length 1] at r1
    exact e0.trans r1
/-- event.Parts, of events' bytes. -/
theorem parts44 (H : Heap) (ps : List Ev) (hok : ∀ e ∈ ps, ok e = true) (hlen : (encs ps).length ≤ 65536) (hn : ps.length ≤ 65536) :
    ∃ a' c' H', F44 [.string (bs (encs ps))] H = some (.tuple #[.slice a' ps.length c', .int .i64 0], H') ∧ Vec 3 Z3 H' a' ps.length c' (fe ps) ∧ H.length ≤ H'.length ∧ (∀ k, k < H.length → H'[k]? = H[k]?) ∧ (∀ j, ab a' = some j → H.length ≤ j) := by
  have f : ∀ m r, fnE Try.prog G44 Try.f44 cuts44 m [.string (bs (encs ps))] H = some r → F44 [.string (bs (encs ps))] H = some r := fun m r h => FN_of m h (Nat.le_of_ble_eq_true (by kernel_rfl))
  obtain ⟨a', c', H', r1, r2, r3, r4, r5⟩ := parts_loop H ps [] H none 0 0 hok hlen (by simpa using hn) (by simpa [fe] using Vec.none 3 H) (Nat.le_refl _) (fun _ _ => rfl) (fun j hj => by cases hj)
  have e0 := t44 (0 + ps.length + 1) (bs (encs ps)) H
  rw [bs_size, decide_eq_false (by omega)] at e0
  exact ⟨a', c', H', f _ _ (e0.trans r1), r2, r3, r4, r5⟩
/-- sameEvents, of the same ones. -/
theorem same45 {H : Heap} {es : List Ev} {a a2 : Option Addr} {c c2 : Nat} (h : Vec 3 Z3 H a es.length c (fe es)) (h2 : Vec 3 Z3 H a2 es.length c2 (fe es)) (hle : es.length ≤ 4096) : F45 [.slice a es.length c, .slice a2 es.length c2] H = some (.bool true, H) := by
  have f : ∀ m r, fnE Try.prog G45 Try.f45 cuts45 m [.slice a es.length c, .slice a2 es.length c2] H = some r → F45 [.slice a es.length c, .slice a2 es.length c2] H = some r := fun m r h => FN_of m h (Nat.le_of_ble_eq_true (by kernel_rfl))
  have loop : ∀ (k i m : Nat), i + k = es.length → R45 (m + k + 1) td45_100004 [.slice a es.length c, .slice a2 es.length c2, .int .i64 (i : Int)] H = some (.bool true, H) := by
    intro k
    induction k with
    | zero =>
      intro i m hi
      show R45 (m + 0 + 1) _ _ _ = _
      rw [c45_100004, decide_eq_false (by omega)]
    | succ k ih =>
      intro i m hi
      have hlt : i < es.length := by omega
      have hx : es[i]? = some es[i] := by simp
      obtain ⟨j, cs, ez, _, rfl, hj, ht, hle3⟩ := h.at_ (by omega)
      obtain ⟨j2, cs2, ez2, _, rfl, hj2, ht2, hle32⟩ := h2.at_ (by omega)
      have e0 := c45_100004 (m + (k + 1)) (some ⟨j, 0, none⟩) es.length c (some ⟨j2, 0, none⟩) es.length c2 (i : Int) H
      have ew : IntKind.i64.wrap ((i : Int) + 1) = ((i + 1 : Nat) : Int) := by rw [wrap_in ⟨by omega, by omega⟩]; omega
      rw [decide_eq_true (show (i : Int) < ((es.length : Nat) : Int) by omega)] at e0
      have c1 : 0 ≤ (i : Int) ∧ (i : Int) < ((es.length : Nat) : Int) := ⟨by omega, by omega⟩
      have c3 : i * 3 + 3 ≤ cs.length := by omega
      have c4 : i * 3 + 3 ≤ cs2.length := by omega
      simp only [↓onS, ↓kInt_int, ↓kInt_u8, ↓kBool_bool, ↓kStr_str, ↓kTup_tup, ↓kPtr_ptr, ↓kSl_sl, ↓kAgg_agg, ↓if_pos c1, Int.toNat_natCast, ↓ldc_add, ↓ldc_at hj, ↓ldc_at hj2, add_off, Nat.zero_add, ↓if_pos c3, ↓if_pos c4, row_get ht rfl hx, row_get ht2 rfl hx, ↓eqv_ev, Bool.not_true, ew] at e0
      exact e0.trans (ih (i + 1) m (by omega))
  have e0 := t45 (0 + es.length + 1) a es.length c a2 es.length c2 H
  rw [bne_same] at e0
  exact f _ _ (e0.trans (loop es.length 0 0 (by omega)))
theorem among23 (H : Heap) (x : Int) : ∃ y : Int, 0 ≤ y ∧ y < 3000 ∧ F23 [.int .i64 x, .int .i64 3000] H = some (.int .i64 y, H) := by
  have h1 := Int.tmod_lt_of_pos x (show (0 : Int) < 3000 by decide)
  have h2 : -3000 < x.tmod 3000 := by
    have := Int.lt_tmod_of_pos x (show (0 : Int) < 3000 by decide)
    omega
  have hw : IntKind.i64.wrap (x.tmod 3000 + 3000) = x.tmod 3000 + 3000 := wrap_in ⟨by omega, by omega⟩
  have h3 := Int.tmod_lt_of_pos (x.tmod 3000 + 3000) (show (0 : Int) < 3000 by decide)
  have h4 : 0 ≤ (x.tmod 3000 + 3000).tmod 3000 := Int.tmod_nonneg _ (by omega)
  refine ⟨_, h4, h3, FN_of 1 ((t23 1 x 3000 H).trans ?_) (Nat.le_of_ble_eq_true (by kernel_rfl))⟩
  rw [if_neg (by decide), if_neg (by decide), hw]
end Go.Proofs.Yticchkdbanhjfaa
