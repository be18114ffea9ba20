/- RoleTakes: from the beginning. -/
import Derived.Test.YticchkdbanhjfaaRo4
set_option linter.unusedVariables false
set_option linter.unusedSimpArgs false
namespace Go.Proofs.Yticchkdbanhjfaa
open Go Go.RowKit Go.Proofs.Yticchkdbanhjfaa.Fw

theorem Row.ints {w : World} {a : Option Addr} {len cap : Nat} {vs : List Value} (h : Row w a len cap vs) (hk : ∀ v ∈ vs, ofKind (.int .i64) v) : ∃ xs : List Int, ∀ (H : Heap) (b : Nat), H[b]? = some (rowObj vs) → Ints H (a.map fun _ => ⟨b, 0, none⟩) len xs := by
  obtain ⟨ys, rfl⟩ := row_list (f := fun n => Value.int .i64 n) (fun v hv => by obtain ⟨s, e, _⟩ := hv; exact ⟨s, e⟩) vs hk
  refine ⟨ys.take len, fun H b hb => ?_⟩
  rcases h with ⟨rfl, rfl, rfl, he⟩ | ⟨x, rfl, hl, hn, _, _⟩
  · exact ⟨by simp, fun h => absurd (by simp) h⟩
  · refine ⟨by simp at hn ⊢; omega, fun hne => ?_⟩
    cases ys with
    | nil => simp at hne
    | cons y ys =>
      refine ⟨_, _, _, rfl, hb, fun i s hs => ?_⟩
      rw [List.getElem?_take] at hs
      split at hs
      · show ((y :: ys).map fun n => Value.int .i64 n)[0 + i]? = _
        rw [Nat.zero_add, List.getElem?_map, hs]; rfl
      · cases hs

theorem takes5 {H : Heap} {a : Option Addr} {l c : Nat} {xs : List Int} (x0 : Int) (hX : Ints H a l xs) (hl : l < 9223372036854775807) (hA : ∀ x, a = some x → x.block < H.length) : ∃ H', F5 [.int .i64 x0, .slice a l c] H = some (.bool true, H') := by
  have hb := into_bnd (x := x0) (m := 50) (by omega)
  have e23 := among23 H x0 50 (by omega) (by omega)
  generalize hP : 2 + into x0 50 = P at *
  have hP2 : 2 ≤ P ∧ P ≤ 51 := by omega
  have w1 : IntKind.i64.wrap (2 + into x0 50) = P := by rw [wrap_in ⟨by omega, by omega⟩]; exact hP
  have e24 : F24 [.int .i64 1, .int .i64 P] H = _ := new24 H 1 P (by omega) (by omega)
  have h1 := new_at H ⟨1, P, 0, 0, 0, 0, 0, 0, 0⟩
  obtain ⟨H2, e25, l2, k2⟩ := works25 (H ++ [.cells (Pt.cs ⟨1, P, 0, 0, 0, 0, 0, 0, 0⟩) 0 true])
  have h2 : At H2 H.length ⟨1, P, 0, 0, 0, 0, 0, 0, 0⟩ := (k2 _ (by simp)).trans h1
  obtain ⟨H3, e26, t3⟩ := join26 h2 3 0 rfl (by omega)
  have t3' : To H.length ⟨1, P, 1, 0, 0, 0, 3, 0, 0⟩ H2 H3 := t3
  obtain ⟨H4, e27, t4⟩ := hear27 t3'.at_ (lt 4 4 3) 1
  have hh : hear ⟨1, P, 1, 0, 0, 0, 3, 0, 0⟩ (lt 4 4 3) 1 = (1, 0, ⟨1, P, 1, 4, 1, 1, 3, 0, 0⟩) := by
    simp [hear, Lt.good, lt, isWord, isRole, ByteArray.size, invited, asked, tick, mxi, mni, ByteArray.toList_eq]
  rw [hh] at e27 t4
  obtain ⟨H5, e27b, t5'⟩ := hear27 t4.at_ (lt 4 3 3) 2
  have hh2 : hear ⟨1, P, 1, 4, 1, 1, 3, 0, 0⟩ (lt 4 3 3) 2 = (2, 0, lp P 2) := by
    simp [hear, Lt.good, lt, isWord, isRole, ByteArray.size, invited, asked, tick, mxi, mni, ByteArray.toList_eq, lp]
  rw [hh2] at e27b t5'
  have hlen : H.length < H2.length := by simp at l2; omega
  have keep : ∀ k, k < H.length → H5[k]? = H[k]? := fun k hk => by
    have a1 := t3.len; have a2 := t4.len
    rw [t5'.keep k (by omega) (by omega), t4.keep k (by omega) (by omega), t3.keep k (by omega) (by omega), k2 k (by simp; omega)]
    exact List.getElem?_append_left hk
  have hX5 : Ints H5 a l xs := ⟨hX.len, fun hne => by
    obtain ⟨x, cs, own, e, h1, h2⟩ := hX.at_ hne
    exact ⟨x, cs, own, e, (keep _ (hA x e)).trans h1, h2⟩⟩
  have hl5 : H.length ≤ H5.length := by have a1 := t3.len; have a2 := t4.len; have a3 := t5'.len; omega
  obtain ⟨m, H', hm⟩ := loop5 (c := c) hX5 hl (fun x hx => ⟨by have := hA x hx; omega, by have := hA x hx; omega⟩) hP2 30 0 (by omega) H5 2 (To.refl t5'.at_) ⟨by omega, by omega⟩
  refine ⟨H', FN_of m ?_ (Nat.le_of_ble_eq_true (by kernel_rfl))⟩
  have e := t5 m x0 a l c H
  have e26' : F26 [.pointer (some ⟨H.length, 0, none⟩), .int .i64 3, .int .i64 0] H2 = some (.int .i64 0, H3) := e26
  have e27' : F27 [.pointer (some ⟨H.length, 0, none⟩), .agg #[.int .i64 2, .int .i64 4, .int .i64 4, .int .i64 3, .int .i64 0, .string (⟨#[]⟩ : ByteArray)], .int .i64 1] H3 = some (.tuple #[.int .i64 1, .int .i64 0], H4) := e27
  have e27b' : F27 [.pointer (some ⟨H.length, 0, none⟩), .agg #[.int .i64 2, .int .i64 4, .int .i64 3, .int .i64 3, .int .i64 0, .string (⟨#[]⟩ : ByteArray)], .int .i64 2] H4 = some (.tuple #[.int .i64 2, .int .i64 0], H5) := e27b
  simp only [e23, w1, e24, e25, e26', e27', e27b', pp, onSome_some, kTup, kPtr, kInt, kBool, if_true, List.getElem?_toArray, List.getElem?_cons_zero, List.getElem?_cons_succ, Option.isNone_some, bne_self_eq_false, Bool.not_true] at e
  exact e.trans hm
end Go.Proofs.Yticchkdbanhjfaa
