/- r3: SockNumbers: what the law comes to. -/
import Derived.Test.YtlpeldimmaajkaaGreatSkG
set_option linter.unusedVariables false
set_option linter.unusedSimpArgs false
namespace Go.Proofs.YtlpeldimmaajkaaGreat
open Go Go.RowKit Go.Lib Go.Proofs.YtlpeldimmaajkaaGreat.Fw
theorem main3 {H0 : Heap} {a : Option Addr} {l c2 : Nat} {xs : List Int} (hR : Recs (fun x : Int => [.int .i64 x]) 1 H0 a l xs) (hl : l * 8 ≤ 140737488351232) (hA : ∀ x, a = some x → x.block < H0.length) : ∃ H', F3 [.slice a l c2] H0 = some (.bool true, H') := by
  obtain ⟨H1, e16, c1⟩ := setup16 H0
  obtain ⟨b, t, f, m, m2, m3, H2, e15, hB, cc2, hlo⟩ := new15 H1
  obtain ⟨H3, e17, c3⟩ := works17 H2
  obtain ⟨H15, hH15⟩ : ∃ X, X = H3 ++ [.map []] ++ [.map []] := ⟨_, rfl⟩
  have c15 : Ch (fun _ => False) H3 H15 := by rw [hH15, List.append_assoc]; exact Ch.push _ _ _
  have hB15 := (hB.ch c3).ch c15
  have lf := lt_of_at hB.pt.fds
  have lm := lt_of_at hB.pt.lst
  have l3 := lt_of_at hB.pt.alm
  have g1 := c1.len
  have g2 := cc2.len
  have g3 := c3.len
  have g15 := c15.len
  obtain ⟨a0, cc0, now0, hb0, _⟩ := hB.box
  have hb15 : H15[b]? = H2[b]? := (c15.kept b (by have := lt_of_at hb0; omega) id).trans (c3.kept b (lt_of_at hb0) id)
  have hLi : Li b t f m m2 m3 H3.length (H3.length + 1) H0.length [] [] 0 H0 H15 :=
    ⟨hB15, ⟨by have := hlo.1; omega, by have := hlo.2.1; omega, by have := hlo.2.2.1; omega, fun cs e o a l c h1 h2 => Nat.le_trans g1 (hlo.2.2.2 cs e o a l c (by rw [← hb15]; exact h1) h2)⟩,
      fun k hk => ((c15.kept k (by omega) id).trans (c3.kept k (by omega) id)).trans ((cc2.kept k (by omega) id).trans (c1.kept k hk id)), by omega, by omega, by omega, by omega, by omega, by omega, by omega, by omega, by omega, by omega,
      by rw [hH15]; simp [mp], by rw [hH15]; simp [mp], fun x _ _ => rfl, fun e he => (by cases he), Nat.le_refl _⟩
  obtain ⟨q, hq, hq2⟩ := loop3 (c2 := c2) hR hA 30 0 [] [] H15 (by omega) hLi
  obtain ⟨H', e⟩ := hq 0
  refine ⟨H', FN_of (0 + q) ((t3 (0 + q) a l c2 H0).trans ?_) (Nat.le_of_ble_eq_true (by kernel_rfl))⟩
  simp only [↓on_of e16, ↓onS, ↓kInt_int, ↓kInt_u8, ↓kBool_bool, ↓kStr_str, ↓kTup_tup, ↓kPtr_ptr, ↓kSl_sl, ↓kAgg_agg, ↓kMp_mp]
  rw [if_pos (by decide)]
  simp only [↓on_of e15, ↓onS, ↓kInt_int, ↓kInt_u8, ↓kBool_bool, ↓kStr_str, ↓kTup_tup, ↓kPtr_ptr, ↓kSl_sl, ↓kAgg_agg, ↓kMp_mp, List.getElem?_toArray, List.getElem?_cons_zero, List.getElem?_cons_succ, Option.isNone_some, bne_self_eq_false, ↓on_of e17, Bool.not_true]
  have e1 : (H3 ++ [AObj.map []]).length = H3.length + 1 := by simp
  rw [e1, ← hH15]
  exact e
abbrev recI (x : Int) : List Value := [.int .i64 x]
theorem recI_inv : ∀ e, Flat [.int .i64] e → ∃ x, e = recI x := fun e h => by
  obtain ⟨v, l, rfl, ⟨n, rfl, _⟩, h2⟩ := h.cons_inv
  obtain rfl := h2.nil_inv
  exact ⟨n, rfl⟩
end Go.Proofs.YtlpeldimmaajkaaGreat
