/- RoleOne: from the beginning. -/
import Derived.Test.YticchkdbanhjfaaOn6
set_option linter.unusedVariables false
set_option linter.unusedSimpArgs false
namespace Go.Proofs.Yticchkdbanhjfaa
open Go Go.RowKit Go.Proofs.Yticchkdbanhjfaa.Fw
def q0C (p0 p1 : Value) : List Value := [p0, p1, .slice none 0 0, .slice none 0 0, .int .i64 0, .int .i64 0, .int .i64 0]

theorem one8 {H : Heap} {a : Option Addr} {l c : Nat} {xs : List Dx} (hX : Recs Dx.cs 3 H a l xs) (hl : l * 24 ≤ 140737488351232) (hA : ∀ x, a = some x → x.block < H.length) : ∃ H', F8 [.slice a l c] H = some (.bool true, H') := by
  have f : ∀ m r, fnE Try.prog G8 Try.f8 cuts8 m [.slice a l c] H = some r → F8 [.slice a l c] H = some r := fun m r h => FN_of m h (Nat.le_of_ble_eq_true (by kernel_rfl))
  -- the first part
  obtain ⟨H3, d3⟩ : ∃ X, X = H ++ [AObj.cells (q0C (.pointer none) (.pointer none)) 0 true] := ⟨_, rfl⟩
  have L3 : H3.length = H.length + 1 := by rw [d3]; simp
  have c3 : H3[H.length]? = some (.cells (q0C (.pointer none) (.pointer none)) 0 true) := by rw [d3]; simp
  have K3 : ∀ k, k < H.length → H3[k]? = H[k]? := fun k hk => by rw [d3]; exact List.getElem?_append_left hk
  obtain ⟨H4, d4⟩ : ∃ X, X = H3 ++ [AObj.cells (pt0 0 6).cs 0 true] := ⟨_, rfl⟩
  have e24 := n24 H3 0 6
  rw [show newB 0 6 = false from rfl, ← d4, L3] at e24
  have L4 : H4.length = H.length + 2 := by rw [d4]; simp [L3]
  have c4 : H4[H.length]? = some (.cells (q0C (.pointer none) (.pointer none)) 0 true) := by rw [d4]; exact heap_keep c3 _
  have a4 : At H4 (H.length + 1) (pt0 0 6) := by rw [d4, ← L3]; simp [At]
  have K4 : ∀ k, k < H.length → H4[k]? = H[k]? := fun k hk => by rw [d4, List.getElem?_append_left (by omega)]; exact K3 k hk
  obtain ⟨H5, d5⟩ : ∃ X, X = H4.set H.length (.cells (q0C (pp (H.length + 1)) (.pointer none)) 0 true) := ⟨_, rfl⟩
  have L5 : H5.length = H.length + 2 := by rw [d5]; simp [L4]
  have c5 : H5[H.length]? = some (.cells (q0C (pp (H.length + 1)) (.pointer none)) 0 true) := by rw [d5]; exact List.getElem?_set_self (by omega)
  have a5 : At H5 (H.length + 1) (pt0 0 6) := by rw [d5]; unfold At; rw [List.getElem?_set_ne (by omega)]; exact a4
  have K5 : ∀ k, k < H.length → H5[k]? = H[k]? := fun k hk => by rw [d5, List.getElem?_set_ne (by omega)]; exact K4 k hk
  have s5 : ∀ K : Value → Heap → R, st 1 H4 ((⟨H.length, 0, none⟩ : Addr).add ((0 : Int).toNat * 1)) (.pointer (pn (H.length + 1))) K = K undef H5 := fun K => by
    rw [st_one (cs := q0C (.pointer none) (.pointer none)) (e := 0) (by rw [add_block]; exact c4) (by rw [add_off]; show 0 + 0 < 7; decide) rfl, d5]
    rfl
  obtain ⟨H6, d6⟩ : ∃ X, X = H5 ++ [AObj.cells (pt0 1 6).cs 0 true] := ⟨_, rfl⟩
  have e24b := n24 H5 1 6
  rw [show newB 1 6 = false from rfl, ← d6, L5] at e24b
  have L6 : H6.length = H.length + 3 := by rw [d6]; simp [L5]
  have c6 : H6[H.length]? = some (.cells (q0C (pp (H.length + 1)) (.pointer none)) 0 true) := by rw [d6]; exact heap_keep c5 _
  have a6 : At H6 (H.length + 1) (pt0 0 6) := by rw [d6]; exact heap_keep a5 _
  have b6 : At H6 (H.length + 2) (pt0 1 6) := by rw [d6, ← L5]; simp [At]
  have K6 : ∀ k, k < H.length → H6[k]? = H[k]? := fun k hk => by rw [d6, List.getElem?_append_left (by omega)]; exact K5 k hk
  obtain ⟨H7, d7⟩ : ∃ X, X = H6.set H.length (.cells (q0C (pp (H.length + 1)) (pp (H.length + 2))) 0 true) := ⟨_, rfl⟩
  have L7 : H7.length = H.length + 3 := by rw [d7]; simp [L6]
  have c7 : H7[H.length]? = some (.cells (q0C (pp (H.length + 1)) (pp (H.length + 2))) 0 true) := by rw [d7]; exact List.getElem?_set_self (by omega)
  have a7 : At H7 (H.length + 1) (pt0 0 6) := by rw [d7]; unfold At; rw [List.getElem?_set_ne (by omega)]; exact a6
  have b7 : At H7 (H.length + 2) (pt0 1 6) := by rw [d7]; unfold At; rw [List.getElem?_set_ne (by omega)]; exact b6
  have K7 : ∀ k, k < H.length → H7[k]? = H[k]? := fun k hk => by rw [d7, List.getElem?_set_ne (by omega)]; exact K6 k hk
  have s7 : ∀ K : Value → Heap → R, st 1 H6 ((⟨H.length, 0, none⟩ : Addr).add ((1 : Int).toNat * 1)) (.pointer (pn (H.length + 2))) K = K undef H7 := fun K => by
    rw [st_one (cs := q0C (pp (H.length + 1)) (.pointer none)) (e := 0) (by rw [add_block]; exact c6) (by rw [add_off]; show 0 + 1 < 7; decide) rfl, d7]
    rfl
  obtain ⟨H8, e25, L8, K8⟩ := works25 H7
  -- the pair
  let b : Nat → Nat := fun k => H.length + 1 + k
  let z : Sy := { s := fun k => match k with | 0 => pt0 0 6 | _ => pt0 1 6, w := fun _ => ⟨none, 0, 0⟩, ls := fun _ => [], inc := fun _ => 0, now := 0 }
  have h8 : Q (fun k => k < H.length) H H.length b z H8 := by
    refine ⟨(K8 _ (by omega)).trans c7, fun k hk => ?_, fun k hk => Vec.none 6 H8, fun k j hk hj e => ?_, fun k hk => ?_, fun k hk e => ?_, fun k j hk hj e => ?_, fun k j i hk hj e => ?_, ?_, fun k hk => ?_, fun k i hk e => ?_, fun k hk => ?_, fun k hk => (K8 k (by omega)).trans (K7 k hk)⟩
    · rcases (show k = 0 ∨ k = 1 by omega) with rfl | rfl
      · exact (K8 (H.length + 1) (by omega)).trans a7
      · exact (K8 (H.length + 2) (by omega)).trans b7
    · have : H.length + 1 + k = H.length + 1 + j := e
      omega
    · show H.length ≠ H.length + 1 + k
      omega
    · cases e
    · cases e
    · cases e
    · exact Nat.lt_irrefl _
    · show ¬ (H.length + 1 + k < H.length)
      omega
    · cases e
    · have : k < H.length := hk
      omega
  have k0 : (0 : Nat) < 2 := by decide
  have k1 : (1 : Nat) < 2 := by decide
  have e40 := w40 (s := pt0 0 6) (g := []) (h8.part 0 k0).lt 0
  have p8 : At H8 (b 0) (pt0 0 6) := h8.part 0 k0
  rw [W_of p8] at e40
  have h9 := h8.to k0 (To_of (s' := (bootM (pt0 0 6) 0).2) p8 [])
  generalize hH9 : W H8 (b 0) (bootM (pt0 0 6) 0).2 [] = H9 at *
  have h10 := h9.num (up (fun _ => 0) 1 1) 0
  generalize hz9 : ({ z with s := up z.s 0 (bootM (pt0 0 6) 0).2 } : Sy) = z9 at *
  have hinc : z9.inc = fun _ => 0 := by rw [← hz9]
  have hnow : z9.now = 0 := by rw [← hz9]
  have st9 : ∀ K : Value → Heap → R, st 1 H9 ((⟨H.length, 0 + 4, none⟩ : Addr).add ((1 : Int).toNat * 1)) (.int .i64 1) K = _ := fun K => h9.stI k1 1 K
  have z10 : ({ z9 with inc := up z9.inc 1 1 } : Sy) = { z9 with inc := up (fun _ => 0) 1 1, now := 0 } := by rw [hinc, ← hnow]
  rw [z10] at st9
  generalize hH10 : H9.set H.length (.cells (qc b { z9 with inc := up (fun _ => 0) 1 1, now := 0 }) 0 true) = H10 at *
  have p10 := h10.part 1 k1
  have e26 := w26 (s := ({ z9 with inc := up (fun _ => 0) 1 1, now := 0 } : Sy).s 1) (g := []) p10.lt 1 0
  rw [W_of p10] at e26
  have h11 := h10.to k1 (To_of (s' := (joinM (({ z9 with inc := up (fun _ => 0) 1 1, now := 0 } : Sy).s 1) 1 0).2) p10 [])
  have s1 : ({ z9 with inc := up (fun _ => 0) 1 1, now := 0 } : Sy).s 1 = pt0 1 6 := by rw [← hz9]; rfl
  have iv : Iv { ({ z9 with inc := up (fun _ => 0) 1 1, now := 0 } : Sy) with s := up ({ z9 with inc := up (fun _ => 0) 1 1, now := 0 } : Sy).s 1 (joinM (({ z9 with inc := up (fun _ => 0) 1 1, now := 0 } : Sy).s 1) 1 0).2 } 0 := by
    rw [s1]
    have sa : up ({ z9 with inc := up (fun _ => 0) 1 1, now := 0 } : Sy).s 1 (joinM (pt0 1 6) 1 0).2 0 = (bootM (pt0 0 6) 0).2 := by rw [up_ne _ _ (by decide), ← hz9]; rfl
    have sb : up ({ z9 with inc := up (fun _ => 0) 1 1, now := 0 } : Sy).s 1 (joinM (pt0 1 6) 1 0).2 1 = (joinM (pt0 1 6) 1 0).2 := up_same _ _ _
    refine ⟨fun k hk => ?_, fun hn => ?_, fun k hk => ?_⟩
    · rcases (show k = 0 ∨ k = 1 by omega) with rfl | rfl
      · have ea : EpOk (bootM (pt0 0 6) 0).2 := ⟨by decide, by decide⟩
        rw [← sa] at ea; exact ea
      · have ea : EpOk (joinM (pt0 1 6) 1 0).2 := ⟨by decide, by decide⟩
        rw [← sb] at ea; exact ea
    · have := hn.2
      have this : Sp (up ({ z9 with inc := up (fun _ => 0) 1 1, now := 0 } : Sy).s 1 (joinM (pt0 1 6) 1 0).2 1) := this
      rw [sb] at this
      rcases this with h | h <;> exact absurd h (by decide)
    · have : z9.w = fun _ => ⟨none, 0, 0⟩ := by rw [← hz9]
      show (z9.w k).l ≤ 0
      rw [this]; exact Nat.le_refl _
  obtain ⟨m, H', hm⟩ := loop15 (c0 := c) hX hA (by omega) 120 0 rfl _ _ h11 iv
  rw [show ((0 : Nat) : Int) = 0 from rfl] at hm
  refine ⟨H', f (m + 1 + 1 + 1) _ ?_⟩
  rw [t8]
  have d3' : H ++ [AObj.cells [.pointer none, .pointer none, .slice none 0 0, .slice none 0 0, .int .i64 0, .int .i64 0, .int .i64 0] 0 true] = H3 := d3.symm
  have i0 : (0 : Int) ≤ 0 ∧ (0 : Int) < ((2 : Nat) : Int) := by decide
  have i1 : (0 : Int) ≤ 1 ∧ (1 : Int) < ((2 : Nat) : Int) := by decide
  have w1 : IntKind.i64.wrap ((0 : Int) + 1) = 1 := rfl
  have w2 : IntKind.i64.wrap ((1 : Int) + 1) = 2 := rfl
  have cd9 := h9.cell
  have cd10 := h10.cell
  have cd8 := h8.cell
  have qp0 := fun K => qP (b := b) (z := z) (q := H.length) (k := 0) k0 K
  have qp1 := fun K => qP (b := b) (z := { z9 with inc := up (fun _ => 0) 1 1, now := 0 }) (q := H.length) (k := 1) k1 K
  have qi9 := fun K => qI (b := b) (z := z9) (q := H.length) (k := 1) k1 K
  have qi10 := fun K => qI (b := b) (z := { z9 with inc := up (fun _ => 0) 1 1, now := 0 }) (q := H.length) (k := 1) k1 K
  rw [show ((0 : Nat) : Int) = 0 from rfl] at qp0
  rw [show ((1 : Nat) : Int) = 1 from rfl] at qp1 qi9 qi10
  have inc10 : ({ z9 with inc := up (fun _ => 0) 1 1, now := 0 } : Sy).inc 1 = 1 := rfl
  rw [inc10] at qi10
  rw [hinc] at qi9
  have w01 : IntKind.i64.wrap ((0 : Int) + 1) = 1 := rfl
  have ne0 : ((bootM (pt0 0 6) 0).1 != 0) = false := rfl
  have r2 : R8 (m + 1) td8_100003 [.slice a l c, .pointer (pn H.length), .int .i64 2] H7 = some (.bool true, H') := by
    rw [c8_100003]
    unfold pn at *
    simp only [show decide ((2 : Int) < 2) = false from rfl, ↓on_of e25, ↓onSome_some, ↓Fw.kInt_int, ↓Fw.kBool_bool, ↓Fw.kStr_str, ↓Fw.kTup_tup, ↓Fw.kPtr_ptr, ↓Fw.kSl_sl, ↓Fw.kAgg_agg, Bool.not_true, ↓if_pos i0, ↓if_pos i1, ↓ldc_add, ↓ldc_at cd8, ↓qp0, ↓on_of e40, ne0, ↓ldc_at cd9, ↓qi9, w01, ↓st9, ↓ldc_at cd10, ↓qp1, ↓qi10, ↓on_of e26]
    exact hm
  have r1 : R8 (m + 1 + 1) td8_100003 [.slice a l c, .pointer (pn H.length), .int .i64 1] H5 = some (.bool true, H') := by
    rw [c8_100003]
    unfold pn at *
    simp only [show decide ((1 : Int) < 2) = true from rfl, ↓on_of e24b, ↓onSome_some, ↓Fw.kInt_int, ↓Fw.kBool_bool, ↓Fw.kStr_str, ↓Fw.kTup_tup, ↓Fw.kPtr_ptr, ↓Fw.kSl_sl, ↓Fw.kAgg_agg, List.getElem?_toArray, List.getElem?_cons_zero, List.getElem?_cons_succ, Option.isNone_some, bne_self_eq_false, ↓if_pos i1, ↓s7, w2]
    exact r2
  show R8 (m + 1 + 1 + 1) td8_100003 [.slice a l c, .pointer (some ⟨H.length, 0, none⟩), .int .i64 0] (H ++ [AObj.cells [.pointer none, .pointer none, .slice none 0 0, .slice none 0 0, .int .i64 0, .int .i64 0, .int .i64 0] 0 true]) = _
  rw [d3', c8_100003]
  unfold pn at *
  simp only [show decide ((0 : Int) < 2) = true from rfl, ↓on_of e24, ↓onSome_some, ↓Fw.kInt_int, ↓Fw.kBool_bool, ↓Fw.kStr_str, ↓Fw.kTup_tup, ↓Fw.kPtr_ptr, ↓Fw.kSl_sl, ↓Fw.kAgg_agg, List.getElem?_toArray, List.getElem?_cons_zero, List.getElem?_cons_succ, Option.isNone_some, bne_self_eq_false, ↓if_pos i0, ↓s5, w1]
  exact r1

theorem inv_dx (e : List Value) (h : Flat [.int .i64, .int .i64, .bool] e) : ∃ t : Dx, e = t.cs := by
  obtain ⟨_, _, rfl, ⟨n0, rfl, _⟩, h1⟩ := h.cons_inv
  obtain ⟨_, _, rfl, ⟨n1, rfl, _⟩, h2⟩ := h1.cons_inv
  obtain ⟨_, _, rfl, ⟨b2, rfl⟩, h3⟩ := h2.cons_inv
  obtain rfl := h3.nil_inv
  exact ⟨⟨n0, n1, b2⟩, rfl⟩
end Go.Proofs.Yticchkdbanhjfaa
