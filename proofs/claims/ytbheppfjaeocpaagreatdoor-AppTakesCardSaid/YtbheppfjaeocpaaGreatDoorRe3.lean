/- r2: the document's session: a name is set. -/
import Derived.Test.YtbheppfjaeocpaaGreatDoorRe2
set_option linter.unusedVariables false
set_option linter.unusedSimpArgs false
namespace Go.Proofs.YtbheppfjaeocpaaGreatDoor
open Go Go.RowKit Go.Lib Go.Proofs.YtbheppfjaeocpaaGreatDoor.Fw
/-- A value is set in its row. -/
theorem vec_put2 {H : Heap} {a : Option Addr} {c : Nat} {l : Vs} (h : Vec 2 (· = 2) H a l.length c (pc l)) {i : Nat} {n w : Tx} (hi : l[i]? = some (n, w)) (v : Tx) :
    ∃ j H', a = some ⟨j, 0, none⟩ ∧ (∀ {β : Type} (K : Value → Heap → Option β), st 1 H ⟨j, i * 2 + 1, none⟩ (.string (bs v)) K = K undef H') ∧ Vec 2 (· = 2) H' a (l.set i (n, v)).length c (pc (l.set i (n, v))) ∧ Ch (· = j) H H' := by
  obtain ⟨j, cs, ha, hj, ht, hle, g1, g2⟩ := vec_cell2 h hi
  have hlt : i < l.length := (List.getElem?_eq_some_iff.1 hi).1
  refine ⟨j, H.set j (.cells (cs.set (i * 2 + 1) (.string (bs v))) 2 true), ha, fun K => ?_, ?_, Ch.set (N := (· = j)) rfl _⟩
  · rw [st_one (a := ⟨j, i * 2 + 1, none⟩) hj (show i * 2 + 1 < cs.length by omega) rfl]
  · rw [List.length_set]
    refine ⟨by rw [pc_len, List.length_set], .inr ⟨j, _, 2, rfl, ha, at_set_self (lt_of_at hj) _, ?_, ?_⟩⟩
    · rw [List.take_set, ht, pc_set hi]
    · rcases h.2 with ⟨q, _⟩ | ⟨j', cs', ez, _, q, hj', _, hc⟩
      · rw [q] at ha; cases ha
      · rw [ha] at q
        obtain rfl : j = j' := by simpa using q
        rw [hj] at hj'
        obtain ⟨rfl, _⟩ : cs = cs' ∧ (2 : Nat) = ez := by simpa using hj'
        rcases hc with hc | hc
        · exact .inl hc
        · exact .inr (by rw [List.length_set]; exact hc)
theorem bs_app' (a b : Tx) : bs a ++ bs b = bs (a ++ b) := bs_app a b
section
variable {N : Nat → Prop} {s : Nat} {l : Vs} {v1 v2 v3 rv : Value} {H : Heap}
theorem ins49 {a : Option Addr} {c : Nat} (hv : Vec 2 (· = 2) H a l.length c (pc l)) (h64 : l.length ≤ 64) (hs : H[s]? = some (.cells [rv, v1, v2, v3] 0 true)) (has : ab a ≠ some s) (n v : Tx) {k : Nat} (hk : k ≤ l.length) (m : Nat) :
    ∃ H' a' c', R49 (m + 1) td49_12 [.pointer (some ⟨s, 0, none⟩), .string (bs n), .string (bs v), .slice a l.length c, .int .i64 ((k : Nat) : Int)] H = some (.bool true, H') ∧
      H'[s]? = some (.cells [.slice a' (l.take k ++ (n, v) :: l.drop k).length c', v1, v2, v3] 0 true) ∧ Vec 2 (· = 2) H' a' (l.take k ++ (n, v) :: l.drop k).length c' (pc (l.take k ++ (n, v) :: l.drop k)) ∧ Ch (· = s) H H' ∧ ∀ j, ab a' = some j → H.length ≤ j := by
  have hsl := lt_of_at hs
  obtain ⟨a8, c10, p1, _, f1⟩ := vec_part hv (x := 0) (y := k) (Nat.zero_le _) hk
  have f1' := fun {β : Type} (K : Nat → List Value → Option β) => f1 H (fun _ _ => rfl) K
  rw [Nat.sub_zero] at p1
  rw [Nat.sub_zero, List.drop_zero] at f1'
  have tl : (l.take k).length = k := by rw [List.length_take]; omega
  obtain ⟨a15, c17, H14, ap1, V1, L1, K1, N1⟩ := vec_app2 (H := H) (l := []) (l' := l.take k) (Vec.none 2 H) (by rw [tl]; simp; omega)
  rw [tl] at ap1
  obtain ⟨H18, hH18⟩ : ∃ X, X = H14 ++ [.cells [.string (bs n), .string (bs v)] 2 true] := ⟨_, rfl⟩
  have c18 : Ch (fun _ => False) H14 H18 := by rw [hH18]; exact Ch.push _ _ _
  have b18 : H18[H14.length]? = some (.cells [.string (bs n), .string (bs v)] 2 true) := by rw [hH18]; simp
  have f2 : ∀ K : Nat → List Value → R, firstC H18 2 (.slice (some ⟨H14.length, 0, none⟩) 1 1) K = K 1 (pc [(n, v)]) := fun K => firstC_at b18 (by simp) K
  have V1' : Vec 2 (· = 2) H18 a15 ([] ++ l.take k).length c17 (pc ([] ++ l.take k)) := V1.keep fun j hj => c18.kept j (V1.lt hj) id
  obtain ⟨a23, c25, H22, ap2, V2, L2, K2, N2⟩ := vec_app2 (l' := [(n, v)]) V1' (by simp; omega)
  have l18 : H18.length = H14.length + 1 := by rw [hH18]; simp
  have hN1 : ∀ j, ab a15 = some j → H.length ≤ j := fun j hj => by
    rcases N1 j hj with q | q
    · cases q
    · omega
  have hN2 : ∀ j, ab a23 = some j → H.length ≤ j := fun j hj => by
    rcases N2 j hj with q | q
    · exact hN1 j q
    · omega
  have k22 : ∀ j, j < H.length → H22[j]? = H[j]? := fun j hj => by
    rw [K2 j (by omega) fun q => by have := hN1 j q; omega, c18.kept j (by omega) id, K1 j hj fun q => by cases q]
  obtain ⟨a27, c29, p2, _, f3⟩ := vec_part (hv.keep (H' := H22) fun j hj => k22 j (hv.lt hj)) (x := k) (y := l.length) hk (Nat.le_refl _)
  have f3' := fun {β : Type} (K : Nat → List Value → Option β) => f3 H22 (fun _ _ => rfl) K
  have dl : (l.drop k).take (l.length - k) = l.drop k := List.take_of_length_le (by simp)
  rw [dl] at f3'
  have dl2 : (l.drop k).length = l.length - k := by simp
  obtain ⟨a34, c36, H33, ap3, V3, L3, K3, N3⟩ := vec_app2 (l' := l.drop k) V2 (by simp; omega)
  rw [dl2] at ap3
  have k33 : ∀ j, j < H.length → H33[j]? = H[j]? := fun j hj => by
    rw [K3 j (by omega) fun q => by have := hN2 j q; omega, k22 j hj]
  have s33 : H33[s]? = some (.cells [rv, v1, v2, v3] 0 true) := (k33 s hsl).trans hs
  have el : [] ++ l.take k ++ [(n, v)] ++ l.drop k = l.take k ++ (n, v) :: l.drop k := by simp
  rw [el] at V3
  have hN3 : ∀ j, ab a34 = some j → H.length ≤ j := fun j hj => by
    rcases N3 j hj with q | q
    · exact hN2 j q
    · omega
  obtain ⟨H38, hH38⟩ : ∃ X, X = H33.set s (.cells [.slice a34 (l.take k ++ (n, v) :: l.drop k).length c36, v1, v2, v3] 0 true) := ⟨_, rfl⟩
  refine ⟨H38, a34, c36, ?_, ?_, ?_, ?_, hN3⟩
  · rw [c49_12]
    have h0 : ((0 : Nat) : Int) = 0 := rfl
    rw [h0] at p1
    simp only [p1, ↓onS, ↓kInt_int, ↓kInt_u8, ↓kBool_bool, ↓kStr_str, ↓kTup_tup, ↓kPtr_ptr, ↓kSl_sl, ↓kAgg_agg, ↓kMp_mp, f1', ap1]
    have hn0 : (Value.slice none 0 0) = Value.slice none ([] : Vs).length 0 := rfl
    rw [hn0, ap1]
    simp only [↓onS, ↓kInt_int, ↓kInt_u8, ↓kBool_bool, ↓kStr_str, ↓kTup_tup, ↓kPtr_ptr, ↓kSl_sl, ↓kAgg_agg, ↓kMp_mp, ← hH18, f2]
    have h1 : ([(n, v)] : Vs).length = 1 := rfl
    rw [h1] at ap2
    simp only [ap2, ↓onS, ↓kInt_int, ↓kInt_u8, ↓kBool_bool, ↓kStr_str, ↓kTup_tup, ↓kPtr_ptr, ↓kSl_sl, ↓kAgg_agg, ↓kMp_mp, p2, f3', ap3]
    rw [st_one (a := ⟨s, 0, none⟩) s33 (by simp) rfl]
    simp only [List.set_cons_zero, el, ← hH38]
  · rw [hH38]; exact at_set_self (lt_of_at s33) _
  · refine V3.keep fun j hj => ?_
    rw [hH38]
    exact List.getElem?_set_ne (by have := hN3 j hj; omega)
  · refine ⟨by rw [hH38, List.length_set]; omega, fun j hj hn => ?_⟩
    rw [hH38, List.getElem?_set_ne (Ne.symm hn), k33 j hj]
/-- A name is set. -/
theorem set49 (h : Rt N s l v1 v2 v3 H) {n v : Tx} (hn : n.length ≤ 32) (hvl : v.length ≤ 256) :
    ∃ N' H', F49 [.pointer (some ⟨s, 0, none⟩), .string (bs n), .string (bs v)] H = some (.bool (vset n v l).isSome, H') ∧ Rt N' s ((vset n v l).getD l) v1 v2 v3 H' ∧ Go' N H N' H' := by
  have f : ∀ k r, fnE Tryz.prog G49 Tryz.f49 cuts49 k [.pointer (some ⟨s, 0, none⟩), .string (bs n), .string (bs v)] H = some r → F49 [.pointer (some ⟨s, 0, none⟩), .string (bs n), .string (bs v)] H = some r := fun m r h => FN_of m h (Nat.le_of_ble_eq_true (by kernel_rfl))
  obtain ⟨a, c, cs, hv, h1, h2, h3⟩ := h.body
  have h64 := h.ok.len
  have hsl := lt_of_at cs
  obtain ⟨H3, hH3⟩ : ∃ X, X = H ++ [.cells [] 2 true] := ⟨_, rfl⟩
  have c3 : Ch (fun _ => False) H H3 := by rw [hH3]; exact Ch.push _ _ _
  have l3 : H3.length = H.length + 1 := by rw [hH3]; simp
  have cs3 := c3.at_ cs id
  have hv3 : Vec 2 (· = 2) H3 a l.length c (pc l) := hv.keep fun j hj => c3.kept j (hv.lt hj) id
  have V0 : Vec 2 (· = 2) H3 (some ⟨H.length, 0, none⟩) ([] : Vs).length 0 (pc []) := by rw [hH3]; exact vec_copy0 H
  obtain ⟨a14, c16, H13, ap1, V1, L1, K1, N1⟩ := vec_app2 (l' := l) V0 (by simp; omega)
  rw [List.nil_append] at ap1 V1
  have hN1 : ∀ j, ab a14 = some j → H.length ≤ j := fun j hj => by
    rcases N1 j hj with q | q
    · have : H.length = j := by simpa [ab] using q
      omega
    · omega
  have k13 : ∀ j, j < H.length → H13[j]? = H[j]? := fun j hj => by
    rw [K1 j (by omega) fun q => by have : H.length = j := by simpa [ab] using q
                                    omega, c3.kept j hj id]
  have c13 : Ch (fun _ => False) H H13 := ⟨by omega, fun j hj _ => k13 j hj⟩
  have h13 : Rt N s l v1 v2 v3 H13 := h.nil c13
  have e67 := find67 h13 n
  have cs13 := c13.at_ cs id
  obtain ⟨m, hm⟩ : ∃ m : Nat, m = 0 := ⟨0, rfl⟩
  cases hx : vix n l with
  | some i =>
    obtain ⟨w, hi, hfind⟩ := vix_some hx
    have hlt : i < l.length := (List.getElem?_eq_some_iff.1 hi).1
    have hvs : vset n v l = some (vput n v l) := by unfold vset; rw [hfind]; rfl
    have hok := h.ok.set hn hvl hvs
    obtain ⟨j, H20, hj, hst, V20, ch20⟩ := vec_put2 V1 hi v
    rw [← vput_at h.ok.rise hx] at V20
    have hjl := hN1 j (by rw [hj]; rfl)
    have s20 : H20[s]? = some (.cells [.slice a l.length c, v1, v2, v3] 0 true) := ch20.at_ cs13 (by omega)
    obtain ⟨H22, hH22⟩ : ∃ X, X = H20.set s (.cells [.slice a14 (vput n v l).length c16, v1, v2, v3] 0 true) := ⟨_, rfl⟩
    have hlen : (vput n v l).length = l.length := by rw [vput_at h.ok.rise hx, List.length_set]
    have c22 : Ch N H H22 := by
      refine ⟨by rw [hH22, List.length_set]; have := ch20.len; omega, fun k hk hnk => ?_⟩
      rw [hH22, List.getElem?_set_ne (fun q => hnk (by rw [← q]; exact h2)), ch20.kept k (by omega) (by omega), k13 k hk]
    have e := t49 m (some ⟨s, 0, none⟩) (bs n) (bs v) H
    simp only [← hH3, ↓onS, ↓kInt_int, ↓kInt_u8, ↓kBool_bool, ↓kStr_str, ↓kTup_tup, ↓kPtr_ptr, ↓kSl_sl, ↓kAgg_agg, ↓kMp_mp, ↓ldc_at cs3, List.getElem?_toArray, List.getElem?_cons_zero, List.getElem?_cons_succ, ↓vec_first2 hv3 (H' := H3) (fun _ _ => rfl)] at e
    rw [show (Value.slice (some ⟨H.length, 0, none⟩) 0 0) = Value.slice (some ⟨H.length, 0, none⟩) ([] : Vs).length 0 from rfl, ap1] at e
    simp only [↓onS, ↓kInt_int, ↓kInt_u8, ↓kBool_bool, ↓kStr_str, ↓kTup_tup, ↓kPtr_ptr, ↓kSl_sl, ↓kAgg_agg, ↓kMp_mp, ↓on_of e67, hx, ixV] at e
    rw [decide_eq_true (show (0 : Int) ≤ ((i : Nat) : Int) by omega), hj] at e
    simp only [↓onS, ↓kInt_int, ↓kInt_u8, ↓kBool_bool, ↓kStr_str, ↓kTup_tup, ↓kPtr_ptr, ↓kSl_sl, ↓kAgg_agg, ↓kMp_mp] at e
    rw [if_pos ⟨by omega, by omega⟩, Int.toNat_natCast, add0, hst, st_one (a := ⟨s, 0, none⟩) s20 (by simp) rfl] at e
    rw [hvs]
    refine ⟨nx N H H22, H22, f _ _ (e.trans ?_), ?_, go_nx c22⟩
    · rw [hH22, hlen, hj]; rfl
    · have l22 : H22.length = H20.length := by rw [hH22, List.length_set]
      refine ⟨fun k hk => ?_, hok.2, a14, c16, ?_, ?_, fun q => by have := hN1 s q; omega, .inl h2, fun k hk => .inr ⟨hN1 k hk, by rw [l22]; exact V20.lt hk⟩⟩
      · rcases hk with hk | hk
        · have := h.lt k hk; have := c22.len; omega
        · exact hk.2
      · rw [hH22]; exact at_set_self (lt_of_at s20) _
      · refine V20.keep fun k hk => ?_
        rw [hH22]
        exact List.getElem?_set_ne (by have := hN1 k hk; omega)
  | none =>
    have hfind := vix_none hx
    have e0 : ∀ m, fnE Tryz.prog G49 Tryz.f49 cuts49 m [.pointer (some ⟨s, 0, none⟩), .string (bs n), .string (bs v)] H = _ := fun m => t49 m (some ⟨s, 0, none⟩) (bs n) (bs v) H
    simp only [← hH3, ↓onS, ↓kInt_int, ↓kInt_u8, ↓kBool_bool, ↓kStr_str, ↓kTup_tup, ↓kPtr_ptr, ↓kSl_sl, ↓kAgg_agg, ↓kMp_mp, ↓ldc_at cs3, List.getElem?_toArray, List.getElem?_cons_zero, List.getElem?_cons_succ, ↓vec_first2 hv3 (H' := H3) (fun _ _ => rfl)] at e0
    rw [show (Value.slice (some ⟨H.length, 0, none⟩) 0 0) = Value.slice (some ⟨H.length, 0, none⟩) ([] : Vs).length 0 from rfl] at e0
    simp only [ap1, ↓onS, ↓kInt_int, ↓kInt_u8, ↓kBool_bool, ↓kStr_str, ↓kTup_tup, ↓kPtr_ptr, ↓kSl_sl, ↓kAgg_agg, ↓kMp_mp, ↓on_of e67, hx, ixV] at e0
    rw [show decide ((0 : Int) ≤ -1) = false from rfl] at e0
    simp only [] at e0
    by_cases hfull : 64 ≤ l.length
    · have hvs : vset n v l = none := by unfold vset; rw [hfind, Nat.ble_eq_true_of_le hfull]; rfl
      rw [decide_eq_true (show (64 : Int) ≤ ((l.length : Nat) : Int) by omega)] at e0
      rw [hvs]
      exact ⟨N, H13, f _ _ (e0 m), h13, ⟨c13.mono fun _ q => q.elim, fun k q => .inl q⟩⟩
    · have hvs : vset n v l = some (vput n v l) := by
        unfold vset
        rw [if_neg (fun q => by simp only [Bool.and_eq_true] at q; exact hfull (Nat.le_of_ble_eq_true q.2))]
      have hok := h.ok.set hn hvl hvs
      rw [decide_eq_false (show ¬ (64 : Int) ≤ ((l.length : Nat) : Int) by omega)] at e0
      simp only [] at e0
      obtain ⟨q, hq⟩ := loop49 V1 h64 (some ⟨s, 0, none⟩) n (bs v) l.length 0 (by omega)
      rw [List.drop_zero, Nat.zero_add] at hq
      obtain ⟨H', a', c', r1, r2, r3, r4, r5⟩ := ins49 V1 h64 cs13 (fun z => by have := hN1 s z; omega) n v (vlo_le n l) m
      rw [← vput_lo hx] at r2 r3
      have c' : Ch N H H' := (c13.mono fun _ q => q.elim).trans (r4.mono fun k z => by rw [z]; exact h2)
      rw [hvs]
      refine ⟨nx N H H', H', f (q + (m + 1)) _ (((e0 _).trans (hq (m + 1))).trans r1), ⟨fun k hk => ?_, hok.2, a', _, r2, r3, fun z => by have := r5 s z; omega, .inl h2, fun k hk => .inr ⟨by have := r5 k hk; omega, r3.lt hk⟩⟩, go_nx c'⟩
      rcases hk with hk | hk
      · have := h.lt k hk; have := c'.len; omega
      · exact hk.2
end
end Go.Proofs.YtbheppfjaeocpaaGreatDoor
