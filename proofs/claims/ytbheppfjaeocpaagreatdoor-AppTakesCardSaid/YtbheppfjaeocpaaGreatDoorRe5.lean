/- r2: the document's session: a line is answered. -/
import Derived.Test.YtbheppfjaeocpaaGreatDoorRe4
set_option linter.unusedVariables false
set_option linter.unusedSimpArgs false
namespace Go.Proofs.YtbheppfjaeocpaaGreatDoor
open Go Go.RowKit Go.Lib Go.Proofs.YtbheppfjaeocpaaGreatDoor.Fw
theorem sz1b : (⟨#[32]⟩ : ByteArray).size = 1 := rfl
theorem ld1b : (⟨#[32]⟩ : ByteArray) = bs [32] := rfl
theorem ldLIST : (⟨#[76, 73, 83, 84]⟩ : ByteArray) = bs tLIST := rfl
theorem ldNIL : (⟨#[]⟩ : ByteArray) = bs [] := rfl
section
variable {N : Nat → Prop} {s : Nat} {l : Vs} {v1 v2 v3 : Value} {H : Heap}
theorem list35 (h : Rt N s l v1 v2 v3 H) : ∀ (r i m : Nat) (out : Tx), i + r = l.length → out.length ≤ 4 + 33 * i → R35 (m + r + 1) td35_100005 [.pointer (some ⟨s, 0, none⟩), .string (bs out), .int .i64 ((i : Nat) : Int)] H = some (.string (bs (out ++ ((l.drop i).map fun p => 32 :: p.1).flatten)), H) := by
  obtain ⟨a, c, cs, hv, h1, h2, h3⟩ := h.body
  have h64 := h.ok.len
  intro r
  induction r with
  | zero =>
    intro i m out hi ho
    rw [c35_100005]
    simp only [↓onS, ↓kInt_int, ↓kInt_u8, ↓kBool_bool, ↓kStr_str, ↓kTup_tup, ↓kPtr_ptr, ↓kSl_sl, ↓kAgg_agg, ↓kMp_mp, ↓ldc_at cs, List.getElem?_toArray, List.getElem?_cons_zero, List.getElem?_cons_succ]
    rw [decide_eq_false (show ¬ ((i : Nat) : Int) < ((l.length : Nat) : Int) by omega), List.drop_eq_nil_of_le (by omega)]
    simp
  | succ r ih =>
    intro i m out hi ho
    have hlt : i < l.length := by omega
    have hx : l[i]? = some (l[i]'hlt) := by simp [hlt]
    have hk := h.ok.keys (l[i]'hlt) (List.getElem_mem hlt)
    obtain ⟨j, rs, ha, hj, _, hle, g1, g2⟩ := vec_cell2 hv hx
    rw [show m + (r + 1) + 1 = (m + r + 1) + 1 by omega, c35_100005]
    simp only [↓onS, ↓kInt_int, ↓kInt_u8, ↓kBool_bool, ↓kStr_str, ↓kTup_tup, ↓kPtr_ptr, ↓kSl_sl, ↓kAgg_agg, ↓kMp_mp, ↓ldc_at cs, List.getElem?_toArray, List.getElem?_cons_zero, List.getElem?_cons_succ]
    rw [decide_eq_true (show ((i : Nat) : Int) < ((l.length : Nat) : Int) by omega), ha]
    simp only [↓onS, ↓kInt_int, ↓kInt_u8, ↓kBool_bool, ↓kStr_str, ↓kTup_tup, ↓kPtr_ptr, ↓kSl_sl, ↓kAgg_agg, ↓kMp_mp]
    rw [if_pos ⟨by omega, by omega⟩, Int.toNat_natCast, add0]
    simp only [↓ldc_at hj, g1, ↓onS, ↓kInt_int, ↓kInt_u8, ↓kBool_bool, ↓kStr_str, ↓kTup_tup, ↓kPtr_ptr, ↓kSl_sl, ↓kAgg_agg, ↓kMp_mp, wrap_succ (show i + 1 < 9223372036854775808 by omega), ld1b, bs_app, bs_size]
    rw [if_pos (by simp only [List.length_cons, List.length_nil]; omega), if_pos (by simp only [List.length_append, List.length_cons, List.length_nil]; omega)]
    refine (ih (i + 1) m _ (by omega) (by simp only [List.length_append, List.length_cons, List.length_nil]; omega)).trans ?_
    rw [List.drop_eq_getElem_cons hlt]
    simp only [List.map_cons, List.flatten_cons, List.append_assoc, List.cons_append, List.nil_append]
theorem cmd20 (h : Rt N s l v1 v2 v3 H) {w n v : Tx} {more : Bool} (hn : n.length ≤ 32) (hvl : v.length ≤ 256) (hgd : w = tGET ∨ w = tDEL → more = true) (k : Nat) :
    ∃ N' H', R35 (k + 1 + 1 + 1 + 1) td35_20 [.pointer (some ⟨s, 0, none⟩), .string (bs w), .string (bs n), .string (bs v), .bool more] H = some (.string (bs (aCmd w n v more l).1), H') ∧ Rt N' s (aCmd w n v more l).2 v1 v2 v3 H' ∧ Go' N H N' H' := by
  have e := c35_20 (k + 1 + 1 + 1) (some ⟨s, 0, none⟩) (bs w) (bs n) (bs v) more H
  have e24 := c35_24 (k + 1 + 1) (some ⟨s, 0, none⟩) (bs w) (bs n) (bs v) more H
  have e26 := c35_26 (k + 1) (some ⟨s, 0, none⟩) (bs w) (bs n) (bs v) more H
  have e28 := c35_28 k H
  simp only [eq_lit] at e e24 e26
  have bad : ∀ {x}, x = (tBAD, l) → R35 (k + 1 + 1 + 1 + 1) td35_20 [.pointer (some ⟨s, 0, none⟩), .string (bs w), .string (bs n), .string (bs v), .bool more] H = some (.string (bs tBAD), H) → ∃ N' H', R35 (k + 1 + 1 + 1 + 1) td35_20 [.pointer (some ⟨s, 0, none⟩), .string (bs w), .string (bs n), .string (bs v), .bool more] H = some (.string (bs x.1), H') ∧ Rt N' s x.2 v1 v2 v3 H' ∧ Go' N H N' H' := fun {x} q e => by
    rw [q]; exact ⟨N, H, e, h, Go'.refl _ _⟩
  by_cases w1 : w = tPUT
  · have hA : aCmd w n v more l = if more = true then aPut n v l else (tBAD, l) := by
      unfold aCmd
      rw [if_neg (by rw [w1]; decide), if_pos w1]
    rw [decide_eq_true (show w = [80, 85, 84] from w1)] at e
    rw [decide_eq_false (show ¬ w = [65, 68, 68] by rw [w1]; decide)] at e24
    rw [decide_eq_false (show ¬ w = [65, 80, 80] by rw [w1]; decide)] at e26
    cases more with
    | false => exact bad hA (e.trans (e24.trans (e26.trans e28)))
    | true =>
      rw [hA, if_pos rfl]
      obtain ⟨N2, H2, c49, s49, g2⟩ := set49 h hn hvl
      simp only [↓on_of c49, ↓onS, ↓kInt_int, ↓kInt_u8, ↓kBool_bool, ↓kStr_str, ↓kTup_tup, ↓kPtr_ptr, ↓kSl_sl, ↓kAgg_agg, ↓kMp_mp] at e
      unfold aPut
      cases hs : vset n v l with
      | none => rw [hs] at e s49; exact ⟨N2, H2, e, s49, g2⟩
      | some l' => rw [hs] at e s49; exact ⟨N2, H2, e, s49, g2⟩
  rw [decide_eq_false (show ¬ w = [80, 85, 84] from w1)] at e
  by_cases w2 : w = tADD
  · have hA : aCmd w n v more l = if more = true then aAdd n v l else (tBAD, l) := by
      unfold aCmd
      rw [if_neg (by rw [w2]; decide), if_neg w1, if_pos w2]
    rw [decide_eq_true (show w = [65, 68, 68] from w2)] at e24
    rw [decide_eq_false (show ¬ w = [65, 80, 80] by rw [w2]; decide)] at e26
    cases more with
    | false => exact bad hA (e.trans (e24.trans (e26.trans e28)))
    | true =>
      rw [hA, if_pos rfl]
      obtain ⟨N2, H2, c50, s50, g2⟩ := add50 h hn hvl
      simp only [↓on_of c50, ↓onS, ↓kInt_int, ↓kInt_u8, ↓kBool_bool, ↓kStr_str, ↓kTup_tup, ↓kPtr_ptr, ↓kSl_sl, ↓kAgg_agg, ↓kMp_mp] at e24
      exact ⟨N2, H2, e.trans e24, s50, g2⟩
  rw [decide_eq_false (show ¬ w = [65, 68, 68] from w2)] at e24
  by_cases w3 : w = tAPP
  · have hA : aCmd w n v more l = if more = true then aApp n v l else (tBAD, l) := by
      unfold aCmd
      rw [if_neg (by rw [w3]; decide), if_neg w1, if_neg w2, if_pos w3]
    rw [decide_eq_true (show w = [65, 80, 80] from w3)] at e26
    cases more with
    | false => exact bad hA (e.trans (e24.trans (e26.trans e28)))
    | true =>
      rw [hA, if_pos rfl]
      obtain ⟨N2, H2, c51, s51, g2⟩ := app51 h hn hvl
      simp only [↓on_of c51, ↓onS, ↓kInt_int, ↓kInt_u8, ↓kBool_bool, ↓kStr_str, ↓kTup_tup, ↓kPtr_ptr, ↓kSl_sl, ↓kAgg_agg, ↓kMp_mp] at e26
      exact ⟨N2, H2, e.trans (e24.trans e26), s51, g2⟩
  rw [decide_eq_false (show ¬ w = [65, 80, 80] from w3)] at e26
  have hA : aCmd w n v more l = (tBAD, l) := by
    unfold aCmd
    split
    · rename_i q; rw [hgd q, if_pos rfl]
    · first | rfl | rw [if_neg w1, if_neg w2, if_neg w3]
  exact bad hA (e.trans (e24.trans (e26.trans e28)))
theorem line35 (h : Rt N s l v1 v2 v3 H) (t : Tx) (ht : t.length ≤ 256) :
    ∃ N' H', F35 [.pointer (some ⟨s, 0, none⟩), .string (bs t)] H = some (.string (bs (aLine t l).1), H') ∧ Rt N' s (aLine t l).2.1 v1 v2 (if (aLine t l).2.2 then .bool true else v3) H' ∧ Go' N H N' H' := by
  have f : ∀ k r, fnE Tryz.prog G35 Tryz.f35 cuts35 k [.pointer (some ⟨s, 0, none⟩), .string (bs t)] H = some r → F35 [.pointer (some ⟨s, 0, none⟩), .string (bs t)] H = some r := fun m r h => FN_of m h (Nat.le_of_ble_eq_true (by kernel_rfl))
  obtain ⟨k, hk⟩ : ∃ k : Nat, k = 0 := ⟨0, rfl⟩
  have e := fun m => t35 m (some ⟨s, 0, none⟩) (bs t) H
  simp only [eq_lit] at e
  obtain ⟨a, c, cs, hv, h1, h2, h3⟩ := h.body
  have h64 := h.ok.len
  by_cases n1 : t = tLIST
  · rw [decide_eq_true (show t = [76, 73, 83, 84] from n1)] at e
    have hA : aLine t l = (tList l, l, false) := by unfold aLine; rw [if_pos n1]
    rw [hA]
    have := list35 h l.length 0 k tLIST (by omega) (by decide)
    exact ⟨N, H, f (k + l.length + 1) _ ((e _).trans this), h, Go'.refl _ _⟩
  rw [decide_eq_false (show ¬ t = [76, 73, 83, 84] from n1)] at e
  by_cases n2 : t = tCOUNT
  · rw [decide_eq_true (show t = [67, 79, 85, 78, 84] from n2)] at e
    have hA : aLine t l = (tCOUNTs ++ Lib.itoa l.length, l, false) := by unfold aLine; rw [if_neg n1, if_pos n2]
    rw [hA]
    obtain ⟨H1, c45, ch⟩ := digits45 (n := ((l.length : Nat) : Int)) (by omega) (by omega) H
    have := itoa_len (n := ((l.length : Nat) : Int)) (by omega) (by omega)
    simp only [↓onS, ↓kInt_int, ↓kInt_u8, ↓kBool_bool, ↓kStr_str, ↓kTup_tup, ↓kPtr_ptr, ↓kSl_sl, ↓kAgg_agg, ↓kMp_mp, ↓ldc_at cs, List.getElem?_toArray, List.getElem?_cons_zero, List.getElem?_cons_succ, ↓on_of c45, bs_size, sz6c'] at e
    refine ⟨N, H1, f k _ ((e k).trans ?_), h.nil ch, ⟨ch.mono fun _ q => q.elim, fun _ q => .inl q⟩⟩
    rw [if_pos (by omega), ← bs_app]; rfl
  rw [decide_eq_false (show ¬ t = [67, 79, 85, 78, 84] from n2)] at e
  by_cases n3 : t = tQUIT
  · rw [decide_eq_true (show t = [81, 85, 73, 84] from n3)] at e
    have hA : aLine t l = (tBYE, l, true) := by unfold aLine; rw [if_neg n1, if_neg n2, if_pos n3]
    rw [hA]
    obtain ⟨H1, hH1⟩ : ∃ X, X = H.set s (.cells [.slice a l.length c, v1, v2, .bool true] 0 true) := ⟨_, rfl⟩
    have ch : Ch (· = s) H H1 := by rw [hH1]; exact Ch.set (N := (· = s)) rfl _
    have e2 := e k
    simp only [↓onS, ↓kInt_int, ↓kInt_u8, ↓kBool_bool, ↓kStr_str, ↓kTup_tup, ↓kPtr_ptr, ↓kSl_sl, ↓kAgg_agg, ↓kMp_mp, Nat.zero_add] at e2
    rw [st_one (a := ⟨s, 3, none⟩) cs (by simp) rfl] at e2
    have e3 : ([.slice a l.length c, v1, v2, v3] : List Value).set 3 (.bool true) = [.slice a l.length c, v1, v2, .bool true] := rfl
    simp only [e3, ← hH1] at e2
    refine ⟨N, H1, f k _ e2, ⟨fun z hz => Nat.lt_of_lt_of_le (h.lt z hz) ch.len, h.ok, a, c, ?_, hv.keep fun z hz => ch.kept z (hv.lt hz) fun q => h1 (by rw [hz, q]), h1, h2, h3⟩, ⟨ch.mono fun z q => by rw [q]; exact h2, fun _ q => .inl q⟩⟩
    rw [hH1]; exact at_set_self (lt_of_at cs) _
  rw [decide_eq_false (show ¬ t = [81, 85, 73, 84] from n3)] at e
  obtain ⟨W, hW⟩ : ∃ W, W = (cutB t).1 := ⟨_, rfl⟩
  obtain ⟨T2, hT2⟩ : ∃ T2, T2 = (cutB t).2.1 := ⟨_, rfl⟩
  obtain ⟨O, hO⟩ : ∃ O, O = (cutB t).2.2 := ⟨_, rfl⟩
  obtain ⟨Nm, hNm⟩ : ∃ W, W = (cutB T2).1 := ⟨_, rfl⟩
  obtain ⟨Vl, hVl⟩ : ∃ W, W = (cutB T2).2.1 := ⟨_, rfl⟩
  obtain ⟨M, hM⟩ : ∃ O, O = (cutB T2).2.2 := ⟨_, rfl⟩
  have hl1 := cutB_len t
  have hl2 := cutB_len T2
  rw [← hT2] at hl1
  rw [← hNm, ← hVl] at hl2
  have hA : aLine t l = if O && isNm Nm then ((aCmd W Nm Vl M l).1, (aCmd W Nm Vl M l).2, false) else (tBAD, l, false) := by
    unfold aLine
    rw [if_neg n1, if_neg n2, if_neg n3, ← hW, ← hO, ← hT2, ← hNm, ← hVl, ← hM]
  simp only [↓onS, ↓kInt_int, ↓kInt_u8, ↓kBool_bool, ↓kStr_str, ↓kTup_tup, ↓kPtr_ptr, ↓kSl_sl, ↓kAgg_agg, ↓kMp_mp, ↓on_of (cut46 t H (by omega)), List.getElem?_toArray, List.getElem?_cons_zero, List.getElem?_cons_succ, ← hW, ← hT2, ← hO, ↓on_of (cut46 T2 H (by omega)), ← hNm, ← hVl, ← hM, ↓on_of (name47 Nm H (by omega)), eq_lit] at e
  cases O with
  | false =>
    rw [hA]
    exact ⟨N, H, f (k + 1) _ ((e _).trans (c35_17 k H)), h, Go'.refl _ _⟩
  | true =>
    cases hnm : isNm Nm with
    | false =>
      rw [hnm] at e hA
      rw [hA]
      exact ⟨N, H, f (k + 1) _ ((e _).trans (c35_17 k H)), h, Go'.refl _ _⟩
    | true =>
      rw [hnm] at e hA
      have hnl := isNm_len hnm
      have hA' : aLine t l = ((aCmd W Nm Vl M l).1, (aCmd W Nm Vl M l).2, false) := hA
      rw [hA']
      simp only [Bool.not_true] at e
      have ask : (W = tGET ∨ W = tDEL) → M = false → R35 (k + 1 + 1 + 1 + 1) td35_19 [.pointer (some ⟨s, 0, none⟩), .string (bs W), .string (bs Nm)] H = fnE Tryz.prog G35 Tryz.f35 cuts35 (k + 1 + 1 + 1 + 1) [.pointer (some ⟨s, 0, none⟩), .string (bs t)] H →
          ∃ N' H', F35 [.pointer (some ⟨s, 0, none⟩), .string (bs t)] H = some (.string (bs (aCmd W Nm Vl M l).1), H') ∧ Rt N' s (aCmd W Nm Vl M l).2 v1 v2 v3 H' ∧ Go' N H N' H' := fun q1 q2 q3 => by
        obtain ⟨N2, H2, c48, s48, g2⟩ := one48 h (w := W) (n := Nm) q1
        have hC : aCmd W Nm Vl M l = aAsk W Nm l := by unfold aCmd; rw [if_pos q1, q2]; rfl
        rw [hC]
        refine ⟨N2, H2, f _ _ (q3.symm.trans ((c35_19 _ _ _ _ _).trans ?_)), s48, g2⟩
        simp only [↓on_of c48, ↓onS, ↓kInt_int, ↓kInt_u8, ↓kBool_bool, ↓kStr_str, ↓kTup_tup, ↓kPtr_ptr, ↓kSl_sl, ↓kAgg_agg, ↓kMp_mp]
      have cmd : ((W = tGET ∨ W = tDEL) → M = true) → R35 (k + 1 + 1 + 1 + 1) td35_20 [.pointer (some ⟨s, 0, none⟩), .string (bs W), .string (bs Nm), .string (bs Vl), .bool M] H = fnE Tryz.prog G35 Tryz.f35 cuts35 (k + 1 + 1 + 1 + 1) [.pointer (some ⟨s, 0, none⟩), .string (bs t)] H →
          ∃ N' H', F35 [.pointer (some ⟨s, 0, none⟩), .string (bs t)] H = some (.string (bs (aCmd W Nm Vl M l).1), H') ∧ Rt N' s (aCmd W Nm Vl M l).2 v1 v2 v3 H' ∧ Go' N H N' H' := fun q1 q3 => by
        obtain ⟨N2, H2, c20, s20, g2⟩ := cmd20 h (w := W) (n := Nm) (v := Vl) (more := M) (by omega) (by omega) q1 k
        exact ⟨N2, H2, f _ _ (q3.symm.trans c20), s20, g2⟩
      have e4 := e (k + 1 + 1 + 1 + 1)
      by_cases w1 : W = tGET
      · rw [decide_eq_true (show W = [71, 69, 84] from w1)] at e4
        cases hMM : M with
        | true => rw [hMM] at e4; rw [hMM] at cmd; exact cmd (fun _ => rfl) e4.symm
        | false => rw [hMM] at e4; rw [hMM] at ask; exact ask (.inl w1) rfl e4.symm
      rw [decide_eq_false (show ¬ W = [71, 69, 84] from w1)] at e4
      by_cases w2 : W = tDEL
      · rw [decide_eq_true (show W = [68, 69, 76] from w2)] at e4
        cases hMM : M with
        | true => rw [hMM] at e4; rw [hMM] at cmd; exact cmd (fun _ => rfl) e4.symm
        | false => rw [hMM] at e4; rw [hMM] at ask; exact ask (.inr w2) rfl e4.symm
      rw [decide_eq_false (show ¬ W = [68, 69, 76] from w2)] at e4
      exact cmd (fun q => by rcases q with q | q; exact absurd q w1; exact absurd q w2) e4.symm
end
end Go.Proofs.YtbheppfjaeocpaaGreatDoor
