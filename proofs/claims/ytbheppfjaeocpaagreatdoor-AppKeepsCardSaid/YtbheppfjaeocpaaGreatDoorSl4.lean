/- AppKeeps: what the law comes to. -/
import Derived.Test.YtbheppfjaeocpaaGreatDoorSl2
set_option linter.unusedVariables false
set_option linter.unusedSimpArgs false
namespace Go.Proofs.YtbheppfjaeocpaaGreatDoor
open Go Go.RowKit Go.Lib Go.Proofs.YtbheppfjaeocpaaGreatDoor.Fw
/-- An act: what, of which name, with which value. -/
structure Act where
  kind : Int
  name : Int
  val : Tx
def recA (x : Act) : List Value := [.int .i64 x.kind, .int .i64 x.name, .string (bs x.val)]
theorem recA_inv : ∀ e, Flat [.int .i64, .int .i64, .string] e → ∃ x, e = recA x := fun e h => by
  obtain ⟨v1, l1, e1, ⟨n, en, _⟩, h1⟩ := h.cons_inv
  obtain ⟨v2, l2, e2, ⟨k, ek, _⟩, h2⟩ := h1.cons_inv
  obtain ⟨v3, l3, e3, ⟨s, es, _⟩, h3⟩ := h2.cons_inv
  have e4 := h3.nil_inv
  subst e4 es e3 ek e2 en e1
  obtain ⟨x, rfl⟩ := bs_of s
  exact ⟨⟨n, k, x⟩, rfl⟩
theorem actAt {H : Heap} {a : Option Addr} {l : Nat} {xs : List Act} (h : Recs recA 3 H a l xs) {i : Nat} {v : Act} (hi : xs[i]? = some v) : ∃ x cs own, a = some x ∧ H[x.block]? = some (.cells cs 3 own) ∧ cs[x.off + i * 3]? = some (.int .i64 v.kind) ∧ cs[x.off + i * 3 + 1]? = some (.int .i64 v.name) ∧ cs[x.off + i * 3 + 2]? = some (.string (bs v.val)) := by
  obtain ⟨x, cs, own, e, h1, h2, h3⟩ := h.get hi
  have key : ∀ j, j < 3 → cs[x.off + i * 3 + j]? = (recA v)[j]? := fun j hj => by
    rw [← h3]
    unfold range
    rw [List.getElem?_take_of_lt hj, List.getElem?_drop]
  exact ⟨x, cs, own, e, h1, key 0 (by decide), key 1 (by decide), key 2 (by decide)⟩
/-- k0 to k8. -/
def nm9 (d : Nat) : Tx := [107, UInt8.ofNat (48 + d)]
theorem nm9_eq {x : Int} (h0 : 0 ≤ x) (h1 : x < 9) : bs [107] ++ bs (Lib.itoa x) = bs (nm9 x.toNat) := by
  rw [bs_app]
  unfold Lib.itoa
  rw [if_neg (by omega), Lib.decDigits_one (by omega)]
  rfl
theorem nm9_ok {d : Nat} (h : d < 9) : isNm (nm9 d) = true ∧ (∀ x ∈ nm9 d, x ≠ 10) ∧ (nm9 d).length = 2 := by
  have key : ∀ d : Fin 9, isNm (nm9 d.val) = true ∧ (∀ x ∈ nm9 d.val, x ≠ 10) ∧ (nm9 d.val).length = 2 := by decide +kernel
  exact key ⟨d, h⟩
theorem vdel_none {n : Tx} : ∀ {l : Vs}, vfind n l = none → vdel n l = l
  | [], _ => rfl
  | (k, u) :: r, h => by
    unfold vfind at h
    unfold vdel
    split at h
    · cases h
    · rename_i hk
      rw [if_neg hk, vdel_none h]
theorem vset_lt {n v : Tx} {l : Vs} (h : l.length < 64) : vset n v l = some (vput n v l) := by
  unfold vset
  rw [if_neg]
  have : Nat.ble 64 l.length = false := by rw [← Bool.not_eq_true]; intro q; have := Nat.le_of_ble_eq_true q; omega
  rw [this]; simp
theorem vput_len1 {n v : Tx} {l : Vs} (h : Rising l) : (vput n v l).length ≤ l.length + 1 := by
  rw [vput_len h]; split <;> omega
theorem vput_find {n v : Tx} {l : Vs} (h : Rising l) : vfind n (vput n v l) = some v := (vfind_mem (vput_rising h).nod).2 ((vput_perm h).mem_iff.2 List.mem_cons_self)
/-- Two lines, of which the second one asks how many there are. -/
theorem take2 {l : Vs} {r : Tx} {a : Tx} {l' : Vs} (h : ∀ x ∈ r, x ≠ 10) (hl : r.length ≤ 256) (hA : aLine r l = (a, l', false)) :
    takeM ⟨l, [], false, false⟩ (r ++ [10, 67, 79, 85, 78, 84, 10]) = (⟨l', [], false, false⟩, a ++ ([10, 67, 79, 85, 78, 84, 32] ++ (Lib.itoa l'.length ++ [10])), 0) := by
  have e : r ++ [10, 67, 79, 85, 78, 84, 10] = (r ++ [10]) ++ (tCOUNT ++ [10]) := by simp [tCOUNT]
  have hC : aLine tCOUNT l' = (tCOUNTs ++ Lib.itoa l'.length, l', false) := by unfold aLine; rw [if_neg (by decide), if_pos rfl]
  unfold takeM
  rw [if_neg (by rw [List.length_append]; simp; omega), e, feed_app, feed_ln h hl, hA]
  simp only []
  rw [feed_ln (by decide) (by decide), hC]
  simp [tCOUNTs, List.append_assoc]
def tPUTs : Tx := [80, 85, 84, 32]
def tGETs : Tx := [71, 69, 84, 32]
def tDELs : Tx := [68, 69, 76, 32]
def tAPPs : Tx := [65, 80, 80, 32]
theorem line_put {n v : Tx} {l : Vs} (hn : isNm n = true) (hl : l.length < 64) : aLine (((tPUTs ++ n) ++ [32]) ++ v) l = (tOK, vput n v l, false) := by
  have e : ((tPUTs ++ n) ++ [32]) ++ v = tPUT ++ 32 :: (n ++ 32 :: v) := by simp [tPUTs, tPUT]
  rw [e, aLine_cmd (by decide) hn]
  have hc : aCmd tPUT n v true l = aPut n v l := by unfold aCmd; rw [if_neg (by decide), if_pos rfl]; rfl
  rw [hc]
  unfold aPut
  rw [vset_lt hl]
theorem line_app {n v : Tx} {l : Vs} (hn : isNm n = true) (hl : l.length < 64) : aLine (((tAPPs ++ n) ++ [32]) ++ v) l = if 200 < ((vfind n l).getD [] ++ v).length then (tFULL, l, false) else (tCOUNTs ++ Lib.itoa ((vfind n l).getD [] ++ v).length, vput n ((vfind n l).getD [] ++ v) l, false) := by
  have e : ((tAPPs ++ n) ++ [32]) ++ v = tAPP ++ 32 :: (n ++ 32 :: v) := by simp [tAPPs, tAPP]
  rw [e, aLine_cmd (by decide) hn]
  have hc : aCmd tAPP n v true l = aApp n v l := by unfold aCmd; rw [if_neg (by decide), if_neg (by decide), if_neg (by decide), if_pos rfl]; rfl
  rw [hc]
  unfold aApp
  rw [vset_lt hl]
  by_cases h : 200 < ((vfind n l).getD [] ++ v).length
  · rw [if_pos (show Nat.blt 200 _ = true from Nat.ble_eq_true_of_le h), if_pos h]
  · rw [if_neg (show ¬ Nat.blt 200 _ = true from fun q => h (Nat.le_of_ble_eq_true q)), if_neg h]
theorem line_get {n : Tx} {l : Vs} (hn : isNm n = true) : aLine (tGETs ++ n) l = (match vfind n l with | none => tNONE | some v => tVALUE ++ v, l, false) := by
  have e : tGETs ++ n = tGET ++ 32 :: n := rfl
  rw [e, aLine_cmd0 (by decide) hn]
  have hc : aCmd tGET n [] false l = aAsk tGET n l := by unfold aCmd; rw [if_pos (.inl rfl)]; rfl
  rw [hc]
  unfold aAsk
  cases vfind n l with
  | none => rfl
  | some v => simp only [if_neg (show ¬ tGET = tDEL by decide)]
theorem line_del {n : Tx} {l : Vs} (hn : isNm n = true) : aLine (tDELs ++ n) l = (match vfind n l with | none => tNONE | some v => tOK, vdel n l, false) := by
  have e : tDELs ++ n = tDEL ++ 32 :: n := rfl
  rw [e, aLine_cmd0 (by decide) hn]
  have hc : aCmd tDEL n [] false l = aAsk tDEL n l := by unfold aCmd; rw [if_pos (.inr rfl)]; rfl
  rw [hc]
  unfold aAsk
  cases hv : vfind n l with
  | none => rw [vdel_none hv]
  | some v => simp only [if_pos]
section
variable {H0 : Heap} {a : Option Addr} {l c : Nat} {xs : List Act}
/-- The session and the law's own map: they hold the same. -/
structure Two (H0 : Heap) (N : Nat → Prop) (s mb i : Nat) (vs : Vs) (H : Heap) : Prop where
  sn : Sn N s ⟨vs, [], false, false⟩ H
  go : Go' (fun _ => False) H0 N H
  mp : ∃ es, H[mb]? = some (.map es) ∧ MapIs es vs
  nm : ¬ N mb
  mb0 : H0.length ≤ mb
  cnt : vs.length ≤ i
theorem Two.h0 {N : Nat → Prop} {s mb i : Nat} {vs : Vs} {H : Heap} (h : Two H0 N s mb i vs H) (hp : Pow H0) : Pow H ∧ ¬ N 0 :=
  ⟨hp.ch h.go.ch id, fun q => by
    rcases h.go.own 0 q with q | q
    · exact q
    · have := hp.pos; omega⟩
theorem names42 {vs : Vs} (hr : Rising vs) {mb : Nat} {es : List (Value × Value)} {H : Heap} (hm : H[mb]? = some (.map es)) (hes : es.length = vs.length) {a : Option Addr} {c : Nat} (hn : Nms H0 a c vs H) (hlt : vs.length ≤ 64) : ∀ (r i m : Nat), i + r = vs.length → R4 (m + r + 1) td4_100042 [.map (some mb), .slice a vs.length c, .int .i64 ((i + 1 : Nat) : Int)] H = some (.bool true, H)
  | 0, i, m, hir => by
    refine (c4_100042 (m + 0) (some mb) a vs.length c ((i + 1 : Nat) : Int) H).trans ?_
    rw [decide_eq_false (show ¬ ((i + 1 : Nat) : Int) < ((vs.length : Nat) : Int) by omega)]
    simp only [↓ldmo_at hm, hes, beq_self_eq_true]
  | r + 1, i, m, hir => by
    refine (c4_100042 (m + (r + 1)) (some mb) a vs.length c ((i + 1 : Nat) : Int) H).trans ?_
    by_cases hlast : i + 1 < vs.length
    rotate_left
    · rw [decide_eq_false (show ¬ ((i + 1 : Nat) : Int) < ((vs.length : Nat) : Int) by omega)]
      simp only [↓ldmo_at hm, hes, beq_self_eq_true]
    rw [decide_eq_true (show ((i + 1 : Nat) : Int) < ((vs.length : Nat) : Int) by omega)]
    rcases hn.row with ⟨_, _, rfl⟩ | ⟨j, _, rfl, rfl, hat⟩
    · simp at hlast
    have e1 : IntKind.i64.wrap (((i + 1 : Nat) : Int) - 1) = ((i : Nat) : Int) := by rw [wrap_in ⟨by omega, by omega⟩]; omega
    have g1 : (nmC vs)[i + 1]? = some (.string (bs (vs[i + 1]'hlast).1)) := by simp [nmC, hlast]
    have g0 : (nmC vs)[i]? = some (.string (bs (vs[i]'(by omega)).1)) := by simp [nmC, show i < vs.length by omega]
    simp only [↓onS]
    rw [if_pos ⟨by omega, by omega⟩]
    simp only [Int.toNat_natCast, add_block, add_off, ↓ldc_at hat, Nat.zero_add, Nat.mul_one, g1, ↓onS, ↓kInt_int, ↓kInt_u8, ↓kBool_bool, ↓kStr_str, ↓kTup_tup, ↓kPtr_ptr, ↓kSl_sl, ↓kAgg_agg, ↓kMp_mp, e1, g0]
    rw [if_pos ⟨by omega, by omega⟩]
    have hlt2 : (vs[i]'(by omega)).1 < (vs[i + 1]'hlast).1 := List.pairwise_iff_getElem.1 hr i (i + 1) (by omega) hlast (by omega)
    have hb : (Op.bytesLess (bs (vs[i + 1]'hlast).1).toList (bs (vs[i]'(by omega)).1).toList || (bs (vs[i + 1]'hlast).1).toList == (bs (vs[i]'(by omega)).1).toList) = false := by
      rw [bs_list, bs_list, bytesLess_eq]
      have h1 : ¬ (vs[i + 1]'hlast).1 < (vs[i]'(by omega)).1 := fun q => tx_lt_irrefl _ (tx_lt_trans hlt2 q)
      have h2 : ¬ (vs[i + 1]'hlast).1 = (vs[i]'(by omega)).1 := fun q => tx_lt_irrefl _ (by rw [q] at hlt2; exact hlt2)
      simp [h1, h2]
    simp only [hb]
    have e2 : IntKind.i64.wrap (((i + 1 : Nat) : Int) + 1) = ((i + 1 + 1 : Nat) : Int) := wrap_succ (by omega)
    rw [e2]
    exact names42 hr hm hes hn hlt r (i + 1) m (by omega)
theorem fin4 (hp : Pow H0) {N : Nat → Prop} {s mb i : Nat} {vs : Vs} {H : Heap} (h : Two H0 N s mb i vs H) : ∃ m H', ∀ q, R4 (m + q) td4_40 [.pointer (some ⟨s, 0, none⟩), .map (some mb)] H = some (.bool true, H') := by
  obtain ⟨mm, al, cp, st, _⟩ := h.sn.body
  obtain ⟨es, m1, m2⟩ := h.mp
  have st' : St s mm _ _ _ vs H := st
  obtain ⟨a, c, g, e17, hn⟩ := names17 st'
  refine ⟨vs.length + 2, H ++ g, fun q => ?_⟩
  rw [show vs.length + 2 + q = (q + vs.length + 1) + 1 by omega, c4_40]
  simp only [↓on_of e17, ↓onS, ↓kInt_int, ↓kInt_u8, ↓kBool_bool, ↓kStr_str, ↓kTup_tup, ↓kPtr_ptr, ↓kSl_sl, ↓kAgg_agg, ↓kMp_mp]
  have h64 : vs.length ≤ 64 := st.ok.len
  have := names42 (H0 := H) st'.ok.rise (at_push m1 g) m2.len hn h64 vs.length 0 q (by omega)
  exact this
/-- What an act is answered, and what is held behind it. -/
theorem ask37 (hp : Pow H0) {N : Nat → Prop} {s mb i j : Nat} {vs : Vs} {H : Heap} (h : Two H0 N s mb i vs H) {r w : Tx} {vs' : Vs} (hr : ∀ x ∈ r, x ≠ 10) (hrl : r.length ≤ 256) (hw : w.length ≤ 1000) (hA : aLine r vs = (w, vs', false)) (hc' : vs'.length ≤ i + 1)
    {H2 : Heap} (hch : Ch (· = mb) H H2) (hmp : ∃ es, H2[mb]? = some (.map es) ∧ MapIs es vs') :
    ∃ N' H3, Two H0 N' s mb (i + 1) vs' H3 ∧ ∀ q, R4 (q + 1) td4_37 [.slice a l c, .pointer (some ⟨s, 0, none⟩), .map (some mb), .int .i64 ((j : Nat) : Int), .string (bs w), .string (bs r)] H2 = R4 q td4_7 [.slice a l c, .pointer (some ⟨s, 0, none⟩), .map (some mb), .int .i64 ((j : Nat) : Int)] H3 := by
  obtain ⟨hpH, h0N⟩ := h.h0 hp
  have hmb0 : mb ≠ 0 := fun q => by have := h.mb0; have := hp.pos; omega
  have hp2 : Pow H2 := hpH.ch hch fun q => hmb0 q.symm
  have s2 : Sn N s ⟨vs, [], false, false⟩ H2 := h.sn.ch hch fun k hk q => h.nm (q ▸ hk)
  have g2 : Go' (fun _ => False) H0 N H2 := h.go.new hch fun k q => .inr (by rw [q]; exact h.mb0)
  obtain ⟨N', H3, e16, s16, g16⟩ := take16 (t := r ++ [10, 67, 79, 85, 78, 84, 10]) s2 hp2 h0N
  rw [take2 hr hrl hA] at e16 s16
  obtain ⟨es, m1, m2⟩ := hmp
  have m3 := g16.ch.at_ m1 h.nm
  have hp3 := hp2.ch g16.ch h0N
  have hv64 := s16.ok.len
  have hil := itoa_len (n := ((vs'.length : Nat) : Int)) (by simp at hv64; omega) (by simp at hv64; omega)
  refine ⟨N', H3, ⟨s16, g2.trans g16, ⟨es, m3, m2⟩, fun z => ?_, h.mb0, hc'⟩, fun q => (c4_37 q a l c _ _ _ _ _ H2).trans ?_⟩
  · rcases g16.own mb z with z | z
    · exact h.nm z
    · have := lt_of_at m1; omega
  · have ld : (⟨#[10, 67, 79, 85, 78, 84, 10]⟩ : ByteArray) = bs [10, 67, 79, 85, 78, 84, 10] := rfl
    have ld2 : (⟨#[10, 67, 79, 85, 78, 84, 32]⟩ : ByteArray) = bs [10, 67, 79, 85, 78, 84, 32] := rfl
    have ld3 : (⟨#[10]⟩ : ByteArray) = bs [10] := rfl
    simp only [ld, bs_size, bs_app]
    rw [if_pos (by simp; omega)]
    simp only [↓on_of e16, ↓onS, ↓kInt_int, ↓kInt_u8, ↓kBool_bool, ↓kStr_str, ↓kTup_tup, ↓kPtr_ptr, ↓kSl_sl, ↓kAgg_agg, ↓kMp_mp, List.getElem?_toArray, List.getElem?_cons_zero, List.getElem?_cons_succ, bne_self_eq_false, ld2, ld3, bs_size, bs_app, ↓ldmo_at m3, m2.len, ↓on_of (F14_eq hp3 (n := ((vs'.length : Nat) : Int)) (by simp at hv64; omega) (by simp at hv64; omega)), bs_list]
    rw [if_pos (by simp; omega), if_pos (by simp only [List.length_append, List.length_cons, List.length_nil]; omega), if_pos (by simp only [List.length_append, List.length_cons, List.length_nil]; omega)]
    simp only [List.append_assoc, beq_self_eq_true, Bool.not_true]
/-- The value is looked through. -/
theorem scan4 {s mb j : Nat} {n v : Tx} {H : Heap} {res : R} (hv : v.length ≤ 9223372036854775807) (q : Nat) : ∀ (r k : Nat) (b : Bool), k + r = v.length → R4 (q + 1) td4_100012 [.slice a l c, .pointer (some ⟨s, 0, none⟩), .map (some mb), .int .i64 ((j : Nat) : Int), .string (bs n), .string (bs v), .bool (b || (v.drop k).any (· == 10)), .int .i64 ((v.length : Nat) : Int), .int .i64 ((v.length : Nat) : Int)] H = res →
    R4 (q + 2 * r + 1) td4_100012 [.slice a l c, .pointer (some ⟨s, 0, none⟩), .map (some mb), .int .i64 ((j : Nat) : Int), .string (bs n), .string (bs v), .bool b, .int .i64 ((v.length : Nat) : Int), .int .i64 ((k : Nat) : Int)] H = res := by
  intro r
  induction r with
  | zero =>
    intro k b hk h
    have hkv : k = v.length := by omega
    rw [hkv, List.drop_length, List.any_nil, Bool.or_false] at h
    rw [hkv, Nat.mul_zero, Nat.add_zero]
    exact h
  | succ r ih =>
    intro k b hk h
    have hlt : k < v.length := by omega
    rw [show q + 2 * (r + 1) + 1 = (q + 2 * r + 1 + 1) + 1 by omega, c4_100012, decide_eq_true (show ((k : Nat) : Int) < ((v.length : Nat) : Int) by omega)]
    have ew : IntKind.i64.wrap (((k : Nat) : Int) + 1) = ((k + 1 : Nat) : Int) := wrap_succ (by omega)
    have hx : v[k]? = some (v[k]'hlt) := by simp [hlt]
    rw [List.drop_eq_getElem_cons hlt, List.any_cons] at h
    cases b with
    | true =>
      simp only [c4_15, ew]
      exact ih (k + 1) true (by omega) (by simpa using h)
    | false =>
      simp only []
      rw [if_pos ⟨by omega, by rw [bs_size]; omega⟩, Int.toNat_natCast, byteAt_bs hx]
      have hb : (((v[k]'hlt).toNat : Int) == 10) = ((v[k]'hlt) == 10) := by
        by_cases h10 : v[k]'hlt = 10
        · rw [h10]; rfl
        · have h1 : ((v[k]'hlt) == 10) = false := by simpa using h10
          have h2 : (v[k]'hlt).toNat ≠ 10 := fun z => h10 (UInt8.toNat_inj.1 (by rw [z]; rfl))
          rw [h1]; simp; omega
      rw [hb]
      simp only [c4_15, ew]
      refine ih (k + 1) _ (by omega) ?_
      rw [Bool.false_or] at h
      exact h
theorem loop4 (hp : Pow H0) (h : Recs recA 3 H0 a l xs) (hl : l ≤ 9223372036854775807) (hxs : ∀ x ∈ xs, x.val.length ≤ 9223372036854775807) (s mb : Nat) : ∀ (r i : Nat) (N : Nat → Prop) (vs : Vs) (H : Heap), min l 40 = i + r → Two H0 N s mb i vs H →
    ∃ m H', ∀ q, R4 (m + q) td4_100006 [.slice a l c, .pointer (some ⟨s, 0, none⟩), .map (some mb), .int .i64 ((i : Nat) : Int)] H = some (.bool true, H')
  | 0, i, N, vs, H, hr, hT => by
    obtain ⟨m, H', hh⟩ := fin4 hp hT
    refine ⟨m + 1, H', fun q => ?_⟩
    rw [show m + 1 + q = (m + q) + 1 by omega, c4_100006]
    by_cases h1 : i < l
    · rw [decide_eq_true (show ((i : Nat) : Int) < ((l : Nat) : Int) by omega), decide_eq_false (show ¬ ((i : Nat) : Int) < 40 by omega)]
      exact hh q
    · rw [decide_eq_false (show ¬ ((i : Nat) : Int) < ((l : Nat) : Int) by omega)]
      exact hh q
  | r + 1, i, N, vs, H, hr, hT => by
    have hlen := h.len
    obtain ⟨x, hx⟩ : ∃ x, xs[i]? = some x := ⟨xs[i]'(by omega), by simp⟩
    obtain ⟨ad, cs, own, ha, hat, g0, g1, g2⟩ := actAt (h.ch hT.go.ch (fun _ _ => id)) hx
    have hxl := hxs x (List.mem_of_getElem? hx)
    obtain ⟨hpH, h0N⟩ := hT.h0 hp
    have d0 := Int.emod_nonneg x.name (show (9 : Int) ≠ 0 by decide)
    have d1 := Int.emod_lt_of_pos x.name (show (0 : Int) < 9 by decide)
    obtain ⟨n, hn⟩ : ∃ n, n = nm9 (x.name % 9).toNat := ⟨_, rfl⟩
    obtain ⟨n1, n2, n3⟩ := nm9_ok (d := (x.name % 9).toNat) (by omega)
    rw [← hn] at n1 n2 n3
    have hil := itoa_len (n := x.name % 9) (by omega) (by omega)
    have hcnt := hT.cnt
    have hv64 : vs.length < 64 := by omega
    -- to the next round
    have nx : ∀ (N' : Nat → Prop) (vs' : Vs) (H' : Heap), Two H0 N' s mb (i + 1) vs' H' → ∃ m H2, ∀ q, R4 (m + q) td4_7 [.slice a l c, .pointer (some ⟨s, 0, none⟩), .map (some mb), .int .i64 ((i : Nat) : Int)] H' = some (.bool true, H2) := fun N' vs' H' hT' => by
      obtain ⟨m, H2, hh⟩ := loop4 hp h hl hxs s mb r (i + 1) N' vs' H' (by omega) hT'
      refine ⟨m + 1, H2, fun q => ?_⟩
      rw [show m + 1 + q = (m + q) + 1 by omega, c4_7, wrap_succ (by omega)]
      exact hh q
    -- an act that is asked
    have act : ∀ {rr w : Tx} {vs' : Vs} {H2 : Heap}, (∀ z ∈ rr, z ≠ 10) → rr.length ≤ 256 → w.length ≤ 1000 → aLine rr vs = (w, vs', false) → vs'.length ≤ i + 1 → Ch (· = mb) H H2 → (∃ es, H2[mb]? = some (.map es) ∧ MapIs es vs') →
        ∃ m H3, ∀ q, R4 (m + q) td4_37 [.slice a l c, .pointer (some ⟨s, 0, none⟩), .map (some mb), .int .i64 ((i : Nat) : Int), .string (bs w), .string (bs rr)] H2 = some (.bool true, H3) := fun {rr w vs' H2} q1 q2 q3 q4 q5 q6 q7 => by
      obtain ⟨N', H3, hT', e37⟩ := ask37 (a := a) (l := l) (c := c) (j := i) hp hT q1 q2 q3 q4 q5 q6 q7
      obtain ⟨m, H4, hh⟩ := nx N' vs' H3 hT'
      refine ⟨m + 1, H4, fun q => ?_⟩
      rw [show m + 1 + q = (m + q) + 1 by omega, e37]
      exact hh q
    obtain ⟨es, m1, m2⟩ := hT.mp
    have ok : OkV vs := hT.sn.ok
    have look : ∀ (o : Bool) (K : Value → R), lookupK Tryz.prog 29 H (.map (some mb)) (.string (bs n)) o K = K (okV o (.string (bs ((vfind n vs).getD []))) (vfind n vs).isSome) := fun o K => lookupK_at u29 k9 d9 z9' m1 (m2.keys n) (m2.find ok.rise n) o K
    have ofl := ok.find_len n
    have vk := vput_len1 (n := n) (v := x.val) ok.rise
    obtain ⟨V, hV⟩ : ∃ V, V = (vfind n vs).getD [] := ⟨_, rfl⟩
    have vk2 := vput_len1 (n := n) (v := V ++ x.val) ok.rise
    rw [← hV] at ofl
    -- behind the look through the value
    have tail : ∃ m H', ∀ q, R4 (m + q + 1) td4_100012 [.slice a l c, .pointer (some ⟨s, 0, none⟩), .map (some mb), .int .i64 ((i : Nat) : Int), .string (bs n), .string (bs x.val), .bool (decide ((100 : Int) < ((x.val.length : Nat) : Int)) || (x.val.drop 0).any (· == 10)), .int .i64 ((x.val.length : Nat) : Int), .int .i64 ((x.val.length : Nat) : Int)] H = some (.bool true, H') := by
      rw [List.drop_zero]
      cases hb : (decide ((100 : Int) < ((x.val.length : Nat) : Int)) || x.val.any (· == 10)) with
      | true =>
        obtain ⟨m, H', hh⟩ := nx N vs H ⟨hT.sn, hT.go, hT.mp, hT.nm, hT.mb0, by omega⟩
        refine ⟨m, H', fun q => ?_⟩
        rw [c4_100012, decide_eq_false (show ¬ ((x.val.length : Nat) : Int) < ((x.val.length : Nat) : Int) by omega)]
        exact hh q
      | false =>
        simp only [Bool.or_eq_false_iff, decide_eq_false_iff_not] at hb
        have h100 : x.val.length ≤ 100 := by omega
        have hno : ∀ z ∈ x.val, z ≠ 10 := fun z hz e => by
          have := List.any_eq_false.1 hb.2 z hz
          simp [e] at this
        have c0 := Int.emod_nonneg x.kind (show (4 : Int) ≠ 0 by decide)
        have c1 := Int.emod_lt_of_pos x.kind (show (0 : Int) < 4 by decide)
        have no : ∀ (p : Tx), (∀ z ∈ p, z ≠ 10) → ∀ z ∈ ((p ++ n) ++ [32]) ++ x.val, z ≠ 10 := fun p hp z hz => by
          simp only [List.mem_append, List.mem_singleton] at hz
          rcases hz with ((hz | hz) | hz) | hz
          · exact hp z hz
          · exact n2 z hz
          · rw [hz]; decide
          · exact hno z hz
        have no2 : ∀ (p : Tx), (∀ z ∈ p, z ≠ 10) → ∀ z ∈ p ++ n, z ≠ 10 := fun p hp z hz => by
          simp only [List.mem_append] at hz
          rcases hz with hz | hz
          · exact hp z hz
          · exact n2 z hz
        -- the four kinds
        have step : ∀ m', R4 (m' + 1) td4_100012 [.slice a l c, .pointer (some ⟨s, 0, none⟩), .map (some mb), .int .i64 ((i : Nat) : Int), .string (bs n), .string (bs x.val), .bool false, .int .i64 ((x.val.length : Nat) : Int), .int .i64 ((x.val.length : Nat) : Int)] H = _ := fun m' => c4_100012 m' a l c (some ⟨s, 0, none⟩) (some mb) ((i : Nat) : Int) (bs n) (bs x.val) false ((x.val.length : Nat) : Int) ((x.val.length : Nat) : Int) H
        have ldP : (⟨#[80, 85, 84, 32]⟩ : ByteArray) = bs tPUTs := rfl
        have ldG : (⟨#[71, 69, 84, 32]⟩ : ByteArray) = bs tGETs := rfl
        have ldD : (⟨#[68, 69, 76, 32]⟩ : ByteArray) = bs tDELs := rfl
        have ldA : (⟨#[65, 80, 80, 32]⟩ : ByteArray) = bs tAPPs := rfl
        have ldB : (⟨#[32]⟩ : ByteArray) = bs [32] := rfl
        have ldV : (⟨#[86, 65, 76, 85, 69, 32]⟩ : ByteArray) = bs tVALUE := rfl
        have ldC : (⟨#[67, 79, 85, 78, 84, 32]⟩ : ByteArray) = bs tCOUNTs := rfl
        have ldO : (⟨#[79, 75]⟩ : ByteArray) = bs tOK := rfl
        have ldN : (⟨#[78, 79, 78, 69]⟩ : ByteArray) = bs tNONE := rfl
        have ldF : (⟨#[70, 85, 76, 76]⟩ : ByteArray) = bs tFULL := rfl
        have l4 : ∀ p : Tx, p = tPUTs ∨ p = tGETs ∨ p = tDELs ∨ p = tAPPs → p.length = 4 ∧ ∀ z ∈ p, z ≠ 10 := fun p hp => by
          rcases hp with rfl | rfl | rfl | rfl <;> exact ⟨rfl, by decide⟩
        simp only [decide_eq_false (show ¬ ((x.val.length : Nat) : Int) < ((x.val.length : Nat) : Int) by omega), look, okV, ↓onS, ↓kInt_int, ↓kInt_u8, ↓kBool_bool, ↓kStr_str, ↓kTup_tup, ↓kPtr_ptr, ↓kSl_sl, ↓kAgg_agg, ↓kMp_mp, List.getElem?_toArray, List.getElem?_cons_zero, List.getElem?_cons_succ, ↓on_of ha] at step
        simp only [if_pos (show (0 : Int) ≤ ((i : Nat) : Int) ∧ ((i : Nat) : Int) < ((l : Nat) : Int) by omega), Int.toNat_natCast, add_block, add_off, ↓ldc_at hat, g0, ↓onS, ↓kInt_int, ↓kInt_u8, ↓kBool_bool, ↓kStr_str, ↓kTup_tup, ↓kPtr_ptr, ↓kSl_sl, ↓kAgg_agg, ↓kMp_mp, ↓on_of (among15 x.kind (n := 4) (by decide) (by decide) H), ldP, ldG, ldD, ldA, ldB, ldV, ldC, ldO, ldN, ldF, bs_size, bs_app, ← hV] at step
        rcases (show x.kind % 4 = 0 ∨ x.kind % 4 = 1 ∨ x.kind % 4 = 2 ∨ x.kind % 4 = 3 by omega) with hk | hk | hk | hk
        · -- PUT
          rw [hk] at step
          simp only [show ((0 : Int) == 0) = true from rfl, ↓mupd_at m1 (m2.keys n)] at step
          obtain ⟨m, H3, hh⟩ := act (rr := ((tPUTs ++ n) ++ [32]) ++ x.val) (w := tOK) (no tPUTs (l4 _ (.inl rfl)).2) (by simp only [List.length_append, List.length_singleton, n3, show tPUTs.length = 4 from rfl]; omega) (by decide) (line_put n1 hv64) (by omega)
            (Ch.set (N := (· = mb)) rfl (.map (mset (.string (bs n)) (.string (bs x.val)) es))) ⟨_, at_set_self (lt_of_at m1) _, m2.set ok.rise n x.val⟩
          refine ⟨m, H3, fun q => (step (m + q)).trans ?_⟩
          rw [if_pos (by simp only [n3, show tPUTs.length = 4 from rfl]; omega), if_pos (by simp only [List.length_append, n3, show tPUTs.length = 4 from rfl]; simp), if_pos (by simp only [List.length_append, n3, show tPUTs.length = 4 from rfl, List.length_singleton]; omega)]
          exact hh q
        · -- GET
          rw [hk] at step
          simp only [show ((1 : Int) == 0) = false from rfl, show ((1 : Int) == 1) = true from rfl] at step
          have hA := line_get (l := vs) n1
          have hw : (match vfind n vs with | none => tNONE | some v => tVALUE ++ v).length ≤ 1000 := by
            cases hq : vfind n vs with
            | none => show tNONE.length ≤ 1000; decide
            | some v =>
              rw [hq] at hV
              simp only [Option.getD_some] at hV
              subst hV
              show (tVALUE ++ V).length ≤ 1000
              rw [List.length_append, show tVALUE.length = 6 from rfl]; omega
          obtain ⟨m, H3, hh⟩ := act (rr := tGETs ++ n) (no2 tGETs (l4 _ (.inr (.inl rfl))).2) (by rw [List.length_append, n3]; decide) hw hA (by omega) (Ch.refl _ _) hT.mp
          refine ⟨m, H3, fun q => (step (m + q)).trans ?_⟩
          rw [if_pos (by simp only [n3, show tGETs.length = 4 from rfl]; omega)]
          have := hh q
          cases hq : vfind n vs with
          | none => rw [hq] at this; exact this
          | some v =>
            rw [hq] at this hV
            simp only [Option.getD_some] at hV
            subst hV
            simp only [Option.isSome_some]
            rw [if_pos (by rw [show tVALUE.length = 6 from rfl]; omega)]
            exact this
        · -- DEL
          rw [hk] at step
          simp only [show ((2 : Int) == 0) = false from rfl, show ((2 : Int) == 1) = false from rfl, show ((2 : Int) == 2) = true from rfl] at step
          have hA := line_del (l := vs) n1
          have hw : (match vfind n vs with | none => tNONE | some v => tOK).length ≤ 1000 := by
            cases hq : vfind n vs with
            | none => show tNONE.length ≤ 1000; decide
            | some v => show tOK.length ≤ 1000; decide
          have hdl := (vdel_sub n vs).length_le
          obtain ⟨m, H3, hh⟩ := act (rr := tDELs ++ n) (no2 tDELs (l4 _ (.inr (.inr (.inl rfl)))).2) (by rw [List.length_append, n3]; decide) hw hA (by omega)
            (Ch.set (N := (· = mb)) rfl (.map (mdel (.string (bs n)) es))) ⟨_, at_set_self (lt_of_at m1) _, m2.del ok.rise n⟩
          refine ⟨m + 1, H3, fun q => (step (m + 1 + q)).trans ?_⟩
          rw [if_pos (by simp only [n3, show tDELs.length = 4 from rfl]; omega)]
          have := hh q
          rw [show m + 1 + q = (m + q) + 1 by omega]
          simp only [c4_36, ↓dele_at m1 (m2.keys n)]
          cases hq : vfind n vs with
          | none => rw [hq] at this; exact this
          | some v => rw [hq] at this; exact this
        · -- APP
          rw [hk] at step
          simp only [show ((3 : Int) == 0) = false from rfl, show ((3 : Int) == 1) = false from rfl, show ((3 : Int) == 2) = false from rfl, ↓mupd_at m1 (m2.keys n)] at step
          have hA := line_app (l := vs) (v := x.val) n1 hv64
          rw [← hV] at hA
          have hsum : IntKind.i64.wrap (((V.length : Nat) : Int) + ((x.val.length : Nat) : Int)) = (((V ++ x.val).length : Nat) : Int) := by rw [wrap_in ⟨by omega, by omega⟩, List.length_append]; omega
          have hnl := no tAPPs (l4 _ (.inr (.inr (.inr rfl)))).2
          have hln : (((tAPPs ++ n) ++ [32]) ++ x.val).length ≤ 256 := by simp only [List.length_append, List.length_singleton, n3, show tAPPs.length = 4 from rfl]; omega
          simp only [hsum, ldA] at step
          by_cases h200 : 200 < (V ++ x.val).length
          · rw [if_pos h200] at hA
            obtain ⟨m, H3, hh⟩ := act hnl hln (by decide) hA (by omega) (Ch.refl _ _) hT.mp
            refine ⟨m, H3, fun q => (step (m + q)).trans ?_⟩
            rw [if_pos (by simp only [n3, show tAPPs.length = 4 from rfl]; omega), if_pos (by simp only [List.length_append, n3, show tAPPs.length = 4 from rfl]; simp), if_pos (by simp only [List.length_append, n3, show tAPPs.length = 4 from rfl, List.length_singleton]; omega), decide_eq_false (show ¬ (((V ++ x.val).length : Nat) : Int) ≤ 200 by omega)]
            exact hh q
          · rw [if_neg h200] at hA
            have hil2 := itoa_len (n := (((V ++ x.val).length : Nat) : Int)) (by omega) (by omega)
            obtain ⟨H2, hH2⟩ : ∃ H2, H2 = H.set mb (.map (mset (.string (bs n)) (.string (bs (V ++ x.val))) es)) := ⟨_, rfl⟩
            have c2 : Ch (· = mb) H H2 := by rw [hH2]; exact Ch.set (N := (· = mb)) rfl _
            have a2 : H2[mb]? = some (.map (mset (.string (bs n)) (.string (bs (V ++ x.val))) es)) := by rw [hH2]; exact at_set_self (lt_of_at m1) _
            have mi2 := m2.set ok.rise n (V ++ x.val)
            have rise2 := vput_rising (n := n) (v := V ++ x.val) ok.rise
            have hmb0 : mb ≠ 0 := fun q => by have := hT.mb0; have := hp.pos; omega
            have hp2 : Pow H2 := hpH.ch c2 fun q => hmb0 q.symm
            have look2 : ∀ (K : Value → R), lookupK Tryz.prog 29 H2 (.map (some mb)) (.string (bs n)) false K = K (okV false (.string (bs ((vfind n (vput n (V ++ x.val) vs)).getD []))) (vfind n (vput n (V ++ x.val) vs)).isSome) := fun K => lookupK_at u29 k9 d9 z9' a2 (mi2.keys n) (mi2.find rise2 n) false K
            obtain ⟨m, H3, hh⟩ := act hnl hln (by rw [List.length_append, show tCOUNTs.length = 6 from rfl]; omega) hA (by omega) c2 ⟨_, a2, mi2⟩
            refine ⟨m, H3, fun q => (step (m + q)).trans ?_⟩
            rw [if_pos (by simp only [n3, show tAPPs.length = 4 from rfl]; omega), if_pos (by simp only [List.length_append, n3, show tAPPs.length = 4 from rfl]; simp), if_pos (by simp only [List.length_append, n3, show tAPPs.length = 4 from rfl, List.length_singleton]; omega), decide_eq_true (show (((V ++ x.val).length : Nat) : Int) ≤ 200 by omega)]
            simp only []
            rw [if_pos (by omega)]
            simp only [← hH2, look2, okV, vput_find ok.rise, Option.getD_some, ↓onS, ↓kInt_int, ↓kInt_u8, ↓kBool_bool, ↓kStr_str, ↓kTup_tup, ↓kPtr_ptr, ↓kSl_sl, ↓kAgg_agg, ↓kMp_mp, bs_size, ↓on_of (F14_eq hp2 (n := (((V ++ x.val).length : Nat) : Int)) (by omega) (by omega)), ldC, bs_app]
            rw [if_pos (by rw [show tCOUNTs.length = 6 from rfl]; omega)]
            exact hh q
    obtain ⟨m, H', hh⟩ := tail
    refine ⟨m + 2 * x.val.length + 2, H', fun q => ?_⟩
    rw [show m + 2 * x.val.length + 2 + q = ((m + q) + 2 * x.val.length + 1) + 1 by omega, c4_100006, decide_eq_true (show ((i : Nat) : Int) < ((l : Nat) : Int) by omega), decide_eq_true (show ((i : Nat) : Int) < 40 by omega)]
    simp only [↓on_of ha]
    rw [if_pos ⟨by omega, by omega⟩]
    simp only [Int.toNat_natCast, add_block, add_off, ↓ldc_at hat, g1, ↓onS, ↓kInt_int, ↓kInt_u8, ↓kBool_bool, ↓kStr_str, ↓kTup_tup, ↓kPtr_ptr, ↓kSl_sl, ↓kAgg_agg, ↓kMp_mp, ↓on_of (among15 x.name (n := 9) (by decide) (by decide) H), ↓on_of (F14_eq hpH (n := x.name % 9) (by omega) (by omega)), bs_size]
    rw [if_pos (by rw [show (⟨#[107]⟩ : ByteArray).size = 1 from rfl]; omega)]
    rw [if_pos ⟨by omega, by omega⟩]
    simp only [Int.toNat_natCast, add_block, add_off, ↓ldc_at hat, g2, ↓onS, ↓kInt_int, ↓kInt_u8, ↓kBool_bool, ↓kStr_str, ↓kTup_tup, ↓kPtr_ptr, ↓kSl_sl, ↓kAgg_agg, ↓kMp_mp, bs_size]
    rw [show (⟨#[107]⟩ : ByteArray) ++ bs (Lib.itoa (x.name % 9)) = bs n by rw [hn]; exact nm9_eq d0 d1]
    exact scan4 hxl (m + q) x.val.length 0 _ (by omega) (hh q)
theorem main4 (hp : Pow H0) (h : Recs recA 3 H0 a l xs) (hl : l * 32 ≤ 140737488351232) (hA : ∀ x, a = some x → x.block < H0.length) (fx : ∀ t ∈ xs, Flat [.int .i64, .int .i64, .string] (recA t)) : ∃ H', F4 [.slice a l c] H0 = some (.bool true, H') := by
  have hsz : ∀ x ∈ xs, x.val.length ≤ 9223372036854775807 := fun x hx => by
    obtain ⟨s, e, hs⟩ := (fx x hx).2 2 .string (.string (bs x.val)) rfl rfl
    injection e with e
    rw [← e, bs_size] at hs
    exact hs
  obtain ⟨N, s, H1, c13, hS, hN, hch, hsl⟩ := new13 H0
  have hp1 : Pow H1 := hp.ch hch id
  obtain ⟨H2, e10, c10⟩ := works10 hp1
  have c02 := hch.trans c10
  have hS2 : Sn N s Ss.new H2 := hS.ch c10 fun _ _ => id
  have hS3 : Sn N s Ss.new (H2 ++ [.map []]) := hS2.ch (Ch.push (fun _ => False) H2 _) fun _ _ => id
  have hG : Go' (fun _ => False) H0 N (H2 ++ [.map []]) := ⟨c02.trans (Ch.push _ _ _), fun k q => .inr (hN k q)⟩
  obtain ⟨m, H', hh⟩ := loop4 (c := c) hp h (by omega) hsz s H2.length (min l 40) 0 N [] (H2 ++ [.map []]) (by omega) ⟨(show Sn N s ⟨[], [], false, false⟩ (H2 ++ [.map []]) from hS3), hG, ⟨[], by simp, MapIs.nil⟩, fun q => by have := hS2.lt _ q; omega, c02.len, by simp⟩
  refine ⟨H', FN_of (m + 0) ((t4 (m + 0) a l c H0).trans ?_) (Nat.le_of_ble_eq_true (by kernel_rfl))⟩
  simp only [↓on_of c13, ↓onS, ↓kInt_int, ↓kInt_u8, ↓kBool_bool, ↓kStr_str, ↓kTup_tup, ↓kPtr_ptr, ↓kSl_sl, ↓kAgg_agg, ↓kMp_mp, Option.isNone_some, ↓on_of e10, Bool.not_true]
  exact hh 0
end
end Go.Proofs.YtbheppfjaeocpaaGreatDoor
