/- What a session answers is bounded; AppPieces: what the law comes to. -/
import Derived.Test.YtbheppfjaeocpaaGreatDoorSl0
set_option linter.unusedVariables false
set_option linter.unusedSimpArgs false
namespace Go.Proofs.YtbheppfjaeocpaaGreatDoor
open Go Go.RowKit Go.Lib Go.Proofs.YtbheppfjaeocpaaGreatDoor.Fw
theorem isNm_len {n : Tx} (h : isNm n = true) : n.length ≤ 32 := by
  unfold isNm at h
  simp only [Bool.and_eq_true] at h
  exact Nat.le_of_ble_eq_true h.1.2
theorem aAdd_ok {n b : Tx} {l : Vs} (h : OkV l) (hn : n.length ≤ 32) : OkV (aAdd n b l).2 := by
  unfold aAdd
  cases hq : num b with
  | none => exact h
  | some x =>
    simp only []
    have b1 := num_lt hq
    have b2 := num_bd ((vfind n l).getD [])
    rw [← old_eq] at b2
    have hil := itoa_len (n := old n l + x) (by omega) (by omega)
    split
    · exact h
    · split
      · exact h
      · rename_i l' hs
        exact (h.set hn (by omega) hs).2
theorem aPut_ok {n v : Tx} {l : Vs} (h : OkV l) (hn : n.length ≤ 32) (hv : v.length ≤ 256) : OkV (aPut n v l).2 := by
  unfold aPut
  split
  · exact h
  · rename_i l' hs
    exact (h.set hn hv hs).2
theorem aApp_ok {n v : Tx} {l : Vs} (h : OkV l) (hn : n.length ≤ 32) : OkV (aApp n v l).2 := by
  unfold aApp
  split
  · exact h
  · rename_i hc
    split
    · exact h
    · rename_i l' hs
      have : ¬ 200 < ((vfind n l).getD [] ++ v).length := fun q => hc (Nat.ble_eq_true_of_le q)
      exact (h.set hn (by omega) hs).2
theorem aCmd_ok {w n v : Tx} {m : Bool} {l : Vs} (h : OkV l) (hn : n.length ≤ 32) (hv : v.length ≤ 256) : OkV (aCmd w n v m l).2 := by
  unfold aCmd
  split
  · split
    · exact h
    · unfold aAsk
      split
      · exact h
      · split
        · exact h.del n
        · exact h
  split
  · split
    · exact aPut_ok h hn hv
    · exact h
  split
  · split
    · exact aAdd_ok h hn
    · exact h
  split
  · split
    · exact aApp_ok h hn
    · exact h
  · exact h
theorem aLine_ok {t : Tx} {l : Vs} (h : OkV l) (ht : t.length ≤ 256) : OkV (aLine t l).2.1 := by
  have hl1 := cutB_len t
  have hl2 := cutB_len (cutB t).2.1
  unfold aLine
  split
  · exact h
  split
  · exact h
  split
  · exact h
  split
  · rename_i hc
    simp only [Bool.and_eq_true] at hc
    exact aCmd_ok h (isNm_len hc.2) (by omega)
  · exact h
structure GoodS (S : Ss) : Prop where
  ok : OkV S.vals
  line : S.line.length ≤ 256
theorem good_new : GoodS Ss.new := ⟨OkV.nil, by decide⟩
theorem step_ok {S : Ss} (h : GoodS S) (c : UInt8) : GoodS (stepC S c).1 ∧ (stepC S c).2.length ≤ 2201 := by
  unfold stepC
  cases S.over with
  | true => exact ⟨h, by simp⟩
  | false =>
    simp only []
    split
    · refine ⟨?_, (endL_len h.ok h.line).1⟩
      unfold endL
      cases S.long with
      | true => exact ⟨h.ok, by simp⟩
      | false => exact ⟨aLine_ok h.ok h.line, by simp⟩
    · split
      · rename_i hc
        have := Nat.le_of_ble_eq_true hc
        exact ⟨⟨h.ok, by simp only [List.length_append, List.length_singleton]; omega⟩, by simp⟩
      · exact ⟨⟨h.ok, h.line⟩, by simp⟩
theorem feed_ok {S : Ss} (h : GoodS S) (t : Tx) : GoodS (feed S t).1 ∧ (feed S t).2.length ≤ 2201 * t.length := by
  induction t generalizing S with
  | nil => exact ⟨h, by simp [feed]⟩
  | cons c r ih =>
    obtain ⟨h1, h2⟩ := step_ok h c
    obtain ⟨h3, h4⟩ := ih h1
    refine ⟨h3, ?_⟩
    simp only [feed, List.length_append, List.length_cons]
    omega
theorem takeM_new {t : Tx} (ht : t.length ≤ 65536) : takeM Ss.new t = ((feed Ss.new t).1, (feed Ss.new t).2, 0) := by
  unfold takeM
  rw [if_neg (by omega)]; rfl
section
variable {H0 : Heap} {a : Option Addr} {l c : Nat} {xs : List Int} {t : Tx}
theorem fin6 (hp : Pow H0) (ht : t.length ≤ 3000) {N : Nat → Prop} {s : Nat} {H : Heap} {k : Nat} (hS : Sn N s (feed Ss.new (t.take k)).1 H) (hk : k = t.length ∨ (feed Ss.new (t.take k)).1.over = true) (m : Nat) :
    R6 (m + 1) td6_27 [.string (bs (feed Ss.new t).2), .bool (feed Ss.new t).1.over, .pointer (some ⟨s, 0, none⟩), .string (bs (feed Ss.new (t.take k)).2)] H = some (.bool true, H) := by
  have hall : feed Ss.new t = feed Ss.new (t.take k) := by
    rcases hk with rfl | hk
    · rw [List.take_length]
    · conv => lhs; rw [← List.take_append_drop k t]
      rw [feed_app, feed_over hk]; simp
  rw [c6_27, bs_list, bs_list, hall]
  simp only [beq_self_eq_true, ↓on_of (over18 hS), ↓onS, ↓kInt_int, ↓kInt_u8, ↓kBool_bool, ↓kStr_str, ↓kTup_tup, ↓kPtr_ptr, ↓kSl_sl, ↓kAgg_agg, ↓kMp_mp]
theorem loop6 (hp : Pow H0) (h : Recs recI 1 H0 a l xs) (hA : ∀ x, a = some x → x.block < H0.length) (ht : t.length ≤ 3000) (hl : l ≤ 9223372036854775807) : ∀ (r i m k : Nat) (N : Nat → Prop) (s : Nat) (H : Heap), i + r = 202 → k ≤ t.length → (r = 0 → k = t.length) → Sn N s (feed Ss.new (t.take k)).1 H → Go' (fun _ => False) H0 N H →
    ∃ H', R6 (m + 4 * r + 2) td6_100011 [.string (bs t), .slice a l c, .string (bs (feed Ss.new t).2), .bool (feed Ss.new t).1.over, .pointer (some ⟨s, 0, none⟩), .string (bs (feed Ss.new (t.take k)).2), .int .i64 ((k : Nat) : Int), .int .i64 ((i : Nat) : Int)] H = some (.bool true, H')
  | 0, i, m, k, N, s, H, hr, hk, hz, hS, hG => by
    have e := c6_100011 (m + 4 * 0 + 1) (bs t) a l c (bs (feed Ss.new t).2) (feed Ss.new t).1.over (some ⟨s, 0, none⟩) (bs (feed Ss.new (t.take k)).2) ((k : Nat) : Int) ((i : Nat) : Int) H
    rw [decide_eq_false (show ¬ ((k : Nat) : Int) < ((bs t).size : Int) by rw [bs_size]; have := hz rfl; omega)] at e
    exact ⟨H, e.trans (fin6 hp ht hS (.inl (hz rfl)) m)⟩
  | r + 1, i, m, k, N, s, H, hr, hk, hz, hS, hG => by
    have e := c6_100011 (m + 4 * (r + 1) + 1) (bs t) a l c (bs (feed Ss.new t).2) (feed Ss.new t).1.over (some ⟨s, 0, none⟩) (bs (feed Ss.new (t.take k)).2) ((k : Nat) : Int) ((i : Nat) : Int) H
    by_cases hkl : k < t.length
    rotate_left
    · rw [decide_eq_false (show ¬ ((k : Nat) : Int) < ((bs t).size : Int) by rw [bs_size]; omega)] at e
      exact ⟨H, e.trans (fin6 hp ht hS (.inl (by omega)) (m + 4 * (r + 1)))⟩
    rw [decide_eq_true (show ((k : Nat) : Int) < ((bs t).size : Int) by rw [bs_size]; omega)] at e
    have hpH : Pow H := hp.ch hG.ch id
    have h0N : ¬ N 0 := fun q => by
      rcases hG.own 0 q with q | q
      · exact q
      · have := hp.pos; omega
    have ew : IntKind.i64.wrap (((i : Nat) : Int) + 1) = ((i + 1 : Nat) : Int) := wrap_succ (by omega)
    have elk : IntKind.i64.wrap (((bs t).size : Int) - ((k : Nat) : Int)) = ((t.length - k : Nat) : Int) := by rw [bs_size, wrap_in ⟨by omega, by omega⟩]; omega
    -- a piece of n bytes
    have s18 : ∀ (n : Nat), k + n ≤ t.length → (r = 0 → k + n = t.length) → ∃ H', R6 (m + 4 * r + 2 + 2) td6_18 [.string (bs t), .slice a l c, .string (bs (feed Ss.new t).2), .bool (feed Ss.new t).1.over, .pointer (some ⟨s, 0, none⟩), .string (bs (feed Ss.new (t.take k)).2), .int .i64 ((k : Nat) : Int), .int .i64 ((i : Nat) : Int), .int .i64 ((n : Nat) : Int)] H = some (.bool true, H') := fun n hn hz' => by
      obtain ⟨p, hpc⟩ : ∃ p, p = (t.drop k).take n := ⟨_, rfl⟩
      have hpl : p.length = n := by rw [hpc, List.length_take, List.length_drop]; omega
      have hsplit : t.take (k + n) = t.take k ++ p := by rw [hpc, List.take_add]
      have esum : IntKind.i64.wrap (((k : Nat) : Int) + ((n : Nat) : Int)) = ((k + n : Nat) : Int) := by rw [wrap_in ⟨by omega, by omega⟩]; omega
      have e1 := c6_18 (m + 4 * r + 2 + 1) (bs t) a l c (bs (feed Ss.new t).2) (feed Ss.new t).1.over (some ⟨s, 0, none⟩) (bs (feed Ss.new (t.take k)).2) ((k : Nat) : Int) ((i : Nat) : Int) ((n : Nat) : Int) H
      obtain ⟨N', H1, e16, s16, g16⟩ := take16 (t := p) hS hpH h0N
      have hG1 := hG.trans g16
      have hpH1 : Pow H1 := hpH.ch g16.ch h0N
      rw [esum] at e1
      have esl : ∀ K : Value → R, slStr (bs t) ((k : Nat) : Int) ((k + n : Nat) : Int) K = K (.string (bs p)) := fun K => by
        rw [slStr_bs (l := t) rfl rfl (by omega) hn, show k + n - k = n by omega, ← hpc]
      simp only [esl, ↓onS, ↓kInt_int, ↓kInt_u8, ↓kBool_bool, ↓kStr_str, ↓kTup_tup, ↓kPtr_ptr, ↓kSl_sl, ↓kAgg_agg, ↓kMp_mp, ↓on_of e16, List.getElem?_toArray, List.getElem?_cons_zero, List.getElem?_cons_succ, ↓on_of (over18 s16)] at e1
      have hfeed : feed Ss.new (t.take (k + n)) = ((feed (feed Ss.new (t.take k)).1 p).1, (feed Ss.new (t.take k)).2 ++ (feed (feed Ss.new (t.take k)).1 p).2) := by rw [hsplit, feed_app]
      cases hov : (feed Ss.new (t.take k)).1.over with
      | true =>
        have htm : takeM (feed Ss.new (t.take k)).1 p = ((feed Ss.new (t.take k)).1, [], 183) := by
          unfold takeM
          rw [if_neg (by omega), hov]
        rw [htm] at e1 s16
        simp only [hov, show ((183 : Int) == 183) = true from rfl] at e1
        exact ⟨H1, e1.trans (fin6 hp ht s16 (.inr hov) _)⟩
      | false =>
        have htm : takeM (feed Ss.new (t.take k)).1 p = ((feed (feed Ss.new (t.take k)).1 p).1, (feed (feed Ss.new (t.take k)).1 p).2, 0) := by
          unfold takeM
          rw [if_neg (by omega), hov]
        rw [htm] at e1 s16
        have e20 := c6_20 (m + 4 * r + 2) (bs t) a l c (bs (feed Ss.new t).2) (feed Ss.new t).1.over (some ⟨s, 0, none⟩) (bs (feed Ss.new (t.take k)).2) ((k : Nat) : Int) ((i : Nat) : Int) ((n : Nat) : Int) (bs (feed (feed Ss.new (t.take k)).1 p).2) 0 H1
        obtain ⟨H2, e11, c11⟩ := answer11 hpH1 (t.take (k + n))
        rw [takeM_new (by rw [List.length_take]; omega)] at e11
        have esl0 : ∀ K : Value → R, slStr (bs t) 0 ((k + n : Nat) : Int) K = K (.string (bs (t.take (k + n)))) := fun K => by
          rw [slStr_bs (l := t) (x := 0) (i := 0) rfl rfl (by omega) hn, Nat.sub_zero, List.drop_zero]
        have hbd := (feed_ok good_new (t.take (k + n))).2
        rw [hfeed] at hbd
        simp only [List.length_append, List.length_take] at hbd
        simp only [bne_self_eq_false, esum, esl0, ↓onS, ↓kInt_int, ↓kInt_u8, ↓kBool_bool, ↓kStr_str, ↓kTup_tup, ↓kPtr_ptr, ↓kSl_sl, ↓kAgg_agg, ↓kMp_mp, ↓on_of e11, List.getElem?_toArray, List.getElem?_cons_zero, List.getElem?_cons_succ, bs_app, bs_list, bs_size] at e20
        rw [if_pos (by omega), hfeed] at e20
        simp only [beq_self_eq_true, Bool.not_true, ew] at e20
        have hS2 : Sn N' s (feed Ss.new (t.take (k + n))).1 H2 := by rw [hfeed]; exact s16.ch c11 fun _ _ => id
        obtain ⟨H', hh⟩ := loop6 hp h hA ht hl r (i + 1) m (k + n) N' s H2 (by omega) hn hz' hS2 (hG1.new c11 fun _ q => q.elim)
        rw [show (feed Ss.new (t.take (k + n))).2 = (feed Ss.new (t.take k)).2 ++ (feed (feed Ss.new (t.take k)).1 p).2 by rw [hfeed]] at hh
        refine ⟨H', e1.trans ?_⟩
        · cases (feed (feed Ss.new (t.take k)).1 p).1.over with
          | true => simp only [show ((0 : Int) == 183) = false from rfl]; exact e20.trans hh
          | false => exact e20.trans hh
    have s16 : ∀ (n : Nat), k + n ≤ t.length → ∃ H', R6 (m + 4 * r + 2 + 3) td6_16 [.string (bs t), .slice a l c, .string (bs (feed Ss.new t).2), .bool (feed Ss.new t).1.over, .pointer (some ⟨s, 0, none⟩), .string (bs (feed Ss.new (t.take k)).2), .int .i64 ((k : Nat) : Int), .int .i64 ((i : Nat) : Int), .int .i64 ((n : Nat) : Int)] H = some (.bool true, H') := fun n hn => by
      have e1 := c6_16 (m + 4 * r + 2 + 2) (bs t) a l c (bs (feed Ss.new t).2) (feed Ss.new t).1.over (some ⟨s, 0, none⟩) (bs (feed Ss.new (t.take k)).2) ((k : Nat) : Int) ((i : Nat) : Int) ((n : Nat) : Int) H
      rw [elk] at e1
      by_cases h200 : 200 < i
      · obtain ⟨H', hh⟩ := s18 (t.length - k) (by omega) (fun _ => by omega)
        rw [decide_eq_true (show (200 : Int) < ((i : Nat) : Int) by omega)] at e1
        exact ⟨H', e1.trans hh⟩
      · obtain ⟨H', hh⟩ := s18 n hn (fun q => by omega)
        rw [decide_eq_false (show ¬ (200 : Int) < ((i : Nat) : Int) by omega)] at e1
        exact ⟨H', e1.trans hh⟩
    rw [show m + 4 * (r + 1) + 1 = m + 4 * r + 2 + 3 by omega, elk] at e
    rw [show m + 4 * (r + 1) + 2 = m + 4 * r + 2 + 3 + 1 by omega]
    by_cases hil : i < l
    · have hlen := h.len
      have hH := h.ch hG.ch (fun _ _ => id)
      obtain ⟨x, hx⟩ : ∃ x, xs[i]? = some x := ⟨xs[i]'(by omega), by simp⟩
      obtain ⟨ad, cs, own, ha, hat, hget⟩ := hH.one hx
      rw [decide_eq_true (show ((i : Nat) : Int) < ((l : Nat) : Int) by omega)] at e
      simp only [↓on_of ha] at e
      rw [if_pos ⟨by omega, by omega⟩] at e
      simp only [Int.toNat_natCast, add_block, add_off, ↓ldc_at hat, hget, ↓onS, ↓kInt_int, ↓kInt_u8, ↓kBool_bool, ↓kStr_str, ↓kTup_tup, ↓kPtr_ptr, ↓kSl_sl, ↓kAgg_agg, ↓kMp_mp, ↓on_of (among15 x (n := 60) (by decide) (by decide) H)] at e
      have hm0 := Int.emod_nonneg x (show (60 : Int) ≠ 0 by decide)
      obtain ⟨q, hq⟩ : ∃ q : Nat, q = min (t.length - k) (x % 60).toNat := ⟨_, rfl⟩
      have emn : mni (((t.length - k : Nat) : Nat) : Int) (x % 60) = ((q : Nat) : Int) := by
        unfold mni
        split <;> omega
      rw [emn] at e
      obtain ⟨H', hh⟩ := s16 q (by omega)
      exact ⟨H', e.trans hh⟩
    · rw [decide_eq_false (show ¬ ((i : Nat) : Int) < ((l : Nat) : Int) by omega)] at e
      obtain ⟨H', hh⟩ := s16 (t.length - k) (by omega)
      exact ⟨H', e.trans hh⟩
theorem main6 (hp : Pow H0) (s : ByteArray) (hs : s.size ≤ 140737488351232) (h : Recs recI 1 H0 a l xs) (hl : l * 8 ≤ 140737488351232) (hA : ∀ x, a = some x → x.block < H0.length) : ∃ H', F6 [.string s, .slice a l c] H0 = some (.bool true, H') := by
  obtain ⟨t, rfl⟩ := bs_of s
  obtain ⟨H1, e10, c10⟩ := works10 hp
  have f : ∀ k r, fnE Tryz.prog G6 Tryz.f6 cuts6 k [.string (bs t), .slice a l c] H0 = some r → F6 [.string (bs t), .slice a l c] H0 = some r := fun m r h => FN_of m h (Nat.le_of_ble_eq_true (by kernel_rfl))
  have e := t6 (0 + 4 * 202 + 2) (bs t) a l c H0
  simp only [↓on_of e10, ↓onS, ↓kInt_int, ↓kInt_u8, ↓kBool_bool, ↓kStr_str, ↓kTup_tup, ↓kPtr_ptr, ↓kSl_sl, ↓kAgg_agg, ↓kMp_mp, Bool.not_true, bs_size] at e
  by_cases h3 : 3000 < t.length
  · rw [decide_eq_true (show (3000 : Int) < ((t.length : Nat) : Int) by omega)] at e
    exact ⟨H1, f _ _ e⟩
  rw [decide_eq_false (show ¬ (3000 : Int) < ((t.length : Nat) : Int) by omega)] at e
  have hp1 : Pow H1 := hp.ch c10 id
  obtain ⟨H2, e11, c11⟩ := answer11 hp1 t
  rw [takeM_new (by omega)] at e11
  obtain ⟨N, s, H3, c13, hS, hN, hch, hsl⟩ := new13 H2
  have c02 : Ch (fun _ => False) H0 H2 := c10.trans c11
  have hG : Go' (fun _ => False) H0 N H3 := ⟨c02.trans hch, fun k q => .inr (Nat.le_trans c02.len (hN k q))⟩
  obtain ⟨H', e6⟩ := loop6 (c := c) hp h hA (t := t) (by omega) (by omega) 202 0 0 0 N s H3 (by omega) (by omega) (fun q => by cases q) hS hG
  simp only [↓on_of e11, ↓onS, ↓kInt_int, ↓kInt_u8, ↓kBool_bool, ↓kStr_str, ↓kTup_tup, ↓kPtr_ptr, ↓kSl_sl, ↓kAgg_agg, ↓kMp_mp, List.getElem?_toArray, List.getElem?_cons_zero, List.getElem?_cons_succ, ↓on_of c13, Option.isNone_some] at e
  exact ⟨H', f _ _ (e.trans e6)⟩
end
end Go.Proofs.YtbheppfjaeocpaaGreatDoor
