/- AppApart: what the law comes to. -/
import Derived.Test.YtbheppfjaeocpaaGreatDoorSl2
set_option linter.unusedVariables false
set_option linter.unusedSimpArgs false
namespace Go.Proofs.YtbheppfjaeocpaaGreatDoor
open Go Go.RowKit Go.Lib Go.Proofs.YtbheppfjaeocpaaGreatDoor.Fw
/-- A session that took all of some bytes, and what it answered. -/
structure Run (N : Nat → Prop) (s : Nat) (f : Tx) (H : Heap) : Prop where
  sn : Sn N s (feed Ss.new f).1 H
  len : f.length ≤ 2000
theorem Run.out {N : Nat → Prop} {s : Nat} {f : Tx} {H : Heap} (h : Run N s f H) : (feed Ss.new f).2.length ≤ 4402000 := by
  have := (feed_ok good_new f).2
  have := h.len
  omega
theorem feed_snoc (f x : Tx) (h : (feed Ss.new f).1.over = false) : feed Ss.new (f ++ x) = ((feed (feed Ss.new f).1 x).1, (feed Ss.new f).2 ++ (feed (feed Ss.new f).1 x).2) := feed_app _ _ _
/-- What taking x by a session that took f comes to: f grows or stays. -/
theorem take_run {H0 : Heap} (hp : Pow H0) {N : Nat → Prop} {s : Nat} {f x : Tx} {H : Heap} (hr : Run N s f H) (hpH : Pow H) (h0N : ¬ N 0) :
    ∃ (N' : Nat → Prop) (H' : Heap) (o : Tx) (e : Int), F16 [.pointer (some ⟨s, 0, none⟩), .string (bs x)] H = some (.tuple #[.string (bs o), .int .i64 e], H') ∧ Go' N H N' H' ∧
      ((e = 0 ∧ (f.length + x.length ≤ 2000 → Run N' s (f ++ x) H') ∧ (feed Ss.new (f ++ x)).2 = (feed Ss.new f).2 ++ o ∧ x.length ≤ 65536) ∨ (e ≠ 0 ∧ Run N' s f H')) := by
  obtain ⟨N', H', e16, s16, g⟩ := take16 (t := x) hr.sn hpH h0N
  refine ⟨N', H', _, _, e16, g, ?_⟩
  unfold takeM at s16 ⊢
  by_cases h1 : 65536 < x.length
  · rw [if_pos h1] at s16 ⊢
    exact .inr ⟨by show (2 : Int) ≠ 0; decide, s16, hr.len⟩
  · rw [if_neg h1] at s16 ⊢
    cases hov : (feed Ss.new f).1.over with
    | true =>
      rw [hov] at s16
      exact .inr ⟨by show (183 : Int) ≠ 0; decide, s16, hr.len⟩
    | false =>
      rw [hov] at s16
      exact .inl ⟨rfl, fun hl => ⟨by rw [feed_app]; exact s16, by simp; omega⟩, by rw [feed_app], by omega⟩
section
variable {H0 : Heap} {a b : Option Addr} {l c k d : Nat} {xs ys : List Tx}
theorem fin7 (hp : Pow H0) {N M : Nat → Prop} {s w : Nat} {f g : Tx} {H : Heap} (hx : Run N s f H) (hy : Run M w g H) (hpH : Pow H) (m : Nat) :
    ∃ H', R7 (m + 1) td7_18 [.pointer (some ⟨s, 0, none⟩), .pointer (some ⟨w, 0, none⟩), .string (bs f), .string (bs g), .string (bs (feed Ss.new f).2), .string (bs (feed Ss.new g).2)] H = some (.bool true, H') := by
  obtain ⟨H1, e1, c1⟩ := answer11 hpH f
  obtain ⟨H2, e2, c2⟩ := answer11 (hpH.ch c1 id) g
  have l1 := hx.len
  have l2 := hy.len
  rw [takeM_new (by omega)] at e1 e2
  have sx := (hx.sn.ch c1 fun _ _ => id).ch c2 fun _ _ => id
  have sy := (hy.sn.ch c1 fun _ _ => id).ch c2 fun _ _ => id
  refine ⟨H2, (c7_18 m _ _ _ _ _ _ H).trans ?_⟩
  simp only [↓on_of e1, ↓onS, ↓kInt_int, ↓kInt_u8, ↓kBool_bool, ↓kStr_str, ↓kTup_tup, ↓kPtr_ptr, ↓kSl_sl, ↓kAgg_agg, ↓kMp_mp, List.getElem?_toArray, List.getElem?_cons_zero, List.getElem?_cons_succ, ↓on_of e2, bs_list, beq_self_eq_true, ↓on_of (over18 sx), ↓on_of (over18 sy)]
theorem loop7 (hp : Pow H0) (h : Recs recT 1 H0 a l xs) (g : Recs recT 1 H0 b k ys) (hl : l ≤ 9223372036854775807) (hk : k ≤ 9223372036854775807) (hxs : ∀ x ∈ xs, x.length ≤ 9223372036854775807) (hys : ∀ x ∈ ys, x.length ≤ 9223372036854775807) : ∀ (r i m : Nat) (N M : Nat → Prop) (s w : Nat) (f u : Tx) (H : Heap), min (max l k) 60 = i + r → Run N s f H → Run M w u H → Go' (fun _ => False) H0 N H → Go' (fun _ => False) H0 M H → (∀ j, N j → ¬ M j) →
    ∃ H', R7 (m + 3 * r + 2) td7_100006 [.slice a l c, .slice b k d, .pointer (some ⟨s, 0, none⟩), .pointer (some ⟨w, 0, none⟩), .string (bs f), .string (bs u), .string (bs (feed Ss.new f).2), .string (bs (feed Ss.new u).2), .int .i64 ((i : Nat) : Int)] H = some (.bool true, H')
  | 0, i, m, N, M, s, w, f, u, H, hr, hN, hM, gN, gM, hd => by
    have e := c7_100006 (m + 3 * 0 + 1) a l c b k d (some ⟨s, 0, none⟩) (some ⟨w, 0, none⟩) (bs f) (bs u) (bs (feed Ss.new f).2) (bs (feed Ss.new u).2) ((i : Nat) : Int) H
    obtain ⟨H', hh⟩ := fin7 hp hN hM (hp.ch gN.ch id) m
    refine ⟨H', e.trans ?_⟩
    have emx : mxi ((l : Nat) : Int) ((k : Nat) : Int) = ((max l k : Nat) : Int) := by unfold mxi; split <;> omega
    rw [emx]
    by_cases h1 : i < max l k
    · rw [decide_eq_true (show ((i : Nat) : Int) < ((max l k : Nat) : Int) by omega), decide_eq_false (show ¬ ((i : Nat) : Int) < 60 by omega)]
      exact hh
    · rw [decide_eq_false (show ¬ ((i : Nat) : Int) < ((max l k : Nat) : Int) by omega)]
      exact hh
  | r + 1, i, m, N, M, s, w, f, u, H, hr, hN, hM, gN, gM, hd => by
    have e := c7_100006 (m + 3 * (r + 1) + 1) a l c b k d (some ⟨s, 0, none⟩) (some ⟨w, 0, none⟩) (bs f) (bs u) (bs (feed Ss.new f).2) (bs (feed Ss.new u).2) ((i : Nat) : Int) H
    have emx : mxi ((l : Nat) : Int) ((k : Nat) : Int) = ((max l k : Nat) : Int) := by unfold mxi; split <;> omega
    rw [emx, decide_eq_true (show ((i : Nat) : Int) < ((max l k : Nat) : Int) by omega), decide_eq_true (show ((i : Nat) : Int) < 60 by omega)] at e
    have ew : IntKind.i64.wrap (((i : Nat) : Int) + 1) = ((i + 1 : Nat) : Int) := wrap_succ (by omega)
    have z0 : ∀ {A : Nat → Prop} {X : Heap}, Go' (fun _ => False) H0 A X → ¬ A 0 := fun {A X} gg q => by
      rcases gg.own 0 q with q | q
      · exact q
      · have := hp.pos; omega
    -- the next round
    have nx : ∀ (N M : Nat → Prop) (f u : Tx) (H : Heap), Run N s f H → Run M w u H → Go' (fun _ => False) H0 N H → Go' (fun _ => False) H0 M H → (∀ j, N j → ¬ M j) →
        ∃ H', R7 (m + 3 * r + 2 + 1) td7_7 [.slice a l c, .slice b k d, .pointer (some ⟨s, 0, none⟩), .pointer (some ⟨w, 0, none⟩), .string (bs f), .string (bs u), .string (bs (feed Ss.new f).2), .string (bs (feed Ss.new u).2), .int .i64 ((i : Nat) : Int)] H = some (.bool true, H') := fun N M f u H hN hM gN gM hd => by
      obtain ⟨H', hh⟩ := loop7 hp h g hl hk hxs hys r (i + 1) m N M s w f u H (by omega) hN hM gN gM hd
      refine ⟨H', (c7_7 (m + 3 * r + 2) a l c b k d _ _ _ _ _ _ _ H).trans ?_⟩
      rw [ew]; exact hh
    -- the second one takes
    have sec : ∀ (N : Nat → Prop) (f : Tx) (H : Heap), Run N s f H → Run M w u H → Go' (fun _ => False) H0 N H → Go' (fun _ => False) H0 M H → (∀ j, N j → ¬ M j) →
        ∃ H', R7 (m + 3 * r + 2 + 2) td7_13 [.slice a l c, .slice b k d, .pointer (some ⟨s, 0, none⟩), .pointer (some ⟨w, 0, none⟩), .string (bs f), .string (bs u), .string (bs (feed Ss.new f).2), .string (bs (feed Ss.new u).2), .int .i64 ((i : Nat) : Int)] H = some (.bool true, H') := fun N f H hN hM gN gM hd => by
      have e := c7_13 (m + 3 * r + 2 + 1) a l c b k d (some ⟨s, 0, none⟩) (some ⟨w, 0, none⟩) (bs f) (bs u) (bs (feed Ss.new f).2) (bs (feed Ss.new u).2) ((i : Nat) : Int) H
      by_cases hik : i < k
      rotate_left
      · rw [decide_eq_false (show ¬ ((i : Nat) : Int) < ((k : Nat) : Int) by omega)] at e
        obtain ⟨H', hh⟩ := nx N M f u H hN hM gN gM hd
        exact ⟨H', e.trans hh⟩
      rw [decide_eq_true (show ((i : Nat) : Int) < ((k : Nat) : Int) by omega)] at e
      have hlen := g.len
      obtain ⟨x, hx⟩ : ∃ x, ys[i]? = some x := ⟨ys[i]'(by omega), by simp⟩
      obtain ⟨ad, cs, own, ha, hat, hget⟩ := (g.ch gN.ch (fun _ _ => id)).one hx
      have hxl := hys x (List.mem_of_getElem? hx)
      simp only [↓on_of ha] at e
      rw [if_pos ⟨by omega, by omega⟩] at e
      simp only [Int.toNat_natCast, add_block, add_off, ↓ldc_at hat, hget, ↓onS, ↓kInt_int, ↓kInt_u8, ↓kBool_bool, ↓kStr_str, ↓kTup_tup, ↓kPtr_ptr, ↓kSl_sl, ↓kAgg_agg, ↓kMp_mp, bs_size] at e
      have hul := hM.len
      by_cases hw : IntKind.i64.wrap (((u.length : Nat) : Int) + ((x.length : Nat) : Int)) ≤ 2000
      rotate_left
      · rw [decide_eq_false hw] at e
        obtain ⟨H', hh⟩ := nx N M f u H hN hM gN gM hd
        exact ⟨H', e.trans hh⟩
      rw [decide_eq_true hw] at e
      simp only [↓on_of ha] at e
      rw [if_pos ⟨by omega, by omega⟩] at e
      obtain ⟨M', H1, o, er, e16, g16, hcase⟩ := take_run hp hM (x := x) (hp.ch gM.ch id) (z0 gM)
      have hN1 : Run N s f H1 := ⟨hN.sn.ch g16.ch hd, hN.len⟩
      have gN1 : Go' (fun _ => False) H0 N H1 := gN.new g16.ch fun q hq => by
        rcases gM.own q hq with z | z
        · exact z.elim
        · exact .inr z
      have gM1 := gM.trans g16
      have hd1 : ∀ j, N j → ¬ M' j := fun j hj q => by
        rcases g16.own j q with z | z
        · exact hd j hj z
        · have := hN.sn.lt j hj; omega
      obtain ⟨ad2, cs2, own2, ha2, hat2, hget2⟩ := (g.ch gN1.ch (fun _ _ => id)).one hx
      obtain rfl : ad2 = ad := by rw [ha] at ha2; exact (Option.some.inj ha2).symm
      simp only [Int.toNat_natCast, add_block, add_off, ↓ldc_at hat, hget, ↓onS, ↓kInt_int, ↓kInt_u8, ↓kBool_bool, ↓kStr_str, ↓kTup_tup, ↓kPtr_ptr, ↓kSl_sl, ↓kAgg_agg, ↓kMp_mp, ↓on_of e16, List.getElem?_toArray, List.getElem?_cons_zero, List.getElem?_cons_succ, ↓on_of ha] at e
      rw [if_pos ⟨by omega, by omega⟩] at e
      simp only [Int.toNat_natCast, add_block, add_off, ↓ldc_at hat2, hget2, ↓onS, ↓kInt_int, ↓kInt_u8, ↓kBool_bool, ↓kStr_str, ↓kTup_tup, ↓kPtr_ptr, ↓kSl_sl, ↓kAgg_agg, ↓kMp_mp, bs_size, bs_app] at e
      rcases hcase with ⟨rfl, h1, h2, h3⟩ | ⟨hne, h1⟩
      · have hlen2 : u.length + x.length ≤ 2000 := by rw [wrap_in ⟨by omega, by omega⟩] at hw; omega
        have hr1 := h1 hlen2
        have ho := hr1.out
        rw [h2, List.length_append] at ho
        rw [show ((0 : Int) == 0) = true from rfl] at e
        simp only [] at e
        rw [if_pos (by omega), if_pos (by omega), ← h2] at e
        obtain ⟨H', hh⟩ := nx N M' f (u ++ x) H1 hN1 hr1 gN1 gM1 hd1
        exact ⟨H', e.trans hh⟩
      · rw [show (er == 0) = false by simpa using hne] at e
        obtain ⟨H', hh⟩ := nx N M' f u H1 hN1 h1 gN1 gM1 hd1
        exact ⟨H', e.trans hh⟩
    rw [show m + 3 * (r + 1) + 1 = m + 3 * r + 2 + 2 by omega] at e
    rw [show m + 3 * (r + 1) + 2 = m + 3 * r + 2 + 2 + 1 by omega]
    by_cases hil : i < l
    rotate_left
    · rw [decide_eq_false (show ¬ ((i : Nat) : Int) < ((l : Nat) : Int) by omega)] at e
      obtain ⟨H', hh⟩ := sec N f H hN hM gN gM hd
      exact ⟨H', e.trans hh⟩
    rw [decide_eq_true (show ((i : Nat) : Int) < ((l : Nat) : Int) by omega)] at e
    have hlen := h.len
    obtain ⟨x, hx⟩ : ∃ x, xs[i]? = some x := ⟨xs[i]'(by omega), by simp⟩
    obtain ⟨ad, cs, own, ha, hat, hget⟩ := (h.ch gN.ch (fun _ _ => id)).one hx
    have hxl := hxs x (List.mem_of_getElem? hx)
    simp only [↓on_of ha] at e
    rw [if_pos ⟨by omega, by omega⟩] at e
    simp only [Int.toNat_natCast, add_block, add_off, ↓ldc_at hat, hget, ↓onS, ↓kInt_int, ↓kInt_u8, ↓kBool_bool, ↓kStr_str, ↓kTup_tup, ↓kPtr_ptr, ↓kSl_sl, ↓kAgg_agg, ↓kMp_mp, bs_size] at e
    have hul := hN.len
    by_cases hw : IntKind.i64.wrap (((f.length : Nat) : Int) + ((x.length : Nat) : Int)) ≤ 2000
    rotate_left
    · rw [decide_eq_false hw] at e
      obtain ⟨H', hh⟩ := sec N f H hN hM gN gM hd
      exact ⟨H', e.trans hh⟩
    rw [decide_eq_true hw] at e
    simp only [↓on_of ha] at e
    rw [if_pos ⟨by omega, by omega⟩] at e
    obtain ⟨N', H1, o, er, e16, g16, hcase⟩ := take_run hp hN (x := x) (hp.ch gN.ch id) (z0 gN)
    have hM1 : Run M w u H1 := ⟨hM.sn.ch g16.ch fun j hj q => hd j q hj, hM.len⟩
    have gM1 : Go' (fun _ => False) H0 M H1 := gM.new g16.ch fun q hq => by
      rcases gN.own q hq with z | z
      · exact z.elim
      · exact .inr z
    have gN1 := gN.trans g16
    have hd1 : ∀ j, N' j → ¬ M j := fun j hj q => by
      rcases g16.own j hj with z | z
      · exact hd j z q
      · have := hM.sn.lt j q; omega
    obtain ⟨ad2, cs2, own2, ha2, hat2, hget2⟩ := (h.ch gN1.ch (fun _ _ => id)).one hx
    obtain rfl : ad2 = ad := by rw [ha] at ha2; exact (Option.some.inj ha2).symm
    simp only [Int.toNat_natCast, add_block, add_off, ↓ldc_at hat, hget, ↓onS, ↓kInt_int, ↓kInt_u8, ↓kBool_bool, ↓kStr_str, ↓kTup_tup, ↓kPtr_ptr, ↓kSl_sl, ↓kAgg_agg, ↓kMp_mp, ↓on_of e16, List.getElem?_toArray, List.getElem?_cons_zero, List.getElem?_cons_succ, ↓on_of ha] at e
    rw [if_pos ⟨by omega, by omega⟩] at e
    simp only [Int.toNat_natCast, add_block, add_off, ↓ldc_at hat2, hget2, ↓onS, ↓kInt_int, ↓kInt_u8, ↓kBool_bool, ↓kStr_str, ↓kTup_tup, ↓kPtr_ptr, ↓kSl_sl, ↓kAgg_agg, ↓kMp_mp, bs_size, bs_app] at e
    rcases hcase with ⟨rfl, h1, h2, h3⟩ | ⟨hne, h1⟩
    · have hlen2 : f.length + x.length ≤ 2000 := by rw [wrap_in ⟨by omega, by omega⟩] at hw; omega
      have hr1 := h1 hlen2
      have ho := hr1.out
      rw [h2, List.length_append] at ho
      rw [show ((0 : Int) == 0) = true from rfl] at e
      simp only [] at e
      rw [if_pos (by omega), if_pos (by omega), ← h2] at e
      obtain ⟨H', hh⟩ := sec N' (f ++ x) H1 hr1 hM1 gN1 gM1 hd1
      exact ⟨H', e.trans hh⟩
    · rw [show (er == 0) = false by simpa using hne] at e
      obtain ⟨H', hh⟩ := sec N' f H1 h1 hM1 gN1 gM1 hd1
      exact ⟨H', e.trans hh⟩
theorem main7 (hp : Pow H0) (h : Recs recT 1 H0 a l xs) (hl : l * 16 ≤ 140737488351232) (hA : ∀ x, a = some x → x.block < H0.length) (fx : ∀ t ∈ xs, Flat [.string] (recT t)) (g : Recs recT 1 H0 b k ys) (hk : k * 16 ≤ 140737488351232) (hB : ∀ x, b = some x → x.block < H0.length) (fy : ∀ t ∈ ys, Flat [.string] (recT t)) : ∃ H', F7 [.slice a l c, .slice b k d] H0 = some (.bool true, H') := by
  have hsz : ∀ x : Tx, Flat [.string] (recT x) → x.length ≤ 9223372036854775807 := fun x hx => by
    obtain ⟨s, e, hs⟩ := hx.2 0 .string (.string (bs x)) rfl rfl
    injection e with e
    rw [← e, bs_size] at hs
    exact hs
  obtain ⟨N, s, H1, c13, hS, hN, hch, hsl⟩ := new13 H0
  obtain ⟨M, w, H2, d13, hW, hM, hch2, hwl⟩ := new13 H1
  have hp2 : Pow H2 := (hp.ch hch id).ch hch2 id
  obtain ⟨H3, e10, c10⟩ := works10 hp2
  have c02 := hch.trans hch2
  have hS3 : Sn N s Ss.new H3 := (hS.ch hch2 fun _ _ => id).ch c10 fun _ _ => id
  have hW3 : Sn M w Ss.new H3 := hW.ch c10 fun _ _ => id
  have gN : Go' (fun _ => False) H0 N H3 := ⟨c02.trans c10, fun k q => .inr (hN k q)⟩
  have gM : Go' (fun _ => False) H0 M H3 := ⟨c02.trans c10, fun k q => .inr (Nat.le_trans hch.len (hM k q))⟩
  obtain ⟨H', e6⟩ := loop7 (c := c) (d := d) hp h g (by omega) (by omega) (fun x hx => hsz x (fx x hx)) (fun x hx => hsz x (fy x hx)) (min (max l k) 60) 0 0 N M s w [] [] H3 (by omega) ⟨hS3, by simp⟩ ⟨hW3, by simp⟩ gN gM (fun j hj q => by have := hS.lt j hj; have := hM j q; omega)
  refine ⟨H', FN_of (0 + 3 * min (max l k) 60 + 2) ((t7 (0 + 3 * min (max l k) 60 + 2) a l c b k d H0).trans ?_) (Nat.le_of_ble_eq_true (by kernel_rfl))⟩
  simp only [↓on_of c13, ↓on_of d13, ↓onS, ↓kInt_int, ↓kInt_u8, ↓kBool_bool, ↓kStr_str, ↓kTup_tup, ↓kPtr_ptr, ↓kSl_sl, ↓kAgg_agg, ↓kMp_mp, Option.isNone_some, ↓on_of e10, Bool.not_true]
  exact e6
end
end Go.Proofs.YtbheppfjaeocpaaGreatDoor
