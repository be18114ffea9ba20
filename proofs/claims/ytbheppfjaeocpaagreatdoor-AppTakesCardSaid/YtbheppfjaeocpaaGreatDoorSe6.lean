/- r2: a session takes bytes. -/
import Derived.Test.YtbheppfjaeocpaaGreatDoorSe5
set_option linter.unusedVariables false
set_option linter.unusedSimpArgs false
namespace Go.Proofs.YtbheppfjaeocpaaGreatDoor
open Go Go.RowKit Go.Lib Go.Proofs.YtbheppfjaeocpaaGreatDoor.Fw
theorem vset_none_len : tFULL.length ≤ 2200 := by decide
theorem aAdd_len {n b : Tx} {l : Vs} (h : OkV l) : (aAdd n b l).1.length ≤ 2200 := by
  unfold aAdd
  cases hq : num b with
  | none => show tBAD.length ≤ 2200; decide
  | some x =>
    simp only []
    have b1 := num_lt hq
    have b2 := num_bd ((vfind n l).getD [])
    rw [← old_eq] at b2
    have hil := itoa_len (n := old n l + x) (by omega) (by omega)
    split
    · show tBAD.length ≤ 2200; decide
    · split
      · show tFULL.length ≤ 2200; decide
      · show (tVALUE ++ _).length ≤ 2200
        rw [List.length_append, show tVALUE.length = 6 from rfl]; omega
theorem aLine_len {t : Tx} {l : Vs} (h : OkV l) (ht : t.length ≤ 256) : (aLine t l).1.length ≤ 2200 := by
  have h64 := h.len
  have hbad : tBAD.length ≤ 2200 := by decide
  have hit : ∀ k : Nat, k ≤ 1000 → (tCOUNTs ++ Lib.itoa (k : Int)).length ≤ 2200 := fun k hk => by
    have := itoa_len (n := (k : Int)) (by omega) (by omega)
    rw [List.length_append, show tCOUNTs.length = 6 from rfl]; omega
  have hl1 := cutB_len t
  have hl2 := cutB_len (cutB t).2.1
  unfold aLine
  split
  · have := tList_len h; show (tList l).length ≤ _; omega
  split
  · exact hit _ (by omega)
  split
  · show tBYE.length ≤ 2200; decide
  split
  · show (aCmd _ _ _ _ l).1.length ≤ 2200
    generalize (cutB (cutB t).2.1).1 = n at *
    generalize (cutB (cutB t).2.1).2.1 = v at *
    unfold aCmd
    have hfl := h.find_len n
    split
    · split
      · exact hbad
      · unfold aAsk
        cases hv : vfind n l with
        | none => show tNONE.length ≤ 2200; decide
        | some x =>
          rw [hv] at hfl
          simp only [Option.getD_some] at hfl
          simp only []
          split
          · show tOK.length ≤ 2200; decide
          · show (tVALUE ++ x).length ≤ 2200
            rw [List.length_append, show tVALUE.length = 6 from rfl]; omega
    split
    · split
      · unfold aPut
        split
        · show tFULL.length ≤ 2200; decide
        · show tOK.length ≤ 2200; decide
      · exact hbad
    split
    · split
      · exact aAdd_len h
      · exact hbad
    split
    · split
      · unfold aApp
        split
        · show tFULL.length ≤ 2200; decide
        · split
          · show tFULL.length ≤ 2200; decide
          · refine hit _ ?_
            rw [List.length_append]; omega
      · exact hbad
    · exact hbad
  · exact hbad
theorem endL_len {S : Ss} (h : OkV S.vals) (hl : S.line.length ≤ 256) : (endL S).2.length ≤ 2201 ∧ (endL S).2 ≠ [] := by
  have := aLine_len h hl
  unfold endL
  cases S.long with
  | true => exact ⟨show (tBAD ++ [10] : Tx).length ≤ 2201 by decide, by simp⟩
  | false => exact ⟨by simp only [List.length_append, List.length_cons, List.length_nil]; omega, by simp⟩

/-- What is known of a line's row: bytes, and, if a fork made it, no more. -/
def ZL (e : Nat) : Prop := e = 1 ∨ ZT e
theorem zl_ok (e : Nat) (h : ZL e) : szOk e 1 5 = true := by
  rcases h with rfl | h
  · decide
  · exact zt_ok e h
theorem zl5 : ZL (tyE Tryz.prog 5) := .inr zt5
/-- A session in memory. -/
structure Sn (N : Nat → Prop) (s : Nat) (S : Ss) (H : Heap) : Prop where
  lt : ∀ k, N k → k < H.length
  line : S.line.length ≤ 256
  body : ∃ m a c, St s m (.slice a S.line.length c) (.bool S.long) (.bool S.over) S.vals H ∧ Vec 1 ZL H a S.line.length c (bc S.line) ∧ ab a ≠ some s ∧ ab a ≠ some m ∧ N s ∧ N m ∧ ∀ j, ab a = some j → N j
section
variable {N : Nat → Prop} {s : Nat} {S : Ss} {H : Heap}
theorem Sn.keep (h : Sn N s S H) {H' : Heap} (hl : H.length ≤ H'.length) (hk : ∀ k, N k → H'[k]? = H[k]?) : Sn N s S H' := by
  obtain ⟨lt, line, m, a, c, ⟨ne, cs, ⟨es, m1, m2⟩, ok⟩, hv, h1, h2, h3, h4, h5⟩ := h
  exact ⟨fun k hh => Nat.lt_of_lt_of_le (lt k hh) hl, line, m, a, c, ⟨ne, (hk s h3).trans cs, ⟨es, (hk m h4).trans m1, m2⟩, ok⟩, hv.keep fun j hj => hk j (h5 j hj), h1, h2, h3, h4, h5⟩
theorem Sn.ch (h : Sn N s S H) {M : Nat → Prop} {H' : Heap} (c : Ch M H H') (hd : ∀ k, N k → ¬ M k) : Sn N s S H' := h.keep c.len fun k hk => c.kept k (h.lt k hk) (hd k hk)
theorem Sn.ok (h : Sn N s S H) : OkV S.vals := by obtain ⟨_, _, _, _, _, st, _⟩ := h; exact st.ok
theorem Sn.not0 (h : Sn N s S H) (hp : Pow H) : True := trivial
/-- A new session. -/
theorem new13 (H : Heap) : ∃ N s H', F13 [] H = some (.pointer (some ⟨s, 0, none⟩), H') ∧ Sn N s Ss.new H' ∧ (∀ k, N k → H.length ≤ k) ∧ Ch (fun _ => False) H H' ∧ s < H'.length := by
  refine ⟨fun k => k = H.length ∨ k = H.length + 1, H.length + 1, (H ++ [.map []]) ++ [.cells [.map (some H.length), .slice none 0 0, .bool false, .bool false] 0 true], ?_, ⟨fun k hk => by simp; omega, by decide, H.length, none, 0, ⟨by omega, ?_, ⟨[], ?_, MapIs.nil⟩, OkV.nil⟩, Vec.none 1 _, by simp [ab], by simp [ab], .inr rfl, .inl rfl, fun j hj => by cases hj⟩, fun k hk => by omega, ?_, by simp⟩
  · refine FN_of 1 ((t13 1 H).trans ?_) (Nat.le_of_ble_eq_true (by kernel_rfl))
    simp
  · have : (H ++ [AObj.map []]).length = H.length + 1 := by simp
    rw [← this, List.getElem?_append_right (Nat.le_refl _)]; simp [Ss.new]
  · rw [List.append_assoc]; simp
  · rw [List.append_assoc]; exact Ch.push _ _ _
/-- The end of a line. -/
theorem end30 (h : Sn N s S H) (hp : Pow H) (h0 : ¬ N 0) : ∃ H', F30 [.pointer (some ⟨s, 0, none⟩)] H = some (.string (bs (endL S).2), H') ∧ Sn N s (endL S).1 H' ∧ Ch N H H' := by
  have f : ∀ k r, fnE Tryz.prog G30 Tryz.f30 cuts30 k [.pointer (some ⟨s, 0, none⟩)] H = some r → F30 [.pointer (some ⟨s, 0, none⟩)] H = some r := fun m r h => FN_of m h (Nat.le_of_ble_eq_true (by kernel_rfl))
  obtain ⟨k, hk⟩ : ∃ k : Nat, k = 0 := ⟨0, rfl⟩
  have e := t30 (k + 1) (some ⟨s, 0, none⟩) H
  obtain ⟨m, a, c, st, hv, ha1, ha2, hs, hm, hown⟩ := h.body
  have e2 : fnE Tryz.prog G30 Tryz.f30 cuts30 (k + 1) [.pointer (some ⟨s, 0, none⟩)] H = R30 (k + 1) td30_2 [.pointer (some ⟨s, 0, none⟩), .string (bs S.line), .bool S.long] H := by
    rw [e]
    simp only [↓onS, ↓kInt_int, ↓kInt_u8, ↓kBool_bool, ↓kStr_str, ↓kTup_tup, ↓kPtr_ptr, ↓kSl_sl, ↓kAgg_agg, ↓kMp_mp, ↓ldc_at st.cs, Nat.zero_add, List.getElem?_toArray, List.getElem?_cons_zero, List.getElem?_cons_succ]
    rcases hv.2 with ⟨rfl, hl, _⟩ | ⟨j, cs, ez, hz, rfl, hj, ht, _⟩
    · have : S.line = [] := List.eq_nil_of_length_eq_zero hl
      rw [this]
      rfl
    · have hle := Vec.len_le (H := H) (c := c) (j := j) hv.1 ht
      rw [Nat.mul_one] at hle ht
      simp only [Option.map_some, ↓ldc_at hj, Nat.zero_add]
      rw [if_pos hle]
      have hr : range cs 0 S.line.length = bc S.line := by unfold range; rw [List.drop_zero, ht]
      simp only [hr, bytesOf_bc, ↓onS, lit_bs]
  obtain ⟨H4, hH4⟩ : ∃ H4, H4 = H.set s (.cells [.map (some m), .slice none 0 0, .bool S.long, .bool S.over] 0 true) := ⟨_, rfl⟩
  obtain ⟨H6, hH6⟩ : ∃ H6, H6 = H4.set s (.cells [.map (some m), .slice none 0 0, .bool false, .bool S.over] 0 true) := ⟨_, rfl⟩
  have hsl := lt_of_at st.cs
  have s4 : ∀ K : Value → Heap → R, Fw.st 1 H ⟨s, 1, none⟩ (.slice none 0 0) K = K undef H4 := fun K => by
    rw [st_one (a := ⟨s, 1, none⟩) st.cs (by simp) rfl, hH4]; rfl
  have at4 : H4[s]? = some (.cells [.map (some m), .slice none 0 0, .bool S.long, .bool S.over] 0 true) := by rw [hH4]; exact at_set_self hsl _
  have s6 : ∀ K : Value → Heap → R, Fw.st 1 H4 ⟨s, 2, none⟩ (.bool false) K = K undef H6 := fun K => by
    rw [st_one (a := ⟨s, 2, none⟩) at4 (by simp) rfl, hH6]; rfl
  have c6 : Ch (· = s) H H6 := by
    rw [hH6]
    refine Ch.trans ?_ (Ch.set (N := (· = s)) rfl _)
    rw [hH4]; exact Ch.set (N := (· = s)) rfl _
  obtain ⟨es, m1, m2⟩ := st.mp
  have st6 : St s m (.slice none 0 0) (.bool false) (.bool S.over) S.vals H6 :=
    ⟨st.ne, by rw [hH6]; exact at_set_self (lt_of_at at4) _, ⟨es, c6.at_ m1 st.ne, m2⟩, st.ok⟩
  rw [c30_2] at e2
  simp only [↓onS, ↓kInt_int, ↓kInt_u8, ↓kBool_bool, ↓kStr_str, ↓kTup_tup, ↓kPtr_ptr, ↓kSl_sl, ↓kAgg_agg, ↓kMp_mp, Nat.zero_add, s4, s6] at e2
  unfold endL
  have fin : ∀ {v3 : Bool} {vals : Vs} {H' : Heap}, St s m (.slice none 0 0) (.bool false) (.bool v3) vals H' → Ch N H H' → Sn N s ⟨vals, [], false, v3⟩ H' := fun {v3 vals H'} q c =>
    ⟨fun k hk => Nat.lt_of_lt_of_le (h.lt k hk) c.len, by simp, m, none, 0, q, Vec.none 1 _, by simp [ab], by simp [ab], hs, hm, fun j hj => by cases hj⟩
  cases hlong : S.long with
  | true =>
    rw [hlong] at e2
    have c := c6.mono (N' := N) fun k q => by rw [q]; exact hs
    exact ⟨H6, f _ _ e2, fin st6 c, c⟩
  | false =>
    rw [hlong] at e2
    have hp6 : Pow H6 := hp.ch c6 fun q => h0 (by rw [q]; exact hs)
    obtain ⟨H7, c40, s40, ch⟩ := ans40 st6 hp6 S.line h.line
    have hal := aLine_len st.ok h.line
    simp only [↓on_of c40, ↓onS, ↓kInt_int, ↓kInt_u8, ↓kBool_bool, ↓kStr_str, ↓kTup_tup, ↓kPtr_ptr, ↓kSl_sl, ↓kAgg_agg, ↓kMp_mp, bs_size] at e2
    rw [if_pos (show (aLine S.line S.vals).1.length + (⟨#[10]⟩ : ByteArray).size ≤ 9223372036854775807 by rw [show (⟨#[10]⟩ : ByteArray).size = 1 from rfl]; omega)] at e2
    have c : Ch N H H7 := (c6.mono fun k q => by rw [q]; exact hs).trans (ch.mono fun k q => by rcases q with q | q <;> rw [q]; exact hs; exact hm)
    refine ⟨H7, f _ _ (e2.trans ?_), fin (v3 := S.over || (aLine S.line S.vals).2.2) ?_ c, c⟩
    · rw [← bs_app]; rfl
    · cases hq : (aLine S.line S.vals).2.2 with
      | true => rw [hq] at s40; rw [Bool.or_true]; exact s40
      | false => rw [hq] at s40; rw [Bool.or_false]; exact s40
end
/-- What a session answers to bytes, and whether it takes them. -/
def takeM (S : Ss) (t : Tx) : Ss × Tx × Int := if 65536 < t.length then (S, [], 2) else match S.over with
  | true => (S, [], 183)
  | false => ((feed S t).1, (feed S t).2, 0)
section
variable {N0 : Nat → Prop} {s : Nat} {H0 : Heap}
theorem loop16 (hp : Pow H0) (h00 : ¬ N0 0) (data : Tx) (hd64 : data.length ≤ 65536) (hH0 : 0 < H0.length) (d w : Nat) : ∀ (rest : Tx) (i m : Nat) (N NB : Nat → Prop) (S : Ss) (out : Tx) (H : Heap),
    i + rest.length = data.length → rest = data.drop i → Sn N s S H → Bd NB w out H → H[d]? = some (.cells (bc data) 1 true) → H0.length ≤ d → (∀ k, NB k → H0.length ≤ k) → (∀ k, N k → ¬ NB k) → ¬ N d → ¬ NB d → Go' N0 H0 N H → out.length ≤ 2201 * i →
    ∃ N' H', R16 (m + 2 * rest.length + 1) td16_100007 [.pointer (some ⟨s, 0, none⟩), .pointer (some ⟨w, 0, none⟩), .slice (some ⟨d, 0, none⟩) data.length unk, .int .i64 ((data.length : Nat) : Int), .int .i64 ((i : Nat) : Int)] H = some (.tuple #[.string (bs (out ++ (feed S rest).2)), .int .i64 0], H') ∧ Sn N' s (feed S rest).1 H' ∧ Go' N0 H0 N' H'
  | [], i, m, N, NB, S, out, H, hi, hr, hS, hB, hd, hdl, hBl, hdis, hNd, hNBd, hG, hol => by
    rw [c16_100007]
    rw [decide_eq_false (show ¬ ((i : Nat) : Int) < ((data.length : Nat) : Int) by simp at hi; omega)]
    obtain ⟨H', e28, c28⟩ := string28 hB (by simp at hi; omega)
    simp only [↓on_of e28, ↓onS, ↓kInt_int, ↓kInt_u8, ↓kBool_bool, ↓kStr_str, ↓kTup_tup, ↓kPtr_ptr, ↓kSl_sl, ↓kAgg_agg, ↓kMp_mp, feed, List.append_nil]
    exact ⟨N, H', rfl, hS.ch c28 hdis, hG.new c28 fun k q => .inr (hBl k q)⟩
  | c :: rest, i, m, N, NB, S, out, H, hi, hr, hS, hB, hd, hdl, hBl, hdis, hNd, hNBd, hG, hol => by
    simp only [List.length_cons] at hi
    have hlt : i < data.length := by omega
    have hdr := List.drop_eq_getElem_cons hlt
    rw [← hr] at hdr
    obtain ⟨hc, hr'⟩ := List.cons.inj hdr
    have hx : data[i]? = some c := by rw [hc]; simp [hlt]
    have hxc : (bc data)[i * 1]? = some (.int .u8 c.toNat) := by rw [Nat.mul_one, bc_get, hx]; rfl
    have h0N : ¬ N 0 := fun q => by
      rcases hG.own 0 q with q | q
      · exact h00 q
      · omega
    have hpH : Pow H := hp.ch hG.ch h00
    have e0 := c16_100007 (m + 2 * rest.length + 1 + 1) (some ⟨s, 0, none⟩) (some ⟨w, 0, none⟩) (some ⟨d, 0, none⟩) data.length unk ((data.length : Nat) : Int) ((i : Nat) : Int) H
    obtain ⟨mm, a, cp, st, hv, ha1, ha2, hs, hm, hown⟩ := hS.body
    rw [decide_eq_true (show ((i : Nat) : Int) < ((data.length : Nat) : Int) by omega)] at e0
    simp only [↓onS, ↓kInt_int, ↓kInt_u8, ↓kBool_bool, ↓kStr_str, ↓kTup_tup, ↓kPtr_ptr, ↓kSl_sl, ↓kAgg_agg, ↓kMp_mp] at e0
    rw [if_pos ⟨by omega, by omega⟩] at e0
    simp only [Int.toNat_natCast, add_block, add_off, ↓ldc_at hd, hxc, ↓onS, ↓kInt_int, ↓kInt_u8, ↓kBool_bool, ↓kStr_str, ↓kTup_tup, ↓kPtr_ptr, ↓kSl_sl, ↓kAgg_agg, ↓kMp_mp, ↓ldc_at st.cs, Nat.zero_add, List.getElem?_toArray, List.getElem?_cons_zero, List.getElem?_cons_succ] at e0
    have hrd : m + 2 * (c :: rest).length + 1 = m + 2 * rest.length + 1 + 1 + 1 := by simp; omega
    rw [hrd, e0]
    have ew : IntKind.i64.wrap (((i : Nat) : Int) + 1) = ((i + 1 : Nat) : Int) := wrap_succ (by omega)
    cases hov : S.over with
    | true =>
      obtain ⟨H', e28, c28⟩ := string28 hB (by omega)
      rw [feed_over hov]
      simp only [↓on_of e28, ↓onS, ↓kInt_int, ↓kInt_u8, ↓kBool_bool, ↓kStr_str, ↓kTup_tup, ↓kPtr_ptr, ↓kSl_sl, ↓kAgg_agg, ↓kMp_mp, List.append_nil]
      exact ⟨N, H', rfl, hS.ch c28 hdis, hG.new c28 fun k q => .inr (hBl k q)⟩
    | false =>
      simp only []
      have hfd : feed S (c :: rest) = ((feed (stepC S c).1 rest).1, (stepC S c).2 ++ (feed (stepC S c).1 rest).2) := rfl
      rw [hfd]
      by_cases h10 : c = 10
      · have hb10 : (((c.toNat : Nat) : Int) == 10) = true := by rw [h10]; rfl
        have hstep : stepC S c = endL S := by unfold stepC; rw [hov]; simp [h10]
        rw [hb10, hstep]
        obtain ⟨H1, c30, s30, ch30⟩ := end30 hS hpH h0N
        have hlen := endL_len hS.ok hS.line
        have hB1 : Bd NB w out H1 := hB.keep ch30.len fun k hk => ch30.kept k (hB.lt k hk) fun q => hdis k q hk
        obtain ⟨NB', H2, c29, b29, g29⟩ := write29 hB1 hlen.2 (by omega)
        have hG1 : Go' N0 H0 N H1 := hG.new ch30 fun k q => .inl q
        have hB2 : ∀ k, NB' k → H0.length ≤ k := fun k q => by
          rcases g29.own k q with q | q
          · exact hBl k q
          · exact Nat.le_trans hG1.ch.len q
        have hdis2 : ∀ k, N k → ¬ NB' k := fun k hk q => by
          rcases g29.own k q with q | q
          · exact hdis k hk q
          · have := s30.lt k hk; omega
        have hd1 := ch30.at_ hd hNd
        have hS2 : Sn N s (endL S).1 H2 := s30.keep g29.ch.len fun k hk => g29.ch.kept k (s30.lt k hk) (hdis k hk)
        have hG2 : Go' N0 H0 N H2 := hG1.new g29.ch fun k q => .inr (hBl k q)
        have hd2 := g29.ch.at_ hd1 hNBd
        have hNBd' : ¬ NB' d := fun q => by
          rcases g29.own d q with q | q
          · exact hNBd q
          · have := lt_of_at hd1; omega
        obtain ⟨N', H', r1, r2, r3⟩ := loop16 hp h00 data hd64 hH0 d w rest (i + 1) m N NB' (endL S).1 (out ++ (endL S).2) H2 (by omega) hr' hS2 b29 hd2 hdl hB2 hdis2 hNd hNBd' hG2 (by rw [List.length_append]; omega)
        simp only [↓on_of c30, ↓onS, ↓kInt_int, ↓kInt_u8, ↓kBool_bool, ↓kStr_str, ↓kTup_tup, ↓kPtr_ptr, ↓kSl_sl, ↓kAgg_agg, ↓kMp_mp, ↓on_of c29, c16_16, ew, r1, List.append_assoc]
        exact ⟨N', H', rfl, r2, r3⟩
      · have hb10 : (((c.toNat : Nat) : Int) == 10) = false := by
          have : c.toNat ≠ 10 := fun q => h10 (UInt8.toNat_inj.1 (by rw [q]; rfl))
          simp; omega
        rw [hb10]
        simp only [↓onS, ↓kInt_int, ↓kInt_u8, ↓kBool_bool, ↓kStr_str, ↓kTup_tup, ↓kPtr_ptr, ↓kSl_sl, ↓kAgg_agg, ↓kMp_mp, ↓ldc_at st.cs, List.getElem?_toArray, List.getElem?_cons_zero, List.getElem?_cons_succ]
        have hsl := lt_of_at st.cs
        by_cases h256 : S.line.length < 256
        · have hstep : stepC S c = (⟨S.vals, S.line ++ [c], S.long, S.over⟩, []) := by
            unfold stepC
            rw [hov]
            simp only [h10, if_false]
            rw [if_pos (show Nat.blt S.line.length 256 = true from Nat.ble_eq_true_of_le h256)]
          rw [decide_eq_true (show ((S.line.length : Nat) : Int) < 256 by omega), hstep]
          obtain ⟨H32, hH32⟩ : ∃ X, X = H ++ [.cells [.int .u8 ((c.toNat : Nat) : Int)] 1 true] := ⟨_, rfl⟩
          have hb32 : H32[H.length]? = some (.cells [.int .u8 ((c.toNat : Nat) : Int)] 1 true) := by rw [hH32]; simp
          have c32 : Ch (fun _ => False) H H32 := by rw [hH32]; exact Ch.push _ _ _
          have l32 : H32.length = H.length + 1 := by rw [hH32]; simp
          have hv32 : Vec 1 ZL H32 a S.line.length cp (bc S.line) := hv.keep fun j hj => c32.kept j (hS.lt j (hown j hj)) id
          obtain ⟨a', c', H36, app1, V, L2, K2, N2⟩ := hv32.app (P := Tryz.prog) (e := 5) c5' zl_ok zl5 (n := 1) (nw := bc [c]) (by rw [bc_len]; rfl) (by rw [b5']; omega) (by omega)
          have K2' : ∀ k, k < H.length → ab a ≠ some k → H36[k]? = H[k]? := fun k hk hn => (K2 k (by omega) hn).trans (c32.kept k hk id)
          have at36 : H36[s]? = some (.cells [.map (some mm), .slice a S.line.length cp, .bool S.long, .bool S.over] 0 true) := (K2' s hsl ha1).trans st.cs
          obtain ⟨H41, hH41⟩ : ∃ X, X = H36.set s (.cells [.map (some mm), .slice a' (S.line.length + 1) c', .bool S.long, .bool S.over] 0 true) := ⟨_, rfl⟩
          have hst : ∀ K : Value → Heap → R, Fw.st 1 H36 ⟨s, 1, none⟩ (.slice a' (S.line.length + 1) c') K = K undef H41 := fun K => by
            rw [st_one (a := ⟨s, 1, none⟩) at36 (by simp) rfl, hH41]; rfl
          have hf : ∀ K : Nat → List Value → R, firstC H32 1 (.slice (some ⟨H.length, 0, none⟩) 1 1) K = K 1 (bc [c]) := fun K => firstC_blk hb32 rfl K
          have l41 : H41.length = H36.length := by rw [hH41]; simp
          obtain ⟨es, m1, m2⟩ := st.mp
          have hml := lt_of_at m1
          have hab' : ∀ k, k < H.length → ab a ≠ some k → ab a' ≠ some k := fun k hk hn q => by
            rcases N2 k q with q | q
            · exact hn q
            · omega
          have hN' : ∀ k, k < H41.length → ¬ (k < H.length) → ¬ NB k := fun k _ hk q => hk (hB.lt k q)
          have hk41 : ∀ k, k < H.length → ¬ N k → H41[k]? = H[k]? := fun k hk hn => by
            have hks : s ≠ k := fun q => hn (by rw [← q]; exact hs)
            rw [hH41, List.getElem?_set_ne hks, K2' k hk fun q => hn (hown k q)]
          have hc41 : Ch N H H41 := ⟨by omega, hk41⟩
          have hSn : Sn (fun k => N k ∨ (H.length ≤ k ∧ k < H41.length)) s ⟨S.vals, S.line ++ [c], S.long, S.over⟩ H41 := by
            refine ⟨fun k hk => ?_, by simp; omega, mm, a', c', ⟨st.ne, ?_, ⟨es, ?_, m2⟩, st.ok⟩, ?_, hab' s hsl ha1, hab' mm hml ha2, .inl hs, .inl hm, fun j hj => ?_⟩
            · rcases hk with hk | hk
              · have := hS.lt k hk; omega
              · exact hk.2
            · rw [hH41, List.length_append]; exact at_set_self (lt_of_at at36) _
            · rw [hH41]; exact at_set ((K2' mm hml ha2).trans m1) st.ne.symm
            · have e2 : bc (S.line ++ [c]) = bc S.line ++ bc [c] := by simp [bc]
              show Vec 1 ZL H41 a' (S.line ++ [c]).length c' (bc (S.line ++ [c]))
              rw [e2, List.length_append]
              refine V.keep fun j hj => ?_
              rw [hH41]
              exact List.getElem?_set_ne (fun q : s = j => hab' s hsl ha1 (by rw [q]; exact hj))
            · have jl := V.lt hj
              rcases N2 j hj with q | q
              · exact .inl (hown j q)
              · exact .inr ⟨by omega, by omega⟩
          have hB41 : Bd NB w out H41 := hB.keep hc41.len fun k hk => hk41 k (hB.lt k hk) fun q => hdis k q hk
          have hG41 : Go' N0 H0 (fun k => N k ∨ (H.length ≤ k ∧ k < H41.length)) H41 := ⟨(hG.new hc41 fun k q => .inl q).ch, fun k hk => by
            rcases hk with hk | hk
            · exact hG.own k hk
            · exact .inr (Nat.le_trans hG.ch.len hk.1)⟩
          obtain ⟨N', H', r1, r2, r3⟩ := loop16 hp h00 data hd64 hH0 d w rest (i + 1) m _ NB ⟨S.vals, S.line ++ [c], S.long, S.over⟩ out H41 (by omega) hr' hSn hB41 (hc41.at_ hd hNd) hdl hBl
            (fun k hk q => by rcases hk with hk | hk; exact hdis k hk q; have := hB.lt k q; omega) (fun q => by rcases q with q | q; exact hNd q; have := lt_of_at hd; omega) hNBd hG41 (by omega)
          simp only [← hH32, hf, app1, ↓onS, ↓kInt_int, ↓kInt_u8, ↓kBool_bool, ↓kStr_str, ↓kTup_tup, ↓kPtr_ptr, ↓kSl_sl, ↓kAgg_agg, ↓kMp_mp, hst, c16_16, ew, r1, List.nil_append]
          exact ⟨N', H', rfl, r2, r3⟩
        · have hl : S.line.length = 256 := by have := hS.line; omega
          have hstep : stepC S c = (⟨S.vals, S.line, true, S.over⟩, []) := by
            unfold stepC
            rw [hov]
            simp only [h10, if_false]
            rw [if_neg (show ¬ Nat.blt S.line.length 256 = true from fun q => h256 (Nat.le_of_ble_eq_true q))]
          rw [decide_eq_false (show ¬ ((S.line.length : Nat) : Int) < 256 by omega), hstep]
          obtain ⟨H41, hH41⟩ : ∃ X, X = H.set s (.cells [.map (some mm), .slice a S.line.length cp, .bool true, .bool S.over] 0 true) := ⟨_, rfl⟩
          have hst : ∀ K : Value → Heap → R, Fw.st 1 H ⟨s, 2, none⟩ (.bool true) K = K undef H41 := fun K => by
            rw [st_one (a := ⟨s, 2, none⟩) st.cs (by simp) rfl, hH41]; rfl
          have hc41 : Ch (· = s) H H41 := by rw [hH41]; exact Ch.set (N := (· = s)) rfl _
          obtain ⟨es, m1, m2⟩ := st.mp
          have hSn : Sn N s ⟨S.vals, S.line, true, S.over⟩ H41 :=
            ⟨fun k hk => Nat.lt_of_lt_of_le (hS.lt k hk) hc41.len, hS.line, mm, a, cp, ⟨st.ne, by rw [hH41]; exact at_set_self hsl _, ⟨es, hc41.at_ m1 st.ne, m2⟩, st.ok⟩, hv.keep fun j hj => hc41.kept j (hS.lt j (hown j hj)) fun q => ha1 (by rw [← q]; exact hj), ha1, ha2, hs, hm, hown⟩
          have hsN : ∀ k, k = s → N k := fun k q => by rw [q]; exact hs
          have hB41 : Bd NB w out H41 := hB.keep hc41.len fun k hk => hc41.kept k (hB.lt k hk) fun q => hdis k (hsN k q) hk
          obtain ⟨N', H', r1, r2, r3⟩ := loop16 hp h00 data hd64 hH0 d w rest (i + 1) m N NB ⟨S.vals, S.line, true, S.over⟩ out H41 (by omega) hr' hSn hB41 (hc41.at_ hd fun q => hNd (hsN d q)) hdl hBl hdis hNd hNBd (hG.new hc41 fun k q => .inl (hsN k q)) (by omega)
          simp only [↓onS, ↓kInt_int, ↓kInt_u8, ↓kBool_bool, ↓kStr_str, ↓kTup_tup, ↓kPtr_ptr, ↓kSl_sl, ↓kAgg_agg, ↓kMp_mp, hst, c16_16, ew, r1, List.nil_append]
          exact ⟨N', H', rfl, r2, r3⟩
/-- Take. -/
theorem take16 {S : Ss} {t : Tx} (hS : Sn N0 s S H0) (hp : Pow H0) (h00 : ¬ N0 0) :
    ∃ N' H', F16 [.pointer (some ⟨s, 0, none⟩), .string (bs t)] H0 = some (.tuple #[.string (bs (takeM S t).2.1), .int .i64 (takeM S t).2.2], H') ∧ Sn N' s (takeM S t).1 H' ∧ Go' N0 H0 N' H' := by
  have f : ∀ k r, fnE Tryz.prog G16 Tryz.f16 cuts16 k [.pointer (some ⟨s, 0, none⟩), .string (bs t)] H0 = some r → F16 [.pointer (some ⟨s, 0, none⟩), .string (bs t)] H0 = some r := fun m r h => FN_of m h (Nat.le_of_ble_eq_true (by kernel_rfl))
  obtain ⟨k, hk⟩ : ∃ k : Nat, k = 0 := ⟨0, rfl⟩
  have e := t16 (k + 2 * t.length + 1) (some ⟨s, 0, none⟩) (bs t) H0
  unfold takeM
  simp only [bs_size] at e
  by_cases h1 : 65536 < t.length
  · rw [decide_eq_true (show (65536 : Int) < ((t.length : Nat) : Int) by omega)] at e
    rw [if_pos h1]
    exact ⟨N0, H0, f _ _ e, hS, Go'.refl _ _⟩
  rw [decide_eq_false (show ¬ (65536 : Int) < ((t.length : Nat) : Int) by omega)] at e
  rw [if_neg h1]
  obtain ⟨mm, a, cp, st, hv, ha1, ha2, hs, hm, hown⟩ := hS.body
  simp only [↓onS, ↓kInt_int, ↓kInt_u8, ↓kBool_bool, ↓kStr_str, ↓kTup_tup, ↓kPtr_ptr, ↓kSl_sl, ↓kAgg_agg, ↓kMp_mp, ↓ldc_at st.cs, Nat.zero_add, List.getElem?_toArray, List.getElem?_cons_zero, List.getElem?_cons_succ] at e
  cases hov : S.over with
  | true =>
    rw [hov] at e
    exact ⟨N0, H0, f _ _ e, hS, Go'.refl _ _⟩
  | false =>
    rw [hov] at e
    simp only [] at e
    rw [if_pos (show t.length ≤ 140737488351232 by omega)] at e
    obtain ⟨H6, hH6⟩ : ∃ X, X = H0 ++ [.cells [.pointer none, .slice none 0 0] 67108864 true] := ⟨_, rfl⟩
    obtain ⟨H7, hH7⟩ : ∃ X, X = H6 ++ [.cells (bc t) 1 true] := ⟨_, rfl⟩
    have l6 : H6.length = H0.length + 1 := by rw [hH6]; simp
    have c7 : Ch (fun _ => False) H0 H7 := by rw [hH7, hH6, List.append_assoc]; exact Ch.push _ _ _
    have hS7 : Sn N0 s S H7 := hS.ch c7 fun _ _ => id
    have at6 : H6[H0.length]? = some (.cells [.pointer none, .slice none 0 0] 67108864 true) := by rw [hH6]; simp
    have hB : Bd (· = H0.length) H0.length [] H7 := ⟨rfl, fun k hk => by rw [hk, hH7]; simp; omega, .pointer none, none, 0, .inl rfl, by rw [hH7]; exact at_push at6 _, Vec.none 1 _, by simp [ab], fun j hj => (by cases hj), .inl rfl⟩
    have hd : H7[H6.length]? = some (.cells (bc t) 1 true) := by rw [hH7]; simp
    have hlt := hS.lt
    obtain ⟨N', H', r1, r2, r3⟩ := loop16 hp h00 t (by omega) (by have := lt_of_at st.cs; omega) H6.length H0.length t 0 k N0 (· = H0.length) S [] H7 (by omega) rfl hS7 hB hd (by omega) (fun k hk => by omega)
      (fun k hk q => by have := hlt k hk; omega) (fun q => by have := hlt _ q; omega) (by omega) ⟨c7.mono fun _ q => q.elim, fun k hk => .inl hk⟩ (by simp)
    have hbc : ((bs t).data.toList.map fun b => Value.int .u8 (b.toNat : Int)) = bc t := by rw [bs_data]; rfl
    simp only [← hH6, hbc, ← hH7] at e
    exact ⟨N', H', f _ _ (e.trans r1), r2, r3⟩
theorem go_nil {H H' : Heap} {N : Nat → Prop} (c : Ch (fun _ => False) H H') (hn : ∀ k, N k → H.length ≤ k) : Go' (fun _ => False) H N H' := ⟨c, fun k q => .inr (hn k q)⟩
theorem Pow.pos {H : Heap} (h : Pow H) : 0 < H.length := by obtain ⟨e, o, h⟩ := h; exact lt_of_at h
/-- Answer. -/
theorem answer11 {H : Heap} (hp : Pow H) (t : Tx) :
    ∃ H', F11 [.string (bs t)] H = some (.tuple #[.string (bs (takeM Ss.new t).2.1), .bool (takeM Ss.new t).1.over], H') ∧ Ch (fun _ => False) H H' := by
  obtain ⟨N, s, H1, c13, hS, hN, hch, hsl⟩ := new13 H
  have hp1 : Pow H1 := hp.ch hch id
  have h0 : ¬ N 0 := fun q => by have := hN 0 q; have := hp.pos; omega
  obtain ⟨N', H', c16, hS', g⟩ := take16 (t := t) hS hp1 h0
  obtain ⟨mm, a, cp, st, _⟩ := hS'.body
  refine ⟨H', FN_of 1 ((t11 1 (bs t) H).trans ?_) (Nat.le_of_ble_eq_true (by kernel_rfl)), ((go_nil hch hN).trans g).ch⟩
  simp only [↓on_of c13, ↓onS, ↓kInt_int, ↓kInt_u8, ↓kBool_bool, ↓kStr_str, ↓kTup_tup, ↓kPtr_ptr, ↓kSl_sl, ↓kAgg_agg, ↓kMp_mp, ↓on_of c16, List.getElem?_toArray, List.getElem?_cons_zero, List.getElem?_cons_succ, ↓ldc_at st.cs, Nat.zero_add]
end
end Go.Proofs.YtbheppfjaeocpaaGreatDoor
