/- r2: the document's session takes bytes; its answer; AppAnswers. -/
import Derived.Test.YtbheppfjaeocpaaGreatDoorRe5
set_option linter.unusedVariables false
set_option linter.unusedSimpArgs false
namespace Go.Proofs.YtbheppfjaeocpaaGreatDoor
open Go Go.RowKit Go.Lib Go.Proofs.YtbheppfjaeocpaaGreatDoor.Fw
/-- The document's session. -/
structure Rn (N : Nat → Prop) (s : Nat) (S : Ss) (H : Heap) : Prop where
  st : Rt N s S.vals (.string (bs S.line)) (.bool S.long) (.bool S.over) H
  line : S.line.length ≤ 256
section
variable {N : Nat → Prop} {s : Nat} {l : Vs} {v1 v2 v3 : Value} {H : Heap}
theorem Rt.set1 (h : Rt N s l v1 v2 v3 H) (w : Value) (hw : w.oneCell' = true) : ∃ H', (∀ K : Value → Heap → R, Fw.st 1 H ⟨s, 1, none⟩ w K = K undef H') ∧ Rt N s l w v2 v3 H' ∧ Ch (· = s) H H' := by
  obtain ⟨a, c, cs, hv, h1, h2, h3⟩ := h.body
  obtain ⟨H1, hH1⟩ : ∃ X, X = H.set s (.cells [.slice a l.length c, w, v2, v3] 0 true) := ⟨_, rfl⟩
  have ch : Ch (· = s) H H1 := by rw [hH1]; exact Ch.set (N := (· = s)) rfl _
  refine ⟨H1, fun K => by rw [st_one (a := ⟨s, 1, none⟩) cs (by simp) hw, hH1]; rfl, ⟨fun z hz => Nat.lt_of_lt_of_le (h.lt z hz) ch.len, h.ok, a, c, by rw [hH1]; exact at_set_self (lt_of_at cs) _, hv.keep fun z hz => ch.kept z (hv.lt hz) fun q => h1 (by rw [hz, q]), h1, h2, h3⟩, ch⟩
theorem Rt.set2 (h : Rt N s l v1 v2 v3 H) (w : Value) (hw : w.oneCell' = true) : ∃ H', (∀ K : Value → Heap → R, Fw.st 1 H ⟨s, 2, none⟩ w K = K undef H') ∧ Rt N s l v1 w v3 H' ∧ Ch (· = s) H H' := by
  obtain ⟨a, c, cs, hv, h1, h2, h3⟩ := h.body
  obtain ⟨H1, hH1⟩ : ∃ X, X = H.set s (.cells [.slice a l.length c, v1, w, v3] 0 true) := ⟨_, rfl⟩
  have ch : Ch (· = s) H H1 := by rw [hH1]; exact Ch.set (N := (· = s)) rfl _
  refine ⟨H1, fun K => by rw [st_one (a := ⟨s, 2, none⟩) cs (by simp) hw, hH1]; rfl, ⟨fun z hz => Nat.lt_of_lt_of_le (h.lt z hz) ch.len, h.ok, a, c, by rw [hH1]; exact at_set_self (lt_of_at cs) _, hv.keep fun z hz => ch.kept z (hv.lt hz) fun q => h1 (by rw [hz, q]), h1, h2, h3⟩, ch⟩
theorem Rt.own (h : Rt N s l v1 v2 v3 H) : N s := by obtain ⟨a, c, cs, hv, h1, h2, h3⟩ := h.body; exact h2
theorem bc_app (a b : Tx) : bc (a ++ b) = bc a ++ bc b := by simp [bc]
theorem app5 {a : Option Addr} {c : Nat} {out x : Tx} (hv : Vec 1 ZT H a out.length c (bc out)) (hb : out.length + x.length ≤ 140737488355328) :
    ∃ a' c' H', (∀ {β : Type} (k : Value → Heap → Option β), Fw.app Tryz.prog 5 H (.slice a out.length c) x.length (bc x) k = k (.slice a' (out ++ x).length c') H') ∧ Vec 1 ZT H' a' (out ++ x).length c' (bc (out ++ x)) ∧ H.length ≤ H'.length ∧
      (∀ k, k < H.length → ab a ≠ some k → H'[k]? = H[k]?) ∧ (∀ j, ab a' = some j → ab a = some j ∨ j = H.length) := by
  rw [List.length_append, bc_app]
  exact hv.app (P := Tryz.prog) (e := 5) c5' zt_ok zt5 (n := x.length) (nw := bc x) (by rw [bc_len]; omega) (by rw [b5']; omega) (by omega)
/-- The end of a line is written. -/
theorem put16 (h : Rt N s l v1 v2 v3 H) {a : Option Addr} {c : Nat} {out ans : Tx} (hv : Vec 1 ZT H a out.length c (bc out)) (hd : ∀ j, ab a = some j → ¬ N j) (x1 : ByteArray) {i : Nat} (hi : i < 70000) (hb : out.length + ans.length ≤ 140737488350000) (m : Nat) :
    ∃ a' c' H', R20 (m + 1 + 1) td20_16 [.pointer (some ⟨s, 0, none⟩), .string x1, .slice a out.length c, .int .i64 ((i : Nat) : Int), .string (bs ans)] H = R20 m td20_100007 [.pointer (some ⟨s, 0, none⟩), .string x1, .slice a' (out ++ (ans ++ [10])).length c', .int .i64 ((i + 1 : Nat) : Int)] H' ∧
      Rt N s l (.string (bs [])) (.bool false) v3 H' ∧ Vec 1 ZT H' a' (out ++ (ans ++ [10])).length c' (bc (out ++ (ans ++ [10]))) ∧ Ch (fun k => k = s ∨ ab a = some k) H H' ∧ ∀ j, ab a' = some j → ab a = some j ∨ H.length ≤ j := by
  obtain ⟨a1, c1, H10, ap1, V1, L1, K1, N1⟩ := app5 (x := ans) hv (by omega)
  obtain ⟨H14, hH14⟩ : ∃ X, X = H10 ++ [.cells [.int .u8 (10 : Int)] 1 true] := ⟨_, rfl⟩
  have c14 : Ch (fun _ => False) H10 H14 := by rw [hH14]; exact Ch.push _ _ _
  have b14 : H14[H10.length]? = some (.cells [.int .u8 (10 : Int)] 1 true) := by rw [hH14]; simp
  have l14 : H14.length = H10.length + 1 := by rw [hH14]; simp
  have f2 : ∀ K : Nat → List Value → R, firstC H14 1 (.slice (some ⟨H10.length, 0, none⟩) 1 1) K = K 1 (bc [10]) := fun K => firstC_at b14 (by simp) K
  have V1' : Vec 1 ZT H14 a1 (out ++ ans).length c1 (bc (out ++ ans)) := V1.keep fun j hj => c14.kept j (V1.lt hj) id
  obtain ⟨a2, c2, H18, ap2, V2, L2, K2, N2⟩ := app5 (x := [10]) V1' (by simp only [List.length_append, List.length_cons, List.length_nil]; omega)
  have hsl := h.lt s h.own
  have k18 : ∀ j, j < H.length → ab a ≠ some j → H18[j]? = H[j]? := fun j hj hn => by
    rw [K2 j (by omega) fun q => by rcases N1 j q with z | z; exact hn z; omega, c14.kept j (by omega) id, K1 j hj hn]
  have h18 : Rt N s l v1 v2 v3 H18 := h.keep (by omega) fun k hk => k18 k (h.lt k hk) fun q => hd k q hk
  obtain ⟨H23, st1, h23, ch23⟩ := h18.set1 (.string (bs [])) rfl
  obtain ⟨H25, st2, h25, ch25⟩ := h23.set2 (.bool false) rfl
  have ch : Ch (· = s) H18 H25 := ch23.trans ch25
  have hN2 : ∀ j, ab a2 = some j → ab a = some j ∨ H.length ≤ j := fun j hj => by
    rcases N2 j hj with q | q
    · rcases N1 j q with z | z
      · exact .inl z
      · right; omega
    · right; omega
  have hns : ab a2 ≠ some s := fun q => by
    rcases hN2 s q with z | z
    · exact hd s z h.own
    · omega
  have el : out ++ ans ++ [10] = out ++ (ans ++ [10]) := List.append_assoc _ _ _
  rw [el] at V2 ap2
  refine ⟨a2, c2, H25, ?_, h25, V2.keep fun j hj => ch.kept j (V2.lt hj) fun q => hns (by rw [hj, q]), ⟨by have := ch.len; omega, fun k hk hn => ?_⟩, hN2⟩
  · rw [c20_16, firstC_str, ap1]
    have h1 : ([10] : Tx).length = 1 := rfl
    rw [h1] at ap2
    simp only [↓onS, ↓kInt_int, ↓kInt_u8, ↓kBool_bool, ↓kStr_str, ↓kTup_tup, ↓kPtr_ptr, ↓kSl_sl, ↓kAgg_agg, ↓kMp_mp, ← hH14, f2, ap2, Nat.zero_add]
    rw [ldNIL, st1]
    simp only [st2, c20_8, wrap_succ (show i + 1 < 9223372036854775808 by omega)]
  · rw [ch.kept k (by omega) fun q => hn (.inl q), k18 k hk fun q => hn (.inr q)]
end
section
variable {N0 : Nat → Prop} {s : Nat} {H0 : Heap}
theorem text20 {H : Heap} {a : Option Addr} {c : Nat} {out : Tx} (hv : Vec 1 ZT H a out.length c (bc out)) (m : Nat) : R20 (m + 1) td20_20 [.slice a out.length c] H = some (.tuple #[.string (bs out), .int .i64 0], H) := by
  rw [c20_20]
  rcases hv.2 with ⟨rfl, hl, _⟩ | ⟨j, cs, ez, hz, rfl, hj, ht, _⟩
  · have : out = [] := List.eq_nil_of_length_eq_zero hl
    rw [this]; rfl
  · have hle := Vec.len_le (H := H) (c := c) (j := j) hv.1 ht
    rw [Nat.mul_one] at hle ht
    simp only [↓ldc_at hj, Nat.zero_add]
    rw [if_pos hle]
    have hr : range cs 0 out.length = bc out := by unfold range; rw [List.drop_zero, ht]
    simp only [hr, bytesOf_bc, ↓onS, lit_bs]
theorem loop20 (data : Tx) (hd64 : data.length ≤ 65536) : ∀ (rest : Tx) (i m : Nat) (N : Nat → Prop) (S : Ss) (out : Tx) (a : Option Addr) (c : Nat) (H : Heap),
    i + rest.length = data.length → rest = data.drop i → Rn N s S H → Vec 1 ZT H a out.length c (bc out) → (∀ j, ab a = some j → ¬ N j ∧ H0.length ≤ j) → Go' N0 H0 N H → out.length ≤ 2201 * i →
    ∃ N' H', R20 (m + 3 * rest.length + 2) td20_100007 [.pointer (some ⟨s, 0, none⟩), .string (bs data), .slice a out.length c, .int .i64 ((i : Nat) : Int)] H = some (.tuple #[.string (bs (out ++ (feed S rest).2)), .int .i64 0], H') ∧ Rn N' s (feed S rest).1 H' ∧ Go' N0 H0 N' H' := by
  intro rest
  induction rest with
  | nil =>
    intro i m N S out a c H hi hr hS hV hd hG hol
    rw [show m + 3 * ([] : Tx).length + 2 = (m + 1) + 1 by simp, c20_100007, bs_size, decide_eq_false (show ¬ ((i : Nat) : Int) < ((data.length : Nat) : Int) by simp at hi; omega)]
    simp only [feed, List.append_nil]
    exact ⟨N, H, text20 hV m, hS, hG⟩
  | cons ch rest ih =>
    intro i m N S out a c H hi hr hS hV hd hG hol
    simp only [List.length_cons] at hi
    have hlt : i < data.length := by omega
    have hdr := List.drop_eq_getElem_cons hlt
    rw [← hr] at hdr
    obtain ⟨hc, hr'⟩ := List.cons.inj hdr
    have hx : data[i]? = some ch := by rw [hc]; simp [hlt]
    obtain ⟨b, cp, cs, hv, h1, h2, h3⟩ := hS.st.body
    have e0 := c20_100007 (m + 3 * rest.length + 4) (some ⟨s, 0, none⟩) (bs data) a out.length c ((i : Nat) : Int) H
    rw [bs_size, decide_eq_true (show ((i : Nat) : Int) < ((data.length : Nat) : Int) by omega)] at e0
    simp only [↓onS, ↓kInt_int, ↓kInt_u8, ↓kBool_bool, ↓kStr_str, ↓kTup_tup, ↓kPtr_ptr, ↓kSl_sl, ↓kAgg_agg, ↓kMp_mp, ↓ldc_at cs, Nat.zero_add, List.getElem?_toArray, List.getElem?_cons_zero, List.getElem?_cons_succ] at e0
    have hrd : m + 3 * (ch :: rest).length + 2 = m + 3 * rest.length + 4 + 1 := by simp; omega
    rw [hrd, e0]
    have ew : IntKind.i64.wrap (((i : Nat) : Int) + 1) = ((i + 1 : Nat) : Int) := wrap_succ (by omega)
    cases hov : S.over with
    | true =>
      rw [feed_over hov]
      simp only [Bool.not_true, List.append_nil]
      exact ⟨N, H, text20 hV (m + 3 * rest.length + 3), hS, hG⟩
    | false =>
      simp only [Bool.not_false]
      have hfd : feed S (ch :: rest) = ((feed (stepC S ch).1 rest).1, (stepC S ch).2 ++ (feed (stepC S ch).1 rest).2) := rfl
      rw [hfd, if_pos ⟨by omega, by omega⟩, Int.toNat_natCast, byteAt_bs hx]
      by_cases h10 : ch = 10
      · have hb10 : (((ch.toNat : Nat) : Int) != 10) = false := by rw [h10]; rfl
        have hstep : stepC S ch = endL S := by unfold stepC; rw [hov]; simp [h10]
        rw [hb10, hstep]
        simp only []
        have hlen := endL_len hS.st.ok hS.line
        -- the answer, then what is written
        have fin : ∀ {N1 : Nat → Prop} {H1 : Heap} {ans : Tx} {vals : Vs} {o : Bool}, Rt N1 s vals (.string (bs S.line)) (.bool S.long) (.bool o) H1 → Go' N H N1 H1 → endL S = (⟨vals, [], false, o⟩, ans ++ [10]) →
            ∃ N' H', R20 (m + 3 * rest.length + 2 + 1 + 1) td20_16 [.pointer (some ⟨s, 0, none⟩), .string (bs data), .slice a out.length c, .int .i64 ((i : Nat) : Int), .string (bs ans)] H1 = some (.tuple #[.string (bs (out ++ ((endL S).2 ++ (feed (endL S).1 rest).2))), .int .i64 0], H') ∧ Rn N' s (feed (endL S).1 rest).1 H' ∧ Go' N0 H0 N' H' := fun {N1 H1 ans vals o} hs g he => by
          rw [he] at hlen
          have hal : ans.length ≤ 2200 := by have := hlen.1; simp only [List.length_append, List.length_cons, List.length_nil] at this; omega
          have hV1 : Vec 1 ZT H1 a out.length c (bc out) := hV.keep fun j hj => g.ch.kept j (hV.lt hj) (hd j hj).1
          have hd1 : ∀ j, ab a = some j → ¬ N1 j := fun j hj q => by
            rcases g.own j q with z | z
            · exact (hd j hj).1 z
            · have := hV.lt hj; omega
          obtain ⟨a', c', H2, r, s2, V2, ch2, n2⟩ := put16 hs hV1 hd1 (bs data) (i := i) (ans := ans) (by omega) (by omega) (m + 3 * rest.length + 2)
          have g1 : Go' N0 H0 N1 H1 := hG.trans g
          have g2 : Go' N0 H0 N1 H2 := g1.new ch2 fun k q => by
            rcases q with q | q
            · rw [q]; exact .inl hs.own
            · exact .inr (hd k q).2
          have hRn : Rn N1 s ⟨vals, [], false, o⟩ H2 := ⟨s2, by simp⟩
          obtain ⟨N', H', q1, q2, q3⟩ := ih (i + 1) m N1 _ (out ++ (ans ++ [10])) a' c' H2 (by omega) hr' hRn V2 (fun j hj => by
            rcases n2 j hj with z | z
            · exact ⟨hd1 j z, (hd j z).2⟩
            · exact ⟨fun q => by have := hs.lt j q; omega, by have := g1.ch.len; omega⟩) g2 (by simp only [List.length_append, List.length_cons, List.length_nil]; omega)
          rw [he]
          rw [r]
          exact ⟨N', H', by rw [q1, List.append_assoc], q2, q3⟩
        cases hlong : S.long with
        | true =>
          simp only [Bool.not_true]
          have he : endL S = (⟨S.vals, [], false, S.over⟩, tBAD ++ [10]) := by unfold endL; rw [hlong]
          exact fin hS.st (Go'.refl _ _) he
        | false =>
          simp only [Bool.not_false]
          obtain ⟨N1, H1, c35, s35, g35⟩ := line35 hS.st S.line hS.line
          have he : endL S = (⟨(aLine S.line S.vals).2.1, [], false, S.over || (aLine S.line S.vals).2.2⟩, (aLine S.line S.vals).1 ++ [10]) := by unfold endL; rw [hlong]
          simp only [↓on_of c35, ↓onS, ↓kInt_int, ↓kInt_u8, ↓kBool_bool, ↓kStr_str, ↓kTup_tup, ↓kPtr_ptr, ↓kSl_sl, ↓kAgg_agg, ↓kMp_mp]
          refine fin (N1 := N1) (H1 := H1) ?_ g35 he
          cases hq : (aLine S.line S.vals).2.2 with
          | true => rw [hq] at s35; rw [Bool.or_true]; exact s35
          | false => rw [hq] at s35; rw [Bool.or_false]; exact s35
      · have hb10 : (((ch.toNat : Nat) : Int) != 10) = true := by
          have : ch.toNat ≠ 10 := fun q => h10 (UInt8.toNat_inj.1 (by rw [q]; rfl))
          simp; omega
        rw [hb10]
        simp only [↓onS, ↓kInt_int, ↓kInt_u8, ↓kBool_bool, ↓kStr_str, ↓kTup_tup, ↓kPtr_ptr, ↓kSl_sl, ↓kAgg_agg, ↓kMp_mp, ↓ldc_at cs, Nat.zero_add, List.getElem?_toArray, List.getElem?_cons_zero, List.getElem?_cons_succ, bs_size]
        by_cases h256 : S.line.length < 256
        · have hstep : stepC S ch = (⟨S.vals, S.line ++ [ch], S.long, S.over⟩, []) := by
            unfold stepC
            rw [hov]
            simp only [h10, if_false]
            rw [if_pos (show Nat.blt S.line.length 256 = true from Nat.ble_eq_true_of_le h256)]
          rw [decide_eq_false (show ¬ (256 : Int) ≤ ((S.line.length : Nat) : Int) by omega), hstep]
          simp only []
          obtain ⟨H20, hH20⟩ : ∃ X, X = H ++ [.cells [.int .u8 ((ch.toNat : Nat) : Int)] 1 true] := ⟨_, rfl⟩
          have c20 : Ch (fun _ => False) H H20 := by rw [hH20]; exact Ch.push _ _ _
          have b20 : H20[H.length]? = some (.cells [.int .u8 ((ch.toNat : Nat) : Int)] 1 true) := by rw [hH20]; simp
          obtain ⟨H24, st1, h24, ch24⟩ := (hS.st.nil c20).set1 (.string (bs (S.line ++ [ch]))) rfl
          have cc : Ch (· = s) H H24 := (c20.mono fun _ q => q.elim).trans ch24
          rw [if_pos ⟨by omega, by omega⟩]
          simp only [← hH20, ↓ldc_at b20]
          rw [if_pos (by simp)]
          simp only [one_byte, ↓onS, lit_bs, bs_size]
          rw [if_pos (by simp only [List.length_cons, List.length_nil]; omega), bs_app, st1]
          have hNs := hS.st.own
          obtain ⟨N', H', q1, q2, q3⟩ := ih (i + 1) (m + 1) N ⟨S.vals, S.line ++ [ch], S.long, S.over⟩ out a c H24 (by omega) hr' ⟨h24, by simp; omega⟩ (hV.keep fun j hj => cc.kept j (hV.lt hj) fun q => (hd j hj).1 (by rw [q]; exact hNs)) hd (hG.new cc fun k q => by rw [q]; exact .inl hNs) (by omega)
          rw [show m + 3 * rest.length + 4 = (m + 1 + 3 * rest.length + 2) + 1 by omega, c20_8, ew, q1]
          exact ⟨N', H', by rw [List.nil_append], q2, q3⟩
        · have hstep : stepC S ch = (⟨S.vals, S.line, true, S.over⟩, []) := by
            unfold stepC
            rw [hov]
            simp only [h10, if_false]
            rw [if_neg (show ¬ Nat.blt S.line.length 256 = true from fun q => h256 (Nat.le_of_ble_eq_true q))]
          rw [decide_eq_true (show (256 : Int) ≤ ((S.line.length : Nat) : Int) by omega), hstep]
          simp only []
          obtain ⟨H24, st1, h24, cc⟩ := hS.st.set2 (.bool true) rfl
          rw [st1]
          have hNs := hS.st.own
          obtain ⟨N', H', q1, q2, q3⟩ := ih (i + 1) (m + 1) N ⟨S.vals, S.line, true, S.over⟩ out a c H24 (by omega) hr' ⟨h24, hS.line⟩ (hV.keep fun j hj => cc.kept j (hV.lt hj) fun q => (hd j hj).1 (by rw [q]; exact hNs)) hd (hG.new cc fun k q => by rw [q]; exact .inl hNs) (by omega)
          rw [show m + 3 * rest.length + 4 = (m + 1 + 3 * rest.length + 2) + 1 by omega, c20_8, ew, q1]
          exact ⟨N', H', by rw [List.nil_append], q2, q3⟩
/-- Take. -/
theorem take20 {S : Ss} {t : Tx} (hS : Rn N0 s S H0) :
    ∃ N' H', F20 [.pointer (some ⟨s, 0, none⟩), .string (bs t)] H0 = some (.tuple #[.string (bs (takeM S t).2.1), .int .i64 (takeM S t).2.2], H') ∧ Rn N' s (takeM S t).1 H' ∧ Go' N0 H0 N' H' := by
  have f : ∀ k r, fnE Tryz.prog G20 Tryz.f20 cuts20 k [.pointer (some ⟨s, 0, none⟩), .string (bs t)] H0 = some r → F20 [.pointer (some ⟨s, 0, none⟩), .string (bs t)] H0 = some r := fun m r h => FN_of m h (Nat.le_of_ble_eq_true (by kernel_rfl))
  obtain ⟨k, hk⟩ : ∃ k : Nat, k = 0 := ⟨0, rfl⟩
  have e := t20 (k + 3 * t.length + 2) (some ⟨s, 0, none⟩) (bs t) H0
  unfold takeM
  simp only [bs_size] at e
  by_cases h1 : 65536 < t.length
  · rw [decide_eq_true (show (65536 : Int) < ((t.length : Nat) : Int) by omega)] at e
    rw [if_pos h1]
    exact ⟨N0, H0, f _ _ e, hS, Go'.refl _ _⟩
  rw [decide_eq_false (show ¬ (65536 : Int) < ((t.length : Nat) : Int) by omega)] at e
  rw [if_neg h1]
  obtain ⟨b, cp, cs, hv, q1, q2, q3⟩ := hS.st.body
  simp only [↓onS, ↓kInt_int, ↓kInt_u8, ↓kBool_bool, ↓kStr_str, ↓kTup_tup, ↓kPtr_ptr, ↓kSl_sl, ↓kAgg_agg, ↓kMp_mp, ↓ldc_at cs, Nat.zero_add, List.getElem?_toArray, List.getElem?_cons_zero, List.getElem?_cons_succ] at e
  cases hov : S.over with
  | true =>
    rw [hov] at e
    exact ⟨N0, H0, f _ _ e, hS, Go'.refl _ _⟩
  | false =>
    rw [hov] at e
    obtain ⟨N', H', r1, r2, r3⟩ := loop20 (N0 := N0) (s := s) (H0 := H0) t (by omega) t 0 k N0 S [] none 0 H0 (by omega) rfl hS (Vec.none 1 _) (fun j hj => by cases hj) (Go'.refl _ _) (by simp)
    exact ⟨N', H', f _ _ (e.trans r1), r2, r3⟩
/-- Answer. -/
theorem answer12 (H : Heap) (t : Tx) :
    ∃ H', F12 [.string (bs t)] H = some (.tuple #[.string (bs (takeM Ss.new t).2.1), .bool (takeM Ss.new t).1.over], H') ∧ Ch (fun _ => False) H H' := by
  obtain ⟨H1, hH1⟩ : ∃ X, X = H ++ [.cells [.slice none 0 0, .string (bs []), .bool false, .bool false] 0 true] := ⟨_, rfl⟩
  have c1 : Ch (fun _ => False) H H1 := by rw [hH1]; exact Ch.push _ _ _
  have l1 : H1.length = H.length + 1 := by rw [hH1]; simp
  have hS : Rn (· = H.length) H.length Ss.new H1 := ⟨⟨fun k q => by omega, OkV.nil, none, 0, by rw [hH1]; simp [Ss.new], Vec.none 2 _, by simp [ab], rfl, fun j hj => by cases hj⟩, by decide⟩
  obtain ⟨N', H', c20, s20, g⟩ := take20 (t := t) hS
  obtain ⟨b, cp, cs, hv, q1, q2, q3⟩ := s20.st.body
  refine ⟨H', FN_of 1 ((t12 1 (bs t) H).trans ?_) (Nat.le_of_ble_eq_true (by kernel_rfl)), ((go_nil c1 fun k (q : k = H.length) => by omega).trans g).ch⟩
  rw [ldNIL]
  simp only [← hH1, ↓on_of c20, ↓onS, ↓kInt_int, ↓kInt_u8, ↓kBool_bool, ↓kStr_str, ↓kTup_tup, ↓kPtr_ptr, ↓kSl_sl, ↓kAgg_agg, ↓kMp_mp, List.getElem?_toArray, List.getElem?_cons_zero, List.getElem?_cons_succ, ↓ldc_at cs, Nat.zero_add]
theorem main3 (hp : Pow H0) (s : ByteArray) (hs : s.size ≤ 140737488351232) : ∃ H', F3 [.string s] H0 = some (.bool true, H') := by
  obtain ⟨t, rfl⟩ := bs_of s
  have f : ∀ k r, fnE Tryz.prog G3 Tryz.f3 cuts3 k [.string (bs t)] H0 = some r → F3 [.string (bs t)] H0 = some r := fun m r h => FN_of m h (Nat.le_of_ble_eq_true (by kernel_rfl))
  have e := t3 (0 + 1) (bs t) H0
  rw [c3_3] at e
  simp only [bs_size] at e
  by_cases h3 : 5000 < t.length ∧ t.length ≤ 65536
  · obtain ⟨H1, e10, c10⟩ := works10 hp
    rw [decide_eq_true (show (5000 : Int) < ((t.length : Nat) : Int) by omega), decide_eq_true (show ((t.length : Nat) : Int) ≤ 65536 by omega)] at e
    simp only [↓on_of e10, ↓onS, ↓kInt_int, ↓kInt_u8, ↓kBool_bool, ↓kStr_str, ↓kTup_tup, ↓kPtr_ptr, ↓kSl_sl, ↓kAgg_agg, ↓kMp_mp] at e
    exact ⟨H1, f _ _ e⟩
  obtain ⟨H2, e11, c11⟩ := answer11 hp t
  obtain ⟨H3, e12, c12⟩ := answer12 H2 t
  obtain ⟨H4, e10, c10⟩ := works10 ((hp.ch c11 id).ch c12 id)
  simp only [↓on_of e11, ↓onS, ↓kInt_int, ↓kInt_u8, ↓kBool_bool, ↓kStr_str, ↓kTup_tup, ↓kPtr_ptr, ↓kSl_sl, ↓kAgg_agg, ↓kMp_mp, List.getElem?_toArray, List.getElem?_cons_zero, List.getElem?_cons_succ, ↓on_of e12, ↓on_of e10, beq_self_eq_true] at e
  refine ⟨H4, f _ _ (e.trans ?_)⟩
  by_cases h5 : 5000 < t.length
  · rw [decide_eq_true (show (5000 : Int) < ((t.length : Nat) : Int) by omega), decide_eq_false (show ¬ ((t.length : Nat) : Int) ≤ 65536 by omega)]
  · rw [decide_eq_false (show ¬ (5000 : Int) < ((t.length : Nat) : Int) by omega)]
end
end Go.Proofs.YtbheppfjaeocpaaGreatDoor
