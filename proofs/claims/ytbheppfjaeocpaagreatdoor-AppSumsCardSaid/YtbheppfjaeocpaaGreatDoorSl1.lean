/- AppSums: what the law comes to. -/
import Derived.Test.YtbheppfjaeocpaaGreatDoorSl0
set_option linter.unusedVariables false
set_option linter.unusedSimpArgs false
namespace Go.Proofs.YtbheppfjaeocpaaGreatDoor
open Go Go.RowKit Go.Lib Go.Proofs.YtbheppfjaeocpaaGreatDoor.Fw
def tADDa : Tx := [65, 68, 68, 32, 97, 32]
def valsS (i : Nat) (sum : Int) : Vs := match i with | 0 => [] | _ + 1 => [([97], Lib.itoa sum)]
theorem old_valsS {i : Nat} {sum : Int} (h0 : -1000000000 < sum) (h1 : sum < 1000000000) (hz : i = 0 → sum = 0) : old [97] (valsS i sum) = sum := by
  cases i with
  | zero => rw [hz rfl]; rfl
  | succ i =>
    show ((some (Lib.itoa sum)).bind num).getD 0 = sum
    rw [Option.bind_some, num_itoa h0 h1]; rfl
theorem set_valsS (i : Nat) (sum : Int) (v : Tx) : vset [97] v (valsS i sum) = some [([97], v)] := by
  cases i <;> rfl
theorem aLine_add {i : Nat} {sum n : Int} (h0 : -1000000000 < sum) (h1 : sum < 1000000000) (hz : i = 0 → sum = 0) (g0 : -1000000000 < n) (g1 : n < 1000000000) :
    aLine (tADDa ++ Lib.itoa n) (valsS i sum) = if big (sum + n) then (tBAD, valsS i sum, false) else (tVALUE ++ Lib.itoa (sum + n), [([97], Lib.itoa (sum + n))], false) := by
  have e : tADDa ++ Lib.itoa n = tADD ++ 32 :: ([97] ++ 32 :: Lib.itoa n) := rfl
  rw [e, aLine_cmd (by decide) (by decide)]
  have hc : aCmd tADD [97] (Lib.itoa n) true (valsS i sum) = aAdd [97] (Lib.itoa n) (valsS i sum) := by
    unfold aCmd
    rw [if_neg (by decide), if_neg (by decide), if_pos rfl]; rfl
  rw [hc]
  unfold aAdd
  rw [num_itoa g0 g1, old_valsS h0 h1 hz]
  simp only []
  cases big (sum + n) with
  | true => rfl
  | false => simp only [Bool.false_eq_true, if_false, set_valsS]
theorem lnA_no (n : Int) : ∀ x ∈ tADDa ++ Lib.itoa n, x ≠ 10 := fun x hx => by
  rcases List.mem_append.1 hx with hx | hx
  · have key : ∀ x ∈ tADDa, x ≠ 10 := by decide
    exact key x hx
  · exact (itoa_no x hx).1
theorem sz6 : (⟨#[65, 68, 68, 32, 97, 32]⟩ : ByteArray).size = 6 := rfl
theorem sz6v : (⟨#[86, 65, 76, 85, 69, 32]⟩ : ByteArray).size = 6 := rfl
theorem sz1n : (⟨#[10]⟩ : ByteArray).size = 1 := rfl
theorem ld6 : (⟨#[65, 68, 68, 32, 97, 32]⟩ : ByteArray) = bs tADDa := rfl
theorem ld6v : (⟨#[86, 65, 76, 85, 69, 32]⟩ : ByteArray) = bs tVALUE := rfl
theorem ld1n : (⟨#[10]⟩ : ByteArray) = bs [10] := rfl
section
variable {H0 : Heap} {a : Option Addr} {l c : Nat} {xs : List Int}
theorem fin5 (hp : Pow H0) {N : Nat → Prop} {s : Nat} {H : Heap} {i : Nat} {sum : Int} (hS : Sn N s ⟨valsS i sum, [], false, false⟩ H) (hG : Go' (fun _ => False) H0 N H) (h0 : -1000000000 < sum) (h1 : sum < 1000000000) (hi : i = 0 ↔ l = 0) (m : Nat) :
    ∃ H', R5 (m + 1) td5_18 [.slice a l c, .pointer (some ⟨s, 0, none⟩), .int .i64 sum] H = some (.bool true, H') := by
  have hpH : Pow H := hp.ch hG.ch id
  have h0N : ¬ N 0 := fun q => by
    rcases hG.own 0 q with q | q
    · exact q
    · have := hp.pos; omega
  obtain ⟨N', H1, e16, s16, g16⟩ := take16 (t := [71, 69, 84, 32, 97] ++ [10]) hS hpH h0N
  have hpH1 : Pow H1 := hpH.ch g16.ch h0N
  rw [takeM_ln (by decide) (by decide)] at e16 s16
  have e16' : F16 [.pointer (some ⟨s, 0, none⟩), .string (⟨#[71, 69, 84, 32, 97, 10]⟩ : ByteArray)] H = some (.tuple #[.string (bs ((aLine [71, 69, 84, 32, 97] (valsS i sum)).1 ++ [10])), .int .i64 0], H1) := e16
  have f14 := F14_eq hpH1 (n := sum) (by omega) (by omega)
  have hil := itoa_len (n := sum) (by omega) (by omega)
  have e := c5_18 m a l c (some ⟨s, 0, none⟩) sum H
  simp only [↓on_of e16', ↓onS, ↓kInt_int, ↓kInt_u8, ↓kBool_bool, ↓kStr_str, ↓kTup_tup, ↓kPtr_ptr, ↓kSl_sl, ↓kAgg_agg, ↓kMp_mp, List.getElem?_toArray, List.getElem?_cons_zero, List.getElem?_cons_succ, eq_lit, show ((0 : Int) == 0) = true from rfl, ↓on_of f14, ld6v, ld1n, bs_app, bs_size, bs_list] at e
  rw [if_pos (by rw [show tVALUE.length = 6 from rfl]; omega), if_pos (by rw [List.length_append, show tVALUE.length = 6 from rfl]; simp; omega)] at e
  cases i with
  | zero =>
    have hl : l = 0 := hi.1 rfl
    subst hl
    have hA : (aLine [71, 69, 84, 32, 97] (valsS 0 sum)).1 = [78, 79, 78, 69] := by
      show (aLine [71, 69, 84, 32, 97] []).1 = _
      decide
    rw [hA] at e
    simp only [ba_list] at e
    exact ⟨H1, e⟩
  | succ i =>
    have hl : l ≠ 0 := fun q => by have := hi.2 q; cases this
    have hA : (aLine [71, 69, 84, 32, 97] (valsS (i + 1) sum)).1 = tVALUE ++ Lib.itoa sum := by
      show (aLine (tGET ++ 32 :: [97]) [([97], Lib.itoa sum)]).1 = _
      rw [aLine_cmd0 (by decide) (by decide)]
      rfl
    have hb : (((l : Nat) : Int) == 0) = false := by simp; omega
    rw [hA, hb] at e
    refine ⟨H1, e.trans ?_⟩
    simp only [List.append_assoc, beq_self_eq_true]
theorem loop5 (hp : Pow H0) (h : Recs (fun x : Int => [.int .i64 x]) 1 H0 a l xs) (hA : ∀ x, a = some x → x.block < H0.length) (hl : l ≤ 9223372036854775807) : ∀ (r i m : Nat) (sum : Int) (N : Nat → Prop) (s : Nat) (H : Heap), min l 40 = i + r → Sn N s ⟨valsS i sum, [], false, false⟩ H → Go' (fun _ => False) H0 N H → -1000000000 < sum → sum < 1000000000 → (i = 0 → sum = 0) →
    ∃ H', R5 (m + 4 * r + 2) td5_100006 [.slice a l c, .pointer (some ⟨s, 0, none⟩), .int .i64 sum, .int .i64 ((i : Nat) : Int)] H = some (.bool true, H')
  | 0, i, m, sum, N, s, H, hr, hS, hG, h0, h1, hz => by
    have e := c5_100006 (m + 4 * 0 + 1) a l c (some ⟨s, 0, none⟩) sum ((i : Nat) : Int) H
    obtain ⟨H', e18⟩ := fin5 (a := a) (c := c) (l := l) hp hS hG h0 h1 (by omega) m
    refine ⟨H', e.trans ?_⟩
    by_cases hil : i < l
    · rw [decide_eq_true (show ((i : Nat) : Int) < ((l : Nat) : Int) by omega), decide_eq_false (show ¬ ((i : Nat) : Int) < 40 by omega)]
      exact e18
    · rw [decide_eq_false (show ¬ ((i : Nat) : Int) < ((l : Nat) : Int) by omega)]
      exact e18
  | r + 1, i, m, sum, N, s, H, hr, hS, hG, h0, h1, hz => by
    have hil : i < l := by omega
    have hlen := h.len
    have hH := h.ch hG.ch (fun _ _ => id)
    obtain ⟨x, hx⟩ : ∃ x, xs[i]? = some x := ⟨xs[i]'(by omega), by simp⟩
    obtain ⟨ad, cs, own, ha, hat, hget⟩ := hH.one hx
    have hpH : Pow H := hp.ch hG.ch id
    have h0N : ¬ N 0 := fun q => by
      rcases hG.own 0 q with q | q
      · exact q
      · have := hp.pos; omega
    obtain ⟨n, hn⟩ : ∃ n, n = x.tmod 1000000000 := ⟨_, rfl⟩
    have g1 : n < 1000000000 := by rw [hn]; exact Int.tmod_lt_of_pos x (by decide)
    have g0 : -1000000000 < n := by rw [hn]; exact Int.lt_tmod_of_pos x (by decide)
    have hil2 := itoa_len (n := n) (by omega) (by omega)
    obtain ⟨N', H1, e16, s16, g16⟩ := take16 (t := (tADDa ++ Lib.itoa n) ++ [10]) hS hpH h0N
    have hpH1 : Pow H1 := hpH.ch g16.ch h0N
    have hG1 := hG.trans g16
    rw [takeM_ln (lnA_no n) (by rw [List.length_append, show tADDa.length = 6 from rfl]; omega)] at e16 s16
    rw [aLine_add h0 h1 hz g0 g1] at e16 s16
    have e := c5_100006 (m + 4 * (r + 1) + 1) a l c (some ⟨s, 0, none⟩) sum ((i : Nat) : Int) H
    rw [decide_eq_true (show ((i : Nat) : Int) < ((l : Nat) : Int) by omega), decide_eq_true (show ((i : Nat) : Int) < 40 by omega)] at e
    simp only [↓on_of ha] at e
    rw [if_pos ⟨by omega, by omega⟩] at e
    simp only [Int.toNat_natCast, add_block, add_off, ↓ldc_at hat, hget, ↓onS, ↓kInt_int, ↓kInt_u8, ↓kBool_bool, ↓kStr_str, ↓kTup_tup, ↓kPtr_ptr, ↓kSl_sl, ↓kAgg_agg, ↓kMp_mp, ← hn] at e
    rw [if_neg (by decide)] at e
    simp only [↓on_of (F14_eq hpH (n := n) (by omega) (by omega)), ↓onS, ↓kInt_int, ↓kInt_u8, ↓kBool_bool, ↓kStr_str, ↓kTup_tup, ↓kPtr_ptr, ↓kSl_sl, ↓kAgg_agg, ↓kMp_mp, ld6, ld1n, bs_app, bs_size] at e
    rw [if_pos (by rw [show tADDa.length = 6 from rfl]; omega), if_pos (by rw [List.length_append, show tADDa.length = 6 from rfl]; simp; omega)] at e
    simp only [↓on_of e16, ↓onS, ↓kInt_int, ↓kInt_u8, ↓kBool_bool, ↓kStr_str, ↓kTup_tup, ↓kPtr_ptr, ↓kSl_sl, ↓kAgg_agg, ↓kMp_mp, List.getElem?_toArray, List.getElem?_cons_zero, List.getElem?_cons_succ] at e
    have ew : IntKind.i64.wrap (((i : Nat) : Int) + 1) = ((i + 1 : Nat) : Int) := wrap_succ (by omega)
    have esum : IntKind.i64.wrap (sum + n) = sum + n := wrap_in ⟨by omega, by omega⟩
    rw [esum] at e
    have nx : ∀ (k : Nat) (sum' : Int), Sn N' s ⟨valsS (i + 1) sum', [], false, false⟩ H1 → -1000000000 < sum' → sum' < 1000000000 →
        ∃ H', R5 ((m + k) + 4 * r + 2 + 1) td5_16 [.slice a l c, .pointer (some ⟨s, 0, none⟩), .int .i64 sum', .int .i64 ((i : Nat) : Int), .int .i64 0] H1 = some (.bool true, H') := fun k sum' q q0 q1 => by
      obtain ⟨H', hh⟩ := loop5 hp h hA hl r (i + 1) (m + k) sum' N' s H1 (by omega) q hG1 q0 q1 (fun q => by cases q)
      refine ⟨H', (c5_16 ((m + k) + 4 * r + 2) a l c (some ⟨s, 0, none⟩) sum' ((i : Nat) : Int) 0 H1).trans ?_⟩
      rw [ew]
      exact hh
    cases hb : big (sum + n) with
    | true =>
      rw [hb] at e16 s16
      simp only [hb, if_true] at e s16
      have hbig : 1000000000 ≤ sum + n ∨ sum + n ≤ -1000000000 := by simpa [big] using hb
      have hi0 : i ≠ 0 := fun q => by have := hz q; omega
      obtain ⟨j, rfl⟩ : ∃ j, i = j + 1 := ⟨i - 1, by omega⟩
      obtain ⟨H', e16'⟩ := nx 1 sum s16 h0 h1
      have e14 : R5 (m + 4 * (r + 1) + 1) td5_14 [.slice a l c, .pointer (some ⟨s, 0, none⟩), .int .i64 sum, .int .i64 ((j + 1 : Nat) : Int), .string (bs (tBAD ++ [10])), .int .i64 0] H1 = some (.bool true, H') := by
        refine (c5_14 (m + 4 * (r + 1)) a l c (some ⟨s, 0, none⟩) sum ((j + 1 : Nat) : Int) (bs (tBAD ++ [10])) 0 H1).trans ?_
        simp only [eq_lit]
        rw [decide_eq_true (show tBAD ++ [10] = [66, 65, 68, 10] from rfl)]
        rw [show m + 4 * (r + 1) = (m + 1) + 4 * r + 2 + 1 by omega]
        exact e16'
      refine ⟨H', e.trans ?_⟩
      rcases hbig with q | q
      · rw [decide_eq_true (show (-1000000000 : Int) < sum + n by omega), decide_eq_false (show ¬ sum + n < 1000000000 by omega)]
        exact e14
      · rw [decide_eq_false (show ¬ (-1000000000 : Int) < sum + n by omega)]
        exact e14
    | false =>
      rw [hb] at e16 s16
      simp only [hb, Bool.false_eq_true, if_false] at e s16
      have hbig : ¬ (1000000000 ≤ sum + n) ∧ ¬ (sum + n ≤ -1000000000) := by simpa [big] using hb
      obtain ⟨H', e16'⟩ := nx 2 (sum + n) s16 (by omega) (by omega)
      have hil3 := itoa_len (n := sum + n) (by omega) (by omega)
      rw [decide_eq_true (show (-1000000000 : Int) < sum + n by omega), decide_eq_true (show sum + n < 1000000000 by omega)] at e
      simp only [↓on_of (F14_eq hpH1 (n := sum + n) (by omega) (by omega)), ↓onS, ↓kInt_int, ↓kInt_u8, ↓kBool_bool, ↓kStr_str, ↓kTup_tup, ↓kPtr_ptr, ↓kSl_sl, ↓kAgg_agg, ↓kMp_mp, ld6v, ld1n, bs_app, bs_size, bs_list, List.append_assoc, beq_self_eq_true, Bool.not_true] at e
      rw [if_pos (by rw [show tVALUE.length = 6 from rfl]; omega), if_pos (by rw [List.length_append, show tVALUE.length = 6 from rfl]; simp; omega)] at e
      rw [← show m + 4 * (r + 1) + 1 = (m + 2) + 4 * r + 2 + 1 by omega] at e16'
      exact ⟨H', e.trans e16'⟩
theorem main5 (hp : Pow H0) (h : Recs (fun x : Int => [.int .i64 x]) 1 H0 a l xs) (hl : l * 8 ≤ 140737488351232) (hA : ∀ x, a = some x → x.block < H0.length) : ∃ H', F5 [.slice a l c] H0 = some (.bool true, H') := by
  obtain ⟨N, s, H1, c13, hS, hN, hch, hsl⟩ := new13 H0
  have hp1 : Pow H1 := hp.ch hch id
  obtain ⟨H2, e10, c10⟩ := works10 hp1
  have hS2 : Sn N s Ss.new H2 := hS.ch c10 fun _ _ => id
  have hG : Go' (fun _ => False) H0 N H2 := (go_nil hch hN).new c10 fun _ q => q.elim
  obtain ⟨H', e6⟩ := loop5 (c := c) hp h hA (by omega) (min l 40) 0 0 0 N s H2 (by omega) hS2 hG (by decide) (by decide) (fun _ => rfl)
  refine ⟨H', FN_of (0 + 4 * min l 40 + 2) ((t5 (0 + 4 * min l 40 + 2) a l c H0).trans ?_) (Nat.le_of_ble_eq_true (by kernel_rfl))⟩
  simp only [↓on_of c13, ↓onS, ↓kInt_int, ↓kInt_u8, ↓kBool_bool, ↓kStr_str, ↓kTup_tup, ↓kPtr_ptr, ↓kSl_sl, ↓kAgg_agg, ↓kMp_mp, Option.isNone_some, ↓on_of e10, Bool.not_true]
  exact e6
end
end Go.Proofs.YtbheppfjaeocpaaGreatDoor
