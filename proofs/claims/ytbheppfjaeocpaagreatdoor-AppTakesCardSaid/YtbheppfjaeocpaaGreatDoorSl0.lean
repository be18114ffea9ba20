/- r2: lines of a session; numerals; the chapter's example; small things for the laws. -/
import Derived.Test.YtbheppfjaeocpaaGreatDoorSe6
import Derived.Test.YtbheppfjaeocpaaGreatDoorTB
import Derived.Test.YtbheppfjaeocpaaGreatDoorFwQ
import Derived.Lib.ItoaMem
set_option linter.unusedVariables false
set_option linter.unusedSimpArgs false
namespace Go.Proofs.YtbheppfjaeocpaaGreatDoor
open Go Go.RowKit Go.Lib Go.Proofs.YtbheppfjaeocpaaGreatDoor.Fw
theorem feed_plain {v : Vs} {b : Bool} : ∀ (r l : Tx), (∀ x ∈ r, x ≠ 10) → l.length + r.length ≤ 256 → feed ⟨v, l, b, false⟩ r = (⟨v, l ++ r, b, false⟩, [])
  | [], l, _, _ => by simp [feed]
  | c :: r, l, h, hl => by
    simp only [List.length_cons] at hl
    have hc := h c List.mem_cons_self
    have hs : stepC ⟨v, l, b, false⟩ c = (⟨v, l ++ [c], b, false⟩, []) := by
      unfold stepC
      simp only [hc, if_false]
      rw [if_pos (show Nat.blt l.length 256 = true from Nat.ble_eq_true_of_le (by omega))]
    unfold feed
    rw [hs, feed_plain r (l ++ [c]) (fun x hx => h x (List.mem_cons_of_mem _ hx)) (by simp; omega)]
    simp
/-- A whole line. -/
theorem feed_ln {v : Vs} {r : Tx} (h : ∀ x ∈ r, x ≠ 10) (hl : r.length ≤ 256) : feed ⟨v, [], false, false⟩ (r ++ [10]) = (⟨(aLine r v).2.1, [], false, (aLine r v).2.2⟩, (aLine r v).1 ++ [10]) := by
  rw [feed_app, feed_plain r [] h (by simpa using hl)]
  simp [feed, stepC, endL]
theorem takeM_ln {v : Vs} {r : Tx} (h : ∀ x ∈ r, x ≠ 10) (hl : r.length ≤ 256) : takeM ⟨v, [], false, false⟩ (r ++ [10]) = (⟨(aLine r v).2.1, [], false, (aLine r v).2.2⟩, (aLine r v).1 ++ [10], 0) := by
  unfold takeM
  rw [if_neg (by rw [List.length_append, List.length_singleton]; omega), feed_ln h hl]
theorem cutB_app {w : Tx} (h : ∀ x ∈ w, x ≠ 32) (r : Tx) : cutB (w ++ 32 :: r) = (w, r, true) := by
  induction w with
  | nil => simp [cutB]
  | cons b w ih =>
    rw [List.cons_append]
    unfold cutB
    rw [if_neg (h b List.mem_cons_self), ih fun x hx => h x (List.mem_cons_of_mem _ hx)]
theorem cutB_none {w : Tx} (h : ∀ x ∈ w, x ≠ 32) : cutB w = (w, [], false) := by
  induction w with
  | nil => rfl
  | cons b w ih =>
    unfold cutB
    rw [if_neg (h b List.mem_cons_self), ih fun x hx => h x (List.mem_cons_of_mem _ hx)]
/-- A line of a command, a name and a value. -/
theorem aLine_cmd {w n v : Tx} {l : Vs} (hw : ∀ x ∈ w, x ≠ 32) (hn : isNm n = true) : aLine (w ++ 32 :: (n ++ 32 :: v)) l = ((aCmd w n v true l).1, (aCmd w n v true l).2, false) := by
  have hn32 : ∀ x ∈ n, x ≠ 32 := fun x hx e => by
    unfold isNm at hn
    simp only [Bool.and_eq_true] at hn
    have := List.all_eq_true.1 hn.2 x hx
    rw [e] at this
    exact absurd this (by decide)
  have hb : ∀ t : Tx, (∀ x ∈ t, x ≠ 32) → w ++ 32 :: (n ++ 32 :: v) ≠ t := fun t ht e => by
    have : (32 : UInt8) ∈ t := by rw [← e]; simp
    exact ht 32 this rfl
  unfold aLine
  rw [if_neg (hb tLIST (by decide)), if_neg (hb tCOUNT (by decide)), if_neg (hb tQUIT (by decide)), cutB_app hw, cutB_app hn32, hn]
  rfl
theorem aLine_cmd0 {w n : Tx} {l : Vs} (hw : ∀ x ∈ w, x ≠ 32) (hn : isNm n = true) : aLine (w ++ 32 :: n) l = ((aCmd w n [] false l).1, (aCmd w n [] false l).2, false) := by
  have hn32 : ∀ x ∈ n, x ≠ 32 := fun x hx e => by
    unfold isNm at hn
    simp only [Bool.and_eq_true] at hn
    have := List.all_eq_true.1 hn.2 x hx
    rw [e] at this
    exact absurd this (by decide)
  have hb : ∀ t : Tx, (∀ x ∈ t, x ≠ 32) → w ++ 32 :: n ≠ t := fun t ht e => by
    have : (32 : UInt8) ∈ t := by rw [← e]; simp
    exact ht 32 this rfl
  unfold aLine
  rw [if_neg (hb tLIST (by decide)), if_neg (hb tCOUNT (by decide)), if_neg (hb tQUIT (by decide)), cutB_app hw, cutB_none hn32, hn]
  rfl

/-! ### Numerals -/
theorem decFrom_app : ∀ (a b : Tx) (acc : Nat), Lib.decFrom acc (a ++ b) = (Lib.decFrom acc a).bind fun n => Lib.decFrom n b
  | [], b, acc => rfl
  | c :: a, b, acc => by
    simp only [List.cons_append, Lib.decFrom]
    cases Lib.digitVal c with
    | none => rfl
    | some d => exact decFrom_app a b _
theorem digit_ofNat {d : Nat} (h : d < 10) : Lib.digitVal (UInt8.ofNat (48 + d)) = some d := by
  have key : ∀ d : Fin 10, Lib.digitVal (UInt8.ofNat (48 + d.val)) = some d.val := by decide +kernel
  exact key ⟨d, h⟩
theorem dg_ofNat {d : Nat} (h : d < 10) : isDg (UInt8.ofNat (48 + d)) = true := by
  have key : ∀ d : Fin 10, isDg (UInt8.ofNat (48 + d.val)) = true := by decide +kernel
  exact key ⟨d, h⟩
theorem decDigits_facts (u : Nat) : (Lib.decDigits u).all isDg = true ∧ Lib.decFrom 0 (Lib.decDigits u) = some u ∧ Lib.decDigits u ≠ [] ∧ (1 < (Lib.decDigits u).length → (Lib.decDigits u).head? ≠ some 48) ∧ (0 < u → (Lib.decDigits u).head? ≠ some 48) := by
  induction u using Nat.strongRecOn with
  | _ u ih =>
    by_cases h : u < 10
    · rw [Lib.decDigits, dif_pos h]
      refine ⟨by rw [List.all_cons, dg_ofNat h]; rfl, ?_, by simp, by simp, fun hu => ?_⟩
      · simp only [Lib.decFrom, digit_ofNat h]; simp
      · intro e
        have e : UInt8.ofNat (48 + u) = 48 := by simpa using e
        have := digit_ofNat h
        rw [e] at this
        have h0 : Lib.digitVal 48 = some 0 := by decide
        rw [h0] at this
        have := Option.some.inj this
        omega
    · obtain ⟨h1, h2, h3, h4, h5⟩ := ih (u / 10) (by omega)
      rw [Lib.decDigits, dif_neg h]
      refine ⟨by rw [List.all_append, h1, List.all_cons, dg_ofNat (Nat.mod_lt u (by omega : 0 < 10))]; rfl, ?_, by simp, fun _ => ?_, fun _ => ?_⟩
      · rw [decFrom_app, h2]
        simp only [Option.bind_some, Lib.decFrom, digit_ofNat (Nat.mod_lt u (by omega : 0 < 10))]
        congr 1; omega
      · obtain ⟨c, r, hc⟩ : ∃ c r, Lib.decDigits (u / 10) = c :: r := by cases hq : Lib.decDigits (u / 10) with | nil => exact absurd hq h3 | cons c r => exact ⟨c, r, rfl⟩
        have := h5 (by omega)
        rw [hc] at this ⊢
        exact this
      · obtain ⟨c, r, hc⟩ : ∃ c r, Lib.decDigits (u / 10) = c :: r := by cases hq : Lib.decDigits (u / 10) with | nil => exact absurd hq h3 | cons c r => exact ⟨c, r, rfl⟩
        have := h5 (by omega)
        rw [hc] at this ⊢
        exact this
theorem decDigits_len9 {u : Nat} (h : u < 1000000000) : (Lib.decDigits u).length ≤ 9 := by
  rw [Lib.decDigits_length]
  rcases Nat.lt_or_ge 9 (Lib.nDigits u) with q | q
  · exfalso
    have key : ∀ (u k : Nat), u < 10 ^ (k + 1) → Lib.nDigits u ≤ k + 1 := by
      intro u
      induction u using Nat.strongRecOn with
      | _ u ih =>
        intro k hk
        by_cases h : u < 10
        · rw [Lib.nDigits_small h]; omega
        · cases k with
          | zero => simp at hk; omega
          | succ k =>
            rw [Lib.nDigits_big h]
            have := ih (u / 10) (by omega) k (by rw [Nat.pow_succ] at hk; omega)
            omega
    have := key u 8 (by simpa using h)
    omega
  · exact q
theorem numU_digits {u : Nat} (h : u < 1000000000) : numU (Lib.decDigits u) = some u := by
  obtain ⟨h1, h2, h3, h4, _⟩ := decDigits_facts u
  rw [numU_of h3 (decDigits_len9 h) h1 h4, h2]
theorem digs_not45 {l : Tx} (h : l.all isDg = true) (hn : l ≠ []) : minus l = false ∧ digs l = l := by
  cases l with
  | nil => exact absurd rfl hn
  | cons b r =>
    have : b ≠ 45 := fun e => by
      subst e
      simp only [List.all_cons, Bool.and_eq_true] at h
      exact absurd h.1 (by decide)
    simp [minus, digs, this]
theorem num_itoa {n : Int} (h0 : -1000000000 < n) (h1 : n < 1000000000) : num (Lib.itoa n) = some n := by
  unfold Lib.itoa
  split
  · rename_i hn
    rw [num_eq]
    show (match numU (Lib.decDigits n.natAbs) with | some (k + 1) => some (-((k : Int) + 1)) | _ => none) = some n
    rw [numU_digits (by omega)]
    obtain ⟨k, hk⟩ : ∃ k, n.natAbs = k + 1 := ⟨n.natAbs - 1, by omega⟩
    rw [hk]
    show some (-((k : Int) + 1)) = some n
    congr 1; omega
  · rename_i hn
    obtain ⟨a1, a2, a3, _⟩ := decDigits_facts n.toNat
    obtain ⟨b1, b2⟩ := digs_not45 a1 a3
    rw [num_eq, b1, b2]
    show (numU (Lib.decDigits n.toNat)).map Int.ofNat = some n
    rw [numU_digits (by omega)]
    show some ((n.toNat : Nat) : Int) = some n
    congr 1; omega
theorem itoa_no {n : Int} : ∀ x ∈ Lib.itoa n, x ≠ 10 ∧ x ≠ 32 := fun x hx => by
  have key : ∀ b : UInt8, isDg b = true → b ≠ 10 ∧ b ≠ 32 := fun b hb => by
    constructor <;> (intro e; subst e; exact absurd hb (by decide))
  unfold Lib.itoa at hx
  split at hx
  · rcases List.mem_cons.1 hx with rfl | hx
    · decide
    · exact key x (List.all_eq_true.1 (decDigits_facts _).1 x hx)
  · exact key x (List.all_eq_true.1 (decDigits_facts _).1 x hx)

/-! ### The chapter's example -/
def exL1 : Tx := [80, 85, 84, 32, 97, 32, 49]
def exL2 : Tx := [65, 68, 68, 32, 97, 32, 50]
def exL3 : Tx := [71, 69, 84, 32, 97]
def exL4 : Tx := [81, 85, 73, 84]
theorem itoa3 : Lib.itoa 3 = [51] := by
  unfold Lib.itoa
  rw [if_neg (by decide), show (3 : Int).toNat = 3 from rfl, Lib.decDigits_one (by decide)]
  rfl
theorem ex1 : aLine exL1 [] = ([79, 75], [([97], [49])], false) := by decide
theorem ex2 : aLine exL2 [([97], [49])] = ([86, 65, 76, 85, 69, 32, 51], [([97], [51])], false) := by
  have : aLine exL2 [([97], [49])] = (tVALUE ++ Lib.itoa 3, [([97], Lib.itoa 3)], false) := by kernel_rfl
  rw [this, itoa3]; rfl
theorem ex3 : aLine exL3 [([97], [51])] = ([86, 65, 76, 85, 69, 32, 51], [([97], [51])], false) := by decide
theorem ex4 : aLine exL4 [([97], [51])] = ([66, 89, 69], [([97], [51])], true) := by decide
theorem exFeed : feed Ss.new ((exL1 ++ [10]) ++ ((exL2 ++ [10]) ++ ((exL3 ++ [10]) ++ (exL4 ++ [10])))) = (⟨[([97], [51])], [], false, true⟩, [79, 75, 10, 86, 65, 76, 85, 69, 32, 51, 10, 86, 65, 76, 85, 69, 32, 51, 10, 66, 89, 69, 10]) := by
  show feed ⟨[], [], false, false⟩ _ = _
  rw [feed_app, feed_ln (by decide) (by decide), ex1]
  simp only []
  rw [feed_app, feed_ln (by decide) (by decide), ex2]
  simp only []
  rw [feed_app, feed_ln (by decide) (by decide), ex3]
  simp only []
  rw [feed_ln (by decide) (by decide), ex4]
  rfl
section
variable {H : Heap}
theorem works10 (hp : Pow H) : ∃ H', F10 [] H = some (.bool true, H') ∧ Ch (fun _ => False) H H' := by
  obtain ⟨H', e, c⟩ := answer11 hp ((exL1 ++ [10]) ++ ((exL2 ++ [10]) ++ ((exL3 ++ [10]) ++ (exL4 ++ [10]))))
  have ht : takeM Ss.new ((exL1 ++ [10]) ++ ((exL2 ++ [10]) ++ ((exL3 ++ [10]) ++ (exL4 ++ [10])))) = (⟨[([97], [51])], [], false, true⟩, [79, 75, 10, 86, 65, 76, 85, 69, 32, 51, 10, 86, 65, 76, 85, 69, 32, 51, 10, 66, 89, 69, 10], 0) := by
    unfold takeM
    rw [if_neg (by decide), exFeed]; rfl
  rw [ht] at e
  have e' : F11 [.string (⟨#[80, 85, 84, 32, 97, 32, 49, 10, 65, 68, 68, 32, 97, 32, 50, 10, 71, 69, 84, 32, 97, 10, 81, 85, 73, 84, 10]⟩ : ByteArray)] H = some (.tuple #[.string (bs [79, 75, 10, 86, 65, 76, 85, 69, 32, 51, 10, 86, 65, 76, 85, 69, 32, 51, 10, 66, 89, 69, 10]), .bool true], H') := e
  refine ⟨H', FN_of 1 ((t10 1 H).trans ?_) (Nat.le_of_ble_eq_true (by kernel_rfl)), c⟩
  simp only [↓on_of e', ↓onS, ↓kInt_int, ↓kInt_u8, ↓kBool_bool, ↓kStr_str, ↓kTup_tup, ↓kPtr_ptr, ↓kSl_sl, ↓kAgg_agg, ↓kMp_mp, List.getElem?_toArray, List.getElem?_cons_zero, List.getElem?_cons_succ, eq_lit]
  rfl
theorem over18 {N : Nat → Prop} {s : Nat} {S : Ss} (h : Sn N s S H) : F18 [.pointer (some ⟨s, 0, none⟩)] H = some (.bool S.over, H) := by
  obtain ⟨mm, a, cp, st, _⟩ := h.body
  refine FN_of 1 ((t18 1 (some ⟨s, 0, none⟩) H).trans ?_) (Nat.le_of_ble_eq_true (by kernel_rfl))
  simp only [↓onS, ↓kInt_int, ↓kInt_u8, ↓kBool_bool, ↓kStr_str, ↓kTup_tup, ↓kPtr_ptr, ↓kSl_sl, ↓kAgg_agg, ↓kMp_mp, ↓ldc_at st.cs, List.getElem?_toArray, List.getElem?_cons_zero, List.getElem?_cons_succ, Nat.zero_add]
theorem among15 (x : Int) {n : Int} (hn : 0 < n) (h1 : n ≤ 1000000) (H : Heap) : F15 [.int .i64 x, .int .i64 n] H = some (.int .i64 (x % n), H) := by
  refine FN_of 1 ((t15 1 x n H).trans ?_) (Nat.le_of_ble_eq_true (by kernel_rfl))
  rw [if_neg (by omega), if_neg (by omega)]
  have h2 := Int.tmod_lt_of_pos x hn
  have h3 := Int.lt_tmod_of_pos x hn
  rw [wrap_in ⟨by omega, by omega⟩]
  congr 3
  have e1 : (x.tmod n + n) % n = x % n := by
    rw [Int.add_emod_right, Int.tmod_eq_emod]
    split
    · show (x % n - 0) % n = x % n
      rw [Int.sub_zero]; exact Int.emod_emod_of_dvd _ (Int.dvd_refl n)
    · rw [Int.sub_emod]
      have hab : (n.natAbs : Int) = n := by omega
      simp only [hab, Int.emod_self, Int.sub_zero, Int.emod_emod_of_dvd _ (Int.dvd_refl n)]
  rw [Int.tmod_eq_emod_of_nonneg (by omega), e1]
end
/-! ### Rows of the arguments -/
abbrev recI (x : Int) : List Value := [.int .i64 x]
theorem recI_inv : ∀ e, Flat [.int .i64] e → ∃ x, e = recI x := fun e h => by
  obtain ⟨v, l, rfl, ⟨n, rfl, _⟩, h2⟩ := h.cons_inv
  obtain rfl := h2.nil_inv
  exact ⟨n, rfl⟩
abbrev recT (x : Tx) : List Value := [.string (bs x)]
theorem recT_inv : ∀ e, Flat [.string] e → ∃ x, e = recT x := fun e h => by
  obtain ⟨v, l, rfl, ⟨s, rfl, _⟩, h2⟩ := h.cons_inv
  obtain rfl := h2.nil_inv
  obtain ⟨x, rfl⟩ := bs_of s
  exact ⟨x, rfl⟩
end Go.Proofs.YtbheppfjaeocpaaGreatDoor
