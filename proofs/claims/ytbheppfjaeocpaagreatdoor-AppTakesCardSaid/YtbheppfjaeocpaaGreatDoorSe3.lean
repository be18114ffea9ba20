/- r2: what is a whole number. -/
import Derived.Test.YtbheppfjaeocpaaGreatDoorSe2
import Derived.Lib.ItoaLen
set_option linter.unusedVariables false
set_option linter.unusedSimpArgs false
namespace Go.Proofs.YtbheppfjaeocpaaGreatDoor
open Go Go.RowKit Go.Lib Go.Proofs.YtbheppfjaeocpaaGreatDoor.Fw
theorem decFrom_all : ∀ (l : Tx) (acc : Nat), l.all isDg = true → ∃ n, Lib.decFrom acc l = some n ∧ acc ≤ n
  | [], acc, _ => ⟨acc, rfl, Nat.le_refl _⟩
  | b :: r, acc, h => by
    simp only [List.all_cons, Bool.and_eq_true] at h
    have hb := h.1
    simp only [isDg, Bool.and_eq_true] at hb
    have h1 := Nat.le_of_ble_eq_true hb.1
    have h2 := Nat.le_of_ble_eq_true hb.2
    obtain ⟨n, hn, hl⟩ := decFrom_all r (acc * 10 + (b.toNat - 48)) h.2
    refine ⟨n, ?_, by omega⟩
    simp only [Lib.decFrom, Lib.digitVal]
    rw [if_pos ⟨h1, h2⟩]
    exact hn
theorem dg_contains (b : UInt8) : ([48, 49, 50, 51, 52, 53, 54, 55, 56, 57] : Tx).contains b = isDg b := by
  have key : ∀ n : Fin 256, ([48, 49, 50, 51, 52, 53, 54, 55, 56, 57] : Tx).contains (UInt8.ofNat n.val) = isDg (UInt8.ofNat n.val) := by decide +kernel
  have := key ⟨b.toNat, b.toNat_lt⟩
  simpa using this
theorem dropWhile_nil {p : UInt8 → Bool} : ∀ l : Tx, l.dropWhile p = [] ↔ l.all p = true
  | [] => by simp
  | b :: r => by
    rw [List.dropWhile_cons]
    cases h : p b with
    | true => simp [h, dropWhile_nil r]
    | false => simp [h]
theorem trimS_nil (l cs : Tx) : Lib.trimS l cs = [] ↔ l.all (cs.contains ·) = true := by
  unfold Lib.trimS Lib.trimLeftS Lib.trimRightS
  rw [dropWhile_nil]
  constructor
  · intro h
    by_cases hr : (l.reverse.dropWhile (cs.contains ·)) = []
    · have := (dropWhile_nil _).1 hr
      simpa using this
    · exfalso
      -- the first that is left is none of the set
      have key : ∀ m : Tx, m.dropWhile (cs.contains ·) ≠ [] → ∃ b ∈ m.dropWhile (cs.contains ·), cs.contains b = false := by
        intro m
        induction m with
        | nil => intro h; exact absurd rfl h
        | cons b r ih =>
          intro h
          rw [List.dropWhile_cons] at h ⊢
          cases hb : cs.contains b with
          | true => rw [hb] at h; simpa using ih (by simpa using h)
          | false => exact ⟨b, by simp, hb⟩
      obtain ⟨b, hb, hc⟩ := key _ hr
      have := List.all_eq_true.1 h b (by simpa using hb)
      rw [hc] at this; cases this
  · intro h
    have : l.reverse.dropWhile (cs.contains ·) = [] := (dropWhile_nil _).2 (by simpa using h)
    rw [this]; rfl
theorem trim_dg (l : Tx) : Lib.trimS l [48, 49, 50, 51, 52, 53, 54, 55, 56, 57] = [] ↔ l.all isDg = true := by
  rw [trimS_nil]
  have : (fun b => ([48, 49, 50, 51, 52, 53, 54, 55, 56, 57] : Tx).contains b) = isDg := funext dg_contains
  rw [this]
def minus : Tx → Bool
  | [] => false
  | b :: _ => decide (b = 45)
def digs : Tx → Tx
  | [] => []
  | b :: r => if b = 45 then r else b :: r
theorem num_eq (w : Tx) : num w = match minus w with | true => (match numU (digs w) with | some (n + 1) => some (-((n : Int) + 1)) | _ => none) | false => (numU (digs w)).map Int.ofNat := by
  cases w with
  | nil => rfl
  | cons b r =>
    by_cases hb : b = 45
    · subst hb; rfl
    · have e : num (b :: r) = (numU (b :: r)).map Int.ofNat := by
        unfold num
        split
        · rename_i h; exact absurd (List.cons.inj h).1 hb
        · rfl
      rw [e]
      simp only [minus, digs, hb, decide_false, if_false]
theorem F108_eq (w : Tx) (H : Heap) : F108 [.string (bs w), .string (⟨#[45]⟩ : ByteArray)] H = some (.tuple #[.string (bs (digs w)), .bool (minus w)], H) := by
  have h1 : Lib.hasPrefix w [45] = minus w ∧ Lib.trimPrefix w [45] = digs w := by
    cases w with
    | nil => exact ⟨rfl, rfl⟩
    | cons b r =>
      by_cases hb : b = 45
      · subst hb
        have e : Lib.hasPrefix (45 :: r) [45] = true := by simp [Lib.hasPrefix]
        exact ⟨by rw [e]; rfl, by unfold Lib.trimPrefix; rw [e]; simp [digs]⟩
      · have e : Lib.hasPrefix (b :: r) [45] = false := by
          show ([45] : Tx).isPrefixOf (b :: r) = false
          simp [List.isPrefixOf, Ne.symm hb]
        have e2 : minus (b :: r) = false := by simp [minus, hb]
        have e3 : digs (b :: r) = b :: r := by simp [digs, hb]
        exact ⟨by rw [e, e2], by unfold Lib.trimPrefix; rw [e, e3]; rfl⟩
  simp only [F108, bs_data, h1.1, h1.2]
theorem F109_eq (d : Tx) (H : Heap) (hd : d.length ≤ 140737488355328) : F109 [.string (bs d), .string (⟨#[48, 49, 50, 51, 52, 53, 54, 55, 56, 57]⟩ : ByteArray)] H = some (.string (bs (Lib.trimS d [48, 49, 50, 51, 52, 53, 54, 55, 56, 57])), H) := by
  simp only [F109]
  rw [if_pos ⟨by rw [bs_size]; omega, by decide, by decide⟩, bs_data]
theorem numU_some {t : Tx} {n : Nat} (h : numU t = some n) : t ≠ [] ∧ t.length ≤ 9 ∧ t.all isDg = true ∧ (1 < t.length → t.head? ≠ some 48) ∧ Lib.decFrom 0 t = some n := by
  unfold numU at h
  split at h
  · cases h
  · rename_i hc
    simp only [Bool.or_eq_true, not_or, Bool.not_eq_true, Bool.not_eq_false'] at hc
    obtain ⟨⟨⟨h1, h2⟩, h3⟩, h4⟩ := hc
    refine ⟨by simpa using h1, ?_, h3, fun q e => ?_, h⟩
    · have : ¬ 9 < t.length := fun q => by
        have : Nat.blt 9 t.length = true := Nat.ble_eq_true_of_le q
        rw [this] at h2; cases h2
      omega
    · have : Nat.blt 1 t.length = true := Nat.ble_eq_true_of_le q
      rw [this, e] at h4
      simp at h4
theorem numU_lt {t : Tx} {n : Nat} (h : numU t = some n) : n < 1000000000 := by
  obtain ⟨_, h2, _, _, h5⟩ := numU_some h
  have := Lib.decFrom_lt t 0 n h5
  have hp : (10 : Nat) ^ t.length ≤ 10 ^ 9 := Nat.pow_le_pow_right (by decide) h2
  omega
theorem num_lt {t : Tx} {n : Int} (h : num t = some n) : -1000000000 < n ∧ n < 1000000000 := by
  rw [num_eq] at h
  split at h
  · split at h
    · rename_i k hk
      have := numU_lt hk
      obtain rfl := Option.some.inj h
      omega
    · cases h
  · obtain ⟨k, hk, rfl⟩ := Option.map_eq_some_iff.1 h
    have := numU_lt hk
    have e : Int.ofNat k = (k : Int) := rfl
    omega
theorem numU_of {t : Tx} (h1 : t ≠ []) (h2 : t.length ≤ 9) (h3 : t.all isDg = true) (h4 : 1 < t.length → t.head? ≠ some 48) : numU t = Lib.decFrom 0 t := by
  unfold numU
  rw [if_neg]
  have e2 : Nat.blt 9 t.length = false := by rw [← Bool.not_eq_true]; intro q; have := Nat.le_of_ble_eq_true q; omega
  simp only [Bool.or_eq_true, Bool.and_eq_true, not_or, not_and, Bool.not_eq_true, Bool.not_eq_false', h3, e2]
  refine ⟨⟨⟨by simpa using h1, trivial⟩, trivial⟩, fun q => ?_⟩
  have := h4 (Nat.le_of_ble_eq_true q)
  simpa using this
theorem numU_zero {t : Tx} (h : numU t = some 0) : t = [48] := by
  obtain ⟨h1, h2, h3, h4, h5⟩ := numU_some h
  cases t with
  | nil => exact absurd rfl h1
  | cons b r =>
    simp only [List.all_cons, Bool.and_eq_true] at h3
    have hb := h3.1
    simp only [isDg, Bool.and_eq_true] at hb
    have b1 := Nat.le_of_ble_eq_true hb.1
    have b2 := Nat.le_of_ble_eq_true hb.2
    have e : Lib.decFrom 0 (b :: r) = Lib.decFrom (b.toNat - 48) r := by
      simp only [Lib.decFrom, Lib.digitVal]
      rw [if_pos ⟨b1, b2⟩]
      simp
    obtain ⟨n, hn, hl⟩ := decFrom_all r (b.toNat - 48) h3.2
    rw [e, hn] at h5
    have h0 : b.toNat = 48 := by have := Option.some.inj h5; omega
    have hb48 : b = 48 := UInt8.toNat_inj.1 (by rw [h0]; rfl)
    subst hb48
    cases r with
    | nil => rfl
    | cons c r => exact absurd rfl (h4 (by simp))
theorem numU_48 : numU [48] = some 0 := by decide
theorem atoi_num {w : Tx} {n : Nat} (h : numU (digs w) = some n) : Lib.atoi w = some (match minus w with | true => -(n : Int) | false => (n : Int)) := by
  obtain ⟨h1, h2, h3, h4, h5⟩ := numU_some h
  cases w with
  | nil => exact absurd rfl h1
  | cons b r =>
    by_cases hb : b = 45
    · subst hb
      have h1' : r ≠ [] := by simpa [digs] using h1
      have h5' : Lib.decFrom 0 r = some n := by simpa [digs] using h5
      simp only [Lib.atoi, beq_self_eq_true, if_true, Lib.decNat]
      rw [if_neg (by simpa using h1'), h5']
      rfl
    · have e2 : minus (b :: r) = false := by simp [minus, hb]
      have e3 : digs (b :: r) = b :: r := by simp [digs, hb]
      rw [e3] at h3 h5
      have hb43 : b ≠ 43 := fun e => by
        subst e
        simp only [List.all_cons, Bool.and_eq_true] at h3
        exact absurd h3.1 (by decide)
      simp only [Lib.atoi, beq_iff_eq, hb, hb43, if_false, Lib.decNat, e2]
      rw [if_neg (by simp), h5]
      rfl
theorem digs_len (w : Tx) : (digs w).length ≤ w.length ∧ w.length ≤ (digs w).length + 1 := by
  cases w with
  | nil => simp [digs]
  | cons b r =>
    by_cases hb : b = 45 <;> simp [digs, hb]
/-- What is a whole number, and which. -/
theorem num96 (w : Tx) (H : Heap) (hw : w.length ≤ 140737488355328) : F96 [.string (bs w)] H = some (.tuple #[.int .i64 ((num w).getD 0), .bool (num w).isSome], H) := by
  have f : ∀ m r, fnE Tryz.prog G96 Tryz.f96 cuts96 m [.string (bs w)] H = some r → F96 [.string (bs w)] H = some r := fun m r h => FN_of m h (Nat.le_of_ble_eq_true (by kernel_rfl))
  obtain ⟨m, hm⟩ : ∃ m : Nat, m = 0 := ⟨0, rfl⟩
  have e := t96 (m + 1) (bs w) H
  have hdl := digs_len w
  have bad : num w = none → (some (.tuple #[.int .i64 (0 : Int), .bool false], H) : R) = some (.tuple #[.int .i64 ((num w).getD 0), .bool (num w).isSome], H) := fun h => by rw [h]; rfl
  have none_of : numU (digs w) = none → num w = none := fun h => by rw [num_eq, h]; cases minus w <;> rfl
  simp only [↓on_of (F108_eq w H), ↓onS, ↓kInt_int, ↓kInt_u8, ↓kBool_bool, ↓kStr_str, ↓kTup_tup, ↓kPtr_ptr, ↓kSl_sl, ↓kAgg_agg, ↓kMp_mp, List.getElem?_toArray, List.getElem?_cons_zero, List.getElem?_cons_succ, eq_lit, bs_size, c96_3] at e
  by_cases h1 : digs w = []
  · rw [decide_eq_true h1] at e
    rw [← bad (none_of (by rw [h1]; decide))]
    exact f _ _ e
  rw [decide_eq_false h1] at e
  simp only [] at e
  by_cases h2 : 9 < (digs w).length
  · rw [decide_eq_true (show (9 : Int) < (((digs w).length : Nat) : Int) by omega)] at e
    refine (f _ _ e).trans (bad (none_of ?_))
    cases hq : numU (digs w) with
    | none => rfl
    | some n => have := (numU_some hq).2.1; omega
  rw [decide_eq_false (show ¬ (9 : Int) < (((digs w).length : Nat) : Int) by omega)] at e
  simp only [↓on_of (F109_eq (digs w) H (by omega)), ↓onS, ↓kInt_int, ↓kInt_u8, ↓kBool_bool, ↓kStr_str, ↓kTup_tup, ↓kPtr_ptr, ↓kSl_sl, ↓kAgg_agg, ↓kMp_mp, eq_lit] at e
  by_cases h3 : (digs w).all isDg = true
  rotate_left
  · rw [decide_eq_false (fun q => h3 ((trim_dg _).1 q))] at e
    refine (f _ _ e).trans (bad (none_of ?_))
    cases hq : numU (digs w) with
    | none => rfl
    | some n => exact absurd (numU_some hq).2.2.1 h3
  rw [decide_eq_true ((trim_dg _).2 h3)] at e
  simp only [Bool.not_true] at e
  -- what is left is a number, or begins with 0, or is -0
  have good : (1 < (digs w).length → (digs w).head? ≠ some 48) → ¬ (minus w = true ∧ digs w = [48]) → R96 (m + 1) td96_4 [.string (bs w)] H = some (.tuple #[.int .i64 ((num w).getD 0), .bool (num w).isSome], H) := fun h4 h5 => by
    obtain ⟨n, hn, _⟩ := decFrom_all (digs w) 0 h3
    have hU : numU (digs w) = some n := by rw [numU_of h1 (by omega) h3 h4, hn]
    have hA : F110 [.string (bs w)] H = some (.tuple #[.int .i64 (match minus w with | true => -(n : Int) | false => (n : Int)), .nilIface], H) := by
      simp only [F110]
      rw [if_pos (by rw [bs_size]; omega), bs_data, atoi_num hU]
      rfl
    rw [c96_4]
    simp only [↓on_of hA, ↓onS, ↓kInt_int, ↓kInt_u8, ↓kBool_bool, ↓kStr_str, ↓kTup_tup, ↓kPtr_ptr, ↓kSl_sl, ↓kAgg_agg, ↓kMp_mp, List.getElem?_toArray, List.getElem?_cons_zero, List.getElem?_cons_succ]
    have hv : num w = some (match minus w with | true => -(n : Int) | false => (n : Int)) := by
      rw [num_eq, hU]
      cases hm : minus w with
      | false => rfl
      | true =>
        cases n with
        | zero => exact absurd ⟨hm, numU_zero hU⟩ h5
        | succ k => show some (-((k : Int) + 1)) = some (-((k + 1 : Nat) : Int)); rw [Int.natCast_succ]
    rw [hv]; rfl
  have zero : minus w = true → digs w = [48] → num w = none := fun h5 h6 => by rw [num_eq, h5, h6, numU_48]
  by_cases h4 : 1 < (digs w).length
  · have h6 : digs w ≠ [48] := fun q => by rw [q] at h4; simp at h4
    rw [decide_eq_true (show (1 : Int) < (((digs w).length : Nat) : Int) by omega)] at e
    simp only [] at e
    rw [if_pos ⟨by omega, by omega⟩] at e
    obtain ⟨b, r, hb⟩ : ∃ b r, digs w = b :: r := by cases hq : digs w with | nil => exact absurd hq h1 | cons b r => exact ⟨b, r, rfl⟩
    rw [show ((0 : Int).toNat) = 0 from rfl, byteAt_bs (l := digs w) (i := 0) (b := b) (by rw [hb]; rfl)] at e
    by_cases hz : b = 48
    · rw [show ((b.toNat : Int) == (48 : Int)) = true by rw [hz]; rfl] at e
      refine (f _ _ e).trans (bad (none_of ?_))
      cases hq : numU (digs w) with
      | none => rfl
      | some n => exact absurd (by rw [hb, hz]; rfl) ((numU_some hq).2.2.2.1 h4)
    · have hz' : b.toNat ≠ 48 := fun q => hz (UInt8.toNat_inj.1 (by rw [q]; rfl))
      rw [show ((b.toNat : Int) == (48 : Int)) = false by simp; omega] at e
      have hg := good (fun _ q => by rw [hb] at q; exact hz (Option.some.inj q)) (fun q => h6 q.2)
      simp only [hg, decide_eq_false h6] at e
      refine f (m + 1) _ (e.trans ?_)
      cases minus w <;> rfl
  · rw [decide_eq_false (show ¬ (1 : Int) < (((digs w).length : Nat) : Int) by omega)] at e
    simp only [] at e
    cases hm : minus w with
    | false =>
      have hg := good (fun q => absurd q h4) (fun q => by rw [hm] at q; cases q.1)
      simp only [hm, hg] at e
      exact f _ _ e
    | true =>
      by_cases h6 : digs w = [48]
      · simp only [hm, decide_eq_true h6] at e
        exact (f _ _ e).trans (bad (zero hm h6))
      · have hg := good (fun q => absurd q h4) (fun q => h6 q.2)
        simp only [hm, decide_eq_false h6, hg] at e
        exact f _ _ e
theorem num_nil : num [] = none := by decide
theorem old_eq (n : Tx) (l : Vs) : old n l = (num ((vfind n l).getD [])).getD 0 := by
  unfold old
  cases vfind n l with
  | none => rw [Option.getD_none, num_nil]; rfl
  | some v => rfl
end Go.Proofs.YtbheppfjaeocpaaGreatDoor
