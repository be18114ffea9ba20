/- r2: the document's session in memory: rows of names and values; a name's place; a name is set. -/
import Derived.Test.YtbheppfjaeocpaaGreatDoorRe1
set_option linter.unusedVariables false
set_option linter.unusedSimpArgs false
namespace Go.Proofs.YtbheppfjaeocpaaGreatDoor
open Go Go.RowKit Go.Lib Go.Proofs.YtbheppfjaeocpaaGreatDoor.Fw
theorem c77' : Tryz.prog.cellsOf 77 = 2 := by kernel_rfl
theorem b77' : Tryz.prog.bytesOf 77 = 32 := by kernel_rfl
theorem e77' : tyE Tryz.prog 77 = 2 := by kernel_rfl
theorem two77 : ∀ ez, ez = 2 → szOk ez 2 77 = true := fun ez hz => by subst hz; kernel_rfl
/-! ### Where a name lies -/
def vix (n : Tx) : Vs → Option Nat
  | [] => none
  | (k, u) :: r => if k = n then some 0 else (vix n r).map (· + 1)
def vlo (n : Tx) : Vs → Nat
  | [] => 0
  | (k, u) :: r => if k < n then vlo n r + 1 else 0
theorem vix_cons (n : Tx) (p : Tx × Tx) (r : Vs) : vix n (p :: r) = if p.1 = n then some 0 else (vix n r).map (· + 1) := by simp [vix]
theorem vlo_cons (n : Tx) (p : Tx × Tx) (r : Vs) : vlo n (p :: r) = if p.1 < n then vlo n r + 1 else 0 := by simp [vlo]
theorem vix_none {n : Tx} : ∀ {l : Vs}, vix n l = none → vfind n l = none
  | [], _ => rfl
  | (k, u) :: r, h => by
    unfold vix at h
    unfold vfind
    split at h
    · cases h
    · rename_i e
      rw [if_neg e]
      refine vix_none ?_
      cases hq : vix n r with
      | none => rfl
      | some i => rw [hq] at h; cases h
theorem vix_some {n : Tx} : ∀ {l : Vs} {i : Nat}, vix n l = some i → ∃ v, l[i]? = some (n, v) ∧ vfind n l = some v
  | [], _, h => by cases h
  | (k, u) :: r, i, h => by
    unfold vix at h
    unfold vfind
    split at h
    · rename_i e
      obtain rfl := Option.some.inj h
      rw [if_pos e]
      exact ⟨u, by rw [← e]; rfl, rfl⟩
    · rename_i e
      rw [if_neg e]
      cases hq : vix n r with
      | none => rw [hq] at h; cases h
      | some j =>
        rw [hq] at h
        obtain rfl := Option.some.inj h
        obtain ⟨v, h1, h2⟩ := vix_some hq
        exact ⟨v, by simpa using h1, h2⟩
theorem vput_at {n v : Tx} : ∀ {l : Vs} {i : Nat}, Rising l → vix n l = some i → vput n v l = l.set i (n, v)
  | [], _, _, h => by cases h
  | (k, u) :: r, i, hr, h => by
    have h1 := List.pairwise_cons.1 hr
    unfold vix at h
    unfold vput
    split at h
    · rename_i e
      obtain rfl := Option.some.inj h
      rw [if_pos e]; rfl
    · rename_i e
      rw [if_neg e]
      cases hq : vix n r with
      | none => rw [hq] at h; cases h
      | some j =>
        rw [hq] at h
        obtain rfl := Option.some.inj h
        obtain ⟨w, hw, _⟩ := vix_some hq
        have hlt : k < n := h1.1 (n, w) (List.mem_of_getElem? hw)
        rw [if_pos hlt, vput_at h1.2 hq]; rfl
theorem vdel_at {n : Tx} : ∀ {l : Vs} {i : Nat}, vix n l = some i → vdel n l = l.take i ++ l.drop (i + 1)
  | [], _, h => by cases h
  | (k, u) :: r, i, h => by
    unfold vix at h
    unfold vdel
    split at h
    · rename_i e
      obtain rfl := Option.some.inj h
      rw [if_pos e]; rfl
    · rename_i e
      rw [if_neg e]
      cases hq : vix n r with
      | none => rw [hq] at h; cases h
      | some j =>
        rw [hq] at h
        obtain rfl := Option.some.inj h
        rw [vdel_at hq]; rfl
theorem vput_lo {n v : Tx} : ∀ {l : Vs}, vix n l = none → vput n v l = l.take (vlo n l) ++ (n, v) :: l.drop (vlo n l)
  | [], _ => rfl
  | (k, u) :: r, h => by
    unfold vix at h
    unfold vput vlo
    split at h
    · cases h
    · rename_i e
      rw [if_neg e]
      have hq : vix n r = none := by
        cases hq : vix n r with
        | none => rfl
        | some j => rw [hq] at h; cases h
      split
      · rw [vput_lo hq]; rfl
      · rfl
theorem vlo_le (n : Tx) : ∀ l : Vs, vlo n l ≤ l.length
  | [] => Nat.le_refl _
  | (k, u) :: r => by
    unfold vlo
    have := vlo_le n r
    split
    · simp; omega
    · simp
/-! ### Rows of pairs -/
def pc (l : Vs) : List Value := l.flatMap fun p => [.string (bs p.1), .string (bs p.2)]
theorem pc_cons (p : Tx × Tx) (l : Vs) : pc (p :: l) = .string (bs p.1) :: .string (bs p.2) :: pc l := rfl
theorem pc_app (a b : Vs) : pc (a ++ b) = pc a ++ pc b := by simp [pc]
theorem pc_len (l : Vs) : (pc l).length = l.length * 2 := by
  induction l with
  | nil => rfl
  | cons p r ih => rw [pc_cons]; simp [ih]; omega
theorem pc_take (l : Vs) (i : Nat) : (pc l).take (i * 2) = pc (l.take i) := by
  induction l generalizing i with
  | nil => simp [pc]
  | cons p r ih =>
    cases i with
    | zero => simp [pc]
    | succ i => rw [pc_cons, show (i + 1) * 2 = i * 2 + 1 + 1 by omega]; simp [ih, pc_cons]
theorem pc_drop (l : Vs) (i : Nat) : (pc l).drop (i * 2) = pc (l.drop i) := by
  induction l generalizing i with
  | nil => simp [pc]
  | cons p r ih =>
    cases i with
    | zero => simp [pc]
    | succ i => rw [pc_cons, show (i + 1) * 2 = i * 2 + 1 + 1 by omega]; simp [ih]
theorem pc_get {l : Vs} {i : Nat} {p : Tx × Tx} (h : l[i]? = some p) : (pc l)[i * 2]? = some (.string (bs p.1)) ∧ (pc l)[i * 2 + 1]? = some (.string (bs p.2)) := by
  have hlt : i < l.length := (List.getElem?_eq_some_iff.1 h).1
  have hd : (pc l).drop (i * 2) = .string (bs p.1) :: .string (bs p.2) :: pc (l.drop (i + 1)) := by
    rw [pc_drop, List.drop_eq_getElem_cons hlt, pc_cons]
    have : l[i] = p := by simpa [hlt] using h
    rw [this]
  constructor
  · have := List.getElem?_drop (xs := pc l) (i := i * 2) (j := 0)
    rw [hd] at this; simpa using this.symm
  · have := List.getElem?_drop (xs := pc l) (i := i * 2) (j := 1)
    rw [hd] at this; simpa using this.symm
theorem pc_set {l : Vs} {i : Nat} {n v w : Tx} (h : l[i]? = some (n, w)) : (pc l).set (i * 2 + 1) (.string (bs v)) = pc (l.set i (n, v)) := by
  induction l generalizing i with
  | nil => simp at h
  | cons p r ih =>
    cases i with
    | zero => simp at h; subst h; simp [pc_cons]
    | succ i =>
      simp at h
      rw [pc_cons, show (i + 1) * 2 + 1 = (i * 2 + 1) + 1 + 1 by omega]
      simp [ih h, pc_cons]
/-- What a cell of the rows holds, where these lie. -/
theorem vec_cell2 {H : Heap} {a : Option Addr} {c : Nat} {l : Vs} (h : Vec 2 (· = 2) H a l.length c (pc l)) {i : Nat} {p : Tx × Tx} (hi : l[i]? = some p) : ∃ j cs, a = some ⟨j, 0, none⟩ ∧ H[j]? = some (.cells cs 2 true) ∧ cs.take (l.length * 2) = pc l ∧ l.length * 2 ≤ cs.length ∧ cs[i * 2]? = some (.string (bs p.1)) ∧ cs[i * 2 + 1]? = some (.string (bs p.2)) := by
  have hlt : i < l.length := (List.getElem?_eq_some_iff.1 hi).1
  obtain ⟨j, cs, ez, hz, ha, h1, h2, h3⟩ := h.at_ (by omega)
  obtain ⟨g1, g2⟩ := pc_get hi
  rw [hz] at h1
  rw [← h2, List.getElem?_take_of_lt (by omega)] at g1 g2
  exact ⟨j, cs, ha, h1, h2, h3, g1, g2⟩
theorem vec_copy0 (H : Heap) : Vec 2 (· = 2) (H ++ [.cells [] 2 true]) (some ⟨H.length, 0, none⟩) 0 0 [] :=
  ⟨rfl, .inr ⟨H.length, [], 2, rfl, rfl, by simp, rfl, .inr ⟨Nat.le_refl _, by simp⟩⟩⟩
theorem vec_app2 {H : Heap} {a : Option Addr} {l l' : Vs} {c : Nat} (h : Vec 2 (· = 2) H a l.length c (pc l)) (hb : l.length + l'.length ≤ 1000) :
    ∃ a' c' H', (∀ {β : Type} (k : Value → Heap → Option β), Fw.app Tryz.prog 77 H (.slice a l.length c) l'.length (pc l') k = k (.slice a' (l ++ l').length c') H') ∧ Vec 2 (· = 2) H' a' (l ++ l').length c' (pc (l ++ l')) ∧ H.length ≤ H'.length ∧
      (∀ k, k < H.length → ab a ≠ some k → H'[k]? = H[k]?) ∧ (∀ j, ab a' = some j → ab a = some j ∨ j = H.length) := by
  rw [List.length_append, pc_app]
  exact h.app (P := Tryz.prog) (e := 77) c77' two77 e77' (n := l'.length) (nw := pc l') (pc_len l') (by rw [b77']; omega) (by omega)
section
variable {β : Type}
theorem firstC_at {H : Heap} {sz j o l c : Nat} {cs : List Value} {e : Nat} {own : Bool} (h : H[j]? = some (.cells cs e own)) (hl : o + l * sz ≤ cs.length) (k : Nat → List Value → Option β) :
    firstC H sz (.slice (some ⟨j, o, none⟩) l c) k = k l (range cs o (l * sz)) := by
  simp only [firstC, ldc, h]
  rw [if_pos hl]
theorem add0 (j n : Nat) : (⟨j, 0, none⟩ : Addr).add n = ⟨j, n, none⟩ := by
  unfold Addr.add
  split
  · rename_i h; subst h; rfl
  · simp
end
/-- A part of the rows. -/
theorem vec_part {H : Heap} {a : Option Addr} {c : Nat} {l : Vs} (h : Vec 2 (· = 2) H a l.length c (pc l)) {x y : Nat} (hxy : x ≤ y) (hy : y ≤ l.length) :
    ∃ a' c', (∀ {β : Type} (k : Value → Option β), slSl H 2 a l.length c ((x : Nat) : Int) ((y : Nat) : Int) k = k (.slice a' (y - x) c')) ∧ ab a' = ab a ∧
      ∀ H', (∀ j, ab a = some j → H'[j]? = H[j]?) → ∀ {β : Type} (k : Nat → List Value → Option β), firstC H' 2 (.slice a' (y - x) c') k = k (y - x) (pc ((l.drop x).take (y - x))) := by
  rcases h.2 with ⟨rfl, h0, rfl⟩ | ⟨j, cs, ez, hz, rfl, hj, ht, _⟩
  · have hl : l = [] := List.eq_nil_of_length_eq_zero h0
    subst hl
    have hy0 : y = 0 := by simpa using hy
    have hx0 : x = 0 := by omega
    subst hy0 hx0
    exact ⟨none, 0, fun k => by simp [slSl], rfl, fun H' _ β k => by simp [firstC, pc]⟩
  · have hle := Vec.len_le (H := H) (c := c) (j := j) h.1 ht
    subst hz
    refine ⟨some ⟨j, x * 2, none⟩, slCap c x, fun k => ?_, rfl, fun H' hk β k => ?_⟩
    · simp only [slSl, esOk, hj, show Nat.beq (2 % tyM) 2 = true from rfl, Int.toNat_natCast]
      rw [if_pos ⟨by omega, by omega, .inl (by omega)⟩, add0]
    · rw [firstC_at ((hk j rfl).trans hj) (by omega)]
      congr 1
      unfold range
      rw [← pc_take, ← pc_drop, ← ht, List.drop_take, List.take_take, Nat.min_eq_left (by omega)]
theorem vec_first2 {H : Heap} {a : Option Addr} {c : Nat} {l : Vs} (h : Vec 2 (· = 2) H a l.length c (pc l)) {H' : Heap} (hk : ∀ j, ab a = some j → H'[j]? = H[j]?) {β : Type} (k : Nat → List Value → Option β) : firstC H' 2 (.slice a l.length c) k = k l.length (pc l) := firstC_vec (h.keep hk) k
/-! ### The session -/
structure Rt (N : Nat → Prop) (s : Nat) (l : Vs) (v1 v2 v3 : Value) (H : Heap) : Prop where
  lt : ∀ k, N k → k < H.length
  ok : OkV l
  body : ∃ a c, H[s]? = some (.cells [.slice a l.length c, v1, v2, v3] 0 true) ∧ Vec 2 (· = 2) H a l.length c (pc l) ∧ ab a ≠ some s ∧ N s ∧ ∀ j, ab a = some j → N j
/-- What is owned, and what is new. -/
def nx (N : Nat → Prop) (H H' : Heap) : Nat → Prop := fun k => N k ∨ (H.length ≤ k ∧ k < H'.length)
theorem go_nx {N : Nat → Prop} {H H' : Heap} (c : Ch N H H') : Go' N H (nx N H H') H' := ⟨c, fun k hk => hk.imp id fun q => q.1⟩
section
variable {N : Nat → Prop} {s : Nat} {l : Vs} {v1 v2 v3 : Value} {H : Heap}
theorem Rt.keep (h : Rt N s l v1 v2 v3 H) {H' : Heap} (hl : H.length ≤ H'.length) (hk : ∀ k, N k → H'[k]? = H[k]?) : Rt N s l v1 v2 v3 H' := by
  obtain ⟨lt, ok, a, c, cs, hv, h1, h2, h3⟩ := h
  exact ⟨fun k hh => Nat.lt_of_lt_of_le (lt k hh) hl, ok, a, c, (hk s h2).trans cs, hv.keep fun j hj => hk j (h3 j hj), h1, h2, h3⟩
theorem Rt.ch (h : Rt N s l v1 v2 v3 H) {M : Nat → Prop} {H' : Heap} (c : Ch M H H') (hd : ∀ k, N k → ¬ M k) : Rt N s l v1 v2 v3 H' := h.keep c.len fun k hk => c.kept k (h.lt k hk) (hd k hk)
theorem Rt.nil (h : Rt N s l v1 v2 v3 H) {H' : Heap} (c : Ch (fun _ => False) H H') : Rt N s l v1 v2 v3 H' := h.ch c fun _ _ => id
theorem Rt.wide (h : Rt N s l v1 v2 v3 H) {M : Nat → Prop} (hm : ∀ k, N k → M k) (hlt : ∀ k, M k → k < H.length) : Rt M s l v1 v2 v3 H := by
  obtain ⟨lt, ok, a, c, cs, hv, h1, h2, h3⟩ := h
  exact ⟨hlt, ok, a, c, cs, hv, h1, hm s h2, fun j hj => hm j (h3 j hj)⟩
def ixV : Option Nat → Int
  | none => -1
  | some i => (i : Int)
theorem find67 (h : Rt N s l v1 v2 v3 H) (n : Tx) : F67 [.pointer (some ⟨s, 0, none⟩), .string (bs n)] H = some (.int .i64 (ixV (vix n l)), H) := by
  obtain ⟨a, c, cs, hv, h1, h2, h3⟩ := h.body
  have h64 := h.ok.len
  have key : ∀ (r i m : Nat), i + r = l.length → R67 (m + r + 1) td67_100002 [.pointer (some ⟨s, 0, none⟩), .string (bs n), .int .i64 ((i : Nat) : Int)] H = some (.int .i64 (ixV ((vix n (l.drop i)).map (· + i))), H) := by
    intro r
    induction r with
    | zero =>
      intro i m hi
      rw [c67_100002]
      simp only [↓onS, ↓kInt_int, ↓kInt_u8, ↓kBool_bool, ↓kStr_str, ↓kTup_tup, ↓kPtr_ptr, ↓kSl_sl, ↓kAgg_agg, ↓kMp_mp, ↓ldc_at cs, List.getElem?_toArray, List.getElem?_cons_zero, List.getElem?_cons_succ]
      rw [decide_eq_false (show ¬ ((i : Nat) : Int) < ((l.length : Nat) : Int) by omega), List.drop_eq_nil_of_le (by omega)]
      rfl
    | succ r ih =>
      intro i m hi
      have hlt : i < l.length := by omega
      have hx : l[i]? = some (l[i]'hlt) := by simp [hlt]
      obtain ⟨j, rs, ha, hj, _, hle, g1, g2⟩ := vec_cell2 hv hx
      rw [show m + (r + 1) + 1 = (m + r + 1) + 1 by omega, c67_100002]
      simp only [↓onS, ↓kInt_int, ↓kInt_u8, ↓kBool_bool, ↓kStr_str, ↓kTup_tup, ↓kPtr_ptr, ↓kSl_sl, ↓kAgg_agg, ↓kMp_mp, ↓ldc_at cs, List.getElem?_toArray, List.getElem?_cons_zero, List.getElem?_cons_succ]
      rw [decide_eq_true (show ((i : Nat) : Int) < ((l.length : Nat) : Int) by omega), ha]
      simp only [↓onS, ↓kInt_int, ↓kInt_u8, ↓kBool_bool, ↓kStr_str, ↓kTup_tup, ↓kPtr_ptr, ↓kSl_sl, ↓kAgg_agg, ↓kMp_mp]
      rw [if_pos ⟨by omega, by omega⟩, Int.toNat_natCast, add0]
      simp only [↓ldc_at hj, g1, ↓onS, ↓kInt_int, ↓kInt_u8, ↓kBool_bool, ↓kStr_str, ↓kTup_tup, ↓kPtr_ptr, ↓kSl_sl, ↓kAgg_agg, ↓kMp_mp, bs_list, wrap_succ (show i + 1 < 9223372036854775808 by omega)]
      rw [List.drop_eq_getElem_cons hlt, vix_cons]
      by_cases e : (l[i]'hlt).1 = n
      · rw [if_pos e]
        have : ((l[i]'hlt).1 == n) = true := by simpa using e
        rw [this]
        simp [ixV]
      · rw [if_neg e]
        have : ((l[i]'hlt).1 == n) = false := by simpa using e
        rw [this]
        have hm : ∀ o : Option Nat, (o.map (· + 1)).map (· + i) = o.map (· + (i + 1)) := fun o => by
          cases o with
          | none => rfl
          | some q => simp; omega
        rw [hm]
        exact ih (i + 1) m (by omega)
  refine FN_of (0 + l.length + 1) ((t67 _ (some ⟨s, 0, none⟩) (bs n) H).trans ((key l.length 0 0 (by omega)).trans ?_)) (Nat.le_of_ble_eq_true (by kernel_rfl))
  simp
theorem loop49 {a : Option Addr} {c : Nat} (hv : Vec 2 (· = 2) H a l.length c (pc l)) (h64 : l.length ≤ 64) (x0 : Option Addr) (n : Tx) (x2 : ByteArray) : ∀ (r i : Nat), i + r = l.length → ∃ q, ∀ m, R49 (q + m) td49_100010 [.pointer x0, .string (bs n), .string x2, .slice a l.length c, .int .i64 ((i : Nat) : Int)] H = R49 m td49_12 [.pointer x0, .string (bs n), .string x2, .slice a l.length c, .int .i64 ((i + vlo n (l.drop i) : Nat) : Int)] H := by
  intro r
  induction r with
  | zero =>
    intro i hi
    refine ⟨1, fun m => ?_⟩
    rw [show 1 + m = m + 1 by omega, c49_100010, decide_eq_false (show ¬ ((i : Nat) : Int) < ((l.length : Nat) : Int) by omega), List.drop_eq_nil_of_le (by omega)]
    rfl
  | succ r ih =>
    intro i hi
    have hlt : i < l.length := by omega
    have hx : l[i]? = some (l[i]'hlt) := by simp [hlt]
    obtain ⟨j, rs, ha, hj, _, hle, g1, g2⟩ := vec_cell2 hv hx
    obtain ⟨q, hq⟩ := ih (i + 1) (by omega)
    have e : ∀ m, R49 (m + 1) td49_100010 [.pointer x0, .string (bs n), .string x2, .slice a l.length c, .int .i64 ((i : Nat) : Int)] H = (match decide ((l[i]'hlt).1 < n) with
        | true => R49 m td49_100010 [.pointer x0, .string (bs n), .string x2, .slice a l.length c, .int .i64 ((i + 1 : Nat) : Int)] H
        | false => R49 m td49_12 [.pointer x0, .string (bs n), .string x2, .slice a l.length c, .int .i64 ((i : Nat) : Int)] H) := fun m => by
      rw [c49_100010, decide_eq_true (show ((i : Nat) : Int) < ((l.length : Nat) : Int) by omega), ha]
      simp only [↓onS, ↓kInt_int, ↓kInt_u8, ↓kBool_bool, ↓kStr_str, ↓kTup_tup, ↓kPtr_ptr, ↓kSl_sl, ↓kAgg_agg, ↓kMp_mp]
      rw [if_pos ⟨by omega, by omega⟩, Int.toNat_natCast, add0]
      simp only [↓ldc_at hj, g1, ↓onS, ↓kInt_int, ↓kInt_u8, ↓kBool_bool, ↓kStr_str, ↓kTup_tup, ↓kPtr_ptr, ↓kSl_sl, ↓kAgg_agg, ↓kMp_mp, bs_list, wrap_succ (show i + 1 < 9223372036854775808 by omega), bytesLess_eq]
      cases decide ((l[i]'hlt).1 < n) <;> rfl
    rw [List.drop_eq_getElem_cons hlt, vlo_cons]
    by_cases hk : (l[i]'hlt).1 < n
    · refine ⟨q + 1, fun m => ?_⟩
      rw [show q + 1 + m = (q + m) + 1 by omega, e, decide_eq_true hk, if_pos hk]
      refine (hq m).trans ?_
      rw [show i + 1 + vlo n (l.drop (i + 1)) = i + (vlo n (l.drop (i + 1)) + 1) by omega]
    · refine ⟨1, fun m => ?_⟩
      rw [show 1 + m = m + 1 by omega, e, decide_eq_false hk, if_neg hk]; rfl
end
end Go.Proofs.YtbheppfjaeocpaaGreatDoor
