/- r2: the commands of a session. -/
import Derived.Test.YtbheppfjaeocpaaGreatDoorSe3
set_option linter.unusedVariables false
set_option linter.unusedSimpArgs false
namespace Go.Proofs.YtbheppfjaeocpaaGreatDoor
open Go Go.RowKit Go.Lib Go.Proofs.YtbheppfjaeocpaaGreatDoor.Fw
/-- The table of the powers of ten lies in the first block. -/
def Pow (H : Heap) : Prop := ∃ e o, H[0]? = some (.cells powCells e o)
theorem Pow.ch {N : Nat → Prop} {H H' : Heap} (h : Pow H) (c : Ch N H H') (h0 : ¬ N 0) : Pow H' := by
  obtain ⟨e, o, h⟩ := h
  exact ⟨e, o, c.at_ h h0⟩
theorem F14_eq {H : Heap} (h : Pow H) {n : Int} (h0 : -9223372036854775808 ≤ n) (h1 : n ≤ 9223372036854775807) : F14 [.int .i64 n] H = some (.string (bs (Lib.itoa n)), H) := by
  simp only [F14]
  rw [if_pos ⟨h0, h1, h⟩]
theorem itoa_len {n : Int} (h0 : -9223372036854775808 ≤ n) (h1 : n ≤ 9223372036854775807) : (Lib.itoa n).length ≤ 21 := Lib.itoa_length_le n h0 h1

structure OkV (l : Vs) : Prop where
  rise : Rising l
  len : l.length ≤ 64
  keys : ∀ p ∈ l, p.1.length ≤ 32
  vals : ∀ p ∈ l, p.2.length ≤ 256
theorem OkV.nil : OkV [] := ⟨List.Pairwise.nil, by simp, by simp, by simp⟩
theorem OkV.find_len {l : Vs} (h : OkV l) (n : Tx) : ((vfind n l).getD []).length ≤ 256 := by
  cases hv : vfind n l with
  | none => simp
  | some v => exact h.vals _ ((vfind_mem h.rise.nod).1 hv)
theorem OkV.set {l l' : Vs} (h : OkV l) {n v : Tx} (hn : n.length ≤ 32) (hv : v.length ≤ 256) (hs : vset n v l = some l') : l' = vput n v l ∧ OkV l' := by
  obtain ⟨rfl, hl⟩ := vset_len h.rise h.len hs
  refine ⟨rfl, vput_rising h.rise, hl, fun p hp => ?_, fun p hp => ?_⟩
  · rcases vput_mem hp with rfl | hp
    · exact hn
    · exact h.keys p hp
  · rcases vput_mem hp with rfl | hp
    · exact hv
    · exact h.vals p hp
theorem OkV.del {l : Vs} (h : OkV l) (n : Tx) : OkV (vdel n l) :=
  ⟨vdel_rising h.rise, Nat.le_trans (vdel_sub n l).length_le h.len, fun p hp => h.keys p ((vdel_sub n l).subset hp), fun p hp => h.vals p ((vdel_sub n l).subset hp)⟩

/-- A session's struct and its map. -/
structure St (s m : Nat) (v1 v2 v3 : Value) (l : Vs) (H : Heap) : Prop where
  ne : m ≠ s
  cs : H[s]? = some (.cells [.map (some m), v1, v2, v3] 0 true)
  mp : ∃ es, H[m]? = some (.map es) ∧ MapIs es l
  ok : OkV l
section
variable {s m : Nat} {v1 v2 v3 : Value} {l : Vs} {H : Heap}
theorem St.ch {N : Nat → Prop} {H' : Heap} (h : St s m v1 v2 v3 l H) (c : Ch N H H') (hs : ¬ N s) (hm : ¬ N m) : St s m v1 v2 v3 l H' := by
  obtain ⟨ne, cs, ⟨es, h1, h2⟩, ok⟩ := h
  exact ⟨ne, c.at_ cs hs, ⟨es, c.at_ h1 hm, h2⟩, ok⟩
theorem St.not0 (h : St s m v1 v2 v3 l H) (hp : Pow H) : s ≠ 0 ∧ m ≠ 0 := by
  obtain ⟨e, o, hp⟩ := hp
  obtain ⟨_, cs, ⟨es, h1, _⟩, _⟩ := h
  refine ⟨fun q => ?_, fun q => ?_⟩
  · subst q
    rw [cs] at hp
    have := Option.some.inj hp
    injection this with this
    have h4 : (4 : Nat) = powCells.length := congrArg List.length this
    have h20 : powCells.length = 20 := by simp [powCells, Lib.pow10Tab_length]
    omega
  · subst q
    rw [h1] at hp
    cases Option.some.inj hp
theorem u29 : Tryz.prog.underlying 29 = some (.map 9 9) := by kernel_rfl
theorem k9 : keyKd Tryz.prog 9 = some .string := by kernel_rfl
theorem d9 : kdOf Tryz.prog 9 = some .string := by kernel_rfl
theorem z9' : zeroOf Tryz.prog 9 = some (.string (bs [])) := by kernel_rfl
theorem St.look (h : St s m v1 v2 v3 l H) (n : Tx) (ok : Bool) (K : Value → R) : lookupK Tryz.prog 29 H (.map (some m)) (.string (bs n)) ok K = K (okV ok (.string (bs ((vfind n l).getD []))) (vfind n l).isSome) := by
  obtain ⟨_, _, ⟨es, h1, h2⟩, hok⟩ := h
  exact lookupK_at u29 k9 d9 z9' h1 (h2.keys n) (h2.find hok.rise n) ok K
theorem St.put (h : St s m v1 v2 v3 l H) {n v : Tx} {l' : Vs} (hl : l' = vput n v l) (hok : OkV l') : ∃ H', (∀ K : Heap → R, mupd H m (.string (bs n)) (.string (bs v)) K = K H') ∧ St s m v1 v2 v3 l' H' ∧ Ch (· = m) H H' := by
  obtain ⟨ne, cs, ⟨es, h1, h2⟩, hok1⟩ := h
  subst hl
  refine ⟨_, fun K => mupd_at h1 (h2.keys n) _ K, ⟨ne, at_set cs ne, ⟨_, at_set_self (lt_of_at h1) _, h2.set hok1.rise n v⟩, hok⟩, Ch.set (N := (· = m)) rfl _⟩
/-- set. -/
theorem set80 (h : St s m v1 v2 v3 l H) {n v : Tx} (hn : n.length ≤ 32) (hv : v.length ≤ 256) :
    ∃ H', F80 [.pointer (some ⟨s, 0, none⟩), .string (bs n), .string (bs v)] H = some (.bool (vset n v l).isSome, H') ∧ St s m v1 v2 v3 ((vset n v l).getD l) H' ∧ Ch (· = m) H H' := by
  have f : ∀ k r, fnE Tryz.prog G80 Tryz.f80 cuts80 k [.pointer (some ⟨s, 0, none⟩), .string (bs n), .string (bs v)] H = some r → F80 [.pointer (some ⟨s, 0, none⟩), .string (bs n), .string (bs v)] H = some r := fun m r h => FN_of m h (Nat.le_of_ble_eq_true (by kernel_rfl))
  obtain ⟨k, hk⟩ : ∃ k : Nat, k = 0 := ⟨0, rfl⟩
  have e := t80 (k + 1) (some ⟨s, 0, none⟩) (bs n) (bs v) H
  obtain ⟨es, h1, h2⟩ := h.mp
  simp only [↓onS, ↓kInt_int, ↓kInt_u8, ↓kBool_bool, ↓kStr_str, ↓kTup_tup, ↓kPtr_ptr, ↓kSl_sl, ↓kAgg_agg, ↓kMp_mp, ↓ldc_at h.cs, List.getElem?_toArray, List.getElem?_cons_zero, List.getElem?_cons_succ, ↓h.look, okV, ↓ldmo_at h1, c80_4, h2.len] at e
  have hput : ∀ l', vset n v l = some l' → ∃ H', (∀ K : Heap → R, mupd H m (.string (bs n)) (.string (bs v)) K = K H') ∧ St s m v1 v2 v3 l' H' ∧ Ch (· = m) H H' := fun l' hs => by
    obtain ⟨e1, e2⟩ := h.ok.set hn hv hs
    exact h.put e1 e2
  cases hs : vset n v l with
  | none =>
    have hc : (vfind n l).isNone = true ∧ Nat.ble 64 l.length = true := by
      unfold vset at hs
      split at hs
      · rename_i q; simpa using q
      · cases hs
    have h0 : (vfind n l).isSome = false := by cases q : vfind n l <;> simp_all
    rw [h0, decide_eq_true (show (64 : Int) ≤ ((l.length : Nat) : Int) by have := Nat.le_of_ble_eq_true hc.2; omega)] at e
    exact ⟨H, f _ _ e, h, Ch.refl _ _⟩
  | some l' =>
    obtain ⟨H', hm, hst, hch⟩ := hput l' hs
    refine ⟨H', f _ _ (e.trans ?_), hst, hch⟩
    rw [hm]
    cases hq : (vfind n l).isSome with
    | true => rfl
    | false =>
      have hc : ¬ 64 ≤ l.length := fun q => by
        unfold vset at hs
        rw [if_pos] at hs
        · cases hs
        · rw [Nat.ble_eq_true_of_le q]; cases q2 : vfind n l <;> simp_all
      rw [decide_eq_false (show ¬ (64 : Int) ≤ ((l.length : Nat) : Int) by omega)]
      rfl
/-- ask. -/
theorem ask62 (h : St s m v1 v2 v3 l H) {w n : Tx} : ∃ H', F62 [.pointer (some ⟨s, 0, none⟩), .string (bs w), .string (bs n)] H = some (.string (bs (aAsk w n l).1), H') ∧ St s m v1 v2 v3 (aAsk w n l).2 H' ∧ Ch (· = m) H H' := by
  have f : ∀ k r, fnE Tryz.prog G62 Tryz.f62 cuts62 k [.pointer (some ⟨s, 0, none⟩), .string (bs w), .string (bs n)] H = some r → F62 [.pointer (some ⟨s, 0, none⟩), .string (bs w), .string (bs n)] H = some r := fun m r h => FN_of m h (Nat.le_of_ble_eq_true (by kernel_rfl))
  have e := t62 1 (some ⟨s, 0, none⟩) (bs w) (bs n) H
  obtain ⟨es, h1, h2⟩ := h.mp
  simp only [↓onS, ↓kInt_int, ↓kInt_u8, ↓kBool_bool, ↓kStr_str, ↓kTup_tup, ↓kPtr_ptr, ↓kSl_sl, ↓kAgg_agg, ↓kMp_mp, ↓ldc_at h.cs, List.getElem?_toArray, List.getElem?_cons_zero, List.getElem?_cons_succ, ↓h.look, okV, eq_lit, ↓dele_at h1 (h2.keys n)] at e
  unfold aAsk
  have hfl := h.ok.find_len n
  cases hv : vfind n l with
  | none =>
    rw [hv] at e
    exact ⟨H, f _ _ e, h, Ch.refl _ _⟩
  | some v =>
    rw [hv] at e hfl
    simp only [Option.isSome_some, Bool.not_true, Option.getD_some] at e hfl
    by_cases hw : w = tDEL
    · rw [decide_eq_true (show w = [68, 69, 76] from hw)] at e
      simp only [if_pos hw]
      refine ⟨H.set m (.map (mdel (.string (bs n)) es)), f _ _ (e.trans ?_), ⟨h.ne, at_set h.cs h.ne, ⟨_, at_set_self (lt_of_at h1) _, h2.del h.ok.rise n⟩, h.ok.del n⟩, Ch.set (N := (· = m)) rfl _⟩
      rfl
    · rw [decide_eq_false (show ¬ w = [68, 69, 76] from hw)] at e
      simp only [if_neg hw]
      rw [if_pos (show (⟨#[86, 65, 76, 85, 69, 32]⟩ : ByteArray).size + (bs v).size ≤ 9223372036854775807 by rw [bs_size, show (⟨#[86, 65, 76, 85, 69, 32]⟩ : ByteArray).size = 6 from rfl]; omega)] at e
      refine ⟨H, f _ _ (e.trans ?_), h, Ch.refl _ _⟩
      rw [← bs_app]; rfl
theorem big_eq (x : Int) (h0 : -3000000000 ≤ x) (h1 : x ≤ 3000000000) : decide ((1000000000 : Int) ≤ mxi (IntKind.i64.wrap x) (IntKind.i64.wrap (0 - IntKind.i64.wrap x))) = big x := by
  rw [wrap_in (n := x) ⟨by omega, by omega⟩, wrap_in (n := 0 - x) ⟨by omega, by omega⟩]
  unfold mxi big
  split
  · by_cases h : 1000000000 ≤ x <;> by_cases h' : x ≤ -1000000000 <;> simp [h, h'] <;> omega
  · by_cases h : 1000000000 ≤ x <;> by_cases h' : x ≤ -1000000000 <;> simp [h, h'] <;> omega
theorem num_bd (t : Tx) : -1000000000 < (num t).getD 0 ∧ (num t).getD 0 < 1000000000 := by
  cases h : num t with
  | none => show (-1000000000 : Int) < 0 ∧ (0 : Int) < 1000000000; omega
  | some n => exact num_lt h
theorem vset_look {n v : Tx} {l' : Vs} (h : vset n v l = some l') (hr : Rising l) : vfind n l' = some v := by
  unfold vset at h
  split at h
  · cases h
  · obtain rfl := Option.some.inj h
    exact (vfind_mem (vput_rising hr).nod).2 ((vput_perm hr).mem_iff.2 List.mem_cons_self)
/-- add. -/
theorem add78 (h : St s m v1 v2 v3 l H) (hp : Pow H) {n b : Tx} (hn : n.length ≤ 32) (hb : b.length ≤ 256) :
    ∃ H', F78 [.pointer (some ⟨s, 0, none⟩), .string (bs n), .string (bs b)] H = some (.string (bs (aAdd n b l).1), H') ∧ St s m v1 v2 v3 (aAdd n b l).2 H' ∧ Ch (· = m) H H' := by
  have f : ∀ k r, fnE Tryz.prog G78 Tryz.f78 cuts78 k [.pointer (some ⟨s, 0, none⟩), .string (bs n), .string (bs b)] H = some r → F78 [.pointer (some ⟨s, 0, none⟩), .string (bs n), .string (bs b)] H = some r := fun m r h => FN_of m h (Nat.le_of_ble_eq_true (by kernel_rfl))
  obtain ⟨k, hk⟩ : ∃ k : Nat, k = 0 := ⟨0, rfl⟩
  have e := t78 (k + 1) (some ⟨s, 0, none⟩) (bs n) (bs b) H
  have b1 := num_bd b
  have b2 := num_bd ((vfind n l).getD [])
  have hfl := h.ok.find_len n
  simp only [↓on_of (num96 b H (by omega)), ↓onS, ↓kInt_int, ↓kInt_u8, ↓kBool_bool, ↓kStr_str, ↓kTup_tup, ↓kPtr_ptr, ↓kSl_sl, ↓kAgg_agg, ↓kMp_mp, ↓ldc_at h.cs, List.getElem?_toArray, List.getElem?_cons_zero, List.getElem?_cons_succ, ↓h.look, okV, ↓on_of (num96 ((vfind n l).getD []) H (by omega)), c78_5, ← old_eq n l] at e b2
  rw [big_eq _ (by omega) (by omega)] at e
  unfold aAdd
  cases hq : num b with
  | none =>
    rw [hq] at e
    exact ⟨H, f _ _ e, h, Ch.refl _ _⟩
  | some x =>
    rw [hq] at e b1
    simp only [Option.isSome_some, Bool.not_true, Option.getD_some] at e b1
    simp only []
    cases hbig : big (old n l + x) with
    | true =>
      rw [hbig] at e
      exact ⟨H, f _ _ e, h, Ch.refl _ _⟩
    | false =>
      rw [hbig, wrap_in (n := old n l + x) ⟨by omega, by omega⟩] at e
      obtain ⟨I, hI⟩ : ∃ I, I = Lib.itoa (old n l + x) := ⟨_, rfl⟩
      have hil : I.length ≤ 21 := by rw [hI]; exact itoa_len (by omega) (by omega)
      obtain ⟨H1, c80, s80, ch⟩ := set80 h (n := n) (v := I) hn (by omega)
      simp only [↓on_of (F14_eq hp (n := old n l + x) (by omega) (by omega)), ↓onS, ↓kInt_int, ↓kInt_u8, ↓kBool_bool, ↓kStr_str, ↓kTup_tup, ↓kPtr_ptr, ↓kSl_sl, ↓kAgg_agg, ↓kMp_mp, ← hI, ↓on_of c80, ↓ldc_at s80.cs, List.getElem?_toArray, List.getElem?_cons_zero, List.getElem?_cons_succ, ↓s80.look, okV] at e
      simp only [Bool.false_eq_true, if_false, ← hI]
      cases hs : vset n I l with
      | none =>
        rw [hs] at e s80
        exact ⟨H1, f _ _ e, s80, ch⟩
      | some l' =>
        rw [hs] at e s80
        simp only [Option.getD_some, Option.isSome_some, Bool.not_true, vset_look hs h.ok.rise] at e s80
        rw [if_pos (show (⟨#[86, 65, 76, 85, 69, 32]⟩ : ByteArray).size + (bs I).size ≤ 9223372036854775807 by rw [bs_size, show (⟨#[86, 65, 76, 85, 69, 32]⟩ : ByteArray).size = 6 from rfl]; omega)] at e
        refine ⟨H1, f _ _ (e.trans ?_), s80, ch⟩
        rw [← bs_app]; rfl
/-- extend. -/
theorem ext79 (h : St s m v1 v2 v3 l H) (hp : Pow H) {n b : Tx} (hn : n.length ≤ 32) (hb : b.length ≤ 256) :
    ∃ H', F79 [.pointer (some ⟨s, 0, none⟩), .string (bs n), .string (bs b)] H = some (.string (bs (aApp n b l).1), H') ∧ St s m v1 v2 v3 (aApp n b l).2 H' ∧ Ch (· = m) H H' := by
  have f : ∀ k r, fnE Tryz.prog G79 Tryz.f79 cuts79 k [.pointer (some ⟨s, 0, none⟩), .string (bs n), .string (bs b)] H = some r → F79 [.pointer (some ⟨s, 0, none⟩), .string (bs n), .string (bs b)] H = some r := fun m r h => FN_of m h (Nat.le_of_ble_eq_true (by kernel_rfl))
  obtain ⟨k, hk⟩ : ∃ k : Nat, k = 0 := ⟨0, rfl⟩
  have e := t79 (k + 1) (some ⟨s, 0, none⟩) (bs n) (bs b) H
  have hfl := h.ok.find_len n
  simp only [↓onS, ↓kInt_int, ↓kInt_u8, ↓kBool_bool, ↓kStr_str, ↓kTup_tup, ↓kPtr_ptr, ↓kSl_sl, ↓kAgg_agg, ↓kMp_mp, ↓ldc_at h.cs, List.getElem?_toArray, List.getElem?_cons_zero, List.getElem?_cons_succ, ↓h.look, okV, c79_3, bs_app] at e
  unfold aApp
  obtain ⟨V, hV⟩ : ∃ V, V = (vfind n l).getD [] ++ b := ⟨_, rfl⟩
  have hVl : V.length = ((vfind n l).getD []).length + b.length := by rw [hV]; simp
  simp only [← hV] at e ⊢
  rw [if_pos (by rw [bs_size, bs_size]; omega)] at e
  simp only [bs_size] at e
  by_cases h2 : 200 < V.length
  · rw [decide_eq_true (show (200 : Int) < ((V.length : Nat) : Int) by omega)] at e
    rw [if_pos (show Nat.blt 200 V.length = true from Nat.ble_eq_true_of_le h2)]
    exact ⟨H, f _ _ e, h, Ch.refl _ _⟩
  · rw [decide_eq_false (show ¬ (200 : Int) < ((V.length : Nat) : Int) by omega)] at e
    rw [if_neg (show ¬ Nat.blt 200 V.length = true from fun q => h2 (Nat.le_of_ble_eq_true q))]
    obtain ⟨H1, c80, s80, ch⟩ := set80 h (n := n) (v := V) hn (by omega)
    have hp1 : Pow H1 := hp.ch ch (fun q => (h.not0 hp).2 q.symm)
    simp only [↓on_of c80, ↓onS, ↓kInt_int, ↓kInt_u8, ↓kBool_bool, ↓kStr_str, ↓kTup_tup, ↓kPtr_ptr, ↓kSl_sl, ↓kAgg_agg, ↓kMp_mp, ↓on_of (F14_eq hp1 (n := ((V.length : Nat) : Int)) (by omega) (by omega))] at e
    cases hs : vset n V l with
    | none =>
      rw [hs] at e s80
      exact ⟨H1, f _ _ e, s80, ch⟩
    | some l' =>
      rw [hs] at e s80
      simp only [Option.getD_some, Option.isSome_some, Bool.not_true] at e s80
      have := itoa_len (n := ((V.length : Nat) : Int)) (by omega) (by omega)
      rw [if_pos (show (⟨#[67, 79, 85, 78, 84, 32]⟩ : ByteArray).size + (bs (Lib.itoa ((V.length : Nat) : Int))).size ≤ 9223372036854775807 by rw [bs_size, show (⟨#[67, 79, 85, 78, 84, 32]⟩ : ByteArray).size = 6 from rfl]; omega)] at e
      refine ⟨H1, f _ _ (e.trans ?_), s80, ch⟩
      rw [← bs_app]; rfl
/-- What a command that changes answers. -/
def aChange (w n v : Tx) (l : Vs) : Tx × Vs := if w = tADD then aAdd n v l else if w = tAPP then aApp n v l else aPut n v l
theorem chg63 (h : St s m v1 v2 v3 l H) (hp : Pow H) {w n b : Tx} (hn : n.length ≤ 32) (hb : b.length ≤ 256) :
    ∃ H', F63 [.pointer (some ⟨s, 0, none⟩), .string (bs w), .string (bs n), .string (bs b)] H = some (.string (bs (aChange w n b l).1), H') ∧ St s m v1 v2 v3 (aChange w n b l).2 H' ∧ Ch (· = m) H H' := by
  have f : ∀ k r, fnE Tryz.prog G63 Tryz.f63 cuts63 k [.pointer (some ⟨s, 0, none⟩), .string (bs w), .string (bs n), .string (bs b)] H = some r → F63 [.pointer (some ⟨s, 0, none⟩), .string (bs w), .string (bs n), .string (bs b)] H = some r := fun m r h => FN_of m h (Nat.le_of_ble_eq_true (by kernel_rfl))
  have e := t63 1 (some ⟨s, 0, none⟩) (bs w) (bs n) (bs b) H
  simp only [eq_lit] at e
  unfold aChange
  by_cases h1 : w = tADD
  · obtain ⟨H1, c, st, ch⟩ := add78 h hp hn hb
    rw [decide_eq_true (show w = [65, 68, 68] from h1)] at e
    simp only [↓on_of c, ↓onS, ↓kInt_int, ↓kInt_u8, ↓kBool_bool, ↓kStr_str, ↓kTup_tup, ↓kPtr_ptr, ↓kSl_sl, ↓kAgg_agg, ↓kMp_mp] at e
    rw [if_pos h1]
    exact ⟨H1, f _ _ e, st, ch⟩
  rw [decide_eq_false (show ¬ w = [65, 68, 68] from h1)] at e
  rw [if_neg h1]
  by_cases h2 : w = tAPP
  · obtain ⟨H1, c, st, ch⟩ := ext79 h hp hn hb
    rw [decide_eq_true (show w = [65, 80, 80] from h2)] at e
    simp only [↓on_of c, ↓onS, ↓kInt_int, ↓kInt_u8, ↓kBool_bool, ↓kStr_str, ↓kTup_tup, ↓kPtr_ptr, ↓kSl_sl, ↓kAgg_agg, ↓kMp_mp] at e
    rw [if_pos h2]
    exact ⟨H1, f _ _ e, st, ch⟩
  rw [decide_eq_false (show ¬ w = [65, 80, 80] from h2)] at e
  rw [if_neg h2]
  obtain ⟨H1, c, st, ch⟩ := set80 h (n := n) (v := b) hn hb
  simp only [↓on_of c, ↓onS, ↓kInt_int, ↓kInt_u8, ↓kBool_bool, ↓kStr_str, ↓kTup_tup, ↓kPtr_ptr, ↓kSl_sl, ↓kAgg_agg, ↓kMp_mp] at e
  unfold aPut
  cases hs : vset n b l with
  | none => rw [hs] at e st; exact ⟨H1, f _ _ e, st, ch⟩
  | some l' => rw [hs] at e st; exact ⟨H1, f _ _ e, st, ch⟩
end
end Go.Proofs.YtbheppfjaeocpaaGreatDoor
