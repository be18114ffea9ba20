/- r2: a session of names and values, as plain Lean; a map of texts as such a list. -/
import Derived.Test.YtbheppfjaeocpaaGreatDoorFwS
import Derived.Lib.ItoaNum
import Derived.Lib.Atoi
import Derived.Sort.KeysCollected
set_option linter.unusedVariables false
set_option linter.unusedSimpArgs false
namespace Go.Proofs.YtbheppfjaeocpaaGreatDoor
open Go Go.RowKit Go.Proofs.YtbheppfjaeocpaaGreatDoor.Fw

abbrev Tx := List UInt8
/-- Names and values, rising by their names. -/
abbrev Vs := List (Tx × Tx)
def vfind (n : Tx) : Vs → Option Tx
  | [] => none
  | (k, v) :: r => if k = n then some v else vfind n r
def vput (n v : Tx) : Vs → Vs
  | [] => [(n, v)]
  | (k, u) :: r => if k = n then (n, v) :: r else if k < n then (k, u) :: vput n v r else (n, v) :: (k, u) :: r
def vdel (n : Tx) : Vs → Vs
  | [] => []
  | (k, u) :: r => if k = n then r else (k, u) :: vdel n r
def vset (n v : Tx) (l : Vs) : Option Vs := if (vfind n l).isNone && Nat.ble 64 l.length then none else some (vput n v l)

def tLIST : Tx := [76, 73, 83, 84]
def tCOUNT : Tx := [67, 79, 85, 78, 84]
def tCOUNTs : Tx := [67, 79, 85, 78, 84, 32]
def tQUIT : Tx := [81, 85, 73, 84]
def tBYE : Tx := [66, 89, 69]
def tBAD : Tx := [66, 65, 68]
def tFULL : Tx := [70, 85, 76, 76]
def tOK : Tx := [79, 75]
def tNONE : Tx := [78, 79, 78, 69]
def tVALUE : Tx := [86, 65, 76, 85, 69, 32]
def tGET : Tx := [71, 69, 84]
def tDEL : Tx := [68, 69, 76]
def tPUT : Tx := [80, 85, 84]
def tADD : Tx := [65, 68, 68]
def tAPP : Tx := [65, 80, 80]

/-- A text at its first blank. -/
def cutB : Tx → Tx × Tx × Bool
  | [] => ([], [], false)
  | b :: r => if b = 32 then ([], r, true) else (b :: (cutB r).1, (cutB r).2.1, (cutB r).2.2)
def isNmB (b : UInt8) : Bool := Nat.blt 32 b.toNat && Nat.blt b.toNat 127
def isNm (w : Tx) : Bool := !(w == []) && Nat.ble w.length 32 && w.all isNmB
def isDg (b : UInt8) : Bool := Nat.ble 48 b.toNat && Nat.ble b.toNat 57
def numU (t : Tx) : Option Nat := if t == [] || Nat.blt 9 t.length || !(t.all isDg) || (Nat.blt 1 t.length && t.head? == some 48) then none else Lib.decFrom 0 t
/-- A whole number. -/
def num : Tx → Option Int
  | 45 :: r => (match numU r with | some (n + 1) => some (-((n : Int) + 1)) | _ => none)
  | t => (numU t).map Int.ofNat
def old (n : Tx) (l : Vs) : Int := ((vfind n l).bind num).getD 0
def big (s : Int) : Bool := decide (1000000000 ≤ s) || decide (s ≤ -1000000000)
def aAdd (name b : Tx) (l : Vs) : Tx × Vs :=
  match num b with
  | none => (tBAD, l)
  | some n => if big (old name l + n) then (tBAD, l) else match vset name (Lib.itoa (old name l + n)) l with
    | none => (tFULL, l)
    | some l' => (tVALUE ++ Lib.itoa (old name l + n), l')
def aApp (name more : Tx) (l : Vs) : Tx × Vs :=
  if Nat.blt 200 (((vfind name l).getD []) ++ more).length then (tFULL, l) else match vset name (((vfind name l).getD []) ++ more) l with
    | none => (tFULL, l)
    | some l' => (tCOUNTs ++ Lib.itoa (((vfind name l).getD []) ++ more).length, l')
def aPut (name v : Tx) (l : Vs) : Tx × Vs := match vset name v l with
  | none => (tFULL, l)
  | some l' => (tOK, l')
def aAsk (word name : Tx) (l : Vs) : Tx × Vs := match vfind name l with
  | none => (tNONE, l)
  | some v => if word = tDEL then (tOK, vdel name l) else (tVALUE ++ v, l)
def tList (l : Vs) : Tx := tLIST ++ (l.map fun p => 32 :: p.1).flatten
/-- What a command of a name is answered. -/
def aCmd (word name value : Tx) (more : Bool) (l : Vs) : Tx × Vs :=
  if word = tGET ∨ word = tDEL then (if more then (tBAD, l) else aAsk word name l)
  else if word = tPUT then (if more then aPut name value l else (tBAD, l))
  else if word = tADD then (if more then aAdd name value l else (tBAD, l))
  else if word = tAPP then (if more then aApp name value l else (tBAD, l))
  else (tBAD, l)
def aLine (t : Tx) (l : Vs) : Tx × Vs × Bool :=
  if t = tLIST then (tList l, l, false)
  else if t = tCOUNT then (tCOUNTs ++ Lib.itoa l.length, l, false)
  else if t = tQUIT then (tBYE, l, true)
  else if (cutB t).2.2 && isNm (cutB (cutB t).2.1).1 then
    ((aCmd (cutB t).1 (cutB (cutB t).2.1).1 (cutB (cutB t).2.1).2.1 (cutB (cutB t).2.1).2.2 l).1, (aCmd (cutB t).1 (cutB (cutB t).2.1).1 (cutB (cutB t).2.1).2.1 (cutB (cutB t).2.1).2.2 l).2, false)
  else (tBAD, l, false)

/-- A session. -/
structure Ss where
  vals : Vs
  line : Tx
  long : Bool
  over : Bool
def Ss.new : Ss := ⟨[], [], false, false⟩
/-- The end of a line. -/
def endL (s : Ss) : Ss × Tx := match s.long with
  | true => (⟨s.vals, [], false, s.over⟩, tBAD ++ [10])
  | false => (⟨(aLine s.line s.vals).2.1, [], false, s.over || (aLine s.line s.vals).2.2⟩, (aLine s.line s.vals).1 ++ [10])
def stepC (s : Ss) (c : UInt8) : Ss × Tx :=
  match s.over with
  | true => (s, [])
  | false => if c = 10 then endL s else if Nat.blt s.line.length 256 then (⟨s.vals, s.line ++ [c], s.long, s.over⟩, []) else (⟨s.vals, s.line, true, s.over⟩, [])
def feed (s : Ss) : Tx → Ss × Tx
  | [] => (s, [])
  | c :: r => ((feed (stepC s c).1 r).1, (stepC s c).2 ++ (feed (stepC s c).1 r).2)
theorem feed_app (s : Ss) (a b : Tx) : feed s (a ++ b) = ((feed (feed s a).1 b).1, (feed s a).2 ++ (feed (feed s a).1 b).2) := by
  induction a generalizing s with
  | nil => simp [feed]
  | cons c r ih => simp [feed, ih, List.append_assoc]
theorem feed_over {s : Ss} (h : s.over = true) (t : Tx) : feed s t = (s, []) := by
  induction t with
  | nil => rfl
  | cons c r ih => simp [feed, stepC, h, ih]

/-! ### What is kept -/
def Rising (l : Vs) : Prop := l.Pairwise fun a b => a.1 < b.1
structure Good (s : Ss) : Prop where
  rise : Rising s.vals
  len : s.vals.length ≤ 64
  keys : ∀ p ∈ s.vals, p.1.length ≤ 32
  vals : ∀ p ∈ s.vals, p.2.length ≤ 256
  line : s.line.length ≤ 256

theorem tx_lt_irrefl (a : Tx) : ¬ a < a := List.lt_irrefl a
theorem tx_lt_trans {a b c : Tx} (h : a < b) (k : b < c) : a < c := List.lt_trans h k
theorem tx_lt_tri {a b : Tx} (h : a ≠ b) (k : ¬ a < b) : b < a := by
  rcases List.le_total a b with q | q
  · exact absurd (Std.lt_of_le_of_ne q h) k
  · exact Std.lt_of_le_of_ne q (Ne.symm h)

theorem vput_mem {n v : Tx} : ∀ {l : Vs} {p : Tx × Tx}, p ∈ vput n v l → p = (n, v) ∨ p ∈ l
  | [], p, h => by simp [vput] at h; exact .inl h
  | (k, u) :: r, p, h => by
    unfold vput at h
    split at h
    · rcases List.mem_cons.1 h with h | h
      · exact .inl h
      · exact .inr (List.mem_cons_of_mem _ h)
    · split at h
      · rcases List.mem_cons.1 h with h | h
        · exact .inr (h ▸ List.mem_cons_self)
        · rcases vput_mem h with h | h
          · exact .inl h
          · exact .inr (List.mem_cons_of_mem _ h)
      · rcases List.mem_cons.1 h with h | h
        · exact .inl h
        · exact .inr h
theorem vput_rising {n v : Tx} : ∀ {l : Vs}, Rising l → Rising (vput n v l)
  | [], _ => by simp [vput, Rising]
  | (k, u) :: r, h => by
    have h1 := List.pairwise_cons.1 h
    unfold vput
    split
    · rename_i e
      subst e
      exact List.pairwise_cons.2 ⟨h1.1, h1.2⟩
    · rename_i e
      split
      · rename_i hlt
        refine List.pairwise_cons.2 ⟨fun p hp => ?_, vput_rising h1.2⟩
        rcases vput_mem hp with rfl | hp
        · exact hlt
        · exact h1.1 p hp
      · rename_i hlt
        have hnk := tx_lt_tri e hlt
        refine List.pairwise_cons.2 ⟨fun p hp => ?_, h⟩
        rcases List.mem_cons.1 hp with rfl | hp
        · exact hnk
        · exact tx_lt_trans hnk (h1.1 p hp)
theorem vdel_sub (n : Tx) : ∀ l : Vs, (vdel n l).Sublist l
  | [] => List.Sublist.refl _
  | (k, u) :: r => by
    unfold vdel
    split
    · exact List.sublist_cons_self _ _
    · exact (vdel_sub n r).cons_cons _
theorem vdel_rising {n : Tx} {l : Vs} (h : Rising l) : Rising (vdel n l) := h.sublist (vdel_sub n l)
theorem vput_len {n v : Tx} : ∀ {l : Vs}, Rising l → (vput n v l).length = if (vfind n l).isNone then l.length + 1 else l.length
  | [], _ => rfl
  | (k, u) :: r, h => by
    have h1 := List.pairwise_cons.1 h
    unfold vput vfind
    split
    · rfl
    · rename_i e
      split
      · rw [List.length_cons, vput_len h1.2]
        split <;> simp
      · rename_i hlt
        have hnk := tx_lt_tri e hlt
        have : vfind n r = none := by
          have key : ∀ (r : Vs), (∀ p ∈ r, k < p.1) → vfind n r = none := by
            intro r
            induction r with
            | nil => intro _; rfl
            | cons p r ih =>
              intro hp
              unfold vfind
              rw [if_neg, ih fun q hq => hp q (List.mem_cons_of_mem _ hq)]
              intro e2
              have := hp p List.mem_cons_self
              rw [e2] at this
              exact tx_lt_irrefl _ (tx_lt_trans this hnk)
          exact key r h1.1
        rw [this]; rfl
theorem vset_len {n v : Tx} {l l' : Vs} (hr : Rising l) (hl : l.length ≤ 64) (h : vset n v l = some l') : l' = vput n v l ∧ l'.length ≤ 64 := by
  unfold vset at h
  split at h
  · cases h
  · rename_i hc
    obtain rfl := Option.some.inj h
    refine ⟨rfl, ?_⟩
    rw [vput_len hr]
    cases hv : vfind n l with
    | none =>
      simp only [hv, Option.isNone_none, Bool.true_and, Bool.not_eq_true] at hc
      have : ¬ 64 ≤ l.length := fun q => by rw [Nat.ble_eq_true_of_le q] at hc; cases hc
      simp; omega
    | some x => simpa using hl

/-! ### A map of texts -/
def encP (p : Tx × Tx) : Value × Value := (.string (bs p.1), .string (bs p.2))
def MapIs (es : List (Value × Value)) (l : Vs) : Prop := ∃ e0 : Vs, es = e0.map encP ∧ e0.Perm l
/-- As a map of the machine keeps them: a new one behind all others. -/
def set0 (n v : Tx) : Vs → Vs
  | [] => [(n, v)]
  | (k, u) :: r => if k = n then (n, v) :: r else (k, u) :: set0 n v r
theorem keyEq_bs (a b : Tx) : keyEq (.string (bs a)) (.string (bs b)) = decide (b = a) := by
  show ((bs a).data == (bs b).data) = _
  by_cases h : b = a
  · subst h; simp
  · have : (bs a).data ≠ (bs b).data := fun q => h (by simpa [bs] using q.symm)
    simp [h, this]
theorem mfind_enc (n : Tx) : ∀ e0 : Vs, mfind (.string (bs n)) (e0.map encP) = (vfind n e0).map fun v => .string (bs v)
  | [] => rfl
  | (k, u) :: r => by
    simp only [List.map_cons, encP, mfind, keyEq_bs, vfind]
    by_cases h : k = n
    · simp [h]
    · simp only [h, decide_false, Bool.false_eq_true, if_false]; exact mfind_enc n r
theorem mset_enc (n v : Tx) : ∀ e0 : Vs, mset (.string (bs n)) (.string (bs v)) (e0.map encP) = (set0 n v e0).map encP
  | [] => rfl
  | (k, u) :: r => by
    simp only [List.map_cons, encP, mset, keyEq_bs, set0]
    by_cases h : k = n
    · simp [h, encP]
    · simp only [h, decide_false, Bool.false_eq_true, if_false, List.map_cons]
      rw [mset_enc n v r]; rfl
theorem mdel_enc (n : Tx) : ∀ e0 : Vs, mdel (.string (bs n)) (e0.map encP) = (vdel n e0).map encP
  | [] => rfl
  | (k, u) :: r => by
    simp only [List.map_cons, encP, mdel, keyEq_bs, vdel]
    by_cases h : k = n
    · simp [h]
    · simp only [h, decide_false, Bool.false_eq_true, if_false, List.map_cons]
      rw [mdel_enc n r]; rfl
theorem keysOk_enc (n : Tx) (e0 : Vs) : keysOk (.string (bs n)) (e0.map encP) = true := by
  simp only [keysOk, List.all_map, List.all_eq_true]
  intro p _; rfl
/-- No name twice. -/
def Nod (l : Vs) : Prop := (l.map (·.1)).Nodup
theorem Rising.nod {l : Vs} (h : Rising l) : Nod l := by
  unfold Nod
  rw [List.Nodup, List.pairwise_map]
  refine List.Pairwise.imp (fun {a b} hab q => ?_) h
  rw [q] at hab
  exact tx_lt_irrefl _ hab
theorem vfind_mem {n v : Tx} : ∀ {l : Vs}, Nod l → (vfind n l = some v ↔ (n, v) ∈ l)
  | [], _ => by simp [vfind]
  | (k, u) :: r, h => by
    have h1 := List.nodup_cons.1 h
    unfold vfind
    split
    · rename_i e
      subst e
      constructor
      · intro q; obtain rfl := Option.some.inj q; exact List.mem_cons_self
      · intro q
        rcases List.mem_cons.1 q with q | q
        · rw [(Prod.mk.inj q).2]
        · exact absurd (List.mem_map.2 ⟨_, q, rfl⟩) h1.1
    · rename_i e
      rw [vfind_mem h1.2]
      constructor
      · exact List.mem_cons_of_mem _
      · intro q
        rcases List.mem_cons.1 q with q | q
        · exact absurd (Prod.mk.inj q).1.symm e
        · exact q
theorem vfind_perm {n : Tx} {a b : Vs} (h : a.Perm b) (hn : Nod b) : vfind n a = vfind n b := by
  have ha : Nod a := (h.map _).nodup_iff.2 hn
  cases hb : vfind n b with
  | some v => exact (vfind_mem ha).2 (h.mem_iff.2 ((vfind_mem hn).1 hb))
  | none =>
    cases hq : vfind n a with
    | none => rfl
    | some v =>
      have := (vfind_mem hn).2 (h.mem_iff.1 ((vfind_mem ha).1 hq))
      rw [hb] at this; cases this
theorem vdel_erase {n : Tx} : ∀ {l : Vs}, Nod l → (vdel n l).Perm (l.filter fun p => decide (p.1 ≠ n))
  | [], _ => List.Perm.refl _
  | (k, u) :: r, h => by
    have h1 := List.nodup_cons.1 h
    unfold vdel
    split
    · rename_i e
      subst e
      have hk : r.filter (fun p => decide (p.1 ≠ k)) = r := List.filter_eq_self.2 fun p hp => by
        simp only [ne_eq, decide_eq_true_eq]
        intro q
        exact h1.1 (List.mem_map.2 ⟨p, hp, q⟩)
      simp only [List.filter_cons, ne_eq, not_true_eq_false, decide_false, Bool.false_eq_true, if_false]
      rw [hk]
    · rename_i e
      simp only [List.filter_cons, ne_eq, e, not_false_eq_true, decide_true, if_true]
      exact (vdel_erase h1.2).cons _
theorem vdel_perm {n : Tx} {a b : Vs} (h : a.Perm b) (hn : Nod b) : (vdel n a).Perm (vdel n b) :=
  (vdel_erase ((h.map _).nodup_iff.2 hn)).trans ((h.filter _).trans (vdel_erase hn).symm)
theorem set0_perm {n v : Tx} : ∀ {l : Vs}, Nod l → (set0 n v l).Perm ((n, v) :: l.filter fun p => decide (p.1 ≠ n))
  | [], _ => List.Perm.refl _
  | (k, u) :: r, h => by
    have h1 := List.nodup_cons.1 h
    unfold set0
    split
    · rename_i e
      subst e
      have hk : r.filter (fun p => decide (p.1 ≠ k)) = r := List.filter_eq_self.2 fun p hp => by
        simp only [ne_eq, decide_eq_true_eq]
        intro q
        exact h1.1 (List.mem_map.2 ⟨p, hp, q⟩)
      simp only [List.filter_cons, ne_eq, not_true_eq_false, decide_false, Bool.false_eq_true, if_false]
      rw [hk]
    · rename_i e
      simp only [List.filter_cons, ne_eq, e, not_false_eq_true, decide_true, if_true]
      exact ((set0_perm h1.2).cons _).trans (List.Perm.swap _ _ _)
theorem vput_perm {n v : Tx} : ∀ {l : Vs}, Rising l → (vput n v l).Perm ((n, v) :: l.filter fun p => decide (p.1 ≠ n))
  | [], _ => List.Perm.refl _
  | (k, u) :: r, h => by
    have h1 := List.pairwise_cons.1 h
    have hn := List.nodup_cons.1 h.nod
    unfold vput
    split
    · rename_i e
      subst e
      have hk : r.filter (fun p => decide (p.1 ≠ k)) = r := List.filter_eq_self.2 fun p hp => by
        simp only [ne_eq, decide_eq_true_eq]
        intro q
        exact hn.1 (List.mem_map.2 ⟨p, hp, q⟩)
      simp only [List.filter_cons, ne_eq, not_true_eq_false, decide_false, Bool.false_eq_true, if_false]
      rw [hk]
    · rename_i e
      split
      · simp only [List.filter_cons, ne_eq, e, not_false_eq_true, decide_true, if_true]
        exact ((vput_perm h1.2).cons _).trans (List.Perm.swap _ _ _)
      · rename_i hlt
        have hnk := tx_lt_tri e hlt
        have hk : r.filter (fun p => decide (p.1 ≠ n)) = r := List.filter_eq_self.2 fun p hp => by
          simp only [ne_eq, decide_eq_true_eq]
          intro q
          have := h1.1 p hp
          rw [q] at this
          exact tx_lt_irrefl _ (tx_lt_trans this hnk)
        simp only [List.filter_cons, ne_eq, e, not_false_eq_true, decide_true, if_true]
        rw [hk]
theorem set0_vput {n v : Tx} {a b : Vs} (h : a.Perm b) (hr : Rising b) : (set0 n v a).Perm (vput n v b) :=
  (set0_perm ((h.map _).nodup_iff.2 hr.nod)).trans (((h.filter _).cons _).trans (vput_perm hr).symm)
theorem MapIs.find {es : List (Value × Value)} {l : Vs} (h : MapIs es l) (hr : Rising l) (n : Tx) : mfind (.string (bs n)) es = (vfind n l).map fun v => .string (bs v) := by
  obtain ⟨e0, rfl, hp⟩ := h
  rw [mfind_enc, vfind_perm hp hr.nod]
theorem MapIs.set {es : List (Value × Value)} {l : Vs} (h : MapIs es l) (hr : Rising l) (n v : Tx) : MapIs (mset (.string (bs n)) (.string (bs v)) es) (vput n v l) := by
  obtain ⟨e0, rfl, hp⟩ := h
  exact ⟨set0 n v e0, mset_enc n v e0, set0_vput hp hr⟩
theorem MapIs.del {es : List (Value × Value)} {l : Vs} (h : MapIs es l) (hr : Rising l) (n : Tx) : MapIs (mdel (.string (bs n)) es) (vdel n l) := by
  obtain ⟨e0, rfl, hp⟩ := h
  exact ⟨vdel n e0, mdel_enc n e0, vdel_perm hp hr.nod⟩
theorem MapIs.keys {es : List (Value × Value)} {l : Vs} (h : MapIs es l) (n : Tx) : keysOk (.string (bs n)) es = true := by
  obtain ⟨e0, rfl, hp⟩ := h
  exact keysOk_enc n e0
theorem MapIs.len {es : List (Value × Value)} {l : Vs} (h : MapIs es l) : es.length = l.length := by
  obtain ⟨e0, rfl, hp⟩ := h
  rw [List.length_map, hp.length_eq]
theorem MapIs.nil : MapIs [] [] := ⟨[], rfl, List.Perm.refl _⟩
end Go.Proofs.YtbheppfjaeocpaaGreatDoor
