/- FRAMEWORK 34: texts on trees: each step comes to what it comes to on lists. FRAMEWORK 35: concrete runs of whole functions: what they come to on trees is what the functions come to. -/
import Derived.Test.YtgnkjpbecgpjoaaGreatDoorFwX
set_option linter.unusedVariables false
set_option linter.unusedSimpArgs false
namespace Go.Proofs.YtgnkjpbecgpjoaaGreatDoor.Fw
open Go Go.RowKit
section
variable {α β : Type} {r : β}

/-! What is worked out at once, by the recursors themselves. -/
noncomputable def qN (n : Nat) (k : Nat → Option β) : Option β := Nat.rec (motive := fun _ => Option β) (k Nat.zero) (fun m _ => k (Nat.succ m)) n
noncomputable def qI (n : Int) (k : Int → Option β) : Option β := Int.rec (motive := fun _ => Option β) (fun m => qN m fun m => k (Int.ofNat m)) (fun m => qN m fun m => k (Int.negSucc m)) n
noncomputable def qB (b : Bool) (k : Bool → Option β) : Option β := Bool.rec (motive := fun _ => Option β) (k false) (k true) b
noncomputable def qL (l : List α) (k : List α → Option β) : Option β := List.rec (motive := fun _ => (List α → Option β) → Option β) (fun k => k []) (fun a _ ih k => ih fun l => k (a :: l)) l k
noncomputable def qM (f : α → (α → Option β) → Option β) (l : List α) (k : List α → Option β) : Option β := List.rec (motive := fun _ => (List α → Option β) → Option β) (fun k => k []) (fun a _ ih k => f a fun a => ih fun l => k (a :: l)) l k
noncomputable def qO (a : Option Nat) (k : Option Nat → Option β) : Option β := Option.rec (motive := fun _ => Option β) (k none) (fun n => qN n fun n => k (some n)) a
noncomputable def qA (a : Option Addr) (k : Option Addr → Option β) : Option β := Option.rec (motive := fun _ => Option β) (k none) (fun a => Addr.rec (motive := fun _ => Option β) (fun b o s => qN b fun b => qN o fun o => qO s fun s => k (some ⟨b, o, s⟩)) a) a
noncomputable def qS (s : ByteArray) (k : ByteArray → Option β) : Option β := match s with | ⟨⟨l⟩⟩ => qL l fun l => k ⟨⟨l⟩⟩
noncomputable def qF (f : Fn) (k : Fn → Option β) : Option β := match f with | .func f => qN f fun f => k (.func f) | f => k f
noncomputable def qV (d : Nat) : Value → (Value → Option β) → Option β :=
  Nat.rec (motive := fun _ => Value → (Value → Option β) → Option β) (fun v k => k v) (fun _ ih v k => @Value.casesOn (fun _ => Option β) v
    (fun b => qB b fun b => k (.bool b)) (fun kd n => qI n fun n => k (.int kd n)) (fun a b => k (.float a b)) (fun a b c => k (.complex a b c)) (fun s => qS s fun s => k (.string s))
    (fun a => qA a fun a => k (.pointer a)) (fun a l c => qA a fun a => qN l fun l => qN c fun c => k (.slice a l c)) (fun r => qO r fun r => k (.map r)) (fun r => k (.chan r))
    (fun f x y => qF f fun f => Array.rec (motive := fun _ => Option β) (fun x => Array.rec (motive := fun _ => Option β) (fun y => qM ih x fun x => qM ih y fun y => k (.func f ⟨x⟩ ⟨y⟩)) y) x)
    (k .nilFunc) (fun t v => qN t fun t => ih v fun v => k (.iface t v)) (k .nilIface) (fun cs => Array.rec (motive := fun _ => Option β) (fun l => qM ih l fun l => k (.agg ⟨l⟩)) cs) (fun cs => Array.rec (motive := fun _ => Option β) (fun l => qM ih l fun l => k (.tuple ⟨l⟩)) cs)) d
noncomputable def qOb (o : AObj) (k : AObj → Option β) : Option β :=
  match o with
  | .cells cs esz own => qL cs fun cs => qN esz fun esz => qB own fun own => k (.cells cs esz own)
  | .map es bs clk => qL es fun es => qM qN bs fun bs => qN clk fun clk => k (.map es bs clk)
  | .iter r since seen last => qO r fun r => qN since fun since => qM qN seen fun seen => qN last fun last => k (.iter r since seen last)
  | .dead => k .dead
theorem qN_eq (n : Nat) (k : Nat → Option β) : qN n k = k n := by cases n <;> rfl
theorem qI_eq (n : Int) (k : Int → Option β) : qI n k = k n := by
  cases n with
  | ofNat m => exact qN_eq m fun m => k (Int.ofNat m)
  | negSucc m => exact qN_eq m fun m => k (Int.negSucc m)
theorem qB_eq (b : Bool) (k : Bool → Option β) : qB b k = k b := by cases b <;> rfl
theorem qL_eq : ∀ (l : List α) (k : List α → Option β), qL l k = k l
  | [], k => rfl
  | a :: l, k => qL_eq l fun l => k (a :: l)
theorem qM_eq {f : α → (α → Option β) → Option β} (hf : ∀ a k, f a k = k a) : ∀ (l : List α) (k : List α → Option β), qM f l k = k l
  | [], k => rfl
  | a :: l, k => (hf a _).trans (qM_eq hf l fun l => k (a :: l))
theorem qO_eq (a : Option Nat) (k : Option Nat → Option β) : qO a k = k a := by
  cases a with
  | none => rfl
  | some n => exact qN_eq n fun n => k (some n)
theorem qA_eq (a : Option Addr) (k : Option Addr → Option β) : qA a k = k a := by
  cases a with
  | none => rfl
  | some a =>
    obtain ⟨b, o, s⟩ := a
    show qN b (fun b => qN o fun o => qO s fun s => k (some ⟨b, o, s⟩)) = _
    rw [qN_eq, qN_eq, qO_eq]
theorem qF_eq (f : Fn) (k : Fn → Option β) : qF f k = k f := by cases f <;> simp only [qF, qN_eq]
theorem qS_eq (s : ByteArray) (k : ByteArray → Option β) : qS s k = k s := by obtain ⟨⟨l⟩⟩ := s; simp only [qS, qL_eq]
theorem qV_eq : ∀ (d : Nat) (v : Value) (k : Value → Option β), qV d v k = k v
  | 0, v, k => rfl
  | d + 1, v, k => by
    cases v with
    | int kd n => exact qI_eq n fun n => k (.int kd n)
    | bool b => exact qB_eq b fun b => k (.bool b)
    | string s => exact qS_eq s fun s => k (.string s)
    | pointer a => exact qA_eq a fun a => k (.pointer a)
    | slice a l c =>
      show qA a (fun a => qN l fun l => qN c fun c => k (.slice a l c)) = _
      rw [qA_eq, qN_eq, qN_eq]
    | map r => exact qO_eq r fun r => k (.map r)
    | agg cs => obtain ⟨l⟩ := cs; exact qM_eq (qV_eq d) l fun l => k (.agg ⟨l⟩)
    | tuple cs => obtain ⟨l⟩ := cs; exact qM_eq (qV_eq d) l fun l => k (.tuple ⟨l⟩)
    | iface t v =>
      show qN t (fun t => qV d v fun v => k (.iface t v)) = _
      rw [qN_eq, qV_eq d]
    | func f x y =>
      obtain ⟨x⟩ := x; obtain ⟨y⟩ := y
      show qF f (fun f => qM (qV d) x fun x => qM (qV d) y fun y => k (.func f ⟨x⟩ ⟨y⟩)) = _
      rw [qF_eq, qM_eq (qV_eq d), qM_eq (qV_eq d)]
    | _ => rfl
theorem qOb_eq (o : AObj) (k : AObj → Option β) : qOb o k = k o := by
  cases o <;> simp only [qOb, qL_eq, qN_eq, qB_eq, qO_eq, qM_eq qN_eq]
/-- A part of a list. -/
noncomputable def qT (l : List α) : Nat → (List α → Option β) → Option β := List.rec (motive := fun _ => Nat → (List α → Option β) → Option β) (fun _ k => k []) (fun a _ ih n k => Nat.rec (motive := fun _ => Option β) (k []) (fun m _ => ih m fun l => k (a :: l)) n) l
theorem qT_eq : ∀ (l : List α) (n : Nat) (k : List α → Option β), qT l n k = k (l.take n)
  | [], n, k => by rw [List.take_nil]; rfl
  | a :: l, 0, k => rfl
  | a :: l, n + 1, k => qT_eq l n fun l => k (a :: l)
noncomputable def qD (l : List α) : Nat → (List α → Option β) → Option β := List.rec (motive := fun _ => Nat → (List α → Option β) → Option β) (fun _ k => k []) (fun a l ih n k => Nat.rec (motive := fun _ => Option β) (k (a :: l)) (fun m _ => ih m k) n) l
theorem qD_eq : ∀ (l : List α) (n : Nat) (k : List α → Option β), qD l n k = k (l.drop n)
  | [], n, k => by rw [List.drop_nil]; rfl
  | a :: l, 0, k => rfl
  | a :: l, n + 1, k => qD_eq l n k
noncomputable def qR (l : List α) (off n : Nat) (k : List α → Option β) : Option β := qD l off fun l => qT l n k
theorem qR_eq (l : List Value) (off n : Nat) (k : List Value → Option β) : qR l off n k = k (range l off n) := by unfold qR range; rw [qD_eq, qT_eq]

/-! The heap. -/
theorem KH.len (T : KH) : T.H.length = T.n := by simp [KH.H]
theorem KH.at_ (T : KH) (i : Nat) : T.H[i]? = if i < T.n then some ((T.t.get i).getD .dead) else none := by
  unfold KH.H
  rw [List.getElem?_map]
  split <;> rename_i h
  · rw [List.getElem?_range h]; rfl
  · rw [List.getElem?_eq_none (by simpa using h)]; rfl
noncomputable def kg (T : KH) (b : Nat) : Option AObj := KH.rec (motive := fun _ => Option AObj) (fun n t => Bool.rec (motive := fun _ => Option AObj) none (gR t b) (Nat.blt b n)) T
theorem kg_at {T : KH} {b : Nat} {o : AObj} (h : kg T b = some o) : T.H[b]? = some o ∧ b < T.n := by
  obtain ⟨n, t⟩ := T
  have hh : kg ⟨n, t⟩ b = Bool.rec (motive := fun _ => Option AObj) none (gR t b) (Nat.blt b n) := rfl
  rw [hh] at h
  cases hb : Nat.blt b n with
  | false => rw [hb] at h; cases h
  | true =>
    rw [hb] at h
    have hlt : b < n := Nat.le_of_ble_eq_true hb
    rw [KH.at_, if_pos hlt]
    have h : gR t b = some o := h
    rw [gR_eq] at h
    exact ⟨by rw [h]; rfl, hlt⟩
noncomputable def kset (T : KH) (b : Nat) (o : AObj) (k : KH → Option β) : Option β := KH.rec (motive := fun _ => Option β) (fun n t => pR t b o fun t => k ⟨n, t⟩) T
theorem kset_ok {T : KH} {b : Nat} {o : AObj} {k : KH → Option β} (h : kset T b o k = some r) (hb : b < T.n) : ∃ T', k T' = some r ∧ T'.H = T.H.set b o := by
  obtain ⟨n, t⟩ := T
  have h : pR t b o (fun t => k ⟨n, t⟩) = some r := h
  obtain ⟨t', h1, h2⟩ := pR_ok t h
  refine ⟨⟨n, t'⟩, h1, ?_⟩
  apply List.ext_getElem?
  intro i
  rw [KH.at_, List.getElem?_set, KH.at_, KH.len]
  simp only [h2]
  by_cases e : i = b
  · subst e; rw [if_pos hb]; simp [hb]
  · rw [if_neg (Ne.symm e), if_neg e]
noncomputable def kpush (T : KH) (o : AObj) (k : KH → Option β) : Option β := KH.rec (motive := fun _ => Option β) (fun n t => pR t n o fun t => qN (Nat.succ n) fun n => k ⟨n, t⟩) T
theorem kpush_ok {T : KH} {o : AObj} {k : KH → Option β} (h : kpush T o k = some r) : ∃ T', k T' = some r ∧ T'.H = T.H ++ [o] := by
  obtain ⟨n, t⟩ := T
  have h : pR t n o (fun t => qN (Nat.succ n) fun n => k ⟨n, t⟩) = some r := h
  obtain ⟨t', h1, h2⟩ := pR_ok t h
  rw [qN_eq] at h1
  refine ⟨_, h1, ?_⟩
  apply List.ext_getElem?
  intro i
  rw [KH.at_]
  simp only [h2]
  rcases Nat.lt_trichotomy i n with e | e | e
  · rw [List.getElem?_append_left (by rw [KH.len]; exact e), KH.at_, if_pos (by omega), if_pos e, if_neg (by omega)]
  · subst e
    rw [List.getElem?_append_right (by rw [KH.len]; exact Nat.le_refl _), KH.len, if_pos (by omega), if_pos rfl]; simp
  · rw [List.getElem?_append_right (by rw [KH.len]; simp only []; omega), KH.len, if_neg (by omega), List.getElem?_eq_none (by simp only [List.length_singleton]; omega)]

/-! Lists. -/
noncomputable def nthR (l : List α) : Nat → Option α := List.rec (motive := fun _ => Nat → Option α) (fun _ => none) (fun a _ ih i => Nat.rec (motive := fun _ => Option α) (some a) (fun j _ => ih j) i) l
theorem nthR_eq : ∀ (l : List α) (i : Nat), nthR l i = l[i]?
  | [], i => rfl
  | a :: l, 0 => rfl
  | a :: l, i + 1 => by rw [List.getElem?_cons_succ]; exact nthR_eq l i
noncomputable def setR (l : List α) : Nat → α → (List α → Option β) → Option β :=
  List.rec (motive := fun _ => Nat → α → (List α → Option β) → Option β) (fun _ _ _ => none) (fun a l ih i v k => Nat.rec (motive := fun _ => Option β) (k (v :: l)) (fun j _ => ih j v fun l => k (a :: l)) i) l
theorem setR_ok : ∀ {l : List α} {i : Nat} {v : α} {k : List α → Option β}, setR l i v k = some r → k (l.set i v) = some r ∧ i < l.length
  | [], i, v, k, h => by cases h
  | a :: l, 0, v, k, h => ⟨h, by simp⟩
  | a :: l, i + 1, v, k, h => by
    have h : setR l i v (fun l => k (a :: l)) = some r := h
    obtain ⟨h1, h2⟩ := setR_ok h
    exact ⟨h1, by simpa using h2⟩
noncomputable def kdN : IntKind → Nat := fun k => IntKind.rec (motive := fun _ => Nat) 0 1 2 3 4 5 6 7 k
theorem kdN_inj {a b : IntKind} (h : kdN a = kdN b) : a = b := by cases a <;> cases b <;> first | rfl | (exact absurd h (by decide))

/-! Steps. -/
noncomputable def sInt (kd : IntKind) (v : Value) (k : Int → Option β) : Option β := @Value.casesOn (fun _ => Option β) v (fun _ => none) (fun kd' n => Bool.rec (motive := fun _ => Option β) none (k n) (Nat.beq (kdN kd') (kdN kd))) (fun _ _ => none) (fun _ _ _ => none) (fun _ => none) (fun _ => none) (fun _ _ _ => none) (fun _ => none) (fun _ => none) (fun _ _ _ => none) none (fun _ _ => none) none (fun _ => none) (fun _ => none)
theorem sInt_ok {kd : IntKind} {v : Value} {k : Int → Option β} (h : sInt kd v k = some r) : ∃ n, v = .int kd n ∧ k n = some r := by
  cases v <;> simp only [sInt] at h <;> try (cases h; done)
  rename_i kd' n
  cases hb : Nat.beq (kdN kd') (kdN kd) with
  | false => rw [hb] at h; cases h
  | true =>
    rw [hb] at h
    have := kdN_inj (Nat.eq_of_beq_eq_true hb)
    subst this
    exact ⟨n, rfl, h⟩
noncomputable def sLdc (T : KH) (b : Nat) (k : List Value → Option β) : Option β := match kg T b with | some (.cells cs _ _) => k cs | _ => none
theorem sLdc_ok {T : KH} {b : Nat} {k : List Value → Option β} (h : sLdc T b k = some r) : ∃ cs, k cs = some r ∧ ∀ {γ : Type} (k' : List Value → Option γ), ldc T.H b k' = k' cs := by
  unfold sLdc at h
  split at h
  · rename_i cs esz own hk
    exact ⟨cs, h, fun k' => by simp only [ldc, (kg_at hk).1]⟩
  · cases h
noncomputable def sLd (T : KH) (b off : Nat) (k : Value → Option β) : Option β := sLdc T b fun cs => (match nthR cs off with | some v => k v | none => none)
theorem sLd_ok {T : KH} {b off : Nat} {k : Value → Option β} (h : sLd T b off k = some r) : ∃ v, k v = some r ∧ ∀ {γ : Type} (k' : Value → Option γ), (ldc T.H b fun cs => onSome cs[off]? k') = k' v := by
  obtain ⟨cs, h1, h2⟩ := sLdc_ok h
  split at h1
  · rename_i v hv
    rw [nthR_eq] at hv
    exact ⟨v, h1, fun k' => by rw [h2, hv]; rfl⟩
  · cases h1
noncomputable def sLdn (T : KH) (b off n : Nat) (k : Array Value → Option β) : Option β := sLdc T b fun cs => (match Nat.ble (Nat.add off n) cs.length with | true => qR cs off n fun l => k ⟨l⟩ | false => none)
theorem sLdn_ok {T : KH} {b off n : Nat} {k : Array Value → Option β} (h : sLdn T b off n k = some r) : ∃ v, k v = some r ∧ ∀ {γ : Type} (k' : Array Value → Option γ), (ldc T.H b fun cs => if off + n ≤ cs.length then k' (range cs off n).toArray else none) = k' v := by
  obtain ⟨cs, h1, h2⟩ := sLdc_ok h
  split at h1
  · rename_i hb
    rw [qR_eq] at h1
    have hb' : off + n ≤ cs.length := Nat.le_of_ble_eq_true hb
    exact ⟨_, h1, fun k' => by rw [h2, if_pos hb']⟩
  · cases h1
noncomputable def sSt (n : Nat) (T : KH) (a : Addr) (v : Value) (k : KH → Option β) : Option β :=
  match kg T a.block with
  | some (.cells cs esz true) => (match v with
      | .agg vs => if vs.size = n ∧ a.off + n ≤ cs.length then qL (splice cs a.off vs.toList) fun cs => kset T a.block (.cells cs esz true) k else none
      | v => (match Nat.beq n 1 with
          | true => setR cs a.off v fun cs => kset T a.block (.cells cs esz true) k
          | false => none))
  | _ => none
theorem sSt_ok {n : Nat} {T : KH} {a : Addr} {v : Value} {k : KH → Option β} (h : sSt n T a v k = some r) : ∃ T', k T' = some r ∧ ∀ {γ : Type} (k' : Value → Heap → Option γ), st n T.H a v k' = k' undef T'.H := by
  unfold sSt at h
  split at h
  rotate_left; · cases h
  rename_i cs esz hk
  obtain ⟨hH, hlt⟩ := kg_at hk
  have one : ∀ v : Value, (∀ vs, v ≠ .agg vs) → (match Nat.beq n 1 with | true => setR cs a.off v fun cs => kset T a.block (.cells cs esz true) k | false => none) = some r → v.cells.size = 1 → putc cs a.off v = cs.set a.off v → ∃ T', k T' = some r ∧ ∀ {γ : Type} (k' : Value → Heap → Option γ), st n T.H a v k' = k' undef T'.H := fun v hv h hs hp => by
    split at h
    · rename_i hn
      obtain ⟨h1, h2⟩ := setR_ok h
      obtain ⟨T', h3, h4⟩ := kset_ok h1 hlt
      refine ⟨T', h3, fun k' => ?_⟩
      have hn := Nat.eq_of_beq_eq_true hn
      simp only [st, hH]
      rw [if_pos ⟨by rw [hs, hn], by omega⟩, hp, h4]
    · cases h
  cases v with
  | agg vs =>
    simp only [] at h
    split at h
    · rename_i hc
      rw [qL_eq] at h
      obtain ⟨T', h3, h4⟩ := kset_ok h hlt
      refine ⟨T', h3, fun k' => ?_⟩
      simp only [st, hH]
      rw [if_pos (show (Value.agg vs).cells.size = n ∧ _ from hc), h4]; rfl
    · cases h
  | _ => exact one _ (fun vs e => by cases e) h rfl rfl
noncomputable def kpushI (T : KH) (o : AObj) (k : Nat → KH → Option β) : Option β := KH.rec (motive := fun _ => Option β) (fun n t => pR t n o fun t => qN (Nat.succ n) fun m => k n ⟨m, t⟩) T
theorem kpushI_ok {T : KH} {o : AObj} {k : Nat → KH → Option β} (h : kpushI T o k = some r) : ∃ T', k T.H.length T' = some r ∧ T'.H = T.H ++ [o] := by
  rw [KH.len]
  exact kpush_ok (T := T) (k := fun T2 => k T.n T2) h
noncomputable def sNew (T : KH) (o : AObj) (k : Nat → KH → Option β) : Option β := qOb o fun o => kpushI T o k
theorem sNew_ok {T : KH} {o : AObj} {k : Nat → KH → Option β} (h : sNew T o k = some r) : ∃ T', k T.H.length T' = some r ∧ T'.H = T.H ++ [o] := by
  unfold sNew at h
  rw [qOb_eq] at h
  exact kpushI_ok h
noncomputable def sSet (T : KH) (b : Nat) (o : AObj) (k : KH → Option β) : Option β := qOb o fun o => kset T b o k
theorem sSet_ok {T : KH} {b : Nat} {o : AObj} {k : KH → Option β} (h : sSet T b o k = some r) (hb : b < T.n) : ∃ T', k T' = some r ∧ T'.H = T.H.set b o := by
  unfold sSet at h
  rw [qOb_eq] at h
  exact kset_ok h hb
theorem bytes_force : ∀ (a : Value) (k : Value → Option β), qV 1 a k = k a := qV_eq 1
noncomputable def sFirst (T : KH) (sz : Nat) (v : Value) (k : Nat → List Value → Option β) : Option β :=
  match v with
  | .slice none len _ => if len = 0 then k 0 [] else none
  | .slice (some a) len _ => sLdc T a.block fun cs => if a.off + len * sz ≤ cs.length then k len (range cs a.off (len * sz)) else none
  | .string s => (match Nat.beq sz 1 with | true => qM (qV 1) (s.data.toList.map fun b => .int .u8 b.toNat) fun l => k s.size l | false => none)
  | _ => none
theorem sFirst_ok {T : KH} {sz : Nat} {v : Value} {k : Nat → List Value → Option β} (h : sFirst T sz v k = some r) : ∃ n l, k n l = some r ∧ ∀ {γ : Type} (k' : Nat → List Value → Option γ), firstC T.H sz v k' = k' n l := by
  unfold sFirst at h
  split at h
  · split at h
    · rename_i hl; exact ⟨_, _, h, fun k' => by simp only [firstC, hl, if_true]⟩
    · cases h
  · rename_i a len c
    obtain ⟨cs, h1, h2⟩ := sLdc_ok h
    split at h1
    · rename_i hc; exact ⟨_, _, h1, fun k' => by simp only [firstC]; rw [h2, if_pos hc]⟩
    · cases h1
  · rename_i s
    split at h
    · rename_i hs
      rw [qM_eq bytes_force] at h
      exact ⟨_, _, h, fun k' => by simp only [firstC, hs]⟩
    · cases h
  · cases h
noncomputable def sApp0 (P : Program) (e : TypeId) (T : KH) (s : Value) (n : Nat) (nw : List Value) (k : Value → KH → Option β) : Option β :=
  kSl s fun a len cap =>
    if (len + n) * P.bytesOf e ≤ 140737488355328 ∧ len + n ≤ 140737488355328 then
      match a with
      | none => if len = 0 ∧ cap = 0 then
          (if n = 0 then k (.slice none 0 0) T else sNew T (.cells nw (tyE P e) true) fun id T2 => k (.slice (some ⟨id, 0, none⟩) n unk) T2) else none
      | some a =>
        (match kg T a.block with
        | some (.cells cs esz own) =>
          if a.off + len * P.cellsOf e ≤ cs.length ∧ szOk esz (P.cellsOf e) e = true then
            (if unk ≤ cap then
              (if unk < cap ∧ len + n ≤ cap - unk ∧ own = true ∧ a.off + (len + n) * P.cellsOf e ≤ cs.length then
                sSet T a.block (.cells (splice cs (a.off + len * P.cellsOf e) nw) esz true) fun T => k (.slice (some a) (len + n) cap) T
              else if own = true then kset T a.block .dead fun T1 => sNew T1 (.cells (range cs a.off (len * P.cellsOf e) ++ nw) (tzOff a.off esz) true) fun id T2 => k (.slice (some ⟨id, 0, none⟩) (len + n) unk) T2 else none)
            else if len + n ≤ cap then
              (if own = true ∧ a.off + (len + n) * P.cellsOf e ≤ cs.length then sSet T a.block (.cells (splice cs (a.off + len * P.cellsOf e) nw) esz true) fun T => k (.slice (some a) (len + n) cap) T else none)
            else sNew T (.cells (range cs a.off (len * P.cellsOf e) ++ nw) (tyE P e) true) fun id T2 => k (.slice (some ⟨id, 0, none⟩) (len + n) unk) T2)
          else none
        | _ => none)
    else none
theorem sApp0_ok {P : Program} {e : TypeId} {T : KH} {s : Value} {n : Nat} {nw : List Value} {k : Value → KH → Option β} (h : sApp0 P e T s n nw k = some r) : ∃ v T', k v T' = some r ∧ ∀ {γ : Type} (k' : Value → Heap → Option γ), app P e T.H s n nw k' = k' v T'.H := by
  unfold sApp0 at h
  replace h := kSl_inv h; obtain ⟨a, len, cap, rfl, h⟩ := h
  split at h
  rotate_left; · cases h
  rename_i h0
  cases a with
  | none =>
    simp only [] at h
    split at h
    rotate_left; · cases h
    rename_i h1
    split at h
    · rename_i h2
      exact ⟨_, _, h, fun k' => by simp only [app, kSl]; rw [if_pos h0, if_pos h1, if_pos h2]⟩
    · rename_i h2
      obtain ⟨T', h3, h4⟩ := sNew_ok h
      exact ⟨_, _, h3, fun k' => by simp only [app, kSl]; rw [if_pos h0, if_pos h1, if_neg h2, h4]⟩
  | some a =>
    simp only [] at h
    split at h
    rotate_left; · cases h
    rename_i cs esz own hk
    obtain ⟨hH, hlt⟩ := kg_at hk
    split at h
    rotate_left; · cases h
    rename_i h1
    split at h
    · rename_i h2
      split at h
      · rename_i h3
        obtain ⟨T', h4, h5⟩ := sSet_ok h hlt
        exact ⟨_, _, h4, fun k' => by simp only [app, kSl, hH]; rw [if_pos h0, if_pos h1, if_pos h2, if_pos h3, h5]⟩
      · rename_i h3
        split at h
        · rename_i h4
          obtain ⟨T1, h5, h6⟩ := kset_ok h hlt
          obtain ⟨T2, h7, h8⟩ := sNew_ok h5
          refine ⟨_, _, h7, fun k' => ?_⟩
          simp only [app, kSl, hH]
          rw [if_pos h0, if_pos h1, if_pos h2, if_neg h3, if_pos h4, h8, h6, List.length_set]
        · cases h
    · rename_i h2
      split at h
      · rename_i h3
        split at h
        · rename_i h4
          obtain ⟨T', h5, h6⟩ := sSet_ok h hlt
          exact ⟨_, _, h5, fun k' => by simp only [app, kSl, hH]; rw [if_pos h0, if_pos h1, if_neg h2, if_pos h3, if_pos h4, h6]⟩
        · cases h
      · rename_i h3
        obtain ⟨T', h5, h6⟩ := sNew_ok h
        exact ⟨_, _, h5, fun k' => by simp only [app, kSl, hH]; rw [if_pos h0, if_pos h1, if_neg h2, if_neg h3, h6]⟩
noncomputable def sApp (P : Program) (e : TypeId) (T : KH) (s : Value) (n : Nat) (nw : List Value) (k : Value → KH → Option β) : Option β := sApp0 P e T s n nw fun v T => qV 1 v fun v => k v T
theorem sApp_ok {P : Program} {e : TypeId} {T : KH} {s : Value} {n : Nat} {nw : List Value} {k : Value → KH → Option β} (h : sApp P e T s n nw k = some r) : ∃ v T', k v T' = some r ∧ ∀ {γ : Type} (k' : Value → Heap → Option γ), app P e T.H s n nw k' = k' v T'.H := by
  obtain ⟨v, T', h1, h2⟩ := sApp0_ok h
  rw [qV_eq] at h1
  exact ⟨v, T', h1, h2⟩
noncomputable def sCpy (T : KH) (sz : Nat) (a : Option Addr) (len n : Nat) (cs : List Value) (k : Nat → KH → Option β) : Option β :=
  match a with
  | none => if len = 0 then k 0 T else none
  | some a => (match kg T a.block with
      | some (.cells old esz true) => if a.off + len * sz ≤ old.length then sSet T a.block (.cells (splice old a.off (cs.take (min n len * sz))) esz true) fun T => k (min n len) T else none
      | _ => none)
theorem sCpy_ok {T : KH} {sz : Nat} {a : Option Addr} {len n : Nat} {cs : List Value} {k : Nat → KH → Option β} (h : sCpy T sz a len n cs k = some r) : ∃ m T', k m T' = some r ∧ ∀ {γ : Type} (k' : Nat → Heap → Option γ), cpy T.H sz a len n cs k' = k' m T'.H := by
  unfold sCpy at h
  split at h
  · split at h
    · rename_i h0; exact ⟨_, _, h, fun k' => by simp only [cpy]; rw [if_pos h0]⟩
    · cases h
  · split at h
    · rename_i old esz hk
      obtain ⟨hH, hlt⟩ := kg_at hk
      split at h
      · rename_i h0
        obtain ⟨T', h1, h2⟩ := sSet_ok h hlt
        exact ⟨_, _, h1, fun k' => by simp only [cpy, hH]; rw [if_pos h0, h2]⟩
      · cases h
    · cases h
noncomputable def sClr (T : KH) (sz : Nat) (z : Value) (a : Option Addr) (len : Nat) (k : KH → Option β) : Option β :=
  match a with
  | none => k T
  | some a => (match kg T a.block with
      | some (.cells old esz true) => if a.off + len * sz ≤ old.length then sSet T a.block (.cells (splice old a.off (zeroCellsOf z len)) esz true) k else none
      | _ => none)
theorem sClr_ok {T : KH} {sz : Nat} {z : Value} {a : Option Addr} {len : Nat} {k : KH → Option β} (h : sClr T sz z a len k = some r) : ∃ T', k T' = some r ∧ ∀ {γ : Type} (k' : Heap → Option γ), clr T.H sz z a len k' = k' T'.H := by
  unfold sClr at h
  split at h
  · exact ⟨_, h, fun k' => rfl⟩
  · split at h
    · rename_i old esz hk
      obtain ⟨hH, hlt⟩ := kg_at hk
      split at h
      · rename_i h0
        obtain ⟨T', h1, h2⟩ := sSet_ok h hlt
        exact ⟨_, h1, fun k' => by simp only [clr, hH]; rw [if_pos h0, h2]⟩
      · cases h
    · cases h
noncomputable def sLdm (T : KH) (b : Nat) (k : List (Value × Value) → List Nat → Nat → Option β) : Option β := match kg T b with | some (.map es bs clk) => k es bs clk | _ => none
theorem sLdm_ok {T : KH} {b : Nat} {k : List (Value × Value) → List Nat → Nat → Option β} (h : sLdm T b k = some r) : ∃ es bs clk, k es bs clk = some r ∧ T.H[b]? = some (.map es bs clk) ∧ b < T.n := by
  unfold sLdm at h
  split at h
  · rename_i es bs clk hk
    exact ⟨es, bs, clk, h, kg_at hk⟩
  · cases h
theorem ldmB_of {H : Heap} {b : Nat} {es : List (Value × Value)} {bs : List Nat} {clk : Nat} (h : H[b]? = some (.map es bs clk)) (k : List (Value × Value) → List Nat → Nat → Option β) : ldmB H b k = k es bs clk := by simp only [ldmB, h]
noncomputable def sLdmo (T : KH) (r : Option Nat) (k : List (Value × Value) → Option β) : Option β := match r with | none => k [] | some r => sLdm T r fun es _ _ => k es
theorem sLdmo_ok {T : KH} {q : Option Nat} {k : List (Value × Value) → Option β} (h : sLdmo T q k = some r) : ∃ es, k es = some r ∧ ∀ {γ : Type} (k' : List (Value × Value) → Option γ), ldmo T.H q k' = k' es := by
  cases q with
  | none => exact ⟨_, h, fun k' => rfl⟩
  | some q =>
    obtain ⟨es, bs, clk, h1, h2, _⟩ := sLdm_ok h
    exact ⟨es, h1, fun k' => by simp only [ldmo, ldm, h2]⟩
noncomputable def sDele (T : KH) (r : Option Nat) (key : Value) (k : KH → Option β) : Option β :=
  match r with
  | none => k T
  | some r => sLdm T r fun es bs clk => (match keysOk key es with | true => sSet T r (.map (mdel key es) (bdel key es bs) clk) k | false => none)
theorem sDele_ok {T : KH} {q : Option Nat} {key : Value} {k : KH → Option β} (h : sDele T q key k = some r) : ∃ T', k T' = some r ∧ ∀ {γ : Type} (k' : Heap → Option γ), dele T.H q key k' = k' T'.H := by
  cases q with
  | none => exact ⟨_, h, fun k' => rfl⟩
  | some q =>
    obtain ⟨es, bs, clk, h1, h2, hlt⟩ := sLdm_ok h
    split at h1
    · rename_i hok
      obtain ⟨T', h3, h4⟩ := sSet_ok h1 hlt
      exact ⟨T', h3, fun k' => by simp only [dele]; rw [ldmB_of h2]; simp only [hok, h4]⟩
    · cases h1
noncomputable def sMupd (T : KH) (r : Nat) (key v : Value) (k : KH → Option β) : Option β :=
  sLdm T r fun es bs clk => (match keysOk key es with | true => sSet T r (.map (mset key v es) (bset key es bs clk) (cset key es clk)) k | false => none)
theorem sMupd_ok {T : KH} {q : Nat} {key v : Value} {k : KH → Option β} (h : sMupd T q key v k = some r) : ∃ T', k T' = some r ∧ ∀ {γ : Type} (k' : Heap → Option γ), mupd T.H q key v k' = k' T'.H := by
  obtain ⟨es, bs, clk, h1, h2, hlt⟩ := sLdm_ok h
  split at h1
  · rename_i hok
    obtain ⟨T', h3, h4⟩ := sSet_ok h1 hlt
    exact ⟨T', h3, fun k' => by simp only [mupd]; rw [ldmB_of h2]; simp only [hok, h4]⟩
  · cases h1
noncomputable def sMent (P : Program) (et : TypeId) (T : KH) (r : Nat) (key : Value) (k : Value → KH → Option β) : Option β :=
  sLdm T r fun es bs clk => (match keysOk key es with
    | true => (match midx key es with
        | some j => onSome es[j]? fun e => onSome bs[j]? fun b => sSet T r (.map (es.set j (key, e.2)) bs clk) fun T => k (.tuple #[e.2, .int .i64 b]) T
        | none => onSome (zeroOf P et) fun z => (match plainV z with | true => sSet T r (.map (es ++ [(key, z)]) (bs ++ [clk]) (clk + 1)) fun T => k (.tuple #[z, .int .i64 clk]) T | false => none))
    | false => none)
theorem sMent_ok {P : Program} {et : TypeId} {T : KH} {q : Nat} {key : Value} {k : Value → KH → Option β} (h : sMent P et T q key k = some r) : ∃ v T', k v T' = some r ∧ ∀ {γ : Type} (k' : Value → Heap → Option γ), ment P et T.H q key k' = k' v T'.H := by
  obtain ⟨es, bs, clk, h1, h2, hlt⟩ := sLdm_ok h
  split at h1
  rotate_left; · cases h1
  rename_i hok
  split at h1
  · rename_i j hj
    replace h1 := onSome_inv h1; obtain ⟨e, he, h1⟩ := h1
    replace h1 := onSome_inv h1; obtain ⟨b, hb, h1⟩ := h1
    obtain ⟨T', h3, h4⟩ := sSet_ok h1 hlt
    exact ⟨_, T', h3, fun k' => by simp only [ment]; rw [ldmB_of h2]; simp only [hok, hj, he, hb, onSome, h4]⟩
  · rename_i hj
    replace h1 := onSome_inv h1; obtain ⟨z, hz, h1⟩ := h1
    split at h1
    · rename_i hp
      obtain ⟨T', h3, h4⟩ := sSet_ok h1 hlt
      exact ⟨_, T', h3, fun k' => by simp only [ment]; rw [ldmB_of h2]; simp only [hok, hj, hz, onSome, hp, h4]⟩
    · cases h1
noncomputable def sEsto (T : KH) (r : Nat) (n : Int) (v : Value) (k : KH → Option β) : Option β :=
  sLdm T r fun es bs clk => onSome (bidx n bs) fun j => onSome es[j]? fun e => sSet T r (.map (es.set j (e.1, v)) bs clk) k
theorem sEsto_ok {T : KH} {q : Nat} {n : Int} {v : Value} {k : KH → Option β} (h : sEsto T q n v k = some r) : ∃ T', k T' = some r ∧ ∀ {γ : Type} (k' : Heap → Option γ), esto T.H q n v k' = k' T'.H := by
  obtain ⟨es, bs, clk, h1, h2, hlt⟩ := sLdm_ok h
  replace h1 := onSome_inv h1; obtain ⟨j, hj, h1⟩ := h1
  replace h1 := onSome_inv h1; obtain ⟨e, he, h1⟩ := h1
  obtain ⟨T', h3, h4⟩ := sSet_ok h1 hlt
  exact ⟨T', h3, fun k' => by simp only [esto]; rw [ldmB_of h2]; simp only [hj, he, onSome, h4]⟩
noncomputable def sLookup (P : Program) (mt : TypeId) (T : KH) (x ix : Value) (ok : Bool) (k : Value → Option β) : Option β :=
  match P.underlying mt with
  | some (.map kt et) => kKey P kt ix fun key => kMp x fun r => sLdmo T r fun es => (match keysOk key es with
     | false => none
     | true => (match mfind key es with
      | some v => kTy (kdOf P et) v fun v => k (okV ok v true)
      | none => onSome (zeroOf P et) fun z => (match plainV z with | true => k (okV ok z false) | false => none)))
  | _ => none
theorem sLookup_ok {P : Program} {mt : TypeId} {T : KH} {x ix : Value} {ok : Bool} {k : Value → Option β} (h : sLookup P mt T x ix ok k = some r) : ∃ v, k v = some r ∧ ∀ {γ : Type} (k' : Value → Option γ), lookupK P mt T.H x ix ok k' = k' v := by
  unfold sLookup at h
  split at h
  rotate_left; · cases h
  rename_i kt et hu
  have hkk : ∀ {γ : Type} (g : Value → Option γ), kKey P kt ix g = g ix := fun {γ} g => by
    obtain ⟨d, _, hk, _⟩ := kKey_inv h
    unfold kKey at h ⊢
    split at h
    · rename_i kk hk2
      rcases keyTy_forms hk2 h with ⟨kd, n, rfl, hu2⟩ | ⟨s, rfl, hu2⟩ | ⟨b, rfl, hu2⟩ <;> simp only [keyKd, hu2, Option.some.injEq] at hk2 <;> subst hk2 <;> simp [kTyC, kInt, kStr, kBool]
    · split at h
      · split at h
        · cases h
        · replace h := kAgg_inv h; obtain ⟨cs, rfl, h⟩ := h
          split at h
          · rename_i hc; simp only [kAgg]; rw [hc]
          · cases h
      · cases h
  rw [hkk] at h
  replace h := kMp_inv h; obtain ⟨q, rfl, h⟩ := h
  obtain ⟨es, h1, h2⟩ := sLdmo_ok h
  split at h1
  · cases h1
  rename_i hok
  split at h1
  · rename_i v hv
    have hty := h1
    replace h1 := kTy_inv h1
    refine ⟨_, h1, fun k' => ?_⟩
    unfold lookupK
    simp only [hu, hkk, kMp, h2, hok, hv]
    rw [kTy_b] at hty ⊢
    cases hz : kTy (kdOf P et) v some with
    | none => rw [hz] at hty; cases hty
    | some u =>
      have := kTy_inv hz
      obtain rfl := Option.some.inj this
      rfl
  · rename_i hv
    replace h1 := onSome_inv h1; obtain ⟨z, hz, h1⟩ := h1
    split at h1
    · rename_i hp
      refine ⟨_, h1, fun k' => ?_⟩
      unfold lookupK
      simp only [hu, hkk, kMp, h2, hok, hv, hz, onSome, hp]
    · cases h1
noncomputable def sRng (T : KH) (r : Option Nat) (k : Value → KH → Option β) : Option β :=
  match r with
  | none => kpush T (.iter none 0 [] 0) fun T2 => k (.pointer (some ⟨T.n, 0, none⟩)) T2
  | some r => sLdm T r fun _ _ clk => kpush T (.iter (some r) clk [] clk) fun T2 => k (.pointer (some ⟨T.n, 0, none⟩)) T2
theorem sRng_ok {T : KH} {q : Option Nat} {k : Value → KH → Option β} (h : sRng T q k = some r) : ∃ v T', k v T' = some r ∧ ∀ {γ : Type} (k' : Value → Heap → Option γ), rngA T.H q k' = k' v T'.H := by
  cases q with
  | none =>
    obtain ⟨T', h1, h2⟩ := kpush_ok h
    exact ⟨_, _, h1, fun k' => by simp only [rngA, h2, KH.len]⟩
  | some q =>
    obtain ⟨es, bs, clk, h1, h2, _⟩ := sLdm_ok h
    obtain ⟨T', h3, h4⟩ := kpush_ok h1
    exact ⟨_, _, h3, fun k' => by simp only [rngA]; rw [ldmB_of h2, h4, KH.len]⟩
noncomputable def sEntr (T : KH) (a : Addr) (k : Value → Option β) : Option β :=
  match kg T a.block with
  | some (.iter (some r) _ seen last) => if a.off = 0 then onSome seen.getLast? fun s => sLdm T r fun es bs clk => if clk = last then onSome (bidx s bs) fun j => onSome es[j]? fun e => k (.tuple #[e.1, e.2]) else none else none
  | _ => none
theorem sEntr_ok {T : KH} {a : Addr} {k : Value → Option β} (h : sEntr T a k = some r) : ∃ v, k v = some r ∧ ∀ {γ : Type} (k' : Value → Option γ), entr T.H a k' = k' v := by
  unfold sEntr at h
  split at h
  rotate_left; · cases h
  rename_i q since seen last hk
  obtain ⟨hH, _⟩ := kg_at hk
  split at h
  rotate_left; · cases h
  rename_i h0
  replace h := onSome_inv h; obtain ⟨s, hs, h⟩ := h
  obtain ⟨es, bs, clk, h1, h2, _⟩ := sLdm_ok h
  split at h1
  rotate_left; · cases h1
  rename_i h3
  replace h1 := onSome_inv h1; obtain ⟨j, hj, h1⟩ := h1
  replace h1 := onSome_inv h1; obtain ⟨e, he, h1⟩ := h1
  refine ⟨_, h1, fun k' => ?_⟩
  unfold entr
  simp only [hH]
  rw [if_pos h0, hs]
  simp only [onSome]
  rw [ldmB_of h2, if_pos h3, hj]
  simp only [onSome, he]
noncomputable def sUStr (T : KH) (a : Addr) (n : Int) (u one : Nat) (k : ByteArray → KH → Option β) : Option β :=
  match kg T a.block with
  | some (.cells cs esz true) => if 0 < n ∧ n ≤ 9223372036854775807 ∧ n.toNat ≤ cs.length ∧ a.off = 0 ∧ esz / tyM = u + 1 ∧ one = 1 then
      onSome (bytesOf (cs.take n.toNat)) fun l => kset T a.block .dead fun T => qL l fun l => k ⟨l.toArray⟩ T else none
  | _ => none
theorem sUStr_ok {T : KH} {a : Addr} {n : Int} {u one : Nat} {k : ByteArray → KH → Option β} (h : sUStr T a n u one k = some r) : ∃ s T', k s T' = some r ∧ ∀ {γ : Type} (k' : ByteArray → Heap → Option γ), uStr T.H a n u one k' = k' s T'.H := by
  unfold sUStr at h
  split at h
  rotate_left; · cases h
  rename_i cs esz hk
  obtain ⟨hH, hlt⟩ := kg_at hk
  split at h
  rotate_left; · cases h
  rename_i h0
  replace h := onSome_inv h; obtain ⟨l, hl, h⟩ := h
  obtain ⟨T', h1, h2⟩ := kset_ok h hlt
  rw [qL_eq] at h1
  exact ⟨_, _, h1, fun k' => by simp only [uStr, hH]; rw [if_pos h0, hl]; simp only [onSome, h2]⟩
noncomputable def sFromU (T : KH) (a : Addr) (u n : Nat) (k : Option β) : Option β :=
  match kg T a.block with
  | some (.cells cs esz _) => if a.off = 0 ∧ n ≤ cs.length ∧ n ≠ 0 ∧ esz / tyM = u + 1 then k else none
  | _ => none
theorem sFromU_ok {T : KH} {a : Addr} {u n : Nat} {k : Option β} (h : sFromU T a u n k = some r) : k = some r ∧ ∀ {γ : Type} (k' : Option γ), fromU T.H a u n k' = k' := by
  unfold sFromU at h
  split at h
  rotate_left; · cases h
  rename_i cs esz own hk
  obtain ⟨hH, _⟩ := kg_at hk
  split at h
  · rename_i h0; exact ⟨h, fun k' => by simp only [fromU, hH]; rw [if_pos h0]⟩
  · cases h
noncomputable def sEs (T : KH) (b sz : Nat) (k : Option β) : Option β := match kg T b with | some (.cells _ esz _) => (match Nat.beq (Nat.mod esz tyM) sz with | true => k | false => none) | _ => none
theorem sEs_ok {T : KH} {b sz : Nat} {k : Option β} (h : sEs T b sz k = some r) : k = some r ∧ ∀ {γ : Type} (k' : Option γ), esOk T.H b sz k' = k' := by
  unfold sEs at h
  split at h
  rotate_left; · cases h
  rename_i cs esz own hk
  obtain ⟨hH, _⟩ := kg_at hk
  split at h
  · rename_i h0
    have h0 : Nat.beq (esz % tyM) sz = true := h0
    exact ⟨h, fun k' => by simp only [esOk, hH, h0]⟩
  · cases h
noncomputable def sSlSl (T : KH) (sz : Nat) (a : Option Addr) (len cap : Nat) (l h : Int) (k : Value → Option β) : Option β :=
  match a with
  | none => if l = 0 ∧ h = 0 ∧ len = 0 ∧ cap = 0 then k (.slice none 0 0) else none
  | some a => sEs T a.block sz (if 0 ≤ l ∧ l ≤ h ∧ (h ≤ len ∨ (¬ unk ≤ cap ∧ h ≤ cap) ∨ (unk ≤ cap ∧ h ≤ (cap - unk : Nat))) then qV 1 (.slice (some (a.add (l.toNat * sz))) (h.toNat - l.toNat) (slCap len cap l.toNat)) k else none)
theorem sSlSl_ok {T : KH} {sz : Nat} {a : Option Addr} {len cap : Nat} {l h : Int} {k : Value → Option β} (hh : sSlSl T sz a len cap l h k = some r) : ∃ v, k v = some r ∧ ∀ {γ : Type} (k' : Value → Option γ), slSl T.H sz a len cap l h k' = k' v := by
  unfold sSlSl at hh
  split at hh
  · split at hh
    · rename_i h0; exact ⟨_, hh, fun k' => by simp only [slSl]; rw [if_pos h0]⟩
    · cases hh
  · obtain ⟨h1, h2⟩ := sEs_ok hh
    split at h1
    · rename_i h0; rw [qV_eq] at h1; exact ⟨_, h1, fun k' => by simp only [slSl]; rw [h2, if_pos h0]⟩
    · cases h1
noncomputable def sSlSl3 (T : KH) (sz : Nat) (a : Option Addr) (len cap : Nat) (l h m : Int) (k : Value → Option β) : Option β :=
  match a with
  | none => none
  | some a => sEs T a.block sz (if 0 ≤ l ∧ l ≤ h ∧ h ≤ m ∧ (m ≤ len ∨ (¬ unk ≤ cap ∧ m ≤ cap) ∨ (unk ≤ cap ∧ m ≤ (cap - unk : Nat))) then qV 1 (.slice (some (a.add (l.toNat * sz))) (h.toNat - l.toNat) (m.toNat - l.toNat)) k else none)
theorem sSlSl3_ok {T : KH} {sz : Nat} {a : Option Addr} {len cap : Nat} {l h m : Int} {k : Value → Option β} (hh : sSlSl3 T sz a len cap l h m k = some r) : ∃ v, k v = some r ∧ ∀ {γ : Type} (k' : Value → Option γ), slSl3 T.H sz a len cap l h m k' = k' v := by
  unfold sSlSl3 at hh
  split at hh
  · cases hh
  · obtain ⟨h1, h2⟩ := sEs_ok hh
    split at h1
    · rename_i h0; rw [qV_eq] at h1; exact ⟨_, h1, fun k' => by simp only [slSl3]; rw [h2, if_pos h0]⟩
    · cases h1
noncomputable def sSlArr (T : KH) (sz n : Nat) (a : Addr) (l h : Int) (k : Value → Option β) : Option β :=
  sEs T a.block sz (sLdc T a.block fun cs => if 0 ≤ l ∧ l ≤ h ∧ h ≤ (n : Int) ∧ a.off + n * sz ≤ cs.length then qV 1 (.slice (some (a.add (l.toNat * sz))) (h.toNat - l.toNat) (n - l.toNat)) k else none)
theorem sSlArr_ok {T : KH} {sz n : Nat} {a : Addr} {l h : Int} {k : Value → Option β} (hh : sSlArr T sz n a l h k = some r) : ∃ v, k v = some r ∧ ∀ {γ : Type} (k' : Value → Option γ), slArr T.H sz n a l h k' = k' v := by
  unfold sSlArr at hh
  obtain ⟨h1, h2⟩ := sEs_ok hh
  obtain ⟨cs, h3, h4⟩ := sLdc_ok h1
  split at h3
  · rename_i h0; rw [qV_eq] at h3; exact ⟨_, h3, fun k' => by simp only [slArr]; rw [h2, h4, if_pos h0]⟩
  · cases h3
theorem kwr_eq (kd : IntKind) (n : Int) (k : Int → Option β) : kwr kd n k = k (kd.wrap n) := by
  cases kd <;> simp only [kwr]
  cases n with
  | ofNat m =>
    simp only []
    cases hb : Nat.blt m 9223372036854775808 with
    | false => rfl
    | true =>
      have h : m < 9223372036854775808 := Nat.le_of_ble_eq_true hb
      have : IntKind.i64.wrap (Int.ofNat m) = Int.ofNat m := by
        rw [IntKind.wrap_i64]
        have : Int.ofNat m = (m : Int) := rfl
        rw [this]
        omega
      simp only [this]
  | negSucc m =>
    simp only []
    cases hb : Nat.blt m 9223372036854775808 with
    | false => rfl
    | true =>
      have h : m < 9223372036854775808 := Nat.le_of_ble_eq_true hb
      have : IntKind.i64.wrap (Int.negSucc m) = Int.negSucc m := by
        rw [IntKind.wrap_i64]
        have : Int.negSucc m = -(m : Int) - 1 := by omega
        rw [this]
        omega
      simp only [this]
def cmpK (op : BinOp) (a b : Int) : Bool :=
  match op with
  | .eql => eqI a b
  | .neq => !(eqI a b)
  | .lss => ltI a b
  | .leq => !(ltI b a)
  | .gtr => ltI b a
  | .geq => !(ltI a b)
  | _ => false
theorem cmpK_eq (op : BinOp) (a b : Int) : cmpK op a b = cmpB op a b := by
  cases op <;> simp only [cmpK, cmpB, eqI_eq, ltI_eq]
  · rfl
  · rw [← decide_not]; congr 1; exact propext ⟨fun h => by omega, fun h => by omega⟩
  · rw [← decide_not]; congr 1; exact propext ⟨fun h => by omega, fun h => by omega⟩
/-! Whole numbers, known or not. -/
noncomputable def ar2 (op : BinOp) (kd : IntKind) (a b : Int) (c : Value → Option β) : Option β :=
  match op with
  | .add => kwr kd (a + b) fun n => c (.int kd n)
  | .sub => kwr kd (a - b) fun n => c (.int kd n)
  | .mul => kwr kd (a * b) fun n => c (.int kd n)
  | op => binInt op kd a b c
theorem ar2_eq (op : BinOp) (kd : IntKind) (a b : Int) (c : Value → Option β) : ar2 op kd a b c = binInt op kd a b c := by
  cases op <;> simp only [ar2, binInt, kwr_eq]
/-- What is known, and how. -/
noncomputable def sPair (kd : IntKind) (x y : Value) (no : Option β) (k : Int → Int → Option β) : Option β :=
  @Value.casesOn (fun _ => Option β) x (fun _ => no)
    (fun k1 a => @Value.casesOn (fun _ => Option β) y (fun _ => no)
      (fun k2 b => Bool.rec (motive := fun _ => Option β) no (Bool.rec (motive := fun _ => Option β) no (k a b) (Nat.beq (kdN k2) (kdN kd))) (Nat.beq (kdN k1) (kdN kd)))
      (fun _ _ => no) (fun _ _ _ => no) (fun _ => no) (fun _ => no) (fun _ _ _ => no) (fun _ => no) (fun _ => no) (fun _ _ _ => no) no (fun _ _ => no) no (fun _ => no) (fun _ => no))
    (fun _ _ => no) (fun _ _ _ => no) (fun _ => no) (fun _ => no) (fun _ _ _ => no) (fun _ => no) (fun _ => no) (fun _ _ _ => no) no (fun _ _ => no) no (fun _ => no) (fun _ => no)
theorem kdN_beq (a b : IntKind) : Nat.beq (kdN a) (kdN b) = eqK a b := by
  cases hb : Nat.beq (kdN a) (kdN b) with
  | true => have := kdN_inj (Nat.eq_of_beq_eq_true hb); subst this; symm; exact decide_eq_true rfl
  | false =>
    symm
    refine decide_eq_false fun e => ?_
    subst e
    rw [Nat.beq_refl] at hb; cases hb
theorem sPair_eq {kd : IntKind} {x y : Value} {no : Option β} {k : Int → Int → Option β} : sPair kd x y no k = (match intPair kd x y with | some p => k p.1 p.2 | none => no) := by
  cases x <;> try rfl
  rename_i k1 a
  cases y <;> try rfl
  rename_i k2 b
  show Bool.rec (motive := fun _ => Option β) no (Bool.rec (motive := fun _ => Option β) no (k a b) (Nat.beq (kdN k2) (kdN kd))) (Nat.beq (kdN k1) (kdN kd)) = _
  rw [kdN_beq, kdN_beq]
  simp only [intPair]
  cases eqK k1 kd <;> cases eqK k2 kd <;> rfl
noncomputable def sArV (op : BinOp) (kd : IntKind) (x y : Value) (k : Value → Option β) : Option β :=
  sPair kd x y (match isI64 kd with
    | true => onSome (siOf x) fun s => onSome (siOf y) fun u => onSome (arS op s u) fun z => qV 2 (outS z) k
    | false => none) fun a b => ar2 op kd a b fun v => qV 1 v k
theorem sArV_eq {op : BinOp} {kd : IntKind} {x y : Value} {k : Value → Option β} : sArV op kd x y k = arV op kd x y k := by
  unfold sArV arV
  rw [sPair_eq]
  simp only [ar2_eq, qV_eq]
  cases intPair kd x y <;> rfl
noncomputable def sCmpV (op : BinOp) (kd : IntKind) (x y : Value) (k : Bool → Option β) : Option β :=
  sPair kd x y (match isI64 kd with
    | true => onSome (siOf x) fun s => onSome (siOf y) fun u => onSome (cmpS op s u) fun b => qB b k
    | false => none) fun a b => qB (cmpK op a b) k
theorem sCmpV_eq {op : BinOp} {kd : IntKind} {x y : Value} {k : Bool → Option β} : sCmpV op kd x y k = cmpV op kd x y k := by
  unfold sCmpV cmpV
  rw [sPair_eq]
  simp only [qB_eq, cmpK_eq]
  cases intPair kd x y <;> rfl
noncomputable def sMmV (mx : Bool) (kd : IntKind) (x y : Value) (k : Value → Option β) : Option β := mmV mx kd x y fun v => qV 2 v k
theorem sMmV_eq {mx : Bool} {kd : IntKind} {x y : Value} {k : Value → Option β} : sMmV mx kd x y k = mmV mx kd x y k := by
  unfold sMmV; congr 1; funext v; exact qV_eq 2 v k
noncomputable def sShV (op : BinOp) (x y : Value) (k : Value → Option β) : Option β := shV op x y fun v => qV 2 v k
theorem sShV_eq {op : BinOp} {x y : Value} {k : Value → Option β} : sShV op x y k = shV op x y k := by
  unfold sShV; congr 1; funext v; exact qV_eq 2 v k
noncomputable def sCvtV (ks kd : IntKind) (v : Value) (k : Value → Option β) : Option β := cvtV ks kd v fun v => qV 2 v k
theorem sCvtV_eq {ks kd : IntKind} {v : Value} {k : Value → Option β} : sCvtV ks kd v k = cvtV ks kd v k := by
  unfold sCvtV; congr 1; funext v; exact qV_eq 2 v k
noncomputable def sTyI (kd : IntKind) (v : Value) (k : Value → Option β) : Option β :=
  @Value.casesOn (fun _ => Option β) v (fun _ => none) (fun kd' n => Bool.rec (motive := fun _ => Option β) none (k v) (Nat.beq (kdN kd') (kdN kd))) (fun _ _ => none) (fun _ _ _ => none) (fun _ => none) (fun _ => none) (fun _ _ _ => none) (fun _ => none) (fun _ => none) (fun _ _ _ => kIntS kd v k) none (fun _ _ => none) none (fun _ => none) (fun _ => none)
theorem sTyI_ok {kd : IntKind} {v : Value} {k : Value → Option β} (h : sTyI kd v k = some r) : k v = some r ∧ ∀ {γ : Type} (k' : Value → Option γ), kIntS kd v k' = k' v := by
  cases v <;> simp only [sTyI] at h <;> try (cases h; done)
  · rename_i kd' n
    cases hb : Nat.beq (kdN kd') (kdN kd) with
    | false => rw [hb] at h; cases h
    | true =>
      rw [hb] at h
      have := kdN_inj (Nat.eq_of_beq_eq_true hb)
      subst this
      exact ⟨h, fun k' => by show (if kd' = kd' then k' (.int kd' n) else none) = _; rw [if_pos rfl]⟩
  · rename_i f x y
    obtain ⟨h1, h2⟩ := kIntS_inv h
    rcases h2 with ⟨n, e⟩ | ⟨h2, h3⟩
    · cases e
    · exact ⟨h1, fun k' => by subst h3; simp only [kIntS, h2, isI64]⟩
noncomputable def sInb (i : Int) (n : Nat) (k : Option β) : Option β := match i with | .ofNat m => (match Nat.blt m n with | true => k | false => none) | .negSucc _ => none
theorem sInb_ok {i : Int} {n : Nat} {k : Option β} (h : sInb i n k = some r) : k = some r ∧ (0 ≤ i ∧ i < (n : Nat)) := by
  cases i with
  | ofNat m =>
    simp only [sInb] at h
    split at h
    · rename_i hb
      have hb : m < n := Nat.le_of_ble_eq_true hb
      exact ⟨h, Int.natCast_nonneg m, by have e : Int.ofNat m = (m : Int) := rfl
                                         rw [e]; omega⟩
    · cases h
  | negSucc m => cases h
/-! Texts. -/
noncomputable def sSlStr (s : ByteArray) (l h : Int) (k : ByteArray → Option β) : Option β :=
  if 0 ≤ h ∧ h ≤ s.size ∧ 0 ≤ l ∧ l ≤ h then qL ((s.data.toList.take h.toNat).drop l.toNat) fun x => k ⟨⟨x⟩⟩ else none
theorem sSlStr_ok {s : ByteArray} {l h : Int} {k : ByteArray → Option β} (hh : sSlStr s l h k = some r) : ∃ x, k x = some r ∧ ∀ {γ : Type} (k' : ByteArray → Option γ), (slStr s l h fun v => kStr v k') = k' x := by
  unfold sSlStr at hh
  split at hh
  · rename_i h0
    rw [qL_eq] at hh
    refine ⟨_, hh, fun k' => ?_⟩
    unfold slStr
    rw [if_pos h0]
    simp only [kStr]
    congr 1
    obtain ⟨d⟩ := s
    apply ByteArray.ext
    rw [ByteArray.data_extract]
    apply Array.ext'
    rw [Array.toList_extract]
    simp [List.extract, List.drop_take]
  · cases hh
noncomputable def sCat (a b : ByteArray) (k : ByteArray → Option β) : Option β :=
  match Nat.ble (Nat.add a.data.toList.length b.data.toList.length) 9223372036854775807 with
  | true => qL (a.data.toList ++ b.data.toList) fun x => k ⟨⟨x⟩⟩
  | false => none
theorem sCat_ok {a b : ByteArray} {k : ByteArray → Option β} (h : sCat a b k = some r) : ∃ x, k x = some r ∧ x = a ++ b ∧ a.size + b.size ≤ 9223372036854775807 := by
  unfold sCat at h
  split at h
  · rename_i h0
    rw [qL_eq] at h
    refine ⟨_, h, ?_, by have h0 := Nat.le_of_ble_eq_true h0; simpa using h0⟩
    apply ByteArray.ext
    rw [ByteArray.data_append]
    apply Array.ext'
    simp
  · cases h
def sEqB (a b : ByteArray) : Bool := eqL eqB a.data.toList b.data.toList
theorem eqL_iff {α : Type} {f : α → α → Bool} (hf : ∀ a b, f a b = true ↔ a = b) : ∀ (a b : List α), eqL f a b = true ↔ a = b
  | [], [] => by simp [eqL]
  | [], _ :: _ => by simp [eqL]
  | _ :: _, [] => by simp [eqL]
  | a :: l, b :: m => by
    simp only [eqL]
    cases h : f a b with
    | true => simp only [(hf a b).1 h, eqL_iff hf l m, List.cons.injEq, true_and]
    | false => simp only [List.cons.injEq, Bool.false_eq_true, false_iff, not_and]; intro e; rw [(hf a b).2 e] at h; cases h
theorem sEqB_eq (a b : ByteArray) : sEqB a b = (a.toList == b.toList) := by
  have hB : ∀ a b : UInt8, eqB a b = true ↔ a = b := fun a b => ⟨fun h => UInt8.toNat_inj.1 (Nat.eq_of_beq_eq_true h), fun h => by rw [h]; exact Nat.beq_refl _⟩
  have h := eqL_iff hB a.data.toList b.data.toList
  have e1 : a.toList = a.data.toList := by simp [ByteArray.toList_eq]
  have e2 : b.toList = b.data.toList := by simp [ByteArray.toList_eq]
  rw [e1, e2]
  unfold sEqB
  cases hq : eqL eqB a.data.toList b.data.toList with
  | true => rw [h.1 hq]; simp
  | false => symm; rw [beq_eq_false_iff_ne]; intro e; rw [h.2 e] at hq; cases hq
noncomputable def sByte (s : ByteArray) (i : Nat) : Int := match nthR s.data.toList i with | some b => Int.ofNat b.toNat | none => 0
theorem sByte_eq (s : ByteArray) (i : Nat) : sByte s i = byteAt s i := by
  unfold sByte byteAt
  rw [nthR_eq]
  obtain ⟨d⟩ := s
  have : (⟨d⟩ : ByteArray)[i]? = d.toList[i]? := by
    rw [Array.getElem?_toList]
    show (if h : i < d.size then some (d[i]) else none) = _
    by_cases h : i < d.size
    · rw [dif_pos h]; simp [h]
    · rw [dif_neg h]; simp [h]
  rw [this]
  cases d.toList[i]? <;> rfl
end
end Go.Proofs.YtgnkjpbecgpjoaaGreatDoor.Fw
set_option linter.unusedVariables false
set_option linter.unusedSimpArgs false
namespace Go.Proofs.YtgnkjpbecgpjoaaGreatDoor.Fw
open Go Go.RowKit

/-! What is found to be the same is the same. -/
theorem eqT_ok : ∀ (a b : Tr AObj), eqT a b = true → a = b
  | .e, .e, _ => rfl
  | .e, .n _ _ _, h => by simp [eqT] at h
  | .n _ _ _, .e, h => by simp [eqT] at h
  | .n o l r, .n p m s, h => by
    unfold eqT at h
    split at h
    · rename_i h1 h2; rw [eqO_ok eqOb_ok h1, eqT_ok l m h2, eqT_ok r s h]
    · cases h
theorem eqR_ok {a b : Value × KH} (h : eqR a b = true) : a = b := by
  unfold eqR at h
  split at h
  · rename_i h1 h2
    obtain ⟨x, ⟨n, t⟩⟩ := a; obtain ⟨y, ⟨m, s⟩⟩ := b
    have h1 := eqV_ok _ _ _ h1
    have h2 := eqN_ok _ _ h2
    have h3 := eqT_ok _ _ h
    simp only [] at h1 h2 h3
    rw [h1, h2, h3]
  · cases h
theorem kmeetT_get : ∀ (a b : Tr AObj) (i : Nat), (kmeetT a b).get i = kmeetO (a.get i) (b.get i)
  | .e, b, i => by cases b <;> rfl
  | .n o l r, .e, i => by
    show none = kmeetO _ none
    cases (Tr.n o l r).get i <;> rfl
  | .n o l r, .n p m q, i => by
    show (Tr.n (kmeetO o p) (kmeetT l m) (kmeetT r q)).get i = _
    cases i with
    | zero => rfl
    | succ j =>
      rcases half j with ⟨e, _⟩ | ⟨e, _⟩
      · rw [Tr.get_l _ _ _ _ 0 e, Tr.get_l _ _ _ _ 0 e, Tr.get_l _ _ _ _ 0 e]; exact kmeetT_get l m _
      · rw [Tr.get_r _ _ _ _ 0 e, Tr.get_r _ _ _ _ 0 e, Tr.get_r _ _ _ _ 0 e]; exact kmeetT_get r q _
theorem meetH_get : ∀ (a b : Heap) (i : Nat) (x y : AObj), a[i]? = some x → b[i]? = some y → (meetH a b)[i]? = some (meetO x y)
  | [], b, i, x, y, h, k => by simp at h
  | _ :: _, [], i, x, y, h, k => by simp at k
  | u :: a, v :: b, 0, x, y, h, k => by simp at h k; subst h; subst k; rfl
  | u :: a, v :: b, i + 1, x, y, h, k => by simpa [meetH] using meetH_get a b i x y (by simpa using h) (by simpa using k)
theorem meetO_dead_r (a : AObj) : meetO a .dead = .dead := by
  unfold meetO
  split
  · rename_i h; exact eqOb_ok _ _ h
  · rfl
theorem meetO_dead_l (a : AObj) : meetO .dead a = .dead := by
  unfold meetO
  split <;> rfl
theorem kmeetR_ok {x y : Value × KH} {v : Value} {T : KH} (h : kmeetR x y = some (v, T)) : meetR (x.1, x.2.H) (y.1, y.2.H) = some (v, T.H) := by
  unfold kmeetR at h
  split at h
  · rename_i h1 h2
    obtain ⟨rfl, rfl⟩ := Prod.mk.inj (Option.some.inj h)
    have hn := eqN_ok _ _ h2
    unfold meetR
    simp only [h1, KH.len, h2]
    congr 2
    apply List.ext_getElem?
    intro i
    rw [KH.at_]
    rcases Nat.lt_or_ge i x.2.n with hi | hi
    · have e1 := KH.at_ x.2 i
      have e2 := KH.at_ y.2 i
      rw [if_pos hi] at e1
      rw [if_pos (hn ▸ hi)] at e2
      rw [meetH_get _ _ i _ _ e1 e2, if_pos (show i < x.2.n from hi)]
      show _ = some (((kmeetT x.2.t y.2.t).get i).getD .dead)
      rw [kmeetT_get]
      congr 1
      cases x.2.t.get i with
      | none => rw [Option.getD_none, meetO_dead_l]; rfl
      | some a => cases y.2.t.get i with
        | none => rw [Option.getD_none, meetO_dead_r]; rfl
        | some b =>
          simp only [Option.getD_some, kmeetO, meetO]
          cases eqOb a b <;> rfl
    · rw [if_neg (show ¬ i < x.2.n by omega)]
      have := (meetH_ok x.2.H y.2.H (by rw [KH.len, KH.len, hn])).1.1
      exact List.getElem?_eq_none (by rw [this, KH.len]; exact hi)
  · cases h
theorem kallEq_sound {α : Type} (f : α → KR) (g : α → R) (hfg : ∀ c v T, f c = some (v, T) → g c = some (v, T.H)) : ∀ (l : List α) (v : Value) (T : KH), kallEq (l.map f) = some (v, T) → allEq (l.map g) = some (v, T.H)
  | [], v, T, h => by cases h
  | [c], v, T, h => hfg c v T h
  | c :: d :: l, v, T, h => by
    have h : (match f c, kallEq ((d :: l).map f) with | some a, some b => kmeetR a b | _, _ => none) = some (v, T) := h
    show (match g c, allEq ((d :: l).map g) with | some a, some b => meetR a b | _, _ => none) = some (v, T.H)
    split at h
    · rename_i a b h1 h2
      rw [hfg c a.1 a.2 h1, kallEq_sound f g hfg (d :: l) b.1 b.2 h2]
      exact kmeetR_ok h
    · cases h

noncomputable def sNextV (T : KH) (b r since : Nat) (seen : List Nat) (clk : Nat) (k : Value → KH → KR) : Option ((Value × Value) × Nat) → KR
  | none => kset T b .dead fun T => k (.tuple #[.bool false]) T
  | some e => sSet T b (.iter (some r) since (seen ++ [e.2]) clk) fun T => k (.tuple #[.bool true, e.1.1, e.1.2]) T
noncomputable def sNxt (T : KH) (a : Addr) (k : Value → KH → KR) : KR :=
  match Nat.beq a.off 0, kg T a.block with
  | true, some (.iter none _ _ _) => kset T a.block .dead fun T => k (.tuple #[.bool false]) T
  | true, some (.iter (some r) since seen last) => sLdm T r fun es bs clk => onSome (nextC es bs since seen last) fun l => kallEq (l.map (sNextV T a.block r since seen clk k))
  | _, _ => none
theorem sNxt_ok {T : KH} {a : Addr} {k : Value → KH → KR} {k' : Value → Heap → R} {v : Value} {T2 : KH} (h : sNxt T a k = some (v, T2)) (hk : ∀ u T v T2, k u T = some (v, T2) → k' u T.H = some (v, T2.H)) : nxA T.H a k' = some (v, T2.H) := by
  unfold sNxt at h
  split at h
  · rename_i h0 hg
    obtain ⟨hH, hlt⟩ := kg_at hg
    obtain ⟨T', h1, h2⟩ := kset_ok h hlt
    unfold nxA
    simp only [h0, hH]
    rw [← h2]; exact hk _ _ _ _ h1
  · rename_i q since seen last h0 hg
    obtain ⟨hH, hlt⟩ := kg_at hg
    obtain ⟨es, bs, clk, h1, h2, _⟩ := sLdm_ok h
    replace h1 := onSome_inv h1; obtain ⟨l, hl, h1⟩ := h1
    unfold nxA
    simp only [h0, hH]
    rw [ldmB_of h2, hl]
    simp only [onSome]
    refine kallEq_sound _ _ (fun c u T3 hh => ?_) l v T2 h1
    cases c with
    | none =>
      obtain ⟨T', h3, h4⟩ := kset_ok (r := (u, T3)) hh hlt
      simp only [nextV]
      rw [← h4]; exact hk _ _ _ _ h3
    | some c =>
      obtain ⟨T', h3, h4⟩ := sSet_ok (r := (u, T3)) hh hlt
      simp only [nextV]
      rw [← h4]; exact hk _ _ _ _ h3
  · cases h

def sSame (a b : Option AObj) (k : KR) : KR := match a, b with | some o, some o' => (match eqOb o o' with | true => k | false => none) | _, _ => none
abbrev KJ := Nat → List Value → KH → KR
/-- WHAT A TEXT COMES TO ON TREES. -/
noncomputable def M.runK (P : Program) (Γ : KFs) (x : M) : KJ → KH → KR :=
  M.rec (motive := fun _ => KJ → KH → KR)
    (fun v J T => some (v, T))
    (fun J T => none)
    (fun key vs J T => J key vs T)
    (fun {α} x k ih J T => match x with | some a => ih a J T | none => none)
    (fun {α} x a k iha ihk J T => match x with | none => iha J T | some y => ihk y J T)
    (fun b x y ihx ihy J T => Bool.rec (motive := fun _ => KR) (ihy J T) (ihx J T) b)
    (fun c d x ih J T => @Decidable.rec c (fun _ => KR) (fun _ => none) (fun _ => ih J T) d)
    (fun c d x ih J T => @Decidable.rec c (fun _ => KR) (fun _ => ih J T) (fun _ => none) d)
    (fun kd v k ih J T => sInt kd v fun n => ih n J T)
    (fun v k ih J T => match v with | .int kd n => ih kd n J T | _ => none)
    (fun v k ih J T => match v with | .bool b => ih b J T | _ => none)
    (fun v k ih J T => match v with | .string b => ih b J T | _ => none)
    (fun v k ih J T => match v with | .pointer b => ih b J T | _ => none)
    (fun v k ih J T => match v with | .slice a l c => ih a l c J T | _ => none)
    (fun v k ih J T => match v with | .map b => ih b J T | _ => none)
    (fun v k ih J T => match v with | .agg b => ih b J T | _ => none)
    (fun v k ih J T => match v with | .tuple b => ih b J T | _ => none)
    (fun v x y ihx ihy J T => match v with | .nilIface => ihx J T | .iface _ _ => ihy J T | _ => none)
    (fun v x y ihx ihy J T => match v with | .nilFunc => ihx J T | .func (.func _) _ _ => ihy J T | _ => none)
    (fun kd n k ih J T => kwr kd n fun n => qI n fun n => ih n J T)
    (fun op a b k ih J T => qB (cmpK op a b) fun b => ih b J T)
    (fun kd v k ih J T => sTyI kd v fun v => ih v J T)
    (fun op kd x y k ih J T => sArV op kd x y fun v => ih v J T)
    (fun op kd x y k ih J T => sCmpV op kd x y fun b => ih b J T)
    (fun op x y k ih J T => sShV op x y fun v => ih v J T)
    (fun mx kd x y k ih J T => sMmV mx kd x y fun v => ih v J T)
    (fun ks kd v k ih J T => sCvtV ks kd v fun v => ih v J T)
    (fun n k ih J T => qI n fun n => ih n J T)
    (fun b k ih J T => qB b fun b => ih b J T)
    (fun v k ih J T => qV 6 v fun v => ih v J T)
    (fun i n x ih J T => sInb i n (ih J T))
    (fun b k ih J T => sLdc T b fun cs => ih cs J T)
    (fun b off k ih J T => sLd T b off fun v => ih v J T)
    (fun b off n k ih J T => sLdn T b off n fun cs => ih cs J T)
    (fun cs i k ih J T => match nthR cs.toList i with | some v => ih v J T | none => none)
    (fun cs off n k ih J T => qR cs.toList off n fun l => ih ⟨l⟩ J T)
    (fun sz v k ih J T => sFirst T sz v fun n l => ih n l J T)
    (fun e s n nw k ih J T => sApp P e T s n nw fun v T => ih v J T)
    (fun sz a len n nw k ih J T => sCpy T sz a len n nw fun m T => ih m J T)
    (fun sz z a len x ih J T => sClr T sz z a len fun T => ih J T)
    (fun kt v k ih J T => Fw.kKey P kt v fun v => ih v J T)
    (fun r key x ih J T => sDele T r key fun T => ih J T)
    (fun r key v x ih J T => sMupd T r key v fun T => ih J T)
    (fun et r key k ih J T => sMent P et T r key fun v T => qV 2 v fun v => ih v J T)
    (fun r n v x ih J T => sEsto T r n v fun T => ih J T)
    (fun mt x ix ok k ih J T => sLookup P mt T x ix ok fun v => ih v J T)
    (fun r k ih J T => sLdmo T r fun es => ih es J T)
    (fun r k ih J T => sRng T r fun v T => ih v J T)
    (fun a k ih J T => sNxt T a fun v T => ih v J T)
    (fun a k ih J T => sEntr T a fun v => ih v J T)
    (fun a n u one k ih J T => sUStr T a n u one fun s T => ih s J T)
    (fun a u n x ih J T => sFromU T a u n (ih J T))
    (fun s l h k ih J T => sSlStr s l h fun s => ih s J T)
    (fun a b k ih J T => sCat a b fun s => ih s J T)
    (fun a b k ih J T => qB (sEqB a b) fun b => ih b J T)
    (fun s i k ih J T => qI (sByte s i) fun n => ih n J T)
    (fun sz a len cap l h k ih J T => sSlSl T sz a len cap l h fun v => ih v J T)
    (fun sz a len cap l h m k ih J T => sSlSl3 T sz a len cap l h m fun v => ih v J T)
    (fun sz n a l h k ih J T => sSlArr T sz n a l h fun v => ih v J T)
    (fun n a v x ih J T => sSt n T a v fun T => ih J T)
    (fun o k ih J T => sNew T o fun id T => ih id J T)
    (fun s k ih J T => qM (qV 1) (s.data.toList.map fun b => .int .u8 b.toNat) fun l => kpush T (.cells l 1 true) fun T2 => ih T.n J T2)
    (fun v x ih J T => Fw.cellsOk v (ih J T))
    (fun vs x ih J T => Fw.cellsOks vs (ih J T))
    (fun t x y k ih J T => Fw.eqv P 20 t x y fun b => qB b fun b => ih b J T)
    (fun x y k ih J T => Fw.ptrEq x y fun b => qB b fun b => ih b J T)
    (fun t ok v k ih J T => Fw.tyAs P t ok v fun v => ih v J T)
    (fun f args k ih J T => match Γ f args T with | some (v, T) => ih v J T | none => none)
    (fun v args k ih J T => match v with | .func (.func f) first cap => qL (first.toList ++ args ++ cap.toList) fun args => (match Γ f args T with | some (v, T) => ih v J T | none => none) | _ => none)
    (fun b k ih J T => match kg T b with | some o => ih (some o) J T | none => none)
    (fun b o x ih J T => sSame o (kg T b) (ih J T))
    x

theorem cellsOk_out {β γ : Type} {r : β} {v : Value} {k : Option β} (h : cellsOk v k = some r) : k = some r ∧ ∀ k' : Option γ, cellsOk v k' = k' := by
  unfold cellsOk at h ⊢
  split at h
  · exact ⟨h, fun k' => rfl⟩
  · rename_i hv
    split at h
    · rename_i h1
      exact ⟨h, fun k' => rfl⟩
    · cases h
theorem cellsOks_out {β γ : Type} {r : β} : ∀ {vs : List Value} {k : Option β}, cellsOks vs k = some r → k = some r ∧ ∀ k' : Option γ, cellsOks vs k' = k'
  | [], k, h => ⟨h, fun k' => rfl⟩
  | v :: vs, k, h => by
    simp only [cellsOks] at h ⊢
    obtain ⟨h1, h2⟩ := cellsOk_out (γ := γ) h
    obtain ⟨h3, h4⟩ := cellsOks_out (γ := γ) h1
    exact ⟨h3, fun k' => by rw [h2, h4]⟩
theorem kKey_out {β γ : Type} {r : β} {P : Program} {kt : TypeId} {v : Value} {k : Value → Option β} (h : kKey P kt v k = some r) : ∃ u, k u = some r ∧ ∀ k' : Value → Option γ, kKey P kt v k' = k' u := by
  have e : kKey P kt v k = (kKey P kt v some).bind k := kKey_bb fun _ => rfl
  rw [e] at h
  cases hz : kKey P kt v some with
  | none => rw [hz] at h; cases h
  | some u =>
    rw [hz] at h
    refine ⟨u, h, fun k' => ?_⟩
    have e' : kKey P kt v k' = (kKey P kt v some).bind k' := kKey_bb fun _ => rfl
    rw [e', hz]; rfl
theorem eqv_out {β γ : Type} {r : β} {P : Program} {n : Nat} {t : TypeId} {x y : Value} {k : Bool → Option β} (h : eqv P n t x y k = some r) : ∃ b, k b = some r ∧ ∀ k' : Bool → Option γ, eqv P n t x y k' = k' b := by
  have e : ∀ {δ : Type} (k : Bool → Option δ), eqv P n t x y k = (eqv P n t x y fun b => some (Value.bool b)).bind fun v => match v with | Value.bool b => k b | _ => none := fun k => eqv_bb n fun _ => rfl
  rw [e] at h
  cases hz : eqv P n t x y fun b => some (Value.bool b) with
  | none => rw [hz] at h; cases h
  | some u =>
    rw [hz] at h
    simp only [Option.bind_some] at h
    split at h
    · rename_i b; exact ⟨b, h, fun k' => by rw [e, hz]; rfl⟩
    · cases h
theorem ptrEq_out {β γ : Type} {r : β} {x y : Option Addr} {k : Bool → Option β} (h : ptrEq x y k = some r) : ∃ b, k b = some r ∧ ∀ k' : Bool → Option γ, ptrEq x y k' = k' b := by
  have e : ∀ {δ : Type} (k : Bool → Option δ), ptrEq x y k = (ptrEq x y some).bind k := fun k => ptrEq_bb fun _ => rfl
  rw [e] at h
  cases hz : ptrEq x y some with
  | none => rw [hz] at h; cases h
  | some u => rw [hz] at h; exact ⟨u, h, fun k' => by rw [e, hz]; rfl⟩
theorem tyAs_out {β γ : Type} {r : β} {P : Program} {t : TypeId} {ok : Bool} {v : Value} {k : Value → Option β} (h : tyAs P t ok v k = some r) : ∃ u, k u = some r ∧ ∀ k' : Value → Option γ, tyAs P t ok v k' = k' u := by
  rw [tyAs_b] at h
  cases hz : tyAs P t ok v some with
  | none => rw [hz] at h; cases h
  | some u => rw [hz] at h; exact ⟨u, h, fun k' => by rw [tyAs_b, hz]; rfl⟩
theorem extract_range (cs : Array Value) (off n : Nat) : cs.extract off (off + n) = ⟨range cs.toList off n⟩ := by
  apply Array.ext'
  rw [Array.toList_extract]
  simp [range, List.extract]

theorem cmpV_b {β : Type} {op : BinOp} {kd : IntKind} {x y : Value} {k : Bool → Option β} : cmpV op kd x y k = (cmpV op kd x y some).bind k := cmpV_bb fun _ => rfl
theorem mmV_b {β : Type} {mx : Bool} {kd : IntKind} {x y : Value} {k : Value → Option β} : mmV mx kd x y k = (mmV mx kd x y some).bind k := mmV_bb fun _ => rfl
theorem cvtV_b {β : Type} {ks kd : IntKind} {v : Value} {k : Value → Option β} : cvtV ks kd v k = (cvtV ks kd v some).bind k := cvtV_bb fun _ => rfl
theorem runK_soundR {P : Program} {Γ : Fs} {Γk : KFs} (hΓ : ∀ f args T v T', Γk f args T = some (v, T') → ∃ F, Γ f = some F ∧ F args T.H = some (v, T'.H))
    {J : Nat → List Value → Heap → R} {Jk : KJ} (hJ : ∀ key vs T v T', Jk key vs T = some (v, T') → J key vs T.H = some (v, T'.H)) {v : Value} {T2 : KH} (x : M) : ∀ T : KH, x.runK P Γk Jk T = some (v, T2) → x.run P Γ J T.H = some (v, T2.H) := by
  induction x generalizing v T2 with
  | ret u => intro T h; have h : some (u, T) = some (v, T2) := h; obtain ⟨rfl, rfl⟩ := Prod.mk.inj (Option.some.inj h); rfl
  | fail => intro T h; cases h
  | jmp key vs => intro T h; exact hJ _ _ _ _ _ h
  | onS x k ih =>
    intro T h
    cases x with
    | none => cases h
    | some a => exact ih a T h
  | opt x a k iha ihk =>
    intro T h
    cases x with
    | none => exact iha T h
    | some y => exact ihk y T h
  | bool b x y ihx ihy =>
    intro T h
    cases b with
    | true => exact ihx T h
    | false => exact ihy T h
  | @ite c d x ih =>
    intro T h
    simp only [M.run]
    cases d with
    | isTrue hc => rw [if_pos hc]; exact ih T h
    | isFalse hc => cases h
  | @nite c d x ih =>
    intro T h
    simp only [M.run]
    cases d with
    | isTrue hc => cases h
    | isFalse hc => rw [if_neg hc]; exact ih T h
  | kInt kd u k ih =>
    intro T h
    obtain ⟨n, rfl, h1⟩ := sInt_ok (k := fun n => (k n).runK P Γk Jk T) h
    simp only [M.run, Fw.kInt, if_true]; exact ih n T h1
  | kAnyInt u k ih => intro T h; cases u <;> first | (cases h; done) | exact ih _ _ T h
  | kBool u k ih => intro T h; cases u <;> first | (cases h; done) | exact ih _ T h
  | kStr u k ih => intro T h; cases u <;> first | (cases h; done) | exact ih _ T h
  | kPtr u k ih => intro T h; cases u <;> first | (cases h; done) | exact ih _ T h
  | kSl u k ih => intro T h; cases u <;> first | (cases h; done) | exact ih _ _ _ T h
  | kMp u k ih => intro T h; cases u <;> first | (cases h; done) | exact ih _ T h
  | kAgg u k ih => intro T h; cases u <;> first | (cases h; done) | exact ih _ T h
  | kTup u k ih => intro T h; cases u <;> first | (cases h; done) | exact ih _ T h
  | nilI u x y ihx ihy => intro T h; cases u <;> first | (cases h; done) | exact ihx T h | exact ihy T h
  | nilF u x y ihx ihy =>
    intro T h
    cases u <;> first
      | (cases h; done)
      | exact ihx T h
      | (rename_i f _ _; cases f <;> first | (cases h; done) | exact ihy T h)
  | wr kd n k ih =>
    intro T h
    have h : kwr kd n (fun n => qI n fun n => (k n).runK P Γk Jk T) = some (v, T2) := h
    rw [kwr_eq, qI_eq] at h
    exact ih _ T h
  | cmp op a b k ih =>
    intro T h
    have h : qB (cmpK op a b) (fun b => (k b).runK P Γk Jk T) = some (v, T2) := h
    rw [qB_eq, cmpK_eq] at h
    exact ih _ T h
  | tyI kd u k ih =>
    intro T h
    obtain ⟨h1, h2⟩ := sTyI_ok (k := fun u => (k u).runK P Γk Jk T) h
    simp only [M.run, h2]; exact ih _ T h1
  | arV op kd x y k ih =>
    intro T h
    have h : sArV op kd x y (fun u => (k u).runK P Γk Jk T) = some (v, T2) := h
    rw [sArV_eq, arV_b] at h
    show Fw.arV op kd x y (fun u => (k u).run P Γ J T.H) = _
    rw [arV_b]
    cases hz : Fw.arV op kd x y some with
    | none => rw [hz] at h; cases h
    | some u => rw [hz] at h; exact ih u T h
  | cmpV op kd x y k ih =>
    intro T h
    have h : sCmpV op kd x y (fun u => (k u).runK P Γk Jk T) = some (v, T2) := h
    rw [sCmpV_eq, cmpV_b] at h
    show Fw.cmpV op kd x y (fun u => (k u).run P Γ J T.H) = _
    rw [cmpV_b]
    cases hz : Fw.cmpV op kd x y some with
    | none => rw [hz] at h; cases h
    | some u => rw [hz] at h; exact ih u T h
  | shV op x y k ih =>
    intro T h
    have h : sShV op x y (fun u => (k u).runK P Γk Jk T) = some (v, T2) := h
    rw [sShV_eq, shV_b] at h
    show Fw.shV op x y (fun u => (k u).run P Γ J T.H) = _
    rw [shV_b]
    cases hz : Fw.shV op x y some with
    | none => rw [hz] at h; cases h
    | some u => rw [hz] at h; exact ih u T h
  | mmV mx kd x y k ih =>
    intro T h
    have h : sMmV mx kd x y (fun u => (k u).runK P Γk Jk T) = some (v, T2) := h
    rw [sMmV_eq, mmV_b] at h
    show Fw.mmV mx kd x y (fun u => (k u).run P Γ J T.H) = _
    rw [mmV_b]
    cases hz : Fw.mmV mx kd x y some with
    | none => rw [hz] at h; cases h
    | some u => rw [hz] at h; exact ih u T h
  | cvtV ks kd x k ih =>
    intro T h
    have h : sCvtV ks kd x (fun u => (k u).runK P Γk Jk T) = some (v, T2) := h
    rw [sCvtV_eq, cvtV_b] at h
    show Fw.cvtV ks kd x (fun u => (k u).run P Γ J T.H) = _
    rw [cvtV_b]
    cases hz : Fw.cvtV ks kd x some with
    | none => rw [hz] at h; cases h
    | some u => rw [hz] at h; exact ih u T h
  | fxI n k ih =>
    intro T h
    have h : qI n (fun n => (k n).runK P Γk Jk T) = some (v, T2) := h
    rw [qI_eq] at h
    exact ih _ T h
  | fxB n k ih =>
    intro T h
    have h : qB n (fun n => (k n).runK P Γk Jk T) = some (v, T2) := h
    rw [qB_eq] at h
    exact ih _ T h
  | fxV n k ih =>
    intro T h
    have h : qV 6 n (fun n => (k n).runK P Γk Jk T) = some (v, T2) := h
    rw [qV_eq] at h
    exact ih _ T h
  | inb i n x ih =>
    intro T h
    obtain ⟨h1, h2⟩ := sInb_ok (k := x.runK P Γk Jk T) h
    simp only [M.run]
    rw [if_pos h2]; exact ih T h1
  | ldc b k ih =>
    intro T h
    obtain ⟨cs, h1, h2⟩ := sLdc_ok (k := fun cs => (k cs).runK P Γk Jk T) h
    simp only [M.run, h2]; exact ih _ T h1
  | ld b off k ih =>
    intro T h
    obtain ⟨u, h1, h2⟩ := sLd_ok (k := fun u => (k u).runK P Γk Jk T) h
    simp only [M.run, h2]; exact ih _ T h1
  | ldn b off n k ih =>
    intro T h
    obtain ⟨u, h1, h2⟩ := sLdn_ok (k := fun u => (k u).runK P Γk Jk T) h
    exact (h2 fun u => (k u).run P Γ J T.H).trans (ih _ T h1)
  | nthA cs i k ih =>
    intro T h
    have h : (match nthR cs.toList i with | some u => (k u).runK P Γk Jk T | none => none) = some (v, T2) := h
    split at h
    · rename_i u hu
      rw [nthR_eq, Array.getElem?_toList] at hu
      simp only [M.run, hu, onSome]; exact ih _ T h
    · cases h
  | sub cs off n k ih =>
    intro T h
    have h : qR cs.toList off n (fun l => (k ⟨l⟩).runK P Γk Jk T) = some (v, T2) := h
    rw [qR_eq] at h
    simp only [M.run, extract_range]; exact ih _ T h
  | firstC sz u k ih =>
    intro T h
    obtain ⟨n, l, h1, h2⟩ := sFirst_ok (k := fun n l => (k n l).runK P Γk Jk T) h
    simp only [M.run, h2]; exact ih _ _ T h1
  | app e s n nw k ih =>
    intro T h
    obtain ⟨u, T', h1, h2⟩ := sApp_ok (k := fun u T => (k u).runK P Γk Jk T) h
    simp only [M.run, h2]; exact ih _ T' h1
  | cpy sz a len n nw k ih =>
    intro T h
    obtain ⟨u, T', h1, h2⟩ := sCpy_ok (k := fun u T => (k u).runK P Γk Jk T) h
    simp only [M.run, h2]; exact ih _ T' h1
  | clr sz z a len x ih =>
    intro T h
    obtain ⟨T', h1, h2⟩ := sClr_ok (k := fun T => x.runK P Γk Jk T) h
    simp only [M.run, h2]; exact ih T' h1
  | kKey kt u k ih =>
    intro T h
    obtain ⟨u', h1, h2⟩ := kKey_out (γ := Value × Heap) (k := fun u => (k u).runK P Γk Jk T) h
    simp only [M.run, h2]; exact ih _ T h1
  | dele q key x ih =>
    intro T h
    obtain ⟨T', h1, h2⟩ := sDele_ok (k := fun T => x.runK P Γk Jk T) h
    simp only [M.run, h2]; exact ih T' h1
  | mupd q key u x ih =>
    intro T h
    obtain ⟨T', h1, h2⟩ := sMupd_ok (k := fun T => x.runK P Γk Jk T) h
    simp only [M.run, h2]; exact ih T' h1
  | ment et q key k ih =>
    intro T h
    obtain ⟨u, T', h1, h2⟩ := sMent_ok (k := fun u T => qV 2 u fun u => (k u).runK P Γk Jk T) h
    rw [qV_eq] at h1
    simp only [M.run, h2]; exact ih _ T' h1
  | esto q n u x ih =>
    intro T h
    obtain ⟨T', h1, h2⟩ := sEsto_ok (k := fun T => x.runK P Γk Jk T) h
    simp only [M.run, h2]; exact ih T' h1
  | lookupK mt x ix ok k ih =>
    intro T h
    obtain ⟨u, h1, h2⟩ := sLookup_ok (k := fun u => (k u).runK P Γk Jk T) h
    simp only [M.run, h2]; exact ih _ T h1
  | ldmo q k ih =>
    intro T h
    obtain ⟨u, h1, h2⟩ := sLdmo_ok (k := fun u => (k u).runK P Γk Jk T) h
    simp only [M.run, h2]; exact ih _ T h1
  | rng q k ih =>
    intro T h
    obtain ⟨u, T', h1, h2⟩ := sRng_ok (k := fun u T => (k u).runK P Γk Jk T) h
    simp only [M.run, h2]; exact ih _ T' h1
  | nxt a k ih =>
    intro T h
    exact sNxt_ok (k := fun u T => (k u).runK P Γk Jk T) (k' := fun u H => (k u).run P Γ J H) h fun u T' v T2 hh => ih u T' hh
  | entr a k ih =>
    intro T h
    obtain ⟨u, h1, h2⟩ := sEntr_ok (k := fun u => (k u).runK P Γk Jk T) h
    simp only [M.run, h2]; exact ih _ T h1
  | uStr a n u one k ih =>
    intro T h
    obtain ⟨u, T', h1, h2⟩ := sUStr_ok (k := fun u T => (k u).runK P Γk Jk T) h
    simp only [M.run, h2]; exact ih _ T' h1
  | fromU a u n x ih =>
    intro T h
    obtain ⟨h1, h2⟩ := sFromU_ok (k := x.runK P Γk Jk T) h
    simp only [M.run, h2]; exact ih T h1
  | slStr s l h k ih =>
    intro T hh
    obtain ⟨u, h1, h2⟩ := sSlStr_ok (k := fun u => (k u).runK P Γk Jk T) hh
    exact (h2 fun u => (k u).run P Γ J T.H).trans (ih _ T h1)
  | cat a b k ih =>
    intro T hh
    obtain ⟨u, h1, rfl, h2⟩ := sCat_ok (k := fun u => (k u).runK P Γk Jk T) hh
    simp only [M.run]
    rw [if_pos h2]; exact ih _ T h1
  | sEq a b k ih =>
    intro T h
    have h : qB (sEqB a b) (fun b => (k b).runK P Γk Jk T) = some (v, T2) := h
    rw [qB_eq, sEqB_eq] at h
    exact ih _ T h
  | byte s i k ih =>
    intro T h
    have h : qI (sByte s i) (fun b => (k b).runK P Γk Jk T) = some (v, T2) := h
    rw [qI_eq, sByte_eq] at h
    exact ih _ T h
  | slSl sz a len cap l h k ih =>
    intro T hh
    obtain ⟨u, h1, h2⟩ := sSlSl_ok (k := fun u => (k u).runK P Γk Jk T) hh
    simp only [M.run, h2]; exact ih _ T h1
  | slSl3 sz a len cap l h m k ih =>
    intro T hh
    obtain ⟨u, h1, h2⟩ := sSlSl3_ok (k := fun u => (k u).runK P Γk Jk T) hh
    simp only [M.run, h2]; exact ih _ T h1
  | slArr sz n a l h k ih =>
    intro T hh
    obtain ⟨u, h1, h2⟩ := sSlArr_ok (k := fun u => (k u).runK P Γk Jk T) hh
    simp only [M.run, h2]; exact ih _ T h1
  | st n a u x ih =>
    intro T h
    obtain ⟨T', h1, h2⟩ := sSt_ok (k := fun T => x.runK P Γk Jk T) h
    simp only [M.run, h2]; exact ih T' h1
  | new o k ih =>
    intro T h
    obtain ⟨T', h1, h2⟩ := sNew_ok (k := fun id T => (k id).runK P Γk Jk T) h
    simp only [M.run, ← h2]; exact ih _ T' h1
  | newB s k ih =>
    intro T h
    have h : qM (qV 1) (s.data.toList.map fun b => .int .u8 b.toNat) (fun l => kpush T (.cells l 1 true) fun T2 => (k T.n).runK P Γk Jk T2) = some (v, T2) := h
    rw [qM_eq (qV_eq 1)] at h
    obtain ⟨T', h1, h2⟩ := kpush_ok h
    simp only [M.run, ← h2, KH.len]; exact ih _ T' h1
  | cellsOk u x ih =>
    intro T h
    obtain ⟨h1, h2⟩ := cellsOk_out (γ := Value × Heap) (k := x.runK P Γk Jk T) h
    simp only [M.run, h2]; exact ih T h1
  | cellsOks u x ih =>
    intro T h
    obtain ⟨h1, h2⟩ := cellsOks_out (γ := Value × Heap) (k := x.runK P Γk Jk T) h
    simp only [M.run, h2]; exact ih T h1
  | eqv t x y k ih =>
    intro T h
    obtain ⟨b, h1, h2⟩ := eqv_out (γ := Value × Heap) (k := fun b => qB b fun b => (k b).runK P Γk Jk T) h
    rw [qB_eq] at h1
    simp only [M.run, h2]; exact ih _ T h1
  | ptrEq x y k ih =>
    intro T h
    obtain ⟨b, h1, h2⟩ := ptrEq_out (γ := Value × Heap) (k := fun b => qB b fun b => (k b).runK P Γk Jk T) h
    rw [qB_eq] at h1
    simp only [M.run, h2]; exact ih _ T h1
  | tyAs t ok u k ih =>
    intro T h
    obtain ⟨b, h1, h2⟩ := tyAs_out (γ := Value × Heap) (k := fun b => (k b).runK P Γk Jk T) h
    simp only [M.run, h2]; exact ih _ T h1
  | call f args k ih =>
    intro T h
    have h : (match Γk f args T with | some (u, T) => (k u).runK P Γk Jk T | none => none) = some (v, T2) := h
    split at h
    · rename_i u T' hc
      obtain ⟨F, h1, h2⟩ := hΓ _ _ _ _ _ hc
      simp only [M.run, h1, h2, onSome]; exact ih _ T' h
    · cases h
  | callV u args k ih =>
    intro T h
    cases u with
    | func fn first cap =>
      cases fn with
      | func f =>
        have h : qL (first.toList ++ args ++ cap.toList) (fun args => match Γk f args T with | some (u, T) => (k u).runK P Γk Jk T | none => none) = some (v, T2) := h
        rw [qL_eq] at h
        split at h
        · rename_i u T' hc
          obtain ⟨F, h1, h2⟩ := hΓ _ _ _ _ _ hc
          simp only [M.run, h1, h2, onSome]; exact ih _ T' h
        · cases h
      | _ => cases h
    | _ => cases h
  | snap b k ih =>
    intro T h
    have h : (match kg T b with | some o => (k (some o)).runK P Γk Jk T | none => none) = some (v, T2) := h
    split at h
    · rename_i o ho
      simp only [M.run, (kg_at ho).1]; exact ih _ T h
    · cases h
  | same b o x ih =>
    intro T h
    replace h : sSame o (kg T b) (x.runK P Γk Jk T) = some (v, T2) := h
    unfold sSame at h
    split at h
    · rename_i o o' ho
      split at h
      · rename_i he
        simp only [M.run, sameO]
        rw [if_pos (by rw [(kg_at ho).1, eqOb_ok _ _ he])]
        exact ih T h
      · cases h
    · cases h

theorem runK_sound {P : Program} {Γ : Fs} {Γk : KFs} (hΓ : ∀ f args T v T', Γk f args T = some (v, T') → ∃ F, Γ f = some F ∧ F args T.H = some (v, T'.H))
    {J : Nat → List Value → Heap → R} {Jk : KJ} (hJ : ∀ key vs T v T', Jk key vs T = some (v, T') → J key vs T.H = some (v, T'.H)) {v : Value} {T2 : KH} (x : M) : ∀ T : KH, x.runK P Γk Jk T = some (v, T2) → x.run P Γ J T.H = some (v, T2.H) :=
  runK_soundR hΓ hJ x

/-! WHOLE PROGRAMS. -/
/-- A function's texts: its own, and those at the places where it is cut. -/
structure FCode where
  X : List Value → M
  C : Nat → List Value → M
  cuts : Cuts
  td : Nat → List Item
/-- A function that is given, on both heaps. -/
structure Giv where
  k : List Value → KH → KR
  F : List Value → Heap → R
inductive Ent
  | code (c : FCode)
  | giv (g : Giv)
noncomputable def kdrv (P : Program) (Γ : KFs) (c : FCode) (s : Nat) : M → KH → KR :=
  Nat.rec (motive := fun _ => M → KH → KR) (fun x T => x.runK P Γ (fun _ _ _ => none) T) (fun _ ih x T => x.runK P Γ (fun key vs T => ih (c.C key vs) T) T) s
noncomputable def kcall (P : Program) (E : Tr Ent) (s : Nat) (m : Nat) : KFs :=
  Nat.rec (motive := fun _ => KFs) (fun _ _ _ => none)
    (fun _ ih f args T => match gR E f with | some (.code c) => kdrv P ih c s (c.X args) T | some (.giv g) => g.k args T | none => none) m
/-- The same, told of lists. -/
noncomputable def FL (P : Program) (E : Tr Ent) : Nat → Nat → List Value → Heap → R
  | 0, _, _, _ => none
  | m + 1, f, args, H => (match E.get f, P.funcs[f]? with
      | some (.code c), some fn => FN P (fun g => some (FL P E m g)) fn c.cuts args H
      | some (.giv g), _ => g.F args H
      | _, _ => none)
/-- One round of cut places, and what a function begins with, whatever goes on there. -/
noncomputable def runJ (P : Program) (Γ : Fs) (fn : Func) (cuts : Cuts) (J : List Item → List Value → Heap → R) (td : List Item) (vs : List Value) (H : Heap) : R := onSome (cutOf cuts td) fun lv => exec P Γ fn cuts J 2000 td (restore lv vs) H
noncomputable def fnJ (P : Program) (Γ : Fs) (fn : Func) (cuts : Cuts) (J : List Item → List Value → Heap → R) (args : List Value) (H : Heap) : R := onSome fn.body fun c => exec P Γ fn cuts J 2000 [.code c] (argT 0 args) H
structure CodeOk (P : Program) (f : Nat) (c : FCode) : Prop where
  ex : ∃ fn, P.funcs[f]? = some fn ∧ (fn.name == "runtime.NumGoroutine") = false ∧ fn.body.isNone = false ∧
    (∀ (Γ : Fs) (J : List Item → List Value → Heap → R) (args : List Value) (H : Heap) (r : Value × Heap), (c.X args).run P Γ (fun key vs H => J (c.td key) vs H) H = some r → fnJ P Γ fn c.cuts J args H = some r ∧ args.length ≤ fn.ntmps) ∧
    (∀ (Γ : Fs) (J : List Item → List Value → Heap → R) (key : Nat) (vs : List Value) (H : Heap) (r : Value × Heap), (c.C key vs).run P Γ (fun key vs H => J (c.td key) vs H) H = some r → runJ P Γ fn c.cuts J (c.td key) vs H = some r)
def EntOk (P : Program) (f : Nat) : Ent → Prop
  | .code c => CodeOk P f c
  | .giv g => Sound P f g.F ∧ ∀ args T v T', g.k args T = some (v, T') → g.F args T.H = some (v, T'.H)
def TrOk (P : Program) (E : Tr Ent) : Prop := ∀ f e, E.get f = some e → EntOk P f e

theorem kdrv_sound {P : Program} {Γ : Fs} {Γk : KFs} (hΓ : ∀ f args T v T', Γk f args T = some (v, T') → ∃ F, Γ f = some F ∧ F args T.H = some (v, T'.H)) {c : FCode} {fn : Func}
    (hC : ∀ (m key : Nat) (vs : List Value) (H : Heap) (r : Value × Heap), (c.C key vs).run P Γ (fun key vs H => run P Γ fn c.cuts m (c.td key) vs H) H = some r → run P Γ fn c.cuts (m + 1) (c.td key) vs H = some r) :
    ∀ (s : Nat) (x : M) (T : KH) (v : Value) (T' : KH), kdrv P Γk c s x T = some (v, T') → x.run P Γ (fun key vs H => run P Γ fn c.cuts s (c.td key) vs H) T.H = some (v, T'.H)
  | 0, x, T, v, T', h => runK_sound hΓ (fun _ _ _ _ _ h => by cases h) x T h
  | s + 1, x, T, v, T', h => runK_sound hΓ (Jk := fun key vs T => kdrv P Γk c s (c.C key vs) T) (fun key vs T v T' h => hC s key vs T.H _ (kdrv_sound hΓ hC s _ T v T' h)) x T h
theorem kcall_sound {P : Program} {E : Tr Ent} (hE : TrOk P E) {s : Nat} : ∀ (m f : Nat) (args : List Value) (T : KH) (v : Value) (T' : KH), kcall P E s m f args T = some (v, T') → FL P E m f args T.H = some (v, T'.H)
  | 0, f, args, T, v, T', h => by cases h
  | m + 1, f, args, T, v, T', h => by
    have h : (match gR E f with | some (.code c) => kdrv P (kcall P E s m) c s (c.X args) T | some (.giv g) => g.k args T | none => none) = some (v, T') := h
    split at h
    · rename_i c hc
      rw [gR_eq] at hc
      obtain ⟨fn, h1, h2, h3, h4, h5⟩ := (hE f _ hc : CodeOk P f c).ex
      simp only [FL, hc, h1]
      have hΓ : ∀ f args T v T', kcall P E s m f args T = some (v, T') → ∃ F, (fun g => some (FL P E m g) : Fs) f = some F ∧ F args T.H = some (v, T'.H) := fun f args T v T' h => ⟨_, rfl, kcall_sound hE m f args T v T' h⟩
      have hd := kdrv_sound (P := P) (Γ := fun g => some (FL P E m g)) hΓ (c := c) (fn := fn) (fun m key vs H r => h5 _ (run P _ fn c.cuts m) key vs H r) s _ T v T' h
      obtain ⟨h6, h7⟩ := h4 _ (run P _ fn c.cuts s) _ _ _ hd
      exact FN_of s h6 h7
    · rename_i g hc
      rw [gR_eq] at hc
      simp only [FL, hc]
      exact (hE f _ hc : EntOk P f (.giv g)).2 args T v T' h
    · cases h
theorem FL_sound {P : Program} {E : Tr Ent} (hE : TrOk P E) : ∀ (m f : Nat), Sound P f (FL P E m f)
  | 0, f => .inr fun args H v H' h => by cases h
  | m + 1, f => by
    cases he : E.get f with
    | none => exact .inr fun args H v H' h => by simp only [FL, he] at h; cases h
    | some e =>
      cases e with
      | giv g =>
        have hg := (hE f _ he : EntOk P f (.giv g)).1
        have : FL P E (m + 1) f = g.F := by funext args H; simp only [FL, he]
        rw [this]; exact hg
      | code c =>
        obtain ⟨fn, h1, h2, h3, _⟩ := (hE f _ he : CodeOk P f c).ex
        have hA : AllSound P (fun g => some (FL P E m g)) := fun g F hg => by
          obtain rfl := Option.some.inj hg
          exact FL_sound hE m g
        have : FL P E (m + 1) f = FN P (fun g => some (FL P E m g)) fn c.cuts := by funext args H; simp only [FL, he, h1]
        rw [this]; exact FN_sound hA h1 h2 h3
/-! For the printer: arguments taken apart; places. -/
section
variable {P : Program} {Γ : Fs} {J : Nat → List Value → Heap → R} {H : Heap} {r : Value × Heap} {v : Value}
theorem M.iInt {kd : IntKind} {k : Int → M} (h : (M.kInt kd v k).run P Γ J H = some r) : ∃ n, v = .int kd n ∧ (k n).run P Γ J H = some r := kInt_inv (c := fun n => (k n).run P Γ J H) h
theorem M.iBool {k : Bool → M} (h : (M.kBool v k).run P Γ J H = some r) : ∃ n, v = .bool n ∧ (k n).run P Γ J H = some r := kBool_inv (c := fun n => (k n).run P Γ J H) h
theorem M.iStr {k : ByteArray → M} (h : (M.kStr v k).run P Γ J H = some r) : ∃ n, v = .string n ∧ (k n).run P Γ J H = some r := kStr_inv (c := fun n => (k n).run P Γ J H) h
theorem M.iPtr {k : Option Addr → M} (h : (M.kPtr v k).run P Γ J H = some r) : ∃ n, v = .pointer n ∧ (k n).run P Γ J H = some r := kPtr_inv (c := fun n => (k n).run P Γ J H) h
theorem M.iSl {k : Option Addr → Nat → Nat → M} (h : (M.kSl v k).run P Γ J H = some r) : ∃ a l c, v = .slice a l c ∧ (k a l c).run P Γ J H = some r := kSl_inv (c := fun a l c => (k a l c).run P Γ J H) h
theorem M.iMp {k : Option Nat → M} (h : (M.kMp v k).run P Γ J H = some r) : ∃ n, v = .map n ∧ (k n).run P Γ J H = some r := kMp_inv (c := fun n => (k n).run P Γ J H) h
theorem M.iAgg {k : Array Value → M} (h : (M.kAgg v k).run P Γ J H = some r) : ∃ n, v = .agg n ∧ (k n).run P Γ J H = some r := kAgg_inv (c := fun n => (k n).run P Γ J H) h
theorem M.iFail {α : Prop} (h : M.fail.run P Γ J H = some r) : α := by cases (show (none : R) = some r from h)
end
abbrev Places := List (Nat × (List Value → M) × List Item)
def plC : Places → Nat → List Value → M
  | [], _, _ => .fail
  | (k, c, _) :: l, key, vs => (match Nat.beq k key with | true => c vs | false => plC l key vs)
def plD : Places → Nat → List Item
  | [], _ => []
  | (k, _, d) :: l, key => (match Nat.beq k key with | true => d | false => plD l key)
theorem pl_ok {p : List Item → List Value → M → Prop} (hf : ∀ d vs, p d vs .fail) : ∀ {l : Places}, (∀ x ∈ l, ∀ vs, p x.2.2 vs (x.2.1 vs)) → ∀ key vs, p (plD l key) vs (plC l key vs)
  | [], h, key, vs => hf _ _
  | (k, c, d) :: l, h, key, vs => by
    simp only [plC, plD]
    split
    · exact h (k, c, d) (by simp) vs
    · exact pl_ok hf (fun x hx => h x (by simp [hx])) key vs
theorem fc {α : Type 1} {p : α → Prop} {a : α} {l : List α} (h : p a) (t : ∀ x ∈ l, p x) : ∀ x ∈ a :: l, p x := fun x hx => by
  rcases List.mem_cons.1 hx with rfl | hx
  · exact h
  · exact t x hx
theorem fe {α : Type 1} {p : α → Prop} : ∀ x ∈ ([] : List α), p x := fun x hx => by cases hx
noncomputable def FCode.of (X : List Value → M) (L : Places) (cuts : Cuts) : FCode := ⟨X, plC L, cuts, plD L⟩
/-- A function's text is told rightly. -/
def XOk (P : Program) (fn : Func) (cuts : Cuts) (L : Places) (X : List Value → M) : Prop :=
  ∀ (Γ : Fs) (J : List Item → List Value → Heap → R) (args : List Value) (H : Heap) (r : Value × Heap), (X args).run P Γ (fun key vs H => J (plD L key) vs H) H = some r → fnJ P Γ fn cuts J args H = some r ∧ args.length ≤ fn.ntmps
/-- A place's text is. -/
def OOk (P : Program) (fn : Func) (cuts : Cuts) (L : Places) (x : Nat × (List Value → M) × List Item) : Prop :=
  ∀ (vs : List Value) (Γ : Fs) (J : List Item → List Value → Heap → R) (H : Heap) (r : Value × Heap), (x.2.1 vs).run P Γ (fun key vs H => J (plD L key) vs H) H = some r → runJ P Γ fn cuts J x.2.2 vs H = some r
theorem CodeOk.of {P : Program} {f : Nat} {X : List Value → M} {L : Places} {cuts : Cuts} {fn : Func} (h1 : P.funcs[f]? = some fn) (h2 : (fn.name == "runtime.NumGoroutine") = false) (h3 : fn.body.isNone = false)
    (h4 : XOk P fn cuts L X) (h5 : ∀ x ∈ L, OOk P fn cuts L x) : CodeOk P f (FCode.of X L cuts) :=
  ⟨fn, h1, h2, h3, h4, fun Γ J key vs H r h => pl_ok (p := fun d vs x => ∀ (Γ : Fs) (J : List Item → List Value → Heap → R) (H : Heap) (r : Value × Heap), x.run P Γ (fun key vs H => J (plD L key) vs H) H = some r → runJ P Γ fn cuts J d vs H = some r) (fun d vs Γ J H r h => M.iFail h) h5 key vs Γ J H r h⟩
theorem TrOk.leaf {P : Program} : TrOk P .e := fun f e h => by cases h
/-- Trees, part by part. -/
def TrOkAt (P : Program) (E : Tr Ent) (g : Nat → Nat) : Prop := ∀ f e, E.get f = some e → EntOk P (g f) e
theorem TrOkAt.e {P : Program} {g : Nat → Nat} : TrOkAt P .e g := fun f e h => by cases h
theorem TrOkAt.n {P : Program} {g : Nat → Nat} {o : Option Ent} {l r : Tr Ent} (h0 : ∀ e, o = some e → EntOk P (g 0) e) (hl : TrOkAt P l fun q => g (2 * q + 1)) (hr : TrOkAt P r fun q => g (2 * q + 2)) : TrOkAt P (.n o l r) g := fun f e h => by
  cases f with
  | zero => exact h0 e h
  | succ j =>
    rcases half j with ⟨a, b⟩ | ⟨a, b⟩
    · rw [Tr.get_l _ _ _ _ 0 a] at h
      have := hl _ _ h
      rw [show j + 1 = 2 * Nat.div j 2 + 1 by omega]; exact this
    · rw [Tr.get_r _ _ _ _ 0 a] at h
      have := hr _ _ h
      rw [show j + 1 = 2 * Nat.div j 2 + 2 by omega]; exact this
theorem ent_one {P : Program} {f : Nat} {e : Ent} (h : EntOk P f e) : ∀ e', some e = some e' → EntOk P f e' := fun e' q => by obtain rfl := Option.some.inj q; exact h
theorem ent_none {P : Program} {f : Nat} : ∀ e', (none : Option Ent) = some e' → EntOk P f e' := fun e' q => by cases q
end Go.Proofs.YtgnkjpbecgpjoaaGreatDoor.Fw
