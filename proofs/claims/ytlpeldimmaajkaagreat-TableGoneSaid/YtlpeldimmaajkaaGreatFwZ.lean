/- FRAMEWORK 35: concrete runs of whole functions: what they come to on trees is what the functions come to. -/
import Derived.Test.YtlpeldimmaajkaaGreatFwY
set_option linter.unusedVariables false
set_option linter.unusedSimpArgs false
namespace Go.Proofs.YtlpeldimmaajkaaGreat.Fw
open Go Go.RowKit

/-! What is found to be the same is the same. -/
theorem eqO_ok {α : Type} {f : α → α → Bool} (hf : ∀ a b, f a b = true → a = b) {a b : Option α} (h : eqO f a b = true) : a = b := by
  cases a <;> cases b <;> simp only [eqO] at h <;> first | rfl | (cases h; done) | rw [hf _ _ h]
theorem eqL_ok {α : Type} {f : α → α → Bool} (hf : ∀ a b, f a b = true → a = b) : ∀ {a b : List α}, eqL f a b = true → a = b
  | [], [], _ => rfl
  | [], _ :: _, h => by simp [eqL] at h
  | _ :: _, [], h => by simp [eqL] at h
  | a :: l, b :: m, h => by
    simp only [eqL] at h
    split at h
    · rename_i h1; rw [hf _ _ h1, eqL_ok hf h]
    · cases h
theorem eqN_ok (a b : Nat) (h : eqN a b = true) : a = b := Nat.eq_of_beq_eq_true h
theorem eqA_ok (a b : Addr) (h : eqA a b = true) : a = b := by
  unfold eqA at h
  split at h
  · rename_i h1 h2 h3
    obtain ⟨x, y, z⟩ := a
    obtain ⟨x', y', z'⟩ := b
    have e1 : x = x' := eqN_ok _ _ h1
    have e2 : y = y' := eqN_ok _ _ h2
    have e3 : z = z' := eqO_ok eqN_ok h3
    rw [e1, e2, e3]
  · cases h
theorem eqF_ok (a b : Fn) (h : eqF a b = true) : a = b := by
  cases a <;> cases b <;> simp only [eqF] at h <;> first | (cases h; done) | rw [eqN_ok _ _ h]
theorem eqB_ok (a b : UInt8) (h : eqB a b = true) : a = b := UInt8.toNat_inj.1 (Nat.eq_of_beq_eq_true h)
theorem eqI_ok {a b : Int} (h : eqI a b = true) : a = b := by rw [eqI_eq] at h; exact eq_of_beq h
theorem eqV_ok : ∀ (d : Nat) (v w : Value), eqV d v w = true → v = w
  | 0, v, w, h => by cases h
  | d + 1, v, w, h => by
    unfold eqV at h
    split at h <;> try (cases h; done)
    · split at h
      · rename_i h1; rw [of_decide_eq_true h1, eqI_ok h]
      · cases h
    · rw [eq_of_beq h]
    · rename_i a b
      obtain ⟨⟨a⟩⟩ := a; obtain ⟨⟨b⟩⟩ := b
      have := eqL_ok eqB_ok h
      simp only [] at this
      rw [this]
    · rw [eqO_ok eqA_ok h]
    · split at h
      · rename_i h1 h2 h3; rw [eqO_ok eqA_ok h1, eqN_ok _ _ h2, eqN_ok _ _ h3]
      · cases h
    · rw [eqO_ok eqN_ok h]
    · rw [Array.toList_inj.1 (eqL_ok (eqV_ok d) h)]
    · rw [Array.toList_inj.1 (eqL_ok (eqV_ok d) h)]
    · rfl
    · rfl
    · split at h
      · rename_i h1; rw [eqN_ok _ _ h1, eqV_ok d _ _ h]
      · cases h
    · split at h
      · rename_i h1 h2 h3; rw [eqF_ok _ _ h1, Array.toList_inj.1 (eqL_ok (eqV_ok d) h2), Array.toList_inj.1 (eqL_ok (eqV_ok d) h3)]
      · cases h
theorem eqP_ok (a b : Value × Value) (h : eqP a b = true) : a = b := by
  unfold eqP at h
  split at h
  · rename_i h1
    obtain ⟨x, y⟩ := a; obtain ⟨x', y'⟩ := b
    have h1 := eqV_ok _ _ _ h1
    have h := eqV_ok _ _ _ h
    simp only [] at h1 h
    rw [h1, h]
  · cases h
theorem eqOb_ok (a b : AObj) (h : eqOb a b = true) : a = b := by
  unfold eqOb at h
  split at h <;> try (cases h; done)
  · split at h
    · rename_i h1 h2; rw [eqL_ok (eqV_ok 6) h1, eqN_ok _ _ h2, eq_of_beq h]
    · cases h
  · split at h
    · rename_i h1 h2; rw [eqL_ok eqP_ok h1, eqL_ok eqN_ok h2, eqN_ok _ _ h]
    · cases h
  · split at h
    · rename_i h1 h2 h3; rw [eqO_ok eqN_ok h1, eqN_ok _ _ h2, eqL_ok eqN_ok h3, eqN_ok _ _ h]
    · cases h
  · rfl
theorem eqT_ok : ∀ (a b : Tr AObj), eqT a b = true → a = b
  | .e, .e, _ => rfl
  | .e, .n _ _ _, h => by simp [eqT] at h
  | .n _ _ _, .e, h => by simp [eqT] at h
  | .n o l r, .n p m s, h => by
    unfold eqT at h
    split at h
    · rename_i h1 h2; rw [eqO_ok eqOb_ok h1, eqT_ok l m h2, eqT_ok r s h]
    · cases h
theorem eqR_ok {a b : Value × KH} (h : eqR a b = true) : a = b := by
  unfold eqR at h
  split at h
  · rename_i h1 h2
    obtain ⟨x, ⟨n, t⟩⟩ := a; obtain ⟨y, ⟨m, s⟩⟩ := b
    have h1 := eqV_ok _ _ _ h1
    have h2 := eqN_ok _ _ h2
    have h3 := eqT_ok _ _ h
    simp only [] at h1 h2 h3
    rw [h1, h2, h3]
  · cases h
theorem kallEq_ok {l : List KR} {r : Value × KH} (h : kallEq l = some r) : l ≠ [] ∧ ∀ x ∈ l, x = some r := by
  unfold kallEq at h
  split at h
  · cases h
  · exact ⟨by simp, by simpa using h⟩
  · rename_i x l hne
    split at h
    · cases h
    · rename_i r0
      split at h
      · rename_i hall
        obtain rfl := Option.some.inj h
        refine ⟨by simp, fun z hz => ?_⟩
        rcases List.mem_cons.1 hz with rfl | hz
        · rfl
        · have := List.all_eq_true.1 hall z hz
          split at this
          · rename_i s; rw [eqR_ok this]
          · cases this
      · cases h

noncomputable def sNextV (T : KH) (b r since : Nat) (seen : List Nat) (clk : Nat) (k : Value → KH → KR) : Option ((Value × Value) × Nat) → KR
  | none => kset T b .dead fun T => k (.tuple #[.bool false]) T
  | some e => sSet T b (.iter (some r) since (seen ++ [e.2]) clk) fun T => k (.tuple #[.bool true, e.1.1, e.1.2]) T
noncomputable def sNxt (T : KH) (a : Addr) (k : Value → KH → KR) : KR :=
  match Nat.beq a.off 0, kg T a.block with
  | true, some (.iter none _ _ _) => kset T a.block .dead fun T => k (.tuple #[.bool false]) T
  | true, some (.iter (some r) since seen last) => sLdm T r fun es bs clk => onSome (nextC es bs since seen last) fun l => kallEq (l.map (sNextV T a.block r since seen clk k))
  | _, _ => none
theorem allEq_of' {β : Type} {r : β} {l : List (Option β)} (hn : l ≠ []) (h : ∀ x ∈ l, x = some r) : allEq l = some r := allEq_of hn h
theorem sNxt_ok {T : KH} {a : Addr} {k : Value → KH → KR} {k' : Value → Heap → R} {v : Value} {T2 : KH} (h : sNxt T a k = some (v, T2)) (hk : ∀ u T, k u T = some (v, T2) → k' u T.H = some (v, T2.H)) : nxA T.H a k' = some (v, T2.H) := by
  unfold sNxt at h
  split at h
  · rename_i h0 hg
    obtain ⟨hH, hlt⟩ := kg_at hg
    obtain ⟨T', h1, h2⟩ := kset_ok h hlt
    unfold nxA
    simp only [h0, hH]
    rw [← h2]; exact hk _ _ h1
  · rename_i q since seen last h0 hg
    obtain ⟨hH, hlt⟩ := kg_at hg
    obtain ⟨es, bs, clk, h1, h2, _⟩ := sLdm_ok h
    replace h1 := onSome_inv h1; obtain ⟨l, hl, h1⟩ := h1
    obtain ⟨hne, hall⟩ := kallEq_ok h1
    unfold nxA
    simp only [h0, hH]
    rw [ldmB_of h2, hl]
    simp only [onSome]
    refine allEq_of' (by simpa using hne) fun x hx => ?_
    obtain ⟨c, hc, rfl⟩ := List.mem_map.1 hx
    have hh := hall _ (List.mem_map.2 ⟨c, hc, rfl⟩)
    cases c with
    | none =>
      obtain ⟨T', h3, h4⟩ := kset_ok (r := (v, T2)) hh hlt
      simp only [nextV]
      rw [← h4]; exact hk _ _ h3
    | some c =>
      obtain ⟨T', h3, h4⟩ := sSet_ok (r := (v, T2)) hh hlt
      simp only [nextV]
      rw [← h4]; exact hk _ _ h3
  · cases h

def sSame (a b : Option AObj) (k : KR) : KR := match a, b with | some o, some o' => (match eqOb o o' with | true => k | false => none) | _, _ => none
abbrev KJ := Nat → List Value → KH → KR
/-- WHAT A TEXT COMES TO ON TREES. -/
noncomputable def M.runK (P : Program) (Γ : KFs) (x : M) : KJ → KH → KR :=
  M.rec (motive := fun _ => KJ → KH → KR)
    (fun v J T => some (v, T))
    (fun J T => none)
    (fun key vs J T => J key vs T)
    (fun {α} x k ih J T => match x with | some a => ih a J T | none => none)
    (fun {α} x a k iha ihk J T => match x with | none => iha J T | some y => ihk y J T)
    (fun b x y ihx ihy J T => Bool.rec (motive := fun _ => KR) (ihy J T) (ihx J T) b)
    (fun c d x ih J T => @Decidable.rec c (fun _ => KR) (fun _ => none) (fun _ => ih J T) d)
    (fun c d x ih J T => @Decidable.rec c (fun _ => KR) (fun _ => ih J T) (fun _ => none) d)
    (fun kd v k ih J T => sInt kd v fun n => ih n J T)
    (fun v k ih J T => match v with | .int kd n => ih kd n J T | _ => none)
    (fun v k ih J T => match v with | .bool b => ih b J T | _ => none)
    (fun v k ih J T => match v with | .string b => ih b J T | _ => none)
    (fun v k ih J T => match v with | .pointer b => ih b J T | _ => none)
    (fun v k ih J T => match v with | .slice a l c => ih a l c J T | _ => none)
    (fun v k ih J T => match v with | .map b => ih b J T | _ => none)
    (fun v k ih J T => match v with | .agg b => ih b J T | _ => none)
    (fun v k ih J T => match v with | .tuple b => ih b J T | _ => none)
    (fun v x y ihx ihy J T => match v with | .nilIface => ihx J T | .iface _ _ => ihy J T | _ => none)
    (fun v x y ihx ihy J T => match v with | .nilFunc => ihx J T | .func _ _ _ => ihy J T | _ => none)
    (fun kd n k ih J T => kwr kd n fun n => qI n fun n => ih n J T)
    (fun op a b k ih J T => qB (cmpK op a b) fun b => ih b J T)
    (fun n k ih J T => qI n fun n => ih n J T)
    (fun b k ih J T => qB b fun b => ih b J T)
    (fun v k ih J T => qV 6 v fun v => ih v J T)
    (fun i n x ih J T => sInb i n (ih J T))
    (fun b k ih J T => sLdc T b fun cs => ih cs J T)
    (fun b off k ih J T => sLd T b off fun v => ih v J T)
    (fun b off n k ih J T => sLdn T b off n fun cs => ih cs J T)
    (fun cs i k ih J T => match nthR cs.toList i with | some v => ih v J T | none => none)
    (fun cs off n k ih J T => qR cs.toList off n fun l => ih ⟨l⟩ J T)
    (fun sz v k ih J T => sFirst T sz v fun n l => ih n l J T)
    (fun e s n nw k ih J T => sApp P e T s n nw fun v T => ih v J T)
    (fun sz a len n nw k ih J T => sCpy T sz a len n nw fun m T => ih m J T)
    (fun sz z a len x ih J T => sClr T sz z a len fun T => ih J T)
    (fun kt v k ih J T => Fw.kKey P kt v fun v => ih v J T)
    (fun r key x ih J T => sDele T r key fun T => ih J T)
    (fun r key v x ih J T => sMupd T r key v fun T => ih J T)
    (fun et r key k ih J T => sMent P et T r key fun v T => qV 2 v fun v => ih v J T)
    (fun r n v x ih J T => sEsto T r n v fun T => ih J T)
    (fun mt x ix ok k ih J T => sLookup P mt T x ix ok fun v => ih v J T)
    (fun r k ih J T => sLdmo T r fun es => ih es J T)
    (fun r k ih J T => sRng T r fun v T => ih v J T)
    (fun a k ih J T => sNxt T a fun v T => ih v J T)
    (fun a k ih J T => sEntr T a fun v => ih v J T)
    (fun a n u one k ih J T => sUStr T a n u one fun s T => ih s J T)
    (fun a u n x ih J T => sFromU T a u n (ih J T))
    (fun s l h k ih J T => sSlStr s l h fun s => ih s J T)
    (fun a b k ih J T => sCat a b fun s => ih s J T)
    (fun a b k ih J T => qB (sEqB a b) fun b => ih b J T)
    (fun s i k ih J T => qI (sByte s i) fun n => ih n J T)
    (fun sz a len cap l h k ih J T => sSlSl T sz a len cap l h fun v => ih v J T)
    (fun sz a len cap l h m k ih J T => sSlSl3 T sz a len cap l h m fun v => ih v J T)
    (fun sz n a l h k ih J T => sSlArr T sz n a l h fun v => ih v J T)
    (fun n a v x ih J T => sSt n T a v fun T => ih J T)
    (fun o k ih J T => sNew T o fun id T => ih id J T)
    (fun s k ih J T => qM (qV 1) (s.data.toList.map fun b => .int .u8 b.toNat) fun l => kpush T (.cells l 1 true) fun T2 => ih T.n J T2)
    (fun v x ih J T => Fw.cellsOk v (ih J T))
    (fun vs x ih J T => Fw.cellsOks vs (ih J T))
    (fun t x y k ih J T => Fw.eqv P 20 t x y fun b => qB b fun b => ih b J T)
    (fun x y k ih J T => Fw.ptrEq x y fun b => qB b fun b => ih b J T)
    (fun t ok v k ih J T => Fw.tyAs P t ok v fun v => ih v J T)
    (fun f args k ih J T => match Γ f args T with | some (v, T) => ih v J T | none => none)
    (fun v args k ih J T => match v with | .func (.func f) first cap => qL (first.toList ++ args ++ cap.toList) fun args => (match Γ f args T with | some (v, T) => ih v J T | none => none) | _ => none)
    (fun b k ih J T => match kg T b with | some o => ih (some o) J T | none => none)
    (fun b o x ih J T => sSame o (kg T b) (ih J T))
    x

theorem cellsOk_out {β γ : Type} {r : β} {v : Value} {k : Option β} (h : cellsOk v k = some r) : k = some r ∧ ∀ k' : Option γ, cellsOk v k' = k' := by
  unfold cellsOk at h ⊢
  split at h
  · exact ⟨h, fun k' => rfl⟩
  · rename_i hv
    split at h
    · rename_i h1
      exact ⟨h, fun k' => rfl⟩
    · cases h
theorem cellsOks_out {β γ : Type} {r : β} : ∀ {vs : List Value} {k : Option β}, cellsOks vs k = some r → k = some r ∧ ∀ k' : Option γ, cellsOks vs k' = k'
  | [], k, h => ⟨h, fun k' => rfl⟩
  | v :: vs, k, h => by
    simp only [cellsOks] at h ⊢
    obtain ⟨h1, h2⟩ := cellsOk_out (γ := γ) h
    obtain ⟨h3, h4⟩ := cellsOks_out (γ := γ) h1
    exact ⟨h3, fun k' => by rw [h2, h4]⟩
theorem kKey_out {β γ : Type} {r : β} {P : Program} {kt : TypeId} {v : Value} {k : Value → Option β} (h : kKey P kt v k = some r) : ∃ u, k u = some r ∧ ∀ k' : Value → Option γ, kKey P kt v k' = k' u := by
  have e : kKey P kt v k = (kKey P kt v some).bind k := kKey_bb fun _ => rfl
  rw [e] at h
  cases hz : kKey P kt v some with
  | none => rw [hz] at h; cases h
  | some u =>
    rw [hz] at h
    refine ⟨u, h, fun k' => ?_⟩
    have e' : kKey P kt v k' = (kKey P kt v some).bind k' := kKey_bb fun _ => rfl
    rw [e', hz]; rfl
theorem eqv_out {β γ : Type} {r : β} {P : Program} {n : Nat} {t : TypeId} {x y : Value} {k : Bool → Option β} (h : eqv P n t x y k = some r) : ∃ b, k b = some r ∧ ∀ k' : Bool → Option γ, eqv P n t x y k' = k' b := by
  have e : ∀ {δ : Type} (k : Bool → Option δ), eqv P n t x y k = (eqv P n t x y fun b => some (Value.bool b)).bind fun v => match v with | Value.bool b => k b | _ => none := fun k => eqv_bb n fun _ => rfl
  rw [e] at h
  cases hz : eqv P n t x y fun b => some (Value.bool b) with
  | none => rw [hz] at h; cases h
  | some u =>
    rw [hz] at h
    simp only [Option.bind_some] at h
    split at h
    · rename_i b; exact ⟨b, h, fun k' => by rw [e, hz]; rfl⟩
    · cases h
theorem ptrEq_out {β γ : Type} {r : β} {x y : Option Addr} {k : Bool → Option β} (h : ptrEq x y k = some r) : ∃ b, k b = some r ∧ ∀ k' : Bool → Option γ, ptrEq x y k' = k' b := by
  have e : ∀ {δ : Type} (k : Bool → Option δ), ptrEq x y k = (ptrEq x y some).bind k := fun k => ptrEq_bb fun _ => rfl
  rw [e] at h
  cases hz : ptrEq x y some with
  | none => rw [hz] at h; cases h
  | some u => rw [hz] at h; exact ⟨u, h, fun k' => by rw [e, hz]; rfl⟩
theorem tyAs_out {β γ : Type} {r : β} {P : Program} {t : TypeId} {ok : Bool} {v : Value} {k : Value → Option β} (h : tyAs P t ok v k = some r) : ∃ u, k u = some r ∧ ∀ k' : Value → Option γ, tyAs P t ok v k' = k' u := by
  rw [tyAs_b] at h
  cases hz : tyAs P t ok v some with
  | none => rw [hz] at h; cases h
  | some u => rw [hz] at h; exact ⟨u, h, fun k' => by rw [tyAs_b, hz]; rfl⟩
theorem extract_range (cs : Array Value) (off n : Nat) : cs.extract off (off + n) = ⟨range cs.toList off n⟩ := by
  apply Array.ext'
  rw [Array.toList_extract]
  simp [range, List.extract]

theorem runK_sound {P : Program} {Γ : Fs} {Γk : KFs} (hΓ : ∀ f args T v T', Γk f args T = some (v, T') → ∃ F, Γ f = some F ∧ F args T.H = some (v, T'.H))
    {J : Nat → List Value → Heap → R} {Jk : KJ} (hJ : ∀ key vs T v T', Jk key vs T = some (v, T') → J key vs T.H = some (v, T'.H)) {v : Value} {T2 : KH} (x : M) : ∀ T : KH, x.runK P Γk Jk T = some (v, T2) → x.run P Γ J T.H = some (v, T2.H) := by
  induction x with
  | ret u => intro T h; have h : some (u, T) = some (v, T2) := h; obtain ⟨rfl, rfl⟩ := Prod.mk.inj (Option.some.inj h); rfl
  | fail => intro T h; cases h
  | jmp key vs => intro T h; exact hJ _ _ _ _ _ h
  | onS x k ih =>
    intro T h
    cases x with
    | none => cases h
    | some a => exact ih a T h
  | opt x a k iha ihk =>
    intro T h
    cases x with
    | none => exact iha T h
    | some y => exact ihk y T h
  | bool b x y ihx ihy =>
    intro T h
    cases b with
    | true => exact ihx T h
    | false => exact ihy T h
  | @ite c d x ih =>
    intro T h
    simp only [M.run]
    cases d with
    | isTrue hc => rw [if_pos hc]; exact ih T h
    | isFalse hc => cases h
  | @nite c d x ih =>
    intro T h
    simp only [M.run]
    cases d with
    | isTrue hc => cases h
    | isFalse hc => rw [if_neg hc]; exact ih T h
  | kInt kd u k ih =>
    intro T h
    obtain ⟨n, rfl, h1⟩ := sInt_ok (k := fun n => (k n).runK P Γk Jk T) h
    simp only [M.run, Fw.kInt, if_true]; exact ih n T h1
  | kAnyInt u k ih => intro T h; cases u <;> first | (cases h; done) | exact ih _ _ T h
  | kBool u k ih => intro T h; cases u <;> first | (cases h; done) | exact ih _ T h
  | kStr u k ih => intro T h; cases u <;> first | (cases h; done) | exact ih _ T h
  | kPtr u k ih => intro T h; cases u <;> first | (cases h; done) | exact ih _ T h
  | kSl u k ih => intro T h; cases u <;> first | (cases h; done) | exact ih _ _ _ T h
  | kMp u k ih => intro T h; cases u <;> first | (cases h; done) | exact ih _ T h
  | kAgg u k ih => intro T h; cases u <;> first | (cases h; done) | exact ih _ T h
  | kTup u k ih => intro T h; cases u <;> first | (cases h; done) | exact ih _ T h
  | nilI u x y ihx ihy => intro T h; cases u <;> first | (cases h; done) | exact ihx T h | exact ihy T h
  | nilF u x y ihx ihy => intro T h; cases u <;> first | (cases h; done) | exact ihx T h | exact ihy T h
  | wr kd n k ih =>
    intro T h
    have h : kwr kd n (fun n => qI n fun n => (k n).runK P Γk Jk T) = some (v, T2) := h
    rw [kwr_eq, qI_eq] at h
    exact ih _ T h
  | cmp op a b k ih =>
    intro T h
    have h : qB (cmpK op a b) (fun b => (k b).runK P Γk Jk T) = some (v, T2) := h
    rw [qB_eq, cmpK_eq] at h
    exact ih _ T h
  | fxI n k ih =>
    intro T h
    have h : qI n (fun n => (k n).runK P Γk Jk T) = some (v, T2) := h
    rw [qI_eq] at h
    exact ih _ T h
  | fxB n k ih =>
    intro T h
    have h : qB n (fun n => (k n).runK P Γk Jk T) = some (v, T2) := h
    rw [qB_eq] at h
    exact ih _ T h
  | fxV n k ih =>
    intro T h
    have h : qV 6 n (fun n => (k n).runK P Γk Jk T) = some (v, T2) := h
    rw [qV_eq] at h
    exact ih _ T h
  | inb i n x ih =>
    intro T h
    obtain ⟨h1, h2⟩ := sInb_ok (k := x.runK P Γk Jk T) h
    simp only [M.run]
    rw [if_pos h2]; exact ih T h1
  | ldc b k ih =>
    intro T h
    obtain ⟨cs, h1, h2⟩ := sLdc_ok (k := fun cs => (k cs).runK P Γk Jk T) h
    simp only [M.run, h2]; exact ih _ T h1
  | ld b off k ih =>
    intro T h
    obtain ⟨u, h1, h2⟩ := sLd_ok (k := fun u => (k u).runK P Γk Jk T) h
    simp only [M.run, h2]; exact ih _ T h1
  | ldn b off n k ih =>
    intro T h
    obtain ⟨u, h1, h2⟩ := sLdn_ok (k := fun u => (k u).runK P Γk Jk T) h
    exact (h2 fun u => (k u).run P Γ J T.H).trans (ih _ T h1)
  | nthA cs i k ih =>
    intro T h
    have h : (match nthR cs.toList i with | some u => (k u).runK P Γk Jk T | none => none) = some (v, T2) := h
    split at h
    · rename_i u hu
      rw [nthR_eq, Array.getElem?_toList] at hu
      simp only [M.run, hu, onSome]; exact ih _ T h
    · cases h
  | sub cs off n k ih =>
    intro T h
    have h : qR cs.toList off n (fun l => (k ⟨l⟩).runK P Γk Jk T) = some (v, T2) := h
    rw [qR_eq] at h
    simp only [M.run, extract_range]; exact ih _ T h
  | firstC sz u k ih =>
    intro T h
    obtain ⟨n, l, h1, h2⟩ := sFirst_ok (k := fun n l => (k n l).runK P Γk Jk T) h
    simp only [M.run, h2]; exact ih _ _ T h1
  | app e s n nw k ih =>
    intro T h
    obtain ⟨u, T', h1, h2⟩ := sApp_ok (k := fun u T => (k u).runK P Γk Jk T) h
    simp only [M.run, h2]; exact ih _ T' h1
  | cpy sz a len n nw k ih =>
    intro T h
    obtain ⟨u, T', h1, h2⟩ := sCpy_ok (k := fun u T => (k u).runK P Γk Jk T) h
    simp only [M.run, h2]; exact ih _ T' h1
  | clr sz z a len x ih =>
    intro T h
    obtain ⟨T', h1, h2⟩ := sClr_ok (k := fun T => x.runK P Γk Jk T) h
    simp only [M.run, h2]; exact ih T' h1
  | kKey kt u k ih =>
    intro T h
    obtain ⟨u', h1, h2⟩ := kKey_out (γ := Value × Heap) (k := fun u => (k u).runK P Γk Jk T) h
    simp only [M.run, h2]; exact ih _ T h1
  | dele q key x ih =>
    intro T h
    obtain ⟨T', h1, h2⟩ := sDele_ok (k := fun T => x.runK P Γk Jk T) h
    simp only [M.run, h2]; exact ih T' h1
  | mupd q key u x ih =>
    intro T h
    obtain ⟨T', h1, h2⟩ := sMupd_ok (k := fun T => x.runK P Γk Jk T) h
    simp only [M.run, h2]; exact ih T' h1
  | ment et q key k ih =>
    intro T h
    obtain ⟨u, T', h1, h2⟩ := sMent_ok (k := fun u T => qV 2 u fun u => (k u).runK P Γk Jk T) h
    rw [qV_eq] at h1
    simp only [M.run, h2]; exact ih _ T' h1
  | esto q n u x ih =>
    intro T h
    obtain ⟨T', h1, h2⟩ := sEsto_ok (k := fun T => x.runK P Γk Jk T) h
    simp only [M.run, h2]; exact ih T' h1
  | lookupK mt x ix ok k ih =>
    intro T h
    obtain ⟨u, h1, h2⟩ := sLookup_ok (k := fun u => (k u).runK P Γk Jk T) h
    simp only [M.run, h2]; exact ih _ T h1
  | ldmo q k ih =>
    intro T h
    obtain ⟨u, h1, h2⟩ := sLdmo_ok (k := fun u => (k u).runK P Γk Jk T) h
    simp only [M.run, h2]; exact ih _ T h1
  | rng q k ih =>
    intro T h
    obtain ⟨u, T', h1, h2⟩ := sRng_ok (k := fun u T => (k u).runK P Γk Jk T) h
    simp only [M.run, h2]; exact ih _ T' h1
  | nxt a k ih =>
    intro T h
    exact sNxt_ok (k := fun u T => (k u).runK P Γk Jk T) (k' := fun u H => (k u).run P Γ J H) h fun u T' hh => ih u T' hh
  | entr a k ih =>
    intro T h
    obtain ⟨u, h1, h2⟩ := sEntr_ok (k := fun u => (k u).runK P Γk Jk T) h
    simp only [M.run, h2]; exact ih _ T h1
  | uStr a n u one k ih =>
    intro T h
    obtain ⟨u, T', h1, h2⟩ := sUStr_ok (k := fun u T => (k u).runK P Γk Jk T) h
    simp only [M.run, h2]; exact ih _ T' h1
  | fromU a u n x ih =>
    intro T h
    obtain ⟨h1, h2⟩ := sFromU_ok (k := x.runK P Γk Jk T) h
    simp only [M.run, h2]; exact ih T h1
  | slStr s l h k ih =>
    intro T hh
    obtain ⟨u, h1, h2⟩ := sSlStr_ok (k := fun u => (k u).runK P Γk Jk T) hh
    exact (h2 fun u => (k u).run P Γ J T.H).trans (ih _ T h1)
  | cat a b k ih =>
    intro T hh
    obtain ⟨u, h1, rfl, h2⟩ := sCat_ok (k := fun u => (k u).runK P Γk Jk T) hh
    simp only [M.run]
    rw [if_pos h2]; exact ih _ T h1
  | sEq a b k ih =>
    intro T h
    have h : qB (sEqB a b) (fun b => (k b).runK P Γk Jk T) = some (v, T2) := h
    rw [qB_eq, sEqB_eq] at h
    exact ih _ T h
  | byte s i k ih =>
    intro T h
    have h : qI (sByte s i) (fun b => (k b).runK P Γk Jk T) = some (v, T2) := h
    rw [qI_eq, sByte_eq] at h
    exact ih _ T h
  | slSl sz a len cap l h k ih =>
    intro T hh
    obtain ⟨u, h1, h2⟩ := sSlSl_ok (k := fun u => (k u).runK P Γk Jk T) hh
    simp only [M.run, h2]; exact ih _ T h1
  | slSl3 sz a len cap l h m k ih =>
    intro T hh
    obtain ⟨u, h1, h2⟩ := sSlSl3_ok (k := fun u => (k u).runK P Γk Jk T) hh
    simp only [M.run, h2]; exact ih _ T h1
  | slArr sz n a l h k ih =>
    intro T hh
    obtain ⟨u, h1, h2⟩ := sSlArr_ok (k := fun u => (k u).runK P Γk Jk T) hh
    simp only [M.run, h2]; exact ih _ T h1
  | st n a u x ih =>
    intro T h
    obtain ⟨T', h1, h2⟩ := sSt_ok (k := fun T => x.runK P Γk Jk T) h
    simp only [M.run, h2]; exact ih T' h1
  | new o k ih =>
    intro T h
    obtain ⟨T', h1, h2⟩ := sNew_ok (k := fun id T => (k id).runK P Γk Jk T) h
    simp only [M.run, ← h2]; exact ih _ T' h1
  | newB s k ih =>
    intro T h
    have h : qM (qV 1) (s.data.toList.map fun b => .int .u8 b.toNat) (fun l => kpush T (.cells l 1 true) fun T2 => (k T.n).runK P Γk Jk T2) = some (v, T2) := h
    rw [qM_eq (qV_eq 1)] at h
    obtain ⟨T', h1, h2⟩ := kpush_ok h
    simp only [M.run, ← h2, KH.len]; exact ih _ T' h1
  | cellsOk u x ih =>
    intro T h
    obtain ⟨h1, h2⟩ := cellsOk_out (γ := Value × Heap) (k := x.runK P Γk Jk T) h
    simp only [M.run, h2]; exact ih T h1
  | cellsOks u x ih =>
    intro T h
    obtain ⟨h1, h2⟩ := cellsOks_out (γ := Value × Heap) (k := x.runK P Γk Jk T) h
    simp only [M.run, h2]; exact ih T h1
  | eqv t x y k ih =>
    intro T h
    obtain ⟨b, h1, h2⟩ := eqv_out (γ := Value × Heap) (k := fun b => qB b fun b => (k b).runK P Γk Jk T) h
    rw [qB_eq] at h1
    simp only [M.run, h2]; exact ih _ T h1
  | ptrEq x y k ih =>
    intro T h
    obtain ⟨b, h1, h2⟩ := ptrEq_out (γ := Value × Heap) (k := fun b => qB b fun b => (k b).runK P Γk Jk T) h
    rw [qB_eq] at h1
    simp only [M.run, h2]; exact ih _ T h1
  | tyAs t ok u k ih =>
    intro T h
    obtain ⟨b, h1, h2⟩ := tyAs_out (γ := Value × Heap) (k := fun b => (k b).runK P Γk Jk T) h
    simp only [M.run, h2]; exact ih _ T h1
  | call f args k ih =>
    intro T h
    have h : (match Γk f args T with | some (u, T) => (k u).runK P Γk Jk T | none => none) = some (v, T2) := h
    split at h
    · rename_i u T' hc
      obtain ⟨F, h1, h2⟩ := hΓ _ _ _ _ _ hc
      simp only [M.run, h1, h2, onSome]; exact ih _ T' h
    · cases h
  | callV u args k ih =>
    intro T h
    cases u with
    | func fn first cap =>
      cases fn with
      | func f =>
        have h : qL (first.toList ++ args ++ cap.toList) (fun args => match Γk f args T with | some (u, T) => (k u).runK P Γk Jk T | none => none) = some (v, T2) := h
        rw [qL_eq] at h
        split at h
        · rename_i u T' hc
          obtain ⟨F, h1, h2⟩ := hΓ _ _ _ _ _ hc
          simp only [M.run, h1, h2, onSome]; exact ih _ T' h
        · cases h
      | _ => cases h
    | _ => cases h
  | snap b k ih =>
    intro T h
    have h : (match kg T b with | some o => (k (some o)).runK P Γk Jk T | none => none) = some (v, T2) := h
    split at h
    · rename_i o ho
      simp only [M.run, (kg_at ho).1]; exact ih _ T h
    · cases h
  | same b o x ih =>
    intro T h
    replace h : sSame o (kg T b) (x.runK P Γk Jk T) = some (v, T2) := h
    unfold sSame at h
    split at h
    · rename_i o o' ho
      split at h
      · rename_i he
        simp only [M.run, sameO]
        rw [if_pos (by rw [(kg_at ho).1, eqOb_ok _ _ he])]
        exact ih T h
      · cases h
    · cases h

/-! WHOLE PROGRAMS. -/
/-- A function's texts: its own, and those at the places where it is cut. -/
structure FCode where
  X : List Value → M
  C : Nat → List Value → M
  cuts : Cuts
  td : Nat → List Item
/-- A function that is given, on both heaps. -/
structure Giv where
  k : List Value → KH → KR
  F : List Value → Heap → R
inductive Ent
  | code (c : FCode)
  | giv (g : Giv)
noncomputable def kdrv (P : Program) (Γ : KFs) (c : FCode) (s : Nat) : M → KH → KR :=
  Nat.rec (motive := fun _ => M → KH → KR) (fun x T => x.runK P Γ (fun _ _ _ => none) T) (fun _ ih x T => x.runK P Γ (fun key vs T => ih (c.C key vs) T) T) s
noncomputable def kcall (P : Program) (E : Tr Ent) (s : Nat) (m : Nat) : KFs :=
  Nat.rec (motive := fun _ => KFs) (fun _ _ _ => none)
    (fun _ ih f args T => match gR E f with | some (.code c) => kdrv P ih c s (c.X args) T | some (.giv g) => g.k args T | none => none) m
/-- The same, told of lists. -/
noncomputable def FL (P : Program) (E : Tr Ent) : Nat → Nat → List Value → Heap → R
  | 0, _, _, _ => none
  | m + 1, f, args, H => (match E.get f, P.funcs[f]? with
      | some (.code c), some fn => FN P (fun g => some (FL P E m g)) fn c.cuts args H
      | some (.giv g), _ => g.F args H
      | _, _ => none)
structure CodeOk (P : Program) (f : Nat) (c : FCode) : Prop where
  ex : ∃ fn, P.funcs[f]? = some fn ∧ (fn.name == "runtime.NumGoroutine") = false ∧ fn.body.isNone = false ∧
    (∀ (Γ : Fs) (m : Nat) (args : List Value) (H : Heap) (r : Value × Heap), (c.X args).run P Γ (fun key vs H => run P Γ fn c.cuts m (c.td key) vs H) H = some r → fnE P Γ fn c.cuts m args H = some r ∧ args.length ≤ fn.ntmps) ∧
    (∀ (Γ : Fs) (m key : Nat) (vs : List Value) (H : Heap) (r : Value × Heap), (c.C key vs).run P Γ (fun key vs H => run P Γ fn c.cuts m (c.td key) vs H) H = some r → run P Γ fn c.cuts (m + 1) (c.td key) vs H = some r)
def EntOk (P : Program) (f : Nat) : Ent → Prop
  | .code c => CodeOk P f c
  | .giv g => Sound P f g.F ∧ ∀ args T v T', g.k args T = some (v, T') → g.F args T.H = some (v, T'.H)
def TrOk (P : Program) (E : Tr Ent) : Prop := ∀ f e, E.get f = some e → EntOk P f e

theorem kdrv_sound {P : Program} {Γ : Fs} {Γk : KFs} (hΓ : ∀ f args T v T', Γk f args T = some (v, T') → ∃ F, Γ f = some F ∧ F args T.H = some (v, T'.H)) {c : FCode} {fn : Func}
    (hC : ∀ (m key : Nat) (vs : List Value) (H : Heap) (r : Value × Heap), (c.C key vs).run P Γ (fun key vs H => run P Γ fn c.cuts m (c.td key) vs H) H = some r → run P Γ fn c.cuts (m + 1) (c.td key) vs H = some r) :
    ∀ (s : Nat) (x : M) (T : KH) (v : Value) (T' : KH), kdrv P Γk c s x T = some (v, T') → x.run P Γ (fun key vs H => run P Γ fn c.cuts s (c.td key) vs H) T.H = some (v, T'.H)
  | 0, x, T, v, T', h => runK_sound hΓ (fun _ _ _ _ _ h => by cases h) x T h
  | s + 1, x, T, v, T', h => runK_sound hΓ (Jk := fun key vs T => kdrv P Γk c s (c.C key vs) T) (fun key vs T v T' h => hC s key vs T.H _ (kdrv_sound hΓ hC s _ T v T' h)) x T h
theorem kcall_sound {P : Program} {E : Tr Ent} (hE : TrOk P E) {s : Nat} : ∀ (m f : Nat) (args : List Value) (T : KH) (v : Value) (T' : KH), kcall P E s m f args T = some (v, T') → FL P E m f args T.H = some (v, T'.H)
  | 0, f, args, T, v, T', h => by cases h
  | m + 1, f, args, T, v, T', h => by
    have h : (match gR E f with | some (.code c) => kdrv P (kcall P E s m) c s (c.X args) T | some (.giv g) => g.k args T | none => none) = some (v, T') := h
    split at h
    · rename_i c hc
      rw [gR_eq] at hc
      obtain ⟨fn, h1, h2, h3, h4, h5⟩ := (hE f _ hc : CodeOk P f c).ex
      simp only [FL, hc, h1]
      have hΓ : ∀ f args T v T', kcall P E s m f args T = some (v, T') → ∃ F, (fun g => some (FL P E m g) : Fs) f = some F ∧ F args T.H = some (v, T'.H) := fun f args T v T' h => ⟨_, rfl, kcall_sound hE m f args T v T' h⟩
      have hd := kdrv_sound (P := P) (Γ := fun g => some (FL P E m g)) hΓ (c := c) (fn := fn) (fun m key vs H r => h5 _ m key vs H r) s _ T v T' h
      obtain ⟨h6, h7⟩ := h4 _ _ _ _ _ hd
      exact FN_of s h6 h7
    · rename_i g hc
      rw [gR_eq] at hc
      simp only [FL, hc]
      exact (hE f _ hc : EntOk P f (.giv g)).2 args T v T' h
    · cases h
theorem FL_sound {P : Program} {E : Tr Ent} (hE : TrOk P E) : ∀ (m f : Nat), Sound P f (FL P E m f)
  | 0, f => .inr fun args H v H' h => by cases h
  | m + 1, f => by
    cases he : E.get f with
    | none => exact .inr fun args H v H' h => by simp only [FL, he] at h; cases h
    | some e =>
      cases e with
      | giv g =>
        have hg := (hE f _ he : EntOk P f (.giv g)).1
        have : FL P E (m + 1) f = g.F := by funext args H; simp only [FL, he]
        rw [this]; exact hg
      | code c =>
        obtain ⟨fn, h1, h2, h3, _⟩ := (hE f _ he : CodeOk P f c).ex
        have hA : AllSound P (fun g => some (FL P E m g)) := fun g F hg => by
          obtain rfl := Option.some.inj hg
          exact FL_sound hE m g
        have : FL P E (m + 1) f = FN P (fun g => some (FL P E m g)) fn c.cuts := by funext args H; simp only [FL, he, h1]
        rw [this]; exact FN_sound hA h1 h2 h3
/-! For the printer: arguments taken apart; places. -/
section
variable {P : Program} {Γ : Fs} {J : Nat → List Value → Heap → R} {H : Heap} {r : Value × Heap} {v : Value}
theorem M.iInt {kd : IntKind} {k : Int → M} (h : (M.kInt kd v k).run P Γ J H = some r) : ∃ n, v = .int kd n ∧ (k n).run P Γ J H = some r := kInt_inv (c := fun n => (k n).run P Γ J H) h
theorem M.iBool {k : Bool → M} (h : (M.kBool v k).run P Γ J H = some r) : ∃ n, v = .bool n ∧ (k n).run P Γ J H = some r := kBool_inv (c := fun n => (k n).run P Γ J H) h
theorem M.iStr {k : ByteArray → M} (h : (M.kStr v k).run P Γ J H = some r) : ∃ n, v = .string n ∧ (k n).run P Γ J H = some r := kStr_inv (c := fun n => (k n).run P Γ J H) h
theorem M.iPtr {k : Option Addr → M} (h : (M.kPtr v k).run P Γ J H = some r) : ∃ n, v = .pointer n ∧ (k n).run P Γ J H = some r := kPtr_inv (c := fun n => (k n).run P Γ J H) h
theorem M.iSl {k : Option Addr → Nat → Nat → M} (h : (M.kSl v k).run P Γ J H = some r) : ∃ a l c, v = .slice a l c ∧ (k a l c).run P Γ J H = some r := kSl_inv (c := fun a l c => (k a l c).run P Γ J H) h
theorem M.iMp {k : Option Nat → M} (h : (M.kMp v k).run P Γ J H = some r) : ∃ n, v = .map n ∧ (k n).run P Γ J H = some r := kMp_inv (c := fun n => (k n).run P Γ J H) h
theorem M.iAgg {k : Array Value → M} (h : (M.kAgg v k).run P Γ J H = some r) : ∃ n, v = .agg n ∧ (k n).run P Γ J H = some r := kAgg_inv (c := fun n => (k n).run P Γ J H) h
theorem M.iFail {α : Prop} (h : M.fail.run P Γ J H = some r) : α := by cases (show (none : R) = some r from h)
end
abbrev Places := List (Nat × (List Value → M) × List Item)
def plC : Places → Nat → List Value → M
  | [], _, _ => .fail
  | (k, c, _) :: l, key, vs => (match Nat.beq k key with | true => c vs | false => plC l key vs)
def plD : Places → Nat → List Item
  | [], _ => []
  | (k, _, d) :: l, key => (match Nat.beq k key with | true => d | false => plD l key)
theorem pl_ok {p : List Item → List Value → M → Prop} (hf : ∀ d vs, p d vs .fail) : ∀ {l : Places}, (∀ x ∈ l, ∀ vs, p x.2.2 vs (x.2.1 vs)) → ∀ key vs, p (plD l key) vs (plC l key vs)
  | [], h, key, vs => hf _ _
  | (k, c, d) :: l, h, key, vs => by
    simp only [plC, plD]
    split
    · exact h (k, c, d) (by simp) vs
    · exact pl_ok hf (fun x hx => h x (by simp [hx])) key vs
theorem fc {α : Type 1} {p : α → Prop} {a : α} {l : List α} (h : p a) (t : ∀ x ∈ l, p x) : ∀ x ∈ a :: l, p x := fun x hx => by
  rcases List.mem_cons.1 hx with rfl | hx
  · exact h
  · exact t x hx
theorem fe {α : Type 1} {p : α → Prop} : ∀ x ∈ ([] : List α), p x := fun x hx => by cases hx
noncomputable def FCode.of (X : List Value → M) (L : Places) (cuts : Cuts) : FCode := ⟨X, plC L, cuts, plD L⟩
/-- A function's text is told rightly. -/
def XOk (P : Program) (fn : Func) (cuts : Cuts) (L : Places) (X : List Value → M) : Prop :=
  ∀ (Γ : Fs) (m : Nat) (args : List Value) (H : Heap) (r : Value × Heap), (X args).run P Γ (fun key vs H => run P Γ fn cuts m (plD L key) vs H) H = some r → fnE P Γ fn cuts m args H = some r ∧ args.length ≤ fn.ntmps
/-- A place's text is. -/
def OOk (P : Program) (fn : Func) (cuts : Cuts) (L : Places) (x : Nat × (List Value → M) × List Item) : Prop :=
  ∀ (vs : List Value) (Γ : Fs) (m : Nat) (H : Heap) (r : Value × Heap), (x.2.1 vs).run P Γ (fun key vs H => run P Γ fn cuts m (plD L key) vs H) H = some r → run P Γ fn cuts (m + 1) x.2.2 vs H = some r
theorem CodeOk.of {P : Program} {f : Nat} {X : List Value → M} {L : Places} {cuts : Cuts} {fn : Func} (h1 : P.funcs[f]? = some fn) (h2 : (fn.name == "runtime.NumGoroutine") = false) (h3 : fn.body.isNone = false)
    (h4 : XOk P fn cuts L X) (h5 : ∀ x ∈ L, OOk P fn cuts L x) : CodeOk P f (FCode.of X L cuts) :=
  ⟨fn, h1, h2, h3, h4, fun Γ m key vs H r h => pl_ok (p := fun d vs x => ∀ (Γ : Fs) (m : Nat) (H : Heap) (r : Value × Heap), x.run P Γ (fun key vs H => run P Γ fn cuts m (plD L key) vs H) H = some r → run P Γ fn cuts (m + 1) d vs H = some r) (fun d vs Γ m H r h => M.iFail h) h5 key vs Γ m H r h⟩
theorem TrOk.leaf {P : Program} : TrOk P .e := fun f e h => by cases h
/-- Trees, part by part. -/
def TrOkAt (P : Program) (E : Tr Ent) (g : Nat → Nat) : Prop := ∀ f e, E.get f = some e → EntOk P (g f) e
theorem TrOkAt.e {P : Program} {g : Nat → Nat} : TrOkAt P .e g := fun f e h => by cases h
theorem TrOkAt.n {P : Program} {g : Nat → Nat} {o : Option Ent} {l r : Tr Ent} (h0 : ∀ e, o = some e → EntOk P (g 0) e) (hl : TrOkAt P l fun q => g (2 * q + 1)) (hr : TrOkAt P r fun q => g (2 * q + 2)) : TrOkAt P (.n o l r) g := fun f e h => by
  cases f with
  | zero => exact h0 e h
  | succ j =>
    rcases half j with ⟨a, b⟩ | ⟨a, b⟩
    · rw [Tr.get_l _ _ _ _ 0 a] at h
      have := hl _ _ h
      rw [show j + 1 = 2 * Nat.div j 2 + 1 by omega]; exact this
    · rw [Tr.get_r _ _ _ _ 0 a] at h
      have := hr _ _ h
      rw [show j + 1 = 2 * Nat.div j 2 + 2 by omega]; exact this
theorem ent_one {P : Program} {f : Nat} {e : Ent} (h : EntOk P f e) : ∀ e', some e = some e' → EntOk P f e' := fun e' q => by obtain rfl := Option.some.inj q; exact h
theorem ent_none {P : Program} {f : Nat} : ∀ e', (none : Option Ent) = some e' → EntOk P f e' := fun e' q => by cases q
end Go.Proofs.YtlpeldimmaajkaaGreat.Fw
