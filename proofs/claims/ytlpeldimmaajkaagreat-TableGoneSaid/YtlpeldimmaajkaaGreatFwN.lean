/- FRAMEWORK 23: more rounds tell the same; functions by what they come to. -/
import Derived.Test.YtlpeldimmaajkaaGreatFwM
import Derived.Laws.Externs
set_option linter.unusedVariables false
set_option linter.unusedSimpArgs false
namespace Go.Proofs.YtlpeldimmaajkaaGreat.Fw
open Go Go.RowKit

section
variable {P : Program} {Γ : Fs} {β : Type} {r : β}

theorem put_mono {n : Nat} {t : Tm} {d : Option Nat} {v : Value} {k k' : Tm → Option β} (h : put n t d v k = some r) (hk : ∀ t, k t = some r → k' t = some r) : put n t d v k' = some r := by
  cases d with
  | none => exact hk _ h
  | some d =>
    simp only [put] at h ⊢
    split at h
    · exact hk _ h
    · cases h
theorem guard_mono {ops : List Oper} {n : Nat} {o : Oper} {t : Tm} {y n' y' n2 : Tm → Option β} (h : guard ops n o t y n' = some r) (hy : ∀ t, y t = some r → y' t = some r) (hn : ∀ t, n' t = some r → n2 t = some r) : guard ops n o t y' n2 = some r := by
  unfold guard at h ⊢
  cases hg : o.guard with
  | none => simp only [hg] at h ⊢; exact hy _ h
  | some gw =>
    obtain ⟨j, want⟩ := gw
    simp only [hg] at h ⊢
    cases hj : ops[j]? with
    | none => simp only [hj] at h; cases h
    | some g =>
      simp only [hj] at h ⊢
      cases hd : g.dst with
      | none => simp only [hd] at h; cases h
      | some d =>
        simp only [hd] at h ⊢
        cases hb : Nat.blt d n with
        | false => simp only [hb] at h; cases h
        | true =>
          simp only [hb] at h ⊢
          replace h := onSome_inv h; obtain ⟨v, hv, h⟩ := h
          rcases kBoolU_inv h with ⟨b, rfl, h⟩ | ⟨x, rfl, h⟩
          · simp only [hv, onSome, kBoolU]
            cases b <;> cases want <;> simp only [] at h ⊢ <;> first | exact hy _ h | exact hn _ h
          · simp only [hv, onSome, kBoolU]
            exact hn _ h
theorem fl_mono {t : Tm} {H : Heap} {ty : TypeId} {op : Op} {k k' : Value → Option β} (h : fl P t H ty op k = some r) (hk : ∀ v, k v = some r → k' v = some r) : fl P t H ty op k' = some r := by
  obtain ⟨v, hv, h⟩ := fl_val h
  rw [fl_b, hv]; exact hk _ h
theorem al_mono {t : Tm} {op : Op} {k k' : AObj → (Nat → Value) → Option β} (h : al P t op k = some r) (hk : ∀ o m, k o m = some r → k' o m = some r) : al P t op k' = some r := by
  obtain ⟨o, m, hv, h⟩ := al_val h
  rw [al_b, hv]; exact hk _ _ h
theorem ef_mono {t : Tm} {H : Heap} {ty : TypeId} {op : Op} {k k' : Value → Heap → Option β} (h : ef P Γ t H ty op k = some r) (hk : ∀ v H, k v H = some r → k' v H = some r) : ef P Γ t H ty op k' = some r := by
  obtain ⟨v, H', hv, h⟩ := ef_val h
  rw [ef_b, hv]; exact hk _ _ h
theorem allEq_of {l : List (Option β)} (hn : l ≠ []) (h : ∀ x ∈ l, x = some r) : allEq l = some r := by
  match l, hn, h with
  | [x], _, h => exact h x (by simp)
  | x :: y :: l, _, h =>
    have hx := h x (by simp)
    exact (if_pos (fun z hz => (h z (List.mem_cons_of_mem _ hz)).trans hx.symm) : allEq (x :: y :: l) = x).trans hx
theorem nx_mono {t : Tm} {H : Heap} {it : Operand} {k k' : Value → Heap → Option β} (h : nx t H it k = some r) (hk : ∀ v H, k v H = some r → k' v H = some r) : nx t H it k' = some r := by
  unfold nx at h ⊢
  rw [opd_b] at h ⊢
  cases hv : opd t it some with
  | none => rw [hv] at h; cases h
  | some v =>
    rw [hv] at h
    simp only [Option.bind_some] at h ⊢
    replace h := kPtr_inv h; obtain ⟨a, rfl, h⟩ := h
    replace h := onSome_inv h; obtain ⟨a, rfl, h⟩ := h
    simp only [kPtr, onSome]
    split at h
    · exact hk _ _ h
    · rename_i rb since seen last h0 h1
      replace h := ldmB_inv h; obtain ⟨es, bs, clk, hH, h⟩ := h
      replace h := onSome_inv h; obtain ⟨l, hl, h⟩ := h
      simp only [ldmB, hH, hl, onSome]
      obtain ⟨hne, hall⟩ := allEq_inv h
      refine allEq_of (by simpa using hne) fun x hx => ?_
      obtain ⟨c, hc, rfl⟩ := List.mem_map.1 hx
      have := hall _ (List.mem_map.2 ⟨c, hc, rfl⟩)
      cases c with
      | none => exact hk _ _ this
      | some c => exact hk _ _ this
    · cases h
theorem op1_mono {n : Nat} {o : Oper} {t : Tm} {H : Heap} {k k' : Tm → Heap → Option β} (h : op1 P Γ n o t H k = some r) (hk : ∀ t H, k t H = some r → k' t H = some r) : op1 P Γ n o t H k' = some r := by
  unfold op1 at h ⊢
  cases hno : nextOf o.op with
  | some it => simp only [hno] at h ⊢; exact nx_mono h fun v H h => put_mono h fun t ht => hk _ _ ht
  | none =>
  simp only [hno] at h ⊢
  split at h
  · exact fl_mono h fun v hv => put_mono hv fun t ht => hk _ _ ht
  · exact al_mono h fun ob mk hv => put_mono hv fun t ht => hk _ _ ht
  · exact ef_mono h fun v H hv => put_mono hv fun t ht => hk _ _ ht
theorem opsE_mono {n : Nat} {ops : List Oper} : ∀ (l : List Oper) {t : Tm} {H : Heap} {k k' : Tm → Heap → Option β}, opsE P Γ n ops l t H k = some r → (∀ t H, k t H = some r → k' t H = some r) → opsE P Γ n ops l t H k' = some r
  | [], t, H, k, k', h, hk => hk _ _ h
  | o :: l, t, H, k, k', h, hk => by
    simp only [opsE] at h ⊢
    exact guard_mono h (fun t h => op1_mono h fun t H h => opsE_mono l h hk) fun t h => put_mono h fun t h => opsE_mono l h hk
theorem untouched_mono {H H' : Heap} {bef : Nat} {rs : List (Nat × Nat)} {k k' : Option β} (h : untouched H H' bef rs k = some r) (hk : k = some r → k' = some r) : untouched H H' bef rs k' = some r := by
  induction rs with
  | nil => exact hk h
  | cons x rs ih =>
    obtain ⟨i, b⟩ := x
    simp only [untouched] at h ⊢
    split at h
    · exact ih h
    · obtain ⟨h0, h⟩ := unt_inv h
      unfold unt
      rw [if_pos h0]
      exact ih h
theorem opsD_mono {n : Nat} {ops : List Oper} {bs : List Nat} : ∀ (g : List Nat) {rs : List (Nat × Nat)} {t : Tm} {H : Heap} {k k' : Tm → Heap → Option β}, opsD P Γ n ops bs g rs t H k = some r → (∀ t H, k t H = some r → k' t H = some r) → opsD P Γ n ops bs g rs t H k' = some r
  | [], rs, t, H, k, k', h, hk => hk _ _ h
  | i :: g, rs, t, H, k, k', h, hk => by
    simp only [opsD] at h ⊢
    replace h := onSome_inv h; obtain ⟨o, ho, h⟩ := h
    simp only [ho, onSome]
    refine guard_mono h (fun t h => ?_) fun t h => put_mono h fun t h => opsD_mono g h hk
    cases hc : cls P o.op with
    | fl =>
      simp only [hc] at h ⊢
      refine fl_mono h fun v h => put_mono h fun t' h => ?_
      cases hb : rblk t o.op with
      | none => simp only [hb] at h ⊢; exact opsD_mono g h hk
      | some b => simp only [hb] at h ⊢; exact opsD_mono g h hk
    | al => simp only [hc] at h ⊢; exact al_mono h fun ob mk h => put_mono h fun t h => opsD_mono g h hk
    | ef => simp only [hc] at h ⊢; exact ef_mono h fun v H h => untouched_mono h fun h => put_mono h fun t h => opsD_mono g h hk
theorem regionE_mono {n : Nat} {ops : List Oper} {dr : Bool} {t : Tm} {H : Heap} {k k' : Tm → Heap → Option β} (h : regionE P Γ n ops dr t H k = some r) (hk : ∀ t H, k t H = some r → k' t H = some r) : regionE P Γ n ops dr t H k' = some r := by
  cases dr with
  | false => exact opsE_mono _ h hk
  | true =>
    simp only [regionE] at h ⊢
    split at h
    · exact opsD_mono _ h hk
    · cases h
end

section
variable {P : Program} {Γ : Fs} {r : Value × Heap}

theorem sel_mono {t : Tm} : ∀ (lv : List Nat) {k k' : List Value → R}, sel t lv k = some r → (∀ vs, k vs = some r → k' vs = some r) → sel t lv k' = some r
  | [], k, k', h, hk => hk _ h
  | i :: lv, k, k', h, hk => by
    simp only [sel] at h ⊢
    replace h := onSome_inv h; obtain ⟨v, hv, h⟩ := h
    rw [hv]
    exact sel_mono lv h fun vs => hk _

theorem exec_mono {fn : Func} {cuts : Cuts} {J J' : List Item → List Value → Heap → R} (hJ : ∀ td vs H, J td vs H = some r → J' td vs H = some r) : ∀ (g : Nat) (td : List Item) (t : Tm) (H : Heap), exec P Γ fn cuts J g td t H = some r → exec P Γ fn cuts J' g td t H = some r := by
  intro g
  induction g with
  | zero => intro td t H h; cases h
  | succ g ih =>
    intro td t H h
    have jump : ∀ (td : List Item) (t : Tm) (H : Heap), (match cutOf cuts td with | some lv => sel t lv fun vs => J td vs H | none => exec P Γ fn cuts J g td t H) = some r →
        (match cutOf cuts td with | some lv => sel t lv fun vs => J' td vs H | none => exec P Γ fn cuts J' g td t H) = some r := by
      intro td t H h
      cases hc : cutOf cuts td with
      | some lv => simp only [hc] at h ⊢; exact sel_mono _ h fun vs => hJ _ _ _
      | none => simp only [hc] at h ⊢; exact ih _ _ _ h
    unfold exec at h ⊢
    simp only [] at h ⊢
    split at h
    · exact h
    · exact jump _ _ _ h
    · exact regionE_mono h fun t H h => jump _ _ _ h
    · exact ih _ _ _ h
    · rw [opd_b] at h ⊢
      rename_i c a b K
      cases hv : opd t c some with
      | none => rw [hv] at h; cases h
      | some v =>
        rw [hv] at h
        simp only [Option.bind_some] at h ⊢
        replace h := kBool_inv h; obtain ⟨bb, rfl, h⟩ := h
        simp only [kBool]
        cases bb <;> simp only [] at h ⊢ <;> exact jump _ _ _ h
    · exact ih _ _ _ h
    · exact jump _ _ _ h
    · replace h := onSome_inv h; obtain ⟨K', hK, h⟩ := h
      simp only [hK, onSome]
      exact jump _ _ _ h
    · exact h
    · exact jump _ _ _ h
    · exact ih _ _ _ h
    · cases h

theorem run_mono {fn : Func} {cuts : Cuts} : ∀ (m : Nat) (td : List Item) (vs : List Value) (H : Heap), run P Γ fn cuts m td vs H = some r → run P Γ fn cuts (m + 1) td vs H = some r
  | 0, td, vs, H, h => by cases h
  | m + 1, td, vs, H, h => by
    simp only [run] at h
    replace h := onSome_inv h; obtain ⟨lv, hl, h⟩ := h
    simp only [run, hl, onSome]
    exact exec_mono (run_mono m) _ _ _ _ h
theorem run_le {fn : Func} {cuts : Cuts} {td : List Item} {vs : List Value} {H : Heap} {m m' : Nat} (hm : m ≤ m') (h : run P Γ fn cuts m td vs H = some r) : run P Γ fn cuts m' td vs H = some r := by
  obtain ⟨d, rfl⟩ := Nat.le.dest hm
  induction d with
  | zero => exact h
  | succ d ih => exact run_mono _ _ _ _ (ih (Nat.le_add_right _ _))
theorem fnE_le {fn : Func} {cuts : Cuts} {args : List Value} {H : Heap} {m m' : Nat} (hm : m ≤ m') (h : fnE P Γ fn cuts m args H = some r) : fnE P Γ fn cuts m' args H = some r := by
  unfold fnE at h ⊢
  replace h := onSome_inv h; obtain ⟨c, hc, h⟩ := h
  simp only [hc, onSome]
  exact exec_mono (fun td vs H h => run_le hm h) _ _ _ _ h

/-- What a function comes to, in however many rounds. -/
noncomputable def FN (P : Program) (Γ : Fs) (fn : Func) (cuts : Cuts) (args : List Value) (H : Heap) : R :=
  if args.length ≤ fn.ntmps then lim fun m => fnE P Γ fn cuts m args H else none

theorem FN_of {fn : Func} {cuts : Cuts} {args : List Value} {H : Heap} (m : Nat) (h : fnE P Γ fn cuts m args H = some r) (hn : args.length ≤ fn.ntmps) : FN P Γ fn cuts args H = some r := by
  unfold FN
  rw [if_pos hn]
  unfold lim
  have ex : ∃ m r, fnE P Γ fn cuts m args H = some r := ⟨m, r, h⟩
  rw [dif_pos ex]
  have h2 := Classical.choose_spec (Classical.choose_spec ex)
  have h3 := fnE_le (Nat.le_max_left m (Classical.choose ex)) h
  have h4 := fnE_le (Nat.le_max_right m (Classical.choose ex)) h2
  rw [h3] at h4
  exact h4.symm

theorem FN_sound (hΓ : ∀ f F, Γ f = some F → Sound P f F) {f : FuncId} {fn : Func} (hf : P.funcs[f]? = some fn) (hnm : (fn.name == "runtime.NumGoroutine") = false) (hbd : fn.body.isNone = false) {cuts : Cuts} : Sound P f (FN P Γ fn cuts) :=
  Sound.of_fnE hΓ hf hnm hbd fun args H r h => by
    unfold FN at h
    split at h
    · rename_i hn
      unfold lim at h
      split at h
      · rename_i ex
        obtain rfl := Option.some.inj h
        exact ⟨_, Classical.choose_spec (Classical.choose_spec ex), hn⟩
      · cases h
    · cases h
end

/-- One function more. -/
def Fs.ext (Γ : Fs) (f : Nat) (F : List Value → Heap → R) : Fs := fun n => match Nat.beq n f with | true => some F | false => Γ n
def Fs.none : Fs := fun _ => Option.none

/-- A function of which nothing is told. -/
def noF : List Value → Heap → R := fun _ _ => Option.none
theorem noF_sound {P : Program} {f : FuncId} : Sound P f noF := .inr fun args H v H' h => by cases h

/-- internal/abi.NoEscape: the pointer as it is. -/
def noEsc : List Value → Heap → R := fun args H => match args with | [v] => some (v, H) | _ => Option.none
theorem noEsc_sound {P : Program} {f : FuncId} {fn : Func} (hf : P.funcs[f]? = some fn) (hname : (fn.name == "runtime.NumGoroutine") = false) (hb : fn.body.isNone = true) (hn : Extern.findNext fn = Option.none) (he : Extern.find fn = some Extern.AbiNoEscape.same) : Sound P f noEsc := by
  refine .inr fun args H v H' h ρ w args' hR hv => ?_
  unfold noEsc at h
  split at h
  · rename_i u
    obtain ⟨u', m, rfl, h1, h2⟩ := hv.cons_inv
    obtain rfl := h2.nil_inv
    obtain ⟨rfl, rfl⟩ := Prod.mk.inj (Option.some.inj h)
    exact ⟨u', ρ, w, by rw [run_callFunc_extern hf hname hb hn he]; rfl, hR, Ext.refl _ _ _, h1⟩
  · cases h

/-- All that is told of functions is so. -/
def AllSound (P : Program) (Γ : Fs) : Prop := ∀ f F, Γ f = some F → Sound P f F
theorem AllSound.none {P : Program} : AllSound P Fs.none := fun f F h => by cases h
theorem AllSound.ext {P : Program} {Γ : Fs} (h : AllSound P Γ) {f : Nat} {F : List Value → Heap → R} (hs : Sound P f F) : AllSound P (Γ.ext f F) := fun n G hn => by
  unfold Fs.ext at hn
  split at hn
  · rename_i e
    obtain rfl := Option.some.inj hn
    rw [Nat.eq_of_beq_eq_true e]; exact hs
  · exact h n G hn
end Go.Proofs.YtlpeldimmaajkaaGreat.Fw
