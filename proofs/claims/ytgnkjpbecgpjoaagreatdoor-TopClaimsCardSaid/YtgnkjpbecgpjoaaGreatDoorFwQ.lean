/- FRAMEWORK 23: more rounds tell the same; functions by what they come to. FRAMEWORK 24: what a law is given, as an abstract heap; what is left alone. FRAMEWORK 25: small laws for what functions come to. FRAMEWORK 26: arguments that are made of whole numbers, bools and texts: structs, arrays, and slices of these. -/
import Derived.Test.YtgnkjpbecgpjoaaGreatDoorFwM
import Derived.Laws.Externs
import Derived.SliceStrings
import Derived.WideShapes
import Derived.ProofKit
import Derived.OpenShut
set_option linter.unusedVariables false
set_option linter.unusedSimpArgs false
namespace Go.Proofs.YtgnkjpbecgpjoaaGreatDoor.Fw
open Go Go.RowKit

section
variable {P : Program} {Γ : Fs} {β : Type} {r : β}

theorem put_mono {n : Nat} {t : Tm} {d : Option Nat} {v : Value} {k k' : Tm → Option β} (h : put n t d v k = some r) (hk : ∀ t, k t = some r → k' t = some r) : put n t d v k' = some r := by
  cases d with
  | none => exact hk _ h
  | some d =>
    simp only [put] at h ⊢
    split at h
    · exact hk _ h
    · cases h
theorem guard_mono {ops : List Oper} {n : Nat} {o : Oper} {t : Tm} {y n' y' n2 : Tm → Option β} (h : guard ops n o t y n' = some r) (hy : ∀ t, y t = some r → y' t = some r) (hn : ∀ t, n' t = some r → n2 t = some r) : guard ops n o t y' n2 = some r := by
  unfold guard at h ⊢
  cases hg : o.guard with
  | none => simp only [hg] at h ⊢; exact hy _ h
  | some gw =>
    obtain ⟨j, want⟩ := gw
    simp only [hg] at h ⊢
    cases hj : ops[j]? with
    | none => simp only [hj] at h; cases h
    | some g =>
      simp only [hj] at h ⊢
      cases hd : g.dst with
      | none => simp only [hd] at h; cases h
      | some d =>
        simp only [hd] at h ⊢
        cases hb : Nat.blt d n with
        | false => simp only [hb] at h; cases h
        | true =>
          simp only [hb] at h ⊢
          replace h := onSome_inv h; obtain ⟨v, hv, h⟩ := h
          rcases kBoolU_inv h with ⟨b, rfl, h⟩ | ⟨x, rfl, h⟩
          · simp only [hv, onSome, kBoolU]
            cases b <;> cases want <;> simp only [] at h ⊢ <;> first | exact hy _ h | exact hn _ h
          · simp only [hv, onSome, kBoolU]
            exact hn _ h
theorem fl_mono {t : Tm} {H : Heap} {ty : TypeId} {op : Op} {k k' : Value → Option β} (h : fl P t H ty op k = some r) (hk : ∀ v, k v = some r → k' v = some r) : fl P t H ty op k' = some r := by
  obtain ⟨v, hv, h⟩ := fl_val h
  rw [fl_b, hv]; exact hk _ h
theorem al_mono {t : Tm} {op : Op} {k k' : AObj → (Nat → Value) → Option β} (h : al P t op k = some r) (hk : ∀ o m, k o m = some r → k' o m = some r) : al P t op k' = some r := by
  obtain ⟨o, m, hv, h⟩ := al_val h
  rw [al_b, hv]; exact hk _ _ h
theorem ef_mono {t : Tm} {H : Heap} {ty : TypeId} {op : Op} {k k' : Value → Heap → Option β} (h : ef P Γ t H ty op k = some r) (hk : ∀ v H, k v H = some r → k' v H = some r) : ef P Γ t H ty op k' = some r := by
  obtain ⟨v, H', hv, h⟩ := ef_val h
  rw [ef_b, hv]; exact hk _ _ h
theorem nx_mono {t : Tm} {H : Heap} {it : Operand} {r : Res} {k k' : Value → Heap → Option Res} (h : nx t H it k = some r) (hk : ∀ v H r, k v H = some r → k' v H = some r) : nx t H it k' = some r := by
  unfold nx at h ⊢
  rw [opd_b] at h ⊢
  cases hv : opd t it some with
  | none => rw [hv] at h; cases h
  | some v =>
    rw [hv] at h
    simp only [Option.bind_some] at h ⊢
    replace h := kPtr_inv h; obtain ⟨a, rfl, h⟩ := h
    replace h := onSome_inv h; obtain ⟨a, rfl, h⟩ := h
    simp only [kPtr, onSome]
    split at h
    · exact hk _ _ _ h
    · rename_i rb since seen last h0 h1
      replace h := ldmB_inv h; obtain ⟨es, bs, clk, hH, h⟩ := h
      replace h := onSome_inv h; obtain ⟨l, hl, h⟩ := h
      simp only [ldmB, hH, hl, onSome]
      refine allEq_congr h (by simp) fun i r1 hi => ?_
      rw [List.getElem?_map] at hi ⊢
      cases hc : l[i]? with
      | none => rw [hc] at hi; cases hi
      | some c =>
        rw [hc] at hi
        simp only [Option.map_some, Option.some.injEq] at hi ⊢
        cases c with
        | none => exact hk _ _ _ hi
        | some c => exact hk _ _ _ hi
    · cases h
theorem op1_mono {n : Nat} {o : Oper} {t : Tm} {H : Heap} {r : Res} {k k' : Tm → Heap → Option Res} (h : op1 P Γ n o t H k = some r) (hk : ∀ t H r, k t H = some r → k' t H = some r) : op1 P Γ n o t H k' = some r := by
  unfold op1 at h ⊢
  cases hno : nextOf o.op with
  | some it => simp only [hno] at h ⊢; exact nx_mono h fun v H r h => put_mono h fun t ht => hk _ _ _ ht
  | none =>
  simp only [hno] at h ⊢
  split at h
  · exact fl_mono h fun v hv => put_mono hv fun t ht => hk _ _ _ ht
  · exact al_mono h fun ob mk hv => put_mono hv fun t ht => hk _ _ _ ht
  · exact ef_mono h fun v H hv => put_mono hv fun t ht => hk _ _ _ ht
theorem opsE_mono {n : Nat} {ops : List Oper} : ∀ (l : List Oper) {t : Tm} {H : Heap} {r : Res} {k k' : Tm → Heap → Option Res}, opsE P Γ n ops l t H k = some r → (∀ t H r, k t H = some r → k' t H = some r) → opsE P Γ n ops l t H k' = some r
  | [], t, H, r, k, k', h, hk => hk _ _ _ h
  | o :: l, t, H, r, k, k', h, hk => by
    simp only [opsE] at h ⊢
    exact guard_mono h (fun t h => op1_mono h fun t H r h => opsE_mono l h hk) fun t h => put_mono h fun t h => opsE_mono l h hk
theorem untouched_mono {H H' : Heap} {bef : Nat} {rs : List (Nat × Nat)} {k k' : Option β} (h : untouched H H' bef rs k = some r) (hk : k = some r → k' = some r) : untouched H H' bef rs k' = some r := by
  induction rs with
  | nil => exact hk h
  | cons x rs ih =>
    obtain ⟨i, b⟩ := x
    simp only [untouched] at h ⊢
    split at h
    · exact ih h
    · obtain ⟨h0, h⟩ := unt_inv h
      unfold unt
      rw [if_pos h0]
      exact ih h
theorem opsD_mono {n : Nat} {ops : List Oper} {bs : List Nat} : ∀ (g : List Nat) {rs : List (Nat × Nat)} {t : Tm} {H : Heap} {k k' : Tm → Heap → Option β}, opsD P Γ n ops bs g rs t H k = some r → (∀ t H, k t H = some r → k' t H = some r) → opsD P Γ n ops bs g rs t H k' = some r
  | [], rs, t, H, k, k', h, hk => hk _ _ h
  | i :: g, rs, t, H, k, k', h, hk => by
    simp only [opsD] at h ⊢
    replace h := onSome_inv h; obtain ⟨o, ho, h⟩ := h
    simp only [ho, onSome]
    refine guard_mono h (fun t h => ?_) fun t h => put_mono h fun t h => opsD_mono g h hk
    cases hc : cls P o.op with
    | fl =>
      simp only [hc] at h ⊢
      refine fl_mono h fun v h => put_mono h fun t' h => ?_
      cases hb : rblk t o.op with
      | none => simp only [hb] at h ⊢; exact opsD_mono g h hk
      | some b => simp only [hb] at h ⊢; exact opsD_mono g h hk
    | al => simp only [hc] at h ⊢; exact al_mono h fun ob mk h => put_mono h fun t h => opsD_mono g h hk
    | ef => simp only [hc] at h ⊢; exact ef_mono h fun v H h => untouched_mono h fun h => put_mono h fun t h => opsD_mono g h hk
theorem regionE_mono {n : Nat} {ops : List Oper} {dr : Bool} {t : Tm} {H : Heap} {r : Res} {k k' : Tm → Heap → Option Res} (h : regionE P Γ n ops dr t H k = some r) (hk : ∀ t H r, k t H = some r → k' t H = some r) : regionE P Γ n ops dr t H k' = some r := by
  cases dr with
  | false => exact opsE_mono _ h hk
  | true =>
    simp only [regionE] at h ⊢
    split at h
    · exact opsD_mono _ h fun t H => hk t H _
    · cases h
end

section
variable {P : Program} {Γ : Fs} {r : Value × Heap}

theorem sel_mono {t : Tm} : ∀ (lv : List Nat) {k k' : List Value → R}, sel t lv k = some r → (∀ vs, k vs = some r → k' vs = some r) → sel t lv k' = some r
  | [], k, k', h, hk => hk _ h
  | i :: lv, k, k', h, hk => by
    simp only [sel] at h ⊢
    replace h := onSome_inv h; obtain ⟨v, hv, h⟩ := h
    rw [hv]
    exact sel_mono lv h fun vs => hk _

theorem exec_mono {fn : Func} {cuts : Cuts} {J J' : List Item → List Value → Heap → R} (hJ : ∀ td vs H r, J td vs H = some r → J' td vs H = some r) : ∀ (g : Nat) (td : List Item) (t : Tm) (H : Heap) (r : Value × Heap), exec P Γ fn cuts J g td t H = some r → exec P Γ fn cuts J' g td t H = some r := by
  intro g
  induction g with
  | zero => intro td t H r h; cases h
  | succ g ih =>
    intro td t H r h
    have jump : ∀ (td : List Item) (t : Tm) (H : Heap) (r : Value × Heap), (match cutOf cuts td with | some lv => sel t lv fun vs => J td vs H | none => exec P Γ fn cuts J g td t H) = some r →
        (match cutOf cuts td with | some lv => sel t lv fun vs => J' td vs H | none => exec P Γ fn cuts J' g td t H) = some r := by
      intro td t H r h
      cases hc : cutOf cuts td with
      | some lv => simp only [hc] at h ⊢; exact sel_mono _ h fun vs => hJ _ _ _ _
      | none => simp only [hc] at h ⊢; exact ih _ _ _ _ h
    unfold exec at h ⊢
    simp only [] at h ⊢
    split at h
    · exact h
    · exact jump _ _ _ _ h
    · exact regionE_mono h fun t H r h => jump _ _ _ _ h
    · exact ih _ _ _ _ h
    · rw [opd_b] at h ⊢
      rename_i c a b K
      cases hv : opd t c some with
      | none => rw [hv] at h; cases h
      | some v =>
        rw [hv] at h
        simp only [Option.bind_some] at h ⊢
        replace h := kBool_inv h; obtain ⟨bb, rfl, h⟩ := h
        simp only [kBool]
        cases bb <;> simp only [] at h ⊢ <;> exact jump _ _ _ _ h
    · exact ih _ _ _ _ h
    · exact jump _ _ _ _ h
    · replace h := onSome_inv h; obtain ⟨K', hK, h⟩ := h
      simp only [hK, onSome]
      exact jump _ _ _ _ h
    · exact h
    · exact jump _ _ _ _ h
    · exact ih _ _ _ _ h
    · cases h

theorem run_mono {fn : Func} {cuts : Cuts} : ∀ (m : Nat) (td : List Item) (vs : List Value) (H : Heap) (r : Value × Heap), run P Γ fn cuts m td vs H = some r → run P Γ fn cuts (m + 1) td vs H = some r
  | 0, td, vs, H, r, h => by cases h
  | m + 1, td, vs, H, r, h => by
    simp only [run] at h
    replace h := onSome_inv h; obtain ⟨lv, hl, h⟩ := h
    simp only [run, hl, onSome]
    exact exec_mono (run_mono m) _ _ _ _ _ h
theorem run_le {fn : Func} {cuts : Cuts} {td : List Item} {vs : List Value} {H : Heap} {m m' : Nat} (hm : m ≤ m') (h : run P Γ fn cuts m td vs H = some r) : run P Γ fn cuts m' td vs H = some r := by
  obtain ⟨d, rfl⟩ := Nat.le.dest hm
  induction d with
  | zero => exact h
  | succ d ih => exact run_mono _ _ _ _ _ (ih (Nat.le_add_right _ _))
theorem fnE_le {fn : Func} {cuts : Cuts} {args : List Value} {H : Heap} {m m' : Nat} (hm : m ≤ m') (h : fnE P Γ fn cuts m args H = some r) : fnE P Γ fn cuts m' args H = some r := by
  unfold fnE at h ⊢
  replace h := onSome_inv h; obtain ⟨c, hc, h⟩ := h
  simp only [hc, onSome]
  exact exec_mono (fun td vs H r h => run_le hm h) _ _ _ _ _ h

/-- What a function comes to, in however many rounds. -/
noncomputable def FN (P : Program) (Γ : Fs) (fn : Func) (cuts : Cuts) (args : List Value) (H : Heap) : R :=
  if args.length ≤ fn.ntmps then lim fun m => fnE P Γ fn cuts m args H else none

theorem FN_of {fn : Func} {cuts : Cuts} {args : List Value} {H : Heap} (m : Nat) (h : fnE P Γ fn cuts m args H = some r) (hn : args.length ≤ fn.ntmps) : FN P Γ fn cuts args H = some r := by
  unfold FN
  rw [if_pos hn]
  unfold lim
  have ex : ∃ m r, fnE P Γ fn cuts m args H = some r := ⟨m, r, h⟩
  rw [dif_pos ex]
  have h2 := Classical.choose_spec (Classical.choose_spec ex)
  have h3 := fnE_le (Nat.le_max_left m (Classical.choose ex)) h
  have h4 := fnE_le (Nat.le_max_right m (Classical.choose ex)) h2
  rw [h3] at h4
  exact h4.symm

theorem FN_sound (hΓ : ∀ f F, Γ f = some F → Sound P f F) {f : FuncId} {fn : Func} (hf : P.funcs[f]? = some fn) (hnm : (fn.name == "runtime.NumGoroutine") = false) (hbd : fn.body.isNone = false) {cuts : Cuts} : Sound P f (FN P Γ fn cuts) :=
  Sound.of_fnE hΓ hf hnm hbd fun args H r h => by
    unfold FN at h
    split at h
    · rename_i hn
      unfold lim at h
      split at h
      · rename_i ex
        obtain rfl := Option.some.inj h
        exact ⟨_, Classical.choose_spec (Classical.choose_spec ex), hn⟩
      · cases h
    · cases h
end

/-- One function more. -/
def Fs.ext (Γ : Fs) (f : Nat) (F : List Value → Heap → R) : Fs := fun n => match Nat.beq n f with | true => some F | false => Γ n
def Fs.none : Fs := fun _ => Option.none

/-- A function of which nothing is told. -/
def noF : List Value → Heap → R := fun _ _ => Option.none
theorem noF_sound {P : Program} {f : FuncId} : Sound P f noF := .inr fun args H v H' h => by cases h

/-- internal/abi.NoEscape: the pointer as it is. -/
def noEsc : List Value → Heap → R := fun args H => match args with | [v] => some (v, H) | _ => Option.none
theorem noEsc_sound {P : Program} {f : FuncId} {fn : Func} (hf : P.funcs[f]? = some fn) (hname : (fn.name == "runtime.NumGoroutine") = false) (hb : fn.body.isNone = true) (hn : Extern.findNext fn = Option.none) (he : Extern.find fn = some Extern.AbiNoEscape.same) : Sound P f noEsc := by
  refine .inr fun args H v H' h ρ w args' hR hv => ?_
  unfold noEsc at h
  split at h
  · rename_i u
    obtain ⟨u', m, rfl, h1, h2⟩ := hv.cons_inv
    obtain rfl := h2.nil_inv
    obtain ⟨rfl, rfl⟩ := Prod.mk.inj (Option.some.inj h)
    exact ⟨u', ρ, w, by rw [run_callFunc_extern hf hname hb hn he]; rfl, hR, Ext.refl _ _ _, h1⟩
  · cases h

/-- All that is told of functions is so. -/
def AllSound (P : Program) (Γ : Fs) : Prop := ∀ f F, Γ f = some F → Sound P f F
theorem AllSound.none {P : Program} : AllSound P Fs.none := fun f F h => by cases h
theorem AllSound.ext {P : Program} {Γ : Fs} (h : AllSound P Γ) {f : Nat} {F : List Value → Heap → R} (hs : Sound P f F) : AllSound P (Γ.ext f F) := fun n G hn => by
  unfold Fs.ext at hn
  split at hn
  · rename_i e
    obtain rfl := Option.some.inj hn
    rw [Nat.eq_of_beq_eq_true e]; exact hs
  · exact h n G hn
end Go.Proofs.YtgnkjpbecgpjoaaGreatDoor.Fw
set_option linter.unusedVariables false
set_option linter.unusedSimpArgs false
namespace Go.Proofs.YtgnkjpbecgpjoaaGreatDoor.Fw
open Go Go.RowKit Go.ChangeShapes

/-- A row of plain values that a call is given. -/
def Row (w : World) (a : Option Addr) (len cap : Nat) (vs : List Value) : Prop :=
  (a = none ∧ len = 0 ∧ cap = 0 ∧ vs = []) ∨
  ∃ x, a = some x ∧ len ≤ cap ∧ vs.length = cap ∧ (∀ (i : Nat) (v : Value), vs[i]? = some v → w.cell? (x.add i) = some v) ∧ vs.all plain1 = true

/-- What such a row's elements are: of a type. -/
def ofKind (d : TypeDesc) (v : Value) : Prop :=
  match d with
  | .bool => ∃ b, v = .bool b
  | .int k => ∃ n, v = .int k n ∧ (Lit.int k n).wf = true
  | .string => ∃ s, v = .string s ∧ s.size ≤ maxLen
  | _ => False

theorem ofKind_plain {d : TypeDesc} {v : Value} (h : ofKind d v) : plain1 v = true := by
  cases d <;> simp only [ofKind] at h
  · obtain ⟨b, rfl⟩ := h; rfl
  · obtain ⟨n, rfl, _⟩ := h; rfl
  · obtain ⟨s, rfl, _⟩ := h; rfl

theorem open_plain {H : Type} {enc : TypeId × Value → H} {P : Program} {w : World} {held : Bool} {base : Nat} {t e : TypeId} {d : TypeDesc} {fuel : Nat} {cs : List Value} {x : DataW H × List MemPlace} (ht : P.underlying t = some (.slice e)) (he : P.underlying e = some d) (hd : d = .bool ∨ (∃ k, d = .int k) ∨ d = .string) (hc : P.cellsOf e = 1)
    (h : DataW.trod enc P w base (fun _ => true) held fuel t cs = some x) {a : Option Addr} {len cap : Nat} (hcs : cs = [.slice a len cap]) : len ≤ maxLen ∧ ∃ vs, Row w a len cap vs ∧ ∀ v ∈ vs, ofKind d v := by
  subst hcs
  rcases DataW.trod_slice ht h with ⟨h0, _⟩ | ⟨x, len', cap', elems, rest, n, _, hcs, _, hb, hl, hm, hlen, hel, hsp, _⟩
  · simp at h0
    obtain ⟨rfl, rfl, rfl⟩ := h0
    exact ⟨Nat.zero_le _, [], .inl ⟨rfl, rfl, rfl, rfl⟩, fun v hv => by cases hv⟩
  · simp at hcs
    obtain ⟨rfl, rfl, rfl⟩ := hcs
    refine ⟨by omega, ?_⟩
    obtain ⟨hrl, hr⟩ := hsp rfl
    have one : ∀ i y, (elems ++ rest)[i]? = some y → ∃ v, w.cell? (x.add i) = some v ∧ ofKind d v := by
      intro i y hy
      have hb' : (w.cells? base (x.add (i * P.cellsOf e)) (P.cellsOf e)).bind (DataW.trod enc P w base (fun _ => true) held n e) = some y := by
        by_cases hi : i < len
        · rw [hel i hi, ← hy, List.getElem?_append_left (by omega)]
        · have hi' : i < elems.length + rest.length := by
            have := (List.getElem?_eq_some_iff.1 hy).1
            simpa using this
          have := hr (i - len) (by omega)
          rw [show len + (i - len) = i by omega] at this
          rw [this, ← hy, List.getElem?_append_right (by omega), hlen]
      rw [hc, Nat.mul_one, Option.bind_eq_some_iff] at hb'
      obtain ⟨cs', hcs, hy'⟩ := hb'
      rcases hd with rfl | ⟨k, rfl⟩ | rfl
      · obtain ⟨b, rfl, _⟩ := DataW.trod_bool he hy'
        exact ⟨_, cell_of_cells?_one hcs, b, rfl⟩
      · obtain ⟨m, rfl, _, hw⟩ := DataW.trod_int he hy'
        exact ⟨_, cell_of_cells?_one hcs, m, rfl, hw⟩
      · obtain ⟨s, rfl, _, hw⟩ := DataW.trod_string he hy'
        exact ⟨_, cell_of_cells?_one hcs, s, rfl, hw⟩
    have all : ∀ n, n ≤ cap → ∃ vs : List Value, vs.length = n ∧ (∀ (i : Nat) (v : Value), vs[i]? = some v → w.cell? (x.add i) = some v) ∧ ∀ v ∈ vs, ofKind d v := by
      intro n
      induction n with
      | zero => intro _; exact ⟨[], rfl, fun i v hv => by simp at hv, fun v hv => by cases hv⟩
      | succ n ih =>
        intro hn
        obtain ⟨vs, h1, h2, h3⟩ := ih (by omega)
        have hlt : n < (elems ++ rest).length := by simp; omega
        obtain ⟨v, h4, h5⟩ := one n _ (List.getElem?_eq_getElem hlt)
        refine ⟨vs ++ [v], by simp [h1], fun i u hu => ?_, fun u hu => ?_⟩
        · rcases Nat.lt_or_ge i vs.length with hi | hi
          · rw [List.getElem?_append_left hi] at hu; exact h2 i u hu
          · have : i = n := by
              have := (List.getElem?_eq_some_iff.1 hu).1
              simp at this; omega
            subst this
            rw [List.getElem?_append_right hi, h1, Nat.sub_self] at hu
            simp at hu; subst hu; exact h4
        · rcases List.mem_append.1 hu with hu | hu
          · exact h3 u hu
          · simp at hu; subst hu; exact h5
    obtain ⟨vs, h1, h2, h3⟩ := all cap (Nat.le_refl _)
    exact ⟨vs, .inr ⟨x, rfl, hl, h1, h2, List.all_eq_true.2 fun v hv => ofKind_plain (h3 v hv)⟩, h3⟩

/-- A row as an abstract block, and where it lies. -/
def rowObj (vs : List Value) : AObj := match vs with | [] => .dead | v :: vs => .cells (v :: vs) 1 false
def rowPl (w : World) (a : Option Addr) : Pl := match a with
  | none => ⟨0, 0, 0, 0⟩
  | some x => ⟨x.block, x.off, (match w.heap[x.block]? with | some (.cells c _ _) => c.size | _ => 0), 1⟩
def rowVal (b : Nat) (a : Option Addr) (len cap : Nat) : Value := .slice (a.map fun _ => ⟨b, 0, none⟩) len cap

theorem Row.obj {w : World} {a : Option Addr} {len cap : Nat} {vs : List Value} (h : Row w a len cap vs) (ρ : Ren) : OR ρ w (rowPl w a) (rowObj vs) := by
  rcases h with ⟨rfl, rfl, rfl, rfl⟩ | ⟨x, rfl, hl, hn, hcell, hp⟩
  · exact trivial
  · cases vs with
    | nil => exact trivial
    | cons v0 vs =>
      have h0 := hcell 0 v0 rfl
      have e0 : x.add 0 = x := by simp [Addr.add]
      rw [e0] at h0
      unfold World.cell? at h0
      split at h0
      · rename_i c el fz hH
        have hspot : x.spot = none := by
          cases hs : x.spot with
          | none => rfl
          | some s => rw [hs] at h0; simp at h0
        have hat : ∀ (i : Nat) (v : Value), (v0 :: vs)[i]? = some v → c[x.off + i]? = some v := fun i v hv => by
          have := hcell i v hv
          unfold World.cell? at this
          have eb : (x.add i).block = x.block := by unfold Addr.add; split <;> rfl
          have eo : (x.add i).off = x.off + i := by
            unfold Addr.add; split
            · rename_i h; subst h; rfl
            · rfl
          rw [eb, hH, eo] at this
          simp only [] at this
          split at this
          · cases this
          · exact this
        refine ⟨c, el, fz, hH, by simp [rowPl, hH], ⟨rfl, fun t ht => by simp [tyM] at ht⟩, ?_, fun i v hv => ?_, (fun e => by cases e)⟩
        · have := hat vs.length ((v0 :: vs)[vs.length]'(by simp)) (by simp)
          have hlt : x.off + vs.length < c.size := by
            rcases Nat.lt_or_ge (x.off + vs.length) c.size with h | h
            · exact h
            · simp [Array.getElem?_eq_none h] at this
          simp [rowPl]; omega
        · have hm := List.all_eq_true.1 hp v (List.mem_of_getElem? hv)
          exact ⟨plain1_one hm, v, hat i v hv, plain1_VR hm⟩
      · cases h0

theorem Row.val {w : World} {a : Option Addr} {len cap : Nat} {vs : List Value} (h : Row w a len cap vs) {ρ : Ren} {b : Nat} (hb : ρ b = some (rowPl w a)) : VR ρ (rowVal b a len cap) (.slice a len cap) := by
  have ho := h.obj ρ
  rcases h with ⟨rfl, rfl, rfl, rfl⟩ | ⟨x, rfl, hl, hn, hcell, hp⟩
  · exact .sliceN
  · refine .slice b 0 len cap cap x _ hb (.inl rfl) hl ?_
    cases vs with
    | nil => exact .inl (by simpa using hn.symm)
    | cons v0 vs =>
      right
      obtain ⟨c, el, fz, hH, hs, he, hle, hcs, _⟩ := ho
      refine ⟨?_, ?_⟩
      · have h0 := hcell 0 v0 rfl
        have e0 : x.add 0 = x := by simp [Addr.add]
        rw [e0] at h0
        unfold World.cell? at h0
        simp only [rowPl] at hH
        rw [hH] at h0
        simp only [] at h0
        cases hsp : x.spot with
        | none => cases x; simp only [] at hsp; subst hsp; rfl
        | some s => rw [hsp] at h0; simp at h0
      · rw [he.1, ← hs, show (1 : Nat) % tyM = 1 from rfl, Nat.mul_one, ← hn]; simpa using hle

/-- Where to begin: blocks that are read alone. -/
def ini (L : List (Pl × AObj)) : Ren := fun b => (L[b]?).map (·.1)
def iniH (L : List (Pl × AObj)) : Heap := L.map (·.2)
theorem ini_rel {L : List (Pl × AObj)} {w : World} (hg : Glob (ini L)) (h : ∀ x ∈ L, x.2.own = false ∧ ∀ ρ, OR ρ w x.1 x.2) : Rel (ini L) (iniH L) w := by
  have at_ : ∀ b p o, ini L b = some p → (iniH L)[b]? = some o → L[b]? = some (p, o) := fun b p o hb ho => by
    simp only [ini, iniH, List.getElem?_map, Option.map_eq_some_iff] at hb ho
    obtain ⟨x, hx, rfl⟩ := hb
    obtain ⟨y, hy, rfl⟩ := ho
    rw [hx] at hy; obtain rfl := Option.some.inj hy; exact hx
  refine ⟨fun b p hb => ?_, fun b p o hb ho => (h _ (List.mem_of_getElem? (at_ b p o hb ho))).2 _, fun b b' p p' o o' hb hb' ho ho' hown => ?_, hg⟩
  · simp only [ini, Option.map_eq_some_iff] at hb
    obtain ⟨x, hx, _⟩ := hb
    have := (List.getElem?_eq_some_iff.1 hx).1
    simpa [iniH] using this
  · have := (h _ (List.mem_of_getElem? (at_ b p o hb ho))).1
    simp only [] at this
    rw [this] at hown; cases hown
theorem ini_owns {L : List (Pl × AObj)} {w : World} (h : ∀ x ∈ L, x.2.own = false ∧ ∀ ρ, OR ρ w x.1 x.2) (k : Nat) : ¬ Owns (ini L) (iniH L) k := by
  rintro ⟨b, p, o, hb, ho, hown, _⟩
  simp only [ini, iniH, List.getElem?_map, Option.map_eq_some_iff] at hb ho
  obtain ⟨x, hx, rfl⟩ := hb
  obtain ⟨y, hy, rfl⟩ := ho
  have := (h _ (List.mem_of_getElem? hy)).1
  rw [this] at hown; cases hown
theorem rowObj_own (vs : List Value) : (rowObj vs).own = false := by cases vs <;> rfl

/-- A LAW: what a function comes to on the abstract heap is what its call brings about, and all that lay there ahead lies there as it did. -/
theorem law_calls {P : Program} {f : FuncId} {F : List Value → Heap → R} (hs : Sound P f F) {fn : Func} (hf : P.funcs[f]? = some fn) (hnm : (fn.name == "runtime.NumGoroutine") = false) (hbd : fn.body.isNone = false) {L : List (Pl × AObj)} {w : World} (hg : Glob (ini L)) (h : ∀ x ∈ L, x.2.own = false ∧ ∀ ρ, OR ρ w x.1 x.2) {args args' : List Value} (hv : VL (ini L) args args') {b : Bool} {H' : Heap} (hF : F args (iniH L) = some (.bool b, H')) :
    Calls P f args'.toArray w fun e w' => e = .returned (.bool b) ∧ Below w.heap.size w w' := by
  have he : ∀ args w, (callFunc f args).run P w = .ok (.enter f args) w := fun args w => by
    have hn' : ¬ fn.name = "runtime.NumGoroutine" := by simpa using hnm
    have hb' : ¬ fn.body = none := by intro e; rw [e] at hbd; cases hbd
    simp [callFunc, hf, hn', hb']
  have hs : Entered P f F := by
    rcases hs with hs | hs
    · exact hs
    · obtain ⟨v', ρ', w', h0, _⟩ := hs args (iniH L) (.bool b) H' hF (ini L) w args' (ini_rel hg h) hv
      rw [he] at h0; cases h0
  refine Calls.mono' (hs.calls args (iniH L) (.bool b) H' hF (ini L) w args' (ini_rel hg h) hv) ?_
  rintro e w' ⟨v', ρ', rfl, h1, h2, h3⟩
  refine ⟨by rw [h3.bool_inv], ⟨h2.os, h2.tape, h2.output, h2.size, fun k hk => h2.keep k hk (ini_owns h k)⟩⟩

/-- How many elements a row's reading tells. -/
theorem slice_len {H : Type} {enc : TypeId × Value → H} {P : Program} {w : World} {held : Bool} {base : Nat} {sp : Nat → Bool} {t e : TypeId} {fuel : Nat} {cs : List Value} {d : DataW H} {ps : List MemPlace} (ht : P.underlying t = some (.slice e))
    (h : DataW.trod enc P w base sp held fuel t cs = some (d, ps)) {a : Option Addr} {len cap : Nat} (hcs : cs = [.slice a len cap]) : len = 0 ∨ ∃ el r, d = .slice el r ∧ el.length = len := by
  subst hcs
  rcases DataW.trod_slice ht h with ⟨h0, _⟩ | ⟨x, len', cap', elems, rest, n, _, hcs, hx, hb, hl, hm, hlen, _⟩
  · simp at h0; exact .inl h0.2.1
  · simp at hcs hx
    obtain ⟨rfl, rfl, rfl⟩ := hcs
    exact .inr ⟨_, _, hx.1, by simpa using hlen⟩
end Go.Proofs.YtgnkjpbecgpjoaaGreatDoor.Fw
set_option linter.unusedVariables false
set_option linter.unusedSimpArgs false
namespace Go.Proofs.YtgnkjpbecgpjoaaGreatDoor.Fw
open Go Go.RowKit

section
variable {β : Type}
theorem add_block (a : Addr) (n : Nat) : (a.add n).block = a.block := by unfold Addr.add; split <;> rfl
theorem add_off (a : Addr) (n : Nat) : (a.add n).off = a.off + n := by
  unfold Addr.add; split
  · rename_i h; subst h; rfl
  · rfl
theorem onSome_some {α : Type} (x : α) (k : α → Option β) : onSome (some x) k = k x := rfl
theorem ldc_at {H : Heap} {b : Nat} {cs : List Value} {e : Nat} {o : Bool} (h : H[b]? = some (.cells cs e o)) (k : List Value → Option β) : ldc H b k = k cs := by simp [ldc, h]
theorem ldc_new (H : Heap) (cs : List Value) (e : Nat) (o : Bool) (k : List Value → Option β) : ldc (H ++ [.cells cs e o]) H.length k = k cs := ldc_at (e := e) (o := o) (by simp) k
theorem ite_t {p : Prop} [Decidable p] (h : p) (x : Option β) : (if p then x else none) = x := if_pos h
theorem wrap_nat {n : Nat} (h : n < 9223372036854775808) : IntKind.i64.wrap (n : Int) = (n : Int) := wrap_in ⟨by omega, by omega⟩
theorem wrap_succ {n : Nat} (h : n + 1 < 9223372036854775808) : IntKind.i64.wrap ((n : Int) + 1) = ((n + 1 : Nat) : Int) := by rw [wrap_in ⟨by omega, by omega⟩]; omega
theorem heap_keep {H : Heap} {b : Nat} {o : AObj} (h : H[b]? = some o) (l : Heap) : (H ++ l)[b]? = some o := by
  have : b < H.length := (List.getElem?_eq_some_iff.1 h).1
  rw [List.getElem?_append_left this]; exact h
end

/-- A slice of texts in a heap. -/
structure Strs (H : Heap) (a : Option Addr) (l : Nat) (xs : List ByteArray) : Prop where
  len : xs.length = l
  at_ : xs ≠ [] → ∃ x cs own, a = some x ∧ H[x.block]? = some (.cells cs 1 own) ∧ x.off + l ≤ cs.length ∧ ∀ (i : Nat) (s : ByteArray), xs[i]? = some s → cs[x.off + i]? = some (.string s)

theorem Strs.keep {H H' : Heap} {a : Option Addr} {l : Nat} {xs : List ByteArray} (h : Strs H a l xs) (hk : ∀ x, a = some x → ∀ cs own, H[x.block]? = some (.cells cs 1 own) → H'[x.block]? = some (.cells cs 1 own)) : Strs H' a l xs :=
  ⟨h.len, fun hne => by
    obtain ⟨x, cs, own, e, h1, h2⟩ := h.at_ hne
    exact ⟨x, cs, own, e, hk x e cs own h1, h2⟩⟩
theorem Strs.push {H : Heap} {a : Option Addr} {l : Nat} {xs : List ByteArray} (h : Strs H a l xs) (l' : Heap) : Strs (H ++ l') a l xs := h.keep fun x _ cs own hx => heap_keep hx l'

/-- An element of it. -/
theorem Strs.get {H : Heap} {a : Option Addr} {l : Nat} {xs : List ByteArray} (h : Strs H a l xs) {i : Nat} {s : ByteArray} (hi : xs[i]? = some s) : ∃ x cs own, a = some x ∧ H[x.block]? = some (.cells cs 1 own) ∧ cs[x.off + i]? = some (.string s) := by
  obtain ⟨x, cs, own, e, h1, _, h2⟩ := h.at_ (by intro e; rw [e] at hi; simp at hi)
  exact ⟨x, cs, own, e, h1, h2 i s hi⟩

/-- What is left of it behind a place. -/
theorem Strs.tail {H : Heap} {a : Option Addr} {l c : Nat} {xs : List ByteArray} (h : Strs H a l xs) {n : Nat} (hn : n < xs.length) :
    ∃ a' c', slSl (β := Value × Heap) H 1 a l c ((n : Int) + 1) (l : Int) = (fun k => k (.slice a' (l - (n + 1)) c')) ∧ Strs H a' (l - (n + 1)) (xs.drop (n + 1)) := by
  obtain ⟨x, cs, own, rfl, h1, hle, h2⟩ := h.at_ (by intro e; rw [e] at hn; simp at hn)
  have hl := h.len
  refine ⟨some (x.add (n + 1)), slCap l c (n + 1), ?_, ⟨by simp [hl], fun _ => ⟨_, cs, own, rfl, by rw [add_block]; exact h1, by rw [add_off]; omega, fun i s hs => ?_⟩⟩⟩
  · funext k
    have e1 : ((n : Int) + 1).toNat = n + 1 := by omega
    have e2 : ((l : Int)).toNat = l := by omega
    simp only [slSl, esOk, h1, show Nat.beq (1 % tyM) 1 = true from rfl, e1, e2, Nat.mul_one]
    rw [if_pos (by omega)]
  · rw [add_off]
    rw [List.getElem?_drop] at hs
    have := h2 _ _ hs
    rw [← this]; congr 1; omega

/-- A slice of bools in a heap. -/
structure Bls (H : Heap) (a : Option Addr) (l : Nat) (xs : List Bool) : Prop where
  len : xs.length = l
  at_ : xs ≠ [] → ∃ x cs own, a = some x ∧ H[x.block]? = some (.cells cs 1 own) ∧ ∀ (i : Nat) (b : Bool), xs[i]? = some b → cs[x.off + i]? = some (.bool b)

theorem row_list {α : Type} {f : α → Value} {p : Value → Prop} (hp : ∀ v, p v → ∃ x, v = f x) : ∀ (vs : List Value), (∀ v ∈ vs, p v) → ∃ xs : List α, vs = xs.map f
  | [], _ => ⟨[], rfl⟩
  | v :: vs, h => by
    obtain ⟨x, rfl⟩ := hp v (h v (by simp))
    obtain ⟨xs, rfl⟩ := row_list hp vs fun u hu => h u (by simp [hu])
    exact ⟨x :: xs, rfl⟩

theorem Row.strs {w : World} {a : Option Addr} {len cap : Nat} {vs : List Value} (h : Row w a len cap vs) (hk : ∀ v ∈ vs, ofKind .string v) : ∃ xs : List ByteArray, (∀ s ∈ xs, s.size ≤ maxLen) ∧ ∀ (H : Heap) (b : Nat), H[b]? = some (rowObj vs) → Strs H (a.map fun _ => ⟨b, 0, none⟩) len xs := by
  obtain ⟨ys, rfl⟩ := row_list (f := Value.string) (fun v hv => by obtain ⟨s, e, _⟩ := hv; exact ⟨s, e⟩) vs hk
  refine ⟨ys.take len, fun s hs => ?_, fun H b hb => ?_⟩
  · obtain ⟨s', e, hs'⟩ := hk (.string s) (List.mem_map.2 ⟨s, List.mem_of_mem_take hs, rfl⟩)
    injection e with e; subst e; exact hs'
  · rcases h with ⟨rfl, rfl, rfl, he⟩ | ⟨x, rfl, hl, hn, _, _⟩
    · exact ⟨by simp, fun h => absurd (by simp) h⟩
    · refine ⟨by simp at hn ⊢; omega, fun hne => ?_⟩
      cases ys with
      | nil => simp at hne
      | cons y ys =>
        refine ⟨_, _, _, rfl, hb, by simp at hn ⊢; omega, fun i s hs => ?_⟩
        rw [List.getElem?_take] at hs
        split at hs
        · show ((y :: ys).map Value.string)[0 + i]? = _
          rw [Nat.zero_add, List.getElem?_map, hs]; rfl
        · cases hs
theorem Row.bls {w : World} {a : Option Addr} {len cap : Nat} {vs : List Value} (h : Row w a len cap vs) (hk : ∀ v ∈ vs, ofKind .bool v) : ∃ xs : List Bool, ∀ (H : Heap) (b : Nat), H[b]? = some (rowObj vs) → Bls H (a.map fun _ => ⟨b, 0, none⟩) len xs := by
  obtain ⟨ys, rfl⟩ := row_list (f := Value.bool) (fun v hv => by obtain ⟨s, e⟩ := hv; exact ⟨s, e⟩) vs hk
  refine ⟨ys.take len, fun H b hb => ?_⟩
  rcases h with ⟨rfl, rfl, rfl, he⟩ | ⟨x, rfl, hl, hn, _, _⟩
  · exact ⟨by simp, fun h => absurd (by simp) h⟩
  · refine ⟨by simp at hn ⊢; omega, fun hne => ?_⟩
    cases ys with
    | nil => simp at hne
    | cons y ys =>
      refine ⟨_, _, _, rfl, hb, fun i s hs => ?_⟩
      rw [List.getElem?_take] at hs
      split at hs
      · show ((y :: ys).map Value.bool)[0 + i]? = _
        rw [Nat.zero_add, List.getElem?_map, hs]; rfl
      · cases hs

/-- Where a text stands first. -/
def index (s : ByteArray) : List ByteArray → Option Nat
  | [] => none
  | x :: xs => if s.toList == x.toList then some 0 else (index s xs).map (· + 1)
def indexI (o : Option Nat) : Int := match o with | none => -1 | some n => n
theorem index_lt {s : ByteArray} : ∀ {xs : List ByteArray} {n : Nat}, index s xs = some n → n < xs.length
  | [], n, h => by cases h
  | x :: xs, n, h => by
    simp only [index] at h
    split at h
    · obtain rfl := Option.some.inj h; simp
    · cases hi : index s xs with
      | none => rw [hi] at h; cases h
      | some k =>
        rw [hi] at h
        have := index_lt hi
        obtain rfl := Option.some.inj h
        simp; omega

/-- Do the texts of a list stand in another one, in their order? How many do, at least, and do all? -/
def among : List ByteArray → List ByteArray → Nat × Bool
  | [], _ => (0, true)
  | x :: l, all => match index x all with
    | none => (0, false)
    | some n => ((among l (all.drop (n + 1))).1 + 1, (among l (all.drop (n + 1))).2)
end Go.Proofs.YtgnkjpbecgpjoaaGreatDoor.Fw
set_option linter.unusedVariables false
set_option linter.unusedSimpArgs false
namespace Go.Proofs.YtgnkjpbecgpjoaaGreatDoor.Fw
open Go Go.RowKit Go.ChangeShapes

/-- The kinds of a type's cells, if all of them are plain. -/
def flatGo (P : Program) (k : TypeId → Option (List TypeDesc)) : List Field → Nat → Option (List TypeDesc)
  | [], _ => some []
  | f :: fs, off => if f.offset = off then (k f.type).bind fun a => if a.length = P.cellsOf f.type then (flatGo P k fs (off + a.length)).map (a ++ ·) else none else none
def flatK (P : Program) : Nat → TypeId → Option (List TypeDesc)
  | 0, _ => none
  | n + 1, t => match P.underlying t with
    | some .bool => some [.bool]
    | some (.int k) => some [.int k]
    | some .string => some [.string]
    | some (.struct fs) => (flatGo P (flatK P n) fs.toList 0).bind fun l => if l.length = P.cellsOf t then some l else none
    | some (.array m e) => (flatK P n e).bind fun a => if a.length = P.cellsOf e ∧ m * a.length = P.cellsOf t then some (List.replicate m a).flatten else none
    | _ => none

/-- Cells of such kinds. -/
def Flat (ks : List TypeDesc) (cs : List Value) : Prop := cs.length = ks.length ∧ ∀ (i : Nat) (d : TypeDesc) (v : Value), ks[i]? = some d → cs[i]? = some v → ofKind d v
theorem Flat.nil : Flat [] [] := ⟨rfl, by simp⟩
theorem Flat.append {a b : List TypeDesc} {x y : List Value} (h : Flat a x) (k : Flat b y) : Flat (a ++ b) (x ++ y) := by
  refine ⟨by simp [h.1, k.1], fun i d v hd hv => ?_⟩
  rcases Nat.lt_or_ge i a.length with hi | hi
  · rw [List.getElem?_append_left hi] at hd
    rw [List.getElem?_append_left (h.1 ▸ hi)] at hv
    exact h.2 i d v hd hv
  · rw [List.getElem?_append_right hi] at hd
    rw [List.getElem?_append_right (h.1 ▸ hi), h.1] at hv
    exact k.2 _ d v hd hv
theorem Flat.plain {ks : List TypeDesc} {cs : List Value} (h : Flat ks cs) : ∀ v ∈ cs, plain1 v = true := fun v hv => by
  obtain ⟨i, hi⟩ := List.mem_iff_getElem?.1 hv
  have hlt := (List.getElem?_eq_some_iff.1 hi).1
  have hk : i < ks.length := h.1 ▸ hlt
  exact ofKind_plain (h.2 i ks[i] v (by simp [hk]) hi)
theorem Flat.cons_inv {d : TypeDesc} {ks : List TypeDesc} {cs : List Value} (h : Flat (d :: ks) cs) : ∃ v l, cs = v :: l ∧ ofKind d v ∧ Flat ks l := by
  cases cs with
  | nil => have := h.1; simp at this
  | cons v l => exact ⟨v, l, rfl, h.2 0 d v rfl rfl, by have := h.1; simp at this; exact this, fun i d' v' a b => h.2 (i + 1) d' v' (by simpa using a) (by simpa using b)⟩
theorem Flat.nil_inv {cs : List Value} (h : Flat [] cs) : cs = [] := by
  cases cs with
  | nil => rfl
  | cons v l => have := h.1; simp at this

theorem take_drop_split (cs : List Value) (off n : Nat) : cs.drop off = (cs.drop off).take n ++ cs.drop (off + n) := by
  rw [show cs.drop (off + n) = (cs.drop off).drop n by rw [List.drop_drop], List.take_append_drop]

section
variable {H : Type} {enc : TypeId × Value → H} {P : Program} {w : World} {base : Nat} {sp : Nat → Bool} {held : Bool}

theorem flatGo_sound {k : TypeId → Option (List TypeDesc)} {n : Nat} (hk : ∀ t a cs x, k t = some a → DataW.trod enc P w base sp held n t cs = some x → Flat a cs) {cs : List Value} : ∀ (fs : List Field) (off : Nat) (l : List TypeDesc), flatGo P k fs off = some l →
    (∀ f ∈ fs, ∃ x, DataW.trod enc P w base sp held n f.type ((cs.drop f.offset).take (P.cellsOf f.type)) = some x) → cs.length = off + l.length → Flat l (cs.drop off)
  | [], off, l, h, hx, hl => by
    obtain rfl := Option.some.inj h
    have : cs.drop off = [] := by rw [List.drop_eq_nil_iff]; simp at hl; omega
    rw [this]; exact Flat.nil
  | f :: fs, off, l, h, hx, hl => by
    simp only [flatGo] at h
    split at h
    · rename_i ho
      obtain ⟨a, ha, h⟩ := Option.bind_eq_some_iff.1 h
      split at h
      · rename_i hal
        obtain ⟨l', hl', rfl⟩ := Option.map_eq_some_iff.1 h
        obtain ⟨x, hx1⟩ := hx f (by simp)
        have h1 := hk _ _ _ _ ha hx1
        have h2 := flatGo_sound hk fs _ _ hl' (fun f hf => hx f (by simp [hf])) (by simp at hl ⊢; omega)
        rw [ho, ← hal] at h1
        rw [take_drop_split cs off a.length]
        exact h1.append h2
      · cases h
    · cases h

theorem flatK_sound : ∀ (m n : Nat) (t : TypeId) (ks : List TypeDesc) (cs : List Value) (x : DataW H × List MemPlace), flatK P m t = some ks → DataW.trod enc P w base sp held n t cs = some x → Flat ks cs
  | 0, n, t, ks, cs, x, h, hx => by cases h
  | m + 1, n, t, ks, cs, x, h, hx => by
    unfold flatK at h
    split at h
    · rename_i ht
      obtain rfl := Option.some.inj h
      obtain ⟨b, rfl, _⟩ := DataW.trod_bool ht hx
      refine ⟨rfl, fun i d v hd hv => ?_⟩
      match i with
      | 0 => simp at hd hv; subst hd; subst hv; exact ⟨b, rfl⟩
      | i + 1 => simp at hd
    · rename_i k ht
      obtain rfl := Option.some.inj h
      obtain ⟨b, rfl, _, hw⟩ := DataW.trod_int ht hx
      refine ⟨rfl, fun i d v hd hv => ?_⟩
      match i with
      | 0 => simp at hd hv; subst hd; subst hv; exact ⟨b, rfl, hw⟩
      | i + 1 => simp at hd
    · rename_i ht
      obtain rfl := Option.some.inj h
      obtain ⟨b, rfl, _, hw⟩ := DataW.trod_string ht hx
      refine ⟨rfl, fun i d v hd hv => ?_⟩
      match i with
      | 0 => simp at hd hv; subst hd; subst hv; exact ⟨b, rfl, hw⟩
      | i + 1 => simp at hd
    · rename_i fs ht
      obtain ⟨l, hl, h⟩ := Option.bind_eq_some_iff.1 h
      split at h
      · rename_i hll
        obtain rfl := Option.some.inj h
        obtain ⟨xs, n', rfl, rfl, hc, hxl, hat⟩ := DataW.trod_struct ht hx
        have := flatGo_sound (n := n') (fun t a cs x h1 h2 => flatK_sound m n' t a cs x h1 h2) fs.toList 0 _ hl (fun f hf => by
          obtain ⟨i, hi⟩ := List.mem_iff_getElem?.1 hf
          have hi' : fs[i]? = some f := by simpa using hi
          have hlt : i < xs.length := by
            have := (Array.getElem?_eq_some_iff.1 hi').1
            omega
          exact ⟨xs[i], by rw [hat i f hi']; simp [hlt]⟩) (by omega)
        simpa using this
      · cases h
    · rename_i q e ht
      obtain ⟨a, ha, h⟩ := Option.bind_eq_some_iff.1 h
      split at h
      · rename_i hll
        obtain ⟨hae, hqa⟩ := hll
        obtain rfl := Option.some.inj h
        obtain ⟨xs, n', rfl, rfl, hc, hxl, hat⟩ := DataW.trod_array ht hx
        have each : ∀ i, i < q → Flat a ((cs.drop (i * a.length)).take a.length) := fun i hi => by
          have hlt : i < xs.length := by omega
          have := hat i hi
          rw [← hae] at this
          exact flatK_sound m n' e a _ xs[i] ha (by rw [this]; simp [hlt])
        have all : ∀ r, r ≤ q → Flat (List.replicate r a).flatten (cs.take (r * a.length)) := by
          intro r
          induction r with
          | zero => intro _; simp; exact Flat.nil
          | succ r ih =>
            intro hr
            have h1 := ih (by omega)
            have h2 := each r (by omega)
            have e1 : cs.take ((r + 1) * a.length) = cs.take (r * a.length) ++ (cs.drop (r * a.length)).take a.length := by
              rw [show (r + 1) * a.length = r * a.length + a.length by rw [Nat.succ_mul], List.take_add]
            rw [e1, List.replicate_succ', List.flatten_append]
            simpa using h1.append h2
        have := all q (Nat.le_refl _)
        rw [hqa, ← hc, List.take_length] at this
        exact this
      · cases h
    · cases h
end

/-- A row of plain elements of sz cells each that a call is given. -/
def RowE (w : World) (a : Option Addr) (len cap sz : Nat) (es : List (List Value)) : Prop :=
  (a = none ∧ len = 0 ∧ cap = 0 ∧ es = []) ∨
  ∃ x, a = some x ∧ len ≤ cap ∧ es.length = cap ∧ (∀ e ∈ es, e.length = sz) ∧ (∀ (i : Nat) (v : Value), es.flatten[i]? = some v → w.cell? (x.add i) = some v) ∧ es.flatten.all plain1 = true

theorem flatten_at {sz : Nat} : ∀ {es : List (List Value)}, (∀ e ∈ es, e.length = sz) → ∀ {i : Nat} {e : List Value}, es[i]? = some e → ∀ j, j < sz → es.flatten[i * sz + j]? = e[j]?
  | [], _, i, e, h, j, hj => by simp at h
  | e0 :: es, hs, 0, e, h, j, hj => by
    simp at h; subst h
    rw [List.flatten_cons, Nat.zero_mul, Nat.zero_add, List.getElem?_append_left (by rw [hs _ (by simp)]; exact hj)]
  | e0 :: es, hs, i + 1, e, h, j, hj => by
    have h0 : e0.length = sz := hs _ (by simp)
    rw [List.flatten_cons, List.getElem?_append_right (by rw [h0, Nat.succ_mul]; omega), h0]
    rw [show (i + 1) * sz + j - sz = i * sz + j by rw [Nat.succ_mul]; omega]
    exact flatten_at (fun e he => hs e (by simp [he])) (by simpa using h) j hj
theorem flatten_len {sz : Nat} : ∀ {es : List (List Value)}, (∀ e ∈ es, e.length = sz) → es.flatten.length = es.length * sz
  | [], _ => by simp
  | e :: es, hs => by
    rw [List.flatten_cons, List.length_append, hs e (by simp), flatten_len fun e he => hs e (by simp [he]), List.length_cons, Nat.succ_mul, Nat.add_comm]

theorem addr_add_add (x : Addr) (m n : Nat) : (x.add m).add n = x.add (m + n) := by
  unfold Addr.add
  by_cases h1 : m = 0
  · subst h1; simp
  · by_cases h2 : n = 0
    · subst h2; simp
    · rw [if_neg h1, if_neg h2, if_neg (by omega)]
      simp [Nat.add_assoc]
theorem open_flat {H : Type} {enc : TypeId × Value → H} {P : Program} {w : World} {held : Bool} {base : Nat} {t e : TypeId} {fuel : Nat} {cs : List Value} {x : DataW H × List MemPlace} {ks : List TypeDesc} (m : Nat) (ht : P.underlying t = some (.slice e)) (hk : flatK P m e = some ks) (hc : P.cellsOf e = ks.length)
    (h : DataW.trod enc P w base (fun _ => true) held fuel t cs = some x) {a : Option Addr} {len cap : Nat} (hcs : cs = [.slice a len cap]) : len ≤ maxLen ∧ ∃ es, RowE w a len cap ks.length es ∧ ∀ e ∈ es, Flat ks e := by
  subst hcs
  rcases DataW.trod_slice ht h with ⟨h0, _⟩ | ⟨x, len', cap', elems, rest, n, _, hcs, _, hb, hl, hm, hlen, hel, hsp, _⟩
  · simp at h0
    obtain ⟨rfl, rfl, rfl⟩ := h0
    exact ⟨Nat.zero_le _, [], .inl ⟨rfl, rfl, rfl, rfl⟩, fun v hv => by cases hv⟩
  · simp at hcs
    obtain ⟨rfl, rfl, rfl⟩ := hcs
    refine ⟨by omega, ?_⟩
    obtain ⟨hrl, hr⟩ := hsp rfl
    have one : ∀ i, i < cap → ∃ el, Flat ks el ∧ ∀ j, j < ks.length → w.cell? ((x.add (i * ks.length)).add j) = el[j]? := by
      intro i hi
      have hlt : i < (elems ++ rest).length := by simp; omega
      have hb' : (w.cells? base (x.add (i * P.cellsOf e)) (P.cellsOf e)).bind (DataW.trod enc P w base (fun _ => true) held n e) = some (elems ++ rest)[i] := by
        rw [← List.getElem?_eq_getElem hlt]
        by_cases hi2 : i < len
        · rw [hel i hi2, List.getElem?_append_left (by omega)]
        · have := hr (i - len) (by omega)
          rw [show len + (i - len) = i by omega] at this
          rw [this, List.getElem?_append_right (by omega), hlen]
      rw [hc, Option.bind_eq_some_iff] at hb'
      obtain ⟨cs', hcs, hy'⟩ := hb'
      obtain ⟨_, h2, h3⟩ := World.cells?_some hcs
      exact ⟨cs', flatK_sound m _ _ _ _ _ hk hy', fun j hj => h3 j hj⟩
    have all : ∀ n, n ≤ cap → ∃ es : List (List Value), es.length = n ∧ (∀ e ∈ es, Flat ks e) ∧ ∀ i el, es[i]? = some el → ∀ j, j < ks.length → w.cell? ((x.add (i * ks.length)).add j) = el[j]? := by
      intro n
      induction n with
      | zero => intro _; exact ⟨[], rfl, fun v hv => (by cases hv), fun i e he => by simp at he⟩
      | succ n ih =>
        intro hn
        obtain ⟨es, h1, h2, h3⟩ := ih (by omega)
        obtain ⟨el, h4, h5⟩ := one n (by omega)
        refine ⟨es ++ [el], by simp [h1], fun u hu => ?_, fun i u hu => ?_⟩
        · rcases List.mem_append.1 hu with hu | hu
          · exact h2 u hu
          · simp at hu; subst hu; exact h4
        · rcases Nat.lt_or_ge i es.length with hi | hi
          · rw [List.getElem?_append_left hi] at hu; exact h3 i u hu
          · have hin : i = n := by
              have := (List.getElem?_eq_some_iff.1 hu).1
              simp at this; omega
            subst hin
            rw [List.getElem?_append_right hi, h1, Nat.sub_self] at hu
            simp at hu; subst hu; exact h5
    obtain ⟨es, h1, h2, h3⟩ := all cap (Nat.le_refl _)
    have hs : ∀ e ∈ es, e.length = ks.length := fun e he => (h2 e he).1
    refine ⟨es, .inr ⟨x, rfl, hl, h1, hs, fun i v hv => ?_, List.all_eq_true.2 fun v hv => ?_⟩, h2⟩
    · have hlt := (List.getElem?_eq_some_iff.1 hv).1
      rw [flatten_len hs] at hlt
      have hpos : 0 < ks.length := by
        rcases Nat.eq_zero_or_pos ks.length with h | h
        · rw [h] at hlt; omega
        · exact h
      have hd : i / ks.length < es.length := (Nat.div_lt_iff_lt_mul hpos).2 hlt
      have hmod := Nat.mod_lt i hpos
      have hi : i / ks.length * ks.length + i % ks.length = i := by rw [Nat.mul_comm]; exact Nat.div_add_mod i _
      have := h3 (i / ks.length) es[i / ks.length] (by simp [hd]) (i % ks.length) hmod
      rw [← flatten_at hs (i := i / ks.length) (by simp [hd]) _ hmod, hi, hv] at this
      rw [← this]
      congr 1
      rw [addr_add_add, hi]
    · obtain ⟨e, he, hv⟩ := List.mem_flatten.1 hv
      exact (h2 e he).plain v hv

def rowObjE (sz : Nat) (vs : List Value) : AObj := match vs with | [] => .dead | v :: vs => .cells (v :: vs) sz false
def rowPlE (w : World) (a : Option Addr) (sz : Nat) : Pl := match a with
  | none => ⟨0, 0, 0, sz⟩
  | some x => ⟨x.block, x.off, (match w.heap[x.block]? with | some (.cells c _ _) => c.size | _ => 0), sz⟩
theorem rowObjE_own (sz : Nat) (vs : List Value) : (rowObjE sz vs).own = false := by cases vs <;> rfl

theorem RowE.cells {w : World} {a : Option Addr} {len cap sz : Nat} {es : List (List Value)} (h : RowE w a len cap sz es) {v0 : Value} {vs : List Value} (he : es.flatten = v0 :: vs) : ∃ x c el fz, a = some x ∧ x.spot = none ∧ w.heap[x.block]? = some (.cells c el fz) ∧ x.off + (v0 :: vs).length ≤ c.size ∧ ∀ (i : Nat) (v : Value), (v0 :: vs)[i]? = some v → c[x.off + i]? = some v := by
  rcases h with ⟨rfl, rfl, rfl, rfl⟩ | ⟨x, rfl, hl, hn, hs, hcell, hp⟩
  · simp at he
  · rw [he] at hcell
    have h0 := hcell 0 v0 rfl
    have e0 : x.add 0 = x := by simp [Addr.add]
    rw [e0] at h0
    unfold World.cell? at h0
    split at h0
    · rename_i c el fz hH
      have hspot : x.spot = none := by
        cases hs : x.spot with
        | none => rfl
        | some s => rw [hs] at h0; simp at h0
      have hat : ∀ (i : Nat) (v : Value), (v0 :: vs)[i]? = some v → c[x.off + i]? = some v := fun i v hv => by
        have := hcell i v hv
        unfold World.cell? at this
        have eb : (x.add i).block = x.block := by unfold Addr.add; split <;> rfl
        have eo : (x.add i).off = x.off + i := by
          unfold Addr.add; split
          · rename_i h; subst h; rfl
          · rfl
        rw [eb, hH, eo] at this
        simp only [] at this
        split at this
        · cases this
        · exact this
      refine ⟨x, c, el, fz, rfl, hspot, hH, ?_, hat⟩
      have := hat vs.length ((v0 :: vs)[vs.length]'(by simp)) (by simp)
      have hlt : x.off + vs.length < c.size := by
        rcases Nat.lt_or_ge (x.off + vs.length) c.size with h | h
        · exact h
        · simp [Array.getElem?_eq_none h] at this
      simp; omega
    · cases h0

theorem RowE.obj {w : World} {a : Option Addr} {len cap sz : Nat} {es : List (List Value)} (h : RowE w a len cap sz es) (hsz : sz < tyM) (ρ : Ren) : OR ρ w (rowPlE w a sz) (rowObjE sz es.flatten) := by
  cases he : es.flatten with
  | nil => exact trivial
  | cons v0 vs =>
    obtain ⟨x, c, el, fz, rfl, hsp, hH, hle, hat⟩ := h.cells he
    have hp : es.flatten.all plain1 = true := by
      rcases h with ⟨h, _⟩ | ⟨x, _, _, _, _, _, hp⟩
      · cases h
      · exact hp
    rw [he] at hp
    refine ⟨c, el, fz, hH, by simp [rowPlE, hH], ⟨(Nat.mod_eq_of_lt hsz).symm, fun t ht => by rw [Nat.div_eq_of_lt hsz] at ht; omega⟩, by simpa [rowPlE] using hle, fun i v hv => ?_, (fun e => by cases e)⟩
    have hm := List.all_eq_true.1 hp v (List.mem_of_getElem? hv)
    exact ⟨plain1_one hm, v, hat i v hv, plain1_VR hm⟩

theorem RowE.val {w : World} {a : Option Addr} {len cap sz : Nat} {es : List (List Value)} (h : RowE w a len cap sz es) (hsz : 0 < sz) {ρ : Ren} {b : Nat} (hb : ρ b = some (rowPlE w a sz)) : VR ρ (rowVal b a len cap) (.slice a len cap) := by
  rcases h with ⟨rfl, rfl, rfl, rfl⟩ | ⟨x, rfl, hl, hn, hs, hcell, hp⟩
  · exact .sliceN
  · refine .slice b 0 len cap cap x _ hb (.inl rfl) hl ?_
    have hlen := flatten_len hs
    cases he : es.flatten with
    | nil =>
      left
      rw [he, hn] at hlen
      rcases Nat.mul_eq_zero.1 hlen.symm with h | h
      · exact h
      · omega
    | cons v0 vs =>
      right
      have h : RowE w (some x) len cap sz es := .inr ⟨x, rfl, hl, hn, hs, hcell, hp⟩
      obtain ⟨x', c, el, fz, e, hsp, hH, hle, hat⟩ := h.cells he
      obtain rfl := Option.some.inj e
      refine ⟨?_, ?_⟩
      · cases x; simp only [] at hsp; subst hsp; rfl
      · rw [he] at hlen
        simp only [rowPlE, hH]
        rw [← hn]
        omega

/-- A slice of records in a heap. -/
structure Recs {T : Type} (f : T → List Value) (sz : Nat) (H : Heap) (a : Option Addr) (l : Nat) (xs : List T) : Prop where
  len : xs.length = l
  at_ : xs ≠ [] → ∃ x cs own, a = some x ∧ H[x.block]? = some (.cells cs sz own) ∧ x.off + l * sz ≤ cs.length ∧ ∀ (i : Nat) (t : T), xs[i]? = some t → range cs (x.off + i * sz) sz = f t

theorem range_flatten {sz : Nat} {es : List (List Value)} (hs : ∀ e ∈ es, e.length = sz) {i : Nat} {e : List Value} (he : es[i]? = some e) : range es.flatten (i * sz) sz = e := by
  apply List.ext_getElem?
  intro j
  unfold range
  have hle : e.length = sz := hs e (List.mem_of_getElem? he)
  rcases Nat.lt_or_ge j sz with hj | hj
  · rw [List.getElem?_take_of_lt hj, List.getElem?_drop, flatten_at hs he j hj]
  · rw [List.getElem?_eq_none (by rw [List.length_take]; omega), List.getElem?_eq_none (by omega)]

theorem RowE.recs {T : Type} {f : T → List Value} {ks : List TypeDesc} (hf : ∀ e, Flat ks e → ∃ t, e = f t) {w : World} {a : Option Addr} {len cap : Nat} {es : List (List Value)} (h : RowE w a len cap ks.length es) (hpos : 0 < ks.length) (hk : ∀ e ∈ es, Flat ks e) :
    ∃ xs : List T, (∀ t ∈ xs, Flat ks (f t)) ∧ ∀ (H : Heap) (b : Nat), H[b]? = some (rowObjE ks.length es.flatten) → Recs f ks.length H (a.map fun _ => ⟨b, 0, none⟩) len xs := by
  have : ∀ es : List (List Value), (∀ e ∈ es, Flat ks e) → ∃ ts : List T, es = ts.map f := by
    intro es
    induction es with
    | nil => intro _; exact ⟨[], rfl⟩
    | cons e es ih =>
      intro h
      obtain ⟨t, rfl⟩ := hf e (h e (by simp))
      obtain ⟨ts, rfl⟩ := ih fun u hu => h u (by simp [hu])
      exact ⟨t :: ts, rfl⟩
  obtain ⟨ts, rfl⟩ := this es hk
  refine ⟨ts.take len, fun t ht => hk _ (List.mem_map.2 ⟨t, List.mem_of_mem_take ht, rfl⟩), fun H b hb => ?_⟩
  rcases h with ⟨rfl, rfl, rfl, he⟩ | ⟨x, rfl, hl, hn, hs, _, _⟩
  · exact ⟨by simp, fun h => absurd (by simp) h⟩
  · refine ⟨by simp at hn ⊢; omega, fun hne => ?_⟩
    have hlen := flatten_len hs
    have hob : rowObjE ks.length (ts.map f).flatten = .cells (ts.map f).flatten ks.length false := by
      cases hfl : (ts.map f).flatten with
      | nil =>
        exfalso
        rw [hfl] at hlen
        have h0 : ts = [] ∨ ks.length = 0 := by
          rcases Nat.mul_eq_zero.1 hlen.symm with h | h
          · left; simpa using h
          · exact .inr h
        rcases h0 with h | h
        · subst h; simp at hne
        · omega
      | cons v vs => rfl
    rw [hob] at hb
    refine ⟨_, _, _, rfl, hb, ?_, fun i t ht => ?_⟩
    · show 0 + len * ks.length ≤ _
      rw [hlen, hn, Nat.zero_add]
      exact Nat.mul_le_mul_right _ hl
    · rw [List.getElem?_take] at ht
      split at ht
      · show range _ (0 + i * ks.length) _ = _
        rw [Nat.zero_add]
        exact range_flatten hs (by rw [List.getElem?_map, ht]; rfl)
      · cases ht

theorem Recs.keep {T : Type} {f : T → List Value} {sz : Nat} {H H' : Heap} {a : Option Addr} {l : Nat} {xs : List T} (h : Recs f sz H a l xs) (hk : ∀ x, a = some x → ∀ cs own, H[x.block]? = some (.cells cs sz own) → H'[x.block]? = some (.cells cs sz own)) : Recs f sz H' a l xs :=
  ⟨h.len, fun hne => by
    obtain ⟨x, cs, own, e, h1, h2⟩ := h.at_ hne
    exact ⟨x, cs, own, e, hk x e cs own h1, h2⟩⟩

/-- One element. -/
theorem Recs.get {T : Type} {f : T → List Value} {sz : Nat} {H : Heap} {a : Option Addr} {l : Nat} {xs : List T} (h : Recs f sz H a l xs) {i : Nat} {t : T} (hi : xs[i]? = some t) : ∃ x cs own, a = some x ∧ H[x.block]? = some (.cells cs sz own) ∧ x.off + i * sz + sz ≤ cs.length ∧ range cs (x.off + i * sz) sz = f t := by
  obtain ⟨x, cs, own, e, h1, h2, h3⟩ := h.at_ (by intro e; rw [e] at hi; simp at hi)
  refine ⟨x, cs, own, e, h1, ?_, h3 i t hi⟩
  have hlt := (List.getElem?_eq_some_iff.1 hi).1
  have := h.len
  have : (i + 1) * sz ≤ l * sz := Nat.mul_le_mul_right _ (by omega)
  rw [Nat.succ_mul] at this
  omega

theorem okWide_agg {Q : Program} {t : TypeId} {w : World} {r : Go.Reach} {base : Nat} {v : Value} (ht : (match Q.underlying t with | some (.struct _) => true | some (.array _ _) => true | _ => false) = true) (h : Value.okWide Q w r base t v) : ∃ cs, v = .agg cs ∧ cs.size = Q.cellsOf t := by
  unfold Value.okWide at h
  split at h
  · obtain ⟨cs, h1, h2, _⟩ := h; exact ⟨cs, h1, h2⟩
  · obtain ⟨cs, h1, h2, _⟩ := h; exact ⟨cs, h1, h2⟩
  · rename_i h1 h2
    exfalso
    split at ht
    · rename_i fs e; exact h1 _ e
    · rename_i n e e2; exact h2 _ _ e2
    · cases ht

/-- A value that is a struct, or an array, of plain cells. -/
theorem Flat.val {ks : List TypeDesc} {cs : List Value} (h : Flat ks cs) (ρ : Ren) : VR ρ (.agg cs.toArray) (.agg cs.toArray) :=
  VR.agg_mk ⟨rfl, fun i v v' a b => by rw [a] at b; obtain rfl := Option.some.inj b; exact plain1_VR (h.plain v (List.mem_of_getElem? a))⟩ fun v hv => plain1_one (h.plain v hv)
end Go.Proofs.YtgnkjpbecgpjoaaGreatDoor.Fw
