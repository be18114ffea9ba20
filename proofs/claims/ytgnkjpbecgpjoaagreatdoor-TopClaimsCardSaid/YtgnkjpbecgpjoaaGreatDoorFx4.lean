/- FRAMEWORK 36: runs in parts: what is known at a place of a function, blocks that are let go, and the kernel's runs from one place to another one. Conditions: none. FRAMEWORK 37: a function by what is known of its calls. Conditions: none. FRAMEWORK 38: places of a law: what is known there may be told more weakly, under other numbers; rows that the law was given stay as they are. Conditions: none. FRAMEWORK 39: runs of a law from one place to the next one, whose first variable is a row that the law was given, of any length. Conditions: none. -/
import Derived.Test.YtgnkjpbecgpjoaaGreatDoorFwZ
import Derived.Test.YtgnkjpbecgpjoaaGreatDoorFwU
set_option linter.unusedVariables false
set_option linter.unusedSimpArgs false
namespace Go.Proofs.YtgnkjpbecgpjoaaGreatDoor.Fw
open Go Go.RowKit

/-! ### Blocks that are let go -/
/-! ### What is known at a place, and of a call -/
section
variable {P : Program} {Γ : Fs} {f : FuncId} {fn : Func} {cuts : Cuts}
/-- From a place of a function on it comes to that. -/
def Gd (P : Program) (f : FuncId) (fn : Func) (cuts : Cuts) (td : List Item) (vs : List Value) (H : Heap) (v : Value) (H' : Heap) : Prop :=
  ∀ lv, cutOf cuts td = some lv → ∀ (b : Frame) (cs : List Frame), b.fn = f → b.kind = .normal → ∀ ρ w a, Rel ρ H w → TR ρ (restore lv vs) a.tmps → a.tmps.size = fn.ntmps → a.defers = [] →
    Reach P b.fn cs (lone (b.at a td) cs w) (Post ρ H w v H')
/-- A call comes to that. -/
def Gf (P : Program) (f : FuncId) (args : List Value) (H : Heap) (v : Value) (H' : Heap) : Prop :=
  ∀ ρ w args', Rel ρ H w → VL ρ args args' → Calls P f args'.toArray w fun e w' => ∃ v', e = .returned v' ∧ Post ρ H w v H' v' w'
theorem Gd.kill_l {td : List Item} {vs : List Value} {H H2 : Heap} {v : Value} {H' : Heap} (h : Gd P f fn cuts td vs H2 v H') (k : Kill H H2) : Gd P f fn cuts td vs H v H' :=
  fun lv hl b cs hb hk ρ w a hR ht hs hd => (h lv hl b cs hb hk ρ w a (hR.dies k) ht hs hd).mono fun _ _ hp => hp.kill_l k
theorem Gd.kill_r {td : List Item} {vs : List Value} {H H2 : Heap} {v : Value} {H' : Heap} (h : Gd P f fn cuts td vs H v H') (k : Kill H' H2) : Gd P f fn cuts td vs H v H2 :=
  fun lv hl b cs hb hk ρ w a hR ht hs hd => (h lv hl b cs hb hk ρ w a hR ht hs hd).mono fun _ _ hp => hp.kill_r k
theorem Gf.kill_l {args : List Value} {H H2 : Heap} {v : Value} {H' : Heap} (h : Gf P f args H2 v H') (k : Kill H H2) : Gf P f args H v H' :=
  fun ρ w args' hR hv => Calls.mono' (h ρ w args' (hR.dies k) hv) fun _ _ ⟨v', e, hp⟩ => ⟨v', e, hp.kill_l k⟩
theorem Gf.kill_r {args : List Value} {H H2 : Heap} {v : Value} {H' : Heap} (h : Gf P f args H v H') (k : Kill H' H2) : Gf P f args H v H2 :=
  fun ρ w args' hR hv => Calls.mono' (h ρ w args' hR hv) fun _ _ ⟨v', e, hp⟩ => ⟨v', e, hp.kill_r k⟩
theorem Sound.of_Gf (hf : P.funcs[f]? = some fn) (hnm : (fn.name == "runtime.NumGoroutine") = false) (hbd : fn.body.isNone = false) {F : List Value → Heap → R}
    (h : ∀ args H v H', F args H = some (v, H') → Gf P f args H v H') : Sound P f F := by
  refine .inl ⟨fun args w => ?_, fun args H v H' hF ρ w args' hR hv => ?_⟩
  · have hn' : ¬ fn.name = "runtime.NumGoroutine" := by simpa using hnm
    have hb' : ¬ fn.body = none := by intro e; rw [e] at hbd; cases hbd
    simp [callFunc, hf, hn', hb']
  · exact Calls.mono' (h _ _ _ _ hF ρ w args' hR hv) fun _ _ ⟨v', e, ρ', a, b, c⟩ => ⟨v', ρ', e, a, b, c⟩

/-- Either of two outcomes. -/
def PostW (v0 : Value) (H0 : Heap) (ρ : Ren) (H : Heap) (w : World) (v : Value) (H' : Heap) (v' : Value) (w' : World) : Prop := Post ρ H w v H' v' w' ∨ Post ρ H w v0 H0 v' w'
theorem PostW.pol {v0 : Value} {H0 : Heap} : Pol (PostW v0 H0) := ⟨fun h hd k => k.imp (Post.pol.1 h hd) (Post.pol.1 h hd), fun hR hv => .inl (Post.pol.2.1 hR hv), fun k h => h.imp (Post.pol.2.2 k) id⟩
open Classical in
/-- A mark at the places from which it comes to that. -/
noncomputable def Jm (P : Program) (f : FuncId) (fn : Func) (cuts : Cuts) (v0 : Value) (H0 : Heap) (x : Value × Heap) (td : List Item) (vs : List Value) (H : Heap) : R :=
  if Gd P f fn cuts td vs H v0 H0 then some x else none
theorem Jm.of {v0 : Value} {H0 : Heap} {x : Value × Heap} {td : List Item} {vs : List Value} {H : Heap} (h : Gd P f fn cuts td vs H v0 H0) : Jm P f fn cuts v0 H0 x td vs H = some x := by unfold Jm; rw [if_pos h]
theorem Jm.ok {v0 : Value} {H0 : Heap} {x : Value × Heap} {b : Frame} {cs : List Frame} (hb : b.fn = f) (hk : b.kind = .normal) : JOkP P b cs fn cuts (fun _ _ _ => True) (PostW v0 H0) (Jm P f fn cuts v0 H0 x) := by
  intro td vs H v H' lv h hlv ρ w a hR _ ht hs hd
  unfold Jm at h
  split at h
  · rename_i hG
    exact (hG lv hlv b cs hb hk ρ w a hR ht hs hd).mono fun v' w' hp => .inr hp
  · cases h
theorem Gd.of_run (hΓ : ∀ f F, Γ f = some F → Sound P f F) (hf : P.funcs[f]? = some fn) {v0 : Value} {H0 : Heap} {x : Value × Heap} (hx : ∀ ρ v', ¬ VR ρ x.1 v') {td : List Item} {vs : List Value} {H : Heap}
    (h : runJ P Γ fn cuts (Jm P f fn cuts v0 H0 x) td vs H = some x) : Gd P f fn cuts td vs H v0 H0 := by
  intro lv hlv b cs hb hk ρ w a hR ht hs hd
  obtain ⟨xv, xH⟩ := x
  simp only [runJ, hlv, onSome] at h
  refine (exec_soundP (fun _ _ => trivial) (PostW.pol (v0 := v0) (H0 := H0)) hΓ (b := b) (cs := cs) (by rw [hb]; exact hf) hk (Jm.ok hb hk) _ _ _ _ _ _ h ρ w a hR trivial ht hs hd).mono fun v' w' hp => ?_
  rcases hp with ⟨ρ', _, _, hv⟩ | hp
  · exact (hx _ _ hv).elim
  · exact hp
theorem Gd.of_fin (hΓ : ∀ f F, Γ f = some F → Sound P f F) (hf : P.funcs[f]? = some fn) {m : Nat} {td : List Item} {vs : List Value} {H : Heap} {v : Value} {H' : Heap} (h : run P Γ fn cuts m td vs H = some (v, H')) : Gd P f fn cuts td vs H v H' :=
  fun lv hlv b cs hb hk ρ w a hR ht hs hd => run_sound hΓ (b := b) (by rw [hb]; exact hf) hk m _ _ _ _ _ lv h hlv ρ w a hR ht hs hd
theorem Gf.of_run (hΓ : ∀ f F, Γ f = some F → Sound P f F) (hf : P.funcs[f]? = some fn) {v0 : Value} {H0 : Heap} {x : Value × Heap} (hx : ∀ ρ v', ¬ VR ρ x.1 v') {args : List Value} {H : Heap}
    (h : fnJ P Γ fn cuts (Jm P f fn cuts v0 H0 x) args H = some x) (hsz : args.length ≤ fn.ntmps) : Gf P f args H v0 H0 := by
  intro ρ w args' hR hv cs
  obtain ⟨xv, xH⟩ := x
  simp only [fnJ] at h
  replace h := onSome_inv h; obtain ⟨c, hb, h⟩ := h
  let b : Frame := { (default : Frame) with fn := f, kind := .normal }
  have henter : Frame.enter P f args'.toArray .normal =
      b.at { tmps := args'.toArray ++ Array.replicate (fn.ntmps - args'.toArray.size) undef, defers := [] } [.code c] := by
    simp [Frame.enter, Frame.at, hf, hb, b]
  have := exec_soundP (fun _ _ => trivial) (PostW.pol (v0 := v0) (H0 := H0)) hΓ (b := b) (cs := cs) hf rfl (Jm.ok rfl rfl) _ _ _ _ _ _ h ρ w { tmps := args'.toArray ++ Array.replicate (fn.ntmps - args'.toArray.size) undef, defers := [] } hR trivial (by
    refine ⟨?_, hR.glob⟩
    intro j u hu
    obtain ⟨k, rfl, hk⟩ := argT_at _ _ _ _ hu
    obtain ⟨u', h1, h2⟩ := hv.get hk
    have hlt : k < args'.length := by
      rcases Nat.lt_or_ge k args'.length with h' | h'
      · exact h'
      · simp [List.getElem?_eq_none h'] at h1
    have e : (args'.toArray ++ Array.replicate (fn.ntmps - args'.toArray.size) undef).getD (0 + k) undef = u' := by
      simp only [Nat.zero_add, Array.getD_eq_getD_getElem?]
      rw [Array.getElem?_append_left (by simpa using hlt)]
      simp [h1]
    rw [e]; exact h2) (by have := hv.1; simp; omega) rfl
  rw [henter]
  obtain ⟨fr, v', w', h1, h2, h3, h4⟩ := this
  refine ⟨.returned v', w', fr, ⟨v', rfl, ?_⟩, h1, h2, h3⟩
  rcases h4 with ⟨ρ', _, _, hv⟩ | hp
  · exact (hx _ _ hv).elim
  · exact hp
theorem Gf.of_fin (hΓ : ∀ f F, Γ f = some F → Sound P f F) (hf : P.funcs[f]? = some fn) {m : Nat} {args : List Value} {H : Heap} {v : Value} {H' : Heap} (h : fnE P Γ fn cuts m args H = some (v, H')) (hsz : args.length ≤ fn.ntmps) : Gf P f args H v H' :=
  fun ρ w args' hR hv => Calls.mono' (fnE_sound hΓ hf h hR hv hsz) fun _ _ ⟨v', ρ', e, a, b, c⟩ => ⟨v', e, ρ', a, b, c⟩
end

/-! ### The kernel's runs from place to place -/
abbrev mk0 : Value := .slice none 1 0
theorem mk_no {ρ : Ren} {v' : Value} : ¬ VR ρ mk0 v' := fun h => by cases h
theorem mk0_no : ∀ (ρ : Ren) (v' : Value), ¬ VR ρ mk0 v' := fun _ _ => mk_no
def andB (a b : Bool) : Bool := match a with | true => b | false => false
theorem andB_ok {a b : Bool} (h : andB a b = true) : a = true ∧ b = true := by cases a; cases h; exact ⟨rfl, h⟩
def oE : Option AObj → Bool | none => true | some _ => false
def oO (x : AObj) : Option AObj → Bool | some y => eqOb x y | none => false
def oOO (o' : Option AObj) : Option AObj → Bool | none => true | some x => oO x o'
theorem oE_ok {o : Option AObj} (h : oE o = true) : o = none := by cases o; rfl; cases h
theorem oOO_ok {o o' : Option AObj} {x : AObj} (h : oOO o' o = true) (hx : o = some x) : o' = some x := by
  subst hx
  cases o' with
  | none => cases h
  | some y => rw [eqOb_ok _ _ (show eqOb x y = true from h)]
/-- Is the second tree the first one, but for what is let go? -/
noncomputable def kchk (b : Tr AObj) : Tr AObj → Bool :=
  Tr.rec (motive := fun _ => Tr AObj → Bool) (fun _ => true)
    (fun o _ _ ihl ihr a => Tr.rec (motive := fun _ => Bool) (andB (oE o) (andB (ihl .e) (ihr .e))) (fun o' l r _ _ => andB (oOO o' o) (andB (ihl l) (ihr r))) a) b
theorem kchk_ok : ∀ (b a : Tr AObj), kchk b a = true → ∀ i o, b.get i = some o → a.get i = some o
  | .e, a, h, i, o, hb => by cases hb
  | .n o l r, .e, h, i, x, hb => by
    obtain ⟨h0, h⟩ := andB_ok (show andB (oE o) (andB (kchk l .e) (kchk r .e)) = true from h)
    obtain ⟨h1, h2⟩ := andB_ok h
    obtain rfl := oE_ok h0
    cases i with
    | zero => cases hb
    | succ j =>
      rcases half j with ⟨e, _⟩ | ⟨e, _⟩
      · rw [Tr.get_l _ _ _ _ 0 e] at hb; have := kchk_ok l .e h1 _ _ hb; cases this
      · rw [Tr.get_r _ _ _ _ 0 e] at hb; have := kchk_ok r .e h2 _ _ hb; cases this
  | .n o l r, .n o' l' r', h, i, x, hb => by
    obtain ⟨h0, h⟩ := andB_ok (show andB (oOO o' o) (andB (kchk l l') (kchk r r')) = true from h)
    obtain ⟨h1, h2⟩ := andB_ok h
    cases i with
    | zero => exact oOO_ok h0 hb
    | succ j =>
      rcases half j with ⟨e, _⟩ | ⟨e, _⟩
      · rw [Tr.get_l _ _ _ _ 0 e] at hb ⊢; exact kchk_ok l l' h1 _ _ hb
      · rw [Tr.get_r _ _ _ _ 0 e] at hb ⊢; exact kchk_ok r r' h2 _ _ hb
noncomputable def kkill (T L : KH) : Bool := match Nat.beq T.n L.n with | true => kchk L.t T.t | false => false
theorem kkill_ok {T L : KH} (h : kkill T L = true) : Kill T.H L.H := by
  unfold kkill at h
  split at h
  · rename_i hn
    have hn := Nat.eq_of_beq_eq_true hn
    refine ⟨by rw [KH.len, KH.len, hn], fun i o ho => ?_⟩
    rw [KH.at_] at ho ⊢
    rw [← hn] at ho
    split at ho
    · rename_i hi
      obtain rfl := Option.some.inj ho
      cases hg : L.t.get i with
      | none => exact .inl rfl
      | some x => exact .inr (by rw [if_pos hi, kchk_ok _ _ h _ _ hg])
    · cases ho
  · cases h
/-- It has come to a place that is looked for: a mark alone. -/
def marked : KR → Bool
  | some (.slice none 1 0, T) => Nat.beq T.n 0
  | _ => false
theorem marked_ok {r : KR} (h : marked r = true) : ∃ T, r = some (mk0, T) ∧ T.H = [] := by
  unfold marked at h
  split at h
  · rename_i T
    exact ⟨T, rfl, List.eq_nil_of_length_eq_zero (by rw [KH.len]; exact Nat.eq_of_beq_eq_true h)⟩
  · cases h
def mark (b : Bool) : KR := match b with | true => some (mk0, ⟨0, .e⟩) | false => none
theorem mark_ok {b : Bool} {v : Value} {T : KH} (h : mark b = some (v, T)) : b = true ∧ v = mk0 ∧ T.H = [] := by
  cases b with
  | false => cases h
  | true => obtain ⟨rfl, rfl⟩ := Prod.mk.inj (Option.some.inj h); exact ⟨rfl, rfl, rfl⟩
noncomputable def stopAt (key0 : Nat) (vs0 : List Value) (L : KH) (key : Nat) (vs : List Value) (T : KH) : Bool := andB (Nat.beq key key0) (andB (eqL (eqV 9) vs vs0) (kkill T L))
noncomputable def karr (P : Program) (Γ : KFs) (c : FCode) (stop : Nat → List Value → KH → Bool) (s : Nat) : M → KH → KR :=
  Nat.rec (motive := fun _ => M → KH → KR) (fun x T => x.runK P Γ (fun key vs T => mark (stop key vs T)) T)
    (fun _ ih x T => x.runK P Γ (fun key vs T => match stop key vs T with | true => mark true | false => mark (marked (ih (c.C key vs) T))) T) s
section
variable {P : Program} {Γ : Fs} {Γk : KFs} {f : FuncId} {fn : Func} {c : FCode}
theorem karr_sound (hA : ∀ f F, Γ f = some F → Sound P f F) (hΓ : ∀ f args T v T', Γk f args T = some (v, T') → ∃ F, Γ f = some F ∧ F args T.H = some (v, T'.H)) (hf : P.funcs[f]? = some fn)
    (hC : ∀ (J : List Item → List Value → Heap → R) (key : Nat) (vs : List Value) (H : Heap) (r : Value × Heap), (c.C key vs).run P Γ (fun key vs H => J (c.td key) vs H) H = some r → runJ P Γ fn c.cuts J (c.td key) vs H = some r)
    {stop : Nat → List Value → KH → Bool} {v0 : Value} {H0 : Heap} (hstop : ∀ key vs T, stop key vs T = true → Gd P f fn c.cuts (c.td key) vs T.H v0 H0) :
    ∀ (s : Nat) (x : M) (T : KH), marked (karr P Γk c stop s x T) = true → x.run P Γ (fun key vs H => Jm P f fn c.cuts v0 H0 (mk0, []) (c.td key) vs H) T.H = some (mk0, [])
  | 0, x, T, h => by
    obtain ⟨T', h1, h2⟩ := marked_ok h
    refine h2 ▸ runK_sound hΓ (J := fun key vs H => Jm P f fn c.cuts v0 H0 (mk0, []) (c.td key) vs H) (Jk := fun key vs T => mark (stop key vs T)) (fun key vs T v T' h => ?_) x T h1
    obtain ⟨h3, rfl, h4⟩ := mark_ok h
    rw [h4]; exact Jm.of (hstop key vs T h3)
  | s + 1, x, T, h => by
    obtain ⟨T', h1, h2⟩ := marked_ok h
    refine h2 ▸ runK_sound hΓ (J := fun key vs H => Jm P f fn c.cuts v0 H0 (mk0, []) (c.td key) vs H) (Jk := fun key vs T => match stop key vs T with | true => mark true | false => mark (marked (karr P Γk c stop s (c.C key vs) T))) (fun key vs T v T' h => ?_) x T h1
    split at h
    · rename_i hs
      obtain ⟨_, rfl, h4⟩ := mark_ok h
      rw [h4]; exact Jm.of (hstop key vs T hs)
    · obtain ⟨h3, rfl, h4⟩ := mark_ok h
      rw [h4]; exact Jm.of (Gd.of_run hA hf mk0_no (hC _ key vs T.H _ (karr_sound hA hΓ hf hC hstop s _ T h3)))
theorem hstopAt {key0 : Nat} {L : KH} {vs0 : List Value} {v0 : Value} {H0 : Heap} (hG : Gd P f fn c.cuts (c.td key0) vs0 L.H v0 H0) : ∀ key vs T, stopAt key0 vs0 L key vs T = true → Gd P f fn c.cuts (c.td key) vs T.H v0 H0 := by
  intro key vs T h
  obtain ⟨h1, h⟩ := andB_ok h
  obtain ⟨h2, h3⟩ := andB_ok h
  obtain rfl := Nat.eq_of_beq_eq_true h1
  obtain rfl := eqL_ok (eqV_ok 9) h2
  exact hG.kill_l (kkill_ok h3)
end

/-! ### In whole programs -/
noncomputable abbrev FLs (P : Program) (E : Tr Ent) (m : Nat) : Fs := fun g => some (FL P E m g)
section
variable {P : Program} {E : Tr Ent} {s m : Nat} {f : Nat} {c : FCode}
theorem FLs_all (hE : TrOk P E) : ∀ f F, FLs P E m f = some F → Sound P f F := fun f F h => by obtain rfl := Option.some.inj h; exact FL_sound hE m f
theorem FLs_call (hE : TrOk P E) : ∀ f args T v T', kcall P E s m f args T = some (v, T') → ∃ F, FLs P E m f = some F ∧ F args T.H = some (v, T'.H) := fun f args T v T' h => ⟨_, rfl, kcall_sound hE m f args T v T' h⟩
/-- What holds of the function's own text. -/
structure Code (P : Program) (f : Nat) (c : FCode) (fn : Func) : Prop where
  hf : P.funcs[f]? = some fn
  nm : (fn.name == "runtime.NumGoroutine") = false
  bd : fn.body.isNone = false
  hX : ∀ (Γ : Fs) (J : List Item → List Value → Heap → R) (args : List Value) (H : Heap) (r : Value × Heap), (c.X args).run P Γ (fun key vs H => J (c.td key) vs H) H = some r → fnJ P Γ fn c.cuts J args H = some r ∧ args.length ≤ fn.ntmps
  hC : ∀ (Γ : Fs) (J : List Item → List Value → Heap → R) (key : Nat) (vs : List Value) (H : Heap) (r : Value × Heap), (c.C key vs).run P Γ (fun key vs H => J (c.td key) vs H) H = some r → runJ P Γ fn c.cuts J (c.td key) vs H = some r
theorem Code.of (h : CodeOk P f c) : ∃ fn, Code P f c fn := by obtain ⟨fn, a, b, c, d, e⟩ := h.ex; exact ⟨fn, a, b, c, d, e⟩
variable {fn : Func}
/-- From one place to another one. -/
theorem Gd.go (hE : TrOk P E) (hc : Code P f c fn) {key key0 : Nat} {vs vs0 : List Value} {T L : KH} (h : marked (karr P (kcall P E s m) c (stopAt key0 vs0 L) s (c.C key vs) T) = true)
    {v0 : Value} {H0 : Heap} (hG : Gd P f fn c.cuts (c.td key0) vs0 L.H v0 H0) : Gd P f fn c.cuts (c.td key) vs T.H v0 H0 :=
  Gd.of_run (FLs_all hE) hc.hf mk0_no (hc.hC _ _ key vs T.H _ (karr_sound (FLs_all hE) (FLs_call hE) hc.hf (hc.hC _) (hstopAt hG) s _ T h))
/-- From the beginning to a place. -/
theorem Gf.go (hE : TrOk P E) (hc : Code P f c fn) {key0 : Nat} {args vs0 : List Value} {T L : KH} (h : marked (karr P (kcall P E s m) c (stopAt key0 vs0 L) s (c.X args) T) = true)
    {v0 : Value} {H0 : Heap} (hG : Gd P f fn c.cuts (c.td key0) vs0 L.H v0 H0) : Gf P f args T.H v0 H0 := by
  obtain ⟨h1, h2⟩ := hc.hX _ _ args T.H _ (karr_sound (FLs_all hE) (FLs_call hE) hc.hf (hc.hC _) (hstopAt hG) s _ T h)
  exact Gf.of_run (FLs_all hE) hc.hf mk0_no h1 h2
/-- From a place to the end. -/
theorem Gd.ends (hE : TrOk P E) (hc : Code P f c fn) {key : Nat} {vs : List Value} {T : KH} {v : Value} {T' : KH} (h : kdrv P (kcall P E s m) c s (c.C key vs) T = some (v, T')) : Gd P f fn c.cuts (c.td key) vs T.H v T'.H :=
  Gd.of_fin (FLs_all hE) hc.hf (m := s + 1) (hc.hC _ (run P _ fn c.cuts s) key vs T.H _ (kdrv_sound (FLs_call hE) (c := c) (fn := fn) (fun m key vs H r => hc.hC _ (run P _ fn c.cuts m) key vs H r) s _ T v T' h))
theorem Gf.ends (hE : TrOk P E) (hc : Code P f c fn) {args : List Value} {T : KH} {v : Value} {T' : KH} (h : kdrv P (kcall P E s m) c s (c.X args) T = some (v, T')) : Gf P f args T.H v T'.H := by
  obtain ⟨h1, h2⟩ := hc.hX _ (run P _ fn c.cuts s) args T.H _ (kdrv_sound (FLs_call hE) (c := c) (fn := fn) (fun m key vs H r => hc.hC _ (run P _ fn c.cuts m) key vs H r) s _ T v T' h)
  exact Gf.of_fin (FLs_all hE) hc.hf h1 h2
/-- It ends with that, and with that heap, but for what is let go. -/
noncomputable def kend (r : KR) (v0 : Value) (L : KH) : Bool := match r with | some (v, T) => (match eqV 9 v v0 with | true => kkill T L | false => false) | none => false
theorem kend_ok {r : KR} {v0 : Value} {L : KH} (h : kend r v0 L = true) : ∃ T, r = some (v0, T) ∧ Kill T.H L.H := by
  unfold kend at h
  split at h
  · split at h
    · rename_i v T b e
      exact ⟨T, by rw [eqV_ok _ _ _ e], kkill_ok h⟩
    · cases h
  · cases h
theorem Gd.end_ (hE : TrOk P E) (hc : Code P f c fn) {key : Nat} {vs : List Value} {T : KH} {v : Value} {L : KH} (h : kend (kdrv P (kcall P E s m) c s (c.C key vs) T) v L = true) : Gd P f fn c.cuts (c.td key) vs T.H v L.H := by
  obtain ⟨T', h1, h2⟩ := kend_ok h
  exact (Gd.ends hE hc h1).kill_r h2
theorem Gf.end_ (hE : TrOk P E) (hc : Code P f c fn) {args : List Value} {T : KH} {v : Value} {L : KH} (h : kend (kdrv P (kcall P E s m) c s (c.X args) T) v L = true) : Gf P f args T.H v L.H := by
  obtain ⟨T', h1, h2⟩ := kend_ok h
  exact (Gf.ends hE hc h1).kill_r h2
end

/-! ### Calls that are known at some heaps, by their lengths -/
structure Known where
  args : List Value
  T : KH
  v : Value
  L : KH
noncomputable def Kn.k (e : Nat → Option Known) (args : List Value) (T : KH) : KR := match e T.n with
  | some x => (match eqL (eqV 9) args x.args with | true => (match kkill T x.T with | true => some (x.v, x.L) | false => none) | false => none)
  | none => none
open Classical in
noncomputable def Kn.F (e : Nat → Option Known) (args : List Value) (H : Heap) : R := match e H.length with
  | some x => if args = x.args ∧ Kill H x.T.H then some (x.v, x.L.H) else none
  | none => none
noncomputable def Kn.giv (e : Nat → Option Known) : Giv := ⟨Kn.k e, Kn.F e⟩
theorem Kn.ok {P : Program} {f : Nat} {fn : Func} (hf : P.funcs[f]? = some fn) (hnm : (fn.name == "runtime.NumGoroutine") = false) (hbd : fn.body.isNone = false) {e : Nat → Option Known}
    (h : ∀ n x, e n = some x → Gf P f x.args x.T.H x.v x.L.H) : EntOk P f (.giv (Kn.giv e)) := by
  refine ⟨Sound.of_Gf hf hnm hbd fun args H v H' hF => ?_, fun args T v T' hk => ?_⟩
  · replace hF : Kn.F e args H = some (v, H') := hF
    unfold Kn.F at hF
    split at hF
    · rename_i x hx
      split at hF
      · rename_i hq
        obtain ⟨rfl, hK⟩ := hq
        obtain ⟨rfl, rfl⟩ := Prod.mk.inj (Option.some.inj hF)
        exact (h _ x hx).kill_l hK
      · cases hF
    · cases hF
  · replace hk : Kn.k e args T = some (v, T') := hk
    show Kn.F e args T.H = some (v, T'.H)
    unfold Kn.k at hk
    unfold Kn.F
    rw [KH.len]
    split at hk
    · rename_i x hx
      try rw [hx]
      split at hk
      · rename_i ha
        split at hk
        · rename_i hq
          obtain ⟨rfl, rfl⟩ := Prod.mk.inj (Option.some.inj hk)
          exact if_pos ⟨eqL_ok (eqV_ok 9) ha, kkill_ok hq⟩
        · cases hk
      · cases hk
    · cases hk
end Go.Proofs.YtgnkjpbecgpjoaaGreatDoor.Fw
set_option linter.unusedVariables false
set_option linter.unusedSimpArgs false
namespace Go.Proofs.YtgnkjpbecgpjoaaGreatDoor.Fw
open Go Go.RowKit

/-! ### A function by what is known of its calls -/
open Classical in
noncomputable def Fgf (P : Program) (f : FuncId) (v : Value) : List Value → Heap → R := fun args H => if h : ∃ H', Gf P f args H v H' then some (v, Classical.choose h) else none
theorem Fgf_sound {P : Program} {f : Nat} {fn : Func} (hf : P.funcs[f]? = some fn) (hnm : (fn.name == "runtime.NumGoroutine") = false) (hbd : fn.body.isNone = false) (v : Value) : Sound P f (Fgf P f v) :=
  Sound.of_Gf hf hnm hbd fun args H w H' h => by
    unfold Fgf at h
    split at h
    · rename_i hx
      obtain ⟨rfl, rfl⟩ := Prod.mk.inj (Option.some.inj h)
      exact Classical.choose_spec hx
    · cases h
theorem Fgf_of {P : Program} {f : FuncId} {args : List Value} {H : Heap} {v : Value} {H' : Heap} (h : Gf P f args H v H') : ∃ H'', Fgf P f v args H = some (v, H'') := by
  unfold Fgf
  rw [dif_pos ⟨H', h⟩]
  exact ⟨_, rfl⟩
/-- From the beginning to a place, told by the text itself. -/
theorem Gf.of_text {P : Program} {E : Tr Ent} {m f : Nat} {c : FCode} {fn : Func} (hE : TrOk P E) (hc : Code P f c fn) {args : List Value} {H : Heap} {v0 : Value} {H0 : Heap}
    (h : (c.X args).run P (FLs P E m) (fun key vs H => Jm P f fn c.cuts v0 H0 (mk0, []) (c.td key) vs H) H = some (mk0, [])) : Gf P f args H v0 H0 := by
  obtain ⟨h1, h2⟩ := hc.hX _ _ args H _ h
  exact Gf.of_run (FLs_all hE) hc.hf mk0_no h1 h2
end Go.Proofs.YtgnkjpbecgpjoaaGreatDoor.Fw
set_option linter.unusedVariables false
set_option linter.unusedSimpArgs false
namespace Go.Proofs.YtgnkjpbecgpjoaaGreatDoor.Fw
open Go Go.RowKit

/-! ### What a place of a law comes to -/
/-- A value, and all that lay there and is not its own lies there as it did. -/
def PostL (u : Value) (ρ : Ren) (H : Heap) (w : World) (v' : Value) (w' : World) : Prop :=
  v' = u ∧ w.heap.size ≤ w'.heap.size ∧ (∀ k, k < w.heap.size → ¬ Owns ρ H k → w'.heap[k]? = w.heap[k]?) ∧ w'.os = w.os ∧ w'.tape = w.tape ∧ w'.output = w.output
theorem PostL.of_ext {u : Value} {ρ ρ1 : Ren} {H H1 : Heap} {w w1 : World} {v' : Value} {w' : World} (h : Ext ρ H w ρ1 H1 w1) (k : PostL u ρ1 H1 w1 v' w') : PostL u ρ H w v' w' := by
  obtain ⟨h1, h2, h3, h4, h5, h6⟩ := k
  refine ⟨h1, Nat.le_trans h.size h2, fun j hj hn => ?_, h4.trans h.os, h5.trans h.tape, h6.trans h.output⟩
  refine (h3 j (Nat.lt_of_lt_of_le hj h.size) fun ho => ?_).trans (h.keep j hj hn)
  rcases h.owns ho with h' | h'
  · omega
  · exact hn h'
theorem PostL.owns {u : Value} {ρ ρ1 : Ren} {H H1 : Heap} {w : World} {v' : Value} {w' : World} (h : ∀ k, Owns ρ1 H1 k → Owns ρ H k) (k : PostL u ρ1 H1 w v' w') : PostL u ρ H w v' w' := by
  obtain ⟨h1, h2, h3, h4⟩ := k
  exact ⟨h1, h2, fun j hj hn => h3 j hj fun ho => hn (h j ho), h4⟩

/-- Rows that a law was given, by their numbers. -/
abbrev Frs := List (Nat × AObj)
def FrOK (fr : Frs) (ρ : Ren) (H : Heap) (w : World) : Prop :=
  ∀ x ∈ fr, ∃ p, ρ x.1 = some p ∧ (∀ ρ', OR ρ' w p x.2) ∧ p.blk < w.heap.size ∧ ∀ k, Owns ρ H k → k ≠ p.blk
theorem FrOK.stays (fr : Frs) : Stays (FrOK fr) := by
  intro ρ ρ1 H H1 w w1 h hf x hx
  obtain ⟨p, h1, h2, h3, h4⟩ := hf x hx
  refine ⟨p, h.mono _ _ h1, fun ρ' => (h2 ρ').of_block (h.keep _ h3 fun ho => h4 _ ho rfl), Nat.lt_of_lt_of_le h3 h.size, fun k hk => ?_⟩
  rcases h.owns hk with h' | h'
  · omega
  · exact h4 k h'
theorem FrOK.owns {fr : Frs} {ρ ρ1 : Ren} {H H1 : Heap} {w : World} (h : ∀ k, Owns ρ1 H1 k → Owns ρ H k) (hr : ∀ x ∈ fr, ρ1 x.1 = ρ x.1) (hf : FrOK fr ρ H w) : FrOK fr ρ1 H1 w := fun x hx => by
  obtain ⟨p, h1, h2, h3, h4⟩ := hf x hx
  exact ⟨p, (hr x hx).trans h1, h2, h3, fun k hk => h4 k (h k hk)⟩
theorem FrOK.nil (ρ : Ren) (H : Heap) (w : World) : FrOK [] ρ H w := fun x hx => by cases hx

section
variable {P : Program} {Γ : Fs} {f : FuncId} {fn : Func} {cuts : Cuts} {fr : Frs}
/-- From a place of a law on it comes to a value. -/
def Gl (P : Program) (f : FuncId) (fn : Func) (cuts : Cuts) (fr : Frs) (td : List Item) (vs : List Value) (H : Heap) (u : Value) : Prop :=
  ∀ lv, cutOf cuts td = some lv → ∀ (b : Frame) (cs : List Frame), b.fn = f → b.kind = .normal → ∀ ρ w a, Rel ρ H w → FrOK fr ρ H w → TR ρ (restore lv vs) a.tmps → a.tmps.size = fn.ntmps → a.defers = [] →
    Reach P b.fn cs (lone (b.at a td) cs w) (PostL u ρ H w)
/-- A call of a law comes to a value. -/
def Gc (P : Program) (f : FuncId) (fr : Frs) (args : List Value) (H : Heap) (u : Value) : Prop :=
  ∀ ρ w args', Rel ρ H w → FrOK fr ρ H w → VL ρ args args' → Calls P f args'.toArray w fun e w' => ∃ v', e = .returned v' ∧ PostL u ρ H w v' w'
theorem Gl.kill {td : List Item} {vs : List Value} {H H2 : Heap} {u : Value} (h : Gl P f fn cuts fr td vs H2 u) (k : Kill H H2) : Gl P f fn cuts fr td vs H u :=
  fun lv hl b cs hb hk ρ w a hR hf ht hs hd => (h lv hl b cs hb hk ρ w a (hR.dies k) (hf.owns (fun j hj => hj.kill k) fun _ _ => rfl) ht hs hd).mono fun _ _ hp => hp.owns fun j hj => hj.kill k
/-- A row that was given may be told again. -/
theorem Gl.row {td : List Item} {vs : List Value} {H : Heap} {u : Value} {i : Nat} {o : AObj} (hm : (i, o) ∈ fr) (ho : o.own = false) (hi : i < H.length) (h : Gl P f fn cuts fr td vs (H.set i o) u) : Gl P f fn cuts fr td vs H u := by
  intro lv hl b cs hb hk ρ w a hR hf ht hs hd
  have hown : ∀ k, Owns ρ (H.set i o) k → Owns ρ H k := fun k hk => by
    obtain ⟨c, q, x, h1, h2, h3, h4⟩ := hk
    by_cases e : c = i
    · subst e
      rw [List.getElem?_set_self hi] at h2
      obtain rfl := Option.some.inj h2
      rw [ho] at h3; cases h3
    · rw [List.getElem?_set_ne (Ne.symm e)] at h2
      exact ⟨c, q, x, h1, h2, h3, h4⟩
  obtain ⟨p, hp, hor, hlt, hne⟩ := hf _ hm
  have hR' : Rel ρ (H.set i o) w := by
    refine ⟨fun c q hc => by simpa using hR.dom c q hc, fun c q x hc hx => ?_, fun c c' q q' x x' hc hc' hx hx' h1 h2 h3 => ?_, hR.glob⟩
    · by_cases e : c = i
      · subst e
        rw [List.getElem?_set_self hi] at hx
        obtain rfl := Option.some.inj hx
        rw [hp] at hc
        obtain rfl := Option.some.inj hc
        exact hor ρ
      · rw [List.getElem?_set_ne (Ne.symm e)] at hx
        exact hR.obj c q x hc hx
    · have hcO : Owns ρ H q.blk := hown _ ⟨c, q, x, hc, hx, h1, rfl⟩
      by_cases e : c' = i
      · subst e
        rw [hp] at hc'
        obtain rfl := Option.some.inj hc'
        exact hne _ hcO
      · rw [List.getElem?_set_ne (Ne.symm e)] at hx'
        have e2 : c ≠ i := fun e2 => by
          subst e2
          rw [List.getElem?_set_self hi] at hx
          obtain rfl := Option.some.inj hx
          rw [ho] at h1; cases h1
        rw [List.getElem?_set_ne (Ne.symm e2)] at hx
        exact hR.sep c c' q q' x x' hc hc' hx hx' h1 h2 h3
  exact (h lv hl b cs hb hk ρ w a hR' (hf.owns hown fun _ _ => rfl) ht hs hd).mono fun _ _ hp => hp.owns hown

/-- Either of two outcomes. -/
def PostLW (u : Value) (ρ : Ren) (H : Heap) (w : World) (v : Value) (H' : Heap) (v' : Value) (w' : World) : Prop := Post ρ H w v H' v' w' ∨ PostL u ρ H w v' w'
theorem PostLW.pol {u : Value} : Pol (PostLW u) := ⟨fun h hd k => k.imp (Post.pol.1 h hd) fun k => k.of_ext h, fun hR hv => .inl (Post.pol.2.1 hR hv), fun k h => h.imp (Post.pol.2.2 k) id⟩
open Classical in
noncomputable def Jl (P : Program) (f : FuncId) (fn : Func) (cuts : Cuts) (fr : Frs) (u : Value) (x : Value × Heap) (td : List Item) (vs : List Value) (H : Heap) : R :=
  if Gl P f fn cuts fr td vs H u then some x else none
theorem Jl.of {u : Value} {x : Value × Heap} {td : List Item} {vs : List Value} {H : Heap} (h : Gl P f fn cuts fr td vs H u) : Jl P f fn cuts fr u x td vs H = some x := by unfold Jl; rw [if_pos h]
theorem Jl.ok {u : Value} {x : Value × Heap} {b : Frame} {cs : List Frame} (hb : b.fn = f) (hk : b.kind = .normal) : JOkP P b cs fn cuts (FrOK fr) (PostLW u) (Jl P f fn cuts fr u x) := by
  intro td vs H v H' lv h hlv ρ w a hR hI ht hs hd
  unfold Jl at h
  split at h
  · rename_i hG
    exact (hG lv hlv b cs hb hk ρ w a hR hI ht hs hd).mono fun v' w' hp => .inr hp
  · cases h
theorem PostL.of_post {u : Value} (hu : plain1 u = true) {ρ : Ren} {H H' : Heap} {w : World} {v' : Value} {w' : World} (h : Post ρ H w u H' v' w') : PostL u ρ H w v' w' := by
  obtain ⟨ρ', h1, h2, h3⟩ := h
  exact ⟨h3.plain1_eq hu, h2.size, fun k hk hn => h2.keep k hk hn, h2.os, h2.tape, h2.output⟩
/-- A place by a run that comes to a mark, or to the value. -/
theorem Gl.of_run (hΓ : ∀ f F, Γ f = some F → Sound P f F) (hf : P.funcs[f]? = some fn) {u : Value} {x : Value × Heap} (hx : (∀ ρ v', ¬ VR ρ x.1 v') ∨ (x.1 = u ∧ plain1 u = true)) {td : List Item} {vs : List Value} {H : Heap}
    (h : runJ P Γ fn cuts (Jl P f fn cuts fr u x) td vs H = some x) : Gl P f fn cuts fr td vs H u := by
  intro lv hlv b cs hb hk ρ w a hR hI ht hs hd
  obtain ⟨xv, xH⟩ := x
  simp only [runJ, hlv, onSome] at h
  refine (exec_soundP (FrOK.stays fr) (PostLW.pol (u := u)) hΓ (b := b) (cs := cs) (by rw [hb]; exact hf) hk (Jl.ok hb hk) _ _ _ _ _ _ h ρ w a hR hI ht hs hd).mono fun v' w' hp => ?_
  rcases hp with hp | hp
  · rcases hx with hx | ⟨hx, hu⟩
    · obtain ⟨ρ', _, _, hv⟩ := hp
      exact (hx _ _ hv).elim
    · have hx : xv = u := hx
      subst hx
      exact PostL.of_post hu hp
  · exact hp
theorem Gc.of_run (hΓ : ∀ f F, Γ f = some F → Sound P f F) (hf : P.funcs[f]? = some fn) {u : Value} {x : Value × Heap} (hx : (∀ ρ v', ¬ VR ρ x.1 v') ∨ (x.1 = u ∧ plain1 u = true)) {args : List Value} {H : Heap}
    (h : fnJ P Γ fn cuts (Jl P f fn cuts fr u x) args H = some x) (hsz : args.length ≤ fn.ntmps) : Gc P f fr args H u := by
  intro ρ w args' hR hI hv cs
  obtain ⟨xv, xH⟩ := x
  simp only [fnJ] at h
  replace h := onSome_inv h; obtain ⟨c, hb, h⟩ := h
  let b : Frame := { (default : Frame) with fn := f, kind := .normal }
  have henter : Frame.enter P f args'.toArray .normal =
      b.at { tmps := args'.toArray ++ Array.replicate (fn.ntmps - args'.toArray.size) undef, defers := [] } [.code c] := by
    simp [Frame.enter, Frame.at, hf, hb, b]
  have := exec_soundP (FrOK.stays fr) (PostLW.pol (u := u)) hΓ (b := b) (cs := cs) hf rfl (Jl.ok rfl rfl) _ _ _ _ _ _ h ρ w { tmps := args'.toArray ++ Array.replicate (fn.ntmps - args'.toArray.size) undef, defers := [] } hR hI (by
    refine ⟨?_, hR.glob⟩
    intro j u hu
    obtain ⟨k, rfl, hk⟩ := argT_at _ _ _ _ hu
    obtain ⟨u', h1, h2⟩ := hv.get hk
    have hlt : k < args'.length := by
      rcases Nat.lt_or_ge k args'.length with h' | h'
      · exact h'
      · simp [List.getElem?_eq_none h'] at h1
    have e : (args'.toArray ++ Array.replicate (fn.ntmps - args'.toArray.size) undef).getD (0 + k) undef = u' := by
      simp only [Nat.zero_add, Array.getD_eq_getD_getElem?]
      rw [Array.getElem?_append_left (by simpa using hlt)]
      simp [h1]
    rw [e]; exact h2) (by have := hv.1; simp; omega) rfl
  rw [henter]
  obtain ⟨fr', v', w', h1, h2, h3, h4⟩ := this
  refine ⟨.returned v', w', fr', ⟨v', rfl, ?_⟩, h1, h2, h3⟩
  rcases h4 with hp | hp
  · rcases hx with hx | ⟨hx, hu⟩
    · obtain ⟨ρ', _, _, hv⟩ := hp
      exact (hx _ _ hv).elim
    · have hx : xv = u := hx
      subst hx
      exact PostL.of_post hu hp
  · exact hp
end

/-! ### What is known may be told more weakly -/
inductive Def where
  | old (b : Nat) (d : Int)
  | cst (d : Int)
/-- Numbers: of the new ones the old ones, of the old ones the new ones; what new ones that stand for whole numbers stand for. -/
structure Wk where
  pi : Tr Nat
  pj : Tr Nat
  de : Tr Def
  ib : Nat
  iv : Int
/-- What is known of one of the old ones. -/
def Ins (ρ : Ren) (k : Wk) : Prop := ∀ p, ρ k.ib = some p → pv p = k.iv
def plI (W : Nat) (z : Int) : Pl := ⟨W, 0, z.toNat, (-z).toNat⟩
theorem pv_plI (W : Nat) (z : Int) : pv (plI W z) = z := by simp only [pv, plI]; omega
noncomputable def ren2 (ρ : Ren) (k : Wk) (n W : Nat) : Ren := fun j => match Nat.blt j n with
  | true => (match gR k.pi j with
    | some i => ρ i
    | none => (match gR k.de j with
      | some (.old b d) => (match ρ b with | some p => some (plI W (pv p + d)) | none => none)
      | some (.cst d) => some (plI W d)
      | none => none))
  | false => none
noncomputable def chkS (k : Wk) (n : Nat) (s u : SI) : Bool := both2 (leI u.lo s.lo) (both2 (leI s.hi u.hi) (match both2 (eqI u.c 0) (eqI u.m 1) with
  | true => true
  | false => (match Nat.blt u.b n, gR k.pi u.b, gR k.de u.b with
    | true, none, some (.old b d) => both2 (eqI s.m u.m) (both2 (eqI s.c u.c) (both2 (eqN s.b b) (eqI s.o (u.o + u.c * d))))
    | true, none, some (.cst d) => both2 (eqI s.m u.m) (both2 (eqI s.c 0) (eqI s.o (u.c * d + u.o)))
    | _, _, _ => false)))
theorem chkS_ok {ρ : Ren} {k : Wk} {n W : Nat} {s u : SI} {x : Int} (h : chkS k n s u = true) (hx : Has ρ s x) : Has (ren2 ρ k n W) u x := by
  unfold chkS at h
  rw [both2_iff, both2_iff, leI_iff, leI_iff] at h
  obtain ⟨h1, h2, h⟩ := h
  obtain ⟨x1, x2, t, q, x3, x4⟩ := hx
  refine ⟨Int.le_trans h1 x1, Int.le_trans x2 h2, ?_⟩
  split at h
  · rename_i h0; rw [both2_iff, eqI_iff, eqI_iff] at h0
    exact ⟨0, x - u.o, .inl h0.1, by rw [h0.1, h0.2]; omega⟩
  · split at h
    · rename_i b d hb hp hd
      rw [both2_iff, both2_iff, both2_iff, eqI_iff, eqI_iff, eqI_iff] at h
      obtain ⟨e1, e2, e3, e4⟩ := h
      have e3 := eqN_ok _ _ e3
      refine ⟨t + d, q, ?_, by rw [x4, e1, e2, e4, Int.mul_add]; omega⟩
      rcases x3 with x3 | ⟨p, x5, x6⟩
      · exact .inl (by rw [← e2]; exact x3)
      · refine .inr ⟨plI W (pv p + d), ?_, by rw [pv_plI, x6]⟩
        rw [e3] at x5
        simp only [ren2, hb, hp, hd, x5]
    · rename_i d hb hp hd
      rw [both2_iff, both2_iff, eqI_iff, eqI_iff, eqI_iff] at h
      obtain ⟨e1, e2, e4⟩ := h
      refine ⟨d, q, .inr ⟨plI W d, by simp only [ren2, hb, hp, hd], pv_plI W d⟩, ?_⟩
      rw [x4, e1, e2, e4]; omega
    · cases h
noncomputable def chkB (k : Wk) (n q r : Nat) : Bool := match Nat.blt r n, gR k.pi r with | true, some i => eqN i q | _, _ => false
theorem chkB_ok {ρ : Ren} {k : Wk} {n W q r : Nat} (h : chkB k n q r = true) : ren2 ρ k n W r = ρ q := by
  unfold chkB at h
  split at h
  · rename_i i hb hp
    rw [← eqN_ok _ _ h]
    simp only [ren2, hb, hp]
  · cases h
noncomputable def chkA (k : Wk) (n : Nat) (b a : Addr) : Bool := match b.spot, a.spot with | none, none => both2 (chkB k n b.block a.block) (eqN b.off a.off) | _, _ => false
theorem chkA_ok {ρ : Ren} {k : Wk} {n W : Nat} {b a : Addr} (h : chkA k n b a = true) : ren2 ρ k n W a.block = ρ b.block ∧ b.off = a.off ∧ b.spot = none ∧ a.spot = none := by
  unfold chkA at h
  split at h
  · rename_i h1 h2
    rw [both2_iff] at h
    exact ⟨chkB_ok h.1, eqN_ok _ _ h.2, h1, h2⟩
  · cases h
/-- A whole number that is known now. -/
noncomputable def chkN (k : Wk) (v : Value) (z : Int) : Bool := match isS v, siOf v with
  | true, some s => both2 (eqN s.b k.ib) (both2 (eqI s.m 0) (eqI z (s.c * k.iv + s.o)))
  | _, _ => false
theorem chkN_ok {ρ : Ren} {k : Wk} {v v' : Value} {z : Int} (hi : Ins ρ k) (h : chkN k v z = true) (hv : VR ρ v v') : v' = .int .i64 z := by
  unfold chkN at h
  split at h
  · rename_i s h1 h2
    rw [both2_iff, both2_iff, eqI_iff, eqI_iff] at h
    obtain ⟨e1, e2, e3⟩ := h
    have e1 := eqN_ok _ _ e1
    obtain ⟨n, rfl, h3⟩ := siOf_VR h2 hv
    obtain ⟨_, _, t, q, x3, x4⟩ := h3
    have : n = z := by
      rw [x4, e3, e2]
      rcases x3 with x3 | ⟨p, x5, x6⟩
      · rw [x3]; omega
      · rw [e1] at x5
        rw [← x6, hi p x5]; omega
    rw [this]
  · cases h
noncomputable def chkP (k : Wk) (v u : Value) : Bool := match u with
  | .int .i64 z => (match eqV 1 v u with | true => true | false => chkN k v z)
  | u => both2 (plain1 u) (eqV 1 v u)
theorem chkP_ok {ρ ρ2 : Ren} {k : Wk} {v u v' : Value} (hi : Ins ρ k) (h : chkP k v u = true) (hv : VR ρ v v') : VR ρ2 u v' := by
  unfold chkP at h
  split at h
  · split at h
    · rename_i e
      have e := eqV_ok _ _ _ e
      subst e
      rw [hv.int_inv]; exact .int _ _
    · rw [chkN_ok hi h hv]; exact .int _ _
  · rw [both2_iff] at h
    have e := eqV_ok _ _ _ h.2
    subst e
    rw [hv.plain1_eq h.1]
    exact plain1_VR h.1
/-- Does the second value tell no more than the first one? -/
noncomputable def chkV (k : Wk) (n : Nat) : Nat → Value → Value → Bool
  | 0, _, _ => false
  | d + 1, v, u => (match u with
    | .chan none => v.oneCell'
    | .func (.yield b) x y => (match isS (.func (.yield b) x y), siOf v, siOf (.func (.yield b) x y) with | true, some s, some s' => chkS k n s s' | _, _, _ => false)
    | .pointer (some a) => (match v with | .pointer (some b) => chkA k n b a | _ => false)
    | .slice (some a) l c => (match v with | .slice (some b) l' c' => both2 (chkA k n b a) (both2 (eqN l' l) (eqN c' c)) | _ => false)
    | .map (some r) => (match v with | .map (some q) => chkB k n q r | _ => false)
    | .iface t x => (match v with | .iface t' y => both2 (eqN t' t) (chkV k n d y x) | _ => false)
    | .agg x => (match v with | .agg y => eqL (chkV k n d) y.toList x.toList | _ => false)
    | .tuple x => (match v with | .tuple y => eqL (chkV k n d) y.toList x.toList | _ => false)
    | .func (.func f) x y => (match v with | .func (.func g) x' y' => both2 (eqN g f) (both2 (eqL (chkV k n d) x'.toList x.toList) (eqL (chkV k n d) y'.toList y.toList)) | _ => false)
    | u => chkP k v u)
theorem eqL_VL {ρ ρ2 : Ren} {f : Value → Value → Bool} (hf : ∀ v u v', f v u = true → VR ρ v v' → VR ρ2 u v') : ∀ {a b l : List Value}, eqL f a b = true → VL ρ a l → VL ρ2 b l
  | [], [], l, h, hv => by rw [hv.nil_inv]; exact VL.nil
  | [], _ :: _, l, h, hv => by simp [eqL] at h
  | _ :: _, [], l, h, hv => by simp [eqL] at h
  | v :: a, u :: b, l, h, hv => by
    obtain ⟨v', m, rfl, h1, h2⟩ := hv.cons_inv
    simp only [eqL] at h
    split at h
    · rename_i h0; exact VL.cons (hf _ _ _ h0 h1) (eqL_VL hf h h2)
    · cases h
theorem One.of_VL {ρ ρ2 : Ren} {a b l : List Value} (h1 : VL ρ a l) (h2 : VL ρ2 b l) (h : One a) : One b := by
  have hl := h1.one h
  intro u hu
  obtain ⟨i, hi⟩ := List.mem_iff_getElem?.1 hu
  obtain ⟨u', h3, h4⟩ := h2.get hi
  have := hl u' (List.mem_of_getElem? h3)
  rw [h4.one_eq] at this; exact this
theorem chkV_ok {ρ : Ren} {k : Wk} {n W : Nat} (hi : Ins ρ k) : ∀ (d : Nat) (v u v' : Value), chkV k n d v u = true → VR ρ v v' → VR (ren2 ρ k n W) u v'
  | 0, v, u, v', h, hv => by cases h
  | d + 1, v, u, v', h, hv => by
    unfold chkV at h
    split at h
    · exact .hole _ (by rw [hv.one_eq]; exact h)
    · split at h
      · rename_i h0 h1 h2
        obtain ⟨x, rfl, hx⟩ := siOf_VR h1 hv
        unfold siOf at h2
        split at h2
        · rename_i e; cases e
        · rename_i e
          obtain ⟨e1, e2, e3⟩ := Value.func.inj e
          obtain rfl := Fn.yield.inj e1
          subst e2; subst e3
          obtain rfl := Option.some.inj h2
          exact .sym _ _ _ _ _ _ _ (chkS_ok h hx)
        · cases h2
      · cases h
    · split at h
      · obtain ⟨h1, h2, h3, h4⟩ := chkA_ok (ρ := ρ) (W := W) h
        obtain ⟨p, hp, hs, rfl⟩ := hv.ptr_inv
        rw [addr_eta h4, h2]
        exact .ptr _ _ _ (h1.trans hp)
      · cases h
    · split at h
      · rw [both2_iff, both2_iff] at h
        obtain ⟨h0, e1, e2⟩ := h
        have e1 := eqN_ok _ _ e1; have e2 := eqN_ok _ _ e2
        subst e1; subst e2
        obtain ⟨h1, h2, h3, h4⟩ := chkA_ok (ρ := ρ) (W := W) h0
        obtain ⟨p, a', cap', hp, hs, rfl, hc, hl, ha⟩ := hv.slice_inv
        rw [addr_eta h4, ← h2]
        exact .slice _ _ _ _ _ _ _ (h1.trans hp) hc hl ha
      · cases h
    · split at h
      · obtain ⟨p, hp, rfl⟩ := hv.map_inv
        exact .map _ _ ((chkB_ok h).trans hp)
      · cases h
    · split at h
      · rw [both2_iff] at h
        have e1 := eqN_ok _ _ h.1
        subst e1
        obtain ⟨u', rfl, h1⟩ := hv.iface_inv
        exact .iface _ _ _ (chkV_ok hi d _ _ _ h.2 h1)
      · cases h
    · split at h
      · obtain ⟨x', rfl, h1, h2⟩ := hv.agg_inv
        have h3 := eqL_VL (ρ2 := ren2 ρ k n W) (fun a b c => chkV_ok (W := W) hi d a b c) h h1
        exact VR.agg_mk h3 (One.of_VL h1 h3 h2)
      · cases h
    · split at h
      · obtain ⟨x', rfl, h1⟩ := hv.tuple_inv
        have h3 := eqL_VL (ρ2 := ren2 ρ k n W) (fun a b c => chkV_ok (W := W) hi d a b c) h h1
        exact VR.tuple_mk h3
      · cases h
    · split at h
      · rw [both2_iff, both2_iff] at h
        obtain ⟨e, h1, h2⟩ := h
        have e := eqN_ok _ _ e
        subst e
        obtain ⟨x', y', rfl, h3, h4⟩ := hv.func_inv
        exact VR.func_mk (eqL_VL (fun a b c => chkV_ok (W := W) hi d a b c) h1 h3) (eqL_VL (fun a b c => chkV_ok (W := W) hi d a b c) h2 h4)
      · cases h
    · exact chkP_ok hi h hv
noncomputable def chkO (k : Wk) (n : Nat) (o u : AObj) : Bool :=
  match u with
  | .dead => true
  | .cells cs e w => (match o with | .cells cs' e' w' => both2 (eqN e' e) (both2 (w' == w) (eqL (chkV k n 6) cs' cs)) | _ => false)
  | .map es bs c => (match o with | .map es' bs' c' => both2 (eqN c' c) (both2 (eqL eqN bs' bs) (both2 (eqL (chkV k n 6) (es'.map (·.1)) (es.map (·.1))) (eqL (chkV k n 6) (es'.map (·.2)) (es.map (·.2))))) | _ => false)
  | .iter _ _ _ _ => false
theorem chkO_ok {ρ : Ren} {k : Wk} {n W : Nat} (hi : Ins ρ k) {w : World} {p : Pl} {o u : AObj} (h : chkO k n o u = true) (ho : OR ρ w p o) : OR (ren2 ρ k n W) w p u ∧ (u.live = true → u.own = o.own ∧ o.live = true) := by
  cases u with
  | dead => exact ⟨trivial, fun h => by cases h⟩
  | cells cs e w0 =>
    cases o with
    | cells cs' e' w' =>
      replace h : both2 (eqN e' e) (both2 (w' == w0) (eqL (chkV k n 6) cs' cs)) = true := h
      rw [both2_iff, both2_iff] at h
      obtain ⟨e1, e2, h⟩ := h
      have e1 := eqN_ok _ _ e1
      have e2 := eq_of_beq e2
      subst e1; subst e2
      refine ⟨?_, fun _ => ⟨rfl, rfl⟩⟩
      obtain ⟨c, el, fz, h1, h2, h3, h4, h5, h6⟩ := ho
      -- the cells, as a list
      have hV : VL ρ cs' ((List.range cs'.length).map fun i => c.getD (p.base + i) undef) := by
        refine ⟨by simp, fun i v v' a b => ?_⟩
        obtain ⟨_, u', h7, h8⟩ := h5 i v a
        have hi : i < cs'.length := (List.getElem?_eq_some_iff.1 a).1
        simp [hi] at b
        subst b
        simp only [Array.getD_eq_getD_getElem?, h7, Option.getD_some]; exact h8
      have hO : One cs' := fun v hv => by
        obtain ⟨i, hi⟩ := List.mem_iff_getElem?.1 hv
        exact (h5 i v hi).1
      have hV2 := eqL_VL (ρ2 := ren2 ρ k n W) (fun a b c => chkV_ok (W := W) hi 6 a b c) h hV
      have hO2 := One.of_VL hV hV2 hO
      have hlen : cs.length = cs'.length := by have := hV2.1; simpa using this
      refine ⟨c, el, fz, h1, h2, h3, by rw [hlen]; exact h4, fun i v hv => ⟨hO2 v (List.mem_of_getElem? hv), ?_⟩, h6⟩
      have hi : i < cs'.length := by rw [← hlen]; exact (List.getElem?_eq_some_iff.1 hv).1
      have hlt : p.base + i < c.size := by omega
      refine ⟨c[p.base + i], by simp [hlt], ?_⟩
      refine hV2.2 i v _ hv ?_
      simp [hi, Array.getD_eq_getD_getElem?, hlt]
    | _ => cases h
  | map es bs cc =>
    cases o with
    | map es' bs' cc' =>
      replace h : both2 (eqN cc' cc) (both2 (eqL eqN bs' bs) (both2 (eqL (chkV k n 6) (es'.map (·.1)) (es.map (·.1))) (eqL (chkV k n 6) (es'.map (·.2)) (es.map (·.2))))) = true := h
      rw [both2_iff, both2_iff, both2_iff] at h
      obtain ⟨e1, e2, h3, h4⟩ := h
      have e1 := eqN_ok _ _ e1
      have e2 := eqL_ok eqN_ok e2
      subst e1; subst e2
      refine ⟨?_, fun _ => ⟨rfl, rfl⟩⟩
      obtain ⟨l, h5, h6, h7, h8⟩ := ho
      have hget : ∀ (i : Nat) (x : Value × Value), es'[i]? = some x → ∃ e, l[i]? = some e ∧ VR ρ x.1 e.key ∧ VR ρ x.2 e.val := fun i x hx => by
        have hi : i < l.size := by rw [← h6]; exact (List.getElem?_eq_some_iff.1 hx).1
        exact ⟨l[i], by simp [hi], h7 i x.1 x.2 l[i] hx (by simp [hi])⟩
      have hK : VL ρ (es'.map (·.1)) (l.toList.map (·.key)) := by
        refine ⟨by simp [h6], fun i v v' a b => ?_⟩
        rw [List.getElem?_map, Option.map_eq_some_iff] at a b
        obtain ⟨x, hx, rfl⟩ := a
        obtain ⟨e, he, rfl⟩ := b
        obtain ⟨e', he', h9, _⟩ := hget i x hx
        rw [Array.getElem?_toList] at he
        rw [he] at he'
        obtain rfl := Option.some.inj he'
        exact h9
      have hX : VL ρ (es'.map (·.2)) (l.toList.map (·.val)) := by
        refine ⟨by simp [h6], fun i v v' a b => ?_⟩
        rw [List.getElem?_map, Option.map_eq_some_iff] at a b
        obtain ⟨x, hx, rfl⟩ := a
        obtain ⟨e, he, rfl⟩ := b
        obtain ⟨e', he', _, h9⟩ := hget i x hx
        rw [Array.getElem?_toList] at he
        rw [he] at he'
        obtain rfl := Option.some.inj he'
        exact h9
      have hK2 := eqL_VL (ρ2 := ren2 ρ k n W) (fun a b c => chkV_ok (W := W) hi 6 a b c) h3 hK
      have hX2 := eqL_VL (ρ2 := ren2 ρ k n W) (fun a b c => chkV_ok (W := W) hi 6 a b c) h4 hX
      have hlen : es.length = l.size := by have := hK2.1; simpa using this
      refine ⟨l, h5, hlen, fun i a b e ha he => ⟨hK2.2 i a e.key (by rw [List.getElem?_map, ha]; rfl) (by rw [List.getElem?_map, Array.getElem?_toList, he]; rfl), hX2.2 i b e.val (by rw [List.getElem?_map, ha]; rfl) (by rw [List.getElem?_map, Array.getElem?_toList, he]; rfl)⟩, h8⟩
    | _ => cases h
  | iter r s e l => cases h
/-- One block. -/
noncomputable def chk1 (k : Wk) (T L : KH) (j : Nat) : Bool := match gR L.t j with
  | none => true
  | some u => (match u with
    | .dead => true
    | u => (match gR k.pi j with
      | some i => (match kg T i with
        | some o => both2 (chkO k L.n o u) (match gR k.pj i with | some j' => eqN j' j | none => false)
        | none => false)
      | none => false))
noncomputable def chkAll (p : Nat → Bool) (n : Nat) : Bool := Nat.rec (motive := fun _ => Bool) true (fun m ih => both2 (p m) ih) n
theorem chkAll_ok {p : Nat → Bool} : ∀ {n : Nat}, chkAll p n = true → ∀ i, i < n → p i = true
  | 0, _, i, hi => by omega
  | n + 1, h, i, hi => by
    have h : both2 (p n) (chkAll p n) = true := h
    rw [both2_iff] at h
    by_cases e : i = n
    · subst e; exact h.1
    · exact chkAll_ok h.2 i (by omega)
noncomputable def chkI (k : Wk) (n i : Nat) : Bool := chkB k n i i
/-- A state, and one that tells no more. -/
noncomputable def weakB (k : Wk) (fids : List Nat) (vs vs0 : List Value) (T L : KH) : Bool :=
  both2 (eqL (chkV k L.n 9) vs vs0) (both2 (chkAll (chkI k L.n) ng) (both2 (fids.all (chkI k L.n)) (chkAll (chk1 k T L) L.n)))
theorem weak_live {k : Wk} {T L : KH} {j : Nat} {u : AObj} (hc : chk1 k T L j = true) (hu : L.H[j]? = some u) (hl : u.live = true) (ρ : Ren) (W : Nat) : ∃ i o, ren2 ρ k L.n W j = ρ i ∧ gR k.pi j = some i ∧ T.H[i]? = some o ∧ chkO k L.n o u = true ∧ gR k.pj i = some j := by
  rw [KH.at_] at hu
  split at hu
  · rename_i hj
    obtain rfl := Option.some.inj hu
    unfold chk1 at hc
    rw [gR_eq] at hc
    cases hg : L.t.get j with
    | none => rw [hg] at hl; cases hl
    | some u =>
      rw [hg] at hc hl
      simp only [Option.getD_some] at hl
      have key : (match gR k.pi j with
        | some i => (match kg T i with
          | some o => both2 (chkO k L.n o u) (match gR k.pj i with | some j' => eqN j' j | none => false)
          | none => false)
        | none => false) = true := by
        cases u with
        | dead => cases hl
        | _ => exact hc
      split at key
      · rename_i i hi
        split at key
        · rename_i o ho
          rw [both2_iff] at key
          refine ⟨i, o, ?_, hi, (kg_at ho).1, by simpa [hg] using key.1, ?_⟩
          · have hb : Nat.blt j L.n = true := Nat.ble_eq_true_of_le hj
            simp only [ren2, hb, hi]
          · have h2 := key.2
            split at h2
            · rename_i j' hj'; rw [hj', eqN_ok _ _ h2]
            · cases h2
        · cases key
      · cases key
  · cases hu
theorem weak_owns {k : Wk} {T L : KH} (hc : ∀ j, j < L.n → chk1 k T L j = true) {ρ : Ren} (hi : Ins ρ k) {w : World} (hR : Rel ρ T.H w) {W : Nat} : ∀ q, Owns (ren2 ρ k L.n W) L.H q → Owns ρ T.H q := by
  rintro q ⟨j, p, u, h1, h2, h3, h4⟩
  have hl : u.live = true := by cases u <;> simp_all [AObj.own, AObj.live]
  have hj : j < L.n := by
    rw [KH.at_] at h2
    split at h2
    · assumption
    · cases h2
  obtain ⟨i, o, e1, e2, e3, e4, e5⟩ := weak_live (hc j hj) h2 hl ρ W
  rw [e1] at h1
  have := (chkO_ok (W := W) hi e4 (hR.obj i p o h1 e3)).2 hl
  exact ⟨i, p, o, h1, e3, by rw [← this.1]; exact h3, h4⟩
theorem weak_rel {k : Wk} {T L : KH} (hc : ∀ j, j < L.n → chk1 k T L j = true) (hg : ∀ g, g < ng → chkI k L.n g = true) {ρ : Ren} (hi : Ins ρ k) {w : World} (hR : Rel ρ T.H w) (W : Nat) : Rel (ren2 ρ k L.n W) L.H w := by
  have lt : ∀ j p, ren2 ρ k L.n W j = some p → j < L.n := fun j p h => by
    unfold ren2 at h
    split at h
    · rename_i hb; exact Nat.le_of_ble_eq_true hb
    · cases h
  refine ⟨fun j p h => by rw [KH.len]; exact lt j p h, fun j p u h hu => ?_, fun j j' p p' u u' h h' hu hu' h1 h2 h3 => ?_, fun g hg' => ?_⟩
  · cases hl : u.live with
    | false => cases u <;> simp_all [AObj.live, OR]
    | true =>
      obtain ⟨i, o, e1, e2, e3, e4, e5⟩ := weak_live (hc j (lt j p h)) hu hl ρ W
      rw [e1] at h
      exact (chkO_ok hi e4 (hR.obj i p o h e3)).1
  · have hl : u.live = true := by cases u <;> simp_all [AObj.own, AObj.live]
    obtain ⟨i, o, e1, e2, e3, e4, e5⟩ := weak_live (hc j (lt j p h)) hu hl ρ W
    obtain ⟨i', o', e1', e2', e3', e4', e5'⟩ := weak_live (hc j' (lt j' p' h')) hu' h2 ρ W
    rw [e1] at h
    rw [e1'] at h'
    have k1 := (chkO_ok (W := W) hi e4 (hR.obj i p o h e3)).2 hl
    have k2 := (chkO_ok (W := W) hi e4' (hR.obj i' p' o' h' e3')).2 h2
    refine hR.sep i i' p p' o o' h h' e3 e3' (by rw [← k1.1]; exact h1) k2.2 fun e => ?_
    subst e
    rw [e5] at e5'
    exact h3 (Option.some.inj e5')
  · obtain ⟨p, h1, h2⟩ := hR.glob g hg'
    exact ⟨p, (chkB_ok (hg g hg')).trans h1, h2⟩
theorem restore_chk {k : Wk} {n : Nat} : ∀ (lv : List Nat) {vs vs0 : List Value}, eqL (chkV k n 9) vs vs0 = true → ∀ i u, restore lv vs0 i = some u → ∃ v, restore lv vs i = some v ∧ chkV k n 9 v u = true
  | [], vs, vs0, h, i, u, hu => by simp [restore] at hu
  | j :: lv, [], [], h, i, u, hu => by simp [restore] at hu
  | j :: lv, [], _ :: _, h, i, u, hu => by simp [eqL] at h
  | j :: lv, _ :: _, [], h, i, u, hu => by simp [eqL] at h
  | j :: lv, v :: vs, v0 :: vs0, h, i, u, hu => by
    simp only [eqL] at h
    split at h
    · rename_i h0
      simp only [restore] at hu ⊢
      by_cases e : i = j
      · subst e
        rw [upd_self] at hu ⊢
        obtain rfl := Option.some.inj hu
        exact ⟨v, rfl, h0⟩
      · rw [upd_ne _ _ e] at hu ⊢
        exact restore_chk lv h i u hu
    · cases h
section
variable {P : Program} {Γ : Fs} {Γk : KFs} {f : FuncId} {fn : Func} {cuts : Cuts} {c : FCode} {fr : Frs}
theorem Gl.weak_at {k : Wk} {fids : List Nat} {vs vs0 : List Value} {T L : KH} (h : weakB k fids vs vs0 T L = true) (hfr : ∀ x ∈ fr, x.1 ∈ fids) {td : List Item} {u : Value} (hG : Gl P f fn cuts fr td vs0 L.H u)
    {lv : List Nat} (hlv : cutOf cuts td = some lv) {b : Frame} {cs : List Frame} (hb : b.fn = f) (hk : b.kind = .normal) {ρ : Ren} {w : World} {a : Act} (hi : Ins ρ k) (hR : Rel ρ T.H w) (hf : FrOK fr ρ T.H w) (ht : TR ρ (restore lv vs) a.tmps) (hs : a.tmps.size = fn.ntmps) (hd : a.defers = []) :
    Reach P b.fn cs (lone (b.at a td) cs w) (PostL u ρ T.H w) := by
  unfold weakB at h
  rw [both2_iff, both2_iff, both2_iff] at h
  obtain ⟨h1, h2, h3, h4⟩ := h
  have h4 := chkAll_ok h4
  have hR2 := weak_rel h4 (chkAll_ok h2) hi hR w.heap.size
  have ho := weak_owns h4 hi hR (W := w.heap.size)
  have hf2 : FrOK fr (ren2 ρ k L.n w.heap.size) L.H w := hf.owns ho fun x hx => chkB_ok (List.all_eq_true.1 h3 x.1 (hfr x hx))
  have ht2 : TR (ren2 ρ k L.n w.heap.size) (restore lv vs0) a.tmps := by
    refine ⟨fun i u hu => ?_, hR2.glob⟩
    obtain ⟨v, hv, hc⟩ := restore_chk lv h1 i u hu
    exact chkV_ok hi 9 v u _ hc (ht.1 i v hv)
  exact (hG lv hlv b cs hb hk _ w a hR2 hf2 ht2 hs hd).mono fun _ _ hp => hp.owns ho
theorem Gl.weak {k : Wk} {fids : List Nat} {vs vs0 : List Value} {T L : KH} (hib : Nat.ble T.n k.ib = true) (h : weakB k fids vs vs0 T L = true) (hfr : ∀ x ∈ fr, x.1 ∈ fids) {td : List Item} {u : Value} (hG : Gl P f fn cuts fr td vs0 L.H u) : Gl P f fn cuts fr td vs T.H u :=
  fun lv hlv b cs hb hk ρ w a hR hf ht hs hd => hG.weak_at h hfr hlv hb hk (fun p hp => by
    have h1 := hR.dom _ _ hp
    have h2 := Nat.le_of_ble_eq_true hib
    rw [KH.len] at h1
    omega) hR hf ht hs hd
/-- A cell that bounds a whole number. -/
noncomputable def boundB (b j i : Nat) (lo hi : Int) (T : KH) : Bool := match kg T j with
  | some (.cells cs _ _) => (match nthR cs i with
    | some v => eqV 2 v (.func (.yield b) ⟨[.int .i64 1, .int .i64 0, .int .i64 0, .int .i64 lo, .int .i64 hi]⟩ ⟨[]⟩)
    | none => false)
  | _ => false
theorem boundB_ok {b j i : Nat} {lo hi : Int} {T : KH} (h : boundB b j i lo hi T = true) : ∃ cs esz own, T.H[j]? = some (.cells cs esz own) ∧ cs[i]? = some (.func (.yield b) ⟨[.int .i64 1, .int .i64 0, .int .i64 0, .int .i64 lo, .int .i64 hi]⟩ ⟨[]⟩) := by
  unfold boundB at h
  split at h
  · rename_i cs e o hk
    split at h
    · rename_i v hv
      rw [nthR_eq] at hv
      rw [eqV_ok _ _ _ h] at hv
      exact ⟨cs, e, o, (kg_at hk).1, hv⟩
    · cases h
  · cases h
/-! A block that surely has a place: from a live variable on, by cells. -/
noncomputable def chainB (T : KH) : List Nat → Nat → Option Nat
  | [], b => some b
  | i :: l, b => (match kg T b with
    | some (.cells cs _ _) => (match nthR cs i with
      | some (.pointer (some a)) => chainB T l a.block
      | some (.slice (some a) _ _) => chainB T l a.block
      | some (.map (some r)) => chainB T l r
      | _ => none)
    | some (.map es _ _) => (match nthR es i with
      | some (_, .pointer (some a)) => chainB T l a.block
      | _ => none)
    | _ => none)
theorem chainB_ok {T : KH} {ρ : Ren} {w : World} (hR : Rel ρ T.H w) : ∀ {l : List Nat} {b j : Nat}, chainB T l b = some j → (∃ p, ρ b = some p) → ∃ q, ρ j = some q
  | [], b, j, h, hp => by obtain rfl := Option.some.inj h; exact hp
  | i :: l, b, j, h, ⟨p, hp⟩ => by
    unfold chainB at h
    split at h
    · rename_i cs e o hk
      obtain ⟨c, el, fz, k1, k2, k3, k4, k5, k6⟩ := hR.obj b p _ hp (kg_at hk).1
      rw [nthR_eq] at h
      split at h
      · rename_i a ha
        obtain ⟨_, v', _, k8⟩ := k5 i _ ha
        obtain ⟨q, hq, _, _⟩ := k8.ptr_inv
        exact chainB_ok hR h ⟨q, hq⟩
      · rename_i a x y ha
        obtain ⟨_, v', _, k8⟩ := k5 i _ ha
        obtain ⟨q, _, _, hq, _⟩ := k8.slice_inv
        exact chainB_ok hR h ⟨q, hq⟩
      · rename_i r ha
        obtain ⟨_, v', _, k8⟩ := k5 i _ ha
        obtain ⟨q, hq, _⟩ := k8.map_inv
        exact chainB_ok hR h ⟨q, hq⟩
      · cases h
    · rename_i es bs ck hk
      obtain ⟨l', k1, k2, k3, _⟩ := hR.obj b p _ hp (kg_at hk).1
      rw [nthR_eq] at h
      split at h
      · rename_i x a ha
        have hi : i < l'.size := by rw [← k2]; exact (List.getElem?_eq_some_iff.1 ha).1
        obtain ⟨_, k8⟩ := k3 i x (.pointer (some a)) l'[i] ha (by simp [hi])
        obtain ⟨q, hq, _, _⟩ := k8.ptr_inv
        exact chainB_ok hR h ⟨q, hq⟩
      · cases h
    · cases h
noncomputable def liveB (c : FCode) (key i : Nat) (vs : List Value) (l : List Nat) (j : Nat) (T : KH) : Bool := match cutOf c.cuts (c.td key) with
  | some lv => (match restore lv vs i with
    | some (.pointer (some a)) => (match chainB T l a.block with | some j' => eqN j' j | none => false)
    | _ => false)
  | none => true
theorem liveB_ok {c : FCode} {key i : Nat} {vs : List Value} {l : List Nat} {j : Nat} {T : KH} (h : liveB c key i vs l j T = true) : ∀ lv, cutOf c.cuts (c.td key) = some lv → ∀ ρ w (a : Act), Rel ρ T.H w → TR ρ (restore lv vs) a.tmps → ∃ p, ρ j = some p := by
  intro lv hlv ρ w a hR ht
  unfold liveB at h
  rw [hlv] at h
  simp only [] at h
  split at h
  · rename_i x hx
    split at h
    · rename_i j' hj
      obtain ⟨q, hq, _, _⟩ := (ht.1 i _ hx).ptr_inv
      rw [← eqN_ok _ _ h]
      exact chainB_ok hR hj ⟨q, hq⟩
    · cases h
  · cases h
/-- A whole number that is bounded is one of those. -/
theorem Gl.inst {b j i : Nat} {lo hi : Int} {vs : List Value} {T : KH} {fids : List Nat} (hB : boundB b j i lo hi T = true) (hfr : ∀ x ∈ fr, x.1 ∈ fids) {td : List Item} {u : Value}
    (hlive : ∀ lv, cutOf cuts td = some lv → ∀ ρ w (a : Act), Rel ρ T.H w → TR ρ (restore lv vs) a.tmps → ∃ p, ρ j = some p)
    (h : ∀ n : Int, lo ≤ n → n ≤ hi → ∃ k vs0 L, k.ib = b ∧ k.iv = n ∧ weakB k fids vs vs0 T L = true ∧ Gl P f fn cuts fr td vs0 L.H u) : Gl P f fn cuts fr td vs T.H u := by
  intro lv hlv b' cs' hb hk ρ w a hR hf ht hs hd
  obtain ⟨cs, esz, own, h1, h2⟩ := boundB_ok hB
  obtain ⟨p, hp⟩ := hlive lv hlv ρ w a hR ht
  obtain ⟨c, el, fz, k1, k2, k3, k4, k5, k6⟩ := hR.obj j p _ hp h1
  obtain ⟨_, v', k7, k8⟩ := k5 i _ h2
  cases k8 with
  | sym _ _ _ _ _ _ n hn =>
    obtain ⟨n1, n2, t, q, n3, n4⟩ := hn
    obtain ⟨q', e1, e2⟩ := n3.resolve_left (by simp)
    have e3 : n = t := by simp only [] at n4; omega
    obtain ⟨k, vs0, L, g1, g2, g3, g4⟩ := h n n1 n2
    refine g4.weak_at g3 hfr hlv hb hk (fun p' hp' => ?_) hR hf ht hs hd
    rw [g1] at hp'
    simp only [] at e1
    rw [hp'] at e1
    obtain rfl := Option.some.inj e1
    rw [g2, e3, e2]
/-- Runs of the kernel that come to places which are told more weakly. -/
noncomputable def stopWk (key0 : Nat) (vs0 : List Value) (L : KH) (k : Wk) (fids : List Nat) (key : Nat) (vs : List Value) (T : KH) : Bool := match Nat.beq key key0, Nat.ble T.n k.ib with | true, true => weakB k fids vs vs0 T L | _, _ => false
theorem hstopWk {key0 : Nat} {vs0 : List Value} {L : KH} {k : Wk} {fids : List Nat} (hfr : ∀ x ∈ fr, x.1 ∈ fids) {u : Value} (hG : Gl P f fn c.cuts fr (c.td key0) vs0 L.H u) : ∀ key vs T, stopWk key0 vs0 L k fids key vs T = true → Gl P f fn c.cuts fr (c.td key) vs T.H u := by
  intro key vs T h
  unfold stopWk at h
  split at h
  · rename_i e e2
    obtain rfl := Nat.eq_of_beq_eq_true e
    exact hG.weak e2 h hfr
  · cases h
theorem karr_soundL (hA : ∀ f F, Γ f = some F → Sound P f F) (hΓ : ∀ f args T v T', Γk f args T = some (v, T') → ∃ F, Γ f = some F ∧ F args T.H = some (v, T'.H)) (hf : P.funcs[f]? = some fn)
    (hC : ∀ (J : List Item → List Value → Heap → R) (key : Nat) (vs : List Value) (H : Heap) (r : Value × Heap), (c.C key vs).run P Γ (fun key vs H => J (c.td key) vs H) H = some r → runJ P Γ fn c.cuts J (c.td key) vs H = some r)
    {stop : Nat → List Value → KH → Bool} {u : Value} (hstop : ∀ key vs T, stop key vs T = true → Gl P f fn c.cuts fr (c.td key) vs T.H u) :
    ∀ (s : Nat) (x : M) (T : KH), marked (karr P Γk c stop s x T) = true → x.run P Γ (fun key vs H => Jl P f fn c.cuts fr u (mk0, []) (c.td key) vs H) T.H = some (mk0, [])
  | 0, x, T, h => by
    obtain ⟨T', h1, h2⟩ := marked_ok h
    refine h2 ▸ runK_sound hΓ (J := fun key vs H => Jl P f fn c.cuts fr u (mk0, []) (c.td key) vs H) (Jk := fun key vs T => mark (stop key vs T)) (fun key vs T v T' h => ?_) x T h1
    obtain ⟨h3, rfl, h4⟩ := mark_ok h
    rw [h4]; exact Jl.of (hstop key vs T h3)
  | s + 1, x, T, h => by
    obtain ⟨T', h1, h2⟩ := marked_ok h
    refine h2 ▸ runK_sound hΓ (J := fun key vs H => Jl P f fn c.cuts fr u (mk0, []) (c.td key) vs H) (Jk := fun key vs T => match stop key vs T with | true => mark true | false => mark (marked (karr P Γk c stop s (c.C key vs) T))) (fun key vs T v T' h => ?_) x T h1
    split at h
    · rename_i hs
      obtain ⟨_, rfl, h4⟩ := mark_ok h
      rw [h4]; exact Jl.of (hstop key vs T hs)
    · obtain ⟨h3, rfl, h4⟩ := mark_ok h
      rw [h4]; exact Jl.of (Gl.of_run hA hf (.inl mk0_no) (hC _ key vs T.H _ (karr_soundL hA hΓ hf hC hstop s _ T h3)))
end
section
variable {P : Program} {E : Tr Ent} {s m : Nat} {f : Nat} {c : FCode} {fn : Func} {fr : Frs}
/-- From one place to another one. -/
theorem Gl.go (hE : TrOk P E) (hc : Code P f c fn) {key : Nat} {vs : List Value} {T : KH} {stop : Nat → List Value → KH → Bool} (h : marked (karr P (kcall P E s m) c stop s (c.C key vs) T) = true)
    {u : Value} (hstop : ∀ key vs T, stop key vs T = true → Gl P f fn c.cuts fr (c.td key) vs T.H u) : Gl P f fn c.cuts fr (c.td key) vs T.H u :=
  Gl.of_run (FLs_all hE) hc.hf (.inl mk0_no) (hc.hC _ _ key vs T.H _ (karr_soundL (FLs_all hE) (FLs_call hE) hc.hf (hc.hC _) hstop s _ T h))
/-- From the beginning to a place. -/
theorem Gc.go (hE : TrOk P E) (hc : Code P f c fn) {args : List Value} {T : KH} {stop : Nat → List Value → KH → Bool} (h : marked (karr P (kcall P E s m) c stop s (c.X args) T) = true)
    {u : Value} (hstop : ∀ key vs T, stop key vs T = true → Gl P f fn c.cuts fr (c.td key) vs T.H u) : Gc P f fr args T.H u := by
  obtain ⟨h1, h2⟩ := hc.hX _ _ args T.H _ (karr_soundL (FLs_all hE) (FLs_call hE) hc.hf (hc.hC _) hstop s _ T h)
  exact Gc.of_run (FLs_all hE) hc.hf (.inl mk0_no) h1 h2
/-- From a place to the end: to a plain value. -/
noncomputable def kis (r : KR) (u : Value) : Bool := match r with | some (v, _) => eqV 1 v u | none => false
theorem Gl.ends (hE : TrOk P E) (hc : Code P f c fn) {key : Nat} {vs : List Value} {T : KH} {u : Value} (hu : plain1 u = true) (h : kis (kdrv P (kcall P E s m) c s (c.C key vs) T) u = true) : Gl P f fn c.cuts fr (c.td key) vs T.H u := by
  unfold kis at h
  split at h
  · rename_i v T' e
    have hv := eqV_ok _ _ _ h
    subst hv
    have hG := Gd.ends hE hc (vs := vs) e
    exact fun lv hlv b cs hb hk ρ w a hR _ ht hs hd => (hG lv hlv b cs hb hk ρ w a hR ht hs hd).mono fun v' w' hp => PostL.of_post hu hp
  · cases h
/-- A place, or the beginning, told by the text itself: to a mark, or to the value. -/
theorem Gl.of_text (hE : TrOk P E) (hc : Code P f c fn) {key : Nat} {vs : List Value} {H : Heap} {u : Value} (h : (c.C key vs).run P (FLs P E m) (fun key vs H => Jl P f fn c.cuts fr u (mk0, []) (c.td key) vs H) H = some (mk0, [])) : Gl P f fn c.cuts fr (c.td key) vs H u :=
  Gl.of_run (FLs_all hE) hc.hf (.inl mk0_no) (hc.hC _ _ key vs H _ h)
theorem Gc.of_text (hE : TrOk P E) (hc : Code P f c fn) {args : List Value} {H : Heap} {u : Value} (h : (c.X args).run P (FLs P E m) (fun key vs H => Jl P f fn c.cuts fr u (mk0, []) (c.td key) vs H) H = some (mk0, [])) : Gc P f fr args H u := by
  obtain ⟨h1, h2⟩ := hc.hX _ _ args H _ h
  exact Gc.of_run (FLs_all hE) hc.hf (.inl mk0_no) h1 h2
theorem Gl.of_end (hE : TrOk P E) (hc : Code P f c fn) {key : Nat} {vs : List Value} {H H' : Heap} {u : Value} (hu : plain1 u = true) (h : (c.C key vs).run P (FLs P E m) (fun key vs H => Jl P f fn c.cuts fr u (u, H') (c.td key) vs H) H = some (u, H')) : Gl P f fn c.cuts fr (c.td key) vs H u :=
  Gl.of_run (u := u) (x := (u, H')) (FLs_all hE) hc.hf (.inr ⟨rfl, hu⟩) (hc.hC _ _ key vs H _ h)
end

/-! ### A whole number that a call brings stands for itself -/
noncomputable def symF (F : List Value → Heap → R) : List Value → Heap → R := fun args H => match F args H with
  | some (v, H') => (match isS v, siOf v with | true, some s => some (.func (.yield H'.length) ⟨[.int .i64 1, .int .i64 0, .int .i64 0, .int .i64 s.lo, .int .i64 s.hi]⟩ ⟨[]⟩, H' ++ [.dead]) | _, _ => some (v, H'))
  | none => none
theorem Rel.sym_new {ρ : Ren} {H : Heap} {w : World} (hR : Rel ρ H w) (n : Int) : ∃ ρ2, Rel ρ2 (H ++ [.dead]) w ∧ Ext ρ H w ρ2 (H ++ [.dead]) w ∧ Le ρ ρ2 ∧ ∃ p, ρ2 H.length = some p ∧ pv p = n := by
  have hn := hR.fresh
  have hle := Ren.ins_le (p := plI w.heap.size n) hn
  have hlt : ∀ c p, ρ c = some p → c < H.length := hR.dom
  have old : ∀ c q, (ρ.ins H.length (plI w.heap.size n)) c = some q → c ≠ H.length → ρ c = some q := fun c q h hne => by
    unfold Ren.ins at h; rw [if_neg hne] at h; exact h
  have hP := hR.push [.dead]
  have hdead : (H ++ [AObj.dead])[H.length]? = some .dead := by simp
  refine ⟨ρ.ins H.length (plI w.heap.size n), ⟨fun c q h => ?_, fun c q o h ho => ?_, fun c c' q q' o o' h h' ho ho' h1 h2 h3 => ?_, hR.glob.mono hle⟩, ⟨hle, by simp, fun c q h h' => ?_, fun _ _ _ => rfl, fun c q h h' => ?_, fun c q o h ho hw => ?_, Nat.le_refl _, rfl, rfl, rfl⟩, hle, _, Ren.ins_self _ _ _, pv_plI _ _⟩
  · by_cases e : c = H.length
    · subst e; simp
    · have := hlt c q (old c q h e); simp; omega
  · by_cases e : c = H.length
    · subst e; rw [hdead] at ho; obtain rfl := Option.some.inj ho; exact trivial
    · exact (hP.obj c q o (old c q h e) ho).mono hle
  · have e : c ≠ H.length := fun e => by subst e; rw [hdead] at ho; obtain rfl := Option.some.inj ho; cases h1
    have e' : c' ≠ H.length := fun e => by subst e; rw [hdead] at ho'; obtain rfl := Option.some.inj ho'; cases h2
    exact hP.sep c c' q q' o o' (old c q h e) (old c' q' h' e') ho ho' h1 h2 h3
  · by_cases e : c = H.length
    · subst e; exact Nat.le_refl _
    · rw [old c q h e] at h'; cases h'
  · by_cases e : c = H.length
    · subst e; rw [Ren.ins_self] at h; obtain rfl := Option.some.inj h; exact .inl (Nat.le_refl _)
    · rw [old c q h e] at h'; cases h'
  · exact ⟨o, by rw [List.getElem?_append_left (hlt c q h)] at ho; exact ho, hw⟩
theorem symF_sound {P : Program} {f : FuncId} {F : List Value → Heap → R} (h : Sound P f F) : Sound P f (symF F) := by
  have key : ∀ args H v H', symF F args H = some (v, H') → ∃ v0 H0, F args H = some (v0, H0) ∧ ∀ ρ w ρ' w' v', Rel ρ' H0 w' → Ext ρ H w ρ' H0 w' → VR ρ' v0 v' → ∃ ρ2, Rel ρ2 H' w' ∧ Ext ρ H w ρ2 H' w' ∧ VR ρ2 v v' := by
    intro args H v H' hF
    unfold symF at hF
    split at hF
    · rename_i v0 H0 h0
      refine ⟨v0, H0, h0, fun ρ w ρ' w' v' hR hE hv => ?_⟩
      split at hF
      · rename_i s hs1 hs2
        obtain ⟨n, rfl, hn⟩ := siOf_VR hs2 hv
        obtain ⟨rfl, rfl⟩ := Prod.mk.inj (Option.some.inj hF)
        obtain ⟨ρ2, h1, h2, h3, p, h4, h5⟩ := hR.sym_new n
        exact ⟨ρ2, h1, hE.trans h2 hR.dom, .sym _ _ _ _ _ _ _ ⟨hn.1, hn.2.1, n, 0, .inr ⟨p, h4, h5⟩, by simp⟩⟩
      · obtain ⟨rfl, rfl⟩ := Prod.mk.inj (Option.some.inj hF)
        exact ⟨ρ', hR, hE, hv⟩
    · cases hF
  rcases h with h | h
  · refine .inl ⟨h.enters, fun args H v H' hF ρ w args' hR hv => ?_⟩
    obtain ⟨v0, H0, h0, hk⟩ := key args H v H' hF
    refine Calls.mono' (h.calls args H v0 H0 h0 ρ w args' hR hv) ?_
    rintro e w' ⟨v', ρ', rfl, h1, h2, h3⟩
    obtain ⟨ρ2, a, b, c⟩ := hk ρ w ρ' w' v' h1 h2 h3
    exact ⟨v', ρ2, rfl, a, b, c⟩
  · refine .inr fun args H v H' hF ρ w args' hR hv => ?_
    obtain ⟨v0, H0, h0, hk⟩ := key args H v H' hF
    obtain ⟨v', ρ', w', h1, h2, h3, h4⟩ := h args H v0 H0 h0 ρ w args' hR hv
    obtain ⟨ρ2, a, b, c⟩ := hk ρ w ρ' w' v' h2 h3 h4
    exact ⟨v', ρ2, w', h1, a, b, c⟩
end Go.Proofs.YtgnkjpbecgpjoaaGreatDoor.Fw
set_option linter.unusedVariables false
set_option linter.unusedSimpArgs false
namespace Go.Proofs.YtgnkjpbecgpjoaaGreatDoor.Fw
open Go Go.RowKit

/-- At a place: the first variable is handed on to what is not looked into, if the others fit. -/
noncomputable def finV (stop : Nat → List Value → KH → Bool) (Jv : Value → KR) (key : Nat) (vs : List Value) (T : KH) : KR := match vs with
  | [] => none
  | s :: vs' => (match stop key vs' T with | true => Jv s | false => none)
noncomputable def karrV (P : Program) (Γ : KFs) (stop : Nat → List Value → KH → Bool) (Jv : Value → KR) (x : M) (T : KH) : KR := x.runK P Γ (fun key vs T => finV stop Jv key vs T) T
section
variable {P : Program} {Γ : Fs} {Γk : KFs} {f : FuncId} {fn : Func} {cuts : Cuts} {c : FCode} {fr : Frs}
open Classical in
noncomputable def Jv0 (s0 s : Value) : KR := if s = s0 then some (mk0, ⟨0, .e⟩) else none
theorem Jv0_self (s0 : Value) : Jv0 s0 s0 = some (mk0, ⟨0, .e⟩) := by unfold Jv0; rw [if_pos rfl]
theorem Jv0_ok {s0 s v : Value} {T : KH} (h : Jv0 s0 s = some (v, T)) : s = s0 ∧ v = mk0 ∧ T.H = [] := by
  unfold Jv0 at h
  split at h
  · rename_i e
    obtain ⟨rfl, rfl⟩ := Prod.mk.inj (Option.some.inj h)
    exact ⟨e, rfl, rfl⟩
  · cases h
theorem karrV_sound (hΓ : ∀ f args T v T', Γk f args T = some (v, T') → ∃ F, Γ f = some F ∧ F args T.H = some (v, T'.H))
    {stop : Nat → List Value → KH → Bool} {s0 u : Value} (hstop : ∀ key vs T, stop key vs T = true → Gl P f fn c.cuts fr (c.td key) (s0 :: vs) T.H u)
    (x : M) (T : KH) (h : ∀ Jv : Value → KR, karrV P Γk stop Jv x T = Jv s0) : x.run P Γ (fun key vs H => Jl P f fn c.cuts fr u (mk0, []) (c.td key) vs H) T.H = some (mk0, []) := by
  have h := (h (Jv0 s0)).trans (Jv0_self s0)
  exact runK_sound hΓ (J := fun key vs H => Jl P f fn c.cuts fr u (mk0, []) (c.td key) vs H) (Jk := fun key vs T => finV stop (Jv0 s0) key vs T) (fun key vs T v T' h => by
    unfold finV at h
    split at h
    · cases h
    · split at h
      · rename_i hs
        obtain ⟨rfl, rfl, h4⟩ := Jv0_ok h
        rw [h4]; exact Jl.of (hstop key _ T hs)
      · cases h) x T h
/-- A state, and one that tells no more: all but the first variable. -/
theorem Gl.weak_atV {k : Wk} {fids : List Nat} {b0 l0 c0 : Nat} (hb0 : b0 ∈ fids) {vs vs0 : List Value} {T L : KH} (h : weakB k fids vs vs0 T L = true) (hfr : ∀ x ∈ fr, x.1 ∈ fids) {td : List Item} {u : Value}
    (hG : Gl P f fn cuts fr td (.slice (some ⟨b0, 0, none⟩) l0 c0 :: vs0) L.H u)
    {lv : List Nat} (hlv : cutOf cuts td = some lv) {b : Frame} {cs : List Frame} (hb : b.fn = f) (hk : b.kind = .normal) {ρ : Ren} {w : World} {a : Act} (hi : Ins ρ k) (hR : Rel ρ T.H w) (hf : FrOK fr ρ T.H w)
    (ht : TR ρ (restore lv (.slice (some ⟨b0, 0, none⟩) l0 c0 :: vs)) a.tmps) (hs : a.tmps.size = fn.ntmps) (hd : a.defers = []) :
    Reach P b.fn cs (lone (b.at a td) cs w) (PostL u ρ T.H w) := by
  unfold weakB at h
  rw [both2_iff, both2_iff, both2_iff] at h
  obtain ⟨h1, h2, h3, h4⟩ := h
  have h4 := chkAll_ok h4
  have hR2 := weak_rel h4 (chkAll_ok h2) hi hR w.heap.size
  have ho := weak_owns h4 hi hR (W := w.heap.size)
  have hf2 : FrOK fr (ren2 ρ k L.n w.heap.size) L.H w := hf.owns ho fun x hx => chkB_ok (List.all_eq_true.1 h3 x.1 (hfr x hx))
  have e0 : ren2 ρ k L.n w.heap.size b0 = ρ b0 := chkB_ok (List.all_eq_true.1 h3 b0 hb0)
  have ht2 : TR (ren2 ρ k L.n w.heap.size) (restore lv (.slice (some ⟨b0, 0, none⟩) l0 c0 :: vs0)) a.tmps := by
    refine ⟨fun i u hu => ?_, hR2.glob⟩
    cases lv with
    | nil => simp [restore] at hu
    | cons j lv =>
      simp only [restore] at hu
      by_cases e : i = j
      · subst e
        rw [upd_self] at hu
        obtain rfl := Option.some.inj hu
        have hv := ht.1 i (.slice (some ⟨b0, 0, none⟩) l0 c0) (by simp only [restore]; rw [upd_self])
        obtain ⟨p, a', cap', hp, hs', e1, hc, hl, ha⟩ := hv.slice_inv
        rw [e1]
        exact .slice _ _ _ _ _ _ _ (e0.trans hp) hc hl ha
      · rw [upd_ne _ _ e] at hu
        obtain ⟨v, hv, hc⟩ := restore_chk lv h1 i u hu
        exact chkV_ok hi 9 v u _ hc (ht.1 i v (by simp only [restore]; rw [upd_ne _ _ e]; exact hv))
  exact (hG lv hlv b cs hb hk _ w a hR2 hf2 ht2 hs hd).mono fun _ _ hp => hp.owns ho
theorem Gl.weakV {k : Wk} {fids : List Nat} {b0 l0 c0 : Nat} (hb0 : b0 ∈ fids) {vs vs0 : List Value} {T L : KH} (hib : Nat.ble T.n k.ib = true) (h : weakB k fids vs vs0 T L = true) (hfr : ∀ x ∈ fr, x.1 ∈ fids) {td : List Item} {u : Value}
    (hG : Gl P f fn cuts fr td (.slice (some ⟨b0, 0, none⟩) l0 c0 :: vs0) L.H u) : Gl P f fn cuts fr td (.slice (some ⟨b0, 0, none⟩) l0 c0 :: vs) T.H u :=
  fun lv hlv b cs hb hk ρ w a hR hf ht hs hd => hG.weak_atV hb0 h hfr hlv hb hk (fun p hp => by
    have h1 := hR.dom _ _ hp
    have h2 := Nat.le_of_ble_eq_true hib
    rw [KH.len] at h1
    omega) hR hf ht hs hd
/-- A whole number that is bounded is one of those. -/
theorem Gl.instV {b j i : Nat} {lo hi : Int} {b0 l0 c0 : Nat} {vs : List Value} {T : KH} {fids : List Nat} (hb0 : b0 ∈ fids) (hB : boundB b j i lo hi T = true) (hfr : ∀ x ∈ fr, x.1 ∈ fids) {td : List Item} {u : Value}
    (hlive : ∀ lv, cutOf cuts td = some lv → ∀ ρ w (a : Act), Rel ρ T.H w → TR ρ (restore lv (.slice (some ⟨b0, 0, none⟩) l0 c0 :: vs)) a.tmps → ∃ p, ρ j = some p)
    (h : ∀ n : Int, lo ≤ n → n ≤ hi → ∃ k vs0 L, k.ib = b ∧ k.iv = n ∧ weakB k fids vs vs0 T L = true ∧ Gl P f fn cuts fr td (.slice (some ⟨b0, 0, none⟩) l0 c0 :: vs0) L.H u) : Gl P f fn cuts fr td (.slice (some ⟨b0, 0, none⟩) l0 c0 :: vs) T.H u := by
  intro lv hlv b' cs' hb hk ρ w a hR hf ht hs hd
  obtain ⟨cs, esz, own, h1, h2⟩ := boundB_ok hB
  obtain ⟨p, hp⟩ := hlive lv hlv ρ w a hR ht
  obtain ⟨c, el, fz, k1, k2, k3, k4, k5, k6⟩ := hR.obj j p _ hp h1
  obtain ⟨_, v', k7, k8⟩ := k5 i _ h2
  cases k8 with
  | sym _ _ _ _ _ _ n hn =>
    obtain ⟨n1, n2, t, q, n3, n4⟩ := hn
    obtain ⟨q', e1, e2⟩ := n3.resolve_left (by simp)
    have e3 : n = t := by simp only [] at n4; omega
    obtain ⟨k, vs0, L, g1, g2, g3, g4⟩ := h n n1 n2
    refine g4.weak_atV hb0 g3 hfr hlv hb hk (fun p' hp' => ?_) hR hf ht hs hd
    rw [g1] at hp'
    simp only [] at e1
    rw [hp'] at e1
    obtain rfl := Option.some.inj e1
    rw [g2, e3, e2]
theorem hstopWkV {key0 : Nat} {vs0 : List Value} {L : KH} {k : Wk} {fids : List Nat} {b0 l0 c0 : Nat} (hb0 : b0 ∈ fids) (hfr : ∀ x ∈ fr, x.1 ∈ fids) {u : Value} (hG : Gl P f fn c.cuts fr (c.td key0) (.slice (some ⟨b0, 0, none⟩) l0 c0 :: vs0) L.H u) :
    ∀ key vs T, stopWk key0 vs0 L k fids key vs T = true → Gl P f fn c.cuts fr (c.td key) (.slice (some ⟨b0, 0, none⟩) l0 c0 :: vs) T.H u := by
  intro key vs T h
  unfold stopWk at h
  split at h
  · rename_i e e2
    obtain rfl := Nat.eq_of_beq_eq_true e
    exact hG.weakV hb0 e2 h hfr
  · cases h
end
section
variable {P : Program} {E : Tr Ent} {s m : Nat} {f : Nat} {c : FCode} {fn : Func} {fr : Frs}
/-- From one place to the next one. -/
theorem Gl.goV (hE : TrOk P E) (hc : Code P f c fn) {key : Nat} {s0 : Value} {vs : List Value} {T : KH} {stop : Nat → List Value → KH → Bool} (h : ∀ Jv : Value → KR, karrV P (kcall P E s m) stop Jv (c.C key (s0 :: vs)) T = Jv s0)
    {u : Value} (hstop : ∀ key vs T, stop key vs T = true → Gl P f fn c.cuts fr (c.td key) (s0 :: vs) T.H u) : Gl P f fn c.cuts fr (c.td key) (s0 :: vs) T.H u :=
  Gl.of_run (FLs_all hE) hc.hf (.inl mk0_no) (hc.hC _ _ key (s0 :: vs) T.H _ (karrV_sound (FLs_call hE) hstop _ T h))
/-- From the beginning to a place. -/
theorem Gc.goV (hE : TrOk P E) (hc : Code P f c fn) {s0 : Value} {args : List Value} {T : KH} {stop : Nat → List Value → KH → Bool} (h : ∀ Jv : Value → KR, karrV P (kcall P E s m) stop Jv (c.X args) T = Jv s0)
    {u : Value} (hstop : ∀ key vs T, stop key vs T = true → Gl P f fn c.cuts fr (c.td key) (s0 :: vs) T.H u) : Gc P f fr args T.H u := by
  obtain ⟨h1, h2⟩ := hc.hX _ _ args T.H _ (karrV_sound (FLs_call hE) hstop _ T h)
  exact Gc.of_run (FLs_all hE) hc.hf (.inl mk0_no) h1 h2
end
end Go.Proofs.YtgnkjpbecgpjoaaGreatDoor.Fw
