/- FRAMEWORK 36: runs in parts: what is known at a place of a function, blocks that are let go, and the kernel's runs from one place to another one. Conditions: none. FRAMEWORK 37: a function by what is known of its calls. Conditions: none. -/
import Derived.Test.YtgnkjpbecgpjoaaGreatDoorFwZ
set_option linter.unusedVariables false
set_option linter.unusedSimpArgs false
namespace Go.Proofs.YtgnkjpbecgpjoaaGreatDoor.Fw
open Go Go.RowKit

/-! ### Blocks that are let go -/
/-! ### What is known at a place, and of a call -/
section
variable {P : Program} {Γ : Fs} {f : FuncId} {fn : Func} {cuts : Cuts}
/-- From a place of a function on it comes to that. -/
def Gd (P : Program) (f : FuncId) (fn : Func) (cuts : Cuts) (td : List Item) (vs : List Value) (H : Heap) (v : Value) (H' : Heap) : Prop :=
  ∀ lv, cutOf cuts td = some lv → ∀ (b : Frame) (cs : List Frame), b.fn = f → b.kind = .normal → ∀ ρ w a, Rel ρ H w → TR ρ (restore lv vs) a.tmps → a.tmps.size = fn.ntmps → a.defers = [] →
    Reach P b.fn cs (lone (b.at a td) cs w) (Post ρ H w v H')
/-- A call comes to that. -/
def Gf (P : Program) (f : FuncId) (args : List Value) (H : Heap) (v : Value) (H' : Heap) : Prop :=
  ∀ ρ w args', Rel ρ H w → VL ρ args args' → Calls P f args'.toArray w fun e w' => ∃ v', e = .returned v' ∧ Post ρ H w v H' v' w'
theorem Gd.kill_l {td : List Item} {vs : List Value} {H H2 : Heap} {v : Value} {H' : Heap} (h : Gd P f fn cuts td vs H2 v H') (k : Kill H H2) : Gd P f fn cuts td vs H v H' :=
  fun lv hl b cs hb hk ρ w a hR ht hs hd => (h lv hl b cs hb hk ρ w a (hR.dies k) ht hs hd).mono fun _ _ hp => hp.kill_l k
theorem Gd.kill_r {td : List Item} {vs : List Value} {H H2 : Heap} {v : Value} {H' : Heap} (h : Gd P f fn cuts td vs H v H') (k : Kill H' H2) : Gd P f fn cuts td vs H v H2 :=
  fun lv hl b cs hb hk ρ w a hR ht hs hd => (h lv hl b cs hb hk ρ w a hR ht hs hd).mono fun _ _ hp => hp.kill_r k
theorem Gf.kill_l {args : List Value} {H H2 : Heap} {v : Value} {H' : Heap} (h : Gf P f args H2 v H') (k : Kill H H2) : Gf P f args H v H' :=
  fun ρ w args' hR hv => Calls.mono' (h ρ w args' (hR.dies k) hv) fun _ _ ⟨v', e, hp⟩ => ⟨v', e, hp.kill_l k⟩
theorem Gf.kill_r {args : List Value} {H H2 : Heap} {v : Value} {H' : Heap} (h : Gf P f args H v H') (k : Kill H' H2) : Gf P f args H v H2 :=
  fun ρ w args' hR hv => Calls.mono' (h ρ w args' hR hv) fun _ _ ⟨v', e, hp⟩ => ⟨v', e, hp.kill_r k⟩
theorem Sound.of_Gf (hf : P.funcs[f]? = some fn) (hnm : (fn.name == "runtime.NumGoroutine") = false) (hbd : fn.body.isNone = false) {F : List Value → Heap → R}
    (h : ∀ args H v H', F args H = some (v, H') → Gf P f args H v H') : Sound P f F := by
  refine .inl ⟨fun args w => ?_, fun args H v H' hF ρ w args' hR hv => ?_⟩
  · have hn' : ¬ fn.name = "runtime.NumGoroutine" := by simpa using hnm
    have hb' : ¬ fn.body = none := by intro e; rw [e] at hbd; cases hbd
    simp [callFunc, hf, hn', hb']
  · exact Calls.mono' (h _ _ _ _ hF ρ w args' hR hv) fun _ _ ⟨v', e, ρ', a, b, c⟩ => ⟨v', ρ', e, a, b, c⟩

/-- Either of two outcomes. -/
def PostW (v0 : Value) (H0 : Heap) (ρ : Ren) (H : Heap) (w : World) (v : Value) (H' : Heap) (v' : Value) (w' : World) : Prop := Post ρ H w v H' v' w' ∨ Post ρ H w v0 H0 v' w'
theorem PostW.pol {v0 : Value} {H0 : Heap} : Pol (PostW v0 H0) := ⟨fun h hd k => k.imp (Post.pol.1 h hd) (Post.pol.1 h hd), fun hR hv => .inl (Post.pol.2.1 hR hv), fun k h => h.imp (Post.pol.2.2 k) id⟩
open Classical in
/-- A mark at the places from which it comes to that. -/
noncomputable def Jm (P : Program) (f : FuncId) (fn : Func) (cuts : Cuts) (v0 : Value) (H0 : Heap) (x : Value × Heap) (td : List Item) (vs : List Value) (H : Heap) : R :=
  if Gd P f fn cuts td vs H v0 H0 then some x else none
theorem Jm.of {v0 : Value} {H0 : Heap} {x : Value × Heap} {td : List Item} {vs : List Value} {H : Heap} (h : Gd P f fn cuts td vs H v0 H0) : Jm P f fn cuts v0 H0 x td vs H = some x := by unfold Jm; rw [if_pos h]
theorem Jm.ok {v0 : Value} {H0 : Heap} {x : Value × Heap} {b : Frame} {cs : List Frame} (hb : b.fn = f) (hk : b.kind = .normal) : JOkP P b cs fn cuts (PostW v0 H0) (Jm P f fn cuts v0 H0 x) := by
  intro td vs H v H' lv h hlv ρ w a hR ht hs hd
  unfold Jm at h
  split at h
  · rename_i hG
    exact (hG lv hlv b cs hb hk ρ w a hR ht hs hd).mono fun v' w' hp => .inr hp
  · cases h
theorem Gd.of_run (hΓ : ∀ f F, Γ f = some F → Sound P f F) (hf : P.funcs[f]? = some fn) {v0 : Value} {H0 : Heap} {x : Value × Heap} (hx : ∀ ρ v', ¬ VR ρ x.1 v') {td : List Item} {vs : List Value} {H : Heap}
    (h : runJ P Γ fn cuts (Jm P f fn cuts v0 H0 x) td vs H = some x) : Gd P f fn cuts td vs H v0 H0 := by
  intro lv hlv b cs hb hk ρ w a hR ht hs hd
  obtain ⟨xv, xH⟩ := x
  simp only [runJ, hlv, onSome] at h
  refine (exec_soundP (PostW.pol (v0 := v0) (H0 := H0)) hΓ (b := b) (cs := cs) (by rw [hb]; exact hf) hk (Jm.ok hb hk) _ _ _ _ _ _ h ρ w a hR ht hs hd).mono fun v' w' hp => ?_
  rcases hp with ⟨ρ', _, _, hv⟩ | hp
  · exact (hx _ _ hv).elim
  · exact hp
theorem Gd.of_fin (hΓ : ∀ f F, Γ f = some F → Sound P f F) (hf : P.funcs[f]? = some fn) {m : Nat} {td : List Item} {vs : List Value} {H : Heap} {v : Value} {H' : Heap} (h : run P Γ fn cuts m td vs H = some (v, H')) : Gd P f fn cuts td vs H v H' :=
  fun lv hlv b cs hb hk ρ w a hR ht hs hd => run_sound hΓ (b := b) (by rw [hb]; exact hf) hk m _ _ _ _ _ lv h hlv ρ w a hR ht hs hd
theorem Gf.of_run (hΓ : ∀ f F, Γ f = some F → Sound P f F) (hf : P.funcs[f]? = some fn) {v0 : Value} {H0 : Heap} {x : Value × Heap} (hx : ∀ ρ v', ¬ VR ρ x.1 v') {args : List Value} {H : Heap}
    (h : fnJ P Γ fn cuts (Jm P f fn cuts v0 H0 x) args H = some x) (hsz : args.length ≤ fn.ntmps) : Gf P f args H v0 H0 := by
  intro ρ w args' hR hv cs
  obtain ⟨xv, xH⟩ := x
  simp only [fnJ] at h
  replace h := onSome_inv h; obtain ⟨c, hb, h⟩ := h
  let b : Frame := { (default : Frame) with fn := f, kind := .normal }
  have henter : Frame.enter P f args'.toArray .normal =
      b.at { tmps := args'.toArray ++ Array.replicate (fn.ntmps - args'.toArray.size) undef, defers := [] } [.code c] := by
    simp [Frame.enter, Frame.at, hf, hb, b]
  have := exec_soundP (PostW.pol (v0 := v0) (H0 := H0)) hΓ (b := b) (cs := cs) hf rfl (Jm.ok rfl rfl) _ _ _ _ _ _ h ρ w { tmps := args'.toArray ++ Array.replicate (fn.ntmps - args'.toArray.size) undef, defers := [] } hR (by
    refine ⟨?_, hR.glob⟩
    intro j u hu
    obtain ⟨k, rfl, hk⟩ := argT_at _ _ _ _ hu
    obtain ⟨u', h1, h2⟩ := hv.get hk
    have hlt : k < args'.length := by
      rcases Nat.lt_or_ge k args'.length with h' | h'
      · exact h'
      · simp [List.getElem?_eq_none h'] at h1
    have e : (args'.toArray ++ Array.replicate (fn.ntmps - args'.toArray.size) undef).getD (0 + k) undef = u' := by
      simp only [Nat.zero_add, Array.getD_eq_getD_getElem?]
      rw [Array.getElem?_append_left (by simpa using hlt)]
      simp [h1]
    rw [e]; exact h2) (by have := hv.1; simp; omega) rfl
  rw [henter]
  obtain ⟨fr, v', w', h1, h2, h3, h4⟩ := this
  refine ⟨.returned v', w', fr, ⟨v', rfl, ?_⟩, h1, h2, h3⟩
  rcases h4 with ⟨ρ', _, _, hv⟩ | hp
  · exact (hx _ _ hv).elim
  · exact hp
theorem Gf.of_fin (hΓ : ∀ f F, Γ f = some F → Sound P f F) (hf : P.funcs[f]? = some fn) {m : Nat} {args : List Value} {H : Heap} {v : Value} {H' : Heap} (h : fnE P Γ fn cuts m args H = some (v, H')) (hsz : args.length ≤ fn.ntmps) : Gf P f args H v H' :=
  fun ρ w args' hR hv => Calls.mono' (fnE_sound hΓ hf h hR hv hsz) fun _ _ ⟨v', ρ', e, a, b, c⟩ => ⟨v', e, ρ', a, b, c⟩
end

/-! ### The kernel's runs from place to place -/
abbrev mk0 : Value := .slice none 1 0
theorem mk_no {ρ : Ren} {v' : Value} : ¬ VR ρ mk0 v' := fun h => by cases h
theorem mk0_no : ∀ (ρ : Ren) (v' : Value), ¬ VR ρ mk0 v' := fun _ _ => mk_no
def andB (a b : Bool) : Bool := match a with | true => b | false => false
theorem andB_ok {a b : Bool} (h : andB a b = true) : a = true ∧ b = true := by cases a; cases h; exact ⟨rfl, h⟩
def oE : Option AObj → Bool | none => true | some _ => false
def oO (x : AObj) : Option AObj → Bool | some y => eqOb x y | none => false
def oOO (o' : Option AObj) : Option AObj → Bool | none => true | some x => oO x o'
theorem oE_ok {o : Option AObj} (h : oE o = true) : o = none := by cases o; rfl; cases h
theorem oOO_ok {o o' : Option AObj} {x : AObj} (h : oOO o' o = true) (hx : o = some x) : o' = some x := by
  subst hx
  cases o' with
  | none => cases h
  | some y => rw [eqOb_ok _ _ (show eqOb x y = true from h)]
/-- Is the second tree the first one, but for what is let go? -/
noncomputable def kchk (b : Tr AObj) : Tr AObj → Bool :=
  Tr.rec (motive := fun _ => Tr AObj → Bool) (fun _ => true)
    (fun o _ _ ihl ihr a => Tr.rec (motive := fun _ => Bool) (andB (oE o) (andB (ihl .e) (ihr .e))) (fun o' l r _ _ => andB (oOO o' o) (andB (ihl l) (ihr r))) a) b
theorem kchk_ok : ∀ (b a : Tr AObj), kchk b a = true → ∀ i o, b.get i = some o → a.get i = some o
  | .e, a, h, i, o, hb => by cases hb
  | .n o l r, .e, h, i, x, hb => by
    obtain ⟨h0, h⟩ := andB_ok (show andB (oE o) (andB (kchk l .e) (kchk r .e)) = true from h)
    obtain ⟨h1, h2⟩ := andB_ok h
    obtain rfl := oE_ok h0
    cases i with
    | zero => cases hb
    | succ j =>
      rcases half j with ⟨e, _⟩ | ⟨e, _⟩
      · rw [Tr.get_l _ _ _ _ 0 e] at hb; have := kchk_ok l .e h1 _ _ hb; cases this
      · rw [Tr.get_r _ _ _ _ 0 e] at hb; have := kchk_ok r .e h2 _ _ hb; cases this
  | .n o l r, .n o' l' r', h, i, x, hb => by
    obtain ⟨h0, h⟩ := andB_ok (show andB (oOO o' o) (andB (kchk l l') (kchk r r')) = true from h)
    obtain ⟨h1, h2⟩ := andB_ok h
    cases i with
    | zero => exact oOO_ok h0 hb
    | succ j =>
      rcases half j with ⟨e, _⟩ | ⟨e, _⟩
      · rw [Tr.get_l _ _ _ _ 0 e] at hb ⊢; exact kchk_ok l l' h1 _ _ hb
      · rw [Tr.get_r _ _ _ _ 0 e] at hb ⊢; exact kchk_ok r r' h2 _ _ hb
noncomputable def kkill (T L : KH) : Bool := match Nat.beq T.n L.n with | true => kchk L.t T.t | false => false
theorem kkill_ok {T L : KH} (h : kkill T L = true) : Kill T.H L.H := by
  unfold kkill at h
  split at h
  · rename_i hn
    have hn := Nat.eq_of_beq_eq_true hn
    refine ⟨by rw [KH.len, KH.len, hn], fun i o ho => ?_⟩
    rw [KH.at_] at ho ⊢
    rw [← hn] at ho
    split at ho
    · rename_i hi
      obtain rfl := Option.some.inj ho
      cases hg : L.t.get i with
      | none => exact .inl rfl
      | some x => exact .inr (by rw [if_pos hi, kchk_ok _ _ h _ _ hg])
    · cases ho
  · cases h
/-- It has come to a place that is looked for: a mark alone. -/
def marked : KR → Bool
  | some (.slice none 1 0, T) => Nat.beq T.n 0
  | _ => false
theorem marked_ok {r : KR} (h : marked r = true) : ∃ T, r = some (mk0, T) ∧ T.H = [] := by
  unfold marked at h
  split at h
  · rename_i T
    exact ⟨T, rfl, List.eq_nil_of_length_eq_zero (by rw [KH.len]; exact Nat.eq_of_beq_eq_true h)⟩
  · cases h
def mark (b : Bool) : KR := match b with | true => some (mk0, ⟨0, .e⟩) | false => none
theorem mark_ok {b : Bool} {v : Value} {T : KH} (h : mark b = some (v, T)) : b = true ∧ v = mk0 ∧ T.H = [] := by
  cases b with
  | false => cases h
  | true => obtain ⟨rfl, rfl⟩ := Prod.mk.inj (Option.some.inj h); exact ⟨rfl, rfl, rfl⟩
noncomputable def stopAt (key0 : Nat) (vs0 : List Value) (L : KH) (key : Nat) (vs : List Value) (T : KH) : Bool := andB (Nat.beq key key0) (andB (eqL (eqV 9) vs vs0) (kkill T L))
noncomputable def karr (P : Program) (Γ : KFs) (c : FCode) (stop : Nat → List Value → KH → Bool) (s : Nat) : M → KH → KR :=
  Nat.rec (motive := fun _ => M → KH → KR) (fun x T => x.runK P Γ (fun key vs T => mark (stop key vs T)) T)
    (fun _ ih x T => x.runK P Γ (fun key vs T => match stop key vs T with | true => mark true | false => mark (marked (ih (c.C key vs) T))) T) s
section
variable {P : Program} {Γ : Fs} {Γk : KFs} {f : FuncId} {fn : Func} {c : FCode}
theorem karr_sound (hA : ∀ f F, Γ f = some F → Sound P f F) (hΓ : ∀ f args T v T', Γk f args T = some (v, T') → ∃ F, Γ f = some F ∧ F args T.H = some (v, T'.H)) (hf : P.funcs[f]? = some fn)
    (hC : ∀ (J : List Item → List Value → Heap → R) (key : Nat) (vs : List Value) (H : Heap) (r : Value × Heap), (c.C key vs).run P Γ (fun key vs H => J (c.td key) vs H) H = some r → runJ P Γ fn c.cuts J (c.td key) vs H = some r)
    {stop : Nat → List Value → KH → Bool} {v0 : Value} {H0 : Heap} (hstop : ∀ key vs T, stop key vs T = true → Gd P f fn c.cuts (c.td key) vs T.H v0 H0) :
    ∀ (s : Nat) (x : M) (T : KH), marked (karr P Γk c stop s x T) = true → x.run P Γ (fun key vs H => Jm P f fn c.cuts v0 H0 (mk0, []) (c.td key) vs H) T.H = some (mk0, [])
  | 0, x, T, h => by
    obtain ⟨T', h1, h2⟩ := marked_ok h
    refine h2 ▸ runK_sound hΓ (J := fun key vs H => Jm P f fn c.cuts v0 H0 (mk0, []) (c.td key) vs H) (Jk := fun key vs T => mark (stop key vs T)) (fun key vs T v T' h => ?_) x T h1
    obtain ⟨h3, rfl, h4⟩ := mark_ok h
    rw [h4]; exact Jm.of (hstop key vs T h3)
  | s + 1, x, T, h => by
    obtain ⟨T', h1, h2⟩ := marked_ok h
    refine h2 ▸ runK_sound hΓ (J := fun key vs H => Jm P f fn c.cuts v0 H0 (mk0, []) (c.td key) vs H) (Jk := fun key vs T => match stop key vs T with | true => mark true | false => mark (marked (karr P Γk c stop s (c.C key vs) T))) (fun key vs T v T' h => ?_) x T h1
    split at h
    · rename_i hs
      obtain ⟨_, rfl, h4⟩ := mark_ok h
      rw [h4]; exact Jm.of (hstop key vs T hs)
    · obtain ⟨h3, rfl, h4⟩ := mark_ok h
      rw [h4]; exact Jm.of (Gd.of_run hA hf mk0_no (hC _ key vs T.H _ (karr_sound hA hΓ hf hC hstop s _ T h3)))
theorem hstopAt {key0 : Nat} {L : KH} {vs0 : List Value} {v0 : Value} {H0 : Heap} (hG : Gd P f fn c.cuts (c.td key0) vs0 L.H v0 H0) : ∀ key vs T, stopAt key0 vs0 L key vs T = true → Gd P f fn c.cuts (c.td key) vs T.H v0 H0 := by
  intro key vs T h
  obtain ⟨h1, h⟩ := andB_ok h
  obtain ⟨h2, h3⟩ := andB_ok h
  obtain rfl := Nat.eq_of_beq_eq_true h1
  obtain rfl := eqL_ok (eqV_ok 9) h2
  exact hG.kill_l (kkill_ok h3)
end

/-! ### In whole programs -/
noncomputable abbrev FLs (P : Program) (E : Tr Ent) (m : Nat) : Fs := fun g => some (FL P E m g)
section
variable {P : Program} {E : Tr Ent} {s m : Nat} {f : Nat} {c : FCode}
theorem FLs_all (hE : TrOk P E) : ∀ f F, FLs P E m f = some F → Sound P f F := fun f F h => by obtain rfl := Option.some.inj h; exact FL_sound hE m f
theorem FLs_call (hE : TrOk P E) : ∀ f args T v T', kcall P E s m f args T = some (v, T') → ∃ F, FLs P E m f = some F ∧ F args T.H = some (v, T'.H) := fun f args T v T' h => ⟨_, rfl, kcall_sound hE m f args T v T' h⟩
/-- What holds of the function's own text. -/
structure Code (P : Program) (f : Nat) (c : FCode) (fn : Func) : Prop where
  hf : P.funcs[f]? = some fn
  nm : (fn.name == "runtime.NumGoroutine") = false
  bd : fn.body.isNone = false
  hX : ∀ (Γ : Fs) (J : List Item → List Value → Heap → R) (args : List Value) (H : Heap) (r : Value × Heap), (c.X args).run P Γ (fun key vs H => J (c.td key) vs H) H = some r → fnJ P Γ fn c.cuts J args H = some r ∧ args.length ≤ fn.ntmps
  hC : ∀ (Γ : Fs) (J : List Item → List Value → Heap → R) (key : Nat) (vs : List Value) (H : Heap) (r : Value × Heap), (c.C key vs).run P Γ (fun key vs H => J (c.td key) vs H) H = some r → runJ P Γ fn c.cuts J (c.td key) vs H = some r
theorem Code.of (h : CodeOk P f c) : ∃ fn, Code P f c fn := by obtain ⟨fn, a, b, c, d, e⟩ := h.ex; exact ⟨fn, a, b, c, d, e⟩
variable {fn : Func}
/-- From one place to another one. -/
theorem Gd.go (hE : TrOk P E) (hc : Code P f c fn) {key key0 : Nat} {vs vs0 : List Value} {T L : KH} (h : marked (karr P (kcall P E s m) c (stopAt key0 vs0 L) s (c.C key vs) T) = true)
    {v0 : Value} {H0 : Heap} (hG : Gd P f fn c.cuts (c.td key0) vs0 L.H v0 H0) : Gd P f fn c.cuts (c.td key) vs T.H v0 H0 :=
  Gd.of_run (FLs_all hE) hc.hf mk0_no (hc.hC _ _ key vs T.H _ (karr_sound (FLs_all hE) (FLs_call hE) hc.hf (hc.hC _) (hstopAt hG) s _ T h))
/-- From the beginning to a place. -/
theorem Gf.go (hE : TrOk P E) (hc : Code P f c fn) {key0 : Nat} {args vs0 : List Value} {T L : KH} (h : marked (karr P (kcall P E s m) c (stopAt key0 vs0 L) s (c.X args) T) = true)
    {v0 : Value} {H0 : Heap} (hG : Gd P f fn c.cuts (c.td key0) vs0 L.H v0 H0) : Gf P f args T.H v0 H0 := by
  obtain ⟨h1, h2⟩ := hc.hX _ _ args T.H _ (karr_sound (FLs_all hE) (FLs_call hE) hc.hf (hc.hC _) (hstopAt hG) s _ T h)
  exact Gf.of_run (FLs_all hE) hc.hf mk0_no h1 h2
/-- From a place to the end. -/
theorem Gd.ends (hE : TrOk P E) (hc : Code P f c fn) {key : Nat} {vs : List Value} {T : KH} {v : Value} {T' : KH} (h : kdrv P (kcall P E s m) c s (c.C key vs) T = some (v, T')) : Gd P f fn c.cuts (c.td key) vs T.H v T'.H :=
  Gd.of_fin (FLs_all hE) hc.hf (m := s + 1) (hc.hC _ (run P _ fn c.cuts s) key vs T.H _ (kdrv_sound (FLs_call hE) (c := c) (fn := fn) (fun m key vs H r => hc.hC _ (run P _ fn c.cuts m) key vs H r) s _ T v T' h))
theorem Gf.ends (hE : TrOk P E) (hc : Code P f c fn) {args : List Value} {T : KH} {v : Value} {T' : KH} (h : kdrv P (kcall P E s m) c s (c.X args) T = some (v, T')) : Gf P f args T.H v T'.H := by
  obtain ⟨h1, h2⟩ := hc.hX _ (run P _ fn c.cuts s) args T.H _ (kdrv_sound (FLs_call hE) (c := c) (fn := fn) (fun m key vs H r => hc.hC _ (run P _ fn c.cuts m) key vs H r) s _ T v T' h)
  exact Gf.of_fin (FLs_all hE) hc.hf h1 h2
/-- It ends with that, and with that heap, but for what is let go. -/
noncomputable def kend (r : KR) (v0 : Value) (L : KH) : Bool := match r with | some (v, T) => (match eqV 9 v v0 with | true => kkill T L | false => false) | none => false
theorem kend_ok {r : KR} {v0 : Value} {L : KH} (h : kend r v0 L = true) : ∃ T, r = some (v0, T) ∧ Kill T.H L.H := by
  unfold kend at h
  split at h
  · split at h
    · rename_i v T b e
      exact ⟨T, by rw [eqV_ok _ _ _ e], kkill_ok h⟩
    · cases h
  · cases h
theorem Gd.end_ (hE : TrOk P E) (hc : Code P f c fn) {key : Nat} {vs : List Value} {T : KH} {v : Value} {L : KH} (h : kend (kdrv P (kcall P E s m) c s (c.C key vs) T) v L = true) : Gd P f fn c.cuts (c.td key) vs T.H v L.H := by
  obtain ⟨T', h1, h2⟩ := kend_ok h
  exact (Gd.ends hE hc h1).kill_r h2
theorem Gf.end_ (hE : TrOk P E) (hc : Code P f c fn) {args : List Value} {T : KH} {v : Value} {L : KH} (h : kend (kdrv P (kcall P E s m) c s (c.X args) T) v L = true) : Gf P f args T.H v L.H := by
  obtain ⟨T', h1, h2⟩ := kend_ok h
  exact (Gf.ends hE hc h1).kill_r h2
end

/-! ### Calls that are known at some heaps, by their lengths -/
structure Known where
  args : List Value
  T : KH
  v : Value
  L : KH
noncomputable def Kn.k (e : Nat → Option Known) (args : List Value) (T : KH) : KR := match e T.n with
  | some x => (match eqL (eqV 9) args x.args with | true => (match kkill T x.T with | true => some (x.v, x.L) | false => none) | false => none)
  | none => none
open Classical in
noncomputable def Kn.F (e : Nat → Option Known) (args : List Value) (H : Heap) : R := match e H.length with
  | some x => if args = x.args ∧ Kill H x.T.H then some (x.v, x.L.H) else none
  | none => none
noncomputable def Kn.giv (e : Nat → Option Known) : Giv := ⟨Kn.k e, Kn.F e⟩
theorem Kn.ok {P : Program} {f : Nat} {fn : Func} (hf : P.funcs[f]? = some fn) (hnm : (fn.name == "runtime.NumGoroutine") = false) (hbd : fn.body.isNone = false) {e : Nat → Option Known}
    (h : ∀ n x, e n = some x → Gf P f x.args x.T.H x.v x.L.H) : EntOk P f (.giv (Kn.giv e)) := by
  refine ⟨Sound.of_Gf hf hnm hbd fun args H v H' hF => ?_, fun args T v T' hk => ?_⟩
  · replace hF : Kn.F e args H = some (v, H') := hF
    unfold Kn.F at hF
    split at hF
    · rename_i x hx
      split at hF
      · rename_i hq
        obtain ⟨rfl, hK⟩ := hq
        obtain ⟨rfl, rfl⟩ := Prod.mk.inj (Option.some.inj hF)
        exact (h _ x hx).kill_l hK
      · cases hF
    · cases hF
  · replace hk : Kn.k e args T = some (v, T') := hk
    show Kn.F e args T.H = some (v, T'.H)
    unfold Kn.k at hk
    unfold Kn.F
    rw [KH.len]
    split at hk
    · rename_i x hx
      try rw [hx]
      split at hk
      · rename_i ha
        split at hk
        · rename_i hq
          obtain ⟨rfl, rfl⟩ := Prod.mk.inj (Option.some.inj hk)
          exact if_pos ⟨eqL_ok (eqV_ok 9) ha, kkill_ok hq⟩
        · cases hk
      · cases hk
    · cases hk
end Go.Proofs.YtgnkjpbecgpjoaaGreatDoor.Fw
set_option linter.unusedVariables false
set_option linter.unusedSimpArgs false
namespace Go.Proofs.YtgnkjpbecgpjoaaGreatDoor.Fw
open Go Go.RowKit

/-! ### A function by what is known of its calls -/
open Classical in
noncomputable def Fgf (P : Program) (f : FuncId) (v : Value) : List Value → Heap → R := fun args H => if h : ∃ H', Gf P f args H v H' then some (v, Classical.choose h) else none
theorem Fgf_sound {P : Program} {f : Nat} {fn : Func} (hf : P.funcs[f]? = some fn) (hnm : (fn.name == "runtime.NumGoroutine") = false) (hbd : fn.body.isNone = false) (v : Value) : Sound P f (Fgf P f v) :=
  Sound.of_Gf hf hnm hbd fun args H w H' h => by
    unfold Fgf at h
    split at h
    · rename_i hx
      obtain ⟨rfl, rfl⟩ := Prod.mk.inj (Option.some.inj h)
      exact Classical.choose_spec hx
    · cases h
theorem Fgf_of {P : Program} {f : FuncId} {args : List Value} {H : Heap} {v : Value} {H' : Heap} (h : Gf P f args H v H') : ∃ H'', Fgf P f v args H = some (v, H'') := by
  unfold Fgf
  rw [dif_pos ⟨H', h⟩]
  exact ⟨_, rfl⟩
/-- From the beginning to a place, told by the text itself. -/
theorem Gf.of_text {P : Program} {E : Tr Ent} {m f : Nat} {c : FCode} {fn : Func} (hE : TrOk P E) (hc : Code P f c fn) {args : List Value} {H : Heap} {v0 : Value} {H0 : Heap}
    (h : (c.X args).run P (FLs P E m) (fun key vs H => Jm P f fn c.cuts v0 H0 (mk0, []) (c.td key) vs H) H = some (mk0, [])) : Gf P f args H v0 H0 := by
  obtain ⟨h1, h2⟩ := hc.hX _ _ args H _ h
  exact Gf.of_run (FLs_all hE) hc.hf mk0_no h1 h2
end Go.Proofs.YtgnkjpbecgpjoaaGreatDoor.Fw
