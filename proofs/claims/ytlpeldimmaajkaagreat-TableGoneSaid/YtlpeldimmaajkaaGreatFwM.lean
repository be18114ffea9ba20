/- FRAMEWORK 22: whole functions do in the world what they do on the abstract heap. -/
import Derived.Test.YtlpeldimmaajkaaGreatFwL
set_option linter.unusedVariables false
set_option linter.unusedSimpArgs false
namespace Go.Proofs.YtlpeldimmaajkaaGreat.Fw
open Go Go.RowKit

section
variable {P : Program} {Γ : Fs} {β : Type} {r : β}

theorem drawOk_DR {n : Nat} {ops : Array Oper} {g : List Nat} (h : drawOk P ops.toList g = true) {l : List Stp} (hl : l.map Stp.i = g) {t : Tm} {H : Heap} (hc : Chain P Γ n ops.toList (befs ops.toList) l [] t H) : DR P Γ n ops l t H ∧ P.follows .mixedOrders = true := by
  unfold drawOk at h
  simp only [Bool.and_eq_true] at h
  obtain ⟨⟨⟨⟨⟨h1, h2⟩, h3⟩, h4⟩, h5⟩, h6⟩ := h
  have gat : ∀ (p : Nat) (s : Stp), l[p]? = some s → g[p]? = some s.i := fun p s hs => by rw [← hl]; simp [hs]
  refine ⟨⟨?_, ?_, ?_, ?_, hc⟩, h6⟩
  · intro i o ho e he hb
    have hi : i < ops.size := by
      rcases Nat.lt_or_ge i ops.size with h | h
      · exact h
      · simp [Array.getElem?_eq_none h] at ho
    have := List.all_eq_true.1 h1 i (by simpa using hi)
    simp only [Array.getElem?_toList, ho] at this
    rw [Array.all_eq_true_iff_forall_mem] at this
    have := this e he
    rw [hb] at this
    simpa using this
  · intro p q s s' hpq hs hs'
    exact pairsOk_at h2 p q s.i s'.i hpq (gat p s hs) (gat q s' hs')
  · intro p q s s' hs hs' e
    rcases Nat.lt_trichotomy p q with h | h | h
    · exact (nodupB_at h3 p q s.i h (gat p s hs) (by rw [e]; exact gat q s' hs')).elim
    · exact h
    · exact (nodupB_at h3 q p s.i h (by rw [e]; exact gat q s' hs') (gat p s hs)).elim
  · intro i hi
    have := List.all_eq_true.1 h5 i (by simpa using hi)
    rw [List.contains_eq_mem] at this
    have hm : i ∈ g := by simpa using this
    rw [← hl] at hm
    obtain ⟨s, hs, e⟩ := List.mem_map.1 hm
    obtain ⟨p, hp⟩ := List.mem_iff_getElem?.1 hs
    exact ⟨p, s, hp, e⟩

/-- A REGION. -/
theorem regionE_wp (hΓ : ∀ f F, Γ f = some F → Sound P f F) {n id : Nat} {ops : Array Oper} {dr : Bool} {t : Tm} {H : Heap} {k : Tm → Heap → Option β} (h : regionE P Γ n ops.toList dr t H k = some r)
    {ρ : Ren} {w : World} {a : Act} (hR : Rel ρ H w) (ht : TR ρ t a.tmps) (hn : a.tmps.size = n) {Q : Exit → Act → World → Prop} (hQ : ∀ a' w', Behind ρ H w a n k r a' w' → Q .normal a' w') : (Code.region id ops dr).wp P Q a w := by
  cases dr with
  | false => exact wp_region_list (opsE_sound hΓ _ t H k h ρ w a hR ht hn hQ)
  | true =>
    simp only [regionE] at h
    split at h
    · rename_i hd
      obtain ⟨l, hl, hc, hk⟩ := opsD_run _ _ _ _ _ h
      obtain ⟨D, hm⟩ := drawOk_DR hd hl hc
      refine wp_region_any hm ?_
      have I : DInv P l t H n ρ w a (Array.replicate ops.size false) a { w with drawn := w.drawn + 1 } ρ 0 := by
        have t0 : ∀ p, tDn (Array.replicate ops.size false) l t p = t := by
          intro p
          induction p with
          | zero => rfl
          | succ p ih =>
            simp only [tDn]
            split
            · rename_i s hs
              rw [if_neg, ih]
              simp only [Array.getD, Array.size_replicate]
              split <;> simp
            · exact ih
        refine ⟨Nat.zero_le _, fun p s hp => absurd hp (Nat.not_lt_zero _), ?_, hR.drewd _, Ext.drew _, ?_, ?_, fun p s hp => absurd hp (Nat.not_lt_zero _), hn, rfl⟩
        · intro p s _ _
          simp only [Array.getD, Array.size_replicate]
          split <;> simp
        · intro p hp
          obtain rfl : p = 0 := by omega
          exact Nat.le_refl _
        · rw [t0]; exact ht
      obtain ⟨q, I2, hef⟩ := I.advance D _ _ (Nat.le_refl _)
      refine drawn_wp D hΓ hk hQ hR.dom ops.size _ a _ ρ q (by simp) ?_ I2 hef ?_
      · intro i o _ hl
        exfalso
        simp only [Array.getD, Array.size_replicate] at hl
        split at hl <;> simp at hl
      · simp
    · cases h

/-- The results. -/
theorem fin_sound {t : Tm} {H : Heap} {ρ : Ren} {w : World} {tmps : Array Value} (hR : Rel ρ H w) (ht : TR ρ t tmps) : ∀ (l : List ResultVar) (k : List Value → R) {r : Value × Heap}, fin P t H l k = some r →
    ∃ vs vs', k vs = some r ∧ VL ρ vs vs' ∧ (l.mapM (fun | .tmp t => pure (tmps.getD t undef) | .cell a t => do loadVar t (← asAddr (tmps.getD a undef)) : ResultVar → Sem Value)).run P w = .ok vs' w
  | [], k, r, h => ⟨[], [], h, VL.nil, by simp⟩
  | .tmp i :: l, k, r, h => by
    simp only [fin] at h
    replace h := onSome_inv h; obtain ⟨v, hv, h⟩ := h
    obtain ⟨vs, vs', h1, h2, h3⟩ := fin_sound hR ht l _ h
    refine ⟨_, _, h1, VL.cons (ht.1 i v hv) h2, ?_⟩
    rw [List.mapM_cons]
    simp only [Sem.run_bind, Sem.run_pure, Result.andThen_ok, h3]
  | .cell i ty :: l, k, r, h => by
    simp only [fin] at h
    replace h := onSome_inv h; obtain ⟨v, hv, h⟩ := h
    replace h := kPtr_inv h; obtain ⟨q, rfl, h⟩ := h
    replace h := onSome_inv h; obtain ⟨q, rfl, h⟩ := h
    obtain ⟨p, hp, hs, e⟩ := (ht.1 i _ hv).ptr_inv
    obtain ⟨u, u', h1, h2, h3⟩ := ld_sound hR h hp
    obtain ⟨vs, vs', g1, g2, g3⟩ := fin_sound hR ht l _ h1
    refine ⟨_, _, g1, VL.cons h2 g2, ?_⟩
    rw [List.mapM_cons]
    have e2 : (asAddr (tmps.getD i undef)).run P w = .ok ⟨p.blk, p.base + q.off, none⟩ w := by rw [e]; rfl
    simp only [Sem.run_bind, Sem.run_pure, Result.andThen_ok, e2, h3, g3]

theorem results_sound {t : Tm} {H : Heap} {ρ : Ren} {w : World} {tmps : Array Value} (hR : Rel ρ H w) (ht : TR ρ t tmps) {fn : Func} {v : Value} {H' : Heap} (h : fin P t H fn.results.toList (fun vs => retV vs H) = some (v, H')) :
    H' = H ∧ ∃ v', VR ρ v v' ∧ (results fn tmps).run P w = .ok v' w := by
  obtain ⟨vs, vs', h1, h2, h3⟩ := fin_sound hR ht _ _ h
  have hm : (results fn tmps).run P w = .ok (if h : vs'.toArray.size = 1 then vs'.toArray[0] else .tuple vs'.toArray) w := by
    unfold results
    rw [Array.mapM_eq_mapM_toList]
    rw [map_eq_pure_bind]
    simp only [Sem.run_bind, Sem.run_pure, Result.andThen_ok]
    exact Eq.trans (congrArg (fun x : Result (List Value) => (x.andThen fun a w' => Result.ok a.toArray w').andThen fun a w' => Result.ok (if h : a.size = 1 then a[0] else Value.tuple a) w') h3) rfl
  rw [hm]
  match vs, vs', h1, h2 with
  | [], vs', h1, h2 =>
    obtain rfl := h2.nil_inv
    simp only [retV, Option.some.injEq, Prod.mk.injEq] at h1
    obtain ⟨rfl, rfl⟩ := h1
    exact ⟨rfl, _, VR.tuple_mk VL.nil, by simp⟩
  | [u], vs', h1, h2 =>
    obtain ⟨u', m, rfl, hu, hm⟩ := h2.cons_inv
    obtain rfl := hm.nil_inv
    simp only [retV, Option.some.injEq, Prod.mk.injEq] at h1
    obtain ⟨rfl, rfl⟩ := h1
    exact ⟨rfl, _, hu, by simp⟩
  | u :: u2 :: us, vs', h1, h2 =>
    have hl := h2.1
    simp only [retV, Option.some.injEq, Prod.mk.injEq] at h1
    obtain ⟨rfl, rfl⟩ := h1
    refine ⟨rfl, _, VR.tuple_mk h2, ?_⟩
    rw [dif_neg]
    simp at hl ⊢; omega

/-! ### Control -/
/-- A machine comes back out of the function with a value. -/
def Reach (P : Program) (f : FuncId) (cs : List Frame) (m : Machine) (R : Value → World → Prop) : Prop := ∃ fr v w', Steps P m (lone fr cs w') ∧ fr.fn = f ∧ fr.leaving P w' (.returned v) ∧ R v w'

theorem Reach.of_steps {f : FuncId} {cs : List Frame} {m m1 : Machine} {R : Value → World → Prop} (h : Steps P m m1) (h' : Reach P f cs m1 R) : Reach P f cs m R := by
  obtain ⟨fr, v, w', h1, h2⟩ := h'
  exact ⟨fr, v, w', h.trans h1, h2⟩
theorem Reach.mono {f : FuncId} {cs : List Frame} {m : Machine} {R R' : Value → World → Prop} (h : Reach P f cs m R) (hr : ∀ v w', R v w' → R' v w') : Reach P f cs m R' := by
  obtain ⟨fr, v, w', h1, h2, h3, h4⟩ := h
  exact ⟨fr, v, w', h1, h2, h3, hr _ _ h4⟩
/-- A machine that makes the same step comes out alike. -/
theorem Reach.same {f : FuncId} {cs : List Frame} {b : Frame} {a : Act} {td : List Item} {w : World} {m m1 : Machine} {R : Value → World → Prop} (h : Reach P f cs (lone (b.at a td) cs w) R) (h1 : step P (lone (b.at a td) cs w) = .next m1) (h2 : step P m = .next m1) : Reach P f cs m R := by
  obtain ⟨fr, v, w', ⟨n, hn⟩, h3, h4, h5⟩ := h
  cases n with
  | zero =>
    simp only [runN] at hn
    exfalso
    have e : lone (b.at a td) cs w = lone fr cs w' := by injection hn
    have e2 : b.at a td = fr := by
      have := congrArg (fun m : Machine => (m.gs[0]?).map (·.frame)) e
      simpa [lone] using this
    have := h4.1
    rw [← e2] at this
    cases this
  | succ n =>
    simp only [runN, h1] at hn
    exact ⟨fr, v, w', .head h2 ⟨n, hn⟩, h3, h4, h5⟩

/-- What a function brings about. -/
def Post (ρ : Ren) (H : Heap) (w : World) (v : Value) (H' : Heap) (v' : Value) (w' : World) : Prop := ∃ ρ', Rel ρ' H' w' ∧ Ext ρ H w ρ' H' w' ∧ VR ρ' v v'

theorem Post.of_ext {ρ ρ1 : Ren} {H H1 : Heap} {w w1 : World} {v : Value} {H' : Heap} {v' : Value} {w' : World} (h : Ext ρ H w ρ1 H1 w1) (hd : ∀ b p, ρ1 b = some p → b < H1.length) (k : Post ρ1 H1 w1 v H' v' w') : Post ρ H w v H' v' w' := by
  obtain ⟨ρ', h1, h2, h3⟩ := k
  exact ⟨ρ', h1, h.trans h2 hd, h3⟩

theorem sel_inv {t : Tm} : ∀ (lv : List Nat) (k : List Value → R) {r : Value × Heap}, sel t lv k = some r → ∃ vs, k vs = some r ∧ ∀ (ρ : Ren) (tmps : Array Value), TR ρ t tmps → TR ρ (restore lv vs) tmps
  | [], k, r, h => ⟨[], h, fun ρ tmps ht => ⟨(fun i v e => by cases e), ht.2⟩⟩
  | i :: lv, k, r, h => by
    simp only [sel] at h
    replace h := onSome_inv h; obtain ⟨v, hv, h⟩ := h
    obtain ⟨vs, h1, h2⟩ := sel_inv lv _ h
    refine ⟨v :: vs, h1, fun ρ tmps ht => ⟨fun j u hu => ?_, ht.2⟩⟩
    by_cases e : j = i
    · subst e
      simp only [restore] at hu
      rw [upd_self] at hu
      obtain rfl := Option.some.inj hu
      exact ht.1 _ _ hv
    · simp only [restore] at hu
      rw [upd_ne _ _ e] at hu
      exact (h2 ρ tmps ht).1 j u hu

/-- What is known of what goes on at a cut place. -/
def JOk (P : Program) (b : Frame) (cs : List Frame) (fn : Func) (cuts : Cuts) (J : List Item → List Value → Heap → R) : Prop :=
  ∀ td vs H v H' lv, J td vs H = some (v, H') → cutOf cuts td = some lv → ∀ ρ w a, Rel ρ H w → TR ρ (restore lv vs) a.tmps → a.tmps.size = fn.ntmps → a.defers = [] →
    Reach P b.fn cs (lone (b.at a td) cs w) (Post ρ H w v H')

theorem exec_sound (hΓ : ∀ f F, Γ f = some F → Sound P f F) {b : Frame} {fn : Func} (hf : P.funcs[b.fn]? = some fn) (hk : b.kind = .normal) {cs : List Frame} {cuts : Cuts} {J : List Item → List Value → Heap → R} (hJ : JOk P b cs fn cuts J) :
    ∀ (g : Nat) (td : List Item) (t : Tm) (H : Heap) (v : Value) (H' : Heap), exec P Γ fn cuts J g td t H = some (v, H') → ∀ (ρ : Ren) (w : World) (a : Act), Rel ρ H w → TR ρ t a.tmps → a.tmps.size = fn.ntmps → a.defers = [] →
      Reach P b.fn cs (lone (b.at a td) cs w) (Post ρ H w v H') := by
  intro g
  induction g with
  | zero => intro td t H v H' h; cases h
  | succ g ih =>
    intro td t H v H' h ρ w a hR ht hn hd
    have jump : ∀ (td : List Item) (t : Tm) (H : Heap), (match cutOf cuts td with | some lv => sel t lv fun vs => J td vs H | none => exec P Γ fn cuts J g td t H) = some (v, H') → ∀ (ρ : Ren) (w : World) (a : Act), Rel ρ H w → TR ρ t a.tmps → a.tmps.size = fn.ntmps → a.defers = [] →
        Reach P b.fn cs (lone (b.at a td) cs w) (Post ρ H w v H') := by
      intro td t H h ρ w a hR ht hn hd
      split at h
      · rename_i lv hlv
        obtain ⟨vs, h1, h2⟩ := sel_inv _ _ h
        exact hJ td vs H v H' lv h1 hlv ρ w a hR (h2 ρ _ ht) hn hd
      · exact ih td t H v H' h ρ w a hR ht hn hd
    have fin : fin P t H fn.results.toList (fun vs => retV vs H) = some (v, H') → ∀ (td : List Item), step P (lone (b.at a td) cs w) = .next (lone { b.at a td with mode := .returning } cs w) → Reach P b.fn cs (lone (b.at a td) cs w) (Post ρ H w v H') := by
      intro h td hs
      obtain ⟨rfl, v', h1, h2⟩ := results_sound hR ht h
      exact ⟨{ b.at a td with mode := .returning }, v', w, .one hs, rfl, ⟨rfl, hd, hk, fn, hf, h2⟩, ρ, hR, Ext.refl _ _ _, h1⟩
    unfold exec at h
    simp only [] at h
    split at h
    · exact fin h _ step_end
    · exact .of_steps (.one step_skip) (jump _ _ _ h ρ w a hR ht hn hd)
    · rename_i id ops dr K
      obtain ⟨e, a', w', hq, harr⟩ := (regionE_wp (id := id) hΓ h hR ht hn (Q := fun e a' w' => e = .normal ∧ Behind ρ H w a fn.ntmps _ (v, H') a' w') fun a' w' hB => ⟨rfl, hB⟩) b K cs
      obtain ⟨rfl, hB⟩ := hq
      obtain ⟨ρ1, t1, H1, h1, h2, h3, h4⟩ := hB.ex
      exact .of_steps harr ((jump _ _ _ h1 ρ1 w' a' h2 h4 hB.size (hB.defers.trans hd)).mono fun v' w'' hp => hp.of_ext h3 h2.dom)
    · exact .of_steps (.one step_seq) (ih _ _ _ _ _ h ρ w a hR ht hn hd)
    · replace h := opd_inv ht h; obtain ⟨u, hu, h⟩ := h
      replace h := kBool_inv h; obtain ⟨bb, rfl, h⟩ := h
      have e := hu.bool_inv
      cases bb with
      | true => exact .of_steps (.one (step_cond e)) (jump _ _ _ h ρ w a hR ht hn hd)
      | false => exact .of_steps (.one (step_cond e)) (jump _ _ _ h ρ w a hR ht hn hd)
    · exact .of_steps (.one step_block) (ih _ _ _ _ _ h ρ w a hR ht hn hd)
    · exact (jump _ _ _ h ρ w a hR ht hn hd).same step_inLoop step_loop
    · replace h := onSome_inv h; obtain ⟨K', hK, h⟩ := h
      exact .of_steps (.one (step_exit hK)) (jump _ _ _ h ρ w a hR ht hn hd)
    · exact fin h _ step_ret
    · exact .of_steps (.one step_inBlock) (jump _ _ _ h ρ w a hR ht hn hd)
    · exact .of_steps (.one step_inLoop) (ih _ _ _ _ _ h ρ w a hR ht hn hd)
    · cases h

theorem run_sound (hΓ : ∀ f F, Γ f = some F → Sound P f F) {b : Frame} {fn : Func} (hf : P.funcs[b.fn]? = some fn) (hk : b.kind = .normal) {cs : List Frame} {cuts : Cuts} : ∀ (m : Nat), JOk P b cs fn cuts (run P Γ fn cuts m)
  | 0 => fun td vs H v H' lv h => by cases h
  | m + 1 => fun td vs H v H' lv h hlv ρ w a hR ht hn hd => by
    simp only [run, hlv, onSome] at h
    exact exec_sound hΓ hf hk (run_sound hΓ hf hk m) _ _ _ _ _ _ h ρ w a hR ht hn hd

theorem argT_at : ∀ (l : List Value) (i j : Nat) (v : Value), argT i l j = some v → ∃ k, j = i + k ∧ l[k]? = some v
  | [], i, j, v, h => by cases h
  | u :: l, i, j, v, h => by
    simp only [argT] at h
    by_cases e : j = i
    · subst e
      rw [upd_self] at h
      exact ⟨0, rfl, by simpa using h⟩
    · rw [upd_ne _ _ e] at h
      obtain ⟨k, rfl, h2⟩ := argT_at l _ _ _ h
      exact ⟨k + 1, by omega, by simpa using h2⟩

/-- A WHOLE FUNCTION. -/
theorem fnE_sound (hΓ : ∀ f F, Γ f = some F → Sound P f F) {f : FuncId} {fn : Func} (hf : P.funcs[f]? = some fn) {cuts : Cuts} {m : Nat} {args : List Value} {H : Heap} {v : Value} {H' : Heap} (h : fnE P Γ fn cuts m args H = some (v, H'))
    {ρ : Ren} {w : World} {args' : List Value} (hR : Rel ρ H w) (hv : VL ρ args args') (hsz : args.length ≤ fn.ntmps) :
    Calls P f args'.toArray w fun e w' => ∃ v' ρ', e = .returned v' ∧ Rel ρ' H' w' ∧ Ext ρ H w ρ' H' w' ∧ VR ρ' v v' := by
  intro cs
  simp only [fnE] at h
  replace h := onSome_inv h; obtain ⟨c, hb, h⟩ := h
  let b : Frame := { (default : Frame) with fn := f, kind := .normal }
  have henter : Frame.enter P f args'.toArray .normal =
      b.at { tmps := args'.toArray ++ Array.replicate (fn.ntmps - args'.toArray.size) undef, defers := [] } [.code c] := by
    simp [Frame.enter, Frame.at, hf, hb, b]
  have := exec_sound (b := b) (cs := cs) hΓ hf rfl (run_sound hΓ hf rfl m) _ _ _ _ _ _ h ρ w { tmps := args'.toArray ++ Array.replicate (fn.ntmps - args'.toArray.size) undef, defers := [] } hR (by
    refine ⟨?_, hR.glob⟩
    intro j u hu
    obtain ⟨k, rfl, hk⟩ := argT_at _ _ _ _ hu
    obtain ⟨u', h1, h2⟩ := hv.get hk
    have hlt : k < args'.length := by
      rcases Nat.lt_or_ge k args'.length with h' | h'
      · exact h'
      · simp [List.getElem?_eq_none h'] at h1
    have e : (args'.toArray ++ Array.replicate (fn.ntmps - args'.toArray.size) undef).getD (0 + k) undef = u' := by
      simp only [Nat.zero_add, Array.getD_eq_getD_getElem?]
      rw [Array.getElem?_append_left (by simpa using hlt)]
      simp [h1]
    rw [e]; exact h2) (by have := hv.1; simp; omega) rfl
  rw [henter]
  obtain ⟨fr, v', w', h1, h2, h3, ρ', h4, h5, h6⟩ := this
  exact ⟨.returned v', w', fr, ⟨v', ρ', rfl, h4, h5, h6⟩, h1, h2, h3⟩

theorem Sound.of_fnE (hΓ : ∀ f F, Γ f = some F → Sound P f F) {f : FuncId} {fn : Func} (hf : P.funcs[f]? = some fn) (hnm : (fn.name == "runtime.NumGoroutine") = false) (hbd : fn.body.isNone = false) {cuts : Cuts} {F : List Value → Heap → R}
    (h : ∀ args H r, F args H = some r → ∃ m, fnE P Γ fn cuts m args H = some r ∧ args.length ≤ fn.ntmps) : Sound P f F := by
  refine .inl ⟨fun args w => ?_, fun args H v H' hF ρ w args' hR hv => ?_⟩
  · have hn' : ¬ fn.name = "runtime.NumGoroutine" := by simpa using hnm
    have hb' : ¬ fn.body = none := by intro e; rw [e] at hbd; cases hbd
    simp [callFunc, hf, hn', hb']
  · obtain ⟨m, h1, h2⟩ := h _ _ _ hF
    exact fnE_sound hΓ hf h1 hR hv h2
end
end Go.Proofs.YtlpeldimmaajkaaGreat.Fw
