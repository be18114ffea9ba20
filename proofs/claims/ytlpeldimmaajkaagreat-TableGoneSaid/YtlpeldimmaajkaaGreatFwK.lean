/- FRAMEWORK 20: regions that draw their order do in the world what they do on the abstract heap, whatever the order. -/
import Derived.Test.YtlpeldimmaajkaaGreatFwJ
set_option linter.unusedVariables false
set_option linter.unusedSimpArgs false
namespace Go.Proofs.YtlpeldimmaajkaaGreat.Fw
open Go Go.RowKit

/-! ### Blocks that are not there yet -/
section
variable {P : Program} {ρ : Ren} {w : World} {β : Type} {r : β}

theorem Ext.pushH {ρ0 : Ren} {H0 H : Heap} {w0 : World} (h : Ext ρ0 H0 w0 ρ H w) (hd : ∀ b p, ρ b = some p → b < H.length) (o : AObj) : Ext ρ0 H0 w0 ρ (H ++ [o]) w := by
  refine ⟨h.mono, by have := h.hlen; simp; omega, h.newid, h.keep, h.newblk, ?_, h.size, h.os, h.tape, h.output⟩
  intro b p o' hb hx ho
  exact h.ownmono b p o' hb (by rw [List.getElem?_append_left (hd b p (h.mono b p hb))] at hx; exact hx) ho

theorem Ext.ins {ρ0 : Ren} {H0 H : Heap} {w0 w' : World} (h : Ext ρ0 H0 w0 ρ H w) {b : Nat} {p : Pl} (hb : ρ b = none) (hl : H0.length ≤ b) (hp : p.blk = w.heap.size) (hd0 : ∀ b p, ρ0 b = some p → b < H0.length)
    (hk : ∀ k, k < w.heap.size → w'.heap[k]? = w.heap[k]?) (hs : w.heap.size ≤ w'.heap.size) (h1 : w'.os = w.os) (h2 : w'.tape = w.tape) (h3 : w'.output = w.output) : Ext ρ0 H0 w0 (ρ.ins b p) H w' := by
  refine ⟨h.mono.trans (Ren.ins_le hb), h.hlen, ?_, fun k hk' ho => (hk k (Nat.lt_of_lt_of_le hk' h.size)).trans (h.keep k hk' ho), ?_, h.ownmono, Nat.le_trans h.size hs, h1.trans h.os, h2.trans h.tape, h3.trans h.output⟩
  · intro c q hc hc'
    unfold Ren.ins at hc
    split at hc
    · rename_i e; subst e; exact hl
    · exact h.newid c q hc hc'
  · intro c q hc hc'
    unfold Ren.ins at hc
    split at hc
    · obtain rfl := Option.some.inj hc; have := h.size; exact .inl (by omega)
    · exact h.newblk c q hc hc'
end

/-! ### The temporaries of what is done -/
section
variable {P : Program} {Γ : Fs} {n : Nat} {ops : Array Oper}

/-- The temporaries behind those of the first p steps that are done. -/
def tDn (listed : Array Bool) (l : List Stp) (t : Tm) : Nat → Tm
  | 0 => t
  | p + 1 => match l[p]? with
    | some s => if listed.getD s.i false = true then putT (tDn listed l t p) s.o.dst s.v else tDn listed l t p
    | none => tDn listed l t p

/-- What is known of an order. -/
structure DR (P : Program) (Γ : Fs) (n : Nat) (ops : Array Oper) (l : List Stp) (t : Tm) (H : Heap) : Prop where
  back : ∀ i o, ops[i]? = some o → ∀ e ∈ o.after, Region.binds .any e = true → e.on < i
  pair : ∀ (p q : Nat) (s s' : Stp), p < q → l[p]? = some s → l[q]? = some s' → pairOk P ops.toList (befs ops.toList) s.i s'.i = true
  inj : ∀ (p q : Nat) (s s' : Stp), l[p]? = some s → l[q]? = some s' → s.i = s'.i → p = q
  all : ∀ i, i < ops.size → ∃ (p : Nat) (s : Stp), l[p]? = some s ∧ s.i = i
  chain : Chain P Γ n ops.toList (befs ops.toList) l [] t H

theorem pair_spec {ops : List Oper} {bs : List Nat} {i j : Nat} {a b : Oper} (h : pairOk P ops bs i j = true) (ha : ops[i]? = some a) (hb : ops[j]? = some b) :
    (bs.getD j 0).testBit i = true ∨ (cls P a.op ≠ .ef ∧ (∀ d, a.dst = some d → d ∉ tmpsOf b ops ∧ b.dst ≠ some d) ∧ (∀ d, b.dst = some d → d ∉ tmpsOf a ops)) := by
  unfold pairOk at h
  rw [ha, hb] at h
  simp only [Bool.and_eq_true, Bool.or_eq_true] at h
  rcases h.2 with h | ⟨⟨h1, h2⟩, h3⟩
  · exact .inl h
  · refine .inr ⟨fun e => ?_, fun d hd => ?_, fun d hd => ?_⟩
    · simp [isEf, ha, e] at h1
    · rw [hd] at h2
      simp only [Bool.and_eq_true, Bool.not_eq_true', bne_iff_ne] at h2
      exact ⟨fun hm => by rw [List.contains_eq_mem] at h2; simp [hm] at h2, h2.2⟩
    · rw [hd] at h3
      simp only [Bool.not_eq_true'] at h3
      exact fun hm => by rw [List.contains_eq_mem] at h3; simp [hm] at h3

theorem putT_at {t t' : Tm} {o : Option Nat} {v : Value} {d : Nat} (h : t d = t' d) : putT t o v d = putT t' o v d := by
  cases o with
  | none => exact h
  | some e =>
    by_cases he : d = e
    · subst he; simp only [putT]; rw [upd_self, upd_self]
    · simp only [putT]; rw [upd_ne _ _ he, upd_ne _ _ he]; exact h
theorem putT_off {t : Tm} {o : Option Nat} {v : Value} {d : Nat} (h : o ≠ some d) : putT t o v d = t d := by
  cases o with
  | none => rfl
  | some e => exact upd_ne _ _ (fun he => h (by rw [he]))
theorem putT_comm {t : Tm} {o o' : Option Nat} {v v' : Value} (h : ∀ d, o = some d → o' ≠ some d) : putT (putT t o v) o' v' = putT (putT t o' v') o v := by
  funext d
  by_cases h1 : o = some d
  · rw [putT_off (h d h1)]
    subst h1
    simp only [putT]
    rw [upd_self, upd_self]
  · rw [putT_off (o := o) h1]
    exact putT_at (putT_off h1)

theorem getD_true {listed : Array Bool} {j : Nat} (h : listed.getD j true = false) : j < listed.size ∧ listed.getD j false = false := by
  rcases Nat.lt_or_ge j listed.size with hl | hl
  · refine ⟨hl, ?_⟩
    simp [Array.getD, hl] at h ⊢
    exact h
  · simp [Array.getD, Nat.not_lt.2 hl] at h
theorem getD_set {listed : Array Bool} {i j : Nat} (hi : i < listed.size) : (listed.setIfInBounds i true).getD j false = (if j = i then true else listed.getD j false) := by
  by_cases h : j = i
  · subst h; simp [Array.getD, hi]
  · rw [if_neg h]; exact getD_set_ne false (Ne.symm h)
theorem count_set : ∀ (L : List Bool) (j : Nat), L[j]? = some false → (L.set j true).count false + 1 = L.count false
  | [], j, h => by simp at h
  | x :: L, 0, h => by simp at h; subst h; simp
  | x :: L, j + 1, h => by
    have := count_set L j (by simpa using h)
    cases x <;> simp <;> omega

variable {l : List Stp} {t : Tm} {H : Heap}

theorem DR.ok (D : DR P Γ n ops l t H) {p : Nat} {s : Stp} (h : l[p]? = some s) : StpOk P Γ n ops.toList s (Ts l t p) (Hs l H p) := (Chain.at_ l [] t H D.chain p s h).1
theorem DR.op (D : DR P Γ n ops l t H) {p : Nat} {s : Stp} (h : l[p]? = some s) : ops[s.i]? = some s.o := by simpa using (D.ok h).op

theorem has {l : List Stp} {p q : Nat} {s : Stp} (h : l[q]? = some s) (hp : p ≤ q) : ∃ s', l[p]? = some s' := by
  have hq : q < l.length := by
    rcases Nat.lt_or_ge q l.length with h' | h'
    · exact h'
    · simp [List.getElem?_eq_none h'] at h
  exact ⟨l[p], by simp [show p < l.length by omega]⟩

/-- What stands ahead in the order, and is not done, does not touch what a step reads. -/
theorem DR.before (D : DR P Γ n ops l t H) {listed : Array Bool} (hc : Closed ops listed) (hs : listed.size = ops.size) {pj : Nat} {sj : Stp} (hj : l[pj]? = some sj)
    (hr : ∀ e ∈ sj.o.after, Region.binds .any e = true → listed.getD e.on false = true) {d : Nat} (hd : d ∈ tmpsOf sj.o ops.toList) : ∀ p, p ≤ pj → tDn listed l t p d = Ts l t p d
  | 0, _ => by rw [Ts_zero]; rfl
  | p + 1, hp => by
    have ih := D.before hc hs hj hr hd p (by omega)
    obtain ⟨s, hsp⟩ := has hj (show p ≤ pj by omega)
    rw [Ts_succ l t p s hsp, (D.ok hsp).put]
    simp only [tDn, hsp]
    split
    · exact putT_at ih
    · rename_i hnl
      rw [putT_off, ih]
      intro hdst
      rcases pair_spec (D.pair p pj s sj (by omega) hsp hj) (by simpa using D.op hsp) (by simpa using D.op hj) with hb | ⟨_, h2, _⟩
      · exact hnl (hc.bit_ready D.back hs (D.op hj) hr hb)
      · exact (h2 d hdst).1 hd

/-- What is done of what stands behind does not touch it either. -/
theorem DR.after (D : DR P Γ n ops l t H) {listed : Array Bool} (hc : Closed ops listed) (hs : listed.size = ops.size) {pj : Nat} {sj : Stp} (hj : l[pj]? = some sj)
    (hnot : listed.getD sj.i false = false) {d : Nat} (hd : d ∈ tmpsOf sj.o ops.toList) : ∀ k, tDn listed l t (pj + k) d = tDn listed l t pj d
  | 0 => rfl
  | k + 1 => by
    have ih := D.after hc hs hj hnot hd k
    rw [← ih]
    show tDn listed l t (pj + k + 1) d = _
    cases hsp : l[pj + k]? with
    | none => simp only [tDn, hsp]
    | some s =>
      simp only [tDn, hsp]
      split
      · rename_i hl
        have hne : pj ≠ pj + k := fun e => by
          rw [← e, hj] at hsp
          obtain rfl := Option.some.inj hsp
          rw [hl] at hnot; cases hnot
        rw [putT_off]
        intro hdst
        rcases pair_spec (D.pair pj (pj + k) sj s (by omega) hj hsp) (by simpa using D.op hj) (by simpa using D.op hsp) with hb | ⟨_, _, h3⟩
        · rw [hc.bit D.back hs _ _ hl hb] at hnot; cases hnot
        · exact h3 d hdst hd
      · rfl

theorem DR.temps (D : DR P Γ n ops l t H) {listed : Array Bool} (hc : Closed ops listed) (hs : listed.size = ops.size) {pj : Nat} {sj : Stp} (hj : l[pj]? = some sj)
    (hr : ∀ e ∈ sj.o.after, Region.binds .any e = true → listed.getD e.on false = true) (hnot : listed.getD sj.i false = false) {d : Nat} (hd : d ∈ tmpsOf sj.o ops.toList) : tDn listed l t l.length d = Ts l t pj d := by
  have hlt : pj < l.length := by
    rcases Nat.lt_or_ge pj l.length with h' | h'
    · exact h'
    · simp [List.getElem?_eq_none h'] at hj
  have := D.after hc hs hj hnot hd (l.length - pj)
  rw [show pj + (l.length - pj) = l.length by omega] at this
  rw [this]
  exact D.before hc hs hj hr hd pj (Nat.le_refl _)

/-- One more that is done. -/
theorem DR.put (D : DR P Γ n ops l t H) {listed : Array Bool} (hc : Closed ops listed) (hs : listed.size = ops.size) {pj : Nat} {sj : Stp} (hj : l[pj]? = some sj)
    (hnot : listed.getD sj.i false = false) (hin : sj.i < listed.size) : tDn (listed.setIfInBounds sj.i true) l t l.length = putT (tDn listed l t l.length) sj.o.dst sj.v := by
  have hlt : pj < l.length := by
    rcases Nat.lt_or_ge pj l.length with h' | h'
    · exact h'
    · simp [List.getElem?_eq_none h'] at hj
  have h1 : ∀ p, p ≤ pj → tDn (listed.setIfInBounds sj.i true) l t p = tDn listed l t p := by
    intro p
    induction p with
    | zero => intro _; rfl
    | succ p ih =>
      intro hp
      obtain ⟨s, hsp⟩ := has hj (show p ≤ pj by omega)
      have hne : s.i ≠ sj.i := fun e => by have := D.inj p pj s sj hsp hj e; omega
      simp only [tDn, hsp]
      rw [ih (by omega), getD_set hin, if_neg hne]
  have h2 : ∀ k, tDn (listed.setIfInBounds sj.i true) l t (pj + 1 + k) = putT (tDn listed l t (pj + 1 + k)) sj.o.dst sj.v := by
    intro k
    induction k with
    | zero =>
      show tDn (listed.setIfInBounds sj.i true) l t (pj + 1) = putT (tDn listed l t (pj + 1)) sj.o.dst sj.v
      simp only [tDn, hj]
      rw [getD_set hin, if_pos rfl, if_pos rfl, h1 pj (Nat.le_refl _), hnot, if_neg (by simp)]
    | succ k ih =>
      show tDn (listed.setIfInBounds sj.i true) l t (pj + 1 + k + 1) = putT (tDn listed l t (pj + 1 + k + 1)) sj.o.dst sj.v
      cases hsp : l[pj + 1 + k]? with
      | none => simp only [tDn, hsp]; exact ih
      | some s =>
        have hne : s.i ≠ sj.i := fun e => by have := D.inj (pj + 1 + k) pj s sj hsp hj e; omega
        simp only [tDn, hsp]
        rw [ih, getD_set hin, if_neg hne]
        split
        · rename_i hl
          refine putT_comm fun d hd => ?_
          rcases pair_spec (D.pair pj (pj + 1 + k) sj s (by omega) hj hsp) (by simpa using D.op hj) (by simpa using D.op hsp) with hb | ⟨_, h2, _⟩
          · rw [hc.bit D.back hs _ _ hl hb] at hnot; cases hnot
          · exact (h2 d hd).2
        · rfl
  have := h2 (l.length - (pj + 1))
  rw [show pj + 1 + (l.length - (pj + 1)) = l.length by omega] at this
  exact this
end
end Go.Proofs.YtlpeldimmaajkaaGreat.Fw
