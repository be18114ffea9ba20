/- FRAMEWORK 20: regions that draw their order do in the world what they do on the abstract heap, whatever the order. FRAMEWORK 21: the main law of regions that draw their order. FRAMEWORK 22: whole functions do in the world what they do on the abstract heap. -/
import Derived.Test.YtgnkjpbecgpjoaaGreatDoorFwJ
set_option linter.unusedVariables false
set_option linter.unusedSimpArgs false
namespace Go.Proofs.YtgnkjpbecgpjoaaGreatDoor.Fw
open Go Go.RowKit

/-! ### Blocks that are not there yet -/
section
variable {P : Program} {ρ : Ren} {w : World} {β : Type} {r : β}

theorem Ext.pushH {ρ0 : Ren} {H0 H : Heap} {w0 : World} (h : Ext ρ0 H0 w0 ρ H w) (hd : ∀ b p, ρ b = some p → b < H.length) (o : AObj) : Ext ρ0 H0 w0 ρ (H ++ [o]) w := by
  refine ⟨h.mono, by have := h.hlen; simp; omega, h.newid, h.keep, h.newblk, ?_, h.size, h.os, h.tape, h.output⟩
  intro b p o' hb hx ho
  exact h.ownmono b p o' hb (by rw [List.getElem?_append_left (hd b p (h.mono b p hb))] at hx; exact hx) ho

theorem Ext.ins {ρ0 : Ren} {H0 H : Heap} {w0 w' : World} (h : Ext ρ0 H0 w0 ρ H w) {b : Nat} {p : Pl} (hb : ρ b = none) (hl : H0.length ≤ b) (hp : p.blk = w.heap.size) (hd0 : ∀ b p, ρ0 b = some p → b < H0.length)
    (hk : ∀ k, k < w.heap.size → w'.heap[k]? = w.heap[k]?) (hs : w.heap.size ≤ w'.heap.size) (h1 : w'.os = w.os) (h2 : w'.tape = w.tape) (h3 : w'.output = w.output) : Ext ρ0 H0 w0 (ρ.ins b p) H w' := by
  refine ⟨h.mono.trans (Ren.ins_le hb), h.hlen, ?_, fun k hk' ho => (hk k (Nat.lt_of_lt_of_le hk' h.size)).trans (h.keep k hk' ho), ?_, h.ownmono, Nat.le_trans h.size hs, h1.trans h.os, h2.trans h.tape, h3.trans h.output⟩
  · intro c q hc hc'
    unfold Ren.ins at hc
    split at hc
    · rename_i e; subst e; exact hl
    · exact h.newid c q hc hc'
  · intro c q hc hc'
    unfold Ren.ins at hc
    split at hc
    · obtain rfl := Option.some.inj hc; have := h.size; exact .inl (by omega)
    · exact h.newblk c q hc hc'
end

/-! ### The temporaries of what is done -/
section
variable {P : Program} {Γ : Fs} {n : Nat} {ops : Array Oper}

/-- The temporaries behind those of the first p steps that are done. -/
def tDn (listed : Array Bool) (l : List Stp) (t : Tm) : Nat → Tm
  | 0 => t
  | p + 1 => match l[p]? with
    | some s => if listed.getD s.i false = true then putT (tDn listed l t p) s.o.dst s.v else tDn listed l t p
    | none => tDn listed l t p

/-- What is known of an order. -/
structure DR (P : Program) (Γ : Fs) (n : Nat) (ops : Array Oper) (l : List Stp) (t : Tm) (H : Heap) : Prop where
  back : ∀ i o, ops[i]? = some o → ∀ e ∈ o.after, Region.binds .any e = true → e.on < i
  pair : ∀ (p q : Nat) (s s' : Stp), p < q → l[p]? = some s → l[q]? = some s' → pairOk P ops.toList (befs ops.toList) s.i s'.i = true
  inj : ∀ (p q : Nat) (s s' : Stp), l[p]? = some s → l[q]? = some s' → s.i = s'.i → p = q
  all : ∀ i, i < ops.size → ∃ (p : Nat) (s : Stp), l[p]? = some s ∧ s.i = i
  chain : Chain P Γ n ops.toList (befs ops.toList) l [] t H

theorem pair_spec {ops : List Oper} {bs : List Nat} {i j : Nat} {a b : Oper} (h : pairOk P ops bs i j = true) (ha : ops[i]? = some a) (hb : ops[j]? = some b) :
    (bs.getD j 0).testBit i = true ∨ (cls P a.op ≠ .ef ∧ (∀ d, a.dst = some d → d ∉ tmpsOf b ops ∧ b.dst ≠ some d) ∧ (∀ d, b.dst = some d → d ∉ tmpsOf a ops)) := by
  unfold pairOk at h
  rw [ha, hb] at h
  simp only [Bool.and_eq_true, Bool.or_eq_true] at h
  rcases h.2 with h | ⟨⟨h1, h2⟩, h3⟩
  · exact .inl h
  · refine .inr ⟨fun e => ?_, fun d hd => ?_, fun d hd => ?_⟩
    · simp [isEf, ha, e] at h1
    · rw [hd] at h2
      simp only [Bool.and_eq_true, Bool.not_eq_true', bne_iff_ne] at h2
      exact ⟨fun hm => by rw [List.contains_eq_mem] at h2; simp [hm] at h2, h2.2⟩
    · rw [hd] at h3
      simp only [Bool.not_eq_true'] at h3
      exact fun hm => by rw [List.contains_eq_mem] at h3; simp [hm] at h3

theorem putT_at {t t' : Tm} {o : Option Nat} {v : Value} {d : Nat} (h : t d = t' d) : putT t o v d = putT t' o v d := by
  cases o with
  | none => exact h
  | some e =>
    by_cases he : d = e
    · subst he; simp only [putT]; rw [upd_self, upd_self]
    · simp only [putT]; rw [upd_ne _ _ he, upd_ne _ _ he]; exact h
theorem putT_off {t : Tm} {o : Option Nat} {v : Value} {d : Nat} (h : o ≠ some d) : putT t o v d = t d := by
  cases o with
  | none => rfl
  | some e => exact upd_ne _ _ (fun he => h (by rw [he]))
theorem putT_comm {t : Tm} {o o' : Option Nat} {v v' : Value} (h : ∀ d, o = some d → o' ≠ some d) : putT (putT t o v) o' v' = putT (putT t o' v') o v := by
  funext d
  by_cases h1 : o = some d
  · rw [putT_off (h d h1)]
    subst h1
    simp only [putT]
    rw [upd_self, upd_self]
  · rw [putT_off (o := o) h1]
    exact putT_at (putT_off h1)

theorem getD_true {listed : Array Bool} {j : Nat} (h : listed.getD j true = false) : j < listed.size ∧ listed.getD j false = false := by
  rcases Nat.lt_or_ge j listed.size with hl | hl
  · refine ⟨hl, ?_⟩
    simp [Array.getD, hl] at h ⊢
    exact h
  · simp [Array.getD, Nat.not_lt.2 hl] at h
theorem getD_set {listed : Array Bool} {i j : Nat} (hi : i < listed.size) : (listed.setIfInBounds i true).getD j false = (if j = i then true else listed.getD j false) := by
  by_cases h : j = i
  · subst h; simp [Array.getD, hi]
  · rw [if_neg h]; exact getD_set_ne false (Ne.symm h)
theorem count_set : ∀ (L : List Bool) (j : Nat), L[j]? = some false → (L.set j true).count false + 1 = L.count false
  | [], j, h => by simp at h
  | x :: L, 0, h => by simp at h; subst h; simp
  | x :: L, j + 1, h => by
    have := count_set L j (by simpa using h)
    cases x <;> simp <;> omega

variable {l : List Stp} {t : Tm} {H : Heap}

theorem DR.ok (D : DR P Γ n ops l t H) {p : Nat} {s : Stp} (h : l[p]? = some s) : StpOk P Γ n ops.toList s (Ts l t p) (Hs l H p) := (Chain.at_ l [] t H D.chain p s h).1
theorem DR.op (D : DR P Γ n ops l t H) {p : Nat} {s : Stp} (h : l[p]? = some s) : ops[s.i]? = some s.o := by simpa using (D.ok h).op

theorem has {l : List Stp} {p q : Nat} {s : Stp} (h : l[q]? = some s) (hp : p ≤ q) : ∃ s', l[p]? = some s' := by
  have hq : q < l.length := by
    rcases Nat.lt_or_ge q l.length with h' | h'
    · exact h'
    · simp [List.getElem?_eq_none h'] at h
  exact ⟨l[p], by simp [show p < l.length by omega]⟩

/-- What stands ahead in the order, and is not done, does not touch what a step reads. -/
theorem DR.before (D : DR P Γ n ops l t H) {listed : Array Bool} (hc : Closed ops listed) (hs : listed.size = ops.size) {pj : Nat} {sj : Stp} (hj : l[pj]? = some sj)
    (hr : ∀ e ∈ sj.o.after, Region.binds .any e = true → listed.getD e.on false = true) {d : Nat} (hd : d ∈ tmpsOf sj.o ops.toList) : ∀ p, p ≤ pj → tDn listed l t p d = Ts l t p d
  | 0, _ => by rw [Ts_zero]; rfl
  | p + 1, hp => by
    have ih := D.before hc hs hj hr hd p (by omega)
    obtain ⟨s, hsp⟩ := has hj (show p ≤ pj by omega)
    rw [Ts_succ l t p s hsp, (D.ok hsp).put]
    simp only [tDn, hsp]
    split
    · exact putT_at ih
    · rename_i hnl
      rw [putT_off, ih]
      intro hdst
      rcases pair_spec (D.pair p pj s sj (by omega) hsp hj) (by simpa using D.op hsp) (by simpa using D.op hj) with hb | ⟨_, h2, _⟩
      · exact hnl (hc.bit_ready D.back hs (D.op hj) hr hb)
      · exact (h2 d hdst).1 hd

/-- What is done of what stands behind does not touch it either. -/
theorem DR.after (D : DR P Γ n ops l t H) {listed : Array Bool} (hc : Closed ops listed) (hs : listed.size = ops.size) {pj : Nat} {sj : Stp} (hj : l[pj]? = some sj)
    (hnot : listed.getD sj.i false = false) {d : Nat} (hd : d ∈ tmpsOf sj.o ops.toList) : ∀ k, tDn listed l t (pj + k) d = tDn listed l t pj d
  | 0 => rfl
  | k + 1 => by
    have ih := D.after hc hs hj hnot hd k
    rw [← ih]
    show tDn listed l t (pj + k + 1) d = _
    cases hsp : l[pj + k]? with
    | none => simp only [tDn, hsp]
    | some s =>
      simp only [tDn, hsp]
      split
      · rename_i hl
        have hne : pj ≠ pj + k := fun e => by
          rw [← e, hj] at hsp
          obtain rfl := Option.some.inj hsp
          rw [hl] at hnot; cases hnot
        rw [putT_off]
        intro hdst
        rcases pair_spec (D.pair pj (pj + k) sj s (by omega) hj hsp) (by simpa using D.op hj) (by simpa using D.op hsp) with hb | ⟨_, _, h3⟩
        · rw [hc.bit D.back hs _ _ hl hb] at hnot; cases hnot
        · exact h3 d hdst hd
      · rfl

theorem DR.temps (D : DR P Γ n ops l t H) {listed : Array Bool} (hc : Closed ops listed) (hs : listed.size = ops.size) {pj : Nat} {sj : Stp} (hj : l[pj]? = some sj)
    (hr : ∀ e ∈ sj.o.after, Region.binds .any e = true → listed.getD e.on false = true) (hnot : listed.getD sj.i false = false) {d : Nat} (hd : d ∈ tmpsOf sj.o ops.toList) : tDn listed l t l.length d = Ts l t pj d := by
  have hlt : pj < l.length := by
    rcases Nat.lt_or_ge pj l.length with h' | h'
    · exact h'
    · simp [List.getElem?_eq_none h'] at hj
  have := D.after hc hs hj hnot hd (l.length - pj)
  rw [show pj + (l.length - pj) = l.length by omega] at this
  rw [this]
  exact D.before hc hs hj hr hd pj (Nat.le_refl _)

/-- One more that is done. -/
theorem DR.put (D : DR P Γ n ops l t H) {listed : Array Bool} (hc : Closed ops listed) (hs : listed.size = ops.size) {pj : Nat} {sj : Stp} (hj : l[pj]? = some sj)
    (hnot : listed.getD sj.i false = false) (hin : sj.i < listed.size) : tDn (listed.setIfInBounds sj.i true) l t l.length = putT (tDn listed l t l.length) sj.o.dst sj.v := by
  have hlt : pj < l.length := by
    rcases Nat.lt_or_ge pj l.length with h' | h'
    · exact h'
    · simp [List.getElem?_eq_none h'] at hj
  have h1 : ∀ p, p ≤ pj → tDn (listed.setIfInBounds sj.i true) l t p = tDn listed l t p := by
    intro p
    induction p with
    | zero => intro _; rfl
    | succ p ih =>
      intro hp
      obtain ⟨s, hsp⟩ := has hj (show p ≤ pj by omega)
      have hne : s.i ≠ sj.i := fun e => by have := D.inj p pj s sj hsp hj e; omega
      simp only [tDn, hsp]
      rw [ih (by omega), getD_set hin, if_neg hne]
  have h2 : ∀ k, tDn (listed.setIfInBounds sj.i true) l t (pj + 1 + k) = putT (tDn listed l t (pj + 1 + k)) sj.o.dst sj.v := by
    intro k
    induction k with
    | zero =>
      show tDn (listed.setIfInBounds sj.i true) l t (pj + 1) = putT (tDn listed l t (pj + 1)) sj.o.dst sj.v
      simp only [tDn, hj]
      rw [getD_set hin, if_pos rfl, if_pos rfl, h1 pj (Nat.le_refl _), hnot, if_neg (by simp)]
    | succ k ih =>
      show tDn (listed.setIfInBounds sj.i true) l t (pj + 1 + k + 1) = putT (tDn listed l t (pj + 1 + k + 1)) sj.o.dst sj.v
      cases hsp : l[pj + 1 + k]? with
      | none => simp only [tDn, hsp]; exact ih
      | some s =>
        have hne : s.i ≠ sj.i := fun e => by have := D.inj (pj + 1 + k) pj s sj hsp hj e; omega
        simp only [tDn, hsp]
        rw [ih, getD_set hin, if_neg hne]
        split
        · rename_i hl
          refine putT_comm fun d hd => ?_
          rcases pair_spec (D.pair pj (pj + 1 + k) sj s (by omega) hj hsp) (by simpa using D.op hj) (by simpa using D.op hsp) with hb | ⟨_, h2, _⟩
          · rw [hc.bit D.back hs _ _ hl hb] at hnot; cases hnot
          · exact (h2 d hd).2
        · rfl
  have := h2 (l.length - (pj + 1))
  rw [show pj + 1 + (l.length - (pj + 1)) = l.length by omega] at this
  exact this
end
end Go.Proofs.YtgnkjpbecgpjoaaGreatDoor.Fw
set_option linter.unusedVariables false
set_option linter.unusedSimpArgs false
namespace Go.Proofs.YtgnkjpbecgpjoaaGreatDoor.Fw
open Go Go.RowKit

section
variable {P : Program} {Γ : Fs} {n : Nat} {ops : Array Oper} {l : List Stp} {t : Tm} {H : Heap} {β : Type} {r : β}

theorem tmps_operands {o : Oper} {ops : List Oper} {t t' : Tm} (h : ∀ d, d ∈ tmpsOf o ops → t d = t' d) : Agree o.op.operands.toList t t' := fun i hi => by
  refine h i ?_
  unfold tmpsOf
  rw [List.mem_append]
  exact .inl (List.mem_filterMap.2 ⟨_, hi, rfl⟩)
theorem tmps_guard {o : Oper} {ops : List Oper} {t t' : Tm} {n : Nat} (h : ∀ d, d ∈ tmpsOf o ops → t d = t' d) : guardT ops n o t = guardT ops n o t' := by
  unfold guardT
  unfold tmpsOf at h
  cases hg : o.guard with
  | none => rfl
  | some gw =>
    obtain ⟨j, want⟩ := gw
    simp only [hg] at h ⊢
    cases hj : ops[j]? with
    | none => rfl
    | some g =>
      simp only [hj] at h ⊢
      cases hd : g.dst with
      | none => rfl
      | some d =>
        simp only [hd] at h ⊢
        rw [h d (by simp)]

theorem agree_rblk {o : Op} {t t' : Tm} (h : Agree o.operands.toList t t') : rblk t o = rblk t' o := by
  cases o <;> simp only [rblk] <;> simp only [Op.operands] at h
  case load => exact opd_congr h (by simp) _
  case convert => exact opd_congr h (by simp) _
  case slice => exact opd_congr h (by simp) _
  case lookup => exact opd_congr h (by simp) _
  case call c =>
    obtain ⟨callee, args, ats⟩ := c
    cases callee <;> try rfl
    rename_i b
    simp only []
    split
    · exact opds_congr h (fun x hx => by simp [Call.operands]; simpa using hx) _
    · rfl

/-- What lies in a block goes on lying there. -/
theorem kept (D : DR P Γ n ops l t H) {b : Nat} {o : AObj} {p0 : Nat} (h0 : (Hs l H p0)[b]? = some o) : ∀ (k : Nat), p0 + k ≤ l.length →
    (∀ p s, p0 ≤ p → p < p0 + k → l[p]? = some s → s.w = true → cls P s.o.op = .ef → s.H'[b]? = (Hs l H p)[b]?) → (Hs l H (p0 + k))[b]? = some o
  | 0, _, _ => h0
  | k + 1, hk, h => by
    have ih := kept D h0 k (by omega) fun p s h1 h2 => h p s h1 (by omega)
    have hsp : l[p0 + k]? = some l[p0 + k] := by simp
    have ok := D.ok hsp
    show (Hs l H (p0 + k + 1))[b]? = some o
    rw [Hs_succ l H _ _ hsp]
    generalize l[p0 + k] = s at hsp ok
    cases hw : s.w with
    | false => rw [(ok.no hw).2]; exact ih
    | true =>
      cases hc : cls P s.o.op with
      | fl => rw [(ok.fl hw hc).2]; exact ih
      | al =>
        obtain ⟨ob, mk, _, _, e⟩ := ok.al hw hc
        rw [e]
        have hlt : b < (Hs l H (p0 + k)).length := by
          rcases Nat.lt_or_ge b (Hs l H (p0 + k)).length with h' | h'
          · exact h'
          · simp [List.getElem?_eq_none h'] at ih
        rw [List.getElem?_append_left hlt]
        exact ih
      | ef => rw [h _ s (by omega) (by omega) hsp hw hc]; exact ih

/-- The state in the midst of a region. -/
structure DInv (P : Program) (l : List Stp) (t : Tm) (H : Heap) (n : Nat) (ρ0 : Ren) (w0 : World) (a0 : Act) (listed : Array Bool) (a : Act) (w : World) (ρ : Ren) (q : Nat) : Prop where
  qle : q ≤ l.length
  done : ∀ (p : Nat) (s : Stp), p < q → l[p]? = some s → cls P s.o.op = .ef → listed.getD s.i false = true
  no : ∀ (p : Nat) (s : Stp), q ≤ p → l[p]? = some s → listed.getD s.i false = false
  rel : Rel ρ (Hs l H q) w
  ext : Ext ρ0 H w0 ρ (Hs l H q) w
  lens : ∀ p, p ≤ q → H.length ≤ (Hs l H p).length
  tr : TR ρ (tDn listed l t l.length) a.tmps
  late : ∀ (p : Nat) (s : Stp), p < q → l[p]? = some s → s.w = true → cls P s.o.op = .al → listed.getD s.i false = false → ρ (Hs l H p).length = none
  size : a.tmps.size = n
  defers : a.defers = a0.defers

variable {ρ0 : Ren} {w0 : World} {a0 : Act} {listed : Array Bool} {a : Act} {w : World} {ρ : Ren} {q : Nat}

theorem DInv.advance1 (D : DR P Γ n ops l t H) (I : DInv P l t H n ρ0 w0 a0 listed a w ρ q) {s : Stp} (hs : l[q]? = some s) (hne : cls P s.o.op ≠ .ef) :
    DInv P l t H n ρ0 w0 a0 listed a w ρ (q + 1) := by
  have hlt : q < l.length := by
    rcases Nat.lt_or_ge q l.length with h' | h'
    · exact h'
    · simp [List.getElem?_eq_none h'] at hs
  have ok := D.ok hs
  have hq1 := Hs_succ l H q s hs
  have cases2 : s.H' = Hs l H q ∨ ∃ ob, s.H' = Hs l H q ++ [ob] := by
    cases hw : s.w with
    | false => exact .inl (ok.no hw).2
    | true =>
      cases hc : cls P s.o.op with
      | fl => exact .inl (ok.fl hw hc).2
      | al => obtain ⟨ob, mk, _, _, e⟩ := ok.al hw hc; exact .inr ⟨ob, e⟩
      | ef => exact absurd hc hne
  refine ⟨hlt, ?_, fun p s' hp h => I.no p s' (by omega) h, ?_, ?_, ?_, I.tr, ?_, I.size, I.defers⟩
  · intro p s' hp hs' hc
    rcases Nat.lt_or_ge p q with h | h
    · exact I.done p s' h hs' hc
    · obtain rfl : p = q := by omega
      rw [hs] at hs'
      obtain rfl := Option.some.inj hs'
      exact absurd hc hne
  · rw [hq1]
    rcases cases2 with e | ⟨ob, e⟩
    · rw [e]; exact I.rel
    · rw [e]; exact I.rel.push [ob]
  · rw [hq1]
    rcases cases2 with e | ⟨ob, e⟩
    · rw [e]; exact I.ext
    · rw [e]; exact I.ext.pushH I.rel.dom ob
  · intro p hp
    rcases Nat.lt_or_ge q p with h | h
    · obtain rfl : p = q + 1 := by omega
      rw [hq1]
      have := I.lens q (Nat.le_refl _)
      rcases cases2 with e | ⟨ob, e⟩
      · rw [e]; exact this
      · rw [e]; simp; omega
    · exact I.lens p h
  · intro p s' hp hs' hw hc hl
    rcases Nat.lt_or_ge p q with h | h
    · exact I.late p s' h hs' hw hc hl
    · obtain rfl : p = q := by omega
      exact I.rel.fresh

theorem DInv.advance (D : DR P Γ n ops l t H) : ∀ (k q : Nat), l.length - q ≤ k → DInv P l t H n ρ0 w0 a0 listed a w ρ q → ∃ q', DInv P l t H n ρ0 w0 a0 listed a w ρ q' ∧ ∀ s, l[q']? = some s → cls P s.o.op = .ef
  | 0, q, hk, I => ⟨q, I, fun s hs => by
      have := I.qle
      simp [List.getElem?_eq_none (show l.length ≤ q by omega)] at hs⟩
  | k + 1, q, hk, I => by
    cases hs : l[q]? with
    | none => exact ⟨q, I, fun s h => by rw [hs] at h; cases h⟩
    | some s =>
      by_cases hc : cls P s.o.op = .ef
      · exact ⟨q, I, fun s' h => by rw [hs] at h; obtain rfl := Option.some.inj h; exact hc⟩
      · exact DInv.advance D k (q + 1) (by omega) (I.advance1 D hs hc)

/-- A step that is done late. -/
theorem DInv.step (D : DR P Γ n ops l t H) (hc : Closed ops listed) (hsz : listed.size = ops.size) (I : DInv P l t H n ρ0 w0 a0 listed a w ρ q) {pj : Nat} {sj : Stp} (hj : l[pj]? = some sj) (hnot : listed.getD sj.i false = false) (hin : sj.i < listed.size) (hp : pj < q)
    {ρ' : Ren} {w' : World} {v' : Value} (hR : Rel ρ' (Hs l H q) w') (hE : Ext ρ0 H w0 ρ' (Hs l H q) w') (hle : Le ρ ρ') (hv : VR ρ' sj.v v')
    (hl : ∀ (p : Nat) (s : Stp), p < q → l[p]? = some s → s.w = true → cls P s.o.op = .al → listed.getD s.i false = false → s.i ≠ sj.i → ρ' (Hs l H p).length = none) :
    DInv P l t H n ρ0 w0 a0 (listed.setIfInBounds sj.i true) (a.put sj.o.dst v') w' ρ' q := by
  refine ⟨I.qle, ?_, ?_, hR, hE, I.lens, ?_, ?_, by rw [put_size]; exact I.size, by rw [put_defers]; exact I.defers⟩
  · intro p s hp hs hc'
    rw [getD_set hin, I.done p s hp hs hc']
    simp
  · intro p s hp hs
    have hne : s.i ≠ sj.i := fun e => by have := D.inj p pj s sj hs hj e; omega
    rw [getD_set hin, if_neg hne]
    exact I.no p s hp hs
  · rw [D.put hc hsz hj hnot hin]
    exact (I.tr.mono hle).put I.size (D.ok hj).dst hv
  · intro p s hp hs hw hcl hls
    rw [getD_set hin] at hls
    split at hls
    · cases hls
    · rename_i hne; exact hl p s hp hs hw hcl hls hne

/-- A step that is done when its turn comes. -/
theorem DInv.turn (D : DR P Γ n ops l t H) (hc : Closed ops listed) (hsz : listed.size = ops.size) (I : DInv P l t H n ρ0 w0 a0 listed a w ρ q) {sj : Stp} (hj : l[q]? = some sj) (hnot : listed.getD sj.i false = false) (hin : sj.i < listed.size) (hcl : cls P sj.o.op = .ef)
    {ρ' : Ren} {w' : World} {v' : Value} (hR : Rel ρ' (Hs l H (q + 1)) w') (hE : Ext ρ (Hs l H q) w ρ' (Hs l H (q + 1)) w') (hv : VR ρ' sj.v v') :
    DInv P l t H n ρ0 w0 a0 (listed.setIfInBounds sj.i true) (a.put sj.o.dst v') w' ρ' (q + 1) := by
  have hlt : q < l.length := by
    rcases Nat.lt_or_ge q l.length with h' | h'
    · exact h'
    · simp [List.getElem?_eq_none h'] at hj
  have hEE := I.ext.trans hE I.rel.dom
  refine ⟨hlt, ?_, ?_, hR, hEE, ?_, ?_, ?_, by rw [put_size]; exact I.size, by rw [put_defers]; exact I.defers⟩
  · intro p s hp hs hc'
    rw [getD_set hin]
    split
    · rfl
    · rename_i hne
      rcases Nat.lt_or_ge p q with h | h
      · exact I.done p s h hs hc'
      · obtain rfl : p = q := by omega
        rw [hj] at hs
        obtain rfl := Option.some.inj hs
        exact absurd rfl hne
  · intro p s hp hs
    have hne : s.i ≠ sj.i := fun e => by have := D.inj p q s sj hs hj e; omega
    rw [getD_set hin, if_neg hne]
    exact I.no p s (by omega) hs
  · intro p hp
    rcases Nat.lt_or_ge q p with h | h
    · obtain rfl : p = q + 1 := by omega
      exact hEE.hlen
    · exact I.lens p h
  · rw [D.put hc hsz hj hnot hin]
    exact (I.tr.mono hE.mono).put I.size (D.ok hj).dst hv
  · intro p s hp hs hw hcs hls
    rw [getD_set hin] at hls
    split at hls
    · cases hls
    · rename_i hne
      have hpq : p < q := by
        rcases Nat.lt_or_ge p q with h | h
        · exact h
        · obtain rfl : p = q := by omega
          rw [hj] at hs
          obtain rfl := Option.some.inj hs
          exact absurd rfl hne
      have hnone := I.late p s hpq hs hw hcs hls
      cases hρ : ρ' (Hs l H p).length with
      | none => rfl
      | some x =>
        have hge := hE.newid _ _ hρ hnone
        exfalso
        obtain ⟨ob, mk, _, _, e⟩ := (D.ok hs).al hw hcs
        have hb : (Hs l H (p + 1))[(Hs l H p).length]? = some ob := by rw [Hs_succ l H p s hs, e]; simp
        have := kept D hb (q - (p + 1)) (by omega) fun p2 s2 h1 h2 h3 h4 h5 => by
          refine ((Chain.at_ l [] t H D.chain p2 s2 h3).2 h4 h5).2 p s _ (by omega) hs (by simp [blkOf, hw, hcs]) ?_
          cases hb : ((befs ops.toList).getD s2.i 0).testBit s.i with
          | false => rfl
          | true =>
            have := hc.bit D.back hsz _ _ (I.done p2 s2 (by omega) h3 h5) hb
            rw [this] at hls; cases hls
        rw [show p + 1 + (q - (p + 1)) = q by omega] at this
        simp [List.getElem?_eq_none hge] at this

/-- A block that is not made yet stands where it will. -/
theorem DInv.stands (D : DR P Γ n ops l t H) (hc : Closed ops listed) (hsz : listed.size = ops.size) (I : DInv P l t H n ρ0 w0 a0 listed a w ρ q) {p : Nat} {s : Stp} (hs : l[p]? = some s) (hw : s.w = true) (hcs : cls P s.o.op = .al) (hls : listed.getD s.i false = false)
    {p' : Nat} (hp : p < p') (hq : p' ≤ q) : (Hs l H p).length < (Hs l H p').length := by
  obtain ⟨ob, mk, _, _, e⟩ := (D.ok hs).al hw hcs
  have hb : (Hs l H (p + 1))[(Hs l H p).length]? = some ob := by rw [Hs_succ l H p s hs, e]; simp
  have := kept D hb (p' - (p + 1)) (by have := I.qle; omega) fun p2 s2 h1 h2 h3 h4 h5 => by
    refine ((Chain.at_ l [] t H D.chain p2 s2 h3).2 h4 h5).2 p s _ (by omega) hs (by simp [blkOf, hw, hcs]) ?_
    cases hb : ((befs ops.toList).getD s2.i 0).testBit s.i with
    | false => rfl
    | true =>
      have := hc.bit D.back hsz _ _ (I.done p2 s2 (by omega) h3 h5) hb
      rw [this] at hls; cases hls
  rw [show p + 1 + (p' - (p + 1)) = p' by omega] at this
  rcases Nat.lt_or_ge (Hs l H p).length (Hs l H p').length with h | h
  · exact h
  · simp [List.getElem?_eq_none h] at this

theorem drawn_wp (D : DR P Γ n ops l t H) (hΓ : ∀ f F, Γ f = some F → Sound P f F) {Q : Exit → Act → World → Prop} {r : Res} {k : Tm → Heap → Option Res} (hk : k (endT l t) (endH l H) = some r) (hQ : ∀ a' w', Behind ρ0 H w0 a0 n k r a' w' → Q .normal a' w') (hd0 : ∀ b p, ρ0 b = some p → b < H.length) :
    ∀ (fuel : Nat) (listed : Array Bool) (a : Act) (w : World) (ρ : Ren) (q : Nat), listed.size = ops.size → Closed ops listed → DInv P l t H n ρ0 w0 a0 listed a w ρ q → (∀ s, l[q]? = some s → cls P s.o.op = .ef) → listed.toList.count false ≤ fuel → wpAny P .any ops Q fuel listed a w := by
  have fin : ∀ (listed : Array Bool) (a : Act) (w : World) (ρ : Ren) (q : Nat), listed.size = ops.size → Closed ops listed → DInv P l t H n ρ0 w0 a0 listed a w ρ q → Region.ready .any ops listed = [] → Q .normal a w := by
    intro listed a w ρ q hsz hc I hnil
    have hall : ∀ i, i < ops.size → listed.getD i false = true := by
      intro i
      induction i using Nat.strongRecOn with
      | _ i ih =>
        intro hi
        cases hl : listed.getD i false with
        | true => rfl
        | false =>
          have : i ∈ Region.ready .any ops listed := mem_ready.2 ⟨by
            simp [Array.getD, hsz, hi] at hl ⊢; exact hl, ops[i], by simp [hi], fun e he hb => by
            have := D.back i ops[i] (by simp [hi]) e he hb
            exact ih _ this (by omega)⟩
          rw [hnil] at this; cases this
    have hin : ∀ (p : Nat) (s : Stp), l[p]? = some s → s.i < ops.size := fun p s hs => by
      have := D.op hs
      rcases Nat.lt_or_ge s.i ops.size with h | h
      · exact h
      · simp [Array.getElem?_eq_none h] at this
    have hq : q = l.length := by
      have := I.qle
      rcases Nat.lt_or_ge q l.length with h | h
      · have h1 := I.no q l[q] (Nat.le_refl _) (by simp)
        rw [hall _ (hin q l[q] (by simp))] at h1
        cases h1
      · omega
    have ht : ∀ p, tDn listed l t p = Ts l t p := by
      intro p
      induction p with
      | zero => rfl
      | succ p ih =>
        cases hs : l[p]? with
        | none =>
          have : l.length ≤ p := by
            rcases Nat.lt_or_ge p l.length with h | h
            · simp [h] at hs
            · exact h
          simp only [tDn, hs]
          rw [ih]
          simp [Ts, List.take_of_length_le this, List.take_of_length_le (show l.length ≤ p + 1 by omega)]
        | some s =>
          simp only [tDn, hs]
          rw [if_pos (hall _ (hin p s hs)), ih, Ts_succ l t p s hs, (D.ok hs).put]
    subst hq
    refine hQ a w ⟨⟨r, ρ, endT l t, endH l H, Less.refl _, hk, ?_, ?_, ?_⟩, I.size, I.defers⟩
    · have := I.rel; rw [Hs_end] at this; exact this
    · have := I.ext; rw [Hs_end] at this; exact this
    · have := I.tr; rw [ht, Ts_end] at this; exact this
  intro fuel
  induction fuel with
  | zero =>
    intro listed a w ρ q hsz hc I hef hcnt
    have hnil : Region.ready .any ops listed = [] := by
      cases hr : Region.ready .any ops listed with
      | nil => rfl
      | cons j rest =>
        obtain ⟨hju, _⟩ := mem_ready.1 (show j ∈ Region.ready .any ops listed by rw [hr]; simp)
        obtain ⟨h1, h2⟩ := getD_true hju
        exfalso
        have : listed.toList[j]? = some false := by
          simp [Array.getD, h1] at h2
          simp [h1, h2]
        have := List.count_pos_iff.2 (List.mem_of_getElem? this)
        omega
    exact ⟨hnil, fin listed a w ρ q hsz hc I hnil⟩
  | succ fuel ih =>
    intro listed a w ρ q hsz hc I hef hcnt
    refine ⟨fin listed a w ρ q hsz hc I, fun j hjr => ?_⟩
    obtain ⟨hju, o, ho, hr⟩ := mem_ready.1 hjr
    obtain ⟨hin, hnot⟩ := getD_true hju
    obtain ⟨pj, sj, hj, rfl⟩ := D.all j (by omega)
    have e := D.op hj
    rw [ho] at e
    obtain rfl := Option.some.inj e
    have hpq : pj ≤ q := by
      rcases Nat.lt_or_ge q pj with h | h
      · obtain ⟨sq, hsq⟩ := has hj (Nat.le_of_lt h)
        have h1 := I.no q sq (Nat.le_refl _) hsq
        rcases pair_spec (D.pair q pj sq sj h hsq hj) (by simpa using D.op hsq) (by simpa using D.op hj) with hb | ⟨hb, _⟩
        · rw [hc.bit_ready D.back hsz ho hr hb] at h1; cases h1
        · exact absurd (hef sq hsq) hb
      · exact h
    have hsz' : (listed.setIfInBounds sj.i true).size = ops.size := by simp [hsz]
    have hc' : Closed ops (listed.setIfInBounds sj.i true) := by
      intro i oi hoi hl e he hb
      rw [getD_set hin] at hl
      have : listed.getD e.on false = true := by
        split at hl
        · rename_i hi
          subst hi
          rw [ho] at hoi
          obtain rfl := Option.some.inj hoi
          exact hr e he hb
        · exact hc i oi hoi hl e he hb
      exact getD_set_true this
    have hcnt' : (listed.setIfInBounds sj.i true).toList.count false ≤ fuel := by
      have h2 : listed.toList[sj.i]? = some false := by
        simp [Array.getD, hin] at hnot
        simp [hin, hnot]
      have := count_set listed.toList sj.i h2
      rw [Array.toList_setIfInBounds]
      omega
    have ok := D.ok hj
    have hT : ∀ d, d ∈ tmpsOf sj.o ops.toList → tDn listed l t l.length d = Ts l t pj d := fun d hd => D.temps hc hsz hj hr hnot hd
    have hg : Region.wanted sj.o (yielded ops a.tmps) = sj.w := guard_wanted I.tr I.size (by rw [tmps_guard hT]; exact ok.guard)
    have hA := tmps_operands hT
    have next : ∀ (a' : Act) (w' : World) (ρ' : Ren) (q' : Nat), DInv P l t H n ρ0 w0 a0 (listed.setIfInBounds sj.i true) a' w' ρ' q' → wpAny P .any ops Q fuel (listed.setIfInBounds sj.i true) a' w' := fun a' w' ρ' q' I' => by
      obtain ⟨q2, I2, hef2⟩ := I'.advance D _ _ (Nat.le_refl _)
      exact ih _ a' w' ρ' q2 hsz' hc' I2 hef2 hcnt'
    unfold wpOp
    simp only [ho]
    rw [hg]
    rcases Nat.lt_or_ge pj q with hlt | hge
    · have hne : cls P sj.o.op ≠ .ef := fun e => by rw [I.done pj sj hlt hj e] at hnot; cases hnot
      cases hw : sj.w with
      | false =>
        simp only [Bool.false_eq_true, if_false]
        have hv := (ok.no hw).1
        exact next _ _ ρ q (I.step D hc hsz hj hnot hin hlt I.rel I.ext (Le.refl _) (by rw [hv]; exact VR.tuple_mk VL.nil) fun p s hp hs h1 h2 h3 _ => I.late p s hp hs h1 h2 h3)
      | true =>
        simp only [if_true]
        cases hcl : cls P sj.o.op with
        | ef => exact absurd hcl hne
        | fl =>
          obtain ⟨hv, _⟩ := ok.fl hw hcl
          have hfl : fl P (tDn listed l t l.length) (Hs l H q) sj.o.type sj.o.op some = some sj.v := by
            rw [fl_congrT hA]
            rw [fl_congrH (H := Hs l H pj)]
            · exact hv
            · intro b hb
              have hlt' := rblk_lt hv hb
              have h0 : (Hs l H pj)[b]? = some (Hs l H pj)[b] := by simp
              rw [h0]
              have := kept D h0 (q - pj) (by have := I.qle; omega) fun p2 s2 h1 h2 h3 h4 h5 => by
                have hpp : pj < p2 := by
                  rcases Nat.lt_or_ge pj p2 with h | h
                  · exact h
                  · obtain rfl : p2 = pj := by omega
                    rw [hj] at h3
                    obtain rfl := Option.some.inj h3
                    exact absurd h5 hne
                refine ((Chain.at_ l [] t H D.chain p2 s2 h3).2 h4 h5).2 pj sj _ hpp hj (by simp only [blkOf, hw, hcl]; exact hb) ?_
                cases hbt : ((befs ops.toList).getD s2.i 0).testBit sj.i with
                | false => rfl
                | true =>
                  have := hc.bit D.back hsz _ _ (I.done p2 s2 (by omega) h3 h5) hbt
                  rw [this] at hnot; cases hnot
              rw [show pj + (q - pj) = q by omega] at this
              exact this
          obtain ⟨v, v', h1, h2, h3⟩ := fl_sound I.rel I.tr hfl
          obtain rfl := Option.some.inj h1
          exact .inl (val_wp h3 (next _ _ ρ q (I.step D hc hsz hj hnot hin hlt I.rel I.ext (Le.refl _) h2 fun p s hp hs h1 h2 h3 _ => I.late p s hp hs h1 h2 h3)))
        | al =>
          obtain ⟨ob, mk, hv, hvv, hH'⟩ := ok.al hw hcl
          have hal : al P (tDn listed l t l.length) sj.o.op (fun ob mk => some (ob, mk)) = some (ob, mk) := by
            rw [al_congrT hA]; exact hv
          obtain ⟨ob2, mk2, h1, co, v', p, h2, h3, h4, h5⟩ := al_sound (w := w) I.tr hal
          obtain ⟨rfl, rfl⟩ : ob2 = ob ∧ mk2 = mk := by injection h1 with h1; injection h1 with h1 h2; exact ⟨h1, h2⟩
          have hnone := I.late pj sj hlt hj hw hcl hnot
          have hle := Ren.ins_le (p := p) hnone
          have hk' : ∀ j, j < w.heap.size → (w.alloc co).heap[j]? = w.heap[j]? := fun j hj => Below.heap_alloc _ _ _ hj
          have hb : (Hs l H (pj + 1))[(Hs l H pj).length]? = some ob2 := by rw [Hs_succ l H pj sj hj, hH']; simp
          have hat := kept D hb (q - (pj + 1)) (by have := I.qle; omega) fun p2 s2 h1 h2 h3 h4 h5 => by
            refine ((Chain.at_ l [] t H D.chain p2 s2 h3).2 h4 h5).2 pj sj _ (by omega) hj (by simp [blkOf, hw, hcl]) ?_
            cases hb : ((befs ops.toList).getD s2.i 0).testBit sj.i with
            | false => rfl
            | true =>
              have := hc.bit D.back hsz _ _ (I.done p2 s2 (by omega) h3 h5) hb
              rw [this] at hnot; cases hnot
          rw [show pj + 1 + (q - (pj + 1)) = q by omega] at hat
          refine .inl (val_wp h2 (next _ _ (ρ.ins (Hs l H pj).length p) q (I.step D hc hsz hj hnot hin hlt (I.rel.new_at hat hnone h3 h4) (I.ext.ins hnone (I.lens pj (by omega)) h3 hd0 hk' (by show w.heap.size ≤ (w.heap.push co).size; simp) rfl rfl rfl) hle ?_ ?_)))
          · rw [hvv]; exact h5 _ _ hle (Ren.ins_self _ _ _)
          · intro p2 s2 hp2 hs2 hw2 hc2 hl2 hne2
            have h6 := I.late p2 s2 hp2 hs2 hw2 hc2 hl2
            unfold Ren.ins
            split
            · rename_i e
              exfalso
              have hpp : p2 ≠ pj := fun e2 => by subst e2; rw [hj] at hs2; obtain rfl := Option.some.inj hs2; exact hne2 rfl
              rcases Nat.lt_or_gt_of_ne hpp with h | h
              · have := I.stands D hc hsz hs2 hw2 hc2 hl2 h (by omega); omega
              · have := I.stands D hc hsz hj hw hcl hnot h (by omega); omega
            · exact h6
    · obtain rfl : pj = q := by omega
      have hcl := hef sj hj
      cases hw : sj.w with
      | false =>
        simp only [Bool.false_eq_true, if_false]
        obtain ⟨hv, hH'⟩ := ok.no hw
        have e := Hs_succ l H pj sj hj
        rw [hH'] at e
        exact next _ _ ρ (pj + 1) (I.turn D hc hsz hj hnot hin hcl (by rw [e]; exact I.rel) (by rw [e]; exact Ext.refl _ _ _) (by rw [hv]; exact VR.tuple_mk VL.nil))
      | true =>
        simp only [if_true]
        have hv := ok.ef hw hcl
        have hef' : ef P Γ (tDn listed l t l.length) (Hs l H pj) sj.o.type sj.o.op (fun v H => some (v, H)) = some (sj.v, sj.H') := by
          rw [ef_congrT hA]; exact hv
        refine .inl (ef_sound hΓ I.rel I.tr hef' fun v v' ρ' H' w' h1 h2 h3 h4 => ?_)
        obtain ⟨rfl, rfl⟩ : v = sj.v ∧ H' = sj.H' := by injection h1 with h1; injection h1 with h1 h2; exact ⟨h1, h2⟩
        have e := Hs_succ l H pj sj hj
        exact next _ _ ρ' (pj + 1) (I.turn D hc hsz hj hnot hin hcl (by rw [e]; exact h2) (by rw [e]; exact h3) h4)
end
end Go.Proofs.YtgnkjpbecgpjoaaGreatDoor.Fw
set_option linter.unusedVariables false
set_option linter.unusedSimpArgs false
namespace Go.Proofs.YtgnkjpbecgpjoaaGreatDoor.Fw
open Go Go.RowKit

section
variable {P : Program} {Γ : Fs} {β : Type} {r : β}

theorem drawOk_DR {n : Nat} {ops : Array Oper} {g : List Nat} (h : drawOk P ops.toList g = true) {l : List Stp} (hl : l.map Stp.i = g) {t : Tm} {H : Heap} (hc : Chain P Γ n ops.toList (befs ops.toList) l [] t H) : DR P Γ n ops l t H ∧ P.follows .mixedOrders = true := by
  unfold drawOk at h
  simp only [Bool.and_eq_true] at h
  obtain ⟨⟨⟨⟨⟨h1, h2⟩, h3⟩, h4⟩, h5⟩, h6⟩ := h
  have gat : ∀ (p : Nat) (s : Stp), l[p]? = some s → g[p]? = some s.i := fun p s hs => by rw [← hl]; simp [hs]
  refine ⟨⟨?_, ?_, ?_, ?_, hc⟩, h6⟩
  · intro i o ho e he hb
    have hi : i < ops.size := by
      rcases Nat.lt_or_ge i ops.size with h | h
      · exact h
      · simp [Array.getElem?_eq_none h] at ho
    have := List.all_eq_true.1 h1 i (by simpa using hi)
    simp only [Array.getElem?_toList, ho] at this
    rw [Array.all_eq_true_iff_forall_mem] at this
    have := this e he
    rw [hb] at this
    simpa using this
  · intro p q s s' hpq hs hs'
    exact pairsOk_at h2 p q s.i s'.i hpq (gat p s hs) (gat q s' hs')
  · intro p q s s' hs hs' e
    rcases Nat.lt_trichotomy p q with h | h | h
    · exact (nodupB_at h3 p q s.i h (gat p s hs) (by rw [e]; exact gat q s' hs')).elim
    · exact h
    · exact (nodupB_at h3 q p s.i h (by rw [e]; exact gat q s' hs') (gat p s hs)).elim
  · intro i hi
    have := List.all_eq_true.1 h5 i (by simpa using hi)
    rw [List.contains_eq_mem] at this
    have hm : i ∈ g := by simpa using this
    rw [← hl] at hm
    obtain ⟨s, hs, e⟩ := List.mem_map.1 hm
    obtain ⟨p, hp⟩ := List.mem_iff_getElem?.1 hs
    exact ⟨p, s, hp, e⟩

/-- A REGION. -/
theorem regionE_wp (hΓ : ∀ f F, Γ f = some F → Sound P f F) {n id : Nat} {ops : Array Oper} {dr : Bool} {t : Tm} {H : Heap} {r : Res} {k : Tm → Heap → Option Res} (h : regionE P Γ n ops.toList dr t H k = some r)
    {ρ : Ren} {w : World} {a : Act} (hR : Rel ρ H w) (ht : TR ρ t a.tmps) (hn : a.tmps.size = n) {Q : Exit → Act → World → Prop} (hQ : ∀ a' w', Behind ρ H w a n k r a' w' → Q .normal a' w') : (Code.region id ops dr).wp P Q a w := by
  cases dr with
  | false => exact wp_region_list (opsE_sound hΓ _ _ t H k h ρ w a hR ht hn hQ)
  | true =>
    simp only [regionE] at h
    split at h
    · rename_i hd
      obtain ⟨l, hl, hc, hk⟩ := opsD_run _ _ _ _ _ h
      obtain ⟨D, hm⟩ := drawOk_DR hd hl hc
      refine wp_region_any hm ?_
      have I : DInv P l t H n ρ w a (Array.replicate ops.size false) a { w with drawn := w.drawn + 1 } ρ 0 := by
        have t0 : ∀ p, tDn (Array.replicate ops.size false) l t p = t := by
          intro p
          induction p with
          | zero => rfl
          | succ p ih =>
            simp only [tDn]
            split
            · rename_i s hs
              rw [if_neg, ih]
              simp only [Array.getD, Array.size_replicate]
              split <;> simp
            · exact ih
        refine ⟨Nat.zero_le _, fun p s hp => absurd hp (Nat.not_lt_zero _), ?_, hR.drewd _, Ext.drew _, ?_, ?_, fun p s hp => absurd hp (Nat.not_lt_zero _), hn, rfl⟩
        · intro p s _ _
          simp only [Array.getD, Array.size_replicate]
          split <;> simp
        · intro p hp
          obtain rfl : p = 0 := by omega
          exact Nat.le_refl _
        · rw [t0]; exact ht
      obtain ⟨q, I2, hef⟩ := I.advance D _ _ (Nat.le_refl _)
      refine drawn_wp D hΓ hk hQ hR.dom ops.size _ a _ ρ q (by simp) ?_ I2 hef ?_
      · intro i o _ hl
        exfalso
        simp only [Array.getD, Array.size_replicate] at hl
        split at hl <;> simp at hl
      · simp
    · cases h

/-- The results. -/
theorem fin_sound {t : Tm} {H : Heap} {ρ : Ren} {w : World} {tmps : Array Value} (hR : Rel ρ H w) (ht : TR ρ t tmps) : ∀ (l : List ResultVar) (k : List Value → R) {r : Value × Heap}, fin P t H l k = some r →
    ∃ vs vs', k vs = some r ∧ VL ρ vs vs' ∧ (l.mapM (fun | .tmp t => pure (tmps.getD t undef) | .cell a t => do loadVar t (← asAddr (tmps.getD a undef)) : ResultVar → Sem Value)).run P w = .ok vs' w
  | [], k, r, h => ⟨[], [], h, VL.nil, by simp⟩
  | .tmp i :: l, k, r, h => by
    simp only [fin] at h
    replace h := onSome_inv h; obtain ⟨v, hv, h⟩ := h
    obtain ⟨vs, vs', h1, h2, h3⟩ := fin_sound hR ht l _ h
    refine ⟨_, _, h1, VL.cons (ht.1 i v hv) h2, ?_⟩
    rw [List.mapM_cons]
    simp only [Sem.run_bind, Sem.run_pure, Result.andThen_ok, h3]
  | .cell i ty :: l, k, r, h => by
    simp only [fin] at h
    replace h := onSome_inv h; obtain ⟨v, hv, h⟩ := h
    replace h := kPtr_inv h; obtain ⟨q, rfl, h⟩ := h
    replace h := onSome_inv h; obtain ⟨q, rfl, h⟩ := h
    obtain ⟨p, hp, hs, e⟩ := (ht.1 i _ hv).ptr_inv
    obtain ⟨u, u', h1, h2, h3⟩ := ld_sound hR h hp
    obtain ⟨vs, vs', g1, g2, g3⟩ := fin_sound hR ht l _ h1
    refine ⟨_, _, g1, VL.cons h2 g2, ?_⟩
    rw [List.mapM_cons]
    have e2 : (asAddr (tmps.getD i undef)).run P w = .ok ⟨p.blk, p.base + q.off, none⟩ w := by rw [e]; rfl
    simp only [Sem.run_bind, Sem.run_pure, Result.andThen_ok, e2, h3, g3]

theorem results_sound {t : Tm} {H : Heap} {ρ : Ren} {w : World} {tmps : Array Value} (hR : Rel ρ H w) (ht : TR ρ t tmps) {fn : Func} {v : Value} {H' : Heap} (h : fin P t H fn.results.toList (fun vs => retV vs H) = some (v, H')) :
    H' = H ∧ ∃ v', VR ρ v v' ∧ (results fn tmps).run P w = .ok v' w := by
  obtain ⟨vs, vs', h1, h2, h3⟩ := fin_sound hR ht _ _ h
  have hm : (results fn tmps).run P w = .ok (if h : vs'.toArray.size = 1 then vs'.toArray[0] else .tuple vs'.toArray) w := by
    unfold results
    rw [Array.mapM_eq_mapM_toList]
    rw [map_eq_pure_bind]
    simp only [Sem.run_bind, Sem.run_pure, Result.andThen_ok]
    exact Eq.trans (congrArg (fun x : Result (List Value) => (x.andThen fun a w' => Result.ok a.toArray w').andThen fun a w' => Result.ok (if h : a.size = 1 then a[0] else Value.tuple a) w') h3) rfl
  rw [hm]
  match vs, vs', h1, h2 with
  | [], vs', h1, h2 =>
    obtain rfl := h2.nil_inv
    simp only [retV, Option.some.injEq, Prod.mk.injEq] at h1
    obtain ⟨rfl, rfl⟩ := h1
    exact ⟨rfl, _, VR.tuple_mk VL.nil, by simp⟩
  | [u], vs', h1, h2 =>
    obtain ⟨u', m, rfl, hu, hm⟩ := h2.cons_inv
    obtain rfl := hm.nil_inv
    simp only [retV, Option.some.injEq, Prod.mk.injEq] at h1
    obtain ⟨rfl, rfl⟩ := h1
    exact ⟨rfl, _, hu, by simp⟩
  | u :: u2 :: us, vs', h1, h2 =>
    have hl := h2.1
    simp only [retV, Option.some.injEq, Prod.mk.injEq] at h1
    obtain ⟨rfl, rfl⟩ := h1
    refine ⟨rfl, _, VR.tuple_mk h2, ?_⟩
    rw [dif_neg]
    simp at hl ⊢; omega

/-! ### Control -/
/-- A machine comes back out of the function with a value. -/
def Reach (P : Program) (f : FuncId) (cs : List Frame) (m : Machine) (R : Value → World → Prop) : Prop := ∃ fr v w', Steps P m (lone fr cs w') ∧ fr.fn = f ∧ fr.leaving P w' (.returned v) ∧ R v w'

theorem Reach.of_steps {f : FuncId} {cs : List Frame} {m m1 : Machine} {R : Value → World → Prop} (h : Steps P m m1) (h' : Reach P f cs m1 R) : Reach P f cs m R := by
  obtain ⟨fr, v, w', h1, h2⟩ := h'
  exact ⟨fr, v, w', h.trans h1, h2⟩
theorem Reach.mono {f : FuncId} {cs : List Frame} {m : Machine} {R R' : Value → World → Prop} (h : Reach P f cs m R) (hr : ∀ v w', R v w' → R' v w') : Reach P f cs m R' := by
  obtain ⟨fr, v, w', h1, h2, h3, h4⟩ := h
  exact ⟨fr, v, w', h1, h2, h3, hr _ _ h4⟩
/-- A machine that makes the same step comes out alike. -/
theorem Reach.same {f : FuncId} {cs : List Frame} {b : Frame} {a : Act} {td : List Item} {w : World} {m m1 : Machine} {R : Value → World → Prop} (h : Reach P f cs (lone (b.at a td) cs w) R) (h1 : step P (lone (b.at a td) cs w) = .next m1) (h2 : step P m = .next m1) : Reach P f cs m R := by
  obtain ⟨fr, v, w', ⟨n, hn⟩, h3, h4, h5⟩ := h
  cases n with
  | zero =>
    simp only [runN] at hn
    exfalso
    have e : lone (b.at a td) cs w = lone fr cs w' := by injection hn
    have e2 : b.at a td = fr := by
      have := congrArg (fun m : Machine => (m.gs[0]?).map (·.frame)) e
      simpa [lone] using this
    have := h4.1
    rw [← e2] at this
    cases this
  | succ n =>
    simp only [runN, h1] at hn
    exact ⟨fr, v, w', .head h2 ⟨n, hn⟩, h3, h4, h5⟩

/-- What a function brings about. -/
def Post (ρ : Ren) (H : Heap) (w : World) (v : Value) (H' : Heap) (v' : Value) (w' : World) : Prop := ∃ ρ', Rel ρ' H' w' ∧ Ext ρ H w ρ' H' w' ∧ VR ρ' v v'

theorem Post.of_ext {ρ ρ1 : Ren} {H H1 : Heap} {w w1 : World} {v : Value} {H' : Heap} {v' : Value} {w' : World} (h : Ext ρ H w ρ1 H1 w1) (hd : ∀ b p, ρ1 b = some p → b < H1.length) (k : Post ρ1 H1 w1 v H' v' w') : Post ρ H w v H' v' w' := by
  obtain ⟨ρ', h1, h2, h3⟩ := k
  exact ⟨ρ', h1, h.trans h2 hd, h3⟩

theorem sel_inv {t : Tm} : ∀ (lv : List Nat) (k : List Value → R) {r : Value × Heap}, sel t lv k = some r → ∃ vs, k vs = some r ∧ ∀ (ρ : Ren) (tmps : Array Value), TR ρ t tmps → TR ρ (restore lv vs) tmps
  | [], k, r, h => ⟨[], h, fun ρ tmps ht => ⟨(fun i v e => by cases e), ht.2⟩⟩
  | i :: lv, k, r, h => by
    simp only [sel] at h
    replace h := onSome_inv h; obtain ⟨v, hv, h⟩ := h
    obtain ⟨vs, h1, h2⟩ := sel_inv lv _ h
    refine ⟨v :: vs, h1, fun ρ tmps ht => ⟨fun j u hu => ?_, ht.2⟩⟩
    by_cases e : j = i
    · subst e
      simp only [restore] at hu
      rw [upd_self] at hu
      obtain rfl := Option.some.inj hu
      exact ht.1 _ _ hv
    · simp only [restore] at hu
      rw [upd_ne _ _ e] at hu
      exact (h2 ρ tmps ht).1 j u hu

theorem Rel.dies {ρ : Ren} {H H2 : Heap} {w : World} (h : Rel ρ H w) (k : Kill H H2) : Rel ρ H2 w := by
  refine ⟨fun b p hb => k.1 ▸ h.dom b p hb, fun b p o hb ho => ?_, fun b b' p p' o o' hb hb' ho ho' h1 h2 h3 => h.sep b b' p p' o o' hb hb' (k.own ho h1) (k.live ho' h2) h1 h2 h3, h.glob⟩
  rcases k.2 b o ho with rfl | h'
  · exact trivial
  · exact h.obj b p o hb h'
theorem Owns.kill {ρ : Ren} {H H2 : Heap} {j : Nat} (k : Kill H H2) (h : Owns ρ H2 j) : Owns ρ H j := by
  obtain ⟨b, p, o, h1, h2, h3, h4⟩ := h
  exact ⟨b, p, o, h1, k.own h2 h3, h3, h4⟩
theorem Post.kill_l {ρ : Ren} {H H2 : Heap} {w : World} {v : Value} {H' : Heap} {v' : Value} {w' : World} (k : Kill H H2) (h : Post ρ H2 w v H' v' w') : Post ρ H w v H' v' w' := by
  obtain ⟨ρ', h1, h2, h3⟩ := h
  exact ⟨ρ', h1, ⟨h2.mono, k.1 ▸ h2.hlen, fun b p hb hn => k.1 ▸ h2.newid b p hb hn, fun j hj ho => h2.keep j hj fun hk => ho (hk.kill k), fun b p hb hn => (h2.newblk b p hb hn).imp id fun hk => hk.kill k,
    fun b p o' hb ho' hw => let ⟨o, a, b⟩ := h2.ownmono b p o' hb ho' hw; ⟨o, k.own a b, b⟩, h2.size, h2.os, h2.tape, h2.output⟩, h3⟩
theorem Post.kill_r {ρ : Ren} {H H2 : Heap} {w : World} {v : Value} {H' : Heap} {v' : Value} {w' : World} (k : Kill H' H2) (h : Post ρ H w v H' v' w') : Post ρ H w v H2 v' w' := by
  obtain ⟨ρ', h1, h2, h3⟩ := h
  exact ⟨ρ', h1.dies k, ⟨h2.mono, k.1 ▸ h2.hlen, h2.newid, h2.keep, h2.newblk, fun b p o' hb ho' hw => h2.ownmono b p o' hb (k.own ho' hw) hw, h2.size, h2.os, h2.tape, h2.output⟩, h3⟩

/-- A way to tell what a function brings about: what goes ahead of it may be taken in, its end, and blocks that are let go behind it. -/
def Pol (Po : Ren → Heap → World → Value → Heap → Value → World → Prop) : Prop :=
  (∀ {ρ ρ1 : Ren} {H H1 : Heap} {w w1 : World} {v : Value} {H' : Heap} {v' : Value} {w' : World}, Ext ρ H w ρ1 H1 w1 → (∀ b p, ρ1 b = some p → b < H1.length) → Po ρ1 H1 w1 v H' v' w' → Po ρ H w v H' v' w') ∧
  (∀ {ρ : Ren} {H : Heap} {w : World} {v v' : Value}, Rel ρ H w → VR ρ v v' → Po ρ H w v H v' w) ∧
  (∀ {ρ : Ren} {H : Heap} {w : World} {v : Value} {H' H2 : Heap} {v' : Value} {w' : World}, Kill H' H2 → Po ρ H w v H' v' w' → Po ρ H w v H2 v' w')
theorem Post.pol : Pol Post := ⟨fun h hd k => k.of_ext h hd, fun hR hv => ⟨_, hR, Ext.refl _ _ _, hv⟩, fun k h => h.kill_r k⟩

/-- What is known of what goes on at a cut place. -/
def JOkP (P : Program) (b : Frame) (cs : List Frame) (fn : Func) (cuts : Cuts) (Inv : Ren → Heap → World → Prop) (Po : Ren → Heap → World → Value → Heap → Value → World → Prop) (J : List Item → List Value → Heap → R) : Prop :=
  ∀ td vs H v H' lv, J td vs H = some (v, H') → cutOf cuts td = some lv → ∀ ρ w a, Rel ρ H w → Inv ρ H w → TR ρ (restore lv vs) a.tmps → a.tmps.size = fn.ntmps → a.defers = [] →
    Reach P b.fn cs (lone (b.at a td) cs w) (Po ρ H w v H')
def JOk (P : Program) (b : Frame) (cs : List Frame) (fn : Func) (cuts : Cuts) (J : List Item → List Value → Heap → R) : Prop :=
  ∀ td vs H v H' lv, J td vs H = some (v, H') → cutOf cuts td = some lv → ∀ ρ w a, Rel ρ H w → TR ρ (restore lv vs) a.tmps → a.tmps.size = fn.ntmps → a.defers = [] →
    Reach P b.fn cs (lone (b.at a td) cs w) (Post ρ H w v H')

/-- What goes on from step to step. -/
def Stays (Inv : Ren → Heap → World → Prop) : Prop := ∀ {ρ ρ1 : Ren} {H H1 : Heap} {w w1 : World}, Ext ρ H w ρ1 H1 w1 → Inv ρ H w → Inv ρ1 H1 w1
theorem exec_soundP {Inv : Ren → Heap → World → Prop} (hInv : Stays Inv) {Po : Ren → Heap → World → Value → Heap → Value → World → Prop} (hPo : Pol Po) (hΓ : ∀ f F, Γ f = some F → Sound P f F) {b : Frame} {fn : Func} (hf : P.funcs[b.fn]? = some fn) (hk : b.kind = .normal) {cs : List Frame} {cuts : Cuts} {J : List Item → List Value → Heap → R} (hJ : JOkP P b cs fn cuts Inv Po J) :
    ∀ (g : Nat) (td : List Item) (t : Tm) (H : Heap) (v : Value) (H' : Heap), exec P Γ fn cuts J g td t H = some (v, H') → ∀ (ρ : Ren) (w : World) (a : Act), Rel ρ H w → Inv ρ H w → TR ρ t a.tmps → a.tmps.size = fn.ntmps → a.defers = [] →
      Reach P b.fn cs (lone (b.at a td) cs w) (Po ρ H w v H') := by
  intro g
  induction g with
  | zero => intro td t H v H' h; cases h
  | succ g ih =>
    intro td t H v H' h ρ w a hR hI ht hn hd
    have jump' : ∀ (td : List Item) (t : Tm) (H : Heap) (v : Value) (H' : Heap), (match cutOf cuts td with | some lv => sel t lv fun vs => J td vs H | none => exec P Γ fn cuts J g td t H) = some (v, H') → ∀ (ρ : Ren) (w : World) (a : Act), Rel ρ H w → Inv ρ H w → TR ρ t a.tmps → a.tmps.size = fn.ntmps → a.defers = [] →
        Reach P b.fn cs (lone (b.at a td) cs w) (Po ρ H w v H') := by
      intro td t H v H' h ρ w a hR hI ht hn hd
      split at h
      · rename_i lv hlv
        obtain ⟨vs, h1, h2⟩ := sel_inv _ _ h
        exact hJ td vs H v H' lv h1 hlv ρ w a hR hI (h2 ρ _ ht) hn hd
      · exact ih td t H v H' h ρ w a hR hI ht hn hd
    have jump : ∀ (td : List Item) (t : Tm) (H : Heap), (match cutOf cuts td with | some lv => sel t lv fun vs => J td vs H | none => exec P Γ fn cuts J g td t H) = some (v, H') → ∀ (ρ : Ren) (w : World) (a : Act), Rel ρ H w → Inv ρ H w → TR ρ t a.tmps → a.tmps.size = fn.ntmps → a.defers = [] →
        Reach P b.fn cs (lone (b.at a td) cs w) (Po ρ H w v H') := fun td t H h => jump' td t H v H' h
    have fin : fin P t H fn.results.toList (fun vs => retV vs H) = some (v, H') → ∀ (td : List Item), step P (lone (b.at a td) cs w) = .next (lone { b.at a td with mode := .returning } cs w) → Reach P b.fn cs (lone (b.at a td) cs w) (Po ρ H w v H') := by
      intro h td hs
      obtain ⟨rfl, v', h1, h2⟩ := results_sound hR ht h
      exact ⟨{ b.at a td with mode := .returning }, v', w, .one hs, rfl, ⟨rfl, hd, hk, fn, hf, h2⟩, hPo.2.1 hR h1⟩
    unfold exec at h
    simp only [] at h
    split at h
    · exact fin h _ step_end
    · exact .of_steps (.one step_skip) (jump _ _ _ h ρ w a hR hI ht hn hd)
    · rename_i id ops dr K
      obtain ⟨e, a', w', hq, harr⟩ := (regionE_wp (id := id) hΓ h hR ht hn (Q := fun e a' w' => e = .normal ∧ Behind ρ H w a fn.ntmps _ (v, H') a' w') fun a' w' hB => ⟨rfl, hB⟩) b K cs
      obtain ⟨rfl, hB⟩ := hq
      obtain ⟨⟨v1, K1⟩, ρ1, t1, H1, ⟨e1, hl1⟩, h1, h2, h3, h4⟩ := hB.ex
      have e1 : v1 = v := e1
      subst e1
      exact .of_steps harr ((jump' _ _ _ v1 K1 h1 ρ1 w' a' h2 (hInv h3 hI) h4 hB.size (hB.defers.trans hd)).mono fun v' w'' hp => hPo.2.2 hl1 (hPo.1 h3 h2.dom hp))
    · exact .of_steps (.one step_seq) (ih _ _ _ _ _ h ρ w a hR hI ht hn hd)
    · replace h := opd_inv ht h; obtain ⟨u, hu, h⟩ := h
      replace h := kBool_inv h; obtain ⟨bb, rfl, h⟩ := h
      have e := hu.bool_inv
      cases bb with
      | true => exact .of_steps (.one (step_cond e)) (jump _ _ _ h ρ w a hR hI ht hn hd)
      | false => exact .of_steps (.one (step_cond e)) (jump _ _ _ h ρ w a hR hI ht hn hd)
    · exact .of_steps (.one step_block) (ih _ _ _ _ _ h ρ w a hR hI ht hn hd)
    · exact (jump _ _ _ h ρ w a hR hI ht hn hd).same step_inLoop step_loop
    · replace h := onSome_inv h; obtain ⟨K', hK, h⟩ := h
      exact .of_steps (.one (step_exit hK)) (jump _ _ _ h ρ w a hR hI ht hn hd)
    · exact fin h _ step_ret
    · exact .of_steps (.one step_inBlock) (jump _ _ _ h ρ w a hR hI ht hn hd)
    · exact .of_steps (.one step_inLoop) (ih _ _ _ _ _ h ρ w a hR hI ht hn hd)
    · cases h

theorem exec_sound (hΓ : ∀ f F, Γ f = some F → Sound P f F) {b : Frame} {fn : Func} (hf : P.funcs[b.fn]? = some fn) (hk : b.kind = .normal) {cs : List Frame} {cuts : Cuts} {J : List Item → List Value → Heap → R} (hJ : JOk P b cs fn cuts J) :
    ∀ (g : Nat) (td : List Item) (t : Tm) (H : Heap) (v : Value) (H' : Heap), exec P Γ fn cuts J g td t H = some (v, H') → ∀ (ρ : Ren) (w : World) (a : Act), Rel ρ H w → TR ρ t a.tmps → a.tmps.size = fn.ntmps → a.defers = [] →
      Reach P b.fn cs (lone (b.at a td) cs w) (Post ρ H w v H') := fun g td t H v H' h ρ w a hR ht hn hd =>
  exec_soundP (Inv := fun _ _ _ => True) (fun _ _ => trivial) Post.pol hΓ hf hk (fun td vs H v H' lv h1 h2 ρ w a hR _ => hJ td vs H v H' lv h1 h2 ρ w a hR) g td t H v H' h ρ w a hR trivial ht hn hd

theorem run_sound (hΓ : ∀ f F, Γ f = some F → Sound P f F) {b : Frame} {fn : Func} (hf : P.funcs[b.fn]? = some fn) (hk : b.kind = .normal) {cs : List Frame} {cuts : Cuts} : ∀ (m : Nat), JOk P b cs fn cuts (run P Γ fn cuts m)
  | 0 => fun td vs H v H' lv h => by cases h
  | m + 1 => fun td vs H v H' lv h hlv ρ w a hR ht hn hd => by
    simp only [run, hlv, onSome] at h
    exact exec_sound hΓ hf hk (run_sound hΓ hf hk m) _ _ _ _ _ _ h ρ w a hR ht hn hd

theorem argT_at : ∀ (l : List Value) (i j : Nat) (v : Value), argT i l j = some v → ∃ k, j = i + k ∧ l[k]? = some v
  | [], i, j, v, h => by cases h
  | u :: l, i, j, v, h => by
    simp only [argT] at h
    by_cases e : j = i
    · subst e
      rw [upd_self] at h
      exact ⟨0, rfl, by simpa using h⟩
    · rw [upd_ne _ _ e] at h
      obtain ⟨k, rfl, h2⟩ := argT_at l _ _ _ h
      exact ⟨k + 1, by omega, by simpa using h2⟩

/-- A WHOLE FUNCTION. -/
theorem fnE_sound (hΓ : ∀ f F, Γ f = some F → Sound P f F) {f : FuncId} {fn : Func} (hf : P.funcs[f]? = some fn) {cuts : Cuts} {m : Nat} {args : List Value} {H : Heap} {v : Value} {H' : Heap} (h : fnE P Γ fn cuts m args H = some (v, H'))
    {ρ : Ren} {w : World} {args' : List Value} (hR : Rel ρ H w) (hv : VL ρ args args') (hsz : args.length ≤ fn.ntmps) :
    Calls P f args'.toArray w fun e w' => ∃ v' ρ', e = .returned v' ∧ Rel ρ' H' w' ∧ Ext ρ H w ρ' H' w' ∧ VR ρ' v v' := by
  intro cs
  simp only [fnE] at h
  replace h := onSome_inv h; obtain ⟨c, hb, h⟩ := h
  let b : Frame := { (default : Frame) with fn := f, kind := .normal }
  have henter : Frame.enter P f args'.toArray .normal =
      b.at { tmps := args'.toArray ++ Array.replicate (fn.ntmps - args'.toArray.size) undef, defers := [] } [.code c] := by
    simp [Frame.enter, Frame.at, hf, hb, b]
  have := exec_sound (b := b) (cs := cs) hΓ hf rfl (run_sound hΓ hf rfl m) _ _ _ _ _ _ h ρ w { tmps := args'.toArray ++ Array.replicate (fn.ntmps - args'.toArray.size) undef, defers := [] } hR (by
    refine ⟨?_, hR.glob⟩
    intro j u hu
    obtain ⟨k, rfl, hk⟩ := argT_at _ _ _ _ hu
    obtain ⟨u', h1, h2⟩ := hv.get hk
    have hlt : k < args'.length := by
      rcases Nat.lt_or_ge k args'.length with h' | h'
      · exact h'
      · simp [List.getElem?_eq_none h'] at h1
    have e : (args'.toArray ++ Array.replicate (fn.ntmps - args'.toArray.size) undef).getD (0 + k) undef = u' := by
      simp only [Nat.zero_add, Array.getD_eq_getD_getElem?]
      rw [Array.getElem?_append_left (by simpa using hlt)]
      simp [h1]
    rw [e]; exact h2) (by have := hv.1; simp; omega) rfl
  rw [henter]
  obtain ⟨fr, v', w', h1, h2, h3, ρ', h4, h5, h6⟩ := this
  exact ⟨.returned v', w', fr, ⟨v', ρ', rfl, h4, h5, h6⟩, h1, h2, h3⟩

theorem Sound.of_fnE (hΓ : ∀ f F, Γ f = some F → Sound P f F) {f : FuncId} {fn : Func} (hf : P.funcs[f]? = some fn) (hnm : (fn.name == "runtime.NumGoroutine") = false) (hbd : fn.body.isNone = false) {cuts : Cuts} {F : List Value → Heap → R}
    (h : ∀ args H r, F args H = some r → ∃ m, fnE P Γ fn cuts m args H = some r ∧ args.length ≤ fn.ntmps) : Sound P f F := by
  refine .inl ⟨fun args w => ?_, fun args H v H' hF ρ w args' hR hv => ?_⟩
  · have hn' : ¬ fn.name = "runtime.NumGoroutine" := by simpa using hnm
    have hb' : ¬ fn.body = none := by intro e; rw [e] at hbd; cases hbd
    simp [callFunc, hf, hn', hb']
  · obtain ⟨m, h1, h2⟩ := h _ _ _ hF
    exact fnE_sound hΓ hf h1 hR hv h2
end
end Go.Proofs.YtgnkjpbecgpjoaaGreatDoor.Fw
