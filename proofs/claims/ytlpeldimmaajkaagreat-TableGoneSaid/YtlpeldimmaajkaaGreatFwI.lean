/- FRAMEWORK 18: regions that draw their order do in the world what they do on the abstract heap, whatever the order. -/
import Derived.Test.YtlpeldimmaajkaaGreatFwH
set_option linter.unusedVariables false
set_option linter.unusedSimpArgs false
namespace Go.Proofs.YtlpeldimmaajkaaGreat.Fw
open Go Go.RowKit

/-- One operation, as it was carried out on the abstract heap. -/
structure Stp where
  i : Nat
  o : Oper
  w : Bool
  v : Value
  t' : Tm
  H' : Heap

section
variable {P : Program} {β : Type} {r : β}

structure StpOk (P : Program) (Γ : Fs) (n : Nat) (ops : List Oper) (s : Stp) (t : Tm) (H : Heap) : Prop where
  op : ops[s.i]? = some s.o
  dst : ∀ d, s.o.dst = some d → d < n
  put : s.t' = putT t s.o.dst s.v
  guard : guardT ops n s.o t = some s.w
  no : s.w = false → s.v = undef ∧ s.H' = H
  fl : s.w = true → cls P s.o.op = .fl → fl P t H s.o.type s.o.op some = some s.v ∧ s.H' = H
  al : s.w = true → cls P s.o.op = .al → ∃ ob mk, al P t s.o.op (fun ob mk => some (ob, mk)) = some (ob, mk) ∧ s.v = mk H.length ∧ s.H' = H ++ [ob]
  ef : s.w = true → cls P s.o.op = .ef → ef P Γ t H s.o.type s.o.op (fun v H => some (v, H)) = some (s.v, s.H')

/-- The block that a step hangs on, or makes. -/
def blkOf (P : Program) (s : Stp) (t : Tm) (H : Heap) : Option Nat :=
  match s.w with
  | false => none
  | true => match cls P s.o.op with
    | .fl => rblk t s.o.op
    | .al => some H.length
    | .ef => none
def blks (P : Program) (s : Stp) (t : Tm) (H : Heap) (rs : List (Nat × Nat)) : List (Nat × Nat) := match blkOf P s t H with | some b => (s.i, b) :: rs | none => rs

def Chain (P : Program) (Γ : Fs) (n : Nat) (ops : List Oper) (bs : List Nat) : List Stp → List (Nat × Nat) → Tm → Heap → Prop
  | [], _, _, _ => True
  | s :: l, rs, t, H => StpOk P Γ n ops s t H ∧ (s.w = true → cls P s.o.op = .ef → ∀ x ∈ rs, (bs.getD s.i 0).testBit x.1 = false → s.H'[x.2]? = H[x.2]?) ∧ Chain P Γ n ops bs l (blks P s t H rs) s.t' s.H'

def endT : List Stp → Tm → Tm
  | [], t => t
  | s :: l, _ => endT l s.t'
def endH : List Stp → Heap → Heap
  | [], H => H
  | s :: l, _ => endH l s.H'

theorem unt_inv {H H' : Heap} {b : Nat} {k : Option β} (h : unt H H' b k = some r) : H'[b]? = H[b]? ∧ k = some r := by
  unfold unt at h
  split at h
  · rename_i e; exact ⟨e, h⟩
  · cases h
theorem untouched_inv {H H' : Heap} {bef : Nat} : ∀ {rs : List (Nat × Nat)} {k : Option β}, untouched H H' bef rs k = some r → (∀ x ∈ rs, bef.testBit x.1 = false → H'[x.2]? = H[x.2]?) ∧ k = some r
  | [], k, h => ⟨(fun _ hx => by cases hx), h⟩
  | (i, b) :: rs, k, h => by
    simp only [untouched] at h
    split at h
    · rename_i ht
      obtain ⟨h1, h2⟩ := untouched_inv h
      refine ⟨fun x hx hb => ?_, h2⟩
      rcases List.mem_cons.1 hx with rfl | hx
      · simp only [ht] at hb; cases hb
      · exact h1 x hx hb
    · obtain ⟨h0, h⟩ := unt_inv h
      obtain ⟨h1, h2⟩ := untouched_inv h
      refine ⟨fun x hx hb => ?_, h2⟩
      rcases List.mem_cons.1 hx with rfl | hx
      · exact h0
      · exact h1 x hx hb

theorem opsD_run {Γ : Fs} {n : Nat} {ops : List Oper} {bs : List Nat} : ∀ (g : List Nat) (rs : List (Nat × Nat)) (t : Tm) (H : Heap) (k : Tm → Heap → Option β), opsD P Γ n ops bs g rs t H k = some r →
    ∃ l : List Stp, l.map Stp.i = g ∧ Chain P Γ n ops bs l rs t H ∧ k (endT l t) (endH l H) = some r
  | [], rs, t, H, k, h => ⟨[], rfl, trivial, h⟩
  | i :: g, rs, t, H, k, h => by
    simp only [opsD] at h
    replace h := onSome_inv h; obtain ⟨o, ho, h⟩ := h
    have fin : ∀ (s : Stp), s.i = i → StpOk P Γ n ops s t H → (s.w = true → cls P s.o.op = .ef → ∀ x ∈ rs, (bs.getD s.i 0).testBit x.1 = false → s.H'[x.2]? = H[x.2]?) →
        opsD P Γ n ops bs g (blks P s t H rs) s.t' s.H' k = some r → ∃ l : List Stp, l.map Stp.i = i :: g ∧ Chain P Γ n ops bs l rs t H ∧ k (endT l t) (endH l H) = some r := fun s hi h1 h2 h3 => by
      obtain ⟨l, q1, q2, q3⟩ := opsD_run g _ _ _ k h3
      exact ⟨s :: l, by simp [hi, q1], ⟨h1, h2, q2⟩, q3⟩
    rcases guard_inv h with ⟨hg, h⟩ | ⟨hg, h⟩
    · split at h
      · rename_i hc
        obtain ⟨v, hv, h⟩ := fl_val h
        obtain ⟨hd, h⟩ := put_inv h
        refine fin ⟨i, o, true, v, putT t o.dst v, H⟩ rfl ⟨ho, hd, rfl, hg, (fun e => by cases e), fun _ _ => ⟨hv, rfl⟩, (fun _ e => by rw [hc] at e; cases e), (fun _ e => by rw [hc] at e; cases e)⟩ (fun _ e => by rw [hc] at e; cases e) ?_
        simp only [blks, blkOf, hc]
        cases hb : rblk t o.op with
        | none => simp only [hb] at h; exact h
        | some b => simp only [hb] at h; exact h
      · rename_i hc
        obtain ⟨ob, mk, hv, h⟩ := al_val h
        obtain ⟨hd, h⟩ := put_inv h
        refine fin ⟨i, o, true, mk H.length, putT t o.dst (mk H.length), H ++ [ob]⟩ rfl ⟨ho, hd, rfl, hg, (fun e => by cases e), (fun _ e => by rw [hc] at e; cases e), fun _ _ => ⟨ob, mk, hv, rfl, rfl⟩, (fun _ e => by rw [hc] at e; cases e)⟩ (fun _ e => by rw [hc] at e; cases e) ?_
        simp only [blks, blkOf, hc]
        exact h
      · rename_i hc
        obtain ⟨v, H', hv, h⟩ := ef_val h
        obtain ⟨hu, h⟩ := untouched_inv h
        obtain ⟨hd, h⟩ := put_inv h
        refine fin ⟨i, o, true, v, putT t o.dst v, H'⟩ rfl ⟨ho, hd, rfl, hg, (fun e => by cases e), (fun _ e => by rw [hc] at e; cases e), (fun _ e => by rw [hc] at e; cases e), fun _ _ => hv⟩ (fun _ _ => hu) ?_
        simp only [blks, blkOf, hc]
        exact h
    · obtain ⟨hd, h⟩ := put_inv h
      refine fin ⟨i, o, false, undef, putT t o.dst undef, H⟩ rfl ⟨ho, hd, rfl, hg, fun _ => ⟨rfl, rfl⟩, (fun e => by cases e), (fun e => by cases e), (fun e => by cases e)⟩ (fun e => by cases e) ?_
      exact h

/-- The states along a run. -/
def Ts (l : List Stp) (t : Tm) (p : Nat) : Tm := endT (l.take p) t
def Hs (l : List Stp) (H : Heap) (p : Nat) : Heap := endH (l.take p) H

theorem Ts_zero (l : List Stp) (t : Tm) : Ts l t 0 = t := rfl
theorem Hs_zero (l : List Stp) (H : Heap) : Hs l H 0 = H := rfl
theorem Ts_succ : ∀ (l : List Stp) (t : Tm) (p : Nat) (s : Stp), l[p]? = some s → Ts l t (p + 1) = s.t'
  | [], _, _, _, h => by simp at h
  | s :: l, t, 0, s', h => by simp at h; subst h; simp [Ts, endT]
  | s :: l, t, p + 1, s', h => by
    have := Ts_succ l s.t' p s' (by simpa using h)
    simpa [Ts, endT] using this
theorem Hs_succ : ∀ (l : List Stp) (H : Heap) (p : Nat) (s : Stp), l[p]? = some s → Hs l H (p + 1) = s.H'
  | [], _, _, _, h => by simp at h
  | s :: l, H, 0, s', h => by simp at h; subst h; simp [Hs, endH]
  | s :: l, H, p + 1, s', h => by
    have := Hs_succ l s.H' p s' (by simpa using h)
    simpa [Hs, endH] using this
theorem Ts_cons (s : Stp) (l : List Stp) (t : Tm) (p : Nat) : Ts (s :: l) t (p + 1) = Ts l s.t' p := by simp [Ts, endT]
theorem Hs_cons (s : Stp) (l : List Stp) (H : Heap) (p : Nat) : Hs (s :: l) H (p + 1) = Hs l s.H' p := by simp [Hs, endH]
theorem Ts_end (l : List Stp) (t : Tm) : Ts l t l.length = endT l t := by simp [Ts]
theorem Hs_end (l : List Stp) (H : Heap) : Hs l H l.length = endH l H := by simp [Hs]

/-- What a chain says of each place. -/
theorem Chain.at_ {Γ : Fs} {n : Nat} {ops : List Oper} {bs : List Nat} : ∀ (l : List Stp) (rs : List (Nat × Nat)) (t : Tm) (H : Heap), Chain P Γ n ops bs l rs t H → ∀ (p : Nat) (s : Stp), l[p]? = some s →
    StpOk P Γ n ops s (Ts l t p) (Hs l H p) ∧
    (s.w = true → cls P s.o.op = .ef → (∀ x ∈ rs, (bs.getD s.i 0).testBit x.1 = false → s.H'[x.2]? = (Hs l H p)[x.2]?) ∧
      ∀ q s2 b, q < p → l[q]? = some s2 → blkOf P s2 (Ts l t q) (Hs l H q) = some b → (bs.getD s.i 0).testBit s2.i = false → s.H'[b]? = (Hs l H p)[b]?)
  | [], _, _, _, _, p, s, h => by simp at h
  | s0 :: l, rs, t, H, hc, 0, s, h => by
    simp at h; subst h
    exact ⟨hc.1, fun h1 h2 => ⟨hc.2.1 h1 h2, fun q _ _ hq => absurd hq (Nat.not_lt_zero _)⟩⟩
  | s0 :: l, rs, t, H, hc, p + 1, s, h => by
    obtain ⟨h1, h2⟩ := Chain.at_ l _ _ _ hc.2.2 p s (by simpa using h)
    rw [Ts_cons, Hs_cons]
    refine ⟨h1, fun h3 h4 => ?_⟩
    obtain ⟨h5, h6⟩ := h2 h3 h4
    have hsub : ∀ x ∈ rs, x ∈ blks P s0 t H rs := fun x hx => by
      unfold blks
      split
      · exact List.mem_cons_of_mem _ hx
      · exact hx
    refine ⟨fun x hx => h5 x (hsub x hx), fun q s2 b hq hs2 hb ht => ?_⟩
    cases q with
    | zero =>
      simp at hs2
      subst hs2
      refine h5 (s0.i, b) ?_ ht
      unfold blks
      rw [show blkOf P s0 t H = some b from hb]
      exact List.mem_cons_self
    | succ q =>
      refine h6 q s2 b (by omega) (by simpa using hs2) ?_ ht
      rw [Ts_cons, Hs_cons] at hb
      exact hb
end
end Go.Proofs.YtlpeldimmaajkaaGreat.Fw
