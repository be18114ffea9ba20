/- FRAMEWORK 12: append. -/
import Derived.Test.YtlpeldimmaajkaaGreatFwB
set_option linter.unusedVariables false
set_option linter.unusedSimpArgs false
namespace Go.Proofs.YtlpeldimmaajkaaGreat.Fw
open Go Go.RowKit

section
variable {P : Program} {ρ : Ren} {w : World} {β : Type} {r : β}

/-- A new block, in a world that is told by what it has alone. -/
theorem Rel.new_ge {H : Heap} (h : Rel ρ H w) {o : AObj} {w' : World} {p : Pl} (hp : w.heap.size ≤ p.blk) (hk : ∀ k, k < w.heap.size → w'.heap[k]? = w.heap[k]?)
    (ho : ∀ ρ', Le ρ ρ' → OR ρ' w' p o) : Rel (ρ.ins H.length p) (H ++ [o]) w' := by
  have hn := h.fresh
  have hle := Ren.ins_le (p := p) hn
  have hlt : ∀ c q x, ρ c = some q → H[c]? = some x → x.live = true → q.blk < w.heap.size := fun c q x h1 h2 h3 => (h.obj c q x h1 h2).blk_lt h3
  have hold : ∀ (c : Nat) (q : Pl) (x : AObj), ρ c = some q → (H ++ [o])[c]? = some x → H[c]? = some x := fun c q x hc hx => by
    rw [List.getElem?_append_left (h.dom c q hc)] at hx; exact hx
  refine ⟨?_, ?_, ?_, h.glob.mono hle⟩
  · intro c q hc
    unfold Ren.ins at hc
    split at hc
    · rename_i e; subst e; simp
    · have := h.dom c q hc; simp; omega
  · intro c q x hc hx
    unfold Ren.ins at hc
    split at hc
    · rename_i e
      subst e
      simp at hx
      subst hx
      obtain rfl := Option.some.inj hc
      exact ho _ hle
    · have hx' := hold c q x hc hx
      have := (h.obj c q x hc hx').mono hle
      cases x with
      | dead => exact trivial
      | cells cs esz own => exact this.of_block (hk _ (hlt c q _ hc hx' rfl))
      | map es bs clk => exact this.of_block (hk _ (hlt c q _ hc hx' rfl))
      | iter r since seen last => exact this.of_block (hk _ (hlt c q _ hc hx' rfl))
  · intro c c' q q' x x' hc hc' hx hx' hown hlive hne
    have hx_live : x.live = true := by cases x <;> simp_all [AObj.own, AObj.live]
    unfold Ren.ins at hc hc'
    split at hc
    · rename_i e
      subst e
      obtain rfl := Option.some.inj hc
      rw [if_neg (Ne.symm hne)] at hc'
      have := hlt c' q' x' hc' (hold c' q' x' hc' hx') hlive
      omega
    · rename_i hcb
      split at hc'
      · rename_i e
        subst e
        obtain rfl := Option.some.inj hc'
        have := hlt c q x hc (hold c q x hc hx) hx_live
        omega
      · exact h.sep c c' q q' x x' hc hc' (hold c q x hc hx) (hold c' q' x' hc' hx') hown hlive hne

theorem Ext.new_ge {H : Heap} (h : Rel ρ H w) {o : AObj} {w' : World} {p : Pl} (hp : w.heap.size ≤ p.blk) (hk : ∀ k, k < w.heap.size → w'.heap[k]? = w.heap[k]?) (hs : w.heap.size ≤ w'.heap.size)
    (h1 : w'.os = w.os) (h2 : w'.tape = w.tape) (h3 : w'.output = w.output) : Ext ρ H w (ρ.ins H.length p) (H ++ [o]) w' := by
  refine ⟨Ren.ins_le h.fresh, by simp, ?_, fun k hk' _ => hk k hk', ?_, ?_, hs, h1, h2, h3⟩
  · intro c q hc hc'
    unfold Ren.ins at hc
    split at hc
    · rename_i e; subst e; exact Nat.le_refl _
    · rw [hc'] at hc; cases hc
  · intro c q hc hc'
    unfold Ren.ins at hc
    split at hc
    · obtain rfl := Option.some.inj hc; exact .inl (by omega)
    · rw [hc'] at hc; cases hc
  · intro c q o' hc hx ho
    exact ⟨o', by rw [List.getElem?_append_left (h.dom c q hc)] at hx; exact hx, ho⟩

theorem Rel.new_gen {H : Heap} (h : Rel ρ H w) {o : AObj} {w' : World} {p : Pl} (hp : p.blk = w.heap.size) (hk : ∀ k, k < w.heap.size → w'.heap[k]? = w.heap[k]?)
    (ho : ∀ ρ', Le ρ ρ' → OR ρ' w' p o) : Rel (ρ.ins H.length p) (H ++ [o]) w' := h.new_ge (Nat.le_of_eq hp.symm) hk ho
theorem Ext.new_gen {H : Heap} (h : Rel ρ H w) {o : AObj} {w' : World} {p : Pl} (hp : p.blk = w.heap.size) (hk : ∀ k, k < w.heap.size → w'.heap[k]? = w.heap[k]?) (hs : w.heap.size ≤ w'.heap.size)
    (h1 : w'.os = w.os) (h2 : w'.tape = w.tape) (h3 : w'.output = w.output) : Ext ρ H w (ρ.ins H.length p) (H ++ [o]) w' := Ext.new_ge h (Nat.le_of_eq hp.symm) hk hs h1 h2 h3

/-- A block goes on under another number: its old one is let go. -/
theorem Rel.rename {H : Heap} (h : Rel ρ H w) {b : Nat} {p p' : Pl} {o o' : AObj} (hb : ρ b = some p) (ho : H[b]? = some o) (hown : o.own = true) (hp : p'.blk = p.blk) {w' : World}
    (hk : ∀ k, k ≠ p.blk → w'.heap[k]? = w.heap[k]?) (hor : ∀ ρ', Le ρ ρ' → OR ρ' w' p' o') : Rel (ρ.ins H.length p') (H.set b .dead ++ [o']) w' := by
  have hn := h.fresh
  have hle := Ren.ins_le (p := p') hn
  have hol : o.live = true := by cases o <;> simp_all [AObj.own, AObj.live]
  have hold : ∀ (c : Nat) (q : Pl) (x : AObj), ρ c = some q → (H.set b .dead ++ [o'])[c]? = some x → x.live = true → c ≠ b ∧ H[c]? = some x := fun c q x hc hx hl => by
    have hlt := h.dom c q hc
    rw [List.getElem?_append_left (by simpa using hlt)] at hx
    by_cases e : c = b
    · subst e
      simp [hlt] at hx
      subst hx
      simp [AObj.live] at hl
    · rw [List.getElem?_set_ne (Ne.symm e)] at hx; exact ⟨e, hx⟩
  refine ⟨?_, ?_, ?_, h.glob.mono hle⟩
  · intro c q hc
    unfold Ren.ins at hc
    split at hc
    · rename_i e; subst e; simp
    · have := h.dom c q hc; simp; omega
  · intro c q x hc hx
    unfold Ren.ins at hc
    split at hc
    · rename_i e
      subst e
      rw [List.getElem?_append_right (by simp)] at hx
      simp at hx
      subst hx
      obtain rfl := Option.some.inj hc
      exact hor _ hle
    · cases hl : x.live with
      | false => cases x <;> simp_all [AObj.live, OR]
      | true =>
        obtain ⟨hne, hx'⟩ := hold c q x hc hx hl
        exact ((h.obj c q x hc hx').mono hle).of_block (hk _ (fun e => h.sep b c p q o x hb hc ho hx' hown hl (Ne.symm hne) e.symm))
  · intro c c' q q' x x' hc hc' hx hx' hown1 hlive hne
    have hxl : x.live = true := by cases x <;> simp_all [AObj.own, AObj.live]
    unfold Ren.ins at hc hc'
    split at hc
    · rename_i e
      subst e
      obtain rfl := Option.some.inj hc
      rw [if_neg (Ne.symm hne)] at hc'
      obtain ⟨hne', hx''⟩ := hold c' q' x' hc' hx' hlive
      rw [hp]
      exact h.sep b c' p q' o x' hb hc' ho hx'' hown hlive (Ne.symm hne')
    · split at hc'
      · rename_i e
        subst e
        obtain rfl := Option.some.inj hc'
        obtain ⟨hne', hx''⟩ := hold c q x hc hx hxl
        rw [hp]
        exact h.sep c b q p x o hc hb hx'' ho hown1 hol hne'
      · obtain ⟨a1, a2⟩ := hold c q x hc hx hxl
        obtain ⟨b1, b2⟩ := hold c' q' x' hc' hx' hlive
        exact h.sep c c' q q' x x' hc hc' a2 b2 hown1 hlive hne

theorem Ext.rename {H : Heap} (h : Rel ρ H w) {b : Nat} {p p' : Pl} {o o' : AObj} (hb : ρ b = some p) (ho : H[b]? = some o) (hown : o.own = true) (hp : p'.blk = p.blk) {w' : World}
    (hk : ∀ k, k ≠ p.blk → w'.heap[k]? = w.heap[k]?) (hs : w'.heap.size = w.heap.size) (h1 : w'.os = w.os) (h2 : w'.tape = w.tape) (h3 : w'.output = w.output) : Ext ρ H w (ρ.ins H.length p') (H.set b .dead ++ [o']) w' := by
  have hO : Owns ρ H p.blk := ⟨b, p, o, hb, ho, hown, rfl⟩
  refine ⟨Ren.ins_le h.fresh, by simp, ?_, fun k _ hn => hk k (fun e => hn (e ▸ hO)), ?_, ?_, by omega, h1, h2, h3⟩
  · intro c q hc hc'
    unfold Ren.ins at hc
    split at hc
    · rename_i e; subst e; exact Nat.le_refl _
    · rw [hc'] at hc; cases hc
  · intro c q hc hc'
    unfold Ren.ins at hc
    split at hc
    · obtain rfl := Option.some.inj hc; exact .inr (hp ▸ hO)
    · rw [hc'] at hc; cases hc
  · intro c q x hc hx hx2
    have hlt := h.dom c q hc
    rw [List.getElem?_append_left (by simpa using hlt)] at hx
    by_cases e : c = b
    · subst e; exact ⟨o, ho, hown⟩
    · rw [List.getElem?_set_ne (Ne.symm e)] at hx; exact ⟨x, hx, hx2⟩

/-- A block of one's own that is let go, whatever is done to it. -/
theorem Rel.kill_turn {H : Heap} (h : Rel ρ H w) {b : Nat} {p : Pl} {o : AObj} (hb : ρ b = some p) (ho : H[b]? = some o) (hown : o.own = true) {w' : World} (hw : ∀ k, k ≠ p.blk → w'.heap[k]? = w.heap[k]?) : Rel ρ (H.set b .dead) w' := by
  have h1 := h.kill b
  refine ⟨h1.dom, fun c q x hc hx => ?_, h1.sep, h1.glob⟩
  cases hl : x.live with
  | false => cases x <;> simp_all [AObj.live, OR]
  | true =>
    have hne : c ≠ b := fun e => by
      subst e
      rw [List.getElem?_set] at hx
      simp at hx
      rw [← hx.2] at hl
      simp [AObj.live] at hl
    have hx' := hx
    rw [List.getElem?_set_ne (Ne.symm hne)] at hx'
    exact (h1.obj c q x hc hx).of_block (hw _ (fun e => h.sep b c p q o x hb hc ho hx' hown hl (Ne.symm hne) e.symm))
theorem Ext.kill_turn {H : Heap} {b : Nat} {p : Pl} {o : AObj} (hb : ρ b = some p) (ho : H[b]? = some o) (hown : o.own = true) {w' : World}
    (hw : ∀ k, k ≠ p.blk → w'.heap[k]? = w.heap[k]?) (hs : w'.heap.size = w.heap.size) (h1 : w'.os = w.os) (h2 : w'.tape = w.tape) (h3 : w'.output = w.output) : Ext ρ H w ρ (H.set b .dead) w' := by
  refine ⟨Le.refl ρ, by simp, fun c q h h' => (contra h h').elim, fun k _ hn => hw k (fun e => hn ⟨b, p, o, hb, ho, hown, e.symm⟩), fun c q h h' => (contra h h').elim, ?_, by omega, h1, h2, h3⟩
  intro c q x hc hx hx2
  by_cases e : c = b
  · subst e; exact ⟨o, ho, hown⟩
  · rw [List.getElem?_set_ne (Ne.symm e)] at hx; exact ⟨x, hx, hx2⟩

/-- A block that is let go, and a new one. -/
theorem Ext.kill {H : Heap} (b : Nat) : Ext ρ H w ρ (H.set b .dead) w :=
  ⟨Le.refl ρ, by simp, fun b p h h' => (contra h h').elim, fun _ _ _ => rfl, fun b p h h' => (contra h h').elim, fun c p o' hc h ho => by
    by_cases e : c = b
    · subst e
      rw [List.getElem?_set] at h
      simp at h
      rw [← h.2] at ho
      simp [AObj.own] at ho
    · rw [List.getElem?_set_ne (Ne.symm e)] at h; exact ⟨o', h, ho⟩, Nat.le_refl _, rfl, rfl, rfl⟩

/-- The row that append makes. -/
theorem grown_OR {ρ' : Ren} {cs : List Value} {l : List Value} (hv : VL ρ' cs l) (h1 : One cs) (rest : List Value) (w0 : World) (hd : w0.heap = w.heap) (el : TypeId) {esz : Nat} (hz : ∀ t, esz / tyM = t + 1 → el = t) :
    OR ρ' (w0.alloc (.cells (l ++ rest).toArray el)) ⟨w.heap.size, 0, (l ++ rest).length, esz % tyM⟩ (.cells cs esz true) := by
  refine ⟨_, el, (0, 0), by have := heap_new w0 (.cells (l ++ rest).toArray el); rw [hd] at this; exact this, by simp, ⟨rfl, fun t h => ⟨hz t h, rfl⟩⟩, by simp [hv.1], ?_, ?_⟩
  · intro i v hi
    obtain ⟨v', q1, q2⟩ := hv.get hi
    refine ⟨h1 v (List.mem_of_getElem? hi), v', ?_, q2⟩
    have hlt : i < l.length := by
      rcases Nat.lt_or_ge i l.length with h | h
      · exact h
      · simp [List.getElem?_eq_none h] at q1
    simp only [Nat.zero_add, List.getElem?_toArray]
    rw [List.getElem?_append_left hlt]
    exact q1
  · intro _ i _ h; simp at h

theorem zeroCells_len (z : Array Value) (n : Nat) : (Builtin.zeroCells z n).size = n * z.size := by simp [Builtin.zeroCells]

theorem take_all {l : List Value} {n : Nat} (h : l.length = n) : l.take n = l := List.take_of_length_le (by omega)

theorem intD_false {d : TypeDesc} (h : ∀ k, d ≠ .int k) : Builtin.append_.match_1 (motive := fun _ => Bool) d (fun _ => true) (fun _ => false) = false := by
  cases d <;> first | rfl | exact absurd rfl (h _)

/-- What append does when it makes a new row: the world behind it. -/
theorem append_grow {st xt e ty : TypeId} {z : Value} {ats : Array TypeId} {d : TypeDesc} (h0 : ats[0]? = some st) (hx0 : ats[1]? = some xt) (hu : P.underlying st = some (.slice e)) (hux : P.underlying xt = some d) (hnot : ∀ k, d ≠ .int k)
    (hz : zeroOf P e = some z) {s x : Value} {a : Option Addr} {len cap n : Nat} (hs : s = .slice a len cap) {old nw : List Value} (hn : (Builtin.lenOf x).run P w = .ok n w)
    (hnew : ∀ w0 : World, w0.heap = w.heap → (Builtin.firstCells (P.cellsOf e) n x).run P w0 = .ok nw.toArray w0) (hold : ∀ w0 : World, w0.heap = w.heap → (Builtin.firstCells (P.cellsOf e) len s).run P w0 = .ok old.toArray w0)
    (hgt : cap < len + n) (hb : (len + n) * P.bytesOf e ≤ 140737488355328) (hb2 : len + n ≤ 140737488355328) (hzs : z.cells.size = P.cellsOf e) :
    ∃ (newCap : Nat) (w0 : World) (rest : List Value), len + n ≤ newCap ∧ w0.heap = w.heap ∧ w0.os = w.os ∧ w0.tape = w.tape ∧ w0.output = w.output ∧ rest.length = (newCap - (len + n)) * P.cellsOf e ∧
      (Builtin.append_ ats ty #[s, x]).run P w = .ok (.slice (some ⟨w.heap.size, 0, none⟩) (len + n) newCap) (w0.alloc (.cells ((old ++ nw) ++ rest).toArray e)) := by
  subst hs
  obtain ⟨ie, hie⟩ : ∃ i, P.info? e = some i := by unfold zeroOf at hz; split at hz; exact ⟨_, ‹_›⟩; cases hz
  have hbytes : ie.bytes = P.bytesOf e := by simp [Program.bytesOf, hie]
  have hq : ¬ (Builtin.nextslicecap (len + n) cap * ie.bytes > 2 ^ 48) := by
    have h1 := nextslicecap_le hgt
    have h2 : Builtin.nextslicecap (len + n) cap * ie.bytes ≤ 2 * (len + n) * ie.bytes := Nat.mul_le_mul_right _ h1
    rw [hbytes] at h2 ⊢
    rw [Nat.mul_assoc] at h2
    omega
  have hmx : ¬ (((len + n : Nat) : Int) > IntKind.i64.max ∧ (False ∨ ie.bytes = 0)) := by rw [IntKind.max_i64]; omega
  let q := Question.appendCap (len + n) cap e
  let w0 : World := w.drew
  let newCap := q.cut (w.tape w.drawn q)
  have hcap : len + n ≤ newCap := by show len + n ≤ (len + n) + _; omega
  refine ⟨newCap, w0, (Builtin.zeroCells z.cells (newCap - (len + n))).toList, hcap, rfl, rfl, rfl, rfl, by simp [zeroCells_len, hzs], ?_⟩
  have e1 : (typeInfo e).run P w = .ok ie w := by simp [typeInfo, hie]
  have e3 : ∀ w1 : World, (zeroValue e).run P w1 = .ok z w1 := fun w1 => run_zero hz w1
  have hnew0 := hnew w0 rfl
  have hold0 := hold w0 rfl
  have hcut : Question.cut (.appendCap (len + n) cap e) (w.tape w.drawn (.appendCap (len + n) cap e)) = newCap := rfl
  have hn' : ¬ (len + n ≤ cap) := by omega
  have hzz : ∃ i, P.info? e = some i ∧ i.zero = some z := by unfold zeroOf at hz; split at hz; exact ⟨_, ‹_›, hz⟩; cases hz
  obtain ⟨i2, hi2, hz2⟩ := hzz
  rw [hie] at hi2
  obtain rfl := Option.some.inj hi2
  have hq' : ¬ (281474976710656 < Builtin.nextslicecap (len + n) cap * ie.bytes) := by simpa using hq
  have hmx' : ¬ (9223372036854775807 < ((len : Int) + (n : Int))) := by omega
  have hcs : P.cellsOf e = ie.size := by simp [Program.cellsOf, hie]
  rw [hcs] at hnew0 hold0
  simp only [Builtin.append_, List.getElem?_toArray, List.getElem?_cons_zero, List.getElem?_cons_succ, h0, hx0, Sem.run_bind, run_underlying hu, run_underlying hux, Result.andThen_ok, sizeOf_any e 0 ⟨ie, hie⟩, Sem.run_pure]
  simp [sizeOf, typeInfo, zeroValue, hie, hz2, hn, hn', hmx', hq', Question.forced, hcut, newRow]
  rw [hcs, hold0]
  simp only [Result.andThen_ok]
  rw [hnew0]
  simp only [Result.andThen_ok]
  congr 3
  apply Array.ext'
  simp
end
end Go.Proofs.YtlpeldimmaajkaaGreat.Fw
