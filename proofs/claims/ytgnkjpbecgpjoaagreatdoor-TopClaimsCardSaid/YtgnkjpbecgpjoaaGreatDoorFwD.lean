/- FRAMEWORK 11: rows that are written, made, and appended to. FRAMEWORK 12: append. FRAMEWORK 13: append, whole; what changes something. -/
import Derived.Test.YtgnkjpbecgpjoaaGreatDoorFwA
import Derived.Laws.Append
set_option linter.unusedVariables false
set_option linter.unusedSimpArgs false
namespace Go.Proofs.YtgnkjpbecgpjoaaGreatDoor.Fw
open Go Go.RowKit

/-- One block of a world is another one now. -/
structure Turned (w w' : World) (g : Nat) (x : Obj) : Prop where
  at_ : w'.heap[g]? = some x
  other : ∀ k, k ≠ g → w'.heap[k]? = w.heap[k]?
  size : w'.heap.size = w.heap.size
  os : w'.os = w.os
  tape : w'.tape = w.tape
  output : w'.output = w.output

theorem Turned.refl {w : World} {g : Nat} {x : Obj} (h : w.heap[g]? = some x) : Turned w w g x := ⟨h, fun _ _ => rfl, rfl, rfl, rfl, rfl⟩
theorem Turned.trans {w w1 w2 : World} {g : Nat} {x y : Obj} (h : Turned w w1 g x) (k : Turned w1 w2 g y) : Turned w w2 g y :=
  ⟨k.at_, fun j hj => (k.other j hj).trans (h.other j hj), k.size.trans h.size, k.os.trans h.os, k.tape.trans h.tape, k.output.trans h.output⟩

theorem setCell_turned {w : World} {g i : Nat} {cur : Array Value} {el : TypeId} {fz : Nat × Nat} (hg : w.heap[g]? = some (.cells cur el fz)) (v : Value) :
    Turned w (w.setCell ⟨g, i, none⟩ v) g (.cells (cur.setIfInBounds i v) el fz) := by
  refine ⟨?_, fun k hk => Below.heap_setCell w ⟨g, i, none⟩ v k hk, by simp [World.setCell], rfl, rfl, rfl⟩
  simp [World.setCell, Array.getElem?_modify, hg]

theorem splice_len {cs : List Value} {off : Nat} {vs : List Value} (h : off + vs.length ≤ cs.length) : (splice cs off vs).length = cs.length := by
  simp [splice]; omega
theorem splice_get {cs : List Value} {off : Nat} {vs : List Value} (h : off + vs.length ≤ cs.length) (i : Nat) :
    (splice cs off vs)[i]? = if i < off then cs[i]? else if i < off + vs.length then vs[i - off]? else cs[i]? := by
  unfold splice
  rw [List.append_assoc]
  by_cases h1 : i < off
  · rw [if_pos h1, List.getElem?_append_left (by simp; omega), List.getElem?_take, if_pos h1]
  · rw [if_neg h1, List.getElem?_append_right (by simp; omega)]
    have e : (List.take off cs).length = off := by simp; omega
    rw [e]
    by_cases h2 : i < off + vs.length
    · rw [if_pos h2, List.getElem?_append_left (by omega)]
    · rw [if_neg h2, List.getElem?_append_right (by omega), List.getElem?_drop]
      congr 1; omega
theorem splice_nil (cs : List Value) (off : Nat) : splice cs off [] = cs := by simp [splice]
theorem splice_cons {cs : List Value} {off : Nat} {v : Value} {vs : List Value} (h : off + (vs.length + 1) ≤ cs.length) : splice cs off (v :: vs) = splice (cs.set off v) (off + 1) vs := by
  apply List.ext_getElem?
  intro i
  rw [splice_get (by simpa using h), splice_get (by simp; omega)]
  by_cases h1 : i < off
  · rw [if_pos h1, if_pos (by omega), List.getElem?_set_ne (by omega)]
  · rw [if_neg h1]
    by_cases h2 : i = off
    · subst h2
      rw [if_pos (by simp), if_pos (by omega)]
      have hlt : i < cs.length := by omega
      simp [hlt]
    · rw [if_neg (show ¬ i < off + 1 by omega), List.getElem?_set_ne (by omega)]
      simp only [List.length_cons]
      by_cases h3 : i < off + (vs.length + 1)
      · rw [if_pos h3, if_pos (by omega), show i - off = (i - (off + 1)) + 1 by omega]
        rfl
      · rw [if_neg h3, if_neg (by omega)]
theorem set_splice {cs : List Value} {off : Nat} {v : Value} (h : off < cs.length) : cs.set off v = splice cs off [v] := by
  rw [splice_cons (by simp; omega), splice_nil]

section
variable {P : Program} {ρ : Ren} {w : World} {β : Type} {r : β}

theorem storeCells_run : ∀ (vs : List Value) (i g o : Nat) (cur : Array Value) (el : TypeId) (fz : Nat × Nat) (w : World), w.heap[g]? = some (.cells cur el fz) → Unfz cur.size fz → o + i + vs.length ≤ cur.size → One vs →
    ∃ w' cur', (storeCells ⟨g, o, none⟩ vs i).run P w = .ok () w' ∧ Turned w w' g (.cells cur' el fz) ∧ cur'.toList = splice cur.toList (o + i) vs
  | [], i, g, o, cur, el, fz, w, hg, hf, hl, h1 => ⟨w, cur, rfl, Turned.refl hg, (splice_nil _ _).symm⟩
  | v :: vs, i, g, o, cur, el, fz, w, hg, hf, hl, h1 => by
    simp only [List.length_cons] at hl
    have hcell : w.cell? ⟨g, o + i, none⟩ = some (cur.getD (o + i) undef) := by
      have : o + i < cur.size := by omega
      simp [World.cell?, hg, this]
    have hfro : w.frozen? ⟨g, o + i, none⟩ = false := by
      have := hf (o + i) (by omega)
      simp only [World.frozen?, hg]
      simpa using this
    have ht := setCell_turned (i := o + i) hg v
    have hrun : (store ((⟨g, o, none⟩ : Addr).add i) v).run P w = .ok () (w.setCell ⟨g, o + i, none⟩ v) := by
      rw [addr_add, run_store P w _ v _ (h1 v (by simp)), hcell]
      simp [hfro]
    obtain ⟨w', cur', h2, h3, h4⟩ := storeCells_run vs (i + 1) g o _ el fz _ ht.at_ (by simpa using hf) (by simp; omega) (fun u hu => h1 u (by simp [hu]))
    refine ⟨w', cur', by simp only [storeCells, Sem.run_bind, hrun, Result.andThen_ok, h2], ht.trans h3, ?_⟩
    rw [h4, splice_cons (by simp; omega), Array.toList_setIfInBounds]
    rfl

/-- What a spliced row says. -/
theorem OR.splice {w' : World} {p : Pl} {cs vs vs' : List Value} {esz : Nat} {c c' : Array Value} {el : TypeId} {fz : Nat × Nat} (h4 : p.base + cs.length ≤ c.size) (h2 : c.size = p.size) (h3 : p.esz = esz % tyM ∧ ∀ t, esz / tyM = t + 1 → el = t ∧ p.base = 0)
    (h5 : ∀ (i : Nat) (v : Value), cs[i]? = some v → v.oneCell' = true ∧ ∃ v', c[p.base + i]? = some v' ∧ VR ρ v v') (h6 : Unfz c.size fz) {off : Nat} (hoff : off + vs.length ≤ cs.length) (hv : VL ρ vs vs') (h1 : One vs)
    (hw : w'.heap[p.blk]? = some (.cells c' el fz)) (hc : c'.toList = Fw.splice c.toList (p.base + off) vs') : OR ρ w' p (.cells (Fw.splice cs off vs) esz true) := by
  have hlen : p.base + off + vs'.length ≤ c.toList.length := by rw [← hv.1]; simp; omega
  have hsz : c'.size = c.size := by
    have := congrArg List.length hc
    rw [splice_len hlen] at this
    simpa using this
  have hget : ∀ i, c'[p.base + i]? = if i < off then c[p.base + i]? else if i < off + vs.length then vs'[i - off]? else c[p.base + i]? := fun i => by
    have : c'[p.base + i]? = c'.toList[p.base + i]? := by simp
    rw [this, hc, splice_get hlen, hv.1]
    by_cases a : i < off
    · rw [if_pos (by omega), if_pos a]; simp
    · rw [if_neg (by omega), if_neg a]
      by_cases b : i < off + vs'.length
      · rw [if_pos (by omega), if_pos b]; congr 1; omega
      · rw [if_neg (by omega), if_neg b]; simp
  refine ⟨c', el, fz, hw, by omega, h3, by rw [splice_len hoff]; omega, fun i v hi => ?_, fun _ => by rw [hsz]; exact h6⟩
  rw [splice_get hoff] at hi
  rw [hget]
  split at hi
  · rename_i a; rw [if_pos a]; exact h5 i v hi
  · rename_i a
    rw [if_neg a]
    split at hi
    · rename_i b
      rw [if_pos b]
      obtain ⟨v', q1, q2⟩ := hv.get hi
      exact ⟨h1 v (List.mem_of_getElem? hi), v', q1, q2⟩
    · rename_i b; rw [if_neg b]; exact h5 i v hi

/-- Cells of a block of one's own are written. -/
theorem write_sound {H : Heap} (hR : Rel ρ H w) {b : Nat} {p : Pl} (hb : ρ b = some p) {cs : List Value} {esz : Nat} (hH : H[b]? = some (.cells cs esz true)) {off : Nat} {vs vs' : List Value} (hoff : off + vs.length ≤ cs.length) (hv : VL ρ vs vs') (h1 : One vs) :
    ∃ w', (storeCells ⟨p.blk, p.base + off, none⟩ vs').run P w = .ok () w' ∧ Rel ρ (H.set b (.cells (splice cs off vs) esz true)) w' ∧ Ext ρ H w ρ (H.set b (.cells (splice cs off vs) esz true)) w' := by
  obtain ⟨c, el, fz, g1, g2, g3, g4, g5, g6⟩ := hR.obj b p _ hb hH
  obtain ⟨w', c', q1, q2, q3⟩ := storeCells_run (P := P) vs' 0 p.blk (p.base + off) c el fz w g1 (g6 rfl) (by rw [← hv.1]; omega) (hv.one h1)
  have hor : OR ρ w' p (.cells (splice cs off vs) esz true) := OR.splice g4 g2 g3 g5 (g6 rfl) hoff hv h1 q2.at_ (by simpa using q3)
  exact ⟨w', q1, hR.turn hb hH rfl rfl q2.other hor, Ext.turn hb hH rfl q2.other q2.size q2.os q2.tape q2.output⟩

theorem putc_eq {cs : List Value} {off : Nat} {v : Value} (h : off + v.cells.toList.length ≤ cs.length) : putc cs off v = splice cs off v.cells.toList := by
  cases v <;> first
    | rfl
    | (simp only [putc]; rw [set_splice (by simp [Value.cells] at h; omega)]; rfl)

theorem st_sound {H : Heap} (hR : Rel ρ H w) {ty : TypeId} {it : TypeInfo} (hi : P.info? ty = some it) {a : Addr} {p : Pl} (ha : ρ a.block = some p) {v v' : Value} (hv : VR ρ v v') (hone : One v.cells.toList) {k : Value → Heap → Option β} (h : st (P.cellsOf ty) H a v k = some r) :
    ∃ H' w', k undef H' = some r ∧ (storeVar ty ⟨p.blk, p.base + a.off, none⟩ v').run P w = .ok () w' ∧ Rel ρ H' w' ∧ Ext ρ H w ρ H' w' := by
  unfold st at h
  split at h
  · rename_i cs esz hH
    replace h := ite_inv h
    obtain ⟨⟨hn, hoff⟩, h⟩ := h
    have hlen : v.cells.toList.length = P.cellsOf ty := by simpa using hn
    obtain ⟨w', q1, q2, q3⟩ := write_sound (P := P) hR ha hH (off := a.off) (vs := v.cells.toList) (by rw [hlen]; exact hoff) hv.cells hone
    rw [putc_eq (by omega)] at h
    refine ⟨_, w', h, ?_, q2, q3⟩
    have hn' : v'.cells.size = it.size := by
      have := hv.cells.1
      have e2 : P.cellsOf ty = it.size := by simp [Program.cellsOf, hi]
      simp at this; omega
    have e3 : (sizeOf ty).run P w = .ok it.size w := by simp [sizeOf, typeInfo, hi]
    simp only [storeVar, Sem.run_bind, e3, Result.andThen_ok]
    rw [if_neg (by simp [hn'])]
    exact q1
  · cases h

/-- The cells of a slice's or a text's elements. -/
theorem firstC_sound {H : Heap} (hR : Rel ρ H w) {sz : Nat} {x x' : Value} (hx : VR ρ x x') {k : Nat → List Value → Option β} (h : firstC H sz x k = some r) :
    ∃ n nw nw', k n nw = some r ∧ VL ρ nw nw' ∧ One nw ∧ nw.length = n * sz ∧ (Builtin.lenOf x').run P w = .ok n w ∧ (∀ w0 : World, w0.heap = w.heap → ∀ m, m ≤ n → (Builtin.firstCells sz m x').run P w0 = .ok (nw'.take (m * sz)).toArray w0) := by
  unfold firstC at h
  split at h
  · replace h := ite_inv h; obtain ⟨rfl, h⟩ := h
    rw [hx.sliceN_inv.1]
    exact ⟨0, [], [], h, VL.nil, One.nil, by simp, rfl, fun w0 _ m _ => by simp [Builtin.firstCells]⟩
  · rename_i a len cap
    replace h := ldc_inv h; obtain ⟨cs, esz, own, hH, h⟩ := h
    replace h := ite_inv h; obtain ⟨hle, h⟩ := h
    obtain ⟨p, a', cap', hp, hs, rfl, hcap, hlen, haddr⟩ := hx.slice_inv
    obtain ⟨l, hl1, hl2⟩ := hR.range (P := P) hp hH hle
    refine ⟨len, _, l, h, hl2, (hR.one hp hH).range _ _, range_len hle, rfl, fun w0 hd m hm => ?_⟩
    simp only [Builtin.firstCells]
    rcases haddr with h0 | ⟨rfl, _⟩
    · have : m = 0 := by omega
      subst this
      simp [loadCells, loadCellsFrom]
    · have hle' : a.off + m * sz ≤ cs.length := by
        have : m * sz ≤ len * sz := Nat.mul_le_mul_right _ hm
        omega
      obtain ⟨l', hl1', hl2'⟩ := hR.range (P := P) hp hH hle'
      rw [hl1' w0 hd]
      congr 2
      -- the same cells
      have e : ∀ i, i < m * sz → l'[i]? = l[i]? := fun i hi => by
        have hc : ∀ n (q : List Value), a.off + n ≤ cs.length → (loadCells ⟨p.blk, p.base + a.off, none⟩ n).run P w = .ok q.toArray w → i < n → q[i]? = some ((w.cell? ⟨p.blk, p.base + a.off + i, none⟩).getD undef) := fun n q hn hq hi => by
          have hcell : ∀ j, j < n → w.cell? ((⟨p.blk, p.base + a.off, none⟩ : Addr).add j) = some ((w.cell? ⟨p.blk, p.base + a.off + j, none⟩).getD undef) := fun j hj => by
            have hlt : a.off + j < cs.length := by omega
            obtain ⟨v', h1, _⟩ := hR.cell hp hH (i := a.off + j) (v := cs[a.off + j]) (by simp [hlt])
            rw [addr_add, Nat.add_assoc, h1]; rfl
          have := run_loadCells (P := P) w _ n (fun j => (w.cell? ⟨p.blk, p.base + a.off + j, none⟩).getD undef) hcell
          rw [hq] at this
          injection this with h1 _
          have := congrArg Array.toList h1
          simp at this
          rw [this]
          simp [hi]
        rw [hc _ l' hle' (hl1' w rfl) hi, hc _ l hle (hl1 w rfl) (Nat.lt_of_lt_of_le hi (Nat.mul_le_mul_right _ hm))]
      apply List.ext_getElem?
      intro i
      rw [List.getElem?_take]
      split
      · rename_i hi; exact e i hi
      · rename_i hi
        have := hl2'.1
        rw [range_len hle'] at this
        rw [List.getElem?_eq_none (by omega)]
  · rename_i s
    split at h
    · rename_i hsz
      have hsz := Nat.eq_of_beq_eq_true hsz
      subst hsz
      rw [hx.string_inv]
      refine ⟨s.size, _, s.data.toList.map fun b => .int .u8 b.toNat, h, ?_, ?_, by rw [List.length_map, Array.length_toList, Nat.mul_one]; rfl, rfl, fun w0 _ m hm => ?_⟩
      · refine ⟨rfl, fun i v v' a b => ?_⟩
        rw [a] at b
        obtain rfl := Option.some.inj b
        simp at a
        obtain ⟨x, _, rfl⟩ := a
        exact .int _ _
      · intro v hv
        simp at hv
        obtain ⟨x, _, rfl⟩ := hv
        rfl
      · simp only [Builtin.firstCells, Sem.run_pure, Nat.mul_one]
        congr 1
        apply Array.ext'
        have : (s.extract 0 m).data.toList = s.data.toList.take m := by
          rw [ByteArray.data_extract, Array.toList_extract, List.extract_eq_take_drop, List.drop_zero, Nat.sub_zero]
        rw [Array.toList_map, this]
        simp [List.map_take]
    · cases h
  · cases h
/-- copy. -/
theorem copy_sound {H : Heap} (hR : Rel ρ H w) {dt e ty : TypeId} {ats : Array TypeId} (ha : ats[0]? = some dt) (hu : P.underlying dt = some (.slice e)) {ie : TypeInfo} (hie : P.info? e = some ie) {d s d' s' : Value} (hd : VR ρ d d') (hs : VR ρ s s') {k : Value → Heap → Option β}
    (h : (firstC H (P.cellsOf e) s fun n cs => kSl d fun a len _ => cpy H (P.cellsOf e) a len n cs fun m H => k (.int .i64 m) H) = some r) :
    ∃ v H' w', k v H' = some r ∧ (Builtin.copy_ ats ty #[d', s']).run P w = .ok v w' ∧ Rel ρ H' w' ∧ Ext ρ H w ρ H' w' ∧ VR ρ v v := by
  replace h := firstC_sound (P := P) hR hs h
  obtain ⟨n, nw, nw', h, hv, hone, hlen, hn, hf⟩ := h
  replace h := kSl_inv h; obtain ⟨a, len, cap, rfl, h⟩ := h
  have hsz : (sizeOf e).run P w = .ok (P.cellsOf e) w := sizeOf_any e 0 ⟨ie, hie⟩
  unfold cpy at h
  cases a with
  | none =>
    simp only [] at h
    replace h := ite_inv h; obtain ⟨rfl, h⟩ := h
    refine ⟨_, _, w, h, ?_, hR, Ext.refl _ _ _, .int _ _⟩
    have h0 := hf w rfl 0 (Nat.zero_le _)
    rw [hd.sliceN_inv.1]
    simp only [Builtin.copy_, ha, List.getElem?_toArray, List.getElem?_cons_zero, List.getElem?_cons_succ, Sem.run_bind, run_underlying hu, Result.andThen_ok, hn, hsz, Nat.min_zero, h0, Sem.run_pure]
    rfl
  | some a =>
    simp only [] at h
    split at h
    · rename_i old esz hH
      replace h := ite_inv h; obtain ⟨hle, h⟩ := h
      obtain ⟨p, a', cap', hp, hsp, rfl, hcap, hlc, haddr⟩ := hd.slice_inv
      have hm : min n len ≤ n := Nat.min_le_left _ _
      have hm2 : min n len ≤ len := Nat.min_le_right _ _
      have hmul : min n len * P.cellsOf e ≤ len * P.cellsOf e := Nat.mul_le_mul_right _ hm2
      have hmul2 : min n len * P.cellsOf e ≤ n * P.cellsOf e := Nat.mul_le_mul_right _ hm
      have hfc := hf w rfl (min n len) hm
      have htl : (nw.take (min n len * P.cellsOf e)).length = min n len * P.cellsOf e := by rw [List.length_take, hlen]; omega
      obtain ⟨w', q1, q2, q3⟩ := write_sound (P := P) hR hp hH (off := a.off) (vs := nw.take (min n len * P.cellsOf e)) (by rw [htl]; omega) (hv.take _) (hone.take _)
      have hst : (storeCells a' (nw'.take (min n len * P.cellsOf e))).run P w = .ok () w' := by
        rcases haddr with hz0 | ⟨ea, _⟩
        · have hl0 : len = 0 := by omega
          have e0 : nw'.take (min n len * P.cellsOf e) = [] := by rw [hl0]; simp
          rw [e0] at q1 ⊢
          exact q1
        · rw [ea]; exact q1
      refine ⟨_, _, w', h, ?_, q2, q3, .int _ _⟩
      have e1 : ((nw'.take (min n len * P.cellsOf e)).toArray).toList = nw'.take (min n len * P.cellsOf e) := by simp
      simp only [Builtin.copy_, ha, List.getElem?_toArray, List.getElem?_cons_zero, List.getElem?_cons_succ, Sem.run_bind, run_underlying hu, Result.andThen_ok, hn, hsz, Sem.run_pure]
      rw [show Nat.min n len = min n len from rfl, hfc]
      simp only [Result.andThen_ok, e1, hst, Sem.run_pure]
      rfl
    · cases h
/-- clear. -/
theorem clear_sound {H : Heap} (hR : Rel ρ H w) {dt e ty : TypeId} {ats : Array TypeId} (ha : ats[0]? = some dt) (hu : P.underlying dt = some (.slice e)) {z : Value} (hz : zeroOf P e = some z) (hp1 : plainV z = true) (hone : One z.cells.toList) (hzs : z.cells.size = P.cellsOf e) {d d' : Value} (hd : VR ρ d d') {k : Value → Heap → Option β}
    (h : (kSl d fun a len _ => clr H (P.cellsOf e) z a len fun H => k (.tuple #[]) H) = some r) :
    ∃ v H' w', k v H' = some r ∧ (Builtin.clear_ ats ty #[d']).run P w = .ok v w' ∧ Rel ρ H' w' ∧ Ext ρ H w ρ H' w' ∧ VR ρ v v := by
  replace h := kSl_inv h; obtain ⟨a, len, cap, rfl, h⟩ := h
  have hv0 : VR ρ (.tuple #[]) (.tuple #[]) := VR.tuple_mk VL.nil
  unfold clr at h
  cases a with
  | none =>
    simp only [] at h
    refine ⟨_, _, w, h, ?_, hR, Ext.refl _ _ _, hv0⟩
    rw [hd.sliceN_inv.1]
    simp [Builtin.clear_, ha, Sem.run_bind, run_underlying hu]
  | some a =>
    simp only [] at h
    split at h
    · rename_i old esz hH
      replace h := ite_inv h; obtain ⟨hle, h⟩ := h
      obtain ⟨p, a', cap', hp, hsp, rfl, hcap, hlc, haddr⟩ := hd.slice_inv
      have hl2 : (zeroCellsOf z len).length = len * P.cellsOf e := by rw [← hzs]; exact flat_len _ _
      have hvz : VL ρ (zeroCellsOf z len) (zeroCellsOf z len) := by simpa [zeroCellsOf] using (plainV_VR (ρ := ρ) hp1).cells.flat len
      have hoz : One (zeroCellsOf z len) := by simpa [zeroCellsOf] using hone.flat len
      obtain ⟨w', q1, q2, q3⟩ := write_sound (P := P) hR hp hH (off := a.off) (vs := zeroCellsOf z len) (by rw [hl2]; exact hle) hvz hoz
      have hzc : (Builtin.zeroCells z.cells len).toList = zeroCellsOf z len := by
        unfold Builtin.zeroCells
        rw [zeroCells_map]; rfl
      have hst : (storeCells a' (zeroCellsOf z len)).run P w = .ok () w' := by
        rcases haddr with hz0 | ⟨ea, _⟩
        · have hl0 : len = 0 := by omega
          have e0 : zeroCellsOf z len = [] := by rw [hl0]; rfl
          rw [e0] at q1 ⊢
          exact q1
        · rw [ea]; exact q1
      refine ⟨_, _, w', h, ?_, q2, q3, hv0⟩
      cases len with
      | zero =>
        have e0 : zeroCellsOf z 0 = [] := rfl
        rw [e0] at hst
        have hw : w = w' := by simpa [storeCells] using hst
        rw [← hw]
        simp [Builtin.clear_, ha, Sem.run_bind, run_underlying hu]
      | succ m =>
        simp only [Builtin.clear_, ha, List.getElem?_toArray, List.getElem?_cons_zero, Sem.run_bind, run_underlying hu, Result.andThen_ok, run_zero hz, hzc, hst, Sem.run_pure]
    · cases h
end
end Go.Proofs.YtgnkjpbecgpjoaaGreatDoor.Fw
set_option linter.unusedVariables false
set_option linter.unusedSimpArgs false
namespace Go.Proofs.YtgnkjpbecgpjoaaGreatDoor.Fw
open Go Go.RowKit

section
variable {P : Program} {ρ : Ren} {w : World} {β : Type} {r : β}

/-- A new block, in a world that is told by what it has alone. -/
theorem Rel.new_ge {H : Heap} (h : Rel ρ H w) {o : AObj} {w' : World} {p : Pl} (hp : w.heap.size ≤ p.blk) (hk : ∀ k, k < w.heap.size → w'.heap[k]? = w.heap[k]?)
    (ho : ∀ ρ', Le ρ ρ' → OR ρ' w' p o) : Rel (ρ.ins H.length p) (H ++ [o]) w' := by
  have hn := h.fresh
  have hle := Ren.ins_le (p := p) hn
  have hlt : ∀ c q x, ρ c = some q → H[c]? = some x → x.live = true → q.blk < w.heap.size := fun c q x h1 h2 h3 => (h.obj c q x h1 h2).blk_lt h3
  have hold : ∀ (c : Nat) (q : Pl) (x : AObj), ρ c = some q → (H ++ [o])[c]? = some x → H[c]? = some x := fun c q x hc hx => by
    rw [List.getElem?_append_left (h.dom c q hc)] at hx; exact hx
  refine ⟨?_, ?_, ?_, h.glob.mono hle⟩
  · intro c q hc
    unfold Ren.ins at hc
    split at hc
    · rename_i e; subst e; simp
    · have := h.dom c q hc; simp; omega
  · intro c q x hc hx
    unfold Ren.ins at hc
    split at hc
    · rename_i e
      subst e
      simp at hx
      subst hx
      obtain rfl := Option.some.inj hc
      exact ho _ hle
    · have hx' := hold c q x hc hx
      have := (h.obj c q x hc hx').mono hle
      cases x with
      | dead => exact trivial
      | cells cs esz own => exact this.of_block (hk _ (hlt c q _ hc hx' rfl))
      | map es bs clk => exact this.of_block (hk _ (hlt c q _ hc hx' rfl))
      | iter r since seen last => exact this.of_block (hk _ (hlt c q _ hc hx' rfl))
  · intro c c' q q' x x' hc hc' hx hx' hown hlive hne
    have hx_live : x.live = true := by cases x <;> simp_all [AObj.own, AObj.live]
    unfold Ren.ins at hc hc'
    split at hc
    · rename_i e
      subst e
      obtain rfl := Option.some.inj hc
      rw [if_neg (Ne.symm hne)] at hc'
      have := hlt c' q' x' hc' (hold c' q' x' hc' hx') hlive
      omega
    · rename_i hcb
      split at hc'
      · rename_i e
        subst e
        obtain rfl := Option.some.inj hc'
        have := hlt c q x hc (hold c q x hc hx) hx_live
        omega
      · exact h.sep c c' q q' x x' hc hc' (hold c q x hc hx) (hold c' q' x' hc' hx') hown hlive hne

theorem Ext.new_ge {H : Heap} (h : Rel ρ H w) {o : AObj} {w' : World} {p : Pl} (hp : w.heap.size ≤ p.blk) (hk : ∀ k, k < w.heap.size → w'.heap[k]? = w.heap[k]?) (hs : w.heap.size ≤ w'.heap.size)
    (h1 : w'.os = w.os) (h2 : w'.tape = w.tape) (h3 : w'.output = w.output) : Ext ρ H w (ρ.ins H.length p) (H ++ [o]) w' := by
  refine ⟨Ren.ins_le h.fresh, by simp, ?_, fun k hk' _ => hk k hk', ?_, ?_, hs, h1, h2, h3⟩
  · intro c q hc hc'
    unfold Ren.ins at hc
    split at hc
    · rename_i e; subst e; exact Nat.le_refl _
    · rw [hc'] at hc; cases hc
  · intro c q hc hc'
    unfold Ren.ins at hc
    split at hc
    · obtain rfl := Option.some.inj hc; exact .inl (by omega)
    · rw [hc'] at hc; cases hc
  · intro c q o' hc hx ho
    exact ⟨o', by rw [List.getElem?_append_left (h.dom c q hc)] at hx; exact hx, ho⟩

theorem Rel.new_gen {H : Heap} (h : Rel ρ H w) {o : AObj} {w' : World} {p : Pl} (hp : p.blk = w.heap.size) (hk : ∀ k, k < w.heap.size → w'.heap[k]? = w.heap[k]?)
    (ho : ∀ ρ', Le ρ ρ' → OR ρ' w' p o) : Rel (ρ.ins H.length p) (H ++ [o]) w' := h.new_ge (Nat.le_of_eq hp.symm) hk ho
theorem Ext.new_gen {H : Heap} (h : Rel ρ H w) {o : AObj} {w' : World} {p : Pl} (hp : p.blk = w.heap.size) (hk : ∀ k, k < w.heap.size → w'.heap[k]? = w.heap[k]?) (hs : w.heap.size ≤ w'.heap.size)
    (h1 : w'.os = w.os) (h2 : w'.tape = w.tape) (h3 : w'.output = w.output) : Ext ρ H w (ρ.ins H.length p) (H ++ [o]) w' := Ext.new_ge h (Nat.le_of_eq hp.symm) hk hs h1 h2 h3

/-- A block goes on under another number: its old one is let go. -/
theorem Rel.rename {H : Heap} (h : Rel ρ H w) {b : Nat} {p p' : Pl} {o o' : AObj} (hb : ρ b = some p) (ho : H[b]? = some o) (hown : o.own = true) (hp : p'.blk = p.blk) {w' : World}
    (hk : ∀ k, k ≠ p.blk → w'.heap[k]? = w.heap[k]?) (hor : ∀ ρ', Le ρ ρ' → OR ρ' w' p' o') : Rel (ρ.ins H.length p') (H.set b .dead ++ [o']) w' := by
  have hn := h.fresh
  have hle := Ren.ins_le (p := p') hn
  have hol : o.live = true := by cases o <;> simp_all [AObj.own, AObj.live]
  have hold : ∀ (c : Nat) (q : Pl) (x : AObj), ρ c = some q → (H.set b .dead ++ [o'])[c]? = some x → x.live = true → c ≠ b ∧ H[c]? = some x := fun c q x hc hx hl => by
    have hlt := h.dom c q hc
    rw [List.getElem?_append_left (by simpa using hlt)] at hx
    by_cases e : c = b
    · subst e
      simp [hlt] at hx
      subst hx
      simp [AObj.live] at hl
    · rw [List.getElem?_set_ne (Ne.symm e)] at hx; exact ⟨e, hx⟩
  refine ⟨?_, ?_, ?_, h.glob.mono hle⟩
  · intro c q hc
    unfold Ren.ins at hc
    split at hc
    · rename_i e; subst e; simp
    · have := h.dom c q hc; simp; omega
  · intro c q x hc hx
    unfold Ren.ins at hc
    split at hc
    · rename_i e
      subst e
      rw [List.getElem?_append_right (by simp)] at hx
      simp at hx
      subst hx
      obtain rfl := Option.some.inj hc
      exact hor _ hle
    · cases hl : x.live with
      | false => cases x <;> simp_all [AObj.live, OR]
      | true =>
        obtain ⟨hne, hx'⟩ := hold c q x hc hx hl
        exact ((h.obj c q x hc hx').mono hle).of_block (hk _ (fun e => h.sep b c p q o x hb hc ho hx' hown hl (Ne.symm hne) e.symm))
  · intro c c' q q' x x' hc hc' hx hx' hown1 hlive hne
    have hxl : x.live = true := by cases x <;> simp_all [AObj.own, AObj.live]
    unfold Ren.ins at hc hc'
    split at hc
    · rename_i e
      subst e
      obtain rfl := Option.some.inj hc
      rw [if_neg (Ne.symm hne)] at hc'
      obtain ⟨hne', hx''⟩ := hold c' q' x' hc' hx' hlive
      rw [hp]
      exact h.sep b c' p q' o x' hb hc' ho hx'' hown hlive (Ne.symm hne')
    · split at hc'
      · rename_i e
        subst e
        obtain rfl := Option.some.inj hc'
        obtain ⟨hne', hx''⟩ := hold c q x hc hx hxl
        rw [hp]
        exact h.sep c b q p x o hc hb hx'' ho hown1 hol hne'
      · obtain ⟨a1, a2⟩ := hold c q x hc hx hxl
        obtain ⟨b1, b2⟩ := hold c' q' x' hc' hx' hlive
        exact h.sep c c' q q' x x' hc hc' a2 b2 hown1 hlive hne

theorem Ext.rename {H : Heap} (h : Rel ρ H w) {b : Nat} {p p' : Pl} {o o' : AObj} (hb : ρ b = some p) (ho : H[b]? = some o) (hown : o.own = true) (hp : p'.blk = p.blk) {w' : World}
    (hk : ∀ k, k ≠ p.blk → w'.heap[k]? = w.heap[k]?) (hs : w'.heap.size = w.heap.size) (h1 : w'.os = w.os) (h2 : w'.tape = w.tape) (h3 : w'.output = w.output) : Ext ρ H w (ρ.ins H.length p') (H.set b .dead ++ [o']) w' := by
  have hO : Owns ρ H p.blk := ⟨b, p, o, hb, ho, hown, rfl⟩
  refine ⟨Ren.ins_le h.fresh, by simp, ?_, fun k _ hn => hk k (fun e => hn (e ▸ hO)), ?_, ?_, by omega, h1, h2, h3⟩
  · intro c q hc hc'
    unfold Ren.ins at hc
    split at hc
    · rename_i e; subst e; exact Nat.le_refl _
    · rw [hc'] at hc; cases hc
  · intro c q hc hc'
    unfold Ren.ins at hc
    split at hc
    · obtain rfl := Option.some.inj hc; exact .inr (hp ▸ hO)
    · rw [hc'] at hc; cases hc
  · intro c q x hc hx hx2
    have hlt := h.dom c q hc
    rw [List.getElem?_append_left (by simpa using hlt)] at hx
    by_cases e : c = b
    · subst e; exact ⟨o, ho, hown⟩
    · rw [List.getElem?_set_ne (Ne.symm e)] at hx; exact ⟨x, hx, hx2⟩

/-- A block of one's own that is let go, whatever is done to it. -/
theorem Rel.kill_turn {H : Heap} (h : Rel ρ H w) {b : Nat} {p : Pl} {o : AObj} (hb : ρ b = some p) (ho : H[b]? = some o) (hown : o.own = true) {w' : World} (hw : ∀ k, k ≠ p.blk → w'.heap[k]? = w.heap[k]?) : Rel ρ (H.set b .dead) w' := by
  have h1 := h.kill b
  refine ⟨h1.dom, fun c q x hc hx => ?_, h1.sep, h1.glob⟩
  cases hl : x.live with
  | false => cases x <;> simp_all [AObj.live, OR]
  | true =>
    have hne : c ≠ b := fun e => by
      subst e
      rw [List.getElem?_set] at hx
      simp at hx
      rw [← hx.2] at hl
      simp [AObj.live] at hl
    have hx' := hx
    rw [List.getElem?_set_ne (Ne.symm hne)] at hx'
    exact (h1.obj c q x hc hx).of_block (hw _ (fun e => h.sep b c p q o x hb hc ho hx' hown hl (Ne.symm hne) e.symm))
theorem Ext.kill_turn {H : Heap} {b : Nat} {p : Pl} {o : AObj} (hb : ρ b = some p) (ho : H[b]? = some o) (hown : o.own = true) {w' : World}
    (hw : ∀ k, k ≠ p.blk → w'.heap[k]? = w.heap[k]?) (hs : w'.heap.size = w.heap.size) (h1 : w'.os = w.os) (h2 : w'.tape = w.tape) (h3 : w'.output = w.output) : Ext ρ H w ρ (H.set b .dead) w' := by
  refine ⟨Le.refl ρ, by simp, fun c q h h' => (contra h h').elim, fun k _ hn => hw k (fun e => hn ⟨b, p, o, hb, ho, hown, e.symm⟩), fun c q h h' => (contra h h').elim, ?_, by omega, h1, h2, h3⟩
  intro c q x hc hx hx2
  by_cases e : c = b
  · subst e; exact ⟨o, ho, hown⟩
  · rw [List.getElem?_set_ne (Ne.symm e)] at hx; exact ⟨x, hx, hx2⟩

/-- A block that is let go, and a new one. -/
theorem Ext.kill {H : Heap} (b : Nat) : Ext ρ H w ρ (H.set b .dead) w :=
  ⟨Le.refl ρ, by simp, fun b p h h' => (contra h h').elim, fun _ _ _ => rfl, fun b p h h' => (contra h h').elim, fun c p o' hc h ho => by
    by_cases e : c = b
    · subst e
      rw [List.getElem?_set] at h
      simp at h
      rw [← h.2] at ho
      simp [AObj.own] at ho
    · rw [List.getElem?_set_ne (Ne.symm e)] at h; exact ⟨o', h, ho⟩, Nat.le_refl _, rfl, rfl, rfl⟩

/-- The row that append makes. -/
theorem grown_OR {ρ' : Ren} {cs : List Value} {l : List Value} (hv : VL ρ' cs l) (h1 : One cs) (rest : List Value) (w0 : World) (hd : w0.heap = w.heap) (el : TypeId) {esz : Nat} (hz : ∀ t, esz / tyM = t + 1 → el = t) :
    OR ρ' (w0.alloc (.cells (l ++ rest).toArray el)) ⟨w.heap.size, 0, (l ++ rest).length, esz % tyM⟩ (.cells cs esz true) := by
  refine ⟨_, el, (0, 0), by have := heap_new w0 (.cells (l ++ rest).toArray el); rw [hd] at this; exact this, by simp, ⟨rfl, fun t h => ⟨hz t h, rfl⟩⟩, by simp [hv.1], ?_, ?_⟩
  · intro i v hi
    obtain ⟨v', q1, q2⟩ := hv.get hi
    refine ⟨h1 v (List.mem_of_getElem? hi), v', ?_, q2⟩
    have hlt : i < l.length := by
      rcases Nat.lt_or_ge i l.length with h | h
      · exact h
      · simp [List.getElem?_eq_none h] at q1
    simp only [Nat.zero_add, List.getElem?_toArray]
    rw [List.getElem?_append_left hlt]
    exact q1
  · intro _ i _ h; simp at h

theorem zeroCells_len (z : Array Value) (n : Nat) : (Builtin.zeroCells z n).size = n * z.size := by simp [Builtin.zeroCells]

theorem take_all {l : List Value} {n : Nat} (h : l.length = n) : l.take n = l := List.take_of_length_le (by omega)

theorem intD_false {d : TypeDesc} (h : ∀ k, d ≠ .int k) : Builtin.append_.match_1 (motive := fun _ => Bool) d (fun _ => true) (fun _ => false) = false := by
  cases d <;> first | rfl | exact absurd rfl (h _)

/-- What append does when it makes a new row: the world behind it. -/
theorem append_grow {st xt e ty : TypeId} {z : Value} {ats : Array TypeId} {d : TypeDesc} (h0 : ats[0]? = some st) (hx0 : ats[1]? = some xt) (hu : P.underlying st = some (.slice e)) (hux : P.underlying xt = some d) (hnot : ∀ k, d ≠ .int k)
    (hz : zeroOf P e = some z) {s x : Value} {a : Option Addr} {len cap n : Nat} (hs : s = .slice a len cap) {old nw : List Value} (hn : (Builtin.lenOf x).run P w = .ok n w)
    (hnew : ∀ w0 : World, w0.heap = w.heap → (Builtin.firstCells (P.cellsOf e) n x).run P w0 = .ok nw.toArray w0) (hold : ∀ w0 : World, w0.heap = w.heap → (Builtin.firstCells (P.cellsOf e) len s).run P w0 = .ok old.toArray w0)
    (hgt : cap < len + n) (hb : (len + n) * P.bytesOf e ≤ 140737488355328) (hb2 : len + n ≤ 140737488355328) (hzs : z.cells.size = P.cellsOf e) :
    ∃ (newCap : Nat) (w0 : World) (rest : List Value), len + n ≤ newCap ∧ w0.heap = w.heap ∧ w0.os = w.os ∧ w0.tape = w.tape ∧ w0.output = w.output ∧ rest.length = (newCap - (len + n)) * P.cellsOf e ∧
      (Builtin.append_ ats ty #[s, x]).run P w = .ok (.slice (some ⟨w.heap.size, 0, none⟩) (len + n) newCap) (w0.alloc (.cells ((old ++ nw) ++ rest).toArray e)) := by
  subst hs
  obtain ⟨ie, hie⟩ : ∃ i, P.info? e = some i := by unfold zeroOf at hz; split at hz; exact ⟨_, ‹_›⟩; cases hz
  have hbytes : ie.bytes = P.bytesOf e := by simp [Program.bytesOf, hie]
  have hq : ¬ (Builtin.nextslicecap (len + n) cap * ie.bytes > 2 ^ 48) := by
    have h1 := nextslicecap_le hgt
    have h2 : Builtin.nextslicecap (len + n) cap * ie.bytes ≤ 2 * (len + n) * ie.bytes := Nat.mul_le_mul_right _ h1
    rw [hbytes] at h2 ⊢
    rw [Nat.mul_assoc] at h2
    omega
  have hmx : ¬ (((len + n : Nat) : Int) > IntKind.i64.max ∧ (False ∨ ie.bytes = 0)) := by rw [IntKind.max_i64]; omega
  let q := Question.appendCap (len + n) cap e
  let w0 : World := w.drew
  let newCap := q.cut (w.tape w.drawn q)
  have hcap : len + n ≤ newCap := by show len + n ≤ (len + n) + _; omega
  refine ⟨newCap, w0, (Builtin.zeroCells z.cells (newCap - (len + n))).toList, hcap, rfl, rfl, rfl, rfl, by simp [zeroCells_len, hzs], ?_⟩
  have e1 : (typeInfo e).run P w = .ok ie w := by simp [typeInfo, hie]
  have e3 : ∀ w1 : World, (zeroValue e).run P w1 = .ok z w1 := fun w1 => run_zero hz w1
  have hnew0 := hnew w0 rfl
  have hold0 := hold w0 rfl
  have hcut : Question.cut (.appendCap (len + n) cap e) (w.tape w.drawn (.appendCap (len + n) cap e)) = newCap := rfl
  have hn' : ¬ (len + n ≤ cap) := by omega
  have hzz : ∃ i, P.info? e = some i ∧ i.zero = some z := by unfold zeroOf at hz; split at hz; exact ⟨_, ‹_›, hz⟩; cases hz
  obtain ⟨i2, hi2, hz2⟩ := hzz
  rw [hie] at hi2
  obtain rfl := Option.some.inj hi2
  have hq' : ¬ (281474976710656 < Builtin.nextslicecap (len + n) cap * ie.bytes) := by simpa using hq
  have hmx' : ¬ (9223372036854775807 < ((len : Int) + (n : Int))) := by omega
  have hcs : P.cellsOf e = ie.size := by simp [Program.cellsOf, hie]
  rw [hcs] at hnew0 hold0
  simp only [Builtin.append_, List.getElem?_toArray, List.getElem?_cons_zero, List.getElem?_cons_succ, h0, hx0, Sem.run_bind, run_underlying hu, run_underlying hux, Result.andThen_ok, sizeOf_any e 0 ⟨ie, hie⟩, Sem.run_pure]
  simp [sizeOf, typeInfo, zeroValue, hie, hz2, hn, hn', hmx', hq', Question.forced, hcut, newRow]
  rw [hcs, hold0]
  simp only [Result.andThen_ok]
  rw [hnew0]
  simp only [Result.andThen_ok]
  congr 3
  apply Array.ext'
  simp
end
end Go.Proofs.YtgnkjpbecgpjoaaGreatDoor.Fw
set_option linter.unusedVariables false
set_option linter.unusedSimpArgs false
namespace Go.Proofs.YtgnkjpbecgpjoaaGreatDoor.Fw
open Go Go.RowKit

section
variable {P : Program} {ρ : Ren} {w : World} {β : Type} {r : β}

theorem Rel.heap {H : Heap} (h : Rel ρ H w) {w0 : World} (hd : w0.heap = w.heap) : Rel ρ H w0 :=
  ⟨h.dom, fun b p o h1 h2 => (h.obj b p o h1 h2).of_block (by rw [hd]), h.sep, h.glob⟩

/-- append where there is room. -/
theorem append_room {st xt e ty : TypeId} {ats : Array TypeId} {d : TypeDesc} (h0 : ats[0]? = some st) (hx0 : ats[1]? = some xt) (hu : P.underlying st = some (.slice e)) (hux : P.underlying xt = some d) (hnot : ∀ k, d ≠ .int k)
    {ie : TypeInfo} (hie : P.info? e = some ie) {x : Value} {a : Addr} {len cap n : Nat} {nw : List Value} (hn : (Builtin.lenOf x).run P w = .ok n w) (hnew : (Builtin.firstCells (P.cellsOf e) n x).run P w = .ok nw.toArray w) (hle : len + n ≤ cap)
    {w' : World} (hst : (storeCells (a.add (len * P.cellsOf e)) nw).run P w = .ok () w') :
    (Builtin.append_ ats ty #[.slice (some a) len cap, x]).run P w = .ok (.slice (some a) (len + n) cap) w' := by
  simp only [Builtin.append_, List.getElem?_toArray, List.getElem?_cons_zero, List.getElem?_cons_succ, h0, hx0, Sem.run_bind, run_underlying hu, run_underlying hux, Result.andThen_ok, sizeOf_any e 0 ⟨ie, hie⟩, Sem.run_pure]
  simp [hn, hle, hnew, hst]

theorem append_nil {st xt e ty : TypeId} {ats : Array TypeId} {d : TypeDesc} (h0 : ats[0]? = some st) (hx0 : ats[1]? = some xt) (hu : P.underlying st = some (.slice e)) (hux : P.underlying xt = some d) (hnot : ∀ k, d ≠ .int k)
    {ie : TypeInfo} (hie : P.info? e = some ie) {x : Value} {nw : List Value} (hn : (Builtin.lenOf x).run P w = .ok 0 w) (hnew : (Builtin.firstCells (P.cellsOf e) 0 x).run P w = .ok nw.toArray w) :
    (Builtin.append_ ats ty #[.slice none 0 0, x]).run P w = .ok (.slice none 0 0) w := by
  simp only [Builtin.append_, List.getElem?_toArray, List.getElem?_cons_zero, List.getElem?_cons_succ, h0, hx0, Sem.run_bind, run_underlying hu, run_underlying hux, Result.andThen_ok, sizeOf_any e 0 ⟨ie, hie⟩, Sem.run_pure]
  simp [hn, hnew]

set_option maxHeartbeats 1000000 in
theorem app_sound {H : Heap} (hR : Rel ρ H w) {st xt e ty : TypeId} {z : Value} {ats : Array TypeId} {d : TypeDesc} (h0 : ats[0]? = some st) (hx0 : ats[1]? = some xt) (hu : P.underlying st = some (.slice e)) (hux : P.underlying xt = some d) (hnot : ∀ k, d ≠ .int k)
    (hz : zeroOf P e = some z) (hzs : z.cells.size = P.cellsOf e) {s x s' x' : Value} (hs : VR ρ s s') (hx : VR ρ x x') {k : Value → Heap → Option β}
    (h : (firstC H (P.cellsOf e) x fun n nw => app P e H s n nw k) = some r) :
    ∃ v v' H' ρ' w', k v H' = some r ∧ (Builtin.append_ ats ty #[s', x']).run P w = .ok v' w' ∧ Rel ρ' H' w' ∧ Ext ρ H w ρ' H' w' ∧ VR ρ' v v' := by
  obtain ⟨ie, hie⟩ : ∃ i, P.info? e = some i := by unfold zeroOf at hz; split at hz; exact ⟨_, ‹_›⟩; cases hz
  replace h := firstC_sound (P := P) hR hx h
  obtain ⟨n, nw, nw', h, hv, hone, hlen, hn, hf⟩ := h
  have hlen' : nw'.length = n * P.cellsOf e := by rw [← hv.1]; exact hlen
  have hfn : ∀ w0 : World, w0.heap = w.heap → (Builtin.firstCells (P.cellsOf e) n x').run P w0 = .ok nw'.toArray w0 := fun w0 hd => by
    have := hf w0 hd n (Nat.le_refl _)
    rw [take_all hlen'] at this
    exact this
  unfold app at h
  replace h := kSl_inv h; obtain ⟨a, len, cap, rfl, h⟩ := h
  replace h := ite_inv h; obtain ⟨⟨hb, hb2⟩, h⟩ := h
  -- a new row
  have grow : ∀ (esz : Nat), esz % tyM ≤ P.cellsOf e → (∀ t, esz / tyM = t + 1 → e = t) → ∀ (a' : Option Addr) (cap' : Nat) (old old' : List Value), s' = .slice a' len cap' → cap' < len + n → VL ρ old old' → One old → old.length = len * P.cellsOf e →
      (∀ w0 : World, w0.heap = w.heap → (Builtin.firstCells (P.cellsOf e) len s').run P w0 = .ok old'.toArray w0) →
      ∃ v' w' p, (Builtin.append_ ats ty #[s', x']).run P w = .ok v' w' ∧ Rel (ρ.ins H.length p) (H ++ [.cells (old ++ nw) esz true]) w' ∧ Ext ρ H w (ρ.ins H.length p) (H ++ [.cells (old ++ nw) esz true]) w' ∧
        VR (ρ.ins H.length p) (.slice (some ⟨H.length, 0, none⟩) (len + n) unk) v' ∧ p.blk = w.heap.size ∧ (∀ ρ', Le ρ ρ' → OR ρ' w' p (.cells (old ++ nw) esz true)) ∧ (∀ k, k < w.heap.size → w'.heap[k]? = w.heap[k]?) ∧ w.heap.size ≤ w'.heap.size ∧ w'.os = w.os ∧ w'.tape = w.tape ∧ w'.output = w.output := by
    intro esz hes hety a' cap' old old' he hlt hvo ho1 hol hof
    obtain ⟨newCap, w0, rest, q1, q2, q3, q4, q5, q6, q7⟩ := append_grow (ty := ty) h0 hx0 hu hux hnot hz he hn hfn hof hlt hb hb2 hzs
    have hk : ∀ k, k < w.heap.size → (w0.alloc (.cells ((old' ++ nw') ++ rest).toArray e)).heap[k]? = w.heap[k]? := fun k hk => by
      rw [Below.heap_alloc _ _ _ (by rw [q2]; exact hk), q2]
    have hs : w.heap.size ≤ (w0.alloc (.cells ((old' ++ nw') ++ rest).toArray e)).heap.size := by
      show _ ≤ (w0.heap.push _).size
      rw [q2]; simp
    have hor : ∀ ρ', Le ρ ρ' → OR ρ' (w0.alloc (.cells ((old' ++ nw') ++ rest).toArray e)) ⟨w.heap.size, 0, ((old' ++ nw') ++ rest).length, esz % tyM⟩ (.cells (old ++ nw) esz true) := fun ρ' hle =>
      grown_OR ((hvo.append hv).mono hle) (ho1.append hone) rest w0 q2 e hety
    refine ⟨_, _, ⟨w.heap.size, 0, ((old' ++ nw') ++ rest).length, esz % tyM⟩, q7, hR.new_gen rfl hk hor, Ext.new_gen hR rfl hk hs q3 q4 q5, ?_, rfl, hor, hk, hs, q3, q4, q5⟩
    refine .slice H.length 0 _ _ newCap _ _ (Ren.ins_self _ _ _) (.inr (unkOk _)) q1 (.inr ⟨rfl, ?_⟩)
    have e1 : old'.length = len * P.cellsOf e := by rw [← hvo.1]; exact hol
    simp only [List.length_append, e1, hlen', q6, Nat.zero_add]
    rw [← Nat.add_mul, ← Nat.add_mul]
    refine Nat.le_trans (Nat.mul_le_mul_left _ hes) (Nat.mul_le_mul_right _ ?_)
    omega
  cases a with
  | none =>
    simp only [] at h
    replace h := ite_inv h; obtain ⟨⟨rfl, rfl⟩, h⟩ := h
    have es := hs.sliceN_inv.1
    split at h
    · rename_i hn0
      subst hn0
      refine ⟨_, _, H, ρ, w, h, ?_, hR, Ext.refl ρ H w, .sliceN⟩
      rw [es]
      exact append_nil h0 hx0 hu hux hnot hie hn (hfn w rfl)
    · rename_i hn0
      obtain ⟨v', w', p, g1, g2, g3, g4, _⟩ := grow (tyE P e) (by rw [tyE_mod]; exact Nat.mod_le _ _) (tyE_ty e) none 0 [] [] es (by omega) VL.nil One.nil (by simp) (fun w0 _ => by rw [es]; simp [Builtin.firstCells])
      refine ⟨_, v', _, ρ.ins H.length p, w', h, g1, ?_, ?_, ?_⟩
      · simpa using g2
      · simpa using g3
      · simpa using g4
  | some a =>
    simp only [] at h
    split at h
    · rename_i cs esz own hH
      replace h := ite_inv h; obtain ⟨⟨hle, hesz⟩, h⟩ := h
      obtain ⟨hes, hety⟩ : esz % tyM = P.cellsOf e ∧ (∀ t, esz / tyM = t + 1 → e = t) := by
        unfold szOk at hesz
        simp only [Bool.and_eq_true, Bool.or_eq_true] at hesz
        refine ⟨Nat.eq_of_beq_eq_true hesz.1, fun t ht => ?_⟩
        rcases hesz.2 with h1 | h1
        · have := Nat.eq_of_beq_eq_true h1; omega
        · exact Nat.add_right_cancel ((Nat.eq_of_beq_eq_true h1).symm.trans ht)
      have hes' : tzOff a.off esz % tyM ≤ P.cellsOf e := by rw [tzOff_mod, hes]; exact Nat.le_refl _
      have hety' : ∀ t, tzOff a.off esz / tyM = t + 1 → e = t := fun t ht => hety t (tzOff_div ht).2
      obtain ⟨p, a', cap', hp, hsp, es, hcap, hlc, haddr⟩ := hs.slice_inv
      obtain ⟨l, hl1, hl2⟩ := hR.range (P := P) hp hH hle
      have hof : ∀ w0 : World, w0.heap = w.heap → (Builtin.firstCells (P.cellsOf e) len s').run P w0 = .ok l.toArray w0 := fun w0 hd => by
        rw [es]
        simp only [Builtin.firstCells]
        rcases haddr with hz0 | ⟨rfl, _⟩
        · have : len = 0 := by omega
          subst this
          have hl0 : l = [] := by
            have := hl2.1
            rw [range_len hle] at this
            cases l with
            | nil => rfl
            | cons => simp at this
          rw [hl0]
          simp [loadCells, loadCellsFrom]
        · exact hl1 w0 hd
      have ho1 := (hR.one hp hH).range a.off (len * P.cellsOf e)
      have hol := range_len hle
      -- in place
      have inPlace : len + n ≤ cap' → (own = true ∧ a.off + (len + n) * P.cellsOf e ≤ cs.length) → k (.slice (some a) (len + n) cap) (H.set a.block (.cells (splice cs (a.off + len * P.cellsOf e) nw) esz true)) = some r →
          ∃ v v' H' ρ' w', k v H' = some r ∧ (Builtin.append_ ats ty #[s', x']).run P w = .ok v' w' ∧ Rel ρ' H' w' ∧ Ext ρ H w ρ' H' w' ∧ VR ρ' v v' := fun hroom hfo hk0 => by
        obtain ⟨hown, hfits⟩ := hfo
        subst hown
        have hw := write_sound (P := P) hR hp hH (off := a.off + len * P.cellsOf e) (vs := nw) (by rw [hlen]; rw [Nat.add_mul] at hfits; omega) hv hone
        obtain ⟨w', q1, q2, q3⟩ := hw
        rcases haddr with hz0 | ⟨ea, hsize⟩
        · -- nothing is written
          have hl0 : len = 0 := by omega
          have hn0 : n = 0 := by omega
          have hnw : nw = [] := by
            rw [hn0] at hlen
            cases nw with
            | nil => rfl
            | cons => simp at hlen
          have hnw' : nw' = [] := by rw [hnw] at hv; exact hv.nil_inv
          have hset : H.set a.block (.cells (splice cs (a.off + len * P.cellsOf e) nw) esz true) = H := by
            rw [hnw, splice_nil]
            apply List.ext_getElem?
            intro j
            by_cases ej : j = a.block
            · subst ej
              have hlt := hR.dom _ _ hp
              simp [hlt]
              have := hH
              rw [List.getElem?_eq_getElem hlt] at this
              exact (Option.some.inj this).symm
            · rw [List.getElem?_set_ne (Ne.symm ej)]
          rw [hset] at hk0
          refine ⟨_, .slice (some a') (len + n) cap', H, ρ, w, hk0, ?_, hR, Ext.refl ρ H w, ?_⟩
          · rw [es]; exact append_room h0 hx0 hu hux hnot hie hn (hfn w rfl) hroom (by rw [hnw']; rfl)
          · rw [addr_eta hsp]
            exact .slice a.block a.off (len + n) cap cap' a' p hp hcap hroom (.inl hz0)
        · refine ⟨_, .slice (some a') (len + n) cap', _, ρ, w', hk0, ?_, q2, q3, ?_⟩
          · rw [es, ea]
            refine append_room h0 hx0 hu hux hnot hie hn (hfn w rfl) hroom ?_
            rw [addr_add, Nat.add_assoc]
            exact q1
          · rw [addr_eta hsp]
            exact .slice a.block a.off (len + n) cap cap' a' p hp hcap hroom (.inr ⟨ea, hsize⟩)
      split at h
      · rename_i hunk
        split at h
        · rename_i hfit
          exact inPlace (by rcases hcap with e | e <;> omega) hfit.2.2 h
        · -- the capacity is not known: the old number is let go
          replace h := ite_inv h; obtain ⟨hown, h⟩ := h
          subst hown
          by_cases hroom : len + n ≤ cap'
          · -- in place
            obtain ⟨c, el, fz, g1, g2, g3, g4, g5, g6⟩ := hR.obj a.block p _ hp hH
            have hplace : ∃ w' c', (Builtin.append_ ats ty #[s', x']).run P w = .ok (.slice (some a') (len + n) cap') w' ∧ Turned w w' p.blk (.cells c' el fz) ∧ c'.size = c.size ∧
                c'.toList = splice c.toList (p.base + a.off + len * P.cellsOf e) nw' ∧ p.base + a.off + (len + n) * P.cellsOf e ≤ c.size := by
              rcases haddr with hz0 | ⟨ea, hsize⟩
              · have hl0 : len = 0 := by omega
                have hn0 : n = 0 := by omega
                have hnw : nw' = [] := by
                  rw [hn0] at hlen'
                  cases nw' with
                  | nil => rfl
                  | cons => simp at hlen'
                refine ⟨w, c, ?_, Turned.refl g1, rfl, by rw [hnw, splice_nil], by rw [hl0, hn0]; simp; omega⟩
                rw [es]
                exact append_room h0 hx0 hu hux hnot hie hn (hfn w rfl) hroom (by rw [hnw]; rfl)
              · have hbig : p.base + a.off + (len + n) * P.cellsOf e ≤ c.size := by
                  rw [g2]
                  rw [g3.1, hes] at hsize
                  have : (len + n) * P.cellsOf e ≤ cap' * P.cellsOf e := Nat.mul_le_mul_right _ hroom
                  omega
                obtain ⟨w', c', q1, q2, q3⟩ := storeCells_run (P := P) nw' 0 p.blk (p.base + a.off + len * P.cellsOf e) c el fz w g1 (g6 rfl) (by rw [hlen', Nat.add_mul] at *; omega) (hv.one hone)
                refine ⟨w', c', ?_, q2, ?_, by simpa using q3, hbig⟩
                · rw [es, ea]
                  refine append_room h0 hx0 hu hux hnot hie hn (hfn w rfl) hroom ?_
                  rw [addr_add]
                  exact q1
                · have := congrArg List.length q3
                  rw [splice_len (by rw [hlen']; rw [Nat.add_mul] at hbig; simp; omega)] at this
                  simpa using this
            obtain ⟨w', c', q1, q2, q3, q4, q5⟩ := hplace
            have hor : ∀ ρ', Le ρ ρ' → OR ρ' w' ⟨p.blk, p.base + a.off, p.size, p.esz⟩ (.cells (range cs a.off (len * P.cellsOf e) ++ nw) (tzOff a.off esz) true) := fun ρ' hle' => by
              refine ⟨c', el, fz, q2.at_, by rw [q3]; exact g2, ⟨by rw [tzOff_mod]; exact g3.1, fun t ht => ⟨(g3.2 t (tzOff_div ht).2).1, by have h1 := (g3.2 t (tzOff_div ht).2).2; have h2 := (tzOff_div ht).1; show p.base + a.off = 0; omega⟩⟩, ?_, ?_, fun _ => by rw [q3]; exact g6 rfl⟩
              · rw [List.length_append, hol, hlen, q3]
                rw [Nat.add_mul] at q5
                simp only []
                omega
              · intro i v hi
                have hget : ∀ j, c'[p.base + a.off + j]? = if j < len * P.cellsOf e then c[p.base + a.off + j]? else if j < len * P.cellsOf e + nw'.length then nw'[j - len * P.cellsOf e]? else c[p.base + a.off + j]? := fun j => by
                  have e1 : c'[p.base + a.off + j]? = c'.toList[p.base + a.off + j]? := by simp
                  rw [e1, q4, splice_get (by rw [hlen']; rw [Nat.add_mul] at q5; simp; omega)]
                  by_cases b1 : j < len * P.cellsOf e
                  · rw [if_pos (by omega), if_pos b1]; simp
                  · rw [if_neg (by omega), if_neg b1]
                    by_cases b2 : j < len * P.cellsOf e + nw'.length
                    · rw [if_pos (by omega), if_pos b2]; congr 1; omega
                    · rw [if_neg (by omega), if_neg b2]; simp
                simp only []
                rw [hget]
                rcases Nat.lt_or_ge i (len * P.cellsOf e) with hlt | hge
                · rw [List.getElem?_append_left (by rw [hol]; exact hlt), range_get hlt] at hi
                  obtain ⟨o1, v', o2, o3⟩ := g5 _ v hi
                  rw [if_pos hlt]
                  exact ⟨o1, v', by rw [Nat.add_assoc]; exact o2, o3.mono hle'⟩
                · rw [List.getElem?_append_right (by rw [hol]; exact hge), hol] at hi
                  obtain ⟨v', o2, o3⟩ := hv.get hi
                  rw [if_neg (by omega)]
                  have hlt2 : i - len * P.cellsOf e < nw'.length := by
                    rcases Nat.lt_or_ge (i - len * P.cellsOf e) nw'.length with hq | hq
                    · exact hq
                    · simp [List.getElem?_eq_none hq] at o2
                  rw [if_pos (by omega)]
                  exact ⟨hone v (List.mem_of_getElem? hi), v', o2, o3.mono hle'⟩
            refine ⟨_, _, _, _, w', h, q1, Rel.rename (p' := ⟨p.blk, p.base + a.off, p.size, p.esz⟩) hR hp hH rfl rfl q2.other hor, Ext.rename (p' := ⟨p.blk, p.base + a.off, p.size, p.esz⟩) hR hp hH rfl rfl q2.other q2.size q2.os q2.tape q2.output, ?_⟩
            refine .slice H.length 0 _ _ cap' _ _ (Ren.ins_self _ _ _) (.inr (unkOk _)) hroom ?_
            rcases haddr with hz0 | ⟨ea, hsize⟩
            · exact .inl hz0
            · exact .inr ⟨by simpa using ea, by simpa using hsize⟩
          · -- a new row, the old one let go
            obtain ⟨v', w', p', g1, g2, g3, g4, g5, g6, g7, g8, g9, g10, g11⟩ := grow (tzOff a.off esz) hes' hety' (some a') cap' _ _ es (by omega) hl2 ho1 hol hof
            have hRk := hR.kill a.block
            have e1 : (H.set a.block AObj.dead).length = H.length := by simp
            have r1 := Rel.new_gen hRk g5 g7 g6
            have r2 := (Ext.kill (ρ := ρ) (H := H) (w := w) a.block).trans (Ext.new_gen hRk (o := .cells (range cs a.off (len * P.cellsOf e) ++ nw) (tzOff a.off esz) true) g5 g7 g8 g9 g10 g11) hRk.dom
            rw [e1] at r1 r2
            exact ⟨_, v', _, _, w', h, g1, r1, r2, g4⟩
      · rename_i hunk
        have hcc : cap = cap' := hcap.resolve_right fun z => hunk z.1
        split at h
        · rename_i hroom
          replace h := ite_inv h
          exact inPlace (by omega) h.1 h.2
        · rename_i hroom
          obtain ⟨v', w', p', g1, g2, g3, g4, _⟩ := grow (tyE P e) (by rw [tyE_mod]; exact Nat.mod_le _ _) (tyE_ty e) (some a') cap' _ _ es (by omega) hl2 ho1 hol hof
          exact ⟨_, v', _, _, w', h, g1, g2, g3, g4⟩
    · cases h
end
end Go.Proofs.YtgnkjpbecgpjoaaGreatDoor.Fw
