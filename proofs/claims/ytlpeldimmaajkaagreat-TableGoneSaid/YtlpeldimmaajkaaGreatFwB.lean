/- FRAMEWORK 11: rows that are written, made, and appended to. -/
import Derived.Test.YtlpeldimmaajkaaGreatFwA
import Derived.Laws.Append
set_option linter.unusedVariables false
set_option linter.unusedSimpArgs false
namespace Go.Proofs.YtlpeldimmaajkaaGreat.Fw
open Go Go.RowKit

/-- One block of a world is another one now. -/
structure Turned (w w' : World) (g : Nat) (x : Obj) : Prop where
  at_ : w'.heap[g]? = some x
  other : ∀ k, k ≠ g → w'.heap[k]? = w.heap[k]?
  size : w'.heap.size = w.heap.size
  os : w'.os = w.os
  tape : w'.tape = w.tape
  output : w'.output = w.output

theorem Turned.refl {w : World} {g : Nat} {x : Obj} (h : w.heap[g]? = some x) : Turned w w g x := ⟨h, fun _ _ => rfl, rfl, rfl, rfl, rfl⟩
theorem Turned.trans {w w1 w2 : World} {g : Nat} {x y : Obj} (h : Turned w w1 g x) (k : Turned w1 w2 g y) : Turned w w2 g y :=
  ⟨k.at_, fun j hj => (k.other j hj).trans (h.other j hj), k.size.trans h.size, k.os.trans h.os, k.tape.trans h.tape, k.output.trans h.output⟩

theorem setCell_turned {w : World} {g i : Nat} {cur : Array Value} {el : TypeId} {fz : Nat × Nat} (hg : w.heap[g]? = some (.cells cur el fz)) (v : Value) :
    Turned w (w.setCell ⟨g, i, none⟩ v) g (.cells (cur.setIfInBounds i v) el fz) := by
  refine ⟨?_, fun k hk => Below.heap_setCell w ⟨g, i, none⟩ v k hk, by simp [World.setCell], rfl, rfl, rfl⟩
  simp [World.setCell, Array.getElem?_modify, hg]

theorem splice_len {cs : List Value} {off : Nat} {vs : List Value} (h : off + vs.length ≤ cs.length) : (splice cs off vs).length = cs.length := by
  simp [splice]; omega
theorem splice_get {cs : List Value} {off : Nat} {vs : List Value} (h : off + vs.length ≤ cs.length) (i : Nat) :
    (splice cs off vs)[i]? = if i < off then cs[i]? else if i < off + vs.length then vs[i - off]? else cs[i]? := by
  unfold splice
  rw [List.append_assoc]
  by_cases h1 : i < off
  · rw [if_pos h1, List.getElem?_append_left (by simp; omega), List.getElem?_take, if_pos h1]
  · rw [if_neg h1, List.getElem?_append_right (by simp; omega)]
    have e : (List.take off cs).length = off := by simp; omega
    rw [e]
    by_cases h2 : i < off + vs.length
    · rw [if_pos h2, List.getElem?_append_left (by omega)]
    · rw [if_neg h2, List.getElem?_append_right (by omega), List.getElem?_drop]
      congr 1; omega
theorem splice_nil (cs : List Value) (off : Nat) : splice cs off [] = cs := by simp [splice]
theorem splice_cons {cs : List Value} {off : Nat} {v : Value} {vs : List Value} (h : off + (vs.length + 1) ≤ cs.length) : splice cs off (v :: vs) = splice (cs.set off v) (off + 1) vs := by
  apply List.ext_getElem?
  intro i
  rw [splice_get (by simpa using h), splice_get (by simp; omega)]
  by_cases h1 : i < off
  · rw [if_pos h1, if_pos (by omega), List.getElem?_set_ne (by omega)]
  · rw [if_neg h1]
    by_cases h2 : i = off
    · subst h2
      rw [if_pos (by simp), if_pos (by omega)]
      have hlt : i < cs.length := by omega
      simp [hlt]
    · rw [if_neg (show ¬ i < off + 1 by omega), List.getElem?_set_ne (by omega)]
      simp only [List.length_cons]
      by_cases h3 : i < off + (vs.length + 1)
      · rw [if_pos h3, if_pos (by omega), show i - off = (i - (off + 1)) + 1 by omega]
        rfl
      · rw [if_neg h3, if_neg (by omega)]
theorem set_splice {cs : List Value} {off : Nat} {v : Value} (h : off < cs.length) : cs.set off v = splice cs off [v] := by
  rw [splice_cons (by simp; omega), splice_nil]

section
variable {P : Program} {ρ : Ren} {w : World} {β : Type} {r : β}

theorem storeCells_run : ∀ (vs : List Value) (i g o : Nat) (cur : Array Value) (el : TypeId) (fz : Nat × Nat) (w : World), w.heap[g]? = some (.cells cur el fz) → Unfz cur.size fz → o + i + vs.length ≤ cur.size → One vs →
    ∃ w' cur', (storeCells ⟨g, o, none⟩ vs i).run P w = .ok () w' ∧ Turned w w' g (.cells cur' el fz) ∧ cur'.toList = splice cur.toList (o + i) vs
  | [], i, g, o, cur, el, fz, w, hg, hf, hl, h1 => ⟨w, cur, rfl, Turned.refl hg, (splice_nil _ _).symm⟩
  | v :: vs, i, g, o, cur, el, fz, w, hg, hf, hl, h1 => by
    simp only [List.length_cons] at hl
    have hcell : w.cell? ⟨g, o + i, none⟩ = some (cur.getD (o + i) undef) := by
      have : o + i < cur.size := by omega
      simp [World.cell?, hg, this]
    have hfro : w.frozen? ⟨g, o + i, none⟩ = false := by
      have := hf (o + i) (by omega)
      simp only [World.frozen?, hg]
      simpa using this
    have ht := setCell_turned (i := o + i) hg v
    have hrun : (store ((⟨g, o, none⟩ : Addr).add i) v).run P w = .ok () (w.setCell ⟨g, o + i, none⟩ v) := by
      rw [addr_add, run_store P w _ v _ (h1 v (by simp)), hcell]
      simp [hfro]
    obtain ⟨w', cur', h2, h3, h4⟩ := storeCells_run vs (i + 1) g o _ el fz _ ht.at_ (by simpa using hf) (by simp; omega) (fun u hu => h1 u (by simp [hu]))
    refine ⟨w', cur', by simp only [storeCells, Sem.run_bind, hrun, Result.andThen_ok, h2], ht.trans h3, ?_⟩
    rw [h4, splice_cons (by simp; omega), Array.toList_setIfInBounds]
    rfl

/-- What a spliced row says. -/
theorem OR.splice {w' : World} {p : Pl} {cs vs vs' : List Value} {esz : Nat} {c c' : Array Value} {el : TypeId} {fz : Nat × Nat} (h4 : p.base + cs.length ≤ c.size) (h2 : c.size = p.size) (h3 : p.esz = esz % tyM ∧ ∀ t, esz / tyM = t + 1 → el = t ∧ p.base = 0)
    (h5 : ∀ (i : Nat) (v : Value), cs[i]? = some v → v.oneCell' = true ∧ ∃ v', c[p.base + i]? = some v' ∧ VR ρ v v') (h6 : Unfz c.size fz) {off : Nat} (hoff : off + vs.length ≤ cs.length) (hv : VL ρ vs vs') (h1 : One vs)
    (hw : w'.heap[p.blk]? = some (.cells c' el fz)) (hc : c'.toList = Fw.splice c.toList (p.base + off) vs') : OR ρ w' p (.cells (Fw.splice cs off vs) esz true) := by
  have hlen : p.base + off + vs'.length ≤ c.toList.length := by rw [← hv.1]; simp; omega
  have hsz : c'.size = c.size := by
    have := congrArg List.length hc
    rw [splice_len hlen] at this
    simpa using this
  have hget : ∀ i, c'[p.base + i]? = if i < off then c[p.base + i]? else if i < off + vs.length then vs'[i - off]? else c[p.base + i]? := fun i => by
    have : c'[p.base + i]? = c'.toList[p.base + i]? := by simp
    rw [this, hc, splice_get hlen, hv.1]
    by_cases a : i < off
    · rw [if_pos (by omega), if_pos a]; simp
    · rw [if_neg (by omega), if_neg a]
      by_cases b : i < off + vs'.length
      · rw [if_pos (by omega), if_pos b]; congr 1; omega
      · rw [if_neg (by omega), if_neg b]; simp
  refine ⟨c', el, fz, hw, by omega, h3, by rw [splice_len hoff]; omega, fun i v hi => ?_, fun _ => by rw [hsz]; exact h6⟩
  rw [splice_get hoff] at hi
  rw [hget]
  split at hi
  · rename_i a; rw [if_pos a]; exact h5 i v hi
  · rename_i a
    rw [if_neg a]
    split at hi
    · rename_i b
      rw [if_pos b]
      obtain ⟨v', q1, q2⟩ := hv.get hi
      exact ⟨h1 v (List.mem_of_getElem? hi), v', q1, q2⟩
    · rename_i b; rw [if_neg b]; exact h5 i v hi

/-- Cells of a block of one's own are written. -/
theorem write_sound {H : Heap} (hR : Rel ρ H w) {b : Nat} {p : Pl} (hb : ρ b = some p) {cs : List Value} {esz : Nat} (hH : H[b]? = some (.cells cs esz true)) {off : Nat} {vs vs' : List Value} (hoff : off + vs.length ≤ cs.length) (hv : VL ρ vs vs') (h1 : One vs) :
    ∃ w', (storeCells ⟨p.blk, p.base + off, none⟩ vs').run P w = .ok () w' ∧ Rel ρ (H.set b (.cells (splice cs off vs) esz true)) w' ∧ Ext ρ H w ρ (H.set b (.cells (splice cs off vs) esz true)) w' := by
  obtain ⟨c, el, fz, g1, g2, g3, g4, g5, g6⟩ := hR.obj b p _ hb hH
  obtain ⟨w', c', q1, q2, q3⟩ := storeCells_run (P := P) vs' 0 p.blk (p.base + off) c el fz w g1 (g6 rfl) (by rw [← hv.1]; omega) (hv.one h1)
  have hor : OR ρ w' p (.cells (splice cs off vs) esz true) := OR.splice g4 g2 g3 g5 (g6 rfl) hoff hv h1 q2.at_ (by simpa using q3)
  exact ⟨w', q1, hR.turn hb hH rfl rfl q2.other hor, Ext.turn hb hH rfl q2.other q2.size q2.os q2.tape q2.output⟩

theorem putc_eq {cs : List Value} {off : Nat} {v : Value} (h : off + v.cells.toList.length ≤ cs.length) : putc cs off v = splice cs off v.cells.toList := by
  cases v <;> first
    | rfl
    | (simp only [putc]; rw [set_splice (by simp [Value.cells] at h; omega)]; rfl)

theorem st_sound {H : Heap} (hR : Rel ρ H w) {ty : TypeId} {it : TypeInfo} (hi : P.info? ty = some it) {a : Addr} {p : Pl} (ha : ρ a.block = some p) {v v' : Value} (hv : VR ρ v v') (hone : One v.cells.toList) {k : Value → Heap → Option β} (h : st (P.cellsOf ty) H a v k = some r) :
    ∃ H' w', k undef H' = some r ∧ (storeVar ty ⟨p.blk, p.base + a.off, none⟩ v').run P w = .ok () w' ∧ Rel ρ H' w' ∧ Ext ρ H w ρ H' w' := by
  unfold st at h
  split at h
  · rename_i cs esz hH
    replace h := ite_inv h
    obtain ⟨⟨hn, hoff⟩, h⟩ := h
    have hlen : v.cells.toList.length = P.cellsOf ty := by simpa using hn
    obtain ⟨w', q1, q2, q3⟩ := write_sound (P := P) hR ha hH (off := a.off) (vs := v.cells.toList) (by rw [hlen]; exact hoff) hv.cells hone
    rw [putc_eq (by omega)] at h
    refine ⟨_, w', h, ?_, q2, q3⟩
    have hn' : v'.cells.size = it.size := by
      have := hv.cells.1
      have e2 : P.cellsOf ty = it.size := by simp [Program.cellsOf, hi]
      simp at this; omega
    have e3 : (sizeOf ty).run P w = .ok it.size w := by simp [sizeOf, typeInfo, hi]
    simp only [storeVar, Sem.run_bind, e3, Result.andThen_ok]
    rw [if_neg (by simp [hn'])]
    exact q1
  · cases h

/-- The cells of a slice's or a text's elements. -/
theorem firstC_sound {H : Heap} (hR : Rel ρ H w) {sz : Nat} {x x' : Value} (hx : VR ρ x x') {k : Nat → List Value → Option β} (h : firstC H sz x k = some r) :
    ∃ n nw nw', k n nw = some r ∧ VL ρ nw nw' ∧ One nw ∧ nw.length = n * sz ∧ (Builtin.lenOf x').run P w = .ok n w ∧ (∀ w0 : World, w0.heap = w.heap → ∀ m, m ≤ n → (Builtin.firstCells sz m x').run P w0 = .ok (nw'.take (m * sz)).toArray w0) := by
  unfold firstC at h
  split at h
  · replace h := ite_inv h; obtain ⟨rfl, h⟩ := h
    rw [hx.sliceN_inv.1]
    exact ⟨0, [], [], h, VL.nil, One.nil, by simp, rfl, fun w0 _ m _ => by simp [Builtin.firstCells]⟩
  · rename_i a len cap
    replace h := ldc_inv h; obtain ⟨cs, esz, own, hH, h⟩ := h
    replace h := ite_inv h; obtain ⟨hle, h⟩ := h
    obtain ⟨p, a', cap', hp, hs, rfl, hcap, hlen, haddr⟩ := hx.slice_inv
    obtain ⟨l, hl1, hl2⟩ := hR.range (P := P) hp hH hle
    refine ⟨len, _, l, h, hl2, (hR.one hp hH).range _ _, range_len hle, rfl, fun w0 hd m hm => ?_⟩
    simp only [Builtin.firstCells]
    rcases haddr with h0 | ⟨rfl, _⟩
    · have : m = 0 := by omega
      subst this
      simp [loadCells, loadCellsFrom]
    · have hle' : a.off + m * sz ≤ cs.length := by
        have : m * sz ≤ len * sz := Nat.mul_le_mul_right _ hm
        omega
      obtain ⟨l', hl1', hl2'⟩ := hR.range (P := P) hp hH hle'
      rw [hl1' w0 hd]
      congr 2
      -- the same cells
      have e : ∀ i, i < m * sz → l'[i]? = l[i]? := fun i hi => by
        have hc : ∀ n (q : List Value), a.off + n ≤ cs.length → (loadCells ⟨p.blk, p.base + a.off, none⟩ n).run P w = .ok q.toArray w → i < n → q[i]? = some ((w.cell? ⟨p.blk, p.base + a.off + i, none⟩).getD undef) := fun n q hn hq hi => by
          have hcell : ∀ j, j < n → w.cell? ((⟨p.blk, p.base + a.off, none⟩ : Addr).add j) = some ((w.cell? ⟨p.blk, p.base + a.off + j, none⟩).getD undef) := fun j hj => by
            have hlt : a.off + j < cs.length := by omega
            obtain ⟨v', h1, _⟩ := hR.cell hp hH (i := a.off + j) (v := cs[a.off + j]) (by simp [hlt])
            rw [addr_add, Nat.add_assoc, h1]; rfl
          have := run_loadCells (P := P) w _ n (fun j => (w.cell? ⟨p.blk, p.base + a.off + j, none⟩).getD undef) hcell
          rw [hq] at this
          injection this with h1 _
          have := congrArg Array.toList h1
          simp at this
          rw [this]
          simp [hi]
        rw [hc _ l' hle' (hl1' w rfl) hi, hc _ l hle (hl1 w rfl) (Nat.lt_of_lt_of_le hi (Nat.mul_le_mul_right _ hm))]
      apply List.ext_getElem?
      intro i
      rw [List.getElem?_take]
      split
      · rename_i hi; exact e i hi
      · rename_i hi
        have := hl2'.1
        rw [range_len hle'] at this
        rw [List.getElem?_eq_none (by omega)]
  · rename_i s
    split at h
    · rename_i hsz
      have hsz := Nat.eq_of_beq_eq_true hsz
      subst hsz
      rw [hx.string_inv]
      refine ⟨s.size, _, s.data.toList.map fun b => .int .u8 b.toNat, h, ?_, ?_, by rw [List.length_map, Array.length_toList, Nat.mul_one]; rfl, rfl, fun w0 _ m hm => ?_⟩
      · refine ⟨rfl, fun i v v' a b => ?_⟩
        rw [a] at b
        obtain rfl := Option.some.inj b
        simp at a
        obtain ⟨x, _, rfl⟩ := a
        exact .int _ _
      · intro v hv
        simp at hv
        obtain ⟨x, _, rfl⟩ := hv
        rfl
      · simp only [Builtin.firstCells, Sem.run_pure, Nat.mul_one]
        congr 1
        apply Array.ext'
        have : (s.extract 0 m).data.toList = s.data.toList.take m := by
          rw [ByteArray.data_extract, Array.toList_extract, List.extract_eq_take_drop, List.drop_zero, Nat.sub_zero]
        rw [Array.toList_map, this]
        simp [List.map_take]
    · cases h
  · cases h
/-- copy. -/
theorem copy_sound {H : Heap} (hR : Rel ρ H w) {dt e ty : TypeId} {ats : Array TypeId} (ha : ats[0]? = some dt) (hu : P.underlying dt = some (.slice e)) {ie : TypeInfo} (hie : P.info? e = some ie) {d s d' s' : Value} (hd : VR ρ d d') (hs : VR ρ s s') {k : Value → Heap → Option β}
    (h : (firstC H (P.cellsOf e) s fun n cs => kSl d fun a len _ => cpy H (P.cellsOf e) a len n cs fun m H => k (.int .i64 m) H) = some r) :
    ∃ v H' w', k v H' = some r ∧ (Builtin.copy_ ats ty #[d', s']).run P w = .ok v w' ∧ Rel ρ H' w' ∧ Ext ρ H w ρ H' w' ∧ VR ρ v v := by
  replace h := firstC_sound (P := P) hR hs h
  obtain ⟨n, nw, nw', h, hv, hone, hlen, hn, hf⟩ := h
  replace h := kSl_inv h; obtain ⟨a, len, cap, rfl, h⟩ := h
  have hsz : (sizeOf e).run P w = .ok (P.cellsOf e) w := sizeOf_any e 0 ⟨ie, hie⟩
  unfold cpy at h
  cases a with
  | none =>
    simp only [] at h
    replace h := ite_inv h; obtain ⟨rfl, h⟩ := h
    refine ⟨_, _, w, h, ?_, hR, Ext.refl _ _ _, .int _ _⟩
    have h0 := hf w rfl 0 (Nat.zero_le _)
    rw [hd.sliceN_inv.1]
    simp only [Builtin.copy_, ha, List.getElem?_toArray, List.getElem?_cons_zero, List.getElem?_cons_succ, Sem.run_bind, run_underlying hu, Result.andThen_ok, hn, hsz, Nat.min_zero, h0, Sem.run_pure]
    rfl
  | some a =>
    simp only [] at h
    split at h
    · rename_i old esz hH
      replace h := ite_inv h; obtain ⟨hle, h⟩ := h
      obtain ⟨p, a', cap', hp, hsp, rfl, hcap, hlc, haddr⟩ := hd.slice_inv
      have hm : min n len ≤ n := Nat.min_le_left _ _
      have hm2 : min n len ≤ len := Nat.min_le_right _ _
      have hmul : min n len * P.cellsOf e ≤ len * P.cellsOf e := Nat.mul_le_mul_right _ hm2
      have hmul2 : min n len * P.cellsOf e ≤ n * P.cellsOf e := Nat.mul_le_mul_right _ hm
      have hfc := hf w rfl (min n len) hm
      have htl : (nw.take (min n len * P.cellsOf e)).length = min n len * P.cellsOf e := by rw [List.length_take, hlen]; omega
      obtain ⟨w', q1, q2, q3⟩ := write_sound (P := P) hR hp hH (off := a.off) (vs := nw.take (min n len * P.cellsOf e)) (by rw [htl]; omega) (hv.take _) (hone.take _)
      have hst : (storeCells a' (nw'.take (min n len * P.cellsOf e))).run P w = .ok () w' := by
        rcases haddr with hz0 | ⟨ea, _⟩
        · have hl0 : len = 0 := by omega
          have e0 : nw'.take (min n len * P.cellsOf e) = [] := by rw [hl0]; simp
          rw [e0] at q1 ⊢
          exact q1
        · rw [ea]; exact q1
      refine ⟨_, _, w', h, ?_, q2, q3, .int _ _⟩
      have e1 : ((nw'.take (min n len * P.cellsOf e)).toArray).toList = nw'.take (min n len * P.cellsOf e) := by simp
      simp only [Builtin.copy_, ha, List.getElem?_toArray, List.getElem?_cons_zero, List.getElem?_cons_succ, Sem.run_bind, run_underlying hu, Result.andThen_ok, hn, hsz, Sem.run_pure]
      rw [show Nat.min n len = min n len from rfl, hfc]
      simp only [Result.andThen_ok, e1, hst, Sem.run_pure]
      rfl
    · cases h
/-- clear. -/
theorem clear_sound {H : Heap} (hR : Rel ρ H w) {dt e ty : TypeId} {ats : Array TypeId} (ha : ats[0]? = some dt) (hu : P.underlying dt = some (.slice e)) {z : Value} (hz : zeroOf P e = some z) (hp1 : plainV z = true) (hone : One z.cells.toList) (hzs : z.cells.size = P.cellsOf e) {d d' : Value} (hd : VR ρ d d') {k : Value → Heap → Option β}
    (h : (kSl d fun a len _ => clr H (P.cellsOf e) z a len fun H => k (.tuple #[]) H) = some r) :
    ∃ v H' w', k v H' = some r ∧ (Builtin.clear_ ats ty #[d']).run P w = .ok v w' ∧ Rel ρ H' w' ∧ Ext ρ H w ρ H' w' ∧ VR ρ v v := by
  replace h := kSl_inv h; obtain ⟨a, len, cap, rfl, h⟩ := h
  have hv0 : VR ρ (.tuple #[]) (.tuple #[]) := VR.tuple_mk VL.nil
  unfold clr at h
  cases a with
  | none =>
    simp only [] at h
    refine ⟨_, _, w, h, ?_, hR, Ext.refl _ _ _, hv0⟩
    rw [hd.sliceN_inv.1]
    simp [Builtin.clear_, ha, Sem.run_bind, run_underlying hu]
  | some a =>
    simp only [] at h
    split at h
    · rename_i old esz hH
      replace h := ite_inv h; obtain ⟨hle, h⟩ := h
      obtain ⟨p, a', cap', hp, hsp, rfl, hcap, hlc, haddr⟩ := hd.slice_inv
      have hl2 : (zeroCellsOf z len).length = len * P.cellsOf e := by rw [← hzs]; exact flat_len _ _
      have hvz : VL ρ (zeroCellsOf z len) (zeroCellsOf z len) := by simpa [zeroCellsOf] using (plainV_VR (ρ := ρ) hp1).cells.flat len
      have hoz : One (zeroCellsOf z len) := by simpa [zeroCellsOf] using hone.flat len
      obtain ⟨w', q1, q2, q3⟩ := write_sound (P := P) hR hp hH (off := a.off) (vs := zeroCellsOf z len) (by rw [hl2]; exact hle) hvz hoz
      have hzc : (Builtin.zeroCells z.cells len).toList = zeroCellsOf z len := by
        unfold Builtin.zeroCells
        rw [zeroCells_map]; rfl
      have hst : (storeCells a' (zeroCellsOf z len)).run P w = .ok () w' := by
        rcases haddr with hz0 | ⟨ea, _⟩
        · have hl0 : len = 0 := by omega
          have e0 : zeroCellsOf z len = [] := by rw [hl0]; rfl
          rw [e0] at q1 ⊢
          exact q1
        · rw [ea]; exact q1
      refine ⟨_, _, w', h, ?_, q2, q3, hv0⟩
      cases len with
      | zero =>
        have e0 : zeroCellsOf z 0 = [] := rfl
        rw [e0] at hst
        have hw : w = w' := by simpa [storeCells] using hst
        rw [← hw]
        simp [Builtin.clear_, ha, Sem.run_bind, run_underlying hu]
      | succ m =>
        simp only [Builtin.clear_, ha, List.getElem?_toArray, List.getElem?_cons_zero, Sem.run_bind, run_underlying hu, Result.andThen_ok, run_zero hz, hzc, hst, Sem.run_pure]
    · cases h
end
end Go.Proofs.YtlpeldimmaajkaaGreat.Fw
