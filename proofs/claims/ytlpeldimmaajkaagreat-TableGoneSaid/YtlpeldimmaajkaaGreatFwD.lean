/- FRAMEWORK 13: append, whole; what changes something. -/
import Derived.Test.YtlpeldimmaajkaaGreatFwC
set_option linter.unusedVariables false
set_option linter.unusedSimpArgs false
namespace Go.Proofs.YtlpeldimmaajkaaGreat.Fw
open Go Go.RowKit

section
variable {P : Program} {ρ : Ren} {w : World} {β : Type} {r : β}

theorem Rel.heap {H : Heap} (h : Rel ρ H w) {w0 : World} (hd : w0.heap = w.heap) : Rel ρ H w0 :=
  ⟨h.dom, fun b p o h1 h2 => (h.obj b p o h1 h2).of_block (by rw [hd]), h.sep, h.glob⟩

/-- append where there is room. -/
theorem append_room {st xt e ty : TypeId} {ats : Array TypeId} {d : TypeDesc} (h0 : ats[0]? = some st) (hx0 : ats[1]? = some xt) (hu : P.underlying st = some (.slice e)) (hux : P.underlying xt = some d) (hnot : ∀ k, d ≠ .int k)
    {ie : TypeInfo} (hie : P.info? e = some ie) {x : Value} {a : Addr} {len cap n : Nat} {nw : List Value} (hn : (Builtin.lenOf x).run P w = .ok n w) (hnew : (Builtin.firstCells (P.cellsOf e) n x).run P w = .ok nw.toArray w) (hle : len + n ≤ cap)
    {w' : World} (hst : (storeCells (a.add (len * P.cellsOf e)) nw).run P w = .ok () w') :
    (Builtin.append_ ats ty #[.slice (some a) len cap, x]).run P w = .ok (.slice (some a) (len + n) cap) w' := by
  simp only [Builtin.append_, List.getElem?_toArray, List.getElem?_cons_zero, List.getElem?_cons_succ, h0, hx0, Sem.run_bind, run_underlying hu, run_underlying hux, Result.andThen_ok, sizeOf_any e 0 ⟨ie, hie⟩, Sem.run_pure]
  simp [hn, hle, hnew, hst]

theorem append_nil {st xt e ty : TypeId} {ats : Array TypeId} {d : TypeDesc} (h0 : ats[0]? = some st) (hx0 : ats[1]? = some xt) (hu : P.underlying st = some (.slice e)) (hux : P.underlying xt = some d) (hnot : ∀ k, d ≠ .int k)
    {ie : TypeInfo} (hie : P.info? e = some ie) {x : Value} {nw : List Value} (hn : (Builtin.lenOf x).run P w = .ok 0 w) (hnew : (Builtin.firstCells (P.cellsOf e) 0 x).run P w = .ok nw.toArray w) :
    (Builtin.append_ ats ty #[.slice none 0 0, x]).run P w = .ok (.slice none 0 0) w := by
  simp only [Builtin.append_, List.getElem?_toArray, List.getElem?_cons_zero, List.getElem?_cons_succ, h0, hx0, Sem.run_bind, run_underlying hu, run_underlying hux, Result.andThen_ok, sizeOf_any e 0 ⟨ie, hie⟩, Sem.run_pure]
  simp [hn, hnew]

set_option maxHeartbeats 1000000 in
theorem app_sound {H : Heap} (hR : Rel ρ H w) {st xt e ty : TypeId} {z : Value} {ats : Array TypeId} {d : TypeDesc} (h0 : ats[0]? = some st) (hx0 : ats[1]? = some xt) (hu : P.underlying st = some (.slice e)) (hux : P.underlying xt = some d) (hnot : ∀ k, d ≠ .int k)
    (hz : zeroOf P e = some z) (hzs : z.cells.size = P.cellsOf e) {s x s' x' : Value} (hs : VR ρ s s') (hx : VR ρ x x') {k : Value → Heap → Option β}
    (h : (firstC H (P.cellsOf e) x fun n nw => app P e H s n nw k) = some r) :
    ∃ v v' H' ρ' w', k v H' = some r ∧ (Builtin.append_ ats ty #[s', x']).run P w = .ok v' w' ∧ Rel ρ' H' w' ∧ Ext ρ H w ρ' H' w' ∧ VR ρ' v v' := by
  obtain ⟨ie, hie⟩ : ∃ i, P.info? e = some i := by unfold zeroOf at hz; split at hz; exact ⟨_, ‹_›⟩; cases hz
  replace h := firstC_sound (P := P) hR hx h
  obtain ⟨n, nw, nw', h, hv, hone, hlen, hn, hf⟩ := h
  have hlen' : nw'.length = n * P.cellsOf e := by rw [← hv.1]; exact hlen
  have hfn : ∀ w0 : World, w0.heap = w.heap → (Builtin.firstCells (P.cellsOf e) n x').run P w0 = .ok nw'.toArray w0 := fun w0 hd => by
    have := hf w0 hd n (Nat.le_refl _)
    rw [take_all hlen'] at this
    exact this
  unfold app at h
  replace h := kSl_inv h; obtain ⟨a, len, cap, rfl, h⟩ := h
  replace h := ite_inv h; obtain ⟨⟨hb, hb2⟩, h⟩ := h
  -- a new row
  have grow : ∀ (esz : Nat), esz % tyM ≤ P.cellsOf e → (∀ t, esz / tyM = t + 1 → e = t) → ∀ (a' : Option Addr) (cap' : Nat) (old old' : List Value), s' = .slice a' len cap' → cap' < len + n → VL ρ old old' → One old → old.length = len * P.cellsOf e →
      (∀ w0 : World, w0.heap = w.heap → (Builtin.firstCells (P.cellsOf e) len s').run P w0 = .ok old'.toArray w0) →
      ∃ v' w' p, (Builtin.append_ ats ty #[s', x']).run P w = .ok v' w' ∧ Rel (ρ.ins H.length p) (H ++ [.cells (old ++ nw) esz true]) w' ∧ Ext ρ H w (ρ.ins H.length p) (H ++ [.cells (old ++ nw) esz true]) w' ∧
        VR (ρ.ins H.length p) (.slice (some ⟨H.length, 0, none⟩) (len + n) unk) v' ∧ p.blk = w.heap.size ∧ (∀ ρ', Le ρ ρ' → OR ρ' w' p (.cells (old ++ nw) esz true)) ∧ (∀ k, k < w.heap.size → w'.heap[k]? = w.heap[k]?) ∧ w.heap.size ≤ w'.heap.size ∧ w'.os = w.os ∧ w'.tape = w.tape ∧ w'.output = w.output := by
    intro esz hes hety a' cap' old old' he hlt hvo ho1 hol hof
    obtain ⟨newCap, w0, rest, q1, q2, q3, q4, q5, q6, q7⟩ := append_grow (ty := ty) h0 hx0 hu hux hnot hz he hn hfn hof hlt hb hb2 hzs
    have hk : ∀ k, k < w.heap.size → (w0.alloc (.cells ((old' ++ nw') ++ rest).toArray e)).heap[k]? = w.heap[k]? := fun k hk => by
      rw [Below.heap_alloc _ _ _ (by rw [q2]; exact hk), q2]
    have hs : w.heap.size ≤ (w0.alloc (.cells ((old' ++ nw') ++ rest).toArray e)).heap.size := by
      show _ ≤ (w0.heap.push _).size
      rw [q2]; simp
    have hor : ∀ ρ', Le ρ ρ' → OR ρ' (w0.alloc (.cells ((old' ++ nw') ++ rest).toArray e)) ⟨w.heap.size, 0, ((old' ++ nw') ++ rest).length, esz % tyM⟩ (.cells (old ++ nw) esz true) := fun ρ' hle =>
      grown_OR ((hvo.append hv).mono hle) (ho1.append hone) rest w0 q2 e hety
    refine ⟨_, _, ⟨w.heap.size, 0, ((old' ++ nw') ++ rest).length, esz % tyM⟩, q7, hR.new_gen rfl hk hor, Ext.new_gen hR rfl hk hs q3 q4 q5, ?_, rfl, hor, hk, hs, q3, q4, q5⟩
    refine .slice H.length 0 _ _ newCap _ _ (Ren.ins_self _ _ _) (.inr (unkOk _)) q1 (.inr ⟨rfl, ?_⟩)
    have e1 : old'.length = len * P.cellsOf e := by rw [← hvo.1]; exact hol
    simp only [List.length_append, e1, hlen', q6, Nat.zero_add]
    rw [← Nat.add_mul, ← Nat.add_mul]
    refine Nat.le_trans (Nat.mul_le_mul_left _ hes) (Nat.mul_le_mul_right _ ?_)
    omega
  cases a with
  | none =>
    simp only [] at h
    replace h := ite_inv h; obtain ⟨⟨rfl, rfl⟩, h⟩ := h
    have es := hs.sliceN_inv.1
    split at h
    · rename_i hn0
      subst hn0
      refine ⟨_, _, H, ρ, w, h, ?_, hR, Ext.refl ρ H w, .sliceN⟩
      rw [es]
      exact append_nil h0 hx0 hu hux hnot hie hn (hfn w rfl)
    · rename_i hn0
      obtain ⟨v', w', p, g1, g2, g3, g4, _⟩ := grow (tyE P e) (by rw [tyE_mod]; exact Nat.mod_le _ _) (tyE_ty e) none 0 [] [] es (by omega) VL.nil One.nil (by simp) (fun w0 _ => by rw [es]; simp [Builtin.firstCells])
      refine ⟨_, v', _, ρ.ins H.length p, w', h, g1, ?_, ?_, ?_⟩
      · simpa using g2
      · simpa using g3
      · simpa using g4
  | some a =>
    simp only [] at h
    split at h
    · rename_i cs esz own hH
      replace h := ite_inv h; obtain ⟨⟨hle, hesz⟩, h⟩ := h
      obtain ⟨hes, hety⟩ : esz % tyM = P.cellsOf e ∧ (∀ t, esz / tyM = t + 1 → e = t) := by
        unfold szOk at hesz
        simp only [Bool.and_eq_true, Bool.or_eq_true] at hesz
        refine ⟨Nat.eq_of_beq_eq_true hesz.1, fun t ht => ?_⟩
        rcases hesz.2 with h1 | h1
        · have := Nat.eq_of_beq_eq_true h1; omega
        · exact Nat.add_right_cancel ((Nat.eq_of_beq_eq_true h1).symm.trans ht)
      have hes' : tzOff a.off esz % tyM ≤ P.cellsOf e := by rw [tzOff_mod, hes]; exact Nat.le_refl _
      have hety' : ∀ t, tzOff a.off esz / tyM = t + 1 → e = t := fun t ht => hety t (tzOff_div ht).2
      obtain ⟨p, a', cap', hp, hsp, es, hcap, hlc, haddr⟩ := hs.slice_inv
      obtain ⟨l, hl1, hl2⟩ := hR.range (P := P) hp hH hle
      have hof : ∀ w0 : World, w0.heap = w.heap → (Builtin.firstCells (P.cellsOf e) len s').run P w0 = .ok l.toArray w0 := fun w0 hd => by
        rw [es]
        simp only [Builtin.firstCells]
        rcases haddr with hz0 | ⟨rfl, _⟩
        · have : len = 0 := by omega
          subst this
          have hl0 : l = [] := by
            have := hl2.1
            rw [range_len hle] at this
            cases l with
            | nil => rfl
            | cons => simp at this
          rw [hl0]
          simp [loadCells, loadCellsFrom]
        · exact hl1 w0 hd
      have ho1 := (hR.one hp hH).range a.off (len * P.cellsOf e)
      have hol := range_len hle
      -- in place
      have inPlace : len + n ≤ cap' → (own = true ∧ a.off + (len + n) * P.cellsOf e ≤ cs.length) → k (.slice (some a) (len + n) cap) (H.set a.block (.cells (splice cs (a.off + len * P.cellsOf e) nw) esz true)) = some r →
          ∃ v v' H' ρ' w', k v H' = some r ∧ (Builtin.append_ ats ty #[s', x']).run P w = .ok v' w' ∧ Rel ρ' H' w' ∧ Ext ρ H w ρ' H' w' ∧ VR ρ' v v' := fun hroom hfo hk0 => by
        obtain ⟨hown, hfits⟩ := hfo
        subst hown
        have hw := write_sound (P := P) hR hp hH (off := a.off + len * P.cellsOf e) (vs := nw) (by rw [hlen]; rw [Nat.add_mul] at hfits; omega) hv hone
        obtain ⟨w', q1, q2, q3⟩ := hw
        rcases haddr with hz0 | ⟨ea, hsize⟩
        · -- nothing is written
          have hl0 : len = 0 := by omega
          have hn0 : n = 0 := by omega
          have hnw : nw = [] := by
            rw [hn0] at hlen
            cases nw with
            | nil => rfl
            | cons => simp at hlen
          have hnw' : nw' = [] := by rw [hnw] at hv; exact hv.nil_inv
          have hset : H.set a.block (.cells (splice cs (a.off + len * P.cellsOf e) nw) esz true) = H := by
            rw [hnw, splice_nil]
            apply List.ext_getElem?
            intro j
            by_cases ej : j = a.block
            · subst ej
              have hlt := hR.dom _ _ hp
              simp [hlt]
              have := hH
              rw [List.getElem?_eq_getElem hlt] at this
              exact (Option.some.inj this).symm
            · rw [List.getElem?_set_ne (Ne.symm ej)]
          rw [hset] at hk0
          refine ⟨_, .slice (some a') (len + n) cap', H, ρ, w, hk0, ?_, hR, Ext.refl ρ H w, ?_⟩
          · rw [es]; exact append_room h0 hx0 hu hux hnot hie hn (hfn w rfl) hroom (by rw [hnw']; rfl)
          · rw [addr_eta hsp]
            exact .slice a.block a.off (len + n) cap cap' a' p hp hcap hroom (.inl hz0)
        · refine ⟨_, .slice (some a') (len + n) cap', _, ρ, w', hk0, ?_, q2, q3, ?_⟩
          · rw [es, ea]
            refine append_room h0 hx0 hu hux hnot hie hn (hfn w rfl) hroom ?_
            rw [addr_add, Nat.add_assoc]
            exact q1
          · rw [addr_eta hsp]
            exact .slice a.block a.off (len + n) cap cap' a' p hp hcap hroom (.inr ⟨ea, hsize⟩)
      split at h
      · rename_i hunk
        split at h
        · rename_i hfit
          exact inPlace (by rcases hcap with e | e <;> omega) hfit.2.2 h
        · -- the capacity is not known: the old number is let go
          replace h := ite_inv h; obtain ⟨hown, h⟩ := h
          subst hown
          by_cases hroom : len + n ≤ cap'
          · -- in place
            obtain ⟨c, el, fz, g1, g2, g3, g4, g5, g6⟩ := hR.obj a.block p _ hp hH
            have hplace : ∃ w' c', (Builtin.append_ ats ty #[s', x']).run P w = .ok (.slice (some a') (len + n) cap') w' ∧ Turned w w' p.blk (.cells c' el fz) ∧ c'.size = c.size ∧
                c'.toList = splice c.toList (p.base + a.off + len * P.cellsOf e) nw' ∧ p.base + a.off + (len + n) * P.cellsOf e ≤ c.size := by
              rcases haddr with hz0 | ⟨ea, hsize⟩
              · have hl0 : len = 0 := by omega
                have hn0 : n = 0 := by omega
                have hnw : nw' = [] := by
                  rw [hn0] at hlen'
                  cases nw' with
                  | nil => rfl
                  | cons => simp at hlen'
                refine ⟨w, c, ?_, Turned.refl g1, rfl, by rw [hnw, splice_nil], by rw [hl0, hn0]; simp; omega⟩
                rw [es]
                exact append_room h0 hx0 hu hux hnot hie hn (hfn w rfl) hroom (by rw [hnw]; rfl)
              · have hbig : p.base + a.off + (len + n) * P.cellsOf e ≤ c.size := by
                  rw [g2]
                  rw [g3.1, hes] at hsize
                  have : (len + n) * P.cellsOf e ≤ cap' * P.cellsOf e := Nat.mul_le_mul_right _ hroom
                  omega
                obtain ⟨w', c', q1, q2, q3⟩ := storeCells_run (P := P) nw' 0 p.blk (p.base + a.off + len * P.cellsOf e) c el fz w g1 (g6 rfl) (by rw [hlen', Nat.add_mul] at *; omega) (hv.one hone)
                refine ⟨w', c', ?_, q2, ?_, by simpa using q3, hbig⟩
                · rw [es, ea]
                  refine append_room h0 hx0 hu hux hnot hie hn (hfn w rfl) hroom ?_
                  rw [addr_add]
                  exact q1
                · have := congrArg List.length q3
                  rw [splice_len (by rw [hlen']; rw [Nat.add_mul] at hbig; simp; omega)] at this
                  simpa using this
            obtain ⟨w', c', q1, q2, q3, q4, q5⟩ := hplace
            have hor : ∀ ρ', Le ρ ρ' → OR ρ' w' ⟨p.blk, p.base + a.off, p.size, p.esz⟩ (.cells (range cs a.off (len * P.cellsOf e) ++ nw) (tzOff a.off esz) true) := fun ρ' hle' => by
              refine ⟨c', el, fz, q2.at_, by rw [q3]; exact g2, ⟨by rw [tzOff_mod]; exact g3.1, fun t ht => ⟨(g3.2 t (tzOff_div ht).2).1, by have h1 := (g3.2 t (tzOff_div ht).2).2; have h2 := (tzOff_div ht).1; show p.base + a.off = 0; omega⟩⟩, ?_, ?_, fun _ => by rw [q3]; exact g6 rfl⟩
              · rw [List.length_append, hol, hlen, q3]
                rw [Nat.add_mul] at q5
                simp only []
                omega
              · intro i v hi
                have hget : ∀ j, c'[p.base + a.off + j]? = if j < len * P.cellsOf e then c[p.base + a.off + j]? else if j < len * P.cellsOf e + nw'.length then nw'[j - len * P.cellsOf e]? else c[p.base + a.off + j]? := fun j => by
                  have e1 : c'[p.base + a.off + j]? = c'.toList[p.base + a.off + j]? := by simp
                  rw [e1, q4, splice_get (by rw [hlen']; rw [Nat.add_mul] at q5; simp; omega)]
                  by_cases b1 : j < len * P.cellsOf e
                  · rw [if_pos (by omega), if_pos b1]; simp
                  · rw [if_neg (by omega), if_neg b1]
                    by_cases b2 : j < len * P.cellsOf e + nw'.length
                    · rw [if_pos (by omega), if_pos b2]; congr 1; omega
                    · rw [if_neg (by omega), if_neg b2]; simp
                simp only []
                rw [hget]
                rcases Nat.lt_or_ge i (len * P.cellsOf e) with hlt | hge
                · rw [List.getElem?_append_left (by rw [hol]; exact hlt), range_get hlt] at hi
                  obtain ⟨o1, v', o2, o3⟩ := g5 _ v hi
                  rw [if_pos hlt]
                  exact ⟨o1, v', by rw [Nat.add_assoc]; exact o2, o3.mono hle'⟩
                · rw [List.getElem?_append_right (by rw [hol]; exact hge), hol] at hi
                  obtain ⟨v', o2, o3⟩ := hv.get hi
                  rw [if_neg (by omega)]
                  have hlt2 : i - len * P.cellsOf e < nw'.length := by
                    rcases Nat.lt_or_ge (i - len * P.cellsOf e) nw'.length with hq | hq
                    · exact hq
                    · simp [List.getElem?_eq_none hq] at o2
                  rw [if_pos (by omega)]
                  exact ⟨hone v (List.mem_of_getElem? hi), v', o2, o3.mono hle'⟩
            refine ⟨_, _, _, _, w', h, q1, Rel.rename (p' := ⟨p.blk, p.base + a.off, p.size, p.esz⟩) hR hp hH rfl rfl q2.other hor, Ext.rename (p' := ⟨p.blk, p.base + a.off, p.size, p.esz⟩) hR hp hH rfl rfl q2.other q2.size q2.os q2.tape q2.output, ?_⟩
            refine .slice H.length 0 _ _ cap' _ _ (Ren.ins_self _ _ _) (.inr (unkOk _)) hroom ?_
            rcases haddr with hz0 | ⟨ea, hsize⟩
            · exact .inl hz0
            · exact .inr ⟨by simpa using ea, by simpa using hsize⟩
          · -- a new row, the old one let go
            obtain ⟨v', w', p', g1, g2, g3, g4, g5, g6, g7, g8, g9, g10, g11⟩ := grow (tzOff a.off esz) hes' hety' (some a') cap' _ _ es (by omega) hl2 ho1 hol hof
            have hRk := hR.kill a.block
            have e1 : (H.set a.block AObj.dead).length = H.length := by simp
            have r1 := Rel.new_gen hRk g5 g7 g6
            have r2 := (Ext.kill (ρ := ρ) (H := H) (w := w) a.block).trans (Ext.new_gen hRk (o := .cells (range cs a.off (len * P.cellsOf e) ++ nw) (tzOff a.off esz) true) g5 g7 g8 g9 g10 g11) hRk.dom
            rw [e1] at r1 r2
            exact ⟨_, v', _, _, w', h, g1, r1, r2, g4⟩
      · rename_i hunk
        have hcc : cap = cap' := hcap.resolve_right fun z => hunk z.1
        split at h
        · rename_i hroom
          replace h := ite_inv h
          exact inPlace (by omega) h.1 h.2
        · rename_i hroom
          obtain ⟨v', w', p', g1, g2, g3, g4, _⟩ := grow (tyE P e) (by rw [tyE_mod]; exact Nat.mod_le _ _) (tyE_ty e) (some a') cap' _ _ es (by omega) hl2 ho1 hol hof
          exact ⟨_, v', _, _, w', h, g1, g2, g3, g4⟩
    · cases h
end
end Go.Proofs.YtlpeldimmaajkaaGreat.Fw
