/- FRAMEWORK 10: operations that make a block, or change one, do in the world what they do on the abstract heap. -/
import Derived.Test.YtlpeldimmaajkaaGreatFw9
set_option linter.unusedVariables false
set_option linter.unusedSimpArgs false
namespace Go.Proofs.YtlpeldimmaajkaaGreat.Fw
open Go Go.RowKit

section
variable {P : Program} {ρ : Ren} {w : World} {β : Type} {r : β}

theorem heap_new (w : World) (o : Obj) : (w.alloc o).heap[w.heap.size]? = some o := by
  show (w.heap.push o)[w.heap.size]? = some o
  simp
theorem flat_len {α : Type} (l : List α) : ∀ n, (List.replicate n l).flatten.length = n * l.length
  | 0 => by simp
  | n + 1 => by rw [List.replicate_succ, List.flatten_cons, List.length_append, flat_len l n, Nat.succ_mul, Nat.add_comm]
theorem wrap_in {n : Int} (h : -9223372036854775808 ≤ n ∧ n < 9223372036854775808) : IntKind.i64.wrap n = n := by
  simp [IntKind.wrap, IntKind.bits, IntKind.signed]; omega

/-- A new row in the world. -/
theorem OR.new {ρ' : Ren} {cs : Array Value} {cs0 : List Value} (hc : VL ρ' cs0 cs.toList) (h1 : One cs0) (el : TypeId) {esz : Nat} (hz : ∀ t, esz / tyM = t + 1 → el = t) : OR ρ' (w.alloc (.cells cs el)) ⟨w.heap.size, 0, cs.size, esz % tyM⟩ (.cells cs0 esz true) := by
  refine ⟨cs, el, (0, 0), heap_new w _, rfl, ⟨rfl, fun t h => ⟨hz t h, rfl⟩⟩, ?_, ?_, ?_⟩
  · have := hc.1; simp at this; simp [this]
  · intro i v hv
    obtain ⟨v', h2, h3⟩ := hc.get hv
    exact ⟨h1 v (List.mem_of_getElem? hv), v', by simpa using h2, h3⟩
  · intro _ i _ h; simp at h

theorem small_ty {esz : Nat} (h : esz < tyM) {el : TypeId} : ∀ t, esz / tyM = t + 1 → el = t := fun t e => by rw [Nat.div_eq_of_lt h] at e; omega
theorem mod_ty (n : Nat) {el : TypeId} : ∀ t, n % tyM / tyM = t + 1 → el = t := small_ty (Nat.mod_lt _ (by decide))
theorem tyE_mod {P : Program} (e : TypeId) : tyE P e % tyM = P.cellsOf e % tyM := by
  unfold tyE
  split
  · exact tz_mod _ _
  · simp
theorem tyE_ty {P : Program} (e : TypeId) : ∀ t, tyE P e / tyM = t + 1 → e = t := by
  unfold tyE
  split
  · intro t h; rw [tz_div] at h; exact Nat.add_right_cancel h
  · exact mod_ty _
theorem selfTy_ty {P : Program} (e : TypeId) : ∀ t, selfTy P e / tyM = t + 1 → e = t := by
  unfold selfTy
  repeat' split
  all_goals first | (intro t h; rw [tz_div] at h; exact Nat.add_right_cancel h) | exact small_ty (esz := 0) (by decide) | exact mod_ty _

theorem boxTy_ty {P : Program} (e : TypeId) : ∀ t, boxTy P e / tyM = t + 1 → e = t := by
  unfold boxTy
  split
  · intro t h; rw [tz_div] at h; exact Nat.add_right_cancel h
  · exact small_ty (esz := 0) (by decide)
theorem zeroCells_map (z : Array Value) : ∀ n, (Array.range (n * z.size)).map (fun i => z[i % z.size]!) = ((List.replicate n z.toList).flatten).toArray := by
  intro n
  by_cases hz : z.size = 0
  · have : z.toList = [] := by simpa using hz
    simp [hz, this, Array.range]
  apply Array.ext'
  simp only [Array.toList_map, Array.toList_range]
  induction n with
  | zero => simp
  | succ n ih =>
    rw [List.replicate_succ', List.flatten_append, ← ih]
    simp only [List.flatten_cons, List.flatten_nil, List.append_nil]
    rw [Nat.succ_mul, List.range_add, List.map_append]
    congr 1
    rw [List.map_map]
    apply List.ext_getElem?
    intro i
    by_cases hi : i < z.size
    · have : (n * z.size + i) % z.size = i := by rw [Nat.mul_comm, Nat.mul_add_mod, Nat.mod_eq_of_lt hi]
      simp [hi, this]
    · simp [List.getElem?_eq_none, Nat.not_lt.1 hi]

theorem VL.flat {l : List Value} (h : VL ρ l l) (n : Nat) : VL ρ (List.replicate n l).flatten (List.replicate n l).flatten := by
  induction n with
  | zero => exact VL.nil
  | succ n ih => rw [List.replicate_succ]; exact h.append ih
theorem One.flat {l : List Value} (h : One l) (n : Nat) : One (List.replicate n l).flatten := by
  induction n with
  | zero => exact One.nil
  | succ n ih => rw [List.replicate_succ]; exact h.append ih

set_option maxHeartbeats 1000000 in
/-- WHAT MAKES A BLOCK. -/
theorem al_sound {t : Tm} {a : Act} (ht : TR ρ t a.tmps) {o : Oper} {k : AObj → (Nat → Value) → Option β} (h : al P t o.op k = some r) :
    ∃ ob mk, k ob mk = some r ∧ ∃ co v' p, (execOp a.eval o).run P w = .ok (.value v') (w.alloc co) ∧ p.blk = w.heap.size ∧ (∀ ρ', Le ρ ρ' → OR ρ' (w.alloc co) p ob) ∧ (∀ ρ' id, Le ρ ρ' → ρ' id = some p → VR ρ' (mk id) v') := by
  obtain ⟨dst, op, ty, pos, after, guard⟩ := o
  simp only [] at h
  have new : ∀ (cs : Array Value) (cs0 : List Value) (el : TypeId) (esz : Nat), VL ρ cs0 cs.toList → One cs0 → (∀ t, esz / tyM = t + 1 → el = t) → (∀ ρ', Le ρ ρ' → OR ρ' (w.alloc (.cells cs el)) ⟨w.heap.size, 0, cs.size, esz % tyM⟩ (.cells cs0 esz true)) := fun cs cs0 el esz h1 h2 hz ρ' hle => OR.new (h1.mono hle) h2 el hz
  have ptr : ∀ (n m : Nat) (ρ' : Ren) (id : Nat), Le ρ ρ' → ρ' id = some ⟨w.heap.size, 0, n, m⟩ → VR ρ' (.pointer (some ⟨id, 0, none⟩)) (.pointer (some ⟨w.heap.size, 0, none⟩)) := fun n m ρ' id _ hid => by
    have := VR.ptr (ρ := ρ') id 0 _ hid; simpa using this
  cases op <;> simp only [al] at h <;> try (cases h; done)
  case alloc e =>
    replace h := onSome_inv h; obtain ⟨z, hz, h⟩ := h
    split at h
    · rename_i hp
      rw [Bool.and_eq_true] at hp
      have hone : One z.cells.toList := fun v hv => List.all_eq_true.1 hp.2 v hv
      refine ⟨_, _, h, .cells z.cells e, _, ⟨w.heap.size, 0, z.cells.size, selfTy P e % tyM⟩, val_run ?_, rfl, new z.cells _ e _ (plainV_VR hp.1).cells hone (selfTy_ty e), ptr _ _⟩
      simp only [Instr.alloc, Sem.run_bind, run_zero hz, Result.andThen_ok, newVar, newRow, run_newObj, Sem.run_pure]
      rfl
    · cases h
  case box e x =>
    replace h := opd_inv ht h; obtain ⟨v, hv, h⟩ := h
    obtain ⟨hone, h⟩ := cellsOk_inv hv h
    refine ⟨_, _, h, .cells (a.eval x).cells e, _, ⟨w.heap.size, 0, (a.eval x).cells.size, boxTy P e % tyM⟩, val_run ?_, rfl, new _ _ e _ hv.cells hone (boxTy_ty e), ptr _ _⟩
    simp only [Instr.box, Sem.run_bind, newVar, newRow, run_newObj, Result.andThen_ok, Sem.run_pure]
    rfl
  case buildSlice st len parts =>
    replace h := onSome_inv h; obtain ⟨e, he, h⟩ := h
    replace h := onSome_inv h; obtain ⟨z, hz, h⟩ := h
    unfold elemOf at he
    split at he
    · rename_i e2 hu
      obtain rfl := Option.some.inj he
      split at h
      · cases h
      · rename_i hp
        simp only [Bool.and_eq_true] at hp
        obtain ⟨⟨hp1, hp2⟩, hp3⟩ := hp
        have hsz := Nat.eq_of_beq_eq_true hp3
        split at h
        · cases h
        · rename_i hsm
          have hsm := Nat.le_of_ble_eq_true hsm
          replace h := opds_inv ht h; obtain ⟨vs, hvs, h⟩ := h
          obtain ⟨hall, h⟩ := cellsOks_inv hvs h
          replace h := onSome_inv h; obtain ⟨cells, hc, h⟩ := h
          have hone : One z.cells.toList := fun v hv => List.all_eq_true.1 hp2 v hv
          have hz0 : VL ρ (zeroCellsOf z len).toArray.toList (zeroCellsOf z len).toArray.toList := by
            simpa [zeroCellsOf] using (plainV_VR (ρ := ρ) hp1).cells.flat len
          have hz1 : One (zeroCellsOf z len).toArray.toList := by simpa [zeroCellsOf] using hone.flat len
          obtain ⟨cells', h1, h2⟩ := fill_VL _ _ _ _ cells (PL.zip hvs (parts.toList.map (·.1))) hz0 hc
          rw [zip_map] at h1
          have hc1 := fill_one _ _ cells (POne.zip hall _) hz1 hc
          have hinfo : ∃ i, P.info? e2 = some i := by unfold zeroOf at hz; split at hz; exact ⟨_, ‹_›⟩; cases hz
          refine ⟨_, _, h, .cells cells' e2, .slice (some ⟨w.heap.size, 0, none⟩) len len, ⟨w.heap.size, 0, cells'.size, P.cellsOf e2 % tyM % tyM⟩, val_run ?_, rfl, new cells' _ e2 _ h2 hc1 (mod_ty _), ?_⟩
          · have h1' : Instr.fill (fun i => some (i * P.cellsOf e2, P.cellsOf e2)) (zeroCellsOf z len).toArray (parts.map fun (i, x) => (i, a.eval x)).toList = some cells' := by simpa using h1
            have hmap : (Array.range (len * P.cellsOf e2)).map (fun i => z.cells[i % z.cells.size]!) = (zeroCellsOf z len).toArray := by rw [← hsz]; exact zeroCells_map z.cells len
            simp only [Instr.buildSlice, Sem.run_bind, run_underlying hu, Result.andThen_ok, sizeOf_any e2 0 hinfo]
            rw [if_neg (by omega)]
            by_cases h0 : len * P.cellsOf e2 = 0
            · rw [if_pos h0]
              have : (zeroCellsOf z len).toArray = #[] := by
                rw [← hmap, h0]; simp [Array.range]
              rw [this] at h1'
              simp only [Sem.run_bind, Sem.run_pure, Result.andThen_ok, h0]
              simp only [Array.range, List.range_zero, Array.ofFn_zero, Array.map_empty, h1', newRow, Sem.run_bind, run_newObj, Result.andThen_ok, Sem.run_pure]
              rfl
            · rw [if_neg h0]
              simp only [Sem.run_bind, run_zero hz, Sem.run_pure, Result.andThen_ok]
              rw [hmap, h1']
              simp only [newRow, Sem.run_bind, run_newObj, Result.andThen_ok, Sem.run_pure]
              rfl
          · intro ρ' id hle hid
            refine .slice id 0 len len len _ _ hid (.inl rfl) (Nat.le_refl _) (.inr ⟨rfl, ?_⟩)
            have hl := h2.1
            have : cells.size = (zeroCellsOf z len).length := by
              have : ∀ (l : List (Nat × Value)) (c d : Array Value), Instr.fill (fun i => some (i * P.cellsOf e2, P.cellsOf e2)) c l = some d → d.size = c.size := by
                intro l
                induction l with
                | nil => intro c d hh; simp only [Instr.fill] at hh; obtain rfl := Option.some.inj hh; rfl
                | cons x l ih =>
                  obtain ⟨i, v⟩ := x
                  intro c d hh
                  simp only [Instr.fill] at hh
                  split at hh
                  · cases hh
                  · rw [ih _ _ hh, ← Array.foldl_toList]
                    have : ∀ (l : List (Value × Nat)) (c : Array Value), (l.foldl (fun (cs : Array Value) (x : Value × Nat) => cs.setIfInBounds (i * P.cellsOf e2 + x.2) x.1) c).size = c.size := by
                      intro l
                      induction l with
                      | nil => intro c; rfl
                      | cons y l ih => intro c; rw [List.foldl_cons, ih]; simp
                    exact this _ c
              simpa using this _ _ _ hc
            have hl2 : (zeroCellsOf z len).length = len * P.cellsOf e2 := by rw [← hsz]; exact flat_len _ _
            simp at hl
            simp only [Nat.zero_add]
            have hm : len * (P.cellsOf e2 % tyM % tyM) ≤ len * P.cellsOf e2 := Nat.mul_le_mul_left _ (Nat.le_trans (Nat.mod_le _ _) (Nat.mod_le _ _))
            omega
    · cases he
  case makeMap mt r =>
    have mk : ∀ ρ' id, Le ρ ρ' → ρ' id = some ⟨w.heap.size, 0, 0, 0⟩ → VR ρ' (.map (some id)) (.map (some w.heap.size)) := fun ρ' id _ hid => .map id _ hid
    have or_ : ∀ ρ', Le ρ ρ' → OR ρ' (w.alloc (.map #[] 0)) ⟨w.heap.size, 0, 0, 0⟩ (.map [] [] 0) := fun ρ' _ => ⟨#[], heap_new w _, rfl, by simp, Brn.nil, rfl⟩
    split at h
    · exact ⟨_, _, h, .map #[] 0, _, ⟨w.heap.size, 0, 0, 0⟩, val_run (by simp only [Instr.makeMap, Sem.run_bind, run_newObj, Result.andThen_ok, Sem.run_pure]; rfl), rfl, or_, mk⟩
    · replace h := opd_inv ht h; obtain ⟨v, hv, h⟩ := h
      replace h := kAnyInt_inv h; obtain ⟨kd, n, rfl, h⟩ := h
      split at h
      · rename_i kt et hu
        refine ⟨_, _, h, .map #[] 0, _, ⟨w.heap.size, 0, 0, 0⟩, val_run ?_, rfl, or_, mk⟩
        have := hv.int_inv
        simp only [Option.map_some, this, Instr.makeMap, Sem.run_bind, run_underlying hu, asInt, asIntOf, run_newObj, Result.andThen_ok, Sem.run_pure]
        rfl
      · cases h
  case makeSlice st l c =>
    replace h := onSome_inv h; obtain ⟨e, he, h⟩ := h
    replace h := onSome_inv h; obtain ⟨z, hz, h⟩ := h
    unfold elemOf at he
    split at he
    · rename_i e2 hu
      obtain rfl := Option.some.inj he
      split at h
      · cases h
      · rename_i hp
        simp only [Bool.and_eq_true] at hp
        obtain ⟨⟨hp1, hp2⟩, hp3⟩ := hp
        have hsz := Nat.eq_of_beq_eq_true hp3
        replace h := opd_inv ht h; obtain ⟨lv, hl, h⟩ := h
        replace h := kInt_inv h; obtain ⟨ln, rfl, h⟩ := h
        replace h := opd_inv ht h; obtain ⟨cv, hcv, h⟩ := h
        replace h := kInt_inv h; obtain ⟨cn, rfl, h⟩ := h
        replace h := ite_inv h; obtain ⟨⟨b1, b2, b3, b4⟩, h⟩ := h
        have hone : One z.cells.toList := fun v hv => List.all_eq_true.1 hp2 v hv
        obtain ⟨ii, hinfo⟩ : ∃ i, P.info? e2 = some i := by unfold zeroOf at hz; split at hz; exact ⟨_, ‹_›⟩; cases hz
        have hbytes : ii.bytes = P.bytesOf e2 := by simp [Program.bytesOf, hinfo]
        refine ⟨_, _, h, .cells (zeroCellsOf z cn.toNat).toArray e2, .slice (some ⟨w.heap.size, 0, none⟩) ln.toNat cn.toNat, ⟨w.heap.size, 0, (zeroCellsOf z cn.toNat).toArray.size, P.cellsOf e2 % tyM % tyM⟩, val_run ?_, rfl,
          new (zeroCellsOf z cn.toNat).toArray _ e2 _ (by simpa [zeroCellsOf] using (plainV_VR (ρ := ρ) hp1).cells.flat cn.toNat) (hone.flat _) (mod_ty _), ?_⟩
        · have w1 : IntKind.i64.wrap ln = ln := wrap_in (by omega)
          have w2 : IntKind.i64.wrap cn = cn := wrap_in (by omega)
          have t2 : (decide (cn < 0) || decide ((ii.bytes : Int) * cn > 2 ^ 48)) = false := by
            rw [hbytes]; simp; omega
          rw [hl.int_inv, hcv.int_inv]
          simp only [Instr.makeSlice, Sem.run_bind, run_underlying hu, Result.andThen_ok, asInt, asIntOf, Sem.run_pure, typeInfo, run_program, hinfo, w1, w2]
          rw [if_neg (by
            rw [hbytes]
            simp; omega)]
          simp only [Sem.run_bind, run_askRoom, Result.andThen_ok, sizeOf, typeInfo, run_program, hinfo, Sem.run_pure]
          have hcs : ii.size = P.cellsOf e2 := by simp [Program.cellsOf, hinfo]
          have hmap : (Array.range (cn.toNat * P.cellsOf e2)).map (fun i => z.cells[i % z.cells.size]!) = (zeroCellsOf z cn.toNat).toArray := by rw [← hsz]; exact zeroCells_map z.cells _
          rw [hcs]
          by_cases h0 : cn.toNat * P.cellsOf e2 = 0
          · rw [if_pos h0]
            simp only [Sem.run_bind, Sem.run_pure, Result.andThen_ok]
            rw [h0] at hmap ⊢
            rw [← hmap]
            simp only [Array.range, Array.ofFn_zero, Array.map_empty, newRow, Sem.run_bind, run_newObj, Result.andThen_ok, Sem.run_pure]
            rfl
          · rw [if_neg h0]
            simp only [Sem.run_bind, run_zero hz, Sem.run_pure, Result.andThen_ok]
            rw [hmap]
            simp only [newRow, Sem.run_bind, run_newObj, Result.andThen_ok, Sem.run_pure]
            rfl
        · intro ρ' id hle hid
          refine .slice id 0 _ _ cn.toNat _ _ hid (.inl rfl) (by omega) (.inr ⟨rfl, ?_⟩)
          have hl2 : (zeroCellsOf z cn.toNat).length = cn.toNat * P.cellsOf e2 := by rw [← hsz]; exact flat_len _ _
          have hm : cn.toNat * (P.cellsOf e2 % tyM % tyM) ≤ cn.toNat * P.cellsOf e2 := Nat.mul_le_mul_left _ (Nat.le_trans (Nat.mod_le _ _) (Nat.mod_le _ _))
          simp only [List.size_toArray, hl2, Nat.zero_add]
          exact hm
    · cases he
end
end Go.Proofs.YtlpeldimmaajkaaGreat.Fw
