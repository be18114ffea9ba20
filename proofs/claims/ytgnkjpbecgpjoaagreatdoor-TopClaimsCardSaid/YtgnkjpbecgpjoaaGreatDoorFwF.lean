/- FRAMEWORK 14: an operation that changes something does in the world what it does on the abstract heap. FRAMEWORK 15: what an operation comes to does not hang on what goes on behind it. -/
import Derived.Test.YtgnkjpbecgpjoaaGreatDoorFwD
set_option linter.unusedVariables false
set_option linter.unusedSimpArgs false
namespace Go.Proofs.YtgnkjpbecgpjoaaGreatDoor.Fw
open Go Go.RowKit

/-- What a function does, told on the abstract heap, is what the machine's call does. -/
structure Entered (P : Program) (f : FuncId) (F : List Value → Heap → Option (Value × Heap)) : Prop where
  enters : ∀ args w, (callFunc f args).run P w = .ok (.enter f args) w
  calls : ∀ args H v H', F args H = some (v, H') → ∀ ρ w args', Rel ρ H w → VL ρ args args' →
    Calls P f args'.toArray w fun e w' => ∃ v' ρ', e = .returned v' ∧ Rel ρ' H' w' ∧ Ext ρ H w ρ' H' w' ∧ VR ρ' v v'

/-- A function without a body of its own: it answers at once. -/
def Direct (P : Program) (f : FuncId) (F : List Value → Heap → Option (Value × Heap)) : Prop :=
  ∀ args H v H', F args H = some (v, H') → ∀ ρ w args', Rel ρ H w → VL ρ args args' →
    ∃ v' ρ' w', (callFunc f args'.toArray).run P w = .ok (.value v') w' ∧ Rel ρ' H' w' ∧ Ext ρ H w ρ' H' w' ∧ VR ρ' v v'

def Sound (P : Program) (f : FuncId) (F : List Value → Heap → Option (Value × Heap)) : Prop := Entered P f F ∨ Direct P f F

section
variable {P : Program} {ρ : Ren} {w : World} {β : Type} {r : β}

theorem Calls.mono' {P : Program} {f : FuncId} {args : Array Value} {w : World} {R R' : Ending → World → Prop} (h : Calls P f args w R) (hr : ∀ e w', R e w' → R' e w') : Calls P f args w R' := fun cs =>
  let ⟨e, w', fr, h1, h2⟩ := h cs; ⟨e, w', fr, hr _ _ h1, h2⟩

/-- A call of a function. -/
theorem call_wp {Γ : Fs} (hΓ : ∀ f F, Γ f = some F → Sound P f F) {H : Heap} (hR : Rel ρ H w) {f : FuncId} {F : List Value → Heap → Option (Value × Heap)} (hf : Γ f = some F) {vs vs' : List Value} (hv : VL ρ vs vs') {rr : Value × Heap} (hF : F vs H = some rr)
    {o : Oper} {a : Act} (hrun : (execOp a.eval o).run P w = (callFunc f vs'.toArray).run P w) {K : Act → World → Prop} {Q : Exit → Act → World → Prop}
    (hK : ∀ v' ρ' w', Rel ρ' rr.2 w' → Ext ρ H w ρ' rr.2 w' → VR ρ' rr.1 v' → K (a.put o.dst v') w') : o.wp P a w K Q := by
  rcases hΓ f F hf with hS | hS
  · unfold Oper.wp
    rw [hrun, hS.enters]
    simp only [Oper.upon]
    refine Calls.mono' (hS.calls vs H rr.1 rr.2 hF ρ w vs' hR hv) ?_
    rintro e w' ⟨v', ρ', rfl, h1, h2, h3⟩
    exact hK v' ρ' w' h1 h2 h3
  · obtain ⟨v', ρ', w', h0, h1, h2, h3⟩ := hS vs H rr.1 rr.2 hF ρ w vs' hR hv
    unfold Oper.wp
    rw [hrun, h0]
    exact hK v' ρ' w' h1 h2 h3

theorem val_wp {o : Oper} {a : Act} {v' : Value} {w' : World} (hrun : (execOp a.eval o).run P w = .ok (.value v') w') {K : Act → World → Prop} {Q : Exit → Act → World → Prop} (hK : K (a.put o.dst v') w') : o.wp P a w K Q := by
  unfold Oper.wp
  rw [hrun]
  exact hK
theorem skip_wp {o : Oper} {a : Act} {w' : World} (hrun : (execOp a.eval o).run P w = .ok .skip w') {K : Act → World → Prop} {Q : Exit → Act → World → Prop} (hK : K (a.put o.dst undef) w') : o.wp P a w K Q := by
  unfold Oper.wp
  rw [hrun]
  exact hK

/-- The bytes of a text, as a new row. -/
theorem bytes_sound {H : Heap} (hR : Rel ρ H w) (e : TypeId) (s : ByteArray) (hs : s.size ≤ 140737488351232) :
    ∃ v' w' p, (Conv.stringToBytes e s).run P w = .ok v' w' ∧ Rel (ρ.ins H.length p) (H ++ [.cells (s.data.toList.map fun b => .int .u8 b.toNat) 1 true]) w' ∧ Ext ρ H w (ρ.ins H.length p) (H ++ [.cells (s.data.toList.map fun b => .int .u8 b.toNat) 1 true]) w' ∧
      VR (ρ.ins H.length p) (.slice (some ⟨H.length, 0, none⟩) s.size unk) v' := by
  let q := Question.appendCap s.size 0 e
  let cap := q.cut (w.tape w.drawn q)
  have hcap : s.size ≤ cap := by show s.size ≤ s.size + _; omega
  let row : List Value := (s.data.toList.map fun b => Value.int .u8 b.toNat) ++ List.replicate (cap - s.size) (.int .u8 0)
  have hlen : (s.data.toList.map fun b => Value.int .u8 b.toNat).length = s.size := by rw [List.length_map, Array.length_toList]; rfl
  have hrow : row.length = cap := by simp only [row, List.length_append, hlen, List.length_replicate]; omega
  let w1 : World := w.drew.alloc (.cells row.toArray e)
  let w2 : World := w1.freeze { block := w.heap.size, off := cap } 1
  have hw1 : w1.heap[w.heap.size]? = some (.cells row.toArray e (0, 0)) := heap_new w.drew _
  have hw2 : w2.heap[w.heap.size]? = some (.cells row.toArray e (cap, cap + 1)) := by
    show (w1.freeze _ 1).heap[w.heap.size]? = _
    simp [World.freeze, Array.getElem?_modify, hw1]
  have hother : ∀ k, k < w.heap.size → w2.heap[k]? = w.heap[k]? := fun k hk => by
    have : w2.heap[k]? = w1.heap[k]? := by
      show (w1.freeze _ 1).heap[k]? = _
      simp only [World.freeze, Nat.one_ne_zero, if_false, Array.getElem?_modify]
      rw [if_neg (by omega)]
    rw [this]
    exact Below.heap_alloc _ _ _ hk
  have hsize : w2.heap.size = w.heap.size + 1 := by
    show (w1.freeze _ 1).heap.size = _
    simp only [World.freeze, Nat.one_ne_zero, if_false, Array.size_modify]
    show (w.drew.heap.push _).size = _
    simp
  have hrun : (Conv.stringToBytes e s).run P w = .ok (.slice (some ⟨w.heap.size, 0, none⟩) s.size cap) w2 := by
    have hsh : w1.shape? w.heap.size = some (e, cap) := by simp [World.shape?, hw1, hrow]
    have harr : (s.data.map fun b => Value.int .u8 b.toNat) ++ Array.replicate (cap - s.size) (Value.int .u8 0) = row.toArray := by
      apply Array.ext'
      simp [row]
    have hq : Question.cut (.appendCap s.size 0 e) (w.tape w.drawn (.appendCap s.size 0 e)) = cap := rfl
    simp only [Conv.stringToBytes, Sem.run_bind, run_choose, Question.forced, Bool.false_eq_true, if_false, Result.andThen_ok, newRow, run_newObj, Sem.run_pure, hq, harr]
    show ((markStringish ⟨w.heap.size, 0, none⟩).run P w1).andThen _ = _
    simp only [markStringish, Sem.run_bind, run_shape, hsh, Result.andThen_ok, run_freeze, Sem.run_pure]
    rfl
  have hor : ∀ ρ', Le ρ ρ' → OR ρ' w2 ⟨w.heap.size, 0, cap, 1⟩ (.cells (s.data.toList.map fun b => .int .u8 b.toNat) 1 true) := fun ρ' _ => by
    refine ⟨row.toArray, e, (cap, cap + 1), hw2, by simpa using hrow, ⟨rfl, fun t h => by simp [tyM] at h⟩, by simp only [hlen, Nat.zero_add, List.size_toArray, hrow]; exact hcap, fun i v hi => ?_, fun _ i hi h => by simp [hrow] at hi; omega⟩
    refine ⟨?_, v, ?_, ?_⟩
    · simp at hi; obtain ⟨x, _, rfl⟩ := hi; rfl
    · have hlt : i < (s.data.toList.map fun b => Value.int .u8 b.toNat).length := by
        rcases Nat.lt_or_ge i (s.data.toList.map fun b => Value.int .u8 b.toNat).length with h | h
        · exact h
        · simp [List.getElem?_eq_none h] at hi
      simp only [Nat.zero_add, List.getElem?_toArray, row]
      rw [List.getElem?_append_left hlt]
      exact hi
    · simp at hi; obtain ⟨x, _, rfl⟩ := hi; exact .int _ _
  refine ⟨_, w2, ⟨w.heap.size, 0, cap, 1⟩, hrun, hR.new_gen rfl hother hor, Ext.new_gen hR rfl hother (by omega) ?_ ?_ ?_, ?_⟩
  · show (w1.freeze _ 1).os = _; simp [World.freeze]; rfl
  · show (w1.freeze _ 1).tape = _; simp [World.freeze]; rfl
  · show (w1.freeze _ 1).output = _; simp [World.freeze]; rfl
  · exact .slice H.length 0 _ _ cap _ _ (Ren.ins_self _ _ _) (.inr (unkOk _)) hcap (.inr ⟨rfl, by simp⟩)

theorem loadBytes_run : ∀ (ns : List Int) (a : Addr) (acc : ByteArray), (∀ j n, ns[j]? = some n → w.cell? (a.add j) = some (.int .u8 n)) →
    (loadBytes a acc ns.length).run P w = .ok ⟨acc.data ++ (ns.map fun n => UInt8.ofNat n.toNat).toArray⟩ w
  | [], a, acc, _ => by simp [loadBytes]
  | n :: ns, a, acc, h => by
    have h0 : w.cell? a = some (.int .u8 n) := by
      have := h 0 n rfl
      simpa [Addr.add] using this
    have ih := loadBytes_run ns (a.add 1) (acc.push n.toNat.toUInt8) (fun j y hy => by
      have := h (j + 1) y (by simpa using hy)
      have e : (a.add 1).add j = a.add (j + 1) := by
        unfold Addr.add
        by_cases hj : j = 0
        · subst hj; simp
        · simp [hj]; omega
      rw [e]; exact this)
    simp only [List.length_cons, loadBytes, Sem.run_bind, run_load, h0, Result.andThen]
    rw [ih]
    congr 1
    apply ByteArray.ext
    simp [ByteArray.push]

/-- The bytes of a row, as a text: the row is let go. -/
theorem unsafeString_some {H : Heap} (hR : Rel ρ H w) {q : Addr} {p' : Value} (hp : VR ρ (.pointer (some q)) p') {ats : Array TypeId} {pt ty u : TypeId} (hpt : ats[0]? = some pt) {cs : List Value} {esz : Nat} (hH : H[q.block]? = some (.cells cs esz true))
    (hu : P.underlying pt = some (.pointer u)) {n : Int} (c1 : 0 < n) (c2 : n ≤ 9223372036854775807) (c3 : n.toNat ≤ cs.length) (c4 : q.off = 0) (c5 : esz / tyM = u + 1) (c6 : P.cellsOf u = 1) {bs : List UInt8} (hbs : bytesOf (cs.take n.toNat) = some bs) :
    ∃ w', (Builtin.unsafeString_ ats ty #[p', .int .i64 n]).run P w = .ok (.string ⟨bs.toArray⟩) w' ∧ Rel ρ (H.set q.block .dead) w' ∧ Ext ρ H w ρ (H.set q.block .dead) w' := by
  replace hp := hp.ptr_inv; obtain ⟨p, hp, hs, rfl⟩ := hp
  obtain ⟨c, el, fz, h1, h2, h3, h4, h5, h6⟩ := hR.obj _ p _ hp hH
  obtain ⟨rfl, hb⟩ := h3.2 _ c5
  obtain ⟨ns, hns, rfl⟩ := bytesOf_inv hbs
  have hlen : ns.length = n.toNat := by
    have := congrArg List.length hns
    simp at this; omega
  have hcell : ∀ j x, ns[j]? = some x → w.cell? ((⟨p.blk, p.base + q.off, none⟩ : Addr).add j) = some (.int .u8 x) := fun j x hj => by
    have hlt : j < n.toNat := by
      rcases Nat.lt_or_ge j ns.length with h | h
      · omega
      · simp [List.getElem?_eq_none h] at hj
    have e1 : cs[j]? = some (.int .u8 x) := by
      have : (cs.take n.toNat)[j]? = some (.int .u8 x) := by rw [hns]; simp [hj]
      rwa [List.getElem?_take, if_pos hlt] at this
    obtain ⟨_, v', e2, e3⟩ := h5 j _ e1
    rw [e3.int_inv] at e2
    rw [addr_add, hb, c4]
    rw [hb] at e2
    simp only [World.cell?, h1, Nat.zero_add]
    simpa using e2
  have hload := loadBytes_run (P := P) (w := w) ns ⟨p.blk, p.base + q.off, none⟩ .empty hcell
  rw [hlen] at hload
  have hlies := Lib.liesAt_bytes (P := P) c6 (c.size / P.cellsOf el) n.toNat (by rw [c6]; simp; omega)
  have hsh : w.shape? p.blk = some (el, c.size) := by simp [World.shape?, h1]
  have hoth : ∀ k, k ≠ p.blk → (w.freeze ⟨p.blk, p.base + q.off, none⟩ n.toNat).heap[k]? = w.heap[k]? := fun k hk => by
    unfold World.freeze
    split
    · rfl
    · simp only [Array.getElem?_modify]
      rw [if_neg (Ne.symm hk)]
  have hsz : (w.freeze ⟨p.blk, p.base + q.off, none⟩ n.toNat).heap.size = w.heap.size := by unfold World.freeze; split <;> simp
  have ho : (w.freeze ⟨p.blk, p.base + q.off, none⟩ n.toNat).os = w.os ∧ (w.freeze ⟨p.blk, p.base + q.off, none⟩ n.toNat).tape = w.tape ∧ (w.freeze ⟨p.blk, p.base + q.off, none⟩ n.toNat).output = w.output := by unfold World.freeze; split <;> exact ⟨rfl, rfl, rfl⟩
  refine ⟨_, ?_, hR.kill_turn hp hH rfl hoth, Ext.kill_turn hp hH rfl hoth hsz ho.1 ho.2.1 ho.2.2⟩
  have hdef : Builtin.unsafeString_ ats ty #[.pointer (some ⟨p.blk, p.base + q.off, none⟩), .int .i64 n] =
      (do
        let n ← asInt (.int .i64 n)
        let some pt := ats[0]? | stuck "unsafe.String: no argument types"
        if n < 0 then runtimePanic (.error "unsafe.String: len out of range")
        if n > IntKind.i64.max then unsupported (.unsafePointer "String: a length above the largest int")
        if n = 0 then pure (.string .empty)
        else if ← variablesAt ⟨p.blk, p.base + q.off, none⟩ (← Go.elemOf pt) n.toNat then do
          let s ← loadBytes ⟨p.blk, p.base + q.off, none⟩ .empty n.toNat
          freeze ⟨p.blk, p.base + q.off, none⟩ n.toNat
          pure (.string s)
        else unsupported (.unsafePointer "String: not so many bytes at ptr")) := rfl
  rw [hdef]
  have hmax : IntKind.i64.max = 9223372036854775807 := rfl
  have k1 : ¬ n < 0 := by omega
  have k2 : ¬ n = 0 := by omega
  have k3 : ¬ (9223372036854775807 < n) := by omega
  have hoff : p.base + q.off = 0 := by omega
  rw [hoff] at hload ⊢
  simp [asInt, asIntOf, hmax, k1, k2, k3, variablesAt, hsh, Go.elemOf, run_underlying hu, hlies, hload, hpt]

theorem unsafeString_nil {ats : Array TypeId} {pt ty : TypeId} (hpt : ats[0]? = some pt) : (Builtin.unsafeString_ ats ty #[.pointer none, .int .i64 0]).run P w = .ok (.string .empty) w := by
  have hmax : IntKind.i64.max = 9223372036854775807 := rfl
  have hdef : Builtin.unsafeString_ ats ty #[.pointer none, .int .i64 0] =
      (do
        let n ← asInt (.int .i64 0)
        let some pt := ats[0]? | stuck "unsafe.String: no argument types"
        if n < 0 then runtimePanic (.error "unsafe.String: len out of range")
        if n > IntKind.i64.max then unsupported (.unsafePointer "String: a length above the largest int")
        if n = 0 then pure (.string .empty)
        else runtimePanic (.error "unsafe.String: ptr is nil and len is not zero")) := rfl
  rw [hdef]
  simp [asInt, asIntOf, hmax, hpt]

set_option maxHeartbeats 1000000 in
/-- WHAT CHANGES SOMETHING. -/
theorem ef_sound {Γ : Fs} (hΓ : ∀ f F, Γ f = some F → Sound P f F) {H : Heap} {t : Tm} {a : Act} (hR : Rel ρ H w) (ht : TR ρ t a.tmps) {o : Oper} {k : Value → Heap → Option β} (h : ef P Γ t H o.type o.op k = some r)
    {K : Act → World → Prop} {Q : Exit → Act → World → Prop} (hK : ∀ v v' ρ' H' w', k v H' = some r → Rel ρ' H' w' → Ext ρ H w ρ' H' w' → VR ρ' v v' → K (a.put o.dst v') w') : o.wp P a w K Q := by
  obtain ⟨dst, op, ty, pos, after, guard⟩ := o
  simp only [] at h
  cases op <;> simp only [ef] at h <;> try (cases h; done)
  case store st x y =>
    replace h := opd_inv ht h; obtain ⟨u, hu, h⟩ := h
    replace h := kPtr_inv h; obtain ⟨q, rfl, h⟩ := h
    replace h := onSome_inv h; obtain ⟨q, rfl, h⟩ := h
    replace h := opd_inv ht h; obtain ⟨v, hv, h⟩ := h
    replace h := onSome_inv h; obtain ⟨it, hit, h⟩ := h
    replace h := cellsOk_inv hv h; obtain ⟨hone, h⟩ := h
    obtain ⟨p, hp, hs, e⟩ := hu.ptr_inv
    obtain ⟨H', w', h1, h2, h3, h4⟩ := st_sound (P := P) hR hit hp hv hone h
    refine skip_wp (w' := w') ?_ (hK _ _ ρ H' w' h1 h3 h4 (VR.tuple_mk VL.nil))
    simp only [execOp, e]
    exact unit_run (by simp only [Instr.storeAt, Instr.sureAddr, Sem.run_bind, Sem.run_pure, Result.andThen_ok]; exact h2)
  case convert s d x =>
    replace h := opd_inv ht h; obtain ⟨v, hv, h⟩ := h
    split at h
    · rename_i e hs hd
      split at h
      · rename_i he
        replace h := kStr_inv h; obtain ⟨b, rfl, h⟩ := h
        replace h := ite_inv h; obtain ⟨hsz, h⟩ := h
        obtain ⟨v', w', p, h1, h2, h3, h4⟩ := bytes_sound (P := P) hR e b hsz
        refine val_wp (v' := v') (w' := w') (val_run ?_) (hK _ _ _ _ w' h h2 h3 h4)
        rw [hv.string_inv]
        simp only [convert, Sem.run_bind, run_underlying hs, run_underlying hd, run_underlying he, Result.andThen_ok]
        exact h1
      · cases h
    · cases h
  case mapUpdate mt m key x =>
    replace h := opd_inv ht h; obtain ⟨mv, hm, h⟩ := h
    replace h := kMp_inv h; obtain ⟨q, rfl, h⟩ := h
    replace h := onSome_inv h; obtain ⟨q, rfl, h⟩ := h
    replace h := opd_inv ht h; obtain ⟨kv, hk', h⟩ := h
    replace h := opd_inv ht h; obtain ⟨xv, hx, h⟩ := h
    split at h
    · rename_i kt et hu
      obtain ⟨d, hd, hkey, h2⟩ := kKey_inv h
      replace h := h2; clear h2
      unfold mupd at h
      replace h := ldmB_inv h; obtain ⟨es, bs, clk, hH, h⟩ := h
      split at h
      · rename_i hok
        obtain ⟨p, hp, e⟩ := hm.map_inv
        obtain ⟨w', g1, g2, g3⟩ := mapUpdate_sound (P := P) hR hu hd hkey hx hp hH hok
        refine skip_wp (w' := w') ?_ (hK _ _ ρ _ w' h g2 g3 (VR.tuple_mk VL.nil))
        simp only [execOp, e, hkey.eq_of hk']
        exact unit_run g1
      · cases h
    · cases h
  case insert mt m key x =>
    replace h := opd_inv ht h; obtain ⟨mv, hm, h⟩ := h
    replace h := kMp_inv h; obtain ⟨q, rfl, h⟩ := h
    replace h := onSome_inv h; obtain ⟨q, rfl, h⟩ := h
    replace h := opd_inv ht h; obtain ⟨kv, hk', h⟩ := h
    replace h := opd_inv ht h; obtain ⟨xv, hx, h⟩ := h
    split at h
    · rename_i kt et hu
      obtain ⟨d, hd, hkey, h2⟩ := kKey_inv h
      replace h := h2; clear h2
      unfold mupd at h
      replace h := ldmB_inv h; obtain ⟨es, bs, clk, hH, h⟩ := h
      split at h
      · rename_i hok
        obtain ⟨p, hp, e⟩ := hm.map_inv
        obtain ⟨w', g1, g2, g3⟩ := mapUpdate_sound (P := P) hR hu hd hkey hx hp hH hok
        refine skip_wp (w' := w') ?_ (hK _ _ ρ _ w' h g2 g3 (VR.tuple_mk VL.nil))
        simp only [execOp, e, hkey.eq_of hk']
        exact unit_run g1
      · cases h
    · cases h
  case mapEntry mt m key =>
    replace h := opd_inv ht h; obtain ⟨mv, hm, h⟩ := h
    replace h := kMp_inv h; obtain ⟨q, rfl, h⟩ := h
    replace h := onSome_inv h; obtain ⟨q, rfl, h⟩ := h
    replace h := opd_inv ht h; obtain ⟨kv, hk', h⟩ := h
    split at h
    · rename_i kt et hu
      obtain ⟨d, hd, hkey, h2⟩ := kKey_inv h
      replace h := h2; clear h2
      obtain ⟨p, hp, e⟩ := hm.map_inv
      obtain ⟨v, v', H', w', g1, g2, g3, g4, g5⟩ := mapEntry_sound (P := P) hR hu hd hkey hp h
      refine val_wp (v' := v') (w' := w') ?_ (hK _ _ ρ _ w' g1 g4 g5 g2)
      simp only [execOp, e, hkey.eq_of hk']
      exact val_run g3
    · cases h
  case entryStore mt m s x =>
    replace h := opd_inv ht h; obtain ⟨mv, hm, h⟩ := h
    replace h := kMp_inv h; obtain ⟨q, rfl, h⟩ := h
    replace h := onSome_inv h; obtain ⟨q, rfl, h⟩ := h
    replace h := opd_inv ht h; obtain ⟨sv, hs', h⟩ := h
    replace h := kAnyInt_inv h; obtain ⟨kd, n, rfl, h⟩ := h
    replace h := opd_inv ht h; obtain ⟨xv, hx, h⟩ := h
    obtain ⟨p, hp, e⟩ := hm.map_inv
    obtain ⟨H', w', g1, g2, g3, g4⟩ := entryStore_sound (P := P) (mt := mt) (kd := kd) hR hx hp h
    refine skip_wp (w' := w') ?_ (hK _ _ ρ _ w' g1 g3 g4 (VR.tuple_mk VL.nil))
    simp only [execOp, e, hs'.int_inv]
    exact unit_run g2
  case entry it =>
    replace h := opd_inv ht h; obtain ⟨v, hv, h⟩ := h
    replace h := kPtr_inv h; obtain ⟨q, rfl, h⟩ := h
    replace h := onSome_inv h; obtain ⟨q, rfl, h⟩ := h
    obtain ⟨v, u', g1, g2, g3⟩ := entry_sound (P := P) hR hv h
    exact val_wp (v' := u') (w' := w) (val_run g3) (hK _ _ ρ _ w g1 hR (Ext.refl _ _ _) g2)
  case range xt x =>
    replace h := opd_inv ht h; obtain ⟨v, hv, h⟩ := h
    split at h
    · rename_i kt et hu
      replace h := kMp_inv h; obtain ⟨q, rfl, h⟩ := h
      have go : ∀ (it : Obj) (ob : AObj), (∀ ρ', Le ρ ρ' → OR ρ' (w.alloc it) ⟨w.heap.size, 0, 0, 0⟩ ob) → k (.pointer (some ⟨H.length, 0, none⟩)) (H ++ [ob]) = some r → (Instr.range xt (a.eval x)).run P w = .ok (.pointer (some ⟨w.heap.size, 0, none⟩)) (w.alloc it) →
          (Oper.mk dst (.range xt x) ty pos after guard).wp P a w K Q := fun it ob hor hk hrun => by
        have hkeep : ∀ j, j < w.heap.size → (w.alloc it).heap[j]? = w.heap[j]? := fun j hj => Below.heap_alloc _ _ _ hj
        refine val_wp (v' := .pointer (some ⟨w.heap.size, 0, none⟩)) (w' := w.alloc it) (val_run hrun) (hK _ _ _ _ _ hk (hR.new_gen (p := ⟨w.heap.size, 0, 0, 0⟩) rfl hkeep hor) (Ext.new_gen hR rfl hkeep (by simp) rfl rfl rfl) ?_)
        exact VR.ptr (p := ⟨w.heap.size, 0, 0, 0⟩) H.length 0 (Ren.ins_self _ _ _)
      cases q with
      | none =>
        simp only [] at h
        refine go (.mapIter none 0 #[] 0) (.iter none 0 [] 0) (fun ρ' _ => ⟨rfl, none, heap_new w _, .mapN⟩) h ?_
        rw [hv.mapN_inv]
        simp only [Instr.range, Sem.run_bind, run_underlying hu, Result.andThen_ok, run_newObj, Sem.run_pure]; rfl
      | some b =>
        simp only [] at h
        replace h := ldmB_inv h; obtain ⟨es, bs, clk, hH, h⟩ := h
        obtain ⟨p, hp, e⟩ := hv.map_inv
        obtain ⟨l, hl, _⟩ := hR.map hp hH
        refine go (.mapIter (some p.blk) clk #[] clk) (.iter (some b) clk [] clk) (fun ρ' hle => ⟨rfl, some p.blk, heap_new w _, .map b p (hle _ _ hp)⟩) h ?_
        rw [e]
        simp only [Instr.range, Sem.run_bind, run_underlying hu, Result.andThen_ok, run_getMap hl, run_newObj, Sem.run_pure]; rfl
    · cases h
  case call c =>
    obtain ⟨callee, args, ats⟩ := c
    have hargs : args.map a.eval = (args.toList.map a.eval).toArray := by apply Array.ext'; simp
    cases callee with
    | invoke rc m => simp only [efCall] at h; cases h
    | builtin b =>
      simp only [efCall] at h
      replace h := opds_inv ht h; obtain ⟨vs, hvs, h⟩ := h
      cases b <;> simp only [] at h <;> try (cases h; done)
      case copy =>
        split at h
        · rename_i dt dv sv hdt
          replace h := onSome_inv h; obtain ⟨e, he, h⟩ := h
          replace h := onSome_inv h; obtain ⟨ie, hie, h⟩ := h
          unfold elemOf at he
          split at he
          · rename_i e2 hu
            obtain rfl := Option.some.inj he
            obtain ⟨d', m, e1, hd, hm⟩ := hvs.cons_inv
            obtain ⟨s', m', rfl, hs, hm'⟩ := hm.cons_inv
            obtain rfl := hm'.nil_inv
            obtain ⟨v, H', w', g1, g2, g3, g4, g5⟩ := copy_sound (ty := ty) hR hdt hu hie hd hs h
            refine val_wp (v' := v) (w' := w') ?_ (hK v v ρ H' w' g1 g3 g4 g5)
            simp only [execOp, resolve, Sem.run_bind, Sem.run_pure, Result.andThen_ok, invoke, builtin]
            rw [hargs, e1, g2]
            rfl
          · cases he
        · cases h
      case clear =>
        split at h
        · rename_i dt dv hdt
          replace h := onSome_inv h; obtain ⟨e, he, h⟩ := h
          replace h := onSome_inv h; obtain ⟨z, hz, h⟩ := h
          split at h
          · cases h
          · rename_i hc
            simp only [Bool.and_eq_true] at hc
            obtain ⟨⟨hp1, ho⟩, hzs⟩ := hc
            unfold elemOf at he
            split at he
            · rename_i e2 hu
              obtain rfl := Option.some.inj he
              obtain ⟨d', m, e1, hd, hm⟩ := hvs.cons_inv
              obtain rfl := hm.nil_inv
              obtain ⟨v, H', w', g1, g2, g3, g4, g5⟩ := clear_sound (ty := ty) hR hdt hu hz hp1 (fun v hv => List.all_eq_true.1 ho v hv) (Nat.eq_of_beq_eq_true hzs) hd h
              refine val_wp (v' := v) (w' := w') ?_ (hK v v ρ H' w' g1 g3 g4 g5)
              simp only [execOp, resolve, Sem.run_bind, Sem.run_pure, Result.andThen_ok, invoke, builtin]
              rw [hargs, e1, g2]
              rfl
            · cases he
        · cases h
      case delete =>
        split at h
        · rename_i mt mv kv hmt
          split at h
          · rename_i kt et hu
            obtain ⟨d, hd, hkey, h2⟩ := kKey_inv h
            replace h := h2; clear h2
            replace h := kMp_inv h; obtain ⟨q, rfl, h⟩ := h
            obtain ⟨m', m, e1, hm, hr⟩ := hvs.cons_inv
            obtain ⟨k', m'', rfl, hk', hr'⟩ := hr.cons_inv
            obtain rfl := hr'.nil_inv
            rw [hkey.eq_of hk'] at e1
            have hexec : ∀ z w', ((Builtin.delete_ ats ty #[m', kv]).run P w = .ok z w') → (execOp a.eval { dst, op := .call { callee := .builtin .delete, args, argTypes := ats }, type := ty, pos, after, guard }).run P w = .ok (.value z) w' := fun z w' hz => by
              simp only [execOp, resolve, Sem.run_bind, Sem.run_pure, Result.andThen_ok, invoke, builtin]
              rw [hargs, e1, hz]
              rfl
            unfold dele at h
            cases q with
            | none =>
              simp only [] at h
              rw [hm.mapN_inv] at hexec
              refine val_wp (hexec (.tuple #[]) w ?_) (hK _ _ ρ H w h hR (Ext.refl _ _ _) (VR.tuple_mk VL.nil))
              simp only [Builtin.delete_, hmt, List.getElem?_toArray, List.getElem?_cons_zero, List.getElem?_cons_succ, Sem.run_bind, run_underlying hu, Result.andThen_ok, checkKey_of hd hkey, Sem.run_pure]
            | some b =>
              simp only [] at h
              replace h := ldmB_inv h; obtain ⟨es, bs, clk, hH, h⟩ := h
              split at h
              · rename_i hok
                obtain ⟨p, hp, rfl⟩ := hm.map_inv
                obtain ⟨w', g1, g2, g3⟩ := delete_sound (P := P) (ty := ty) hR hmt hu hd hkey hp hH hok
                exact val_wp (hexec _ _ g1) (hK _ _ ρ _ w' h g2 g3 (VR.tuple_mk VL.nil))
              · cases h
          · cases h
        · cases h
      case unsafeString =>
        split at h
        · rename_i pt pv nv hpt
          replace h := kPtr_inv h; obtain ⟨q, rfl, h⟩ := h
          replace h := kInt_inv h; obtain ⟨n, rfl, h⟩ := h
          obtain ⟨p', m, e1, hp, hm⟩ := hvs.cons_inv
          obtain ⟨n', m', rfl, hn, hm'⟩ := hm.cons_inv
          obtain rfl := hm'.nil_inv
          rw [hn.int_inv] at e1
          have hexec : ∀ z w', ((Builtin.unsafeString_ ats ty #[p', .int .i64 n]).run P w = .ok z w') → (execOp a.eval { dst, op := .call { callee := .builtin .unsafeString, args, argTypes := ats }, type := ty, pos, after, guard }).run P w = .ok (.value z) w' := fun z w' hz => by
            simp only [execOp, resolve, Sem.run_bind, Sem.run_pure, Result.andThen_ok, invoke, builtin]
            rw [hargs, e1, hz]
            rfl
          cases q with
          | none =>
            simp only [] at h
            replace h := ite_inv h; obtain ⟨rfl, h⟩ := h
            rw [hp.ptrN_inv] at hexec
            exact val_wp (hexec _ _ (unsafeString_nil hpt)) (hK _ _ ρ H w h hR (Ext.refl _ _ _) (.string _))
          | some q =>
            simp only [] at h
            split at h
            · rename_i u hu
              unfold uStr at h
              split at h
              · rename_i cs esz hH
                replace h := ite_inv h; obtain ⟨⟨c1, c2, c3, c4, c5, c6⟩, h⟩ := h
                replace h := onSome_inv h; obtain ⟨bs, hbs, h⟩ := h
                obtain ⟨w', g1, g2, g3⟩ := unsafeString_some (P := P) (ty := ty) hR hp hpt hH hu c1 c2 c3 c4 c5 c6 hbs
                exact val_wp (hexec _ _ g1) (hK _ _ ρ _ w' h g2 g3 (.string _))
              · cases h
            · cases h
        · cases h
      split at h
      · rename_i st xt s x hst hxt
        replace h := onSome_inv h; obtain ⟨e, he, h⟩ := h
        replace h := onSome_inv h; obtain ⟨z, hz, h⟩ := h
        unfold elemOf at he
        split at he
        · rename_i e2 hu
          obtain rfl := Option.some.inj he
          split at h
          · cases h
          · rename_i hp
            rw [Bool.and_eq_true] at hp
            have hzs := Nat.eq_of_beq_eq_true hp.2
            obtain ⟨s', m, e1, hs, hm⟩ := hvs.cons_inv
            obtain ⟨x', m', rfl, hx, hm'⟩ := hm.cons_inv
            obtain rfl := hm'.nil_inv
            cases hux : P.underlying xt with
            | none => simp only [hux] at h; cases h
            | some d =>
              have hnot : ∀ kk, d ≠ .int kk := fun kk e => by subst e; simp only [hux] at h; cases h
              have h' : (firstC H (P.cellsOf e2) x fun n nw => app P e2 H s n nw k) = some r := by
                cases d <;> simp only [hux] at h <;> first | exact h | cases h
              obtain ⟨v, v', H', ρ', w', g1, g2, g3, g4, g5⟩ := app_sound (ty := ty) hR hst hxt hu hux hnot hz hzs hs hx h'
              refine val_wp (v' := v') (w' := w') ?_ (hK v v' ρ' H' w' g1 g3 g4 g5)
              simp only [execOp, resolve, Sem.run_bind, Sem.run_pure, Result.andThen_ok, invoke, builtin]
              rw [hargs, e1, g2]
              rfl
        · cases he
      · cases h
    | value x =>
      have go : ∀ (f : FuncId) (first cap : Array Value) (first' cap' : Array Value), a.eval x = .func (.func f) first' cap' → VL ρ first.toList first'.toList → VL ρ cap.toList cap'.toList →
          (onSome (Γ f) fun F => opds t args.toList fun vs => onSome (F (first.toList ++ vs ++ cap.toList) H) fun r => kTy (kdOf P ty) r.1 fun v => k v r.2) = some r →
          (Oper.mk dst (.call { callee := .value x, args, argTypes := ats }) ty pos after guard).wp P a w K Q := by
        intro f first cap first' cap' hx hf hc h
        replace h := onSome_inv h; obtain ⟨F, hF, h⟩ := h
        replace h := opds_inv ht h; obtain ⟨vs, hvs, h⟩ := h
        replace h := onSome_inv h; obtain ⟨rr, hrr, h⟩ := h
        replace h := kTy_inv h
        refine call_wp hΓ hR hF ((hf.append hvs).append hc) hrr ?_ (fun v' ρ' w' g1 g2 g3 => hK _ v' ρ' _ w' h g1 g2 g3)
        simp only [execOp, resolve, Sem.run_bind, hx, Deferred.ofValue, Sem.run_pure, Result.andThen_ok, invoke]
        congr 2
        apply Array.ext'
        simp
      cases x with
      | func f =>
        simp only [efCall] at h
        refine go f #[] #[] #[] #[] rfl VL.nil VL.nil ?_
        simpa using h
      | _ =>
        simp only [efCall] at h
        replace h := opd_inv ht h; obtain ⟨fv, hfv, h⟩ := h
        split at h
        · rename_i f first cap
          obtain ⟨first', cap', e, hf, hc⟩ := hfv.func_inv
          exact go f first cap first' cap' e hf hc h
        · cases h
end
end Go.Proofs.YtgnkjpbecgpjoaaGreatDoor.Fw
set_option linter.unusedVariables false
set_option linter.unusedSimpArgs false
namespace Go.Proofs.YtgnkjpbecgpjoaaGreatDoor.Fw
open Go Go.RowKit

section
variable {β : Type} {k : Value → Option β}

theorem opd_b (t : Tm) (x : Operand) (k : Value → Option β) : opd t x k = (opd t x some).bind k := by
  cases x with
  | tmp i => simp only [opd]; split <;> rfl
  | const v => simp only [opd]; split <;> rfl
  | func f => rfl
  | global g => simp only [opd]; split <;> rfl
theorem onSome_b {α : Type} (x : Option α) (k : α → Option β) : onSome x k = x.bind k := by cases x <;> rfl
theorem kInt_b (kd : IntKind) (v : Value) (k : Int → Option β) : kInt kd v k = (kInt kd v some).bind k := by cases v <;> simp only [kInt] <;> first | rfl | (split <;> rfl)
theorem kBool_b (v : Value) (k : Bool → Option β) : kBool v k = (kBool v some).bind k := by cases v <;> rfl
theorem kStr_b (v : Value) (k : ByteArray → Option β) : kStr v k = (kStr v some).bind k := by cases v <;> rfl
theorem kPtr_b (v : Value) (k : Option Addr → Option β) : kPtr v k = (kPtr v some).bind k := by cases v <;> rfl
theorem kMp_b (v : Value) (k : Option Nat → Option β) : kMp v k = (kMp v some).bind k := by cases v <;> rfl
theorem kAgg_b (v : Value) (k : Array Value → Option β) : kAgg v k = (kAgg v some).bind k := by cases v <;> rfl
theorem kTup_b (v : Value) (k : Array Value → Option β) : kTup v k = (kTup v some).bind k := by cases v <;> rfl
theorem ldc_b (H : Heap) (b : Nat) (k : List Value → Option β) : ldc H b k = (ldc H b some).bind k := by unfold ldc; split <;> rfl
theorem ldm_b (H : Heap) (b : Nat) (k : List (Value × Value) → Option β) : ldm H b k = (ldm H b some).bind k := by unfold ldm; split <;> rfl
theorem ldmo_b (H : Heap) (b : Option Nat) (k : List (Value × Value) → Option β) : ldmo H b k = (ldmo H b some).bind k := by cases b with | none => rfl | some b => exact ldm_b H b k
theorem ite_b (c : Prop) [Decidable c] (x : Option Value) (k : Value → Option β) : (if c then x.bind k else none) = (if c then x else none).bind k := by split <;> rfl

section
variable {δ : Type} {k : δ → Option β}
/-- Two continuations of which one goes on behind the other one. -/
theorem bind_b {α γ : Type} (x : Option α) (f : α → Option δ) (g : α → Option β) (k : δ → Option β) (h : ∀ a, g a = (f a).bind k) : x.bind g = (x.bind f).bind k := by
  cases x with
  | none => rfl
  | some a => exact h a

theorem opd_bb {t : Tm} {x : Operand} {f : Value → Option δ} {g : Value → Option β} (h : ∀ a, g a = (f a).bind k) : opd t x g = (opd t x f).bind k := by
  rw [opd_b, opd_b t x f]; exact bind_b (γ := Unit) _ _ _ _ h
theorem opds_bb {t : Tm} : ∀ {x : List Operand} {f : List Value → Option δ} {g : List Value → Option β}, (∀ a, g a = (f a).bind k) → opds t x g = (opds t x f).bind k
  | [], _, _, h => h []
  | x :: xs, _, _, h => opd_bb fun v => opds_bb fun vs => h (v :: vs)
theorem onSome_bb {α : Type} {x : Option α} {f : α → Option δ} {g : α → Option β} (h : ∀ a, g a = (f a).bind k) : onSome x g = (onSome x f).bind k := by
  rw [onSome_b, onSome_b x f]; exact bind_b (γ := Unit) _ _ _ _ h
theorem kInt_bb {kd : IntKind} {v : Value} {f : Int → Option δ} {g : Int → Option β} (h : ∀ a, g a = (f a).bind k) : kInt kd v g = (kInt kd v f).bind k := by
  rw [kInt_b, kInt_b kd v f]; exact bind_b (γ := Unit) _ _ _ _ h
theorem kBool_bb {v : Value} {f : Bool → Option δ} {g : Bool → Option β} (h : ∀ a, g a = (f a).bind k) : kBool v g = (kBool v f).bind k := by
  rw [kBool_b, kBool_b v f]; exact bind_b (γ := Unit) _ _ _ _ h
theorem kStr_bb {v : Value} {f : ByteArray → Option δ} {g : ByteArray → Option β} (h : ∀ a, g a = (f a).bind k) : kStr v g = (kStr v f).bind k := by
  rw [kStr_b, kStr_b v f]; exact bind_b (γ := Unit) _ _ _ _ h
theorem kPtr_bb {v : Value} {f : Option Addr → Option δ} {g : Option Addr → Option β} (h : ∀ a, g a = (f a).bind k) : kPtr v g = (kPtr v f).bind k := by
  rw [kPtr_b, kPtr_b v f]; exact bind_b (γ := Unit) _ _ _ _ h
theorem kMp_bb {v : Value} {f : Option Nat → Option δ} {g : Option Nat → Option β} (h : ∀ a, g a = (f a).bind k) : kMp v g = (kMp v f).bind k := by
  rw [kMp_b, kMp_b v f]; exact bind_b (γ := Unit) _ _ _ _ h
theorem kAgg_bb {v : Value} {f : Array Value → Option δ} {g : Array Value → Option β} (h : ∀ a, g a = (f a).bind k) : kAgg v g = (kAgg v f).bind k := by
  rw [kAgg_b, kAgg_b v f]; exact bind_b (γ := Unit) _ _ _ _ h
theorem kTup_bb {v : Value} {f : Array Value → Option δ} {g : Array Value → Option β} (h : ∀ a, g a = (f a).bind k) : kTup v g = (kTup v f).bind k := by
  rw [kTup_b, kTup_b v f]; exact bind_b (γ := Unit) _ _ _ _ h
theorem kSl_bb {v : Value} {f : Option Addr → Nat → Nat → Option δ} {g : Option Addr → Nat → Nat → Option β} (h : ∀ a l m, g a l m = (f a l m).bind k) : kSl v g = (kSl v f).bind k := by
  cases v <;> first | rfl | exact h _ _ _
theorem kAnyInt_bb {v : Value} {f : IntKind → Int → Option δ} {g : IntKind → Int → Option β} (h : ∀ a l, g a l = (f a l).bind k) : kAnyInt v g = (kAnyInt v f).bind k := by
  cases v <;> first | rfl | exact h _ _
theorem ldc_bb {H : Heap} {b : Nat} {f : List Value → Option δ} {g : List Value → Option β} (h : ∀ a, g a = (f a).bind k) : ldc H b g = (ldc H b f).bind k := by
  rw [ldc_b, ldc_b H b f]; exact bind_b (γ := Unit) _ _ _ _ h
theorem ldm_bb {H : Heap} {b : Nat} {f : List (Value × Value) → Option δ} {g : List (Value × Value) → Option β} (h : ∀ a, g a = (f a).bind k) : ldm H b g = (ldm H b f).bind k := by
  unfold ldm
  split
  · exact h _
  · rfl
theorem ldmB_bb {H : Heap} {b : Nat} {f : List (Value × Value) → List Nat → Nat → Option δ} {g : List (Value × Value) → List Nat → Nat → Option β} (h : ∀ a l c, g a l c = (f a l c).bind k) : ldmB H b g = (ldmB H b f).bind k := by
  unfold ldmB
  split
  · exact h _ _ _
  · rfl
theorem ldmo_bb {H : Heap} {b : Option Nat} {f : List (Value × Value) → Option δ} {g : List (Value × Value) → Option β} (h : ∀ a, g a = (f a).bind k) : ldmo H b g = (ldmo H b f).bind k := by
  rw [ldmo_b, ldmo_b H b f]; exact bind_b (γ := Unit) _ _ _ _ h
theorem ite_bb {c : Prop} [Decidable c] {x : Option δ} {y : Option β} (h : y = x.bind k) : (if c then y else none) = (if c then x else none).bind k := by split <;> first | exact h | rfl
end
theorem kIntS_bb {δ : Type} {k : δ → Option β} {kd : IntKind} {v : Value} {f : Value → Option δ} {g : Value → Option β} (h : ∀ a, g a = (f a).bind k) : kIntS kd v g = (kIntS kd v f).bind k := by
  unfold kIntS
  split
  · exact ite_bb (h _)
  · split <;> first | exact h _ | rfl
theorem kTyC_bb {δ : Type} {k : δ → Option β} {kd : KD} {v : Value} {f : Value → Option δ} {g : Value → Option β} (h : ∀ a, g a = (f a).bind k) : kTyC kd v g = (kTyC kd v f).bind k := by
  unfold kTyC
  split
  · exact kInt_bb fun _ => h _
  · exact kBool_bb fun _ => h _
  · exact kStr_bb fun _ => h _
  · rfl
theorem kTy_b (kd : Option KD) (v : Value) (k : Value → Option β) : kTy kd v k = (kTy kd v some).bind k := by
  unfold kTy
  split
  · exact kIntS_bb fun _ => rfl
  · exact kBool_bb fun _ => rfl
  · exact kStr_bb fun _ => rfl
  · exact kPtr_bb fun _ => rfl
  · exact kSl_bb fun _ _ _ => rfl
  · exact kMp_bb fun _ => rfl
  · rfl
  · exact kAgg_bb fun _ => ite_bb rfl
  · rfl
section
variable {δ : Type} {k : δ → Option β}
theorem kTy_bb {kd : Option KD} {v : Value} {f : Value → Option δ} {g : Value → Option β} (h : ∀ a, g a = (f a).bind k) : kTy kd v g = (kTy kd v f).bind k := by
  rw [kTy_b, kTy_b kd v f]; exact bind_b (γ := Unit) _ _ _ _ h
theorem kKey_bb {P : Program} {kt : TypeId} {v : Value} {f : Value → Option δ} {g : Value → Option β} (h : ∀ a, g a = (f a).bind k) : kKey P kt v g = (kKey P kt v f).bind k := by
  unfold kKey
  split
  · exact kTyC_bb h
  · split
    · split
      · rfl
      · refine kAgg_bb fun cs => ?_
        split
        · exact h _
        · rfl
    · rfl
theorem optInt_bb {t : Tm} {x : Option Operand} {d : Int} {f : Int → Option δ} {g : Int → Option β} (h : ∀ a, g a = (f a).bind k) : optInt t x d g = (optInt t x d f).bind k := by
  cases x with
  | none => exact h d
  | some x => exact opd_bb fun v => kAnyInt_bb fun _ n => h n
theorem cellsOk_bb {v : Value} {x : Option δ} {y : Option β} (h : y = x.bind k) : cellsOk v y = (cellsOk v x).bind k := by
  unfold cellsOk
  split
  · exact h
  · split <;> first | exact h | rfl
theorem cellsOks_bb : ∀ {vs : List Value} {x : Option δ} {y : Option β}, y = x.bind k → cellsOks vs y = (cellsOks vs x).bind k
  | [], _, _, h => h
  | v :: vs, _, _, h => cellsOk_bb (cellsOks_bb h)
theorem cmpV_bb {op : BinOp} {kd : IntKind} {x y : Value} {f : Bool → Option δ} {g : Bool → Option β} (h : ∀ a, g a = (f a).bind k) : cmpV op kd x y g = (cmpV op kd x y f).bind k := by
  unfold cmpV
  split
  · exact h _
  · split
    · exact onSome_bb fun _ => onSome_bb fun _ => onSome_bb fun _ => h _
    · rfl
theorem mmV_bb {mx : Bool} {kd : IntKind} {x y : Value} {f : Value → Option δ} {g : Value → Option β} (h : ∀ a, g a = (f a).bind k) : mmV mx kd x y g = (mmV mx kd x y f).bind k := by
  unfold mmV
  split
  · exact h _
  · split
    · exact onSome_bb fun _ => onSome_bb fun _ => h _
    · rfl
theorem mmVs_bb {mx : Bool} {kd : IntKind} : ∀ {vs : List Value} {x : Value} {f : Value → Option δ} {g : Value → Option β}, (∀ a, g a = (f a).bind k) → mmVs mx kd vs x g = (mmVs mx kd vs x f).bind k
  | [], x, _, _, h => h x
  | v :: vs, x, _, _, h => mmV_bb fun y => mmVs_bb h
theorem cvtV_bb {ks kd : IntKind} {v : Value} {f : Value → Option δ} {g : Value → Option β} (h : ∀ a, g a = (f a).bind k) : cvtV ks kd v g = (cvtV ks kd v f).bind k := by
  unfold cvtV
  split
  · exact ite_bb (h _)
  · split
    · exact onSome_bb fun _ => h _
    · rfl
end
theorem ld_b {P : Program} {ty : TypeId} {H : Heap} {a : Addr} : ld (kdOf P ty) H a k = (ld (kdOf P ty) H a some).bind k := by
  unfold ld
  split
  · exact ldc_bb fun cs => ite_bb rfl
  · exact ldc_bb fun cs => onSome_bb fun v => kTy_b _ _ _
theorem partK_b {P : Program} {e : TypeId} {cs : Array Value} {off : Nat} : partK P e cs off k = (partK P e cs off some).bind k := by
  unfold partK
  split
  · rfl
  · exact onSome_bb fun v => kTy_b _ _ _
theorem binInt_b {op : BinOp} {kd : IntKind} {a b : Int} : binInt op kd a b k = (binInt op kd a b some).bind k := by
  cases op <;> simp only [binInt] <;> first | rfl | (split <;> rfl)
theorem binSh_b {op : BinOp} {kd : IntKind} {a b : Int} : binSh op kd a b k = (binSh op kd a b some).bind k := by
  cases op <;> simp only [binSh] <;> first | rfl | (split <;> rfl)
theorem shV_b {op : BinOp} {x y : Value} : shV op x y k = (shV op x y some).bind k := by
  unfold shV
  refine kAnyInt_bb fun _ b => ?_
  split
  · exact binSh_b
  · split
    · refine onSome_bb fun _ => ?_
      split <;> rfl
    · rfl
theorem arV_b {op : BinOp} {kd : IntKind} {x y : Value} : arV op kd x y k = (arV op kd x y some).bind k := by
  unfold arV
  split
  · exact binInt_b
  · split
    · exact onSome_bb fun _ => onSome_bb fun _ => onSome_bb fun _ => rfl
    · rfl
theorem binStr_b {op : BinOp} {a b : ByteArray} : binStr op a b k = (binStr op a b some).bind k := by
  cases op <;> simp only [binStr] <;> first | rfl | (split <;> rfl)
theorem nilK_bb {P : Program} {t : TypeId} {v : Value} {f : Bool → Option Value} {g : Bool → Option β} (h : ∀ a, g a = (f a).bind k) : nilK P t v g = (nilK P t v f).bind k := by
  unfold nilK
  split
  · exact kPtr_bb fun a => h _
  · exact kSl_bb fun a _ _ => h _
  · exact kMp_bb fun a => h _
  · split <;> first | exact h _ | rfl
  · split <;> first | exact h _ | rfl
  · rfl
theorem eqv_bb {P : Program} : ∀ (n : Nat) {t : TypeId} {x y : Value} {f : Bool → Option Value} {g : Bool → Option β}, (∀ a, g a = (f a).bind k) → eqv P n t x y g = (eqv P n t x y f).bind k
  | 0, _, _, _, _, _, _ => rfl
  | n + 1, t, x, y, f, g, h => by
    simp only [eqv]
    split
    · exact kBool_bb fun _ => kBool_bb fun _ => h _
    · exact cmpV_bb fun _ => h _
    · exact kStr_bb fun _ => kStr_bb fun _ => h _
    · rename_i fs hu
      split
      · rfl
      · refine kAgg_bb fun xs => kAgg_bb fun ys => ?_
        generalize fs.toList = l
        induction l with
        | nil => exact h true
        | cons fl l ih =>
          simp only [List.foldr_cons]
          split
          · exact ih
          · split
            · refine eqv_bb n fun b => ?_
              cases b
              · exact h false
              · exact ih
            · refine onSome_bb fun u => onSome_bb fun v => eqv_bb n fun b => ?_
              cases b
              · exact h false
              · exact ih
    · rfl
theorem ptrEq_bb {δ : Type} {k : δ → Option β} {x y : Option Addr} {f : Bool → Option δ} {g : Bool → Option β} (h : ∀ b, g b = (f b).bind k) : ptrEq x y g = (ptrEq x y f).bind k := by
  unfold ptrEq
  split <;> try exact h _
  split <;> first | exact h _ | rfl
theorem bin_b {P : Program} {op : BinOp} {xt : TypeId} {xo yo : Operand} {x y : Value} : bin P op xt xo yo x y k = (bin P op xt xo yo x y some).bind k := by
  unfold bin
  split
  · exact shV_b
  · split
    · split
      · exact cmpV_bb fun _ => rfl
      · exact arV_b
    · exact kStr_bb fun _ => kStr_bb fun _ => binStr_b
    · refine kBool_bb fun _ => kBool_bb fun _ => ?_
      cases op <;> rfl
    · split
      · rfl
      · cases op <;> first | rfl | exact eqv_bb 20 fun _ => rfl
    · split
      · refine nilK_bb fun _ => ?_
        cases op <;> rfl
      · split
        · refine nilK_bb fun _ => ?_
          cases op <;> rfl
        · split
          · split
            · refine kPtr_bb fun _ => kPtr_bb fun _ => ptrEq_bb fun _ => ?_
              cases op <;> rfl
            · rfl
          · rfl
theorem slStr_b {s : ByteArray} {l h : Int} : slStr s l h k = (slStr s l h some).bind k := ite_bb rfl
theorem esOk_bb {H : Heap} {b sz : Nat} {x : Option Value} {y : Option β} (h : y = x.bind k) : esOk H b sz y = (esOk H b sz x).bind k := by
  unfold esOk
  split
  · split <;> first | exact h | rfl
  · rfl
theorem slSl_b {H : Heap} {sz : Nat} {a : Option Addr} {len cap : Nat} {l h : Int} : slSl H sz a len cap l h k = (slSl H sz a len cap l h some).bind k := by
  cases a with
  | none => exact ite_bb rfl
  | some a => exact esOk_bb (ite_bb rfl)
theorem slSl3_b {H : Heap} {sz : Nat} {a : Option Addr} {len cap : Nat} {l h m : Int} : slSl3 H sz a len cap l h m k = (slSl3 H sz a len cap l h m some).bind k := by
  cases a with
  | none => rfl
  | some a => exact esOk_bb (ite_bb rfl)
theorem slArr_b {H : Heap} {sz n : Nat} {a : Addr} {l h : Int} : slArr H sz n a l h k = (slArr H sz n a l h some).bind k := esOk_bb (ldc_bb fun _ => ite_bb rfl)
theorem lookupK_b {P : Program} {mt : TypeId} {H : Heap} {x ix : Value} {ok : Bool} : lookupK P mt H x ix ok k = (lookupK P mt H x ix ok some).bind k := by
  unfold lookupK
  split
  · refine kKey_bb fun key => kMp_bb fun r => ldmo_bb fun es => ?_
    split
    · rfl
    · split
      · exact kTy_bb fun _ => rfl
      · refine onSome_bb fun z => ?_
        split <;> rfl
  · rfl

theorem tyAs_b {P : Program} {at_ : TypeId} {ok : Bool} {v : Value} : tyAs P at_ ok v k = (tyAs P at_ ok v some).bind k := by
  unfold tyAs
  split
  · rfl
  · rfl
  · split
    · rfl
    · split
      · refine onSome_bb fun z => ?_
        split <;> rfl
      · rfl
    · rfl
theorem fl_b {P : Program} {t : Tm} {H : Heap} {ty : TypeId} {op : Op} : fl P t H ty op k = (fl P t H ty op some).bind k := by
  cases op <;> simp only [fl] <;> try rfl
  case move => exact opd_b _ _ _
  case assign => exact opd_b _ _ _
  case pick => refine opd_bb fun _ => kBool_bb fun b => ?_; cases b <;> exact opd_b _ _ _
  case nilCheck =>
    refine opd_bb fun v => ?_
    split
    · exact kPtr_bb fun _ => onSome_bb fun _ => rfl
    · split
      · exact onSome_bb fun _ => rfl
      · rfl
      · rfl
      · rfl
  case load => exact opd_bb fun _ => kPtr_bb fun _ => onSome_bb fun _ => ld_b
  case binOp => exact opd_bb fun _ => opd_bb fun _ => bin_b
  case unOp =>
    refine opd_bb fun v => ?_
    split
    · exact kBool_bb fun _ => rfl
    · exact kAnyInt_bb fun _ _ => rfl
    · exact kAnyInt_bb fun _ _ => rfl
    · rfl
  case convert =>
    refine opd_bb fun v => ?_
    split
    · exact cvtV_bb fun _ => rfl
    · exact kStr_bb fun _ => rfl
    · split
      · exact kPtr_bb fun _ => onSome_bb fun _ => ldc_bb fun _ => ite_bb rfl
      · rfl
    · split
      · refine kPtr_bb fun _ => onSome_bb fun _ => ?_
        unfold fromU
        split
        · exact ite_bb rfl
        · rfl
      · rfl
    · split
      · refine kSl_bb fun a _ _ => ?_
        cases a with
        | none => rfl
        | some a => exact ldc_bb fun _ => ite_bb (onSome_bb fun _ => rfl)
      · rfl
    · rfl
  case makeInterface =>
    refine opd_bb fun v => ?_
    split <;> rfl
  case typeAssert => exact opd_bb fun _ => tyAs_b
  case makeFunc fn first cap =>
    cases fn <;> simp only [fl] <;> first
      | rfl
      | exact opds_bb fun _ => opds_bb fun _ => rfl
  case build =>
    refine opds_bb fun _ => cellsOks_bb (onSome_bb fun _ => ?_)
    split
    · split <;> rfl
    · rfl
  case fieldAddr => exact onSome_bb fun _ => opd_bb fun _ => kPtr_bb fun _ => onSome_bb fun _ => rfl
  case field => exact onSome_bb fun _ => opd_bb fun _ => kAgg_bb fun _ => partK_b
  case indexAddr =>
    refine opd_bb fun _ => opd_bb fun _ => kAnyInt_bb fun _ _ => ?_
    split
    · exact onSome_bb fun _ => kSl_bb fun _ _ _ => onSome_bb fun _ => ite_bb rfl
    · exact onSome_bb fun _ => kPtr_bb fun _ => onSome_bb fun _ => ite_bb rfl
    · rfl
  case index =>
    refine opd_bb fun _ => opd_bb fun _ => kAnyInt_bb fun _ _ => ?_
    split
    · exact kStr_bb fun _ => ite_bb rfl
    · exact onSome_bb fun _ => kAgg_bb fun _ => ite_bb partK_b
    · rfl
  case slice =>
    refine opd_bb fun _ => ?_
    split
    · split
      · rfl
      · exact kStr_bb fun _ => optInt_bb fun _ => optInt_bb fun _ => slStr_b
    · refine onSome_bb fun _ => kSl_bb fun _ _ _ => optInt_bb fun _ => optInt_bb fun _ => ?_
      split
      · exact slSl_b
      · refine opd_bb fun _ => kAnyInt_bb fun _ _ => ?_
        split
        · rfl
        · exact slSl3_b
    · refine onSome_bb fun _ => kPtr_bb fun _ => onSome_bb fun _ => optInt_bb fun _ => optInt_bb fun _ => ?_
      split
      · exact slArr_b
      · rfl
    · rfl
  case lookup =>
    refine opd_bb fun _ => opd_bb fun _ => ?_
    rw [lookupK_b, lookupK_b (k := fun v => kTy _ v some), Option.bind_assoc]
    congr 1; funext v
    exact kTy_b _ _ _
  case extract => exact opd_bb fun _ => kTup_bb fun _ => onSome_bb fun _ => kTy_b _ _ _
  case call c =>
    obtain ⟨callee, args, ats⟩ := c
    cases callee <;> simp only [fl] <;> try rfl
    rename_i b
    refine opds_bb fun vs => ?_
    cases b <;> simp only [] <;> try rfl
    case len =>
      split
      · split
        · exact kStr_bb fun _ => rfl
        · exact kSl_bb fun _ _ _ => rfl
        · exact kMp_bb fun _ => ldmo_bb fun _ => rfl
        · rfl
      · rfl
    case max =>
      split
      · split
        · exact kIntS_bb fun _ => mmVs_bb fun _ => rfl
        · rfl
      · rfl
    case min =>
      split
      · split
        · exact kIntS_bb fun _ => mmVs_bb fun _ => rfl
        · rfl
      · rfl
    case cap =>
      split
      · split
        · refine kSl_bb fun _ _ _ => ?_
          split <;> rfl
        · rfl
      · rfl
    case unsafeSliceData =>
      split
      · refine kSl_bb fun a _ _ => ?_
        cases a with
        | none => rfl
        | some a => exact ite_bb rfl
      · rfl

theorem al_b {P : Program} {t : Tm} {op : Op} {k : AObj → (Nat → Value) → Option β} : al P t op k = (al P t op fun ob mk => some (ob, mk)).bind fun p => k p.1 p.2 := by
  cases op <;> simp only [al] <;> try rfl
  case alloc => refine onSome_bb fun z => ?_; split <;> rfl
  case box => exact opd_bb fun v => cellsOk_bb rfl
  case buildSlice =>
    refine onSome_bb fun e => onSome_bb fun z => ?_
    split
    · rfl
    · split
      · rfl
      · exact opds_bb fun vs => cellsOks_bb (onSome_bb fun cells => rfl)
  case makeMap =>
    split
    · rfl
    · refine opd_bb fun v => kAnyInt_bb fun _ _ => ?_
      split <;> rfl
  case makeSlice =>
    refine onSome_bb fun e => onSome_bb fun z => ?_
    split
    · rfl
    · exact opd_bb fun _ => kInt_bb fun _ => opd_bb fun _ => kInt_bb fun _ => ite_bb rfl

theorem al_val {P : Program} {t : Tm} {op : Op} {k : AObj → (Nat → Value) → Option β} {r : β} (h : al P t op k = some r) : ∃ ob mk, al P t op (fun ob mk => some (ob, mk)) = some (ob, mk) ∧ k ob mk = some r := by
  rw [al_b] at h
  cases hv : al P t op (fun ob mk => some (ob, mk)) with
  | none => rw [hv] at h; cases h
  | some v => rw [hv] at h; exact ⟨v.1, v.2, rfl, h⟩

theorem firstC_bb {δ : Type} {k : δ → Option β} {H : Heap} {sz : Nat} {v : Value} {f : Nat → List Value → Option δ} {g : Nat → List Value → Option β} (h : ∀ n l, g n l = (f n l).bind k) : firstC H sz v g = (firstC H sz v f).bind k := by
  unfold firstC
  split
  · exact ite_bb (h _ _)
  · exact ldc_bb fun _ => ite_bb (h _ _)
  · split <;> first | exact h _ _ | rfl
  · rfl
theorem app_b {P : Program} {e : TypeId} {H : Heap} {s : Value} {n : Nat} {nw : List Value} {k : Value → Heap → Option β} : app P e H s n nw k = (app P e H s n nw fun v H => some (v, H)).bind fun p => k p.1 p.2 := by
  unfold app
  refine kSl_bb fun a len cap => ite_bb ?_
  cases a with
  | none => refine ite_bb ?_; split <;> rfl
  | some a =>
    simp only []
    split
    · refine ite_bb ?_
      split
      · split
        · rfl
        · exact ite_bb rfl
      · split
        · exact ite_bb rfl
        · rfl
    · rfl
theorem ef_b {P : Program} {Γ : Fs} {t : Tm} {H : Heap} {ty : TypeId} {op : Op} {k : Value → Heap → Option β} : ef P Γ t H ty op k = (ef P Γ t H ty op fun v H => some (v, H)).bind fun p => k p.1 p.2 := by
  cases op <;> simp only [ef] <;> try rfl
  case store =>
    refine opd_bb fun _ => kPtr_bb fun _ => onSome_bb fun _ => opd_bb fun _ => onSome_bb fun _ => cellsOk_bb ?_
    unfold st
    split
    · exact ite_bb rfl
    · rfl
  case convert =>
    refine opd_bb fun _ => ?_
    split
    · split
      · exact kStr_bb fun _ => ite_bb rfl
      · rfl
    · rfl
  case mapUpdate =>
    refine opd_bb fun _ => kMp_bb fun _ => onSome_bb fun _ => opd_bb fun _ => opd_bb fun _ => ?_
    split
    · refine kKey_bb fun _ => ?_
      unfold mupd
      refine ldmB_bb fun _ _ _ => ?_
      split <;> rfl
    · rfl
  case insert =>
    refine opd_bb fun _ => kMp_bb fun _ => onSome_bb fun _ => opd_bb fun _ => opd_bb fun _ => ?_
    split
    · refine kKey_bb fun _ => ?_
      unfold mupd
      refine ldmB_bb fun _ _ _ => ?_
      split <;> rfl
    · rfl
  case mapEntry =>
    refine opd_bb fun _ => kMp_bb fun _ => onSome_bb fun _ => opd_bb fun _ => ?_
    split
    · refine kKey_bb fun _ => ?_
      unfold ment
      refine ldmB_bb fun _ _ _ => ?_
      split
      · split
        · exact onSome_bb fun _ => onSome_bb fun _ => rfl
        · refine onSome_bb fun _ => ?_
          split <;> rfl
      · rfl
    · rfl
  case entryStore =>
    refine opd_bb fun _ => kMp_bb fun _ => onSome_bb fun _ => opd_bb fun _ => kAnyInt_bb fun _ _ => opd_bb fun _ => ?_
    unfold esto
    exact ldmB_bb fun _ _ _ => onSome_bb fun _ => onSome_bb fun _ => rfl
  case entry =>
    refine opd_bb fun _ => kPtr_bb fun _ => onSome_bb fun _ => ?_
    unfold entr
    split
    · exact ite_bb (onSome_bb fun _ => ldmB_bb fun _ _ _ => ite_bb (onSome_bb fun _ => onSome_bb fun _ => rfl))
    · rfl
  case range =>
    refine opd_bb fun _ => ?_
    split
    · refine kMp_bb fun r => ?_
      cases r with
      | none => rfl
      | some r => exact ldmB_bb fun _ _ _ => rfl
    · rfl
  case call c =>
    obtain ⟨callee, args, ats⟩ := c
    cases callee with
    | invoke => simp only [efCall]; rfl
    | builtin b =>
      simp only [efCall]
      refine opds_bb fun vs => ?_
      cases b <;> simp only [] <;> try rfl
      case append =>
        split
        · refine onSome_bb fun e => onSome_bb fun z => ?_
          split
          · rfl
          · split
            · rfl
            · rfl
            · exact firstC_bb fun _ _ => app_b
        · rfl
      case copy =>
        split
        · refine onSome_bb fun e => onSome_bb fun _ => firstC_bb fun n cs => kSl_bb fun a _ _ => ?_
          unfold cpy
          cases a with
          | none => exact ite_bb rfl
          | some a =>
            simp only []
            split
            · exact ite_bb rfl
            · rfl
        · rfl
      case clear =>
        split
        · refine onSome_bb fun _ => onSome_bb fun _ => ?_
          split
          · rfl
          · refine kSl_bb fun a _ _ => ?_
            unfold clr
            cases a with
            | none => rfl
            | some a =>
              simp only []
              split
              · exact ite_bb rfl
              · rfl
        · rfl
      case delete =>
        split
        · split
          · refine kKey_bb fun _ => kMp_bb fun q => ?_
            unfold dele
            cases q with
            | none => rfl
            | some q =>
              refine ldmB_bb fun _ _ _ => ?_
              split <;> rfl
          · rfl
        · rfl
      case unsafeString =>
        split
        · refine kPtr_bb fun a => kInt_bb fun n => ?_
          cases a with
          | none => exact ite_bb rfl
          | some a =>
            simp only []
            split
            · unfold uStr
              split
              · exact ite_bb (onSome_bb fun _ => rfl)
              · rfl
            · rfl
        · rfl
    | value x =>
      cases x <;> simp only [efCall] <;> first
        | exact onSome_bb fun _ => opds_bb fun _ => onSome_bb fun _ => kTy_bb fun _ => rfl
        | (refine opd_bb fun _ => ?_
           split
           · exact onSome_bb fun _ => opds_bb fun _ => onSome_bb fun _ => kTy_bb fun _ => rfl
           · rfl)
theorem ef_val {P : Program} {Γ : Fs} {t : Tm} {H : Heap} {ty : TypeId} {op : Op} {k : Value → Heap → Option β} {r : β} (h : ef P Γ t H ty op k = some r) : ∃ v H', ef P Γ t H ty op (fun v H => some (v, H)) = some (v, H') ∧ k v H' = some r := by
  rw [ef_b] at h
  cases hv : ef P Γ t H ty op (fun v H => some (v, H)) with
  | none => rw [hv] at h; cases h
  | some v => rw [hv] at h; exact ⟨v.1, v.2, rfl, h⟩

/-- What an operation that changes nothing comes to. -/
theorem fl_val {P : Program} {t : Tm} {H : Heap} {ty : TypeId} {op : Op} {r : β} (h : fl P t H ty op k = some r) : ∃ v, fl P t H ty op some = some v ∧ k v = some r := by
  rw [fl_b] at h
  cases hv : fl P t H ty op some with
  | none => rw [hv] at h; cases h
  | some v => rw [hv] at h; exact ⟨v, rfl, h⟩
end
end Go.Proofs.YtgnkjpbecgpjoaaGreatDoor.Fw
