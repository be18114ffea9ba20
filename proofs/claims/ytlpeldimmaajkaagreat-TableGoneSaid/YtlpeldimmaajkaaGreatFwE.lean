/- FRAMEWORK 14: an operation that changes something does in the world what it does on the abstract heap. -/
import Derived.Test.YtlpeldimmaajkaaGreatFwD
set_option linter.unusedVariables false
set_option linter.unusedSimpArgs false
namespace Go.Proofs.YtlpeldimmaajkaaGreat.Fw
open Go Go.RowKit

/-- What a function does, told on the abstract heap, is what the machine's call does. -/
structure Entered (P : Program) (f : FuncId) (F : List Value → Heap → Option (Value × Heap)) : Prop where
  enters : ∀ args w, (callFunc f args).run P w = .ok (.enter f args) w
  calls : ∀ args H v H', F args H = some (v, H') → ∀ ρ w args', Rel ρ H w → VL ρ args args' →
    Calls P f args'.toArray w fun e w' => ∃ v' ρ', e = .returned v' ∧ Rel ρ' H' w' ∧ Ext ρ H w ρ' H' w' ∧ VR ρ' v v'

/-- A function without a body of its own: it answers at once. -/
def Direct (P : Program) (f : FuncId) (F : List Value → Heap → Option (Value × Heap)) : Prop :=
  ∀ args H v H', F args H = some (v, H') → ∀ ρ w args', Rel ρ H w → VL ρ args args' →
    ∃ v' ρ' w', (callFunc f args'.toArray).run P w = .ok (.value v') w' ∧ Rel ρ' H' w' ∧ Ext ρ H w ρ' H' w' ∧ VR ρ' v v'

def Sound (P : Program) (f : FuncId) (F : List Value → Heap → Option (Value × Heap)) : Prop := Entered P f F ∨ Direct P f F

section
variable {P : Program} {ρ : Ren} {w : World} {β : Type} {r : β}

theorem Calls.mono' {P : Program} {f : FuncId} {args : Array Value} {w : World} {R R' : Ending → World → Prop} (h : Calls P f args w R) (hr : ∀ e w', R e w' → R' e w') : Calls P f args w R' := fun cs =>
  let ⟨e, w', fr, h1, h2⟩ := h cs; ⟨e, w', fr, hr _ _ h1, h2⟩

/-- A call of a function. -/
theorem call_wp {Γ : Fs} (hΓ : ∀ f F, Γ f = some F → Sound P f F) {H : Heap} (hR : Rel ρ H w) {f : FuncId} {F : List Value → Heap → Option (Value × Heap)} (hf : Γ f = some F) {vs vs' : List Value} (hv : VL ρ vs vs') {rr : Value × Heap} (hF : F vs H = some rr)
    {o : Oper} {a : Act} (hrun : (execOp a.eval o).run P w = (callFunc f vs'.toArray).run P w) {K : Act → World → Prop} {Q : Exit → Act → World → Prop}
    (hK : ∀ v' ρ' w', Rel ρ' rr.2 w' → Ext ρ H w ρ' rr.2 w' → VR ρ' rr.1 v' → K (a.put o.dst v') w') : o.wp P a w K Q := by
  rcases hΓ f F hf with hS | hS
  · unfold Oper.wp
    rw [hrun, hS.enters]
    simp only [Oper.upon]
    refine Calls.mono' (hS.calls vs H rr.1 rr.2 hF ρ w vs' hR hv) ?_
    rintro e w' ⟨v', ρ', rfl, h1, h2, h3⟩
    exact hK v' ρ' w' h1 h2 h3
  · obtain ⟨v', ρ', w', h0, h1, h2, h3⟩ := hS vs H rr.1 rr.2 hF ρ w vs' hR hv
    unfold Oper.wp
    rw [hrun, h0]
    exact hK v' ρ' w' h1 h2 h3

theorem val_wp {o : Oper} {a : Act} {v' : Value} {w' : World} (hrun : (execOp a.eval o).run P w = .ok (.value v') w') {K : Act → World → Prop} {Q : Exit → Act → World → Prop} (hK : K (a.put o.dst v') w') : o.wp P a w K Q := by
  unfold Oper.wp
  rw [hrun]
  exact hK
theorem skip_wp {o : Oper} {a : Act} {w' : World} (hrun : (execOp a.eval o).run P w = .ok .skip w') {K : Act → World → Prop} {Q : Exit → Act → World → Prop} (hK : K (a.put o.dst undef) w') : o.wp P a w K Q := by
  unfold Oper.wp
  rw [hrun]
  exact hK

/-- The bytes of a text, as a new row. -/
theorem bytes_sound {H : Heap} (hR : Rel ρ H w) (e : TypeId) (s : ByteArray) (hs : s.size ≤ 140737488351232) :
    ∃ v' w' p, (Conv.stringToBytes e s).run P w = .ok v' w' ∧ Rel (ρ.ins H.length p) (H ++ [.cells (s.data.toList.map fun b => .int .u8 b.toNat) 1 true]) w' ∧ Ext ρ H w (ρ.ins H.length p) (H ++ [.cells (s.data.toList.map fun b => .int .u8 b.toNat) 1 true]) w' ∧
      VR (ρ.ins H.length p) (.slice (some ⟨H.length, 0, none⟩) s.size unk) v' := by
  let q := Question.appendCap s.size 0 e
  let cap := q.cut (w.tape w.drawn q)
  have hcap : s.size ≤ cap := by show s.size ≤ s.size + _; omega
  let row : List Value := (s.data.toList.map fun b => Value.int .u8 b.toNat) ++ List.replicate (cap - s.size) (.int .u8 0)
  have hlen : (s.data.toList.map fun b => Value.int .u8 b.toNat).length = s.size := by rw [List.length_map, Array.length_toList]; rfl
  have hrow : row.length = cap := by simp only [row, List.length_append, hlen, List.length_replicate]; omega
  let w1 : World := w.drew.alloc (.cells row.toArray e)
  let w2 : World := w1.freeze { block := w.heap.size, off := cap } 1
  have hw1 : w1.heap[w.heap.size]? = some (.cells row.toArray e (0, 0)) := heap_new w.drew _
  have hw2 : w2.heap[w.heap.size]? = some (.cells row.toArray e (cap, cap + 1)) := by
    show (w1.freeze _ 1).heap[w.heap.size]? = _
    simp [World.freeze, Array.getElem?_modify, hw1]
  have hother : ∀ k, k < w.heap.size → w2.heap[k]? = w.heap[k]? := fun k hk => by
    have : w2.heap[k]? = w1.heap[k]? := by
      show (w1.freeze _ 1).heap[k]? = _
      simp only [World.freeze, Nat.one_ne_zero, if_false, Array.getElem?_modify]
      rw [if_neg (by omega)]
    rw [this]
    exact Below.heap_alloc _ _ _ hk
  have hsize : w2.heap.size = w.heap.size + 1 := by
    show (w1.freeze _ 1).heap.size = _
    simp only [World.freeze, Nat.one_ne_zero, if_false, Array.size_modify]
    show (w.drew.heap.push _).size = _
    simp
  have hrun : (Conv.stringToBytes e s).run P w = .ok (.slice (some ⟨w.heap.size, 0, none⟩) s.size cap) w2 := by
    have hsh : w1.shape? w.heap.size = some (e, cap) := by simp [World.shape?, hw1, hrow]
    have harr : (s.data.map fun b => Value.int .u8 b.toNat) ++ Array.replicate (cap - s.size) (Value.int .u8 0) = row.toArray := by
      apply Array.ext'
      simp [row]
    have hq : Question.cut (.appendCap s.size 0 e) (w.tape w.drawn (.appendCap s.size 0 e)) = cap := rfl
    simp only [Conv.stringToBytes, Sem.run_bind, run_choose, Question.forced, Bool.false_eq_true, if_false, Result.andThen_ok, newRow, run_newObj, Sem.run_pure, hq, harr]
    show ((markStringish ⟨w.heap.size, 0, none⟩).run P w1).andThen _ = _
    simp only [markStringish, Sem.run_bind, run_shape, hsh, Result.andThen_ok, run_freeze, Sem.run_pure]
    rfl
  have hor : ∀ ρ', Le ρ ρ' → OR ρ' w2 ⟨w.heap.size, 0, cap, 1⟩ (.cells (s.data.toList.map fun b => .int .u8 b.toNat) 1 true) := fun ρ' _ => by
    refine ⟨row.toArray, e, (cap, cap + 1), hw2, by simpa using hrow, ⟨rfl, fun t h => by simp [tyM] at h⟩, by simp only [hlen, Nat.zero_add, List.size_toArray, hrow]; exact hcap, fun i v hi => ?_, fun _ i hi h => by simp [hrow] at hi; omega⟩
    refine ⟨?_, v, ?_, ?_⟩
    · simp at hi; obtain ⟨x, _, rfl⟩ := hi; rfl
    · have hlt : i < (s.data.toList.map fun b => Value.int .u8 b.toNat).length := by
        rcases Nat.lt_or_ge i (s.data.toList.map fun b => Value.int .u8 b.toNat).length with h | h
        · exact h
        · simp [List.getElem?_eq_none h] at hi
      simp only [Nat.zero_add, List.getElem?_toArray, row]
      rw [List.getElem?_append_left hlt]
      exact hi
    · simp at hi; obtain ⟨x, _, rfl⟩ := hi; exact .int _ _
  refine ⟨_, w2, ⟨w.heap.size, 0, cap, 1⟩, hrun, hR.new_gen rfl hother hor, Ext.new_gen hR rfl hother (by omega) ?_ ?_ ?_, ?_⟩
  · show (w1.freeze _ 1).os = _; simp [World.freeze]; rfl
  · show (w1.freeze _ 1).tape = _; simp [World.freeze]; rfl
  · show (w1.freeze _ 1).output = _; simp [World.freeze]; rfl
  · exact .slice H.length 0 _ _ cap _ _ (Ren.ins_self _ _ _) (.inr (unkOk _)) hcap (.inr ⟨rfl, by simp⟩)

theorem loadBytes_run : ∀ (ns : List Int) (a : Addr) (acc : ByteArray), (∀ j n, ns[j]? = some n → w.cell? (a.add j) = some (.int .u8 n)) →
    (loadBytes a acc ns.length).run P w = .ok ⟨acc.data ++ (ns.map fun n => UInt8.ofNat n.toNat).toArray⟩ w
  | [], a, acc, _ => by simp [loadBytes]
  | n :: ns, a, acc, h => by
    have h0 : w.cell? a = some (.int .u8 n) := by
      have := h 0 n rfl
      simpa [Addr.add] using this
    have ih := loadBytes_run ns (a.add 1) (acc.push n.toNat.toUInt8) (fun j y hy => by
      have := h (j + 1) y (by simpa using hy)
      have e : (a.add 1).add j = a.add (j + 1) := by
        unfold Addr.add
        by_cases hj : j = 0
        · subst hj; simp
        · simp [hj]; omega
      rw [e]; exact this)
    simp only [List.length_cons, loadBytes, Sem.run_bind, run_load, h0, Result.andThen]
    rw [ih]
    congr 1
    apply ByteArray.ext
    simp [ByteArray.push]

/-- The bytes of a row, as a text: the row is let go. -/
theorem unsafeString_some {H : Heap} (hR : Rel ρ H w) {q : Addr} {p' : Value} (hp : VR ρ (.pointer (some q)) p') {ats : Array TypeId} {pt ty u : TypeId} (hpt : ats[0]? = some pt) {cs : List Value} {esz : Nat} (hH : H[q.block]? = some (.cells cs esz true))
    (hu : P.underlying pt = some (.pointer u)) {n : Int} (c1 : 0 < n) (c2 : n ≤ 9223372036854775807) (c3 : n.toNat ≤ cs.length) (c4 : q.off = 0) (c5 : esz / tyM = u + 1) (c6 : P.cellsOf u = 1) {bs : List UInt8} (hbs : bytesOf (cs.take n.toNat) = some bs) :
    ∃ w', (Builtin.unsafeString_ ats ty #[p', .int .i64 n]).run P w = .ok (.string ⟨bs.toArray⟩) w' ∧ Rel ρ (H.set q.block .dead) w' ∧ Ext ρ H w ρ (H.set q.block .dead) w' := by
  replace hp := hp.ptr_inv; obtain ⟨p, hp, hs, rfl⟩ := hp
  obtain ⟨c, el, fz, h1, h2, h3, h4, h5, h6⟩ := hR.obj _ p _ hp hH
  obtain ⟨rfl, hb⟩ := h3.2 _ c5
  obtain ⟨ns, hns, rfl⟩ := bytesOf_inv hbs
  have hlen : ns.length = n.toNat := by
    have := congrArg List.length hns
    simp at this; omega
  have hcell : ∀ j x, ns[j]? = some x → w.cell? ((⟨p.blk, p.base + q.off, none⟩ : Addr).add j) = some (.int .u8 x) := fun j x hj => by
    have hlt : j < n.toNat := by
      rcases Nat.lt_or_ge j ns.length with h | h
      · omega
      · simp [List.getElem?_eq_none h] at hj
    have e1 : cs[j]? = some (.int .u8 x) := by
      have : (cs.take n.toNat)[j]? = some (.int .u8 x) := by rw [hns]; simp [hj]
      rwa [List.getElem?_take, if_pos hlt] at this
    obtain ⟨_, v', e2, e3⟩ := h5 j _ e1
    rw [e3.int_inv] at e2
    rw [addr_add, hb, c4]
    rw [hb] at e2
    simp only [World.cell?, h1, Nat.zero_add]
    simpa using e2
  have hload := loadBytes_run (P := P) (w := w) ns ⟨p.blk, p.base + q.off, none⟩ .empty hcell
  rw [hlen] at hload
  have hlies := Lib.liesAt_bytes (P := P) c6 (c.size / P.cellsOf el) n.toNat (by rw [c6]; simp; omega)
  have hsh : w.shape? p.blk = some (el, c.size) := by simp [World.shape?, h1]
  have hoth : ∀ k, k ≠ p.blk → (w.freeze ⟨p.blk, p.base + q.off, none⟩ n.toNat).heap[k]? = w.heap[k]? := fun k hk => by
    unfold World.freeze
    split
    · rfl
    · simp only [Array.getElem?_modify]
      rw [if_neg (Ne.symm hk)]
  have hsz : (w.freeze ⟨p.blk, p.base + q.off, none⟩ n.toNat).heap.size = w.heap.size := by unfold World.freeze; split <;> simp
  have ho : (w.freeze ⟨p.blk, p.base + q.off, none⟩ n.toNat).os = w.os ∧ (w.freeze ⟨p.blk, p.base + q.off, none⟩ n.toNat).tape = w.tape ∧ (w.freeze ⟨p.blk, p.base + q.off, none⟩ n.toNat).output = w.output := by unfold World.freeze; split <;> exact ⟨rfl, rfl, rfl⟩
  refine ⟨_, ?_, hR.kill_turn hp hH rfl hoth, Ext.kill_turn hp hH rfl hoth hsz ho.1 ho.2.1 ho.2.2⟩
  have hdef : Builtin.unsafeString_ ats ty #[.pointer (some ⟨p.blk, p.base + q.off, none⟩), .int .i64 n] =
      (do
        let n ← asInt (.int .i64 n)
        let some pt := ats[0]? | stuck "unsafe.String: no argument types"
        if n < 0 then runtimePanic (.error "unsafe.String: len out of range")
        if n > IntKind.i64.max then unsupported (.unsafePointer "String: a length above the largest int")
        if n = 0 then pure (.string .empty)
        else if ← variablesAt ⟨p.blk, p.base + q.off, none⟩ (← Go.elemOf pt) n.toNat then do
          let s ← loadBytes ⟨p.blk, p.base + q.off, none⟩ .empty n.toNat
          freeze ⟨p.blk, p.base + q.off, none⟩ n.toNat
          pure (.string s)
        else unsupported (.unsafePointer "String: not so many bytes at ptr")) := rfl
  rw [hdef]
  have hmax : IntKind.i64.max = 9223372036854775807 := rfl
  have k1 : ¬ n < 0 := by omega
  have k2 : ¬ n = 0 := by omega
  have k3 : ¬ (9223372036854775807 < n) := by omega
  have hoff : p.base + q.off = 0 := by omega
  rw [hoff] at hload ⊢
  simp [asInt, asIntOf, hmax, k1, k2, k3, variablesAt, hsh, Go.elemOf, run_underlying hu, hlies, hload, hpt]

theorem unsafeString_nil {ats : Array TypeId} {pt ty : TypeId} (hpt : ats[0]? = some pt) : (Builtin.unsafeString_ ats ty #[.pointer none, .int .i64 0]).run P w = .ok (.string .empty) w := by
  have hmax : IntKind.i64.max = 9223372036854775807 := rfl
  have hdef : Builtin.unsafeString_ ats ty #[.pointer none, .int .i64 0] =
      (do
        let n ← asInt (.int .i64 0)
        let some pt := ats[0]? | stuck "unsafe.String: no argument types"
        if n < 0 then runtimePanic (.error "unsafe.String: len out of range")
        if n > IntKind.i64.max then unsupported (.unsafePointer "String: a length above the largest int")
        if n = 0 then pure (.string .empty)
        else runtimePanic (.error "unsafe.String: ptr is nil and len is not zero")) := rfl
  rw [hdef]
  simp [asInt, asIntOf, hmax, hpt]

set_option maxHeartbeats 1000000 in
/-- WHAT CHANGES SOMETHING. -/
theorem ef_sound {Γ : Fs} (hΓ : ∀ f F, Γ f = some F → Sound P f F) {H : Heap} {t : Tm} {a : Act} (hR : Rel ρ H w) (ht : TR ρ t a.tmps) {o : Oper} {k : Value → Heap → Option β} (h : ef P Γ t H o.type o.op k = some r)
    {K : Act → World → Prop} {Q : Exit → Act → World → Prop} (hK : ∀ v v' ρ' H' w', k v H' = some r → Rel ρ' H' w' → Ext ρ H w ρ' H' w' → VR ρ' v v' → K (a.put o.dst v') w') : o.wp P a w K Q := by
  obtain ⟨dst, op, ty, pos, after, guard⟩ := o
  simp only [] at h
  cases op <;> simp only [ef] at h <;> try (cases h; done)
  case store st x y =>
    replace h := opd_inv ht h; obtain ⟨u, hu, h⟩ := h
    replace h := kPtr_inv h; obtain ⟨q, rfl, h⟩ := h
    replace h := onSome_inv h; obtain ⟨q, rfl, h⟩ := h
    replace h := opd_inv ht h; obtain ⟨v, hv, h⟩ := h
    replace h := onSome_inv h; obtain ⟨it, hit, h⟩ := h
    replace h := cellsOk_inv hv h; obtain ⟨hone, h⟩ := h
    obtain ⟨p, hp, hs, e⟩ := hu.ptr_inv
    obtain ⟨H', w', h1, h2, h3, h4⟩ := st_sound (P := P) hR hit hp hv hone h
    refine skip_wp (w' := w') ?_ (hK _ _ ρ H' w' h1 h3 h4 (VR.tuple_mk VL.nil))
    simp only [execOp, e]
    exact unit_run (by simp only [Instr.storeAt, Instr.sureAddr, Sem.run_bind, Sem.run_pure, Result.andThen_ok]; exact h2)
  case convert s d x =>
    replace h := opd_inv ht h; obtain ⟨v, hv, h⟩ := h
    split at h
    · rename_i e hs hd
      split at h
      · rename_i he
        replace h := kStr_inv h; obtain ⟨b, rfl, h⟩ := h
        replace h := ite_inv h; obtain ⟨hsz, h⟩ := h
        obtain ⟨v', w', p, h1, h2, h3, h4⟩ := bytes_sound (P := P) hR e b hsz
        refine val_wp (v' := v') (w' := w') (val_run ?_) (hK _ _ _ _ w' h h2 h3 h4)
        rw [hv.string_inv]
        simp only [convert, Sem.run_bind, run_underlying hs, run_underlying hd, run_underlying he, Result.andThen_ok]
        exact h1
      · cases h
    · cases h
  case mapUpdate mt m key x =>
    replace h := opd_inv ht h; obtain ⟨mv, hm, h⟩ := h
    replace h := kMp_inv h; obtain ⟨q, rfl, h⟩ := h
    replace h := onSome_inv h; obtain ⟨q, rfl, h⟩ := h
    replace h := opd_inv ht h; obtain ⟨kv, hk', h⟩ := h
    replace h := opd_inv ht h; obtain ⟨xv, hx, h⟩ := h
    split at h
    · rename_i kt et hu
      obtain ⟨d, hd, hkey, h2⟩ := kKey_inv h
      replace h := h2; clear h2
      unfold mupd at h
      replace h := ldmB_inv h; obtain ⟨es, bs, clk, hH, h⟩ := h
      split at h
      · rename_i hok
        obtain ⟨p, hp, e⟩ := hm.map_inv
        obtain ⟨w', g1, g2, g3⟩ := mapUpdate_sound (P := P) hR hu hd hkey hx hp hH hok
        refine skip_wp (w' := w') ?_ (hK _ _ ρ _ w' h g2 g3 (VR.tuple_mk VL.nil))
        simp only [execOp, e, hkey.eq_of hk']
        exact unit_run g1
      · cases h
    · cases h
  case insert mt m key x =>
    replace h := opd_inv ht h; obtain ⟨mv, hm, h⟩ := h
    replace h := kMp_inv h; obtain ⟨q, rfl, h⟩ := h
    replace h := onSome_inv h; obtain ⟨q, rfl, h⟩ := h
    replace h := opd_inv ht h; obtain ⟨kv, hk', h⟩ := h
    replace h := opd_inv ht h; obtain ⟨xv, hx, h⟩ := h
    split at h
    · rename_i kt et hu
      obtain ⟨d, hd, hkey, h2⟩ := kKey_inv h
      replace h := h2; clear h2
      unfold mupd at h
      replace h := ldmB_inv h; obtain ⟨es, bs, clk, hH, h⟩ := h
      split at h
      · rename_i hok
        obtain ⟨p, hp, e⟩ := hm.map_inv
        obtain ⟨w', g1, g2, g3⟩ := mapUpdate_sound (P := P) hR hu hd hkey hx hp hH hok
        refine skip_wp (w' := w') ?_ (hK _ _ ρ _ w' h g2 g3 (VR.tuple_mk VL.nil))
        simp only [execOp, e, hkey.eq_of hk']
        exact unit_run g1
      · cases h
    · cases h
  case mapEntry mt m key =>
    replace h := opd_inv ht h; obtain ⟨mv, hm, h⟩ := h
    replace h := kMp_inv h; obtain ⟨q, rfl, h⟩ := h
    replace h := onSome_inv h; obtain ⟨q, rfl, h⟩ := h
    replace h := opd_inv ht h; obtain ⟨kv, hk', h⟩ := h
    split at h
    · rename_i kt et hu
      obtain ⟨d, hd, hkey, h2⟩ := kKey_inv h
      replace h := h2; clear h2
      obtain ⟨p, hp, e⟩ := hm.map_inv
      obtain ⟨v, v', H', w', g1, g2, g3, g4, g5⟩ := mapEntry_sound (P := P) hR hu hd hkey hp h
      refine val_wp (v' := v') (w' := w') ?_ (hK _ _ ρ _ w' g1 g4 g5 g2)
      simp only [execOp, e, hkey.eq_of hk']
      exact val_run g3
    · cases h
  case entryStore mt m s x =>
    replace h := opd_inv ht h; obtain ⟨mv, hm, h⟩ := h
    replace h := kMp_inv h; obtain ⟨q, rfl, h⟩ := h
    replace h := onSome_inv h; obtain ⟨q, rfl, h⟩ := h
    replace h := opd_inv ht h; obtain ⟨sv, hs', h⟩ := h
    replace h := kAnyInt_inv h; obtain ⟨kd, n, rfl, h⟩ := h
    replace h := opd_inv ht h; obtain ⟨xv, hx, h⟩ := h
    obtain ⟨p, hp, e⟩ := hm.map_inv
    obtain ⟨H', w', g1, g2, g3, g4⟩ := entryStore_sound (P := P) (mt := mt) (kd := kd) hR hx hp h
    refine skip_wp (w' := w') ?_ (hK _ _ ρ _ w' g1 g3 g4 (VR.tuple_mk VL.nil))
    simp only [execOp, e, hs'.int_inv]
    exact unit_run g2
  case entry it =>
    replace h := opd_inv ht h; obtain ⟨v, hv, h⟩ := h
    replace h := kPtr_inv h; obtain ⟨q, rfl, h⟩ := h
    replace h := onSome_inv h; obtain ⟨q, rfl, h⟩ := h
    obtain ⟨v, u', g1, g2, g3⟩ := entry_sound (P := P) hR hv h
    exact val_wp (v' := u') (w' := w) (val_run g3) (hK _ _ ρ _ w g1 hR (Ext.refl _ _ _) g2)
  case range xt x =>
    replace h := opd_inv ht h; obtain ⟨v, hv, h⟩ := h
    split at h
    · rename_i kt et hu
      replace h := kMp_inv h; obtain ⟨q, rfl, h⟩ := h
      have go : ∀ (it : Obj) (ob : AObj), (∀ ρ', Le ρ ρ' → OR ρ' (w.alloc it) ⟨w.heap.size, 0, 0, 0⟩ ob) → k (.pointer (some ⟨H.length, 0, none⟩)) (H ++ [ob]) = some r → (Instr.range xt (a.eval x)).run P w = .ok (.pointer (some ⟨w.heap.size, 0, none⟩)) (w.alloc it) →
          (Oper.mk dst (.range xt x) ty pos after guard).wp P a w K Q := fun it ob hor hk hrun => by
        have hkeep : ∀ j, j < w.heap.size → (w.alloc it).heap[j]? = w.heap[j]? := fun j hj => Below.heap_alloc _ _ _ hj
        refine val_wp (v' := .pointer (some ⟨w.heap.size, 0, none⟩)) (w' := w.alloc it) (val_run hrun) (hK _ _ _ _ _ hk (hR.new_gen (p := ⟨w.heap.size, 0, 0, 0⟩) rfl hkeep hor) (Ext.new_gen hR rfl hkeep (by simp) rfl rfl rfl) ?_)
        exact VR.ptr (p := ⟨w.heap.size, 0, 0, 0⟩) H.length 0 (Ren.ins_self _ _ _)
      cases q with
      | none =>
        simp only [] at h
        refine go (.mapIter none 0 #[] 0) (.iter none 0 [] 0) (fun ρ' _ => ⟨rfl, none, heap_new w _, .mapN⟩) h ?_
        rw [hv.mapN_inv]
        simp only [Instr.range, Sem.run_bind, run_underlying hu, Result.andThen_ok, run_newObj, Sem.run_pure]; rfl
      | some b =>
        simp only [] at h
        replace h := ldmB_inv h; obtain ⟨es, bs, clk, hH, h⟩ := h
        obtain ⟨p, hp, e⟩ := hv.map_inv
        obtain ⟨l, hl, _⟩ := hR.map hp hH
        refine go (.mapIter (some p.blk) clk #[] clk) (.iter (some b) clk [] clk) (fun ρ' hle => ⟨rfl, some p.blk, heap_new w _, .map b p (hle _ _ hp)⟩) h ?_
        rw [e]
        simp only [Instr.range, Sem.run_bind, run_underlying hu, Result.andThen_ok, run_getMap hl, run_newObj, Sem.run_pure]; rfl
    · cases h
  case call c =>
    obtain ⟨callee, args, ats⟩ := c
    have hargs : args.map a.eval = (args.toList.map a.eval).toArray := by apply Array.ext'; simp
    cases callee with
    | invoke rc m => simp only [efCall] at h; cases h
    | builtin b =>
      simp only [efCall] at h
      replace h := opds_inv ht h; obtain ⟨vs, hvs, h⟩ := h
      cases b <;> simp only [] at h <;> try (cases h; done)
      case copy =>
        split at h
        · rename_i dt dv sv hdt
          replace h := onSome_inv h; obtain ⟨e, he, h⟩ := h
          replace h := onSome_inv h; obtain ⟨ie, hie, h⟩ := h
          unfold elemOf at he
          split at he
          · rename_i e2 hu
            obtain rfl := Option.some.inj he
            obtain ⟨d', m, e1, hd, hm⟩ := hvs.cons_inv
            obtain ⟨s', m', rfl, hs, hm'⟩ := hm.cons_inv
            obtain rfl := hm'.nil_inv
            obtain ⟨v, H', w', g1, g2, g3, g4, g5⟩ := copy_sound (ty := ty) hR hdt hu hie hd hs h
            refine val_wp (v' := v) (w' := w') ?_ (hK v v ρ H' w' g1 g3 g4 g5)
            simp only [execOp, resolve, Sem.run_bind, Sem.run_pure, Result.andThen_ok, invoke, builtin]
            rw [hargs, e1, g2]
            rfl
          · cases he
        · cases h
      case clear =>
        split at h
        · rename_i dt dv hdt
          replace h := onSome_inv h; obtain ⟨e, he, h⟩ := h
          replace h := onSome_inv h; obtain ⟨z, hz, h⟩ := h
          split at h
          · cases h
          · rename_i hc
            simp only [Bool.and_eq_true] at hc
            obtain ⟨⟨hp1, ho⟩, hzs⟩ := hc
            unfold elemOf at he
            split at he
            · rename_i e2 hu
              obtain rfl := Option.some.inj he
              obtain ⟨d', m, e1, hd, hm⟩ := hvs.cons_inv
              obtain rfl := hm.nil_inv
              obtain ⟨v, H', w', g1, g2, g3, g4, g5⟩ := clear_sound (ty := ty) hR hdt hu hz hp1 (fun v hv => List.all_eq_true.1 ho v hv) (Nat.eq_of_beq_eq_true hzs) hd h
              refine val_wp (v' := v) (w' := w') ?_ (hK v v ρ H' w' g1 g3 g4 g5)
              simp only [execOp, resolve, Sem.run_bind, Sem.run_pure, Result.andThen_ok, invoke, builtin]
              rw [hargs, e1, g2]
              rfl
            · cases he
        · cases h
      case delete =>
        split at h
        · rename_i mt mv kv hmt
          split at h
          · rename_i kt et hu
            obtain ⟨d, hd, hkey, h2⟩ := kKey_inv h
            replace h := h2; clear h2
            replace h := kMp_inv h; obtain ⟨q, rfl, h⟩ := h
            obtain ⟨m', m, e1, hm, hr⟩ := hvs.cons_inv
            obtain ⟨k', m'', rfl, hk', hr'⟩ := hr.cons_inv
            obtain rfl := hr'.nil_inv
            rw [hkey.eq_of hk'] at e1
            have hexec : ∀ z w', ((Builtin.delete_ ats ty #[m', kv]).run P w = .ok z w') → (execOp a.eval { dst, op := .call { callee := .builtin .delete, args, argTypes := ats }, type := ty, pos, after, guard }).run P w = .ok (.value z) w' := fun z w' hz => by
              simp only [execOp, resolve, Sem.run_bind, Sem.run_pure, Result.andThen_ok, invoke, builtin]
              rw [hargs, e1, hz]
              rfl
            unfold dele at h
            cases q with
            | none =>
              simp only [] at h
              rw [hm.mapN_inv] at hexec
              refine val_wp (hexec (.tuple #[]) w ?_) (hK _ _ ρ H w h hR (Ext.refl _ _ _) (VR.tuple_mk VL.nil))
              simp only [Builtin.delete_, hmt, List.getElem?_toArray, List.getElem?_cons_zero, List.getElem?_cons_succ, Sem.run_bind, run_underlying hu, Result.andThen_ok, checkKey_of hd hkey, Sem.run_pure]
            | some b =>
              simp only [] at h
              replace h := ldmB_inv h; obtain ⟨es, bs, clk, hH, h⟩ := h
              split at h
              · rename_i hok
                obtain ⟨p, hp, rfl⟩ := hm.map_inv
                obtain ⟨w', g1, g2, g3⟩ := delete_sound (P := P) (ty := ty) hR hmt hu hd hkey hp hH hok
                exact val_wp (hexec _ _ g1) (hK _ _ ρ _ w' h g2 g3 (VR.tuple_mk VL.nil))
              · cases h
          · cases h
        · cases h
      case unsafeString =>
        split at h
        · rename_i pt pv nv hpt
          replace h := kPtr_inv h; obtain ⟨q, rfl, h⟩ := h
          replace h := kInt_inv h; obtain ⟨n, rfl, h⟩ := h
          obtain ⟨p', m, e1, hp, hm⟩ := hvs.cons_inv
          obtain ⟨n', m', rfl, hn, hm'⟩ := hm.cons_inv
          obtain rfl := hm'.nil_inv
          rw [hn.int_inv] at e1
          have hexec : ∀ z w', ((Builtin.unsafeString_ ats ty #[p', .int .i64 n]).run P w = .ok z w') → (execOp a.eval { dst, op := .call { callee := .builtin .unsafeString, args, argTypes := ats }, type := ty, pos, after, guard }).run P w = .ok (.value z) w' := fun z w' hz => by
            simp only [execOp, resolve, Sem.run_bind, Sem.run_pure, Result.andThen_ok, invoke, builtin]
            rw [hargs, e1, hz]
            rfl
          cases q with
          | none =>
            simp only [] at h
            replace h := ite_inv h; obtain ⟨rfl, h⟩ := h
            rw [hp.ptrN_inv] at hexec
            exact val_wp (hexec _ _ (unsafeString_nil hpt)) (hK _ _ ρ H w h hR (Ext.refl _ _ _) (.string _))
          | some q =>
            simp only [] at h
            split at h
            · rename_i u hu
              unfold uStr at h
              split at h
              · rename_i cs esz hH
                replace h := ite_inv h; obtain ⟨⟨c1, c2, c3, c4, c5, c6⟩, h⟩ := h
                replace h := onSome_inv h; obtain ⟨bs, hbs, h⟩ := h
                obtain ⟨w', g1, g2, g3⟩ := unsafeString_some (P := P) (ty := ty) hR hp hpt hH hu c1 c2 c3 c4 c5 c6 hbs
                exact val_wp (hexec _ _ g1) (hK _ _ ρ _ w' h g2 g3 (.string _))
              · cases h
            · cases h
        · cases h
      split at h
      · rename_i st xt s x hst hxt
        replace h := onSome_inv h; obtain ⟨e, he, h⟩ := h
        replace h := onSome_inv h; obtain ⟨z, hz, h⟩ := h
        unfold elemOf at he
        split at he
        · rename_i e2 hu
          obtain rfl := Option.some.inj he
          split at h
          · cases h
          · rename_i hp
            rw [Bool.and_eq_true] at hp
            have hzs := Nat.eq_of_beq_eq_true hp.2
            obtain ⟨s', m, e1, hs, hm⟩ := hvs.cons_inv
            obtain ⟨x', m', rfl, hx, hm'⟩ := hm.cons_inv
            obtain rfl := hm'.nil_inv
            cases hux : P.underlying xt with
            | none => simp only [hux] at h; cases h
            | some d =>
              have hnot : ∀ kk, d ≠ .int kk := fun kk e => by subst e; simp only [hux] at h; cases h
              have h' : (firstC H (P.cellsOf e2) x fun n nw => app P e2 H s n nw k) = some r := by
                cases d <;> simp only [hux] at h <;> first | exact h | cases h
              obtain ⟨v, v', H', ρ', w', g1, g2, g3, g4, g5⟩ := app_sound (ty := ty) hR hst hxt hu hux hnot hz hzs hs hx h'
              refine val_wp (v' := v') (w' := w') ?_ (hK v v' ρ' H' w' g1 g3 g4 g5)
              simp only [execOp, resolve, Sem.run_bind, Sem.run_pure, Result.andThen_ok, invoke, builtin]
              rw [hargs, e1, g2]
              rfl
        · cases he
      · cases h
    | value x =>
      have go : ∀ (f : FuncId) (first cap : Array Value) (first' cap' : Array Value), a.eval x = .func (.func f) first' cap' → VL ρ first.toList first'.toList → VL ρ cap.toList cap'.toList →
          (onSome (Γ f) fun F => opds t args.toList fun vs => onSome (F (first.toList ++ vs ++ cap.toList) H) fun r => kTy (kdOf P ty) r.1 fun v => k v r.2) = some r →
          (Oper.mk dst (.call { callee := .value x, args, argTypes := ats }) ty pos after guard).wp P a w K Q := by
        intro f first cap first' cap' hx hf hc h
        replace h := onSome_inv h; obtain ⟨F, hF, h⟩ := h
        replace h := opds_inv ht h; obtain ⟨vs, hvs, h⟩ := h
        replace h := onSome_inv h; obtain ⟨rr, hrr, h⟩ := h
        replace h := kTy_inv h
        refine call_wp hΓ hR hF ((hf.append hvs).append hc) hrr ?_ (fun v' ρ' w' g1 g2 g3 => hK _ v' ρ' _ w' h g1 g2 g3)
        simp only [execOp, resolve, Sem.run_bind, hx, Deferred.ofValue, Sem.run_pure, Result.andThen_ok, invoke]
        congr 2
        apply Array.ext'
        simp
      cases x with
      | func f =>
        simp only [efCall] at h
        refine go f #[] #[] #[] #[] rfl VL.nil VL.nil ?_
        simpa using h
      | _ =>
        simp only [efCall] at h
        replace h := opd_inv ht h; obtain ⟨fv, hfv, h⟩ := h
        split at h
        · rename_i f first cap
          obtain ⟨first', cap', e, hf, hc⟩ := hfv.func_inv
          exact go f first cap first' cap' e hf hc h
        · cases h
end
end Go.Proofs.YtlpeldimmaajkaaGreat.Fw
