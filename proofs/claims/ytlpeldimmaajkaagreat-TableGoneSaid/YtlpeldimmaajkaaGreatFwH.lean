/- FRAMEWORK 17: regions in the order of the text do in the world what they do on the abstract heap. -/
import Derived.Test.YtlpeldimmaajkaaGreatFwG
set_option linter.unusedVariables false
set_option linter.unusedSimpArgs false
namespace Go.Proofs.YtlpeldimmaajkaaGreat.Fw
open Go Go.RowKit

section
variable {P : Program} {β : Type} {r : β}

theorem put_size (a : Act) (d : Option Nat) (v : Value) : (a.put d v).tmps.size = a.tmps.size := by cases d <;> simp [Act.put]
theorem put_defers (a : Act) (d : Option Nat) (v : Value) : (a.put d v).defers = a.defers := by cases d <;> rfl

/-- The temporaries with a value put where it belongs. -/
def putT (t : Tm) (d : Option Nat) (v : Value) : Tm := match d with | none => t | some d => t.upd d v
theorem put_inv {n : Nat} {t : Tm} {d : Option Nat} {v : Value} {k : Tm → Option β} (h : put n t d v k = some r) : (∀ j, d = some j → j < n) ∧ k (putT t d v) = some r := by
  cases d with
  | none => exact ⟨(fun _ e => by cases e), h⟩
  | some d =>
    simp only [put] at h
    split at h
    · rename_i hb
      exact ⟨(fun j e => by obtain rfl := Option.some.inj e; exact Nat.le_of_ble_eq_true hb), h⟩
    · cases h
theorem TR.put {ρ : Ren} {t : Tm} {a : Act} {n : Nat} (h : TR ρ t a.tmps) (hn : a.tmps.size = n) {d : Option Nat} (hd : ∀ j, d = some j → j < n) {v v' : Value} (hv : VR ρ v v') : TR ρ (putT t d v) (a.put d v').tmps := by
  cases d with
  | none => exact h
  | some d => exact h.upd (by rw [hn]; exact hd d rfl) hv

/-- What a guard comes to. -/
def guardT (ops : List Oper) (n : Nat) (o : Oper) (t : Tm) : Option Bool :=
  match o.guard with
  | none => some true
  | some (j, want) => match ops[j]? with
    | some g => (match g.dst with | some d => (match t d with | some (.bool b) => if d < n then some (b == want) else none | some (.tuple _) => if d < n then some false else none | _ => none) | none => none)
    | none => none

theorem kBoolU_inv {v : Value} {u : Option β} {c : Bool → Option β} (h : kBoolU v u c = some r) : (∃ b, v = .bool b ∧ c b = some r) ∨ ∃ x, v = .tuple x ∧ u = some r := by
  unfold kBoolU at h
  split at h
  · exact .inl ⟨_, rfl, h⟩
  · exact .inr ⟨_, rfl, h⟩
  · cases h

theorem guard_inv {ops : List Oper} {n : Nat} {o : Oper} {t : Tm} {yes no : Tm → Option β} (h : guard ops n o t yes no = some r) :
    (guardT ops n o t = some true ∧ yes t = some r) ∨ (guardT ops n o t = some false ∧ no t = some r) := by
  unfold guard at h
  unfold guardT
  split at h
  · rename_i hg; exact .inl ⟨by simp [hg], h⟩
  · rename_i j want hg
    split at h
    · rename_i g hj
      split at h
      · rename_i d hd
        split at h
        · rename_i hb
          have hlt : d < n := Nat.le_of_ble_eq_true hb
          replace h := onSome_inv h; obtain ⟨v, hv, h⟩ := h
          rcases kBoolU_inv h with ⟨b, rfl, h⟩ | ⟨x, rfl, h⟩
          · have hu := upd_eq hv
            cases b <;> cases want <;> simp only [] at h <;> rw [hu] at h
            · exact .inl ⟨by simp [hg, hj, hd, hv, hlt], h⟩
            · exact .inr ⟨by simp [hg, hj, hd, hv, hlt], h⟩
            · exact .inr ⟨by simp [hg, hj, hd, hv, hlt], h⟩
            · exact .inl ⟨by simp [hg, hj, hd, hv, hlt], h⟩
          · exact .inr ⟨by simp [hg, hj, hd, hv, hlt], h⟩
        · cases h
      · cases h
    · cases h

theorem guard_wanted {ρ : Ren} {ops : Array Oper} {n : Nat} {o : Oper} {t : Tm} {tmps : Array Value} (ht : TR ρ t tmps) (hn : tmps.size = n) {b : Bool} (h : guardT ops.toList n o t = some b) : Region.wanted o (yielded ops tmps) = b := by
  unfold guardT at h
  unfold Region.wanted
  split at h
  · rename_i hg
    obtain rfl := Option.some.inj h
    simp [hg]
  · rename_i j want hg
    rw [hg]
    split at h
    · rename_i g hj
      split at h
      · rename_i d hd
        split at h
        · rename_i bb hv
          split at h
          · rename_i hlt
            obtain rfl := Option.some.inj h
            have e := (ht.1 d _ hv).bool_inv
            have hd' : d < tmps.size := by rw [hn]; exact hlt
            have hj' : ops[j]? = some g := by simpa using hj
            have e2 : tmps[d] = .bool bb := by simpa [Array.getD, hd'] using e
            have : yielded ops tmps j = some bb := by simp [yielded, hj', hd, hd', e2]
            simp only [this]
            cases bb <;> cases want <;> rfl
          · cases h
        · rename_i x hv
          split at h
          · rename_i hlt
            obtain rfl := Option.some.inj h
            obtain ⟨x', e, _⟩ := (ht.1 d _ hv).tuple_inv
            have hd' : d < tmps.size := by rw [hn]; exact hlt
            have hj' : ops[j]? = some g := by simpa using hj
            have e2 : tmps[d] = .tuple x' := by simpa [Array.getD, hd'] using e
            have : yielded ops tmps j = none := by simp [yielded, hj', hd, hd', e2]
            simp only [this]
            cases want <;> rfl
          · cases h
        · cases h
      · cases h
    · cases h

/-- What is so behind an operation. -/
structure Behind (ρ : Ren) (H : Heap) (w : World) (a : Act) (n : Nat) (k : Tm → Heap → Option β) (r : β) (a' : Act) (w' : World) : Prop where
  ex : ∃ ρ' t' H', k t' H' = some r ∧ Rel ρ' H' w' ∧ Ext ρ H w ρ' H' w' ∧ TR ρ' t' a'.tmps
  size : a'.tmps.size = n
  defers : a'.defers = a.defers

theorem Ext.drew {ρ : Ren} {H : Heap} {w : World} (d : Nat) : Ext ρ H w ρ H { w with drawn := d } :=
  ⟨Le.refl ρ, Nat.le_refl _, fun b p h h' => (contra h h').elim, fun _ _ _ => rfl, fun b p h h' => (contra h h').elim, fun b p o' _ h ho => ⟨o', h, ho⟩, Nat.le_refl _, rfl, rfl, rfl⟩
theorem Rel.drewd {ρ : Ren} {H : Heap} {w : World} (h : Rel ρ H w) (d : Nat) : Rel ρ H { w with drawn := d } :=
  ⟨h.dom, fun b p o h1 h2 => (h.obj b p o h1 h2).of_block rfl, h.sep, h.glob⟩

/-- Lists alike, element by element. -/
inductive F2 {α γ : Type} (R : α → γ → Prop) : List α → List γ → Prop
  | nil : F2 R [] []
  | cons {a b l m} (h : R a b) (t : F2 R l m) : F2 R (a :: l) (b :: m)
theorem F2.len {α γ : Type} {R : α → γ → Prop} {l : List α} {m : List γ} (h : F2 R l m) : l.length = m.length := by
  induction h with
  | nil => rfl
  | cons _ _ ih => simp [ih]
theorem F2.filter {α γ : Type} {R : α → γ → Prop} {p : α → Bool} {q : γ → Bool} (hpq : ∀ a b, R a b → p a = q b) {l : List α} {m : List γ} (h : F2 R l m) : F2 R (l.filter p) (m.filter q) := by
  induction h with
  | nil => exact .nil
  | @cons a b l m ha _ ih =>
    simp only [List.filter_cons, hpq a b ha]
    split
    · exact .cons ha ih
    · exact ih
theorem F2.append {α γ : Type} {R : α → γ → Prop} {l l2 : List α} {m m2 : List γ} (h : F2 R l m) (h2 : F2 R l2 m2) : F2 R (l ++ l2) (m ++ m2) := by
  induction h with
  | nil => exact h2
  | cons ha _ ih => exact .cons ha ih
theorem F2.get {α γ : Type} {R : α → γ → Prop} {l : List α} {m : List γ} (h : F2 R l m) : ∀ {i : Nat} {y : γ}, m[i]? = some y → ∃ x, l[i]? = some x ∧ R x y := by
  induction h with
  | nil => intro i y hy; simp at hy
  | cons ha _ ih =>
    intro i y hy
    cases i with
    | zero => simp at hy; subst hy; exact ⟨_, rfl, ha⟩
    | succ i => exact ih (by simpa using hy)
/-- An entry, with its birth, and the world's. -/
def NR (ρ : Ren) (x : (Value × Value) × Nat) (e : MapEntry) : Prop := VR ρ x.1.1 e.key ∧ VR ρ x.1.2 e.val ∧ x.2 = e.born
def NO (ρ : Ren) : Option ((Value × Value) × Nat) → Option MapEntry → Prop
  | none, none => True
  | some x, some e => NR ρ x e
  | _, _ => False
theorem ER.pairs {ρ : Ren} : ∀ {es : List (Value × Value)} {l : List MapEntry}, ER ρ es l → F2 (NR ρ) (es.zip (l.map (·.born))) l
  | [], l, h => by rw [h.nil_inv]; exact .nil
  | (k, v) :: es, l, h => by
    obtain ⟨e, m, rfl, h1, h2, h3⟩ := h.cons_inv
    exact .cons ⟨h1, h2, rfl⟩ h3.pairs
theorem F2.somes {ρ : Ren} {l : List ((Value × Value) × Nat)} {m : List MapEntry} (h : F2 (NR ρ) l m) : F2 (NO ρ) (l.map some) (m.map some) := by
  induction h with
  | nil => exact .nil
  | cons ha _ ih => exact .cons ha ih
theorem allEq_inv {l : List (Option β)} (h : allEq l = some r) : l ≠ [] ∧ ∀ x ∈ l, x = some r := by
  unfold allEq at h
  split at h
  · cases h
  · exact ⟨by simp, by simpa using h⟩
  · rename_i x y l
    split at h
    · rename_i hc
      refine ⟨by simp, fun z hz => ?_⟩
      rcases List.mem_cons.1 hz with rfl | hz
      · exact h
      · rw [hc z hz, h]
    · cases h
theorem setIter_run {w : World} {b since last : Nat} {m : Option Nat} {seen : Array Nat} (h : w.heap[b]? = some (.mapIter m since seen last)) (o : Obj) : (setObj b o).run P w = .ok () { w with heap := w.heap.setIfInBounds b o } := by
  simp [setObj, Sem.run, h]
theorem run_mapNext (w : World) (n : Nat) (hn : n ≠ 0) : ∃ i d, i < n ∧ (choose (.mapNext n)).run P w = .ok i { w with drawn := d } := by
  rw [run_choose_drew]
  by_cases hf : (Question.mapNext n).forced = true
  · rw [if_pos hf]; exact ⟨0, w.drawn, by omega, rfl⟩
  · rw [if_neg hf]
    refine ⟨_, w.drawn + 1, ?_, rfl⟩
    show (Question.mapNext n).cut _ < n
    simp only [Question.cut]
    exact Nat.mod_lt _ (by omega)
/-- AN ITERATION OVER A MAP GOES ON, in the world as on the abstract heap. -/
theorem nx_sound {t : Tm} {H : Heap} {it : Operand} {k : Value → Heap → Option β} (h : nx t H it k = some r) {ρ : Ren} {w : World} {a : Act} (hR : Rel ρ H w) (ht : TR ρ t a.tmps) {o : Oper} (ho : nextOf o.op = some it)
    {K : Act → World → Prop} {Q : Exit → Act → World → Prop} (hK : ∀ v v' H' w', k v H' = some r → Rel ρ H' w' → Ext ρ H w ρ H' w' → VR ρ v v' → K (a.put o.dst v') w') : o.wp P a w K Q := by
  obtain ⟨dst, op, ty, pos, after, guard⟩ := o
  cases op <;> simp only [nextOf] at ho <;> try (cases ho; done)
  rename_i it' s
  cases s <;> simp only [] at ho <;> try (cases ho; done)
  obtain rfl := Option.some.inj ho
  unfold nx at h
  replace h := opd_inv ht h; obtain ⟨v, hv, h⟩ := h
  replace h := kPtr_inv h; obtain ⟨q, rfl, h⟩ := h
  replace h := onSome_inv h; obtain ⟨q, rfl, h⟩ := h
  obtain ⟨p, hp, hs, e⟩ := hv.ptr_inv
  have over : ∀ (w' : World), w' = { w with drawn := w'.drawn } → k (.tuple #[.bool false]) (H.set q.block .dead) = some r → (Instr.next (a.eval it') false ty).run P w = .ok (.tuple #[.bool false]) w' →
      (Oper.mk dst (.next it' false) ty pos after guard).wp P a w K Q := fun w' hw' hk hrun => by
    refine val_wp (val_run hrun) (hK _ _ _ w' hk ?_ ?_ (VR.tuple_mk (VL.cons (.bool false) VL.nil)))
    · rw [hw']; exact (hR.kill q.block).drewd _
    · rw [hw']; exact (Ext.kill q.block).trans (Ext.drew _) (hR.kill q.block).dom
  split at h
  · rename_i hq0 hH
    obtain ⟨hb, r', hw, hr⟩ := hR.obj q.block p _ hp hH
    have hoff : p.base + q.off = 0 := by rw [hb, Nat.eq_of_beq_eq_true hq0]
    rw [hoff] at e
    have hr0 : r' = none := by have := hr.mapN_inv; injection this
    subst hr0
    refine over w rfl h ?_
    rw [e]
    simp only [Instr.next, Sem.run_bind, run_getIter hw, Result.andThen_ok, Sem.run_pure]
  · rename_i rb since seen last hq0 hH
    obtain ⟨hb, r', hw, hr⟩ := hR.obj q.block p _ hp hH
    have hoff : p.base + q.off = 0 := by rw [hb, Nat.eq_of_beq_eq_true hq0]
    rw [hoff] at e
    replace h := ldmB_inv h; obtain ⟨es, bs, clk, hHm, h⟩ := h
    obtain ⟨pm, hpm, hr0⟩ := hr.map_inv
    have hr0 : r' = some pm.blk := by injection hr0
    subst hr0
    obtain ⟨l, hl, he, hst, hbn⟩ := hR.map hpm hHm
    replace h := onSome_inv h; obtain ⟨cs, hcs, h⟩ := h
    obtain ⟨hne, hall⟩ := allEq_inv h
    unfold nextC at hcs
    split at hcs
    · cases hcs
    · rename_i hun
      have hun' : (!seen.toArray.isEmpty && !l.isEmpty && l.all (fun x => decide (x.born ≥ last))) = false := by
        have h1 : seen.toArray.isEmpty = seen.isEmpty := by cases seen <;> rfl
        have h2 : l.isEmpty = es.isEmpty := by
          have := he.1
          cases es with
          | nil => have : l.toList = [] := List.eq_nil_of_length_eq_zero this.symm; have : l = #[] := by simpa using this
                   rw [this]; rfl
          | cons x es =>
            have hl0 : l.size ≠ 0 := by simp at this; omega
            simp [Array.isEmpty, hl0]
        have h3 : l.all (fun x => decide (x.born ≥ last)) = bs.all fun b => Nat.ble last b := by
          rw [← hbn, ← Array.all_toList, List.all_map]
          congr 1
          funext x
          simp only [Function.comp]
          cases hb : Nat.ble last x.born with
          | true => simpa using Nat.le_of_ble_eq_true hb
          | false => simp only [decide_eq_false_iff_not]; intro hc; rw [Nat.ble_eq_true_of_le hc] at hb; cases hb
        rw [h1, h2, h3]; exact hun
      obtain rfl := Option.some.inj hcs
      have hpairs := he.pairs
      rw [hbn] at hpairs
      have hleft : F2 (NR ρ) ((es.zip bs).filter fun e => !seen.contains e.2) (l.filter fun e => !seen.toArray.contains e.born).toList := by
        rw [Array.toList_filter]
        exact hpairs.filter fun x y hxy => by rw [hxy.2.2]; simp
      have hold : F2 (NR ρ) (((es.zip bs).filter fun e => !seen.contains e.2).filter (fun e => Nat.blt e.2 since)) ((l.filter fun e => !seen.toArray.contains e.born).filter (fun e => decide (e.born < since))).toList := by
       rw [Array.toList_filter]
       exact hleft.filter (p := fun e => Nat.blt e.2 since) (q := fun e => decide (e.born < since)) fun x y hxy => by
        rw [hxy.2.2]
        cases hb : Nat.blt y.born since with
        | true => have : y.born + 1 ≤ since := Nat.le_of_ble_eq_true hb
                  simp; omega
        | false => simp only [Bool.false_eq, decide_eq_false_iff_not]; intro hc; have : Nat.blt y.born since = true := Nat.ble_eq_true_of_le hc
                   rw [this] at hb; cases hb
      have hnew : F2 (NR ρ) (((es.zip bs).filter fun e => !seen.contains e.2).filter (fun e => Nat.ble since e.2)) ((l.filter fun e => !seen.toArray.contains e.born).filter (fun e => decide (e.born ≥ since))).toList := by
       rw [Array.toList_filter]
       exact hleft.filter (p := fun e => Nat.ble since e.2) (q := fun e => decide (e.born ≥ since)) fun x y hxy => by
        rw [hxy.2.2]
        cases hb : Nat.ble since y.born with
        | true => simpa using Nat.le_of_ble_eq_true hb
        | false => simp only [Bool.false_eq, decide_eq_false_iff_not]; intro hc; rw [Nat.ble_eq_true_of_le hc] at hb; cases hb
      generalize hO : ((es.zip bs).filter fun e => !seen.contains e.2).filter (fun e => Nat.blt e.2 since) = O at hold hne hall
      generalize hN : ((es.zip bs).filter fun e => !seen.contains e.2).filter (fun e => Nat.ble since e.2) = N at hnew hne hall
      generalize hO' : (l.filter fun e => !seen.toArray.contains e.born).filter (fun e => decide (e.born < since)) = O' at hold
      generalize hN' : (l.filter fun e => !seen.toArray.contains e.born).filter (fun e => decide (e.born ≥ since)) = N' at hnew
      have hcand : F2 (NO ρ) (overC O ++ (O ++ N).map some) (((if O'.isEmpty = true then #[none] else #[]) ++ (O' ++ N').map some).toList) := by
        rw [Array.toList_append, Array.toList_map, Array.toList_append]
        refine F2.append ?_ (hold.append hnew).somes
        have hlen := hold.len
        cases O with
        | nil =>
          have : O' = #[] := by simpa using hlen.symm
          rw [this]; exact .cons trivial .nil
        | cons x O =>
          have : O'.isEmpty = false := by
            have h0 : O'.size ≠ 0 := by simp at hlen; omega
            simp [Array.isEmpty, h0]
          rw [this]; exact .nil
      generalize hC : ((if O'.isEmpty = true then #[none] else #[]) ++ (O' ++ N').map some) = C at hcand
      have hsz : C.size ≠ 0 := by
        have := hcand.len
        intro h0
        apply hne
        rw [List.map_eq_nil_iff]
        exact List.eq_nil_of_length_eq_zero (by rw [this]; simpa using h0)
      obtain ⟨i, d, hi, hch⟩ := run_mapNext (P := P) w C.size hsz
      have hCi : C[i]? = some C[i] := by simp [hi]
      obtain ⟨x, hx, hxy⟩ := hcand.get (i := i) (y := C[i]) (by simp [hi])
      have hkx := hall _ (List.mem_map.2 ⟨x, List.mem_of_getElem? hx, rfl⟩)
      have hpre : ∀ (z : Value) (w2 : World), ((match C[i]? with
            | some (some e) => do setObj p.blk (.mapIter (some pm.blk) since (seen.toArray.push e.born) clk); pure (.tuple #[.bool true, e.key, e.val])
            | some none => pure (.tuple #[.bool false])
            | none => stuck "Next: no such candidate" : Sem Value)).run P { w with drawn := d } = .ok z w2 → (Instr.next (a.eval it') false ty).run P w = .ok z w2 := fun z w2 hz => by
        rw [e]
        simp only [Instr.next, Sem.run_bind, run_getIter hw, Result.andThen_ok, run_getMap hl, hun', Bool.false_eq_true, if_false, hO', hN', hC, hch]
        exact hz
      cases hCC : C[i] with
      | none =>
        rw [hCC] at hxy
        cases x with
        | some x => exact hxy.elim
        | none =>
          refine over { w with drawn := d } rfl hkx (hpre _ _ ?_)
          rw [hCi, hCC]; simp only [Sem.run_pure]
      | some y =>
        rw [hCC] at hxy
        cases x with
        | none => exact hxy.elim
        | some x =>
          have hxy : NR ρ x y := hxy
          have hlt : p.blk < w.heap.size := (Array.getElem?_eq_some_iff.1 hw).1
          have hw2 : ({ w with drawn := d } : World).heap[p.blk]? = some (.mapIter (some pm.blk) since seen.toArray last) := hw
          have hor : OR ρ { w with drawn := d, heap := w.heap.setIfInBounds p.blk (.mapIter (some pm.blk) since (seen.toArray.push y.born) clk) } p (.iter (some rb) since (seen ++ [x.2]) clk) :=
            ⟨hb, some pm.blk, by rw [hxy.2.2]; simp [hlt], .map rb pm hpm⟩
          have hoth : ∀ j, j ≠ p.blk → ({ w with drawn := d, heap := w.heap.setIfInBounds p.blk (.mapIter (some pm.blk) since (seen.toArray.push y.born) clk) } : World).heap[j]? = w.heap[j]? := fun j hj => by simp [Ne.symm hj]
          refine val_wp (val_run (hpre _ _ ?_)) (hK _ _ _ { w with drawn := d, heap := w.heap.setIfInBounds p.blk (.mapIter (some pm.blk) since (seen.toArray.push y.born) clk) } hkx (hR.turn hp hH rfl rfl hoth hor) (Ext.turn hp hH rfl hoth (by simp) rfl rfl rfl) (VR.tuple_mk (VL.cons (.bool true) (VL.cons hxy.1 (VL.cons hxy.2.1 VL.nil)))))
          rw [hCi, hCC]
          simp only [Sem.run_bind, setIter_run hw2, Result.andThen_ok, Sem.run_pure]
  · cases h

theorem op1_sound {Γ : Fs} (hΓ : ∀ f F, Γ f = some F → Sound P f F) {n : Nat} {o : Oper} {t : Tm} {H : Heap} {k : Tm → Heap → Option β} (h : op1 P Γ n o t H k = some r) {ρ : Ren} {w : World} {a : Act} (hR : Rel ρ H w) (ht : TR ρ t a.tmps) (hn : a.tmps.size = n)
    {K : Act → World → Prop} {Q : Exit → Act → World → Prop} (hK : ∀ a' w', Behind ρ H w a n k r a' w' → K a' w') : o.wp P a w K Q := by
  unfold op1 at h
  split at h
  · rename_i it hit
    refine nx_sound h hR ht hit fun v v' H' w' h1 h2 h3 h4 => ?_
    obtain ⟨hd, h5⟩ := put_inv h1
    exact hK _ _ ⟨⟨ρ, _, H', h5, h2, h3, ht.put hn hd h4⟩, by rw [put_size, hn], put_defers _ _ _⟩
  split at h
  · obtain ⟨v, v', h1, h2, h3⟩ := fl_sound hR ht h
    obtain ⟨hd, h4⟩ := put_inv h1
    exact val_wp h3 (hK _ _ ⟨⟨ρ, _, H, h4, hR, Ext.refl _ _ _, ht.put hn hd h2⟩, by rw [put_size, hn], put_defers _ _ _⟩)
  · obtain ⟨ob, mk, h1, co, v', p, h2, h3, h4, h5⟩ := al_sound (w := w) ht h
    obtain ⟨hd, h6⟩ := put_inv h1
    have hk : ∀ j, j < w.heap.size → (w.alloc co).heap[j]? = w.heap[j]? := fun j hj => Below.heap_alloc _ _ _ hj
    have hle := Ren.ins_le (p := p) hR.fresh
    exact val_wp h2 (hK _ _ ⟨⟨ρ.ins H.length p, _, _, h6, hR.new_gen h3 hk h4, Ext.new_gen hR h3 hk (by simp) rfl rfl rfl, (ht.mono hle).put hn hd (h5 _ _ hle (Ren.ins_self _ _ _))⟩, by rw [put_size, hn], put_defers _ _ _⟩)
  · refine ef_sound hΓ hR ht h fun v v' ρ' H' w' h1 h2 h3 h4 => ?_
    obtain ⟨hd, h5⟩ := put_inv h1
    exact hK _ _ ⟨⟨ρ', _, H', h5, h2, h3, (ht.mono h3.mono).put hn hd h4⟩, by rw [put_size, hn], put_defers _ _ _⟩

theorem opsE_sound {Γ : Fs} (hΓ : ∀ f F, Γ f = some F → Sound P f F) {n : Nat} {ops : Array Oper} {Q : Exit → Act → World → Prop} : ∀ (l : List Oper) (t : Tm) (H : Heap) (k : Tm → Heap → Option β), opsE P Γ n ops.toList l t H k = some r →
    ∀ (ρ : Ren) (w : World) (a : Act), Rel ρ H w → TR ρ t a.tmps → a.tmps.size = n → (∀ a' w', Behind ρ H w a n k r a' w' → Q .normal a' w') → wpList P ops Q l a w
  | [], t, H, k, h, ρ, w, a, hR, ht, hn, hQ => hQ a w ⟨⟨ρ, t, H, h, hR, Ext.refl _ _ _, ht⟩, hn, rfl⟩
  | o :: l, t, H, k, h, ρ, w, a, hR, ht, hn, hQ => by
    simp only [opsE] at h
    unfold wpList
    rcases guard_inv h with ⟨hg, h⟩ | ⟨hg, h⟩
    · rw [if_pos (guard_wanted ht hn hg)]
      refine .inl (op1_sound hΓ h hR ht hn fun a' w' hB => ?_)
      obtain ⟨ρ', t', H', h1, h2, h3, h4⟩ := hB.ex
      refine opsE_sound hΓ l t' H' k h1 ρ' w' a' h2 h4 hB.size fun a2 w2 hB2 => hQ a2 w2 ?_
      obtain ⟨ρ2, t2, H2, g1, g2, g3, g4⟩ := hB2.ex
      exact ⟨⟨ρ2, t2, H2, g1, g2, h3.trans g3 h2.dom, g4⟩, hB2.size, hB2.defers.trans hB.defers⟩
    · rw [if_neg (by rw [guard_wanted ht hn hg]; simp)]
      obtain ⟨hd, h⟩ := put_inv h
      refine opsE_sound hΓ l _ H k h ρ w _ hR (ht.put hn hd (VR.tuple_mk VL.nil)) (by rw [put_size, hn]) fun a2 w2 hB2 => hQ a2 w2 ⟨hB2.ex, hB2.size, hB2.defers.trans (put_defers _ _ _)⟩
end
end Go.Proofs.YtlpeldimmaajkaaGreat.Fw
