/- FRAMEWORK 7: maps: what is found on the abstract heap is found in the world. -/
import Derived.Test.YtlpeldimmaajkaaGreatFw6
set_option linter.unusedVariables false
set_option linter.unusedSimpArgs false
namespace Go.Proofs.YtlpeldimmaajkaaGreat.Fw
open Go Go.RowKit

section
variable {P : Program} {ρ : Ren} {w : World} {β : Type} {r : β}

def ER (ρ : Ren) (es : List (Value × Value)) (l : List MapEntry) : Prop :=
  es.length = l.length ∧ ∀ (i : Nat) (k v : Value) (e : MapEntry), es[i]? = some (k, v) → l[i]? = some e → VR ρ k e.key ∧ VR ρ v e.val
theorem ER.cons_inv {k v : Value} {es : List (Value × Value)} {l : List MapEntry} (h : ER ρ ((k, v) :: es) l) : ∃ e m, l = e :: m ∧ VR ρ k e.key ∧ VR ρ v e.val ∧ ER ρ es m := by
  cases l with
  | nil => simp [ER] at h
  | cons e m =>
    obtain ⟨a, b⟩ := h.2 0 k v e rfl rfl
    exact ⟨e, m, rfl, a, b, by have := h.1; simpa using this, fun i k v e x y => h.2 (i + 1) k v e (by simpa using x) (by simpa using y)⟩
theorem ER.nil_inv {l : List MapEntry} (h : ER ρ [] l) : l = [] := by
  have := h.1
  cases l with
  | nil => rfl
  | cons => simp at this

/-- A key's kind. -/
inductive KeyOf : TypeDesc → Value → Prop
  | int (kd : IntKind) (n : Int) : KeyOf (.int kd) (.int kd n)
  | string (s : ByteArray) : KeyOf .string (.string s)
  | bool (b : Bool) : KeyOf .bool (.bool b)

theorem sameNow_of {d : TypeDesc} {key a a' : Value} (hk : KeyOf d key) (hs : sameK key a = true) (ha : VR ρ a a') : Instr.sameNow d key a' = some (keyEq key a) := by
  cases hk with
  | int kd n =>
    cases a <;> simp only [sameK] at hs <;> try (cases hs; done)
    rw [ha.int_inv]
    have := eq_of_beq hs
    subst this
    simp [Instr.sameNow, keyEq]
  | string s =>
    cases a <;> simp only [sameK] at hs <;> try (cases hs; done)
    rw [ha.string_inv]; rfl
  | bool b =>
    cases a <;> simp only [sameK] at hs <;> try (cases hs; done)
    rw [ha.bool_inv]; rfl

/-- Where a key is found. -/
def midx (k : Value) : List (Value × Value) → Option Nat
  | [] => none
  | (a, _) :: rest => if keyEq k a then some 0 else (midx k rest).map (· + 1)

theorem mfind_midx (k : Value) : ∀ es, mfind k es = (midx k es).bind fun i => (es[i]?).map (·.2)
  | [] => rfl
  | (a, v) :: rest => by
    simp only [mfind, midx]
    split
    · rfl
    · rw [mfind_midx k rest]; cases midx k rest <;> simp
theorem midx_lt {k : Value} : ∀ {es : List (Value × Value)} {i : Nat}, midx k es = some i → i < es.length
  | [], _, h => by simp [midx] at h
  | (a, v) :: rest, i, h => by
    simp only [midx] at h
    split at h
    · simp at h; subst h; simp
    · cases hm : midx k rest with
      | none => simp [hm] at h
      | some j => simp [hm] at h; subst h; have := midx_lt hm; simp; omega

theorem findNow_of {d : TypeDesc} {key : Value} (hk : KeyOf d key) : ∀ (es : List (Value × Value)) (l : List MapEntry) (i : Nat), ER ρ es l → keysOk key es = true →
    Instr.findNow d key l i = some ((midx key es).bind fun j => (l[j]?).map fun e => (i + j, e.val))
  | [], l, i, h, _ => by rw [h.nil_inv]; rfl
  | (a, v) :: rest, l, i, h, ho => by
    obtain ⟨e, m, rfl, ha, hv, hr⟩ := h.cons_inv
    simp only [keysOk, List.all_cons, Bool.and_eq_true] at ho
    simp only [Instr.findNow, sameNow_of hk ho.1 ha, midx]
    cases hq : keyEq key a with
    | true => simp
    | false =>
      have := findNow_of hk rest m (i + 1) hr ho.2
      simp only [this, Bool.false_eq_true, if_false]
      cases midx key rest with
      | none => rfl
      | some j => simp [Nat.add_assoc, Nat.add_comm 1 j]

theorem findKey_of {kt : TypeId} {d : TypeDesc} {key : Value} (hu : P.underlying kt = some d) (hk : KeyOf d key) {es : List (Value × Value)} {l : List MapEntry} (h : ER ρ es l) (ho : keysOk key es = true) :
    (Instr.findKey kt key l).run P w = .ok ((midx key es).bind fun j => (l[j]?).map fun e => (j, e.val)) w := by
  simp only [Instr.findKey, Sem.run_bind, run_underlying hu, Result.andThen_ok, findNow_of hk es l 0 h ho]
  simp

theorem checkKey_of {kt : TypeId} {d : TypeDesc} {key : Value} (hu : P.underlying kt = some d) (hk : KeyOf d key) (b : Bool) (n : Nat) : (Instr.checkKey b (n + 1) kt key).run P w = .ok () w := by
  cases hk <;> simp [Instr.checkKey, run_underlying hu]

theorem keyKd_inv {kt : TypeId} {kk : KD} (hk : keyKd P kt = some kk) {ix : Value} {f : Value → Option β} (h : kTy (some kk) ix f = some r) : ∃ d, P.underlying kt = some d ∧ KeyOf d ix := by
  rcases keyTy_forms hk h with ⟨kd, n, rfl, hu⟩ | ⟨s, rfl, hu⟩ | ⟨b, rfl, hu⟩
  · exact ⟨_, hu, .int kd n⟩
  · exact ⟨_, hu, .string s⟩
  · exact ⟨_, hu, .bool b⟩
theorem KeyOf.self {d : TypeDesc} {key : Value} (hk : KeyOf d key) : VR ρ key key := by cases hk <;> constructor
theorem KeyOf.eq_of {d : TypeDesc} {key v' : Value} (hk : KeyOf d key) (h : VR ρ key v') : v' = key := by cases hk <;> cases h <;> rfl

theorem Rel.map {H : Heap} (hR : Rel ρ H w) {b : Nat} {p : Pl} (hb : ρ b = some p) {es : List (Value × Value)} (ho : H[b]? = some (.map es)) : ∃ l clock, w.heap[p.blk]? = some (.map l clock) ∧ ER ρ es l.toList ∧ Brn l.toList clock := by
  obtain ⟨l, clock, h1, h2, h3, h4⟩ := hR.obj b p _ hb ho
  exact ⟨l, clock, h1, ⟨by simpa using h2, fun i k v e a c => h3 i k v e a (by simpa using c)⟩, h4⟩

theorem run_getMap {b clock : Nat} {l : Array MapEntry} (h : w.heap[b]? = some (.map l clock)) : (getObj b).run P w = .ok (.map l clock) w := by
  simp [getObj, Sem.run, h]

/-- The entries of a map that may be nil. -/
theorem ldmo_sound {H : Heap} (hR : Rel ρ H w) {x : Value} {rr : Option Nat} (hx : VR ρ (.map rr) x) {c : List (Value × Value) → Option β} (h : ldmo H rr c = some r) :
    ∃ es l, c es = some r ∧ ER ρ es l ∧ ((rr = none ∧ x = .map none ∧ l = []) ∨ ∃ b clock, x = .map (some b) ∧ w.heap[b]? = some (.map l.toArray clock)) := by
  cases rr with
  | none => exact ⟨[], [], h, ⟨rfl, by simp⟩, .inl ⟨rfl, hx.mapN_inv, rfl⟩⟩
  | some b =>
    simp only [ldmo] at h
    obtain ⟨es, hH, h⟩ := ldm_inv h
    obtain ⟨p, hp, rfl⟩ := hx.map_inv
    obtain ⟨l, clock, h1, h2, _⟩ := hR.map hp hH
    exact ⟨es, l.toList, h, h2, .inr ⟨p.blk, clock, rfl, by simpa using h1⟩⟩

theorem lookupK_sound {H : Heap} (hR : Rel ρ H w) {mt : TypeId} {x ix x' ix' : Value} {ok : Bool} {k : Value → Option β} (h : lookupK P mt H x ix ok k = some r) (hx : VR ρ x x') (hi : VR ρ ix ix') :
    ∃ v v', k v = some r ∧ VR ρ v v' ∧ (Instr.lookup mt x' ix' ok).run P w = .ok v' w := by
  unfold lookupK at h
  split at h
  · rename_i kt et hu
    replace h := onSome_inv h; obtain ⟨kk, hkk, h⟩ := h
    obtain ⟨d, hd, hkey⟩ := keyKd_inv hkk h
    replace h := kTy_inv h
    replace h := kMp_inv h; obtain ⟨rr, rfl, h⟩ := h
    rw [hkey.eq_of hi]
    obtain ⟨es, l, h1, h2, h3⟩ := ldmo_sound hR hx h
    split at h1
    · cases h1
    · rename_i hok
      have hfind := findKey_of (P := P) (w := w) hd hkey h2 hok
      have main : ∀ (v v' : Value) (o : Bool), VR ρ v v' → VR ρ (okV ok v o) (if ok = true then .tuple #[v', .bool o] else v') := fun v v' o hv => by
        cases ok with
        | true => exact VR.tuple_mk (VL.cons hv (VL.cons (.bool o) VL.nil))
        | false => exact hv
      have run1 : ∀ (j : Nat) (v' : Value), (Instr.findKey kt ix l).run P w = .ok (some (j, v')) w → (Instr.lookup mt x' ix ok).run P w = .ok (if ok = true then .tuple #[v', .bool true] else v') w := fun j v' hq1 => by
        rcases h3 with ⟨_, rfl, rfl⟩ | ⟨b, clock, rfl, hb⟩
        · simp only [Instr.lookup, Sem.run_bind, run_underlying hu, Result.andThen_ok, Sem.run_pure, checkKey_of hd hkey, hq1]
        · simp only [Instr.lookup, Sem.run_bind, run_underlying hu, Result.andThen_ok, run_getMap hb, Sem.run_pure, checkKey_of hd hkey, hq1]
      have run2 : ∀ (z : Value), zeroOf P et = some z → (Instr.findKey kt ix l).run P w = .ok none w → (Instr.lookup mt x' ix ok).run P w = .ok (if ok = true then .tuple #[z, .bool false] else z) w := fun z hz hq1 => by
        rcases h3 with ⟨_, rfl, rfl⟩ | ⟨b, clock, rfl, hb⟩
        · simp only [Instr.lookup, Sem.run_bind, run_underlying hu, Result.andThen_ok, Sem.run_pure, checkKey_of hd hkey, hq1, run_zero hz]
        · simp only [Instr.lookup, Sem.run_bind, run_underlying hu, Result.andThen_ok, run_getMap hb, Sem.run_pure, checkKey_of hd hkey, hq1, run_zero hz]
      rw [mfind_midx] at h1
      cases hm : midx ix es with
      | none =>
        rw [hm] at h1 hfind
        simp only [Option.bind_none] at h1 hfind
        replace h1 := onSome_inv h1; obtain ⟨z, hz, h1⟩ := h1
        split at h1
        · rename_i hp
          exact ⟨_, _, h1, main z z false (plainV_VR hp), run2 z hz hfind⟩
        · cases h1
      | some j =>
        have hj := midx_lt hm
        have hj' : j < l.length := h2.1 ▸ hj
        rw [hm] at h1 hfind
        simp only [Option.bind_some] at h1 hfind
        rw [List.getElem?_eq_getElem hj] at h1
        rw [List.getElem?_eq_getElem hj'] at hfind
        simp only [Option.map_some] at h1 hfind
        replace h1 := kTy_inv h1
        obtain ⟨_, hv⟩ := h2.2 j (es[j].1) (es[j].2) l[j] (by simp [hj]) (by simp [hj'])
        exact ⟨_, _, h1, main _ _ true hv, run1 _ _ hfind⟩
  · cases h
theorem ta_nil {at_ xt : TypeId} {d : TypeDesc} (hu : P.underlying at_ = some d) (hd : ∀ ms, d ≠ .interface ms) {z : Value} (hz : (zeroValue at_).run P w = .ok z w) : (Instr.typeAssert .nilIface xt at_ true).run P w = .ok (.tuple #[z, .bool false]) w := by
  unfold Instr.typeAssert
  simp only [Sem.run_bind, run_underlying hu, Result.andThen_ok]
  cases d with
  | interface ms => exact (hd ms rfl).elim
  | _ => simp only [if_true, Sem.run_bind, hz, Result.andThen_ok, Sem.run_pure]
theorem ta_yes {at_ xt : TypeId} {d : TypeDesc} (hu : P.underlying at_ = some d) (hd : ∀ ms, d ≠ .interface ms) (ok : Bool) (u : Value) : (Instr.typeAssert (.iface at_ u) xt at_ ok).run P w = .ok (if ok = true then .tuple #[u, .bool true] else u) w := by
  unfold Instr.typeAssert
  simp only [Sem.run_bind, run_underlying hu, Result.andThen_ok]
  cases d with
  | interface ms => exact (hd ms rfl).elim
  | _ => first | rfl | simp only [if_true, Sem.run_pure]
theorem ta_no {at_ xt i : TypeId} {d : TypeDesc} (hu : P.underlying at_ = some d) (hd : ∀ ms, d ≠ .interface ms) (hi : ¬ i = at_) {u z : Value} (hz : (zeroValue at_).run P w = .ok z w) : (Instr.typeAssert (.iface i u) xt at_ true).run P w = .ok (.tuple #[z, .bool false]) w := by
  unfold Instr.typeAssert
  simp only [Sem.run_bind, run_underlying hu, Result.andThen_ok]
  cases d with
  | interface ms => exact (hd ms rfl).elim
  | _ => simp only [if_neg hi, if_true, Sem.run_bind, hz, Result.andThen_ok, Sem.run_pure]
theorem tyAs_inv {at_ : TypeId} {ok : Bool} {x : Value} {k : Value → Option β} (h : tyAs P at_ ok x k = some r) :
    ∃ d, P.underlying at_ = some d ∧ (∀ ms, d ≠ .interface ms) ∧ ((∃ u, tyIs at_ x = some (some u) ∧ k (okV ok u true) = some r) ∨ (tyIs at_ x = some none ∧ ok = true ∧ ∃ z, zeroOf P at_ = some z ∧ plainV z = true ∧ k (okV true z false) = some r)) := by
  unfold tyAs at h
  split at h
  · cases h
  · cases h
  · rename_i d hno hu
    refine ⟨d, hu, fun ms q => hno ms (by rw [← q]), ?_⟩
    split at h
    · rename_i u hx; exact .inl ⟨u, hx, h⟩
    · rename_i hx
      split at h
      · replace h := onSome_inv h; obtain ⟨z, hz, h⟩ := h
        split at h
        · rename_i hp; exact .inr ⟨hx, rfl, z, hz, hp, h⟩
        · cases h
      · cases h
    · cases h
theorem tyAs_sound {at_ xt : TypeId} {ok : Bool} {x x' : Value} {k : Value → Option β} (h : tyAs P at_ ok x k = some r) (hx : VR ρ x x') :
    ∃ v v', k v = some r ∧ VR ρ v v' ∧ (Instr.typeAssert x' xt at_ ok).run P w = .ok v' w := by
  obtain ⟨d, hu, hd, h2⟩ := tyAs_inv h
  clear h
  rcases h2 with ⟨u, ht, h⟩ | ⟨ht, rfl, z, hz, hp, h⟩
  · cases hx <;> simp only [tyIs] at ht <;> try (cases ht; done)
    rename_i i u1 u' hu'
    split at ht
    · rename_i hb
      obtain rfl := Option.some.inj (Option.some.inj ht)
      obtain rfl := Nat.eq_of_beq_eq_true hb
      refine ⟨_, _, h, ?_, ta_yes hu hd ok u'⟩
      cases ok with
      | true => exact VR.tuple_mk (VL.cons hu' (VL.cons (.bool true) VL.nil))
      | false => exact hu'
    · cases ht
  · refine ⟨_, _, h, VR.tuple_mk (VL.cons (plainV_VR hp) (VL.cons (.bool false) VL.nil)), ?_⟩
    cases hx <;> simp only [tyIs] at ht <;> try (cases ht; done)
    · exact ta_nil hu hd (run_zero hz w)
    · rename_i i u1 u' hu'
      split at ht
      · cases ht
      · rename_i hb
        refine ta_no hu hd (fun q => ?_) (run_zero hz w)
        rw [q, Nat.beq_refl] at hb; cases hb
/-! ### Maps that are changed -/
theorem mset_none {k v : Value} : ∀ {es : List (Value × Value)}, midx k es = none → mset k v es = es ++ [(k, v)]
  | [], _ => rfl
  | (a, u) :: rest, h => by
    simp only [midx] at h
    split at h
    · cases h
    · rename_i hq
      have : midx k rest = none := by cases hm : midx k rest <;> simp [hm] at h ⊢
      simp only [mset, hq, Bool.false_eq_true, if_false, mset_none this, List.cons_append]
theorem mset_some {k v : Value} : ∀ {es : List (Value × Value)} {j : Nat}, midx k es = some j → mset k v es = es.set j (k, v)
  | [], _, h => by simp [midx] at h
  | (a, u) :: rest, j, h => by
    simp only [midx] at h
    split at h
    · rename_i hq
      obtain rfl := Option.some.inj h
      simp only [mset, hq, if_true, List.set_cons_zero]
    · rename_i hq
      cases hm : midx k rest with
      | none => simp [hm] at h
      | some i =>
        simp [hm] at h
        subst h
        simp only [mset, hq, Bool.false_eq_true, if_false, mset_some hm, List.set_cons_succ]
theorem mdel_none {k : Value} : ∀ {es : List (Value × Value)}, midx k es = none → mdel k es = es
  | [], _ => rfl
  | (a, u) :: rest, h => by
    simp only [midx] at h
    split at h
    · cases h
    · rename_i hq
      have : midx k rest = none := by cases hm : midx k rest <;> simp [hm] at h ⊢
      simp only [mdel, hq, Bool.false_eq_true, if_false, mdel_none this]
theorem mdel_some {k : Value} : ∀ {es : List (Value × Value)} {j : Nat}, midx k es = some j → mdel k es = es.eraseIdx j
  | [], _, h => by simp [midx] at h
  | (a, u) :: rest, j, h => by
    simp only [midx] at h
    split at h
    · rename_i hq
      obtain rfl := Option.some.inj h
      simp only [mdel, hq, if_true, List.eraseIdx_cons_zero]
    · rename_i hq
      cases hm : midx k rest with
      | none => simp [hm] at h
      | some i =>
        simp [hm] at h
        subst h
        simp only [mdel, hq, Bool.false_eq_true, if_false, mdel_some hm, List.eraseIdx_cons_succ]
theorem bytes_eq {a b : ByteArray} (h : (a == b) = true) : a = b := by
  obtain ⟨x⟩ := a
  obtain ⟨y⟩ := b
  have e : x = y := by simpa using (show (x == y) = true from h)
  rw [e]
theorem midx_key {d : TypeDesc} {k : Value} (hk : KeyOf d k) : ∀ {es : List (Value × Value)} {j : Nat}, midx k es = some j → keysOk k es = true → ∃ v, es[j]? = some (k, v)
  | [], _, h, _ => by simp [midx] at h
  | (a, u) :: rest, j, h, ho => by
    simp only [keysOk, List.all_cons, Bool.and_eq_true] at ho
    simp only [midx] at h
    split at h
    · rename_i hq
      obtain rfl := Option.some.inj h
      have : a = k := by
        cases hk <;> cases a <;> simp only [keyEq, sameK] at hq ho <;> try (cases hq; done)
        · rw [eq_of_beq hq, eq_of_beq ho.1]
        · rw [bytes_eq hq]
        · rw [eq_of_beq hq]
      subst this
      exact ⟨u, rfl⟩
    · cases hm : midx k rest with
      | none => simp [hm] at h
      | some i =>
        simp [hm] at h
        subst h
        obtain ⟨v, hv⟩ := midx_key hk hm ho.2
        exact ⟨v, by simpa using hv⟩

theorem setObj_run {b clock : Nat} {l : Array MapEntry} (h : w.heap[b]? = some (.map l clock)) (o : Obj) : (setObj b o).run P w = .ok () { w with heap := w.heap.setIfInBounds b o } := by
  simp [setObj, Sem.run, h]
theorem mapset_rel {H : Heap} (hR : Rel ρ H w) {b : Nat} {p : Pl} (hb : ρ b = some p) {es es' : List (Value × Value)} (ho : H[b]? = some (.map es)) {l : Array MapEntry} {clock : Nat} (hw : w.heap[p.blk]? = some (.map l clock)) {l' : Array MapEntry} (clock' : Nat) (he : ER ρ es' l'.toList) (hst : Brn l'.toList clock') :
    Rel ρ (H.set b (.map es')) { w with heap := w.heap.setIfInBounds p.blk (.map l' clock') } ∧ Ext ρ H w ρ (H.set b (.map es')) { w with heap := w.heap.setIfInBounds p.blk (.map l' clock') } := by
  have hlt : p.blk < w.heap.size := (Array.getElem?_eq_some_iff.1 hw).1
  have hoth : ∀ k, k ≠ p.blk → ({ w with heap := w.heap.setIfInBounds p.blk (.map l' clock') } : World).heap[k]? = w.heap[k]? := fun k hk => by simp [Ne.symm hk]
  have hor : OR ρ { w with heap := w.heap.setIfInBounds p.blk (.map l' clock') } p (.map es') :=
    ⟨l', clock', by simp [hlt], by simpa using he.1, fun i k v e a c => he.2 i k v e a (by simpa using c), hst⟩
  exact ⟨hR.turn hb ho rfl rfl hoth hor, Ext.turn hb ho rfl hoth (by simp) rfl rfl rfl⟩
theorem ER.snoc {es : List (Value × Value)} {l : List MapEntry} (h : ER ρ es l) {k v : Value} {e : MapEntry} (hk : VR ρ k e.key) (hv : VR ρ v e.val) : ER ρ (es ++ [(k, v)]) (l ++ [e]) := by
  refine ⟨by simp [h.1], fun i k' v' e' a c => ?_⟩
  rcases Nat.lt_or_ge i es.length with hi | hi
  · rw [List.getElem?_append_left hi] at a
    rw [List.getElem?_append_left (h.1 ▸ hi)] at c
    exact h.2 i k' v' e' a c
  · rw [List.getElem?_append_right hi] at a
    rw [List.getElem?_append_right (h.1 ▸ hi)] at c
    have : i - es.length = 0 := by
      rcases Nat.eq_zero_or_pos (i - es.length) with q | q
      · exact q
      · rw [List.getElem?_eq_none (by simp; omega)] at a; cases a
    rw [this] at a
    rw [← h.1, this] at c
    simp at a c
    obtain ⟨rfl, rfl⟩ := a
    subst c
    exact ⟨hk, hv⟩
theorem ER.put {es : List (Value × Value)} {l : List MapEntry} (h : ER ρ es l) {j : Nat} {k v : Value} {f : MapEntry → MapEntry} (hf : ∀ e, VR ρ k (f e).key ∧ VR ρ v (f e).val) : ER ρ (es.set j (k, v)) (l.modify j f) := by
  refine ⟨by simp [h.1], fun i k' v' e' a c => ?_⟩
  by_cases hij : i = j
  · subst hij
    have hlt : i < es.length := by
      rcases Nat.lt_or_ge i es.length with q | q
      · exact q
      · rw [List.getElem?_eq_none (by simp; omega)] at a; cases a
    rw [List.getElem?_set_self hlt] at a
    rw [List.getElem?_modify] at c
    simp only [if_true] at c
    obtain ⟨rfl, rfl⟩ := Prod.mk.inj (Option.some.inj a)
    cases hl : l[i]? with
    | none => rw [hl] at c; simp at c
    | some e => rw [hl] at c; simp at c; subst c; exact hf e
  · rw [List.getElem?_set_ne (Ne.symm hij)] at a
    rw [List.getElem?_modify] at c
    exact h.2 i k' v' e' a (by simpa [Ne.symm hij] using c)
theorem ER.erase {es : List (Value × Value)} {l : List MapEntry} (h : ER ρ es l) {j : Nat} (hj : j < es.length) : ER ρ (es.eraseIdx j) (l.eraseIdx j) := by
  have hj' : j < l.length := h.1 ▸ hj
  refine ⟨by rw [List.length_eraseIdx, List.length_eraseIdx, h.1], fun i k v e a c => ?_⟩
  rw [List.getElem?_eraseIdx] at a c
  split at a
  · rename_i q; rw [if_pos q] at c; exact h.2 i k v e a c
  · rename_i q; rw [if_neg q] at c; exact h.2 _ k v e a c

theorem sameBits_key {d : TypeDesc} {k : Value} (hk : KeyOf d k) : Instr.sameBits 10000 k k = true := by
  cases hk with
  | int kd n => simp [Instr.sameBits]
  | string s => simp only [Instr.sameBits]; show (s.data == s.data) = true; simp
  | bool b => simp [Instr.sameBits]
theorem mapUpdate_sound {H : Heap} (hR : Rel ρ H w) {mt kt et : TypeId} (hu : P.underlying mt = some (.map kt et)) {d : TypeDesc} (hd : P.underlying kt = some d) {key v v' : Value} (hkey : KeyOf d key) (hv : VR ρ v v') {b : Nat} {p : Pl} (hb : ρ b = some p) {es : List (Value × Value)} (ho : H[b]? = some (.map es)) (hok : keysOk key es = true) :
    ∃ w', (Instr.mapUpdate mt (.map (some p.blk)) key v').run P w = .ok () w' ∧ Rel ρ (H.set b (.map (mset key v es))) w' ∧ Ext ρ H w ρ (H.set b (.map (mset key v es))) w' := by
  obtain ⟨l, clock, hw, he, hst⟩ := hR.map hb ho
  have hfind := findKey_of (P := P) (w := w) hd hkey he hok
  cases hm : midx key es with
  | none =>
    rw [hm] at hfind
    simp only [Option.bind_none] at hfind
    have := mapset_rel hR hb ho hw (es' := es ++ [(key, v)]) (l' := l.push { key, val := v', born := clock }) (clock + 1) (by rw [Array.toList_push]; exact he.snoc hkey.self hv) (by rw [Array.toList_push]; exact hst.snoc _ _)
    rw [mset_none hm]
    refine ⟨_, ?_, this.1, this.2⟩
    simp only [Instr.mapUpdate, Sem.run_bind, run_underlying hu, Result.andThen_ok, run_getMap hw, checkKey_of hd hkey, hfind, setObj_run hw]
  | some j =>
    have hj := midx_lt hm
    have hj' : j < l.toList.length := he.1 ▸ hj
    rw [hm] at hfind
    simp only [Option.bind_some] at hfind
    rw [List.getElem?_eq_getElem hj'] at hfind
    simp only [Option.map_some] at hfind
    obtain ⟨u, hju⟩ := midx_key hkey hm hok
    obtain ⟨hkk, _⟩ := he.2 j key u l.toList[j] hju (by simp [hj'])
    have hold : l.toList[j].key = key := hkey.eq_of hkk
    have hlj : l[j]? = some l.toList[j] := by
      have : j < l.size := by simpa using hj'
      simp [this]
    have hstay : (Instr.keyThatStays (((l[j]?).map (·.key)).getD key) key).run P w = .ok key w := by
      rw [hlj]
      simp only [Option.map_some, Option.getD_some, hold, Instr.keyThatStays, sameBits_key hkey, if_true, Sem.run_pure]
    have := mapset_rel hR hb ho hw (es' := es.set j (key, v)) (l' := l.modify j fun e => { e with key, val := v' }) clock (by rw [Array.toList_modify]; exact he.put fun e => ⟨hkey.self, hv⟩) (by rw [Array.toList_modify]; exact hst.modify _ _ fun e => rfl)
    rw [mset_some hm]
    refine ⟨_, ?_, this.1, this.2⟩
    simp only [Instr.mapUpdate, Sem.run_bind, run_underlying hu, Result.andThen_ok, run_getMap hw, checkKey_of hd hkey, hfind, hstay, setObj_run hw]
theorem delete_sound {H : Heap} (hR : Rel ρ H w) {mt kt et ty : TypeId} {ats : Array TypeId} (ha : ats[0]? = some mt) (hu : P.underlying mt = some (.map kt et)) {d : TypeDesc} (hd : P.underlying kt = some d) {key : Value} (hkey : KeyOf d key) {b : Nat} {p : Pl} (hb : ρ b = some p) {es : List (Value × Value)} (ho : H[b]? = some (.map es)) (hok : keysOk key es = true) :
    ∃ w', (Builtin.delete_ ats ty #[.map (some p.blk), key]).run P w = .ok (.tuple #[]) w' ∧ Rel ρ (H.set b (.map (mdel key es))) w' ∧ Ext ρ H w ρ (H.set b (.map (mdel key es))) w' := by
  obtain ⟨l, clock, hw, he, hst⟩ := hR.map hb ho
  have hfind := findKey_of (P := P) (w := w) hd hkey he hok
  cases hm : midx key es with
  | none =>
    rw [hm] at hfind
    simp only [Option.bind_none] at hfind
    have := mapset_rel hR hb ho hw (es' := es) (l' := l) clock he hst
    rw [mdel_none hm]
    refine ⟨_, ?_, this.1, this.2⟩
    simp only [Builtin.delete_, ha, List.getElem?_toArray, List.getElem?_cons_zero, List.getElem?_cons_succ, Sem.run_bind, run_underlying hu, Result.andThen_ok, run_getMap hw, checkKey_of hd hkey, hfind, setObj_run hw, Sem.run_pure]
  | some j =>
    have hj := midx_lt hm
    have hj' : j < l.toList.length := he.1 ▸ hj
    rw [hm] at hfind
    simp only [Option.bind_some] at hfind
    rw [List.getElem?_eq_getElem hj'] at hfind
    simp only [Option.map_some] at hfind
    have hl : (l.eraseIdxIfInBounds j).toList = l.toList.eraseIdx j := by
      have : j < l.size := by simpa using hj'
      unfold Array.eraseIdxIfInBounds
      rw [dif_pos this]
      simp
    have := mapset_rel hR hb ho hw (es' := es.eraseIdx j) (l' := l.eraseIdxIfInBounds j) clock (by rw [hl]; exact he.erase hj) (by rw [hl]; exact hst.erase j)
    rw [mdel_some hm]
    refine ⟨_, ?_, this.1, this.2⟩
    simp only [Builtin.delete_, ha, List.getElem?_toArray, List.getElem?_cons_zero, List.getElem?_cons_succ, Sem.run_bind, run_underlying hu, Result.andThen_ok, run_getMap hw, checkKey_of hd hkey, hfind, setObj_run hw, Sem.run_pure]
end
end Go.Proofs.YtlpeldimmaajkaaGreat.Fw
