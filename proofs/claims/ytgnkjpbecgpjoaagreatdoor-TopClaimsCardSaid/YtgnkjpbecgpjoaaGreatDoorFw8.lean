/- FRAMEWORK 7: maps: what is found on the abstract heap is found in the world. FRAMEWORK 8: an operation that changes nothing does in the world what it does on the abstract heap. -/
import Derived.Test.YtgnkjpbecgpjoaaGreatDoorFw6
import Derived.Laws.BytesString
set_option linter.unusedVariables false
set_option linter.unusedSimpArgs false
namespace Go.Proofs.YtgnkjpbecgpjoaaGreatDoor.Fw
open Go Go.RowKit

section
variable {P : Program} {ρ : Ren} {w : World} {β : Type} {r : β}

def ER (ρ : Ren) (es : List (Value × Value)) (l : List MapEntry) : Prop :=
  es.length = l.length ∧ ∀ (i : Nat) (k v : Value) (e : MapEntry), es[i]? = some (k, v) → l[i]? = some e → VR ρ k e.key ∧ VR ρ v e.val
theorem ER.cons_inv {k v : Value} {es : List (Value × Value)} {l : List MapEntry} (h : ER ρ ((k, v) :: es) l) : ∃ e m, l = e :: m ∧ VR ρ k e.key ∧ VR ρ v e.val ∧ ER ρ es m := by
  cases l with
  | nil => simp [ER] at h
  | cons e m =>
    obtain ⟨a, b⟩ := h.2 0 k v e rfl rfl
    exact ⟨e, m, rfl, a, b, by have := h.1; simpa using this, fun i k v e x y => h.2 (i + 1) k v e (by simpa using x) (by simpa using y)⟩
theorem ER.nil_inv {l : List MapEntry} (h : ER ρ [] l) : l = [] := by
  have := h.1
  cases l with
  | nil => rfl
  | cons => simp at this

/-- A key's kind. -/
inductive KeyOf (P : Program) (kt : TypeId) : TypeDesc → Value → Prop
  | int (kd : IntKind) (n : Int) : KeyOf P kt (.int kd) (.int kd n)
  | string (s : ByteArray) : KeyOf P kt .string (.string s)
  | bool (b : Bool) : KeyOf P kt .bool (.bool b)
  | agg (fs : Array Field) (cs : Array Value) (hst : P.stoodInHeld kt = false) (hok : okCells P fs.toList 0 cs.toList = true) : KeyOf P kt (.struct fs) (.agg cs)

theorem okCells_cons {f : Field} {fs : List Field} {i : Nat} {cs : List Value} (h : okCells P (f :: fs) i cs = true) : ∃ kd n m, cs = .int kd n :: m ∧ f.name ≠ "_" ∧ f.offset = i ∧ P.underlying f.type = some (.int kd) ∧ okCells P fs (i + 1) m = true := by
  cases cs with
  | nil => simp [okCells] at h
  | cons v m =>
    cases v <;> simp only [okCells] at h <;> try (cases h; done)
    rename_i kd n
    split at h <;> try (cases h; done)
    rename_i kd' h1 h2 h3
    split at h <;> try (cases h; done)
    rename_i h4
    have := of_decide_eq_true h4
    subst this
    exact ⟨_, _, _, rfl, by simpa using h1, Nat.eq_of_beq_eq_true h2, h3, h⟩
theorem okCells_nil {i : Nat} {cs : List Value} (h : okCells P [] i cs = true) : cs = [] := by
  cases cs with
  | nil => rfl
  | cons v m => simp [okCells] at h
theorem part_int {e : TypeId} {kd : IntKind} (hu : P.underlying e = some (.int kd)) {xs : Array Value} {i : Nat} {v : Value} (hv : xs[i]? = some v) : (part e xs i).run P w = .ok v w := by
  exact part_one hu (by simp [aggD]) hv
/-- Structs of whole numbers are alike if all these are. -/
theorem eqFields_of {d : Nat} {xs ys : Array Value} : ∀ (fs : List Field) (i : Nat) (a b : List Value), okCells P fs i a = true → sameCells a b = true → (∀ j, a[j]? = xs[i + j]?) → (∀ j v, b[j]? = some v → ys[i + j]? = some v) →
    (Op.eqFields (d + 1) xs ys fs).run P w = .ok (eqCells a b) w
  | [], i, a, b, h, hs, _, _ => by
    obtain rfl := okCells_nil h
    cases b with
    | nil => simp [Op.eqFields, eqCells]
    | cons => simp [sameCells] at hs
  | f :: fs, i, a, b, h, hs, ha, hb => by
    obtain ⟨kd, n, m, rfl, hn, ho, hu, hr⟩ := okCells_cons h
    cases b with
    | nil => simp [sameCells] at hs
    | cons v b =>
      cases v <;> simp only [sameCells] at hs <;> try (cases hs; done)
      rename_i k2 n2
      split at hs
      · rename_i hk
        have := eq_of_beq hk
        subst this
        have hx := ha 0
        have hy := hb 0 _ rfl
        simp only [List.getElem?_cons_zero, Nat.add_zero] at hx hy
        have p1 := part_int (P := P) (w := w) hu hx.symm
        have p2 := part_int (P := P) (w := w) hu hy
        simp only [Op.eqFields, hn, ne_eq, not_false_eq_true, if_true, Sem.run_bind, ho, p1, p2, Result.andThen_ok, run_equalIn_int w _ _ kd kd n n2 hu, eqCells]
        have ih := eqFields_of (d := d) (xs := xs) (ys := ys) fs (i + 1) m b hr hs (fun j => by have := ha (j + 1); rw [List.getElem?_cons_succ] at this; rw [this]; congr 1; omega) (fun j v hv => by have := hb (j + 1) v (by simpa using hv); rw [← this]; congr 1; omega)
        cases hq : n == n2 with
        | true => simpa [hq] using ih
        | false => simp
      · cases hs
theorem sameNow_of {kt : TypeId} {d : TypeDesc} {key a a' : Value} (hk : KeyOf P kt d key) (hsc : ∀ fs, d ≠ .struct fs) (hs : sameK key a = true) (ha : VR ρ a a') : Instr.sameNow d key a' = some (keyEq key a) := by
  cases hk with
  | int kd n =>
    cases a <;> simp only [sameK] at hs <;> try (cases hs; done)
    rw [ha.int_inv]
    have := eq_of_beq hs
    subst this
    simp [Instr.sameNow, keyEq]
  | string s =>
    cases a <;> simp only [sameK] at hs <;> try (cases hs; done)
    rw [ha.string_inv]; rfl
  | bool b =>
    cases a <;> simp only [sameK] at hs <;> try (cases hs; done)
    rw [ha.bool_inv]; rfl
  | agg fs cs => exact absurd rfl (hsc fs)

theorem mfind_midx (k : Value) : ∀ es, mfind k es = (midx k es).bind fun i => (es[i]?).map (·.2)
  | [] => rfl
  | (a, v) :: rest => by
    simp only [mfind, midx]
    split
    · rfl
    · rw [mfind_midx k rest]; cases midx k rest <;> simp
theorem midx_lt {k : Value} : ∀ {es : List (Value × Value)} {i : Nat}, midx k es = some i → i < es.length
  | [], _, h => by simp [midx] at h
  | (a, v) :: rest, i, h => by
    simp only [midx] at h
    split at h
    · simp at h; subst h; simp
    · cases hm : midx k rest with
      | none => simp [hm] at h
      | some j => simp [hm] at h; subst h; have := midx_lt hm; simp; omega

theorem findNow_of {kt : TypeId} {d : TypeDesc} {key : Value} (hk : KeyOf P kt d key) (hsc : ∀ fs, d ≠ .struct fs) : ∀ (es : List (Value × Value)) (l : List MapEntry) (i : Nat), ER ρ es l → keysOk key es = true →
    Instr.findNow d key l i = some ((midx key es).bind fun j => (l[j]?).map fun e => (i + j, e.val))
  | [], l, i, h, _ => by rw [h.nil_inv]; rfl
  | (a, v) :: rest, l, i, h, ho => by
    obtain ⟨e, m, rfl, ha, hv, hr⟩ := h.cons_inv
    simp only [keysOk, List.all_cons, Bool.and_eq_true] at ho
    simp only [Instr.findNow, sameNow_of hk hsc ho.1 ha, midx]
    cases hq : keyEq key a with
    | true => simp
    | false =>
      have := findNow_of hk hsc rest m (i + 1) hr ho.2
      simp only [this, Bool.false_eq_true, if_false]
      cases midx key rest with
      | none => rfl
      | some j => simp [Nat.add_assoc, Nat.add_comm 1 j]
theorem sameCells_VR : ∀ {a b : List Value}, sameCells a b = true → ∀ {l : List Value}, VL ρ b l → l = b
  | [], b, h, l, hl => by
    cases b with
    | nil => exact hl.nil_inv
    | cons => simp [sameCells] at h
  | x :: a, b, h, l, hl => by
    cases b with
    | nil => exact hl.nil_inv
    | cons y b =>
      cases x <;> cases y <;> simp only [sameCells] at h <;> try (cases h; done)
      split at h
      · obtain ⟨v', m, rfl, h1, h2⟩ := hl.cons_inv
        rw [h1.int_inv, sameCells_VR h h2]
      · cases h
theorem findAsking_of {kt : TypeId} {fs : Array Field} (hu : P.underlying kt = some (.struct fs)) {key : Value} (hk : KeyOf P kt (.struct fs) key) : ∀ (es : List (Value × Value)) (l : List MapEntry) (i : Nat), ER ρ es l → keysOk key es = true →
    (Instr.findAsking kt key l i).run P w = .ok ((midx key es).bind fun j => (l[j]?).map fun e => (i + j, e.val)) w
  | [], l, i, h, _ => by rw [h.nil_inv]; rfl
  | (a, v) :: rest, l, i, h, ho => by
    obtain ⟨e, m, rfl, ha, hv, hr⟩ := h.cons_inv
    simp only [keysOk, List.all_cons, Bool.and_eq_true] at ho
    have ih := findAsking_of hu hk rest m (i + 1) hr ho.2
    cases hk with
    | agg fs cs hst hok =>
      have ho1 := ho.1
      cases a <;> simp only [sameK] at ho1 <;> try (cases ho1; done)
      rename_i xs
      obtain ⟨xs', ex, hxs, _⟩ := ha.agg_inv
      have e1 := sameCells_VR ho1 hxs
      have e2 : xs' = xs := Array.toList_inj.1 e1
      subst e2
      have hq : (Op.equal kt (.agg cs) e.key).run P w = .ok (eqCells cs.toList xs'.toList) w := by
        rw [ex]
        show (Op.equalIn (9999 + 1) kt _ _).run P w = _
        have hf : P.fieldsOf kt = fs := by simp [Program.fieldsOf, hu]
        rw [run_equalIn_struct w _ kt cs xs' (by rw [hf]; exact hu) (by simp [hst]), hf]
        exact eqFields_of (d := 9998) fs.toList 0 cs.toList xs'.toList hok ho1 (fun j => by simp) (fun j v h => by simpa using h)
      have hkq : keyEq (.agg cs) (.agg xs') = eqCells cs.toList xs'.toList := rfl
      simp only [Instr.findAsking, Sem.run_bind, hq, Result.andThen_ok, midx, hkq]
      rcases Bool.eq_false_or_eq_true (eqCells cs.toList xs'.toList) with hb | hb
      · simp [hb]
      · simp only [hb, Bool.false_eq_true, if_false, ih]
        cases midx (.agg cs) rest with
        | none => rfl
        | some j => simp [Nat.add_assoc, Nat.add_comm 1 j]

theorem findKey_of {kt : TypeId} {d : TypeDesc} {key : Value} (hu : P.underlying kt = some d) (hk : KeyOf P kt d key) {es : List (Value × Value)} {l : List MapEntry} (h : ER ρ es l) (ho : keysOk key es = true) :
    (Instr.findKey kt key l).run P w = .ok ((midx key es).bind fun j => (l[j]?).map fun e => (j, e.val)) w := by
  by_cases hsc : ∃ fs, d = .struct fs
  · obtain ⟨fs, rfl⟩ := hsc
    have h2 := findAsking_of (w := w) hu hk es l 0 h ho
    simp only [Instr.findKey, Sem.run_bind, run_underlying hu, Result.andThen_ok]
    cases es with
    | nil => rw [h.nil_inv]; rfl
    | cons e es =>
      obtain ⟨e', m, rfl, _⟩ := h.cons_inv (k := e.1) (v := e.2)
      have : Instr.findNow (.struct fs) key (e' :: m) 0 = none := by
        cases hk
        simp [Instr.findNow, Instr.sameNow]
      rw [this]
      simpa using h2
  · simp only [Instr.findKey, Sem.run_bind, run_underlying hu, Result.andThen_ok, findNow_of hk (fun fs e => hsc ⟨fs, e⟩) es l 0 h ho]
    simp

theorem checkKey_of {kt : TypeId} {d : TypeDesc} {key : Value} (hu : P.underlying kt = some d) (hk : KeyOf P kt d key) (b : Bool) (n : Nat) : (Instr.checkKey b (n + 2) kt key).run P w = .ok () w := by
  cases hk with
  | agg fs cs hst hok =>
    rw [show n + 2 = (n + 1) + 1 from rfl, Instr.checkKey]
    simp only [Sem.run_bind, run_underlying hu, Result.andThen_ok]
    rw [← Array.forIn_toList]
    have each : ∀ (L : List Field) (i : Nat) (a : List Value), okCells P L i a = true → (∀ j, a[j]? = cs[i + j]?) → ∀ f ∈ L, f.name ≠ "_" ∧ ∃ kd v, P.underlying f.type = some (.int kd) ∧ (part f.type cs f.offset).run P w = .ok v w := by
      intro L
      induction L with
      | nil => intro _ _ _ _ f hf; cases hf
      | cons g L ih =>
        intro i a h ha f hf
        obtain ⟨kd, n, m, rfl, hn, hof, hug, hr⟩ := okCells_cons h
        rcases List.mem_cons.1 hf with rfl | hf
        · have hx := ha 0
          simp only [List.getElem?_cons_zero, Nat.add_zero] at hx
          exact ⟨hn, kd, _, hug, part_int hug (by rw [hof]; exact hx.symm)⟩
        · exact ih (i + 1) m hr (fun j => by have := ha (j + 1); rw [List.getElem?_cons_succ] at this; rw [this]; congr 1; omega) f hf
    have each := each fs.toList 0 cs.toList hok (fun j => by simp)
    clear hok hu
    generalize fs.toList = L at each
    induction L with
    | nil => simp
    | cons f L ih =>
      obtain ⟨hn, kd, v, hu, hp⟩ := each f (by simp)
      have p2 : (Instr.checkKey b (n + 1) f.type v).run P w = .ok () w := by
        simp only [Instr.checkKey, Sem.run_bind, run_underlying hu, Result.andThen_ok]
        rfl
      simp only [List.forIn_cons, Sem.run_bind, hn, ne_eq, not_false_eq_true, if_true, Result.andThen_ok, hp, p2, Sem.run_pure]
      exact ih (fun y hy => each y (by simp [hy]))
  | _ => simp [Instr.checkKey, run_underlying hu]

theorem keyKd_inv {kt : TypeId} {kk : KD} (hk : keyKd P kt = some kk) {ix : Value} {f : Value → Option β} (h : kTyC kk ix f = some r) : ∃ d, P.underlying kt = some d ∧ KeyOf P kt d ix := by
  rcases keyTy_forms hk h with ⟨kd, n, rfl, hu⟩ | ⟨s, rfl, hu⟩ | ⟨b, rfl, hu⟩
  · exact ⟨_, hu, .int kd n⟩
  · exact ⟨_, hu, .string s⟩
  · exact ⟨_, hu, .bool b⟩
theorem kKey_inv {kt : TypeId} {ix : Value} {f : Value → Option β} (h : kKey P kt ix f = some r) : ∃ d, P.underlying kt = some d ∧ KeyOf P kt d ix ∧ f ix = some r := by
  unfold kKey at h
  split at h
  · rename_i kk hk
    obtain ⟨d, h1, h2⟩ := keyKd_inv hk h
    exact ⟨d, h1, h2, kTyC_inv h⟩
  · split at h
    · rename_i fs hu
      split at h
      · cases h
      · rename_i hst
        replace h := kAgg_inv h; obtain ⟨cs, rfl, h⟩ := h
        split at h
        · rename_i hok; exact ⟨_, hu, .agg fs cs hst hok, h⟩
        · cases h
    · cases h
theorem okCells_VL : ∀ {fs : List Field} {i : Nat} {a : List Value}, okCells P fs i a = true → ∀ {l : List Value}, (VL ρ a l → l = a) ∧ (∀ {m : List Value}, m = a → VL ρ a m)
  | [], i, a, h, l => by
    obtain rfl := okCells_nil h
    exact ⟨fun hl => hl.nil_inv, fun e => by rw [e]; exact VL.nil⟩
  | f :: fs, i, a, h, l => by
    obtain ⟨kd, n, m, rfl, _, _, _, hr⟩ := okCells_cons h
    refine ⟨fun hl => ?_, fun e => by rw [e]; exact VL.cons (.int _ _) ((okCells_VL hr (l := m)).2 rfl)⟩
    obtain ⟨v', m', rfl, h1, h2⟩ := hl.cons_inv
    rw [h1.int_inv, (okCells_VL hr).1 h2]
theorem okCells_one : ∀ {fs : List Field} {i : Nat} {a : List Value}, okCells P fs i a = true → One a
  | [], i, a, h => by rw [okCells_nil h]; exact One.nil
  | f :: fs, i, a, h => by
    obtain ⟨kd, n, m, rfl, _, _, _, hr⟩ := okCells_cons h
    exact One.cons rfl (okCells_one hr)
theorem KeyOf.self {kt : TypeId} {d : TypeDesc} {key : Value} (hk : KeyOf P kt d key) : VR ρ key key := by
  cases hk with
  | agg fs cs hst hok => exact VR.agg_mk (l := cs.toList) (l' := cs.toList) ((okCells_VL hok (l := cs.toList)).2 rfl) (okCells_one hok)
  | int => exact .int _ _
  | string => exact .string _
  | bool => exact .bool _
theorem KeyOf.eq_of {kt : TypeId} {d : TypeDesc} {key v' : Value} (hk : KeyOf P kt d key) (h : VR ρ key v') : v' = key := by
  cases hk with
  | agg fs cs hst hok =>
    obtain ⟨x', rfl, h1, _⟩ := h.agg_inv
    rw [Array.toList_inj.1 ((okCells_VL hok).1 h1)]
  | int => exact h.int_inv
  | string => exact h.string_inv
  | bool => exact h.bool_inv

theorem Rel.map {H : Heap} (hR : Rel ρ H w) {b : Nat} {p : Pl} (hb : ρ b = some p) {es : List (Value × Value)} {bs : List Nat} {clk : Nat} (ho : H[b]? = some (.map es bs clk)) : ∃ l, w.heap[p.blk]? = some (.map l clk) ∧ ER ρ es l.toList ∧ Brn l.toList clk ∧ l.toList.map (·.born) = bs := by
  obtain ⟨l, h1, h2, h3, h4⟩ := hR.obj b p _ hb ho
  exact ⟨l, h1, ⟨by simpa using h2, fun i k v e a c => h3 i k v e a (by simpa using c)⟩, h4⟩

theorem run_getMap {b clock : Nat} {l : Array MapEntry} (h : w.heap[b]? = some (.map l clock)) : (getObj b).run P w = .ok (.map l clock) w := by
  simp [getObj, Sem.run, h]

/-- The entries of a map that may be nil. -/
theorem ldmo_sound {H : Heap} (hR : Rel ρ H w) {x : Value} {rr : Option Nat} (hx : VR ρ (.map rr) x) {c : List (Value × Value) → Option β} (h : ldmo H rr c = some r) :
    ∃ es l, c es = some r ∧ ER ρ es l ∧ ((rr = none ∧ x = .map none ∧ l = []) ∨ ∃ b clock, x = .map (some b) ∧ w.heap[b]? = some (.map l.toArray clock)) := by
  cases rr with
  | none => exact ⟨[], [], h, ⟨rfl, by simp⟩, .inl ⟨rfl, hx.mapN_inv, rfl⟩⟩
  | some b =>
    simp only [ldmo] at h
    obtain ⟨es, bs, clock, hH, h⟩ := ldm_inv h
    obtain ⟨p, hp, rfl⟩ := hx.map_inv
    obtain ⟨l, h1, h2, _⟩ := hR.map hp hH
    exact ⟨es, l.toList, h, h2, .inr ⟨p.blk, clock, rfl, by simpa using h1⟩⟩

theorem lookupK_sound {H : Heap} (hR : Rel ρ H w) {mt : TypeId} {x ix x' ix' : Value} {ok : Bool} {k : Value → Option β} (h : lookupK P mt H x ix ok k = some r) (hx : VR ρ x x') (hi : VR ρ ix ix') :
    ∃ v v', k v = some r ∧ VR ρ v v' ∧ (Instr.lookup mt x' ix' ok).run P w = .ok v' w := by
  unfold lookupK at h
  split at h
  · rename_i kt et hu
    obtain ⟨d, hd, hkey, h2⟩ := kKey_inv h
    replace h := h2; clear h2
    replace h := kMp_inv h; obtain ⟨rr, rfl, h⟩ := h
    rw [hkey.eq_of hi]
    obtain ⟨es, l, h1, h2, h3⟩ := ldmo_sound hR hx h
    split at h1
    · cases h1
    · rename_i hok
      have hfind := findKey_of (P := P) (w := w) hd hkey h2 hok
      have main : ∀ (v v' : Value) (o : Bool), VR ρ v v' → VR ρ (okV ok v o) (if ok = true then .tuple #[v', .bool o] else v') := fun v v' o hv => by
        cases ok with
        | true => exact VR.tuple_mk (VL.cons hv (VL.cons (.bool o) VL.nil))
        | false => exact hv
      have run1 : ∀ (j : Nat) (v' : Value), (Instr.findKey kt ix l).run P w = .ok (some (j, v')) w → (Instr.lookup mt x' ix ok).run P w = .ok (if ok = true then .tuple #[v', .bool true] else v') w := fun j v' hq1 => by
        rcases h3 with ⟨_, rfl, rfl⟩ | ⟨b, clock, rfl, hb⟩
        · simp only [Instr.lookup, Sem.run_bind, run_underlying hu, Result.andThen_ok, Sem.run_pure, checkKey_of hd hkey, hq1]
        · simp only [Instr.lookup, Sem.run_bind, run_underlying hu, Result.andThen_ok, run_getMap hb, Sem.run_pure, checkKey_of hd hkey, hq1]
      have run2 : ∀ (z : Value), zeroOf P et = some z → (Instr.findKey kt ix l).run P w = .ok none w → (Instr.lookup mt x' ix ok).run P w = .ok (if ok = true then .tuple #[z, .bool false] else z) w := fun z hz hq1 => by
        rcases h3 with ⟨_, rfl, rfl⟩ | ⟨b, clock, rfl, hb⟩
        · simp only [Instr.lookup, Sem.run_bind, run_underlying hu, Result.andThen_ok, Sem.run_pure, checkKey_of hd hkey, hq1, run_zero hz]
        · simp only [Instr.lookup, Sem.run_bind, run_underlying hu, Result.andThen_ok, run_getMap hb, Sem.run_pure, checkKey_of hd hkey, hq1, run_zero hz]
      rw [mfind_midx] at h1
      cases hm : midx ix es with
      | none =>
        rw [hm] at h1 hfind
        simp only [Option.bind_none] at h1 hfind
        replace h1 := onSome_inv h1; obtain ⟨z, hz, h1⟩ := h1
        split at h1
        · rename_i hp
          exact ⟨_, _, h1, main z z false (plainV_VR hp), run2 z hz hfind⟩
        · cases h1
      | some j =>
        have hj := midx_lt hm
        have hj' : j < l.length := h2.1 ▸ hj
        rw [hm] at h1 hfind
        simp only [Option.bind_some] at h1 hfind
        rw [List.getElem?_eq_getElem hj] at h1
        rw [List.getElem?_eq_getElem hj'] at hfind
        simp only [Option.map_some] at h1 hfind
        replace h1 := kTy_inv h1
        obtain ⟨_, hv⟩ := h2.2 j (es[j].1) (es[j].2) l[j] (by simp [hj]) (by simp [hj'])
        exact ⟨_, _, h1, main _ _ true hv, run1 _ _ hfind⟩
  · cases h
theorem ta_nil {at_ xt : TypeId} {d : TypeDesc} (hu : P.underlying at_ = some d) (hd : ∀ ms, d ≠ .interface ms) {z : Value} (hz : (zeroValue at_).run P w = .ok z w) : (Instr.typeAssert .nilIface xt at_ true).run P w = .ok (.tuple #[z, .bool false]) w := by
  unfold Instr.typeAssert
  simp only [Sem.run_bind, run_underlying hu, Result.andThen_ok]
  cases d with
  | interface ms => exact (hd ms rfl).elim
  | _ => simp only [if_true, Sem.run_bind, hz, Result.andThen_ok, Sem.run_pure]
theorem ta_yes {at_ xt : TypeId} {d : TypeDesc} (hu : P.underlying at_ = some d) (hd : ∀ ms, d ≠ .interface ms) (ok : Bool) (u : Value) : (Instr.typeAssert (.iface at_ u) xt at_ ok).run P w = .ok (if ok = true then .tuple #[u, .bool true] else u) w := by
  unfold Instr.typeAssert
  simp only [Sem.run_bind, run_underlying hu, Result.andThen_ok]
  cases d with
  | interface ms => exact (hd ms rfl).elim
  | _ => first | rfl | simp only [if_true, Sem.run_pure]
theorem ta_no {at_ xt i : TypeId} {d : TypeDesc} (hu : P.underlying at_ = some d) (hd : ∀ ms, d ≠ .interface ms) (hi : ¬ i = at_) {u z : Value} (hz : (zeroValue at_).run P w = .ok z w) : (Instr.typeAssert (.iface i u) xt at_ true).run P w = .ok (.tuple #[z, .bool false]) w := by
  unfold Instr.typeAssert
  simp only [Sem.run_bind, run_underlying hu, Result.andThen_ok]
  cases d with
  | interface ms => exact (hd ms rfl).elim
  | _ => simp only [if_neg hi, if_true, Sem.run_bind, hz, Result.andThen_ok, Sem.run_pure]
theorem tyAs_inv {at_ : TypeId} {ok : Bool} {x : Value} {k : Value → Option β} (h : tyAs P at_ ok x k = some r) :
    ∃ d, P.underlying at_ = some d ∧ (∀ ms, d ≠ .interface ms) ∧ ((∃ u, tyIs at_ x = some (some u) ∧ k (okV ok u true) = some r) ∨ (tyIs at_ x = some none ∧ ok = true ∧ ∃ z, zeroOf P at_ = some z ∧ plainV z = true ∧ k (okV true z false) = some r)) := by
  unfold tyAs at h
  split at h
  · cases h
  · cases h
  · rename_i d hno hu
    refine ⟨d, hu, fun ms q => hno ms (by rw [← q]), ?_⟩
    split at h
    · rename_i u hx; exact .inl ⟨u, hx, h⟩
    · rename_i hx
      split at h
      · replace h := onSome_inv h; obtain ⟨z, hz, h⟩ := h
        split at h
        · rename_i hp; exact .inr ⟨hx, rfl, z, hz, hp, h⟩
        · cases h
      · cases h
    · cases h
theorem tyAs_sound {at_ xt : TypeId} {ok : Bool} {x x' : Value} {k : Value → Option β} (h : tyAs P at_ ok x k = some r) (hx : VR ρ x x') :
    ∃ v v', k v = some r ∧ VR ρ v v' ∧ (Instr.typeAssert x' xt at_ ok).run P w = .ok v' w := by
  obtain ⟨d, hu, hd, h2⟩ := tyAs_inv h
  clear h
  rcases h2 with ⟨u, ht, h⟩ | ⟨ht, rfl, z, hz, hp, h⟩
  · cases hx <;> simp only [tyIs] at ht <;> try (cases ht; done)
    rename_i i u1 u' hu'
    split at ht
    · rename_i hb
      obtain rfl := Option.some.inj (Option.some.inj ht)
      obtain rfl := Nat.eq_of_beq_eq_true hb
      refine ⟨_, _, h, ?_, ta_yes hu hd ok u'⟩
      cases ok with
      | true => exact VR.tuple_mk (VL.cons hu' (VL.cons (.bool true) VL.nil))
      | false => exact hu'
    · cases ht
  · refine ⟨_, _, h, VR.tuple_mk (VL.cons (plainV_VR hp) (VL.cons (.bool false) VL.nil)), ?_⟩
    cases hx <;> simp only [tyIs] at ht <;> try (cases ht; done)
    · exact ta_nil hu hd (run_zero hz w)
    · rename_i i u1 u' hu'
      split at ht
      · cases ht
      · rename_i hb
        refine ta_no hu hd (fun q => ?_) (run_zero hz w)
        rw [q, Nat.beq_refl] at hb; cases hb
/-! ### Maps that are changed -/
theorem mset_none {k v : Value} : ∀ {es : List (Value × Value)}, midx k es = none → mset k v es = es ++ [(k, v)]
  | [], _ => rfl
  | (a, u) :: rest, h => by
    simp only [midx] at h
    split at h
    · cases h
    · rename_i hq
      have : midx k rest = none := by cases hm : midx k rest <;> simp [hm] at h ⊢
      simp only [mset, hq, Bool.false_eq_true, if_false, mset_none this, List.cons_append]
theorem mset_some {k v : Value} : ∀ {es : List (Value × Value)} {j : Nat}, midx k es = some j → mset k v es = es.set j (k, v)
  | [], _, h => by simp [midx] at h
  | (a, u) :: rest, j, h => by
    simp only [midx] at h
    split at h
    · rename_i hq
      obtain rfl := Option.some.inj h
      simp only [mset, hq, if_true, List.set_cons_zero]
    · rename_i hq
      cases hm : midx k rest with
      | none => simp [hm] at h
      | some i =>
        simp [hm] at h
        subst h
        simp only [mset, hq, Bool.false_eq_true, if_false, mset_some hm, List.set_cons_succ]
theorem mdel_none {k : Value} : ∀ {es : List (Value × Value)}, midx k es = none → mdel k es = es
  | [], _ => rfl
  | (a, u) :: rest, h => by
    simp only [midx] at h
    split at h
    · cases h
    · rename_i hq
      have : midx k rest = none := by cases hm : midx k rest <;> simp [hm] at h ⊢
      simp only [mdel, hq, Bool.false_eq_true, if_false, mdel_none this]
theorem mdel_some {k : Value} : ∀ {es : List (Value × Value)} {j : Nat}, midx k es = some j → mdel k es = es.eraseIdx j
  | [], _, h => by simp [midx] at h
  | (a, u) :: rest, j, h => by
    simp only [midx] at h
    split at h
    · rename_i hq
      obtain rfl := Option.some.inj h
      simp only [mdel, hq, if_true, List.eraseIdx_cons_zero]
    · rename_i hq
      cases hm : midx k rest with
      | none => simp [hm] at h
      | some i =>
        simp [hm] at h
        subst h
        simp only [mdel, hq, Bool.false_eq_true, if_false, mdel_some hm, List.eraseIdx_cons_succ]
theorem bytes_eq {a b : ByteArray} (h : (a == b) = true) : a = b := by
  obtain ⟨x⟩ := a
  obtain ⟨y⟩ := b
  have e : x = y := by simpa using (show (x == y) = true from h)
  rw [e]
theorem eqCells_same : ∀ {a b : List Value}, sameCells a b = true → eqCells a b = true → b = a
  | [], b, h, _ => by
    cases b with
    | nil => rfl
    | cons => simp [sameCells] at h
  | x :: a, b, h, he => by
    cases b with
    | nil => cases x <;> simp [sameCells] at h
    | cons y b =>
      cases x <;> cases y <;> simp only [sameCells] at h <;> try (cases h; done)
      split at h
      · rename_i hk
        simp only [eqCells] at he
        split at he
        · rename_i hn
          rw [eq_of_beq hk, eq_of_beq hn, eqCells_same h he]
        · cases he
      · cases h
theorem midx_key {kt : TypeId} {d : TypeDesc} {k : Value} (hk : KeyOf P kt d k) : ∀ {es : List (Value × Value)} {j : Nat}, midx k es = some j → keysOk k es = true → ∃ v, es[j]? = some (k, v)
  | [], _, h, _ => by simp [midx] at h
  | (a, u) :: rest, j, h, ho => by
    simp only [keysOk, List.all_cons, Bool.and_eq_true] at ho
    simp only [midx] at h
    split at h
    · rename_i hq
      obtain rfl := Option.some.inj h
      have : a = k := by
        cases hk <;> cases a <;> simp only [keyEq, sameK] at hq ho <;> try (cases hq; done)
        · rw [eq_of_beq hq, eq_of_beq ho.1]
        · rw [bytes_eq hq]
        · rw [eq_of_beq hq]
        · rw [Array.toList_inj.1 (eqCells_same ho.1 hq)]
      subst this
      exact ⟨u, rfl⟩
    · cases hm : midx k rest with
      | none => simp [hm] at h
      | some i =>
        simp [hm] at h
        subst h
        obtain ⟨v, hv⟩ := midx_key hk hm ho.2
        exact ⟨v, by simpa using hv⟩

theorem setObj_run {b clock : Nat} {l : Array MapEntry} (h : w.heap[b]? = some (.map l clock)) (o : Obj) : (setObj b o).run P w = .ok () { w with heap := w.heap.setIfInBounds b o } := by
  simp [setObj, Sem.run, h]
theorem mapset_rel {H : Heap} (hR : Rel ρ H w) {b : Nat} {p : Pl} (hb : ρ b = some p) {es es' : List (Value × Value)} {bs bs' : List Nat} {clk : Nat} (ho : H[b]? = some (.map es bs clk)) {l : Array MapEntry} (hw : w.heap[p.blk]? = some (.map l clk)) {l' : Array MapEntry} (clock' : Nat) (he : ER ρ es' l'.toList) (hst : Brn l'.toList clock') (hbs : l'.toList.map (·.born) = bs') :
    Rel ρ (H.set b (.map es' bs' clock')) { w with heap := w.heap.setIfInBounds p.blk (.map l' clock') } ∧ Ext ρ H w ρ (H.set b (.map es' bs' clock')) { w with heap := w.heap.setIfInBounds p.blk (.map l' clock') } := by
  have hlt : p.blk < w.heap.size := (Array.getElem?_eq_some_iff.1 hw).1
  have hoth : ∀ k, k ≠ p.blk → ({ w with heap := w.heap.setIfInBounds p.blk (.map l' clock') } : World).heap[k]? = w.heap[k]? := fun k hk => by simp [Ne.symm hk]
  have hor : OR ρ { w with heap := w.heap.setIfInBounds p.blk (.map l' clock') } p (.map es' bs' clock') :=
    ⟨l', by simp [hlt], by simpa using he.1, fun i k v e a c => he.2 i k v e a (by simpa using c), hst, hbs⟩
  exact ⟨hR.turn hb ho rfl rfl hoth hor, Ext.turn hb ho rfl hoth (by simp) rfl rfl rfl⟩
theorem ER.snoc {es : List (Value × Value)} {l : List MapEntry} (h : ER ρ es l) {k v : Value} {e : MapEntry} (hk : VR ρ k e.key) (hv : VR ρ v e.val) : ER ρ (es ++ [(k, v)]) (l ++ [e]) := by
  refine ⟨by simp [h.1], fun i k' v' e' a c => ?_⟩
  rcases Nat.lt_or_ge i es.length with hi | hi
  · rw [List.getElem?_append_left hi] at a
    rw [List.getElem?_append_left (h.1 ▸ hi)] at c
    exact h.2 i k' v' e' a c
  · rw [List.getElem?_append_right hi] at a
    rw [List.getElem?_append_right (h.1 ▸ hi)] at c
    have : i - es.length = 0 := by
      rcases Nat.eq_zero_or_pos (i - es.length) with q | q
      · exact q
      · rw [List.getElem?_eq_none (by simp; omega)] at a; cases a
    rw [this] at a
    rw [← h.1, this] at c
    simp at a c
    obtain ⟨rfl, rfl⟩ := a
    subst c
    exact ⟨hk, hv⟩
theorem ER.put {es : List (Value × Value)} {l : List MapEntry} (h : ER ρ es l) {j : Nat} {k v : Value} {f : MapEntry → MapEntry} (hf : ∀ e, VR ρ k (f e).key ∧ VR ρ v (f e).val) : ER ρ (es.set j (k, v)) (l.modify j f) := by
  refine ⟨by simp [h.1], fun i k' v' e' a c => ?_⟩
  by_cases hij : i = j
  · subst hij
    have hlt : i < es.length := by
      rcases Nat.lt_or_ge i es.length with q | q
      · exact q
      · rw [List.getElem?_eq_none (by simp; omega)] at a; cases a
    rw [List.getElem?_set_self hlt] at a
    rw [List.getElem?_modify] at c
    simp only [if_true] at c
    obtain ⟨rfl, rfl⟩ := Prod.mk.inj (Option.some.inj a)
    cases hl : l[i]? with
    | none => rw [hl] at c; simp at c
    | some e => rw [hl] at c; simp at c; subst c; exact hf e
  · rw [List.getElem?_set_ne (Ne.symm hij)] at a
    rw [List.getElem?_modify] at c
    exact h.2 i k' v' e' a (by simpa [Ne.symm hij] using c)
theorem ER.erase {es : List (Value × Value)} {l : List MapEntry} (h : ER ρ es l) {j : Nat} (hj : j < es.length) : ER ρ (es.eraseIdx j) (l.eraseIdx j) := by
  have hj' : j < l.length := h.1 ▸ hj
  refine ⟨by rw [List.length_eraseIdx, List.length_eraseIdx, h.1], fun i k v e a c => ?_⟩
  rw [List.getElem?_eraseIdx] at a c
  split at a
  · rename_i q; rw [if_pos q] at c; exact h.2 i k v e a c
  · rename_i q; rw [if_neg q] at c; exact h.2 _ k v e a c

theorem sameBits_cells (n : Nat) : ∀ {fs : List Field} {i : Nat} {a : List Value}, okCells P fs i a = true → ((a.zip a).all fun x => Instr.sameBits n x.1 x.2) = true
  | [], i, a, h => by rw [okCells_nil h]; rfl
  | f :: fs, i, a, h => by
    obtain ⟨kd, v, m, rfl, _, _, _, hr⟩ := okCells_cons h
    have := sameBits_cells n hr
    simp only [List.zip_cons_cons, List.all_cons, this, Bool.and_true]
    cases n <;> simp [Instr.sameBits]
theorem sameBits_key {kt : TypeId} {d : TypeDesc} {k : Value} (hk : KeyOf P kt d k) : Instr.sameBits 10000 k k = true := by
  cases hk with
  | int kd n => simp [Instr.sameBits]
  | string s => simp only [Instr.sameBits]; show (s.data == s.data) = true; simp
  | bool b => simp [Instr.sameBits]
  | agg fs cs hst hok =>
    have := sameBits_cells 9999 hok
    rw [show (10000 : Nat) = 9999 + 1 from rfl]
    simp only [Instr.sameBits, beq_self_eq_true, Bool.true_and]
    exact this
theorem mfind_none {k : Value} : ∀ {es : List (Value × Value)}, midx k es = none → mfind k es = none := fun h => by rw [mfind_midx, h]; rfl
theorem mfind_some {k : Value} {es : List (Value × Value)} {j : Nat} (h : midx k es = some j) : ∃ v, mfind k es = some v := by
  rw [mfind_midx, h]
  have := midx_lt h
  simp [this]
theorem bdel_none {k : Value} : ∀ {es : List (Value × Value)} {bs : List Nat}, midx k es = none → bdel k es bs = bs
  | [], bs, _ => by simp [bdel]
  | (a, v) :: es, [], _ => by simp [bdel]
  | (a, v) :: es, b :: bs, h => by
    simp only [midx] at h
    split at h
    · cases h
    · rename_i hq
      simp only [bdel, hq, Bool.false_eq_true, if_false]
      rw [bdel_none (by simpa using h)]
theorem bdel_some {k : Value} : ∀ {es : List (Value × Value)} {bs : List Nat} {j : Nat}, midx k es = some j → bdel k es bs = bs.eraseIdx j
  | [], bs, j, h => by simp [midx] at h
  | (a, v) :: es, [], j, _ => by simp [bdel]
  | (a, v) :: es, b :: bs, j, h => by
    simp only [midx] at h
    split at h
    · rename_i hq
      obtain rfl := Option.some.inj h
      simp only [bdel, hq, if_true, List.eraseIdx_cons_zero]
    · rename_i hq
      cases hm : midx k es with
      | none => simp [hm] at h
      | some i =>
        simp [hm] at h
        subst h
        simp only [bdel, hq, Bool.false_eq_true, if_false, bdel_some hm, List.eraseIdx_cons_succ]
theorem map_eraseIdx' {α γ : Type} (f : α → γ) : ∀ (l : List α) (j : Nat), (l.eraseIdx j).map f = (l.map f).eraseIdx j
  | [], j => rfl
  | a :: l, 0 => rfl
  | a :: l, j + 1 => by simp [map_eraseIdx' f l j]
theorem map_modify_born (l : List MapEntry) (j : Nat) (f : MapEntry → MapEntry) (hf : ∀ e, (f e).born = e.born) : (l.modify j f).map (·.born) = l.map (·.born) := by
  apply List.ext_getElem?
  intro i
  simp only [List.getElem?_map, List.getElem?_modify]
  split
  · cases l[i]? <;> simp [hf]
  · simp
theorem mapUpdate_sound {H : Heap} (hR : Rel ρ H w) {mt kt et : TypeId} (hu : P.underlying mt = some (.map kt et)) {d : TypeDesc} (hd : P.underlying kt = some d) {key v v' : Value} (hkey : KeyOf P kt d key) (hv : VR ρ v v') {b : Nat} {p : Pl} (hb : ρ b = some p) {es : List (Value × Value)} {bs : List Nat} {clk : Nat} (ho : H[b]? = some (.map es bs clk)) (hok : keysOk key es = true) :
    ∃ w', (Instr.mapUpdate mt (.map (some p.blk)) key v').run P w = .ok () w' ∧ Rel ρ (H.set b (.map (mset key v es) (bset key es bs clk) (cset key es clk))) w' ∧ Ext ρ H w ρ (H.set b (.map (mset key v es) (bset key es bs clk) (cset key es clk))) w' := by
  obtain ⟨l, hw, he, hst, hbn⟩ := hR.map hb ho
  have hfind := findKey_of (P := P) (w := w) hd hkey he hok
  cases hm : midx key es with
  | none =>
    rw [hm] at hfind
    simp only [Option.bind_none] at hfind
    have := mapset_rel hR hb ho hw (es' := es ++ [(key, v)]) (bs' := bs ++ [clk]) (l' := l.push { key, val := v', born := clk }) (clk + 1) (by rw [Array.toList_push]; exact he.snoc hkey.self hv) (by rw [Array.toList_push]; exact hst.snoc _ _) (by rw [Array.toList_push, List.map_append, hbn]; rfl)
    rw [mset_none hm, bset, cset, mfind_none hm]
    refine ⟨_, ?_, this.1, this.2⟩
    simp only [Instr.mapUpdate, Sem.run_bind, run_underlying hu, Result.andThen_ok, run_getMap hw, checkKey_of hd hkey, hfind, setObj_run hw]
  | some j =>
    have hj := midx_lt hm
    have hj' : j < l.toList.length := he.1 ▸ hj
    rw [hm] at hfind
    simp only [Option.bind_some] at hfind
    rw [List.getElem?_eq_getElem hj'] at hfind
    simp only [Option.map_some] at hfind
    obtain ⟨u, hju⟩ := midx_key hkey hm hok
    obtain ⟨hkk, _⟩ := he.2 j key u l.toList[j] hju (by simp [hj'])
    have hold : l.toList[j].key = key := hkey.eq_of hkk
    have hlj : l[j]? = some l.toList[j] := by
      have : j < l.size := by simpa using hj'
      simp [this]
    have hstay : (Instr.keyThatStays (((l[j]?).map (·.key)).getD key) key).run P w = .ok key w := by
      rw [hlj]
      simp only [Option.map_some, Option.getD_some, hold, Instr.keyThatStays, sameBits_key hkey, if_true, Sem.run_pure]
    have := mapset_rel hR hb ho hw (es' := es.set j (key, v)) (bs' := bs) (l' := l.modify j fun e => { e with key, val := v' }) clk (by rw [Array.toList_modify]; exact he.put fun e => ⟨hkey.self, hv⟩) (by rw [Array.toList_modify]; exact hst.modify _ _ fun e => rfl) (by rw [Array.toList_modify]; exact (map_modify_born l.toList j (fun e => { e with key, val := v' }) fun e => rfl).trans hbn)
    obtain ⟨v0, hv0⟩ := mfind_some hm
    rw [mset_some hm, bset, cset, hv0]
    refine ⟨_, ?_, this.1, this.2⟩
    simp only [Instr.mapUpdate, Sem.run_bind, run_underlying hu, Result.andThen_ok, run_getMap hw, checkKey_of hd hkey, hfind, hstay, setObj_run hw]
theorem delete_sound {H : Heap} (hR : Rel ρ H w) {mt kt et ty : TypeId} {ats : Array TypeId} (ha : ats[0]? = some mt) (hu : P.underlying mt = some (.map kt et)) {d : TypeDesc} (hd : P.underlying kt = some d) {key : Value} (hkey : KeyOf P kt d key) {b : Nat} {p : Pl} (hb : ρ b = some p) {es : List (Value × Value)} {bs : List Nat} {clk : Nat} (ho : H[b]? = some (.map es bs clk)) (hok : keysOk key es = true) :
    ∃ w', (Builtin.delete_ ats ty #[.map (some p.blk), key]).run P w = .ok (.tuple #[]) w' ∧ Rel ρ (H.set b (.map (mdel key es) (bdel key es bs) clk)) w' ∧ Ext ρ H w ρ (H.set b (.map (mdel key es) (bdel key es bs) clk)) w' := by
  obtain ⟨l, hw, he, hst, hbn⟩ := hR.map hb ho
  have hfind := findKey_of (P := P) (w := w) hd hkey he hok
  cases hm : midx key es with
  | none =>
    rw [hm] at hfind
    simp only [Option.bind_none] at hfind
    have := mapset_rel hR hb ho hw (es' := es) (bs' := bs) (l' := l) clk he hst hbn
    rw [mdel_none hm, bdel_none hm]
    refine ⟨_, ?_, this.1, this.2⟩
    simp only [Builtin.delete_, ha, List.getElem?_toArray, List.getElem?_cons_zero, List.getElem?_cons_succ, Sem.run_bind, run_underlying hu, Result.andThen_ok, run_getMap hw, checkKey_of hd hkey, hfind, setObj_run hw, Sem.run_pure]
  | some j =>
    have hj := midx_lt hm
    have hj' : j < l.toList.length := he.1 ▸ hj
    rw [hm] at hfind
    simp only [Option.bind_some] at hfind
    rw [List.getElem?_eq_getElem hj'] at hfind
    simp only [Option.map_some] at hfind
    have hl : (l.eraseIdxIfInBounds j).toList = l.toList.eraseIdx j := by
      have : j < l.size := by simpa using hj'
      unfold Array.eraseIdxIfInBounds
      rw [dif_pos this]
      simp
    have := mapset_rel hR hb ho hw (es' := es.eraseIdx j) (bs' := bs.eraseIdx j) (l' := l.eraseIdxIfInBounds j) clk (by rw [hl]; exact he.erase hj) (by rw [hl]; exact hst.erase j) (by rw [hl, map_eraseIdx', hbn])
    rw [mdel_some hm, bdel_some hm]
    refine ⟨_, ?_, this.1, this.2⟩
    simp only [Builtin.delete_, ha, List.getElem?_toArray, List.getElem?_cons_zero, List.getElem?_cons_succ, Sem.run_bind, run_underlying hu, Result.andThen_ok, run_getMap hw, checkKey_of hd hkey, hfind, setObj_run hw, Sem.run_pure]
theorem mapEntry_sound {H : Heap} (hR : Rel ρ H w) {mt kt et : TypeId} (hu : P.underlying mt = some (.map kt et)) {d : TypeDesc} (hd : P.underlying kt = some d) {key : Value} (hkey : KeyOf P kt d key) {b : Nat} {p : Pl} (hb : ρ b = some p) {k : Value → Heap → Option β} (h : ment P et H b key k = some r) :
    ∃ v v' H' w', k v H' = some r ∧ VR ρ v v' ∧ (Instr.mapEntry mt (.map (some p.blk)) key).run P w = .ok v' w' ∧ Rel ρ H' w' ∧ Ext ρ H w ρ H' w' := by
  unfold ment at h
  replace h := ldmB_inv h; obtain ⟨es, bs, clk, ho, h⟩ := h
  split at h
  rotate_left; · cases h
  rename_i hok
  obtain ⟨l, hw, he, hst, hbn⟩ := hR.map hb ho
  have hfind := findKey_of (P := P) (w := w) hd hkey he hok
  cases hm : midx key es with
  | none =>
    simp only [hm] at h
    replace h := onSome_inv h; obtain ⟨z, hz, h⟩ := h
    split at h
    rotate_left; · cases h
    rename_i hp
    rw [hm] at hfind
    simp only [Option.bind_none] at hfind
    have := mapset_rel hR hb ho hw (es' := es ++ [(key, z)]) (bs' := bs ++ [clk]) (l' := l.push { key, val := z, born := clk }) (clk + 1) (by rw [Array.toList_push]; exact he.snoc hkey.self (plainV_VR hp)) (by rw [Array.toList_push]; exact hst.snoc _ _) (by rw [Array.toList_push, List.map_append, hbn]; rfl)
    refine ⟨_, _, _, _, h, VR.tuple_mk (VL.cons (plainV_VR hp) (VL.cons (.int _ _) VL.nil)), ?_, this.1, this.2⟩
    simp only [Instr.mapEntry, Sem.run_bind, run_underlying hu, Result.andThen_ok, run_getMap hw, checkKey_of hd hkey, hfind, run_zero hz, setObj_run hw, Sem.run_pure, goInt]
  | some j =>
    simp only [hm] at h
    replace h := onSome_inv h; obtain ⟨e, hej, h⟩ := h
    replace h := onSome_inv h; obtain ⟨bj, hbj, h⟩ := h
    have hj := midx_lt hm
    have hj' : j < l.toList.length := he.1 ▸ hj
    rw [hm] at hfind
    simp only [Option.bind_some] at hfind
    rw [List.getElem?_eq_getElem hj'] at hfind
    simp only [Option.map_some] at hfind
    obtain ⟨u, hju⟩ := midx_key hkey hm hok
    rw [hej] at hju
    have he1 : e = (key, u) := Option.some.inj hju
    subst he1
    obtain ⟨hkk, hvv⟩ := he.2 j key u l.toList[j] hej (by simp [hj'])
    have hold : l.toList[j].key = key := hkey.eq_of hkk
    have hlj : l[j]? = some l.toList[j] := by
      have : j < l.size := by simpa using hj'
      simp [this]
    have hborn : l.toList[j].born = bj := by
      rw [← hbn, List.getElem?_map, List.getElem?_eq_getElem hj'] at hbj
      exact Option.some.inj hbj
    have hstay : (Instr.keyThatStays (((l[j]?).map (·.key)).getD key) key).run P w = .ok key w := by
      rw [hlj]
      simp only [Option.map_some, Option.getD_some, hold, Instr.keyThatStays, sameBits_key hkey, if_true, Sem.run_pure]
    have hgo := mapset_rel hR hb ho hw (es' := es.set j (key, u)) (bs' := bs) (l' := l.modify j fun e => { e with key }) clk (by
        rw [Array.toList_modify]
        refine ⟨by simp [he.1], fun i k' v' e' a c => ?_⟩
        by_cases hij : i = j
        · subst hij
          rw [List.getElem?_set_self hj] at a
          rw [List.getElem?_modify] at c
          simp only [if_true, List.getElem?_eq_getElem hj', Option.map_some] at c
          obtain ⟨rfl, rfl⟩ := Prod.mk.inj (Option.some.inj a)
          have := Option.some.inj c
          subst this
          exact ⟨hkey.self, hvv⟩
        · rw [List.getElem?_set_ne (Ne.symm hij)] at a
          rw [List.getElem?_modify] at c
          exact he.2 i k' v' e' a (by simpa [Ne.symm hij] using c)) (by rw [Array.toList_modify]; exact hst.modify _ _ fun e => rfl) (by rw [Array.toList_modify]; exact (map_modify_born l.toList j (fun e => { e with key }) fun e => rfl).trans hbn)
    refine ⟨_, .tuple #[l.toList[j].val, .int .i64 (bj : Int)], _, _, h, VR.tuple_mk (VL.cons hvv (VL.cons (.int _ _) VL.nil)), ?_, hgo.1, hgo.2⟩
    have hb2 : ((l[j]?).map (fun x => ((x.born : Nat) : Int))).getD 0 = bj := by rw [hlj, Option.map_some, Option.getD_some, hborn]
    simp only [Instr.mapEntry, Sem.run_bind, run_underlying hu, Result.andThen_ok, run_getMap hw, checkKey_of hd hkey, hfind, hstay, setObj_run hw, Sem.run_pure, goInt, hb2]
theorem bidx_find {n : Int} : ∀ {l : List MapEntry} {j : Nat}, bidx n (l.map (·.born)) = some j → l.findIdx? (fun e => ((e.born : Nat) : Int) == n) = some j ∧ j < l.length
  | [], j, h => by simp [bidx] at h
  | e :: l, j, h => by
    simp only [List.map_cons, bidx] at h
    rw [List.findIdx?_cons]
    cases hq : ((e.born : Nat) : Int) == n with
    | true =>
      simp only [hq] at h
      obtain rfl := Option.some.inj h
      exact ⟨by simp, by simp⟩
    | false =>
      simp only [hq] at h
      obtain ⟨i, hi, rfl⟩ := Option.map_eq_some_iff.1 h
      obtain ⟨a, b⟩ := bidx_find hi
      exact ⟨by simp [a], by simpa using b⟩
theorem bidx_find2 {n : Nat} : ∀ {l : List MapEntry} {j : Nat}, bidx (n : Int) (l.map (·.born)) = some j → ∃ e, l.find? (fun e => e.born == n) = some e ∧ l[j]? = some e
  | [], j, h => by simp [bidx] at h
  | e :: l, j, h => by
    simp only [List.map_cons, bidx] at h
    cases hq : ((e.born : Nat) : Int) == (n : Int) with
    | true =>
      simp only [hq] at h
      obtain rfl := Option.some.inj h
      have hb : (e.born == n) = true := by have := eq_of_beq hq; simp; omega
      exact ⟨e, by simp [List.find?_cons, hb], rfl⟩
    | false =>
      simp only [hq] at h
      obtain ⟨i, hi, rfl⟩ := Option.map_eq_some_iff.1 h
      obtain ⟨x, a, b⟩ := bidx_find2 hi
      have hb : (e.born == n) = false := by
        cases hz : e.born == n with
        | false => rfl
        | true => have := eq_of_beq hz; rw [this] at hq; simp at hq
      exact ⟨x, by simp [List.find?_cons, hb, a], by simpa using b⟩
theorem run_getIter {b since last : Nat} {m : Option Nat} {seen : Array Nat} (h : w.heap[b]? = some (.mapIter m since seen last)) : (getObj b).run P w = .ok (.mapIter m since seen last) w := by
  simp [getObj, Sem.run, h]
theorem entry_sound {H : Heap} (hR : Rel ρ H w) {a : Addr} {v' : Value} (hv : VR ρ (.pointer (some a)) v') {k : Value → Option β} (h : entr H a k = some r) : ∃ v u', k v = some r ∧ VR ρ v u' ∧ (Instr.entry v').run P w = .ok u' w := by
  unfold entr at h
  split at h
  rotate_left; · cases h
  rename_i rb since seen last hH
  replace h := ite_inv h; obtain ⟨hoff, h⟩ := h
  replace h := onSome_inv h; obtain ⟨s, hs, h⟩ := h
  replace h := ldmB_inv h; obtain ⟨es, bs, clk, hHm, h⟩ := h
  replace h := ite_inv h; obtain ⟨hcl, h⟩ := h
  replace h := onSome_inv h; obtain ⟨j, hj, h⟩ := h
  replace h := onSome_inv h; obtain ⟨e, he, h⟩ := h
  obtain ⟨p, hp, _, rfl⟩ := hv.ptr_inv
  obtain ⟨hb, r', hw, hr⟩ := hR.obj a.block p _ hp hH
  rw [hb, hoff, Nat.zero_add]
  obtain ⟨pm, hpm, hr0⟩ := hr.map_inv
  have hr0 : r' = some pm.blk := by injection hr0
  subst hr0
  obtain ⟨l, hl, hel, hst, hbn⟩ := hR.map hpm hHm
  rw [← hbn] at hj
  obtain ⟨x, hf, hx⟩ := bidx_find2 hj
  obtain ⟨h1, h2⟩ := hel.2 j e.1 e.2 x he hx
  have hf' : l.find? (fun e => e.born == s) = some x := by
    obtain ⟨ll⟩ := l
    rw [List.find?_toArray]; exact hf
  have hback : seen.toArray.back? = some s := by rw [List.back?_toArray]; exact hs
  refine ⟨_, _, h, VR.tuple_mk (VL.cons h1 (VL.cons h2 VL.nil)), ?_⟩
  have hc2 : (clk != last) = false := by simp [hcl]
  simp only [Instr.entry, Sem.run_bind, run_getIter hw, Result.andThen_ok, hback, run_getMap hl, hc2, Bool.false_eq_true, if_false, hf', Sem.run_pure]
theorem entryStore_sound {H : Heap} (hR : Rel ρ H w) {mt : TypeId} {kd : IntKind} {n : Int} {v v' : Value} (hv : VR ρ v v') {b : Nat} {p : Pl} (hb : ρ b = some p) {k : Heap → Option β} (h : esto H b n v k = some r) :
    ∃ H' w', k H' = some r ∧ (Instr.entryStore mt (.map (some p.blk)) (.int kd n) v').run P w = .ok () w' ∧ Rel ρ H' w' ∧ Ext ρ H w ρ H' w' := by
  unfold esto at h
  replace h := ldmB_inv h; obtain ⟨es, bs, clk, ho, h⟩ := h
  replace h := onSome_inv h; obtain ⟨j, hj, h⟩ := h
  replace h := onSome_inv h; obtain ⟨e, hej, h⟩ := h
  obtain ⟨l, hw, he, hst, hbn⟩ := hR.map hb ho
  rw [← hbn] at hj
  obtain ⟨hf, hjl⟩ := bidx_find hj
  have hje : j < es.length := by rw [he.1]; exact hjl
  obtain ⟨hkk, _⟩ := he.2 j e.1 e.2 l.toList[j] hej (by simp [hjl])
  have hgo := mapset_rel hR hb ho hw (es' := es.set j (e.1, v)) (bs' := bs) (l' := l.modify j fun e => { e with val := v' }) clk (by
        rw [Array.toList_modify]
        refine ⟨by simp [he.1], fun i k' u' e' a c => ?_⟩
        by_cases hij : i = j
        · subst hij
          rw [List.getElem?_set_self hje] at a
          rw [List.getElem?_modify] at c
          simp only [if_true, List.getElem?_eq_getElem hjl, Option.map_some] at c
          obtain ⟨rfl, rfl⟩ := Prod.mk.inj (Option.some.inj a)
          have := Option.some.inj c
          subst this
          exact ⟨hkk, hv⟩
        · rw [List.getElem?_set_ne (Ne.symm hij)] at a
          rw [List.getElem?_modify] at c
          exact he.2 i k' u' e' a (by simpa [Ne.symm hij] using c)) (by rw [Array.toList_modify]; exact hst.modify _ _ fun e => rfl) (by rw [Array.toList_modify]; exact (map_modify_born l.toList j (fun e => { e with val := v' }) fun e => rfl).trans hbn)
  refine ⟨_, _, h, ?_, hgo.1, hgo.2⟩
  have hf' : l.findIdx? (fun e => ((e.born : Nat) : Int) == n) = some j := by
    obtain ⟨ll⟩ := l
    rw [List.findIdx?_toArray]; exact hf
  simp only [Instr.entryStore, Sem.run_bind, run_getMap hw, Result.andThen_ok, asInt, asIntOf, hf', setObj_run hw, Sem.run_pure]
end
end Go.Proofs.YtgnkjpbecgpjoaaGreatDoor.Fw
set_option linter.unusedVariables false
set_option linter.unusedSimpArgs false
namespace Go.Proofs.YtgnkjpbecgpjoaaGreatDoor.Fw
open Go Go.RowKit

section
variable {P : Program} {ρ : Ren} {w : World} {β : Type} {r : β}

theorem val_run {s : Sem Value} {v : Value} {w' : World} (h : s.run P w = .ok v w') : (do pure (Next.value (← s)) : Sem Next).run P w = .ok (.value v) w' := by
  simp only [Sem.run_bind, h, Result.andThen_ok, Sem.run_pure]
theorem unit_run {s : Sem Unit} {w' : World} (h : s.run P w = .ok () w') : (do s; pure Next.skip : Sem Next).run P w = .ok .skip w' := by
  simp only [Sem.run_bind, h, Result.andThen_ok, Sem.run_pure]

/-- Parts of a composite, related. -/
def PL (ρ : Ren) (l l' : List (Nat × Value)) : Prop := l.length = l'.length ∧ ∀ (i : Nat) (a b : Nat) (v v' : Value), l[i]? = some (a, v) → l'[i]? = some (b, v') → a = b ∧ VR ρ v v'
theorem PL.zip {vs vs' : List Value} (h : VL ρ vs vs') : ∀ (is : List Nat), PL ρ (is.zip vs) (is.zip vs') := fun is => by
  refine ⟨by simp [h.1], fun i a b v v' x y => ?_⟩
  rw [List.getElem?_zip_eq_some] at x y
  obtain ⟨x1, x2⟩ := x
  obtain ⟨y1, y2⟩ := y
  rw [x1] at y1
  exact ⟨Option.some.inj y1, h.2 i v v' x2 y2⟩
theorem PL.cons_inv {a : Nat} {v : Value} {l l' : List (Nat × Value)} (h : PL ρ ((a, v) :: l) l') : ∃ v' m, l' = (a, v') :: m ∧ VR ρ v v' ∧ PL ρ l m := by
  cases l' with
  | nil => simp [PL] at h
  | cons e m =>
    obtain ⟨b, v'⟩ := e
    obtain ⟨rfl, hv⟩ := h.2 0 a b v v' rfl rfl
    exact ⟨v', m, rfl, hv, by have := h.1; simpa using this, fun i a b v v' x y => h.2 (i + 1) a b v v' (by simpa using x) (by simpa using y)⟩
theorem PL.nil_inv {l' : List (Nat × Value)} (h : PL ρ [] l') : l' = [] := by
  have := h.1
  cases l' with
  | nil => rfl
  | cons => simp at this

theorem zip_map {α γ δ : Type} (f : γ → δ) : ∀ (l : List (α × γ)), (l.map (·.1)).zip ((l.map (·.2)).map f) = l.map fun x => (x.1, f x.2)
  | [] => rfl
  | x :: l => by have := zip_map f l; simp only [List.map_cons, List.zip_cons_cons, this]

theorem VL.set {l l' : List Value} (h : VL ρ l l') (i : Nat) {v v' : Value} (hv : VR ρ v v') : VL ρ (l.set i v) (l'.set i v') := by
  refine ⟨by simp [h.1], fun j a b ha hb => ?_⟩
  rw [List.getElem?_set] at ha hb
  split at ha
  · rename_i e
    subst e
    rw [if_pos rfl] at hb
    split at ha
    · rename_i hi
      rw [if_pos (h.1 ▸ hi)] at hb
      obtain rfl := Option.some.inj ha
      obtain rfl := Option.some.inj hb
      exact hv
    · cases ha
  · rename_i e
    rw [if_neg e] at hb
    exact h.2 j a b ha hb

theorem One.set {l : List Value} (h : One l) (i : Nat) {v : Value} (hv : v.oneCell' = true) : One (l.set i v) := fun u hu => by
  rcases List.mem_or_eq_of_mem_set hu with hu | rfl
  · exact h u hu
  · exact hv
theorem foldl_one {vs : List Value} (off : Nat) (h : One vs) : ∀ (n : Nat) (cells : Array Value), One cells.toList → One ((vs.zipIdx n).foldl (fun cs (x : Value × Nat) => cs.setIfInBounds (off + x.2) x.1) cells).toList := by
  induction vs with
  | nil => intro n c hc; exact hc
  | cons v vs ih =>
    intro n c hc
    simp only [List.zipIdx_cons, List.foldl_cons]
    refine ih (fun u hu => h u (by simp [hu])) (n + 1) _ ?_
    simp only [Array.toList_setIfInBounds]
    exact hc.set _ (h v (by simp))
theorem foldl_set {vs vs' : List Value} (off : Nat) (h : VL ρ vs vs') : ∀ (n : Nat) (cells cells' : Array Value), VL ρ cells.toList cells'.toList →
    VL ρ ((vs.zipIdx n).foldl (fun cs (x : Value × Nat) => cs.setIfInBounds (off + x.2) x.1) cells).toList ((vs'.zipIdx n).foldl (fun cs (x : Value × Nat) => cs.setIfInBounds (off + x.2) x.1) cells').toList := by
  induction vs generalizing vs' with
  | nil => intro n c c' hc; rw [h.nil_inv]; exact hc
  | cons v vs ih =>
    intro n c c' hc
    obtain ⟨v', m, rfl, hv, hm⟩ := h.cons_inv
    simp only [List.zipIdx_cons, List.foldl_cons]
    refine ih hm (n + 1) _ _ ?_
    simp only [Array.toList_setIfInBounds]
    exact hc.set _ hv

theorem fill_VL {place : Nat → Option (Nat × Nat)} : ∀ (l l' : List (Nat × Value)) (z z' cells : Array Value), PL ρ l l' → VL ρ z.toList z'.toList → Instr.fill place z l = some cells →
    ∃ cells', Instr.fill place z' l' = some cells' ∧ VL ρ cells.toList cells'.toList
  | [], l', z, z', cells, hl, hz, h => by
    simp only [Instr.fill] at h
    obtain rfl := Option.some.inj h
    rw [hl.nil_inv]
    exact ⟨z', rfl, hz⟩
  | (i, v) :: l, l', z, z', cells, hl, hz, h => by
    obtain ⟨v', m, rfl, hv, hm⟩ := hl.cons_inv
    simp only [Instr.fill] at h ⊢
    cases hp : place i with
    | none => simp [hp] at h
    | some os =>
      obtain ⟨off, size⟩ := os
      simp only [hp] at h ⊢
      have hc := hv.cells
      have hsz : v'.cells.size = v.cells.size := by have := hc.1; simpa using this.symm
      have hzz : z'.size = z.size := by have := hz.1; simpa using this.symm
      rw [hsz, hzz]
      split at h
      · cases h
      · rename_i hcond
        rw [if_neg hcond]
        refine fill_VL l m _ _ cells hm ?_ h
        have := foldl_set off hc 0 z z' hz
        rw [← Array.foldl_toList, ← Array.foldl_toList, Array.toList_zipIdx, Array.toList_zipIdx]
        exact this

/-- All parts are of cells of one cell each. -/
def POne (l : List (Nat × Value)) : Prop := ∀ x ∈ l, One x.2.cells.toList
theorem fill_one {place : Nat → Option (Nat × Nat)} : ∀ (l : List (Nat × Value)) (z cells : Array Value), POne l → One z.toList → Instr.fill place z l = some cells → One cells.toList
  | [], z, cells, hl, hz, h => by
    simp only [Instr.fill] at h
    obtain rfl := Option.some.inj h
    exact hz
  | (i, v) :: l, z, cells, hl, hz, h => by
    simp only [Instr.fill] at h
    cases hp : place i with
    | none => simp [hp] at h
    | some os =>
      obtain ⟨off, size⟩ := os
      simp only [hp] at h
      split at h
      · cases h
      · have := foldl_one off (hl (i, v) (by simp)) 0 z hz
        refine fill_one l _ cells (fun x hx => hl x (by simp [hx])) ?_ h
        rw [← Array.foldl_toList, Array.toList_zipIdx]
        exact this

theorem VL.toArray {l l' : List Value} (h : VL ρ l l') : VL ρ l.toArray.toList l'.toArray.toList := by simpa using h

theorem plainV_cells {z : Value} (h : plainV z = true) (hz : z.oneCell' = true ∨ ∃ cs, z = .agg cs) : One z.cells.toList := (plainV_VR (ρ := fun _ => none) h).cells_one hz
theorem built_VL {t : TypeId} {l l' : List (Nat × Value)} {cells : Array Value} {z : Value} (hl : PL ρ l l') (hl1 : POne l) (hz : zeroOf P t = some z) (hp : plainV z = true) (hz1 : One z.cells.toList) (h : P.built t l = some cells) :
    ∃ cells', P.built t l' = some cells' ∧ VL ρ cells.toList cells'.toList ∧ One cells.toList := by
  unfold zeroOf at hz
  cases hi : P.info? t with
  | none => simp [hi] at hz
  | some it =>
    simp only [hi] at hz
    have hzz : VL ρ z.cells.toList z.cells.toList := (plainV_VR hp).cells
    unfold Program.built at h ⊢
    simp only [hi] at h ⊢
    cases hu : P.underlying t with
    | none => simp [hu] at h
    | some d =>
      cases d <;> simp only [hu] at h ⊢ <;> try (cases h; done)
      · rename_i n e
        simp only [hz] at h ⊢
        cases he : P.info? e with
        | none => simp [he] at h
        | some ie =>
          simp only [he] at h ⊢
          obtain ⟨c', q1, q2⟩ := fill_VL l l' _ _ cells hl hzz h
          exact ⟨c', q1, q2, fill_one l _ cells hl1 hz1 h⟩
      · rename_i fs
        simp only [hz] at h ⊢
        cases hm : fs.toList.mapM (fun f => (P.info? f.type).map fun i => (f.offset, i.size)) with
        | none => simp [hm] at h
        | some places =>
          simp only [hm] at h ⊢
          obtain ⟨c', q1, q2⟩ := fill_VL l l' _ _ cells hl hzz h
          exact ⟨c', q1, q2, fill_one l _ cells hl1 hz1 h⟩

theorem optInt_inv {t : Tm} {a : Act} (ht : TR ρ t a.tmps) {x : Option Operand} {d : Int} {k : Int → Option β} (h : optInt t x d k = some r) :
    ∃ n, k n = some r ∧ ((x = none ∧ n = d) ∨ ∃ o kd, x = some o ∧ a.eval o = .int kd n) := by
  cases x with
  | none => exact ⟨d, h, .inl ⟨rfl, rfl⟩⟩
  | some o =>
    simp only [optInt] at h
    obtain ⟨v, hv, h⟩ := opd_inv ht h
    replace h := kAnyInt_inv h; obtain ⟨kd, n, rfl, h⟩ := h
    exact ⟨n, h, .inr ⟨o, kd, rfl, hv.int_inv⟩⟩

theorem bound_run {kd : IntKind} {i : Int} {y : Nat} {code : BoundsCode} (h0 : 0 ≤ i) (h1 : i ≤ y) : (Instr.sliceBound (.int kd i) y code).run P w = .ok i.toNat w := by
  simp [Instr.sliceBound, asIntOf, h0, h1]

/-- The bounds of a slicing, without a third number. -/
theorem bounds_run {isS : Bool} {len cap : Nat} {lo hi : Option Value} {l h : Int} (hh : (hi = none ∧ h = len) ∨ ∃ kd, hi = some (.int kd h)) (hl : (lo = none ∧ l = 0) ∨ ∃ kd, lo = some (.int kd l))
    (h0 : 0 ≤ l) (h1 : l ≤ h) (h2 : h ≤ cap) : (Instr.sliceBounds isS len cap lo hi none).run P w = .ok (l.toNat, h.toNat, cap) w := by
  have hpos : 0 ≤ h := by omega
  have hlt : l ≤ (h.toNat : Int) := by omega
  rcases hh with ⟨rfl, rfl⟩ | ⟨kd, rfl⟩ <;> rcases hl with ⟨rfl, rfl⟩ | ⟨kd', rfl⟩
  · simp [Instr.sliceBounds]
  · have hlt' : l ≤ (len : Int) := h1
    simp [Instr.sliceBounds, bound_run h0 hlt']
  · simp [Instr.sliceBounds, bound_run hpos h2]
  · simp [Instr.sliceBounds, bound_run hpos h2, bound_run h0 hlt]

theorem bounds3_run {isS : Bool} {len cap : Nat} {lo hi : Option Value} {kd : IntKind} {l h m : Int} (hh : (hi = none ∧ False) ∨ ∃ kd, hi = some (.int kd h)) (hl : (lo = none ∧ l = 0) ∨ ∃ kd, lo = some (.int kd l))
    (h0 : 0 ≤ l) (h1 : l ≤ h) (h2 : h ≤ m) (h3 : m ≤ cap) : (Instr.sliceBounds isS len cap lo hi (some (.int kd m))).run P w = .ok (l.toNat, h.toNat, m.toNat) w := by
  have hpos : 0 ≤ h := by omega
  have mpos : 0 ≤ m := by omega
  have hlt : l ≤ (h.toNat : Int) := by omega
  have hm : h ≤ (m.toNat : Int) := by omega
  rcases hh with ⟨_, hf⟩ | ⟨kd2, rfl⟩
  · exact hf.elim
  · rcases hl with ⟨rfl, rfl⟩ | ⟨kd', rfl⟩
    · simp [Instr.sliceBounds, bound_run mpos h3, bound_run hpos hm]
    · simp [Instr.sliceBounds, bound_run mpos h3, bound_run hpos hm, bound_run h0 hlt]

theorem bytesOf_inv : ∀ {l : List Value} {bs : List UInt8}, bytesOf l = some bs → ∃ ns : List Int, l = ns.map (Value.int .u8) ∧ bs = ns.map fun n => UInt8.ofNat n.toNat
  | [], bs, h => by simp only [bytesOf] at h; obtain rfl := Option.some.inj h; exact ⟨[], rfl, rfl⟩
  | c :: l, bs, h => by
    cases c with
    | int kd n =>
      cases kd with
      | u8 =>
        simp only [bytesOf] at h
        cases hr : bytesOf l with
        | none => simp [hr] at h
        | some q =>
          simp only [hr, Option.map_some] at h
          obtain rfl := Option.some.inj h
          obtain ⟨ns, rfl, rfl⟩ := bytesOf_inv hr
          exact ⟨n :: ns, rfl, rfl⟩
      | _ => simp [bytesOf] at h
    | _ => simp [bytesOf] at h
theorem foldl_push : ∀ (ns : List Int) (s : ByteArray), ns.foldl (fun r n => r.push (UInt8.ofNat n.toNat)) s = ⟨s.data ++ (ns.map fun n => UInt8.ofNat n.toNat).toArray⟩
  | [], s => by simp
  | n :: ns, s => by
    rw [List.foldl_cons, foldl_push ns]
    congr 1
    apply Array.ext'
    simp [ByteArray.push]
theorem bytesToString_run {a : Addr} {len cap : Nat} {l : List Value} {bs : List UInt8} (hl : (loadCells a len).run P w = .ok l.toArray w) (hb : bytesOf l = some bs) :
    (Conv.bytesToString (.slice (some a) len cap)).run P w = .ok (.string ⟨bs.toArray⟩) w := by
  obtain ⟨ns, rfl, rfl⟩ := bytesOf_inv hb
  rw [run_bytesToString w a len cap ns hl, foldl_push]
  have e : ByteArray.empty.data = #[] := rfl
  rw [e, Array.empty_append]
end
end Go.Proofs.YtgnkjpbecgpjoaaGreatDoor.Fw
