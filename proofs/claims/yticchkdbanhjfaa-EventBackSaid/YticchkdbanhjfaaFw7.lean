/- FRAMEWORK 7: maps: what is found on the abstract heap is found in the world. -/
import Derived.Test.YticchkdbanhjfaaFw6
set_option linter.unusedVariables false
set_option linter.unusedSimpArgs false
namespace Go.Proofs.Yticchkdbanhjfaa.Fw
open Go Go.RowKit

section
variable {P : Program} {ρ : Ren} {w : World} {β : Type} {r : β}

def ER (ρ : Ren) (es : List (Value × Value)) (l : List MapEntry) : Prop :=
  es.length = l.length ∧ ∀ (i : Nat) (k v : Value) (e : MapEntry), es[i]? = some (k, v) → l[i]? = some e → VR ρ k e.key ∧ VR ρ v e.val
theorem ER.cons_inv {k v : Value} {es : List (Value × Value)} {l : List MapEntry} (h : ER ρ ((k, v) :: es) l) : ∃ e m, l = e :: m ∧ VR ρ k e.key ∧ VR ρ v e.val ∧ ER ρ es m := by
  cases l with
  | nil => simp [ER] at h
  | cons e m =>
    obtain ⟨a, b⟩ := h.2 0 k v e rfl rfl
    exact ⟨e, m, rfl, a, b, by have := h.1; simpa using this, fun i k v e x y => h.2 (i + 1) k v e (by simpa using x) (by simpa using y)⟩
theorem ER.nil_inv {l : List MapEntry} (h : ER ρ [] l) : l = [] := by
  have := h.1
  cases l with
  | nil => rfl
  | cons => simp at this

/-- A key's kind. -/
inductive KeyOf : TypeDesc → Value → Prop
  | int (kd : IntKind) (n : Int) : KeyOf (.int kd) (.int kd n)
  | string (s : ByteArray) : KeyOf .string (.string s)
  | bool (b : Bool) : KeyOf .bool (.bool b)

theorem sameNow_of {d : TypeDesc} {key a a' : Value} (hk : KeyOf d key) (hs : sameK key a = true) (ha : VR ρ a a') : Instr.sameNow d key a' = some (keyEq key a) := by
  cases hk with
  | int kd n =>
    cases a <;> simp only [sameK] at hs <;> try (cases hs; done)
    rw [ha.int_inv]
    have := eq_of_beq hs
    subst this
    simp [Instr.sameNow, keyEq]
  | string s =>
    cases a <;> simp only [sameK] at hs <;> try (cases hs; done)
    rw [ha.string_inv]; rfl
  | bool b =>
    cases a <;> simp only [sameK] at hs <;> try (cases hs; done)
    rw [ha.bool_inv]; rfl

/-- Where a key is found. -/
def midx (k : Value) : List (Value × Value) → Option Nat
  | [] => none
  | (a, _) :: rest => if keyEq k a then some 0 else (midx k rest).map (· + 1)

theorem mfind_midx (k : Value) : ∀ es, mfind k es = (midx k es).bind fun i => (es[i]?).map (·.2)
  | [] => rfl
  | (a, v) :: rest => by
    simp only [mfind, midx]
    split
    · rfl
    · rw [mfind_midx k rest]; cases midx k rest <;> simp
theorem midx_lt {k : Value} : ∀ {es : List (Value × Value)} {i : Nat}, midx k es = some i → i < es.length
  | [], _, h => by simp [midx] at h
  | (a, v) :: rest, i, h => by
    simp only [midx] at h
    split at h
    · simp at h; subst h; simp
    · cases hm : midx k rest with
      | none => simp [hm] at h
      | some j => simp [hm] at h; subst h; have := midx_lt hm; simp; omega

theorem findNow_of {d : TypeDesc} {key : Value} (hk : KeyOf d key) : ∀ (es : List (Value × Value)) (l : List MapEntry) (i : Nat), ER ρ es l → keysOk key es = true →
    Instr.findNow d key l i = some ((midx key es).bind fun j => (l[j]?).map fun e => (i + j, e.val))
  | [], l, i, h, _ => by rw [h.nil_inv]; rfl
  | (a, v) :: rest, l, i, h, ho => by
    obtain ⟨e, m, rfl, ha, hv, hr⟩ := h.cons_inv
    simp only [keysOk, List.all_cons, Bool.and_eq_true] at ho
    simp only [Instr.findNow, sameNow_of hk ho.1 ha, midx]
    cases hq : keyEq key a with
    | true => simp
    | false =>
      have := findNow_of hk rest m (i + 1) hr ho.2
      simp only [this, Bool.false_eq_true, if_false]
      cases midx key rest with
      | none => rfl
      | some j => simp [Nat.add_assoc, Nat.add_comm 1 j]

theorem findKey_of {kt : TypeId} {d : TypeDesc} {key : Value} (hu : P.underlying kt = some d) (hk : KeyOf d key) {es : List (Value × Value)} {l : List MapEntry} (h : ER ρ es l) (ho : keysOk key es = true) :
    (Instr.findKey kt key l).run P w = .ok ((midx key es).bind fun j => (l[j]?).map fun e => (j, e.val)) w := by
  simp only [Instr.findKey, Sem.run_bind, run_underlying hu, Result.andThen_ok, findNow_of hk es l 0 h ho]
  simp

theorem checkKey_of {kt : TypeId} {d : TypeDesc} {key : Value} (hu : P.underlying kt = some d) (hk : KeyOf d key) (b : Bool) (n : Nat) : (Instr.checkKey b (n + 1) kt key).run P w = .ok () w := by
  cases hk <;> simp [Instr.checkKey, run_underlying hu]

theorem keyKd_inv {kt : TypeId} {kk : KD} (hk : keyKd P kt = some kk) {ix : Value} {f : Value → Option β} (h : kTy (some kk) ix f = some r) : ∃ d, P.underlying kt = some d ∧ KeyOf d ix := by
  rcases keyTy_forms hk h with ⟨kd, n, rfl, hu⟩ | ⟨s, rfl, hu⟩ | ⟨b, rfl, hu⟩
  · exact ⟨_, hu, .int kd n⟩
  · exact ⟨_, hu, .string s⟩
  · exact ⟨_, hu, .bool b⟩
theorem KeyOf.self {d : TypeDesc} {key : Value} (hk : KeyOf d key) : VR ρ key key := by cases hk <;> constructor
theorem KeyOf.eq_of {d : TypeDesc} {key v' : Value} (hk : KeyOf d key) (h : VR ρ key v') : v' = key := by cases hk <;> cases h <;> rfl

theorem Rel.map {H : Heap} (hR : Rel ρ H w) {b : Nat} {p : Pl} (hb : ρ b = some p) {es : List (Value × Value)} (ho : H[b]? = some (.map es)) : ∃ l clock, w.heap[p.blk]? = some (.map l clock) ∧ ER ρ es l.toList := by
  obtain ⟨l, clock, h1, h2, h3⟩ := hR.obj b p _ hb ho
  exact ⟨l, clock, h1, by simpa using h2, fun i k v e a c => h3 i k v e a (by simpa using c)⟩

theorem run_getMap {b clock : Nat} {l : Array MapEntry} (h : w.heap[b]? = some (.map l clock)) : (getObj b).run P w = .ok (.map l clock) w := by
  simp [getObj, Sem.run, h]

/-- The entries of a map that may be nil. -/
theorem ldmo_sound {H : Heap} (hR : Rel ρ H w) {x : Value} {rr : Option Nat} (hx : VR ρ (.map rr) x) {c : List (Value × Value) → Option β} (h : ldmo H rr c = some r) :
    ∃ es l, c es = some r ∧ ER ρ es l ∧ ((rr = none ∧ x = .map none ∧ l = []) ∨ ∃ b clock, x = .map (some b) ∧ w.heap[b]? = some (.map l.toArray clock)) := by
  cases rr with
  | none => exact ⟨[], [], h, ⟨rfl, by simp⟩, .inl ⟨rfl, hx.mapN_inv, rfl⟩⟩
  | some b =>
    simp only [ldmo] at h
    obtain ⟨es, hH, h⟩ := ldm_inv h
    obtain ⟨p, hp, rfl⟩ := hx.map_inv
    obtain ⟨l, clock, h1, h2⟩ := hR.map hp hH
    exact ⟨es, l.toList, h, h2, .inr ⟨p.blk, clock, rfl, by simpa using h1⟩⟩

theorem lookupK_sound {H : Heap} (hR : Rel ρ H w) {mt : TypeId} {x ix x' ix' : Value} {ok : Bool} {k : Value → Option β} (h : lookupK P mt H x ix ok k = some r) (hx : VR ρ x x') (hi : VR ρ ix ix') :
    ∃ v v', k v = some r ∧ VR ρ v v' ∧ (Instr.lookup mt x' ix' ok).run P w = .ok v' w := by
  unfold lookupK at h
  split at h
  · rename_i kt et hu
    replace h := onSome_inv h; obtain ⟨kk, hkk, h⟩ := h
    obtain ⟨d, hd, hkey⟩ := keyKd_inv hkk h
    replace h := kTy_inv h
    replace h := kMp_inv h; obtain ⟨rr, rfl, h⟩ := h
    rw [hkey.eq_of hi]
    obtain ⟨es, l, h1, h2, h3⟩ := ldmo_sound hR hx h
    split at h1
    · cases h1
    · rename_i hok
      have hfind := findKey_of (P := P) (w := w) hd hkey h2 hok
      have main : ∀ (v v' : Value) (o : Bool), VR ρ v v' → VR ρ (okV ok v o) (if ok = true then .tuple #[v', .bool o] else v') := fun v v' o hv => by
        cases ok with
        | true => exact VR.tuple_mk (VL.cons hv (VL.cons (.bool o) VL.nil))
        | false => exact hv
      have run1 : ∀ (j : Nat) (v' : Value), (Instr.findKey kt ix l).run P w = .ok (some (j, v')) w → (Instr.lookup mt x' ix ok).run P w = .ok (if ok = true then .tuple #[v', .bool true] else v') w := fun j v' hq1 => by
        rcases h3 with ⟨_, rfl, rfl⟩ | ⟨b, clock, rfl, hb⟩
        · simp only [Instr.lookup, Sem.run_bind, run_underlying hu, Result.andThen_ok, Sem.run_pure, checkKey_of hd hkey, hq1]
        · simp only [Instr.lookup, Sem.run_bind, run_underlying hu, Result.andThen_ok, run_getMap hb, Sem.run_pure, checkKey_of hd hkey, hq1]
      have run2 : ∀ (z : Value), zeroOf P et = some z → (Instr.findKey kt ix l).run P w = .ok none w → (Instr.lookup mt x' ix ok).run P w = .ok (if ok = true then .tuple #[z, .bool false] else z) w := fun z hz hq1 => by
        rcases h3 with ⟨_, rfl, rfl⟩ | ⟨b, clock, rfl, hb⟩
        · simp only [Instr.lookup, Sem.run_bind, run_underlying hu, Result.andThen_ok, Sem.run_pure, checkKey_of hd hkey, hq1, run_zero hz]
        · simp only [Instr.lookup, Sem.run_bind, run_underlying hu, Result.andThen_ok, run_getMap hb, Sem.run_pure, checkKey_of hd hkey, hq1, run_zero hz]
      rw [mfind_midx] at h1
      cases hm : midx ix es with
      | none =>
        rw [hm] at h1 hfind
        simp only [Option.bind_none] at h1 hfind
        replace h1 := onSome_inv h1; obtain ⟨z, hz, h1⟩ := h1
        split at h1
        · rename_i hp
          exact ⟨_, _, h1, main z z false (plainV_VR hp), run2 z hz hfind⟩
        · cases h1
      | some j =>
        have hj := midx_lt hm
        have hj' : j < l.length := h2.1 ▸ hj
        rw [hm] at h1 hfind
        simp only [Option.bind_some] at h1 hfind
        rw [List.getElem?_eq_getElem hj] at h1
        rw [List.getElem?_eq_getElem hj'] at hfind
        simp only [Option.map_some] at h1 hfind
        replace h1 := kTy_inv h1
        obtain ⟨_, hv⟩ := h2.2 j (es[j].1) (es[j].2) l[j] (by simp [hj]) (by simp [hj'])
        exact ⟨_, _, h1, main _ _ true hv, run1 _ _ hfind⟩
  · cases h
end
end Go.Proofs.Yticchkdbanhjfaa.Fw
