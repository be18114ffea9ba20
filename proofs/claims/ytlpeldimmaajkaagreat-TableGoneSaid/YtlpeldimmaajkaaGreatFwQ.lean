/- FRAMEWORK 26: arguments that are made of whole numbers, bools and texts: structs, arrays, and slices of these. -/
import Derived.Test.YtlpeldimmaajkaaGreatFwP
import Derived.OpenShut
set_option linter.unusedVariables false
set_option linter.unusedSimpArgs false
namespace Go.Proofs.YtlpeldimmaajkaaGreat.Fw
open Go Go.RowKit Go.ChangeShapes

/-- The kinds of a type's cells, if all of them are plain. -/
def flatGo (P : Program) (k : TypeId → Option (List TypeDesc)) : List Field → Nat → Option (List TypeDesc)
  | [], _ => some []
  | f :: fs, off => if f.offset = off then (k f.type).bind fun a => if a.length = P.cellsOf f.type then (flatGo P k fs (off + a.length)).map (a ++ ·) else none else none
def flatK (P : Program) : Nat → TypeId → Option (List TypeDesc)
  | 0, _ => none
  | n + 1, t => match P.underlying t with
    | some .bool => some [.bool]
    | some (.int k) => some [.int k]
    | some .string => some [.string]
    | some (.struct fs) => (flatGo P (flatK P n) fs.toList 0).bind fun l => if l.length = P.cellsOf t then some l else none
    | some (.array m e) => (flatK P n e).bind fun a => if a.length = P.cellsOf e ∧ m * a.length = P.cellsOf t then some (List.replicate m a).flatten else none
    | _ => none

/-- Cells of such kinds. -/
def Flat (ks : List TypeDesc) (cs : List Value) : Prop := cs.length = ks.length ∧ ∀ (i : Nat) (d : TypeDesc) (v : Value), ks[i]? = some d → cs[i]? = some v → ofKind d v
theorem Flat.nil : Flat [] [] := ⟨rfl, by simp⟩
theorem Flat.append {a b : List TypeDesc} {x y : List Value} (h : Flat a x) (k : Flat b y) : Flat (a ++ b) (x ++ y) := by
  refine ⟨by simp [h.1, k.1], fun i d v hd hv => ?_⟩
  rcases Nat.lt_or_ge i a.length with hi | hi
  · rw [List.getElem?_append_left hi] at hd
    rw [List.getElem?_append_left (h.1 ▸ hi)] at hv
    exact h.2 i d v hd hv
  · rw [List.getElem?_append_right hi] at hd
    rw [List.getElem?_append_right (h.1 ▸ hi), h.1] at hv
    exact k.2 _ d v hd hv
theorem Flat.plain {ks : List TypeDesc} {cs : List Value} (h : Flat ks cs) : ∀ v ∈ cs, plain1 v = true := fun v hv => by
  obtain ⟨i, hi⟩ := List.mem_iff_getElem?.1 hv
  have hlt := (List.getElem?_eq_some_iff.1 hi).1
  have hk : i < ks.length := h.1 ▸ hlt
  exact ofKind_plain (h.2 i ks[i] v (by simp [hk]) hi)
theorem Flat.cons_inv {d : TypeDesc} {ks : List TypeDesc} {cs : List Value} (h : Flat (d :: ks) cs) : ∃ v l, cs = v :: l ∧ ofKind d v ∧ Flat ks l := by
  cases cs with
  | nil => have := h.1; simp at this
  | cons v l => exact ⟨v, l, rfl, h.2 0 d v rfl rfl, by have := h.1; simp at this; exact this, fun i d' v' a b => h.2 (i + 1) d' v' (by simpa using a) (by simpa using b)⟩
theorem Flat.nil_inv {cs : List Value} (h : Flat [] cs) : cs = [] := by
  cases cs with
  | nil => rfl
  | cons v l => have := h.1; simp at this

theorem take_drop_split (cs : List Value) (off n : Nat) : cs.drop off = (cs.drop off).take n ++ cs.drop (off + n) := by
  rw [show cs.drop (off + n) = (cs.drop off).drop n by rw [List.drop_drop], List.take_append_drop]

section
variable {H : Type} {enc : TypeId × Value → H} {P : Program} {w : World} {base : Nat} {sp : Nat → Bool} {held : Bool}

theorem flatGo_sound {k : TypeId → Option (List TypeDesc)} {n : Nat} (hk : ∀ t a cs x, k t = some a → DataW.trod enc P w base sp held n t cs = some x → Flat a cs) {cs : List Value} : ∀ (fs : List Field) (off : Nat) (l : List TypeDesc), flatGo P k fs off = some l →
    (∀ f ∈ fs, ∃ x, DataW.trod enc P w base sp held n f.type ((cs.drop f.offset).take (P.cellsOf f.type)) = some x) → cs.length = off + l.length → Flat l (cs.drop off)
  | [], off, l, h, hx, hl => by
    obtain rfl := Option.some.inj h
    have : cs.drop off = [] := by rw [List.drop_eq_nil_iff]; simp at hl; omega
    rw [this]; exact Flat.nil
  | f :: fs, off, l, h, hx, hl => by
    simp only [flatGo] at h
    split at h
    · rename_i ho
      obtain ⟨a, ha, h⟩ := Option.bind_eq_some_iff.1 h
      split at h
      · rename_i hal
        obtain ⟨l', hl', rfl⟩ := Option.map_eq_some_iff.1 h
        obtain ⟨x, hx1⟩ := hx f (by simp)
        have h1 := hk _ _ _ _ ha hx1
        have h2 := flatGo_sound hk fs _ _ hl' (fun f hf => hx f (by simp [hf])) (by simp at hl ⊢; omega)
        rw [ho, ← hal] at h1
        rw [take_drop_split cs off a.length]
        exact h1.append h2
      · cases h
    · cases h

theorem flatK_sound : ∀ (m n : Nat) (t : TypeId) (ks : List TypeDesc) (cs : List Value) (x : DataW H × List MemPlace), flatK P m t = some ks → DataW.trod enc P w base sp held n t cs = some x → Flat ks cs
  | 0, n, t, ks, cs, x, h, hx => by cases h
  | m + 1, n, t, ks, cs, x, h, hx => by
    unfold flatK at h
    split at h
    · rename_i ht
      obtain rfl := Option.some.inj h
      obtain ⟨b, rfl, _⟩ := DataW.trod_bool ht hx
      refine ⟨rfl, fun i d v hd hv => ?_⟩
      match i with
      | 0 => simp at hd hv; subst hd; subst hv; exact ⟨b, rfl⟩
      | i + 1 => simp at hd
    · rename_i k ht
      obtain rfl := Option.some.inj h
      obtain ⟨b, rfl, _, hw⟩ := DataW.trod_int ht hx
      refine ⟨rfl, fun i d v hd hv => ?_⟩
      match i with
      | 0 => simp at hd hv; subst hd; subst hv; exact ⟨b, rfl, hw⟩
      | i + 1 => simp at hd
    · rename_i ht
      obtain rfl := Option.some.inj h
      obtain ⟨b, rfl, _, hw⟩ := DataW.trod_string ht hx
      refine ⟨rfl, fun i d v hd hv => ?_⟩
      match i with
      | 0 => simp at hd hv; subst hd; subst hv; exact ⟨b, rfl, hw⟩
      | i + 1 => simp at hd
    · rename_i fs ht
      obtain ⟨l, hl, h⟩ := Option.bind_eq_some_iff.1 h
      split at h
      · rename_i hll
        obtain rfl := Option.some.inj h
        obtain ⟨xs, n', rfl, rfl, hc, hxl, hat⟩ := DataW.trod_struct ht hx
        have := flatGo_sound (n := n') (fun t a cs x h1 h2 => flatK_sound m n' t a cs x h1 h2) fs.toList 0 _ hl (fun f hf => by
          obtain ⟨i, hi⟩ := List.mem_iff_getElem?.1 hf
          have hi' : fs[i]? = some f := by simpa using hi
          have hlt : i < xs.length := by
            have := (Array.getElem?_eq_some_iff.1 hi').1
            omega
          exact ⟨xs[i], by rw [hat i f hi']; simp [hlt]⟩) (by omega)
        simpa using this
      · cases h
    · rename_i q e ht
      obtain ⟨a, ha, h⟩ := Option.bind_eq_some_iff.1 h
      split at h
      · rename_i hll
        obtain ⟨hae, hqa⟩ := hll
        obtain rfl := Option.some.inj h
        obtain ⟨xs, n', rfl, rfl, hc, hxl, hat⟩ := DataW.trod_array ht hx
        have each : ∀ i, i < q → Flat a ((cs.drop (i * a.length)).take a.length) := fun i hi => by
          have hlt : i < xs.length := by omega
          have := hat i hi
          rw [← hae] at this
          exact flatK_sound m n' e a _ xs[i] ha (by rw [this]; simp [hlt])
        have all : ∀ r, r ≤ q → Flat (List.replicate r a).flatten (cs.take (r * a.length)) := by
          intro r
          induction r with
          | zero => intro _; simp; exact Flat.nil
          | succ r ih =>
            intro hr
            have h1 := ih (by omega)
            have h2 := each r (by omega)
            have e1 : cs.take ((r + 1) * a.length) = cs.take (r * a.length) ++ (cs.drop (r * a.length)).take a.length := by
              rw [show (r + 1) * a.length = r * a.length + a.length by rw [Nat.succ_mul], List.take_add]
            rw [e1, List.replicate_succ', List.flatten_append]
            simpa using h1.append h2
        have := all q (Nat.le_refl _)
        rw [hqa, ← hc, List.take_length] at this
        exact this
      · cases h
    · cases h
end

/-- A row of plain elements of sz cells each that a call is given. -/
def RowE (w : World) (a : Option Addr) (len cap sz : Nat) (es : List (List Value)) : Prop :=
  (a = none ∧ len = 0 ∧ cap = 0 ∧ es = []) ∨
  ∃ x, a = some x ∧ len ≤ cap ∧ es.length = cap ∧ (∀ e ∈ es, e.length = sz) ∧ (∀ (i : Nat) (v : Value), es.flatten[i]? = some v → w.cell? (x.add i) = some v) ∧ es.flatten.all plain1 = true

theorem flatten_at {sz : Nat} : ∀ {es : List (List Value)}, (∀ e ∈ es, e.length = sz) → ∀ {i : Nat} {e : List Value}, es[i]? = some e → ∀ j, j < sz → es.flatten[i * sz + j]? = e[j]?
  | [], _, i, e, h, j, hj => by simp at h
  | e0 :: es, hs, 0, e, h, j, hj => by
    simp at h; subst h
    rw [List.flatten_cons, Nat.zero_mul, Nat.zero_add, List.getElem?_append_left (by rw [hs _ (by simp)]; exact hj)]
  | e0 :: es, hs, i + 1, e, h, j, hj => by
    have h0 : e0.length = sz := hs _ (by simp)
    rw [List.flatten_cons, List.getElem?_append_right (by rw [h0, Nat.succ_mul]; omega), h0]
    rw [show (i + 1) * sz + j - sz = i * sz + j by rw [Nat.succ_mul]; omega]
    exact flatten_at (fun e he => hs e (by simp [he])) (by simpa using h) j hj
theorem flatten_len {sz : Nat} : ∀ {es : List (List Value)}, (∀ e ∈ es, e.length = sz) → es.flatten.length = es.length * sz
  | [], _ => by simp
  | e :: es, hs => by
    rw [List.flatten_cons, List.length_append, hs e (by simp), flatten_len fun e he => hs e (by simp [he]), List.length_cons, Nat.succ_mul, Nat.add_comm]

theorem addr_add_add (x : Addr) (m n : Nat) : (x.add m).add n = x.add (m + n) := by
  unfold Addr.add
  by_cases h1 : m = 0
  · subst h1; simp
  · by_cases h2 : n = 0
    · subst h2; simp
    · rw [if_neg h1, if_neg h2, if_neg (by omega)]
      simp [Nat.add_assoc]
theorem open_flat {H : Type} {enc : TypeId × Value → H} {P : Program} {w : World} {held : Bool} {base : Nat} {t e : TypeId} {fuel : Nat} {cs : List Value} {x : DataW H × List MemPlace} {ks : List TypeDesc} (m : Nat) (ht : P.underlying t = some (.slice e)) (hk : flatK P m e = some ks) (hc : P.cellsOf e = ks.length)
    (h : DataW.trod enc P w base (fun _ => true) held fuel t cs = some x) {a : Option Addr} {len cap : Nat} (hcs : cs = [.slice a len cap]) : len ≤ maxLen ∧ ∃ es, RowE w a len cap ks.length es ∧ ∀ e ∈ es, Flat ks e := by
  subst hcs
  rcases DataW.trod_slice ht h with ⟨h0, _⟩ | ⟨x, len', cap', elems, rest, n, _, hcs, _, hb, hl, hm, hlen, hel, hsp, _⟩
  · simp at h0
    obtain ⟨rfl, rfl, rfl⟩ := h0
    exact ⟨Nat.zero_le _, [], .inl ⟨rfl, rfl, rfl, rfl⟩, fun v hv => by cases hv⟩
  · simp at hcs
    obtain ⟨rfl, rfl, rfl⟩ := hcs
    refine ⟨by omega, ?_⟩
    obtain ⟨hrl, hr⟩ := hsp rfl
    have one : ∀ i, i < cap → ∃ el, Flat ks el ∧ ∀ j, j < ks.length → w.cell? ((x.add (i * ks.length)).add j) = el[j]? := by
      intro i hi
      have hlt : i < (elems ++ rest).length := by simp; omega
      have hb' : (w.cells? base (x.add (i * P.cellsOf e)) (P.cellsOf e)).bind (DataW.trod enc P w base (fun _ => true) held n e) = some (elems ++ rest)[i] := by
        rw [← List.getElem?_eq_getElem hlt]
        by_cases hi2 : i < len
        · rw [hel i hi2, List.getElem?_append_left (by omega)]
        · have := hr (i - len) (by omega)
          rw [show len + (i - len) = i by omega] at this
          rw [this, List.getElem?_append_right (by omega), hlen]
      rw [hc, Option.bind_eq_some_iff] at hb'
      obtain ⟨cs', hcs, hy'⟩ := hb'
      obtain ⟨_, h2, h3⟩ := World.cells?_some hcs
      exact ⟨cs', flatK_sound m _ _ _ _ _ hk hy', fun j hj => h3 j hj⟩
    have all : ∀ n, n ≤ cap → ∃ es : List (List Value), es.length = n ∧ (∀ e ∈ es, Flat ks e) ∧ ∀ i el, es[i]? = some el → ∀ j, j < ks.length → w.cell? ((x.add (i * ks.length)).add j) = el[j]? := by
      intro n
      induction n with
      | zero => intro _; exact ⟨[], rfl, fun v hv => (by cases hv), fun i e he => by simp at he⟩
      | succ n ih =>
        intro hn
        obtain ⟨es, h1, h2, h3⟩ := ih (by omega)
        obtain ⟨el, h4, h5⟩ := one n (by omega)
        refine ⟨es ++ [el], by simp [h1], fun u hu => ?_, fun i u hu => ?_⟩
        · rcases List.mem_append.1 hu with hu | hu
          · exact h2 u hu
          · simp at hu; subst hu; exact h4
        · rcases Nat.lt_or_ge i es.length with hi | hi
          · rw [List.getElem?_append_left hi] at hu; exact h3 i u hu
          · have hin : i = n := by
              have := (List.getElem?_eq_some_iff.1 hu).1
              simp at this; omega
            subst hin
            rw [List.getElem?_append_right hi, h1, Nat.sub_self] at hu
            simp at hu; subst hu; exact h5
    obtain ⟨es, h1, h2, h3⟩ := all cap (Nat.le_refl _)
    have hs : ∀ e ∈ es, e.length = ks.length := fun e he => (h2 e he).1
    refine ⟨es, .inr ⟨x, rfl, hl, h1, hs, fun i v hv => ?_, List.all_eq_true.2 fun v hv => ?_⟩, h2⟩
    · have hlt := (List.getElem?_eq_some_iff.1 hv).1
      rw [flatten_len hs] at hlt
      have hpos : 0 < ks.length := by
        rcases Nat.eq_zero_or_pos ks.length with h | h
        · rw [h] at hlt; omega
        · exact h
      have hd : i / ks.length < es.length := (Nat.div_lt_iff_lt_mul hpos).2 hlt
      have hmod := Nat.mod_lt i hpos
      have hi : i / ks.length * ks.length + i % ks.length = i := by rw [Nat.mul_comm]; exact Nat.div_add_mod i _
      have := h3 (i / ks.length) es[i / ks.length] (by simp [hd]) (i % ks.length) hmod
      rw [← flatten_at hs (i := i / ks.length) (by simp [hd]) _ hmod, hi, hv] at this
      rw [← this]
      congr 1
      rw [addr_add_add, hi]
    · obtain ⟨e, he, hv⟩ := List.mem_flatten.1 hv
      exact (h2 e he).plain v hv

def rowObjE (sz : Nat) (vs : List Value) : AObj := match vs with | [] => .dead | v :: vs => .cells (v :: vs) sz false
def rowPlE (w : World) (a : Option Addr) (sz : Nat) : Pl := match a with
  | none => ⟨0, 0, 0, sz⟩
  | some x => ⟨x.block, x.off, (match w.heap[x.block]? with | some (.cells c _ _) => c.size | _ => 0), sz⟩
theorem rowObjE_own (sz : Nat) (vs : List Value) : (rowObjE sz vs).own = false := by cases vs <;> rfl

theorem RowE.cells {w : World} {a : Option Addr} {len cap sz : Nat} {es : List (List Value)} (h : RowE w a len cap sz es) {v0 : Value} {vs : List Value} (he : es.flatten = v0 :: vs) : ∃ x c el fz, a = some x ∧ x.spot = none ∧ w.heap[x.block]? = some (.cells c el fz) ∧ x.off + (v0 :: vs).length ≤ c.size ∧ ∀ (i : Nat) (v : Value), (v0 :: vs)[i]? = some v → c[x.off + i]? = some v := by
  rcases h with ⟨rfl, rfl, rfl, rfl⟩ | ⟨x, rfl, hl, hn, hs, hcell, hp⟩
  · simp at he
  · rw [he] at hcell
    have h0 := hcell 0 v0 rfl
    have e0 : x.add 0 = x := by simp [Addr.add]
    rw [e0] at h0
    unfold World.cell? at h0
    split at h0
    · rename_i c el fz hH
      have hspot : x.spot = none := by
        cases hs : x.spot with
        | none => rfl
        | some s => rw [hs] at h0; simp at h0
      have hat : ∀ (i : Nat) (v : Value), (v0 :: vs)[i]? = some v → c[x.off + i]? = some v := fun i v hv => by
        have := hcell i v hv
        unfold World.cell? at this
        have eb : (x.add i).block = x.block := by unfold Addr.add; split <;> rfl
        have eo : (x.add i).off = x.off + i := by
          unfold Addr.add; split
          · rename_i h; subst h; rfl
          · rfl
        rw [eb, hH, eo] at this
        simp only [] at this
        split at this
        · cases this
        · exact this
      refine ⟨x, c, el, fz, rfl, hspot, hH, ?_, hat⟩
      have := hat vs.length ((v0 :: vs)[vs.length]'(by simp)) (by simp)
      have hlt : x.off + vs.length < c.size := by
        rcases Nat.lt_or_ge (x.off + vs.length) c.size with h | h
        · exact h
        · simp [Array.getElem?_eq_none h] at this
      simp; omega
    · cases h0

theorem RowE.obj {w : World} {a : Option Addr} {len cap sz : Nat} {es : List (List Value)} (h : RowE w a len cap sz es) (hsz : sz < tyM) (ρ : Ren) : OR ρ w (rowPlE w a sz) (rowObjE sz es.flatten) := by
  cases he : es.flatten with
  | nil => exact trivial
  | cons v0 vs =>
    obtain ⟨x, c, el, fz, rfl, hsp, hH, hle, hat⟩ := h.cells he
    have hp : es.flatten.all plain1 = true := by
      rcases h with ⟨h, _⟩ | ⟨x, _, _, _, _, _, hp⟩
      · cases h
      · exact hp
    rw [he] at hp
    refine ⟨c, el, fz, hH, by simp [rowPlE, hH], ⟨(Nat.mod_eq_of_lt hsz).symm, fun t ht => by rw [Nat.div_eq_of_lt hsz] at ht; omega⟩, by simpa [rowPlE] using hle, fun i v hv => ?_, (fun e => by cases e)⟩
    have hm := List.all_eq_true.1 hp v (List.mem_of_getElem? hv)
    exact ⟨plain1_one hm, v, hat i v hv, plain1_VR hm⟩

theorem RowE.val {w : World} {a : Option Addr} {len cap sz : Nat} {es : List (List Value)} (h : RowE w a len cap sz es) (hsz : 0 < sz) {ρ : Ren} {b : Nat} (hb : ρ b = some (rowPlE w a sz)) : VR ρ (rowVal b a len cap) (.slice a len cap) := by
  rcases h with ⟨rfl, rfl, rfl, rfl⟩ | ⟨x, rfl, hl, hn, hs, hcell, hp⟩
  · exact .sliceN
  · refine .slice b 0 len cap cap x _ hb (.inl rfl) hl ?_
    have hlen := flatten_len hs
    cases he : es.flatten with
    | nil =>
      left
      rw [he, hn] at hlen
      rcases Nat.mul_eq_zero.1 hlen.symm with h | h
      · exact h
      · omega
    | cons v0 vs =>
      right
      have h : RowE w (some x) len cap sz es := .inr ⟨x, rfl, hl, hn, hs, hcell, hp⟩
      obtain ⟨x', c, el, fz, e, hsp, hH, hle, hat⟩ := h.cells he
      obtain rfl := Option.some.inj e
      refine ⟨?_, ?_⟩
      · cases x; simp only [] at hsp; subst hsp; rfl
      · rw [he] at hlen
        simp only [rowPlE, hH]
        rw [← hn]
        omega

/-- A slice of records in a heap. -/
structure Recs {T : Type} (f : T → List Value) (sz : Nat) (H : Heap) (a : Option Addr) (l : Nat) (xs : List T) : Prop where
  len : xs.length = l
  at_ : xs ≠ [] → ∃ x cs own, a = some x ∧ H[x.block]? = some (.cells cs sz own) ∧ x.off + l * sz ≤ cs.length ∧ ∀ (i : Nat) (t : T), xs[i]? = some t → range cs (x.off + i * sz) sz = f t

theorem range_flatten {sz : Nat} {es : List (List Value)} (hs : ∀ e ∈ es, e.length = sz) {i : Nat} {e : List Value} (he : es[i]? = some e) : range es.flatten (i * sz) sz = e := by
  apply List.ext_getElem?
  intro j
  unfold range
  have hle : e.length = sz := hs e (List.mem_of_getElem? he)
  rcases Nat.lt_or_ge j sz with hj | hj
  · rw [List.getElem?_take_of_lt hj, List.getElem?_drop, flatten_at hs he j hj]
  · rw [List.getElem?_eq_none (by rw [List.length_take]; omega), List.getElem?_eq_none (by omega)]

theorem RowE.recs {T : Type} {f : T → List Value} {ks : List TypeDesc} (hf : ∀ e, Flat ks e → ∃ t, e = f t) {w : World} {a : Option Addr} {len cap : Nat} {es : List (List Value)} (h : RowE w a len cap ks.length es) (hpos : 0 < ks.length) (hk : ∀ e ∈ es, Flat ks e) :
    ∃ xs : List T, (∀ t ∈ xs, Flat ks (f t)) ∧ ∀ (H : Heap) (b : Nat), H[b]? = some (rowObjE ks.length es.flatten) → Recs f ks.length H (a.map fun _ => ⟨b, 0, none⟩) len xs := by
  have : ∀ es : List (List Value), (∀ e ∈ es, Flat ks e) → ∃ ts : List T, es = ts.map f := by
    intro es
    induction es with
    | nil => intro _; exact ⟨[], rfl⟩
    | cons e es ih =>
      intro h
      obtain ⟨t, rfl⟩ := hf e (h e (by simp))
      obtain ⟨ts, rfl⟩ := ih fun u hu => h u (by simp [hu])
      exact ⟨t :: ts, rfl⟩
  obtain ⟨ts, rfl⟩ := this es hk
  refine ⟨ts.take len, fun t ht => hk _ (List.mem_map.2 ⟨t, List.mem_of_mem_take ht, rfl⟩), fun H b hb => ?_⟩
  rcases h with ⟨rfl, rfl, rfl, he⟩ | ⟨x, rfl, hl, hn, hs, _, _⟩
  · exact ⟨by simp, fun h => absurd (by simp) h⟩
  · refine ⟨by simp at hn ⊢; omega, fun hne => ?_⟩
    have hlen := flatten_len hs
    have hob : rowObjE ks.length (ts.map f).flatten = .cells (ts.map f).flatten ks.length false := by
      cases hfl : (ts.map f).flatten with
      | nil =>
        exfalso
        rw [hfl] at hlen
        have h0 : ts = [] ∨ ks.length = 0 := by
          rcases Nat.mul_eq_zero.1 hlen.symm with h | h
          · left; simpa using h
          · exact .inr h
        rcases h0 with h | h
        · subst h; simp at hne
        · omega
      | cons v vs => rfl
    rw [hob] at hb
    refine ⟨_, _, _, rfl, hb, ?_, fun i t ht => ?_⟩
    · show 0 + len * ks.length ≤ _
      rw [hlen, hn, Nat.zero_add]
      exact Nat.mul_le_mul_right _ hl
    · rw [List.getElem?_take] at ht
      split at ht
      · show range _ (0 + i * ks.length) _ = _
        rw [Nat.zero_add]
        exact range_flatten hs (by rw [List.getElem?_map, ht]; rfl)
      · cases ht

theorem Recs.keep {T : Type} {f : T → List Value} {sz : Nat} {H H' : Heap} {a : Option Addr} {l : Nat} {xs : List T} (h : Recs f sz H a l xs) (hk : ∀ x, a = some x → ∀ cs own, H[x.block]? = some (.cells cs sz own) → H'[x.block]? = some (.cells cs sz own)) : Recs f sz H' a l xs :=
  ⟨h.len, fun hne => by
    obtain ⟨x, cs, own, e, h1, h2⟩ := h.at_ hne
    exact ⟨x, cs, own, e, hk x e cs own h1, h2⟩⟩

/-- One element. -/
theorem Recs.get {T : Type} {f : T → List Value} {sz : Nat} {H : Heap} {a : Option Addr} {l : Nat} {xs : List T} (h : Recs f sz H a l xs) {i : Nat} {t : T} (hi : xs[i]? = some t) : ∃ x cs own, a = some x ∧ H[x.block]? = some (.cells cs sz own) ∧ x.off + i * sz + sz ≤ cs.length ∧ range cs (x.off + i * sz) sz = f t := by
  obtain ⟨x, cs, own, e, h1, h2, h3⟩ := h.at_ (by intro e; rw [e] at hi; simp at hi)
  refine ⟨x, cs, own, e, h1, ?_, h3 i t hi⟩
  have hlt := (List.getElem?_eq_some_iff.1 hi).1
  have := h.len
  have : (i + 1) * sz ≤ l * sz := Nat.mul_le_mul_right _ (by omega)
  rw [Nat.succ_mul] at this
  omega

theorem okWide_agg {Q : Program} {t : TypeId} {w : World} {r : Go.Reach} {base : Nat} {v : Value} (ht : (match Q.underlying t with | some (.struct _) => true | some (.array _ _) => true | _ => false) = true) (h : Value.okWide Q w r base t v) : ∃ cs, v = .agg cs ∧ cs.size = Q.cellsOf t := by
  unfold Value.okWide at h
  split at h
  · obtain ⟨cs, h1, h2, _⟩ := h; exact ⟨cs, h1, h2⟩
  · obtain ⟨cs, h1, h2, _⟩ := h; exact ⟨cs, h1, h2⟩
  · rename_i h1 h2
    exfalso
    split at ht
    · rename_i fs e; exact h1 _ e
    · rename_i n e e2; exact h2 _ _ e2
    · cases ht

/-- A value that is a struct, or an array, of plain cells. -/
theorem Flat.val {ks : List TypeDesc} {cs : List Value} (h : Flat ks cs) (ρ : Ren) : VR ρ (.agg cs.toArray) (.agg cs.toArray) :=
  VR.agg_mk ⟨rfl, fun i v v' a b => by rw [a] at b; obtain rfl := Option.some.inj b; exact plain1_VR (h.plain v (List.mem_of_getElem? a))⟩ fun v hv => plain1_one (h.plain v hv)
end Go.Proofs.YtlpeldimmaajkaaGreat.Fw
