/- FRAMEWORK 24: what a law is given, as an abstract heap; what is left alone. -/
import Derived.Test.YtlpeldimmaajkaaGreatFwN
import Derived.SliceStrings
import Derived.WideShapes
import Derived.ProofKit
set_option linter.unusedVariables false
set_option linter.unusedSimpArgs false
namespace Go.Proofs.YtlpeldimmaajkaaGreat.Fw
open Go Go.RowKit Go.ChangeShapes

/-- A row of plain values that a call is given. -/
def Row (w : World) (a : Option Addr) (len cap : Nat) (vs : List Value) : Prop :=
  (a = none ∧ len = 0 ∧ cap = 0 ∧ vs = []) ∨
  ∃ x, a = some x ∧ len ≤ cap ∧ vs.length = cap ∧ (∀ (i : Nat) (v : Value), vs[i]? = some v → w.cell? (x.add i) = some v) ∧ vs.all plain1 = true

/-- What such a row's elements are: of a type. -/
def ofKind (d : TypeDesc) (v : Value) : Prop :=
  match d with
  | .bool => ∃ b, v = .bool b
  | .int k => ∃ n, v = .int k n ∧ (Lit.int k n).wf = true
  | .string => ∃ s, v = .string s ∧ s.size ≤ maxLen
  | _ => False

theorem ofKind_plain {d : TypeDesc} {v : Value} (h : ofKind d v) : plain1 v = true := by
  cases d <;> simp only [ofKind] at h
  · obtain ⟨b, rfl⟩ := h; rfl
  · obtain ⟨n, rfl, _⟩ := h; rfl
  · obtain ⟨s, rfl, _⟩ := h; rfl

theorem open_plain {H : Type} {enc : TypeId × Value → H} {P : Program} {w : World} {held : Bool} {base : Nat} {t e : TypeId} {d : TypeDesc} {fuel : Nat} {cs : List Value} {x : DataW H × List MemPlace} (ht : P.underlying t = some (.slice e)) (he : P.underlying e = some d) (hd : d = .bool ∨ (∃ k, d = .int k) ∨ d = .string) (hc : P.cellsOf e = 1)
    (h : DataW.trod enc P w base (fun _ => true) held fuel t cs = some x) {a : Option Addr} {len cap : Nat} (hcs : cs = [.slice a len cap]) : len ≤ maxLen ∧ ∃ vs, Row w a len cap vs ∧ ∀ v ∈ vs, ofKind d v := by
  subst hcs
  rcases DataW.trod_slice ht h with ⟨h0, _⟩ | ⟨x, len', cap', elems, rest, n, _, hcs, _, hb, hl, hm, hlen, hel, hsp, _⟩
  · simp at h0
    obtain ⟨rfl, rfl, rfl⟩ := h0
    exact ⟨Nat.zero_le _, [], .inl ⟨rfl, rfl, rfl, rfl⟩, fun v hv => by cases hv⟩
  · simp at hcs
    obtain ⟨rfl, rfl, rfl⟩ := hcs
    refine ⟨by omega, ?_⟩
    obtain ⟨hrl, hr⟩ := hsp rfl
    have one : ∀ i y, (elems ++ rest)[i]? = some y → ∃ v, w.cell? (x.add i) = some v ∧ ofKind d v := by
      intro i y hy
      have hb' : (w.cells? base (x.add (i * P.cellsOf e)) (P.cellsOf e)).bind (DataW.trod enc P w base (fun _ => true) held n e) = some y := by
        by_cases hi : i < len
        · rw [hel i hi, ← hy, List.getElem?_append_left (by omega)]
        · have hi' : i < elems.length + rest.length := by
            have := (List.getElem?_eq_some_iff.1 hy).1
            simpa using this
          have := hr (i - len) (by omega)
          rw [show len + (i - len) = i by omega] at this
          rw [this, ← hy, List.getElem?_append_right (by omega), hlen]
      rw [hc, Nat.mul_one, Option.bind_eq_some_iff] at hb'
      obtain ⟨cs', hcs, hy'⟩ := hb'
      rcases hd with rfl | ⟨k, rfl⟩ | rfl
      · obtain ⟨b, rfl, _⟩ := DataW.trod_bool he hy'
        exact ⟨_, cell_of_cells?_one hcs, b, rfl⟩
      · obtain ⟨m, rfl, _, hw⟩ := DataW.trod_int he hy'
        exact ⟨_, cell_of_cells?_one hcs, m, rfl, hw⟩
      · obtain ⟨s, rfl, _, hw⟩ := DataW.trod_string he hy'
        exact ⟨_, cell_of_cells?_one hcs, s, rfl, hw⟩
    have all : ∀ n, n ≤ cap → ∃ vs : List Value, vs.length = n ∧ (∀ (i : Nat) (v : Value), vs[i]? = some v → w.cell? (x.add i) = some v) ∧ ∀ v ∈ vs, ofKind d v := by
      intro n
      induction n with
      | zero => intro _; exact ⟨[], rfl, fun i v hv => by simp at hv, fun v hv => by cases hv⟩
      | succ n ih =>
        intro hn
        obtain ⟨vs, h1, h2, h3⟩ := ih (by omega)
        have hlt : n < (elems ++ rest).length := by simp; omega
        obtain ⟨v, h4, h5⟩ := one n _ (List.getElem?_eq_getElem hlt)
        refine ⟨vs ++ [v], by simp [h1], fun i u hu => ?_, fun u hu => ?_⟩
        · rcases Nat.lt_or_ge i vs.length with hi | hi
          · rw [List.getElem?_append_left hi] at hu; exact h2 i u hu
          · have : i = n := by
              have := (List.getElem?_eq_some_iff.1 hu).1
              simp at this; omega
            subst this
            rw [List.getElem?_append_right hi, h1, Nat.sub_self] at hu
            simp at hu; subst hu; exact h4
        · rcases List.mem_append.1 hu with hu | hu
          · exact h3 u hu
          · simp at hu; subst hu; exact h5
    obtain ⟨vs, h1, h2, h3⟩ := all cap (Nat.le_refl _)
    exact ⟨vs, .inr ⟨x, rfl, hl, h1, h2, List.all_eq_true.2 fun v hv => ofKind_plain (h3 v hv)⟩, h3⟩

/-- A row as an abstract block, and where it lies. -/
def rowObj (vs : List Value) : AObj := match vs with | [] => .dead | v :: vs => .cells (v :: vs) 1 false
def rowPl (w : World) (a : Option Addr) : Pl := match a with
  | none => ⟨0, 0, 0, 0⟩
  | some x => ⟨x.block, x.off, (match w.heap[x.block]? with | some (.cells c _ _) => c.size | _ => 0), 1⟩
def rowVal (b : Nat) (a : Option Addr) (len cap : Nat) : Value := .slice (a.map fun _ => ⟨b, 0, none⟩) len cap

theorem Row.obj {w : World} {a : Option Addr} {len cap : Nat} {vs : List Value} (h : Row w a len cap vs) (ρ : Ren) : OR ρ w (rowPl w a) (rowObj vs) := by
  rcases h with ⟨rfl, rfl, rfl, rfl⟩ | ⟨x, rfl, hl, hn, hcell, hp⟩
  · exact trivial
  · cases vs with
    | nil => exact trivial
    | cons v0 vs =>
      have h0 := hcell 0 v0 rfl
      have e0 : x.add 0 = x := by simp [Addr.add]
      rw [e0] at h0
      unfold World.cell? at h0
      split at h0
      · rename_i c el fz hH
        have hspot : x.spot = none := by
          cases hs : x.spot with
          | none => rfl
          | some s => rw [hs] at h0; simp at h0
        have hat : ∀ (i : Nat) (v : Value), (v0 :: vs)[i]? = some v → c[x.off + i]? = some v := fun i v hv => by
          have := hcell i v hv
          unfold World.cell? at this
          have eb : (x.add i).block = x.block := by unfold Addr.add; split <;> rfl
          have eo : (x.add i).off = x.off + i := by
            unfold Addr.add; split
            · rename_i h; subst h; rfl
            · rfl
          rw [eb, hH, eo] at this
          simp only [] at this
          split at this
          · cases this
          · exact this
        refine ⟨c, el, fz, hH, by simp [rowPl, hH], ⟨rfl, fun t ht => by simp [tyM] at ht⟩, ?_, fun i v hv => ?_, (fun e => by cases e)⟩
        · have := hat vs.length ((v0 :: vs)[vs.length]'(by simp)) (by simp)
          have hlt : x.off + vs.length < c.size := by
            rcases Nat.lt_or_ge (x.off + vs.length) c.size with h | h
            · exact h
            · simp [Array.getElem?_eq_none h] at this
          simp [rowPl]; omega
        · have hm := List.all_eq_true.1 hp v (List.mem_of_getElem? hv)
          exact ⟨plain1_one hm, v, hat i v hv, plain1_VR hm⟩
      · cases h0

theorem Row.val {w : World} {a : Option Addr} {len cap : Nat} {vs : List Value} (h : Row w a len cap vs) {ρ : Ren} {b : Nat} (hb : ρ b = some (rowPl w a)) : VR ρ (rowVal b a len cap) (.slice a len cap) := by
  have ho := h.obj ρ
  rcases h with ⟨rfl, rfl, rfl, rfl⟩ | ⟨x, rfl, hl, hn, hcell, hp⟩
  · exact .sliceN
  · refine .slice b 0 len cap cap x _ hb (.inl rfl) hl ?_
    cases vs with
    | nil => exact .inl (by simpa using hn.symm)
    | cons v0 vs =>
      right
      obtain ⟨c, el, fz, hH, hs, he, hle, hcs, _⟩ := ho
      refine ⟨?_, ?_⟩
      · have h0 := hcell 0 v0 rfl
        have e0 : x.add 0 = x := by simp [Addr.add]
        rw [e0] at h0
        unfold World.cell? at h0
        simp only [rowPl] at hH
        rw [hH] at h0
        simp only [] at h0
        cases hsp : x.spot with
        | none => cases x; simp only [] at hsp; subst hsp; rfl
        | some s => rw [hsp] at h0; simp at h0
      · rw [he.1, ← hs, show (1 : Nat) % tyM = 1 from rfl, Nat.mul_one, ← hn]; simpa using hle

/-- Where to begin: blocks that are read alone. -/
def ini (L : List (Pl × AObj)) : Ren := fun b => (L[b]?).map (·.1)
def iniH (L : List (Pl × AObj)) : Heap := L.map (·.2)
theorem ini_rel {L : List (Pl × AObj)} {w : World} (hg : Glob (ini L)) (h : ∀ x ∈ L, x.2.own = false ∧ ∀ ρ, OR ρ w x.1 x.2) : Rel (ini L) (iniH L) w := by
  have at_ : ∀ b p o, ini L b = some p → (iniH L)[b]? = some o → L[b]? = some (p, o) := fun b p o hb ho => by
    simp only [ini, iniH, List.getElem?_map, Option.map_eq_some_iff] at hb ho
    obtain ⟨x, hx, rfl⟩ := hb
    obtain ⟨y, hy, rfl⟩ := ho
    rw [hx] at hy; obtain rfl := Option.some.inj hy; exact hx
  refine ⟨fun b p hb => ?_, fun b p o hb ho => (h _ (List.mem_of_getElem? (at_ b p o hb ho))).2 _, fun b b' p p' o o' hb hb' ho ho' hown => ?_, hg⟩
  · simp only [ini, Option.map_eq_some_iff] at hb
    obtain ⟨x, hx, _⟩ := hb
    have := (List.getElem?_eq_some_iff.1 hx).1
    simpa [iniH] using this
  · have := (h _ (List.mem_of_getElem? (at_ b p o hb ho))).1
    simp only [] at this
    rw [this] at hown; cases hown
theorem ini_owns {L : List (Pl × AObj)} {w : World} (h : ∀ x ∈ L, x.2.own = false ∧ ∀ ρ, OR ρ w x.1 x.2) (k : Nat) : ¬ Owns (ini L) (iniH L) k := by
  rintro ⟨b, p, o, hb, ho, hown, _⟩
  simp only [ini, iniH, List.getElem?_map, Option.map_eq_some_iff] at hb ho
  obtain ⟨x, hx, rfl⟩ := hb
  obtain ⟨y, hy, rfl⟩ := ho
  have := (h _ (List.mem_of_getElem? hy)).1
  rw [this] at hown; cases hown
theorem rowObj_own (vs : List Value) : (rowObj vs).own = false := by cases vs <;> rfl

/-- A LAW: what a function comes to on the abstract heap is what its call brings about, and all that lay there ahead lies there as it did. -/
theorem law_calls {P : Program} {f : FuncId} {F : List Value → Heap → R} (hs : Sound P f F) {fn : Func} (hf : P.funcs[f]? = some fn) (hnm : (fn.name == "runtime.NumGoroutine") = false) (hbd : fn.body.isNone = false) {L : List (Pl × AObj)} {w : World} (hg : Glob (ini L)) (h : ∀ x ∈ L, x.2.own = false ∧ ∀ ρ, OR ρ w x.1 x.2) {args args' : List Value} (hv : VL (ini L) args args') {b : Bool} {H' : Heap} (hF : F args (iniH L) = some (.bool b, H')) :
    Calls P f args'.toArray w fun e w' => e = .returned (.bool b) ∧ Below w.heap.size w w' := by
  have he : ∀ args w, (callFunc f args).run P w = .ok (.enter f args) w := fun args w => by
    have hn' : ¬ fn.name = "runtime.NumGoroutine" := by simpa using hnm
    have hb' : ¬ fn.body = none := by intro e; rw [e] at hbd; cases hbd
    simp [callFunc, hf, hn', hb']
  have hs : Entered P f F := by
    rcases hs with hs | hs
    · exact hs
    · obtain ⟨v', ρ', w', h0, _⟩ := hs args (iniH L) (.bool b) H' hF (ini L) w args' (ini_rel hg h) hv
      rw [he] at h0; cases h0
  refine Calls.mono' (hs.calls args (iniH L) (.bool b) H' hF (ini L) w args' (ini_rel hg h) hv) ?_
  rintro e w' ⟨v', ρ', rfl, h1, h2, h3⟩
  refine ⟨by rw [h3.bool_inv], ⟨h2.os, h2.tape, h2.output, h2.size, fun k hk => h2.keep k hk (ini_owns h k)⟩⟩

/-- How many elements a row's reading tells. -/
theorem slice_len {H : Type} {enc : TypeId × Value → H} {P : Program} {w : World} {held : Bool} {base : Nat} {sp : Nat → Bool} {t e : TypeId} {fuel : Nat} {cs : List Value} {d : DataW H} {ps : List MemPlace} (ht : P.underlying t = some (.slice e))
    (h : DataW.trod enc P w base sp held fuel t cs = some (d, ps)) {a : Option Addr} {len cap : Nat} (hcs : cs = [.slice a len cap]) : len = 0 ∨ ∃ el r, d = .slice el r ∧ el.length = len := by
  subst hcs
  rcases DataW.trod_slice ht h with ⟨h0, _⟩ | ⟨x, len', cap', elems, rest, n, _, hcs, hx, hb, hl, hm, hlen, _⟩
  · simp at h0; exact .inl h0.2.1
  · simp at hcs hx
    obtain ⟨rfl, rfl, rfl⟩ := hcs
    exact .inr ⟨_, _, hx.1, by simpa using hlen⟩
end Go.Proofs.YtlpeldimmaajkaaGreat.Fw
