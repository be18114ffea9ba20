/- FRAMEWORK 1: an abstract heap for Go's memory, and what it says of a world. Conditions: none; plain definitions and lemmas. -/
import Derived.Orders
import Derived.Below
import Derived.Tactics
import Derived.KernelRfl
set_option linter.unusedVariables false
set_option linter.unusedSimpArgs false
namespace Go.Proofs.YtlpeldimmaajkaaGreat.Fw
open Go Go.RowKit

/-- Where an abstract block lies in a world: its block, where it begins there, how many cells that block has, how many cells an element has. -/
structure Pl where
  blk : Nat
  base : Nat
  size : Nat
  esz : Nat

abbrev Ren := Nat → Option Pl

theorem contra {α : Type} {x : Option α} {a : α} (h : x = some a) (h' : x = none) : False := by rw [h] at h'; cases h'

/-- The capacity of a slice of which it is not known; unk + n: it is n at least. -/
def unk : Nat := 2 ^ 64
theorem unkOk (c : Nat) : unk ≤ unk ∧ unk - unk ≤ c := ⟨Nat.le_refl _, by rw [Nat.sub_self]; exact Nat.zero_le _⟩

/-- The size of an element, and, behind that, its type's number and one, if it is known. -/
def tyM : Nat := 1048576
def tz (n e : Nat) : Nat := n % tyM + tyM * (e + 1)
theorem tz_mod (n e : Nat) : tz n e % tyM = n % tyM := by unfold tz tyM; omega
theorem tz_div (n e : Nat) : tz n e / tyM = e + 1 := by unfold tz tyM; omega
def szOk (esz n e : Nat) : Bool := Nat.beq (esz % tyM) n && (Nat.beq (esz / tyM) 0 || Nat.beq (esz / tyM) (e + 1))
/-- A row that goes on from a place in it: its type is known if the place is its beginning. -/
def tzOff (off esz : Nat) : Nat := match off with | 0 => esz | _ + 1 => esz % tyM
theorem tzOff_mod (off esz : Nat) : tzOff off esz % tyM = esz % tyM := by unfold tzOff; split <;> simp
theorem tzOff_div {off esz t : Nat} (h : tzOff off esz / tyM = t + 1) : off = 0 ∧ esz / tyM = t + 1 := by
  unfold tzOff at h
  split at h
  · exact ⟨rfl, h⟩
  · have : esz % tyM < tyM := Nat.mod_lt _ (by decide)
    rw [Nat.div_eq_of_lt this] at h; omega

inductive AObj where
  | cells (cs : List Value) (esz : Nat) (own : Bool)
  | map (es : List (Value × Value)) (bs : List Nat) (clk : Nat)
  | iter (r : Option Nat) (since : Nat) (seen : List Nat) (last : Nat)
  | dead

abbrev Heap := List AObj

def AObj.own : AObj → Bool
  | .cells _ _ o => o
  | .map _ _ _ => true
  | .iter _ _ _ _ => true
  | .dead => false

def AObj.live : AObj → Bool
  | .dead => false
  | _ => true

/-- A value of the abstract heap, and the world's. -/
inductive VR (ρ : Ren) : Value → Value → Prop
  | bool (b : Bool) : VR ρ (.bool b) (.bool b)
  | int (k : IntKind) (n : Int) : VR ρ (.int k n) (.int k n)
  | string (s : ByteArray) : VR ρ (.string s) (.string s)
  | ptrN : VR ρ (.pointer none) (.pointer none)
  | ptr (b off : Nat) (p : Pl) (h : ρ b = some p) : VR ρ (.pointer (some ⟨b, off, none⟩)) (.pointer (some ⟨p.blk, p.base + off, none⟩))
  | sliceN : VR ρ (.slice none 0 0) (.slice none 0 0)
  | slice (b off len cap cap' : Nat) (a' : Addr) (p : Pl) (h : ρ b = some p) (hc : cap = cap' ∨ (unk ≤ cap ∧ cap - unk ≤ cap')) (hl : len ≤ cap')
      (ha : cap' = 0 ∨ (a' = ⟨p.blk, p.base + off, none⟩ ∧ p.base + off + cap' * p.esz ≤ p.size)) : VR ρ (.slice (some ⟨b, off, none⟩) len cap) (.slice (some a') len cap')
  | mapN : VR ρ (.map none) (.map none)
  | map (r : Nat) (p : Pl) (h : ρ r = some p) : VR ρ (.map (some r)) (.map (some p.blk))
  | nilFunc : VR ρ .nilFunc .nilFunc
  | func (fn : Fn) (x y x' y' : Array Value) (hx : x.size = x'.size) (hy : y.size = y'.size)
      (h : ∀ (i : Nat) (v v' : Value), x[i]? = some v → x'[i]? = some v' → VR ρ v v') (h2 : ∀ (i : Nat) (v v' : Value), y[i]? = some v → y'[i]? = some v' → VR ρ v v') : VR ρ (.func fn x y) (.func fn x' y')
  | nilIface : VR ρ .nilIface .nilIface
  | iface (t : TypeId) (v v' : Value) (h : VR ρ v v') : VR ρ (.iface t v) (.iface t v')
  | agg (x x' : Array Value) (hs : x.size = x'.size) (h1 : ∀ (i : Nat) (v : Value), x[i]? = some v → v.oneCell' = true) (h : ∀ (i : Nat) (v v' : Value), x[i]? = some v → x'[i]? = some v' → VR ρ v v') : VR ρ (.agg x) (.agg x')
  | tuple (x x' : Array Value) (hs : x.size = x'.size) (h : ∀ (i : Nat) (v v' : Value), x[i]? = some v → x'[i]? = some v' → VR ρ v v') : VR ρ (.tuple x) (.tuple x')

/-- One renaming goes on from another one. -/
def Le (ρ ρ' : Ren) : Prop := ∀ b p, ρ b = some p → ρ' b = some p
theorem Le.refl (ρ : Ren) : Le ρ ρ := fun _ _ h => h
theorem Le.trans {a b c : Ren} (h : Le a b) (k : Le b c) : Le a c := fun x p hx => k x p (h x p hx)

theorem VR.mono {ρ ρ' : Ren} (hle : Le ρ ρ') {v v' : Value} (h : VR ρ v v') : VR ρ' v v' := by
  induction h with
  | bool b => exact .bool b
  | int k n => exact .int k n
  | string s => exact .string s
  | ptrN => exact .ptrN
  | ptr b off p h => exact .ptr b off p (hle _ _ h)
  | sliceN => exact .sliceN
  | slice b off len cap cap' a' p h hc hl ha => exact .slice b off len cap cap' a' p (hle _ _ h) hc hl ha
  | mapN => exact .mapN
  | map r p h => exact .map r p (hle _ _ h)
  | nilFunc => exact .nilFunc
  | func fn x y x' y' hx hy _ _ ih ih2 => exact .func fn x y x' y' hx hy ih ih2
  | nilIface => exact .nilIface
  | iface t v v' _ ih => exact .iface t v v' ih
  | agg x x' hs h1 _ ih => exact .agg x x' hs h1 ih
  | tuple x x' hs _ ih => exact .tuple x x' hs ih

/-- Lists of values. -/
def VL (ρ : Ren) (l l' : List Value) : Prop := l.length = l'.length ∧ ∀ (i : Nat) (v v' : Value), l[i]? = some v → l'[i]? = some v' → VR ρ v v'

theorem VL.mono {ρ ρ' : Ren} (hle : Le ρ ρ') {l l' : List Value} (h : VL ρ l l') : VL ρ' l l' := ⟨h.1, fun i v v' a b => (h.2 i v v' a b).mono hle⟩
theorem VL.nil {ρ : Ren} : VL ρ [] [] := ⟨rfl, by simp⟩
theorem VL.cons {ρ : Ren} {v v' : Value} {l l' : List Value} (hv : VR ρ v v') (h : VL ρ l l') : VL ρ (v :: l) (v' :: l') :=
  ⟨by simp [h.1], fun i a b ha hb => by
    cases i with
    | zero => simp at ha hb; subst ha; subst hb; exact hv
    | succ i => simp at ha hb; exact h.2 i a b ha hb⟩
theorem VL.get {ρ : Ren} {l l' : List Value} (h : VL ρ l l') {i : Nat} {v : Value} (hv : l[i]? = some v) : ∃ v', l'[i]? = some v' ∧ VR ρ v v' := by
  have hi : i < l.length := by
    rcases Nat.lt_or_ge i l.length with h | h
    · exact h
    · simp [List.getElem?_eq_none h] at hv
  have hi' : i < l'.length := h.1 ▸ hi
  exact ⟨l'[i], by simp [hi'], h.2 i _ _ hv (by simp [hi'])⟩
theorem VL.cons_inv {ρ : Ren} {v : Value} {l l' : List Value} (h : VL ρ (v :: l) l') : ∃ v' m, l' = v' :: m ∧ VR ρ v v' ∧ VL ρ l m := by
  cases l' with
  | nil => simp [VL] at h
  | cons v' m =>
    refine ⟨v', m, rfl, h.2 0 _ _ rfl rfl, by have := h.1; simp at this; exact this, fun i a b ha hb => h.2 (i + 1) a b (by simpa using ha) (by simpa using hb)⟩
theorem VL.nil_inv {ρ : Ren} {l' : List Value} (h : VL ρ [] l') : l' = [] := by
  have := h.1
  cases l' with
  | nil => rfl
  | cons => simp at this
theorem VL.append {ρ : Ren} {a a' b b' : List Value} (h : VL ρ a a') (k : VL ρ b b') : VL ρ (a ++ b) (a' ++ b') := by
  refine ⟨by simp [h.1, k.1], fun i v v' hv hv' => ?_⟩
  rcases Nat.lt_or_ge i a.length with hi | hi
  · rw [List.getElem?_append_left hi] at hv
    rw [List.getElem?_append_left (h.1 ▸ hi)] at hv'
    exact h.2 i v v' hv hv'
  · rw [List.getElem?_append_right hi] at hv
    rw [List.getElem?_append_right (h.1 ▸ hi), ← h.1] at hv'
    exact k.2 _ v v' hv hv'
theorem VL.take {ρ : Ren} {a a' : List Value} (h : VL ρ a a') (n : Nat) : VL ρ (a.take n) (a'.take n) := by
  refine ⟨by simp [h.1], fun i v v' hv hv' => ?_⟩
  rw [List.getElem?_take] at hv hv'
  split at hv
  · rename_i hi; rw [if_pos hi] at hv'; exact h.2 i v v' hv hv'
  · simp at hv
theorem VL.drop {ρ : Ren} {a a' : List Value} (h : VL ρ a a') (n : Nat) : VL ρ (a.drop n) (a'.drop n) := by
  refine ⟨by simp [h.1], fun i v v' hv hv' => ?_⟩
  rw [List.getElem?_drop] at hv hv'
  exact h.2 _ v v' hv hv'
theorem VL.replicate {ρ : Ren} (n : Nat) {v v' : Value} (h : VR ρ v v') : VL ρ (List.replicate n v) (List.replicate n v') := by
  refine ⟨by simp, fun i a b ha hb => ?_⟩
  rw [List.getElem?_replicate] at ha hb
  split at ha
  · rename_i hi
    rw [if_pos hi] at hb
    simp at ha hb; subst ha; subst hb; exact h
  · simp at ha
/-- All of one cell. -/
def One (l : List Value) : Prop := ∀ v ∈ l, v.oneCell' = true
theorem One.nil : One [] := fun _ h => by cases h
theorem One.cons {v : Value} {l : List Value} (hv : v.oneCell' = true) (h : One l) : One (v :: l) := fun u hu => by
  rcases List.mem_cons.1 hu with rfl | hu
  · exact hv
  · exact h u hu
theorem One.append {a b : List Value} (h : One a) (k : One b) : One (a ++ b) := fun u hu => by
  rcases List.mem_append.1 hu with hu | hu
  · exact h u hu
  · exact k u hu
theorem One.take {a : List Value} (h : One a) (n : Nat) : One (a.take n) := fun u hu => h u (List.mem_of_mem_take hu)
theorem One.drop {a : List Value} (h : One a) (n : Nat) : One (a.drop n) := fun u hu => h u (List.mem_of_mem_drop hu)
theorem VR.one_eq {ρ : Ren} {v v' : Value} (h : VR ρ v v') : v'.oneCell' = v.oneCell' := by cases h <;> rfl
theorem VL.one {ρ : Ren} {l l' : List Value} (h : VL ρ l l') (h1 : One l) : One l' := fun u hu => by
  obtain ⟨i, hi⟩ := List.mem_iff_getElem?.1 hu
  have hlt : i < l.length := by
    rcases Nat.lt_or_ge i l'.length with hh | hh
    · exact h.1 ▸ hh
    · simp [List.getElem?_eq_none hh] at hi
  have := h.2 i l[i] u (by simp [hlt]) hi
  rw [this.one_eq]
  exact h1 _ (List.getElem_mem hlt)
theorem VR.agg_mk {ρ : Ren} {l l' : List Value} (h : VL ρ l l') (h1 : One l) : VR ρ (.agg l.toArray) (.agg l'.toArray) :=
  .agg _ _ (by simp [h.1]) (fun i v hv => h1 v (List.mem_of_getElem? (by simpa using hv))) fun i v v' a b => h.2 i v v' (by simpa using a) (by simpa using b)
theorem VR.tuple_mk {ρ : Ren} {l l' : List Value} (h : VL ρ l l') : VR ρ (.tuple l.toArray) (.tuple l'.toArray) :=
  .tuple _ _ (by simp [h.1]) fun i v v' a b => h.2 i v v' (by simpa using a) (by simpa using b)
theorem VR.agg_inv {ρ : Ren} {x : Array Value} {v' : Value} (h : VR ρ (.agg x) v') : ∃ x', v' = .agg x' ∧ VL ρ x.toList x'.toList ∧ One x.toList := by
  cases h with
  | agg _ x' hs h1 h => exact ⟨x', rfl, ⟨by simpa using hs, fun i v v' a b => h i v v' (by simpa using a) (by simpa using b)⟩, fun v hv => by
      obtain ⟨i, hi⟩ := List.mem_iff_getElem?.1 hv
      exact h1 i v (by simpa using hi)⟩
theorem VR.tuple_inv {ρ : Ren} {x : Array Value} {v' : Value} (h : VR ρ (.tuple x) v') : ∃ x', v' = .tuple x' ∧ VL ρ x.toList x'.toList := by
  cases h with
  | tuple _ x' hs h => exact ⟨x', rfl, by simpa using hs, fun i v v' a b => h i v v' (by simpa using a) (by simpa using b)⟩
/-- The cells of a value. -/
theorem VR.cells {ρ : Ren} {v v' : Value} (h : VR ρ v v') : VL ρ v.cells.toList v'.cells.toList := by
  cases h with
  | agg x x' hs h1 h => exact ⟨by simpa [Value.cells] using hs, fun i v v' a b => h i v v' (by simpa [Value.cells] using a) (by simpa [Value.cells] using b)⟩
  | bool b => exact VL.cons (.bool b) VL.nil
  | int k n => exact VL.cons (.int k n) VL.nil
  | string s => exact VL.cons (.string s) VL.nil
  | ptrN => exact VL.cons .ptrN VL.nil
  | ptr b off p h => exact VL.cons (.ptr b off p h) VL.nil
  | sliceN => exact VL.cons .sliceN VL.nil
  | slice b off len cap cap' a' p h hc hl ha => exact VL.cons (.slice b off len cap cap' a' p h hc hl ha) VL.nil
  | mapN => exact VL.cons .mapN VL.nil
  | map r p h => exact VL.cons (.map r p h) VL.nil
  | nilFunc => exact VL.cons .nilFunc VL.nil
  | func fn x y x' y' hx hy h1 h2 => exact VL.cons (.func fn x y x' y' hx hy h1 h2) VL.nil
  | nilIface => exact VL.cons .nilIface VL.nil
  | iface t v v' h => exact VL.cons (.iface t v v' h) VL.nil
  | tuple x x' hs h => exact VL.cons (.tuple x x' hs h) VL.nil

/-- A value's cells are of one cell each, but a tuple's. -/
theorem VR.cells_one {ρ : Ren} {v v' : Value} (h : VR ρ v v') (hv : v.oneCell' = true ∨ ∃ cs, v = .agg cs) : One v.cells.toList := by
  rcases hv with hv | ⟨cs, rfl⟩
  · cases v <;> first | (simp [Value.oneCell'] at hv; done) | exact One.cons rfl One.nil
  · obtain ⟨_, _, _, h1⟩ := h.agg_inv; exact h1

/-- No cell below n is frozen. -/
def Unfz (n : Nat) (fz : Nat × Nat) : Prop := ∀ i, i < n → ¬ (fz.1 ≤ i ∧ i < fz.2)

/-- A map's entries were born one behind the other. -/
def Brn (l : List MapEntry) (clock : Nat) : Prop := (l.map (·.born)).Pairwise (· < ·) ∧ ∀ x ∈ l, x.born < clock
theorem Brn.nil : Brn [] 0 := ⟨List.Pairwise.nil, fun x h => by cases h⟩
theorem Brn.snoc {l : List MapEntry} {clock : Nat} (h : Brn l clock) (k v : Value) : Brn (l ++ [⟨k, v, clock⟩]) (clock + 1) := by
  refine ⟨?_, fun x hx => ?_⟩
  · rw [List.map_append, List.pairwise_append]
    refine ⟨h.1, by simp, fun a ha b hb => ?_⟩
    simp at ha hb
    obtain ⟨x, hx, rfl⟩ := ha
    subst hb
    exact h.2 x hx
  · rcases List.mem_append.1 hx with hx | hx
    · exact Nat.lt_succ_of_lt (h.2 x hx)
    · simp at hx; subst hx; exact Nat.lt_succ_self _
theorem Brn.modify {l : List MapEntry} {clock : Nat} (h : Brn l clock) (j : Nat) (f : MapEntry → MapEntry) (hf : ∀ e, (f e).born = e.born) : Brn (l.modify j f) clock := by
  have e : (l.modify j f).map (·.born) = l.map (·.born) := by
    apply List.ext_getElem?
    intro i
    simp only [List.getElem?_map, List.getElem?_modify]
    split
    · cases l[i]? <;> simp [hf]
    · simp
  refine ⟨by rw [e]; exact h.1, fun x hx => ?_⟩
  have : x.born ∈ (l.modify j f).map (·.born) := List.mem_map.2 ⟨x, hx, rfl⟩
  rw [e] at this
  obtain ⟨y, hy, hxy⟩ := List.mem_map.1 this
  rw [← hxy]; exact h.2 y hy
theorem Brn.erase {l : List MapEntry} {clock : Nat} (h : Brn l clock) (j : Nat) : Brn (l.eraseIdx j) clock := by
  have hs := List.eraseIdx_sublist l j
  exact ⟨h.1.sublist (hs.map _), fun x hx => h.2 x (hs.subset hx)⟩

/-- What an abstract block says of a world. -/
def OR (ρ : Ren) (w : World) (p : Pl) : AObj → Prop
  | .cells cs esz own => ∃ c el fz, w.heap[p.blk]? = some (.cells c el fz) ∧ c.size = p.size ∧ (p.esz = esz % tyM ∧ ∀ t, esz / tyM = t + 1 → el = t ∧ p.base = 0) ∧ p.base + cs.length ≤ c.size ∧
      (∀ (i : Nat) (v : Value), cs[i]? = some v → v.oneCell' = true ∧ ∃ v', c[p.base + i]? = some v' ∧ VR ρ v v') ∧ (own = true → Unfz c.size fz)
  | .map es bs clk => ∃ es', w.heap[p.blk]? = some (.map es' clk) ∧ es.length = es'.size ∧
      (∀ (i : Nat) (k v : Value) (e : MapEntry), es[i]? = some (k, v) → es'[i]? = some e → VR ρ k e.key ∧ VR ρ v e.val) ∧ Brn es'.toList clk ∧ es'.toList.map (·.born) = bs
  | .iter r since seen last => p.base = 0 ∧ ∃ r', w.heap[p.blk]? = some (.mapIter r' since seen.toArray last) ∧ VR ρ (.map r) (.map r')
  | .dead => True

theorem OR.mono {ρ ρ' : Ren} (hle : Le ρ ρ') {w : World} {p : Pl} {o : AObj} (h : OR ρ w p o) : OR ρ' w p o := by
  cases o with
  | cells cs esz own =>
    obtain ⟨c, el, fz, h1, h2, h3, h4, h5, h6⟩ := h
    exact ⟨c, el, fz, h1, h2, h3, h4, fun i v hv => let ⟨o, v', a, b⟩ := h5 i v hv; ⟨o, v', a, b.mono hle⟩, h6⟩
  | map es bs clk =>
    obtain ⟨es', h1, h2, h3, h4⟩ := h
    exact ⟨es', h1, h2, fun i k v e a b => let ⟨x, y⟩ := h3 i k v e a b; ⟨x.mono hle, y.mono hle⟩, h4⟩
  | iter r since seen last =>
    obtain ⟨h0, r', h1, h2⟩ := h
    exact ⟨h0, r', h1, h2.mono hle⟩
  | dead => exact trivial

theorem OR.of_block {ρ : Ren} {w w' : World} {p : Pl} {o : AObj} (h : OR ρ w p o) (hb : w'.heap[p.blk]? = w.heap[p.blk]?) : OR ρ w' p o := by
  cases o with
  | cells cs esz own =>
    obtain ⟨c, el, fz, h1, h⟩ := h
    exact ⟨c, el, fz, hb.trans h1, h⟩
  | map es bs clk =>
    obtain ⟨es', h1, h⟩ := h
    exact ⟨es', hb.trans h1, h⟩
  | iter r since seen last =>
    obtain ⟨h0, r', h1, h⟩ := h
    exact ⟨h0, r', hb.trans h1, h⟩
  | dead => exact trivial

theorem OR.blk_lt {ρ : Ren} {w : World} {p : Pl} {o : AObj} (h : OR ρ w p o) (hl : o.live = true) : p.blk < w.heap.size := by
  have key : ∀ x, w.heap[p.blk]? = some x → p.blk < w.heap.size := fun x hx => by
    rcases Nat.lt_or_ge p.blk w.heap.size with h | h
    · exact h
    · simp [Array.getElem?_eq_none h] at hx
  cases o with
  | cells cs esz own => obtain ⟨c, el, fz, h1, _⟩ := h; exact key _ h1
  | map es bs clk => obtain ⟨es', h1, _⟩ := h; exact key _ h1
  | iter r since seen last => obtain ⟨_, r', h1, _⟩ := h; exact key _ h1
  | dead => simp [AObj.live] at hl

/-- How many package-level variables are known: these are the first blocks, of the abstract heap and of the world. -/
def ng : Nat := 0
/-- How many cells each of them has. -/
def gsz (g : Nat) : Nat := ([] : List Nat).getD g 0
def Glob (ρ : Ren) : Prop := ∀ g, g < ng → ∃ p, ρ g = some p ∧ p.blk = g ∧ p.base = 0 ∧ p.size = gsz g
theorem Glob.mono {ρ ρ' : Ren} (h : Glob ρ) (hle : Le ρ ρ') : Glob ρ' := fun g hg => let ⟨p, a, b⟩ := h g hg; ⟨p, hle g p a, b⟩
theorem Glob.val {ρ : Ren} (h : Glob ρ) {g : Nat} (hg : g < ng) : VR ρ (.pointer (some ⟨g, 0, none⟩)) (.pointer (some ⟨g, 0, none⟩)) := by
  obtain ⟨p, h1, h2, h3, _⟩ := h g hg
  have := VR.ptr (ρ := ρ) g 0 p h1
  rwa [h2, h3] at this

/-- What an abstract heap says of a world. -/
structure Rel (ρ : Ren) (H : Heap) (w : World) : Prop where
  dom : ∀ b p, ρ b = some p → b < H.length
  obj : ∀ b p o, ρ b = some p → H[b]? = some o → OR ρ w p o
  sep : ∀ b b' p p' o o', ρ b = some p → ρ b' = some p' → H[b]? = some o → H[b']? = some o' → o.own = true → o'.live = true → b ≠ b' → p.blk ≠ p'.blk
  glob : Glob ρ

/-- A block of the world that an abstract heap owns. -/
def Owns (ρ : Ren) (H : Heap) (k : Nat) : Prop := ∃ b p o, ρ b = some p ∧ H[b]? = some o ∧ o.own = true ∧ p.blk = k

/-- From one state to another one: what goes on. -/
structure Ext (ρ : Ren) (H : Heap) (w : World) (ρ' : Ren) (H' : Heap) (w' : World) : Prop where
  mono : Le ρ ρ'
  hlen : H.length ≤ H'.length
  newid : ∀ b p, ρ' b = some p → ρ b = none → H.length ≤ b
  keep : ∀ k, k < w.heap.size → ¬ Owns ρ H k → w'.heap[k]? = w.heap[k]?
  newblk : ∀ b p, ρ' b = some p → ρ b = none → w.heap.size ≤ p.blk ∨ Owns ρ H p.blk
  ownmono : ∀ b p o', ρ b = some p → H'[b]? = some o' → o'.own = true → ∃ o, H[b]? = some o ∧ o.own = true
  size : w.heap.size ≤ w'.heap.size
  os : w'.os = w.os
  tape : w'.tape = w.tape
  output : w'.output = w.output

theorem Ext.refl (ρ : Ren) (H : Heap) (w : World) : Ext ρ H w ρ H w :=
  ⟨Le.refl ρ, Nat.le_refl _, fun b p h h' => (contra h h').elim, fun _ _ _ => rfl, fun b p h h' => (contra h h').elim, fun b p o' _ h ho => ⟨o', h, ho⟩, Nat.le_refl _, rfl, rfl, rfl⟩

/-- What is owned behind a step, and lay there ahead of it, was owned. -/
theorem Ext.owns {ρ ρ' : Ren} {H H' : Heap} {w w' : World} (h : Ext ρ H w ρ' H' w') {k : Nat} (hk : Owns ρ' H' k) : w.heap.size ≤ k ∨ Owns ρ H k := by
  obtain ⟨b, p, o, hb, ho, hown, rfl⟩ := hk
  cases hρ : ρ b with
  | none => exact h.newblk b p hb hρ
  | some q =>
    have : q = p := by have := h.mono b q hρ; rw [hb] at this; exact (Option.some.inj this).symm
    subst this
    obtain ⟨o2, h2, h3⟩ := h.ownmono b q o hρ ho hown
    exact .inr ⟨b, q, o2, hρ, h2, h3, rfl⟩

theorem Ext.trans {ρ1 ρ2 ρ3 : Ren} {H1 H2 H3 : Heap} {w1 w2 w3 : World} (h : Ext ρ1 H1 w1 ρ2 H2 w2) (k : Ext ρ2 H2 w2 ρ3 H3 w3)
    (hd : ∀ b p, ρ2 b = some p → b < H2.length) : Ext ρ1 H1 w1 ρ3 H3 w3 := by
  refine ⟨h.mono.trans k.mono, Nat.le_trans h.hlen k.hlen, ?_, ?_, ?_, ?_, Nat.le_trans h.size k.size, k.os.trans h.os, k.tape.trans h.tape, k.output.trans h.output⟩
  · intro b p h3 h1
    cases h2 : ρ2 b with
    | none => exact Nat.le_trans h.hlen (k.newid b p h3 h2)
    | some q => exact h.newid b q h2 h1
  · intro j hj hn
    have h1 := h.keep j hj hn
    have h2 := k.keep j (Nat.lt_of_lt_of_le hj h.size) (fun ho => by
      rcases h.owns ho with h | h
      · omega
      · exact hn h)
    exact h2.trans h1
  · intro b p h3 h1
    cases h2 : ρ2 b with
    | none =>
      rcases k.newblk b p h3 h2 with h' | h'
      · exact .inl (Nat.le_trans h.size h')
      · exact h.owns h'
    | some q =>
      have : q = p := by have := k.mono b q h2; rw [h3] at this; exact (Option.some.inj this).symm
      subst this
      exact h.newblk b q h2 h1
  · intro b p o' h1 h3 ho
    obtain ⟨o2, h2, ho2⟩ := k.ownmono b p o' (h.mono b p h1) h3 ho
    exact h.ownmono b p o2 h1 h2 ho2

/-- A draw of the tape changes nothing that is told. -/
def Drawn (w w' : World) : Prop := w'.heap = w.heap ∧ w'.os = w.os ∧ w'.tape = w.tape ∧ w'.output = w.output
theorem Drawn.refl (w : World) : Drawn w w := ⟨rfl, rfl, rfl, rfl⟩
theorem Rel.drawn {ρ : Ren} {H : Heap} {w w' : World} (h : Rel ρ H w) (hd : Drawn w w') : Rel ρ H w' :=
  ⟨h.dom, fun b p o h1 h2 => (h.obj b p o h1 h2).of_block (by rw [hd.1]), h.sep, h.glob⟩
theorem Ext.drawn {ρ : Ren} {H : Heap} {w w' : World} (hd : Drawn w w') : Ext ρ H w ρ H w' :=
  ⟨Le.refl ρ, Nat.le_refl _, fun b p h h' => (contra h h').elim, fun k _ _ => by rw [hd.1], fun b p h h' => (contra h h').elim, fun b p o' _ h ho => ⟨o', h, ho⟩, by rw [hd.1]; exact Nat.le_refl _, hd.2.1, hd.2.2.1, hd.2.2.2⟩

/-- The renaming with one block more. -/
def Ren.ins (ρ : Ren) (b : Nat) (p : Pl) : Ren := fun x => if x = b then some p else ρ x
theorem Ren.ins_self (ρ : Ren) (b : Nat) (p : Pl) : ρ.ins b p b = some p := by simp [Ren.ins]
theorem Ren.ins_le {ρ : Ren} {b : Nat} {p : Pl} (h : ρ b = none) : Le ρ (ρ.ins b p) := fun x q hx => by
  unfold Ren.ins
  split
  · rename_i e; subst e; rw [h] at hx; cases hx
  · exact hx

theorem Rel.fresh {ρ : Ren} {H : Heap} {w : World} (h : Rel ρ H w) : ρ H.length = none := by
  cases hρ : ρ H.length with
  | none => rfl
  | some p => exact absurd (h.dom _ _ hρ) (Nat.lt_irrefl _)

/-- A new block: in the world at its end, in the abstract heap under any number at which the renaming has none, if the abstract heap has the block there. -/
theorem Rel.new_at {ρ : Ren} {H : Heap} {w : World} (h : Rel ρ H w) {b : Nat} {o : AObj} (hb : H[b]? = some o) (hn : ρ b = none) {co : Obj} {p : Pl} (hp : p.blk = w.heap.size)
    (ho : ∀ ρ', Le ρ ρ' → OR ρ' (w.alloc co) p o) : Rel (ρ.ins b p) H (w.alloc co) := by
  have hle := Ren.ins_le (p := p) hn
  have hlt : ∀ c q x, ρ c = some q → H[c]? = some x → x.live = true → q.blk < w.heap.size := fun c q x h1 h2 h3 => (h.obj c q x h1 h2).blk_lt h3
  have hblk : ∀ k, k < w.heap.size → (w.alloc co).heap[k]? = w.heap[k]? := fun k hk => Below.heap_alloc _ _ _ hk
  refine ⟨?_, ?_, ?_, h.glob.mono hle⟩
  · intro c q hc
    unfold Ren.ins at hc
    split at hc
    · rename_i e
      subst e
      rcases Nat.lt_or_ge c H.length with h' | h'
      · exact h'
      · simp [List.getElem?_eq_none h'] at hb
    · exact h.dom c q hc
  · intro c q x hc hx
    unfold Ren.ins at hc
    split at hc
    · rename_i e
      subst e
      rw [hb] at hx
      obtain rfl := Option.some.inj hx
      obtain rfl := Option.some.inj hc
      exact ho _ hle
    · have := (h.obj c q x hc hx).mono hle
      cases x with
      | dead => exact trivial
      | cells cs esz own => exact this.of_block (hblk _ (hlt c q _ hc hx rfl))
      | map es bs clk => exact this.of_block (hblk _ (hlt c q _ hc hx rfl))
      | iter r since seen last => exact this.of_block (hblk _ (hlt c q _ hc hx rfl))
  · intro c c' q q' x x' hc hc' hx hx' hown hlive hne
    have hx_live : x.live = true := by cases x <;> simp_all [AObj.own, AObj.live]
    unfold Ren.ins at hc hc'
    split at hc
    · rename_i e
      subst e
      obtain rfl := Option.some.inj hc
      rw [if_neg (Ne.symm hne)] at hc'
      have := hlt c' q' x' hc' hx' hlive
      omega
    · rename_i hcb
      split at hc'
      · rename_i e
        subst e
        obtain rfl := Option.some.inj hc'
        have := hlt c q x hc hx hx_live
        omega
      · exact h.sep c c' q q' x x' hc hc' hx hx' hown hlive hne

/-- The abstract heap with one block more, of which the renaming says nothing. -/
theorem Rel.push {ρ : Ren} {H : Heap} {w : World} (h : Rel ρ H w) (l : List AObj) : Rel ρ (H ++ l) w := by
  have hg : ∀ b p x, ρ b = some p → (H ++ l)[b]? = some x → H[b]? = some x := fun b p x hb hx => by
    rw [List.getElem?_append_left (h.dom b p hb)] at hx; exact hx
  exact ⟨fun b p hb => by have := h.dom b p hb; simp; omega, fun b p o hb ho => h.obj b p o hb (hg b p o hb ho),
    fun b b' p p' o o' h1 h2 h3 h4 h5 h6 h7 => h.sep b b' p p' o o' h1 h2 (hg b p o h1 h3) (hg b' p' o' h2 h4) h5 h6 h7, h.glob⟩

theorem Ext.push {ρ : Ren} {H : Heap} {w : World} (hd : ∀ b p, ρ b = some p → b < H.length) (l : List AObj) : Ext ρ H w ρ (H ++ l) w :=
  ⟨Le.refl ρ, by simp, fun b p h h' => (contra h h').elim, fun _ _ _ => rfl, fun b p h h' => (contra h h').elim,
    fun b p o' hb h ho => ⟨o', by rw [List.getElem?_append_left (hd b p hb)] at h; exact h, ho⟩, Nat.le_refl _, rfl, rfl, rfl⟩

theorem Ext.new_at {ρ : Ren} {H : Heap} {w : World} {b : Nat} (hb : H.length ≤ b) (hn : ρ b = none) {co : Obj} {p : Pl} (hp : p.blk = w.heap.size) {l : List AObj} (hd : ∀ b p, ρ b = some p → b < H.length) :
    Ext ρ H w (ρ.ins b p) (H ++ l) (w.alloc co) := by
  refine ⟨Ren.ins_le hn, by simp, ?_, fun k hk _ => Below.heap_alloc _ _ _ hk, ?_, ?_, by simp, rfl, rfl, rfl⟩
  · intro c q hc hc'
    unfold Ren.ins at hc
    split at hc
    · rename_i e; subst e; exact hb
    · rw [hc'] at hc; cases hc
  · intro c q hc hc'
    unfold Ren.ins at hc
    split at hc
    · obtain rfl := Option.some.inj hc; exact .inl (by omega)
    · rw [hc'] at hc; cases hc
  · intro c q o' hc h ho
    exact ⟨o', by rw [List.getElem?_append_left (hd c q hc)] at h; exact h, ho⟩

/-- A block that is owned is written: what the abstract heap and the world have at it turn together. -/
theorem Rel.turn {ρ : Ren} {H : Heap} {w w' : World} (h : Rel ρ H w) {b : Nat} {p : Pl} {o o' : AObj} (hb : ρ b = some p) (ho : H[b]? = some o) (hown : o.own = true) (hown' : o'.own = true)
    (hw : ∀ k, k ≠ p.blk → w'.heap[k]? = w.heap[k]?) (hor : OR ρ w' p o') : Rel ρ (H.set b o') w' := by
  have hget : ∀ c x, (H.set b o')[c]? = some x → c ≠ b → H[c]? = some x := fun c x hx hne => by
    rw [List.getElem?_set_ne (Ne.symm hne)] at hx; exact hx
  have hlt := h.dom b p hb
  refine ⟨fun c q hc => by simpa using h.dom c q hc, ?_, ?_, h.glob⟩
  · intro c q x hc hx
    by_cases e : c = b
    · subst e
      rw [hb] at hc
      obtain rfl := Option.some.inj hc
      simp [hlt] at hx
      subst hx
      exact hor
    · have hx' := hget c x hx e
      cases hl : x.live with
      | false => cases x <;> simp_all [AObj.live, OR]
      | true => exact (h.obj c q x hc hx').of_block (hw _ (fun e2 => h.sep b c p q o x hb hc ho hx' hown hl (Ne.symm e) e2.symm))
  · intro c c' q q' x x' hc hc' hx hx' ho1 hl1 hne
    by_cases e : c = b
    · subst e
      rw [hb] at hc
      obtain rfl := Option.some.inj hc
      exact h.sep c c' p q' o x' hb hc' ho (hget c' x' hx' (Ne.symm hne)) hown hl1 hne
    · by_cases e2 : c' = b
      · subst e2
        rw [hb] at hc'
        obtain rfl := Option.some.inj hc'
        have hol : o.live = true := by cases o <;> simp_all [AObj.own, AObj.live]
        exact h.sep c c' q p x o hc hb (hget c x hx e) ho ho1 hol hne
      · exact h.sep c c' q q' x x' hc hc' (hget c x hx e) (hget c' x' hx' e2) ho1 hl1 hne

theorem Ext.turn {ρ : Ren} {H : Heap} {w w' : World} {b : Nat} {p : Pl} {o o' : AObj} (hb : ρ b = some p) (ho : H[b]? = some o) (hown : o.own = true)
    (hw : ∀ k, k ≠ p.blk → w'.heap[k]? = w.heap[k]?) (hs : w'.heap.size = w.heap.size) (h1 : w'.os = w.os) (h2 : w'.tape = w.tape) (h3 : w'.output = w.output) : Ext ρ H w ρ (H.set b o') w' := by
  refine ⟨Le.refl ρ, by simp, fun c q h h' => (contra h h').elim, fun k _ hn => hw k (fun e => hn ⟨b, p, o, hb, ho, hown, e.symm⟩), fun c q h h' => (contra h h').elim, ?_, by omega, h1, h2, h3⟩
  intro c q x hc hx hx2
  by_cases e : c = b
  · subst e; exact ⟨o, ho, hown⟩
  · rw [List.getElem?_set_ne (Ne.symm e)] at hx; exact ⟨x, hx, hx2⟩

/-- A block that is let go. -/
theorem Rel.kill {ρ : Ren} {H : Heap} {w : World} (h : Rel ρ H w) (b : Nat) : Rel ρ (H.set b .dead) w := by
  have hget : ∀ (c : Nat) (x : AObj), (H.set b .dead)[c]? = some x → x.live = true → H[c]? = some x := fun c x hx hl => by
    by_cases e : c = b
    · subst e
      rw [List.getElem?_set] at hx
      simp at hx
      rw [← hx.2] at hl
      simp [AObj.live] at hl
    · rw [List.getElem?_set_ne (Ne.symm e)] at hx; exact hx
  refine ⟨fun c q hc => by simpa using h.dom c q hc, ?_, ?_, h.glob⟩
  · intro c q x hc hx
    cases hl : x.live with
    | false => cases x <;> simp_all [AObj.live, OR]
    | true => exact h.obj c q x hc (hget c x hx hl)
  · intro c c' q q' x x' hc hc' hx hx' ho hl hne
    have hxl : x.live = true := by cases x <;> simp_all [AObj.own, AObj.live]
    exact h.sep c c' q q' x x' hc hc' (hget c x hx hxl) (hget c' x' hx' hl) ho hl hne

end Go.Proofs.YtlpeldimmaajkaaGreat.Fw
