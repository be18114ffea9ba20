/- FRAMEWORK 1: an abstract heap for Go's memory, and what it says of a world. Conditions: none; plain definitions and lemmas. FRAMEWORK 1b: values and blocks that are alike; what is common to two heaps. Conditions: none. FRAMEWORK 1c: whole numbers of which not all is known: bounds, and what they are to a number that a place stands for. Conditions: none. FRAMEWORK 2: what a Go function does on the abstract heap: an evaluator of the machine's code. Definitions alone. FRAMEWORK 3: regions that draw their order, control, whole functions: definitions alone. -/
import Derived.Orders
import Derived.Below
import Derived.Tactics
import Derived.KernelRfl
import Derived.Laws.Entries
import Derived.Laws.Tables
set_option linter.unusedVariables false
set_option linter.unusedSimpArgs false
namespace Go.Proofs.YtgnkjpbecgpjoaaGreatDoor.Fw
open Go Go.RowKit

/-- Where an abstract block lies in a world: its block, where it begins there, how many cells that block has, how many cells an element has. -/
structure Pl where
  blk : Nat
  base : Nat
  size : Nat
  esz : Nat

abbrev Ren := Nat → Option Pl

theorem contra {α : Type} {x : Option α} {a : α} (h : x = some a) (h' : x = none) : False := by rw [h] at h'; cases h'

/-- The capacity of a slice of which it is not known; unk + n: it is n at least. -/
def unk : Nat := 2 ^ 64
theorem unkOk (c : Nat) : unk ≤ unk ∧ unk - unk ≤ c := ⟨Nat.le_refl _, by rw [Nat.sub_self]; exact Nat.zero_le _⟩

/-- The size of an element, and, behind that, its type's number and one, if it is known. -/
def tyM : Nat := 1048576
def tz (n e : Nat) : Nat := n % tyM + tyM * (e + 1)
theorem tz_mod (n e : Nat) : tz n e % tyM = n % tyM := by unfold tz tyM; omega
theorem tz_div (n e : Nat) : tz n e / tyM = e + 1 := by unfold tz tyM; omega
def szOk (esz n e : Nat) : Bool := Nat.beq (esz % tyM) n && (Nat.beq (esz / tyM) 0 || Nat.beq (esz / tyM) (e + 1))
/-- A row that goes on from a place in it: its type is known if the place is its beginning. -/
def tzOff (off esz : Nat) : Nat := match off with | 0 => esz | _ + 1 => esz % tyM
theorem tzOff_mod (off esz : Nat) : tzOff off esz % tyM = esz % tyM := by unfold tzOff; split <;> simp
theorem tzOff_div {off esz t : Nat} (h : tzOff off esz / tyM = t + 1) : off = 0 ∧ esz / tyM = t + 1 := by
  unfold tzOff at h
  split at h
  · exact ⟨rfl, h⟩
  · have : esz % tyM < tyM := Nat.mod_lt _ (by decide)
    rw [Nat.div_eq_of_lt this] at h; omega

inductive AObj where
  | cells (cs : List Value) (esz : Nat) (own : Bool)
  | map (es : List (Value × Value)) (bs : List Nat) (clk : Nat)
  | iter (r : Option Nat) (since : Nat) (seen : List Nat) (last : Nat)
  | dead

abbrev Heap := List AObj

def AObj.own : AObj → Bool
  | .cells _ _ o => o
  | .map _ _ _ => true
  | .iter _ _ _ _ => true
  | .dead => false

def AObj.live : AObj → Bool
  | .dead => false
  | _ => true

/-- A whole number that a place without a block of its own stands for. -/
def pv (p : Pl) : Int := (p.size : Int) - (p.esz : Int)

/-- What is known of a whole number: its bounds, and what it is to a number that a place stands for, but for so much. -/
structure SI where
  b : Nat
  c : Int
  o : Int
  m : Int
  lo : Int
  hi : Int

/-- A number is as that says. -/
def Has (ρ : Ren) (s : SI) (n : Int) : Prop := s.lo ≤ n ∧ n ≤ s.hi ∧ ∃ t q : Int, (s.c = 0 ∨ ∃ p, ρ s.b = some p ∧ pv p = t) ∧ n = s.c * t + s.o + s.m * q

/-- A value of the abstract heap, and the world's. -/
inductive VR (ρ : Ren) : Value → Value → Prop
  | bool (b : Bool) : VR ρ (.bool b) (.bool b)
  | int (k : IntKind) (n : Int) : VR ρ (.int k n) (.int k n)
  | string (s : ByteArray) : VR ρ (.string s) (.string s)
  | ptrN : VR ρ (.pointer none) (.pointer none)
  | ptr (b off : Nat) (p : Pl) (h : ρ b = some p) : VR ρ (.pointer (some ⟨b, off, none⟩)) (.pointer (some ⟨p.blk, p.base + off, none⟩))
  | sliceN : VR ρ (.slice none 0 0) (.slice none 0 0)
  | slice (b off len cap cap' : Nat) (a' : Addr) (p : Pl) (h : ρ b = some p) (hc : cap = cap' ∨ (unk ≤ cap ∧ cap - unk ≤ cap')) (hl : len ≤ cap')
      (ha : cap' = 0 ∨ (a' = ⟨p.blk, p.base + off, none⟩ ∧ p.base + off + cap' * p.esz ≤ p.size)) : VR ρ (.slice (some ⟨b, off, none⟩) len cap) (.slice (some a') len cap')
  | mapN : VR ρ (.map none) (.map none)
  | map (r : Nat) (p : Pl) (h : ρ r = some p) : VR ρ (.map (some r)) (.map (some p.blk))
  | nilFunc : VR ρ .nilFunc .nilFunc
  | func (fn : Nat) (x y x' y' : Array Value) (hx : x.size = x'.size) (hy : y.size = y'.size)
      (h : ∀ (i : Nat) (v v' : Value), x[i]? = some v → x'[i]? = some v' → VR ρ v v') (h2 : ∀ (i : Nat) (v v' : Value), y[i]? = some v → y'[i]? = some v' → VR ρ v v') : VR ρ (.func (.func fn) x y) (.func (.func fn) x' y')
  | sym (b : Nat) (c o m lo hi n : Int) (h : Has ρ ⟨b, c, o, m, lo, hi⟩ n) : VR ρ (.func (.yield b) ⟨[.int .i64 c, .int .i64 o, .int .i64 m, .int .i64 lo, .int .i64 hi]⟩ ⟨[]⟩) (.int .i64 n)
  | nilIface : VR ρ .nilIface .nilIface
  | iface (t : TypeId) (v v' : Value) (h : VR ρ v v') : VR ρ (.iface t v) (.iface t v')
  | agg (x x' : Array Value) (hs : x.size = x'.size) (h1 : ∀ (i : Nat) (v : Value), x[i]? = some v → v.oneCell' = true) (h : ∀ (i : Nat) (v v' : Value), x[i]? = some v → x'[i]? = some v' → VR ρ v v') : VR ρ (.agg x) (.agg x')
  | tuple (x x' : Array Value) (hs : x.size = x'.size) (h : ∀ (i : Nat) (v v' : Value), x[i]? = some v → x'[i]? = some v' → VR ρ v v') : VR ρ (.tuple x) (.tuple x')
  | hole (v' : Value) (h : v'.oneCell' = true) : VR ρ (.chan none) v'

/-- One renaming goes on from another one. -/
def Le (ρ ρ' : Ren) : Prop := ∀ b p, ρ b = some p → ρ' b = some p
theorem Le.refl (ρ : Ren) : Le ρ ρ := fun _ _ h => h
theorem Le.trans {a b c : Ren} (h : Le a b) (k : Le b c) : Le a c := fun x p hx => k x p (h x p hx)

theorem Has.mono {ρ ρ' : Ren} (hle : Le ρ ρ') {s : SI} {n : Int} (h : Has ρ s n) : Has ρ' s n := by
  obtain ⟨h1, h2, t, q, h3, h4⟩ := h
  refine ⟨h1, h2, t, q, ?_, h4⟩
  rcases h3 with h3 | ⟨p, h5, h6⟩
  · exact .inl h3
  · exact .inr ⟨p, hle _ _ h5, h6⟩
theorem VR.mono {ρ ρ' : Ren} (hle : Le ρ ρ') {v v' : Value} (h : VR ρ v v') : VR ρ' v v' := by
  induction h with
  | sym b c o m lo hi n h => exact .sym b c o m lo hi n (h.mono hle)
  | bool b => exact .bool b
  | int k n => exact .int k n
  | string s => exact .string s
  | ptrN => exact .ptrN
  | ptr b off p h => exact .ptr b off p (hle _ _ h)
  | sliceN => exact .sliceN
  | slice b off len cap cap' a' p h hc hl ha => exact .slice b off len cap cap' a' p (hle _ _ h) hc hl ha
  | mapN => exact .mapN
  | map r p h => exact .map r p (hle _ _ h)
  | nilFunc => exact .nilFunc
  | func fn x y x' y' hx hy _ _ ih ih2 => exact .func fn x y x' y' hx hy ih ih2
  | nilIface => exact .nilIface
  | iface t v v' _ ih => exact .iface t v v' ih
  | agg x x' hs h1 _ ih => exact .agg x x' hs h1 ih
  | tuple x x' hs _ ih => exact .tuple x x' hs ih
  | hole v' h => exact .hole v' h

/-- Lists of values. -/
def VL (ρ : Ren) (l l' : List Value) : Prop := l.length = l'.length ∧ ∀ (i : Nat) (v v' : Value), l[i]? = some v → l'[i]? = some v' → VR ρ v v'

theorem VL.mono {ρ ρ' : Ren} (hle : Le ρ ρ') {l l' : List Value} (h : VL ρ l l') : VL ρ' l l' := ⟨h.1, fun i v v' a b => (h.2 i v v' a b).mono hle⟩
theorem VL.nil {ρ : Ren} : VL ρ [] [] := ⟨rfl, by simp⟩
theorem VL.cons {ρ : Ren} {v v' : Value} {l l' : List Value} (hv : VR ρ v v') (h : VL ρ l l') : VL ρ (v :: l) (v' :: l') :=
  ⟨by simp [h.1], fun i a b ha hb => by
    cases i with
    | zero => simp at ha hb; subst ha; subst hb; exact hv
    | succ i => simp at ha hb; exact h.2 i a b ha hb⟩
theorem VL.get {ρ : Ren} {l l' : List Value} (h : VL ρ l l') {i : Nat} {v : Value} (hv : l[i]? = some v) : ∃ v', l'[i]? = some v' ∧ VR ρ v v' := by
  have hi : i < l.length := by
    rcases Nat.lt_or_ge i l.length with h | h
    · exact h
    · simp [List.getElem?_eq_none h] at hv
  have hi' : i < l'.length := h.1 ▸ hi
  exact ⟨l'[i], by simp [hi'], h.2 i _ _ hv (by simp [hi'])⟩
theorem VL.cons_inv {ρ : Ren} {v : Value} {l l' : List Value} (h : VL ρ (v :: l) l') : ∃ v' m, l' = v' :: m ∧ VR ρ v v' ∧ VL ρ l m := by
  cases l' with
  | nil => simp [VL] at h
  | cons v' m =>
    refine ⟨v', m, rfl, h.2 0 _ _ rfl rfl, by have := h.1; simp at this; exact this, fun i a b ha hb => h.2 (i + 1) a b (by simpa using ha) (by simpa using hb)⟩
theorem VL.nil_inv {ρ : Ren} {l' : List Value} (h : VL ρ [] l') : l' = [] := by
  have := h.1
  cases l' with
  | nil => rfl
  | cons => simp at this
theorem VL.append {ρ : Ren} {a a' b b' : List Value} (h : VL ρ a a') (k : VL ρ b b') : VL ρ (a ++ b) (a' ++ b') := by
  refine ⟨by simp [h.1, k.1], fun i v v' hv hv' => ?_⟩
  rcases Nat.lt_or_ge i a.length with hi | hi
  · rw [List.getElem?_append_left hi] at hv
    rw [List.getElem?_append_left (h.1 ▸ hi)] at hv'
    exact h.2 i v v' hv hv'
  · rw [List.getElem?_append_right hi] at hv
    rw [List.getElem?_append_right (h.1 ▸ hi), ← h.1] at hv'
    exact k.2 _ v v' hv hv'
theorem VL.take {ρ : Ren} {a a' : List Value} (h : VL ρ a a') (n : Nat) : VL ρ (a.take n) (a'.take n) := by
  refine ⟨by simp [h.1], fun i v v' hv hv' => ?_⟩
  rw [List.getElem?_take] at hv hv'
  split at hv
  · rename_i hi; rw [if_pos hi] at hv'; exact h.2 i v v' hv hv'
  · simp at hv
theorem VL.drop {ρ : Ren} {a a' : List Value} (h : VL ρ a a') (n : Nat) : VL ρ (a.drop n) (a'.drop n) := by
  refine ⟨by simp [h.1], fun i v v' hv hv' => ?_⟩
  rw [List.getElem?_drop] at hv hv'
  exact h.2 _ v v' hv hv'
theorem VL.replicate {ρ : Ren} (n : Nat) {v v' : Value} (h : VR ρ v v') : VL ρ (List.replicate n v) (List.replicate n v') := by
  refine ⟨by simp, fun i a b ha hb => ?_⟩
  rw [List.getElem?_replicate] at ha hb
  split at ha
  · rename_i hi
    rw [if_pos hi] at hb
    simp at ha hb; subst ha; subst hb; exact h
  · simp at ha
/-- All of one cell. -/
def One (l : List Value) : Prop := ∀ v ∈ l, v.oneCell' = true
theorem One.nil : One [] := fun _ h => by cases h
theorem One.cons {v : Value} {l : List Value} (hv : v.oneCell' = true) (h : One l) : One (v :: l) := fun u hu => by
  rcases List.mem_cons.1 hu with rfl | hu
  · exact hv
  · exact h u hu
theorem One.append {a b : List Value} (h : One a) (k : One b) : One (a ++ b) := fun u hu => by
  rcases List.mem_append.1 hu with hu | hu
  · exact h u hu
  · exact k u hu
theorem One.take {a : List Value} (h : One a) (n : Nat) : One (a.take n) := fun u hu => h u (List.mem_of_mem_take hu)
theorem One.drop {a : List Value} (h : One a) (n : Nat) : One (a.drop n) := fun u hu => h u (List.mem_of_mem_drop hu)
theorem VR.one_eq {ρ : Ren} {v v' : Value} (h : VR ρ v v') : v'.oneCell' = v.oneCell' := by cases h <;> first | rfl | assumption
theorem VL.one {ρ : Ren} {l l' : List Value} (h : VL ρ l l') (h1 : One l) : One l' := fun u hu => by
  obtain ⟨i, hi⟩ := List.mem_iff_getElem?.1 hu
  have hlt : i < l.length := by
    rcases Nat.lt_or_ge i l'.length with hh | hh
    · exact h.1 ▸ hh
    · simp [List.getElem?_eq_none hh] at hi
  have := h.2 i l[i] u (by simp [hlt]) hi
  rw [this.one_eq]
  exact h1 _ (List.getElem_mem hlt)
theorem VR.agg_mk {ρ : Ren} {l l' : List Value} (h : VL ρ l l') (h1 : One l) : VR ρ (.agg l.toArray) (.agg l'.toArray) :=
  .agg _ _ (by simp [h.1]) (fun i v hv => h1 v (List.mem_of_getElem? (by simpa using hv))) fun i v v' a b => h.2 i v v' (by simpa using a) (by simpa using b)
theorem VR.tuple_mk {ρ : Ren} {l l' : List Value} (h : VL ρ l l') : VR ρ (.tuple l.toArray) (.tuple l'.toArray) :=
  .tuple _ _ (by simp [h.1]) fun i v v' a b => h.2 i v v' (by simpa using a) (by simpa using b)
theorem VR.agg_inv {ρ : Ren} {x : Array Value} {v' : Value} (h : VR ρ (.agg x) v') : ∃ x', v' = .agg x' ∧ VL ρ x.toList x'.toList ∧ One x.toList := by
  cases h with
  | agg _ x' hs h1 h => exact ⟨x', rfl, ⟨by simpa using hs, fun i v v' a b => h i v v' (by simpa using a) (by simpa using b)⟩, fun v hv => by
      obtain ⟨i, hi⟩ := List.mem_iff_getElem?.1 hv
      exact h1 i v (by simpa using hi)⟩
theorem VR.tuple_inv {ρ : Ren} {x : Array Value} {v' : Value} (h : VR ρ (.tuple x) v') : ∃ x', v' = .tuple x' ∧ VL ρ x.toList x'.toList := by
  cases h with
  | tuple _ x' hs h => exact ⟨x', rfl, by simpa using hs, fun i v v' a b => h i v v' (by simpa using a) (by simpa using b)⟩
/-- The cells of a value. -/
theorem VR.cells {ρ : Ren} {v v' : Value} (h : VR ρ v v') : VL ρ v.cells.toList v'.cells.toList := by
  cases h with
  | agg x x' hs h1 h => exact ⟨by simpa [Value.cells] using hs, fun i v v' a b => h i v v' (by simpa [Value.cells] using a) (by simpa [Value.cells] using b)⟩
  | bool b => exact VL.cons (.bool b) VL.nil
  | int k n => exact VL.cons (.int k n) VL.nil
  | string s => exact VL.cons (.string s) VL.nil
  | ptrN => exact VL.cons .ptrN VL.nil
  | ptr b off p h => exact VL.cons (.ptr b off p h) VL.nil
  | sliceN => exact VL.cons .sliceN VL.nil
  | slice b off len cap cap' a' p h hc hl ha => exact VL.cons (.slice b off len cap cap' a' p h hc hl ha) VL.nil
  | mapN => exact VL.cons .mapN VL.nil
  | map r p h => exact VL.cons (.map r p h) VL.nil
  | nilFunc => exact VL.cons .nilFunc VL.nil
  | func fn x y x' y' hx hy h1 h2 => exact VL.cons (.func fn x y x' y' hx hy h1 h2) VL.nil
  | sym b c o m lo hi n h => exact VL.cons (.sym b c o m lo hi n h) VL.nil
  | nilIface => exact VL.cons .nilIface VL.nil
  | iface t v v' h => exact VL.cons (.iface t v v' h) VL.nil
  | tuple x x' hs h => exact VL.cons (.tuple x x' hs h) VL.nil
  | hole v' h => cases v' <;> first | exact VL.cons (.hole _ h) VL.nil | (simp [Value.oneCell'] at h; done)

/-- A value's cells are of one cell each, but a tuple's. -/
theorem VR.cells_one {ρ : Ren} {v v' : Value} (h : VR ρ v v') (hv : v.oneCell' = true ∨ ∃ cs, v = .agg cs) : One v.cells.toList := by
  rcases hv with hv | ⟨cs, rfl⟩
  · cases v <;> first | (simp [Value.oneCell'] at hv; done) | exact One.cons rfl One.nil
  · obtain ⟨_, _, _, h1⟩ := h.agg_inv; exact h1

/-- No cell below n is frozen. -/
def Unfz (n : Nat) (fz : Nat × Nat) : Prop := ∀ i, i < n → ¬ (fz.1 ≤ i ∧ i < fz.2)

/-- A map's entries were born one behind the other. -/
def Brn (l : List MapEntry) (clock : Nat) : Prop := (l.map (·.born)).Pairwise (· < ·) ∧ ∀ x ∈ l, x.born < clock
theorem Brn.nil : Brn [] 0 := ⟨List.Pairwise.nil, fun x h => by cases h⟩
theorem Brn.snoc {l : List MapEntry} {clock : Nat} (h : Brn l clock) (k v : Value) : Brn (l ++ [⟨k, v, clock⟩]) (clock + 1) := by
  refine ⟨?_, fun x hx => ?_⟩
  · rw [List.map_append, List.pairwise_append]
    refine ⟨h.1, by simp, fun a ha b hb => ?_⟩
    simp at ha hb
    obtain ⟨x, hx, rfl⟩ := ha
    subst hb
    exact h.2 x hx
  · rcases List.mem_append.1 hx with hx | hx
    · exact Nat.lt_succ_of_lt (h.2 x hx)
    · simp at hx; subst hx; exact Nat.lt_succ_self _
theorem Brn.modify {l : List MapEntry} {clock : Nat} (h : Brn l clock) (j : Nat) (f : MapEntry → MapEntry) (hf : ∀ e, (f e).born = e.born) : Brn (l.modify j f) clock := by
  have e : (l.modify j f).map (·.born) = l.map (·.born) := by
    apply List.ext_getElem?
    intro i
    simp only [List.getElem?_map, List.getElem?_modify]
    split
    · cases l[i]? <;> simp [hf]
    · simp
  refine ⟨by rw [e]; exact h.1, fun x hx => ?_⟩
  have : x.born ∈ (l.modify j f).map (·.born) := List.mem_map.2 ⟨x, hx, rfl⟩
  rw [e] at this
  obtain ⟨y, hy, hxy⟩ := List.mem_map.1 this
  rw [← hxy]; exact h.2 y hy
theorem Brn.erase {l : List MapEntry} {clock : Nat} (h : Brn l clock) (j : Nat) : Brn (l.eraseIdx j) clock := by
  have hs := List.eraseIdx_sublist l j
  exact ⟨h.1.sublist (hs.map _), fun x hx => h.2 x (hs.subset hx)⟩

/-- What an abstract block says of a world. -/
def OR (ρ : Ren) (w : World) (p : Pl) : AObj → Prop
  | .cells cs esz own => ∃ c el fz, w.heap[p.blk]? = some (.cells c el fz) ∧ c.size = p.size ∧ (p.esz = esz % tyM ∧ ∀ t, esz / tyM = t + 1 → el = t ∧ p.base = 0) ∧ p.base + cs.length ≤ c.size ∧
      (∀ (i : Nat) (v : Value), cs[i]? = some v → v.oneCell' = true ∧ ∃ v', c[p.base + i]? = some v' ∧ VR ρ v v') ∧ (own = true → Unfz c.size fz)
  | .map es bs clk => ∃ es', w.heap[p.blk]? = some (.map es' clk) ∧ es.length = es'.size ∧
      (∀ (i : Nat) (k v : Value) (e : MapEntry), es[i]? = some (k, v) → es'[i]? = some e → VR ρ k e.key ∧ VR ρ v e.val) ∧ Brn es'.toList clk ∧ es'.toList.map (·.born) = bs
  | .iter r since seen last => p.base = 0 ∧ ∃ r', w.heap[p.blk]? = some (.mapIter r' since seen.toArray last) ∧ VR ρ (.map r) (.map r')
  | .dead => True

theorem OR.mono {ρ ρ' : Ren} (hle : Le ρ ρ') {w : World} {p : Pl} {o : AObj} (h : OR ρ w p o) : OR ρ' w p o := by
  cases o with
  | cells cs esz own =>
    obtain ⟨c, el, fz, h1, h2, h3, h4, h5, h6⟩ := h
    exact ⟨c, el, fz, h1, h2, h3, h4, fun i v hv => let ⟨o, v', a, b⟩ := h5 i v hv; ⟨o, v', a, b.mono hle⟩, h6⟩
  | map es bs clk =>
    obtain ⟨es', h1, h2, h3, h4⟩ := h
    exact ⟨es', h1, h2, fun i k v e a b => let ⟨x, y⟩ := h3 i k v e a b; ⟨x.mono hle, y.mono hle⟩, h4⟩
  | iter r since seen last =>
    obtain ⟨h0, r', h1, h2⟩ := h
    exact ⟨h0, r', h1, h2.mono hle⟩
  | dead => exact trivial

theorem OR.of_block {ρ : Ren} {w w' : World} {p : Pl} {o : AObj} (h : OR ρ w p o) (hb : w'.heap[p.blk]? = w.heap[p.blk]?) : OR ρ w' p o := by
  cases o with
  | cells cs esz own =>
    obtain ⟨c, el, fz, h1, h⟩ := h
    exact ⟨c, el, fz, hb.trans h1, h⟩
  | map es bs clk =>
    obtain ⟨es', h1, h⟩ := h
    exact ⟨es', hb.trans h1, h⟩
  | iter r since seen last =>
    obtain ⟨h0, r', h1, h⟩ := h
    exact ⟨h0, r', hb.trans h1, h⟩
  | dead => exact trivial

theorem OR.blk_lt {ρ : Ren} {w : World} {p : Pl} {o : AObj} (h : OR ρ w p o) (hl : o.live = true) : p.blk < w.heap.size := by
  have key : ∀ x, w.heap[p.blk]? = some x → p.blk < w.heap.size := fun x hx => by
    rcases Nat.lt_or_ge p.blk w.heap.size with h | h
    · exact h
    · simp [Array.getElem?_eq_none h] at hx
  cases o with
  | cells cs esz own => obtain ⟨c, el, fz, h1, _⟩ := h; exact key _ h1
  | map es bs clk => obtain ⟨es', h1, _⟩ := h; exact key _ h1
  | iter r since seen last => obtain ⟨_, r', h1, _⟩ := h; exact key _ h1
  | dead => simp [AObj.live] at hl

/-- How many package-level variables are known: these are the first blocks, of the abstract heap and of the world. -/
def ng : Nat := 9
/-- How many cells each of them has. -/
def gsz (g : Nat) : Nat := ([1,1,20,1,1,32,64,256,32] : List Nat).getD g 0
def Glob (ρ : Ren) : Prop := ∀ g, g < ng → ∃ p, ρ g = some p ∧ p.blk = g ∧ p.base = 0 ∧ p.size = gsz g
theorem Glob.mono {ρ ρ' : Ren} (h : Glob ρ) (hle : Le ρ ρ') : Glob ρ' := fun g hg => let ⟨p, a, b⟩ := h g hg; ⟨p, hle g p a, b⟩
theorem Glob.val {ρ : Ren} (h : Glob ρ) {g : Nat} (hg : g < ng) : VR ρ (.pointer (some ⟨g, 0, none⟩)) (.pointer (some ⟨g, 0, none⟩)) := by
  obtain ⟨p, h1, h2, h3, _⟩ := h g hg
  have := VR.ptr (ρ := ρ) g 0 p h1
  rwa [h2, h3] at this

/-- What an abstract heap says of a world. -/
structure Rel (ρ : Ren) (H : Heap) (w : World) : Prop where
  dom : ∀ b p, ρ b = some p → b < H.length
  obj : ∀ b p o, ρ b = some p → H[b]? = some o → OR ρ w p o
  sep : ∀ b b' p p' o o', ρ b = some p → ρ b' = some p' → H[b]? = some o → H[b']? = some o' → o.own = true → o'.live = true → b ≠ b' → p.blk ≠ p'.blk
  glob : Glob ρ

/-- A block of the world that an abstract heap owns. -/
def Owns (ρ : Ren) (H : Heap) (k : Nat) : Prop := ∃ b p o, ρ b = some p ∧ H[b]? = some o ∧ o.own = true ∧ p.blk = k

/-- From one state to another one: what goes on. -/
structure Ext (ρ : Ren) (H : Heap) (w : World) (ρ' : Ren) (H' : Heap) (w' : World) : Prop where
  mono : Le ρ ρ'
  hlen : H.length ≤ H'.length
  newid : ∀ b p, ρ' b = some p → ρ b = none → H.length ≤ b
  keep : ∀ k, k < w.heap.size → ¬ Owns ρ H k → w'.heap[k]? = w.heap[k]?
  newblk : ∀ b p, ρ' b = some p → ρ b = none → w.heap.size ≤ p.blk ∨ Owns ρ H p.blk
  ownmono : ∀ b p o', ρ b = some p → H'[b]? = some o' → o'.own = true → ∃ o, H[b]? = some o ∧ o.own = true
  size : w.heap.size ≤ w'.heap.size
  os : w'.os = w.os
  tape : w'.tape = w.tape
  output : w'.output = w.output

theorem Ext.refl (ρ : Ren) (H : Heap) (w : World) : Ext ρ H w ρ H w :=
  ⟨Le.refl ρ, Nat.le_refl _, fun b p h h' => (contra h h').elim, fun _ _ _ => rfl, fun b p h h' => (contra h h').elim, fun b p o' _ h ho => ⟨o', h, ho⟩, Nat.le_refl _, rfl, rfl, rfl⟩

/-- What is owned behind a step, and lay there ahead of it, was owned. -/
theorem Ext.owns {ρ ρ' : Ren} {H H' : Heap} {w w' : World} (h : Ext ρ H w ρ' H' w') {k : Nat} (hk : Owns ρ' H' k) : w.heap.size ≤ k ∨ Owns ρ H k := by
  obtain ⟨b, p, o, hb, ho, hown, rfl⟩ := hk
  cases hρ : ρ b with
  | none => exact h.newblk b p hb hρ
  | some q =>
    have : q = p := by have := h.mono b q hρ; rw [hb] at this; exact (Option.some.inj this).symm
    subst this
    obtain ⟨o2, h2, h3⟩ := h.ownmono b q o hρ ho hown
    exact .inr ⟨b, q, o2, hρ, h2, h3, rfl⟩

theorem Ext.trans {ρ1 ρ2 ρ3 : Ren} {H1 H2 H3 : Heap} {w1 w2 w3 : World} (h : Ext ρ1 H1 w1 ρ2 H2 w2) (k : Ext ρ2 H2 w2 ρ3 H3 w3)
    (hd : ∀ b p, ρ2 b = some p → b < H2.length) : Ext ρ1 H1 w1 ρ3 H3 w3 := by
  refine ⟨h.mono.trans k.mono, Nat.le_trans h.hlen k.hlen, ?_, ?_, ?_, ?_, Nat.le_trans h.size k.size, k.os.trans h.os, k.tape.trans h.tape, k.output.trans h.output⟩
  · intro b p h3 h1
    cases h2 : ρ2 b with
    | none => exact Nat.le_trans h.hlen (k.newid b p h3 h2)
    | some q => exact h.newid b q h2 h1
  · intro j hj hn
    have h1 := h.keep j hj hn
    have h2 := k.keep j (Nat.lt_of_lt_of_le hj h.size) (fun ho => by
      rcases h.owns ho with h | h
      · omega
      · exact hn h)
    exact h2.trans h1
  · intro b p h3 h1
    cases h2 : ρ2 b with
    | none =>
      rcases k.newblk b p h3 h2 with h' | h'
      · exact .inl (Nat.le_trans h.size h')
      · exact h.owns h'
    | some q =>
      have : q = p := by have := k.mono b q h2; rw [h3] at this; exact (Option.some.inj this).symm
      subst this
      exact h.newblk b q h2 h1
  · intro b p o' h1 h3 ho
    obtain ⟨o2, h2, ho2⟩ := k.ownmono b p o' (h.mono b p h1) h3 ho
    exact h.ownmono b p o2 h1 h2 ho2

/-- A draw of the tape changes nothing that is told. -/
def Drawn (w w' : World) : Prop := w'.heap = w.heap ∧ w'.os = w.os ∧ w'.tape = w.tape ∧ w'.output = w.output
theorem Drawn.refl (w : World) : Drawn w w := ⟨rfl, rfl, rfl, rfl⟩
theorem Rel.drawn {ρ : Ren} {H : Heap} {w w' : World} (h : Rel ρ H w) (hd : Drawn w w') : Rel ρ H w' :=
  ⟨h.dom, fun b p o h1 h2 => (h.obj b p o h1 h2).of_block (by rw [hd.1]), h.sep, h.glob⟩
theorem Ext.drawn {ρ : Ren} {H : Heap} {w w' : World} (hd : Drawn w w') : Ext ρ H w ρ H w' :=
  ⟨Le.refl ρ, Nat.le_refl _, fun b p h h' => (contra h h').elim, fun k _ _ => by rw [hd.1], fun b p h h' => (contra h h').elim, fun b p o' _ h ho => ⟨o', h, ho⟩, by rw [hd.1]; exact Nat.le_refl _, hd.2.1, hd.2.2.1, hd.2.2.2⟩

/-- The renaming with one block more. -/
def Ren.ins (ρ : Ren) (b : Nat) (p : Pl) : Ren := fun x => if x = b then some p else ρ x
theorem Ren.ins_self (ρ : Ren) (b : Nat) (p : Pl) : ρ.ins b p b = some p := by simp [Ren.ins]
theorem Ren.ins_le {ρ : Ren} {b : Nat} {p : Pl} (h : ρ b = none) : Le ρ (ρ.ins b p) := fun x q hx => by
  unfold Ren.ins
  split
  · rename_i e; subst e; rw [h] at hx; cases hx
  · exact hx

theorem Rel.fresh {ρ : Ren} {H : Heap} {w : World} (h : Rel ρ H w) : ρ H.length = none := by
  cases hρ : ρ H.length with
  | none => rfl
  | some p => exact absurd (h.dom _ _ hρ) (Nat.lt_irrefl _)

/-- A new block: in the world at its end, in the abstract heap under any number at which the renaming has none, if the abstract heap has the block there. -/
theorem Rel.new_at {ρ : Ren} {H : Heap} {w : World} (h : Rel ρ H w) {b : Nat} {o : AObj} (hb : H[b]? = some o) (hn : ρ b = none) {co : Obj} {p : Pl} (hp : p.blk = w.heap.size)
    (ho : ∀ ρ', Le ρ ρ' → OR ρ' (w.alloc co) p o) : Rel (ρ.ins b p) H (w.alloc co) := by
  have hle := Ren.ins_le (p := p) hn
  have hlt : ∀ c q x, ρ c = some q → H[c]? = some x → x.live = true → q.blk < w.heap.size := fun c q x h1 h2 h3 => (h.obj c q x h1 h2).blk_lt h3
  have hblk : ∀ k, k < w.heap.size → (w.alloc co).heap[k]? = w.heap[k]? := fun k hk => Below.heap_alloc _ _ _ hk
  refine ⟨?_, ?_, ?_, h.glob.mono hle⟩
  · intro c q hc
    unfold Ren.ins at hc
    split at hc
    · rename_i e
      subst e
      rcases Nat.lt_or_ge c H.length with h' | h'
      · exact h'
      · simp [List.getElem?_eq_none h'] at hb
    · exact h.dom c q hc
  · intro c q x hc hx
    unfold Ren.ins at hc
    split at hc
    · rename_i e
      subst e
      rw [hb] at hx
      obtain rfl := Option.some.inj hx
      obtain rfl := Option.some.inj hc
      exact ho _ hle
    · have := (h.obj c q x hc hx).mono hle
      cases x with
      | dead => exact trivial
      | cells cs esz own => exact this.of_block (hblk _ (hlt c q _ hc hx rfl))
      | map es bs clk => exact this.of_block (hblk _ (hlt c q _ hc hx rfl))
      | iter r since seen last => exact this.of_block (hblk _ (hlt c q _ hc hx rfl))
  · intro c c' q q' x x' hc hc' hx hx' hown hlive hne
    have hx_live : x.live = true := by cases x <;> simp_all [AObj.own, AObj.live]
    unfold Ren.ins at hc hc'
    split at hc
    · rename_i e
      subst e
      obtain rfl := Option.some.inj hc
      rw [if_neg (Ne.symm hne)] at hc'
      have := hlt c' q' x' hc' hx' hlive
      omega
    · rename_i hcb
      split at hc'
      · rename_i e
        subst e
        obtain rfl := Option.some.inj hc'
        have := hlt c q x hc hx hx_live
        omega
      · exact h.sep c c' q q' x x' hc hc' hx hx' hown hlive hne

/-- The abstract heap with one block more, of which the renaming says nothing. -/
theorem Rel.push {ρ : Ren} {H : Heap} {w : World} (h : Rel ρ H w) (l : List AObj) : Rel ρ (H ++ l) w := by
  have hg : ∀ b p x, ρ b = some p → (H ++ l)[b]? = some x → H[b]? = some x := fun b p x hb hx => by
    rw [List.getElem?_append_left (h.dom b p hb)] at hx; exact hx
  exact ⟨fun b p hb => by have := h.dom b p hb; simp; omega, fun b p o hb ho => h.obj b p o hb (hg b p o hb ho),
    fun b b' p p' o o' h1 h2 h3 h4 h5 h6 h7 => h.sep b b' p p' o o' h1 h2 (hg b p o h1 h3) (hg b' p' o' h2 h4) h5 h6 h7, h.glob⟩

theorem Ext.push {ρ : Ren} {H : Heap} {w : World} (hd : ∀ b p, ρ b = some p → b < H.length) (l : List AObj) : Ext ρ H w ρ (H ++ l) w :=
  ⟨Le.refl ρ, by simp, fun b p h h' => (contra h h').elim, fun _ _ _ => rfl, fun b p h h' => (contra h h').elim,
    fun b p o' hb h ho => ⟨o', by rw [List.getElem?_append_left (hd b p hb)] at h; exact h, ho⟩, Nat.le_refl _, rfl, rfl, rfl⟩

theorem Ext.new_at {ρ : Ren} {H : Heap} {w : World} {b : Nat} (hb : H.length ≤ b) (hn : ρ b = none) {co : Obj} {p : Pl} (hp : p.blk = w.heap.size) {l : List AObj} (hd : ∀ b p, ρ b = some p → b < H.length) :
    Ext ρ H w (ρ.ins b p) (H ++ l) (w.alloc co) := by
  refine ⟨Ren.ins_le hn, by simp, ?_, fun k hk _ => Below.heap_alloc _ _ _ hk, ?_, ?_, by simp, rfl, rfl, rfl⟩
  · intro c q hc hc'
    unfold Ren.ins at hc
    split at hc
    · rename_i e; subst e; exact hb
    · rw [hc'] at hc; cases hc
  · intro c q hc hc'
    unfold Ren.ins at hc
    split at hc
    · obtain rfl := Option.some.inj hc; exact .inl (by omega)
    · rw [hc'] at hc; cases hc
  · intro c q o' hc h ho
    exact ⟨o', by rw [List.getElem?_append_left (hd c q hc)] at h; exact h, ho⟩

/-- A block that is owned is written: what the abstract heap and the world have at it turn together. -/
theorem Rel.turn {ρ : Ren} {H : Heap} {w w' : World} (h : Rel ρ H w) {b : Nat} {p : Pl} {o o' : AObj} (hb : ρ b = some p) (ho : H[b]? = some o) (hown : o.own = true) (hown' : o'.own = true)
    (hw : ∀ k, k ≠ p.blk → w'.heap[k]? = w.heap[k]?) (hor : OR ρ w' p o') : Rel ρ (H.set b o') w' := by
  have hget : ∀ c x, (H.set b o')[c]? = some x → c ≠ b → H[c]? = some x := fun c x hx hne => by
    rw [List.getElem?_set_ne (Ne.symm hne)] at hx; exact hx
  have hlt := h.dom b p hb
  refine ⟨fun c q hc => by simpa using h.dom c q hc, ?_, ?_, h.glob⟩
  · intro c q x hc hx
    by_cases e : c = b
    · subst e
      rw [hb] at hc
      obtain rfl := Option.some.inj hc
      simp [hlt] at hx
      subst hx
      exact hor
    · have hx' := hget c x hx e
      cases hl : x.live with
      | false => cases x <;> simp_all [AObj.live, OR]
      | true => exact (h.obj c q x hc hx').of_block (hw _ (fun e2 => h.sep b c p q o x hb hc ho hx' hown hl (Ne.symm e) e2.symm))
  · intro c c' q q' x x' hc hc' hx hx' ho1 hl1 hne
    by_cases e : c = b
    · subst e
      rw [hb] at hc
      obtain rfl := Option.some.inj hc
      exact h.sep c c' p q' o x' hb hc' ho (hget c' x' hx' (Ne.symm hne)) hown hl1 hne
    · by_cases e2 : c' = b
      · subst e2
        rw [hb] at hc'
        obtain rfl := Option.some.inj hc'
        have hol : o.live = true := by cases o <;> simp_all [AObj.own, AObj.live]
        exact h.sep c c' q p x o hc hb (hget c x hx e) ho ho1 hol hne
      · exact h.sep c c' q q' x x' hc hc' (hget c x hx e) (hget c' x' hx' e2) ho1 hl1 hne

theorem Ext.turn {ρ : Ren} {H : Heap} {w w' : World} {b : Nat} {p : Pl} {o o' : AObj} (hb : ρ b = some p) (ho : H[b]? = some o) (hown : o.own = true)
    (hw : ∀ k, k ≠ p.blk → w'.heap[k]? = w.heap[k]?) (hs : w'.heap.size = w.heap.size) (h1 : w'.os = w.os) (h2 : w'.tape = w.tape) (h3 : w'.output = w.output) : Ext ρ H w ρ (H.set b o') w' := by
  refine ⟨Le.refl ρ, by simp, fun c q h h' => (contra h h').elim, fun k _ hn => hw k (fun e => hn ⟨b, p, o, hb, ho, hown, e.symm⟩), fun c q h h' => (contra h h').elim, ?_, by omega, h1, h2, h3⟩
  intro c q x hc hx hx2
  by_cases e : c = b
  · subst e; exact ⟨o, ho, hown⟩
  · rw [List.getElem?_set_ne (Ne.symm e)] at hx; exact ⟨x, hx, hx2⟩

/-- A block that is let go. -/
theorem Rel.kill {ρ : Ren} {H : Heap} {w : World} (h : Rel ρ H w) (b : Nat) : Rel ρ (H.set b .dead) w := by
  have hget : ∀ (c : Nat) (x : AObj), (H.set b .dead)[c]? = some x → x.live = true → H[c]? = some x := fun c x hx hl => by
    by_cases e : c = b
    · subst e
      rw [List.getElem?_set] at hx
      simp at hx
      rw [← hx.2] at hl
      simp [AObj.live] at hl
    · rw [List.getElem?_set_ne (Ne.symm e)] at hx; exact hx
  refine ⟨fun c q hc => by simpa using h.dom c q hc, ?_, ?_, h.glob⟩
  · intro c q x hc hx
    cases hl : x.live with
    | false => cases x <;> simp_all [AObj.live, OR]
    | true => exact h.obj c q x hc (hget c x hx hl)
  · intro c c' q q' x x' hc hc' hx hx' ho hl hne
    have hxl : x.live = true := by cases x <;> simp_all [AObj.own, AObj.live]
    exact h.sep c c' q q' x x' hc hc' (hget c x hx hxl) (hget c' x' hx' hl) ho hl hne

end Go.Proofs.YtgnkjpbecgpjoaaGreatDoor.Fw
set_option linter.unusedVariables false
set_option linter.unusedSimpArgs false
namespace Go.Proofs.YtgnkjpbecgpjoaaGreatDoor.Fw
open Go Go.RowKit
def ltI : Int → Int → Bool
  | .ofNat m, .ofNat n => Nat.blt m n
  | .negSucc m, .negSucc n => Nat.blt n m
  | .negSucc _, .ofNat _ => true
  | .ofNat _, .negSucc _ => false
def eqI : Int → Int → Bool
  | .ofNat m, .ofNat n => Nat.beq m n
  | .negSucc m, .negSucc n => Nat.beq n m
  | _, _ => false
def eqN (a b : Nat) : Bool := Nat.beq a b
def eqO {α : Type} (f : α → α → Bool) : Option α → Option α → Bool
  | none, none => true
  | some a, some b => f a b
  | _, _ => false
def eqL {α : Type} (f : α → α → Bool) : List α → List α → Bool
  | [], [] => true
  | a :: l, b :: m => (match f a b with | true => eqL f l m | false => false)
  | _, _ => false
def eqA (a b : Addr) : Bool := match eqN a.block b.block, eqN a.off b.off, eqO eqN a.spot b.spot with | true, true, true => true | _, _, _ => false
def eqK (a b : IntKind) : Bool := decide (a = b)
def eqF : Fn → Fn → Bool
  | .func a, .func b => eqN a b
  | .yield a, .yield b => eqN a b
  | _, _ => false
def eqB (a b : UInt8) : Bool := Nat.beq a.toNat b.toNat
def eqV : Nat → Value → Value → Bool
  | 0, _, _ => false
  | d + 1, v, w => (match v, w with
    | .int k a, .int j b => (match eqK k j with | true => eqI a b | false => false)
    | .bool a, .bool b => a == b
    | .string a, .string b => eqL eqB a.data.toList b.data.toList
    | .pointer a, .pointer b => eqO eqA a b
    | .slice a l c, .slice b m e => (match eqO eqA a b, eqN l m, eqN c e with | true, true, true => true | _, _, _ => false)
    | .map a, .map b => eqO eqN a b
    | .agg a, .agg b => eqL (eqV d) a.toList b.toList
    | .tuple a, .tuple b => eqL (eqV d) a.toList b.toList
    | .nilFunc, .nilFunc => true
    | .nilIface, .nilIface => true
    | .chan none, .chan none => true
    | .iface t a, .iface u b => (match eqN t u with | true => eqV d a b | false => false)
    | .func f x y, .func g a b => (match eqF f g, eqL (eqV d) x.toList a.toList, eqL (eqV d) y.toList b.toList with | true, true, true => true | _, _, _ => false)
    | _, _ => false)
def eqP (a b : Value × Value) : Bool := match eqV 6 a.1 b.1 with | true => eqV 6 a.2 b.2 | false => false
def eqOb : AObj → AObj → Bool
  | .cells a e o, .cells b f p => (match eqL (eqV 6) a b, eqN e f with | true, true => o == p | _, _ => false)
  | .map a b c, .map x y z => (match eqL eqP a x, eqL eqN b y with | true, true => eqN c z | _, _ => false)
  | .iter a b c d, .iter x y z w => (match eqO eqN a x, eqN b y, eqL eqN c z with | true, true, true => eqN d w | _, _, _ => false)
  | .dead, .dead => true
  | _, _ => false
theorem ltI_eq (a b : Int) : ltI a b = decide (a < b) := by
  cases a with
  | ofNat m => cases b with
    | ofNat n =>
      have e1 : Int.ofNat m = (m : Int) := rfl
      have e2 : Int.ofNat n = (n : Int) := rfl
      rw [e1, e2]
      show Nat.blt m n = _
      cases hb : Nat.blt m n with
      | true => have h : m < n := Nat.le_of_ble_eq_true hb
                symm; rw [decide_eq_true_eq]; omega
      | false => have h : ¬ m < n := fun h => by have : Nat.blt m n = true := Nat.ble_eq_true_of_le h
                                                 rw [this] at hb; cases hb
                 symm; rw [decide_eq_false_iff_not]; omega
    | negSucc n =>
      have e1 : Int.ofNat m = (m : Int) := rfl
      rw [e1]
      show false = _
      symm; rw [decide_eq_false_iff_not]; omega
  | negSucc m => cases b with
    | ofNat n =>
      have e1 : Int.ofNat n = (n : Int) := rfl
      rw [e1]
      show true = _
      symm; rw [decide_eq_true_eq]; omega
    | negSucc n =>
      show Nat.blt n m = _
      cases hb : Nat.blt n m with
      | true => have h : n < m := Nat.le_of_ble_eq_true hb
                symm; rw [decide_eq_true_eq]; omega
      | false => have h : ¬ n < m := fun h => by have : Nat.blt n m = true := Nat.ble_eq_true_of_le h
                                                 rw [this] at hb; cases hb
                 symm; rw [decide_eq_false_iff_not]; omega
theorem eqI_eq (a b : Int) : eqI a b = (a == b) := by
  have fin : ∀ {q : Bool}, (q = true ↔ a = b) → q = (a == b) := fun {q} h => by
    cases q with
    | true => rw [h.1 rfl]; simp
    | false => symm; rw [beq_eq_false_iff_ne]; intro e; have := h.2 e; cases this
  refine fin ?_
  cases a with
  | ofNat m => cases b with
    | ofNat n =>
      show Nat.beq m n = true ↔ _
      exact ⟨fun h => by rw [Nat.eq_of_beq_eq_true h], fun h => by injection h with h; rw [h]; exact Nat.beq_refl _⟩
    | negSucc n => exact Iff.intro (fun h => by simp [eqI] at h) (fun h => by injection h)
  | negSucc m => cases b with
    | ofNat n => exact Iff.intro (fun h => by simp [eqI] at h) (fun h => by injection h)
    | negSucc n =>
      show Nat.beq n m = true ↔ _
      exact ⟨fun h => by rw [Nat.eq_of_beq_eq_true h], fun h => by injection h with h; rw [h]; exact Nat.beq_refl _⟩
theorem eqO_ok {α : Type} {f : α → α → Bool} (hf : ∀ a b, f a b = true → a = b) {a b : Option α} (h : eqO f a b = true) : a = b := by
  cases a <;> cases b <;> simp only [eqO] at h <;> first | rfl | (cases h; done) | rw [hf _ _ h]
theorem eqL_ok {α : Type} {f : α → α → Bool} (hf : ∀ a b, f a b = true → a = b) : ∀ {a b : List α}, eqL f a b = true → a = b
  | [], [], _ => rfl
  | [], _ :: _, h => by simp [eqL] at h
  | _ :: _, [], h => by simp [eqL] at h
  | a :: l, b :: m, h => by
    simp only [eqL] at h
    split at h
    · rename_i h1; rw [hf _ _ h1, eqL_ok hf h]
    · cases h
theorem eqN_ok (a b : Nat) (h : eqN a b = true) : a = b := Nat.eq_of_beq_eq_true h
theorem eqA_ok (a b : Addr) (h : eqA a b = true) : a = b := by
  unfold eqA at h
  split at h
  · rename_i h1 h2 h3
    obtain ⟨x, y, z⟩ := a
    obtain ⟨x', y', z'⟩ := b
    have e1 : x = x' := eqN_ok _ _ h1
    have e2 : y = y' := eqN_ok _ _ h2
    have e3 : z = z' := eqO_ok eqN_ok h3
    rw [e1, e2, e3]
  · cases h
theorem eqF_ok (a b : Fn) (h : eqF a b = true) : a = b := by
  cases a <;> cases b <;> simp only [eqF] at h <;> first | (cases h; done) | rw [eqN_ok _ _ h]
theorem eqB_ok (a b : UInt8) (h : eqB a b = true) : a = b := UInt8.toNat_inj.1 (Nat.eq_of_beq_eq_true h)
theorem eqI_ok {a b : Int} (h : eqI a b = true) : a = b := by rw [eqI_eq] at h; exact eq_of_beq h
theorem eqV_ok : ∀ (d : Nat) (v w : Value), eqV d v w = true → v = w
  | 0, v, w, h => by cases h
  | d + 1, v, w, h => by
    unfold eqV at h
    split at h <;> try (cases h; done)
    · split at h
      · rename_i h1; rw [of_decide_eq_true h1, eqI_ok h]
      · cases h
    · rw [eq_of_beq h]
    · rename_i a b
      obtain ⟨⟨a⟩⟩ := a; obtain ⟨⟨b⟩⟩ := b
      have := eqL_ok eqB_ok h
      simp only [] at this
      rw [this]
    · rw [eqO_ok eqA_ok h]
    · split at h
      · rename_i h1 h2 h3; rw [eqO_ok eqA_ok h1, eqN_ok _ _ h2, eqN_ok _ _ h3]
      · cases h
    · rw [eqO_ok eqN_ok h]
    · rw [Array.toList_inj.1 (eqL_ok (eqV_ok d) h)]
    · rw [Array.toList_inj.1 (eqL_ok (eqV_ok d) h)]
    · rfl
    · rfl
    · rfl
    · split at h
      · rename_i h1; rw [eqN_ok _ _ h1, eqV_ok d _ _ h]
      · cases h
    · split at h
      · rename_i h1 h2 h3; rw [eqF_ok _ _ h1, Array.toList_inj.1 (eqL_ok (eqV_ok d) h2), Array.toList_inj.1 (eqL_ok (eqV_ok d) h3)]
      · cases h
theorem eqP_ok (a b : Value × Value) (h : eqP a b = true) : a = b := by
  unfold eqP at h
  split at h
  · rename_i h1
    obtain ⟨x, y⟩ := a; obtain ⟨x', y'⟩ := b
    have h1 := eqV_ok _ _ _ h1
    have h := eqV_ok _ _ _ h
    simp only [] at h1 h
    rw [h1, h]
  · cases h
theorem eqOb_ok (a b : AObj) (h : eqOb a b = true) : a = b := by
  unfold eqOb at h
  split at h <;> try (cases h; done)
  · split at h
    · rename_i h1 h2; rw [eqL_ok (eqV_ok 6) h1, eqN_ok _ _ h2, eq_of_beq h]
    · cases h
  · split at h
    · rename_i h1 h2; rw [eqL_ok eqP_ok h1, eqL_ok eqN_ok h2, eqN_ok _ _ h]
    · cases h
  · split at h
    · rename_i h1 h2 h3; rw [eqO_ok eqN_ok h1, eqN_ok _ _ h2, eqL_ok eqN_ok h3, eqN_ok _ _ h]
    · cases h
  · rfl
/-- Some blocks are let go. -/
def Kill (H H2 : Heap) : Prop := H2.length = H.length ∧ ∀ (i : Nat) (o : AObj), H2[i]? = some o → o = .dead ∨ H[i]? = some o
theorem Kill.refl (H : Heap) : Kill H H := ⟨rfl, fun i o h => .inr h⟩
theorem Kill.own {H H2 : Heap} (k : Kill H H2) {i : Nat} {o : AObj} (h : H2[i]? = some o) (ho : o.own = true) : H[i]? = some o := by
  rcases k.2 i o h with rfl | h'
  · cases ho
  · exact h'
theorem Kill.live {H H2 : Heap} (k : Kill H H2) {i : Nat} {o : AObj} (h : H2[i]? = some o) (ho : o.live = true) : H[i]? = some o := by
  rcases k.2 i o h with rfl | h'
  · cases ho
  · exact h'
theorem Kill.trans {A B C : Heap} (h : Kill A B) (k : Kill B C) : Kill A C := ⟨k.1.trans h.1, fun i o ho => (k.2 i o ho).elim .inl fun h' => h.2 i o h'⟩
/-! What is common. -/
def meetO (a b : AObj) : AObj := match eqOb a b with | true => a | false => .dead
def meetH : Heap → Heap → Heap
  | a :: l, b :: m => meetO a b :: meetH l m
  | _, _ => []
theorem meetH_ok : ∀ (a b : Heap), a.length = b.length → Kill a (meetH a b) ∧ Kill b (meetH a b)
  | [], [], _ => ⟨Kill.refl _, Kill.refl _⟩
  | [], _ :: _, h => by simp at h
  | _ :: _, [], h => by simp at h
  | x :: a, y :: b, h => by
    obtain ⟨⟨h1, h2⟩, h3, h4⟩ := meetH_ok a b (by simpa using h)
    refine ⟨⟨by simp [meetH, h1], fun i o ho => ?_⟩, ⟨by simp [meetH, h3], fun i o ho => ?_⟩⟩
    · cases i with
      | zero =>
        simp only [meetH, List.getElem?_cons_zero, Option.some.injEq] at ho ⊢
        unfold meetO at ho
        split at ho
        · exact .inr ho
        · exact .inl ho.symm
      | succ i => simpa [meetH] using h2 i o (by simpa [meetH] using ho)
    · cases i with
      | zero =>
        simp only [meetH, List.getElem?_cons_zero, Option.some.injEq] at ho ⊢
        unfold meetO at ho
        split at ho
        · rename_i he; exact .inr (by rw [← eqOb_ok _ _ he, ho])
        · exact .inl ho.symm
      | succ i => simpa [meetH] using h4 i o (by simpa [meetH] using ho)
abbrev Res := Value × Heap
/-- The second one tells no more. -/
def Less (x y : Res) : Prop := x.1 = y.1 ∧ Kill x.2 y.2
theorem Less.refl (x : Res) : Less x x := ⟨rfl, Kill.refl _⟩
theorem Less.trans {x y z : Res} (h : Less x y) (k : Less y z) : Less x z := ⟨h.1.trans k.1, h.2.trans k.2⟩
def meetR (x y : Res) : Option Res := match eqV 8 x.1 y.1, eqN x.2.length y.2.length with
  | true, true => some (x.1, meetH x.2 y.2)
  | _, _ => none
theorem meetR_ok {x y r : Res} (h : meetR x y = some r) : Less x r ∧ Less y r := by
  unfold meetR at h
  split at h
  · rename_i h1 h2
    obtain rfl := Option.some.inj h
    have h1 := eqV_ok _ _ _ h1
    obtain ⟨k1, k2⟩ := meetH_ok x.2 y.2 (eqN_ok _ _ h2)
    exact ⟨⟨rfl, k1⟩, ⟨h1.symm, k2⟩⟩
  · cases h
/-- Whatever comes, that much is common. -/
def allEq : List (Option Res) → Option Res
  | [] => none
  | [x] => x
  | x :: y :: l => match x, allEq (y :: l) with
    | some a, some b => meetR a b
    | _, _ => none
theorem allEq_inv : ∀ {l : List (Option Res)} {r : Res}, allEq l = some r → l ≠ [] ∧ ∀ x ∈ l, ∃ r1, x = some r1 ∧ Less r1 r
  | [], r, h => by cases h
  | [x], r, h => ⟨by simp, fun z hz => by
      rcases List.mem_cons.1 hz with rfl | hz
      · exact ⟨r, h, Less.refl r⟩
      · cases hz⟩
  | x :: y :: l, r, h => by
    unfold allEq at h
    split at h
    · rename_i a b hb
      obtain ⟨h1, h2⟩ := meetR_ok h
      obtain ⟨_, h4⟩ := allEq_inv hb
      refine ⟨by simp, fun z hz => ?_⟩
      rcases List.mem_cons.1 hz with rfl | hz
      · exact ⟨a, rfl, h1⟩
      · obtain ⟨r1, e, k⟩ := h4 z hz; exact ⟨r1, e, k.trans h2⟩
    · cases h
theorem allEq_congr {l m : List (Option Res)} {r : Res} (h : allEq l = some r) (he : l.length = m.length) (hx : ∀ (i : Nat) (r1 : Res), l[i]? = some (some r1) → m[i]? = some (some r1)) : allEq m = some r := by
  have : l = m := by
    obtain ⟨_, hall⟩ := allEq_inv h
    apply List.ext_getElem?
    intro i
    cases hi : l[i]? with
    | none => rw [List.getElem?_eq_none_iff] at hi; symm; rw [List.getElem?_eq_none_iff]; omega
    | some x =>
      obtain ⟨r1, rfl, _⟩ := hall x (List.mem_of_getElem? hi)
      exact (hx i r1 hi).symm
  rw [← this]; exact h
end Go.Proofs.YtgnkjpbecgpjoaaGreatDoor.Fw
set_option linter.unusedVariables false
set_option linter.unusedSimpArgs false
namespace Go.Proofs.YtgnkjpbecgpjoaaGreatDoor.Fw
open Go Go.RowKit
def leI (a b : Int) : Bool := match ltI b a with | true => false | false => true
def gm (a b : Int) : Int := match eqI a 0 with
  | true => b
  | false => (match eqI b 0 with
    | true => a
    | false => (match eqI (b % a) 0 with
      | true => a
      | false => (match eqI (a % b) 0 with | true => b | false => 1)))
def both2 (a b : Bool) : Bool := match a with | true => b | false => false
def addS (x y : SI) : SI := match eqI y.c 0 with
  | true => ⟨x.b, x.c, x.o + y.o, gm x.m y.m, x.lo + y.lo, x.hi + y.hi⟩
  | false => (match eqI x.c 0 with
    | true => ⟨y.b, y.c, x.o + y.o, gm x.m y.m, x.lo + y.lo, x.hi + y.hi⟩
    | false => (match eqN x.b y.b with
      | true => ⟨x.b, x.c + y.c, x.o + y.o, gm x.m y.m, x.lo + y.lo, x.hi + y.hi⟩
      | false => ⟨0, 0, 0, 1, x.lo + y.lo, x.hi + y.hi⟩))
def negS (x : SI) : SI := ⟨x.b, -x.c, -x.o, x.m, -x.hi, -x.lo⟩
def cstS (n : Int) : SI := ⟨0, 0, n, 0, n, n⟩
def scaleS (x : SI) (z : Int) : SI := match ltI z 0 with
  | true => ⟨x.b, x.c * z, x.o * z, x.m * z, x.hi * z, x.lo * z⟩
  | false => ⟨x.b, x.c * z, x.o * z, x.m * z, x.lo * z, x.hi * z⟩
def absI (a : Int) : Int := match ltI a 0 with | true => -a | false => a
def maxI (a b : Int) : Int := match ltI a b with | true => b | false => a
def minI (a b : Int) : Int := match ltI a b with | true => a | false => b
def bigS (x : SI) : Int := maxI (absI x.lo) (absI x.hi)
def mulS (x y : SI) : SI := match eqI y.lo y.hi with
  | true => scaleS x y.lo
  | false => (match eqI x.lo x.hi with
    | true => scaleS y x.lo
    | false => ⟨0, 0, 0, 1, -(bigS x * bigS y), bigS x * bigS y⟩)
def lo64 : Int := -9223372036854775808
def hi64 : Int := 9223372036854775807
/-- What it is behind wrapping. -/
def fitS (x : SI) : SI := match both2 (leI lo64 x.lo) (leI x.hi hi64) with
  | true => x
  | false => ⟨x.b, x.c, x.o, gm x.m 18446744073709551616, lo64, hi64⟩
/-- What is known exactly. -/
def tightS (x : SI) : SI := match eqI x.c 0 with
  | false => x
  | true => (match eqI x.m 0 with
    | true => cstS x.o
    | false => (match both2 (ltI 0 x.m) (ltI (x.hi - x.lo) x.m) with
      | true => cstS (x.lo + (x.o - x.lo) % x.m)
      | false => x))
def mkS (x : SI) : Value := match eqI x.lo x.hi with
  | true => .int .i64 x.lo
  | false => .func (.yield x.b) ⟨[.int .i64 x.c, .int .i64 x.o, .int .i64 x.m, .int .i64 x.lo, .int .i64 x.hi]⟩ ⟨[]⟩
def outS (x : SI) : Value := mkS (tightS (fitS x))
/-- What is known of a value. -/
def siOf (v : Value) : Option SI :=
  match v with
  | .int .i64 n => some (cstS n)
  | .func (.yield b) ⟨[.int .i64 c, .int .i64 o, .int .i64 m, .int .i64 lo, .int .i64 hi]⟩ ⟨[]⟩ => some ⟨b, c, o, m, lo, hi⟩
  | _ => none
/-- Is it such a number, and not known? -/
def isS (v : Value) : Bool :=
  match v with
  | .func (.yield _) ⟨[.int .i64 _, .int .i64 _, .int .i64 _, .int .i64 _, .int .i64 _]⟩ ⟨[]⟩ => true
  | _ => false
def difS (x y : SI) : SI := tightS (addS x (negS y))
/-- x < y? -/
def ltS (x y : SI) : Option Bool := match ltI (difS x y).hi 0 with
  | true => some true
  | false => (match ltI (difS x y).lo 0 with | true => none | false => some false)
def eqS' (d : SI) : Option Bool := match both2 (eqI d.lo 0) (eqI d.hi 0) with
  | true => some true
  | false => (match ltI d.hi 0 with
    | true => some false
    | false => (match ltI 0 d.lo with
      | true => some false
      | false => (match both2 (eqI d.c 0) (ltI 0 d.m) with
        | false => none
        | true => (match eqI (d.o % d.m) 0 with
          | false => some false
          | true => (match both2 (ltI (-d.m) d.lo) (ltI d.hi d.m) with | true => some true | false => none)))))
def eqS (x y : SI) : Option Bool := eqS' (difS x y)
def notO : Option Bool → Option Bool | some true => some false | some false => some true | none => none
def cmpS (op : BinOp) (x y : SI) : Option Bool :=
  match op with
  | .eql => eqS x y
  | .neq => notO (eqS x y)
  | .lss => ltS x y
  | .geq => notO (ltS x y)
  | .gtr => ltS y x
  | .leq => notO (ltS y x)
  | _ => none
def mxS (x y : SI) : SI := match ltS x y with
  | some true => y
  | some false => x
  | none => ⟨0, 0, 0, 1, maxI x.lo y.lo, maxI x.hi y.hi⟩
def mnS (x y : SI) : SI := match ltS x y with
  | some true => x
  | some false => y
  | none => ⟨0, 0, 0, 1, minI x.lo y.lo, minI x.hi y.hi⟩
/-- x modulo z, of z above 0. -/
def modS (x : SI) (z : Int) : SI := match both2 (leI 0 x.lo) (ltI x.hi z) with
  | true => x
  | false => ⟨x.b, x.c, x.o, gm x.m z, 0, z - 1⟩
def isMask (z : Int) : Bool := match z with
  | .ofNat m => (match m with
    | 1 | 3 | 7 | 15 | 31 | 63 | 127 | 255 | 511 | 1023 | 2047 | 4095 | 8191 | 16383 | 32767 | 65535 | 4294967295 => true
    | _ => false)
  | .negSucc _ => false
def allS : SI := ⟨0, 0, 0, 1, lo64, hi64⟩
def andS1 (x : SI) (z : Int) : SI := match isMask z with
  | true => modS x (z + 1)
  | false => (match both2 (leI 0 z) (leI z hi64) with | true => ⟨0, 0, 0, 1, 0, z⟩ | false => allS)
def andS (x y : SI) : SI := match eqI y.lo y.hi with
  | true => andS1 x y.lo
  | false => (match eqI x.lo x.hi with | true => andS1 y x.lo | false => allS)
def arS (op : BinOp) (x y : SI) : Option SI :=
  match op with
  | .add => some (addS x y)
  | .sub => some (addS x (negS y))
  | .mul => some (mulS x y)
  | .and => some (andS x y)
  | .or => some allS
  | .xor => some allS
  | .andNot => some allS
  | .rem => (match both2 (eqI y.lo y.hi) (both2 (ltI 0 y.lo) (both2 (leI y.lo hi64) (leI 0 x.lo))) with | true => some (modS x y.lo) | false => none)
  | .quo => (match both2 (eqI y.lo y.hi) (both2 (ltI 0 y.lo) (leI 0 x.lo)) with | true => some ⟨0, 0, 0, 1, x.lo / y.lo, x.hi / y.lo⟩ | false => none)
  | _ => none

/-! What that says. -/
section
variable {ρ : Ren}
theorem leI_iff {a b : Int} : leI a b = true ↔ a ≤ b := by
  unfold leI; rw [ltI_eq]
  constructor
  · intro h; split at h
    · cases h
    · rename_i hd; have := of_decide_eq_false hd; omega
  · intro h
    have : decide (b < a) = false := by rw [decide_eq_false_iff_not]; omega
    rw [this]
theorem ltI_iff {a b : Int} : ltI a b = true ↔ a < b := by rw [ltI_eq, decide_eq_true_eq]
theorem ltI_no {a b : Int} : ltI a b = false ↔ b ≤ a := by rw [ltI_eq, decide_eq_false_iff_not, Int.not_lt]
theorem eqI_iff {a b : Int} : eqI a b = true ↔ a = b := by rw [eqI_eq, beq_iff_eq]
theorem eqI_no {a b : Int} : eqI a b = false ↔ a ≠ b := by rw [eqI_eq, beq_eq_false_iff_ne]
theorem both2_iff {a b : Bool} : both2 a b = true ↔ a = true ∧ b = true := by cases a <;> simp [both2]
theorem gm_ok (a b q r : Int) : ∃ z, a * q + b * r = gm a b * z := by
  unfold gm
  split
  · rename_i h; rw [eqI_iff] at h; exact ⟨r, by rw [h]; omega⟩
  · split
    · rename_i h; rw [eqI_iff] at h; exact ⟨q, by rw [h]; omega⟩
    · split
      · rename_i h; rw [eqI_iff] at h
        refine ⟨q + (b / a) * r, ?_⟩
        have h2 : b = a * (b / a) := by have := Int.mul_ediv_add_emod b a; omega
        rw [Int.mul_add, ← Int.mul_assoc, ← h2]
      · split
        · rename_i h; rw [eqI_iff] at h
          refine ⟨(a / b) * q + r, ?_⟩
          have h2 : a = b * (a / b) := by have := Int.mul_ediv_add_emod a b; omega
          rw [Int.mul_add, ← Int.mul_assoc, ← h2]
        · exact ⟨a * q + b * r, by omega⟩
theorem Has.bounds_ {s : SI} {n : Int} (h : Has ρ s n) : s.lo ≤ n ∧ n ≤ s.hi := ⟨h.1, h.2.1⟩
theorem Has.bounds {s : SI} {n : Int} (h : Has ρ s n) : s.lo ≤ n ∧ n ≤ s.hi := ⟨h.1, h.2.1⟩
theorem Has.any {lo hi n : Int} (h1 : lo ≤ n) (h2 : n ≤ hi) (b : Nat) : Has ρ ⟨b, 0, 0, 1, lo, hi⟩ n := ⟨h1, h2, 0, n, .inl rfl, by simp⟩
theorem Has.cst (n : Int) : Has ρ (cstS n) n := ⟨Int.le_refl _, Int.le_refl _, 0, 0, .inl rfl, by simp [cstS]⟩
theorem Has.eq {s : SI} {n z : Int} (h : Has ρ s n) (h1 : eqI s.lo s.hi = true) : n = s.lo := by
  rw [eqI_iff] at h1; have := h.bounds; omega
theorem addS_ok {x y : SI} {n k : Int} (hx : Has ρ x n) (hy : Has ρ y k) : Has ρ (addS x y) (n + k) := by
  obtain ⟨x1, x2, t, q, x3, x4⟩ := hx
  obtain ⟨y1, y2, u, r, y3, y4⟩ := hy
  obtain ⟨z, hz⟩ := gm_ok x.m y.m q r
  unfold addS
  split
  · rename_i h; rw [eqI_iff] at h
    exact ⟨Int.add_le_add x1 y1, Int.add_le_add x2 y2, t, z, x3, by simp only []; rw [x4, y4, h]; omega⟩
  · split
    · rename_i h; rw [eqI_iff] at h
      exact ⟨Int.add_le_add x1 y1, Int.add_le_add x2 y2, u, z, y3, by simp only []; rw [x4, y4, h]; omega⟩
    · rename_i _ h0 _ h1
      rw [eqI_no] at h0 h1
      split
      · rename_i h; have h := eqN_ok _ _ h
        obtain ⟨p, e1, e2⟩ := x3.resolve_left h1
        obtain ⟨p', e3, e4⟩ := y3.resolve_left h0
        rw [h, e3] at e1
        obtain rfl := Option.some.inj e1
        refine ⟨Int.add_le_add x1 y1, Int.add_le_add x2 y2, t, z, .inr ⟨p', by simp only []; rw [h]; exact e3, e2⟩, ?_⟩
        simp only []
        have : u = t := e4.symm.trans e2
        rw [x4, y4, this, Int.add_mul]; omega
      · exact Has.any (Int.add_le_add x1 y1) (Int.add_le_add x2 y2) 0
theorem negS_ok {x : SI} {n : Int} (hx : Has ρ x n) : Has ρ (negS x) (-n) := by
  obtain ⟨x1, x2, t, q, x3, x4⟩ := hx
  refine ⟨Int.neg_le_neg x2, Int.neg_le_neg x1, t, -q, ?_, ?_⟩
  · rcases x3 with h | h
    · exact .inl (by simp [negS, h])
    · exact .inr h
  · simp only [negS]; rw [x4, Int.neg_mul, Int.mul_neg]; omega
theorem scaleS_ok {x : SI} {n : Int} (hx : Has ρ x n) (z : Int) : Has ρ (scaleS x z) (n * z) := by
  obtain ⟨x1, x2, t, q, x3, x4⟩ := hx
  have e : n * z = x.c * z * t + x.o * z + x.m * z * q := by rw [x4, Int.add_mul, Int.add_mul, Int.mul_right_comm, Int.mul_right_comm x.m]
  have e3 : x.c * z = 0 ∨ ∃ p, ρ x.b = some p ∧ pv p = t := by
    rcases x3 with h | h
    · exact .inl (by rw [h, Int.zero_mul])
    · exact .inr h
  unfold scaleS
  split
  · rename_i h; rw [ltI_iff] at h
    exact ⟨Int.mul_le_mul_of_nonpos_right x2 (by omega), Int.mul_le_mul_of_nonpos_right x1 (by omega), t, q, e3, e⟩
  · rename_i h; rw [ltI_no] at h
    exact ⟨Int.mul_le_mul_of_nonneg_right x1 h, Int.mul_le_mul_of_nonneg_right x2 h, t, q, e3, e⟩
theorem absI_ok (a : Int) : absI a = (a.natAbs : Int) := by
  unfold absI; split
  · rename_i h; rw [ltI_iff] at h; omega
  · rename_i h; rw [ltI_no] at h; omega
theorem maxI_ok (a b : Int) : a ≤ maxI a b ∧ b ≤ maxI a b ∧ (maxI a b = a ∨ maxI a b = b) := by
  unfold maxI; split
  · rename_i h; rw [ltI_iff] at h; exact ⟨by omega, Int.le_refl _, .inr rfl⟩
  · rename_i h; rw [ltI_no] at h; exact ⟨Int.le_refl _, h, .inl rfl⟩
theorem minI_ok (a b : Int) : minI a b ≤ a ∧ minI a b ≤ b ∧ (minI a b = a ∨ minI a b = b) := by
  unfold minI; split
  · rename_i h; rw [ltI_iff] at h; exact ⟨Int.le_refl _, by omega, .inl rfl⟩
  · rename_i h; rw [ltI_no] at h; exact ⟨h, Int.le_refl _, .inr rfl⟩
theorem bigS_ok {x : SI} {n : Int} (hx : Has ρ x n) : (n.natAbs : Int) ≤ bigS x := by
  have h := hx.bounds
  have := maxI_ok (absI x.lo) (absI x.hi)
  unfold bigS
  rw [absI_ok, absI_ok] at this ⊢
  omega
theorem mulS_ok {x y : SI} {n k : Int} (hx : Has ρ x n) (hy : Has ρ y k) : Has ρ (mulS x y) (n * k) := by
  unfold mulS
  split
  · rename_i h; rw [hy.eq (z := 0) h]; exact scaleS_ok hx _
  · split
    · rename_i h; rw [hx.eq (z := 0) h, Int.mul_comm]; exact scaleS_ok hy _
    · have h1 := bigS_ok hx
      have h2 := bigS_ok hy
      have h3 : ((n * k).natAbs : Int) ≤ bigS x * bigS y := by
        rw [Int.natAbs_mul, Int.natCast_mul]
        exact Int.mul_le_mul h1 h2 (Int.natCast_nonneg _) (Int.le_trans (Int.natCast_nonneg _) h1)
      exact Has.any (by omega) (by omega) 0
theorem wrap_range (n : Int) : lo64 ≤ IntKind.i64.wrap n ∧ IntKind.i64.wrap n ≤ hi64 := by
  rw [IntKind.wrap_i64]; unfold lo64 hi64; omega
theorem wrap_cong (n : Int) : ∃ q, IntKind.i64.wrap n = n + 18446744073709551616 * q := by
  rw [IntKind.wrap_i64]
  exact ⟨-((n + 9223372036854775808) / 18446744073709551616), by omega⟩
theorem wrap_id {n : Int} (h1 : lo64 ≤ n) (h2 : n ≤ hi64) : IntKind.i64.wrap n = n := by
  rw [IntKind.wrap_i64]; unfold lo64 at h1; unfold hi64 at h2; omega
theorem fitS_ok {x : SI} {n : Int} (hx : Has ρ x n) : Has ρ (fitS x) (IntKind.i64.wrap n) := by
  unfold fitS
  split
  · rename_i h; rw [both2_iff, leI_iff, leI_iff] at h
    have := hx.bounds
    rw [wrap_id (Int.le_trans h.1 this.1) (Int.le_trans this.2 h.2)]; exact hx
  · obtain ⟨x1, x2, t, q, x3, x4⟩ := hx
    obtain ⟨r, hr⟩ := wrap_cong n
    obtain ⟨z, hz⟩ := gm_ok x.m 18446744073709551616 q r
    exact ⟨(wrap_range n).1, (wrap_range n).2, t, z, x3, by simp only []; rw [hr, x4]; omega⟩
theorem tightS_ok {x : SI} {n : Int} (hx : Has ρ x n) : Has ρ (tightS x) n := by
  unfold tightS
  split
  · exact hx
  · rename_i h0; rw [eqI_iff] at h0
    have hx' := hx
    obtain ⟨x1, x2, t, q, x3, x4⟩ := hx'
    split
    · rename_i h1; rw [eqI_iff] at h1
      have : n = x.o := by rw [x4, h0, h1]; omega
      rw [← this]; exact Has.cst n
    · split
      · rename_i h1; rw [both2_iff, ltI_iff, ltI_iff] at h1
        have e : x.o - x.lo = (n - x.lo) + x.m * (-q) := by rw [x4, h0, Int.mul_neg]; omega
        have : x.lo + (x.o - x.lo) % x.m = n := by
          rw [e, Int.add_mul_emod_self_left, Int.emod_eq_of_lt (by omega) (by omega)]; omega
        rw [this]; exact Has.cst n
      · exact hx
theorem mkS_VR {x : SI} {n : Int} (hx : Has ρ x n) : VR ρ (mkS x) (.int .i64 n) := by
  unfold mkS
  split
  · rename_i h; rw [hx.eq (z := 0) h]; exact .int _ _
  · exact .sym _ _ _ _ _ _ _ hx
theorem outS_VR {x : SI} {n : Int} (hx : Has ρ x n) : VR ρ (outS x) (.int .i64 (IntKind.i64.wrap n)) := mkS_VR (tightS_ok (fitS_ok hx))
theorem siOf_VR {v v' : Value} {s : SI} (h : siOf v = some s) (hv : VR ρ v v') : ∃ n, v' = .int .i64 n ∧ Has ρ s n := by
  unfold siOf at h
  split at h
  · obtain rfl := Option.some.inj h
    cases hv; exact ⟨_, rfl, Has.cst _⟩
  · obtain rfl := Option.some.inj h
    cases hv; exact ⟨_, rfl, ‹_›⟩
  · cases h
theorem isS_VR {v v' : Value} (h : isS v = true) (hv : VR ρ v v') : ∃ n s, v' = .int .i64 n ∧ siOf v = some s ∧ Has ρ s n := by
  unfold isS at h
  split at h
  · cases hv; exact ⟨_, _, rfl, rfl, ‹_›⟩
  · cases h
theorem difS_ok {x y : SI} {n k : Int} (hx : Has ρ x n) (hy : Has ρ y k) : Has ρ (difS x y) (n - k) := by
  rw [Int.sub_eq_add_neg]; exact tightS_ok (addS_ok hx (negS_ok hy))
theorem ltS_ok {x y : SI} {n k : Int} (hx : Has ρ x n) (hy : Has ρ y k) {b : Bool} (h : ltS x y = some b) : b = decide (n < k) := by
  have := (difS_ok hx hy).bounds
  unfold ltS at h
  split at h
  · rename_i h1; rw [ltI_iff] at h1
    obtain rfl := Option.some.inj h
    symm; rw [decide_eq_true_eq]; omega
  · split at h
    · cases h
    · rename_i h1; rw [ltI_no] at h1
      obtain rfl := Option.some.inj h
      symm; rw [decide_eq_false_iff_not]; omega
theorem eqS'_ok {d : SI} {n : Int} (hd : Has ρ d n) {b : Bool} (h : eqS' d = some b) : b = decide (n = 0) := by
  have hb := hd.bounds
  unfold eqS' at h
  split at h
  · rename_i h1; rw [both2_iff, eqI_iff, eqI_iff] at h1
    obtain rfl := Option.some.inj h
    symm; rw [decide_eq_true_eq]; omega
  · split at h
    · rename_i h1; rw [ltI_iff] at h1
      obtain rfl := Option.some.inj h
      symm; rw [decide_eq_false_iff_not]; omega
    · split at h
      · rename_i h1; rw [ltI_iff] at h1
        obtain rfl := Option.some.inj h
        symm; rw [decide_eq_false_iff_not]; omega
      · split at h
        · cases h
        · rename_i h1; rw [both2_iff, eqI_iff, ltI_iff] at h1
          obtain ⟨_, _, t, q, _, x4⟩ := hd
          rw [h1.1] at x4
          have e : n % d.m = d.o % d.m := by
            rw [x4, Int.add_mul_emod_self_left]; congr 1; omega
          split at h
          · rename_i h2; rw [eqI_no] at h2
            obtain rfl := Option.some.inj h
            symm; rw [decide_eq_false_iff_not]; intro h3
            rw [h3, Int.zero_emod] at e; exact h2 e.symm
          · rename_i h2; rw [eqI_iff] at h2
            split at h
            · rename_i h3; rw [both2_iff, ltI_iff, ltI_iff] at h3
              obtain rfl := Option.some.inj h
              symm; rw [decide_eq_true_eq]
              rw [h2] at e
              have h4 := Int.mul_ediv_add_emod n d.m
              rw [e] at h4
              by_cases h5 : n / d.m = 0
              · rw [h5] at h4; omega
              · exfalso
                rcases Int.lt_or_gt_of_ne h5 with h6 | h6
                · have := Int.mul_le_mul_of_nonneg_left (show n / d.m ≤ -1 by omega) (show 0 ≤ d.m by omega)
                  omega
                · have := Int.mul_le_mul_of_nonneg_left (show 1 ≤ n / d.m by omega) (show 0 ≤ d.m by omega)
                  omega
            · cases h
theorem eqS_ok {x y : SI} {n k : Int} (hx : Has ρ x n) (hy : Has ρ y k) {b : Bool} (h : eqS x y = some b) : b = decide (n = k) := by
  have := eqS'_ok (difS_ok hx hy) h
  rw [this]
  congr 1
  exact propext ⟨fun h => by omega, fun h => by omega⟩
theorem notO_ok {x : Option Bool} {b : Bool} (h : notO x = some b) : x = some (!b) := by
  unfold notO at h
  split at h <;> first | (cases h; done) | (obtain rfl := Option.some.inj h; rfl)
def cmpB (op : BinOp) (a b : Int) : Bool :=
  match op with
  | .eql => a == b
  | .neq => a != b
  | .lss => decide (a < b)
  | .leq => decide (a ≤ b)
  | .gtr => decide (b < a)
  | .geq => decide (b ≤ a)
  | _ => false
theorem cmpS_ok {op : BinOp} {x y : SI} {n k : Int} (hx : Has ρ x n) (hy : Has ρ y k) {b : Bool} (h : cmpS op x y = some b) : b = cmpB op n k := by
  unfold cmpS at h
  unfold cmpB
  split at h
  · rw [eqS_ok hx hy h]; simp only []; cases hd : decide (n = k) with
    | true => rw [decide_eq_true_eq] at hd; rw [hd]; simp
    | false => rw [decide_eq_false_iff_not] at hd; symm; rw [beq_eq_false_iff_ne]; exact hd
  · have := eqS_ok hx hy (notO_ok h)
    simp only []
    cases hd : decide (n = k) with
    | true => rw [hd] at this; rw [decide_eq_true_eq] at hd; rw [hd]; cases b <;> simp_all
    | false => rw [hd] at this; rw [decide_eq_false_iff_not] at hd; cases b <;> simp_all
  · exact ltS_ok hx hy h
  · have := ltS_ok hx hy (notO_ok h)
    simp only []
    cases hd : decide (n < k) with
    | true => rw [hd] at this; rw [decide_eq_true_eq] at hd; have e : decide (k ≤ n) = false := by rw [decide_eq_false_iff_not]; omega
              rw [e]; cases b <;> simp_all
    | false => rw [hd] at this; rw [decide_eq_false_iff_not] at hd; have e : decide (k ≤ n) = true := by rw [decide_eq_true_eq]; omega
               rw [e]; cases b <;> simp_all
  · exact ltS_ok hy hx h
  · have := ltS_ok hy hx (notO_ok h)
    simp only []
    cases hd : decide (k < n) with
    | true => rw [hd] at this; rw [decide_eq_true_eq] at hd; have e : decide (n ≤ k) = false := by rw [decide_eq_false_iff_not]; omega
              rw [e]; cases b <;> simp_all
    | false => rw [hd] at this; rw [decide_eq_false_iff_not] at hd; have e : decide (n ≤ k) = true := by rw [decide_eq_true_eq]; omega
               rw [e]; cases b <;> simp_all
  · cases h
def isI64 : IntKind → Bool | .i64 => true | _ => false
theorem isI64_ok {k : IntKind} (h : isI64 k = true) : k = .i64 := by cases k <;> first | rfl | cases h
/-- Two whole numbers that are known. -/
def intPair (kd : IntKind) (x y : Value) : Option (Int × Int) :=
  match x, y with
  | .int k a, .int j b => (match eqK k kd, eqK j kd with | true, true => some (a, b) | _, _ => none)
  | _, _ => none
theorem intPair_inv {kd : IntKind} {x y : Value} {a b : Int} (h : intPair kd x y = some (a, b)) : x = .int kd a ∧ y = .int kd b := by
  unfold intPair at h
  split at h
  · split at h
    · rename_i h1 h2
      obtain ⟨rfl, rfl⟩ := Prod.mk.inj (Option.some.inj h)
      rw [of_decide_eq_true h1, of_decide_eq_true h2]; exact ⟨rfl, rfl⟩
    · cases h
  · cases h
theorem intPair_at (kd : IntKind) (a b : Int) : intPair kd (.int kd a) (.int kd b) = some (a, b) := by
  have : eqK kd kd = true := decide_eq_true rfl
  simp only [intPair, this]
def isCmp : BinOp → Bool | .eql | .neq | .lss | .leq | .gtr | .geq => true | _ => false
theorem mxS_ok {x y : SI} {n k : Int} (hx : Has ρ x n) (hy : Has ρ y k) : Has ρ (mxS x y) (if n < k then k else n) := by
  unfold mxS
  split
  · rename_i h; have := ltS_ok hx hy h
    rw [if_pos (of_decide_eq_true this.symm)]; exact hy
  · rename_i h; have := ltS_ok hx hy h
    rw [if_neg (of_decide_eq_false this.symm)]; exact hx
  · have h1 := hx.bounds; have h2 := hy.bounds
    have h3 := maxI_ok x.lo y.lo; have h4 := maxI_ok x.hi y.hi
    split
    · exact Has.any (by omega) (by omega) 0
    · exact Has.any (by omega) (by omega) 0
theorem mnS_ok {x y : SI} {n k : Int} (hx : Has ρ x n) (hy : Has ρ y k) : Has ρ (mnS x y) (if n < k then n else k) := by
  unfold mnS
  split
  · rename_i h; have := ltS_ok hx hy h
    rw [if_pos (of_decide_eq_true this.symm)]; exact hx
  · rename_i h; have := ltS_ok hx hy h
    rw [if_neg (of_decide_eq_false this.symm)]; exact hy
  · have h1 := hx.bounds; have h2 := hy.bounds
    have h3 := minI_ok x.lo y.lo; have h4 := minI_ok x.hi y.hi
    split
    · exact Has.any (by omega) (by omega) 0
    · exact Has.any (by omega) (by omega) 0
theorem modS_ok {x : SI} {n z : Int} (hx : Has ρ x n) (hz : 0 < z) : Has ρ (modS x z) (n % z) := by
  unfold modS
  split
  · rename_i h; rw [both2_iff, leI_iff, ltI_iff] at h
    have := hx.bounds
    rw [Int.emod_eq_of_lt (by omega) (by omega)]; exact hx
  · obtain ⟨x1, x2, t, q, x3, x4⟩ := hx
    obtain ⟨r, hr⟩ := gm_ok x.m z q (-(n / z))
    refine ⟨Int.emod_nonneg _ (by omega), by have := Int.emod_lt_of_pos n hz; simp only []; omega, t, r, x3, ?_⟩
    have h4 := Int.mul_ediv_add_emod n z
    rw [Int.mul_neg] at hr
    simp only []; omega
theorem isMask_ok {z : Int} (h : isMask z = true) : ∃ j, j ≤ 62 ∧ z = 2 ^ j - 1 := by
  unfold isMask at h
  split at h
  · split at h <;> first | (cases h; done) | skip
    · exact ⟨1, by decide, rfl⟩
    · exact ⟨2, by decide, rfl⟩
    · exact ⟨3, by decide, rfl⟩
    · exact ⟨4, by decide, rfl⟩
    · exact ⟨5, by decide, rfl⟩
    · exact ⟨6, by decide, rfl⟩
    · exact ⟨7, by decide, rfl⟩
    · exact ⟨8, by decide, rfl⟩
    · exact ⟨9, by decide, rfl⟩
    · exact ⟨10, by decide, rfl⟩
    · exact ⟨11, by decide, rfl⟩
    · exact ⟨12, by decide, rfl⟩
    · exact ⟨13, by decide, rfl⟩
    · exact ⟨14, by decide, rfl⟩
    · exact ⟨15, by decide, rfl⟩
    · exact ⟨16, by decide, rfl⟩
    · exact ⟨32, by decide, rfl⟩
  · cases h
theorem bits_and_mask (n : Int) {j : Nat} (hj : j ≤ 62) : bits .and .i64 n (2 ^ j - 1) = n % 2 ^ j := by
  have hp : (2 : Nat) ^ j ≤ 2 ^ 62 := Nat.pow_le_pow_right (by decide) hj
  have hp0 : 0 < (2 : Nat) ^ j := Nat.pow_pos (by decide)
  have hc : ((2 : Int) ^ j) = (((2 : Nat) ^ j : Nat) : Int) := by simp
  have e1 : (BitVec.ofInt 64 ((2 : Int) ^ j - 1)).toNat = 2 ^ j - 1 := by
    rw [BitVec.toNat_ofInt, hc]; omega
  have e2 : (BitVec.ofInt 64 n &&& BitVec.ofInt 64 ((2 : Int) ^ j - 1)).toNat = (n % 2 ^ j).toNat := by
    rw [BitVec.toNat_and, e1, Nat.and_two_pow_sub_one_eq_mod, BitVec.toNat_ofInt]
    have hd : ((2 : Int) ^ j) ∣ 2 ^ 64 := by
      refine ⟨2 ^ (64 - j), ?_⟩
      rw [← Int.pow_add]; congr 1; omega
    have h1 : (n % ((2 ^ 64 : Nat) : Int)) % (2 ^ j) = n % 2 ^ j := by
      have : ((2 ^ 64 : Nat) : Int) = (2 : Int) ^ 64 := by decide
      rw [this]; exact Int.emod_emod_of_dvd n hd
    have h2 : (0 : Int) ≤ n % ((2 ^ 64 : Nat) : Int) := Int.emod_nonneg _ (by decide)
    rw [← h1, hc, Int.toNat_emod h2 (by omega), Int.toNat_natCast]
  have h3 : 0 ≤ n % (2 : Int) ^ j := Int.emod_nonneg _ (by rw [hc]; omega)
  have h4 : n % (2 : Int) ^ j < 2 ^ j := Int.emod_lt_of_pos _ (by rw [hc]; omega)
  show IntKind.i64.wrap _ = _
  simp only []
  show IntKind.i64.wrap ((BitVec.ofInt 64 n &&& BitVec.ofInt 64 ((2 : Int) ^ j - 1)).toNat : Int) = _
  rw [e2, Int.toNat_of_nonneg h3, wrap_id]
  · unfold lo64; omega
  · rw [hc] at h4 ⊢; unfold hi64; omega
theorem bits_and_comm (x y : Int) : bits .and .i64 x y = bits .and .i64 y x := by
  show IntKind.i64.wrap _ = IntKind.i64.wrap _
  congr 1
  simp only []
  rw [BitVec.and_comm]
theorem bits_range (op : BinOp) (x y : Int) : lo64 ≤ bits op .i64 x y ∧ bits op .i64 x y ≤ hi64 := wrap_range _
theorem bits_and_le {n z : Int} (h0 : 0 ≤ z) (h1 : z ≤ hi64) : 0 ≤ bits .and .i64 n z ∧ bits .and .i64 n z ≤ z := by
  have e1 : ((BitVec.ofInt 64 z).toNat : Int) = z := by rw [BitVec.toNat_ofInt]; unfold hi64 at h1; omega
  have e2 : (BitVec.ofInt 64 n &&& BitVec.ofInt 64 z).toNat ≤ (BitVec.ofInt 64 z).toNat := by rw [BitVec.toNat_and]; exact Nat.and_le_right
  have e3 : bits .and .i64 n z = IntKind.i64.wrap ((BitVec.ofInt 64 n &&& BitVec.ofInt 64 z).toNat : Int) := rfl
  rw [e3, wrap_id (by unfold lo64; omega) (by omega)]
  omega
theorem Has.all {n : Int} (h : lo64 ≤ n ∧ n ≤ hi64) : Has ρ allS n := Has.any h.1 h.2 0
/-- Of numbers that are whole numbers of a machine. -/
theorem andS1_ok {x : SI} {n z : Int} (hx : Has ρ x n) : Has ρ (andS1 x z) (bits .and .i64 n z) := by
  unfold andS1
  split
  · rename_i h
    obtain ⟨j, hj, rfl⟩ := isMask_ok h
    rw [bits_and_mask n hj]
    have : (2 : Int) ^ j - 1 + 1 = 2 ^ j := by omega
    rw [this]
    exact modS_ok hx (Int.pow_pos (by decide))
  · split
    · rename_i h; rw [both2_iff, leI_iff, leI_iff] at h
      have := bits_and_le (n := n) h.1 h.2
      exact Has.any this.1 this.2 0
    · exact Has.all (bits_range _ _ _)
theorem andS_ok {x y : SI} {n k : Int} (hx : Has ρ x n) (hy : Has ρ y k) : Has ρ (andS x y) (bits .and .i64 n k) := by
  unfold andS
  split
  · rename_i h; rw [hy.eq (z := 0) h]; exact andS1_ok hx
  · split
    · rename_i h; rw [hx.eq (z := 0) h, bits_and_comm]; exact andS1_ok hy
    · exact Has.all (bits_range _ _ _)
end
end Go.Proofs.YtgnkjpbecgpjoaaGreatDoor.Fw
set_option linter.unusedVariables false
namespace Go.Proofs.YtgnkjpbecgpjoaaGreatDoor.Fw
open Go Go.RowKit

section
variable {β : Type}

abbrev Tm := Nat → Option Value
def Tm.upd (t : Tm) (i : Nat) (v : Value) : Tm := fun j => match Nat.beq j i with | true => some v | false => t j

inductive KD where
  | int (k : IntKind) | bool | string | ptr | slice | map | any | agg (n : Nat)

def kdOf (P : Program) (t : TypeId) : Option KD :=
  match P.underlying t with
  | some .bool => some .bool
  | some (.int k) => some (.int k)
  | some .string => some .string
  | some (.pointer _) => some .ptr
  | some (.slice _) => some .slice
  | some (.map _ _) => some .map
  | some (.func _ _ _) | some (.interface _) | some (.tuple _) => some .any
  | some (.struct _) | some (.array _ _) => some (.agg (P.cellsOf t))
  | some .unsafePointer => some .ptr
  | _ => none

def onSome {α : Type} (x : Option α) (k : α → Option β) : Option β := match x with | some v => k v | none => none
def kInt (k : IntKind) (v : Value) (c : Int → Option β) : Option β := match v with | .int k' n => if k' = k then c n else none | _ => none
def kBool (v : Value) (c : Bool → Option β) : Option β := match v with | .bool b => c b | _ => none
def kStr (v : Value) (c : ByteArray → Option β) : Option β := match v with | .string s => c s | _ => none
def kPtr (v : Value) (c : Option Addr → Option β) : Option β := match v with | .pointer a => c a | _ => none
def kSl (v : Value) (c : Option Addr → Nat → Nat → Option β) : Option β := match v with | .slice a l m => c a l m | _ => none
def kMp (v : Value) (c : Option Nat → Option β) : Option β := match v with | .map r => c r | _ => none
def kAgg (v : Value) (c : Array Value → Option β) : Option β := match v with | .agg cs => c cs | _ => none
def kTup (v : Value) (c : Array Value → Option β) : Option β := match v with | .tuple cs => c cs | _ => none
def kAnyInt (v : Value) (c : IntKind → Int → Option β) : Option β := match v with | .int k n => c k n | _ => none

/-- A whole number, known or not. -/
def kIntS (k : IntKind) (v : Value) (c : Value → Option β) : Option β :=
  match v with
  | .int k' n => if k' = k then c (.int k n) else none
  | v => (match isS v, isI64 k with | true, true => c v | _, _ => none)

def kTy (kd : Option KD) (v : Value) (c : Value → Option β) : Option β :=
  match kd with
  | some (.int k) => kIntS k v c
  | some .bool => kBool v fun b => c (.bool b)
  | some .string => kStr v fun s => c (.string s)
  | some .ptr => kPtr v fun a => c (.pointer a)
  | some .slice => kSl v fun a l m => c (.slice a l m)
  | some .map => kMp v fun r => c (.map r)
  | some .any => c v
  | some (.agg n) => kAgg v fun cs => if cs.size = n then c (.agg cs) else none
  | none => none

/-- What is known. -/
def kTyC (kd : KD) (v : Value) (c : Value → Option β) : Option β :=
  match kd with
  | .int k => kInt k v fun n => c (.int k n)
  | .bool => kBool v fun b => c (.bool b)
  | .string => kStr v fun s => c (.string s)
  | _ => none

def plain1 : Value → Bool
  | .bool _ | .int _ _ | .string _ | .pointer none | .slice none 0 0 | .map none | .nilFunc | .nilIface => true
  | _ => false
def plainV : Value → Bool
  | .agg cs => cs.toList.all plain1
  | .tuple cs => cs.toList.all plain1
  | v => plain1 v

/-- An operand. -/
def opd (t : Tm) (x : Operand) (k : Value → Option β) : Option β :=
  match x with
  | .tmp i => (match t i with | some v => k v | none => none)
  | .const v => (match plainV v with | true => k v | false => none)
  | .func f => k (.func (.func f) #[] #[])
  | .global g => (match Nat.blt g ng with | true => k (.pointer (some ⟨g, 0, none⟩)) | false => none)

def opds (t : Tm) (xs : List Operand) (k : List Value → Option β) : Option β :=
  match xs with
  | [] => k []
  | x :: rest => opd t x fun v => opds t rest fun vs => k (v :: vs)


/-- The cells of a block. -/
def ldc (H : Heap) (b : Nat) (c : List Value → Option β) : Option β := match H[b]? with | some (.cells cs _ _) => c cs | _ => none

def range (cs : List Value) (off n : Nat) : List Value := (cs.drop off).take n

def ld (kd : Option KD) (H : Heap) (a : Addr) (k : Value → Option β) : Option β :=
  match kd with
  | some (.agg n) => ldc H a.block fun cs => if a.off + n ≤ cs.length then k (.agg (range cs a.off n).toArray) else none
  | kd => ldc H a.block fun cs => onSome cs[a.off]? fun v => kTy kd v k

def byteAt (s : ByteArray) (i : Nat) : Int := ((s[i]?).map (fun b => (b.toNat : Int))).getD 0

def binInt (op : BinOp) (k : IntKind) (a b : Int) (c : Value → Option β) : Option β :=
  match op with
  | .add => c (.int k (k.wrap (a + b)))
  | .sub => c (.int k (k.wrap (a - b)))
  | .mul => c (.int k (k.wrap (a * b)))
  | .quo => if b = 0 then none else c (.int k (k.wrap (a.tdiv b)))
  | .rem => if b = 0 then none else c (.int k (a.tmod b))
  | .and => c (.int k (bits .and k a b))
  | .or => c (.int k (bits .or k a b))
  | .xor => c (.int k (bits .xor k a b))
  | .andNot => c (.int k (bits .andNot k a b))
  | .eql => c (.bool (a == b))
  | .neq => c (.bool (a != b))
  | .lss => c (.bool (decide (a < b)))
  | .leq => c (.bool (decide (a ≤ b)))
  | .gtr => c (.bool (decide (b < a)))
  | .geq => c (.bool (decide (b ≤ a)))
  | _ => none

/-- Whole numbers put together, known or not. -/
def arV (op : BinOp) (kd : IntKind) (x y : Value) (c : Value → Option β) : Option β :=
  match intPair kd x y with
  | some p => binInt op kd p.1 p.2 c
  | none => (match isI64 kd with
    | true => onSome (siOf x) fun s => onSome (siOf y) fun u => onSome (arS op s u) fun z => c (outS z)
    | false => none)
def cmpV (op : BinOp) (kd : IntKind) (x y : Value) (c : Bool → Option β) : Option β :=
  match intPair kd x y with
  | some p => c (cmpB op p.1 p.2)
  | none => (match isI64 kd with
    | true => onSome (siOf x) fun s => onSome (siOf y) fun u => onSome (cmpS op s u) c
    | false => none)
def mxi (x y : Int) : Int := if y > x then y else x
def mni (x y : Int) : Int := if y < x then y else x
def mmI (mx : Bool) (a b : Int) : Int := match mx with | true => mxi a b | false => mni a b
def mmS (mx : Bool) (a b : SI) : SI := match mx with | true => mxS a b | false => mnS a b
def mmV (mx : Bool) (kd : IntKind) (x y : Value) (c : Value → Option β) : Option β :=
  match intPair kd x y with
  | some p => c (.int kd (mmI mx p.1 p.2))
  | none => (match isI64 kd with
    | true => onSome (siOf x) fun s => onSome (siOf y) fun u => c (mkS (mmS mx s u))
    | false => none)
def mmVs (mx : Bool) (kd : IntKind) : List Value → Value → (Value → Option β) → Option β
  | [], x, c => c x
  | v :: rest, x, c => mmV mx kd x v fun z => mmVs mx kd rest z c
def cvtV (ks kd : IntKind) (v : Value) (c : Value → Option β) : Option β :=
  match v with
  | .int k n => if k = ks then c (.int kd (kd.wrap n)) else none
  | v => (match isI64 ks, isI64 kd with | true, true => onSome (siOf v) fun s => c (outS s) | _, _ => none)

def binSh (op : BinOp) (k : IntKind) (a b : Int) (c : Value → Option β) : Option β :=
  match op with
  | .shl => if b < 0 then none else c (.int k (k.wrap (a * 2 ^ (min b.toNat k.bits))))
  | .shr => if b < 0 then none else c (.int k (a / 2 ^ (min b.toNat k.bits)))
  | _ => none

def shV (op : BinOp) (x y : Value) (c : Value → Option β) : Option β :=
  kAnyInt y fun _ b => (match x with
  | .int k a => binSh op k a b c
  | x => (match isS x, both2 (leI 0 b) (leI b 62) with
    | true, true => onSome (siOf x) fun s => (match op with
      | .shl => c (outS (scaleS s (2 ^ b.toNat)))
      | .shr => c (mkS ⟨0, 0, 0, 1, s.lo / 2 ^ b.toNat, s.hi / 2 ^ b.toNat⟩)
      | _ => none)
    | _, _ => none))

def binStr (op : BinOp) (a b : ByteArray) (c : Value → Option β) : Option β :=
  match op with
  | .add => if a.size + b.size ≤ 9223372036854775807 then c (.string (a ++ b)) else none
  | .eql => c (.bool (a.toList == b.toList))
  | .neq => c (.bool (!(a.toList == b.toList)))
  | .lss => c (.bool (Op.bytesLess a.toList b.toList))
  | .leq => c (.bool (Op.bytesLess a.toList b.toList || a.toList == b.toList))
  | .gtr => c (.bool (!(Op.bytesLess a.toList b.toList || a.toList == b.toList)))
  | .geq => c (.bool (!(Op.bytesLess a.toList b.toList)))
  | _ => none

/-- Is a value of such a type nil? -/
def nilK (P : Program) (t : TypeId) (v : Value) (c : Bool → Option β) : Option β :=
  match P.underlying t with
  | some (.pointer _) => kPtr v fun a => c a.isNone
  | some (.slice _) => kSl v fun a _ _ => c a.isNone
  | some (.map _ _) => kMp v fun r => c r.isNone
  | some (.func _ _ _) => (match v with | .nilFunc => c true | .func (.func _) _ _ => c false | _ => none)
  | some (.interface _) => (match v with | .nilIface => c true | .iface _ _ => c false | _ => none)
  | _ => none

def isShift : BinOp → Bool | .shl => true | .shr => true | _ => false

/-- Is an operand the nil of such a type, written out? -/
def nilC (P : Program) (t : TypeId) (o : Operand) : Bool :=
  match P.underlying t, o with
  | some (.pointer _), .const (.pointer none) => true
  | some (.slice _), .const (.slice none 0 0) => true
  | some (.map _ _), .const (.map none) => true
  | some (.func _ _ _), .const .nilFunc => true
  | some (.interface _), .const .nilIface => true
  | _, _ => false

/-- Equality of values of a type, as far as it is told here: whole numbers, bools, texts, and structs of these (at most n deep); -1 fields that have no name are passed over. -/
def eqv (P : Program) : Nat → TypeId → Value → Value → (Bool → Option β) → Option β
  | 0, _, _, _, _ => none
  | n + 1, t, x, y, c =>
    match P.underlying t with
    | some .bool => kBool x fun a => kBool y fun b => c (a == b)
    | some (.int k) => cmpV .eql k x y c
    | some .string => kStr x fun a => kStr y fun b => c (a.toList == b.toList)
    | some (.struct fs) =>
      match P.stoodInHeld t with
      | true => none
      | false => kAgg x fun xs => kAgg y fun ys => fs.toList.foldr (fun f k =>
          if f.name = "_" then k else
          match kdOf P f.type with
          | some (.agg m) => eqv P n f.type (.agg (xs.extract f.offset (f.offset + m))) (.agg (ys.extract f.offset (f.offset + m))) fun r => match r with | true => k | false => c false
          | kd => onSome xs[f.offset]? fun u => onSome ys[f.offset]? fun v => eqv P n f.type u v fun r => match r with | true => k | false => c false) (c true)
    | _ => none

/-- Pointers that are surely the same, or of which one is nil. -/
def ptrEq (x y : Option Addr) (k : Bool → Option β) : Option β :=
  match x, y with
  | none, none => k true
  | none, some _ => k false
  | some _, none => k false
  | some a, some b => (match Nat.beq a.block b.block && Nat.beq a.off b.off with | true => k true | false => none)

def bin (P : Program) (op : BinOp) (xt : TypeId) (xo yo : Operand) (x y : Value) (k : Value → Option β) : Option β :=
  match isShift op with
  | true => shV op x y k
  | false =>
    match P.underlying xt with
    | some (.int kd) => (match isCmp op with | true => cmpV op kd x y fun b => k (.bool b) | false => arV op kd x y k)
    | some .string => kStr x fun a => kStr y fun b => binStr op a b k
    | some .bool => kBool x fun a => kBool y fun b => (match op with | .eql => k (.bool (a == b)) | .neq => k (.bool (!(a == b))) | _ => none)
    | some (.struct _) =>
      (match P.eqGuardType P.depth xt with
       | true => none
       | false => (match op with
          | .eql => eqv P 20 xt x y fun r => k (.bool r)
          | .neq => eqv P 20 xt x y fun r => k (.bool (!r))
          | _ => none))
    | _ =>
      (match nilC P xt yo with
       | true => nilK P xt x fun r => (match op with | .eql => k (.bool r) | .neq => k (.bool (!r)) | _ => none)
       | false => (match nilC P xt xo with
          | true => nilK P xt y fun r => (match op with | .eql => k (.bool r) | .neq => k (.bool (!r)) | _ => none)
          | false => (match P.underlying xt with
            | some (.pointer te) => (match P.info? te with
                | some _ => kPtr x fun a => kPtr y fun b => ptrEq a b fun r => (match op with | .eql => k (.bool r) | .neq => k (.bool (!r)) | _ => none)
                | none => none)
            | _ => none)))

/-- A value that has cells of one cell each, whatever it is. -/
def cellsOk (v : Value) (k : Option β) : Option β := match v with | .agg _ => k | v => (match v.oneCell' with | true => k | false => none)
def cellsOks : List Value → Option β → Option β
  | [], k => k
  | v :: rest, k => cellsOk v (cellsOks rest k)

/-- Where a field lies, if it has cells. -/
def fieldOff (P : Program) (s : TypeId) (f : Nat) : Option Nat :=
  match P.underlying s with
  | some (.struct fs) => (match fs[f]? with | some fl => (match Nat.beq (P.cellsOf fl.type) 0 with | true => none | false => some fl.offset) | none => none)
  | _ => none

def fieldTy (P : Program) (s : TypeId) (f : Nat) : Option (Nat × TypeId) :=
  match P.underlying s with
  | some (.struct fs) => (match fs[f]? with | some fl => some (fl.offset, fl.type) | none => none)
  | _ => none

/-- A part of an aggregate. -/
def partK (P : Program) (e : TypeId) (cs : Array Value) (off : Nat) (k : Value → Option β) : Option β :=
  match kdOf P e with
  | some (.agg n) => k (.agg (cs.extract off (off + n)))
  | kd => onSome cs[off]? fun v => kTy kd v k

def optInt (t : Tm) (x : Option Operand) (d : Int) (k : Int → Option β) : Option β :=
  match x with
  | none => k d
  | some x => opd t x fun v => kAnyInt v fun _ n => k n

/-- s[l:h]. -/
def slStr (s : ByteArray) (l h : Int) (k : Value → Option β) : Option β :=
  if 0 ≤ h ∧ h ≤ s.size ∧ 0 ≤ l ∧ l ≤ h then k (.string (s.extract l.toNat h.toNat)) else none

/-- Has a block elements of such a size? -/
def esOk (H : Heap) (b sz : Nat) (k : Option β) : Option β := match H[b]? with | some (.cells _ esz _) => (match Nat.beq (esz % tyM) sz with | true => k | false => none) | _ => none

/-- What is known of the capacity behind a slicing; behind a length it is as much at least. -/
def slCap (len cap : Nat) (l : Nat) : Nat := if unk ≤ cap then (if cap - unk < len then unk + (len - l) else unk + (cap - unk - l)) else cap - l

/-- xs[l:h], within the length, or the capacity if it is known. -/
def slSl (H : Heap) (sz : Nat) (a : Option Addr) (len cap : Nat) (l h : Int) (k : Value → Option β) : Option β :=
  match a with
  | none => if l = 0 ∧ h = 0 ∧ len = 0 ∧ cap = 0 then k (.slice none 0 0) else none
  | some a => esOk H a.block sz (if 0 ≤ l ∧ l ≤ h ∧ (h ≤ len ∨ (¬ unk ≤ cap ∧ h ≤ cap) ∨ (unk ≤ cap ∧ h ≤ (cap - unk : Nat))) then k (.slice (some (a.add (l.toNat * sz))) (h.toNat - l.toNat) (slCap len cap l.toNat)) else none)

/-- xs[l:h:m]. -/
def slSl3 (H : Heap) (sz : Nat) (a : Option Addr) (len cap : Nat) (l h m : Int) (k : Value → Option β) : Option β :=
  match a with
  | none => none
  | some a => esOk H a.block sz (if 0 ≤ l ∧ l ≤ h ∧ h ≤ m ∧ (m ≤ len ∨ (¬ unk ≤ cap ∧ m ≤ cap) ∨ (unk ≤ cap ∧ m ≤ (cap - unk : Nat))) then k (.slice (some (a.add (l.toNat * sz))) (h.toNat - l.toNat) (m.toNat - l.toNat)) else none)

/-- a[l:h] of an array that lies at an address. -/
def slArr (H : Heap) (sz n : Nat) (a : Addr) (l h : Int) (k : Value → Option β) : Option β :=
  esOk H a.block sz (ldc H a.block fun cs => if 0 ≤ l ∧ l ≤ h ∧ h ≤ (n : Int) ∧ a.off + n * sz ≤ cs.length then k (.slice (some (a.add (l.toNat * sz))) (h.toNat - l.toNat) (n - l.toNat)) else none)

def elemOf (P : Program) (t : TypeId) : Option TypeId := match P.underlying t with | some (.slice e) => some e | _ => none

/-- The size of an element of a row that is made anew: of bytes the type is kept, too. -/
def tyE (P : Program) (e : TypeId) : Nat := match P.underlying e with | some (.int .u8) => tz (P.cellsOf e) e | _ => P.cellsOf e % tyM

/-- Of a variable that is a struct whose first field points to such a struct the type is kept. -/
def selfTy (P : Program) (e : TypeId) : Nat :=
  match P.underlying e with
  | some (.struct fs) => (match fs[0]? with
      | some f => (match P.underlying f.type with | some (.pointer u) => (match Nat.beq u e with | true => tz 0 e | false => 0) | _ => 0)
      | none => 0)
  | some (.array _ el) => P.cellsOf el % tyM
  | _ => 0

/-- Of a map that is boxed the type is kept. -/
def boxTy (P : Program) (e : TypeId) : Nat := match P.underlying e with | some (.map _ _) => tz 0 e | _ => 0

def sized (P : Program) (t : TypeId) : Bool := match P.info? t with | some j => !(Nat.beq j.size 0) | none => false

def keyK (v : Value) : Bool := match v with | .int _ _ => true | .string _ => true | .bool _ => true | _ => false
/-- Cells that are whole numbers, all the same. -/
def eqCells : List Value → List Value → Bool
  | [], [] => true
  | .int _ a :: x, .int _ b :: y => (match a == b with | true => eqCells x y | false => false)
  | _, _ => false
def keyEq : Value → Value → Bool
  | .int _ a, .int _ b => a == b
  | .string a, .string b => a == b
  | .bool a, .bool b => a == b
  | .agg x, .agg y => eqCells x.toList y.toList
  | _, _ => false
def mfind (k : Value) : List (Value × Value) → Option Value
  | [] => none
  | (a, v) :: rest => if keyEq k a then some v else mfind k rest
def mset (k v : Value) : List (Value × Value) → List (Value × Value)
  | [] => [(k, v)]
  | (a, u) :: rest => if keyEq k a then (k, v) :: rest else (a, u) :: mset k v rest
def mdel (k : Value) : List (Value × Value) → List (Value × Value)
  | [] => []
  | (a, u) :: rest => if keyEq k a then rest else (a, u) :: mdel k rest

/-- Where a key is found. -/
def midx (k : Value) : List (Value × Value) → Option Nat
  | [] => none
  | (a, _) :: rest => if keyEq k a then some 0 else (midx k rest).map (· + 1)

/-- Births: a key that is there keeps its own. -/
def bset (k : Value) (es : List (Value × Value)) (bs : List Nat) (clk : Nat) : List Nat := match mfind k es with | some _ => bs | none => bs ++ [clk]
def cset (k : Value) (es : List (Value × Value)) (clk : Nat) : Nat := match mfind k es with | some _ => clk | none => clk + 1
def bdel (k : Value) : List (Value × Value) → List Nat → List Nat
  | (a, _) :: rest, b :: bs => if keyEq k a then bs else b :: bdel k rest bs
  | _, bs => bs

def sameCells : List Value → List Value → Bool
  | [], [] => true
  | .int j _ :: x, .int k _ :: y => (match j == k with | true => sameCells x y | false => false)
  | _, _ => false
def sameK : Value → Value → Bool
  | .int j _, .int k _ => j == k
  | .string _, .string _ => true
  | .bool _, .bool _ => true
  | .agg x, .agg y => sameCells x.toList y.toList
  | _, _ => false
/-- All keys are of the kind of one. -/
def keysOk (k : Value) (es : List (Value × Value)) : Bool := es.all fun e => sameK k e.1

def ldm (H : Heap) (b : Nat) (c : List (Value × Value) → Option β) : Option β := match H[b]? with | some (.map es _ _) => c es | _ => none
def ldmB (H : Heap) (b : Nat) (c : List (Value × Value) → List Nat → Nat → Option β) : Option β := match H[b]? with | some (.map es bs clk) => c es bs clk | _ => none

/-- A map's entries, nil ones too. -/
def ldmo (H : Heap) (r : Option Nat) (c : List (Value × Value) → Option β) : Option β :=
  match r with
  | none => c []
  | some r => ldm H r c

def zeroOf (P : Program) (t : TypeId) : Option Value := match P.info? t with | some i => i.zero | none => none

/-- A key's kind: whole numbers, texts, bools. -/
def keyKd (P : Program) (t : TypeId) : Option KD :=
  match P.underlying t with
  | some (.int k) => some (.int k)
  | some .string => some .string
  | some .bool => some .bool
  | _ => none

/-- Are cells the fields of a struct of whole numbers? -/
def okCells (P : Program) : List Field → Nat → List Value → Bool
  | [], _, [] => true
  | f :: fs, i, .int k _ :: cs => (match f.name == "_", Nat.beq f.offset i, P.underlying f.type with
      | false, true, some (.int kd) => (match decide (k = kd) with | true => okCells P fs (i + 1) cs | false => false)
      | _, _, _ => false)
  | _, _, _ => false
/-- A key: of a kind, or a struct of whole numbers. -/
def kKey (P : Program) (kt : TypeId) (v : Value) (k : Value → Option β) : Option β :=
  match keyKd P kt with
  | some kk => kTyC kk v k
  | none => (match P.underlying kt with
      | some (.struct fs) => (match P.stoodInHeld kt with
          | true => none
          | false => kAgg v fun cs => (match okCells P fs.toList 0 cs.toList with | true => k (.agg cs) | false => none))
      | _ => none)

def okV (ok : Bool) (v : Value) (o : Bool) : Value := match ok with | true => .tuple #[v, .bool o] | false => v

def lookupK (P : Program) (mt : TypeId) (H : Heap) (x ix : Value) (ok : Bool) (k : Value → Option β) : Option β :=
  match P.underlying mt with
  | some (.map kt et) => kKey P kt ix fun key => kMp x fun r => ldmo H r fun es => match keysOk key es with
     | false => none
     | true => match mfind key es with
      | some v => kTy (kdOf P et) v fun v => k (okV ok v true)
      | none => onSome (zeroOf P et) fun z => (match plainV z with | true => k (okV ok z false) | false => none)
  | _ => none

/-- The bytes of cells. -/
def bytesOf : List Value → Option (List UInt8)
  | [] => some []
  | .int .u8 n :: rest => (bytesOf rest).map fun l => UInt8.ofNat n.toNat :: l
  | _ => none

inductive Cls where | fl | al | ef
  deriving DecidableEq

def isBuiltinFl : Builtin → Bool | .len | .cap | .min | .max | .unsafeSliceData => true | _ => false

def cls (P : Program) : Op → Cls
  | .move _ | .assign _ | .pick .. | .nilCheck _ | .load .. | .binOp .. | .unOp .. | .makeInterface .. | .typeAssert .. | .makeFunc .. | .build .. | .fieldAddr .. | .field .. | .indexAddr .. | .index .. | .slice .. | .lookup .. | .extract .. => .fl
  | .convert s d _ => (match P.underlying s, P.underlying d with | some .string, some (.slice _) => .ef | _, _ => .fl)
  | .call { callee := .builtin b, .. } => (match isBuiltinFl b with | true => .fl | false => .ef)
  | .alloc _ | .box .. | .buildSlice .. | .makeMap .. | .makeSlice .. => .al
  | _ => .ef

/-- Does a block begin with such a variable? -/
def fromU (H : Heap) (a : Addr) (u n : Nat) (k : Option β) : Option β :=
  match H[a.block]? with
  | some (.cells cs esz _) => if a.off = 0 ∧ n ≤ cs.length ∧ n ≠ 0 ∧ esz / tyM = u + 1 then k else none
  | _ => none

/-- The text of a row's first n bytes: the row is let go. -/
def uStr (H : Heap) (a : Addr) (n : Int) (u one : Nat) (k : ByteArray → Heap → Option β) : Option β :=
  match H[a.block]? with
  | some (.cells cs esz true) => if 0 < n ∧ n ≤ 9223372036854775807 ∧ n.toNat ≤ cs.length ∧ a.off = 0 ∧ esz / tyM = u + 1 ∧ one = 1 then
      onSome (bytesOf (cs.take n.toNat)) fun l => k ⟨l.toArray⟩ (H.set a.block .dead) else none
  | _ => none

/-- Is it a pointer's type? -/
def isPtrK (P : Program) (t : TypeId) : Bool := match P.underlying t with | some (.pointer _) => true | _ => false

/-- Is what an interface holds of such a type? -/
def tyIs (at_ : TypeId) (v : Value) : Option (Option Value) :=
  match v with
  | .nilIface => some none
  | .iface i u => (match Nat.beq i at_ with | true => some (some u) | false => some none)
  | _ => none

/-- x.(T), of a T that is no interface. -/
def tyAs (P : Program) (at_ : TypeId) (ok : Bool) (v : Value) (k : Value → Option β) : Option β :=
  match P.underlying at_ with
  | none => none
  | some (.interface _) => none
  | some _ => (match tyIs at_ v with
      | some (some u) => k (okV ok u true)
      | some none => (match ok with
          | true => onSome (zeroOf P at_) fun z => (match plainV z with | true => k (okV true z false) | false => none)
          | false => none)
      | none => none)

/-- OPERATIONS THAT CHANGE NOTHING. -/
def fl (P : Program) (t : Tm) (H : Heap) (ty : TypeId) (op : Op) (k : Value → Option β) : Option β :=
  match op with
  | .move x => opd t x k
  | .assign x => opd t x k
  | .pick c a b => opd t c fun c => kBool c fun c => (match c with | true => opd t a k | false => opd t b k)
  | .nilCheck x => opd t x fun v => (match isPtrK P ty with
    | true => kPtr v fun a => onSome a fun a => k (.pointer (some a))
    | false => match v with
      | .pointer a => onSome a fun a => k (.pointer (some a))
      | .func (.func f) first cap => k (.func (.func f) first cap)
      | .iface i v => k (.iface i v)
      | _ => none)
  | .load ty a => opd t a fun v => kPtr v fun a => onSome a fun a => ld (kdOf P ty) H a k
  | .binOp op xt x y _ => opd t x fun u => opd t y fun v => bin P op xt x y u v k
  | .unOp op xt x => opd t x fun v => (match op with
      | .not => kBool v fun b => k (.bool (!b))
      | .neg => kAnyInt v fun kd n => k (.int kd (kd.wrap (0 - n)))
      | .xor => kAnyInt v fun kd n => k (.int kd (bits .xor kd (if kd.signed then -1 else kd.max) n))
      | _ => none)
  | .convert s d x => opd t x fun v => (match P.underlying s, P.underlying d with
      | some (.int ks), some (.int kd) => cvtV ks kd v k
      | some .string, some .string => kStr v fun s => k (.string s)
      | some (.pointer t), some .unsafePointer => (match sized P t with
          | true => kPtr v fun a => onSome a fun a => ldc H a.block fun cs => if a.off < cs.length then k (.pointer (some a)) else none
          | false => none)
      | some .unsafePointer, some (.pointer u) => (match sized P u with
          | true => kPtr v fun a => onSome a fun a => fromU H a u (P.cellsOf u) (k (.pointer (some a)))
          | false => none)
      | some (.slice e), some .string => (match P.underlying e with
          | some (.int .u8) => kSl v fun a len _ => (match a with
              | none => k (.string .empty)
              | some a => ldc H a.block fun cs => if a.off + len ≤ cs.length then onSome (bytesOf (range cs a.off len)) fun l => k (.string ⟨l.toArray⟩) else none)
          | _ => none)
      | _, _ => none)
  | .makeInterface xt x => opd t x fun v => (match P.underlying xt with | some (.interface _) => none | none => none | _ => k (.iface xt v))
  | .typeAssert x _ at_ ok => opd t x fun v => tyAs P at_ ok v k
  | .makeFunc (.func f) first cap => opds t first.toList fun a => opds t cap.toList fun b => k (.func (.func f) a.toArray b.toArray)
  | .build bt parts => opds t (parts.toList.map (·.2)) fun vs => cellsOks vs (onSome (P.built bt ((parts.toList.map (·.1)).zip vs)) fun cells =>
      (match zeroOf P bt with | some z => (match plainV z && z.cells.toList.all Value.oneCell' with | true => k (.agg cells) | false => none) | none => none))
  | .fieldAddr s x f => onSome (fieldOff P s f) fun off => opd t x fun v => kPtr v fun a => onSome a fun a => k (.pointer (some (a.add off)))
  | .field s x f => onSome (fieldTy P s f) fun ot => opd t x fun v => kAgg v fun cs => partK P ot.2 cs ot.1 k
  | .indexAddr st x ix => opd t x fun v => opd t ix fun i => kAnyInt i fun _ i => (match P.underlying st with
      | some (.slice e) => onSome (P.info? e) fun _ => kSl v fun a len _ => onSome a fun a => if 0 ≤ i ∧ i < len then k (.pointer (some (a.add (i.toNat * P.cellsOf e)))) else none
      | some (.array n e) => onSome (P.info? e) fun _ => kPtr v fun a => onSome a fun a => if 0 ≤ i ∧ i < n then k (.pointer (some (a.add (i.toNat * P.cellsOf e)))) else none
      | _ => none)
  | .index st x ix => opd t x fun v => opd t ix fun i => kAnyInt i fun _ i => (match P.underlying st with
      | some .string => kStr v fun s => if 0 ≤ i ∧ i < s.size then k (.int .u8 (byteAt s i.toNat)) else none
      | some (.array n e) => onSome (P.info? e) fun _ => kAgg v fun cs => if 0 ≤ i ∧ i < n then partK P e cs (i.toNat * P.cellsOf e) k else none
      | _ => none)
  | .slice st x lo hi mx => opd t x fun v => (match P.underlying st with
      | some .string => (match mx with
          | some _ => none
          | none => kStr v fun s => optInt t hi s.size fun h => optInt t lo 0 fun l => slStr s l h k)
      | some (.slice e) => onSome (P.info? e) fun _ => kSl v fun a len cap => optInt t hi len fun h => optInt t lo 0 fun l => (match mx with
          | none => slSl H (P.cellsOf e) a len cap l h k
          | some m => opd t m fun m => kAnyInt m fun _ m => (match hi with | none => none | some _ => slSl3 H (P.cellsOf e) a len cap l h m k))
      | some (.array n e) => onSome (P.info? e) fun _ => kPtr v fun a => onSome a fun a => optInt t hi n fun h => optInt t lo 0 fun l => (match mx with
          | none => slArr H (P.cellsOf e) n a l h k
          | some _ => none)
      | _ => none)
  | .lookup mt x ix ok => opd t x fun x => opd t ix fun ix => lookupK P mt H x ix ok fun v => kTy (kdOf P ty) v k
  | .extract x i => opd t x fun v => kTup v fun vs => onSome vs[i]? fun v => kTy (kdOf P ty) v k
  | .call { callee := .builtin b, args, argTypes } => opds t args.toList fun vs => (match b with
      | .len => (match argTypes[0]?, vs with
          | some at_, [v] => (match P.underlying at_ with
              | some .string => kStr v fun s => k (.int .i64 s.size)
              | some (.slice _) => kSl v fun _ len _ => k (.int .i64 len)
              | some (.map _ _) => kMp v fun r => ldmo H r fun es => k (.int .i64 es.length)
              | _ => none)
          | _, _ => none)
      | .cap => (match argTypes[0]?, vs with
          | some at_, [v] => (match P.underlying at_ with
              | some (.slice _) => kSl v fun _ _ c => if unk ≤ c then none else k (.int .i64 c)
              | _ => none)
          | _, _ => none)
      | .unsafeSliceData => (match vs with | [v] => kSl v fun a len _ => (match a with | none => k (.pointer none) | some a => if 0 < len then k (.pointer (some a)) else none) | _ => none)
      | .max => (match vs with | v :: rest => (match kdOf P ty with | some (.int kd) => kIntS kd v fun x => mmVs true kd rest x k | _ => none) | _ => none)
      | .min => (match vs with | v :: rest => (match kdOf P ty with | some (.int kd) => kIntS kd v fun x => mmVs false kd rest x k | _ => none) | _ => none)
      | _ => none)
  | _ => none

def isLen : Builtin → Bool | .len => true | _ => false

/-- The block that a value leads to. -/
def convBlk (v : Value) : Option Nat := match v with | .pointer a => a.map (·.block) | .slice a _ _ => a.map (·.block) | _ => none

/-- The block that such an operation reads. -/
def rblk (t : Tm) (op : Op) : Option Nat :=
  match op with
  | .load _ a => opd t a fun v => kPtr v fun a => onSome a fun a => some a.block
  | .convert _ _ x => opd t x convBlk
  | .slice _ x _ _ _ => opd t x convBlk
  | .lookup _ x _ _ => opd t x fun v => kMp v fun r => r
  | .call { callee := .builtin b, args, .. } => (match isLen b with | true => opds t args.toList fun vs => (match vs with | [v] => kMp v fun r => r | _ => none) | false => none)
  | _ => none

def zeroCellsOf (z : Value) (n : Nat) : List Value := (List.replicate n z.cells.toList).flatten

/-- OPERATIONS THAT MAKE A BLOCK: the block, and the value that leads to it. -/
def al (P : Program) (t : Tm) (op : Op) (k : AObj → (Nat → Value) → Option β) : Option β :=
  match op with
  | .alloc e => onSome (zeroOf P e) fun z => (match plainV z && z.cells.toList.all Value.oneCell' with | true => k (.cells z.cells.toList (selfTy P e) true) fun id => .pointer (some ⟨id, 0, none⟩) | false => none)
  | .box e x => opd t x fun v => cellsOk v (k (.cells v.cells.toList (boxTy P e) true) fun id => .pointer (some ⟨id, 0, none⟩))
  | .buildSlice st len parts => onSome (elemOf P st) fun e => onSome (zeroOf P e) fun z => (match plainV z && z.cells.toList.all Value.oneCell' && Nat.beq z.cells.size (P.cellsOf e) with
      | false => none
      | true => (match Nat.ble (len * P.cellsOf e) 65536 with
        | false => none
        | true => opds t (parts.toList.map (·.2)) fun vs => cellsOks vs (
          onSome (Instr.fill (fun i => some (i * P.cellsOf e, P.cellsOf e)) (zeroCellsOf z len).toArray ((parts.toList.map (·.1)).zip vs)) fun cells =>
            k (.cells cells.toList (P.cellsOf e % tyM) true) fun id => .slice (some ⟨id, 0, none⟩) len len)))
  | .makeMap mt r => (match r with
      | none => k (.map [] [] 0) fun id => .map (some id)
      | some x => opd t x fun v => kAnyInt v fun _ _ => (match P.underlying mt with | some (.map _ _) => k (.map [] [] 0) fun id => .map (some id) | _ => none))
  | .makeSlice st l c => onSome (elemOf P st) fun e => onSome (zeroOf P e) fun z => (match plainV z && z.cells.toList.all Value.oneCell' && Nat.beq z.cells.size (P.cellsOf e) with
      | false => none
      | true => opd t l fun l => kInt .i64 l fun l => opd t c fun c => kInt .i64 c fun c =>
          if 0 ≤ l ∧ l ≤ c ∧ P.bytesOf e * c ≤ 140737488351232 ∧ c ≤ 140737488351232 then k (.cells (zeroCellsOf z c.toNat) (P.cellsOf e % tyM) true) fun id => .slice (some ⟨id, 0, none⟩) l.toNat c.toNat else none)
  | _ => none

/-- Cells with others written over them from a place on. -/
def splice (cs : List Value) (off : Nat) (vs : List Value) : List Value := cs.take off ++ vs ++ cs.drop (off + vs.length)

/-- Cells with a value put over them. -/
def putc (cs : List Value) (off : Nat) (v : Value) : List Value := match v with | .agg vs => splice cs off vs.toList | v => cs.set off v

/-- A store. -/
def st (n : Nat) (H : Heap) (a : Addr) (v : Value) (k : Value → Heap → Option β) : Option β :=
  match H[a.block]? with
  | some (.cells cs esz true) => if v.cells.size = n ∧ a.off + n ≤ cs.length then
      k undef (H.set a.block (.cells (putc cs a.off v) esz true)) else none
  | _ => none

/-- The cells of a slice's, or a text's, first n elements. -/
def firstC (H : Heap) (sz : Nat) (v : Value) (k : Nat → List Value → Option β) : Option β :=
  match v with
  | .slice none len _ => if len = 0 then k 0 [] else none
  | .slice (some a) len _ => ldc H a.block fun cs => if a.off + len * sz ≤ cs.length then k len (range cs a.off (len * sz)) else none
  | .string s => (match Nat.beq sz 1 with | true => k s.size (s.data.toList.map fun b => .int .u8 b.toNat) | false => none)
  | _ => none

/-- append. -/
def app (P : Program) (e : TypeId) (H : Heap) (s : Value) (n : Nat) (nw : List Value) (k : Value → Heap → Option β) : Option β :=
  kSl s fun a len cap =>
    if (len + n) * P.bytesOf e ≤ 140737488355328 ∧ len + n ≤ 140737488355328 then
      match a with
      | none => if len = 0 ∧ cap = 0 then
          (if n = 0 then k (.slice none 0 0) H else k (.slice (some ⟨H.length, 0, none⟩) n unk) (H ++ [.cells nw (tyE P e) true])) else none
      | some a =>
        match H[a.block]? with
        | some (.cells cs esz own) =>
          if a.off + len * P.cellsOf e ≤ cs.length ∧ szOk esz (P.cellsOf e) e = true then
            (if unk ≤ cap then
              (if unk < cap ∧ len + n ≤ cap - unk ∧ own = true ∧ a.off + (len + n) * P.cellsOf e ≤ cs.length then
                k (.slice (some a) (len + n) cap) (H.set a.block (.cells (splice cs (a.off + len * P.cellsOf e) nw) esz true))
              else if own = true then k (.slice (some ⟨H.length, 0, none⟩) (len + n) unk) (H.set a.block .dead ++ [.cells (range cs a.off (len * P.cellsOf e) ++ nw) (tzOff a.off esz) true]) else none)
            else if len + n ≤ cap then
              (if own = true ∧ a.off + (len + n) * P.cellsOf e ≤ cs.length then k (.slice (some a) (len + n) cap) (H.set a.block (.cells (splice cs (a.off + len * P.cellsOf e) nw) esz true)) else none)
            else k (.slice (some ⟨H.length, 0, none⟩) (len + n) unk) (H ++ [.cells (range cs a.off (len * P.cellsOf e) ++ nw) (tyE P e) true]))
          else none
        | _ => none
    else none

/-- What functions do that are called. -/
abbrev Fs := Nat → Option (List Value → Heap → Option (Value × Heap))

/-- copy's cells. -/
def cpy (H : Heap) (sz : Nat) (a : Option Addr) (len n : Nat) (cs : List Value) (k : Nat → Heap → Option β) : Option β :=
  match a with
  | none => if len = 0 then k 0 H else none
  | some a => (match H[a.block]? with
      | some (.cells old esz true) => if a.off + len * sz ≤ old.length then k (min n len) (H.set a.block (.cells (splice old a.off (cs.take (min n len * sz))) esz true)) else none
      | _ => none)
/-- clear: zero cells. -/
def clr (H : Heap) (sz : Nat) (z : Value) (a : Option Addr) (len : Nat) (k : Heap → Option β) : Option β :=
  match a with
  | none => k H
  | some a => (match H[a.block]? with
      | some (.cells old esz true) => if a.off + len * sz ≤ old.length then k (H.set a.block (.cells (splice old a.off (zeroCellsOf z len)) esz true)) else none
      | _ => none)
/-- A map without a key. -/
def dele (H : Heap) (r : Option Nat) (key : Value) (k : Heap → Option β) : Option β :=
  match r with
  | none => k H
  | some r => ldmB H r fun es bs clk => (match keysOk key es with | true => k (H.set r (.map (mdel key es) (bdel key es bs) clk)) | false => none)
/-- A map with a key's value. -/
def mupd (H : Heap) (r : Nat) (key v : Value) (k : Heap → Option β) : Option β :=
  ldmB H r fun es bs clk => (match keysOk key es with | true => k (H.set r (.map (mset key v es) (bset key es bs clk) (cset key es clk))) | false => none)

/-- A key's entry, made if there is none: its value, and its birth. -/
def ment (P : Program) (et : TypeId) (H : Heap) (r : Nat) (key : Value) (k : Value → Heap → Option β) : Option β :=
  ldmB H r fun es bs clk => (match keysOk key es with
    | true => (match midx key es with
        | some j => onSome es[j]? fun e => onSome bs[j]? fun b => k (.tuple #[e.2, .int .i64 b]) (H.set r (.map (es.set j (key, e.2)) bs clk))
        | none => onSome (zeroOf P et) fun z => (match plainV z with | true => k (.tuple #[z, .int .i64 clk]) (H.set r (.map (es ++ [(key, z)]) (bs ++ [clk]) (clk + 1))) | false => none))
    | false => none)
def bidx (n : Int) : List Nat → Option Nat
  | [] => none
  | b :: bs => (match ((b : Nat) : Int) == n with | true => some 0 | false => (bidx n bs).map (· + 1))
/-- An entry's value, the entry named by its birth. -/
def esto (H : Heap) (r : Nat) (n : Int) (v : Value) (k : Heap → Option β) : Option β :=
  ldmB H r fun es bs clk => onSome (bidx n bs) fun j => onSome es[j]? fun e => k (H.set r (.map (es.set j (e.1, v)) bs clk))

/-- The entry at which an iteration stands. -/
def entr (H : Heap) (a : Addr) (k : Value → Option β) : Option β :=
  match H[a.block]? with
  | some (.iter (some r) _ seen last) => if a.off = 0 then onSome seen.getLast? fun s => ldmB H r fun es bs clk => if clk = last then onSome (bidx s bs) fun j => onSome es[j]? fun e => k (.tuple #[e.1, e.2]) else none else none
  | _ => none

/-- CALLS THAT CHANGE SOMETHING. -/
def efCall (P : Program) (Γ : Fs) (t : Tm) (H : Heap) (ty : TypeId) (c : Call) (k : Value → Heap → Option β) : Option β :=
  match c with
  | { callee := .builtin b, args, argTypes } => opds t args.toList fun vs => (match b with
      | .append => (match argTypes[0]?, argTypes[1]?, vs with
          | some st, some xt, [s, x] => onSome (elemOf P st) fun e => onSome (zeroOf P e) fun z => (match plainV z && Nat.beq z.cells.size (P.cellsOf e) with | false => none | true => match P.underlying xt with
              | some (.int _) => none
              | none => none
              | _ => firstC H (P.cellsOf e) x fun n nw => app P e H s n nw k)
          | _, _, _ => none)
      | .copy => (match argTypes[0]?, vs with
          | some dt, [d, s] => onSome (elemOf P dt) fun e => onSome (P.info? e) fun _ => firstC H (P.cellsOf e) s fun n cs => kSl d fun a len _ => cpy H (P.cellsOf e) a len n cs fun m H => k (.int .i64 m) H
          | _, _ => none)
      | .clear => (match argTypes[0]?, vs with
          | some dt, [d] => onSome (elemOf P dt) fun e => onSome (zeroOf P e) fun z => (match plainV z && z.cells.toList.all Value.oneCell' && Nat.beq z.cells.size (P.cellsOf e) with
              | false => none
              | true => kSl d fun a len _ => clr H (P.cellsOf e) z a len fun H => k (.tuple #[]) H)
          | _, _ => none)
      | .delete => (match argTypes[0]?, vs with
          | some mt, [m, key] => (match P.underlying mt with
              | some (.map kt _) => kKey P kt key fun key => kMp m fun r => dele H r key fun H => k (.tuple #[]) H
              | _ => none)
          | _, _ => none)
      | .unsafeString => (match argTypes[0]?, vs with
          | some pt, [p, n] => kPtr p fun a => kInt .i64 n fun n => (match a with
              | none => if n = 0 then k (.string .empty) H else none
              | some a => (match P.underlying pt with
                  | some (.pointer u) => uStr H a n u (P.cellsOf u) fun s H => k (.string s) H
                  | _ => none))
          | _, _ => none)
      | _ => none)
  | { callee := .value (.func f), args, .. } => onSome (Γ f) fun F => opds t args.toList fun vs => onSome (F vs H) fun r => kTy (kdOf P ty) r.1 fun v => k v r.2
  | { callee := .value x, args, .. } => opd t x fun fv => (match fv with
      | .func (.func f) first cap => onSome (Γ f) fun F => opds t args.toList fun vs => onSome (F (first.toList ++ vs ++ cap.toList) H) fun r => kTy (kdOf P ty) r.1 fun v => k v r.2
      | _ => none)
  | _ => none

/-- OPERATIONS THAT CHANGE SOMETHING. -/
def ef (P : Program) (Γ : Fs) (t : Tm) (H : Heap) (ty : TypeId) (op : Op) (k : Value → Heap → Option β) : Option β :=
  match op with
  | .mapUpdate mt m key x => opd t m fun m => kMp m fun r => onSome r fun r => opd t key fun key => opd t x fun v => (match P.underlying mt with
      | some (.map kt _) => kKey P kt key fun key => mupd H r key v fun H => k undef H
      | _ => none)
  | .insert mt m key x => opd t m fun m => kMp m fun r => onSome r fun r => opd t key fun key => opd t x fun v => (match P.underlying mt with
      | some (.map kt _) => kKey P kt key fun key => mupd H r key v fun H => k undef H
      | _ => none)
  | .mapEntry mt m key => opd t m fun m => kMp m fun r => onSome r fun r => opd t key fun key => (match P.underlying mt with
      | some (.map kt et) => kKey P kt key fun key => ment P et H r key k
      | _ => none)
  | .entryStore mt m s x => opd t m fun m => kMp m fun r => onSome r fun r => opd t s fun s => kAnyInt s fun _ n => opd t x fun v => esto H r n v fun H => k undef H
  | .entry it => opd t it fun v => kPtr v fun a => onSome a fun a => entr H a fun v => k v H
  | .range xt x => opd t x fun v => (match P.underlying xt with
      | some (.map _ _) => kMp v fun r => (match r with
          | none => k (.pointer (some ⟨H.length, 0, none⟩)) (H ++ [.iter none 0 [] 0])
          | some r => ldmB H r fun _ _ clk => k (.pointer (some ⟨H.length, 0, none⟩)) (H ++ [.iter (some r) clk [] clk]))
      | _ => none)
  | .store ty a x => opd t a fun a => kPtr a fun a => onSome a fun a => opd t x fun v => onSome (P.info? ty) fun _ => cellsOk v (st (P.cellsOf ty) H a v k)
  | .convert s d x => opd t x fun v => (match P.underlying s, P.underlying d with
      | some .string, some (.slice e) => (match P.underlying e with
          | some (.int .u8) => kStr v fun s => if s.size ≤ 140737488351232 then k (.slice (some ⟨H.length, 0, none⟩) s.size unk) (H ++ [.cells (s.data.toList.map fun b => .int .u8 b.toNat) 1 true]) else none
          | _ => none)
      | _, _ => none)
  | .call c => efCall P Γ t H ty c k
  | _ => none

/-- The value of an operation put where it belongs. -/
def put (n : Nat) (t : Tm) (d : Option Nat) (v : Value) (k : Tm → Option β) : Option β :=
  match d with
  | none => k t
  | some d => (match Nat.blt d n with | true => k (t.upd d v) | false => none)

/-- An iteration over a map goes on: of what operand? -/
def nextOf : Op → Option Operand
  | .next it s => (match s with | true => none | false => some it)
  | _ => none
/-- It may be over if no old entry is left. -/
def overC {α : Type} : List α → List (Option α)
  | [] => [none]
  | _ :: _ => []
/-- The entries that may come next, each with its birth; none: it may be over. -/
def nextC (es : List (Value × Value)) (bs : List Nat) (since : Nat) (seen : List Nat) (last : Nat) : Option (List (Option ((Value × Value) × Nat))) :=
  match !seen.isEmpty && !es.isEmpty && bs.all (fun b => Nat.ble last b) with
  | true => none
  | false =>
    let left := (es.zip bs).filter fun e => !seen.contains e.2
    let old := left.filter fun e => Nat.blt e.2 since
    let new := left.filter fun e => Nat.ble since e.2
    some (overC old ++ (old ++ new).map some)
/-- What such an entry brings. -/
def nextV (H : Heap) (b r since : Nat) (seen : List Nat) (clk : Nat) (k : Value → Heap → Option β) : Option ((Value × Value) × Nat) → Option β
  | none => k (.tuple #[.bool false]) (H.set b .dead)
  | some e => k (.tuple #[.bool true, e.1.1, e.1.2]) (H.set b (.iter (some r) since (seen ++ [e.2]) clk))
/-- AN ITERATION OVER A MAP GOES ON, in whatever order. -/
noncomputable def nx (t : Tm) (H : Heap) (it : Operand) (k : Value → Heap → Option Res) : Option Res :=
  opd t it fun v => kPtr v fun a => onSome a fun a => (match Nat.beq a.off 0, H[a.block]? with
    | true, some (.iter none _ _ _) => k (.tuple #[.bool false]) (H.set a.block .dead)
    | true, some (.iter (some r) since seen last) => ldmB H r fun es bs clk => onSome (nextC es bs since seen last) fun l => allEq (l.map (nextV H a.block r since seen clk k))
    | _, _ => none)

/-- One operation, its guard left aside. -/
noncomputable def op1 (P : Program) (Γ : Fs) (n : Nat) (o : Oper) (t : Tm) (H : Heap) (k : Tm → Heap → Option Res) : Option Res :=
  match nextOf o.op with
  | some it => nx t H it fun v H => put n t o.dst v fun t => k t H
  | none => match cls P o.op with
    | .fl => fl P t H o.type o.op fun v => put n t o.dst v fun t => k t H
    | .al => al P t o.op fun ob mk => put n t o.dst (mk H.length) fun t => k t (H ++ [ob])
    | .ef => ef P Γ t H o.type o.op fun v H => put n t o.dst v fun t => k t H

/-- A bool, or what was passed over. -/
def kBoolU (v : Value) (u : Option β) (c : Bool → Option β) : Option β := match v with | .bool b => c b | .tuple _ => u | _ => none

/-- A guard: what it hangs on is decided here; what hangs on what was passed over is passed over too. -/
def guard (ops : List Oper) (n : Nat) (o : Oper) (t : Tm) (yes : Tm → Option β) (no : Tm → Option β) : Option β :=
  match o.guard with
  | none => yes t
  | some (j, want) =>
    match ops[j]? with
    | some g => (match g.dst with
        | some d => (match Nat.blt d n with
            | true => onSome (t d) fun v => kBoolU v (no t) fun b => (match b with
                | true => (match want with | true => yes (t.upd d (.bool true)) | false => no (t.upd d (.bool true)))
                | false => (match want with | true => no (t.upd d (.bool false)) | false => yes (t.upd d (.bool false))))
            | false => none)
        | none => none)
    | none => none

/-- The operations of a region, in the order of the text. -/
noncomputable def opsE (P : Program) (Γ : Fs) (n : Nat) (ops : List Oper) : List Oper → Tm → Heap → (Tm → Heap → Option Res) → Option Res
  | [], t, H, k => k t H
  | o :: rest, t, H, k => guard ops n o t
      (fun t => op1 P Γ n o t H fun t H => opsE P Γ n ops rest t H k)
      (fun t => put n t o.dst undef fun t => opsE P Γ n ops rest t H k)

end
end Go.Proofs.YtgnkjpbecgpjoaaGreatDoor.Fw
set_option linter.unusedVariables false
namespace Go.Proofs.YtgnkjpbecgpjoaaGreatDoor.Fw
open Go Go.RowKit

section
variable {β : Type}

open Classical in
/-- A block is as it was. -/
noncomputable def unt (H H' : Heap) (b : Nat) (k : Option β) : Option β := if H'[b]? = H[b]? then k else none

noncomputable def untouched (H H' : Heap) (bef : Nat) : List (Nat × Nat) → Option β → Option β
  | [], k => k
  | (i, b) :: rest, k => (match bef.testBit i with | true => untouched H H' bef rest k | false => unt H H' b (untouched H H' bef rest k))

def bef1 (acc : List Nat) (o : Oper) : Nat := o.after.toList.foldr (fun e s => if Region.binds .any e = true then s ||| (2 ^ e.on ||| acc.getD e.on 0) else s) 0
def befsGo : List Oper → List Nat → List Nat
  | [], acc => acc
  | o :: l, acc => befsGo l (acc ++ [bef1 acc o])
/-- Of each operation, as bits, those that stand ahead of it. -/
def befs (ops : List Oper) : List Nat := befsGo ops []
def nodupB : List Nat → Bool
  | [] => true
  | x :: xs => !xs.contains x && nodupB xs

def isEf (P : Program) (ops : List Oper) (i : Nat) : Bool := match ops[i]? with | some o => (match cls P o.op with | .ef => true | _ => false) | none => false

/-- How many of a region's changing operations stand ahead of one. -/
def level (efs : List Nat) (bef : Nat) : Nat := (efs.filter fun e => bef.testBit e).length

/-- The order in which a region that draws is gone through here: what changes nothing as early as may be. -/
def greedy (P : Program) (ops : List Oper) : List Nat :=
  let efs := (List.range ops.length).filter (isEf P ops)
  let lv := (befs ops).map (level efs)
  (List.range (efs.length + 1)).flatMap fun L =>
    (List.range ops.length).filter (fun i => !isEf P ops i && Nat.beq (lv.getD i 0) L) ++ efs.filter (fun i => Nat.beq (lv.getD i 0) L)

def tmpsOf (o : Oper) (ops : List Oper) : List Nat :=
  (o.op.operands.toList.filterMap fun | .tmp t => some t | _ => none) ++ (match o.guard with | some (g, _) => (match ops[g]? with | some o => o.dst.toList | none => []) | none => [])

/-- Whether the order is one that may be taken for all: see 'drawn'. -/
def pairOk (P : Program) (ops : List Oper) (bs : List Nat) (i j : Nat) : Bool :=
  match ops[i]?, ops[j]? with
  | some a, some b =>
    let before := (bs.getD j 0).testBit i
    !((bs.getD i 0).testBit j) && (before ||
      (!isEf P ops i &&
       (match a.dst with | some d => !(tmpsOf b ops).contains d && b.dst != some d | none => true) &&
       (match b.dst with | some d => !(tmpsOf a ops).contains d | none => true)))
  | _, _ => false

def pairsOk (P : Program) (ops : List Oper) (bs : List Nat) : List Nat → Bool
  | [] => true
  | i :: rest => rest.all (pairOk P ops bs i) && pairsOk P ops bs rest

def backEdges (ops : List Oper) : Bool := (List.range ops.length).all fun i => (match ops[i]? with | some o => o.after.all (fun e => !Region.binds .any e || Nat.blt e.on i) | none => true)

def drawOk (P : Program) (ops : List Oper) (g : List Nat) : Bool :=
  backEdges ops && pairsOk P ops (befs ops) g && nodupB g && Nat.beq g.length ops.length && (List.range ops.length).all (g.contains ·) && P.follows .mixedOrders

noncomputable def opsD (P : Program) (Γ : Fs) (n : Nat) (ops : List Oper) (bs : List Nat) : List Nat → List (Nat × Nat) → Tm → Heap → (Tm → Heap → Option β) → Option β
  | [], rs, t, H, k => k t H
  | i :: rest, rs, t, H, k =>
    onSome ops[i]? fun o => guard ops n o t
      (fun t => match cls P o.op with
        | .fl => fl P t H o.type o.op fun v => put n t o.dst v fun t' => (match rblk t o.op with | some b => opsD P Γ n ops bs rest ((i, b) :: rs) t' H k | none => opsD P Γ n ops bs rest rs t' H k)
        | .al => al P t o.op fun ob mk => put n t o.dst (mk H.length) fun t' => opsD P Γ n ops bs rest ((i, H.length) :: rs) t' (H ++ [ob]) k
        | .ef => ef P Γ t H o.type o.op fun v H' => untouched H H' (bs.getD i 0) rs (put n t o.dst v fun t' => opsD P Γ n ops bs rest rs t' H' k))
      (fun t => put n t o.dst undef fun t => opsD P Γ n ops bs rest rs t H k)

noncomputable def regionE (P : Program) (Γ : Fs) (n : Nat) (ops : List Oper) (draw : Bool) (t : Tm) (H : Heap) (k : Tm → Heap → Option Res) : Option Res :=
  match draw with
  | false => opsE P Γ n ops ops t H k
  | true => (match drawOk P ops (greedy P ops) with | true => opsD P Γ n ops (befs ops) (greedy P ops) [] t H k | false => none)
end

abbrev R := Option (Value × Heap)

/-- The results. -/
def fin (P : Program) (t : Tm) (H : Heap) : List ResultVar → (List Value → R) → R
  | [], k => k []
  | .tmp i :: rest, k => onSome (t i) fun v => fin P t H rest fun vs => k (v :: vs)
  | .cell i ty :: rest, k => onSome (t i) fun v => kPtr v fun a => onSome a fun a => ld (kdOf P ty) H a fun v => fin P t H rest fun vs => k (v :: vs)

def retV (vs : List Value) (H : Heap) : R := match vs with | [v] => some (v, H) | vs => some (.tuple vs.toArray, H)

/-- The number of the first region of a code. -/
def lead : Code → Option Nat
  | .region id _ _ => some id
  | .seq a _ => lead a
  | .block _ c => lead c
  | .loop c => lead c
  | _ => none

/-- A place at which the text may be cut. -/
def cutKey : List Item → Option Nat
  | .code c :: _ => lead c
  | .inLoop c :: _ => (match lead c with | some i => some (i + 100000) | none => none)
  | _ => none

/-- The places at which the text is cut, and the variables that live there. -/
abbrev Cuts := List (Nat × List Nat)
def Cuts.at_ : Cuts → Nat → Option (List Nat)
  | [], _ => none
  | (k, l) :: rest, i => match Nat.beq k i with | true => some l | false => Cuts.at_ rest i
def cutOf (cuts : Cuts) (td : List Item) : Option (List Nat) := match cutKey td with | some i => cuts.at_ i | none => none

def sel (t : Tm) : List Nat → (List Value → R) → R
  | [], k => k []
  | i :: rest, k => onSome (t i) fun v => sel t rest fun vs => k (v :: vs)
def restore : List Nat → List Value → Tm
  | i :: is, v :: vs => (restore is vs).upd i v
  | _, _ => fun _ => none

noncomputable def exec (P : Program) (Γ : Fs) (fn : Func) (cuts : Cuts) (J : List Item → List Value → Heap → R) : Nat → List Item → Tm → Heap → R
  | 0, _, _, _ => none
  | g + 1, td, t, H =>
    let jump (td : List Item) (t : Tm) (H : Heap) : R := match cutOf cuts td with | some lv => sel t lv fun vs => J td vs H | none => exec P Γ fn cuts J g td t H
    match td with
    | [] => fin P t H fn.results.toList fun vs => retV vs H
    | .code .skip :: K => jump K t H
    | .code (.region _ ops dr) :: K => regionE P Γ fn.ntmps ops.toList dr t H fun t H => jump K t H
    | .code (.seq a b) :: K => exec P Γ fn cuts J g (.code a :: .code b :: K) t H
    | .code (.cond c a b) :: K => opd t c fun v => kBool v fun r => (match r with | true => jump (.code a :: K) t H | false => jump (.code b :: K) t H)
    | .code (.block id c) :: K => exec P Γ fn cuts J g (.code c :: .inBlock id :: K) t H
    | .code (.loop c) :: K => jump (.inLoop c :: K) t H
    | .code (.exit id) :: K => onSome (exitTo id K) fun K => jump K t H
    | .code .ret :: _ => fin P t H fn.results.toList fun vs => retV vs H
    | .inBlock _ :: K => jump K t H
    | .inLoop c :: K => exec P Γ fn cuts J g (.code c :: .inLoop c :: K) t H
    | _ => none

/-- Rounds of cut places. -/
noncomputable def run (P : Program) (Γ : Fs) (fn : Func) (cuts : Cuts) : Nat → List Item → List Value → Heap → R
  | 0, _, _, _ => none
  | m + 1, td, vs, H => onSome (cutOf cuts td) fun lv => exec P Γ fn cuts (run P Γ fn cuts m) 2000 td (restore lv vs) H

def argT (i : Nat) : List Value → Tm
  | [] => fun _ => none
  | v :: vs => (argT (i + 1) vs).upd i v

/-- A whole function, with so many rounds. -/
noncomputable def fnE (P : Program) (Γ : Fs) (fn : Func) (cuts : Cuts) (m : Nat) (args : List Value) (H : Heap) : R :=
  onSome fn.body fun c => exec P Γ fn cuts (run P Γ fn cuts m) 2000 [.code c] (argT 0 args) H

def hit (k : Nat) (c : Code) (K : List Item) (x : Option (List Item)) : Option (List Item) :=
  match cutKey (.code c :: K) with
  | some i => (match Nat.beq i k with | true => some (.code c :: K) | false => x)
  | none => x
/-- What is still to do at a place of the text. -/
def seek (k : Nat) : Code → List Item → Option (List Item)
  | .seq a b, K => hit k (.seq a b) K (match seek k a (.code b :: K) with | some r => some r | none => seek k b K)
  | .cond o a b, K => hit k (.cond o a b) K (match seek k a K with | some r => some r | none => seek k b K)
  | .block id c, K => hit k (.block id c) K (seek k c (.inBlock id :: K))
  | .loop c, K => hit k (.loop c) K (match lead c with
      | some i => (match Nat.beq (i + 100000) k with | true => some (.inLoop c :: K) | false => seek k c (.inLoop c :: K))
      | none => seek k c (.inLoop c :: K))
  | c, K => hit k c K none
def todoOf (fn : Func) (k : Nat) : List Item := match fn.body with | some c => (match seek k c [] with | some l => l | none => []) | none => []

open Classical in
/-- What a function with rounds comes to. -/
noncomputable def lim (g : Nat → R) : R := if h : ∃ m r, g m = some r then some (Classical.choose (Classical.choose_spec h)) else none

end Go.Proofs.YtgnkjpbecgpjoaaGreatDoor.Fw
