/- FRAMEWORK 25: small laws for what functions come to. -/
import Derived.Test.YtlpeldimmaajkaaGreatFwO
set_option linter.unusedVariables false
set_option linter.unusedSimpArgs false
namespace Go.Proofs.YtlpeldimmaajkaaGreat.Fw
open Go Go.RowKit

section
variable {β : Type}
theorem add_block (a : Addr) (n : Nat) : (a.add n).block = a.block := by unfold Addr.add; split <;> rfl
theorem add_off (a : Addr) (n : Nat) : (a.add n).off = a.off + n := by
  unfold Addr.add; split
  · rename_i h; subst h; rfl
  · rfl
theorem onSome_some {α : Type} (x : α) (k : α → Option β) : onSome (some x) k = k x := rfl
theorem ldc_at {H : Heap} {b : Nat} {cs : List Value} {e : Nat} {o : Bool} (h : H[b]? = some (.cells cs e o)) (k : List Value → Option β) : ldc H b k = k cs := by simp [ldc, h]
theorem ldc_new (H : Heap) (cs : List Value) (e : Nat) (o : Bool) (k : List Value → Option β) : ldc (H ++ [.cells cs e o]) H.length k = k cs := ldc_at (e := e) (o := o) (by simp) k
theorem ite_t {p : Prop} [Decidable p] (h : p) (x : Option β) : (if p then x else none) = x := if_pos h
theorem wrap_nat {n : Nat} (h : n < 9223372036854775808) : IntKind.i64.wrap (n : Int) = (n : Int) := wrap_in ⟨by omega, by omega⟩
theorem wrap_succ {n : Nat} (h : n + 1 < 9223372036854775808) : IntKind.i64.wrap ((n : Int) + 1) = ((n + 1 : Nat) : Int) := by rw [wrap_in ⟨by omega, by omega⟩]; omega
theorem heap_keep {H : Heap} {b : Nat} {o : AObj} (h : H[b]? = some o) (l : Heap) : (H ++ l)[b]? = some o := by
  have : b < H.length := (List.getElem?_eq_some_iff.1 h).1
  rw [List.getElem?_append_left this]; exact h
end

/-- A slice of texts in a heap. -/
structure Strs (H : Heap) (a : Option Addr) (l : Nat) (xs : List ByteArray) : Prop where
  len : xs.length = l
  at_ : xs ≠ [] → ∃ x cs own, a = some x ∧ H[x.block]? = some (.cells cs 1 own) ∧ x.off + l ≤ cs.length ∧ ∀ (i : Nat) (s : ByteArray), xs[i]? = some s → cs[x.off + i]? = some (.string s)

theorem Strs.keep {H H' : Heap} {a : Option Addr} {l : Nat} {xs : List ByteArray} (h : Strs H a l xs) (hk : ∀ x, a = some x → ∀ cs own, H[x.block]? = some (.cells cs 1 own) → H'[x.block]? = some (.cells cs 1 own)) : Strs H' a l xs :=
  ⟨h.len, fun hne => by
    obtain ⟨x, cs, own, e, h1, h2⟩ := h.at_ hne
    exact ⟨x, cs, own, e, hk x e cs own h1, h2⟩⟩
theorem Strs.push {H : Heap} {a : Option Addr} {l : Nat} {xs : List ByteArray} (h : Strs H a l xs) (l' : Heap) : Strs (H ++ l') a l xs := h.keep fun x _ cs own hx => heap_keep hx l'

/-- An element of it. -/
theorem Strs.get {H : Heap} {a : Option Addr} {l : Nat} {xs : List ByteArray} (h : Strs H a l xs) {i : Nat} {s : ByteArray} (hi : xs[i]? = some s) : ∃ x cs own, a = some x ∧ H[x.block]? = some (.cells cs 1 own) ∧ cs[x.off + i]? = some (.string s) := by
  obtain ⟨x, cs, own, e, h1, _, h2⟩ := h.at_ (by intro e; rw [e] at hi; simp at hi)
  exact ⟨x, cs, own, e, h1, h2 i s hi⟩

/-- What is left of it behind a place. -/
theorem Strs.tail {H : Heap} {a : Option Addr} {l c : Nat} {xs : List ByteArray} (h : Strs H a l xs) {n : Nat} (hn : n < xs.length) :
    ∃ a' c', slSl (β := Value × Heap) H 1 a l c ((n : Int) + 1) (l : Int) = (fun k => k (.slice a' (l - (n + 1)) c')) ∧ Strs H a' (l - (n + 1)) (xs.drop (n + 1)) := by
  obtain ⟨x, cs, own, rfl, h1, hle, h2⟩ := h.at_ (by intro e; rw [e] at hn; simp at hn)
  have hl := h.len
  refine ⟨some (x.add (n + 1)), slCap l c (n + 1), ?_, ⟨by simp [hl], fun _ => ⟨_, cs, own, rfl, by rw [add_block]; exact h1, by rw [add_off]; omega, fun i s hs => ?_⟩⟩⟩
  · funext k
    have e1 : ((n : Int) + 1).toNat = n + 1 := by omega
    have e2 : ((l : Int)).toNat = l := by omega
    simp only [slSl, esOk, h1, show Nat.beq (1 % tyM) 1 = true from rfl, e1, e2, Nat.mul_one]
    rw [if_pos (by omega)]
  · rw [add_off]
    rw [List.getElem?_drop] at hs
    have := h2 _ _ hs
    rw [← this]; congr 1; omega

/-- A slice of bools in a heap. -/
structure Bls (H : Heap) (a : Option Addr) (l : Nat) (xs : List Bool) : Prop where
  len : xs.length = l
  at_ : xs ≠ [] → ∃ x cs own, a = some x ∧ H[x.block]? = some (.cells cs 1 own) ∧ ∀ (i : Nat) (b : Bool), xs[i]? = some b → cs[x.off + i]? = some (.bool b)

theorem row_list {α : Type} {f : α → Value} {p : Value → Prop} (hp : ∀ v, p v → ∃ x, v = f x) : ∀ (vs : List Value), (∀ v ∈ vs, p v) → ∃ xs : List α, vs = xs.map f
  | [], _ => ⟨[], rfl⟩
  | v :: vs, h => by
    obtain ⟨x, rfl⟩ := hp v (h v (by simp))
    obtain ⟨xs, rfl⟩ := row_list hp vs fun u hu => h u (by simp [hu])
    exact ⟨x :: xs, rfl⟩

theorem Row.strs {w : World} {a : Option Addr} {len cap : Nat} {vs : List Value} (h : Row w a len cap vs) (hk : ∀ v ∈ vs, ofKind .string v) : ∃ xs : List ByteArray, (∀ s ∈ xs, s.size ≤ maxLen) ∧ ∀ (H : Heap) (b : Nat), H[b]? = some (rowObj vs) → Strs H (a.map fun _ => ⟨b, 0, none⟩) len xs := by
  obtain ⟨ys, rfl⟩ := row_list (f := Value.string) (fun v hv => by obtain ⟨s, e, _⟩ := hv; exact ⟨s, e⟩) vs hk
  refine ⟨ys.take len, fun s hs => ?_, fun H b hb => ?_⟩
  · obtain ⟨s', e, hs'⟩ := hk (.string s) (List.mem_map.2 ⟨s, List.mem_of_mem_take hs, rfl⟩)
    injection e with e; subst e; exact hs'
  · rcases h with ⟨rfl, rfl, rfl, he⟩ | ⟨x, rfl, hl, hn, _, _⟩
    · exact ⟨by simp, fun h => absurd (by simp) h⟩
    · refine ⟨by simp at hn ⊢; omega, fun hne => ?_⟩
      cases ys with
      | nil => simp at hne
      | cons y ys =>
        refine ⟨_, _, _, rfl, hb, by simp at hn ⊢; omega, fun i s hs => ?_⟩
        rw [List.getElem?_take] at hs
        split at hs
        · show ((y :: ys).map Value.string)[0 + i]? = _
          rw [Nat.zero_add, List.getElem?_map, hs]; rfl
        · cases hs
theorem Row.bls {w : World} {a : Option Addr} {len cap : Nat} {vs : List Value} (h : Row w a len cap vs) (hk : ∀ v ∈ vs, ofKind .bool v) : ∃ xs : List Bool, ∀ (H : Heap) (b : Nat), H[b]? = some (rowObj vs) → Bls H (a.map fun _ => ⟨b, 0, none⟩) len xs := by
  obtain ⟨ys, rfl⟩ := row_list (f := Value.bool) (fun v hv => by obtain ⟨s, e⟩ := hv; exact ⟨s, e⟩) vs hk
  refine ⟨ys.take len, fun H b hb => ?_⟩
  rcases h with ⟨rfl, rfl, rfl, he⟩ | ⟨x, rfl, hl, hn, _, _⟩
  · exact ⟨by simp, fun h => absurd (by simp) h⟩
  · refine ⟨by simp at hn ⊢; omega, fun hne => ?_⟩
    cases ys with
    | nil => simp at hne
    | cons y ys =>
      refine ⟨_, _, _, rfl, hb, fun i s hs => ?_⟩
      rw [List.getElem?_take] at hs
      split at hs
      · show ((y :: ys).map Value.bool)[0 + i]? = _
        rw [Nat.zero_add, List.getElem?_map, hs]; rfl
      · cases hs

/-- Where a text stands first. -/
def index (s : ByteArray) : List ByteArray → Option Nat
  | [] => none
  | x :: xs => if s.toList == x.toList then some 0 else (index s xs).map (· + 1)
def indexI (o : Option Nat) : Int := match o with | none => -1 | some n => n
theorem index_lt {s : ByteArray} : ∀ {xs : List ByteArray} {n : Nat}, index s xs = some n → n < xs.length
  | [], n, h => by cases h
  | x :: xs, n, h => by
    simp only [index] at h
    split at h
    · obtain rfl := Option.some.inj h; simp
    · cases hi : index s xs with
      | none => rw [hi] at h; cases h
      | some k =>
        rw [hi] at h
        have := index_lt hi
        obtain rfl := Option.some.inj h
        simp; omega

/-- Do the texts of a list stand in another one, in their order? How many do, at least, and do all? -/
def among : List ByteArray → List ByteArray → Nat × Bool
  | [], _ => (0, true)
  | x :: l, all => match index x all with
    | none => (0, false)
    | some n => ((among l (all.drop (n + 1))).1 + 1, (among l (all.drop (n + 1))).2)
end Go.Proofs.YtlpeldimmaajkaaGreat.Fw
