/- The parts of role, of the program and of the document: what their methods come to, block for block. -/
import Derived.Test.YticchkdbanhjfaaRo2
import Derived.Test.YticchkdbanhjfaaFwQ
set_option linter.unusedVariables false
set_option linter.unusedSimpArgs false
namespace Go.Proofs.Yticchkdbanhjfaa
open Go Go.RowKit Go.Proofs.Yticchkdbanhjfaa.Fw

/-- A heap in which block b holds a part, with blocks behind its end. -/
def W (H : Heap) (b : Nat) (s : Pt) (g : Heap) : Heap := H.set b (.cells s.cs 0 true) ++ g
def pn (b : Nat) : Option Addr := some ⟨b, 0, none⟩
section
variable {H : Heap} {b : Nat} {s : Pt} {g : Heap}
theorem W_at (hb : b < H.length) : (W H b s g)[b]? = some (.cells s.cs 0 true) := by
  unfold W; rw [List.getElem?_append_left (by simpa using hb)]; simp [hb]
theorem W_ld (hb : b < H.length) (k : List Value → Option (Value × Heap)) : ldc (W H b s g) b k = k s.cs := ldc_at (W_at hb) k
theorem W_set (hb : b < H.length) (o : AObj) : (W H b s g).set b o = H.set b o ++ g := by
  unfold W; rw [List.set_append_left _ _ (by simpa using hb), List.set_set]
theorem W_st (hb : b < H.length) {off : Nat} (ho : off < 9) (n : Int) (k : Value → Heap → Option (Value × Heap)) : st 1 (W H b s g) ⟨b, 0 + off, none⟩ (.int .i64 n) k = k undef (W H b (s.set off n) g) := by
  have e : (s.set off n).cs = s.cs.set off (.int .i64 n) := by
    match off, ho with
    | 0, _ => rfl
    | 1, _ => rfl
    | 2, _ => rfl
    | 3, _ => rfl
    | 4, _ => rfl
    | 5, _ => rfl
    | 6, _ => rfl
    | 7, _ => rfl
    | 8, _ => rfl
  have h2 : off + 1 ≤ s.cs.length := by simp [Pt.cs]; omega
  simp only [st, W_at hb]
  rw [if_pos ⟨rfl, by simpa using h2⟩, W_set hb]
  simp only [W, e, putc, Nat.zero_add]
theorem W_st9 (hb : b < H.length) (s' : Pt) (k : Value → Heap → Option (Value × Heap)) : st 9 (W H b s g) ⟨b, 0, none⟩ (.agg s'.cs.toArray) k = k undef (W H b s' g) := by
  simp only [st, W_at hb]
  rw [if_pos ⟨rfl, by simp [Pt.cs]⟩, W_set hb]
  simp only [W, putc]
  rfl
theorem W_push (l : Heap) : W H b s g ++ l = W H b s (g ++ l) := by simp [W]
theorem W_len : (W H b s g).length = H.length + g.length := by simp [W]
theorem W_new (l : AObj) (g' : Heap) : (W H b s (g ++ l :: g'))[H.length + g.length]? = some l := by
  unfold W; rw [List.getElem?_append_right (by simp)]; simp
theorem W_ldg (x : Lt) (g' : Heap) (k : List Value → Option (Value × Heap)) : ldc (W H b s (g ++ bx x :: g')) (H.length + g.length) k = k x.cs := ldc_at (W_new (bx x) g') k
theorem W_of (h : At H b s) : W H b s [] = H := by
  unfold W At at *
  rw [List.append_nil]
  apply List.ext_getElem?
  intro i
  rw [List.getElem?_set]
  split
  · rename_i e; subst e
    have := (List.getElem?_eq_some_iff.1 h).1
    rw [if_pos this, h]
  · rfl
theorem W_isAt (hb : b < H.length) : At (W H b s g) b s := W_at hb
end

theorem c0 (s : Pt) : s.cs[0]? = some (.int .i64 s.me) := rfl
theorem c1 (s : Pt) : s.cs[0 + 1]? = some (.int .i64 s.patience) := rfl
theorem c2 (s : Pt) : s.cs[0 + 2]? = some (.int .i64 s.role) := rfl
theorem c3 (s : Pt) : s.cs[0 + 3]? = some (.int .i64 s.epoch) := rfl
theorem c4 (s : Pt) : s.cs[0 + 4]? = some (.int .i64 s.now) := rfl
theorem c5 (s : Pt) : s.cs[0 + 5]? = some (.int .i64 s.heard) := rfl
theorem c6 (s : Pt) : s.cs[0 + 6]? = some (.int .i64 s.inc) := rfl
theorem c7 (s : Pt) : s.cs[0 + 7]? = some (.int .i64 s.serves) := rfl
theorem c8 (s : Pt) : s.cs[0 + 8]? = some (.int .i64 s.known) := rfl
theorem x0 (x : Lt) : x.cs[0]? = some (.int .i64 x.kind) := rfl
theorem x1 (x : Lt) : x.cs[0 + 1]? = some (.int .i64 x.epoch) := rfl
theorem x2 (x : Lt) : x.cs[0 + 2]? = some (.int .i64 x.role) := rfl
theorem x3 (x : Lt) : x.cs[0 + 3]? = some (.int .i64 x.number) := rfl
theorem x4 (x : Lt) : x.cs[0 + 4]? = some (.int .i64 x.other) := rfl
theorem x5 (x : Lt) : x.cs[0 + 5]? = some (.string x.text) := rfl
theorem kInt_int (n : Int) (c : Int → Option (Value × Heap)) : kInt .i64 (.int .i64 n) c = c n := rfl
theorem kBool_bool (n : Bool) (c : Bool → Option (Value × Heap)) : kBool (.bool n) c = c n := rfl
theorem kStr_str (n : ByteArray) (c : ByteArray → Option (Value × Heap)) : kStr (.string n) c = c n := rfl
theorem kTup_tup (n : Array Value) (c : Array Value → Option (Value × Heap)) : kTup (.tuple n) c = c n := rfl
theorem kPtr_ptr (n : Option Addr) (c : Option Addr → Option (Value × Heap)) : kPtr (.pointer n) c = c n := rfl

section
variable (s : Pt) (x : Lt) (k : Value → Option (Value × Heap))
theorem o0 : onSome s.cs[0]? k = k (.int .i64 s.me) := rfl
theorem o1 : onSome s.cs[0 + 1]? k = k (.int .i64 s.patience) := rfl
theorem o2 : onSome s.cs[0 + 2]? k = k (.int .i64 s.role) := rfl
theorem o3 : onSome s.cs[0 + 3]? k = k (.int .i64 s.epoch) := rfl
theorem o4 : onSome s.cs[0 + 4]? k = k (.int .i64 s.now) := rfl
theorem o5 : onSome s.cs[0 + 5]? k = k (.int .i64 s.heard) := rfl
theorem o6 : onSome s.cs[0 + 6]? k = k (.int .i64 s.inc) := rfl
theorem o7 : onSome s.cs[0 + 7]? k = k (.int .i64 s.serves) := rfl
theorem o8 : onSome s.cs[0 + 8]? k = k (.int .i64 s.known) := rfl
theorem y0 : onSome x.cs[0]? k = k (.int .i64 x.kind) := rfl
theorem y1 : onSome x.cs[0 + 1]? k = k (.int .i64 x.epoch) := rfl
theorem y2 : onSome x.cs[0 + 2]? k = k (.int .i64 x.role) := rfl
theorem y3 : onSome x.cs[0 + 3]? k = k (.int .i64 x.number) := rfl
theorem y4 : onSome x.cs[0 + 4]? k = k (.int .i64 x.other) := rfl
theorem y5 : onSome x.cs[0 + 5]? k = k (.string x.text) := rfl
end
theorem on_of {x : Option (Value × Heap)} {v : Value × Heap} (h : x = some v) (k : Value × Heap → Option (Value × Heap)) : onSome x k = k v := by rw [h]; rfl


section
variable {H : Heap} {b : Nat} {s : Pt} {g : Heap}
theorem w55 (hb : b < H.length) (now : Int) : F55 [.pointer (pn b), .int .i64 now] (W H b s g) = some (.int .i64 (tick s now), W H b s g) := at55 (W_at hb) now
theorem w31 (hb : b < H.length) : F31 [.pointer (pn b)] (W H b s g) = some (.bool (s.role == 3 || s.role == 4), W H b s g) := speaks31 (W_at hb)
theorem w30 (hb : b < H.length) : F30 [.pointer (pn b)] (W H b s g) = some (.tuple #[.int .i64 s.role, .int .i64 s.epoch, .int .i64 s.inc, .int .i64 s.serves], W H b s g) := state30 (W_at hb)
theorem w28 (hb : b < H.length) (now : Int) : F28 [.pointer (pn b), .int .i64 now] (W H b s g) = some (.bool ((s.role == 2 || s.role == 3) && decide (s.patience ≤ IntKind.i64.wrap (tick s now - s.heard))), W H b s g) := suspects28 (W_at hb) now

def bootM (s : Pt) (now : Int) : Int × Pt := if s.role != 0 then (180, s) else (0, { s with now := tick s now, role := 4, epoch := 1 })
theorem w40 (hb : b < H.length) (now : Int) : F40 [.pointer (pn b), .int .i64 now] (W H b s g) = some (.int .i64 (bootM s now).1, W H b (bootM s now).2 g) := by
  refine FN_of 1 ?_ (Nat.le_of_ble_eq_true (by kernel_rfl))
  unfold pn
  rw [t40]
  have e := w55 (s := s) (g := g) hb now
  unfold pn at e
  simp (disch := first | with_reducible assumption | decide) only [onSome_some, kInt_int, kBool_bool, kStr_str, kTup_tup, kPtr_ptr, c0, c1, c2, c3, c4, c5, c6, c7, c8, x0, x1, x2, x3, x4, x5, W_ld hb, e, W_st]
  unfold bootM
  cases s.role != 0 <;> rfl

def joinM (s : Pt) (inc now : Int) : Int × Pt := if s.role != 0 then (180, s) else if decide (inc < 1) then (1, s) else if decide (4294967295 < inc) then (1, s) else (0, { s with now := tick s now, role := 1, epoch := 0, inc := inc, heard := tick s now })
theorem w26 (hb : b < H.length) (inc now : Int) : F26 [.pointer (pn b), .int .i64 inc, .int .i64 now] (W H b s g) = some (.int .i64 (joinM s inc now).1, W H b (joinM s inc now).2 g) := by
  refine FN_of 1 ?_ (Nat.le_of_ble_eq_true (by kernel_rfl))
  unfold pn
  rw [t26]
  have e := w55 (s := s) (g := g) hb now
  unfold pn at e
  simp (disch := first | with_reducible assumption | decide) only [onSome_some, kInt_int, kBool_bool, kStr_str, kTup_tup, kPtr_ptr, c0, c1, c2, c3, c4, c5, c6, c7, c8, x0, x1, x2, x3, x4, x5, W_ld hb, e, W_st]
  unfold joinM
  cases s.role != 0 <;> cases decide (inc < 1) <;> cases decide (4294967295 < inc) <;> rfl

def syncM (s : Pt) (now : Int) : Int × Pt := if s.role != 4 then (180, s) else if s.serves == 0 then (180, s) else (0, { s with now := tick s now, role := 3, heard := tick s now })
theorem w54 (hb : b < H.length) (now : Int) : F54 [.pointer (pn b), .int .i64 now] (W H b s g) = some (.int .i64 (syncM s now).1, W H b (syncM s now).2 g) := by
  refine FN_of 1 ?_ (Nat.le_of_ble_eq_true (by kernel_rfl))
  unfold pn
  rw [t54]
  have e := w55 (s := s) (g := g) hb now
  unfold pn at e
  simp (disch := first | with_reducible assumption | decide) only [onSome_some, kInt_int, kBool_bool, kStr_str, kTup_tup, kPtr_ptr, c0, c1, c2, c3, c4, c5, c6, c7, c8, x0, x1, x2, x3, x4, x5, W_ld hb, e, W_st]
  unfold syncM
  cases s.role != 4 <;> cases s.serves == 0 <;> rfl
end
end Go.Proofs.Yticchkdbanhjfaa
