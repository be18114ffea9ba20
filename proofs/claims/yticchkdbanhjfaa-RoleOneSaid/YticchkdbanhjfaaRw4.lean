/- The parts of role: Hear, Granted, Suspects and Drops of the document are the program's. -/
import Derived.Test.YticchkdbanhjfaaRw3
set_option linter.unusedVariables false
set_option linter.unusedSimpArgs false
namespace Go.Proofs.Yticchkdbanhjfaa
open Go Go.RowKit Go.Proofs.Yticchkdbanhjfaa.Fw
/-- What a part's numbers are. -/
structure Pt.Ok (s : Pt) : Prop where
  now : 0 ≤ s.now ∧ s.now ≤ 1099511627776
  heard : 0 ≤ s.heard ∧ s.heard ≤ 1099511627776
  pat : 1 ≤ s.patience ∧ s.patience ≤ 1048576
  epoch : 0 ≤ s.epoch ∧ s.epoch ≤ 4294967295
theorem tick_bnd {s : Pt} (h : 0 ≤ s.now ∧ s.now ≤ 1099511627776) (n : Int) : 0 ≤ tick s n ∧ tick s n ≤ 1099511627776 := by
  unfold tick mxi mni
  split <;> split <;> omega
section
variable {H : Heap} {b : Nat} {s : Pt} {g : Heap}
theorem w39 (ok : s.Ok) (hb : b < H.length) (now : Int) : F39 [.pointer (pn b), .int .i64 now] (W H b s g) = some (.bool ((s.role == 2 || s.role == 3) && decide (s.patience ≤ IntKind.i64.wrap (tick s now - s.heard))), W H b s g) := by
  refine FN_of 1 ?_ (Nat.le_of_ble_eq_true (by kernel_rfl))
  unfold pn
  rw [t39]
  simp (disch := first | with_reducible assumption | decide) only [onSome_some, kInt_int, kBool_bool, kStr_str, kTup_tup, kPtr_ptr, c0, c1, c2, c3, c4, c5, c6, c7, c8, x0, x1, x2, x3, x4, x5, W_ld hb]
  have tb := tick_bnd ok.now now
  have h1 := ok.heard
  have h2 := ok.pat
  have e : decide (IntKind.i64.wrap (s.heard + s.patience) ≤ mxi s.now (mni now 1099511627776)) = decide (s.patience ≤ IntKind.i64.wrap (tick s now - s.heard)) := by
    rw [wrap_in ⟨by omega, by omega⟩, wrap_in ⟨by omega, by omega⟩]
    show decide (s.heard + s.patience ≤ tick s now) = _
    rw [decide_eq_decide]; omega
  rw [e]
  cases s.role == 2 <;> cases s.role == 3 <;> rfl
theorem w69 (ok : s.Ok) (hb : b < H.length) (now : Int) : F69 [.pointer (pn b), .int .i64 now] (W H b s g) = some (.bool (dropsM s now).1, W H b (dropsM s now).2 g) := by
  refine FN_of 1 ?_ (Nat.le_of_ble_eq_true (by kernel_rfl))
  unfold pn
  rw [t69]
  have e := w85 (s := s) (g := g) hb now
  unfold pn at e
  simp (disch := first | with_reducible assumption | decide) only [onSome_some, kInt_int, kBool_bool, kStr_str, kTup_tup, kPtr_ptr, c0, c1, c2, c3, c4, c5, c6, c7, c8, x0, x1, x2, x3, x4, x5, W_ld hb, e, W_st]
  have tb := tick_bnd ok.now now
  have h1 := ok.heard
  have h2 := ok.pat
  have e : decide ((timeM s now).now < IntKind.i64.wrap ((timeM s now).heard + (timeM s now).patience)) = decide (IntKind.i64.wrap (tick s now - s.heard) < s.patience) := by
    show decide (tick s now < IntKind.i64.wrap (s.heard + s.patience)) = _
    rw [wrap_in ⟨by omega, by omega⟩, wrap_in ⟨by omega, by omega⟩]
    rw [decide_eq_decide]; omega
  rw [e]
  unfold dropsM
  show (match (s.role != 4) with | true => _ | false => (match (s.serves == 0) with | true => _ | false => (match (decide (IntKind.i64.wrap (tick s now - s.heard) < s.patience)) with | true => _ | false => _))) = _
  cases s.role != 4 <;> cases s.serves == 0 <;> cases decide (IntKind.i64.wrap (tick s now - s.heard) < s.patience) <;> rfl
theorem w65 (ok : s.Ok) (hb : b < H.length) (now : Int) : F65 [.pointer (pn b), .int .i64 now] (W H b s g) = some (.int .i64 (granted s now).1, W H b (granted s now).2 g) := by
  refine FN_of 1 ?_ (Nat.le_of_ble_eq_true (by kernel_rfl))
  unfold pn
  rw [t65]
  have e := w85 (s := s) (g := g) hb now
  have tb := tick_bnd ok.now now
  have e2 := w39 (s := timeM s now) (g := g) ⟨tb, ok.heard, ok.pat, ok.epoch⟩ hb now
  unfold pn at e e2
  simp (disch := first | with_reducible assumption | decide) only [onSome_some, kInt_int, kBool_bool, kStr_str, kTup_tup, kPtr_ptr, c0, c1, c2, c3, c4, c5, c6, c7, c8, x0, x1, x2, x3, x4, x5, W_ld hb, e, e2, W_st]
  unfold granted
  have e3 : tick (timeM s now) now = tick s now := by
    unfold timeM tick mxi mni
    simp only []
    repeat' split
    all_goals omega
  have e4 : tick { s with now := tick s now } now = tick s now := e3
  rw [e3]
  simp only []
  rw [show (timeM s now).heard = s.heard from rfl, show (timeM s now).patience = s.patience from rfl, show (timeM s now).role = s.role from rfl, show (timeM s now).epoch = s.epoch from rfl]
  simp only [bne, e4]
  rcases Bool.eq_false_or_eq_true (s.role == 2) with h1 | h1 <;> rcases Bool.eq_false_or_eq_true (s.role == 3) with h2 | h2 <;> rcases Bool.eq_false_or_eq_true (decide (s.patience ≤ IntKind.i64.wrap (tick s now - s.heard))) with h3 | h3 <;> rcases Bool.eq_false_or_eq_true (decide ((4294967295 : Int) ≤ s.epoch)) with h4 | h4 <;>
    simp only [h1, h2, h3, h4] <;> rfl
end

theorem range_x (x : Lt) : range x.cs 0 6 = x.cs := rfl
theorem len_x (x : Lt) : 0 + 6 ≤ x.cs.length := by simp [Lt.cs]
section
variable {H : Heap} {b : Nat} {s : Pt} {g : Heap}
theorem W_ldg0 (hb : b < H.length) (x : Lt) (g' : Heap) (k : List Value → Option (Value × Heap)) : ldc (W H b s (g ++ bx x :: g')) (H.length + g.length) k = k x.cs := W_ldg x g' k
def hearV (s : Pt) (x : Lt) (now : Int) : Value := .tuple #[.int .i64 (hear s x now).1, .int .i64 (hear s x now).2.1]
theorem r63_21 (m : Nat) (hb : b < H.length) : R63 (m + 1) td63_21 [.pointer (pn b)] (W H b s g) = some (.tuple #[.int .i64 2, .int .i64 0], W H b { s with heard := s.now } g) := by
  unfold pn
  rw [c63_21]
  simp (disch := first | with_reducible assumption | decide) only [↓onSome_some, ↓kInt_int, ↓kBool_bool, ↓kStr_str, ↓kTup_tup, ↓kPtr_ptr, ↓o0, ↓o1, ↓o2, ↓o3, ↓o4, ↓o5, ↓o6, ↓o7, ↓o8, ↓y0, ↓y1, ↓y2, ↓y3, ↓y4, ↓y5, ↓W_ld hb, ↓W_st]
  rfl
theorem r63_17 (m : Nat) (hb : b < H.length) (x : Lt) (g' : Heap) : R63 (m + 2) td63_17 [.pointer (pn b), .pointer (pn (H.length + g.length))] (W H b s (g ++ bx x :: g')) =
    (match (x.epoch != s.epoch) with
    | true => some (.tuple #[.int .i64 0, .int .i64 260], W H b s (g ++ bx x :: g'))
    | false => (match (s.role == 1 && x.role == 3) with
      | true => some (.tuple #[.int .i64 2, .int .i64 0], W H b { s with role := 2, heard := s.now } (g ++ bx x :: g'))
      | false => some (.tuple #[.int .i64 2, .int .i64 0], W H b { s with heard := s.now } (g ++ bx x :: g')))) := by
  have e := fun s : Pt => r63_21 (s := s) (g := g ++ bx x :: g') m hb
  unfold pn at *
  rw [c63_17]
  simp (disch := first | with_reducible assumption | decide) only [↓onSome_some, ↓kInt_int, ↓kBool_bool, ↓kStr_str, ↓kTup_tup, ↓kPtr_ptr, ↓o0, ↓o1, ↓o2, ↓o3, ↓o4, ↓o5, ↓o6, ↓o7, ↓o8, ↓y0, ↓y1, ↓y2, ↓y3, ↓y4, ↓y5, ↓W_ld hb, ↓W_ldg, ↓W_st, e]
  cases x.epoch != s.epoch <;> cases s.role == 1 <;> cases x.role == 3 <;> rfl
theorem r63_10 (m : Nat) (hb : b < H.length) (x : Lt) (g' : Heap) : R63 (m + 3) td63_10 [.pointer (pn b), .pointer (pn (H.length + g.length))] (W H b s (g ++ bx x :: g')) =
    (match asked s x with
    | true => some (.tuple #[.int .i64 1, .int .i64 0], W H b { s with role := 4, epoch := IntKind.i64.wrap (s.epoch + 1), serves := x.number, known := x.number, heard := s.now } (g ++ bx x :: g'))
    | false => R63 (m + 2) td63_17 [.pointer (pn b), .pointer (pn (H.length + g.length))] (W H b s (g ++ bx x :: g'))) := by
  have e := w38 (s := s) (g := g ++ bx x :: g') hb
  unfold pn at *
  rw [c63_10]
  simp (disch := first | with_reducible assumption | decide) only [↓onSome_some, ↓kInt_int, ↓kBool_bool, ↓kStr_str, ↓kTup_tup, ↓kPtr_ptr, ↓o0, ↓o1, ↓o2, ↓o3, ↓o4, ↓o5, ↓o6, ↓o7, ↓o8, ↓y0, ↓y1, ↓y2, ↓y3, ↓y4, ↓y5, ↓W_ld hb, ↓W_ldg, ↓W_st, ↓on_of e]
  unfold asked
  simp only [bne]
  cases (s.role == 3 || s.role == 4) <;> cases x.kind == 2 <;> cases x.role == 1 <;> cases x.epoch == s.epoch <;> cases decide (s.known < x.number) <;> cases decide (s.epoch < 4294967295) <;> rfl
theorem five {α : Type} (a k d r i : Bool) (A B : α) : (match a with | true => (match k with | true => (match d with | true => (match r with | true => (match i with | true => A | false => B) | false => B) | false => B) | false => B) | false => B) = (match (a && (k && (r && (d && i)))) with | true => A | false => B) := by
  cases a <;> cases k <;> cases d <;> cases r <;> cases i <;> rfl
theorem w63 (hb : b < H.length) (x : Lt) (now : Int) : ∃ g', F63 [.pointer (pn b), .agg x.cs.toArray, .int .i64 now] (W H b s []) = some (hearV s x now, W H b (hear s x now).2.2 g') := by
  have f : ∀ r, fnE Try.prog G63 Try.f63 cuts63 3 [.pointer (pn b), .agg x.cs.toArray, .int .i64 now] (W H b s []) = some r → F63 [.pointer (pn b), .agg x.cs.toArray, .int .i64 now] (W H b s []) = some r := fun r h => FN_of 3 h (Nat.le_of_ble_eq_true (by kernel_rfl))
  have e := t63 3 (pn b) x.kind x.epoch x.role x.number x.other x.text now (W H b s [])
  have e86 : ∀ H, F86 [.agg x.cs.toArray] H = some (.int .i64 (if x.good then 0 else 240), H ++ [bx x]) := fun H => w86 H x
  have e85 := w85 (s := s) (g := [] ++ bx x :: [bx x]) hb now
  have e10 := r63_10 (s := timeM s now) (g := []) 0 hb x [bx x]
  have e17 := r63_17 (s := timeM s now) (g := []) 0 hb x [bx x]
  have eb : AObj.cells [.int .i64 x.kind, .int .i64 x.epoch, .int .i64 x.role, .int .i64 x.number, .int .i64 x.other, .string x.text] 0 true = bx x := rfl
  have elg := fun s : Pt => W_ldg (H := H) (b := b) (s := s) (g := []) x
  unfold pn at *
  simp only [List.nil_append, List.length_nil, Nat.add_zero] at e85 e10 e17 elg
  simp (disch := first | with_reducible assumption | decide) only [↓onSome_some, ↓kInt_int, ↓kBool_bool, ↓kStr_str, ↓kTup_tup, ↓kPtr_ptr, ↓o0, ↓o1, ↓o2, ↓o3, ↓o4, ↓o5, ↓o6, ↓o7, ↓o8, ↓y0, ↓y1, ↓y2, ↓y3, ↓y4, ↓y5, List.append_assoc, List.cons_append, List.nil_append, W_push, W_len, eb, ↓W_ld hb, ↓elg, ↓W_st, List.length_nil, Nat.add_zero, ↓if_pos (len_x x), range_x, fun H => on_of (e86 H), ↓on_of e85, e10, e17, c63_2] at e
  have inv : invited (timeM s now) x = (s.role == 1 && (x.kind == 2 && (x.role == 4 && (decide (s.epoch < x.epoch) && x.number == s.inc)))) := rfl
  have e' := fun r h => f r (e.trans h)
  clear e f e10 e17 e85 elg
  unfold hearV hear
  simp only []
  rw [show ({ s with now := tick s now } : Pt) = timeM s now from rfl] 
  rcases Bool.eq_false_or_eq_true (s.role == 0) with h1 | h1
  · exact ⟨_, e' _ (by simp only [h1]; simp; rfl)⟩
  rcases Bool.eq_false_or_eq_true (s.role == 5) with h2 | h2
  · exact ⟨_, e' _ (by simp only [h1, h2]; simp; rfl)⟩
  rcases Bool.eq_false_or_eq_true x.good with h3 | h3
  case inr => exact ⟨_, e' _ (by simp only [h1, h2, h3]; simp; rfl)⟩
  simp only [h1, h2, h3, inv, Bool.or_self, Bool.false_eq_true, if_false, if_true, Bool.not_true, bne_self_eq_false] at e' ⊢
  refine ⟨[bx x, bx x], e' _ ((five ((timeM s now).role == 1) (x.kind == 2) (decide ((timeM s now).epoch < x.epoch)) (x.role == 4) (x.number == (timeM s now).inc) _ _).trans ?_)⟩
  rw [show ((timeM s now).role == 1 && (x.kind == 2 && (x.role == 4 && (decide ((timeM s now).epoch < x.epoch) && x.number == (timeM s now).inc)))) = invited (timeM s now) x from rfl]
  rw [← inv]
  rcases Bool.eq_false_or_eq_true (invited (timeM s now) x) with h4 | h4
  · simp only [h4, if_true] <;> rfl
  simp only [h4, Bool.false_eq_true, if_false]
  rcases Bool.eq_false_or_eq_true (asked (timeM s now) x) with h5 | h5
  · simp only [h5, if_true] <;> rfl
  simp only [h5, Bool.false_eq_true, if_false]
  rcases Bool.eq_false_or_eq_true (x.epoch != (timeM s now).epoch) with h6 | h6
  · have h6' : (x.epoch != s.epoch) = true := h6
    simp only [h6, h6', if_true] <;> rfl
  have h6' : (x.epoch != s.epoch) = false := h6
  simp only [h6, h6', Bool.false_eq_true, if_false]
  rcases Bool.eq_false_or_eq_true ((timeM s now).role == 1 && x.role == 3) with h7 | h7
  · have h7' : (s.role == 1 && x.role == 3) = true := h7
    simp only [h7, h7', if_true] <;> rfl
  have h7' : (s.role == 1 && x.role == 3) = false := h7
  simp only [h7, h7', Bool.false_eq_true, if_false] <;> rfl
end
end Go.Proofs.Yticchkdbanhjfaa
