/- The parts of role: what their methods answer, and how they stand behind it. -/
import Derived.Test.YticchkdbanhjfaaFwP
import Derived.Test.YticchkdbanhjfaaT3
set_option linter.unusedVariables false
set_option linter.unusedSimpArgs false
namespace Go.Proofs.Yticchkdbanhjfaa
open Go Go.RowKit Go.Proofs.Yticchkdbanhjfaa.Fw

/-- A part. -/
structure Pt where
  me : Int
  patience : Int
  role : Int
  epoch : Int
  now : Int
  heard : Int
  inc : Int
  serves : Int
  known : Int
def Pt.cs (s : Pt) : List Value := [.int .i64 s.me, .int .i64 s.patience, .int .i64 s.role, .int .i64 s.epoch, .int .i64 s.now, .int .i64 s.heard, .int .i64 s.inc, .int .i64 s.serves, .int .i64 s.known]
def At (H : Heap) (b : Nat) (s : Pt) : Prop := H[b]? = some (.cells s.cs 0 true)
def pp (b : Nat) : Value := .pointer (some ⟨b, 0, none⟩)

theorem At.lt {H : Heap} {b : Nat} {s : Pt} (h : At H b s) : b < H.length := (List.getElem?_eq_some_iff.1 h).1

/-- From one heap to another one: block b apart, all goes on. -/
structure To (b : Nat) (s : Pt) (H H' : Heap) : Prop where
  at_ : At H' b s
  len : H.length ≤ H'.length
  keep : ∀ k, k < H.length → k ≠ b → H'[k]? = H[k]?
theorem To.refl {b : Nat} {s : Pt} {H : Heap} (h : At H b s) : To b s H H := ⟨h, Nat.le_refl _, fun _ _ _ => rfl⟩
theorem To.trans {b : Nat} {s s' : Pt} {H H' H'' : Heap} (h : To b s H H') (k : To b s' H' H'') : To b s' H H'' :=
  ⟨k.at_, Nat.le_trans h.len k.len, fun j hj hb => (k.keep j (Nat.lt_of_lt_of_le hj h.len) hb).trans (h.keep j hj hb)⟩
theorem To.set {b : Nat} {s : Pt} {H : Heap} (hb : b < H.length) : To b s H (H.set b (.cells s.cs 0 true)) :=
  ⟨by simp [At, hb], by simp, fun k hk hne => by rw [List.getElem?_set_ne (Ne.symm hne)]⟩
theorem To.push {b : Nat} {s : Pt} {H : Heap} (h : At H b s) (l : Heap) : To b s H (H ++ l) :=
  ⟨heap_keep h l, by simp, fun k hk _ => List.getElem?_append_left hk⟩

def Pt.set (s : Pt) : Nat → Int → Pt
  | 0, n => { s with me := n }
  | 1, n => { s with patience := n }
  | 2, n => { s with role := n }
  | 3, n => { s with epoch := n }
  | 4, n => { s with now := n }
  | 5, n => { s with heard := n }
  | 6, n => { s with inc := n }
  | 7, n => { s with serves := n }
  | _, n => { s with known := n }
/-- A store into a part. -/
theorem store {H : Heap} {b : Nat} {s : Pt} (h : At H b s) (off : Nat) (n : Int) (ho : off < 9) :
    ∃ H', To b (s.set off n) H H' ∧ ∀ (k : Value → Heap → Option (Value × Heap)), st 1 H ⟨b, 0 + off, none⟩ (.int .i64 n) k = k undef H' := by
  refine ⟨_, To.set (s := s.set off n) h.lt, fun k => ?_⟩
  have e : (s.set off n).cs = s.cs.set off (.int .i64 n) := by
    match off, ho with
    | 0, _ => rfl
    | 1, _ => rfl
    | 2, _ => rfl
    | 3, _ => rfl
    | 4, _ => rfl
    | 5, _ => rfl
    | 6, _ => rfl
    | 7, _ => rfl
    | 8, _ => rfl
  unfold At at h
  have : off + 1 ≤ s.cs.length := by simp [Pt.cs]; omega
  simp [st, h, Value.cells, putc, this, e]
theorem ldc_pt {H : Heap} {b : Nat} {s : Pt} (h : At H b s) (k : List Value → Option (Value × Heap)) : ldc H b k = k s.cs := ldc_at h k
theorem set_at {H : Heap} {b : Nat} {s : Pt} (h : At H b s) (s' : Pt) : At (H.set b (.cells s'.cs 0 true)) b s' := by simp [At, h.lt]

def tick (s : Pt) (now : Int) : Int := mxi s.now (mni now 1099511627776)

theorem at55 {H : Heap} {b : Nat} {s : Pt} (h : At H b s) (now : Int) : F55 [pp b, .int .i64 now] H = some (.int .i64 (tick s now), H) := by
  refine FN_of 1 ?_ (Nat.le_of_ble_eq_true (by kernel_rfl))
  unfold pp
  rw [t55]
  simp only [onSome_some, ldc_pt h]
  rfl
theorem speaks31 {H : Heap} {b : Nat} {s : Pt} (h : At H b s) : F31 [pp b] H = some (.bool (s.role == 3 || s.role == 4), H) := by
  refine FN_of 1 ?_ (Nat.le_of_ble_eq_true (by kernel_rfl))
  unfold pp
  rw [t31]
  simp only [onSome_some, ldc_pt h]
  show (match (s.role == 3) with | true => _ | false => (match (s.role == 4) with | true => _ | false => _)) = _
  cases s.role == 3 <;> cases s.role == 4 <;> rfl
theorem state30 {H : Heap} {b : Nat} {s : Pt} (h : At H b s) : F30 [pp b] H = some (.tuple #[.int .i64 s.role, .int .i64 s.epoch, .int .i64 s.inc, .int .i64 s.serves], H) := by
  refine FN_of 1 ?_ (Nat.le_of_ble_eq_true (by kernel_rfl))
  unfold pp
  rw [t30]
  simp only [onSome_some, ldc_pt h]
  rfl
theorem boot40 {H : Heap} {b : Nat} {s : Pt} (h : At H b s) (now : Int) (hr : s.role = 0) : ∃ H', F40 [pp b, .int .i64 now] H = some (.int .i64 0, H') ∧ To b { s with now := tick s now, role := 4, epoch := 1 } H H' := by
  obtain ⟨H1, h1, e1⟩ := store h 4 (tick s now) (by decide)
  obtain ⟨H2, h2, e2⟩ := store h1.at_ 2 4 (by decide)
  obtain ⟨H3, h3, e3⟩ := store h2.at_ 3 1 (by decide)
  refine ⟨H3, FN_of 1 ?_ (Nat.le_of_ble_eq_true (by kernel_rfl)), h1.trans (h2.trans h3)⟩
  have e := t40 1 (some ⟨b, 0, none⟩) now H
  simp only [onSome_some, ldc_pt h] at e
  refine e.trans ?_
  show (match (s.role != 0) with | true => _ | false => (onSome (F55 [pp b, .int .i64 now] H) _)) = _
  rw [hr]
  simp only [bne_self_eq_false, at55 h, onSome_some, kInt, if_true, e1, e2, e3]
theorem join26 {H : Heap} {b : Nat} {s : Pt} (h : At H b s) (inc now : Int) (hr : s.role = 0) (hi : 1 ≤ inc ∧ inc ≤ 4294967295) : ∃ H', F26 [pp b, .int .i64 inc, .int .i64 now] H = some (.int .i64 0, H') ∧ To b { s with now := tick s now, role := 1, epoch := 0, inc := inc, heard := tick s now } H H' := by
  obtain ⟨H1, h1, e1⟩ := store h 4 (tick s now) (by decide)
  obtain ⟨H2, h2, e2⟩ := store h1.at_ 2 1 (by decide)
  obtain ⟨H3, h3, e3⟩ := store h2.at_ 3 0 (by decide)
  obtain ⟨H4, h4, e4⟩ := store h3.at_ 6 inc (by decide)
  obtain ⟨H5, h5, e5⟩ := store h4.at_ 5 (tick s now) (by decide)
  refine ⟨H5, FN_of 1 ?_ (Nat.le_of_ble_eq_true (by kernel_rfl)), h1.trans (h2.trans (h3.trans (h4.trans h5)))⟩
  have e := t26 1 (some ⟨b, 0, none⟩) inc now H
  simp only [onSome_some, ldc_pt h] at e
  refine e.trans ?_
  show (match (s.role != 0) with | true => _ | false => (match (decide (inc < 1)) with | true => _ | false => (match (decide ((4294967295 : Int) < inc)) with | true => _ | false => (onSome (F55 [pp b, .int .i64 now] H) _)))) = _
  rw [hr, show decide (inc < 1) = false from decide_eq_false (by omega), show decide ((4294967295 : Int) < inc) = false from decide_eq_false (by omega)]
  simp only [bne_self_eq_false, at55 h, onSome_some, kInt, if_true, e1, ldc_pt h1.at_]
  show (onSome (some (Value.int .i64 (tick s now))) _) = _
  simp only [onSome_some, kInt, if_true, e2, e3, e4, e5]
theorem suspects28 {H : Heap} {b : Nat} {s : Pt} (h : At H b s) (now : Int) : F28 [pp b, .int .i64 now] H = some (.bool ((s.role == 2 || s.role == 3) && decide (s.patience ≤ IntKind.i64.wrap (tick s now - s.heard))), H) := by
  refine FN_of 1 ?_ (Nat.le_of_ble_eq_true (by kernel_rfl))
  have e := t28 1 (some ⟨b, 0, none⟩) now H
  simp only [onSome_some, ldc_pt h] at e
  refine e.trans ?_
  have e55 : F55 [.pointer (some ⟨b, 0, none⟩), .int .i64 now] H = some (.int .i64 (tick s now), H) := at55 h now
  simp only [e55, onSome_some, kInt, if_true, unt]
  show (match (s.role == 2) with | true => _ | false => (match (s.role == 3) with | true => _ | false => _)) = _
  cases s.role == 2 <;> cases s.role == 3 <;> rfl
theorem synced54 {H : Heap} {b : Nat} {s : Pt} (h : At H b s) (now : Int) (hr : s.role = 4) (hs : s.serves ≠ 0) : ∃ H', F54 [pp b, .int .i64 now] H = some (.int .i64 0, H') ∧ To b { s with now := tick s now, role := 3, heard := tick s now } H H' := by
  obtain ⟨H1, h1, e1⟩ := store h 4 (tick s now) (by decide)
  obtain ⟨H2, h2, e2⟩ := store h1.at_ 2 3 (by decide)
  obtain ⟨H3, h3, e3⟩ := store h2.at_ 5 (tick s now) (by decide)
  refine ⟨H3, FN_of 1 ?_ (Nat.le_of_ble_eq_true (by kernel_rfl)), h1.trans (h2.trans h3)⟩
  have e := t54 1 (some ⟨b, 0, none⟩) now H
  simp only [onSome_some, ldc_pt h] at e
  refine e.trans ?_
  have e55 : F55 [.pointer (some ⟨b, 0, none⟩), .int .i64 now] H = some (.int .i64 (tick s now), H) := at55 h now
  show (match (s.role != 4) with | true => _ | false => (match (s.serves == 0) with | true => _ | false => (onSome (F55 [.pointer (some ⟨b, 0, none⟩), .int .i64 now] H) _))) = _
  rw [hr, show (s.serves == 0) = false by simpa using hs]
  simp only [bne_self_eq_false, e55, onSome_some, kInt, if_true, e1, ldc_pt h1.at_]
  show (onSome (some (Value.int .i64 (tick s now))) _) = _
  simp only [onSome_some, kInt, if_true, e2, e3]
end Go.Proofs.Yticchkdbanhjfaa
