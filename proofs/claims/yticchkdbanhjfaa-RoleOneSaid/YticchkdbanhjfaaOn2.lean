/- RoleOne: what 'does' brings about. -/
import Derived.Test.YticchkdbanhjfaaOn1
set_option linter.unusedVariables false
set_option linter.unusedSimpArgs false
namespace Go.Proofs.Yticchkdbanhjfaa
open Go Go.RowKit Go.Proofs.Yticchkdbanhjfaa.Fw

theorem ldc_add (H : Heap) (a : Addr) (m : Nat) (k : List Value → R) : ldc H (a.add m).block k = ldc H a.block k := by rw [add_block]
section
variable {n : Nat → Prop} {H0 : Heap} {q : Nat} {b : Nat → Nat} {z : Sy} {H : Heap} {k : Nat} (hk : k < 2)
include hk
theorem kin : 0 ≤ (k : Int) ∧ (k : Int) < ((2 : Nat) : Int) := by omega
theorem kother : IntKind.i64.wrap ((1 : Int) - (k : Int)) = ((1 - k : Nat) : Int) := by rw [wrap_in ⟨by omega, by omega⟩]; omega
theorem qP (K : Value → R) : onSome (qc b z)[((⟨q, 0, none⟩ : Addr).add ((k : Int).toNat * 1)).off]? K = K (.pointer (some ⟨b k, 0, none⟩)) := by
  rw [add_off, Int.toNat_natCast]
  match k, hk with
  | 0, _ => rfl
  | 1, _ => rfl
theorem qW (K : Value → R) : onSome (qc b z)[((⟨q, 0 + 2, none⟩ : Addr).add ((k : Int).toNat * 1)).off]? K = K (.slice (z.w k).a (z.w k).l (z.w k).c) := by
  rw [add_off, Int.toNat_natCast]
  match k, hk with
  | 0, _ => rfl
  | 1, _ => rfl
theorem qI (K : Value → R) : onSome (qc b z)[((⟨q, 0 + 4, none⟩ : Addr).add ((k : Int).toNat * 1)).off]? K = K (.int .i64 (z.inc k)) := by
  rw [add_off, Int.toNat_natCast]
  match k, hk with
  | 0, _ => rfl
  | 1, _ => rfl
end
section
variable {n : Nat → Prop} {H0 : Heap} {q : Nat} {b : Nat → Nat} {z : Sy} {H : Heap} {k : Nat}
theorem qN (K : Value → R) : onSome (qc b z)[0 + 6]? K = K (.int .i64 z.now) := rfl
theorem qSet {w : Sl} {ls : List Lt} (hk : k < 2) : (qc b z).set ((⟨q, 0 + 2, none⟩ : Addr).add ((k : Int).toNat * 1)).off w.v = qc b { z with w := up z.w k w, ls := up z.ls k ls } := by
  rw [add_off, Int.toNat_natCast]
  match k, hk with
  | 0, _ => rfl
  | 1, _ => rfl
theorem qSetI {i : Int} (hk : k < 2) : (qc b z).set ((⟨q, 0 + 4, none⟩ : Addr).add ((k : Int).toNat * 1)).off (.int .i64 i) = qc b { z with inc := up z.inc k i } := by
  rw [add_off, Int.toNat_natCast]
  match k, hk with
  | 0, _ => rfl
  | 1, _ => rfl
theorem qSetN {i : Int} : (qc b z).set (0 + 6) (.int .i64 i) = qc b { z with now := i } := rfl
theorem qlen : (qc b z).length = 7 := rfl
theorem Q.stW (h : Q n H0 q b z H) (hk : k < 2) {H1 : Heap} (hc : H1[q]? = some (.cells (qc b z) 0 true)) {a : Option Addr} {l c : Nat} (ls : List Lt) (K : Value → Heap → R) :
    st 1 H1 ((⟨q, 0 + 2, none⟩ : Addr).add ((k : Int).toNat * 1)) (.slice a l c) K = K undef (H1.set q (.cells (qc b { z with w := up z.w k ⟨a, l, c⟩, ls := up z.ls k ls }) 0 true)) := by
  rw [st_one (cs := qc b z) (e := 0) (by rw [add_block]; exact hc) (by rw [add_off, qlen, Int.toNat_natCast]; show 0 + 2 + k * 1 < 7; omega) rfl, add_block]
  rw [show Value.slice a l c = (Sl.mk a l c).v from rfl, qSet hk]
theorem Q.stI (h : Q n H0 q b z H) (hk : k < 2) (i : Int) (K : Value → Heap → R) :
    st 1 H ((⟨q, 0 + 4, none⟩ : Addr).add ((k : Int).toNat * 1)) (.int .i64 i) K = K undef (H.set q (.cells (qc b { z with inc := up z.inc k i }) 0 true)) := by
  rw [st_one (cs := qc b z) (e := 0) (by rw [add_block]; exact h.cell) (by rw [add_off, qlen, Int.toNat_natCast]; show 0 + 4 + k * 1 < 7; omega) rfl, add_block, qSetI hk]
theorem Q.stN (h : Q n H0 q b z H) (i : Int) (K : Value → Heap → R) :
    st 1 H ⟨q, 0 + 6, none⟩ (.int .i64 i) K = K undef (H.set q (.cells (qc b { z with now := i }) 0 true)) := by
  rw [st_one (cs := qc b z) (e := 0) h.cell (by rw [qlen]; show 0 + 6 < 7; decide) rfl, qSetN]

theorem z6 : ([.int .i64 0, .int .i64 0, .int .i64 0, .int .i64 0, .int .i64 0, .string (⟨#[]⟩ : ByteArray)] : List Value).length = 6 := rfl

/-- A beat. -/
theorem beat72 (h : Q n H0 q b z H) (hk : k < 2) : ∃ (x : Lt) (g : Heap), F72 [.pointer (pn q), .int .i64 (k : Int)] H = some (.agg x.cs.toArray, H ++ g) := by
  have f : ∀ m r, fnE Try.prog G72 Try.f72 cuts72 m [.pointer (pn q), .int .i64 (k : Int)] H = some r → F72 [.pointer (pn q), .int .i64 (k : Int)] H = some r := fun m r h => FN_of m h (Nat.le_of_ble_eq_true (by kernel_rfl))
  let y : Lt := ⟨2, (z.s k).epoch, (z.s k).role, (z.s k).serves, 0, ⟨#[]⟩⟩
  let y2 : Lt := ⟨2, (z.s k).epoch, (z.s k).role, (z.s k).inc, 0, ⟨#[]⟩⟩
  -- the end
  have l1 : (H ++ [AObj.cells [.int .i64 0, .int .i64 0, .int .i64 0, .int .i64 0, .int .i64 0, .string (⟨#[]⟩ : ByteArray)] 0 true]).length = H.length + 1 := by simp
  have r5 : ∀ (m : Nat) (x : Lt), R72 (m + 1) td72_5 [.pointer (pn H.length), .pointer (pn (H.length + 1))] (H ++ [.cells [.int .i64 0, .int .i64 0, .int .i64 0, .int .i64 0, .int .i64 0, .string (⟨#[]⟩ : ByteArray)] 0 true] ++ [bx x]) = some (.agg x.cs.toArray, H ++ [bx x, bx x]) := fun m x => by
    have a1 : (H ++ [AObj.cells [.int .i64 0, .int .i64 0, .int .i64 0, .int .i64 0, .int .i64 0, .string (⟨#[]⟩ : ByteArray)] 0 true] ++ [bx x])[H.length + 1]? = some (bx x) := by simp
    have a0 : (H ++ [AObj.cells [.int .i64 0, .int .i64 0, .int .i64 0, .int .i64 0, .int .i64 0, .string (⟨#[]⟩ : ByteArray)] 0 true] ++ [bx x])[H.length]? = some (.cells [.int .i64 0, .int .i64 0, .int .i64 0, .int .i64 0, .int .i64 0, .string (⟨#[]⟩ : ByteArray)] 0 true) := by simp
    have e : (H ++ [AObj.cells [.int .i64 0, .int .i64 0, .int .i64 0, .int .i64 0, .int .i64 0, .string (⟨#[]⟩ : ByteArray)] 0 true] ++ [bx x]).set H.length (bx x) = H ++ [bx x, bx x] := by simp
    have e0 : (H ++ [bx x, bx x])[H.length]? = some (bx x) := by simp
    rw [c72_5]
    unfold pn
    simp only [↓onSome_some, ↓Fw.kInt_int, ↓Fw.kBool_bool, ↓Fw.kStr_str, ↓Fw.kTup_tup, ↓Fw.kPtr_ptr, ↓Fw.kSl_sl, ↓Fw.kAgg_agg, ↓ldc_bx a1, ↓if_pos (len_x x), range_x]
    rw [st_whole (n := 6) (vs := x.cs) a0 rfl rfl]
    have e' : (H ++ [AObj.cells [.int .i64 0, .int .i64 0, .int .i64 0, .int .i64 0, .int .i64 0, .string (⟨#[]⟩ : ByteArray)] 0 true] ++ [bx x]).set H.length (.cells x.cs 0 true) = H ++ [bx x, bx x] := e
    rw [e']
    simp only [↓onSome_some, ↓Fw.kInt_int, ↓Fw.kBool_bool, ↓Fw.kStr_str, ↓Fw.kTup_tup, ↓Fw.kPtr_ptr, ↓Fw.kSl_sl, ↓Fw.kAgg_agg, ↓ldc_bx e0, ↓if_pos (len_x x), range_x]
  have r4 : ∀ (m : Nat), R72 (m + 2) td72_4 [.pointer (pn H.length), .int .i64 (z.s k).inc, .pointer (pn (H.length + 1))] (H ++ [.cells [.int .i64 0, .int .i64 0, .int .i64 0, .int .i64 0, .int .i64 0, .string (⟨#[]⟩ : ByteArray)] 0 true] ++ [bx y]) = some (.agg y2.cs.toArray, H ++ [bx y2, bx y2]) := fun m => by
    have a1 : (H ++ [AObj.cells [.int .i64 0, .int .i64 0, .int .i64 0, .int .i64 0, .int .i64 0, .string (⟨#[]⟩ : ByteArray)] 0 true] ++ [bx y])[H.length + 1]? = some (.cells y.cs 0 true) := by simp; rfl
    have e : (H ++ [AObj.cells [.int .i64 0, .int .i64 0, .int .i64 0, .int .i64 0, .int .i64 0, .string (⟨#[]⟩ : ByteArray)] 0 true] ++ [bx y]).set (H.length + 1) (.cells y2.cs 0 true) = H ++ [.cells [.int .i64 0, .int .i64 0, .int .i64 0, .int .i64 0, .int .i64 0, .string (⟨#[]⟩ : ByteArray)] 0 true] ++ [bx y2] := by simp; rfl
    rw [c72_4]
    unfold pn
    simp only [↓onSome_some, ↓Fw.kInt_int, ↓Fw.kBool_bool, ↓Fw.kStr_str, ↓Fw.kTup_tup, ↓Fw.kPtr_ptr, ↓Fw.kSl_sl, ↓Fw.kAgg_agg]
    rw [st_one (cs := y.cs) a1 (by simp [Lt.cs]) rfl]
    show R72 (m + 1) td72_5 _ ((H ++ [AObj.cells [.int .i64 0, .int .i64 0, .int .i64 0, .int .i64 0, .int .i64 0, .string (⟨#[]⟩ : ByteArray)] 0 true] ++ [bx y]).set (H.length + 1) (.cells y2.cs 0 true)) = _
    rw [e]
    exact r5 m y2
  have hp : Q n H0 q b z (H ++ [.cells [.int .i64 0, .int .i64 0, .int .i64 0, .int .i64 0, .int .i64 0, .string (⟨#[]⟩ : ByteArray)] 0 true]) := h.push _
  have e30 : F30 [.pointer (pn (b k))] (H ++ [.cells [.int .i64 0, .int .i64 0, .int .i64 0, .int .i64 0, .int .i64 0, .string (⟨#[]⟩ : ByteArray)] 0 true]) = _ := state30 (hp.part k hk)
  have e6 : ∀ (K : Value → Heap → R), st 6 (H ++ [.cells [.int .i64 0, .int .i64 0, .int .i64 0, .int .i64 0, .int .i64 0, .string (⟨#[]⟩ : ByteArray)] 0 true] ++ [.cells [.int .i64 0, .int .i64 0, .int .i64 0, .int .i64 0, .int .i64 0, .string (⟨#[]⟩ : ByteArray)] 0 true]) ⟨(H ++ [AObj.cells [.int .i64 0, .int .i64 0, .int .i64 0, .int .i64 0, .int .i64 0, .string (⟨#[]⟩ : ByteArray)] 0 true]).length, 0, none⟩ (.agg y.cs.toArray) K = K undef (H ++ [.cells [.int .i64 0, .int .i64 0, .int .i64 0, .int .i64 0, .int .i64 0, .string (⟨#[]⟩ : ByteArray)] 0 true] ++ [bx y]) := fun K => st_new6 _ z6 y K
  have e6' : ∀ (K : Value → Heap → R), st 6 (H ++ [.cells [.int .i64 0, .int .i64 0, .int .i64 0, .int .i64 0, .int .i64 0, .string (⟨#[]⟩ : ByteArray)] 0 true] ++ [.cells [.int .i64 0, .int .i64 0, .int .i64 0, .int .i64 0, .int .i64 0, .string (⟨#[]⟩ : ByteArray)] 0 true]) ⟨(H ++ [AObj.cells [.int .i64 0, .int .i64 0, .int .i64 0, .int .i64 0, .int .i64 0, .string (⟨#[]⟩ : ByteArray)] 0 true]).length, 0, none⟩ (.agg #[.int .i64 2, .int .i64 (z.s k).epoch, .int .i64 (z.s k).role, .int .i64 (z.s k).serves, .int .i64 0, .string ⟨#[]⟩]) K = K undef (H ++ [.cells [.int .i64 0, .int .i64 0, .int .i64 0, .int .i64 0, .int .i64 0, .string (⟨#[]⟩ : ByteArray)] 0 true] ++ [bx y]) := e6
  have hq := hp.cell
  simp only [l1] at e6'
  have main : ∀ m, fnE Try.prog G72 Try.f72 cuts72 (m + 2) [.pointer (pn q), .int .i64 (k : Int)] H = (match ((z.s k).role == 1) with
    | true => (R72 (m + 2) td72_4 [.pointer (pn H.length), .int .i64 (z.s k).inc, .pointer (pn (H.length + 1))] (H ++ [.cells [.int .i64 0, .int .i64 0, .int .i64 0, .int .i64 0, .int .i64 0, .string (⟨#[]⟩ : ByteArray)] 0 true] ++ [bx y]))
    | false => ((match ((z.s k).role == 2) with
      | true => (R72 (m + 2) td72_4 [.pointer (pn H.length), .int .i64 (z.s k).inc, .pointer (pn (H.length + 1))] (H ++ [.cells [.int .i64 0, .int .i64 0, .int .i64 0, .int .i64 0, .int .i64 0, .string (⟨#[]⟩ : ByteArray)] 0 true] ++ [bx y]))
      | false => (R72 (m + 2) td72_5 [.pointer (pn H.length), .pointer (pn (H.length + 1))] (H ++ [.cells [.int .i64 0, .int .i64 0, .int .i64 0, .int .i64 0, .int .i64 0, .string (⟨#[]⟩ : ByteArray)] 0 true] ++ [bx y]))))) := fun m => by
    have e := t72 (m + 2) (pn q) (k : Int) H
    unfold pn at *
    simp only [↓onSome_some, ↓Fw.kInt_int, ↓Fw.kBool_bool, ↓Fw.kStr_str, ↓Fw.kTup_tup, ↓Fw.kPtr_ptr, ↓Fw.kSl_sl, ↓Fw.kAgg_agg, ↓if_pos (kin hk), ↓ldc_add, ↓ldc_at hq, ↓qP hk, ↓on_of e30, List.getElem?_toArray, List.getElem?_cons_zero, List.getElem?_cons_succ, e6', l1] at e
    exact e
  rcases Bool.eq_false_or_eq_true ((z.s k).role == 1) with h1 | h1
  · exact ⟨y2, [bx y2, bx y2], f 2 _ ((main 0).trans (by simp only [h1]; exact r4 0))⟩
  rcases Bool.eq_false_or_eq_true ((z.s k).role == 2) with h2 | h2
  · exact ⟨y2, [bx y2, bx y2], f 2 _ ((main 0).trans (by simp only [h1, h2]; exact r4 0))⟩
  · exact ⟨y, [bx y, bx y], f 2 _ ((main 0).trans (by simp only [h1, h2]; exact r5 1 y))⟩
end
end Go.Proofs.Yticchkdbanhjfaa
