/- FRAMEWORK 28: texts as lists of bytes; blocks at a heap's end, by their numbers; whole numbers of bytes. -/
import Derived.Test.YtlpeldimmaajkaaGreatFwR
import Derived.Laws.BitsLemmas
set_option linter.unusedVariables false
set_option linter.unusedSimpArgs false
namespace Go.Proofs.YtlpeldimmaajkaaGreat.Fw
open Go Go.RowKit

/-! ### Texts -/
def bs (l : List UInt8) : ByteArray := ⟨l.toArray⟩
theorem bs_of (s : ByteArray) : ∃ l, s = bs l := ⟨s.data.toList, by cases s; rfl⟩
theorem bs_size (l : List UInt8) : (bs l).size = l.length := by show l.toArray.size = _; simp
theorem bs_list (l : List UInt8) : (bs l).toList = l := by simp [bs, ByteArray.toList_eq]
theorem bs_data (l : List UInt8) : (bs l).data.toList = l := by simp [bs]
theorem bs_app (a b : List UInt8) : bs a ++ bs b = bs (a ++ b) := by
  have : (bs a ++ bs b).data = (bs (a ++ b)).data := by
    rw [show (bs a ++ bs b).data = (bs a).data ++ (bs b).data from ByteArray.data_append ..]
    simp [bs]
  cases h1 : bs a ++ bs b; cases h2 : bs (a ++ b)
  rw [h1, h2] at this
  simp only [] at this
  rw [this]
theorem bs_inj {a b : List UInt8} (h : bs a = bs b) : a = b := by
  have := congrArg (fun s => s.data.toList) h
  simpa [bs] using this
theorem bs_extract (l : List UInt8) (i j : Nat) : (bs l).extract i j = bs ((l.drop i).take (j - i)) := by
  have : ((bs l).extract i j).data.toList = (l.drop i).take (j - i) := by
    rw [ByteArray.data_extract]
    simp [bs, List.extract_eq_take_drop]
  obtain ⟨m, hm⟩ := bs_of ((bs l).extract i j)
  rw [hm] at this ⊢
  rw [bs_data] at this
  rw [this]
section
variable {β : Type}
theorem slStr_bs {l : List UInt8} {x y : Int} {i j : Nat} (hx : x = (i : Int)) (hy : y = (j : Int)) (hij : i ≤ j) (hj : j ≤ l.length) (k : Value → Option β) : slStr (bs l) x y k = k (.string (bs ((l.drop i).take (j - i)))) := by
  subst hx; subst hy
  unfold slStr
  rw [if_pos ⟨by omega, by rw [bs_size]; omega, by omega, by omega⟩, Int.toNat_natCast, Int.toNat_natCast, bs_extract]
theorem slStr_all {l : List UInt8} {x : Int} {i : Nat} (hx : x = (i : Int)) (hi : i ≤ l.length) (k : Value → Option β) : slStr (bs l) x ((bs l).size : Int) k = k (.string (bs (l.drop i))) := by
  rw [slStr_bs (j := l.length) hx (by rw [bs_size]) hi (Nat.le_refl _), List.take_of_length_le (by simp)]
theorem byteAt_bs {l : List UInt8} {i : Nat} {b : UInt8} (h : l[i]? = some b) : byteAt (bs l) i = (b.toNat : Int) := by
  have hlt := (List.getElem?_eq_some_iff.1 h).1
  have hv := (List.getElem?_eq_some_iff.1 h).2
  have e : (bs l)[i]? = some b := by
    rw [getElem?_pos (bs l) i (by rw [bs_size]; exact hlt)]
    have : l.toArray[i]'(by simpa using hlt) = b := by simpa using hv
    exact congrArg some this
  unfold byteAt
  rw [e]; rfl
end
/-- Texts' bytes as cells. -/
def bc (l : List UInt8) : List Value := l.map fun b => .int .u8 b.toNat
theorem bytesOf_bc (l : List UInt8) : bytesOf (bc l) = some l := by
  induction l with
  | nil => rfl
  | cons b l ih =>
    unfold bc at *
    simp only [List.map_cons, bytesOf, ih, Option.map_some]
    simp
theorem bc_len (l : List UInt8) : (bc l).length = l.length := by simp [bc]
theorem bc_get (l : List UInt8) (i : Nat) : (bc l)[i]? = l[i]?.map fun b => Value.int .u8 b.toNat := by simp [bc]

/-! ### Blocks at the end -/
section
variable {β : Type}
theorem ldc_L0 (H l : Heap) (k : List Value → Option β) : ldc (H ++ l) H.length k = ldc l 0 k := by
  unfold ldc; rw [List.getElem?_append_right (Nat.le_refl _), Nat.sub_self]
theorem ldc_L (H l : Heap) (i : Nat) (k : List Value → Option β) : ldc (H ++ l) (H.length + i) k = ldc l i k := by
  unfold ldc; rw [List.getElem?_append_right (Nat.le_add_right _ _), Nat.add_sub_cancel_left]
theorem ldc_C0 (cs : List Value) (e : Nat) (o : Bool) (l : Heap) (k : List Value → Option β) : ldc (.cells cs e o :: l) 0 k = k cs := by simp [ldc]
theorem ldc_CS (x : AObj) (l : Heap) (i : Nat) (k : List Value → Option β) : ldc (x :: l) (i + 1) k = ldc l i k := by simp [ldc]
theorem st_L0 (n : Nat) (H l : Heap) (off : Nat) (v : Value) (k : Value → Heap → Option β) : st n (H ++ l) ⟨H.length, off, none⟩ v k = st n l ⟨0, off, none⟩ v fun u l' => k u (H ++ l') := by
  simp only [st]
  rw [List.getElem?_append_right (Nat.le_refl _), Nat.sub_self]
  simp only [List.set_append_right _ _ (Nat.le_refl _), Nat.sub_self]
theorem st_L (n : Nat) (H l : Heap) (i off : Nat) (v : Value) (k : Value → Heap → Option β) : st n (H ++ l) ⟨H.length + i, off, none⟩ v k = st n l ⟨i, off, none⟩ v fun u l' => k u (H ++ l') := by
  simp only [st]
  rw [List.getElem?_append_right (Nat.le_add_right _ _), Nat.add_sub_cancel_left]
  simp only [List.set_append_right _ _ (Nat.le_add_right _ _), Nat.add_sub_cancel_left]
theorem st_CS (n : Nat) (x : AObj) (l : Heap) (i off : Nat) (v : Value) (k : Value → Heap → Option β) : st n (x :: l) ⟨i + 1, off, none⟩ v k = st n l ⟨i, off, none⟩ v fun u l' => k u (x :: l') := by simp [st]
theorem st_C1 {cs : List Value} {e : Nat} {l : Heap} {off : Nat} {v : Value} (ho : Nat.blt off cs.length = true) (hv : v.oneCell' = true) (k : Value → Heap → Option β) : st 1 (.cells cs e true :: l) ⟨0, off, none⟩ v k = k undef (.cells (cs.set off v) e true :: l) := by
  rw [st_one (a := ⟨0, off, none⟩) (cs := cs) (e := e) rfl (Nat.le_of_ble_eq_true ho) hv]; rfl
theorem st_CN {cs vs : List Value} {e n : Nat} {l : Heap} (h1 : Nat.beq vs.length n = true) (h2 : Nat.beq cs.length n = true) (k : Value → Heap → Option β) : st n (.cells cs e true :: l) ⟨0, 0, none⟩ (.agg vs.toArray) k = k undef (.cells vs e true :: l) := by
  rw [st_whole (b := 0) (cs := cs) (e := e) rfl (Nat.eq_of_beq_eq_true h1) (Nat.eq_of_beq_eq_true h2)]; rfl
theorem ite_len {cs : List Value} {n : Nat} (h : Nat.ble n cs.length = true) (a b : Option β) : (if n ≤ cs.length then a else b) = a := if_pos (Nat.le_of_ble_eq_true h)
theorem ite_size {cs : List Value} {n : Nat} (h : Nat.beq cs.length n = true) (a b : Option β) : (if cs.toArray.size = n then a else b) = a := if_pos (by simpa using Nat.eq_of_beq_eq_true h)
theorem range_all {cs : List Value} {n : Nat} (h : Nat.beq cs.length n = true) : range cs 0 n = cs := by
  unfold range
  rw [List.drop_zero, List.take_of_length_le (by rw [Nat.eq_of_beq_eq_true h]; exact Nat.le_refl _)]
theorem unt_L0 (H l l' : Heap) (k : Option β) : unt (H ++ l) (H ++ l') H.length k = unt l l' 0 k := by
  unfold unt
  rw [List.getElem?_append_right (Nat.le_refl _), List.getElem?_append_right (Nat.le_refl _), Nat.sub_self]
theorem unt_C0 (x : AObj) (l l' : Heap) (k : Option β) : unt (x :: l) (x :: l') 0 k = k := by simp [unt]
theorem unt_same (H : Heap) (b : Nat) (k : Option β) : unt H H b k = k := unt_of rfl k
theorem unt_app (H l : Heap) {b : Nat} (hb : b < H.length) (k : Option β) : unt H (H ++ l) b k = k := unt_of (List.getElem?_append_left hb) k
end

/-! ### Whole numbers of bytes -/
def numL (l : List UInt8) : Nat := l.foldl (fun n b => n * 256 + b.toNat) 0
theorem numL_snoc (l : List UInt8) (b : UInt8) : numL (l ++ [b]) = numL l * 256 + b.toNat := by simp [numL]
theorem numL_take {l : List UInt8} {i : Nat} {b : UInt8} (h : l[i]? = some b) : numL (l.take (i + 1)) = numL (l.take i) * 256 + b.toNat := by
  rw [List.take_add_one, h, ← numL_snoc]; rfl
theorem numL_lt : ∀ (l : List UInt8), numL l < 256 ^ l.length := by
  intro l
  have : ∀ n, numL (l.take n) < 256 ^ (l.take n).length := by
    intro n
    induction n with
    | zero => simp [numL]
    | succ n ih =>
      cases h : l[n]? with
      | none =>
        have : l.length ≤ n := by simpa using h
        rw [List.take_of_length_le (by omega)] at ih ⊢
        exact ih
      | some b =>
        rw [numL_take h]
        have hlt := (List.getElem?_eq_some_iff.1 h).1
        have hb := b.toNat_lt
        rw [List.length_take, Nat.min_eq_left (by omega)] at ih ⊢
        rw [Nat.pow_succ]
        omega
  have := this l.length
  rwa [List.take_length] at this
theorem pow256 {i : Nat} (h : i ≤ 5) : (256 : Nat) ^ i ≤ 1099511627776 := by
  have : (256 : Nat) ^ i ≤ 256 ^ 5 := Nat.pow_le_pow_right (by decide) h
  simpa using this
theorem or_byte {n : Nat} (hn : n ≤ 1099511627776) {b : UInt8} : bits .or .i64 (IntKind.i64.wrap ((n : Int) * 2 ^ (min (8 : Int).toNat IntKind.i64.bits))) (IntKind.i64.wrap (b.toNat : Int)) = ((n * 256 + b.toNat : Nat) : Int) := by
  have hb := b.toNat_lt
  have e : (2 : Int) ^ (min (8 : Int).toNat IntKind.i64.bits) = 256 := rfl
  rw [e, wrap_in ⟨by omega, by omega⟩, wrap_in ⟨by omega, by omega⟩]
  rw [bits_join .i64 62 (by decide) (fun n h0 h1 => wrap_in ⟨by omega, by have : (2 : Int) ^ 62 = 4611686018427387904 := (by decide); omega⟩) 8 _ _ (by omega) (by have : (2 : Int) ^ 8 = 256 := (by decide); omega) (by have : (2 : Int) ^ 62 = 4611686018427387904 := (by decide); omega) (by omega) (by have : (2 : Int) ^ 8 = 256 := (by decide); omega) (by have : (2 : Int) ^ 62 = 4611686018427387904 := (by decide); omega)]
  rw [Int.natCast_add, Int.natCast_mul]; rfl
theorem mul_byte {n : Nat} (hn : n ≤ 1099511627776) {b : UInt8} : IntKind.i64.wrap (IntKind.i64.wrap ((n : Int) * 256) + IntKind.i64.wrap (b.toNat : Int)) = ((n * 256 + b.toNat : Nat) : Int) := by
  have hb := b.toNat_lt
  rw [wrap_in (n := (n : Int) * 256) ⟨by omega, by omega⟩, wrap_in (n := (b.toNat : Int)) ⟨by omega, by omega⟩, wrap_in ⟨by omega, by omega⟩]
  rw [Int.natCast_add, Int.natCast_mul]; rfl
end Go.Proofs.YtlpeldimmaajkaaGreat.Fw
