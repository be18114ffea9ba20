/- JudgeSome: what it answers. -/
import Derived.Test.YticchkdbanhjfaaJs1
set_option linter.unusedVariables false
set_option linter.unusedSimpArgs false
namespace Go.Proofs.Yticchkdbanhjfaa
open Go Go.RowKit Go.Proofs.Yticchkdbanhjfaa.Fw

/-! ### The plain law -/
theorem index_sub {x : ByteArray} {L : List ByteArray} : ∀ {all : List ByteArray}, (x :: L).Sublist all → ∃ n, index x all = some n ∧ L.Sublist (all.drop (n + 1))
  | [], h => by cases h
  | y :: ys, h => by
    simp only [index]
    cases hq : (x.toList == y.toList) with
    | true =>
      refine ⟨0, by simp, ?_⟩
      simp only [Nat.zero_add, List.drop_succ_cons, List.drop_zero]
      cases h with
      | cons _ h => exact (List.sublist_cons_self x L).trans h
      | cons_cons _ h => exact h
    | false =>
      cases h with
      | cons _ h =>
        obtain ⟨n, h1, h2⟩ := index_sub h
        refine ⟨n + 1, by simp [h1], ?_⟩
        simpa using h2
      | cons_cons _ h => simp at hq
theorem among_sub : ∀ {L all : List ByteArray}, L.Sublist all → among L all = (L.length, true)
  | [], _, _ => rfl
  | x :: L, all, h => by
    obtain ⟨n, h1, h2⟩ := index_sub h
    simp only [among, h1, among_sub h2, List.length_cons]
theorem index_none_drop {x : ByteArray} : ∀ {all : List ByteArray} (n : Nat), index x all = none → index x (all.drop n) = none
  | all, 0, h => by simpa using h
  | [], n + 1, h => by simpa using h
  | y :: ys, n + 1, h => by
    simp only [index] at h
    split at h
    · cases h
    · simp only [List.drop_succ_cons]
      exact index_none_drop n (by cases hi : index x ys with
        | none => rfl
        | some k => rw [hi] at h; cases h)
theorem among_strange {x : ByteArray} : ∀ {L all : List ByteArray}, L.Sublist all → index x all = none → among (L ++ [x]) all = (L.length, false)
  | [], all, _, hx => by simp only [List.nil_append, among, hx, List.length_nil]
  | y :: L, all, h, hx => by
    obtain ⟨n, h1, h2⟩ := index_sub h
    simp only [List.cons_append, among, h1, among_strange h2 (index_none_drop _ hx), List.length_cons]
theorem index_none {x : ByteArray} : ∀ {all : List ByteArray}, (∀ s ∈ all, s.size < x.size) → index x all = none
  | [], _ => rfl
  | y :: ys, h => by
    have h1 := h y (by simp)
    have : (x.toList == y.toList) = false := by
      cases hq : (x.toList == y.toList) with
      | false => rfl
      | true =>
        have e := congrArg List.length (eq_of_beq hq)
        simp only [ByteArray.toList_eq, Array.length_toList] at e
        have e1 : x.size = x.data.size := rfl
        have e2 : y.size = y.data.size := rfl
        omega
    have ih := index_none (x := x) (all := ys) (fun s hs => h s (by simp [hs]))
    simp only [index, this, Bool.false_eq_true, if_false, ih, Option.map_none]

/-- What is left over. -/
def left : List ByteArray → List Bool → List ByteArray
  | [], _ => []
  | x :: xs, [] => x :: left xs []
  | x :: xs, b :: bs => if b then left xs bs else x :: left xs bs
theorem left_sub : ∀ (xs : List ByteArray) (bs : List Bool), (left xs bs).Sublist xs
  | [], _ => .slnil
  | x :: xs, [] => (left_sub xs []).cons_cons x
  | x :: xs, b :: bs => by
    simp only [left]
    split
    · exact (left_sub xs bs).cons x
    · exact (left_sub xs bs).cons_cons x

/-! ### Rows -/
/-- A row of texts that grows. -/
structure Acc (n0 : Nat) (H : Heap) (a : Option Addr) (l c : Nat) (acc : List ByteArray) : Prop where
  le : n0 ≤ H.length
  st : (a = none ∧ l = 0 ∧ c = 0 ∧ acc = []) ∨ (∃ id, n0 ≤ id ∧ a = some ⟨id, 0, none⟩ ∧ c = unk ∧ l = acc.length ∧ H[id]? = some (.cells (acc.map .string) 1 true))

theorem Acc.strs {n0 : Nat} {H : Heap} {a : Option Addr} {l c : Nat} {acc : List ByteArray} (h : Acc n0 H a l c acc) : Strs H a l acc := by
  rcases h.st with ⟨rfl, rfl, rfl, rfl⟩ | ⟨id, h1, rfl, rfl, rfl, h2⟩
  · exact ⟨rfl, fun h => absurd rfl h⟩
  · exact ⟨rfl, fun _ => ⟨_, _, _, rfl, h2, by simp, fun i s hs => by simp [hs]⟩⟩

theorem Acc.push {P : Program} {e : TypeId} (hc : P.cellsOf e = 1) (hb : P.bytesOf e = 16) {n0 : Nat} {H : Heap} {a : Option Addr} {l c : Nat} {acc : List ByteArray} (h : Acc n0 H a l c acc) (hl : (acc.length + 1) * 16 ≤ 140737488355328) (s : ByteArray) :
    ∃ a' l' c' H', (∀ (k : Value → Heap → R), firstC (H ++ [.cells [.string s] 1 true]) 1 (.slice (some ⟨H.length, 0, none⟩) 1 1) (fun n nw => app P e (H ++ [.cells [.string s] 1 true]) (.slice a l c) n nw k) = k (.slice a' l' c') H') ∧
      Acc n0 H' a' l' c' (acc ++ [s]) ∧ ∀ b, b < n0 → H'[b]? = H[b]? := by
  have hle := h.le
  rcases h.st with ⟨rfl, rfl, rfl, rfl⟩ | ⟨id, h1, rfl, rfl, rfl, h2⟩
  · refine ⟨some ⟨(H ++ [AObj.cells [.string s] 1 true]).length, 0, none⟩, 1, unk, (H ++ [AObj.cells [.string s] 1 true]) ++ [.cells [.string s] 1 true], fun k => ?_, ⟨by simp; omega, .inr ⟨_, by simp; omega, rfl, rfl, rfl, by simp⟩⟩, fun b hb => ?_⟩
    · simp [firstC, ldc_new, app, kSl, hc, hb, range]
    · rw [List.append_assoc, List.getElem?_append_left (by omega)]
  · have hlt : id < H.length := (List.getElem?_eq_some_iff.1 h2).1
    have h3 : (H ++ [AObj.cells [.string s] 1 true])[id]? = some (.cells (acc.map .string) 1 true) := by rw [List.getElem?_append_left hlt]; exact h2
    refine ⟨some ⟨(H ++ [AObj.cells [.string s] 1 true]).length, 0, none⟩, acc.length + 1, unk, (H ++ [AObj.cells [.string s] 1 true]).set id .dead ++ [.cells (acc.map .string ++ [.string s]) 1 true], fun k => ?_, ⟨by simp; omega, .inr ⟨_, by simp; omega, rfl, rfl, by simp, ?_⟩⟩, fun b hb => ?_⟩
    · have hl2 : acc.length + 1 ≤ 140737488355328 := by omega
      have htk : List.take acc.length (acc.map Value.string) = acc.map Value.string := List.take_of_length_le (by simp)
      simp [firstC, ldc_new, app, kSl, hc, hb, range, h3, hl, hl2, htk]
    · rw [List.getElem?_append_right (by simp)]
      simp
    · rw [List.getElem?_append_left (by simp; omega), List.getElem?_set_ne (by omega), List.getElem?_append_left (by omega)]

theorem cells9 : Try.prog.cellsOf 9 = 1 := by kernel_rfl
theorem bytes9 : Try.prog.bytesOf 9 = 16 := by kernel_rfl

/-! ### works -/
theorem works10 (H : Heap) : ∃ l, F10 [] H = some (.bool true, H ++ l) := by
  have st : ∀ (H : Heap) (xs : List ByteArray), Strs (H ++ [.cells (xs.map .string) 1 true]) (some ⟨H.length, 0, none⟩) xs.length xs := fun H xs =>
    ⟨rfl, fun _ => ⟨_, xs.map Value.string, true, rfl, by simp, by simp, fun i s hs => by simp [hs]⟩⟩
  let A : ByteArray := ⟨#[97]⟩
  let B : ByteArray := ⟨#[98]⟩
  let C : ByteArray := ⟨#[99]⟩
  let H0 := H ++ [AObj.cells ([A, C].map .string) 1 true]
  let H1 := H0 ++ [AObj.cells ([A, B, C].map .string) 1 true]
  let H9 := H1 ++ [AObj.cells ([C, A].map .string) 1 true]
  let H10 := H9 ++ [AObj.cells ([A, B, C].map .string) 1 true]
  have m1 : among [A, C] [A, B, C] = (2, true) := by simp [among, index, ByteArray.toList_eq, A, B, C]
  have m2 : among [C, A] [A, B, C] = (1, false) := by simp [among, index, ByteArray.toList_eq, A, B, C]
  have e1 : F11 [.slice (some ⟨H.length, 0, none⟩) 2 2, .slice (some ⟨H0.length, 0, none⟩) 3 3] H1 = some (.tuple #[.int .i64 (2 : Nat), .bool true], H1) := by
    have := among11 (c := 2) (c3 := 3) (xs := [A, C]) (ys := [A, B, C]) ((st H [A, C]).push _) (by decide) (st H0 [A, B, C]) (by decide)
    rw [m1] at this
    exact this
  have e2 : F11 [.slice (some ⟨H1.length, 0, none⟩) 2 2, .slice (some ⟨H9.length, 0, none⟩) 3 3] H10 = some (.tuple #[.int .i64 (1 : Nat), .bool false], H10) := by
    have := among11 (c := 2) (c3 := 3) (xs := [C, A]) (ys := [A, B, C]) ((st H1 [C, A]).push _) (by decide) (st H9 [A, B, C]) (by decide)
    rw [m2] at this
    exact this
  refine ⟨[AObj.cells ([A, C].map .string) 1 true, AObj.cells ([A, B, C].map .string) 1 true, AObj.cells ([C, A].map .string) 1 true, AObj.cells ([A, B, C].map .string) 1 true], ?_⟩
  refine FN_of 1 ?_ (Nat.le_of_ble_eq_true (by kernel_rfl))
  rw [t10]
  show (onSome (F11 [.slice (some ⟨H.length, 0, none⟩) 2 2, .slice (some ⟨H0.length, 0, none⟩) 3 3] H1) _) = _
  rw [e1]
  simp only [onSome_some, kTup, List.getElem?_toArray, List.getElem?_cons_zero, List.getElem?_cons_succ, kInt, kBool, if_true]
  show (onSome (F11 [.slice (some ⟨H1.length, 0, none⟩) 2 2, .slice (some ⟨H9.length, 0, none⟩) 3 3] H10) _) = _
  rw [e2]
  simp only [onSome_some, kTup, List.getElem?_toArray, List.getElem?_cons_zero, List.getElem?_cons_succ, kInt, kBool, if_true]
  simp [H0, H1, H9, H10]

/-! ### The loop -/
structure Inv (n0 : Nat) (H0 H : Heap) : Prop where
  same : ∀ b, b < n0 → H[b]? = H0[b]?

theorem mxi_le (x y : Int) : x ≤ mxi x y ∧ y ≤ mxi x y := by unfold mxi; split <;> omega
theorem mxi_le2 {x y z : Int} (h : x ≤ z) (k : y ≤ z) : mxi x y ≤ z := by unfold mxi; split <;> omega

/-- How long the longest is. -/
def longest (x : Int) : List ByteArray → Int
  | [] => x
  | s :: l => longest (mxi x (s.size : Int)) l
theorem longest_ge : ∀ (l : List ByteArray) (x : Int), x ≤ longest x l ∧ ∀ s ∈ l, (s.size : Int) ≤ longest x l
  | [], x => ⟨Int.le_refl _, fun s h => by cases h⟩
  | a :: l, x => by
    obtain ⟨h1, h2⟩ := longest_ge l (mxi x (a.size : Int))
    have := mxi_le x (a.size : Int)
    refine ⟨by simp only [longest]; omega, fun s hs => ?_⟩
    simp only [longest]
    rcases List.mem_cons.1 hs with rfl | hs
    · omega
    · exact h2 s hs

theorem zeros (n : Nat) : zeroCellsOf (.int .u8 (0 : Int)) n = List.replicate n (.int .u8 0) := by
  unfold zeroCellsOf
  induction n with
  | zero => rfl
  | succ n ih => rw [List.replicate_succ, List.flatten_cons, ih]; rfl
theorem zbytes : ∀ (n : Nat), bytesOf (List.replicate n (.int .u8 0)) = some (List.replicate n 0)
  | 0 => rfl
  | n + 1 => by rw [List.replicate_succ, bytesOf, zbytes n]; rfl

theorem loop3 {n0 : Nat} {H0 : Heap} {a0 : Option Addr} {l c0 : Nat} {all : List ByteArray} (hS : Strs H0 a0 l all) (hl : (l + 1) * 16 ≤ 140737488355328) {a1 : Option Addr} {l1 c1 : Nat} {bs : List Bool} (hB : Bls H0 a1 l1 bs) (hl1 : l1 < 9223372036854775807)
    (hS0 : ∀ x, a0 = some x → x.block < n0) (hB0 : ∀ x, a1 = some x → x.block < n0) :
    ∀ (d i : Nat), i + d = l → ∀ (H : Heap) (a : Option Addr) (la c : Nat) (acc : List ByteArray) (mx : Int), Acc n0 H a la c acc → Inv n0 H0 H → acc.length ≤ i → (acc ++ left (all.drop i) (bs.drop i)).Sublist all →
      longest mx (all.drop i) = longest 0 all → 0 ≤ mx →
      ∃ m H', R3 m td3_100006 [.slice a0 l c0, .slice a1 l1 c1, .slice a la c, .int .i64 mx, .slice a0 l c0, .int .i64 (l : Int), .int .i64 (i : Int)] H = some (.bool true, H') := by
  intro d
  induction d with
  | zero =>
    intro i hi H a la c acc mx hA hI hai hsub hmx h0
    have hnil : all.drop i = [] := by rw [List.drop_eq_nil_iff]; have := hS.len; omega
    have hacc : acc.Sublist all := by rw [hnil] at hsub; simpa [left] using hsub
    have hSH : Strs H a0 l all := hS.keep fun x hx cs own hh => (hI.same _ (hS0 x hx)).trans hh
    have hlen := hA.strs.len
    have hle : la ≤ l := by have := hacc.length_le; have := hS.len; omega
    have e1 := among11 (c := c) (c3 := c0) hA.strs (by omega) hSH (by omega)
    rw [among_sub hacc] at e1
    simp only [] at e1
    rw [hnil] at hmx
    simp only [longest] at hmx
    have hall := (longest_ge all 0).2
    rw [← hmx] at hall
    have hc : decide ((i : Int) < (l : Int)) = false := decide_eq_false (by omega)
    rw [hlen] at e1
    by_cases h100 : (100 : Int) < mx
    · refine ⟨1, H, ?_⟩
      rw [c3_100006, hc]
      simp only [onSome_some, e1, kTup, List.getElem?_toArray, List.getElem?_cons_zero, List.getElem?_cons_succ, kInt, kBool, if_true, Bool.not_true, bne_self_eq_false, decide_eq_true h100, beq_self_eq_true]
    · obtain ⟨n, rfl⟩ : ∃ n : Nat, mx = n := ⟨mx.toNat, by omega⟩
      let str : ByteArray := ⟨(List.replicate (n + 1) (0 : UInt8)).toArray⟩
      have hsz : str.size = n + 1 := by show str.data.size = n + 1; simp [str]
      let H46 := H ++ [AObj.cells (List.replicate (n + 1) (.int .u8 0)) 1 true]
      have hA46 : Acc n0 H46 a la c acc := by
        refine ⟨by have := hA.le; simp [H46]; omega, ?_⟩
        rcases hA.st with h | ⟨id, h1, h2, h3, h4, h5⟩
        · exact .inl h
        · exact .inr ⟨id, h1, h2, h3, h4, heap_keep h5 _⟩
      have hI46 : ∀ b, b < n0 → H46[b]? = H0[b]? := fun b hb => by
        rw [← hI.same b hb]; exact List.getElem?_append_left (by have := hA.le; omega)
      obtain ⟨a', l', c', H', hk, hA', hsame⟩ := hA46.push (P := Try.prog) (e := 9) cells9 bytes9 (by omega) str
      have hS' : Strs H' a0 l all := hS.keep fun x hx cs own hh => (hsame _ (hS0 x hx)).trans ((hI46 _ (hS0 x hx)).trans hh)
      have hlen' := hA'.strs.len
      have e2 := among11 (c := c') (c3 := c0) hA'.strs (by simp at hlen'; omega) hS' (by omega)
      rw [among_strange hacc (index_none fun s hs => by have := hall s hs; omega), hlen] at e2
      simp only [] at e2
      refine ⟨1, H', ?_⟩
      have hw : IntKind.i64.wrap ((n : Int) + 1) = ((n + 1 : Nat) : Int) := wrap_succ (by omega)
      have hn100 : decide ((100 : Int) < (n : Int)) = false := decide_eq_false h100
      rw [c3_100006, hc]
      simp only [onSome_some, e1, kTup, List.getElem?_toArray, List.getElem?_cons_zero, List.getElem?_cons_succ, kInt, kBool, if_true, Bool.not_true, bne_self_eq_false, hn100, hw, Int.toNat_natCast, zeros, ldc_new, Nat.zero_add, List.length_replicate, Nat.le_refl]
      rw [if_pos (by omega)]
      have hr : range (List.replicate (n + 1) (Value.int .u8 0)) 0 (n + 1) = List.replicate (n + 1) (.int .u8 0) := by simp [range]
      rw [hr, zbytes]
      simp only [onSome_some]
      show firstC (H46 ++ [.cells [.string str] 1 true]) 1 (.slice (some ⟨H46.length, 0, none⟩) 1 1) (fun n50 nw51 => app Try.prog 9 (H46 ++ [.cells [.string str] 1 true]) (.slice a la c) n50 nw51 _) = _
      rw [hk]
      simp only [kSl, onSome_some, e2, kTup, List.getElem?_toArray, List.getElem?_cons_zero, List.getElem?_cons_succ, kInt, kBool, if_true, Bool.not_false, beq_self_eq_true]
  | succ d ih =>
    intro i hi H a la c acc mx hA hI hai hsub hmx h0
    have hlt : i < all.length := by have := hS.len; omega
    have hSH : Strs H a0 l all := hS.keep fun x hx cs own hh => (hI.same _ (hS0 x hx)).trans hh
    obtain ⟨x, cs, own, ex, h1, h2⟩ := hSH.get (i := i) (s := all[i]) (by simp [hlt])
    subst ex
    have hd : all.drop i = all[i] :: all.drop (i + 1) := List.drop_eq_getElem_cons hlt
    have hc : decide ((i : Int) < (l : Int)) = true := decide_eq_true (by omega)
    have hin : (0 : Int) ≤ (i : Int) ∧ (i : Int) < ((l : Nat) : Int) := by omega
    have hmx2 : longest (mxi mx ((all[i]).size : Int)) (all.drop (i + 1)) = longest 0 all := by rw [hd] at hmx; exact hmx
    have h02 : 0 ≤ mxi mx ((all[i]).size : Int) := by have := mxi_le mx ((all[i]).size : Int); omega
    have hw := wrap_succ (n := i) (by omega)
    -- it is left over
    have keep : left (all.drop i) (bs.drop i) = all[i] :: left (all.drop (i + 1)) (bs.drop (i + 1)) →
        ∃ m H', firstC (H ++ [.cells [.string all[i]] 1 true]) 1 (.slice (some ⟨H.length, 0, none⟩) 1 1) (fun n nw => app Try.prog 9 (H ++ [.cells [.string all[i]] 1 true]) (.slice a la c) n nw fun v H1 =>
          kSl v fun a2 l2 c2 => R3 m td3_100006 [.slice (some x) l c0, .slice a1 l1 c1, .slice a2 l2 c2, .int .i64 (mxi mx ((all[i]).size : Int)), .slice (some x) l c0, .int .i64 (l : Int), .int .i64 ((i + 1 : Nat) : Int)] H1) = some (.bool true, H') := by
      intro hleft
      obtain ⟨a', l', c', H1, hk, hA', hsame⟩ := hA.push (P := Try.prog) (e := 9) cells9 bytes9 (by omega) all[i]
      obtain ⟨m, H', hm⟩ := ih (i + 1) (by omega) H1 a' l' c' (acc ++ [all[i]]) _ hA' ⟨fun b hb => (hsame b hb).trans (hI.same b hb)⟩ (by simp; omega) (by rw [hleft] at hsub; simpa using hsub) hmx2 h02
      refine ⟨m, H', ?_⟩
      rw [hk]
      exact hm
    by_cases hlb : l1 ≤ i
    · have hbd : bs.drop i = [] := by rw [List.drop_eq_nil_iff]; have := hB.len; omega
      have hbd2 : bs.drop (i + 1) = [] := by rw [List.drop_eq_nil_iff]; have := hB.len; omega
      obtain ⟨m, H', hm⟩ := keep (by rw [hbd, hbd2, hd]; rfl)
      refine ⟨m + 1, H', ?_⟩
      rw [c3_100006, hc]
      simp only [onSome_some, if_pos hin, add_block, add_off, Int.toNat_natCast, Nat.mul_one, ldc_at h1, h2, kStr, decide_eq_true (show ((l1 : Nat) : Int) ≤ (i : Int) by omega), hw]
      exact hm
    · have hltb : i < bs.length := by have := hB.len; omega
      obtain ⟨y, cb, ob, rfl, hb1, hb2⟩ := hB.at_ (by intro e; rw [e] at hltb; simp at hltb)
      have hb1' := (hI.same _ (hB0 y rfl)).trans hb1
      have hb3 := hb2 i bs[i] (by simp [hltb])
      have hbd : bs.drop i = bs[i] :: bs.drop (i + 1) := List.drop_eq_getElem_cons hltb
      have hinb : (0 : Int) ≤ (i : Int) ∧ (i : Int) < ((l1 : Nat) : Int) := by omega
      have hdl : decide (((l1 : Nat) : Int) ≤ (i : Int)) = false := decide_eq_false (by omega)
      cases hbv : bs[i] with
      | false =>
        obtain ⟨m, H', hm⟩ := keep (by rw [hbd, hd, hbv]; rfl)
        refine ⟨m + 1, H', ?_⟩
        rw [c3_100006, hc]
        simp only [onSome_some, if_pos hin, if_pos hinb, add_block, add_off, Int.toNat_natCast, Nat.mul_one, ldc_at h1, ldc_at hb1', h2, hb3, hbv, kStr, kBool, Bool.not_false, hdl, hw]
        exact hm
      | true =>
        obtain ⟨m, H', hm⟩ := ih (i + 1) (by omega) H a la c acc _ hA hI (by omega) (by rw [hbd, hd, hbv] at hsub; simpa [left] using hsub) hmx2 h02
        refine ⟨m + 1, H', ?_⟩
        rw [c3_100006, hc]
        simp only [onSome_some, if_pos hin, if_pos hinb, add_block, add_off, Int.toNat_natCast, Nat.mul_one, ldc_at h1, ldc_at hb1', h2, hb3, hbv, kStr, kBool, Bool.not_true, hdl, hw]
        exact hm

theorem some3 {H : Heap} {a0 : Option Addr} {l c0 : Nat} {all : List ByteArray} (hS : Strs H a0 l all) (hl : (l + 1) * 16 ≤ 140737488355328) {a1 : Option Addr} {l1 c1 : Nat} {bs : List Bool} (hB : Bls H a1 l1 bs) (hl1 : l1 < 9223372036854775807)
    (hS0 : ∀ x, a0 = some x → x.block < H.length) (hB0 : ∀ x, a1 = some x → x.block < H.length) : ∃ H', F3 [.slice a0 l c0, .slice a1 l1 c1] H = some (.bool true, H') := by
  obtain ⟨w, hw⟩ := works10 H
  have hlen : H.length ≤ (H ++ w).length := by simp
  have hS2 := hS.push w
  have hB2 : Bls (H ++ w) a1 l1 bs := ⟨hB.len, fun h => by
    obtain ⟨x, cs, own, e, h1, h2⟩ := hB.at_ h
    exact ⟨x, cs, own, e, heap_keep h1 w, h2⟩⟩
  obtain ⟨m, H', hm⟩ := loop3 (n0 := (H ++ w).length) (c0 := c0) (c1 := c1) hS2 hl hB2 hl1 (fun x hx => Nat.lt_of_lt_of_le (hS0 x hx) hlen) (fun x hx => Nat.lt_of_lt_of_le (hB0 x hx) hlen) l 0 (by omega) (H ++ w) none 0 0 [] 0 ⟨Nat.le_refl _, .inl ⟨rfl, rfl, rfl, rfl⟩⟩ ⟨fun _ _ => rfl⟩ (Nat.le_refl _) (by simpa using left_sub all bs) rfl (Int.le_refl _)
  refine ⟨H', FN_of m ?_ (Nat.le_of_ble_eq_true (by kernel_rfl))⟩
  rw [t3, hw]
  exact hm
end Go.Proofs.Yticchkdbanhjfaa
