/- EventLogs: logs, in a heap; what they have; adding. -/
import Derived.Test.YticchkdbanhjfaaEl3
set_option linter.unusedVariables false
set_option linter.unusedSimpArgs false
namespace Go.Proofs.Yticchkdbanhjfaa
open Go Go.RowKit Go.Proofs.Yticchkdbanhjfaa.Fw
def fe (es : List Ev) : List Value := (es.map Ev.cs).flatten
theorem fe_sz (es : List Ev) : ∀ e ∈ es.map Ev.cs, e.length = 3 := fun e he => by
  obtain ⟨x, _, rfl⟩ := List.mem_map.1 he; rfl
theorem fe_len (es : List Ev) : (fe es).length = es.length * 3 := by
  unfold fe; rw [flatten_len (fe_sz es)]; simp
theorem fe_snoc (a : List Ev) (x : Ev) : fe (a ++ [x]) = fe a ++ x.cs := by simp [fe]
theorem fe_get {es : List Ev} {n : Nat} {x : Ev} (h : es[n]? = some x) : range (fe es) (n * 3) 3 = x.cs := by
  unfold fe
  exact range_flatten (fe_sz es) (by rw [List.getElem?_map, h]; rfl)
theorem range_range_take {cs : List Value} {t o n : Nat} (h : o + n ≤ t) : range (cs.take t) o n = range cs o n := by
  unfold range
  rw [List.drop_take, List.take_take, Nat.min_eq_left (by omega)]
theorem row_get {es : List Ev} {cs : List Value} {l n : Nat} {x : Ev} (ht : cs.take (l * 3) = fe es) (hl : l = es.length) (h : es[n]? = some x) : range cs (n * 3) 3 = x.cs := by
  have hlt := (List.getElem?_eq_some_iff.1 h).1
  rw [← range_range_take (t := l * 3) (by omega), ht, fe_get h]
theorem row_cell {cs : List Value} {o : Nat} {x : Ev} (h : range cs o 3 = x.cs) : cs[o + 1]? = some (.int .i64 x.n) := by
  rw [← range_get (n := 3) (by omega), h]; rfl
theorem ldc_add (H : Heap) (a : Addr) (m : Nat) (k : List Value → R) : ldc H (a.add m).block k = ldc H a.block k := by rw [add_block]

def Z3 (e : Nat) : Prop := szOk e 3 40 = true
theorem z40 : Z3 (tyE Try.prog 40) := by unfold Z3; kernel_rfl
theorem c40 : Try.prog.cellsOf 40 = 3 := by kernel_rfl
theorem b40 : Try.prog.bytesOf 40 = 32 := by kernel_rfl
/-- A log in a heap: N: the blocks that are its own. -/
structure Lg (N : Nat → Prop) (b : Nat) (es : List Ev) (H : Heap) : Prop where
  nb : N b
  lt : ∀ k, N k → k < H.length
  body : ∃ a c, H[b]? = some (.cells [.slice a es.length c] 0 true) ∧ Vec 3 Z3 H a es.length c (fe es) ∧ ab a ≠ some b ∧ ∀ j, ab a = some j → N j
section
variable {N : Nat → Prop} {b : Nat} {es : List Ev} {H : Heap}
theorem Lg.keep (h : Lg N b es H) {H' : Heap} (hl : H.length ≤ H'.length) (hk : ∀ k, N k → H'[k]? = H[k]?) : Lg N b es H' := by
  obtain ⟨nb, lt, a, c, h1, h2, h3, h4⟩ := h
  exact ⟨nb, fun k hh => by have := lt k hh; omega, a, c, (hk b nb).trans h1, h2.keep fun j hj => hk j (h4 j hj), h3, h4⟩
theorem Lg.push (h : Lg N b es H) (g : Heap) : Lg N b es (H ++ g) := h.keep (by simp) fun k hk => List.getElem?_append_left (h.lt k hk)
def nowM (es : List Ev) : Int := match es.getLast? with | none => 0 | some x => x.n
theorem now_both (h : Lg N b es H) (hle : es.length ≤ 4096) {r : R} (hr : r = (onSome (some (⟨b, 0, none⟩ : Addr)) fun a1 =>
    ldc H a1.block fun cs2 =>
    onSome cs2[a1.off]? fun v3 =>
    kSl v3 fun a4 l5 c6 =>
    (match (((l5 : Nat) : Int) == (0 : Int)) with
    | true => (some (.int .i64 (0 : Int), H))
    | false => (onSome (some (⟨b, 0, none⟩ : Addr)) fun a7 =>
    ldc H a7.block fun cs8 =>
    onSome cs8[a7.off]? fun v9 =>
    kSl v9 fun a10 l11 c12 =>
    onSome (some (⟨b, 0, none⟩ : Addr)) fun a13 =>
    ldc H a13.block fun cs14 =>
    onSome cs14[a13.off]? fun v15 =>
    kSl v15 fun a16 l17 c18 =>
    onSome a10 fun a19 =>
    if 0 ≤ (IntKind.i64.wrap (((l17 : Nat) : Int) - (1 : Int))) ∧ (IntKind.i64.wrap (((l17 : Nat) : Int) - (1 : Int))) < (l11 : Nat) then
    ldc H ((a19.add ((IntKind.i64.wrap (((l17 : Nat) : Int) - (1 : Int))).toNat * 3)).block) fun cs20 =>
    onSome cs20[((a19.add ((IntKind.i64.wrap (((l17 : Nat) : Int) - (1 : Int))).toNat * 3)).off + 1)]? fun v21 =>
    kInt .i64 v21 fun n22 =>
    some (.int .i64 n22, H)
    else none)))) : r = some (.int .i64 (nowM es), H) := by
  subst hr
  obtain ⟨a, c, h1, h2, h3, h4⟩ := h.body
  simp only [↓onS, ↓kInt_int, ↓kInt_u8, ↓kBool_bool, ↓kStr_str, ↓kTup_tup, ↓kPtr_ptr, ↓kSl_sl, ↓kAgg_agg, ↓ldc_at h1, List.getElem?_toArray, List.getElem?_cons_zero, List.getElem?_cons_succ, List.append_assoc, List.cons_append, List.nil_append, List.length_append, List.length_cons, List.length_nil]
  rcases Bool.eq_false_or_eq_true (((es.length : Nat) : Int) == 0) with hz | hz
  · have : es = [] := by
      have := of_decide_eq_true hz
      cases es with
      | nil => rfl
      | cons x l => simp at this; omega
    subst this
    simp only [hz]
    rfl
  · have hpos : 0 < es.length := by
      rcases Nat.eq_zero_or_pos es.length with h | h
      · rw [h] at hz; cases hz
      · exact h
    obtain ⟨j, cs, ez, hzz, rfl, hj, ht, hle3⟩ := h2.at_ hpos
    have ew : IntKind.i64.wrap (((es.length : Nat) : Int) - 1) = ((es.length - 1 : Nat) : Int) := by rw [wrap_in ⟨by omega, by omega⟩]; omega
    have hx : es[es.length - 1]? = some es[es.length - 1] := by simp
    have hn : nowM es = (es[es.length - 1]).n := by unfold nowM; rw [List.getLast?_eq_getElem?, hx]
    have hcell := row_cell (row_get ht rfl hx)
    simp only [hz, ↓onS, ↓kInt_int, ↓kInt_u8, ↓kBool_bool, ↓kStr_str, ↓kTup_tup, ↓kPtr_ptr, ↓kSl_sl, ↓kAgg_agg, ew, Int.toNat_natCast, ↓ldc_add, ↓ldc_at hj, add_off, Nat.zero_add]
    rw [if_pos ⟨by omega, by omega⟩, hcell, hn]
    rfl
theorem now17 (h : Lg N b es H) (hle : es.length ≤ 4096) : F17 [.pointer (some ⟨b, 0, none⟩)] H = some (.int .i64 (nowM es), H) :=
  FN_of 1 ((t17 1 _ H).trans (now_both h hle rfl)) (Nat.le_of_ble_eq_true (by kernel_rfl))
theorem now18 (h : Lg N b es H) (hle : es.length ≤ 4096) : F18 [.pointer (some ⟨b, 0, none⟩)] H = some (.int .i64 (nowM es), H) :=
  FN_of 1 ((t18 1 _ H).trans (now_both h hle rfl)) (Nat.le_of_ble_eq_true (by kernel_rfl))
theorem len16 (h : Lg N b es H) : F16 [.pointer (some ⟨b, 0, none⟩)] H = some (.int .i64 ((es.length : Nat) : Int), H) := by
  obtain ⟨a, c, h1, h2, h3, h4⟩ := h.body
  refine FN_of 1 ((t16 1 _ H).trans ?_) (Nat.le_of_ble_eq_true (by kernel_rfl))
  simp only [↓onS, ↓kInt_int, ↓kInt_u8, ↓kBool_bool, ↓kStr_str, ↓kTup_tup, ↓kPtr_ptr, ↓kSl_sl, ↓kAgg_agg, ↓ldc_at h1, List.getElem?_toArray, List.getElem?_cons_zero, List.getElem?_cons_succ, List.append_assoc, List.cons_append, List.nil_append, List.length_append, List.length_cons, List.length_nil]

/-- An event more, or a refusal. -/
def addM (es : List Ev) (e : Ev) : List Ev × Int × Int :=
  match ok e with
  | false => (es, 0, 230)
  | true => match decide (e.n < nowM es) with
    | true => (es, 0, 1)
    | false => match decide ((4096 : Int) ≤ ((es.length : Nat) : Int)) with
      | true => (es, 0, 2)
      | false => (es ++ [e], ((es.length + 1 : Nat) : Int), 0)
/-- What an act on a log leaves as it was. -/
structure Gone (N : Nat → Prop) (H : Heap) (N' : Nat → Prop) (H' : Heap) : Prop where
  len : H.length ≤ H'.length
  own : ∀ k, N' k → N k ∨ H.length ≤ k
  kept : ∀ k, k < H.length → ¬ N k → H'[k]? = H[k]?
theorem Gone.push (N : Nat → Prop) (H g : Heap) : Gone N H N (H ++ g) := ⟨by simp, fun k h => .inl h, fun k h _ => List.getElem?_append_left h⟩
theorem fill3 (x : Ev) : Instr.fill (fun i => some (i * 3, 3)) ([.int .i64 (0 : Int), .int .i64 (0 : Int), .string (⟨#[]⟩ : ByteArray)] : List Value).toArray (([0] : List Nat).zip [.agg x.cs.toArray]) = some x.cs.toArray := by kernel_rfl
theorem cellsOks1 (x : Ev) (K : R) : cellsOks [.agg x.cs.toArray] K = K := rfl
theorem firstC_one (H : Heap) (cs : List Value) (n : Nat) (hn : cs.length = n) (k : Nat → List Value → R) : firstC (H ++ [.cells cs n true]) n (.slice (some ⟨H.length, 0, none⟩) 1 1) k = k 1 cs := by
  simp only [firstC, ↓ldc_L0, ↓ldc_C0]
  rw [if_pos (by omega)]
  unfold range
  rw [List.drop_zero, List.take_of_length_le (by omega)]
theorem firstC_nil (H : Heap) (b n : Nat) (hb : H[b]? = some (.cells [] n true)) (k : Nat → List Value → R) : firstC H n (.slice (some ⟨b, 0, none⟩) 0 0) k = k 0 [] := by
  simp only [firstC, ldc, hb]
  rw [if_pos (by simp)]
  simp [range]
/-- A log's slice anew. -/
theorem Lg.anew (h : Lg N b es H) {H1 : Heap} {a' : Option Addr} {l' c' : Nat} {es' : List Ev} (hl' : l' = es'.length) (hv : Vec 3 Z3 H1 a' l' c' (fe es')) {cs0 : List Value} {e0 : Nat} (hb : H1[b]? = some (.cells [.slice a' l' c'] 0 true))
    (hl : H.length ≤ H1.length) (hab : ab a' ≠ some b) (hown : ∀ j, ab a' = some j → N j ∨ (H.length ≤ j ∧ j < H1.length)) : Lg (fun k => N k ∨ (H.length ≤ k ∧ k < H1.length)) b es' H1 := by
  subst hl'
  exact ⟨.inl h.nb, fun k hk => by
    rcases hk with hk | hk
    · have := h.lt k hk; omega
    · exact hk.2, a', c', hb, hv, hab, hown⟩
end
end Go.Proofs.Yticchkdbanhjfaa
