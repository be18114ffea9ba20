/- FRAMEWORK 27: slices that a function owns and makes grow; stores; what goes on. -/
import Derived.Test.YtlpeldimmaajkaaGreatFwQ
set_option linter.unusedVariables false
set_option linter.unusedSimpArgs false
namespace Go.Proofs.YtlpeldimmaajkaaGreat.Fw
open Go Go.RowKit

def pn (b : Nat) : Option Addr := some ⟨b, 0, none⟩

section
variable {β : Type}
theorem onS {α : Type} (x : α) (k : α → Option β) : onSome (some x) k = k x := by simp [onSome]
theorem kInt_int (n : Int) (c : Int → Option β) : kInt .i64 (.int .i64 n) c = c n := by simp [kInt]
theorem kInt_u8 (n : Int) (c : Int → Option β) : kInt .u8 (.int .u8 n) c = c n := by simp [kInt]
theorem kBool_bool (n : Bool) (c : Bool → Option β) : kBool (.bool n) c = c n := by simp [kBool]
theorem kStr_str (n : ByteArray) (c : ByteArray → Option β) : kStr (.string n) c = c n := by simp [kStr]
theorem kTup_tup (n : Array Value) (c : Array Value → Option β) : kTup (.tuple n) c = c n := by simp [kTup]
theorem kAgg_agg (n : Array Value) (c : Array Value → Option β) : kAgg (.agg n) c = c n := by simp [kAgg]
theorem kPtr_ptr (n : Option Addr) (c : Option Addr → Option β) : kPtr (.pointer n) c = c n := by simp [kPtr]
theorem kSl_sl (a : Option Addr) (l m : Nat) (c : Option Addr → Nat → Nat → Option β) : kSl (.slice a l m) c = c a l m := by simp [kSl]
theorem kMp_mp (a : Option Nat) (c : Option Nat → Option β) : kMp (.map a) c = c a := by simp [kMp]
theorem on_of {α : Type} {x : Option α} {v : α} (h : x = some v) (k : α → Option β) : onSome x k = k v := by rw [h]; rfl
theorem unt_of {H H' : Heap} {b : Nat} (h : H'[b]? = H[b]?) (k : Option β) : unt H H' b k = k := by unfold unt; rw [if_pos h]
/-- A store of one cell. -/
theorem st_one {H : Heap} {a : Addr} {cs : List Value} {e : Nat} (h : H[a.block]? = some (.cells cs e true)) (ha : a.off < cs.length) {v : Value} (hv : v.oneCell' = true) (k : Value → Heap → Option β) :
    st 1 H a v k = k undef (H.set a.block (.cells (cs.set a.off v) e true)) := by
  simp only [st, h]
  have h1 : v.cells.size = 1 := by cases v <;> first | rfl | (simp [Value.oneCell'] at hv)
  have h2 : putc cs a.off v = cs.set a.off v := by cases v <;> first | rfl | (simp [Value.oneCell'] at hv)
  rw [if_pos ⟨h1, by omega⟩, h2]
/-- A store of a struct over a whole block. -/
theorem st_whole {H : Heap} {b : Nat} {cs vs : List Value} {e : Nat} (h : H[b]? = some (.cells cs e true)) {n : Nat} (hn : vs.length = n) (hl : cs.length = n) (k : Value → Heap → Option β) :
    st n H ⟨b, 0, none⟩ (.agg vs.toArray) k = k undef (H.set b (.cells vs e true)) := by
  simp only [st, h]
  rw [if_pos ⟨by simpa [Value.cells] using hn, by simp; omega⟩]
  congr 3
  simp only [putc, splice]
  simp [hn, hl]
end

/-- The block of an address. -/
def ab (a : Option Addr) : Option Nat := a.map (·.block)

/-- A slice that is owned, and may grow: its cells. Z: what is known of how its rows' elements are told. -/
def Vec (sz : Nat) (Z : Nat → Prop) (H : Heap) (a : Option Addr) (l c : Nat) (vs : List Value) : Prop :=
  vs.length = l * sz ∧ ((a = none ∧ l = 0 ∧ c = 0) ∨ ∃ j cs ez, Z ez ∧ a = some ⟨j, 0, none⟩ ∧ H[j]? = some (.cells cs ez true) ∧ cs.take (l * sz) = vs ∧ (c = unk ∨ (l ≤ c ∧ c * sz ≤ cs.length)))

variable {Z : Nat → Prop}
theorem Vec.none (sz : Nat) (H : Heap) : Vec sz Z H Option.none 0 0 [] := ⟨by simp, .inl ⟨rfl, rfl, rfl⟩⟩
theorem Vec.lt {sz : Nat} {H : Heap} {a : Option Addr} {l c : Nat} {vs : List Value} (h : Vec sz Z H a l c vs) {j : Nat} (hj : ab a = some j) : j < H.length := by
  rcases h.2 with ⟨rfl, _⟩ | ⟨j', cs, ez, _, rfl, h2, _⟩
  · cases hj
  · obtain rfl : j' = j := by simpa [ab] using hj
    exact (List.getElem?_eq_some_iff.1 h2).1
theorem Vec.keep {sz : Nat} {H H' : Heap} {a : Option Addr} {l c : Nat} {vs : List Value} (h : Vec sz Z H a l c vs) (hk : ∀ j, ab a = some j → H'[j]? = H[j]?) : Vec sz Z H' a l c vs := by
  refine ⟨h.1, ?_⟩
  rcases h.2 with h1 | ⟨j, cs, ez, hz, rfl, h2, h3⟩
  · exact .inl h1
  · exact .inr ⟨j, cs, ez, hz, rfl, (hk j rfl).trans h2, h3⟩
theorem Vec.len_le {sz : Nat} {H : Heap} {l c j : Nat} {vs cs : List Value} (hv : vs.length = l * sz) (ht : cs.take (l * sz) = vs) : l * sz ≤ cs.length := by
  have := congrArg List.length ht
  rw [List.length_take, hv] at this
  omega
/-- Its cells, where they lie. -/
theorem Vec.at_ {sz : Nat} {H : Heap} {a : Option Addr} {l c : Nat} {vs : List Value} (h : Vec sz Z H a l c vs) (hl : 0 < l) : ∃ j cs ez, Z ez ∧ a = some ⟨j, 0, Option.none⟩ ∧ H[j]? = some (.cells cs ez true) ∧ cs.take (l * sz) = vs ∧ l * sz ≤ cs.length := by
  rcases h.2 with ⟨_, rfl, _⟩ | ⟨j, cs, ez, hz, rfl, h2, h3, _⟩
  · omega
  · exact ⟨j, cs, ez, hz, rfl, h2, h3, Vec.len_le (H := H) (c := c) (j := j) h.1 h3⟩

theorem slot_add (a b sz : Nat) : (a + b) * sz = a * sz + b * sz := Nat.add_mul a b sz

/-- An append. -/
theorem Vec.app {P : Program} {e : TypeId} {sz : Nat} (hc : P.cellsOf e = sz) (hZ : ∀ ez, Z ez → szOk ez sz e = true) (hE : Z (tyE P e)) {H : Heap} {a : Option Addr} {l c : Nat} {vs : List Value} (h : Vec sz Z H a l c vs) {n : Nat} {nw : List Value} (hn : nw.length = n * sz) (hb : (l + n) * P.bytesOf e ≤ 140737488355328) (hb2 : l + n ≤ 140737488355328) :
    ∃ a' c' H', (∀ {β : Type} (k : Value → Heap → Option β), Fw.app P e H (.slice a l c) n nw k = k (.slice a' (l + n) c') H') ∧ Vec sz Z H' a' (l + n) c' (vs ++ nw) ∧ H.length ≤ H'.length ∧
      (∀ k, k < H.length → ab a ≠ some k → H'[k]? = H[k]?) ∧ (∀ j, ab a' = some j → ab a = some j ∨ j = H.length) := by
  obtain ⟨hv, h⟩ := h
  have hvn : (vs ++ nw).length = (l + n) * sz := by rw [List.length_append, hv, hn, slot_add]
  rcases h with ⟨rfl, rfl, rfl⟩ | ⟨j, cs, ez, hz, rfl, hj, ht, hcap⟩
  · have hvs : vs = [] := by simpa using hv
    subst hvs
    by_cases h0 : n = 0
    · subst h0
      have hnw : nw = [] := by simpa using hn
      subst hnw
      refine ⟨Option.none, 0, H, fun k => ?_, ⟨by simp, .inl ⟨rfl, rfl, rfl⟩⟩, Nat.le_refl _, fun _ _ _ => rfl, fun j hj => by cases hj⟩
      simp only [Fw.app, kSl]
      rw [if_pos ⟨hb, hb2⟩]
      simp
    · refine ⟨some ⟨H.length, 0, Option.none⟩, unk, H ++ [.cells nw (tyE P e) true], fun k => ?_, ⟨hvn, .inr ⟨H.length, nw, _, hE, rfl, by simp, ?_, .inl rfl⟩⟩, by simp, fun k hk _ => List.getElem?_append_left hk, fun j hj => .inr (by simpa [ab] using hj.symm)⟩
      · simp only [Fw.app, kSl]
        rw [if_pos ⟨hb, hb2⟩]
        simp [h0]
      · rw [List.nil_append, Nat.zero_add, ← hn, List.take_length]
  · have hjl : j < H.length := (List.getElem?_eq_some_iff.1 hj).1
    have hle : l * sz ≤ cs.length := Vec.len_le (H := H) (c := c) (j := j) hv ht
    have hr : range cs 0 (l * sz) = vs := by unfold range; simpa using ht
    have hso := hZ ez hz
    by_cases hu : unk ≤ c ∧ ¬ (unk < c ∧ l + n ≤ c - unk)
    · refine ⟨some ⟨H.length, 0, Option.none⟩, unk, H.set j .dead ++ [.cells (vs ++ nw) ez true], fun k => ?_, ⟨hvn, .inr ⟨H.length, vs ++ nw, ez, hz, rfl, by simp, ?_, .inl rfl⟩⟩, by simp, fun k hk hne => ?_, fun j hj => .inr (by simpa [ab] using hj.symm)⟩
      · simp only [Fw.app, kSl]
        rw [if_pos ⟨hb, hb2⟩]
        simp only [hj, hc]
        rw [if_pos ⟨by simpa using hle, hso⟩, if_pos hu.1, if_neg hu.2, if_pos trivial, hr]
        rfl
      · rw [← hvn, List.take_length]
      · have : k ≠ j := fun e => hne (by rw [e]; rfl)
        rw [List.getElem?_append_left (by simpa using hk), List.getElem?_set_ne (Ne.symm this)]
    · rcases hcap with hcap | ⟨hlc, hcl⟩
      · exact absurd ⟨by rw [hcap]; exact Nat.le_refl _, by rw [hcap]; omega⟩ hu
      by_cases hu2 : unk ≤ c
      · have hf2 : unk < c ∧ l + n ≤ c - unk := Classical.not_not.1 fun q => hu ⟨hu2, q⟩
        have hle2 : (l + n) * sz ≤ cs.length := Nat.le_trans (Nat.mul_le_mul_right _ (by omega)) hcl
        refine ⟨some ⟨j, 0, Option.none⟩, c, H.set j (.cells (splice cs (0 + l * sz) nw) ez true), fun k => ?_, ⟨hvn, .inr ⟨j, splice cs (0 + l * sz) nw, ez, hz, rfl, by simp [hjl], ?_, .inr ⟨by omega, ?_⟩⟩⟩, by simp, fun k hk hne => ?_, fun j' hj' => .inl hj'⟩
        · simp only [Fw.app, kSl]
          rw [if_pos ⟨hb, hb2⟩]
          simp only [hj, hc]
          rw [if_pos ⟨by simpa using hle, hso⟩, if_pos hu2, if_pos hf2, if_pos ⟨trivial, by simpa using hle2⟩]
        · rw [Nat.zero_add]
          unfold splice
          rw [ht, List.take_append_of_le_length (by rw [hvn]; exact Nat.le_refl _)]
          rw [← hvn, List.take_length]
        · rw [Nat.zero_add]
          unfold splice
          rw [slot_add] at hle2
          simp only [List.length_append, List.length_take, List.length_drop, hn]
          omega
        · have : k ≠ j := fun e => hne (by rw [e]; rfl)
          rw [List.getElem?_set_ne (Ne.symm this)]
      by_cases hf : l + n ≤ c
      · have hle2 : (l + n) * sz ≤ cs.length := Nat.le_trans (Nat.mul_le_mul_right _ hf) hcl
        refine ⟨some ⟨j, 0, Option.none⟩, c, H.set j (.cells (splice cs (0 + l * sz) nw) ez true), fun k => ?_, ⟨hvn, .inr ⟨j, splice cs (0 + l * sz) nw, ez, hz, rfl, by simp [hjl], ?_, .inr ⟨hf, ?_⟩⟩⟩, by simp, fun k hk hne => ?_, fun j' hj' => .inl hj'⟩
        · simp only [Fw.app, kSl]
          rw [if_pos ⟨hb, hb2⟩]
          simp only [hj, hc]
          rw [if_pos ⟨by simpa using hle, hso⟩, if_neg hu2, if_pos hf, if_pos ⟨trivial, by simpa using hle2⟩]
        · rw [Nat.zero_add]
          unfold splice
          rw [ht, List.take_append_of_le_length (by rw [hvn]; exact Nat.le_refl _)]
          rw [← hvn, List.take_length]
        · rw [Nat.zero_add]
          unfold splice
          rw [slot_add] at hle2
          simp only [List.length_append, List.length_take, List.length_drop, hn]
          omega
        · have : k ≠ j := fun e => hne (by rw [e]; rfl)
          rw [List.getElem?_set_ne (Ne.symm this)]
      · refine ⟨some ⟨H.length, 0, Option.none⟩, unk, H ++ [.cells (vs ++ nw) (tyE P e) true], fun k => ?_, ⟨hvn, .inr ⟨H.length, vs ++ nw, _, hE, rfl, by simp, ?_, .inl rfl⟩⟩, by simp, fun k hk hne => List.getElem?_append_left hk, fun j hj => .inr (by simpa [ab] using hj.symm)⟩
        · simp only [Fw.app, kSl]
          rw [if_pos ⟨hb, hb2⟩]
          simp only [hj, hc]
          rw [if_pos ⟨by simpa using hle, hso⟩, if_neg hu2, if_neg hf, hr]
        · rw [← hvn, List.take_length]
end Go.Proofs.YtlpeldimmaajkaaGreat.Fw
