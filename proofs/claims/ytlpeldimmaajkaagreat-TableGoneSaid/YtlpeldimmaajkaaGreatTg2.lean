/- r3: TableGone: what it comes to, whatever its input. -/
import Derived.Test.YtlpeldimmaajkaaGreatTgr1
import Derived.Test.YtlpeldimmaajkaaGreatTgr2
import Derived.Test.YtlpeldimmaajkaaGreatTgr3
import Derived.Test.YtlpeldimmaajkaaGreatTgr4
import Derived.Test.YtlpeldimmaajkaaGreatTgr5
import Derived.Test.YtlpeldimmaajkaaGreatFwQ
set_option linter.unusedVariables false
set_option linter.unusedSimpArgs false
namespace Go.Proofs.YtlpeldimmaajkaaGreat
open Go Go.Proofs.YtlpeldimmaajkaaGreat.Fw Go.RowKit
noncomputable def F13 : List Value → Heap → R := FL Tryz.prog EE 301 13
theorem S13 : Sound Tryz.prog 13 F13 := FL_sound EE_ok 301 13
theorem among (x : Int) : ∃ n : Int, (n = 1 ∨ n = 2 ∨ n = 3) ∧ ∀ H, FL Tryz.prog EE 300 18 [.int .i64 x, .int .i64 3] H = some (.int .i64 (n - 1), H) := by
  obtain ⟨fn, q1, q2, q3, q4, q5⟩ := K18.ex
  have hg : EE.get 18 = some (.code k18) := by kernel_rfl
  have key : ∀ v H, (∀ Γ J, (X18 [.int .i64 x, .int .i64 3]).run Tryz.prog Γ J H = some (v, H)) → FL Tryz.prog EE 300 18 [.int .i64 x, .int .i64 3] H = some (v, H) := fun v H h => by
    have hx : (k18.X [.int .i64 x, .int .i64 3]).run Tryz.prog (fun g => some (FL Tryz.prog EE 299 g)) (fun key vs H => run Tryz.prog (fun g => some (FL Tryz.prog EE 299 g)) fn k18.cuts 1 (k18.td key) vs H) H = some (v, H) := h _ _
    obtain ⟨h6, h7⟩ := q4 _ _ _ _ _ hx
    exact (FL_code hg q1).trans (FN_of 1 h6 h7)
  have h1 := Int.lt_tmod_of_pos x (b := 3) (by decide)
  have h2 := Int.tmod_lt_of_pos x (b := 3) (by decide)
  have hc : x.tmod 3 = -2 ∨ x.tmod 3 = -1 ∨ x.tmod 3 = 0 ∨ x.tmod 3 = 1 ∨ x.tmod 3 = 2 := by omega
  rcases hc with h | h | h | h | h
  · exact ⟨2, by simp, fun H => key _ H fun Γ J => by simp only [X18, M.run, Fw.kInt, h]; kernel_rfl⟩
  · exact ⟨3, by simp, fun H => key _ H fun Γ J => by simp only [X18, M.run, Fw.kInt, h]; kernel_rfl⟩
  · exact ⟨1, by simp, fun H => key _ H fun Γ J => by simp only [X18, M.run, Fw.kInt, h]; kernel_rfl⟩
  · exact ⟨2, by simp, fun H => key _ H fun Γ J => by simp only [X18, M.run, Fw.kInt, h]; kernel_rfl⟩
  · exact ⟨3, by simp, fun H => key _ H fun Γ J => by simp only [X18, M.run, Fw.kInt, h]; kernel_rfl⟩
abbrev recB (x : Bool) : List Value := [.bool x]
theorem recB_inv : ∀ e, Flat [.bool] e → ∃ x, e = recB x := fun e h => by
  obtain ⟨v, l, rfl, ⟨n, rfl⟩, h2⟩ := h.cons_inv
  obtain rfl := h2.nil_inv
  exact ⟨n, rfl⟩
def capU (a : Option Addr) : Nat := match a with | none => 0 | some _ => unk
theorem RowE.valU {w : World} {a : Option Addr} {len cap sz : Nat} {es : List (List Value)} (h : RowE w a len cap sz es) (hsz : 0 < sz) {ρ : Ren} {b : Nat} (hb : ρ b = some (rowPlE w a sz)) : VR ρ (.slice (a.map fun _ => ⟨b, 0, none⟩) len (capU a)) (.slice a len cap) := by
  have hv := h.val hsz hb
  cases a with
  | none =>
    rcases h with ⟨_, rfl, rfl, rfl⟩ | ⟨x, e, _⟩
    · exact .sliceN
    · cases e
  | some x =>
    cases hv with
    | slice _ off _ _ _ a' p h hc hl ha => exact .slice _ _ _ _ _ _ _ h (.inr (unkOk _)) hl ha
theorem at_one {cs : List Value} {i : Nat} {v : Value} (h : range cs (0 + i * 1) 1 = [v]) : cs[i]? = some v := by
  have : (range cs (0 + i * 1) 1)[0]? = some v := by rw [h]; rfl
  unfold range at this
  rw [List.getElem?_take_of_lt (by omega), List.getElem?_drop] at this
  simpa using this
theorem cells_of {cs : List Value} {xs : List Bool} (h : ∀ (i : Nat) (t : Bool), xs[i]? = some t → range cs (0 + i * 1) 1 = recB t) : ∃ cs', cs = xs.map Value.bool ++ cs' := by
  refine ⟨cs.drop xs.length, List.ext_getElem? fun i => ?_⟩
  rcases Nat.lt_or_ge i xs.length with hi | hi
  · rw [List.getElem?_append_left (by simpa using hi), List.getElem?_map, List.getElem?_eq_getElem hi]
    exact at_one (h i _ (List.getElem?_eq_getElem hi))
  · rw [List.getElem?_append_right (by simpa using hi), List.length_map, List.getElem?_drop]
    congr 1; omega
/-- What is told of the row: nothing, or its first three. -/
def obj : List Bool → AObj
  | [] => .dead
  | b :: r => .cells (((b :: r).take 3).map Value.bool) 1 false
theorem obj_own (xs : List Bool) : (obj xs).own = false := by cases xs <;> rfl
theorem OR.front {ρ : Ren} {w : World} {p : Pl} {a b : List Value} {sz : Nat} {own : Bool} (h : OR ρ w p (.cells (a ++ b) sz own)) : OR ρ w p (.cells a sz own) := by
  obtain ⟨c, el, fz, h1, h2, h3, h4, h5, h6⟩ := h
  refine ⟨c, el, fz, h1, h2, h3, ?_, fun i v hv => h5 i v ?_, h6⟩
  · rw [List.length_append] at h4; omega
  · rw [List.getElem?_append_left (List.getElem?_eq_some_iff.1 hv).1]; exact hv
theorem obj_or {ρ : Ren} {w : World} {p : Pl} {o : AObj} {a : Option Addr} {l : Nat} {xs : List Bool} (hX : Recs recB 1 [o] (a.map fun _ => ⟨0, 0, none⟩) l xs) (ho : o.own = false) (h : OR ρ w p o) : OR ρ w p (obj xs) := by
  cases xs with
  | nil => exact trivial
  | cons b r =>
    obtain ⟨y, cs, own, e, h0, _, hc⟩ := hX.at_ (by simp)
    cases a with
    | none => cases e
    | some z =>
      obtain rfl := Option.some.inj e
      obtain rfl := Option.some.inj h0
      obtain rfl : own = false := ho
      obtain ⟨cs', rfl⟩ := cells_of hc
      rw [← List.take_append_drop 3 (b :: r), List.map_append, List.append_assoc] at h
      exact OR.front h
theorem main13 {a : Option Addr} {l : Nat} {xs : List Bool} (x : Int) (hlen : xs.length = l) (ha : a = none → xs = []) : ∃ H', F13 [.int .i64 x, .slice (a.map fun _ => ⟨0, 0, none⟩) l (capU a)] [obj xs] = some (.bool true, H') := by
  obtain ⟨n, hn, h18⟩ := among x
  refine gone h18 hn ?_
  cases a with
  | none =>
    obtain rfl := ha rfl
    obtain rfl : 0 = l := hlen
    rcases hn with rfl | rfl | rfl
    · exact r1_N _
    · exact r2_N _
    · exact r3_N
  | some y =>
    cases xs with
    | nil =>
      obtain rfl : 0 = l := hlen
      rcases hn with rfl | rfl | rfl
      · exact r1_S _
      · exact r2_S _
      · exact r3_S
    | cons b r =>
      obtain rfl : Nat.succ r.length = l := hlen
      rcases hn with rfl | rfl | rfl
      · cases b
        · exact r1_f _ false _
        · exact r1_t _ false _
      · cases r with
        | nil =>
          cases b
          · exact r2_f _ false
          · exact r2_t _ false
        | cons b2 r =>
          cases b <;> cases b2
          · exact r2_ff _ false _
          · exact r2_ft _ false _
          · exact r2_tf _ false _
          · exact r2_tt _ false _
      · cases r with
        | nil =>
          cases b
          · exact r3_f
          · exact r3_t
        | cons b2 r =>
          cases r with
          | nil =>
            cases b <;> cases b2
            · exact r3_ff
            · exact r3_ft
            · exact r3_tf
            · exact r3_tt
          | cons b3 r =>
            cases b <;> cases b2 <;> cases b3
            · exact r3_fff _
            · exact r3_fft _
            · exact r3_ftf _
            · exact r3_ftt _
            · exact r3_tff _
            · exact r3_tft _
            · exact r3_ttf _
            · exact r3_ttt _
end Go.Proofs.YtlpeldimmaajkaaGreat
