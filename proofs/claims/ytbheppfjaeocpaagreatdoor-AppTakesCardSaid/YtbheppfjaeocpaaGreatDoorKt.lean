/- r2: what functions of the library come to on the abstract heap, out of the library's contracts. -/
import Derived.Test.YtbheppfjaeocpaaGreatDoorFwU
import Derived.Test.YtbheppfjaeocpaaGreatDoorSe1
import Derived.Test.YtbheppfjaeocpaaGreatDoorSh
import Derived.Lib.SmallJoins
set_option linter.unusedVariables false
set_option linter.unusedSimpArgs false
namespace Go.Proofs.YtbheppfjaeocpaaGreatDoor
open Go Go.RowKit Go.Sort Go.Lib Go.Proofs.YtbheppfjaeocpaaGreatDoor.Fw

theorem below_grow (w : World) (k : Nat) (os : Array Obj) : Below w.heap.size w (grow (w.drewN k) os) :=
  ⟨rfl, rfl, rfl, by show _ ≤ (w.heap ++ os).size; simp, fun j hj => by show (w.heap ++ os)[j]? = _; rw [Array.getElem?_append_left hj]⟩
theorem rel_var {ρ : Ren} {H : Heap} {w : World} (hR : Rel ρ H w) {g : Nat} (hg : g < ng) {cs : List Value} {e : Nat} {o : Bool} (hH : H[g]? = some (.cells cs e o)) (hl : cs.length = gsz g) (hp : cs.all plain1 = true) : ∃ el fz, w.heap[g]? = some (.cells cs.toArray el fz) := by
  obtain ⟨p, h1, h2, h3, h4⟩ := hR.glob g hg
  obtain ⟨c, el, fz, k1, k2, k3, k4, k5, k6⟩ := hR.obj g p _ h1 hH
  rw [h2] at k1
  refine ⟨el, fz, ?_⟩
  rw [k1]
  congr 2
  refine Array.toList_inj.1 (List.ext_getElem? fun i => ?_)
  cases hi : cs[i]? with
  | none =>
    have : cs.length ≤ i := by simpa using hi
    rw [Array.getElem?_toList, Array.getElem?_eq_none (by omega)]
  | some v =>
    obtain ⟨_, v', a, b⟩ := k5 i v hi
    rw [h3, Nat.zero_add] at a
    rw [Array.getElem?_toList, a, b.plain1_eq (List.all_eq_true.1 hp v (List.mem_of_getElem? hi))]

/-! ### strconv.Itoa -/
def powCells : List Value := Lib.pow10Tab.map (Value.int .u64)
open Classical in
noncomputable def F14 : List Value → Heap → R := fun args H => match args with
  | [.int .i64 n] => if -9223372036854775808 ≤ n ∧ n ≤ 9223372036854775807 ∧ ∃ e o, H[0]? = some (.cells powCells e o) then some (.string (bs (Lib.itoa n)), H) else none
  | _ => none
theorem S14 : Sound Tryz.prog 14 F14 := Sound.of_calls Tryz.func14 (by kernel_rfl) (by kernel_rfl) fun args H v H' h => by
  unfold F14 at h
  split at h
  · rename_i n
    split at h
    · rename_i hc
      obtain ⟨h0, h1, e, o, hH⟩ := hc
      obtain ⟨rfl, rfl⟩ := Prod.mk.inj (Option.some.inj h)
      refine ⟨rfl, rfl, fun ρ w args' hR hv => ?_⟩
      obtain rfl := hv.plain_eq rfl
      obtain ⟨el, fz, hw⟩ := rel_var hR (g := 0) (by decide) hH (by kernel_rfl) (by kernel_rfl)
      have htab : Lib.TabIs Tryz.prog w "internal/strconv.uint64pow10" .u64 Lib.pow10Tab := by
        show World.var? _ _ _ = _
        have hg : Tryz.prog.globalNamed "internal/strconv.uint64pow10" = some 0 := by kernel_rfl
        unfold World.var?
        rw [hg]
        show (match w.heap[0]? with | some (.cells cs _ _) => some cs | _ => none) = _
        rw [hw]; rfl
      have c := Any.strconv_Itoa Tryz.laysM171 n h0 h1 w htab
      refine Calls.mono' c ?_
      rintro e' w' ⟨rfl, k, os, rfl⟩
      exact ⟨rfl, below_grow w k os⟩
    · cases h
  · cases h

/-! ### strings.Index of one byte -/
def F94 : List Value → Heap → R := fun args H => match args with
  | [.string s, .string p] => (match p.data.toList with | [c] => some (.int .i64 (Lib.indexByte s.data.toList c), H) | _ => none)
  | _ => none
theorem S94 : Sound Tryz.prog 94 F94 := Sound.of_calls Tryz.func94 (by kernel_rfl) (by kernel_rfl) fun args H v H' h => by
  unfold F94 at h
  split at h
  · rename_i s p
    split at h
    · rename_i c hc
      obtain ⟨rfl, rfl⟩ := Prod.mk.inj (Option.some.inj h)
      refine ⟨rfl, rfl, fun ρ w args' hR hv => ?_⟩
      obtain rfl := hv.plain_eq rfl
      have hp : p = ⟨#[c]⟩ := by
        cases p with
        | mk d =>
          have : d.toList = [c] := hc
          congr 1
          exact Array.toList_inj.1 this
      subst hp
      refine Calls.mono' (Any.stringslite_Index_one Tryz.lays219 s c w) ?_
      rintro e' w' ⟨rfl, rfl⟩
      exact ⟨rfl, Below.refl _ _⟩
    · cases h
  · cases h

/-! ### strings.Join -/
def textsOf : List Value → Option (List ByteArray)
  | [] => some []
  | .string s :: r => (textsOf r).map (s :: ·)
  | _ => none
theorem textsOf_eq : ∀ {l : List Value} {xs : List ByteArray}, textsOf l = some xs → l = xs.map Value.string
  | [], xs, h => by obtain rfl := Option.some.inj h; rfl
  | v :: r, xs, h => by
    cases v <;> simp only [textsOf] at h <;> first | (cases h; done) | skip
    obtain ⟨ys, hy, rfl⟩ := Option.map_eq_some_iff.1 h
    rw [textsOf_eq hy]; rfl
theorem textsOf_map (xs : List ByteArray) : textsOf (xs.map Value.string) = some xs := by
  induction xs with
  | nil => rfl
  | cons x r ih => simp [textsOf, ih]
def F74 : List Value → Heap → R := fun args H => match args with
  | [.slice a n c, .string sep] => (match a with
      | none => if n = 0 ∧ c = 0 then some (.string (bs []), H) else none
      | some a => ldc H a.block fun cs => onSome (textsOf ((cs.drop a.off).take n)) fun xs =>
          if xs.length = n ∧ 0 < n ∧ n ≤ 140737488355328 ∧ (Lib.join (xs.map (·.data.toList)) sep.data.toList).length ≤ 140737488355328 then some (.string (bs (Lib.join (xs.map (·.data.toList)) sep.data.toList)), H) else none)
  | _ => none
theorem S74 : Sound Tryz.prog 74 F74 := Sound.of_calls Tryz.func74 (by kernel_rfl) (by kernel_rfl) fun args H v H' h => by
  unfold F74 at h
  split at h
  · rename_i a n c sep
    split at h
    · split at h
      · rename_i hc
        obtain ⟨rfl, rfl⟩ := hc
        obtain ⟨rfl, rfl⟩ := Prod.mk.inj (Option.some.inj h)
        refine ⟨rfl, rfl, fun ρ w args' hR hv => ?_⟩
        obtain rfl := hv.plain_eq rfl
        refine Calls.mono' (Any.strings_Join_none Tryz.lays156 Tryz.Builder_Extra_156 none 0 sep w) ?_
        rintro e' w' ⟨rfl, rfl⟩
        exact ⟨rfl, Below.refl _ _⟩
      · cases h
    · rename_i a
      unfold ldc at h
      split at h
      · rename_i cs ez own hH
        obtain ⟨xs, hxs, h⟩ := onSome_inv h
        split at h
        · rename_i hc
          obtain ⟨hn, h0, hN, hJ⟩ := hc
          obtain ⟨rfl, rfl⟩ := Prod.mk.inj (Option.some.inj h)
          refine ⟨rfl, rfl, fun ρ w args' hR hv => ?_⟩
          obtain ⟨v1, m1, rfl, g1, hv⟩ := hv.cons_inv
          obtain ⟨v2, m2, rfl, g2, hv⟩ := hv.cons_inv
          obtain rfl := hv.nil_inv
          obtain rfl := g2.string_inv
          cases g1 with
          | slice b off _ _ cap' a' p hb hc hl ha =>
            have ha' : a' = ⟨p.blk, p.base + off, none⟩ := by
              rcases ha with ha | ha
              · omega
              · exact ha.1
            subst ha'
            obtain ⟨cc, el, fz, k1, k2, k3, k4, k5, k6⟩ := hR.obj b p _ hb hH
            have ht := textsOf_eq hxs
            subst hn
            refine Calls.mono' (Any.strings_Join Tryz.lays156 Tryz.Builder_Extra_156 p.blk (p.base + off) cap' xs sep w (fun j x hj => ?_) ?_ hN hl hJ) ?_
            · have : ((cs.drop off).take xs.length)[j]? = some (.string x) := by rw [ht, List.getElem?_map, hj]; rfl
              rw [List.getElem?_take] at this
              split at this
              · rw [List.getElem?_drop] at this
                obtain ⟨_, v', q1, q2⟩ := k5 _ _ this
                rw [q2.string_inv] at q1
                simp only [World.cell?, k1]
                rw [Nat.add_assoc]; exact q1
              · cases this
            · exact (Array.getElem?_eq_some_iff.1 k1).1
            · rintro e' w' ⟨rfl, hb'⟩
              exact ⟨rfl, hb'⟩
        · cases h
      · cases h
  · cases h

/-! ### strconv.Atoi, strings.Trim, strings.CutPrefix, strings.HasPrefix -/
def F110 : List Value → Heap → R := fun args H => match args with
  | [.string s] => if s.size ≤ 18 then onSome (Lib.atoi s.data.toList) fun n => some (.tuple #[.int .i64 n, .nilIface], H) else none
  | _ => none
theorem S110 : Sound Tryz.prog 110 F110 := Sound.of_calls Tryz.func110 (by kernel_rfl) (by kernel_rfl) fun args H v H' h => by
  unfold F110 at h
  split at h
  · rename_i s
    split at h
    · rename_i hl
      obtain ⟨n, hn, h⟩ := onSome_inv h
      obtain ⟨rfl, rfl⟩ := Prod.mk.inj (Option.some.inj h)
      refine ⟨rfl, rfl, fun ρ w args' hR hv => ?_⟩
      obtain rfl := hv.plain_eq rfl
      refine Calls.mono' (Any.strconv_Atoi Tryz.lays172 s n hl hn w) ?_
      rintro e' w' ⟨rfl, t, rfl⟩
      exact ⟨rfl, Go.Joins.below_bytesWorld _ w _ t (Nat.le_refl _)⟩
    · cases h
  · cases h
def asciiT (p : ByteArray) : Bool := p.data.toList.all fun b => decide (b.toNat < 128)
def F109 : List Value → Heap → R := fun args H => match args with
  | [.string s, .string p] => if s.size ≤ 9223372036854775807 ∧ p.size < 4294967281 ∧ asciiT p = true then some (.string (bs (Lib.trimS s.data.toList p.data.toList)), H) else none
  | _ => none
theorem S109 : Sound Tryz.prog 109 F109 := Sound.of_calls Tryz.func109 (by kernel_rfl) (by kernel_rfl) fun args H v H' h => by
  unfold F109 at h
  split at h
  · rename_i s p
    split at h
    · rename_i hc
      obtain ⟨rfl, rfl⟩ := Prod.mk.inj (Option.some.inj h)
      refine ⟨rfl, rfl, fun ρ w args' hR hv => ?_⟩
      obtain rfl := hv.plain_eq rfl
      refine Calls.mono' (Any.strings_Trim_laid Tryz.lays160 (by kernel_rfl) s p w hc.1 hc.2.1 (ascii_of_all hc.2.2)) ?_
      rintro e' w' ⟨rfl, hb⟩
      exact ⟨rfl, hb⟩
    · cases h
  · cases h
def F108 : List Value → Heap → R := fun args H => match args with
  | [.string s, .string p] => some (.tuple #[.string (bs (Lib.trimPrefix s.data.toList p.data.toList)), .bool (Lib.hasPrefix s.data.toList p.data.toList)], H)
  | _ => none
theorem S108 : Sound Tryz.prog 108 F108 := Sound.of_calls Tryz.func108 (by kernel_rfl) (by kernel_rfl) fun args H v H' h => by
  unfold F108 at h
  split at h
  · rename_i s p
    obtain ⟨rfl, rfl⟩ := Prod.mk.inj (Option.some.inj h)
    refine ⟨rfl, rfl, fun ρ w args' hR hv => ?_⟩
    obtain rfl := hv.plain_eq rfl
    refine Calls.mono' (Any.strings_CutPrefix Tryz.lays103 s p w) ?_
    rintro e' w' ⟨rfl, rfl⟩
    exact ⟨rfl, Below.refl _ _⟩
  · cases h
def F37 : List Value → Heap → R := fun args H => match args with
  | [.string s, .string p] => some (.bool (Lib.hasPrefix s.data.toList p.data.toList), H)
  | _ => none
theorem S37 : Sound Tryz.prog 37 F37 := Sound.of_calls Tryz.func37 (by kernel_rfl) (by kernel_rfl) fun args H v H' h => by
  unfold F37 at h
  split at h
  · rename_i s p
    obtain ⟨rfl, rfl⟩ := Prod.mk.inj (Option.some.inj h)
    refine ⟨rfl, rfl, fun ρ w args' hR hv => ?_⟩
    obtain rfl := hv.plain_eq rfl
    refine Calls.mono' (Any.strings_HasPrefix Tryz.lays99 s p w) ?_
    rintro e' w' ⟨rfl, rfl⟩
    exact ⟨rfl, Below.refl _ _⟩
  · cases h

/-! ### strings.IndexFunc of what is strange in a name -/
def strange (r : Nat) : Bool := decide (r ≤ 32) || decide (127 ≤ r)
theorem strange_at (w : World) : PredAt Tryz.prog 77 #[] encR strange w := fun W r _ => by
  unfold FnGives strange
  by_cases h1 : r ≤ 32 <;> by_cases h2 : 127 ≤ r
  all_goals
    have z1 : (r : Int) ≤ 32 ↔ r ≤ 32 := by omega
    have z2 : (127 : Int) ≤ (r : Int) ↔ 127 ≤ r := by omega
    go_enter Tryz.func77, Tryz.ntmps77
    go_wp2
    all_goals first | (exfalso; omega) | (go_ret; exact ⟨by simp [h1, h2], 0, rfl⟩)
def F76 : List Value → Heap → R := fun args H => match args with
  | [.string s, .func (.func g) x y] => if g = 77 ∧ x.toList = [] ∧ y.toList = [] then some (.int .i64 (Lib.idxFunc strange true s), H) else none
  | _ => none
end Go.Proofs.YtbheppfjaeocpaaGreatDoor
