/- r3: slices.Sorted of a map's keys, these whole numbers, and strings.Repeat: on the abstract heap, and as givens of concrete runs. -/
import Derived.Test.YtgnkjpbecgpjoaaGreatDoorSh5
import Derived.Test.YtgnkjpbecgpjoaaGreatDoorFwU
import Derived.Test.YtgnkjpbecgpjoaaGreatDoorFwZ
import Derived.Lib.SlKeysI
set_option linter.unusedVariables false
set_option linter.unusedSimpArgs false
namespace Go.Proofs.YtgnkjpbecgpjoaaGreatDoor
open Go Go.RowKit Go.Sort Go.Lib Go.Maps Go.Proofs.YtgnkjpbecgpjoaaGreatDoor.Fw
def intsOf : List Value → Option (List Int)
  | [] => some []
  | .int .i64 n :: r => (intsOf r).map (n :: ·)
  | _ => none
theorem intsOf_eq : ∀ {l : List Value} {ks : List Int}, intsOf l = some ks → l = ks.map (Value.int .i64)
  | [], ks, h => by cases h; rfl
  | v :: r, ks, h => by
    unfold intsOf at h
    split at h
    · rename_i e; cases e
    · rename_i n r' e
      obtain ⟨rfl, rfl⟩ := List.cons.inj e
      obtain ⟨ks', h1, rfl⟩ := Option.map_eq_some_iff.1 h
      rw [intsOf_eq h1]; rfl
    · cases h
theorem intsOf_map (ks : List Int) : intsOf (ks.map (Value.int .i64)) = some ks := by
  induction ks with
  | nil => rfl
  | cons k r ih => simp [intsOf, ih]
def keyIs (es : List (Value × Value)) : Option (List Int) := intsOf (es.map (·.1))
abbrev leN : Int → Int → Bool := fun x y => decide (x ≤ y)
noncomputable def F124 : List Value → Heap → R := fun args H => match args with
  | [.func (.func g) x y] => (match y.toList with
    | [.pointer (some ⟨b, 0, none⟩)] => (match H[b]? with
      | some (.cells [.map (some r)] ez true) => if ((g = 183 ∧ ez = tz 0 169) ∨ (g = 203 ∧ ez = tz 0 168) ∨ (g = 288 ∧ ez = tz 0 261)) ∧ x.toList = [] then ldm H r fun es => onSome (keyIs es) fun ks =>
          if ks.Nodup ∧ (∀ k ∈ ks, -9223372036854775808 ≤ k ∧ k ≤ 9223372036854775807) ∧ ks.length * 8 ≤ 140737488355328 then
            (match ks with
            | [] => some (.slice none 0 0, H)
            | _ :: _ => some (.slice (some ⟨H.length, 0, none⟩) ks.length unk, H ++ [.cells ((ks.mergeSort leN).map (Value.int .i64)) 1 true]))
          else none else none
      | _ => none)
    | _ => none)
  | _ => none
abbrev RU : Value → Option (DataW Unit × List MemPlace) := fun _ => some (.nil, [])
theorem S124 : Sound Tryz.prog 124 F124 := by
  refine .inl ⟨fun args w => enters_of Tryz.func124 (by kernel_rfl) rfl args w, fun args H v H' hF ρ w args' hR hv => ?_⟩
  unfold F124 at hF
  split at hF
  rotate_left; · cases hF
  rename_i g x y
  split at hF
  rotate_left; · cases hF
  rename_i b hy
  split at hF
  rotate_left; · cases hF
  rename_i r ez hH
  split at hF
  rotate_left; · cases hF
  rename_i hc
  obtain ⟨hg, hx⟩ := hc
  obtain ⟨es, bs', clk', hes, hF⟩ := ldm_inv hF
  obtain ⟨ks, hks, hF⟩ := onSome_inv hF
  split at hF
  rotate_left; · cases hF
  rename_i hc
  obtain ⟨hnd, hsz, hlen⟩ := hc
  obtain ⟨v1, m1, rfl, g1, hv⟩ := hv.cons_inv
  obtain rfl := hv.nil_inv
  obtain ⟨x', y', rfl, q1, q2⟩ := g1.func_inv
  rw [hx] at q1
  rw [hy] at q2
  have ex : x' = #[] := Array.toList_inj.1 q1.nil_inv
  subst ex
  obtain ⟨u, m, ey, q3, q4⟩ := q2.cons_inv
  rw [q4.nil_inv] at ey
  have ey : y' = #[u] := Array.toList_inj.1 ey
  subst ey
  obtain ⟨p, hp, _, rfl⟩ := q3.ptr_inv
  obtain ⟨c, el, fz, k1, k2, k3, k4, k5, k6⟩ := hR.obj b p _ hp hH
  have hbase : p.base = 0 := by
    rcases hg with ⟨_, rfl⟩ | ⟨_, rfl⟩ | ⟨_, rfl⟩
    · exact (k3.2 169 (tz_div 0 169)).2
    · exact (k3.2 168 (tz_div 0 168)).2
    · exact (k3.2 261 (tz_div 0 261)).2
  obtain ⟨_, v', k7, k8⟩ := k5 0 _ rfl
  obtain ⟨pm, hpm, rfl⟩ := k8.map_inv
  rw [hbase, Nat.zero_add] at k7
  simp only [hbase, Nat.zero_add]
  obtain ⟨es', n1, n2, n3, n4, n5⟩ := hR.obj r pm _ hpm hes
  let clock := clk'
  have hkeys := intsOf_eq hks
  -- the world's keys
  have hwk : es'.toList.map (·.key) = ks.map (Value.int .i64) := by
    rw [← hkeys]
    apply List.ext_getElem?
    intro i
    simp only [List.getElem?_map, Array.getElem?_toList]
    cases hi : es[i]? with
    | none =>
      have : es.length ≤ i := by simpa using hi
      rw [Array.getElem?_eq_none (by omega)]; rfl
    | some kv =>
      have hlt : i < es'.size := by rw [← n2]; exact (List.getElem?_eq_some_iff.1 hi).1
      obtain ⟨z1, _⟩ := n3 i kv.1 kv.2 es'[i] hi (by simp [hlt])
      have : (es.map (·.1))[i]? = some kv.1 := by rw [List.getElem?_map, hi]; rfl
      rw [hkeys, List.getElem?_map] at this
      obtain ⟨s, hs, e⟩ := Option.map_eq_some_iff.1 this
      rw [← e] at z1
      simp only [Array.getElem?_eq_getElem hlt, Option.map_some]
      rw [z1.int_inv, e]
  have hread : ∀ x ∈ es'.toList, ∃ s : Int, x.key = .int .i64 s ∧ -9223372036854775808 ≤ s ∧ s ≤ 9223372036854775807 := fun x hx => by
    have : x.key ∈ ks.map (Value.int .i64) := by rw [← hwk]; exact List.mem_map.2 ⟨x, hx, rfl⟩
    obtain ⟨s, hs, e⟩ := List.mem_map.1 this
    exact ⟨s, e.symm, hsz s hs⟩
  have hrd : ∀ x ∈ es'.toList, ∀ s, x.key = .int .i64 s → (-9223372036854775808 ≤ s ∧ s ≤ 9223372036854775807) → Go.WideElems.rd Tryz.prog 3 RU x = some (.int .i64 s, .nil) := fun x hx s e hs => by
    unfold Go.WideElems.rd
    have hw : (Lit.int .i64 s).wf = true := by
      simp only [Lit.wf, Bool.and_eq_true, decide_eq_true_eq]
      exact ⟨hs.1, hs.2⟩
    rw [e, keyOf_int Tryz.underlying3]
    simp [mapKey, Tryz.underlying3, hw]
  have hcnt : es'.size = ks.length := by
    have := congrArg List.length hwk
    simpa using this
  have hfit : Go.WideElems.Fit Tryz.prog 3 RU es' clock := by
    refine ⟨?_, ⟨n4.2, ?_, ?_⟩, fun x hx => ?_⟩
    · rw [hcnt]; have : maxLen = 9223372036854775807 := rfl; omega
    · exact n4.1.imp fun {a b} h => Nat.ne_of_lt h
    · rw [hwk]
      rw [List.Nodup, List.pairwise_map] at *
      refine List.Pairwise.imp (fun {a b} h e => h ?_) hnd
      injection e
    · obtain ⟨s, e, hs⟩ := hread x hx
      exact ⟨_, hrd x hx s e hs⟩
  let D0 : DataW Unit := .map ((es'.toList.map (Go.WideElems.rg Tryz.prog 3 RU)).foldr DataW.insert [])
  have hown : w.ownsMap Tryz.prog 3 RU pm.blk es'.size D0 := ⟨es', clock, n1, hfit, Nat.le_refl _, rfl⟩
  have hmapkeys : (es'.toList.map (Go.WideElems.rg Tryz.prog 3 RU)).map (fun p => Go.intOf p.1) = ks := by
    have : ks = (ks.map (Value.int .i64)).map fun v => match v with | .int _ s => s | _ => 0 := by
      rw [List.map_map]
      conv => lhs; rw [← List.map_id ks]
      rfl
    rw [this, ← hwk, List.map_map, List.map_map]
    refine List.map_congr_left fun x hx => ?_
    obtain ⟨s, e, hs⟩ := hread x hx
    simp only [Function.comp, Go.WideElems.rg_of (hrd x hx s e hs), e, Go.intOf]
  have hperm : (intKeys D0).Perm ks := by
    have hq := (Go.WideShapes.sorted_perm (es'.toList.map (Go.WideElems.rg Tryz.prog 3 RU))).map (fun p => Go.intOf p.1)
    rw [hmapkeys] at hq
    exact hq
  have hsize : Maps.size D0 = ks.length := by
    have := hperm.length_eq
    rw [← this]
    exact (show ((((es'.toList.map (Go.WideElems.rg Tryz.prog 3 RU)).foldr DataW.insert [])).map fun p => Go.intOf p.1).length = _ from List.length_map _).symm
  have hBm : p.blk < w.heap.size := (Array.getElem?_eq_some_iff.1 k1).1
  have hcell : w.cell? ⟨p.blk, 0, none⟩ = some (.map (some pm.blk)) := by simp only [World.cell?, k1]; exact k7
  have hseq : SeqGives Fence.wide 2 Tryz.prog g #[.pointer (some ⟨p.blk, 0, none⟩)] encZ (fun ss => ss.Perm (intKeys D0)) (Maps.size D0) w := by
    rcases hg with ⟨rfl, _⟩ | ⟨rfl, _⟩ | ⟨rfl, _⟩
    · exact AnyZI.keys_gives (ρ := Tryz.keys125_ren) { Tryz.keys125 with } Fence.wide _ trivial rfl (by omega) p.blk pm.blk es'.size D0 _ hBm hcell hown
    · exact AnyZI.keys_gives (ρ := Tryz.keys143_ren) { Tryz.keys143 with } Fence.wide _ trivial rfl (by omega) p.blk pm.blk es'.size D0 _ hBm hcell hown
    · exact AnyZI.keys_gives (ρ := Tryz.keys239_ren) { Tryz.keys239 with } Fence.wide _ trivial rfl (by omega) p.blk pm.blk es'.size D0 _ hBm hcell hown
  have heg : ∀ args w, (callFunc g args).run Tryz.prog w = .ok (.enter g args) w := by
    rcases hg with ⟨rfl, _⟩ | ⟨rfl, _⟩ | ⟨rfl, _⟩
    · exact enters_of Tryz.func183 (by kernel_rfl) rfl
    · exact enters_of Tryz.func203 (by kernel_rfl) rfl
    · exact enters_of Tryz.func288 (by kernel_rfl) rfl
  have hsorts : AnyZI.SortsIn Tryz.prog Tryz.sorted124_ren Fence.wide 4 :=
    ⟨fun blk off cap ss W hH hblk hsz => callsIn_wide.2 (AnyM.slices_Sort_int Tryz.sort76 blk off cap ss W hH hblk hsz),
     fun p cap W => callsIn_wide.2 (AnyM.slices_Sort_int_none Tryz.sort76 p cap W)⟩
  have hcall := callsIn_wide.1 (AnyZI.sorted_in Tryz.sorted124 Fence.wide 5 trivial trivial trivial trivial rfl (by omega) hsorts (enters_of Tryz.func76 (by kernel_rfl) rfl) g #[.pointer (some ⟨p.blk, 0, none⟩)] trivial heg _ _ (by rw [hsize]; have : maxLen = 9223372036854775807 := rfl; omega) (by rw [hsize]; exact hlen) w hseq)
  refine Calls.mono' hcall ?_
  rintro e w' ⟨vr, ss, rfl, hss, hrow, hnil, hbel⟩
  have hms : ss.mergeSort (fun x y => decide (x ≤ y)) = ks.mergeSort leN := mergeSort_of_perm_i (hss.trans hperm)
  have hsl : ss.length = ks.length := (hss.trans hperm).length_eq
  cases ks with
  | nil =>
    obtain ⟨rfl, rfl⟩ := Prod.mk.inj (Option.some.inj hF)
    have : ss = [] := List.eq_nil_of_length_eq_zero (by simpa using hsl)
    exact ⟨vr, ρ, rfl, hR.below hbel (Nat.le_refl _), Ext.below hbel (Nat.le_refl _), by rw [hnil.2 this]; exact .sliceN⟩
  | cons k0 kr =>
    obtain ⟨rfl, rfl⟩ := Prod.mk.inj (Option.some.inj hF)
    rcases hrow.2 with ⟨rfl, hz⟩ | ⟨gb, cap, cur, rfl, hgb, hcur, r1, r2, r3, r4⟩
    · rw [hsl] at hz; simp at hz
    · rw [Nat.mul_one] at r3 r4
      have hcl := congrArg List.length r4
      rw [hms] at r4
      have hor : ∀ ρ', Le ρ ρ' → OR ρ' w' ⟨gb, 0, cur.size, 1⟩ (.cells (((k0 :: kr).mergeSort leN).map (Value.int .i64)) 1 true) := fun ρ' _ => by
        have hrl : (((k0 :: kr).mergeSort leN).map (Value.int .i64)) = cur.toList.take ss.length := r4.symm
        refine ⟨cur, 3, (0, 0), hcur, rfl, ⟨rfl, fun t h => by simp [tyM] at h⟩, ?_, fun i v hv => ?_, fun _ i _ h => by simp at h⟩
        · rw [hrl, List.length_take]; simp only [Array.length_toList]; omega
        · have hv' := hv
          rw [hrl] at hv'
          rw [List.getElem?_take] at hv'
          split at hv'
          · rw [List.getElem?_map] at hv
            obtain ⟨z, _, rfl⟩ := Option.map_eq_some_iff.1 hv
            exact ⟨rfl, _, by rw [Nat.zero_add, ← Array.getElem?_toList]; exact hv', .int _ _⟩
          · cases hv'
      have hk : ∀ k, k < w.heap.size → w'.heap[k]? = w.heap[k]? := hbel.block
      refine ⟨_, ρ.ins H.length ⟨gb, 0, cur.size, 1⟩, rfl, hR.new_ge hgb hk hor, Ext.new_ge hR hgb hk hbel.size hbel.os hbel.tape hbel.output, ?_⟩
      rw [hsl]
      refine .slice H.length 0 _ _ cap _ _ (Ren.ins_self _ _ _) (.inr (unkOk _)) (by omega) (.inr ⟨rfl, ?_⟩)
      simp only [Nat.zero_add, Nat.mul_one]; omega

/-! Quick, for the kernel. -/
def insI (x : Int) : List Int → List Int
  | [] => [x]
  | y :: l => if ltI y x then y :: insI x l else x :: y :: l
def isort : List Int → List Int
  | [] => []
  | x :: l => insI x (isort l)
def incI : Int → List Int → Bool
  | a, [] => true
  | a, b :: l => ltI a b && incI b l
def rangeI : List Int → Bool
  | [] => true
  | a :: l => ltI (-9223372036854775809) a && ltI a 9223372036854775808 && rangeI l
theorem ltI_iff {a b : Int} : ltI a b = true ↔ a < b := by simp [ltI_eq]
theorem insI_perm (x : Int) : ∀ l, (insI x l).Perm (x :: l)
  | [] => .refl _
  | y :: l => by
    unfold insI
    split
    · exact ((insI_perm x l).cons y).trans (.swap x y l)
    · exact .refl _
theorem isort_perm : ∀ l, (isort l).Perm l
  | [] => .refl _
  | x :: l => (insI_perm x _).trans ((isort_perm l).cons x)
theorem incI_lt : ∀ {a : Int} {l : List Int}, incI a l = true → ∀ x ∈ l, a < x
  | a, [], _, x, hx => by cases hx
  | a, b :: l, h, x, hx => by
    simp only [incI, Bool.and_eq_true] at h
    have h1 := ltI_iff.1 h.1
    rcases List.mem_cons.1 hx with rfl | hx
    · exact h1
    · exact Int.lt_trans h1 (incI_lt h.2 x hx)
theorem incI_pw : ∀ {a : Int} {l : List Int}, incI a l = true → (a :: l).Pairwise (· < ·)
  | a, [], _ => List.pairwise_singleton _ _
  | a, b :: l, h => List.Pairwise.cons (incI_lt h) (incI_pw (by simp only [incI, Bool.and_eq_true] at h; exact h.2))
theorem rangeI_ok : ∀ {l : List Int}, rangeI l = true → ∀ k ∈ l, -9223372036854775808 ≤ k ∧ k ≤ 9223372036854775807
  | [], _, k, hk => by cases hk
  | a :: l, h, k, hk => by
    simp only [rangeI, Bool.and_eq_true] at h
    have h1 := ltI_iff.1 h.1.1
    have h2 := ltI_iff.1 h.1.2
    rcases List.mem_cons.1 hk with rfl | hk
    · omega
    · exact rangeI_ok h.2 k hk
def ints : List (Value × Value) → Option (List Int)
  | [] => some []
  | (.int .i64 n, _) :: l => (ints l).map (n :: ·)
  | _ => none
theorem ints_ok : ∀ {es : List (Value × Value)} {l : List Int}, ints es = some l → keyIs es = some l
  | [], l, h => h
  | (v, u) :: es, l, h => by
    unfold ints at h
    split at h
    · rename_i e; cases e
    · rename_i n u' r e
      obtain ⟨e1, rfl⟩ := List.cons.inj e
      obtain ⟨rfl, rfl⟩ := Prod.mk.inj e1
      obtain ⟨ks', h1, rfl⟩ := Option.map_eq_some_iff.1 h
      have := ints_ok h1
      unfold keyIs at this ⊢
      simp [intsOf, this]
    · cases h
def okB (g ez : Nat) : Bool := (Nat.beq g 183 && Nat.beq ez (tz 0 169)) || (Nat.beq g 203 && Nat.beq ez (tz 0 168)) || (Nat.beq g 288 && Nat.beq ez (tz 0 261))
noncomputable def kSorted : List Value → KH → Option (Value × KH)
  | [.func (.func g) x y], T => (match y.toList with
    | [.pointer (some ⟨b, 0, none⟩)] => (match kg T b with
      | some (.cells [.map (some r)] ez true) => (match okB g ez && x.toList.isEmpty with
        | true => sLdm T r fun es _ _ => onSome (ints es) fun l => (match isort l with
         | [] => some (.slice none 0 0, T)
         | k :: ks => (match incI k ks && rangeI (k :: ks) && Nat.ble (Nat.mul ks.length.succ 8) 140737488355328 with
           | true => kpush T (.cells ((k :: ks).map (Value.int .i64)) 1 true) fun T2 => some (.slice (some ⟨T.n, 0, none⟩) l.length unk, T2)
           | false => none))
        | false => none)
      | _ => none)
    | _ => none)
  | _, _ => none
theorem kSorted_ok {args : List Value} {T : KH} {v : Value} {T' : KH} (h : kSorted args T = some (v, T')) : F124 args T.H = some (v, T'.H) := by
  unfold kSorted at h
  split at h
  rotate_left; · cases h
  rename_i T0 g x y
  split at h
  rotate_left; · cases h
  rename_i b hy
  split at h
  rotate_left; · cases h
  rename_i r ez hb
  split at h
  rotate_left; · cases h
  rename_i hc
  simp only [Bool.and_eq_true, List.isEmpty_iff] at hc
  obtain ⟨hc1, hc2⟩ := hc
  obtain ⟨es, bs', clk, h, he, _⟩ := sLdm_ok h
  obtain ⟨l, hl, h⟩ := onSome_inv h
  have hk := ints_ok hl
  have hg : (g = 183 ∧ ez = tz 0 169) ∨ (g = 203 ∧ ez = tz 0 168) ∨ (g = 288 ∧ ez = tz 0 261) := by
    simp only [okB, Bool.or_eq_true, Bool.and_eq_true, Nat.beq_eq_true_eq] at hc1
    simpa [or_assoc] using hc1
  unfold F124
  simp only [hy, (kg_at hb).1]
  rw [if_pos ⟨hg, hc2⟩]
  simp only [ldm, he, hk, onSome]
  have hp := isort_perm l
  split at h
  · rename_i hi
    rw [hi] at hp
    obtain rfl := hp.symm.eq_nil
    obtain ⟨rfl, rfl⟩ := Prod.mk.inj (Option.some.inj h)
    simp
  · rename_i k ks hi
    split at h
    rotate_left; · cases h
    rename_i hok
    simp only [Bool.and_eq_true, Nat.ble_eq] at hok
    obtain ⟨⟨o1, o2⟩, o3⟩ := hok
    obtain ⟨T2, h1, h2⟩ := kpush_ok h
    obtain ⟨rfl, rfl⟩ := Prod.mk.inj (Option.some.inj h1)
    rw [hi] at hp
    have hpw := incI_pw o1
    have hnd : l.Nodup := hp.nodup_iff.1 (hpw.imp fun {a b} h => Int.ne_of_lt h)
    have hrg : ∀ k ∈ l, -9223372036854775808 ≤ k ∧ k ≤ 9223372036854775807 := fun q hq => rangeI_ok o2 q (hp.mem_iff.2 hq)
    have hln : l.length * 8 ≤ 140737488355328 := by
      rw [← hp.length_eq]
      exact o3
    have hms : l.mergeSort leN = k :: ks := by
      rw [← mergeSort_of_perm_i hp]
      exact List.mergeSort_of_pairwise (hpw.imp fun {a b} h => by simp only [decide_eq_true_eq]; omega)
    rw [if_pos ⟨hnd, hrg, hln⟩, hms, h2]
    cases l with
    | nil => exact absurd hp.length_eq (by simp)
    | cons a r => simp only [KH.len]
noncomputable def g124 : Giv := ⟨kSorted, F124⟩
theorem g124_ok : EntOk Tryz.prog 124 (.giv g124) := ⟨S124, fun args T v T' h => kSorted_ok h⟩
/-! strings.Repeat -/
def repL (l : List UInt8) (n : Nat) : List UInt8 := Nat.rec [] (fun _ r => l ++ r) n
theorem repL_eq (l : List UInt8) : ∀ n, repL l n = Lib.repeatL l n
  | 0 => rfl
  | n + 1 => by show l ++ repL l n = _; rw [repL_eq l n]; rfl
noncomputable def rpV : List Value → Option Value
  | [.string s, .int .i64 (.ofNat n)] => (match Nat.ble n 9223372036854775807 && Nat.ble (Nat.mul s.size n) 140737488355328 with
    | true => some (.string ⟨(repL s.data.toList n).toArray⟩)
    | false => none)
  | _ => none
noncomputable def rp : List Value → KH → KR := fun args T => onSome (rpV args) fun v => some (v, T)
noncomputable def F284 : List Value → Heap → R := fun args H => onSome (rpV args) fun v => some (v, H)
theorem S284 : Sound Tryz.prog 284 F284 := Sound.of_calls Tryz.func284 (by kernel_rfl) (by kernel_rfl) fun args H v H' h => by
  obtain ⟨u, h1, h2⟩ := onSome_inv h
  obtain ⟨rfl, rfl⟩ := Prod.mk.inj (Option.some.inj h2)
  unfold rpV at h1
  split at h1
  rotate_left; · cases h1
  rename_i s n
  split at h1
  rotate_left; · cases h1
  rename_i hc
  simp only [Bool.and_eq_true, Nat.ble_eq] at hc
  obtain rfl := Option.some.inj h1
  refine ⟨rfl, rfl, fun ρ w args' hR hv => ?_⟩
  obtain ⟨v1, m1, rfl, g1, hv⟩ := hv.cons_inv
  obtain ⟨v2, m2, rfl, g2, hv⟩ := hv.cons_inv
  obtain rfl := hv.nil_inv
  obtain rfl := g1.string_inv
  obtain rfl := g2.int_inv
  rw [repL_eq]
  exact Tryz.strings_Repeat s n w hc.1 hc.2
noncomputable def g284 : Giv := ⟨rp, F284⟩
theorem g284_ok : EntOk Tryz.prog 284 (.giv g284) := ⟨S284, fun args T v T' h => by
  obtain ⟨u, h1, h2⟩ := onSome_inv h
  obtain ⟨rfl, rfl⟩ := Prod.mk.inj (Option.some.inj h2)
  show onSome _ _ = _
  rw [h1]; rfl⟩
def isT (r : KR) : Bool := match r with | some (.bool true, _) => true | _ => false
end Go.Proofs.YtgnkjpbecgpjoaaGreatDoor
