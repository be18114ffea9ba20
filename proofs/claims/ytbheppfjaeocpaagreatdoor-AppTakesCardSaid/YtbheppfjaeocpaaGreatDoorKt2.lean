/- r2: strings.IndexFunc, slices.Sorted of a map's keys, maps.Clone, on the abstract heap. -/
import Derived.Test.YtbheppfjaeocpaaGreatDoorKt
set_option linter.unusedVariables false
set_option linter.unusedSimpArgs false
namespace Go.Proofs.YtbheppfjaeocpaaGreatDoor
open Go Go.RowKit Go.Sort Go.Lib Go.Maps Go.Proofs.YtbheppfjaeocpaaGreatDoor.Fw

theorem S76 : Sound Tryz.prog 76 F76 := Sound.of_calls Tryz.func76 (by kernel_rfl) (by kernel_rfl) fun args H v H' h => by
  unfold F76 at h
  split at h
  · rename_i s g x y
    split at h
    · rename_i hc
      obtain ⟨rfl, hx, hy⟩ := hc
      obtain ⟨rfl, rfl⟩ := Prod.mk.inj (Option.some.inj h)
      refine ⟨rfl, rfl, fun ρ w args' hR hv => ?_⟩
      obtain ⟨v1, m1, rfl, g1, hv⟩ := hv.cons_inv
      obtain ⟨v2, m2, rfl, g2, hv⟩ := hv.cons_inv
      obtain rfl := hv.nil_inv
      obtain rfl := g1.string_inv
      obtain ⟨x', y', rfl, q1, q2⟩ := g2.func_inv
      rw [hx] at q1
      rw [hy] at q2
      have ex : x' = #[] := Array.toList_inj.1 q1.nil_inv
      have ey : y' = #[] := Array.toList_inj.1 q2.nil_inv
      subst ex ey
      exact Any.strings_IndexFunc Tryz.laysGw15 77 #[] (enters_of Tryz.func77 (by kernel_rfl) rfl) strange s w (strange_at w)
    · cases h
  · cases h

/-! ### slices.Sorted of a map's keys -/
def keyTx (es : List (Value × Value)) : Option (List ByteArray) := textsOf (es.map (·.1))
noncomputable def F31 : List Value → Heap → R := fun args H => match args with
  | [.func (.func g) x y] => (match y.toList with
    | [.pointer (some ⟨b, 0, none⟩)] => (match H[b]? with
      | some (.cells [.map (some r)] ez true) => if g = 43 ∧ x.toList = [] ∧ ez = tz 0 29 then ldm H r fun es => onSome (keyTx es) fun ks =>
          if (ks.map (·.data.toList)).Nodup ∧ (∀ k ∈ ks, k.size ≤ maxLen) ∧ ks.length * 16 ≤ 140737488355328 then
            (match ks with
            | [] => some (.slice none 0 0, H)
            | _ :: _ => some (.slice (some ⟨H.length, 0, none⟩) ks.length unk, H ++ [.cells (((ks.map (·.data.toList)).mergeSort leB).map fun k => .string (bs k)) 1 true]))
          else none else none
      | _ => none)
    | _ => none)
  | _ => none
abbrev RU : Value → Option (DataW Unit × List MemPlace) := fun _ => some (.nil, [])
theorem S31 : Sound Tryz.prog 31 F31 := by
  refine .inl ⟨fun args w => enters_of Tryz.func31 (by kernel_rfl) rfl args w, fun args H v H' hF ρ w args' hR hv => ?_⟩
  unfold F31 at hF
  split at hF
  rotate_left; · cases hF
  rename_i g x y
  split at hF
  rotate_left; · cases hF
  rename_i b hy
  split at hF
  rotate_left; · cases hF
  rename_i r ez hH
  split at hF
  rotate_left; · cases hF
  rename_i hc
  obtain ⟨rfl, hx, rfl⟩ := hc
  obtain ⟨es, hes, hF⟩ := ldm_inv hF
  obtain ⟨ks, hks, hF⟩ := onSome_inv hF
  split at hF
  rotate_left; · cases hF
  rename_i hc
  obtain ⟨hnd, hsz, hlen⟩ := hc
  obtain ⟨v1, m1, rfl, g1, hv⟩ := hv.cons_inv
  obtain rfl := hv.nil_inv
  obtain ⟨x', y', rfl, q1, q2⟩ := g1.func_inv
  rw [hx] at q1
  rw [hy] at q2
  have ex : x' = #[] := Array.toList_inj.1 q1.nil_inv
  subst ex
  obtain ⟨u, m, ey, q3, q4⟩ := q2.cons_inv
  rw [q4.nil_inv] at ey
  have ey : y' = #[u] := Array.toList_inj.1 ey
  subst ey
  obtain ⟨p, hp, _, rfl⟩ := q3.ptr_inv
  obtain ⟨c, el, fz, k1, k2, k3, k4, k5, k6⟩ := hR.obj b p _ hp hH
  have hbase : p.base = 0 := (k3.2 29 (tz_div 0 29)).2
  obtain ⟨_, v', k7, k8⟩ := k5 0 _ rfl
  obtain ⟨pm, hpm, rfl⟩ := k8.map_inv
  rw [hbase, Nat.zero_add] at k7
  simp only [hbase, Nat.zero_add]
  obtain ⟨es', clock, n1, n2, n3, n4⟩ := hR.obj r pm _ hpm hes
  have hkeys := textsOf_eq hks
  -- the world's keys
  have hwk : es'.toList.map (·.key) = ks.map Value.string := by
    rw [← hkeys]
    apply List.ext_getElem?
    intro i
    simp only [List.getElem?_map, Array.getElem?_toList]
    cases hi : es[i]? with
    | none =>
      have : es.length ≤ i := by simpa using hi
      rw [Array.getElem?_eq_none (by omega)]; rfl
    | some kv =>
      have hlt : i < es'.size := by rw [← n2]; exact (List.getElem?_eq_some_iff.1 hi).1
      obtain ⟨z1, _⟩ := n3 i kv.1 kv.2 es'[i] hi (by simp [hlt])
      have : (es.map (·.1))[i]? = some kv.1 := by rw [List.getElem?_map, hi]; rfl
      rw [hkeys, List.getElem?_map] at this
      obtain ⟨s, hs, e⟩ := Option.map_eq_some_iff.1 this
      rw [← e] at z1
      simp only [Array.getElem?_eq_getElem hlt, Option.map_some]
      rw [z1.string_inv, e]
  have hread : ∀ x ∈ es'.toList, ∃ s : ByteArray, x.key = .string s ∧ s.size ≤ maxLen := fun x hx => by
    have : x.key ∈ ks.map Value.string := by rw [← hwk]; exact List.mem_map.2 ⟨x, hx, rfl⟩
    obtain ⟨s, hs, e⟩ := List.mem_map.1 this
    exact ⟨s, e.symm, hsz s hs⟩
  have hrd : ∀ x ∈ es'.toList, ∀ s, x.key = .string s → s.size ≤ maxLen → Go.WideElems.rd Tryz.prog 9 RU x = some (.string s.data.toList, .nil) := fun x hx s e hs => by
    unfold Go.WideElems.rd
    rw [e, Go.WideMaps.keyOf_string_mk Tryz.underlying9 hs]; rfl
  have hcnt : es'.size = ks.length := by
    have := congrArg List.length hwk
    simpa using this
  have hfit : Go.WideElems.Fit Tryz.prog 9 RU es' clock := by
    refine ⟨?_, ⟨n4.2, ?_, ?_⟩, fun x hx => ?_⟩
    · rw [hcnt]; have : maxLen = 9223372036854775807 := rfl; omega
    · exact n4.1.imp fun {a b} h => Nat.ne_of_lt h
    · rw [hwk]
      have : (ks.map (·.data.toList)).Nodup := hnd
      rw [List.Nodup, List.pairwise_map] at this ⊢
      refine List.Pairwise.imp (fun {a b} h e => h ?_) this
      injection e with e
      rw [e]
    · obtain ⟨s, e, hs⟩ := hread x hx
      exact ⟨_, hrd x hx s e hs⟩
  let D0 : DataW Unit := .map ((es'.toList.map (Go.WideElems.rg Tryz.prog 9 RU)).foldr DataW.insert [])
  have hown : w.ownsMap Tryz.prog 9 RU pm.blk es'.size D0 := ⟨es', clock, n1, hfit, Nat.le_refl _, rfl⟩
  have hmapkeys : (es'.toList.map (Go.WideElems.rg Tryz.prog 9 RU)).map (fun p => strOf p.1) = ks.map (·.data.toList) := by
    have : ks.map (fun k : ByteArray => k.data.toList) = (ks.map Value.string).map fun v => match v with | .string s => s.data.toList | _ => [] := by rw [List.map_map]; rfl
    rw [this, ← hwk, List.map_map, List.map_map]
    refine List.map_congr_left fun x hx => ?_
    obtain ⟨s, e, hs⟩ := hread x hx
    simp only [Function.comp, Go.WideElems.rg_of (hrd x hx s e hs), e, strOf]
  have hperm : (strKeys D0).Perm (ks.map (·.data.toList)) := by
    rw [← hmapkeys]
    exact (Go.WideShapes.sorted_perm _).map _
  have hsize : Maps.size D0 = ks.length := by
    have := hperm.length_eq
    rw [List.length_map] at this
    rw [← this]
    exact (show ((((es'.toList.map (Go.WideElems.rg Tryz.prog 9 RU)).foldr DataW.insert [])).map fun p => strOf p.1).length = _ from List.length_map _).symm
  have hBm : p.blk < w.heap.size := (Array.getElem?_eq_some_iff.1 k1).1
  have hcell : w.cell? ⟨p.blk, 0, none⟩ = some (.map (some pm.blk)) := by simp only [World.cell?, k1]; exact k7
  have hseq : SeqGives Fence.wide 2 Tryz.prog 43 #[.pointer (some ⟨p.blk, 0, none⟩)] encStr (fun ss => ss.Perm (strKeys D0)) (Maps.size D0) w :=
    AnyZ.keys_gives (ρ := Tryz.keys32_ren) { Tryz.keys32 with } Fence.wide _ trivial rfl (by omega) p.blk pm.blk es'.size D0 _ hBm hcell hown
  have hsorts : AnyZ.SortsIn Tryz.prog Tryz.sorted31_ren Fence.wide 4 :=
    ⟨fun blk off cap ss W hH hblk hsz => callsIn_wide.2 (AnyM.slices_Sort_string Tryz.sort42 blk off cap ss W hH hblk hsz),
     fun p cap W => callsIn_wide.2 (AnyM.slices_Sort_string_none Tryz.sort42 p cap W)⟩
  have hcall := callsIn_wide.1 (AnyZ.sorted_in Tryz.sorted31 Fence.wide 5 trivial trivial trivial trivial rfl (by omega) hsorts (enters_of Tryz.func42 (by kernel_rfl) rfl) 43 #[.pointer (some ⟨p.blk, 0, none⟩)] trivial (enters_of Tryz.func43 (by kernel_rfl) rfl) _ _ (by rw [hsize]; have : maxLen = 9223372036854775807 := rfl; omega) (by rw [hsize]; exact hlen) w hseq)
  refine Calls.mono' hcall ?_
  rintro e w' ⟨vr, ss, rfl, hss, hrow, hnil, hbel⟩
  have hms : ss.mergeSort (fun x y => decide (x ≤ y)) = (ks.map (·.data.toList)).mergeSort leB := mergeSort_of_perm (hss.trans hperm)
  have hsl : ss.length = ks.length := by rw [(hss.trans hperm).length_eq, List.length_map]
  cases ks with
  | nil =>
    obtain ⟨rfl, rfl⟩ := Prod.mk.inj (Option.some.inj hF)
    have : ss = [] := List.eq_nil_of_length_eq_zero (by simpa using hsl)
    exact ⟨vr, ρ, rfl, hR.below hbel (Nat.le_refl _), Ext.below hbel (Nat.le_refl _), by rw [hnil.2 this]; exact .sliceN⟩
  | cons k0 kr =>
    obtain ⟨rfl, rfl⟩ := Prod.mk.inj (Option.some.inj hF)
    rcases hrow.2 with ⟨rfl, hz⟩ | ⟨gb, cap, cur, rfl, hgb, hcur, r1, r2, r3, r4⟩
    · rw [hsl] at hz; simp at hz
    · rw [Nat.mul_one] at r3 r4
      have hcl := congrArg List.length r4
      rw [hms] at r4
      have hor : ∀ ρ', Le ρ ρ' → OR ρ' w' ⟨gb, 0, cur.size, 1⟩ (.cells ((((k0 :: kr).map (·.data.toList)).mergeSort leB).map fun k => .string (bs k)) 1 true) := fun ρ' _ => by
        have hrl : ((((k0 :: kr).map (fun k : ByteArray => k.data.toList)).mergeSort leB).map fun k => Value.string (bs k)) = cur.toList.take ss.length := r4.symm
        refine ⟨cur, 9, (0, 0), hcur, rfl, ⟨rfl, fun t h => by simp [tyM] at h⟩, ?_, fun i v hv => ?_, fun _ i _ h => by simp at h⟩
        · rw [hrl, List.length_take]; simp only [Array.length_toList]; omega
        · have hv' := hv
          rw [hrl] at hv'
          rw [List.getElem?_take] at hv'
          split at hv'
          · rw [List.getElem?_map] at hv
            obtain ⟨z, _, rfl⟩ := Option.map_eq_some_iff.1 hv
            exact ⟨rfl, _, by rw [Nat.zero_add, ← Array.getElem?_toList]; exact hv', .string _⟩
          · cases hv'
      have hk : ∀ k, k < w.heap.size → w'.heap[k]? = w.heap[k]? := hbel.block
      refine ⟨_, ρ.ins H.length ⟨gb, 0, cur.size, 1⟩, rfl, hR.new_ge hgb hk hor, Ext.new_ge hR hgb hk hbel.size hbel.os hbel.tape hbel.output, ?_⟩
      rw [hsl]
      refine .slice H.length 0 _ _ cap _ _ (Ren.ins_self _ _ _) (.inr rfl) (by omega) (.inr ⟨rfl, ?_⟩)
      simp only [Nat.zero_add, Nat.mul_one]; omega

/-! ### maps.Clone -/
def F33 : List Value → Heap → R := fun args H => match args with
  | [.map (some r)] => ldm H r fun es => some (.map (some H.length), H ++ [.map es])
  | _ => none
theorem S33 : Sound Tryz.prog 33 F33 := by
  refine .inl ⟨fun args w => enters_of Tryz.func33 (by kernel_rfl) rfl args w, fun args H v H' hF ρ w args' hR hv => ?_⟩
  unfold F33 at hF
  split at hF
  rotate_left; · cases hF
  rename_i r
  obtain ⟨es, hes, hF⟩ := ldm_inv hF
  obtain ⟨rfl, rfl⟩ := Prod.mk.inj (Option.some.inj hF)
  obtain ⟨v1, m1, rfl, g1, hv⟩ := hv.cons_inv
  obtain rfl := hv.nil_inv
  obtain ⟨pm, hpm, rfl⟩ := g1.map_inv
  obtain ⟨es', clock, n1, n2, n3, n4⟩ := hR.obj r pm _ hpm hes
  refine Calls.mono' (AnyW.maps_Clone Tryz.clone33 pm.blk es' clock w n1) ?_
  rintro e w' ⟨rfl, rfl⟩
  have hor : ∀ ρ', Le ρ ρ' → OR ρ' (w.alloc (.map es' clock)) ⟨w.heap.size, 0, 0, 0⟩ (.map es) := fun ρ' hle =>
    ⟨es', clock, heap_new w _, n2, fun i k v e a b => let ⟨x, y⟩ := n3 i k v e a b; ⟨x.mono hle, y.mono hle⟩, n4⟩
  have hk : ∀ k, k < w.heap.size → (w.alloc (.map es' clock)).heap[k]? = w.heap[k]? := fun k hk => Below.heap_alloc _ _ _ hk
  exact ⟨_, ρ.ins H.length ⟨w.heap.size, 0, 0, 0⟩, rfl, hR.new_ge (Nat.le_refl _) hk hor, Ext.new_ge hR (Nat.le_refl _) hk (by show _ ≤ (w.heap.push _).size; simp) rfl rfl rfl, .map _ _ (Ren.ins_self _ _ _)⟩
end Go.Proofs.YtbheppfjaeocpaaGreatDoor
