/- r4: slices.Collect of the keys of a map that is empty: nothing. Conditions: none. -/
import Derived.Test.YtgnkjpbecgpjoaaGreatDoorPf
import Derived.Test.YtgnkjpbecgpjoaaGreatDoorFwU
import Derived.Test.YtgnkjpbecgpjoaaGreatDoorLz5
import Derived.RangeFuncFrom
import Derived.RangeFuncWrites
import Derived.RangeFuncMany
import Derived.Shelf.SlIterI.Collect
set_option linter.unusedVariables false
set_option linter.unusedSimpArgs false
namespace Go.Proofs.YtgnkjpbecgpjoaaGreatDoor
open Go Go.RowKit Go.Sort Go.Lib Go.Maps Go.Proofs Go.Proofs.YtgnkjpbecgpjoaaGreatDoor.Fw
def cfL (Bm b n clk : Nat) : List (Pl × AObj) := globL ++ [(⟨Bm, 0, n, 1⟩, .cells [.map (some 10)] 1 false), (⟨b, 0, 0, 0⟩, .map [] [] clk)]
theorem cf_at {Bm b n clk : Nat} {i : Nat} {p : Pl} {o : AObj} (hb : ini (cfL Bm b n clk) i = some p) (ho : (iniH (cfL Bm b n clk))[i]? = some o) : (cfL Bm b n clk)[i]? = some (p, o) := by
  simp only [ini, iniH, List.getElem?_map, Option.map_eq_some_iff] at hb ho
  obtain ⟨x, hx, rfl⟩ := hb
  obtain ⟨y, hy, rfl⟩ := ho
  rw [hx] at hy; obtain rfl := Option.some.inj hy; exact hx
theorem cf_cases {Bm b n clk : Nat} {i : Nat} {p : Pl} {o : AObj} (h : (cfL Bm b n clk)[i]? = some (p, o)) : (i < 9 ∧ o = .dead) ∨ (i = 9 ∧ p = ⟨Bm, 0, n, 1⟩ ∧ o = .cells [.map (some 10)] 1 false) ∨ (i = 10 ∧ p = ⟨b, 0, 0, 0⟩ ∧ o = .map [] [] clk) := by
  match i, h with
  | 0, h => cases h; exact .inl ⟨by omega, rfl⟩
  | 1, h => cases h; exact .inl ⟨by omega, rfl⟩
  | 2, h => cases h; exact .inl ⟨by omega, rfl⟩
  | 3, h => cases h; exact .inl ⟨by omega, rfl⟩
  | 4, h => cases h; exact .inl ⟨by omega, rfl⟩
  | 5, h => cases h; exact .inl ⟨by omega, rfl⟩
  | 6, h => cases h; exact .inl ⟨by omega, rfl⟩
  | 7, h => cases h; exact .inl ⟨by omega, rfl⟩
  | 8, h => cases h; exact .inl ⟨by omega, rfl⟩
  | 9, h => cases h; exact .inr (.inl ⟨rfl, rfl, rfl⟩)
  | 10, h => cases h; exact .inr (.inr ⟨rfl, rfl, rfl⟩)
  | i + 11, h => simp [cfL, globL] at h
theorem cf_rel {w : World} {Bm b clk : Nat} {c : Array Value} {el : TypeId} {fz : Nat × Nat} (hB : w.heap[Bm]? = some (.cells c el fz)) (hc : c[0]? = some (.map (some b))) (hm : w.heap[b]? = some (.map #[] clk)) : Rel (ini (cfL Bm b c.size clk)) (iniH (cfL Bm b c.size clk)) w := by
  have hne : Bm ≠ b := fun e => by subst e; rw [hB] at hm; cases hm
  refine ⟨fun i p hb => ?_, fun i p o hb ho => ?_, fun i j p q o o' hb hb' ho ho' h1 h2 h3 => ?_, globL_glob _⟩
  · simp only [ini, Option.map_eq_some_iff] at hb
    obtain ⟨x, hx, _⟩ := hb
    have := (List.getElem?_eq_some_iff.1 hx).1
    simpa [iniH] using this
  · rcases cf_cases (cf_at hb ho) with ⟨_, rfl⟩ | ⟨rfl, rfl, rfl⟩ | ⟨rfl, rfl, rfl⟩
    · exact trivial
    · have hs : 0 < c.size := (Array.getElem?_eq_some_iff.1 hc).1
      refine ⟨c, el, fz, hB, rfl, ⟨by simp [tyM], fun t h => by simp [tyM] at h⟩, by simp; omega, fun k v hv => ?_, fun h => by cases h⟩
      cases k with
      | zero =>
        obtain rfl := Option.some.inj hv
        exact ⟨rfl, _, hc, VR.map (ρ := ini (cfL Bm b c.size clk)) 10 ⟨b, 0, 0, 0⟩ rfl⟩
      | succ k => simp at hv
    · exact ⟨#[], hm, rfl, fun i k v e h => by simp at h, (⟨List.Pairwise.nil, fun x h => by cases h⟩ : Brn [] clk), rfl⟩
  · rcases cf_cases (cf_at hb ho) with ⟨_, rfl⟩ | ⟨rfl, rfl, rfl⟩ | ⟨rfl, rfl, rfl⟩
    · cases h1
    · cases h1
    · rcases cf_cases (cf_at hb' ho') with ⟨_, rfl⟩ | ⟨rfl, rfl, rfl⟩ | ⟨rfl, rfl, rfl⟩
      · cases h2
      · exact fun e => hne e.symm
      · exact absurd rfl h3
theorem cf_owns {Bm b n clk k : Nat} (h : Owns (ini (cfL Bm b n clk)) (iniH (cfL Bm b n clk)) k) : k = b := by
  obtain ⟨i, p, o, hb, ho, hown, rfl⟩ := h
  rcases cf_cases (cf_at hb ho) with ⟨_, rfl⟩ | ⟨rfl, rfl, rfl⟩ | ⟨rfl, rfl, rfl⟩
  · cases hown
  · cases hown
  · rfl
/-! The iterator: it gives nothing. -/
noncomputable def cfK (clk : Nat) : KH := ⟨11, .n none (.n none .e (.n none (.n (some (.cells [.map (some 10)] 1 false)) .e .e) .e)) (.n none .e (.n none (.n (some (.map [] [] clk)) .e .e) .e))⟩
theorem cfK_H (Bm b n clk : Nat) : (cfK clk).H = iniH (cfL Bm b n clk) := by
  apply List.ext_getElem?
  intro i
  rw [KH.at_]
  match i with
  | 0 => rfl
  | 1 => rfl
  | 2 => rfl
  | 3 => rfl
  | 4 => rfl
  | 5 => rfl
  | 6 => rfl
  | 7 => rfl
  | 8 => rfl
  | 9 => rfl
  | 10 => rfl
  | i + 11 => rw [if_neg (show ¬ i + 11 < (cfK clk).n from by show ¬ i + 11 < 11; omega)]; simp [cfL, globL, iniH]
noncomputable def cfO (r : KR) : Option Nat := match r with
  | some (.tuple _, T) => (match kg T 10 with | some (.map [] [] c) => some c | _ => none)
  | _ => none
theorem cf_run (l clk : Nat) : cfO (kcall Tryz.prog EF 10 2 185 [.chan none, .pointer (some ⟨9, 0, none⟩)] (cfK clk)) = some clk := by kernel_rfl
theorem cf_some (l clk : Nat) : ∃ v T, kcall Tryz.prog EF 10 2 185 [.chan none, .pointer (some ⟨9, 0, none⟩)] (cfK clk) = some (v, T) ∧ T.H[10]? = some (.map [] [] clk) := by
  have h := cf_run l clk
  unfold cfO at h
  split at h
  · rename_i x T e
    split at h
    · rename_i c hk
      obtain rfl := Option.some.inj h
      exact ⟨_, T, e, (kg_at hk).1⟩
    · cases h
  · cases h
/-- maps.Keys's iterator of a map that is empty. -/
theorem cf_keys {w : World} {Bm b clk : Nat} {c : Array Value} {el : TypeId} {fz : Nat × Nat} (hB : w.heap[Bm]? = some (.cells c el fz)) (hc : c[0]? = some (.map (some b))) (hm : w.heap[b]? = some (.map #[] clk)) (l : Nat) :
    Calls Tryz.prog 185 #[.func (.yield l) #[] #[], .pointer (some ⟨Bm, 0, none⟩)] w fun e w' => (∃ v, e = .returned v) ∧ w.grownBy w' none := by
  obtain ⟨v, T, hk, h10⟩ := cf_some l clk
  have hF := kcall_sound EF_ok 2 185 _ _ _ _ hk
  rw [cfK_H Bm b c.size clk] at hF
  have hS : Sound Tryz.prog 185 (FL Tryz.prog EF 2 185) := FL_sound EF_ok 2 185
  have he : ∀ args w, (callFunc 185 args).run Tryz.prog w = .ok (.enter 185 args) w := fun args w => enters_of Tryz.func185 (by kernel_rfl) rfl args w
  have hE : Entered Tryz.prog 185 (FL Tryz.prog EF 2 185) := by
    rcases hS with hs | hs
    · exact hs
    · obtain ⟨v', ρ', w', h0, _⟩ := hs _ _ _ _ hF (ini (cfL Bm b c.size clk)) w [.func (.yield l) #[] #[], .pointer (some ⟨Bm, 0, none⟩)] (cf_rel hB hc hm) (VL.cons (VR.hole _ rfl) (VL.cons (VR.ptr (ρ := ini (cfL Bm b c.size clk)) 9 0 ⟨Bm, 0, c.size, 1⟩ rfl) VL.nil))
      rw [he] at h0; cases h0
  refine Calls.mono' (hE.calls _ _ _ _ hF (ini (cfL Bm b c.size clk)) w [.func (.yield l) #[] #[], .pointer (some ⟨Bm, 0, none⟩)] (cf_rel hB hc hm) (VL.cons (VR.hole _ rfl) (VL.cons (VR.ptr (ρ := ini (cfL Bm b c.size clk)) 9 0 ⟨Bm, 0, c.size, 1⟩ rfl) VL.nil))) ?_
  rintro e w' ⟨v', ρ', rfl, h1, h2, h3⟩
  refine ⟨⟨v', rfl⟩, h2.os, h2.tape, h2.output, h2.size, fun k hk _ => ?_⟩
  by_cases e : k = b
  · subst e
    obtain ⟨es', q1, q2, _⟩ := h1.obj 10 ⟨k, 0, 0, 0⟩ _ (h2.mono 10 ⟨k, 0, 0, 0⟩ rfl) h10
    have : es' = #[] := Array.eq_empty_of_size_eq_zero (by simpa using q2.symm)
    rw [q1, hm, this]
  · exact h2.keep k hk fun ho => e (cf_owns ho)
theorem cf_seq {w : World} {Bm b clk : Nat} {c : Array Value} {el : TypeId} {fz : Nat × Nat} (hB : w.heap[Bm]? = some (.cells c el fz)) (hc : c[0]? = some (.map (some b))) (hm : w.heap[b]? = some (.map #[] clk)) (n : Nat) :
    SeqStopsK Fence.wide n Tryz.prog 185 #[.pointer (some ⟨Bm, 0, none⟩)] (fun x : Empty => x.elim) KeepsWalks (fun _ => True) (fun _ => False) 0 w := by
  intro l J Jx W hW hJ hJx hY h0
  have lt : ∀ {k : Nat} {o : Obj}, w.heap[k]? = some o → W.heap[k]? = some o := fun {k o} h => (hW.block k (Array.getElem?_eq_some_iff.1 h).1).trans h
  refine callsIn_wide.2 (Calls.mono' (cf_keys (lt hB) hc (lt hm) l) ?_)
  rintro e w' ⟨h1, h2⟩
  exact ⟨h1, .inl ⟨[], trivial, hJ [] W w' none h0 h2 (fun r e => by cases e)⟩⟩
/-- slices.AppendSeq over it. -/
theorem cf_append {w : World} {Bm b clk : Nat} {c : Array Value} {el : TypeId} {fz : Nat × Nat} (hB : w.heap[Bm]? = some (.cells c el fz)) (hc : c[0]? = some (.map (some b))) (hm : w.heap[b]? = some (.map #[] clk)) (n : Nat) (hn : 2 ≤ n) :
    CallsIn Fence.wide n Tryz.prog 184 #[.slice none 0 0, .func (.func 185) #[] #[.pointer (some ⟨Bm, 0, none⟩)]] w fun e w' => e = .returned (.slice none 0 0) ∧ Below w.heap.size w w' := by
  have h1 : 1 ≤ n := by omega
  have mixed : Tryz.prog.follows .mixedOrders = true := by kernel_rfl
  have t0 := Tryz.underlying0; have a0 := Tryz.isAgg0; have z0 := Tryz.sizeOf0; have v0 := Tryz.zeroValue0
  have t24 := Tryz.underlying247; have a24 := Tryz.isAgg247; have z24 := Tryz.sizeOf247; have v24 := Tryz.zeroValue247
  have t26 := Tryz.underlying210; have a26 := Tryz.isAgg210; have z26 := Tryz.sizeOf210; have v26 := Tryz.zeroValue210
  have t28 := Tryz.underlying250; have a28 := Tryz.isAgg250; have z28 := Tryz.sizeOf250; have v28 := Tryz.zeroValue250
  have u0 := run_underlying t0; have u24 := run_underlying t24; have u26 := run_underlying t26; have u28 := run_underlying t28
  have hnt : Tryz.f184.ntmps = 13 := by kernel_rfl
  refine callsIn_of_wp_marks Tryz.func184 rfl trivial ?_ rfl
  simp only [hnt, List.size_toArray, List.length_cons, List.length_nil, Nat.reduceAdd, Nat.reduceSub, Array.replicate_succ, Array.replicate_zero, List.push_toArray, List.append_toArray, List.nil_append, List.cons_append]
  gi_wp2
  refine wpIn_rangeFunc_ownF (F := Fence.wide) (α := Empty) rfl h1 (gf := 185) (lb := #[.pointer (some ⟨Bm, 0, none⟩)]) rfl trivial (fun args w => enters_of Tryz.func185 (by kernel_rfl) rfl args w) (cf_seq hB hc hm (n - 1)) walksK_t walksK_b
    ((Below.refl w.heap.size w).alloc (Nat.le_refl _) _) (fun x => x.elim) (fun _ W => W.heap[w.heap.size]? = some (.cells #[.slice none 0 0] 247 (0, 0)) ∧ Below w.heap.size w W) (fun _ _ _ => False) ?_ (fun c s W W' row h => h.elim)
    ⟨World.alloc_heap_new w _, (Below.refl w.heap.size w).alloc (Nat.le_refl _) _⟩ (fun x => x.elim) (fun l x => x.elim) (fun l pre x => x.elim) ?_ (fun D c pre W _ h => h.elim)
  · rintro s W W' row ⟨h2, h3⟩ hg hr
    refine ⟨(hg.block _ (Array.getElem?_eq_some_iff.1 h2).1 fun e => ?_).trans h2, h3.grown hg h3.size fun k e => ?_⟩
    · obtain ⟨_, o, ho, hcc⟩ := hr _ e.symm
      rw [h2] at ho; cases ho; cases hcc
    · have := (hr k e).1
      simp at this
      omega
  · rintro D xs W hD _ ⟨h2, h3⟩ hK
    obtain ⟨hc3, hf3⟩ := cell_of_box_a h2
    gi_wp2
    have hD : w.heap.size < D := by simp at hD; omega
    refine ⟨by simp, .inl ⟨_, _, rfl, run_takeDeferred hK, ?_⟩⟩
    exact ⟨_, results_tmp rfl _ _ _, rfl, h3.grown (grownBy_putObj_a _ _ _) h3.size (fun k e => by cases e; omega)⟩
/-- slices.Collect of it. -/
theorem cf_collect {w : World} {Bm b clk : Nat} {c : Array Value} {el : TypeId} {fz : Nat × Nat} (hB : w.heap[Bm]? = some (.cells c el fz)) (hc : c[0]? = some (.map (some b))) (hm : w.heap[b]? = some (.map #[] clk)) :
    Calls Tryz.prog 127 #[.func (.func 185) #[] #[.pointer (some ⟨Bm, 0, none⟩)]] w fun e w' => e = .returned (.slice none 0 0) ∧ Below w.heap.size w w' := by
  refine (callsIn_wide (n := 4)).1 ?_
  have h1 : 1 ≤ 4 := by omega
  have e184 : ∀ args w, (callFunc 184 args).run Tryz.prog w = .ok (.enter 184 args) w := fun args w => enters_of Tryz.func184 (by kernel_rfl) rfl args w
  have mixed : Tryz.prog.follows .mixedOrders = true := by kernel_rfl
  have t0 := Tryz.underlying0; have a0 := Tryz.isAgg0; have z0 := Tryz.sizeOf0; have v0 := Tryz.zeroValue0
  have t24 := Tryz.underlying247; have a24 := Tryz.isAgg247; have z24 := Tryz.sizeOf247; have v24 := Tryz.zeroValue247
  have t28 := Tryz.underlying250; have a28 := Tryz.isAgg250; have z28 := Tryz.sizeOf250; have v28 := Tryz.zeroValue250
  have u0 := run_underlying t0; have u24 := run_underlying t24; have u28 := run_underlying t28
  have hnt : Tryz.f127.ntmps = 5 := by kernel_rfl
  refine callsIn_of_wp Tryz.func127 rfl trivial ?_ rfl
  simp only [hnt, List.size_toArray, List.length_cons, List.length_nil, Nat.reduceAdd, Nat.reduceSub, Array.replicate_succ, Array.replicate_zero, List.push_toArray, List.append_toArray, List.nil_append, List.cons_append]
  gi_wp2
  refine ⟨trivial, (cf_append hB hc hm 3 (by omega)).mono ?_⟩
  rintro e w' ⟨rfl, hb⟩
  gi_wp2
  go_ret
  exact ⟨rfl, hb⟩
/-! As a given. -/
noncomputable def F127 : List Value → Heap → R := fun args H => match args with
  | [.func (.func 185) x y] => (match y.toList with
    | [.pointer (some ⟨b, 0, none⟩)] => (match H[b]? with
      | some (.cells [.map (some r)] ez _) => (match H[r]? with
        | some (.map [] _ _) => if x.toList = [] ∧ ez = tz 0 175 then some (.slice none 0 0, H) else none
        | _ => none)
      | _ => none)
    | _ => none)
  | _ => none
theorem S127 : Sound Tryz.prog 127 F127 := by
  refine .inl ⟨fun args w => enters_of Tryz.func127 (by kernel_rfl) rfl args w, fun args H v H' hF ρ w args' hR hv => ?_⟩
  unfold F127 at hF
  split at hF
  rotate_left; · cases hF
  rename_i x y
  split at hF
  rotate_left; · cases hF
  rename_i b hy
  split at hF
  rotate_left; · cases hF
  rename_i r ez own hH
  split at hF
  rotate_left; · cases hF
  rename_i bs clk hr
  split at hF
  rotate_left; · cases hF
  rename_i hx
  obtain ⟨hx, rfl⟩ := hx
  obtain ⟨rfl, rfl⟩ := Prod.mk.inj (Option.some.inj hF)
  obtain ⟨v1, m1, rfl, g1, hv⟩ := hv.cons_inv
  obtain rfl := hv.nil_inv
  obtain ⟨x', y', rfl, q1, q2⟩ := g1.func_inv
  rw [hx] at q1
  rw [hy] at q2
  have ex : x' = #[] := Array.toList_inj.1 q1.nil_inv
  subst ex
  obtain ⟨u, m, ey, q3, q4⟩ := q2.cons_inv
  rw [q4.nil_inv] at ey
  have ey : y' = #[u] := Array.toList_inj.1 ey
  subst ey
  obtain ⟨p, hp, _, rfl⟩ := q3.ptr_inv
  obtain ⟨c, el, fz, k1, k2, k3, k4, k5, k6⟩ := hR.obj b p _ hp hH
  obtain ⟨_, v', k7, k8⟩ := k5 0 _ rfl
  obtain ⟨pm, hpm, rfl⟩ := k8.map_inv
  obtain ⟨es', n1, n2, n3, n4, n5⟩ := hR.obj r pm _ hpm hr
  have : es' = #[] := Array.eq_empty_of_size_eq_zero (by simpa using n2.symm)
  subst this
  have hbase : p.base = 0 := (k3.2 175 (tz_div 0 175)).2
  rw [hbase, Nat.zero_add] at k7
  simp only [hbase, Nat.zero_add]
  refine Calls.mono' (cf_collect k1 k7 n1) ?_
  rintro e w' ⟨rfl, hbel⟩
  exact ⟨_, ρ, rfl, hR.below hbel (Nat.le_refl _), Ext.below hbel (Nat.le_refl _), .sliceN⟩
noncomputable def kCollect : List Value → KH → KR
  | [.func (.func g) x y], T => (match y.toList with
    | [.pointer (some ⟨b, 0, none⟩)] => (match kg T b with
      | some (.cells [.map (some r)] ez _) => (match kg T r with
        | some (.map [] _ _) => (match Nat.beq g 185 && x.toList.isEmpty && Nat.beq ez (tz 0 175) with | true => some (.slice none 0 0, T) | false => none)
        | _ => none)
      | _ => none)
    | _ => none)
  | _, _ => none
theorem kCollect_ok {args : List Value} {T : KH} {v : Value} {T' : KH} (h : kCollect args T = some (v, T')) : F127 args T.H = some (v, T'.H) := by
  unfold kCollect at h
  split at h
  rotate_left; · cases h
  rename_i T0 g x y
  split at h
  rotate_left; · cases h
  rename_i b hy
  split at h
  rotate_left; · cases h
  rename_i r ez own hb
  split at h
  rotate_left; · cases h
  rename_i bs clk hr
  split at h
  rotate_left; · cases h
  rename_i hc
  simp only [Bool.and_eq_true, List.isEmpty_iff] at hc
  obtain rfl := Nat.eq_of_beq_eq_true hc.1.1
  obtain ⟨rfl, rfl⟩ := Prod.mk.inj (Option.some.inj h)
  unfold F127
  simp only [hy, (kg_at hb).1, (kg_at hr).1]
  rw [if_pos ⟨hc.1.2, Nat.eq_of_beq_eq_true hc.2⟩]
noncomputable def g127 : Giv := ⟨kCollect, F127⟩
theorem g127_ok : EntOk Tryz.prog 127 (.giv g127) := ⟨S127, fun args T v T' h => kCollect_ok h⟩
end Go.Proofs.YtgnkjpbecgpjoaaGreatDoor
