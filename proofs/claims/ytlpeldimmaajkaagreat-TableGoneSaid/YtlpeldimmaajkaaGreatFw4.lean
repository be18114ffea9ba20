/- FRAMEWORK 4: operations that change nothing do in the world what they do on the abstract heap. Conditions: as the theorems tell. -/
import Derived.Test.YtlpeldimmaajkaaGreatFw3
import Derived.Laws.Strings
import Derived.Laws.Small
import Derived.Laws.Unary
import Derived.Laws.Slices
import Derived.Laws.Pointers
import Derived.Laws.StructEq
import Derived.ChangeKeysEq
import Derived.WalkSpells
set_option linter.unusedVariables false
set_option linter.unusedSimpArgs false
namespace Go.Proofs.YtlpeldimmaajkaaGreat.Fw
open Go Go.RowKit

section inv
variable {β : Type} {r : β}
theorem kInt_inv {k : IntKind} {v : Value} {c : Int → Option β} (h : kInt k v c = some r) : ∃ n, v = .int k n ∧ c n = some r := by
  cases v <;> simp only [kInt] at h <;> try (cases h; done)
  split at h
  · rename_i e; subst e; exact ⟨_, rfl, h⟩
  · cases h
theorem kBool_inv {v : Value} {c : Bool → Option β} (h : kBool v c = some r) : ∃ b, v = .bool b ∧ c b = some r := by
  cases v <;> simp only [kBool] at h <;> try (cases h; done)
  exact ⟨_, rfl, h⟩
theorem kStr_inv {v : Value} {c : ByteArray → Option β} (h : kStr v c = some r) : ∃ b, v = .string b ∧ c b = some r := by
  cases v <;> simp only [kStr] at h <;> try (cases h; done)
  exact ⟨_, rfl, h⟩
theorem kPtr_inv {v : Value} {c : Option Addr → Option β} (h : kPtr v c = some r) : ∃ b, v = .pointer b ∧ c b = some r := by
  cases v <;> simp only [kPtr] at h <;> try (cases h; done)
  exact ⟨_, rfl, h⟩
theorem kSl_inv {v : Value} {c : Option Addr → Nat → Nat → Option β} (h : kSl v c = some r) : ∃ a l m, v = .slice a l m ∧ c a l m = some r := by
  cases v <;> simp only [kSl] at h <;> try (cases h; done)
  exact ⟨_, _, _, rfl, h⟩
theorem kMp_inv {v : Value} {c : Option Nat → Option β} (h : kMp v c = some r) : ∃ b, v = .map b ∧ c b = some r := by
  cases v <;> simp only [kMp] at h <;> try (cases h; done)
  exact ⟨_, rfl, h⟩
theorem kAgg_inv {v : Value} {c : Array Value → Option β} (h : kAgg v c = some r) : ∃ b, v = .agg b ∧ c b = some r := by
  cases v <;> simp only [kAgg] at h <;> try (cases h; done)
  exact ⟨_, rfl, h⟩
theorem kTup_inv {v : Value} {c : Array Value → Option β} (h : kTup v c = some r) : ∃ b, v = .tuple b ∧ c b = some r := by
  cases v <;> simp only [kTup] at h <;> try (cases h; done)
  exact ⟨_, rfl, h⟩
theorem kAnyInt_inv {v : Value} {c : IntKind → Int → Option β} (h : kAnyInt v c = some r) : ∃ k n, v = .int k n ∧ c k n = some r := by
  cases v <;> simp only [kAnyInt] at h <;> try (cases h; done)
  exact ⟨_, _, rfl, h⟩
theorem onSome_inv {α : Type} {x : Option α} {c : α → Option β} (h : onSome x c = some r) : ∃ v, x = some v ∧ c v = some r := by
  cases x <;> simp only [onSome] at h
  · cases h
  · exact ⟨_, rfl, h⟩
theorem ite_inv {c : Prop} [Decidable c] {x : Option β} (h : (if c then x else none) = some r) : c ∧ x = some r := by
  split at h
  · rename_i hc; exact ⟨hc, h⟩
  · cases h
theorem kTy_inv {kd : Option KD} {v : Value} {c : Value → Option β} (h : kTy kd v c = some r) : c v = some r := by
  unfold kTy at h
  split at h
  · obtain ⟨n, rfl, h2⟩ := kInt_inv h; exact h2
  · obtain ⟨n, rfl, h2⟩ := kBool_inv h; exact h2
  · obtain ⟨n, rfl, h2⟩ := kStr_inv h; exact h2
  · obtain ⟨n, rfl, h2⟩ := kPtr_inv h; exact h2
  · obtain ⟨a, l, m, rfl, h2⟩ := kSl_inv h; exact h2
  · obtain ⟨n, rfl, h2⟩ := kMp_inv h; exact h2
  · exact h
  · obtain ⟨n, rfl, h2⟩ := kAgg_inv h; exact (ite_inv h2).2
  · cases h
theorem ldc_inv {H : Heap} {b : Nat} {c : List Value → Option β} (h : ldc H b c = some r) : ∃ cs esz own, H[b]? = some (.cells cs esz own) ∧ c cs = some r := by
  unfold ldc at h
  split at h
  · rename_i cs esz own e; exact ⟨cs, esz, own, e, h⟩
  · cases h
theorem ldm_inv {H : Heap} {b : Nat} {c : List (Value × Value) → Option β} (h : ldm H b c = some r) : ∃ es bs clk, H[b]? = some (.map es bs clk) ∧ c es = some r := by
  unfold ldm at h
  split at h
  · rename_i es bs clk e; exact ⟨es, bs, clk, e, h⟩
  · cases h
theorem ldmB_inv {H : Heap} {b : Nat} {c : List (Value × Value) → List Nat → Nat → Option β} (h : ldmB H b c = some r) : ∃ es bs clk, H[b]? = some (.map es bs clk) ∧ c es bs clk = some r := by
  unfold ldmB at h
  split at h
  · rename_i es bs clk e; exact ⟨es, bs, clk, e, h⟩
  · cases h
end inv

/-! ### Values -/
section
variable {ρ : Ren}
theorem VR.int_inv {k : IntKind} {n : Int} {v' : Value} (h : VR ρ (.int k n) v') : v' = .int k n := by cases h; rfl
theorem VR.bool_inv {b : Bool} {v' : Value} (h : VR ρ (.bool b) v') : v' = .bool b := by cases h; rfl
theorem VR.string_inv {s : ByteArray} {v' : Value} (h : VR ρ (.string s) v') : v' = .string s := by cases h; rfl
theorem VR.ptrN_inv {v' : Value} (h : VR ρ (.pointer none) v') : v' = .pointer none := by cases h; rfl
theorem VR.ptr_inv {a : Addr} {v' : Value} (h : VR ρ (.pointer (some a)) v') : ∃ p, ρ a.block = some p ∧ a.spot = none ∧ v' = .pointer (some ⟨p.blk, p.base + a.off, none⟩) := by
  cases h; exact ⟨_, ‹_›, rfl, rfl⟩
theorem VR.sliceN_inv {l c : Nat} {v' : Value} (h : VR ρ (.slice none l c) v') : v' = .slice none 0 0 ∧ l = 0 ∧ c = 0 := by cases h; exact ⟨rfl, rfl, rfl⟩
theorem VR.slice_inv {a : Addr} {len cap : Nat} {v' : Value} (h : VR ρ (.slice (some a) len cap) v') :
    ∃ p a' cap', ρ a.block = some p ∧ a.spot = none ∧ v' = .slice (some a') len cap' ∧ (cap = cap' ∨ (unk ≤ cap ∧ cap - unk ≤ cap')) ∧ len ≤ cap' ∧ (cap' = 0 ∨ (a' = ⟨p.blk, p.base + a.off, none⟩ ∧ p.base + a.off + cap' * p.esz ≤ p.size)) := by
  cases h; exact ⟨_, _, _, ‹_›, rfl, rfl, ‹_›, ‹_›, ‹_›⟩
theorem VR.mapN_inv {v' : Value} (h : VR ρ (.map none) v') : v' = .map none := by cases h; rfl
theorem VR.map_inv {r : Nat} {v' : Value} (h : VR ρ (.map (some r)) v') : ∃ p, ρ r = some p ∧ v' = .map (some p.blk) := by cases h; exact ⟨_, ‹_›, rfl⟩
theorem VR.func_inv {fn : Fn} {x y : Array Value} {v' : Value} (h : VR ρ (.func fn x y) v') : ∃ x' y', v' = .func fn x' y' ∧ VL ρ x.toList x'.toList ∧ VL ρ y.toList y'.toList := by
  cases h with
  | func _ _ _ x' y' hx hy h1 h2 => exact ⟨x', y', rfl, ⟨by simpa using hx, fun i v v' a b => h1 i v v' (by simpa using a) (by simpa using b)⟩, ⟨by simpa using hy, fun i v v' a b => h2 i v v' (by simpa using a) (by simpa using b)⟩⟩
theorem VR.iface_inv {t : TypeId} {v v' : Value} (h : VR ρ (.iface t v) v') : ∃ u, v' = .iface t u ∧ VR ρ v u := by cases h; exact ⟨_, rfl, ‹_›⟩
theorem VR.func_mk {fn : Fn} {x y x' y' : List Value} (hx : VL ρ x x') (hy : VL ρ y y') : VR ρ (.func fn x.toArray y.toArray) (.func fn x'.toArray y'.toArray) :=
  .func fn _ _ _ _ (by simp [hx.1]) (by simp [hy.1]) (fun i v v' a b => hx.2 i v v' (by simpa using a) (by simpa using b)) (fun i v v' a b => hy.2 i v v' (by simpa using a) (by simpa using b))
theorem plain1_VR {v : Value} (h : plain1 v = true) : VR ρ v v := by
  unfold plain1 at h
  split at h
  · exact .bool _
  · exact .int _ _
  · exact .string _
  · exact .ptrN
  · exact .sliceN
  · exact .mapN
  · exact .nilFunc
  · exact .nilIface
  · cases h
theorem VL.refl_of {l : List Value} (h : l.all plain1 = true) : VL ρ l l := ⟨rfl, fun i v v' a b => by
  rw [a] at b
  obtain rfl := Option.some.inj b
  exact plain1_VR (List.all_eq_true.1 h v (List.mem_of_getElem? a))⟩
theorem plain1_one {v : Value} (h : plain1 v = true) : v.oneCell' = true := by
  unfold plain1 at h
  split at h <;> first | rfl | cases h
theorem plain_one {l : List Value} (h : l.all plain1 = true) : One l := fun v hv => plain1_one (List.all_eq_true.1 h v hv)
theorem plainV_VR {v : Value} (h : plainV v = true) : VR ρ v v := by
  unfold plainV at h
  split at h
  · have := VL.refl_of (ρ := ρ) h; exact VR.agg_mk this (plain_one h)
  · have := VL.refl_of (ρ := ρ) h; exact VR.tuple_mk this
  · exact plain1_VR h

/-- What is known of the temporaries. -/
def TR (ρ : Ren) (t : Tm) (tmps : Array Value) : Prop := (∀ i v, t i = some v → VR ρ v (tmps.getD i undef)) ∧ Glob ρ
theorem TR.mono {ρ' : Ren} {t : Tm} {tmps : Array Value} (h : TR ρ t tmps) (hle : Le ρ ρ') : TR ρ' t tmps := ⟨fun i v hv => (h.1 i v hv).mono hle, h.2.mono hle⟩
theorem upd_self (t : Tm) (i : Nat) (v : Value) : t.upd i v i = some v := by unfold Tm.upd; simp
theorem upd_ne (t : Tm) {i j : Nat} (v : Value) (h : j ≠ i) : t.upd i v j = t j := by
  unfold Tm.upd
  have : Nat.beq j i = false := by
    cases hb : Nat.beq j i with
    | false => rfl
    | true => exact absurd (Nat.eq_of_beq_eq_true hb) h
  simp [this]
theorem upd_eq {t : Tm} {i : Nat} {v : Value} (h : t i = some v) : t.upd i v = t := by
  funext j
  by_cases e : j = i
  · subst e; rw [upd_self, h]
  · rw [upd_ne _ _ e]
theorem TR.upd {t : Tm} {tmps : Array Value} (h : TR ρ t tmps) {i : Nat} (hi : i < tmps.size) {v v' : Value} (hv : VR ρ v v') : TR ρ (t.upd i v) (tmps.setIfInBounds i v') := by
  refine ⟨?_, h.2⟩
  intro j u hu
  by_cases e : j = i
  · subst e
    rw [upd_self] at hu
    obtain rfl := Option.some.inj hu
    simpa [Array.getD, hi] using hv
  · rw [upd_ne _ _ e] at hu
    have := h.1 j u hu
    simpa [Array.getD_eq_getD_getElem?, Array.getElem?_setIfInBounds_ne (Ne.symm e)] using this

variable {β : Type} {r : β}
theorem opd_inv {t : Tm} {a : Act} (ht : TR ρ t a.tmps) {x : Operand} {k : Value → Option β} (h : opd t x k = some r) : ∃ v, VR ρ v (a.eval x) ∧ k v = some r := by
  cases x with
  | tmp i =>
    simp only [opd] at h
    split at h
    · rename_i v hv; exact ⟨v, ht.1 i v hv, h⟩
    · cases h
  | const v =>
    simp only [opd] at h
    split at h
    · rename_i hp; exact ⟨v, plainV_VR hp, h⟩
    · cases h
  | func f => exact ⟨_, .func _ _ _ _ _ rfl rfl (by simp) (by simp), h⟩
  | global g =>
    simp only [opd] at h
    split at h
    · rename_i hb; exact ⟨_, ht.2.val (Nat.le_of_ble_eq_true hb), h⟩
    · cases h
theorem opds_inv {t : Tm} {a : Act} (ht : TR ρ t a.tmps) : ∀ {xs : List Operand} {k : List Value → Option β}, opds t xs k = some r → ∃ vs, VL ρ vs (xs.map a.eval) ∧ k vs = some r
  | [], k, h => ⟨[], VL.nil, h⟩
  | x :: rest, k, h => by
    simp only [opds] at h
    obtain ⟨v, hv, h⟩ := opd_inv ht h
    obtain ⟨vs, hvs, h⟩ := opds_inv ht h
    exact ⟨v :: vs, VL.cons hv hvs, h⟩
end

/-! ### The program's table of types -/
section
variable {P : Program}
theorem und_info {t : TypeId} {d : TypeDesc} (h : P.underlying t = some d) : ∃ i, P.info? t = some i := by
  unfold Program.underlying at h
  cases hi : P.info? t with
  | none => simp [hi] at h
  | some i => exact ⟨i, rfl⟩
theorem run_sizeOf' {t : TypeId} {i : TypeInfo} (h : P.info? t = some i) (w : World) : (sizeOf t).run P w = .ok (P.cellsOf t) w := by
  simp [sizeOf, typeInfo, Program.cellsOf, h]
def aggD : TypeDesc → Bool | .struct _ => true | .array _ _ => true | _ => false
theorem run_isAgg_of {t : TypeId} {d : TypeDesc} (h : P.underlying t = some d) (w : World) : (isAgg t).run P w = .ok (aggD d) w := by
  cases d <;> simp [isAgg, run_underlying h, aggD]
theorem run_zero {t : TypeId} {z : Value} (h : zeroOf P t = some z) (w : World) : (zeroValue t).run P w = .ok z w := by
  unfold zeroOf at h
  split at h
  · rename_i i hi; simp [zeroValue, typeInfo, hi, h]
  · cases h
end

/-! ### Reading -/
section
variable {P : Program} {ρ : Ren} {H : Heap} {w : World}
theorem Rel.cell (hR : Rel ρ H w) {b : Nat} {p : Pl} (hb : ρ b = some p) {cs : List Value} {esz : Nat} {own : Bool} (ho : H[b]? = some (.cells cs esz own)) {i : Nat} {v : Value} (hv : cs[i]? = some v) :
    ∃ v', w.cell? ⟨p.blk, p.base + i, none⟩ = some v' ∧ VR ρ v v' := by
  obtain ⟨c, el, fz, h1, h2, h3, h4, h5, h6⟩ := hR.obj b p _ hb ho
  obtain ⟨_, v', h7, h8⟩ := h5 i v hv
  exact ⟨v', by simp [World.cell?, h1, h7], h8⟩
theorem Rel.one (hR : Rel ρ H w) {b : Nat} {p : Pl} (hb : ρ b = some p) {cs : List Value} {esz : Nat} {own : Bool} (ho : H[b]? = some (.cells cs esz own)) : One cs := fun v hv => by
  obtain ⟨c, el, fz, h1, h2, h3, h4, h5, h6⟩ := hR.obj b p _ hb ho
  obtain ⟨i, hi⟩ := List.mem_iff_getElem?.1 hv
  exact (h5 i v hi).1
theorem One.range {cs : List Value} (h : One cs) (off n : Nat) : One (Fw.range cs off n) := (h.drop off).take n
theorem addr_add (b o i : Nat) : (⟨b, o, none⟩ : Addr).add i = ⟨b, o + i, none⟩ := by
  unfold Addr.add; split
  · subst_vars; rfl
  · rfl
theorem range_len {cs : List Value} {off n : Nat} (h : off + n ≤ cs.length) : (range cs off n).length = n := by simp [range]; omega
theorem range_get {cs : List Value} {off n i : Nat} (hi : i < n) : (range cs off n)[i]? = cs[off + i]? := by
  simp [range, List.getElem?_take, hi, List.getElem?_drop]
/-- A range of cells is read. -/
theorem Rel.range (hR : Rel ρ H w) {b : Nat} {p : Pl} (hb : ρ b = some p) {cs : List Value} {esz : Nat} {own : Bool} (ho : H[b]? = some (.cells cs esz own)) {off n : Nat} (hn : off + n ≤ cs.length) :
    ∃ l, (∀ w0 : World, w0.heap = w.heap → (loadCells ⟨p.blk, p.base + off, none⟩ n).run P w0 = .ok l.toArray w0) ∧ VL ρ (Fw.range cs off n) l := by
  have hcell : ∀ i, i < n → ∃ v', w.cell? ⟨p.blk, p.base + off + i, none⟩ = some v' ∧ VR ρ (cs.getD (off + i) undef) v' := fun i hi => by
    have hlt : off + i < cs.length := by omega
    have : cs[off + i]? = some (cs.getD (off + i) undef) := by simp [List.getD, hlt]
    obtain ⟨v', h1, h2⟩ := hR.cell hb ho this
    exact ⟨v', by rw [Nat.add_assoc]; exact h1, h2⟩
  let f : Nat → Value := fun j => (w.cell? ⟨p.blk, p.base + off + j, none⟩).getD undef
  refine ⟨(List.range n).map f, ?_, ?_⟩
  · intro w0 hd
    rw [run_loadCells w0 _ n f (fun j hj => by
      obtain ⟨v', h1, _⟩ := hcell j hj
      have e : ∀ a, w0.cell? a = w.cell? a := fun a => by simp [World.cell?, hd]
      rw [addr_add, e, h1]; simp [f, h1])]
  · refine ⟨by rw [range_len hn]; simp, fun i v v' hv hv' => ?_⟩
    have hi : i < n := by
      rcases Nat.lt_or_ge i n with h | h
      · exact h
      · rw [List.getElem?_eq_none (by rw [range_len hn]; exact h)] at hv; cases hv
    rw [range_get hi] at hv
    obtain ⟨u, h1, h2⟩ := hcell i hi
    simp [hi, f, h1] at hv'
    subst hv'
    simpa [List.getD, hv] using h2

variable {β : Type} {r : β}
theorem ld_sound (hR : Rel ρ H w) {ty : TypeId} {a : Addr} {k : Value → Option β} (h : ld (kdOf P ty) H a k = some r) {p : Pl} (ha : ρ a.block = some p) :
    ∃ v v', k v = some r ∧ VR ρ v v' ∧ (loadVar ty ⟨p.blk, p.base + a.off, none⟩).run P w = .ok v' w := by
  unfold ld at h
  cases hd : P.underlying ty with
  | none =>
    have hk : kdOf P ty = none := by simp [kdOf, hd]
    rw [hk] at h
    simp only [] at h
    obtain ⟨cs, esz, own, _, h⟩ := ldc_inv h
    obtain ⟨v, _, h⟩ := onSome_inv h
    simp [kTy] at h
  | some d =>
    obtain ⟨i, hi⟩ := und_info hd
    have agg : ∀ n, n = P.cellsOf ty → aggD d = true →
        (ldc H a.block fun cs => if a.off + n ≤ cs.length then k (.agg (Fw.range cs a.off n).toArray) else none) = some r →
        ∃ v v', k v = some r ∧ VR ρ v v' ∧ (loadVar ty ⟨p.blk, p.base + a.off, none⟩).run P w = .ok v' w := by
      intro n hn hagg h
      obtain ⟨cs, esz, own, hH, h⟩ := ldc_inv h
      obtain ⟨hle, h⟩ := ite_inv h
      obtain ⟨l, h1, h2⟩ := hR.range (P := P) ha hH hle
      refine ⟨_, _, h, VR.agg_mk h2 ((hR.one ha hH).range _ _), ?_⟩
      subst hn
      simp [loadVar, run_isAgg_of hd, hagg, run_sizeOf' hi, h1 w rfl]
    have one : aggD d = false →
        (ldc H a.block fun cs => onSome cs[a.off]? fun v => kTy (kdOf P ty) v k) = some r →
        ∃ v v', k v = some r ∧ VR ρ v v' ∧ (loadVar ty ⟨p.blk, p.base + a.off, none⟩).run P w = .ok v' w := by
      intro hagg h
      obtain ⟨cs, esz, own, hH, h⟩ := ldc_inv h
      obtain ⟨v, hv, h⟩ := onSome_inv h
      obtain ⟨v', h1, h2⟩ := hR.cell ha hH hv
      refine ⟨v, v', kTy_inv h, h2, ?_⟩
      simp [loadVar, run_isAgg_of hd, hagg, h1]
    cases d with
    | struct fs => exact agg _ rfl rfl (by simpa [kdOf, hd] using h)
    | array m e => exact agg _ rfl rfl (by simpa [kdOf, hd] using h)
    | _ => exact one rfl (by simp only [kdOf, hd] at h ⊢; exact h)
end

end Go.Proofs.YtlpeldimmaajkaaGreat.Fw
