/- FRAMEWORK 4: operations that change nothing do in the world what they do on the abstract heap. Conditions: as the theorems tell. FRAMEWORK 5: equality, and operators, do in the world what they do on abstract values. FRAMEWORK 6: all operations that change nothing do in the world what they do on the abstract heap. -/
import Derived.Test.YtgnkjpbecgpjoaaGreatDoorFw3
import Derived.Laws.Strings
import Derived.Laws.Small
import Derived.Laws.Unary
import Derived.Laws.Slices
import Derived.Laws.Pointers
import Derived.Laws.StructEq
import Derived.ChangeKeysEq
import Derived.WalkSpells
import Derived.LaidEql
set_option linter.unusedVariables false
set_option linter.unusedSimpArgs false
namespace Go.Proofs.YtgnkjpbecgpjoaaGreatDoor.Fw
open Go Go.RowKit

section inv
variable {β : Type} {r : β}
theorem kInt_inv {k : IntKind} {v : Value} {c : Int → Option β} (h : kInt k v c = some r) : ∃ n, v = .int k n ∧ c n = some r := by
  cases v <;> simp only [kInt] at h <;> try (cases h; done)
  split at h
  · rename_i e; subst e; exact ⟨_, rfl, h⟩
  · cases h
theorem kBool_inv {v : Value} {c : Bool → Option β} (h : kBool v c = some r) : ∃ b, v = .bool b ∧ c b = some r := by
  cases v <;> simp only [kBool] at h <;> try (cases h; done)
  exact ⟨_, rfl, h⟩
theorem kStr_inv {v : Value} {c : ByteArray → Option β} (h : kStr v c = some r) : ∃ b, v = .string b ∧ c b = some r := by
  cases v <;> simp only [kStr] at h <;> try (cases h; done)
  exact ⟨_, rfl, h⟩
theorem kPtr_inv {v : Value} {c : Option Addr → Option β} (h : kPtr v c = some r) : ∃ b, v = .pointer b ∧ c b = some r := by
  cases v <;> simp only [kPtr] at h <;> try (cases h; done)
  exact ⟨_, rfl, h⟩
theorem kSl_inv {v : Value} {c : Option Addr → Nat → Nat → Option β} (h : kSl v c = some r) : ∃ a l m, v = .slice a l m ∧ c a l m = some r := by
  cases v <;> simp only [kSl] at h <;> try (cases h; done)
  exact ⟨_, _, _, rfl, h⟩
theorem kMp_inv {v : Value} {c : Option Nat → Option β} (h : kMp v c = some r) : ∃ b, v = .map b ∧ c b = some r := by
  cases v <;> simp only [kMp] at h <;> try (cases h; done)
  exact ⟨_, rfl, h⟩
theorem kAgg_inv {v : Value} {c : Array Value → Option β} (h : kAgg v c = some r) : ∃ b, v = .agg b ∧ c b = some r := by
  cases v <;> simp only [kAgg] at h <;> try (cases h; done)
  exact ⟨_, rfl, h⟩
theorem kTup_inv {v : Value} {c : Array Value → Option β} (h : kTup v c = some r) : ∃ b, v = .tuple b ∧ c b = some r := by
  cases v <;> simp only [kTup] at h <;> try (cases h; done)
  exact ⟨_, rfl, h⟩
theorem kAnyInt_inv {v : Value} {c : IntKind → Int → Option β} (h : kAnyInt v c = some r) : ∃ k n, v = .int k n ∧ c k n = some r := by
  cases v <;> simp only [kAnyInt] at h <;> try (cases h; done)
  exact ⟨_, _, rfl, h⟩
theorem onSome_inv {α : Type} {x : Option α} {c : α → Option β} (h : onSome x c = some r) : ∃ v, x = some v ∧ c v = some r := by
  cases x <;> simp only [onSome] at h
  · cases h
  · exact ⟨_, rfl, h⟩
theorem ite_inv {c : Prop} [Decidable c] {x : Option β} (h : (if c then x else none) = some r) : c ∧ x = some r := by
  split at h
  · rename_i hc; exact ⟨hc, h⟩
  · cases h
theorem kIntS_inv {k : IntKind} {v : Value} {c : Value → Option β} (h : kIntS k v c = some r) : c v = some r ∧ ((∃ n, v = .int k n) ∨ (isS v = true ∧ k = .i64)) := by
  unfold kIntS at h
  split at h
  · obtain ⟨e, h⟩ := ite_inv h; subst e; exact ⟨h, .inl ⟨_, rfl⟩⟩
  · split at h
    · rename_i h1 h2; exact ⟨h, .inr ⟨h1, isI64_ok h2⟩⟩
    · cases h
theorem kTyC_inv {kd : KD} {v : Value} {c : Value → Option β} (h : kTyC kd v c = some r) : c v = some r := by
  unfold kTyC at h
  split at h
  · obtain ⟨n, rfl, h2⟩ := kInt_inv h; exact h2
  · obtain ⟨n, rfl, h2⟩ := kBool_inv h; exact h2
  · obtain ⟨n, rfl, h2⟩ := kStr_inv h; exact h2
  · cases h
theorem kTy_inv {kd : Option KD} {v : Value} {c : Value → Option β} (h : kTy kd v c = some r) : c v = some r := by
  unfold kTy at h
  split at h
  · exact (kIntS_inv h).1
  · obtain ⟨n, rfl, h2⟩ := kBool_inv h; exact h2
  · obtain ⟨n, rfl, h2⟩ := kStr_inv h; exact h2
  · obtain ⟨n, rfl, h2⟩ := kPtr_inv h; exact h2
  · obtain ⟨a, l, m, rfl, h2⟩ := kSl_inv h; exact h2
  · obtain ⟨n, rfl, h2⟩ := kMp_inv h; exact h2
  · exact h
  · obtain ⟨n, rfl, h2⟩ := kAgg_inv h; exact (ite_inv h2).2
  · cases h
theorem ldc_inv {H : Heap} {b : Nat} {c : List Value → Option β} (h : ldc H b c = some r) : ∃ cs esz own, H[b]? = some (.cells cs esz own) ∧ c cs = some r := by
  unfold ldc at h
  split at h
  · rename_i cs esz own e; exact ⟨cs, esz, own, e, h⟩
  · cases h
theorem ldm_inv {H : Heap} {b : Nat} {c : List (Value × Value) → Option β} (h : ldm H b c = some r) : ∃ es bs clk, H[b]? = some (.map es bs clk) ∧ c es = some r := by
  unfold ldm at h
  split at h
  · rename_i es bs clk e; exact ⟨es, bs, clk, e, h⟩
  · cases h
theorem ldmB_inv {H : Heap} {b : Nat} {c : List (Value × Value) → List Nat → Nat → Option β} (h : ldmB H b c = some r) : ∃ es bs clk, H[b]? = some (.map es bs clk) ∧ c es bs clk = some r := by
  unfold ldmB at h
  split at h
  · rename_i es bs clk e; exact ⟨es, bs, clk, e, h⟩
  · cases h
end inv

/-! ### Values -/
section
variable {ρ : Ren}
theorem VR.int_inv {k : IntKind} {n : Int} {v' : Value} (h : VR ρ (.int k n) v') : v' = .int k n := by cases h; rfl
theorem VR.bool_inv {b : Bool} {v' : Value} (h : VR ρ (.bool b) v') : v' = .bool b := by cases h; rfl
theorem VR.string_inv {s : ByteArray} {v' : Value} (h : VR ρ (.string s) v') : v' = .string s := by cases h; rfl
theorem VR.ptrN_inv {v' : Value} (h : VR ρ (.pointer none) v') : v' = .pointer none := by cases h; rfl
theorem VR.ptr_inv {a : Addr} {v' : Value} (h : VR ρ (.pointer (some a)) v') : ∃ p, ρ a.block = some p ∧ a.spot = none ∧ v' = .pointer (some ⟨p.blk, p.base + a.off, none⟩) := by
  cases h; exact ⟨_, ‹_›, rfl, rfl⟩
theorem VR.sliceN_inv {l c : Nat} {v' : Value} (h : VR ρ (.slice none l c) v') : v' = .slice none 0 0 ∧ l = 0 ∧ c = 0 := by cases h; exact ⟨rfl, rfl, rfl⟩
theorem VR.slice_inv {a : Addr} {len cap : Nat} {v' : Value} (h : VR ρ (.slice (some a) len cap) v') :
    ∃ p a' cap', ρ a.block = some p ∧ a.spot = none ∧ v' = .slice (some a') len cap' ∧ (cap = cap' ∨ (unk ≤ cap ∧ cap - unk ≤ cap')) ∧ len ≤ cap' ∧ (cap' = 0 ∨ (a' = ⟨p.blk, p.base + a.off, none⟩ ∧ p.base + a.off + cap' * p.esz ≤ p.size)) := by
  cases h; exact ⟨_, _, _, ‹_›, rfl, rfl, ‹_›, ‹_›, ‹_›⟩
theorem VR.mapN_inv {v' : Value} (h : VR ρ (.map none) v') : v' = .map none := by cases h; rfl
theorem VR.map_inv {r : Nat} {v' : Value} (h : VR ρ (.map (some r)) v') : ∃ p, ρ r = some p ∧ v' = .map (some p.blk) := by cases h; exact ⟨_, ‹_›, rfl⟩
theorem VR.func_inv {fn : Nat} {x y : Array Value} {v' : Value} (h : VR ρ (.func (.func fn) x y) v') : ∃ x' y', v' = .func (.func fn) x' y' ∧ VL ρ x.toList x'.toList ∧ VL ρ y.toList y'.toList := by
  cases h with
  | func _ _ _ x' y' hx hy h1 h2 => exact ⟨x', y', rfl, ⟨by simpa using hx, fun i v v' a b => h1 i v v' (by simpa using a) (by simpa using b)⟩, ⟨by simpa using hy, fun i v v' a b => h2 i v v' (by simpa using a) (by simpa using b)⟩⟩
theorem VR.iface_inv {t : TypeId} {v v' : Value} (h : VR ρ (.iface t v) v') : ∃ u, v' = .iface t u ∧ VR ρ v u := by cases h; exact ⟨_, rfl, ‹_›⟩
theorem VR.func_mk {fn : Nat} {x y x' y' : List Value} (hx : VL ρ x x') (hy : VL ρ y y') : VR ρ (.func (.func fn) x.toArray y.toArray) (.func (.func fn) x'.toArray y'.toArray) :=
  .func fn _ _ _ _ (by simp [hx.1]) (by simp [hy.1]) (fun i v v' a b => hx.2 i v v' (by simpa using a) (by simpa using b)) (fun i v v' a b => hy.2 i v v' (by simpa using a) (by simpa using b))
theorem plain1_VR {v : Value} (h : plain1 v = true) : VR ρ v v := by
  unfold plain1 at h
  split at h
  · exact .bool _
  · exact .int _ _
  · exact .string _
  · exact .ptrN
  · exact .sliceN
  · exact .mapN
  · exact .nilFunc
  · exact .nilIface
  · cases h
theorem VL.refl_of {l : List Value} (h : l.all plain1 = true) : VL ρ l l := ⟨rfl, fun i v v' a b => by
  rw [a] at b
  obtain rfl := Option.some.inj b
  exact plain1_VR (List.all_eq_true.1 h v (List.mem_of_getElem? a))⟩
theorem plain1_one {v : Value} (h : plain1 v = true) : v.oneCell' = true := by
  unfold plain1 at h
  split at h <;> first | rfl | cases h
theorem plain_one {l : List Value} (h : l.all plain1 = true) : One l := fun v hv => plain1_one (List.all_eq_true.1 h v hv)
theorem plainV_VR {v : Value} (h : plainV v = true) : VR ρ v v := by
  unfold plainV at h
  split at h
  · have := VL.refl_of (ρ := ρ) h; exact VR.agg_mk this (plain_one h)
  · have := VL.refl_of (ρ := ρ) h; exact VR.tuple_mk this
  · exact plain1_VR h

/-- What is known of the temporaries. -/
def TR (ρ : Ren) (t : Tm) (tmps : Array Value) : Prop := (∀ i v, t i = some v → VR ρ v (tmps.getD i undef)) ∧ Glob ρ
theorem TR.mono {ρ' : Ren} {t : Tm} {tmps : Array Value} (h : TR ρ t tmps) (hle : Le ρ ρ') : TR ρ' t tmps := ⟨fun i v hv => (h.1 i v hv).mono hle, h.2.mono hle⟩
theorem upd_self (t : Tm) (i : Nat) (v : Value) : t.upd i v i = some v := by unfold Tm.upd; simp
theorem upd_ne (t : Tm) {i j : Nat} (v : Value) (h : j ≠ i) : t.upd i v j = t j := by
  unfold Tm.upd
  have : Nat.beq j i = false := by
    cases hb : Nat.beq j i with
    | false => rfl
    | true => exact absurd (Nat.eq_of_beq_eq_true hb) h
  simp [this]
theorem upd_eq {t : Tm} {i : Nat} {v : Value} (h : t i = some v) : t.upd i v = t := by
  funext j
  by_cases e : j = i
  · subst e; rw [upd_self, h]
  · rw [upd_ne _ _ e]
theorem TR.upd {t : Tm} {tmps : Array Value} (h : TR ρ t tmps) {i : Nat} (hi : i < tmps.size) {v v' : Value} (hv : VR ρ v v') : TR ρ (t.upd i v) (tmps.setIfInBounds i v') := by
  refine ⟨?_, h.2⟩
  intro j u hu
  by_cases e : j = i
  · subst e
    rw [upd_self] at hu
    obtain rfl := Option.some.inj hu
    simpa [Array.getD, hi] using hv
  · rw [upd_ne _ _ e] at hu
    have := h.1 j u hu
    simpa [Array.getD_eq_getD_getElem?, Array.getElem?_setIfInBounds_ne (Ne.symm e)] using this

variable {β : Type} {r : β}
theorem opd_inv {t : Tm} {a : Act} (ht : TR ρ t a.tmps) {x : Operand} {k : Value → Option β} (h : opd t x k = some r) : ∃ v, VR ρ v (a.eval x) ∧ k v = some r := by
  cases x with
  | tmp i =>
    simp only [opd] at h
    split at h
    · rename_i v hv; exact ⟨v, ht.1 i v hv, h⟩
    · cases h
  | const v =>
    simp only [opd] at h
    split at h
    · rename_i hp; exact ⟨v, plainV_VR hp, h⟩
    · cases h
  | func f => exact ⟨_, .func _ _ _ _ _ rfl rfl (by simp) (by simp), h⟩
  | global g =>
    simp only [opd] at h
    split at h
    · rename_i hb; exact ⟨_, ht.2.val (Nat.le_of_ble_eq_true hb), h⟩
    · cases h
theorem opds_inv {t : Tm} {a : Act} (ht : TR ρ t a.tmps) : ∀ {xs : List Operand} {k : List Value → Option β}, opds t xs k = some r → ∃ vs, VL ρ vs (xs.map a.eval) ∧ k vs = some r
  | [], k, h => ⟨[], VL.nil, h⟩
  | x :: rest, k, h => by
    simp only [opds] at h
    obtain ⟨v, hv, h⟩ := opd_inv ht h
    obtain ⟨vs, hvs, h⟩ := opds_inv ht h
    exact ⟨v :: vs, VL.cons hv hvs, h⟩
end

/-! ### The program's table of types -/
section
variable {P : Program}
theorem und_info {t : TypeId} {d : TypeDesc} (h : P.underlying t = some d) : ∃ i, P.info? t = some i := by
  unfold Program.underlying at h
  cases hi : P.info? t with
  | none => simp [hi] at h
  | some i => exact ⟨i, rfl⟩
theorem run_sizeOf' {t : TypeId} {i : TypeInfo} (h : P.info? t = some i) (w : World) : (sizeOf t).run P w = .ok (P.cellsOf t) w := by
  simp [sizeOf, typeInfo, Program.cellsOf, h]
def aggD : TypeDesc → Bool | .struct _ => true | .array _ _ => true | _ => false
theorem run_isAgg_of {t : TypeId} {d : TypeDesc} (h : P.underlying t = some d) (w : World) : (isAgg t).run P w = .ok (aggD d) w := by
  cases d <;> simp [isAgg, run_underlying h, aggD]
theorem run_zero {t : TypeId} {z : Value} (h : zeroOf P t = some z) (w : World) : (zeroValue t).run P w = .ok z w := by
  unfold zeroOf at h
  split at h
  · rename_i i hi; simp [zeroValue, typeInfo, hi, h]
  · cases h
end

/-! ### Reading -/
section
variable {P : Program} {ρ : Ren} {H : Heap} {w : World}
theorem Rel.cell (hR : Rel ρ H w) {b : Nat} {p : Pl} (hb : ρ b = some p) {cs : List Value} {esz : Nat} {own : Bool} (ho : H[b]? = some (.cells cs esz own)) {i : Nat} {v : Value} (hv : cs[i]? = some v) :
    ∃ v', w.cell? ⟨p.blk, p.base + i, none⟩ = some v' ∧ VR ρ v v' := by
  obtain ⟨c, el, fz, h1, h2, h3, h4, h5, h6⟩ := hR.obj b p _ hb ho
  obtain ⟨_, v', h7, h8⟩ := h5 i v hv
  exact ⟨v', by simp [World.cell?, h1, h7], h8⟩
theorem Rel.one (hR : Rel ρ H w) {b : Nat} {p : Pl} (hb : ρ b = some p) {cs : List Value} {esz : Nat} {own : Bool} (ho : H[b]? = some (.cells cs esz own)) : One cs := fun v hv => by
  obtain ⟨c, el, fz, h1, h2, h3, h4, h5, h6⟩ := hR.obj b p _ hb ho
  obtain ⟨i, hi⟩ := List.mem_iff_getElem?.1 hv
  exact (h5 i v hi).1
theorem One.range {cs : List Value} (h : One cs) (off n : Nat) : One (Fw.range cs off n) := (h.drop off).take n
theorem addr_add (b o i : Nat) : (⟨b, o, none⟩ : Addr).add i = ⟨b, o + i, none⟩ := by
  unfold Addr.add; split
  · subst_vars; rfl
  · rfl
theorem range_len {cs : List Value} {off n : Nat} (h : off + n ≤ cs.length) : (range cs off n).length = n := by simp [range]; omega
theorem range_get {cs : List Value} {off n i : Nat} (hi : i < n) : (range cs off n)[i]? = cs[off + i]? := by
  simp [range, List.getElem?_take, hi, List.getElem?_drop]
/-- A range of cells is read. -/
theorem Rel.range (hR : Rel ρ H w) {b : Nat} {p : Pl} (hb : ρ b = some p) {cs : List Value} {esz : Nat} {own : Bool} (ho : H[b]? = some (.cells cs esz own)) {off n : Nat} (hn : off + n ≤ cs.length) :
    ∃ l, (∀ w0 : World, w0.heap = w.heap → (loadCells ⟨p.blk, p.base + off, none⟩ n).run P w0 = .ok l.toArray w0) ∧ VL ρ (Fw.range cs off n) l := by
  have hcell : ∀ i, i < n → ∃ v', w.cell? ⟨p.blk, p.base + off + i, none⟩ = some v' ∧ VR ρ (cs.getD (off + i) undef) v' := fun i hi => by
    have hlt : off + i < cs.length := by omega
    have : cs[off + i]? = some (cs.getD (off + i) undef) := by simp [List.getD, hlt]
    obtain ⟨v', h1, h2⟩ := hR.cell hb ho this
    exact ⟨v', by rw [Nat.add_assoc]; exact h1, h2⟩
  let f : Nat → Value := fun j => (w.cell? ⟨p.blk, p.base + off + j, none⟩).getD undef
  refine ⟨(List.range n).map f, ?_, ?_⟩
  · intro w0 hd
    rw [run_loadCells w0 _ n f (fun j hj => by
      obtain ⟨v', h1, _⟩ := hcell j hj
      have e : ∀ a, w0.cell? a = w.cell? a := fun a => by simp [World.cell?, hd]
      rw [addr_add, e, h1]; simp [f, h1])]
  · refine ⟨by rw [range_len hn]; simp, fun i v v' hv hv' => ?_⟩
    have hi : i < n := by
      rcases Nat.lt_or_ge i n with h | h
      · exact h
      · rw [List.getElem?_eq_none (by rw [range_len hn]; exact h)] at hv; cases hv
    rw [range_get hi] at hv
    obtain ⟨u, h1, h2⟩ := hcell i hi
    simp [hi, f, h1] at hv'
    subst hv'
    simpa [List.getD, hv] using h2

variable {β : Type} {r : β}
theorem ld_sound (hR : Rel ρ H w) {ty : TypeId} {a : Addr} {k : Value → Option β} (h : ld (kdOf P ty) H a k = some r) {p : Pl} (ha : ρ a.block = some p) :
    ∃ v v', k v = some r ∧ VR ρ v v' ∧ (loadVar ty ⟨p.blk, p.base + a.off, none⟩).run P w = .ok v' w := by
  unfold ld at h
  cases hd : P.underlying ty with
  | none =>
    have hk : kdOf P ty = none := by simp [kdOf, hd]
    rw [hk] at h
    simp only [] at h
    obtain ⟨cs, esz, own, _, h⟩ := ldc_inv h
    obtain ⟨v, _, h⟩ := onSome_inv h
    simp [kTy] at h
  | some d =>
    obtain ⟨i, hi⟩ := und_info hd
    have agg : ∀ n, n = P.cellsOf ty → aggD d = true →
        (ldc H a.block fun cs => if a.off + n ≤ cs.length then k (.agg (Fw.range cs a.off n).toArray) else none) = some r →
        ∃ v v', k v = some r ∧ VR ρ v v' ∧ (loadVar ty ⟨p.blk, p.base + a.off, none⟩).run P w = .ok v' w := by
      intro n hn hagg h
      obtain ⟨cs, esz, own, hH, h⟩ := ldc_inv h
      obtain ⟨hle, h⟩ := ite_inv h
      obtain ⟨l, h1, h2⟩ := hR.range (P := P) ha hH hle
      refine ⟨_, _, h, VR.agg_mk h2 ((hR.one ha hH).range _ _), ?_⟩
      subst hn
      simp [loadVar, run_isAgg_of hd, hagg, run_sizeOf' hi, h1 w rfl]
    have one : aggD d = false →
        (ldc H a.block fun cs => onSome cs[a.off]? fun v => kTy (kdOf P ty) v k) = some r →
        ∃ v v', k v = some r ∧ VR ρ v v' ∧ (loadVar ty ⟨p.blk, p.base + a.off, none⟩).run P w = .ok v' w := by
      intro hagg h
      obtain ⟨cs, esz, own, hH, h⟩ := ldc_inv h
      obtain ⟨v, hv, h⟩ := onSome_inv h
      obtain ⟨v', h1, h2⟩ := hR.cell ha hH hv
      refine ⟨v, v', kTy_inv h, h2, ?_⟩
      simp [loadVar, run_isAgg_of hd, hagg, h1]
    cases d with
    | struct fs => exact agg _ rfl rfl (by simpa [kdOf, hd] using h)
    | array m e => exact agg _ rfl rfl (by simpa [kdOf, hd] using h)
    | _ => exact one rfl (by simp only [kdOf, hd] at h ⊢; exact h)
end

end Go.Proofs.YtgnkjpbecgpjoaaGreatDoor.Fw
set_option linter.unusedVariables false
set_option linter.unusedSimpArgs false
namespace Go.Proofs.YtgnkjpbecgpjoaaGreatDoor.Fw
open Go Go.RowKit

section
variable {P : Program} {ρ : Ren} {w : World} {β : Type} {r : β}

theorem VL.extract {x x' : Array Value} (h : VL ρ x.toList x'.toList ∧ One x.toList) (i j : Nat) : VR ρ (.agg (x.extract i j)) (.agg (x'.extract i j)) := by
  have := (h.1.take j).drop i
  have e : ∀ y : Array Value, y.extract i j = ((y.toList.take j).drop i).toArray := fun y => by
    apply Array.ext'
    simp [List.extract_eq_take_drop, List.drop_take]
  rw [e x, e x']
  exact VR.agg_mk this ((h.2.take j).drop i)
theorem VL.getA {x x' : Array Value} (h : VL ρ x.toList x'.toList) {i : Nat} {v : Value} (hv : x[i]? = some v) : ∃ v', x'[i]? = some v' ∧ VR ρ v v' := by
  obtain ⟨v', h1, h2⟩ := h.get (i := i) (v := v) (by simpa using hv)
  exact ⟨v', by simpa using h1, h2⟩

/-- A part of an aggregate, concretely. -/
theorem part_agg {e : TypeId} {d : TypeDesc} (hd : P.underlying e = some d) (ha : aggD d = true) (cs : Array Value) (off : Nat) :
    (part e cs off).run P w = .ok (.agg (cs.extract off (off + P.cellsOf e))) w := by
  obtain ⟨i, hi⟩ := und_info hd
  simp [part, run_isAgg_of hd, ha, run_sizeOf' hi]
theorem part_one {e : TypeId} {d : TypeDesc} (hd : P.underlying e = some d) (ha : aggD d = false) {cs : Array Value} {off : Nat} {v : Value} (hv : cs[off]? = some v) :
    (part e cs off).run P w = .ok v w := by
  simp [part, run_isAgg_of hd, ha, hv]
theorem partK_sound {e : TypeId} {cs cs' : Array Value} (hcs : VL ρ cs.toList cs'.toList ∧ One cs.toList) {off : Nat} {k : Value → Option β} (h : partK P e cs off k = some r) :
    ∃ v v', k v = some r ∧ VR ρ v v' ∧ (part e cs' off).run P w = .ok v' w := by
  unfold partK at h
  cases hd : P.underlying e with
  | none =>
    simp [kdOf, hd] at h
    replace h := onSome_inv h; obtain ⟨v, _, h⟩ := h
    simp [kTy] at h
  | some d =>
    have one : aggD d = false → (onSome cs[off]? fun v => kTy (kdOf P e) v k) = some r → ∃ v v', k v = some r ∧ VR ρ v v' ∧ (part e cs' off).run P w = .ok v' w := fun ha h => by
      replace h := onSome_inv h; obtain ⟨v, hv, h⟩ := h
      obtain ⟨v', h1, h2⟩ := hcs.1.getA hv
      exact ⟨v, v', kTy_inv h, h2, part_one hd ha h1⟩
    cases d with
    | struct fs => exact ⟨_, _, by simpa [kdOf, hd] using h, VL.extract hcs _ _, part_agg hd rfl _ _⟩
    | array m e => exact ⟨_, _, by simpa [kdOf, hd] using h, VL.extract hcs _ _, part_agg hd rfl _ _⟩
    | _ => exact one rfl (by simp only [kdOf, hd] at h ⊢; exact h)

theorem cmpV_inv {op : BinOp} {kd : IntKind} {x y x' y' : Value} {c : Bool → Option β} (h : cmpV op kd x y c = some r) (hx : VR ρ x x') (hy : VR ρ y y') : ∃ a b, x' = .int kd a ∧ y' = .int kd b ∧ c (cmpB op a b) = some r := by
  unfold cmpV at h
  split at h
  · rename_i p hp
    obtain ⟨rfl, rfl⟩ := intPair_inv (a := p.1) (b := p.2) hp
    exact ⟨_, _, hx.int_inv, hy.int_inv, h⟩
  · split at h
    · rename_i hk
      obtain rfl := isI64_ok hk
      replace h := onSome_inv h; obtain ⟨s, hs, h⟩ := h
      replace h := onSome_inv h; obtain ⟨u, hu, h⟩ := h
      replace h := onSome_inv h; obtain ⟨b, hb, h⟩ := h
      obtain ⟨n, rfl, hn⟩ := siOf_VR hs hx
      obtain ⟨m, rfl, hm⟩ := siOf_VR hu hy
      exact ⟨_, _, rfl, rfl, by rw [← cmpS_ok hn hm hb]; exact h⟩
    · cases h
theorem eqv_sound : ∀ (n d : Nat) (t : TypeId) (x y x' y' : Value) (c : Bool → Option β), eqv P n t x y c = some r → VR ρ x x' → VR ρ y y' →
    ∃ b, c b = some r ∧ (Op.equalIn (n + d) t x' y').run P w = .ok b w
  | 0, _, _, _, _, _, _, _, h, _, _ => by simp [eqv] at h
  | n + 1, d, t, x, y, x', y', c, h, hx, hy => by
    rw [show n + 1 + d = (n + d) + 1 by omega]
    simp only [eqv] at h
    split at h
    · rename_i hu
      replace h := kBool_inv h; obtain ⟨a, rfl, h⟩ := h
      replace h := kBool_inv h; obtain ⟨b, rfl, h⟩ := h
      rw [hx.bool_inv, hy.bool_inv]
      exact ⟨_, h, run_equalIn_bool' w _ t a b hu⟩
    · rename_i kd hu
      obtain ⟨a, b, e1, e2, h⟩ := cmpV_inv h hx hy
      rw [e1, e2]
      exact ⟨_, h, run_equalIn_int w _ t kd kd a b hu⟩
    · rename_i hu
      replace h := kStr_inv h; obtain ⟨a, rfl, h⟩ := h
      replace h := kStr_inv h; obtain ⟨b, rfl, h⟩ := h
      rw [hx.string_inv, hy.string_inv]
      exact ⟨_, h, run_equalIn_string w _ t a b hu⟩
    · rename_i fs hu
      split at h
      · cases h
      · rename_i hst
        replace h := kAgg_inv h; obtain ⟨xs, rfl, h⟩ := h
        replace h := kAgg_inv h; obtain ⟨ys, rfl, h⟩ := h
        obtain ⟨xs', rfl, hxs⟩ := hx.agg_inv
        obtain ⟨ys', rfl, hys⟩ := hy.agg_inv
        have hf : P.fieldsOf t = fs := by simp [Program.fieldsOf, hu]
        rw [run_equalIn_struct w _ t xs' ys' (by rw [hf]; exact hu) hst, hf]
        clear hx hy hu hf hst
        generalize fs.toList = l at h
        induction l with
        | nil => exact ⟨true, h, rfl⟩
        | cons f fs ih =>
          simp only [List.foldr_cons] at h
          simp only [Op.eqFields]
          split at h
          · rename_i hn
            simp only [hn, ne_eq, not_true_eq_false, if_false]
            exact ih h
          · rename_i hn
            simp only [hn, ne_eq, not_false_eq_true, if_true]
            -- one field
            have tail : ∀ (b : Bool) (rest : Option β), (match b with | true => rest | false => c false) = some r → (rest = some r → ∃ b, c b = some r ∧ (Op.eqFields (n + d) xs' ys' fs).run P w = .ok b w) →
                ∃ b', c b' = some r ∧ (if (!b) = true then (pure false : Sem Bool) else Op.eqFields (n + d) xs' ys' fs).run P w = .ok b' w := fun b rest hb hr => by
              cases b with
              | true => obtain ⟨b', h1, h2⟩ := hr hb; exact ⟨b', h1, by simpa using h2⟩
              | false => exact ⟨false, hb, by simp⟩
            split at h
            · rename_i m hk
              have hu' : ∃ dd, P.underlying f.type = some dd ∧ aggD dd = true ∧ m = P.cellsOf f.type := by
                unfold kdOf at hk
                split at hk <;> try (cases hk; done)
                · rename_i hq; simp at hk; exact ⟨_, hq, rfl, hk.symm⟩
                · rename_i hq; simp at hk; exact ⟨_, hq, rfl, hk.symm⟩
              obtain ⟨dd, hdd, hagg, rfl⟩ := hu'
              obtain ⟨b, hb, hrun⟩ := eqv_sound n d f.type _ _ _ _ _ h (VL.extract hxs f.offset (f.offset + P.cellsOf f.type)) (VL.extract hys f.offset (f.offset + P.cellsOf f.type))
              obtain ⟨b', h1, h2⟩ := tail b _ hb ih
              exact ⟨b', h1, by simp only [Sem.run_bind, part_agg hdd hagg, Result.andThen_ok, hrun]; exact h2⟩
            · rename_i hk
              replace h := onSome_inv h; obtain ⟨u, hu1, h⟩ := h
              replace h := onSome_inv h; obtain ⟨v, hv1, h⟩ := h
              obtain ⟨u', hu2, hu3⟩ := hxs.1.getA hu1
              obtain ⟨v', hv2, hv3⟩ := hys.1.getA hv1
              obtain ⟨b, hb, hrun⟩ := eqv_sound n d f.type _ _ _ _ _ h hu3 hv3
              obtain ⟨b', h1, h2⟩ := tail b _ hb ih
              have hdd : ∃ dd, P.underlying f.type = some dd ∧ aggD dd = false := by
                cases hq : P.underlying f.type with
                | none =>
                  cases n with
                  | zero => simp [eqv] at h
                  | succ n => simp [eqv, hq] at h
                | some dd =>
                  refine ⟨dd, rfl, ?_⟩
                  cases dd <;> first | rfl | (exfalso; exact hk _ (by simp [kdOf, hq]; rfl))
              obtain ⟨dd, hdd, hagg⟩ := hdd
              exact ⟨b', h1, by simp only [Sem.run_bind, part_one hdd hagg hu2, part_one hdd hagg hv2, Result.andThen_ok, hrun]; exact h2⟩
    · cases h

theorem binInt_sound {op : BinOp} {xt : TypeId} {kd : IntKind} {a b : Int} {k : Value → Option β} (h : binInt op kd a b k = some r) :
    ∃ v, k v = some r ∧ (∀ ρ, VR ρ v v) ∧ (binOp op xt (.int kd a) (.int kd b)).run P w = .ok v w := by
  cases op <;> simp only [binInt] at h
  case quo =>
    split at h
    · cases h
    · rename_i hb; exact ⟨_, h, fun _ => .int _ _, by simp [binOp, Op.intDiv, hb]⟩
  case rem =>
    split at h
    · cases h
    · rename_i hb; exact ⟨_, h, fun _ => .int _ _, by simp [binOp, Op.intDiv, hb]⟩
  all_goals first
    | (cases h; done)
    | exact ⟨_, h, fun _ => .int _ _, by simp [binOp, Op.intArith, intBits_and, intBits_or, intBits_xor, intBits_andNot]⟩
    | exact ⟨_, h, fun _ => .bool _, by simp [binOp, Op.intCmp]⟩

theorem tdiv_nonneg {n z : Int} (h : 0 ≤ n) : n.tdiv z = n / z := Int.tdiv_eq_ediv_of_nonneg h
theorem tmod_nonneg {n z : Int} (h : 0 ≤ n) : n.tmod z = n % z := Int.tmod_eq_emod_of_nonneg h
theorem arS_ok {op : BinOp} {xt : TypeId} {x y z : SI} {n m : Int} (h : arS op x y = some z) (hx : Has ρ x n) (hy : Has ρ y m) :
    ∃ k, Has ρ z k ∧ (binOp op xt (.int .i64 n) (.int .i64 m)).run P w = .ok (.int .i64 (IntKind.i64.wrap k)) w := by
  have hb : ∀ o a b, IntKind.i64.wrap (bits o .i64 a b) = bits o .i64 a b := fun o a b => wrap_id (bits_range o a b).1 (bits_range o a b).2
  cases op <;> simp only [arS] at h <;> try (cases h; done)
  case add => obtain rfl := Option.some.inj h; exact ⟨_, addS_ok hx hy, by simp [binOp, Op.intArith]⟩
  case sub => obtain rfl := Option.some.inj h; exact ⟨_, addS_ok hx (negS_ok hy), by rw [← Int.sub_eq_add_neg]; simp [binOp, Op.intArith]⟩
  case mul => obtain rfl := Option.some.inj h; exact ⟨_, mulS_ok hx hy, by simp [binOp, Op.intArith]⟩
  case and => obtain rfl := Option.some.inj h; exact ⟨_, andS_ok hx hy, by rw [hb]; simp [binOp, Op.intArith, intBits_and]⟩
  case or => obtain rfl := Option.some.inj h; exact ⟨bits .or .i64 n m, Has.all (bits_range _ _ _), by rw [hb]; simp [binOp, Op.intArith, intBits_or]⟩
  case xor => obtain rfl := Option.some.inj h; exact ⟨bits .xor .i64 n m, Has.all (bits_range _ _ _), by rw [hb]; simp [binOp, Op.intArith, intBits_xor]⟩
  case andNot => obtain rfl := Option.some.inj h; exact ⟨bits .andNot .i64 n m, Has.all (bits_range _ _ _), by rw [hb]; simp [binOp, Op.intArith, intBits_andNot]⟩
  case quo =>
    split at h
    · rename_i hc; rw [both2_iff, both2_iff, ltI_iff, leI_iff] at hc
      obtain rfl := Option.some.inj h
      have e := hy.eq (z := 0) hc.1
      have hn := hx.bounds
      rw [← e] at hc ⊢
      refine ⟨n / m, Has.any (Int.ediv_le_ediv (by omega) (by omega)) (Int.ediv_le_ediv (by omega) (by omega)) 0, ?_⟩
      have h0 : m ≠ 0 := by omega
      rw [← tdiv_nonneg (show 0 ≤ n by omega)]
      simp [binOp, Op.intDiv, h0]
    · cases h
  case rem =>
    split at h
    · rename_i hc; rw [both2_iff, both2_iff, both2_iff, ltI_iff, leI_iff, leI_iff] at hc
      obtain rfl := Option.some.inj h
      have e := hy.eq (z := 0) hc.1
      have hn := hx.bounds
      rw [← e] at hc ⊢
      refine ⟨n % m, modS_ok hx (by omega), ?_⟩
      have h0 : m ≠ 0 := by omega
      have h1 : 0 ≤ n % m := Int.emod_nonneg _ h0
      have h2 : n % m < m := Int.emod_lt_of_pos _ (by omega)
      rw [wrap_id (by unfold lo64; omega) (by omega), ← tmod_nonneg (show 0 ≤ n by omega)]
      simp [binOp, Op.intDiv, h0]
    · cases h
theorem arV_sound {op : BinOp} {xt : TypeId} {kd : IntKind} {x y x' y' : Value} {k : Value → Option β} (h : arV op kd x y k = some r) (hx : VR ρ x x') (hy : VR ρ y y') :
    ∃ a b v v', x' = .int kd a ∧ y' = .int kd b ∧ k v = some r ∧ VR ρ v v' ∧ (binOp op xt (.int kd a) (.int kd b)).run P w = .ok v' w := by
  unfold arV at h
  split at h
  · rename_i p hp
    obtain ⟨rfl, rfl⟩ := intPair_inv (a := p.1) (b := p.2) hp
    obtain ⟨v, h1, h2, h3⟩ := binInt_sound (P := P) (w := w) (xt := xt) h
    exact ⟨_, _, v, v, hx.int_inv, hy.int_inv, h1, h2 ρ, h3⟩
  · split at h
    · rename_i hk
      obtain rfl := isI64_ok hk
      replace h := onSome_inv h; obtain ⟨s, hs, h⟩ := h
      replace h := onSome_inv h; obtain ⟨u, hu, h⟩ := h
      replace h := onSome_inv h; obtain ⟨z, hz, h⟩ := h
      obtain ⟨n, rfl, hn⟩ := siOf_VR hs hx
      obtain ⟨m, rfl, hm⟩ := siOf_VR hu hy
      obtain ⟨q, h1, h2⟩ := arS_ok (P := P) (w := w) (xt := xt) hz hn hm
      exact ⟨_, _, _, _, rfl, rfl, h, outS_VR h1, h2⟩
    · cases h
theorem cmpB_run {op : BinOp} {xt : TypeId} {kd : IntKind} {a b : Int} (h : isCmp op = true) : (binOp op xt (.int kd a) (.int kd b)).run P w = .ok (.bool (cmpB op a b)) w := by
  cases op <;> simp only [isCmp] at h <;> first | (cases h; done) | simp [binOp, Op.intCmp, cmpB]

theorem binSh_sound {op : BinOp} {xt : TypeId} {kd ky : IntKind} {a b : Int} {k : Value → Option β} (h : binSh op kd a b k = some r) :
    ∃ v, k v = some r ∧ (∀ ρ, VR ρ v v) ∧ (binOp op xt (.int kd a) (.int ky b)).run P w = .ok v w := by
  cases op <;> simp only [binSh] at h <;> try (cases h; done)
  · split at h
    · cases h
    · rename_i hb; exact ⟨_, h, fun _ => .int _ _, by simp [binOp, shift_shl_any _ _ _ _ (Int.not_lt.1 hb)]⟩
  · split at h
    · cases h
    · rename_i hb; exact ⟨_, h, fun _ => .int _ _, by simp [binOp, shift_shr_any _ _ _ _ (Int.not_lt.1 hb)]⟩

theorem shV_sound {op : BinOp} {xt : TypeId} {x y x' y' : Value} {k : Value → Option β} (h : shV op x y k = some r) (hx : VR ρ x x') (hy : VR ρ y y') :
    ∃ kx a ky b v v', x' = .int kx a ∧ y' = .int ky b ∧ k v = some r ∧ VR ρ v v' ∧ (binOp op xt (.int kx a) (.int ky b)).run P w = .ok v' w := by
  unfold shV at h
  replace h := kAnyInt_inv h; obtain ⟨ky, b, rfl, h⟩ := h
  split at h
  · obtain ⟨v, h1, h2, h3⟩ := binSh_sound (P := P) (w := w) (xt := xt) (ky := ky) h
    exact ⟨_, _, _, _, v, v, hx.int_inv, hy.int_inv, h1, h2 ρ, h3⟩
  · split at h
    · rename_i h1 h2
      rw [both2_iff, leI_iff, leI_iff] at h2
      replace h := onSome_inv h; obtain ⟨s, hs, h⟩ := h
      obtain ⟨n, rfl, hn⟩ := siOf_VR hs hx
      rw [hy.int_inv]
      have hm : min b.toNat IntKind.i64.bits = b.toNat := by have : IntKind.i64.bits = 64 := rfl; omega
      have hp : (0 : Int) < 2 ^ b.toNat := Int.pow_pos (by decide)
      cases op <;> simp only [] at h <;> try (cases h; done)
      · refine ⟨_, _, _, _, _, _, rfl, rfl, h, outS_VR (scaleS_ok hn _), ?_⟩
        rw [show binOp .shl xt (.int .i64 n) (.int ky b) = Op.shift .shl .i64 n ky b from rfl, shift_shl_any _ _ _ _ h2.1, hm]; rfl
      · have hb := hn.bounds
        refine ⟨_, _, _, _, _, _, rfl, rfl, h, mkS_VR (n := n / 2 ^ b.toNat) (Has.any (Int.ediv_le_ediv hp hb.1) (Int.ediv_le_ediv hp hb.2) 0), ?_⟩
        rw [show binOp .shr xt (.int .i64 n) (.int ky b) = Op.shift .shr .i64 n ky b from rfl, shift_shr_any _ _ _ _ h2.1, hm]; rfl
    · cases h

theorem binStr_sound {op : BinOp} {xt : TypeId} {a b : ByteArray} {k : Value → Option β} (h : binStr op a b k = some r) :
    ∃ v, k v = some r ∧ (∀ ρ, VR ρ v v) ∧ (binOp op xt (.string a) (.string b)).run P w = .ok v w := by
  cases op <;> simp only [binStr] at h
  case add =>
    replace h := ite_inv h; obtain ⟨hs, h⟩ := h
    refine ⟨_, h, fun _ => .string _, ?_⟩
    have : ¬ (IntKind.i64.max < ((a.size + b.size : Nat) : Int)) := by rw [IntKind.max_i64]; omega
    simp only [binOp, Op.stringOp]
    rw [if_neg (by simpa using this)]
    rfl
  all_goals first
    | (cases h; done)
    | exact ⟨_, h, fun _ => .bool _, by simp [binOp, Op.stringOp]⟩

theorem equal_eq (t : TypeId) (x y : Value) : Op.equal t x y = Op.equalIn (9999 + 1) t x y := rfl
theorem nilC_inv {xt : TypeId} {z : Value} (h : nilC P xt (.const z) = true) :
    (∃ e, P.underlying xt = some (.pointer e) ∧ z = .pointer none) ∨ (∃ e, P.underlying xt = some (.slice e) ∧ z = .slice none 0 0) ∨ (∃ e f, P.underlying xt = some (.map e f) ∧ z = .map none) ∨
    (∃ e f g, P.underlying xt = some (.func e f g) ∧ z = .nilFunc) ∨ (∃ e, P.underlying xt = some (.interface e) ∧ z = .nilIface) := by
  unfold nilC at h
  split at h
  · rename_i e hu hz; cases hz; exact .inl ⟨_, hu, rfl⟩
  · rename_i e hu hz; cases hz; exact .inr (.inl ⟨_, hu, rfl⟩)
  · rename_i e f hu hz; cases hz; exact .inr (.inr (.inl ⟨_, _, hu, rfl⟩))
  · rename_i e f g hu hz; cases hz; exact .inr (.inr (.inr (.inl ⟨_, _, _, hu, rfl⟩)))
  · rename_i e hu hz; cases hz; exact .inr (.inr (.inr (.inr ⟨_, hu, rfl⟩)))
  · cases h

theorem nilK_soundN (d : Nat) {xt : TypeId} {v v' z : Value} (hv : VR ρ v v') (hz : nilC P xt (.const z) = true) {k : Bool → Option β} (h : nilK P xt v k = some r) :
    ∃ b, k b = some r ∧ (Op.equalIn (d + 1) xt v' z).run P w = .ok b w ∧ (Op.equalIn (d + 1) xt z v').run P w = .ok b w := by
  unfold nilK at h
  rcases nilC_inv hz with ⟨e, hu, rfl⟩ | ⟨e, hu, rfl⟩ | ⟨e, f, hu, rfl⟩ | ⟨e, f, g, hu, rfl⟩ | ⟨e, hu, rfl⟩
  · simp only [hu] at h
    replace h := kPtr_inv h; obtain ⟨a, rfl, h⟩ := h
    refine ⟨_, h, ?_⟩
    cases a with
    | none => rw [hv.ptrN_inv]; simp only [Op.equalIn, Sem.run_bind, run_underlying hu, Result.andThen_ok]; exact ⟨rfl, rfl⟩
    | some a => obtain ⟨p, _, _, rfl⟩ := hv.ptr_inv; simp only [Op.equalIn, Sem.run_bind, run_underlying hu, Result.andThen_ok]; exact ⟨rfl, rfl⟩
  · simp only [hu] at h
    replace h := kSl_inv h; obtain ⟨a, l, m, rfl, h⟩ := h
    refine ⟨_, h, ?_⟩
    cases a with
    | none => rw [hv.sliceN_inv.1]; simp only [Op.equalIn, Sem.run_bind, run_underlying hu, Result.andThen_ok]; exact ⟨rfl, rfl⟩
    | some a => obtain ⟨p, a', c', _, _, rfl, _⟩ := hv.slice_inv; simp only [Op.equalIn, Sem.run_bind, run_underlying hu, Result.andThen_ok]; exact ⟨rfl, rfl⟩
  · simp only [hu] at h
    replace h := kMp_inv h; obtain ⟨a, rfl, h⟩ := h
    refine ⟨_, h, ?_⟩
    cases a with
    | none => rw [hv.mapN_inv]; simp only [Op.equalIn, Sem.run_bind, run_underlying hu, Result.andThen_ok]; exact ⟨rfl, rfl⟩
    | some a => obtain ⟨p, _, rfl⟩ := hv.map_inv; simp only [Op.equalIn, Sem.run_bind, run_underlying hu, Result.andThen_ok]; exact ⟨rfl, rfl⟩
  · simp only [hu] at h
    split at h
    · cases hv; refine ⟨_, h, ?_⟩; simp only [Op.equalIn, Sem.run_bind, run_underlying hu, Result.andThen_ok]; exact ⟨rfl, rfl⟩
    · cases hv; refine ⟨_, h, ?_⟩; simp only [Op.equalIn, Sem.run_bind, run_underlying hu, Result.andThen_ok]; exact ⟨rfl, rfl⟩
    · cases h
  · simp only [hu] at h
    split at h
    · cases hv; refine ⟨_, h, ?_⟩; simp only [Op.equalIn, Sem.run_bind, run_underlying hu, Result.andThen_ok]; exact ⟨rfl, rfl⟩
    · cases hv; refine ⟨_, h, ?_⟩; simp only [Op.equalIn, Sem.run_bind, run_underlying hu, Result.andThen_ok]; exact ⟨rfl, rfl⟩
    · cases h

theorem nilK_sound {xt : TypeId} {v v' z : Value} (hv : VR ρ v v') (hz : nilC P xt (.const z) = true) {k : Bool → Option β} (h : nilK P xt v k = some r) :
    ∃ b, k b = some r ∧ (Op.equal xt v' z).run P w = .ok b w ∧ (Op.equal xt z v').run P w = .ok b w := nilK_soundN 9999 hv hz h

theorem nilC_const {xt : TypeId} {o : Operand} (h : nilC P xt o = true) : ∃ z, o = .const z ∧ nilC P xt (.const z) = true ∧ plainV z = true ∧
    (z = .pointer none ∨ z = .slice none 0 0 ∨ z = .map none ∨ z = .nilFunc ∨ z = .nilIface) := by
  have h' := h
  unfold nilC at h
  split at h <;> first | (cases h; done) | exact ⟨_, rfl, h', rfl, by simp⟩

theorem binOp_eql_other {xt : TypeId} {x y : Value} (hx : (∀ k n, x ≠ .int k n) ∧ (∀ k n, x ≠ .float k n) ∧ (∀ k n m, x ≠ .complex k n m) ∧ (∀ s, x ≠ .string s)) :
    binOp .eql xt x y = (do pure (.bool (← Op.equal xt x y))) ∧ binOp .neq xt x y = (do pure (.bool (!(← Op.equal xt x y)))) := by
  obtain ⟨h1, h2, h3, h4⟩ := hx
  cases x <;> first
    | exact ⟨rfl, rfl⟩
    | exact absurd rfl (h1 _ _)
    | exact absurd rfl (h2 _ _)
    | exact absurd rfl (h3 _ _ _)
    | exact absurd rfl (h4 _)
end
end Go.Proofs.YtgnkjpbecgpjoaaGreatDoor.Fw
set_option linter.unusedVariables false
set_option linter.unusedSimpArgs false
namespace Go.Proofs.YtgnkjpbecgpjoaaGreatDoor.Fw
open Go Go.RowKit

section
variable {P : Program} {ρ : Ren} {w : World} {β : Type} {r : β}

theorem eqGuard_constR {op : BinOp} {t : TypeId} {x : Operand} {a z : Value} (hz : z = .pointer none ∨ z = .slice none 0 0 ∨ z = .map none ∨ z = .nilFunc ∨ z = .nilIface) : eqGuard op t x (.const z) a z = pure () := by
  rcases hz with rfl | rfl | rfl | rfl | rfl <;> cases op <;> cases a <;> first | rfl | (cases x <;> rfl)
theorem eqGuard_constL {op : BinOp} {t : TypeId} {y : Operand} {b z : Value} (hz : z = .pointer none ∨ z = .slice none 0 0 ∨ z = .map none ∨ z = .nilFunc ∨ z = .nilIface) : eqGuard op t (.const z) y z b = pure () := by
  rcases hz with rfl | rfl | rfl | rfl | rfl <;> cases op <;> cases b <;> rfl

theorem nil_other {xt : TypeId} {v v' : Value} (hv : VR ρ v v') {k : Bool → Option β} (h : nilK P xt v k = some r) :
    (∀ k n, v' ≠ .int k n) ∧ (∀ k n, v' ≠ .float k n) ∧ (∀ k n m, v' ≠ .complex k n m) ∧ (∀ s, v' ≠ .string s) := by
  unfold nilK at h
  split at h
  · replace h := kPtr_inv h; obtain ⟨a, rfl, h⟩ := h; cases hv <;> simp
  · replace h := kSl_inv h; obtain ⟨a, l, m, rfl, h⟩ := h; cases hv <;> simp
  · replace h := kMp_inv h; obtain ⟨a, rfl, h⟩ := h; cases hv <;> simp
  · split at h
    · cases hv; simp
    · cases hv; simp
    · cases h
  · split at h
    · cases hv; simp
    · cases hv; simp
    · cases h
  · cases h

theorem eqv_agg {n : Nat} {t : TypeId} {x y : Value} {c : Bool → Option β} (h : eqv P (n + 1) t x y c = some r) {fs : Array Field} (hu : P.underlying t = some (.struct fs)) : ∃ xs ys, x = .agg xs ∧ y = .agg ys := by
  simp only [eqv, hu] at h
  split at h
  · cases h
  · replace h := kAgg_inv h; obtain ⟨xs, rfl, h⟩ := h
    replace h := kAgg_inv h; obtain ⟨ys, rfl, h⟩ := h
    exact ⟨xs, ys, rfl, rfl⟩

/-- Pointers. -/
theorem ptrEq_sound (d : Nat) {xt te : TypeId} (hu : P.underlying xt = some (.pointer te)) {j : TypeInfo} (hi : P.info? te = some j) {x y : Option Addr} {x' y' : Value} (hx : VR ρ (.pointer x) x') (hy : VR ρ (.pointer y) y')
    {f : Bool → Option β} (h : ptrEq x y f = some r) : ∃ b, f b = some r ∧ (Op.equalIn (d + 1) xt x' y').run P w = .ok b w := by
  unfold ptrEq at h
  split at h
  · rw [hx.ptrN_inv, hy.ptrN_inv]
    exact ⟨_, h, by simp only [Op.equalIn, Sem.run_bind, run_underlying hu, Result.andThen_ok]; rfl⟩
  · rename_i b
    obtain ⟨q, _, _, rfl⟩ := hy.ptr_inv
    rw [hx.ptrN_inv]
    exact ⟨_, h, by simp only [Op.equalIn, Sem.run_bind, run_underlying hu, Result.andThen_ok]; rfl⟩
  · rename_i a
    obtain ⟨p, _, _, rfl⟩ := hx.ptr_inv
    rw [hy.ptrN_inv]
    exact ⟨_, h, by simp only [Op.equalIn, Sem.run_bind, run_underlying hu, Result.andThen_ok]; rfl⟩
  · rename_i a b
    split at h
    · rename_i hb
      rw [Bool.and_eq_true] at hb
      have e1 := Nat.eq_of_beq_eq_true hb.1
      have e2 := Nat.eq_of_beq_eq_true hb.2
      obtain ⟨p, hp, _, rfl⟩ := hx.ptr_inv
      obtain ⟨q, hq, _, rfl⟩ := hy.ptr_inv
      rw [e1] at hp
      obtain rfl : p = q := Option.some.inj (hp.symm.trans hq)
      rw [e2]
      exact ⟨_, h, by simp [Op.equalIn, run_underlying hu, sizeOf, typeInfo, hi, run_sameAddr_same]⟩
    · cases h

theorem bin_sound {op : BinOp} {xt : TypeId} {xo yo : Operand} {x y : Value} {a : Act} {k : Value → Option β} (h : bin P op xt xo yo x y k = some r) (hx : VR ρ x (a.eval xo)) (hy : VR ρ y (a.eval yo)) :
    ∃ v v', k v = some r ∧ VR ρ v v' ∧ (do eqGuard op xt xo yo (a.eval xo) (a.eval yo); binOp op xt (a.eval xo) (a.eval yo) : Sem Value).run P w = .ok v' w := by
  unfold bin at h
  split at h
  · rename_i hs
    obtain ⟨kx, p, ky, q, v, v', e1, e2, h1, h2, h3⟩ := shV_sound (P := P) (w := w) (xt := xt) h hx hy
    rw [e1, e2]
    exact ⟨v, v', h1, h2, by simp only [Sem.run_bind, eqGuard_at_int, Sem.run_pure, Result.andThen_ok, h3]⟩
  · split at h
    · split at h
      · rename_i hc
        obtain ⟨p, q, e1, e2, h⟩ := cmpV_inv h hx hy
        rw [e1, e2]
        exact ⟨_, _, h, .bool _, by simp only [Sem.run_bind, eqGuard_at_int, Sem.run_pure, Result.andThen_ok, cmpB_run hc]⟩
      · obtain ⟨p, q, v, v', e1, e2, h1, h2, h3⟩ := arV_sound (P := P) (w := w) (xt := xt) h hx hy
        rw [e1, e2]
        exact ⟨v, v', h1, h2, by simp only [Sem.run_bind, eqGuard_at_int, Sem.run_pure, Result.andThen_ok, h3]⟩
    · replace h := kStr_inv h; obtain ⟨p, rfl, h⟩ := h
      replace h := kStr_inv h; obtain ⟨q, rfl, h⟩ := h
      obtain ⟨v, h1, h2, h3⟩ := binStr_sound (P := P) (w := w) (xt := xt) h
      rw [hx.string_inv, hy.string_inv]
      exact ⟨v, v, h1, h2 ρ, by simp only [Sem.run_bind, eqGuard_at_string, Sem.run_pure, Result.andThen_ok, h3]⟩
    · rename_i hu
      replace h := kBool_inv h; obtain ⟨p, rfl, h⟩ := h
      replace h := kBool_inv h; obtain ⟨q, rfl, h⟩ := h
      rw [hx.bool_inv, hy.bool_inv]
      cases op <;> simp only [] at h <;> try (cases h; done)
      · exact ⟨_, _, h, .bool _, by simp only [Sem.run_bind, eqGuard_at_bool, Sem.run_pure, Result.andThen_ok, run_eql_bool w xt p q hu]⟩
      · exact ⟨_, _, h, .bool _, by simp only [Sem.run_bind, eqGuard_at_bool, Sem.run_pure, Result.andThen_ok, run_neq_bool w xt p q hu]⟩
    · rename_i fs hu
      split at h
      · cases h
      · rename_i hg
        have key : ∀ (f : Bool → Option β), eqv P 20 xt x y f = some r → ∃ xs ys b, a.eval xo = .agg xs ∧ a.eval yo = .agg ys ∧ f b = some r ∧ (Op.equalIn 10000 xt (.agg xs) (.agg ys)).run P w = .ok b w := fun f hf => by
          obtain ⟨b, h1, h2⟩ := eqv_sound (w := w) 20 9980 xt x y _ _ f hf hx hy
          obtain ⟨xs, ys, rfl, rfl⟩ := eqv_agg (n := 19) hf hu
          obtain ⟨xs', e1, _, _⟩ := hx.agg_inv
          obtain ⟨ys', e2, _, _⟩ := hy.agg_inv
          rw [e1, e2] at h2
          exact ⟨xs', ys', b, e1, e2, h1, h2⟩
        cases op <;> simp only [] at h <;> try (cases h; done)
        · obtain ⟨xs, ys, b, e1, e2, h1, h2⟩ := key _ h
          rw [e1, e2]
          exact ⟨_, _, h1, .bool _, by simp only [Sem.run_bind, run_eqGuard_agg w _ xt xo yo xs ys hg, Result.andThen_ok, run_eql_struct, h2]⟩
        · obtain ⟨xs, ys, b, e1, e2, h1, h2⟩ := key _ h
          rw [e1, e2]
          exact ⟨_, _, h1, .bool _, by simp only [Sem.run_bind, run_eqGuard_agg w _ xt xo yo xs ys hg, Result.andThen_ok, run_neq_struct, h2]⟩
    · split at h
      · rename_i hz
        obtain ⟨z, rfl, hz', hp, hform⟩ := nilC_const hz
        have ho := nil_other hx h
        obtain ⟨b, h1, h2, _⟩ := nilK_sound (w := w) hx hz' h
        have e : a.eval (.const z) = z := rfl
        cases op <;> simp only [] at h1 <;> try (cases h1; done)
        · exact ⟨_, _, h1, .bool _, by rw [e]; simp only [Sem.run_bind, eqGuard_constR hform, Sem.run_pure, Result.andThen_ok, (binOp_eql_other ho).1, h2]⟩
        · exact ⟨_, _, h1, .bool _, by rw [e]; simp only [Sem.run_bind, eqGuard_constR hform, Sem.run_pure, Result.andThen_ok, (binOp_eql_other ho).2, h2]⟩
      · split at h
        · rename_i hz
          obtain ⟨z, rfl, hz', hp, hform⟩ := nilC_const hz
          obtain ⟨b, h1, _, h2⟩ := nilK_sound (w := w) hy hz' h
          have e : a.eval (.const z) = z := rfl
          have ho : (∀ k n, z ≠ .int k n) ∧ (∀ k n, z ≠ .float k n) ∧ (∀ k n m, z ≠ .complex k n m) ∧ (∀ s, z ≠ .string s) := by
            rcases hform with rfl | rfl | rfl | rfl | rfl <;> simp
          cases op <;> simp only [] at h1 <;> try (cases h1; done)
          · exact ⟨_, _, h1, .bool _, by rw [e]; simp only [Sem.run_bind, eqGuard_constL hform, Sem.run_pure, Result.andThen_ok, (binOp_eql_other ho).1, h2]⟩
          · exact ⟨_, _, h1, .bool _, by rw [e]; simp only [Sem.run_bind, eqGuard_constL hform, Sem.run_pure, Result.andThen_ok, (binOp_eql_other ho).2, h2]⟩
        · split at h
          · rename_i te hu
            split at h
            · rename_i j hi
              replace h := kPtr_inv h; obtain ⟨p, rfl, h⟩ := h
              replace h := kPtr_inv h; obtain ⟨q, rfl, h⟩ := h
              obtain ⟨b, h1, h2⟩ := ptrEq_sound (w := w) 9999 hu hi hx hy h
              have hp : ∃ p', a.eval xo = .pointer p' := by
                cases p with
                | none => exact ⟨_, hx.ptrN_inv⟩
                | some p => obtain ⟨_, _, _, e⟩ := hx.ptr_inv; exact ⟨_, e⟩
              obtain ⟨p', e⟩ := hp
              rw [e] at h2 ⊢
              rw [← equal_eq] at h2
              have ho : (∀ k n, Value.pointer p' ≠ .int k n) ∧ (∀ k n, Value.pointer p' ≠ .float k n) ∧ (∀ k n m, Value.pointer p' ≠ .complex k n m) ∧ (∀ s, Value.pointer p' ≠ .string s) := by simp
              cases op <;> simp only [] at h1 <;> try (cases h1; done)
              · exact ⟨_, _, h1, .bool _, by simp only [Sem.run_bind, eqGuard_at_pointer, Sem.run_pure, Result.andThen_ok, (binOp_eql_other ho).1, h2]⟩
              · exact ⟨_, _, h1, .bool _, by simp only [Sem.run_bind, eqGuard_at_pointer, Sem.run_pure, Result.andThen_ok, (binOp_eql_other ho).2, h2]⟩
            · cases h
          · cases h

theorem fieldOff_inv {s : TypeId} {f off : Nat} (h : fieldOff P s f = some off) : ∃ fs fl, P.underlying s = some (.struct fs) ∧ fs[f]? = some fl ∧ P.cellsOf fl.type ≠ 0 ∧ fl.offset = off := by
  unfold fieldOff at h
  split at h
  · rename_i fs hu
    split at h
    · rename_i fl hf
      split at h
      · cases h
      · rename_i hb
        refine ⟨fs, fl, hu, hf, fun e => ?_, by simpa using h⟩
        rw [e] at hb; simp at hb
    · cases h
  · cases h
theorem fieldTy_inv {s : TypeId} {f : Nat} {ot : Nat × TypeId} (h : fieldTy P s f = some ot) : ∃ fs fl, P.underlying s = some (.struct fs) ∧ fs[f]? = some fl ∧ ot = (fl.offset, fl.type) := by
  unfold fieldTy at h
  split at h
  · rename_i fs hu
    split at h
    · rename_i fl hf; exact ⟨fs, fl, hu, hf, by simpa using h.symm⟩
    · cases h
  · cases h
theorem cellsOf_info {e : TypeId} (h : P.cellsOf e ≠ 0) : ∃ i, P.info? e = some i := by
  cases hi : P.info? e with
  | none => simp [Program.cellsOf, hi] at h
  | some i => exact ⟨i, rfl⟩
theorem run_fieldAt_of {s : TypeId} {f off : Nat} (h : fieldOff P s f = some off) (b o : Nat) : (Instr.fieldAt s (.pointer (some ⟨b, o, none⟩)) f).run P w = .ok (.pointer (some ⟨b, o + off, none⟩)) w := by
  obtain ⟨fs, fl, hu, hf, hc, rfl⟩ := fieldOff_inv h
  obtain ⟨i, hi⟩ := cellsOf_info hc
  simp [Instr.fieldAt, run_underlying hu, hf, Instr.sureAddr, fieldPlace, run_sizeOf' hi, hc, addr_add]

theorem addr_eta {a : Addr} (h : a.spot = none) : a = ⟨a.block, a.off, none⟩ := by cases a; simp_all
theorem VR.ptr_add {a : Addr} {p : Pl} (ha : ρ a.block = some p) (hs : a.spot = none) (n : Nat) : VR ρ (.pointer (some (a.add n))) (.pointer (some ⟨p.blk, p.base + a.off + n, none⟩)) := by
  rw [addr_eta hs, addr_add]
  have := VR.ptr (ρ := ρ) a.block (a.off + n) p ha
  rwa [← Nat.add_assoc] at this

theorem sizeOf_any (e : TypeId) (n : Nat) (h : ∃ i, P.info? e = some i) : (sizeOf e).run P w = .ok (P.cellsOf e) w := let ⟨i, hi⟩ := h; run_sizeOf' hi w

/-- A map's entry, found in the world as on the abstract heap. -/
theorem keyTy_forms {kt : TypeId} {kk : KD} (hk : keyKd P kt = some kk) {ix : Value} {f : Value → Option β} (h : kTyC kk ix f = some r) :
    (∃ kd n, ix = .int kd n ∧ P.underlying kt = some (.int kd)) ∨ (∃ s, ix = .string s ∧ P.underlying kt = some .string) ∨ (∃ b, ix = .bool b ∧ P.underlying kt = some .bool) := by
  unfold keyKd at hk
  split at hk
  · rename_i kd hu
    obtain rfl := Option.some.inj hk
    simp only [kTyC] at h
    replace h := kInt_inv h; obtain ⟨n, rfl, h⟩ := h
    exact .inl ⟨_, _, rfl, hu⟩
  · rename_i hu
    obtain rfl := Option.some.inj hk
    simp only [kTyC] at h
    replace h := kStr_inv h; obtain ⟨n, rfl, h⟩ := h
    exact .inr (.inl ⟨_, rfl, hu⟩)
  · rename_i hu
    obtain rfl := Option.some.inj hk
    simp only [kTyC] at h
    replace h := kBool_inv h; obtain ⟨n, rfl, h⟩ := h
    exact .inr (.inr ⟨_, rfl, hu⟩)
  · cases hk

end
end Go.Proofs.YtgnkjpbecgpjoaaGreatDoor.Fw
