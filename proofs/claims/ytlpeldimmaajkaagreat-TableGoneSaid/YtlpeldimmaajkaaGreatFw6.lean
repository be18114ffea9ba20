/- FRAMEWORK 6: all operations that change nothing do in the world what they do on the abstract heap. -/
import Derived.Test.YtlpeldimmaajkaaGreatFw5
import Derived.LaidEql
set_option linter.unusedVariables false
set_option linter.unusedSimpArgs false
namespace Go.Proofs.YtlpeldimmaajkaaGreat.Fw
open Go Go.RowKit

section
variable {P : Program} {ρ : Ren} {w : World} {β : Type} {r : β}

theorem eqGuard_constR {op : BinOp} {t : TypeId} {x : Operand} {a z : Value} (hz : z = .pointer none ∨ z = .slice none 0 0 ∨ z = .map none ∨ z = .nilFunc ∨ z = .nilIface) : eqGuard op t x (.const z) a z = pure () := by
  rcases hz with rfl | rfl | rfl | rfl | rfl <;> cases op <;> cases a <;> first | rfl | (cases x <;> rfl)
theorem eqGuard_constL {op : BinOp} {t : TypeId} {y : Operand} {b z : Value} (hz : z = .pointer none ∨ z = .slice none 0 0 ∨ z = .map none ∨ z = .nilFunc ∨ z = .nilIface) : eqGuard op t (.const z) y z b = pure () := by
  rcases hz with rfl | rfl | rfl | rfl | rfl <;> cases op <;> cases b <;> rfl

theorem nil_other {xt : TypeId} {v v' : Value} (hv : VR ρ v v') {k : Bool → Option β} (h : nilK P xt v k = some r) :
    (∀ k n, v' ≠ .int k n) ∧ (∀ k n, v' ≠ .float k n) ∧ (∀ k n m, v' ≠ .complex k n m) ∧ (∀ s, v' ≠ .string s) := by
  unfold nilK at h
  split at h
  · replace h := kPtr_inv h; obtain ⟨a, rfl, h⟩ := h; cases hv <;> simp
  · replace h := kSl_inv h; obtain ⟨a, l, m, rfl, h⟩ := h; cases hv <;> simp
  · replace h := kMp_inv h; obtain ⟨a, rfl, h⟩ := h; cases hv <;> simp
  · split at h
    · cases hv; simp
    · cases hv; simp
    · cases h
  · split at h
    · cases hv; simp
    · cases hv; simp
    · cases h
  · cases h

theorem eqv_agg {n : Nat} {t : TypeId} {x y : Value} {c : Bool → Option β} (h : eqv P (n + 1) t x y c = some r) {fs : Array Field} (hu : P.underlying t = some (.struct fs)) : ∃ xs ys, x = .agg xs ∧ y = .agg ys := by
  simp only [eqv, hu] at h
  split at h
  · cases h
  · replace h := kAgg_inv h; obtain ⟨xs, rfl, h⟩ := h
    replace h := kAgg_inv h; obtain ⟨ys, rfl, h⟩ := h
    exact ⟨xs, ys, rfl, rfl⟩

/-- Pointers. -/
theorem ptrEq_sound (d : Nat) {xt te : TypeId} (hu : P.underlying xt = some (.pointer te)) {j : TypeInfo} (hi : P.info? te = some j) {x y : Option Addr} {x' y' : Value} (hx : VR ρ (.pointer x) x') (hy : VR ρ (.pointer y) y')
    {f : Bool → Option β} (h : ptrEq x y f = some r) : ∃ b, f b = some r ∧ (Op.equalIn (d + 1) xt x' y').run P w = .ok b w := by
  unfold ptrEq at h
  split at h
  · rw [hx.ptrN_inv, hy.ptrN_inv]
    exact ⟨_, h, by simp only [Op.equalIn, Sem.run_bind, run_underlying hu, Result.andThen_ok]; rfl⟩
  · rename_i b
    obtain ⟨q, _, _, rfl⟩ := hy.ptr_inv
    rw [hx.ptrN_inv]
    exact ⟨_, h, by simp only [Op.equalIn, Sem.run_bind, run_underlying hu, Result.andThen_ok]; rfl⟩
  · rename_i a
    obtain ⟨p, _, _, rfl⟩ := hx.ptr_inv
    rw [hy.ptrN_inv]
    exact ⟨_, h, by simp only [Op.equalIn, Sem.run_bind, run_underlying hu, Result.andThen_ok]; rfl⟩
  · rename_i a b
    split at h
    · rename_i hb
      rw [Bool.and_eq_true] at hb
      have e1 := Nat.eq_of_beq_eq_true hb.1
      have e2 := Nat.eq_of_beq_eq_true hb.2
      obtain ⟨p, hp, _, rfl⟩ := hx.ptr_inv
      obtain ⟨q, hq, _, rfl⟩ := hy.ptr_inv
      rw [e1] at hp
      obtain rfl : p = q := Option.some.inj (hp.symm.trans hq)
      rw [e2]
      exact ⟨_, h, by simp [Op.equalIn, run_underlying hu, sizeOf, typeInfo, hi, run_sameAddr_same]⟩
    · cases h

theorem bin_sound {op : BinOp} {xt : TypeId} {xo yo : Operand} {x y : Value} {a : Act} {k : Value → Option β} (h : bin P op xt xo yo x y k = some r) (hx : VR ρ x (a.eval xo)) (hy : VR ρ y (a.eval yo)) :
    ∃ v v', k v = some r ∧ VR ρ v v' ∧ (do eqGuard op xt xo yo (a.eval xo) (a.eval yo); binOp op xt (a.eval xo) (a.eval yo) : Sem Value).run P w = .ok v' w := by
  unfold bin at h
  split at h
  · rename_i hs
    replace h := kAnyInt_inv h; obtain ⟨kx, p, rfl, h⟩ := h
    replace h := kAnyInt_inv h; obtain ⟨ky, q, rfl, h⟩ := h
    obtain ⟨v, h1, h2, h3⟩ := binSh_sound (P := P) (w := w) (xt := xt) (ky := ky) h
    rw [hx.int_inv, hy.int_inv]
    exact ⟨v, v, h1, h2 ρ, by simp only [Sem.run_bind, eqGuard_at_int, Sem.run_pure, Result.andThen_ok, h3]⟩
  · split at h
    · replace h := kInt_inv h; obtain ⟨p, rfl, h⟩ := h
      replace h := kInt_inv h; obtain ⟨q, rfl, h⟩ := h
      obtain ⟨v, h1, h2, h3⟩ := binInt_sound (P := P) (w := w) (xt := xt) h
      rw [hx.int_inv, hy.int_inv]
      exact ⟨v, v, h1, h2 ρ, by simp only [Sem.run_bind, eqGuard_at_int, Sem.run_pure, Result.andThen_ok, h3]⟩
    · replace h := kStr_inv h; obtain ⟨p, rfl, h⟩ := h
      replace h := kStr_inv h; obtain ⟨q, rfl, h⟩ := h
      obtain ⟨v, h1, h2, h3⟩ := binStr_sound (P := P) (w := w) (xt := xt) h
      rw [hx.string_inv, hy.string_inv]
      exact ⟨v, v, h1, h2 ρ, by simp only [Sem.run_bind, eqGuard_at_string, Sem.run_pure, Result.andThen_ok, h3]⟩
    · rename_i hu
      replace h := kBool_inv h; obtain ⟨p, rfl, h⟩ := h
      replace h := kBool_inv h; obtain ⟨q, rfl, h⟩ := h
      rw [hx.bool_inv, hy.bool_inv]
      cases op <;> simp only [] at h <;> try (cases h; done)
      · exact ⟨_, _, h, .bool _, by simp only [Sem.run_bind, eqGuard_at_bool, Sem.run_pure, Result.andThen_ok, run_eql_bool w xt p q hu]⟩
      · exact ⟨_, _, h, .bool _, by simp only [Sem.run_bind, eqGuard_at_bool, Sem.run_pure, Result.andThen_ok, run_neq_bool w xt p q hu]⟩
    · rename_i fs hu
      split at h
      · cases h
      · rename_i hg
        have key : ∀ (f : Bool → Option β), eqv P 20 xt x y f = some r → ∃ xs ys b, a.eval xo = .agg xs ∧ a.eval yo = .agg ys ∧ f b = some r ∧ (Op.equalIn 10000 xt (.agg xs) (.agg ys)).run P w = .ok b w := fun f hf => by
          obtain ⟨b, h1, h2⟩ := eqv_sound (w := w) 20 9980 xt x y _ _ f hf hx hy
          obtain ⟨xs, ys, rfl, rfl⟩ := eqv_agg (n := 19) hf hu
          obtain ⟨xs', e1, _, _⟩ := hx.agg_inv
          obtain ⟨ys', e2, _, _⟩ := hy.agg_inv
          rw [e1, e2] at h2
          exact ⟨xs', ys', b, e1, e2, h1, h2⟩
        cases op <;> simp only [] at h <;> try (cases h; done)
        · obtain ⟨xs, ys, b, e1, e2, h1, h2⟩ := key _ h
          rw [e1, e2]
          exact ⟨_, _, h1, .bool _, by simp only [Sem.run_bind, run_eqGuard_agg w _ xt xo yo xs ys hg, Result.andThen_ok, run_eql_struct, h2]⟩
        · obtain ⟨xs, ys, b, e1, e2, h1, h2⟩ := key _ h
          rw [e1, e2]
          exact ⟨_, _, h1, .bool _, by simp only [Sem.run_bind, run_eqGuard_agg w _ xt xo yo xs ys hg, Result.andThen_ok, run_neq_struct, h2]⟩
    · split at h
      · rename_i hz
        obtain ⟨z, rfl, hz', hp, hform⟩ := nilC_const hz
        have ho := nil_other hx h
        obtain ⟨b, h1, h2, _⟩ := nilK_sound (w := w) hx hz' h
        have e : a.eval (.const z) = z := rfl
        cases op <;> simp only [] at h1 <;> try (cases h1; done)
        · exact ⟨_, _, h1, .bool _, by rw [e]; simp only [Sem.run_bind, eqGuard_constR hform, Sem.run_pure, Result.andThen_ok, (binOp_eql_other ho).1, h2]⟩
        · exact ⟨_, _, h1, .bool _, by rw [e]; simp only [Sem.run_bind, eqGuard_constR hform, Sem.run_pure, Result.andThen_ok, (binOp_eql_other ho).2, h2]⟩
      · split at h
        · rename_i hz
          obtain ⟨z, rfl, hz', hp, hform⟩ := nilC_const hz
          obtain ⟨b, h1, _, h2⟩ := nilK_sound (w := w) hy hz' h
          have e : a.eval (.const z) = z := rfl
          have ho : (∀ k n, z ≠ .int k n) ∧ (∀ k n, z ≠ .float k n) ∧ (∀ k n m, z ≠ .complex k n m) ∧ (∀ s, z ≠ .string s) := by
            rcases hform with rfl | rfl | rfl | rfl | rfl <;> simp
          cases op <;> simp only [] at h1 <;> try (cases h1; done)
          · exact ⟨_, _, h1, .bool _, by rw [e]; simp only [Sem.run_bind, eqGuard_constL hform, Sem.run_pure, Result.andThen_ok, (binOp_eql_other ho).1, h2]⟩
          · exact ⟨_, _, h1, .bool _, by rw [e]; simp only [Sem.run_bind, eqGuard_constL hform, Sem.run_pure, Result.andThen_ok, (binOp_eql_other ho).2, h2]⟩
        · split at h
          · rename_i te hu
            split at h
            · rename_i j hi
              replace h := kPtr_inv h; obtain ⟨p, rfl, h⟩ := h
              replace h := kPtr_inv h; obtain ⟨q, rfl, h⟩ := h
              obtain ⟨b, h1, h2⟩ := ptrEq_sound (w := w) 9999 hu hi hx hy h
              have hp : ∃ p', a.eval xo = .pointer p' := by
                cases p with
                | none => exact ⟨_, hx.ptrN_inv⟩
                | some p => obtain ⟨_, _, _, e⟩ := hx.ptr_inv; exact ⟨_, e⟩
              obtain ⟨p', e⟩ := hp
              rw [e] at h2 ⊢
              rw [← equal_eq] at h2
              have ho : (∀ k n, Value.pointer p' ≠ .int k n) ∧ (∀ k n, Value.pointer p' ≠ .float k n) ∧ (∀ k n m, Value.pointer p' ≠ .complex k n m) ∧ (∀ s, Value.pointer p' ≠ .string s) := by simp
              cases op <;> simp only [] at h1 <;> try (cases h1; done)
              · exact ⟨_, _, h1, .bool _, by simp only [Sem.run_bind, eqGuard_at_pointer, Sem.run_pure, Result.andThen_ok, (binOp_eql_other ho).1, h2]⟩
              · exact ⟨_, _, h1, .bool _, by simp only [Sem.run_bind, eqGuard_at_pointer, Sem.run_pure, Result.andThen_ok, (binOp_eql_other ho).2, h2]⟩
            · cases h
          · cases h

theorem fieldOff_inv {s : TypeId} {f off : Nat} (h : fieldOff P s f = some off) : ∃ fs fl, P.underlying s = some (.struct fs) ∧ fs[f]? = some fl ∧ P.cellsOf fl.type ≠ 0 ∧ fl.offset = off := by
  unfold fieldOff at h
  split at h
  · rename_i fs hu
    split at h
    · rename_i fl hf
      split at h
      · cases h
      · rename_i hb
        refine ⟨fs, fl, hu, hf, fun e => ?_, by simpa using h⟩
        rw [e] at hb; simp at hb
    · cases h
  · cases h
theorem fieldTy_inv {s : TypeId} {f : Nat} {ot : Nat × TypeId} (h : fieldTy P s f = some ot) : ∃ fs fl, P.underlying s = some (.struct fs) ∧ fs[f]? = some fl ∧ ot = (fl.offset, fl.type) := by
  unfold fieldTy at h
  split at h
  · rename_i fs hu
    split at h
    · rename_i fl hf; exact ⟨fs, fl, hu, hf, by simpa using h.symm⟩
    · cases h
  · cases h
theorem cellsOf_info {e : TypeId} (h : P.cellsOf e ≠ 0) : ∃ i, P.info? e = some i := by
  cases hi : P.info? e with
  | none => simp [Program.cellsOf, hi] at h
  | some i => exact ⟨i, rfl⟩
theorem run_fieldAt_of {s : TypeId} {f off : Nat} (h : fieldOff P s f = some off) (b o : Nat) : (Instr.fieldAt s (.pointer (some ⟨b, o, none⟩)) f).run P w = .ok (.pointer (some ⟨b, o + off, none⟩)) w := by
  obtain ⟨fs, fl, hu, hf, hc, rfl⟩ := fieldOff_inv h
  obtain ⟨i, hi⟩ := cellsOf_info hc
  simp [Instr.fieldAt, run_underlying hu, hf, Instr.sureAddr, fieldPlace, run_sizeOf' hi, hc, addr_add]

theorem addr_eta {a : Addr} (h : a.spot = none) : a = ⟨a.block, a.off, none⟩ := by cases a; simp_all
theorem VR.ptr_add {a : Addr} {p : Pl} (ha : ρ a.block = some p) (hs : a.spot = none) (n : Nat) : VR ρ (.pointer (some (a.add n))) (.pointer (some ⟨p.blk, p.base + a.off + n, none⟩)) := by
  rw [addr_eta hs, addr_add]
  have := VR.ptr (ρ := ρ) a.block (a.off + n) p ha
  rwa [← Nat.add_assoc] at this

theorem sizeOf_any (e : TypeId) (n : Nat) (h : ∃ i, P.info? e = some i) : (sizeOf e).run P w = .ok (P.cellsOf e) w := let ⟨i, hi⟩ := h; run_sizeOf' hi w

/-- A map's entry, found in the world as on the abstract heap. -/
theorem keyTy_forms {kt : TypeId} {kk : KD} (hk : keyKd P kt = some kk) {ix : Value} {f : Value → Option β} (h : kTy (some kk) ix f = some r) :
    (∃ kd n, ix = .int kd n ∧ P.underlying kt = some (.int kd)) ∨ (∃ s, ix = .string s ∧ P.underlying kt = some .string) ∨ (∃ b, ix = .bool b ∧ P.underlying kt = some .bool) := by
  unfold keyKd at hk
  split at hk
  · rename_i kd hu
    obtain rfl := Option.some.inj hk
    simp only [kTy] at h
    replace h := kInt_inv h; obtain ⟨n, rfl, h⟩ := h
    exact .inl ⟨_, _, rfl, hu⟩
  · rename_i hu
    obtain rfl := Option.some.inj hk
    simp only [kTy] at h
    replace h := kStr_inv h; obtain ⟨n, rfl, h⟩ := h
    exact .inr (.inl ⟨_, rfl, hu⟩)
  · rename_i hu
    obtain rfl := Option.some.inj hk
    simp only [kTy] at h
    replace h := kBool_inv h; obtain ⟨n, rfl, h⟩ := h
    exact .inr (.inr ⟨_, rfl, hu⟩)
  · cases hk

end
end Go.Proofs.YtlpeldimmaajkaaGreat.Fw
