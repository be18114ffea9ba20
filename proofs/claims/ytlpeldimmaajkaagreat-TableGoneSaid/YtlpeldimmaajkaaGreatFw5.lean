/- FRAMEWORK 5: equality, and operators, do in the world what they do on abstract values. -/
import Derived.Test.YtlpeldimmaajkaaGreatFw4
set_option linter.unusedVariables false
set_option linter.unusedSimpArgs false
namespace Go.Proofs.YtlpeldimmaajkaaGreat.Fw
open Go Go.RowKit

section
variable {P : Program} {ρ : Ren} {w : World} {β : Type} {r : β}

theorem VL.extract {x x' : Array Value} (h : VL ρ x.toList x'.toList ∧ One x.toList) (i j : Nat) : VR ρ (.agg (x.extract i j)) (.agg (x'.extract i j)) := by
  have := (h.1.take j).drop i
  have e : ∀ y : Array Value, y.extract i j = ((y.toList.take j).drop i).toArray := fun y => by
    apply Array.ext'
    simp [List.extract_eq_take_drop, List.drop_take]
  rw [e x, e x']
  exact VR.agg_mk this ((h.2.take j).drop i)
theorem VL.getA {x x' : Array Value} (h : VL ρ x.toList x'.toList) {i : Nat} {v : Value} (hv : x[i]? = some v) : ∃ v', x'[i]? = some v' ∧ VR ρ v v' := by
  obtain ⟨v', h1, h2⟩ := h.get (i := i) (v := v) (by simpa using hv)
  exact ⟨v', by simpa using h1, h2⟩

/-- A part of an aggregate, concretely. -/
theorem part_agg {e : TypeId} {d : TypeDesc} (hd : P.underlying e = some d) (ha : aggD d = true) (cs : Array Value) (off : Nat) :
    (part e cs off).run P w = .ok (.agg (cs.extract off (off + P.cellsOf e))) w := by
  obtain ⟨i, hi⟩ := und_info hd
  simp [part, run_isAgg_of hd, ha, run_sizeOf' hi]
theorem part_one {e : TypeId} {d : TypeDesc} (hd : P.underlying e = some d) (ha : aggD d = false) {cs : Array Value} {off : Nat} {v : Value} (hv : cs[off]? = some v) :
    (part e cs off).run P w = .ok v w := by
  simp [part, run_isAgg_of hd, ha, hv]
theorem partK_sound {e : TypeId} {cs cs' : Array Value} (hcs : VL ρ cs.toList cs'.toList ∧ One cs.toList) {off : Nat} {k : Value → Option β} (h : partK P e cs off k = some r) :
    ∃ v v', k v = some r ∧ VR ρ v v' ∧ (part e cs' off).run P w = .ok v' w := by
  unfold partK at h
  cases hd : P.underlying e with
  | none =>
    simp [kdOf, hd] at h
    replace h := onSome_inv h; obtain ⟨v, _, h⟩ := h
    simp [kTy] at h
  | some d =>
    have one : aggD d = false → (onSome cs[off]? fun v => kTy (kdOf P e) v k) = some r → ∃ v v', k v = some r ∧ VR ρ v v' ∧ (part e cs' off).run P w = .ok v' w := fun ha h => by
      replace h := onSome_inv h; obtain ⟨v, hv, h⟩ := h
      obtain ⟨v', h1, h2⟩ := hcs.1.getA hv
      exact ⟨v, v', kTy_inv h, h2, part_one hd ha h1⟩
    cases d with
    | struct fs => exact ⟨_, _, by simpa [kdOf, hd] using h, VL.extract hcs _ _, part_agg hd rfl _ _⟩
    | array m e => exact ⟨_, _, by simpa [kdOf, hd] using h, VL.extract hcs _ _, part_agg hd rfl _ _⟩
    | _ => exact one rfl (by simp only [kdOf, hd] at h ⊢; exact h)

theorem eqv_sound : ∀ (n d : Nat) (t : TypeId) (x y x' y' : Value) (c : Bool → Option β), eqv P n t x y c = some r → VR ρ x x' → VR ρ y y' →
    ∃ b, c b = some r ∧ (Op.equalIn (n + d) t x' y').run P w = .ok b w
  | 0, _, _, _, _, _, _, _, h, _, _ => by simp [eqv] at h
  | n + 1, d, t, x, y, x', y', c, h, hx, hy => by
    rw [show n + 1 + d = (n + d) + 1 by omega]
    simp only [eqv] at h
    split at h
    · rename_i hu
      replace h := kBool_inv h; obtain ⟨a, rfl, h⟩ := h
      replace h := kBool_inv h; obtain ⟨b, rfl, h⟩ := h
      rw [hx.bool_inv, hy.bool_inv]
      exact ⟨_, h, run_equalIn_bool' w _ t a b hu⟩
    · rename_i kd hu
      replace h := kInt_inv h; obtain ⟨a, rfl, h⟩ := h
      replace h := kInt_inv h; obtain ⟨b, rfl, h⟩ := h
      rw [hx.int_inv, hy.int_inv]
      exact ⟨_, h, run_equalIn_int w _ t kd kd a b hu⟩
    · rename_i hu
      replace h := kStr_inv h; obtain ⟨a, rfl, h⟩ := h
      replace h := kStr_inv h; obtain ⟨b, rfl, h⟩ := h
      rw [hx.string_inv, hy.string_inv]
      exact ⟨_, h, run_equalIn_string w _ t a b hu⟩
    · rename_i fs hu
      split at h
      · cases h
      · rename_i hst
        replace h := kAgg_inv h; obtain ⟨xs, rfl, h⟩ := h
        replace h := kAgg_inv h; obtain ⟨ys, rfl, h⟩ := h
        obtain ⟨xs', rfl, hxs⟩ := hx.agg_inv
        obtain ⟨ys', rfl, hys⟩ := hy.agg_inv
        have hf : P.fieldsOf t = fs := by simp [Program.fieldsOf, hu]
        rw [run_equalIn_struct w _ t xs' ys' (by rw [hf]; exact hu) hst, hf]
        clear hx hy hu hf hst
        generalize fs.toList = l at h
        induction l with
        | nil => exact ⟨true, h, rfl⟩
        | cons f fs ih =>
          simp only [List.foldr_cons] at h
          simp only [Op.eqFields]
          split at h
          · rename_i hn
            simp only [hn, ne_eq, not_true_eq_false, if_false]
            exact ih h
          · rename_i hn
            simp only [hn, ne_eq, not_false_eq_true, if_true]
            -- one field
            have tail : ∀ (b : Bool) (rest : Option β), (match b with | true => rest | false => c false) = some r → (rest = some r → ∃ b, c b = some r ∧ (Op.eqFields (n + d) xs' ys' fs).run P w = .ok b w) →
                ∃ b', c b' = some r ∧ (if (!b) = true then (pure false : Sem Bool) else Op.eqFields (n + d) xs' ys' fs).run P w = .ok b' w := fun b rest hb hr => by
              cases b with
              | true => obtain ⟨b', h1, h2⟩ := hr hb; exact ⟨b', h1, by simpa using h2⟩
              | false => exact ⟨false, hb, by simp⟩
            split at h
            · rename_i m hk
              have hu' : ∃ dd, P.underlying f.type = some dd ∧ aggD dd = true ∧ m = P.cellsOf f.type := by
                unfold kdOf at hk
                split at hk <;> try (cases hk; done)
                · rename_i hq; simp at hk; exact ⟨_, hq, rfl, hk.symm⟩
                · rename_i hq; simp at hk; exact ⟨_, hq, rfl, hk.symm⟩
              obtain ⟨dd, hdd, hagg, rfl⟩ := hu'
              obtain ⟨b, hb, hrun⟩ := eqv_sound n d f.type _ _ _ _ _ h (VL.extract hxs f.offset (f.offset + P.cellsOf f.type)) (VL.extract hys f.offset (f.offset + P.cellsOf f.type))
              obtain ⟨b', h1, h2⟩ := tail b _ hb ih
              exact ⟨b', h1, by simp only [Sem.run_bind, part_agg hdd hagg, Result.andThen_ok, hrun]; exact h2⟩
            · rename_i hk
              replace h := onSome_inv h; obtain ⟨u, hu1, h⟩ := h
              replace h := onSome_inv h; obtain ⟨v, hv1, h⟩ := h
              obtain ⟨u', hu2, hu3⟩ := hxs.1.getA hu1
              obtain ⟨v', hv2, hv3⟩ := hys.1.getA hv1
              obtain ⟨b, hb, hrun⟩ := eqv_sound n d f.type _ _ _ _ _ h hu3 hv3
              obtain ⟨b', h1, h2⟩ := tail b _ hb ih
              have hdd : ∃ dd, P.underlying f.type = some dd ∧ aggD dd = false := by
                cases hq : P.underlying f.type with
                | none =>
                  cases n with
                  | zero => simp [eqv] at h
                  | succ n => simp [eqv, hq] at h
                | some dd =>
                  refine ⟨dd, rfl, ?_⟩
                  cases dd <;> first | rfl | (exfalso; exact hk _ (by simp [kdOf, hq]; rfl))
              obtain ⟨dd, hdd, hagg⟩ := hdd
              exact ⟨b', h1, by simp only [Sem.run_bind, part_one hdd hagg hu2, part_one hdd hagg hv2, Result.andThen_ok, hrun]; exact h2⟩
    · cases h

theorem binInt_sound {op : BinOp} {xt : TypeId} {kd : IntKind} {a b : Int} {k : Value → Option β} (h : binInt op kd a b k = some r) :
    ∃ v, k v = some r ∧ (∀ ρ, VR ρ v v) ∧ (binOp op xt (.int kd a) (.int kd b)).run P w = .ok v w := by
  cases op <;> simp only [binInt] at h
  case quo =>
    split at h
    · cases h
    · rename_i hb; exact ⟨_, h, fun _ => .int _ _, by simp [binOp, Op.intDiv, hb]⟩
  case rem =>
    split at h
    · cases h
    · rename_i hb; exact ⟨_, h, fun _ => .int _ _, by simp [binOp, Op.intDiv, hb]⟩
  all_goals first
    | (cases h; done)
    | exact ⟨_, h, fun _ => .int _ _, by simp [binOp, Op.intArith, intBits_and, intBits_or, intBits_xor, intBits_andNot]⟩
    | exact ⟨_, h, fun _ => .bool _, by simp [binOp, Op.intCmp]⟩

theorem binSh_sound {op : BinOp} {xt : TypeId} {kd ky : IntKind} {a b : Int} {k : Value → Option β} (h : binSh op kd a b k = some r) :
    ∃ v, k v = some r ∧ (∀ ρ, VR ρ v v) ∧ (binOp op xt (.int kd a) (.int ky b)).run P w = .ok v w := by
  cases op <;> simp only [binSh] at h <;> try (cases h; done)
  · split at h
    · cases h
    · rename_i hb; exact ⟨_, h, fun _ => .int _ _, by simp [binOp, shift_shl_any _ _ _ _ (Int.not_lt.1 hb)]⟩
  · split at h
    · cases h
    · rename_i hb; exact ⟨_, h, fun _ => .int _ _, by simp [binOp, shift_shr_any _ _ _ _ (Int.not_lt.1 hb)]⟩

theorem binStr_sound {op : BinOp} {xt : TypeId} {a b : ByteArray} {k : Value → Option β} (h : binStr op a b k = some r) :
    ∃ v, k v = some r ∧ (∀ ρ, VR ρ v v) ∧ (binOp op xt (.string a) (.string b)).run P w = .ok v w := by
  cases op <;> simp only [binStr] at h
  case add =>
    replace h := ite_inv h; obtain ⟨hs, h⟩ := h
    refine ⟨_, h, fun _ => .string _, ?_⟩
    have : ¬ (IntKind.i64.max < ((a.size + b.size : Nat) : Int)) := by rw [IntKind.max_i64]; omega
    simp only [binOp, Op.stringOp]
    rw [if_neg (by simpa using this)]
    rfl
  all_goals first
    | (cases h; done)
    | exact ⟨_, h, fun _ => .bool _, by simp [binOp, Op.stringOp]⟩

theorem equal_eq (t : TypeId) (x y : Value) : Op.equal t x y = Op.equalIn (9999 + 1) t x y := rfl
theorem nilC_inv {xt : TypeId} {z : Value} (h : nilC P xt (.const z) = true) :
    (∃ e, P.underlying xt = some (.pointer e) ∧ z = .pointer none) ∨ (∃ e, P.underlying xt = some (.slice e) ∧ z = .slice none 0 0) ∨ (∃ e f, P.underlying xt = some (.map e f) ∧ z = .map none) ∨
    (∃ e f g, P.underlying xt = some (.func e f g) ∧ z = .nilFunc) ∨ (∃ e, P.underlying xt = some (.interface e) ∧ z = .nilIface) := by
  unfold nilC at h
  split at h
  · rename_i e hu hz; cases hz; exact .inl ⟨_, hu, rfl⟩
  · rename_i e hu hz; cases hz; exact .inr (.inl ⟨_, hu, rfl⟩)
  · rename_i e f hu hz; cases hz; exact .inr (.inr (.inl ⟨_, _, hu, rfl⟩))
  · rename_i e f g hu hz; cases hz; exact .inr (.inr (.inr (.inl ⟨_, _, _, hu, rfl⟩)))
  · rename_i e hu hz; cases hz; exact .inr (.inr (.inr (.inr ⟨_, hu, rfl⟩)))
  · cases h

theorem nilK_soundN (d : Nat) {xt : TypeId} {v v' z : Value} (hv : VR ρ v v') (hz : nilC P xt (.const z) = true) {k : Bool → Option β} (h : nilK P xt v k = some r) :
    ∃ b, k b = some r ∧ (Op.equalIn (d + 1) xt v' z).run P w = .ok b w ∧ (Op.equalIn (d + 1) xt z v').run P w = .ok b w := by
  unfold nilK at h
  rcases nilC_inv hz with ⟨e, hu, rfl⟩ | ⟨e, hu, rfl⟩ | ⟨e, f, hu, rfl⟩ | ⟨e, f, g, hu, rfl⟩ | ⟨e, hu, rfl⟩
  · simp only [hu] at h
    replace h := kPtr_inv h; obtain ⟨a, rfl, h⟩ := h
    refine ⟨_, h, ?_⟩
    cases a with
    | none => rw [hv.ptrN_inv]; simp only [Op.equalIn, Sem.run_bind, run_underlying hu, Result.andThen_ok]; exact ⟨rfl, rfl⟩
    | some a => obtain ⟨p, _, _, rfl⟩ := hv.ptr_inv; simp only [Op.equalIn, Sem.run_bind, run_underlying hu, Result.andThen_ok]; exact ⟨rfl, rfl⟩
  · simp only [hu] at h
    replace h := kSl_inv h; obtain ⟨a, l, m, rfl, h⟩ := h
    refine ⟨_, h, ?_⟩
    cases a with
    | none => rw [hv.sliceN_inv.1]; simp only [Op.equalIn, Sem.run_bind, run_underlying hu, Result.andThen_ok]; exact ⟨rfl, rfl⟩
    | some a => obtain ⟨p, a', c', _, _, rfl, _⟩ := hv.slice_inv; simp only [Op.equalIn, Sem.run_bind, run_underlying hu, Result.andThen_ok]; exact ⟨rfl, rfl⟩
  · simp only [hu] at h
    replace h := kMp_inv h; obtain ⟨a, rfl, h⟩ := h
    refine ⟨_, h, ?_⟩
    cases a with
    | none => rw [hv.mapN_inv]; simp only [Op.equalIn, Sem.run_bind, run_underlying hu, Result.andThen_ok]; exact ⟨rfl, rfl⟩
    | some a => obtain ⟨p, _, rfl⟩ := hv.map_inv; simp only [Op.equalIn, Sem.run_bind, run_underlying hu, Result.andThen_ok]; exact ⟨rfl, rfl⟩
  · simp only [hu] at h
    split at h
    · cases hv; refine ⟨_, h, ?_⟩; simp only [Op.equalIn, Sem.run_bind, run_underlying hu, Result.andThen_ok]; exact ⟨rfl, rfl⟩
    · cases hv; refine ⟨_, h, ?_⟩; simp only [Op.equalIn, Sem.run_bind, run_underlying hu, Result.andThen_ok]; exact ⟨rfl, rfl⟩
    · cases h
  · simp only [hu] at h
    split at h
    · cases hv; refine ⟨_, h, ?_⟩; simp only [Op.equalIn, Sem.run_bind, run_underlying hu, Result.andThen_ok]; exact ⟨rfl, rfl⟩
    · cases hv; refine ⟨_, h, ?_⟩; simp only [Op.equalIn, Sem.run_bind, run_underlying hu, Result.andThen_ok]; exact ⟨rfl, rfl⟩
    · cases h

theorem nilK_sound {xt : TypeId} {v v' z : Value} (hv : VR ρ v v') (hz : nilC P xt (.const z) = true) {k : Bool → Option β} (h : nilK P xt v k = some r) :
    ∃ b, k b = some r ∧ (Op.equal xt v' z).run P w = .ok b w ∧ (Op.equal xt z v').run P w = .ok b w := nilK_soundN 9999 hv hz h

theorem nilC_const {xt : TypeId} {o : Operand} (h : nilC P xt o = true) : ∃ z, o = .const z ∧ nilC P xt (.const z) = true ∧ plainV z = true ∧
    (z = .pointer none ∨ z = .slice none 0 0 ∨ z = .map none ∨ z = .nilFunc ∨ z = .nilIface) := by
  have h' := h
  unfold nilC at h
  split at h <;> first | (cases h; done) | exact ⟨_, rfl, h', rfl, by simp⟩

theorem binOp_eql_other {xt : TypeId} {x y : Value} (hx : (∀ k n, x ≠ .int k n) ∧ (∀ k n, x ≠ .float k n) ∧ (∀ k n m, x ≠ .complex k n m) ∧ (∀ s, x ≠ .string s)) :
    binOp .eql xt x y = (do pure (.bool (← Op.equal xt x y))) ∧ binOp .neq xt x y = (do pure (.bool (!(← Op.equal xt x y)))) := by
  obtain ⟨h1, h2, h3, h4⟩ := hx
  cases x <;> first
    | exact ⟨rfl, rfl⟩
    | exact absurd rfl (h1 _ _)
    | exact absurd rfl (h2 _ _)
    | exact absurd rfl (h3 _ _ _)
    | exact absurd rfl (h4 _)
end
end Go.Proofs.YtlpeldimmaajkaaGreat.Fw
