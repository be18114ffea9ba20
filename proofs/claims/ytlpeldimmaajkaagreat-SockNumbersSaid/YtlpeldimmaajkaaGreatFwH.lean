/- FRAMEWORK 17: regions in the order of the text do in the world what they do on the abstract heap. -/
import Derived.Test.YtlpeldimmaajkaaGreatFwG
set_option linter.unusedVariables false
set_option linter.unusedSimpArgs false
namespace Go.Proofs.YtlpeldimmaajkaaGreat.Fw
open Go Go.RowKit

section
variable {P : Program} {β : Type} {r : β}

theorem put_size (a : Act) (d : Option Nat) (v : Value) : (a.put d v).tmps.size = a.tmps.size := by cases d <;> simp [Act.put]
theorem put_defers (a : Act) (d : Option Nat) (v : Value) : (a.put d v).defers = a.defers := by cases d <;> rfl

/-- The temporaries with a value put where it belongs. -/
def putT (t : Tm) (d : Option Nat) (v : Value) : Tm := match d with | none => t | some d => t.upd d v
theorem put_inv {n : Nat} {t : Tm} {d : Option Nat} {v : Value} {k : Tm → Option β} (h : put n t d v k = some r) : (∀ j, d = some j → j < n) ∧ k (putT t d v) = some r := by
  cases d with
  | none => exact ⟨(fun _ e => by cases e), h⟩
  | some d =>
    simp only [put] at h
    split at h
    · rename_i hb
      exact ⟨(fun j e => by obtain rfl := Option.some.inj e; exact Nat.le_of_ble_eq_true hb), h⟩
    · cases h
theorem TR.put {ρ : Ren} {t : Tm} {a : Act} {n : Nat} (h : TR ρ t a.tmps) (hn : a.tmps.size = n) {d : Option Nat} (hd : ∀ j, d = some j → j < n) {v v' : Value} (hv : VR ρ v v') : TR ρ (putT t d v) (a.put d v').tmps := by
  cases d with
  | none => exact h
  | some d => exact h.upd (by rw [hn]; exact hd d rfl) hv

/-- What a guard comes to. -/
def guardT (ops : List Oper) (n : Nat) (o : Oper) (t : Tm) : Option Bool :=
  match o.guard with
  | none => some true
  | some (j, want) => match ops[j]? with
    | some g => (match g.dst with | some d => (match t d with | some (.bool b) => if d < n then some (b == want) else none | some (.tuple _) => if d < n then some false else none | _ => none) | none => none)
    | none => none

theorem kBoolU_inv {v : Value} {u : Option β} {c : Bool → Option β} (h : kBoolU v u c = some r) : (∃ b, v = .bool b ∧ c b = some r) ∨ ∃ x, v = .tuple x ∧ u = some r := by
  unfold kBoolU at h
  split at h
  · exact .inl ⟨_, rfl, h⟩
  · exact .inr ⟨_, rfl, h⟩
  · cases h

theorem guard_inv {ops : List Oper} {n : Nat} {o : Oper} {t : Tm} {yes no : Tm → Option β} (h : guard ops n o t yes no = some r) :
    (guardT ops n o t = some true ∧ yes t = some r) ∨ (guardT ops n o t = some false ∧ no t = some r) := by
  unfold guard at h
  unfold guardT
  split at h
  · rename_i hg; exact .inl ⟨by simp [hg], h⟩
  · rename_i j want hg
    split at h
    · rename_i g hj
      split at h
      · rename_i d hd
        split at h
        · rename_i hb
          have hlt : d < n := Nat.le_of_ble_eq_true hb
          replace h := onSome_inv h; obtain ⟨v, hv, h⟩ := h
          rcases kBoolU_inv h with ⟨b, rfl, h⟩ | ⟨x, rfl, h⟩
          · have hu := upd_eq hv
            cases b <;> cases want <;> simp only [] at h <;> rw [hu] at h
            · exact .inl ⟨by simp [hg, hj, hd, hv, hlt], h⟩
            · exact .inr ⟨by simp [hg, hj, hd, hv, hlt], h⟩
            · exact .inr ⟨by simp [hg, hj, hd, hv, hlt], h⟩
            · exact .inl ⟨by simp [hg, hj, hd, hv, hlt], h⟩
          · exact .inr ⟨by simp [hg, hj, hd, hv, hlt], h⟩
        · cases h
      · cases h
    · cases h

theorem guard_wanted {ρ : Ren} {ops : Array Oper} {n : Nat} {o : Oper} {t : Tm} {tmps : Array Value} (ht : TR ρ t tmps) (hn : tmps.size = n) {b : Bool} (h : guardT ops.toList n o t = some b) : Region.wanted o (yielded ops tmps) = b := by
  unfold guardT at h
  unfold Region.wanted
  split at h
  · rename_i hg
    obtain rfl := Option.some.inj h
    simp [hg]
  · rename_i j want hg
    rw [hg]
    split at h
    · rename_i g hj
      split at h
      · rename_i d hd
        split at h
        · rename_i bb hv
          split at h
          · rename_i hlt
            obtain rfl := Option.some.inj h
            have e := (ht.1 d _ hv).bool_inv
            have hd' : d < tmps.size := by rw [hn]; exact hlt
            have hj' : ops[j]? = some g := by simpa using hj
            have e2 : tmps[d] = .bool bb := by simpa [Array.getD, hd'] using e
            have : yielded ops tmps j = some bb := by simp [yielded, hj', hd, hd', e2]
            simp only [this]
            cases bb <;> cases want <;> rfl
          · cases h
        · rename_i x hv
          split at h
          · rename_i hlt
            obtain rfl := Option.some.inj h
            obtain ⟨x', e, _⟩ := (ht.1 d _ hv).tuple_inv
            have hd' : d < tmps.size := by rw [hn]; exact hlt
            have hj' : ops[j]? = some g := by simpa using hj
            have e2 : tmps[d] = .tuple x' := by simpa [Array.getD, hd'] using e
            have : yielded ops tmps j = none := by simp [yielded, hj', hd, hd', e2]
            simp only [this]
            cases want <;> rfl
          · cases h
        · cases h
      · cases h
    · cases h

/-- What is so behind an operation. -/
structure Behind (ρ : Ren) (H : Heap) (w : World) (a : Act) (n : Nat) (k : Tm → Heap → Option β) (r : β) (a' : Act) (w' : World) : Prop where
  ex : ∃ ρ' t' H', k t' H' = some r ∧ Rel ρ' H' w' ∧ Ext ρ H w ρ' H' w' ∧ TR ρ' t' a'.tmps
  size : a'.tmps.size = n
  defers : a'.defers = a.defers

theorem op1_sound {Γ : Fs} (hΓ : ∀ f F, Γ f = some F → Sound P f F) {n : Nat} {o : Oper} {t : Tm} {H : Heap} {k : Tm → Heap → Option β} (h : op1 P Γ n o t H k = some r) {ρ : Ren} {w : World} {a : Act} (hR : Rel ρ H w) (ht : TR ρ t a.tmps) (hn : a.tmps.size = n)
    {K : Act → World → Prop} {Q : Exit → Act → World → Prop} (hK : ∀ a' w', Behind ρ H w a n k r a' w' → K a' w') : o.wp P a w K Q := by
  unfold op1 at h
  split at h
  · obtain ⟨v, v', h1, h2, h3⟩ := fl_sound hR ht h
    obtain ⟨hd, h4⟩ := put_inv h1
    exact val_wp h3 (hK _ _ ⟨⟨ρ, _, H, h4, hR, Ext.refl _ _ _, ht.put hn hd h2⟩, by rw [put_size, hn], put_defers _ _ _⟩)
  · obtain ⟨ob, mk, h1, co, v', p, h2, h3, h4, h5⟩ := al_sound (w := w) ht h
    obtain ⟨hd, h6⟩ := put_inv h1
    have hk : ∀ j, j < w.heap.size → (w.alloc co).heap[j]? = w.heap[j]? := fun j hj => Below.heap_alloc _ _ _ hj
    have hle := Ren.ins_le (p := p) hR.fresh
    exact val_wp h2 (hK _ _ ⟨⟨ρ.ins H.length p, _, _, h6, hR.new_gen h3 hk h4, Ext.new_gen hR h3 hk (by simp) rfl rfl rfl, (ht.mono hle).put hn hd (h5 _ _ hle (Ren.ins_self _ _ _))⟩, by rw [put_size, hn], put_defers _ _ _⟩)
  · refine ef_sound hΓ hR ht h fun v v' ρ' H' w' h1 h2 h3 h4 => ?_
    obtain ⟨hd, h5⟩ := put_inv h1
    exact hK _ _ ⟨⟨ρ', _, H', h5, h2, h3, (ht.mono h3.mono).put hn hd h4⟩, by rw [put_size, hn], put_defers _ _ _⟩

theorem opsE_sound {Γ : Fs} (hΓ : ∀ f F, Γ f = some F → Sound P f F) {n : Nat} {ops : Array Oper} {Q : Exit → Act → World → Prop} : ∀ (l : List Oper) (t : Tm) (H : Heap) (k : Tm → Heap → Option β), opsE P Γ n ops.toList l t H k = some r →
    ∀ (ρ : Ren) (w : World) (a : Act), Rel ρ H w → TR ρ t a.tmps → a.tmps.size = n → (∀ a' w', Behind ρ H w a n k r a' w' → Q .normal a' w') → wpList P ops Q l a w
  | [], t, H, k, h, ρ, w, a, hR, ht, hn, hQ => hQ a w ⟨⟨ρ, t, H, h, hR, Ext.refl _ _ _, ht⟩, hn, rfl⟩
  | o :: l, t, H, k, h, ρ, w, a, hR, ht, hn, hQ => by
    simp only [opsE] at h
    unfold wpList
    rcases guard_inv h with ⟨hg, h⟩ | ⟨hg, h⟩
    · rw [if_pos (guard_wanted ht hn hg)]
      refine .inl (op1_sound hΓ h hR ht hn fun a' w' hB => ?_)
      obtain ⟨ρ', t', H', h1, h2, h3, h4⟩ := hB.ex
      refine opsE_sound hΓ l t' H' k h1 ρ' w' a' h2 h4 hB.size fun a2 w2 hB2 => hQ a2 w2 ?_
      obtain ⟨ρ2, t2, H2, g1, g2, g3, g4⟩ := hB2.ex
      exact ⟨⟨ρ2, t2, H2, g1, g2, h3.trans g3 h2.dom, g4⟩, hB2.size, hB2.defers.trans hB.defers⟩
    · rw [if_neg (by rw [guard_wanted ht hn hg]; simp)]
      obtain ⟨hd, h⟩ := put_inv h
      refine opsE_sound hΓ l _ H k h ρ w _ hR (ht.put hn hd (VR.tuple_mk VL.nil)) (by rw [put_size, hn]) fun a2 w2 hB2 => hQ a2 w2 ⟨hB2.ex, hB2.size, hB2.defers.trans (put_defers _ _ _)⟩
end
end Go.Proofs.YtlpeldimmaajkaaGreat.Fw
