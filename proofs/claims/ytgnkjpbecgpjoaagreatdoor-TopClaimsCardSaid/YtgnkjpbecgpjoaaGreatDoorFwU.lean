/- FRAMEWORK 30: functions told anew: what they leave behind that nobody sees is passed over; contracts of the library brought in. -/
import Derived.Test.YtgnkjpbecgpjoaaGreatDoorFwQ
import Derived.Sort.Grow
import Derived.Deep.Draws
set_option linter.unusedVariables false
set_option linter.unusedSimpArgs false
namespace Go.Proofs.YtgnkjpbecgpjoaaGreatDoor.Fw
open Go Go.RowKit

section
variable {P : Program} {ρ ρ2 : Ren} {H H1 : Heap} {w w' : World}

theorem VR.plain1_eq {v v' : Value} (h : VR ρ v v') (hp : plain1 v = true) : v' = v := by
  cases h <;> first | rfl | (simp [plain1] at hp)
theorem VL.plain_eq {l l' : List Value} (h : VL ρ l l') (hp : l.all plain1 = true) : l' = l := by
  apply List.ext_getElem?
  intro i
  cases hi : l[i]? with
  | none =>
    have : l.length ≤ i := by simpa using hi
    simp only [List.getElem?_eq_none_iff]; have := h.1; omega
  | some v =>
    obtain ⟨v', h1, h2⟩ := h.get hi
    rw [h1, h2.plain1_eq (List.all_eq_true.1 hp v (List.mem_of_getElem? hi))]
theorem VR.plain_eq {v v' : Value} (h : VR ρ v v') (hp : plainV v = true) : v' = v := by
  cases v with
  | agg cs =>
    obtain ⟨x', rfl, h1, _⟩ := h.agg_inv
    congr 1
    exact Array.toList_inj.1 (h1.plain_eq hp)
  | tuple cs =>
    obtain ⟨x', rfl, h1⟩ := h.tuple_inv
    congr 1
    exact Array.toList_inj.1 (h1.plain_eq hp)
  | bool _ => exact h.plain1_eq hp
  | int _ _ => exact h.plain1_eq hp
  | string _ => exact h.plain1_eq hp
  | pointer _ => exact h.plain1_eq hp
  | slice _ _ _ => exact h.plain1_eq hp
  | map _ => exact h.plain1_eq hp
  | nilFunc => exact h.plain1_eq hp
  | nilIface => exact h.plain1_eq hp
  | _ => simp [plainV, plain1] at hp

/-- What a value tells under a renaming it tells under a lesser one, if it tells anything there. -/
theorem VR.lower {ρ ρ' : Ren} (hle : Le ρ ρ') {v u v' : Value} (h : VR ρ v u) (h' : VR ρ' v v') : VR ρ v v' := by
  induction h generalizing v' with
  | bool b => cases h'; exact .bool _
  | int k n => cases h'; exact .int _ _
  | string s => cases h'; exact .string _
  | ptrN => cases h'; exact .ptrN
  | ptr b off p h =>
    cases h' with
    | ptr _ _ p' h2 => obtain rfl : p = p' := by rw [hle b p h] at h2; exact Option.some.inj h2
                       exact .ptr _ _ _ h
  | sliceN => cases h'; exact .sliceN
  | slice b off len cap cap' a' p h hc hl ha =>
    cases h' with
    | slice _ _ _ _ cap2 a2 p2 h2 hc2 hl2 ha2 => obtain rfl : p = p2 := by rw [hle b p h] at h2; exact Option.some.inj h2
                                                 exact .slice _ _ _ _ _ _ _ h hc2 hl2 ha2
  | mapN => cases h'; exact .mapN
  | map r p h =>
    cases h' with
    | map _ p' h2 => obtain rfl : p = p' := by rw [hle r p h] at h2; exact Option.some.inj h2
                     exact .map _ _ h
  | nilFunc => cases h'; exact .nilFunc
  | sym b c o m lo hi n h =>
    cases h' with
    | sym _ _ _ _ _ _ n' h2 =>
      refine .sym _ _ _ _ _ _ _ ?_
      obtain ⟨_, _, t, q, h3, _⟩ := h
      obtain ⟨k1, k2, u, q', k3, k4⟩ := h2
      refine ⟨k1, k2, u, q', ?_, k4⟩
      rcases k3 with k3 | ⟨p', k5, k6⟩
      · exact .inl k3
      · rcases h3 with h3 | ⟨p, h5, h6⟩
        · exact .inl h3
        · have := hle _ _ h5
          rw [this] at k5
          obtain rfl := Option.some.inj k5
          exact .inr ⟨p, h5, k6⟩
  | func fn x y x' y' hx hy h1 h2 ih1 ih2 =>
    cases h' with
    | func _ _ _ x2 y2 hx2 hy2 k1 k2 =>
      refine .func _ _ _ _ _ hx2 hy2 (fun i a b ha hb => ?_) (fun i a b ha hb => ?_)
      · have hi : i < x'.size := by rw [← hx]; exact (Array.getElem?_eq_some_iff.1 ha).1
        exact ih1 i a x'[i] ha (by simp [hi]) (k1 i a b ha hb)
      · have hi : i < y'.size := by rw [← hy]; exact (Array.getElem?_eq_some_iff.1 ha).1
        exact ih2 i a y'[i] ha (by simp [hi]) (k2 i a b ha hb)
  | nilIface => cases h'; exact .nilIface
  | hole u hu => cases h'; exact .hole _ ‹_›
  | iface t v v2 h ih =>
    cases h' with
    | iface _ _ v3 h3 => exact .iface _ _ _ (ih h3)
  | agg x x' hs h1 h ih =>
    cases h' with
    | agg _ x2 hs2 _ h2 =>
      refine .agg _ _ hs2 h1 fun i a b ha hb => ?_
      have hi : i < x'.size := by rw [← hs]; exact (Array.getElem?_eq_some_iff.1 ha).1
      exact ih i a x'[i] ha (by simp [hi]) (h2 i a b ha hb)
  | tuple x x' hs h ih =>
    cases h' with
    | tuple _ x2 hs2 h2 =>
      refine .tuple _ _ hs2 fun i a b ha hb => ?_
      have hi : i < x'.size := by rw [← hs]; exact (Array.getElem?_eq_some_iff.1 ha).1
      exact ih i a x'[i] ha (by simp [hi]) (h2 i a b ha hb)

theorem OR.lower {ρ ρ' : Ren} (hle : Le ρ ρ') {w w' : World} {p : Pl} {o : AObj} (h : OR ρ w p o) (h' : OR ρ' w' p o) : OR ρ w' p o := by
  cases o with
  | cells cs esz own =>
    obtain ⟨c, el, fz, h1, h2, h3, h4, h5, h6⟩ := h
    obtain ⟨c', el', fz', k1, k2, k3, k4, k5, k6⟩ := h'
    refine ⟨c', el', fz', k1, k2, k3, k4, fun i v hv => ?_, k6⟩
    obtain ⟨o1, v1, a1, b1⟩ := h5 i v hv
    obtain ⟨o2, v2, a2, b2⟩ := k5 i v hv
    exact ⟨o1, v2, a2, b1.lower hle b2⟩
  | map es bs clk =>
    obtain ⟨es', h1, h2, h3, h4⟩ := h
    obtain ⟨es2, k1, k2, k3, k4⟩ := h'
    refine ⟨es2, k1, k2, fun i k v e he hi => ?_, k4⟩
    have hlt : i < es'.size := by rw [← h2]; exact (List.getElem?_eq_some_iff.1 he).1
    obtain ⟨x1, y1⟩ := h3 i k v es'[i] he (by simp [hlt])
    obtain ⟨x2, y2⟩ := k3 i k v e he hi
    exact ⟨x1.lower hle x2, y1.lower hle y2⟩
  | iter r since seen last =>
    obtain ⟨h0, r', h1, h2⟩ := h
    obtain ⟨_, r2, k1, k2⟩ := h'
    exact ⟨h0, r2, k1, h2.lower hle k2⟩
  | dead => exact trivial

/-- Blocks of plain values. -/
def AObj.flat : AObj → Bool
  | .cells cs _ _ => cs.all plain1
  | .map es _ _ => es.all fun e => plain1 e.1 && plain1 e.2
  | .iter _ _ _ _ => false
  | .dead => true
theorem OR.flat {ρ ρ' : Ren} {w : World} {p : Pl} {o : AObj} (h : OR ρ w p o) (hf : o.flat = true) : OR ρ' w p o := by
  cases o with
  | cells cs esz own =>
    obtain ⟨c, el, fz, h1, h2, h3, h4, h5, h6⟩ := h
    refine ⟨c, el, fz, h1, h2, h3, h4, fun i v hv => ?_, h6⟩
    obtain ⟨o1, v1, a1, b1⟩ := h5 i v hv
    have hp := List.all_eq_true.1 hf v (List.mem_of_getElem? hv)
    rw [b1.plain1_eq hp] at a1
    exact ⟨o1, v, a1, plain1_VR hp⟩
  | iter r since seen last => cases hf
  | map es bs clk =>
    obtain ⟨es', h1, h2, h3, h4⟩ := h
    refine ⟨es', h1, h2, fun i k v e he hi => ?_, h4⟩
    obtain ⟨x1, y1⟩ := h3 i k v e he hi
    have hp := List.all_eq_true.1 hf (k, v) (List.mem_of_getElem? he)
    simp only [Bool.and_eq_true] at hp
    rw [x1.plain1_eq hp.1, y1.plain1_eq hp.2]
    exact ⟨plain1_VR hp.1, plain1_VR hp.2⟩
  | dead => exact trivial

/-- The renaming of the first n blocks, and of one more, that stood elsewhere. -/
def Ren.one (ρ : Ren) (n : Nat) (q : Option Pl) : Ren := fun b => if b < n then ρ b else if b = n then q else none

/-- What is left of a state when of the new blocks one alone is kept, or none. -/
theorem keep_one {ρ' : Ren} (hR : Rel ρ H w) (h1 : Rel ρ' H1 w') (h2 : Ext ρ H w ρ' H1 w') (hk : ∀ k, k < H.length → H1[k]? = H[k]?) (b : Nat) (hb : H.length ≤ b) (g : Heap) (hg : ∀ o, g[0]? = some o → H1[b]? = some o ∧ o.flat = true) (q : Option Pl) (hq : ∀ p, q = some p → ρ' b = some p ∧ g ≠ []) :
    Rel (ρ'.one H.length q) (H ++ g) w' ∧ Ext ρ H w (ρ'.one H.length q) (H ++ g) w' := by
  have hle : Le ρ (ρ'.one H.length q) := fun c p hc => by
    unfold Ren.one
    rw [if_pos (hR.dom c p hc)]
    exact h2.mono c p hc
  have old : ∀ c p, c < H.length → ρ' c = some p → ρ c = some p := fun c p hlt hc => by
    cases hr : ρ c with
    | none => have := h2.newid c p hc hr; omega
    | some p' => rw [h2.mono c p' hr] at hc; exact hc
  have key : ∀ c p o, (ρ'.one H.length q) c = some p → (H ++ g)[c]? = some o → (c < H.length ∧ ρ c = some p ∧ ρ' c = some p ∧ H[c]? = some o ∧ H1[c]? = some o) ∨ (c = H.length ∧ ρ' b = some p ∧ H1[b]? = some o ∧ o.flat = true) := fun c p o hc ho => by
    unfold Ren.one at hc
    split at hc
    · rename_i hlt
      rw [List.getElem?_append_left hlt] at ho
      exact .inl ⟨hlt, old c p hlt hc, hc, ho, (hk c hlt).trans ho⟩
    · split at hc
      · rename_i hlt e
        subst e
        rw [List.getElem?_append_right (Nat.le_refl _), Nat.sub_self] at ho
        exact .inr ⟨rfl, (hq p hc).1, (hg o ho).1, (hg o ho).2⟩
      · cases hc
  refine ⟨⟨fun c p hc => ?_, fun c p o hc ho => ?_, fun c c' p p' o o' hc hc' ho ho' hw hl hne => ?_, hR.glob.mono hle⟩, ⟨hle, by simp, fun c p hc hn => ?_, h2.keep, fun c p hc hn => ?_, fun c p o' hc ho hw => ⟨o', by rw [List.getElem?_append_left (hR.dom c p hc)] at ho; exact ho, hw⟩, h2.size, h2.os, h2.tape, h2.output⟩⟩
  · unfold Ren.one at hc
    split at hc
    · simp; omega
    · split at hc
      · have := (hq p hc).2
        have := List.length_pos_iff.2 this
        simp; omega
      · cases hc
  · rcases key c p o hc ho with ⟨hlt, a1, a2, a3, a4⟩ | ⟨rfl, a1, a2, a3⟩
    · exact (OR.lower h2.mono (hR.obj c p o a1 a3) (h1.obj c p o a2 a4)).mono hle
    · exact (h1.obj b p o a1 a2).flat a3
  · rcases key c p o hc ho with ⟨hlt, a1, a2, a3, a4⟩ | ⟨rfl, a1, a2, a3⟩ <;> rcases key c' p' o' hc' ho' with ⟨hlt', b1, b2, b3, b4⟩ | ⟨rfl, b1, b2, b3⟩
    · exact h1.sep c c' p p' o o' a2 b2 a4 b4 hw hl hne
    · exact h1.sep c b p p' o o' a2 b1 a4 b2 hw hl (by omega)
    · exact h1.sep b c' p p' o o' a1 b2 a2 b4 hw hl (by omega)
    · exact absurd rfl hne
  · unfold Ren.one at hc
    split at hc
    · exact h2.newid c p hc hn
    · omega
  · unfold Ren.one at hc
    split at hc
    · exact h2.newblk c p hc hn
    · split at hc
      · have hb' : ρ b = none := by
          cases hr : ρ b with
          | none => rfl
          | some p' => have := hR.dom b p' hr; omega
        exact h2.newblk b p (hq p hc).1 hb'
      · cases hc

/-- A function of a plain result: what it leaves behind is passed over. -/
theorem Sound.clean {f : FuncId} {F F' : List Value → Heap → Option (Value × Heap)} (hs : Sound P f F)
    (h : ∀ args H v H', F' args H = some (v, H') → H' = H ∧ plainV v = true ∧ ∃ H1, F args H = some (v, H1) ∧ ∀ k, k < H.length → H1[k]? = H[k]?) : Sound P f F' := by
  have one : ∀ {H v H1 ρ w v' ρ' w'}, Rel ρ H w → plainV v = true → (∀ k, k < H.length → H1[k]? = H[k]?) → Rel ρ' H1 w' → Ext ρ H w ρ' H1 w' → VR ρ' v v' → ∃ ρ2, Rel ρ2 H w' ∧ Ext ρ H w ρ2 H w' ∧ VR ρ2 v v' := fun {H v H1 ρ w v' ρ' w'} hR hp hk h1 h2 h3 => by
    obtain ⟨a, b⟩ := keep_one hR h1 h2 hk H.length (Nat.le_refl _) [] (fun o ho => by simp at ho) none (fun p hp => by cases hp)
    rw [List.append_nil] at a b
    exact ⟨_, a, b, by rw [h3.plain_eq hp]; exact plainV_VR hp⟩
  rcases hs with hs | hs
  · refine .inl ⟨hs.enters, fun args H v H' hF ρ w args' hR hv => ?_⟩
    obtain ⟨rfl, hp, H1, e, hk⟩ := h args H v H' hF
    refine Calls.mono' (hs.calls args _ v H1 e ρ w args' hR hv) ?_
    rintro e' w' ⟨v', ρ', rfl, h1, h2, h3⟩
    obtain ⟨ρ2, a, b, c⟩ := one hR hp hk h1 h2 h3
    exact ⟨v', ρ2, rfl, a, b, c⟩
  · refine .inr fun args H v H' hF ρ w args' hR hv => ?_
    obtain ⟨rfl, hp, H1, e, hk⟩ := h args H v H' hF
    obtain ⟨v', ρ', w', h0, h1, h2, h3⟩ := hs args _ v H1 e ρ w args' hR hv
    obtain ⟨ρ2, a, b, c⟩ := one hR hp hk h1 h2 h3
    exact ⟨v', ρ2, w', h0, a, b, c⟩

/-- A function that hands back a new row of plain values: what it leaves behind else is passed over. -/
theorem Sound.row {f : FuncId} {F F' : List Value → Heap → Option (Value × Heap)} (hs : Sound P f F)
    (h : ∀ args H v H', F' args H = some (v, H') → ∃ b off len cap cs esz own H1, H.length ≤ b ∧ v = .slice (some ⟨H.length, off, none⟩) len cap ∧ H' = H ++ [.cells cs esz own] ∧ cs.all plain1 = true ∧ F args H = some (.slice (some ⟨b, off, none⟩) len cap, H1) ∧ H1[b]? = some (.cells cs esz own) ∧ ∀ k, k < H.length → H1[k]? = H[k]?) : Sound P f F' := by
  have one : ∀ {H : Heap} {b off len cap cs esz own H1 ρ w v' ρ' w'}, Rel ρ H w → H.length ≤ b → cs.all plain1 = true → H1[b]? = some (.cells cs esz own) → (∀ k, k < H.length → H1[k]? = H[k]?) → Rel ρ' H1 w' → Ext ρ H w ρ' H1 w' → VR ρ' (.slice (some ⟨b, off, none⟩) len cap) v' →
      ∃ ρ2, Rel ρ2 (H ++ [.cells cs esz own]) w' ∧ Ext ρ H w ρ2 (H ++ [.cells cs esz own]) w' ∧ VR ρ2 (.slice (some ⟨H.length, off, none⟩) len cap) v' := fun {H b off len cap cs esz own H1 ρ w v' ρ' w'} hR hb hp hat hk h1 h2 h3 => by
    cases h3 with
    | slice _ _ _ _ cap' a' p h hc hl ha =>
      obtain ⟨x, y⟩ := keep_one hR h1 h2 hk b hb [.cells cs esz own] (fun o ho => by simp at ho; subst ho; exact ⟨hat, hp⟩) (some p) (fun p' hp' => by cases hp'; exact ⟨h, by simp⟩)
      exact ⟨_, x, y, .slice _ _ _ _ _ _ _ (by simp [Ren.one]) hc hl ha⟩
  rcases hs with hs | hs
  · refine .inl ⟨hs.enters, fun args H v H' hF ρ w args' hR hv => ?_⟩
    obtain ⟨b, off, len, cap, cs, esz, own, H1, hb, rfl, rfl, hp, e, hat, hk⟩ := h args H v H' hF
    refine Calls.mono' (hs.calls args _ _ H1 e ρ w args' hR hv) ?_
    rintro e' w' ⟨v', ρ', rfl, h1, h2, h3⟩
    obtain ⟨ρ2, a, b, c⟩ := one hR hb hp hat hk h1 h2 h3
    exact ⟨v', ρ2, rfl, a, b, c⟩
  · refine .inr fun args H v H' hF ρ w args' hR hv => ?_
    obtain ⟨b, off, len, cap, cs, esz, own, H1, hb, rfl, rfl, hp, e, hat, hk⟩ := h args H v H' hF
    obtain ⟨v', ρ', w', h0, h1, h2, h3⟩ := hs args _ _ H1 e ρ w args' hR hv
    obtain ⟨ρ2, a, b, c⟩ := one hR hb hp hat hk h1 h2 h3
    exact ⟨v', ρ2, w', h0, a, b, c⟩

theorem Sound.weak {f : FuncId} {F F' : List Value → Heap → Option (Value × Heap)} (hs : Sound P f F) (h : ∀ args H r, F' args H = some r → F args H = some r) : Sound P f F' := by
  rcases hs with hs | hs
  · exact .inl ⟨hs.enters, fun args H v H' hF => hs.calls args H v H' (h _ _ _ hF)⟩
  · exact .inr fun args H v H' hF => hs args H v H' (h _ _ _ hF)

theorem Rel.below {B : Nat} (hR : Rel ρ H w) (hb : Below B w w') (hB : w.heap.size ≤ B) : Rel ρ H w' := by
  refine ⟨hR.dom, fun b p o h1 h2 => ?_, hR.sep, hR.glob⟩
  cases hl : o.live with
  | false => cases o <;> simp_all [AObj.live, OR]
  | true =>
    have := hR.obj b p o h1 h2
    exact this.of_block (hb.block _ (Nat.lt_of_lt_of_le (this.blk_lt hl) hB))
theorem Ext.below {B : Nat} (hb : Below B w w') (hB : w.heap.size ≤ B) : Ext ρ H w ρ H w' :=
  ⟨Le.refl ρ, Nat.le_refl _, fun b p h h' => (contra h h').elim, fun k hk _ => hb.block k (Nat.lt_of_lt_of_le hk hB), fun b p h h' => (contra h h').elim, fun b p o' _ h ho => ⟨o', h, ho⟩, hb.size, hb.os, hb.tape, hb.output⟩

/-- A contract of the library of plain arguments, or of what the heap tells of them: the heap is as it was. -/
theorem Sound.of_calls {f : FuncId} {fn : Func} {F : List Value → Heap → Option (Value × Heap)} (hf : P.funcs[f]? = some fn) (hnm : (fn.name == "runtime.NumGoroutine") = false) (hbd : fn.body.isNone = false)
    (h : ∀ args H v H', F args H = some (v, H') → H' = H ∧ plainV v = true ∧ ∀ ρ w args', Rel ρ H w → VL ρ args args' → Calls P f args'.toArray w fun e w' => e = .returned v ∧ Below w.heap.size w w') : Sound P f F := by
  refine .inl ⟨fun args w => ?_, fun args H v H' hF ρ w args' hR hv => ?_⟩
  · have hn' : ¬ fn.name = "runtime.NumGoroutine" := by simpa using hnm
    have hb' : ¬ fn.body = none := by intro e; rw [e] at hbd; cases hbd
    simp [callFunc, hf, hn', hb']
  · obtain ⟨rfl, hp, hc⟩ := h args H v H' hF
    refine Calls.mono' (hc ρ w args' hR hv) ?_
    rintro e w' ⟨rfl, hb⟩
    exact ⟨v, ρ, rfl, hR.below hb (Nat.le_refl _), Ext.below hb (Nat.le_refl _), plainV_VR hp⟩
end
end Go.Proofs.YtgnkjpbecgpjoaaGreatDoor.Fw
