/- FRAMEWORK 19: small things for regions that draw their order. -/
import Derived.Test.YtlpeldimmaajkaaGreatFwI
set_option linter.unusedVariables false
set_option linter.unusedSimpArgs false
namespace Go.Proofs.YtlpeldimmaajkaaGreat.Fw
open Go Go.RowKit

/-! ### What stands ahead -/
theorem bef1_bit {acc : List Nat} {o : Oper} {j : Nat} (h : (bef1 acc o).testBit j = true) : ∃ e ∈ o.after, Region.binds .any e = true ∧ (e.on = j ∨ (acc.getD e.on 0).testBit j = true) := by
  unfold bef1 at h
  have key : ∀ (l : List Edge), (l.foldr (fun e s => if Region.binds .any e = true then s ||| (2 ^ e.on ||| acc.getD e.on 0) else s) 0).testBit j = true → ∃ e ∈ l, Region.binds .any e = true ∧ (e.on = j ∨ (acc.getD e.on 0).testBit j = true) := by
    intro l
    induction l with
    | nil => intro h; simp at h
    | cons e l ih =>
      intro h
      simp only [List.foldr_cons] at h
      split at h
      · rename_i hb
        rw [Nat.testBit_or, Nat.testBit_or, Bool.or_eq_true, Bool.or_eq_true] at h
        rcases h with h | h | h
        · obtain ⟨e2, h1, h2⟩ := ih h
          exact ⟨e2, List.mem_cons_of_mem _ h1, h2⟩
        · rw [Nat.testBit_two_pow] at h
          exact ⟨e, by simp, hb, .inl (by simpa using h)⟩
        · exact ⟨e, by simp, hb, .inr h⟩
      · obtain ⟨e2, h1, h2⟩ := ih h
        exact ⟨e2, List.mem_cons_of_mem _ h1, h2⟩
  obtain ⟨e, h1, h2⟩ := key _ h
  exact ⟨e, by simpa using h1, h2⟩

theorem befsGo_len : ∀ (l : List Oper) (acc : List Nat), (befsGo l acc).length = acc.length + l.length
  | [], acc => rfl
  | o :: l, acc => by simp only [befsGo]; rw [befsGo_len l]; simp; omega
theorem befsGo_pre : ∀ (l : List Oper) (acc : List Nat) (i : Nat), i < acc.length → (befsGo l acc).getD i 0 = acc.getD i 0
  | [], acc, i, _ => rfl
  | o :: l, acc, i, h => by
    simp only [befsGo]
    rw [befsGo_pre l _ i (by simp; omega)]
    simp [List.getD, List.getElem?_append_left h]
theorem befsGo_at : ∀ (l : List Oper) (acc : List Nat) (i : Nat) (o : Oper), l[i]? = some o → ∃ acc', (befsGo l acc).getD (acc.length + i) 0 = bef1 acc' o ∧ acc'.length = acc.length + i ∧ ∀ j, j < acc.length + i → acc'.getD j 0 = (befsGo l acc).getD j 0
  | [], acc, i, o, h => by simp at h
  | o0 :: l, acc, 0, o, h => by
    simp at h; subst h
    simp only [befsGo]
    refine ⟨acc, ?_, rfl, fun j hj => ?_⟩
    · rw [befsGo_pre l _ _ (by simp)]
      simp [List.getD]
    · rw [befsGo_pre l _ j (by simp; omega)]
      simp [List.getD, List.getElem?_append_left (show j < acc.length by omega)]
  | o0 :: l, acc, i + 1, o, h => by
    obtain ⟨acc', h1, h2, h3⟩ := befsGo_at l (acc ++ [bef1 acc o0]) i o (by simpa using h)
    simp only [befsGo]
    refine ⟨acc', ?_, by rw [h2]; simp; omega, fun j hj => h3 j (by simp; omega)⟩
    rw [← h1]
    congr 1
    simp; omega

/-- What stands ahead stands ahead by an edge, or ahead of one that does. -/
theorem befs_bit {ops : List Oper} {i j : Nat} {o : Oper} (ho : ops[i]? = some o) (hback : ∀ e ∈ o.after, Region.binds .any e = true → e.on < i) (h : ((befs ops).getD i 0).testBit j = true) :
    ∃ e ∈ o.after, Region.binds .any e = true ∧ e.on < i ∧ (e.on = j ∨ ((befs ops).getD e.on 0).testBit j = true) := by
  obtain ⟨acc', h1, h2, h3⟩ := befsGo_at ops [] i o ho
  simp only [List.length_nil, Nat.zero_add] at h1 h2 h3
  unfold befs at h ⊢
  rw [h1] at h
  obtain ⟨e, he, hb, hj⟩ := bef1_bit h
  refine ⟨e, he, hb, hback e he hb, ?_⟩
  rcases hj with hj | hj
  · exact .inl hj
  · exact .inr (by rw [← h3 _ (hback e he hb)]; exact hj)

/-- Done so far, with all that stands ahead. -/
def Closed (ops : Array Oper) (listed : Array Bool) : Prop := ∀ i o, ops[i]? = some o → listed.getD i false = true → ∀ e ∈ o.after, Region.binds .any e = true → listed.getD e.on false = true

theorem Closed.bit {ops : Array Oper} {listed : Array Bool} (hc : Closed ops listed) (hback : ∀ i o, ops[i]? = some o → ∀ e ∈ o.after, Region.binds .any e = true → e.on < i) (hs : listed.size = ops.size) :
    ∀ (i j : Nat), listed.getD i false = true → ((befs ops.toList).getD i 0).testBit j = true → listed.getD j false = true := by
  intro i
  induction i using Nat.strongRecOn with
  | _ i ih =>
    intro j hi hb
    have hlt : i < ops.size := by
      rcases Nat.lt_or_ge i listed.size with h | h
      · omega
      · simp [Array.getD, Nat.not_lt.2 h] at hi
    have ho : ops[i]? = some ops[i] := by simp [hlt]
    obtain ⟨e, he, hbd, hlt2, hj⟩ := befs_bit (ops := ops.toList) (o := ops[i]) (by simp) (fun e he hb => hback i _ ho e he hb) hb
    have hl := hc i _ ho hi e he hbd
    rcases hj with rfl | hj
    · exact hl
    · exact ih e.on hlt2 j hl hj

/-- The same for one that may come up. -/
theorem Closed.bit_ready {ops : Array Oper} {listed : Array Bool} (hc : Closed ops listed) (hback : ∀ i o, ops[i]? = some o → ∀ e ∈ o.after, Region.binds .any e = true → e.on < i) (hs : listed.size = ops.size)
    {i j : Nat} {o : Oper} (ho : ops[i]? = some o) (hr : ∀ e ∈ o.after, Region.binds .any e = true → listed.getD e.on false = true) (hb : ((befs ops.toList).getD i 0).testBit j = true) : listed.getD j false = true := by
  obtain ⟨e, he, hbd, hlt2, hj⟩ := befs_bit (ops := ops.toList) (o := o) (by simpa using ho) (fun e he hb => hback i _ ho e he hb) hb
  have hl := hr e he hbd
  rcases hj with rfl | hj
  · exact hl
  · exact hc.bit hback hs e.on j hl hj

/-! ### The order -/
theorem pairsOk_at {P : Program} {ops : List Oper} {bs : List Nat} : ∀ {g : List Nat}, pairsOk P ops bs g = true → ∀ (p q i j : Nat), p < q → g[p]? = some i → g[q]? = some j → pairOk P ops bs i j = true
  | [], _, p, q, i, j, _, h, _ => by simp at h
  | x :: g, h, 0, q + 1, i, j, _, hi, hj => by
    simp only [pairsOk, Bool.and_eq_true] at h
    simp at hi hj
    subst hi
    exact List.all_eq_true.1 h.1 j (List.mem_of_getElem? hj)
  | x :: g, h, p + 1, q + 1, i, j, hpq, hi, hj => by
    simp only [pairsOk, Bool.and_eq_true] at h
    exact pairsOk_at h.2 p q i j (by omega) (by simpa using hi) (by simpa using hj)
theorem nodupB_at : ∀ {g : List Nat}, nodupB g = true → ∀ (p q i : Nat), p < q → g[p]? = some i → g[q]? = some i → False
  | [], _, p, q, i, _, h, _ => by simp at h
  | x :: g, h, 0, q + 1, i, _, hi, hj => by
    simp only [nodupB, Bool.and_eq_true, Bool.not_eq_true'] at h
    simp at hi hj
    subst hi
    have := List.mem_of_getElem? hj
    have h1 := h.1
    rw [List.contains_eq_mem] at h1
    simp [this] at h1
  | x :: g, h, p + 1, q + 1, i, hpq, hi, hj => by
    simp only [nodupB, Bool.and_eq_true] at h
    exact nodupB_at h.2 p q i (by omega) (by simpa using hi) (by simpa using hj)

/-! ### What a reading operation reads is there -/
theorem rblk_lt {P : Program} {t : Tm} {H : Heap} {ty : TypeId} {op : Op} {v : Value} (h : fl P t H ty op some = some v) {b : Nat} (hb : rblk t op = some b) : b < H.length := by
  have there : ∀ {c : AObj}, H[b]? = some c → b < H.length := fun {c} hc => by
    rcases Nat.lt_or_ge b H.length with h | h
    · exact h
    · simp [List.getElem?_eq_none h] at hc
  cases op <;> simp only [rblk] at hb <;> try (cases hb; done)
  case load lt x =>
    simp only [fl] at h
    rw [opd_b] at h hb
    cases hx : opd t x some with
    | none => rw [hx] at hb; cases hb
    | some u =>
      simp only [hx, Option.bind_some] at h hb
      cases u <;> simp only [kPtr] at hb <;> try (cases hb; done)
      rename_i a
      cases a with
      | none => cases hb
      | some a =>
        simp only [onSome, Option.some.injEq] at hb
        subst hb
        simp only [kPtr, onSome, ld] at h
        split at h <;> (obtain ⟨cs, esz, own, hH, _⟩ := ldc_inv h; exact there hH)
  case convert s d x =>
    simp only [fl] at h
    rw [opd_b] at h hb
    cases hx : opd t x some with
    | none => rw [hx] at hb; cases hb
    | some u =>
      simp only [hx, Option.bind_some] at h hb
      cases u <;> simp only [convBlk] at hb <;> try (cases hb; done)
      · rename_i a
        cases a with
        | none => cases hb
        | some a =>
          simp only [Option.map_some, Option.some.injEq] at hb
          subst hb
          split at h
          · simp only [kInt] at h; cases h
          · simp only [kStr] at h; cases h
          · split at h
            · simp only [kPtr, onSome] at h
              obtain ⟨cs, esz, own, hH, _⟩ := ldc_inv h; exact there hH
            · cases h
          · split at h
            · simp only [kPtr, onSome, fromU] at h
              split at h
              · rename_i hH; exact there hH
              · cases h
            · cases h
          · split at h
            · simp only [kSl] at h; cases h
            · cases h
          · cases h
      · rename_i a len cap
        cases a with
        | none => cases hb
        | some a =>
          simp only [Option.map_some, Option.some.injEq] at hb
          subst hb
          split at h
          · simp only [kInt] at h; cases h
          · simp only [kStr] at h; cases h
          · split at h
            · simp only [kPtr] at h; cases h
            · cases h
          · split at h
            · simp only [kPtr] at h; cases h
            · cases h
          · split at h
            · simp only [kSl] at h
              obtain ⟨cs, esz, own, hH, _⟩ := ldc_inv h; exact there hH
            · cases h
          · cases h
  case slice st x lo hi mx =>
    simp only [fl] at h
    rw [opd_b] at h hb
    cases hx : opd t x some with
    | none => rw [hx] at hb; cases hb
    | some u =>
      simp only [hx, Option.bind_some] at h hb
      have opt : ∀ {x : Option Operand} {d : Int} {k : Int → Option Value} {r : Value}, optInt t x d k = some r → ∃ n, k n = some r := fun {x d k r} hh => by
        cases x with
        | none => exact ⟨d, hh⟩
        | some o =>
          simp only [optInt] at hh
          rw [opd_b] at hh
          cases ho : opd t o some with
          | none => rw [ho] at hh; cases hh
          | some ov =>
            simp only [ho, Option.bind_some] at hh
            obtain ⟨_, n, _, hh⟩ := kAnyInt_inv hh
            exact ⟨n, hh⟩
      cases u <;> simp only [convBlk] at hb <;> try (cases hb; done)
      · rename_i a
        cases a with
        | none => cases hb
        | some a =>
          simp only [Option.map_some, Option.some.injEq] at hb
          subst hb
          split at h
          · split at h
            · cases h
            · simp only [kStr] at h; cases h
          · replace h := onSome_inv h; obtain ⟨_, _, h⟩ := h
            simp only [kSl] at h; cases h
          · replace h := onSome_inv h; obtain ⟨_, _, h⟩ := h
            simp only [kPtr, onSome] at h
            replace h := opt h; obtain ⟨_, h⟩ := h
            replace h := opt h; obtain ⟨_, h⟩ := h
            cases mx with
            | some m => cases h
            | none =>
              simp only [slArr] at h
              obtain ⟨cs, esz, own, hH, _⟩ := esOk_inv h; exact there hH
          · cases h
      · rename_i a len cap
        cases a with
        | none => cases hb
        | some a =>
          simp only [Option.map_some, Option.some.injEq] at hb
          subst hb
          split at h
          · split at h
            · cases h
            · simp only [kStr] at h; cases h
          · replace h := onSome_inv h; obtain ⟨_, _, h⟩ := h
            simp only [kSl] at h
            replace h := opt h; obtain ⟨_, h⟩ := h
            replace h := opt h; obtain ⟨_, h⟩ := h
            cases mx with
            | none =>
              simp only [slSl] at h
              obtain ⟨cs, esz, own, hH, _⟩ := esOk_inv h; exact there hH
            | some mo =>
              simp only [] at h
              rw [opd_b] at h
              cases ho : opd t mo some with
              | none => rw [ho] at h; cases h
              | some ov =>
                simp only [ho, Option.bind_some] at h
                obtain ⟨_, n, _, h⟩ := kAnyInt_inv h
                cases hi with
                | none => cases h
                | some hi =>
                  simp only [slSl3] at h
                  obtain ⟨cs, esz, own, hH, _⟩ := esOk_inv h; exact there hH
          · replace h := onSome_inv h; obtain ⟨_, _, h⟩ := h
            simp only [kPtr] at h; cases h
          · cases h
  case lookup mt x ix ok =>
    simp only [fl] at h
    rw [opd_b] at h hb
    cases hx : opd t x some with
    | none => rw [hx] at hb; cases hb
    | some u =>
      simp only [hx, Option.bind_some] at h hb
      cases u <;> simp only [kMp] at hb <;> try (cases hb; done)
      rename_i rr
      subst hb
      rw [opd_b] at h
      cases ho : opd t ix some with
      | none => rw [ho] at h; cases h
      | some ov =>
        simp only [ho, Option.bind_some] at h
        unfold lookupK at h
        split at h
        · obtain ⟨_, _, _, h2⟩ := kKey_inv h
          simp only [kMp, ldmo] at h2
          obtain ⟨es, _, _, hH, _⟩ := ldm_inv h2; exact there hH
        · cases h
  case call c =>
    obtain ⟨callee, args, ats⟩ := c
    cases callee <;> (try simp only [] at hb) <;> try (cases hb; done)
    rename_i bb
    cases bb <;> (try simp only [isLen] at hb) <;> try (cases hb; done)
    have e1 : ∀ {γ : Type} (q : List Value → Option γ), opds t args.toList q = (opds t args.toList some).bind q := fun q => opds_bb fun _ => rfl
    simp only [fl] at h
    rw [e1] at h hb
    cases hx : opds t args.toList some with
    | none => rw [hx] at hb; cases hb
    | some vs =>
      simp only [hx, Option.bind_some] at h hb
      split at hb
      · rename_i u
        cases u <;> simp only [kMp] at hb <;> try (cases hb; done)
        subst hb
        split at h
        · rename_i at_ v' hv hvs
          obtain rfl : v' = _ := by injection hvs with e _; exact e.symm
          split at h
          · simp only [kStr] at h; cases h
          · simp only [kSl] at h; cases h
          · simp only [kMp, ldmo] at h
            obtain ⟨es, _, _, hH, _⟩ := ldm_inv h; exact there hH
          · cases h
        · cases h
      · cases hb
end Go.Proofs.YtlpeldimmaajkaaGreat.Fw
