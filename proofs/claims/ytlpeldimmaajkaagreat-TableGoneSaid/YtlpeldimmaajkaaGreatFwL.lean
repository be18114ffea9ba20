/- FRAMEWORK 21: the main law of regions that draw their order. -/
import Derived.Test.YtlpeldimmaajkaaGreatFwK
set_option linter.unusedVariables false
set_option linter.unusedSimpArgs false
namespace Go.Proofs.YtlpeldimmaajkaaGreat.Fw
open Go Go.RowKit

section
variable {P : Program} {Γ : Fs} {n : Nat} {ops : Array Oper} {l : List Stp} {t : Tm} {H : Heap} {β : Type} {r : β}

theorem tmps_operands {o : Oper} {ops : List Oper} {t t' : Tm} (h : ∀ d, d ∈ tmpsOf o ops → t d = t' d) : Agree o.op.operands.toList t t' := fun i hi => by
  refine h i ?_
  unfold tmpsOf
  rw [List.mem_append]
  exact .inl (List.mem_filterMap.2 ⟨_, hi, rfl⟩)
theorem tmps_guard {o : Oper} {ops : List Oper} {t t' : Tm} {n : Nat} (h : ∀ d, d ∈ tmpsOf o ops → t d = t' d) : guardT ops n o t = guardT ops n o t' := by
  unfold guardT
  unfold tmpsOf at h
  cases hg : o.guard with
  | none => rfl
  | some gw =>
    obtain ⟨j, want⟩ := gw
    simp only [hg] at h ⊢
    cases hj : ops[j]? with
    | none => rfl
    | some g =>
      simp only [hj] at h ⊢
      cases hd : g.dst with
      | none => rfl
      | some d =>
        simp only [hd] at h ⊢
        rw [h d (by simp)]

theorem agree_rblk {o : Op} {t t' : Tm} (h : Agree o.operands.toList t t') : rblk t o = rblk t' o := by
  cases o <;> simp only [rblk] <;> simp only [Op.operands] at h
  case load => exact opd_congr h (by simp) _
  case convert => exact opd_congr h (by simp) _
  case slice => exact opd_congr h (by simp) _
  case lookup => exact opd_congr h (by simp) _
  case call c =>
    obtain ⟨callee, args, ats⟩ := c
    cases callee <;> try rfl
    rename_i b
    simp only []
    split
    · exact opds_congr h (fun x hx => by simp [Call.operands]; simpa using hx) _
    · rfl

/-- What lies in a block goes on lying there. -/
theorem kept (D : DR P Γ n ops l t H) {b : Nat} {o : AObj} {p0 : Nat} (h0 : (Hs l H p0)[b]? = some o) : ∀ (k : Nat), p0 + k ≤ l.length →
    (∀ p s, p0 ≤ p → p < p0 + k → l[p]? = some s → s.w = true → cls P s.o.op = .ef → s.H'[b]? = (Hs l H p)[b]?) → (Hs l H (p0 + k))[b]? = some o
  | 0, _, _ => h0
  | k + 1, hk, h => by
    have ih := kept D h0 k (by omega) fun p s h1 h2 => h p s h1 (by omega)
    have hsp : l[p0 + k]? = some l[p0 + k] := by simp
    have ok := D.ok hsp
    show (Hs l H (p0 + k + 1))[b]? = some o
    rw [Hs_succ l H _ _ hsp]
    generalize l[p0 + k] = s at hsp ok
    cases hw : s.w with
    | false => rw [(ok.no hw).2]; exact ih
    | true =>
      cases hc : cls P s.o.op with
      | fl => rw [(ok.fl hw hc).2]; exact ih
      | al =>
        obtain ⟨ob, mk, _, _, e⟩ := ok.al hw hc
        rw [e]
        have hlt : b < (Hs l H (p0 + k)).length := by
          rcases Nat.lt_or_ge b (Hs l H (p0 + k)).length with h' | h'
          · exact h'
          · simp [List.getElem?_eq_none h'] at ih
        rw [List.getElem?_append_left hlt]
        exact ih
      | ef => rw [h _ s (by omega) (by omega) hsp hw hc]; exact ih

/-- The state in the midst of a region. -/
structure DInv (P : Program) (l : List Stp) (t : Tm) (H : Heap) (n : Nat) (ρ0 : Ren) (w0 : World) (a0 : Act) (listed : Array Bool) (a : Act) (w : World) (ρ : Ren) (q : Nat) : Prop where
  qle : q ≤ l.length
  done : ∀ (p : Nat) (s : Stp), p < q → l[p]? = some s → cls P s.o.op = .ef → listed.getD s.i false = true
  no : ∀ (p : Nat) (s : Stp), q ≤ p → l[p]? = some s → listed.getD s.i false = false
  rel : Rel ρ (Hs l H q) w
  ext : Ext ρ0 H w0 ρ (Hs l H q) w
  lens : ∀ p, p ≤ q → H.length ≤ (Hs l H p).length
  tr : TR ρ (tDn listed l t l.length) a.tmps
  late : ∀ (p : Nat) (s : Stp), p < q → l[p]? = some s → s.w = true → cls P s.o.op = .al → listed.getD s.i false = false → ρ (Hs l H p).length = none
  size : a.tmps.size = n
  defers : a.defers = a0.defers

variable {ρ0 : Ren} {w0 : World} {a0 : Act} {listed : Array Bool} {a : Act} {w : World} {ρ : Ren} {q : Nat}

theorem DInv.advance1 (D : DR P Γ n ops l t H) (I : DInv P l t H n ρ0 w0 a0 listed a w ρ q) {s : Stp} (hs : l[q]? = some s) (hne : cls P s.o.op ≠ .ef) :
    DInv P l t H n ρ0 w0 a0 listed a w ρ (q + 1) := by
  have hlt : q < l.length := by
    rcases Nat.lt_or_ge q l.length with h' | h'
    · exact h'
    · simp [List.getElem?_eq_none h'] at hs
  have ok := D.ok hs
  have hq1 := Hs_succ l H q s hs
  have cases2 : s.H' = Hs l H q ∨ ∃ ob, s.H' = Hs l H q ++ [ob] := by
    cases hw : s.w with
    | false => exact .inl (ok.no hw).2
    | true =>
      cases hc : cls P s.o.op with
      | fl => exact .inl (ok.fl hw hc).2
      | al => obtain ⟨ob, mk, _, _, e⟩ := ok.al hw hc; exact .inr ⟨ob, e⟩
      | ef => exact absurd hc hne
  refine ⟨hlt, ?_, fun p s' hp h => I.no p s' (by omega) h, ?_, ?_, ?_, I.tr, ?_, I.size, I.defers⟩
  · intro p s' hp hs' hc
    rcases Nat.lt_or_ge p q with h | h
    · exact I.done p s' h hs' hc
    · obtain rfl : p = q := by omega
      rw [hs] at hs'
      obtain rfl := Option.some.inj hs'
      exact absurd hc hne
  · rw [hq1]
    rcases cases2 with e | ⟨ob, e⟩
    · rw [e]; exact I.rel
    · rw [e]; exact I.rel.push [ob]
  · rw [hq1]
    rcases cases2 with e | ⟨ob, e⟩
    · rw [e]; exact I.ext
    · rw [e]; exact I.ext.pushH I.rel.dom ob
  · intro p hp
    rcases Nat.lt_or_ge q p with h | h
    · obtain rfl : p = q + 1 := by omega
      rw [hq1]
      have := I.lens q (Nat.le_refl _)
      rcases cases2 with e | ⟨ob, e⟩
      · rw [e]; exact this
      · rw [e]; simp; omega
    · exact I.lens p h
  · intro p s' hp hs' hw hc hl
    rcases Nat.lt_or_ge p q with h | h
    · exact I.late p s' h hs' hw hc hl
    · obtain rfl : p = q := by omega
      exact I.rel.fresh

theorem DInv.advance (D : DR P Γ n ops l t H) : ∀ (k q : Nat), l.length - q ≤ k → DInv P l t H n ρ0 w0 a0 listed a w ρ q → ∃ q', DInv P l t H n ρ0 w0 a0 listed a w ρ q' ∧ ∀ s, l[q']? = some s → cls P s.o.op = .ef
  | 0, q, hk, I => ⟨q, I, fun s hs => by
      have := I.qle
      simp [List.getElem?_eq_none (show l.length ≤ q by omega)] at hs⟩
  | k + 1, q, hk, I => by
    cases hs : l[q]? with
    | none => exact ⟨q, I, fun s h => by rw [hs] at h; cases h⟩
    | some s =>
      by_cases hc : cls P s.o.op = .ef
      · exact ⟨q, I, fun s' h => by rw [hs] at h; obtain rfl := Option.some.inj h; exact hc⟩
      · exact DInv.advance D k (q + 1) (by omega) (I.advance1 D hs hc)

/-- A step that is done late. -/
theorem DInv.step (D : DR P Γ n ops l t H) (hc : Closed ops listed) (hsz : listed.size = ops.size) (I : DInv P l t H n ρ0 w0 a0 listed a w ρ q) {pj : Nat} {sj : Stp} (hj : l[pj]? = some sj) (hnot : listed.getD sj.i false = false) (hin : sj.i < listed.size) (hp : pj < q)
    {ρ' : Ren} {w' : World} {v' : Value} (hR : Rel ρ' (Hs l H q) w') (hE : Ext ρ0 H w0 ρ' (Hs l H q) w') (hle : Le ρ ρ') (hv : VR ρ' sj.v v')
    (hl : ∀ (p : Nat) (s : Stp), p < q → l[p]? = some s → s.w = true → cls P s.o.op = .al → listed.getD s.i false = false → s.i ≠ sj.i → ρ' (Hs l H p).length = none) :
    DInv P l t H n ρ0 w0 a0 (listed.setIfInBounds sj.i true) (a.put sj.o.dst v') w' ρ' q := by
  refine ⟨I.qle, ?_, ?_, hR, hE, I.lens, ?_, ?_, by rw [put_size]; exact I.size, by rw [put_defers]; exact I.defers⟩
  · intro p s hp hs hc'
    rw [getD_set hin, I.done p s hp hs hc']
    simp
  · intro p s hp hs
    have hne : s.i ≠ sj.i := fun e => by have := D.inj p pj s sj hs hj e; omega
    rw [getD_set hin, if_neg hne]
    exact I.no p s hp hs
  · rw [D.put hc hsz hj hnot hin]
    exact (I.tr.mono hle).put I.size (D.ok hj).dst hv
  · intro p s hp hs hw hcl hls
    rw [getD_set hin] at hls
    split at hls
    · cases hls
    · rename_i hne; exact hl p s hp hs hw hcl hls hne

/-- A step that is done when its turn comes. -/
theorem DInv.turn (D : DR P Γ n ops l t H) (hc : Closed ops listed) (hsz : listed.size = ops.size) (I : DInv P l t H n ρ0 w0 a0 listed a w ρ q) {sj : Stp} (hj : l[q]? = some sj) (hnot : listed.getD sj.i false = false) (hin : sj.i < listed.size) (hcl : cls P sj.o.op = .ef)
    {ρ' : Ren} {w' : World} {v' : Value} (hR : Rel ρ' (Hs l H (q + 1)) w') (hE : Ext ρ (Hs l H q) w ρ' (Hs l H (q + 1)) w') (hv : VR ρ' sj.v v') :
    DInv P l t H n ρ0 w0 a0 (listed.setIfInBounds sj.i true) (a.put sj.o.dst v') w' ρ' (q + 1) := by
  have hlt : q < l.length := by
    rcases Nat.lt_or_ge q l.length with h' | h'
    · exact h'
    · simp [List.getElem?_eq_none h'] at hj
  have hEE := I.ext.trans hE I.rel.dom
  refine ⟨hlt, ?_, ?_, hR, hEE, ?_, ?_, ?_, by rw [put_size]; exact I.size, by rw [put_defers]; exact I.defers⟩
  · intro p s hp hs hc'
    rw [getD_set hin]
    split
    · rfl
    · rename_i hne
      rcases Nat.lt_or_ge p q with h | h
      · exact I.done p s h hs hc'
      · obtain rfl : p = q := by omega
        rw [hj] at hs
        obtain rfl := Option.some.inj hs
        exact absurd rfl hne
  · intro p s hp hs
    have hne : s.i ≠ sj.i := fun e => by have := D.inj p q s sj hs hj e; omega
    rw [getD_set hin, if_neg hne]
    exact I.no p s (by omega) hs
  · intro p hp
    rcases Nat.lt_or_ge q p with h | h
    · obtain rfl : p = q + 1 := by omega
      exact hEE.hlen
    · exact I.lens p h
  · rw [D.put hc hsz hj hnot hin]
    exact (I.tr.mono hE.mono).put I.size (D.ok hj).dst hv
  · intro p s hp hs hw hcs hls
    rw [getD_set hin] at hls
    split at hls
    · cases hls
    · rename_i hne
      have hpq : p < q := by
        rcases Nat.lt_or_ge p q with h | h
        · exact h
        · obtain rfl : p = q := by omega
          rw [hj] at hs
          obtain rfl := Option.some.inj hs
          exact absurd rfl hne
      have hnone := I.late p s hpq hs hw hcs hls
      cases hρ : ρ' (Hs l H p).length with
      | none => rfl
      | some x =>
        have hge := hE.newid _ _ hρ hnone
        exfalso
        obtain ⟨ob, mk, _, _, e⟩ := (D.ok hs).al hw hcs
        have hb : (Hs l H (p + 1))[(Hs l H p).length]? = some ob := by rw [Hs_succ l H p s hs, e]; simp
        have := kept D hb (q - (p + 1)) (by omega) fun p2 s2 h1 h2 h3 h4 h5 => by
          refine ((Chain.at_ l [] t H D.chain p2 s2 h3).2 h4 h5).2 p s _ (by omega) hs (by simp [blkOf, hw, hcs]) ?_
          cases hb : ((befs ops.toList).getD s2.i 0).testBit s.i with
          | false => rfl
          | true =>
            have := hc.bit D.back hsz _ _ (I.done p2 s2 (by omega) h3 h5) hb
            rw [this] at hls; cases hls
        rw [show p + 1 + (q - (p + 1)) = q by omega] at this
        simp [List.getElem?_eq_none hge] at this

/-- A block that is not made yet stands where it will. -/
theorem DInv.stands (D : DR P Γ n ops l t H) (hc : Closed ops listed) (hsz : listed.size = ops.size) (I : DInv P l t H n ρ0 w0 a0 listed a w ρ q) {p : Nat} {s : Stp} (hs : l[p]? = some s) (hw : s.w = true) (hcs : cls P s.o.op = .al) (hls : listed.getD s.i false = false)
    {p' : Nat} (hp : p < p') (hq : p' ≤ q) : (Hs l H p).length < (Hs l H p').length := by
  obtain ⟨ob, mk, _, _, e⟩ := (D.ok hs).al hw hcs
  have hb : (Hs l H (p + 1))[(Hs l H p).length]? = some ob := by rw [Hs_succ l H p s hs, e]; simp
  have := kept D hb (p' - (p + 1)) (by have := I.qle; omega) fun p2 s2 h1 h2 h3 h4 h5 => by
    refine ((Chain.at_ l [] t H D.chain p2 s2 h3).2 h4 h5).2 p s _ (by omega) hs (by simp [blkOf, hw, hcs]) ?_
    cases hb : ((befs ops.toList).getD s2.i 0).testBit s.i with
    | false => rfl
    | true =>
      have := hc.bit D.back hsz _ _ (I.done p2 s2 (by omega) h3 h5) hb
      rw [this] at hls; cases hls
  rw [show p + 1 + (p' - (p + 1)) = p' by omega] at this
  rcases Nat.lt_or_ge (Hs l H p).length (Hs l H p').length with h | h
  · exact h
  · simp [List.getElem?_eq_none h] at this

theorem drawn_wp (D : DR P Γ n ops l t H) (hΓ : ∀ f F, Γ f = some F → Sound P f F) {Q : Exit → Act → World → Prop} {k : Tm → Heap → Option β} (hk : k (endT l t) (endH l H) = some r) (hQ : ∀ a' w', Behind ρ0 H w0 a0 n k r a' w' → Q .normal a' w') (hd0 : ∀ b p, ρ0 b = some p → b < H.length) :
    ∀ (fuel : Nat) (listed : Array Bool) (a : Act) (w : World) (ρ : Ren) (q : Nat), listed.size = ops.size → Closed ops listed → DInv P l t H n ρ0 w0 a0 listed a w ρ q → (∀ s, l[q]? = some s → cls P s.o.op = .ef) → listed.toList.count false ≤ fuel → wpAny P .any ops Q fuel listed a w := by
  have fin : ∀ (listed : Array Bool) (a : Act) (w : World) (ρ : Ren) (q : Nat), listed.size = ops.size → Closed ops listed → DInv P l t H n ρ0 w0 a0 listed a w ρ q → Region.ready .any ops listed = [] → Q .normal a w := by
    intro listed a w ρ q hsz hc I hnil
    have hall : ∀ i, i < ops.size → listed.getD i false = true := by
      intro i
      induction i using Nat.strongRecOn with
      | _ i ih =>
        intro hi
        cases hl : listed.getD i false with
        | true => rfl
        | false =>
          have : i ∈ Region.ready .any ops listed := mem_ready.2 ⟨by
            simp [Array.getD, hsz, hi] at hl ⊢; exact hl, ops[i], by simp [hi], fun e he hb => by
            have := D.back i ops[i] (by simp [hi]) e he hb
            exact ih _ this (by omega)⟩
          rw [hnil] at this; cases this
    have hin : ∀ (p : Nat) (s : Stp), l[p]? = some s → s.i < ops.size := fun p s hs => by
      have := D.op hs
      rcases Nat.lt_or_ge s.i ops.size with h | h
      · exact h
      · simp [Array.getElem?_eq_none h] at this
    have hq : q = l.length := by
      have := I.qle
      rcases Nat.lt_or_ge q l.length with h | h
      · have h1 := I.no q l[q] (Nat.le_refl _) (by simp)
        rw [hall _ (hin q l[q] (by simp))] at h1
        cases h1
      · omega
    have ht : ∀ p, tDn listed l t p = Ts l t p := by
      intro p
      induction p with
      | zero => rfl
      | succ p ih =>
        cases hs : l[p]? with
        | none =>
          have : l.length ≤ p := by
            rcases Nat.lt_or_ge p l.length with h | h
            · simp [h] at hs
            · exact h
          simp only [tDn, hs]
          rw [ih]
          simp [Ts, List.take_of_length_le this, List.take_of_length_le (show l.length ≤ p + 1 by omega)]
        | some s =>
          simp only [tDn, hs]
          rw [if_pos (hall _ (hin p s hs)), ih, Ts_succ l t p s hs, (D.ok hs).put]
    subst hq
    refine hQ a w ⟨⟨ρ, endT l t, endH l H, hk, ?_, ?_, ?_⟩, I.size, I.defers⟩
    · have := I.rel; rw [Hs_end] at this; exact this
    · have := I.ext; rw [Hs_end] at this; exact this
    · have := I.tr; rw [ht, Ts_end] at this; exact this
  intro fuel
  induction fuel with
  | zero =>
    intro listed a w ρ q hsz hc I hef hcnt
    have hnil : Region.ready .any ops listed = [] := by
      cases hr : Region.ready .any ops listed with
      | nil => rfl
      | cons j rest =>
        obtain ⟨hju, _⟩ := mem_ready.1 (show j ∈ Region.ready .any ops listed by rw [hr]; simp)
        obtain ⟨h1, h2⟩ := getD_true hju
        exfalso
        have : listed.toList[j]? = some false := by
          simp [Array.getD, h1] at h2
          simp [h1, h2]
        have := List.count_pos_iff.2 (List.mem_of_getElem? this)
        omega
    exact ⟨hnil, fin listed a w ρ q hsz hc I hnil⟩
  | succ fuel ih =>
    intro listed a w ρ q hsz hc I hef hcnt
    refine ⟨fin listed a w ρ q hsz hc I, fun j hjr => ?_⟩
    obtain ⟨hju, o, ho, hr⟩ := mem_ready.1 hjr
    obtain ⟨hin, hnot⟩ := getD_true hju
    obtain ⟨pj, sj, hj, rfl⟩ := D.all j (by omega)
    have e := D.op hj
    rw [ho] at e
    obtain rfl := Option.some.inj e
    have hpq : pj ≤ q := by
      rcases Nat.lt_or_ge q pj with h | h
      · obtain ⟨sq, hsq⟩ := has hj (Nat.le_of_lt h)
        have h1 := I.no q sq (Nat.le_refl _) hsq
        rcases pair_spec (D.pair q pj sq sj h hsq hj) (by simpa using D.op hsq) (by simpa using D.op hj) with hb | ⟨hb, _⟩
        · rw [hc.bit_ready D.back hsz ho hr hb] at h1; cases h1
        · exact absurd (hef sq hsq) hb
      · exact h
    have hsz' : (listed.setIfInBounds sj.i true).size = ops.size := by simp [hsz]
    have hc' : Closed ops (listed.setIfInBounds sj.i true) := by
      intro i oi hoi hl e he hb
      rw [getD_set hin] at hl
      have : listed.getD e.on false = true := by
        split at hl
        · rename_i hi
          subst hi
          rw [ho] at hoi
          obtain rfl := Option.some.inj hoi
          exact hr e he hb
        · exact hc i oi hoi hl e he hb
      exact getD_set_true this
    have hcnt' : (listed.setIfInBounds sj.i true).toList.count false ≤ fuel := by
      have h2 : listed.toList[sj.i]? = some false := by
        simp [Array.getD, hin] at hnot
        simp [hin, hnot]
      have := count_set listed.toList sj.i h2
      rw [Array.toList_setIfInBounds]
      omega
    have ok := D.ok hj
    have hT : ∀ d, d ∈ tmpsOf sj.o ops.toList → tDn listed l t l.length d = Ts l t pj d := fun d hd => D.temps hc hsz hj hr hnot hd
    have hg : Region.wanted sj.o (yielded ops a.tmps) = sj.w := guard_wanted I.tr I.size (by rw [tmps_guard hT]; exact ok.guard)
    have hA := tmps_operands hT
    have next : ∀ (a' : Act) (w' : World) (ρ' : Ren) (q' : Nat), DInv P l t H n ρ0 w0 a0 (listed.setIfInBounds sj.i true) a' w' ρ' q' → wpAny P .any ops Q fuel (listed.setIfInBounds sj.i true) a' w' := fun a' w' ρ' q' I' => by
      obtain ⟨q2, I2, hef2⟩ := I'.advance D _ _ (Nat.le_refl _)
      exact ih _ a' w' ρ' q2 hsz' hc' I2 hef2 hcnt'
    unfold wpOp
    simp only [ho]
    rw [hg]
    rcases Nat.lt_or_ge pj q with hlt | hge
    · have hne : cls P sj.o.op ≠ .ef := fun e => by rw [I.done pj sj hlt hj e] at hnot; cases hnot
      cases hw : sj.w with
      | false =>
        simp only [Bool.false_eq_true, if_false]
        have hv := (ok.no hw).1
        exact next _ _ ρ q (I.step D hc hsz hj hnot hin hlt I.rel I.ext (Le.refl _) (by rw [hv]; exact VR.tuple_mk VL.nil) fun p s hp hs h1 h2 h3 _ => I.late p s hp hs h1 h2 h3)
      | true =>
        simp only [if_true]
        cases hcl : cls P sj.o.op with
        | ef => exact absurd hcl hne
        | fl =>
          obtain ⟨hv, _⟩ := ok.fl hw hcl
          have hfl : fl P (tDn listed l t l.length) (Hs l H q) sj.o.type sj.o.op some = some sj.v := by
            rw [fl_congrT hA]
            rw [fl_congrH (H := Hs l H pj)]
            · exact hv
            · intro b hb
              have hlt' := rblk_lt hv hb
              have h0 : (Hs l H pj)[b]? = some (Hs l H pj)[b] := by simp
              rw [h0]
              have := kept D h0 (q - pj) (by have := I.qle; omega) fun p2 s2 h1 h2 h3 h4 h5 => by
                have hpp : pj < p2 := by
                  rcases Nat.lt_or_ge pj p2 with h | h
                  · exact h
                  · obtain rfl : p2 = pj := by omega
                    rw [hj] at h3
                    obtain rfl := Option.some.inj h3
                    exact absurd h5 hne
                refine ((Chain.at_ l [] t H D.chain p2 s2 h3).2 h4 h5).2 pj sj _ hpp hj (by simp only [blkOf, hw, hcl]; exact hb) ?_
                cases hbt : ((befs ops.toList).getD s2.i 0).testBit sj.i with
                | false => rfl
                | true =>
                  have := hc.bit D.back hsz _ _ (I.done p2 s2 (by omega) h3 h5) hbt
                  rw [this] at hnot; cases hnot
              rw [show pj + (q - pj) = q by omega] at this
              exact this
          obtain ⟨v, v', h1, h2, h3⟩ := fl_sound I.rel I.tr hfl
          obtain rfl := Option.some.inj h1
          exact .inl (val_wp h3 (next _ _ ρ q (I.step D hc hsz hj hnot hin hlt I.rel I.ext (Le.refl _) h2 fun p s hp hs h1 h2 h3 _ => I.late p s hp hs h1 h2 h3)))
        | al =>
          obtain ⟨ob, mk, hv, hvv, hH'⟩ := ok.al hw hcl
          have hal : al P (tDn listed l t l.length) sj.o.op (fun ob mk => some (ob, mk)) = some (ob, mk) := by
            rw [al_congrT hA]; exact hv
          obtain ⟨ob2, mk2, h1, co, v', p, h2, h3, h4, h5⟩ := al_sound (w := w) I.tr hal
          obtain ⟨rfl, rfl⟩ : ob2 = ob ∧ mk2 = mk := by injection h1 with h1; injection h1 with h1 h2; exact ⟨h1, h2⟩
          have hnone := I.late pj sj hlt hj hw hcl hnot
          have hle := Ren.ins_le (p := p) hnone
          have hk' : ∀ j, j < w.heap.size → (w.alloc co).heap[j]? = w.heap[j]? := fun j hj => Below.heap_alloc _ _ _ hj
          have hb : (Hs l H (pj + 1))[(Hs l H pj).length]? = some ob2 := by rw [Hs_succ l H pj sj hj, hH']; simp
          have hat := kept D hb (q - (pj + 1)) (by have := I.qle; omega) fun p2 s2 h1 h2 h3 h4 h5 => by
            refine ((Chain.at_ l [] t H D.chain p2 s2 h3).2 h4 h5).2 pj sj _ (by omega) hj (by simp [blkOf, hw, hcl]) ?_
            cases hb : ((befs ops.toList).getD s2.i 0).testBit sj.i with
            | false => rfl
            | true =>
              have := hc.bit D.back hsz _ _ (I.done p2 s2 (by omega) h3 h5) hb
              rw [this] at hnot; cases hnot
          rw [show pj + 1 + (q - (pj + 1)) = q by omega] at hat
          refine .inl (val_wp h2 (next _ _ (ρ.ins (Hs l H pj).length p) q (I.step D hc hsz hj hnot hin hlt (I.rel.new_at hat hnone h3 h4) (I.ext.ins hnone (I.lens pj (by omega)) h3 hd0 hk' (by show w.heap.size ≤ (w.heap.push co).size; simp) rfl rfl rfl) hle ?_ ?_)))
          · rw [hvv]; exact h5 _ _ hle (Ren.ins_self _ _ _)
          · intro p2 s2 hp2 hs2 hw2 hc2 hl2 hne2
            have h6 := I.late p2 s2 hp2 hs2 hw2 hc2 hl2
            unfold Ren.ins
            split
            · rename_i e
              exfalso
              have hpp : p2 ≠ pj := fun e2 => by subst e2; rw [hj] at hs2; obtain rfl := Option.some.inj hs2; exact hne2 rfl
              rcases Nat.lt_or_gt_of_ne hpp with h | h
              · have := I.stands D hc hsz hs2 hw2 hc2 hl2 h (by omega); omega
              · have := I.stands D hc hsz hj hw hcl hnot h (by omega); omega
            · exact h6
    · obtain rfl : pj = q := by omega
      have hcl := hef sj hj
      cases hw : sj.w with
      | false =>
        simp only [Bool.false_eq_true, if_false]
        obtain ⟨hv, hH'⟩ := ok.no hw
        have e := Hs_succ l H pj sj hj
        rw [hH'] at e
        exact next _ _ ρ (pj + 1) (I.turn D hc hsz hj hnot hin hcl (by rw [e]; exact I.rel) (by rw [e]; exact Ext.refl _ _ _) (by rw [hv]; exact VR.tuple_mk VL.nil))
      | true =>
        simp only [if_true]
        have hv := ok.ef hw hcl
        have hef' : ef P Γ (tDn listed l t l.length) (Hs l H pj) sj.o.type sj.o.op (fun v H => some (v, H)) = some (sj.v, sj.H') := by
          rw [ef_congrT hA]; exact hv
        refine .inl (ef_sound hΓ I.rel I.tr hef' fun v v' ρ' H' w' h1 h2 h3 h4 => ?_)
        obtain ⟨rfl, rfl⟩ : v = sj.v ∧ H' = sj.H' := by injection h1 with h1; injection h1 with h1 h2; exact ⟨h1, h2⟩
        have e := Hs_succ l H pj sj hj
        exact next _ _ ρ' (pj + 1) (I.turn D hc hsz hj hnot hin hcl (by rw [e]; exact h2) (by rw [e]; exact h3) h4)
end
end Go.Proofs.YtlpeldimmaajkaaGreat.Fw
