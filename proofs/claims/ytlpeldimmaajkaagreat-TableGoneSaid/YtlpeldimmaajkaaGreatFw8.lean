/- FRAMEWORK 8: an operation that changes nothing does in the world what it does on the abstract heap. -/
import Derived.Test.YtlpeldimmaajkaaGreatFw7
import Derived.Laws.BytesString
set_option linter.unusedVariables false
set_option linter.unusedSimpArgs false
namespace Go.Proofs.YtlpeldimmaajkaaGreat.Fw
open Go Go.RowKit

section
variable {P : Program} {ρ : Ren} {w : World} {β : Type} {r : β}

theorem val_run {s : Sem Value} {v : Value} {w' : World} (h : s.run P w = .ok v w') : (do pure (Next.value (← s)) : Sem Next).run P w = .ok (.value v) w' := by
  simp only [Sem.run_bind, h, Result.andThen_ok, Sem.run_pure]
theorem unit_run {s : Sem Unit} {w' : World} (h : s.run P w = .ok () w') : (do s; pure Next.skip : Sem Next).run P w = .ok .skip w' := by
  simp only [Sem.run_bind, h, Result.andThen_ok, Sem.run_pure]

/-- Parts of a composite, related. -/
def PL (ρ : Ren) (l l' : List (Nat × Value)) : Prop := l.length = l'.length ∧ ∀ (i : Nat) (a b : Nat) (v v' : Value), l[i]? = some (a, v) → l'[i]? = some (b, v') → a = b ∧ VR ρ v v'
theorem PL.zip {vs vs' : List Value} (h : VL ρ vs vs') : ∀ (is : List Nat), PL ρ (is.zip vs) (is.zip vs') := fun is => by
  refine ⟨by simp [h.1], fun i a b v v' x y => ?_⟩
  rw [List.getElem?_zip_eq_some] at x y
  obtain ⟨x1, x2⟩ := x
  obtain ⟨y1, y2⟩ := y
  rw [x1] at y1
  exact ⟨Option.some.inj y1, h.2 i v v' x2 y2⟩
theorem PL.cons_inv {a : Nat} {v : Value} {l l' : List (Nat × Value)} (h : PL ρ ((a, v) :: l) l') : ∃ v' m, l' = (a, v') :: m ∧ VR ρ v v' ∧ PL ρ l m := by
  cases l' with
  | nil => simp [PL] at h
  | cons e m =>
    obtain ⟨b, v'⟩ := e
    obtain ⟨rfl, hv⟩ := h.2 0 a b v v' rfl rfl
    exact ⟨v', m, rfl, hv, by have := h.1; simpa using this, fun i a b v v' x y => h.2 (i + 1) a b v v' (by simpa using x) (by simpa using y)⟩
theorem PL.nil_inv {l' : List (Nat × Value)} (h : PL ρ [] l') : l' = [] := by
  have := h.1
  cases l' with
  | nil => rfl
  | cons => simp at this

theorem zip_map {α γ δ : Type} (f : γ → δ) : ∀ (l : List (α × γ)), (l.map (·.1)).zip ((l.map (·.2)).map f) = l.map fun x => (x.1, f x.2)
  | [] => rfl
  | x :: l => by have := zip_map f l; simp only [List.map_cons, List.zip_cons_cons, this]

theorem VL.set {l l' : List Value} (h : VL ρ l l') (i : Nat) {v v' : Value} (hv : VR ρ v v') : VL ρ (l.set i v) (l'.set i v') := by
  refine ⟨by simp [h.1], fun j a b ha hb => ?_⟩
  rw [List.getElem?_set] at ha hb
  split at ha
  · rename_i e
    subst e
    rw [if_pos rfl] at hb
    split at ha
    · rename_i hi
      rw [if_pos (h.1 ▸ hi)] at hb
      obtain rfl := Option.some.inj ha
      obtain rfl := Option.some.inj hb
      exact hv
    · cases ha
  · rename_i e
    rw [if_neg e] at hb
    exact h.2 j a b ha hb

theorem One.set {l : List Value} (h : One l) (i : Nat) {v : Value} (hv : v.oneCell' = true) : One (l.set i v) := fun u hu => by
  rcases List.mem_or_eq_of_mem_set hu with hu | rfl
  · exact h u hu
  · exact hv
theorem foldl_one {vs : List Value} (off : Nat) (h : One vs) : ∀ (n : Nat) (cells : Array Value), One cells.toList → One ((vs.zipIdx n).foldl (fun cs (x : Value × Nat) => cs.setIfInBounds (off + x.2) x.1) cells).toList := by
  induction vs with
  | nil => intro n c hc; exact hc
  | cons v vs ih =>
    intro n c hc
    simp only [List.zipIdx_cons, List.foldl_cons]
    refine ih (fun u hu => h u (by simp [hu])) (n + 1) _ ?_
    simp only [Array.toList_setIfInBounds]
    exact hc.set _ (h v (by simp))
theorem foldl_set {vs vs' : List Value} (off : Nat) (h : VL ρ vs vs') : ∀ (n : Nat) (cells cells' : Array Value), VL ρ cells.toList cells'.toList →
    VL ρ ((vs.zipIdx n).foldl (fun cs (x : Value × Nat) => cs.setIfInBounds (off + x.2) x.1) cells).toList ((vs'.zipIdx n).foldl (fun cs (x : Value × Nat) => cs.setIfInBounds (off + x.2) x.1) cells').toList := by
  induction vs generalizing vs' with
  | nil => intro n c c' hc; rw [h.nil_inv]; exact hc
  | cons v vs ih =>
    intro n c c' hc
    obtain ⟨v', m, rfl, hv, hm⟩ := h.cons_inv
    simp only [List.zipIdx_cons, List.foldl_cons]
    refine ih hm (n + 1) _ _ ?_
    simp only [Array.toList_setIfInBounds]
    exact hc.set _ hv

theorem fill_VL {place : Nat → Option (Nat × Nat)} : ∀ (l l' : List (Nat × Value)) (z z' cells : Array Value), PL ρ l l' → VL ρ z.toList z'.toList → Instr.fill place z l = some cells →
    ∃ cells', Instr.fill place z' l' = some cells' ∧ VL ρ cells.toList cells'.toList
  | [], l', z, z', cells, hl, hz, h => by
    simp only [Instr.fill] at h
    obtain rfl := Option.some.inj h
    rw [hl.nil_inv]
    exact ⟨z', rfl, hz⟩
  | (i, v) :: l, l', z, z', cells, hl, hz, h => by
    obtain ⟨v', m, rfl, hv, hm⟩ := hl.cons_inv
    simp only [Instr.fill] at h ⊢
    cases hp : place i with
    | none => simp [hp] at h
    | some os =>
      obtain ⟨off, size⟩ := os
      simp only [hp] at h ⊢
      have hc := hv.cells
      have hsz : v'.cells.size = v.cells.size := by have := hc.1; simpa using this.symm
      have hzz : z'.size = z.size := by have := hz.1; simpa using this.symm
      rw [hsz, hzz]
      split at h
      · cases h
      · rename_i hcond
        rw [if_neg hcond]
        refine fill_VL l m _ _ cells hm ?_ h
        have := foldl_set off hc 0 z z' hz
        rw [← Array.foldl_toList, ← Array.foldl_toList, Array.toList_zipIdx, Array.toList_zipIdx]
        exact this

/-- All parts are of cells of one cell each. -/
def POne (l : List (Nat × Value)) : Prop := ∀ x ∈ l, One x.2.cells.toList
theorem fill_one {place : Nat → Option (Nat × Nat)} : ∀ (l : List (Nat × Value)) (z cells : Array Value), POne l → One z.toList → Instr.fill place z l = some cells → One cells.toList
  | [], z, cells, hl, hz, h => by
    simp only [Instr.fill] at h
    obtain rfl := Option.some.inj h
    exact hz
  | (i, v) :: l, z, cells, hl, hz, h => by
    simp only [Instr.fill] at h
    cases hp : place i with
    | none => simp [hp] at h
    | some os =>
      obtain ⟨off, size⟩ := os
      simp only [hp] at h
      split at h
      · cases h
      · have := foldl_one off (hl (i, v) (by simp)) 0 z hz
        refine fill_one l _ cells (fun x hx => hl x (by simp [hx])) ?_ h
        rw [← Array.foldl_toList, Array.toList_zipIdx]
        exact this

theorem VL.toArray {l l' : List Value} (h : VL ρ l l') : VL ρ l.toArray.toList l'.toArray.toList := by simpa using h

theorem plainV_cells {z : Value} (h : plainV z = true) (hz : z.oneCell' = true ∨ ∃ cs, z = .agg cs) : One z.cells.toList := (plainV_VR (ρ := fun _ => none) h).cells_one hz
theorem built_VL {t : TypeId} {l l' : List (Nat × Value)} {cells : Array Value} {z : Value} (hl : PL ρ l l') (hl1 : POne l) (hz : zeroOf P t = some z) (hp : plainV z = true) (hz1 : One z.cells.toList) (h : P.built t l = some cells) :
    ∃ cells', P.built t l' = some cells' ∧ VL ρ cells.toList cells'.toList ∧ One cells.toList := by
  unfold zeroOf at hz
  cases hi : P.info? t with
  | none => simp [hi] at hz
  | some it =>
    simp only [hi] at hz
    have hzz : VL ρ z.cells.toList z.cells.toList := (plainV_VR hp).cells
    unfold Program.built at h ⊢
    simp only [hi] at h ⊢
    cases hu : P.underlying t with
    | none => simp [hu] at h
    | some d =>
      cases d <;> simp only [hu] at h ⊢ <;> try (cases h; done)
      · rename_i n e
        simp only [hz] at h ⊢
        cases he : P.info? e with
        | none => simp [he] at h
        | some ie =>
          simp only [he] at h ⊢
          obtain ⟨c', q1, q2⟩ := fill_VL l l' _ _ cells hl hzz h
          exact ⟨c', q1, q2, fill_one l _ cells hl1 hz1 h⟩
      · rename_i fs
        simp only [hz] at h ⊢
        cases hm : fs.toList.mapM (fun f => (P.info? f.type).map fun i => (f.offset, i.size)) with
        | none => simp [hm] at h
        | some places =>
          simp only [hm] at h ⊢
          obtain ⟨c', q1, q2⟩ := fill_VL l l' _ _ cells hl hzz h
          exact ⟨c', q1, q2, fill_one l _ cells hl1 hz1 h⟩

theorem optInt_inv {t : Tm} {a : Act} (ht : TR ρ t a.tmps) {x : Option Operand} {d : Int} {k : Int → Option β} (h : optInt t x d k = some r) :
    ∃ n, k n = some r ∧ ((x = none ∧ n = d) ∨ ∃ o kd, x = some o ∧ a.eval o = .int kd n) := by
  cases x with
  | none => exact ⟨d, h, .inl ⟨rfl, rfl⟩⟩
  | some o =>
    simp only [optInt] at h
    obtain ⟨v, hv, h⟩ := opd_inv ht h
    replace h := kAnyInt_inv h; obtain ⟨kd, n, rfl, h⟩ := h
    exact ⟨n, h, .inr ⟨o, kd, rfl, hv.int_inv⟩⟩

theorem bound_run {kd : IntKind} {i : Int} {y : Nat} {code : BoundsCode} (h0 : 0 ≤ i) (h1 : i ≤ y) : (Instr.sliceBound (.int kd i) y code).run P w = .ok i.toNat w := by
  simp [Instr.sliceBound, asIntOf, h0, h1]

/-- The bounds of a slicing, without a third number. -/
theorem bounds_run {isS : Bool} {len cap : Nat} {lo hi : Option Value} {l h : Int} (hh : (hi = none ∧ h = len) ∨ ∃ kd, hi = some (.int kd h)) (hl : (lo = none ∧ l = 0) ∨ ∃ kd, lo = some (.int kd l))
    (h0 : 0 ≤ l) (h1 : l ≤ h) (h2 : h ≤ cap) : (Instr.sliceBounds isS len cap lo hi none).run P w = .ok (l.toNat, h.toNat, cap) w := by
  have hpos : 0 ≤ h := by omega
  have hlt : l ≤ (h.toNat : Int) := by omega
  rcases hh with ⟨rfl, rfl⟩ | ⟨kd, rfl⟩ <;> rcases hl with ⟨rfl, rfl⟩ | ⟨kd', rfl⟩
  · simp [Instr.sliceBounds]
  · have hlt' : l ≤ (len : Int) := h1
    simp [Instr.sliceBounds, bound_run h0 hlt']
  · simp [Instr.sliceBounds, bound_run hpos h2]
  · simp [Instr.sliceBounds, bound_run hpos h2, bound_run h0 hlt]

theorem bounds3_run {isS : Bool} {len cap : Nat} {lo hi : Option Value} {kd : IntKind} {l h m : Int} (hh : (hi = none ∧ False) ∨ ∃ kd, hi = some (.int kd h)) (hl : (lo = none ∧ l = 0) ∨ ∃ kd, lo = some (.int kd l))
    (h0 : 0 ≤ l) (h1 : l ≤ h) (h2 : h ≤ m) (h3 : m ≤ cap) : (Instr.sliceBounds isS len cap lo hi (some (.int kd m))).run P w = .ok (l.toNat, h.toNat, m.toNat) w := by
  have hpos : 0 ≤ h := by omega
  have mpos : 0 ≤ m := by omega
  have hlt : l ≤ (h.toNat : Int) := by omega
  have hm : h ≤ (m.toNat : Int) := by omega
  rcases hh with ⟨_, hf⟩ | ⟨kd2, rfl⟩
  · exact hf.elim
  · rcases hl with ⟨rfl, rfl⟩ | ⟨kd', rfl⟩
    · simp [Instr.sliceBounds, bound_run mpos h3, bound_run hpos hm]
    · simp [Instr.sliceBounds, bound_run mpos h3, bound_run hpos hm, bound_run h0 hlt]

theorem bytesOf_inv : ∀ {l : List Value} {bs : List UInt8}, bytesOf l = some bs → ∃ ns : List Int, l = ns.map (Value.int .u8) ∧ bs = ns.map fun n => UInt8.ofNat n.toNat
  | [], bs, h => by simp only [bytesOf] at h; obtain rfl := Option.some.inj h; exact ⟨[], rfl, rfl⟩
  | c :: l, bs, h => by
    cases c with
    | int kd n =>
      cases kd with
      | u8 =>
        simp only [bytesOf] at h
        cases hr : bytesOf l with
        | none => simp [hr] at h
        | some q =>
          simp only [hr, Option.map_some] at h
          obtain rfl := Option.some.inj h
          obtain ⟨ns, rfl, rfl⟩ := bytesOf_inv hr
          exact ⟨n :: ns, rfl, rfl⟩
      | _ => simp [bytesOf] at h
    | _ => simp [bytesOf] at h
theorem foldl_push : ∀ (ns : List Int) (s : ByteArray), ns.foldl (fun r n => r.push (UInt8.ofNat n.toNat)) s = ⟨s.data ++ (ns.map fun n => UInt8.ofNat n.toNat).toArray⟩
  | [], s => by simp
  | n :: ns, s => by
    rw [List.foldl_cons, foldl_push ns]
    congr 1
    apply Array.ext'
    simp [ByteArray.push]
theorem bytesToString_run {a : Addr} {len cap : Nat} {l : List Value} {bs : List UInt8} (hl : (loadCells a len).run P w = .ok l.toArray w) (hb : bytesOf l = some bs) :
    (Conv.bytesToString (.slice (some a) len cap)).run P w = .ok (.string ⟨bs.toArray⟩) w := by
  obtain ⟨ns, rfl, rfl⟩ := bytesOf_inv hb
  rw [run_bytesToString w a len cap ns hl, foldl_push]
  have e : ByteArray.empty.data = #[] := rfl
  rw [e, Array.empty_append]
end
end Go.Proofs.YtlpeldimmaajkaaGreat.Fw
