/- FRAMEWORK 9: an operation that changes nothing does in the world what it does on the abstract heap. FRAMEWORK 10: operations that make a block, or change one, do in the world what they do on the abstract heap. -/
import Derived.Test.YtgnkjpbecgpjoaaGreatDoorFw8
import Derived.Lib.Builder
import Derived.Lib.UnsafeStr
set_option linter.unusedVariables false
set_option linter.unusedSimpArgs false
namespace Go.Proofs.YtgnkjpbecgpjoaaGreatDoor.Fw
open Go Go.RowKit

section
variable {P : Program} {ρ : Ren} {w : World} {β : Type} {r : β}

theorem cellsOk_inv {v v' : Value} (hv : VR ρ v v') {k : Option β} (h : cellsOk v k = some r) : One v.cells.toList ∧ k = some r := by
  unfold cellsOk at h
  split at h
  · exact ⟨hv.cells_one (.inr ⟨_, rfl⟩), h⟩
  · split at h
    · rename_i ho; exact ⟨hv.cells_one (.inl ho), h⟩
    · cases h
theorem cellsOks_inv : ∀ {vs vs' : List Value}, VL ρ vs vs' → ∀ {k : Option β}, cellsOks vs k = some r → (∀ v ∈ vs, One v.cells.toList) ∧ k = some r
  | [], _, _, _, h => ⟨(fun _ hh => by cases hh), h⟩
  | v :: vs, _, hv, k, h => by
    obtain ⟨v', m, rfl, h1, h2⟩ := hv.cons_inv
    simp only [cellsOks] at h
    obtain ⟨h3, h⟩ := cellsOk_inv h1 h
    obtain ⟨h4, h⟩ := cellsOks_inv h2 h
    exact ⟨fun u hu => by
      rcases List.mem_cons.1 hu with rfl | hu
      · exact h3
      · exact h4 u hu, h⟩
theorem POne.zip {vs : List Value} (h : ∀ v ∈ vs, One v.cells.toList) (is : List Nat) : POne (is.zip vs) := fun x hx => h x.2 (List.of_mem_zip hx).2

theorem resolve_builtin (η : Operand → Value) (b : Builtin) (args : Array Operand) (ats : Array TypeId) (ty : TypeId) :
    (resolve η { callee := .builtin b, args, argTypes := ats } ty).run P w = .ok { target := .builtin b ats ty (args.map fun | .const _ => true | _ => false), args := args.map η } w := rfl

/-- Of whole numbers, known or not. -/
theorem siOf_pair {kd : IntKind} {x y x' y' : Value} {s u : SI} (hk : isI64 kd = true) (hs : siOf x = some s) (hu : siOf y = some u) (hx : VR ρ x x') (hy : VR ρ y y') : ∃ n m, x' = .int kd n ∧ y' = .int kd m ∧ Has ρ s n ∧ Has ρ u m := by
  obtain rfl := isI64_ok hk
  obtain ⟨n, rfl, h1⟩ := siOf_VR hs hx
  obtain ⟨m, rfl, h2⟩ := siOf_VR hu hy
  exact ⟨n, m, rfl, rfl, h1, h2⟩
theorem mmV_inv {mx : Bool} {kd : IntKind} {x y x' y' : Value} {k : Value → Option β} (h : mmV mx kd x y k = some r) (hx : VR ρ x x') (hy : VR ρ y y') :
    ∃ n m v, x' = .int kd n ∧ y' = .int kd m ∧ k v = some r ∧ VR ρ v (.int kd (mmI mx n m)) := by
  unfold mmV at h
  split at h
  · rename_i p hp
    obtain ⟨rfl, rfl⟩ := intPair_inv (a := p.1) (b := p.2) hp
    exact ⟨_, _, _, hx.int_inv, hy.int_inv, h, .int _ _⟩
  · split at h
    · rename_i hk
      replace h := onSome_inv h; obtain ⟨s, hs, h⟩ := h
      replace h := onSome_inv h; obtain ⟨u, hu, h⟩ := h
      obtain ⟨n, m, e1, e2, h1, h2⟩ := siOf_pair hk hs hu hx hy
      obtain rfl := isI64_ok hk
      refine ⟨n, m, _, e1, e2, h, mkS_VR ?_⟩
      cases mx with
      | true =>
        have := mxS_ok h1 h2
        show Has ρ (mxS s u) (mxi n m)
        exact this
      | false =>
        have := mnS_ok h1 h2
        show Has ρ (mnS s u) (mni n m)
        unfold mni
        have e : (if m < n then m else n) = if n < m then n else m := by split <;> split <;> omega
        rw [e]; exact this
    · cases h
theorem kIntS_VR {kd : IntKind} {x x' : Value} {k : Value → Option β} (h : kIntS kd x k = some r) (hx : VR ρ x x') : ∃ n, x' = .int kd n ∧ k x = some r := by
  obtain ⟨h1, h2⟩ := kIntS_inv h
  rcases h2 with ⟨n, rfl⟩ | ⟨h2, rfl⟩
  · exact ⟨n, hx.int_inv, h1⟩
  · obtain ⟨n, s, e, _, _⟩ := isS_VR h2 hx
    exact ⟨n, e, h1⟩
theorem max_run : ∀ (rest : List Value) (kd : IntKind) (x : Value) (k : Value → Option β), mmVs true kd rest x k = some r → ∀ n, VR ρ x (.int kd n) → ∀ rest', VL ρ rest rest' →
    ∃ v m, k v = some r ∧ VR ρ v (.int kd m) ∧ (rest'.foldlM Builtin.max2 (.int kd n)).run P w = .ok (.int kd m) w
  | [], kd, x, k, h, n, hx, rest', hv => by rw [hv.nil_inv]; exact ⟨x, n, h, hx, rfl⟩
  | v :: rest, kd, x, k, h, n, hx, rest', hv => by
    obtain ⟨v', m, rfl, h1, h2⟩ := hv.cons_inv
    simp only [mmVs] at h
    obtain ⟨a, b, z, e1, rfl, h, hz⟩ := mmV_inv h hx h1
    obtain ⟨_, rfl⟩ := Value.int.inj e1
    obtain ⟨u, q, h3, h4, h5⟩ := max_run rest kd z k h _ hz m h2
    exact ⟨u, q, h3, h4, by simp only [List.foldlM_cons, Sem.run_bind, Builtin.max2, Sem.run_pure, Result.andThen_ok]; exact h5⟩
theorem min_run : ∀ (rest : List Value) (kd : IntKind) (x : Value) (k : Value → Option β), mmVs false kd rest x k = some r → ∀ n, VR ρ x (.int kd n) → ∀ rest', VL ρ rest rest' →
    ∃ v m, k v = some r ∧ VR ρ v (.int kd m) ∧ (rest'.foldlM Builtin.min2 (.int kd n)).run P w = .ok (.int kd m) w
  | [], kd, x, k, h, n, hx, rest', hv => by rw [hv.nil_inv]; exact ⟨x, n, h, hx, rfl⟩
  | v :: rest, kd, x, k, h, n, hx, rest', hv => by
    obtain ⟨v', m, rfl, h1, h2⟩ := hv.cons_inv
    simp only [mmVs] at h
    obtain ⟨a, b, z, e1, rfl, h, hz⟩ := mmV_inv h hx h1
    obtain ⟨_, rfl⟩ := Value.int.inj e1
    obtain ⟨u, q, h3, h4, h5⟩ := min_run rest kd z k h _ hz m h2
    exact ⟨u, q, h3, h4, by simp only [List.foldlM_cons, Sem.run_bind, Builtin.min2, Sem.run_pure, Result.andThen_ok]; exact h5⟩

theorem slice_result {a : Addr} {sz : Nat} {p : Pl} {a' : Addr} {cap' l h m m' : Nat} (hp : ρ a.block = some p) (hs : a.spot = none) (hcap : m = m' ∨ (unk ≤ m ∧ m - unk ≤ m')) (hlen : h - l ≤ m')
    (haddr : cap' = 0 ∨ (a' = ⟨p.blk, p.base + a.off, none⟩ ∧ p.base + a.off + cap' * p.esz ≤ p.size)) (hesz : p.esz = sz) (hm : l + m' ≤ cap') {a'' : Addr} (ha'' : m' = 0 ∨ a'' = a'.add (l * sz)) :
    VR ρ (.slice (some (a.add (l * sz))) (h - l) m) (.slice (some a'') (h - l) m') := by
  rw [addr_eta hs, addr_add]
  refine .slice a.block (a.off + l * sz) (h - l) m m' a'' p hp hcap hlen ?_
  rcases ha'' with h0 | h1
  · exact .inl h0
  · rcases haddr with h0 | ⟨rfl, hroom⟩
    · exact .inl (by omega)
    · refine .inr ⟨by rw [h1, addr_add, Nat.add_assoc], ?_⟩
      rw [hesz] at hroom
      have : (l + m') * sz ≤ cap' * sz := Nat.mul_le_mul_right _ hm
      rw [Nat.add_mul] at this
      rw [hesz]; omega

theorem esOk_inv {H : Heap} {b sz : Nat} {k : Option β} (h : esOk H b sz k = some r) : ∃ cs esz own, H[b]? = some (.cells cs esz own) ∧ esz % tyM = sz ∧ k = some r := by
  unfold esOk at h
  split at h
  · rename_i cs esz own e
    split at h
    · rename_i hb
      exact ⟨cs, esz, own, e, Nat.eq_of_beq_eq_true hb, h⟩
    · cases h
  · cases h
theorem Rel.esz {H : Heap} (hR : Rel ρ H w) {b : Nat} {p : Pl} (hb : ρ b = some p) {cs : List Value} {sz esz : Nat} {own : Bool} (ho : H[b]? = some (.cells cs esz own)) (hs : esz % tyM = sz) : p.esz = sz := by
  obtain ⟨c, el, fz, h1, h2, h3, h4, h5, h6⟩ := hR.obj b p _ hb ho
  exact h3.1.trans hs

/-- A pointer that is turned to unsafe.Pointer, and back. -/
theorem toUnsafe_run {src dst t : TypeId} (hs : P.underlying src = some (.pointer t)) (hd : P.underlying dst = some .unsafePointer) (hz : sized P t = true) {H : Heap} (hR : Rel ρ H w)
    {a : Addr} {v' : Value} (hv : VR ρ (.pointer (some a)) v') {cs : List Value} {esz : Nat} {own : Bool} (hH : H[a.block]? = some (.cells cs esz own)) (hlt : a.off < cs.length) : (convert src dst v').run P w = .ok v' w := by
  obtain ⟨p, hp, hsp, rfl⟩ := hv.ptr_inv
  obtain ⟨c, el, fz, h1, h2, h3, h4, h5, h6⟩ := hR.obj _ p _ hp hH
  unfold sized at hz
  split at hz
  · rename_i j hj
    exact Lib.run_to_unsafe w ⟨p.blk, p.base + a.off, none⟩ hs hd hj (fun e => by rw [e] at hz; simp at hz) (cells := c.size) (e := el) (by simp [World.shape?, h1]) (by simp; omega)
  · cases hz
theorem rowAt_self {e : TypeId} {count : Nat} (hc : P.cellsOf e ≠ 0) (h1 : 1 ≤ count) : liesAt P P.depth e count 0 e 1 = true := by
  have hd : P.depth = (2 * (P.types.size + Made.depth) + 1) + 1 := rfl
  rw [hd]
  simp only [liesAt, Bool.or_eq_true]
  left
  rw [hd]
  simp [rowAt, hc, h1, sameLayout]
theorem fromUnsafe_run {src dst u : TypeId} (hs : P.underlying src = some .unsafePointer) (hd : P.underlying dst = some (.pointer u)) (hz : sized P u = true) {H : Heap} (hR : Rel ρ H w)
    {a : Addr} {v' : Value} (hv : VR ρ (.pointer (some a)) v') {cs : List Value} {esz : Nat} {own : Bool} (hH : H[a.block]? = some (.cells cs esz own)) (ho : a.off = 0) (hle : P.cellsOf u ≤ cs.length) (h0 : P.cellsOf u ≠ 0) (ht : esz / tyM = u + 1) :
    (convert src dst v').run P w = .ok v' w := by
  obtain ⟨p, hp, hsp, rfl⟩ := hv.ptr_inv
  obtain ⟨c, el, fz, h1, h2, h3, h4, h5, h6⟩ := hR.obj _ p _ hp hH
  obtain ⟨rfl, hb⟩ := h3.2 _ ht
  unfold sized at hz
  split at hz
  · rename_i j hj
    refine Lib.run_from_unsafe w ⟨p.blk, p.base + a.off, none⟩ hs hd hj (cells := c.size) (e := el) (by simp [World.shape?, h1]) ?_
    simp only [hb, ho, Nat.add_zero]
    exact rowAt_self h0 ((Nat.one_le_div_iff (by omega)).2 (by omega))
  · cases hz

/-- xs[l:h] of a slice. -/
theorem slSl_sound {H : Heap} (hR : Rel ρ H w) {st e : TypeId} (hu : P.underlying st = some (.slice e)) {a : Option Addr} {len cap : Nat} {x' : Value} (hx : VR ρ (.slice a len cap) x') {lo hi : Option Value} {l h : Int}
    (hh : (hi = none ∧ h = len) ∨ ∃ kd, hi = some (.int kd h)) (hl : (lo = none ∧ l = 0) ∨ ∃ kd, lo = some (.int kd l)) {k : Value → Option β} (hk : slSl H (P.cellsOf e) a len cap l h k = some r) (hie : ∃ i, P.info? e = some i) :
    ∃ v v', k v = some r ∧ VR ρ v v' ∧ (Instr.sliceAt st x' lo hi none).run P w = .ok v' w := by
  have hat : Instr.sliceAt st x' lo hi none = (do match ← underlying st with
    | .array n elem =>
      let a ← Instr.sureAddr x'
      let (l, h, m) ← Instr.sliceBounds false n n lo hi none
      let size ← sizeOf elem
      pure (.slice (some (if m = l then a else a.add (l * size))) (h - l) (m - l))
    | _ => Instr.slice st x' lo hi none) := rfl
  rw [hat]
  simp only [Sem.run_bind, run_underlying hu, Result.andThen_ok]
  unfold slSl at hk
  cases a with
  | none =>
    simp only [] at hk
    obtain ⟨⟨rfl, rfl, rfl, rfl⟩, hk⟩ := ite_inv hk
    rw [hx.sliceN_inv.1]
    refine ⟨_, _, hk, .sliceN, ?_⟩
    have := bounds_run (P := P) (w := w) (isS := true) (len := 0) (cap := 0) (l := 0) (h := 0) hh hl (by omega) (by omega) (by omega)
    simp only [Instr.slice, Sem.run_bind, run_underlying hu, Result.andThen_ok, this, sizeOf_any e 0 hie]
    simp
  | some a =>
    simp only [] at hk
    obtain ⟨cs, esz, own, hH, hes, hk⟩ := esOk_inv hk
    obtain ⟨⟨h0, h1, h2⟩, hk⟩ := ite_inv hk
    obtain ⟨p, a', cap', hp, hs, rfl, hcap, hlen, haddr⟩ := hx.slice_inv
    have hle : h ≤ cap' := by
      rcases h2 with h2 | ⟨h2, h3⟩ | ⟨h2, h3⟩
      · omega
      · rcases hcap with e | e
        · omega
        · exact absurd e.1 h2
      · rcases hcap with e | e
        · omega
        · omega
    have hb := bounds_run (P := P) (w := w) (isS := true) hh hl h0 h1 hle
    have hl' : l.toNat ≤ cap' := by omega
    refine ⟨_, _, hk, slice_result (m' := cap' - l.toNat) (a'' := if cap' = l.toNat then a' else a'.add (l.toNat * P.cellsOf e)) hp hs ?_ (by omega) haddr (hR.esz hp hH hes) (by omega) ?_, ?_⟩
    · unfold slCap
      split
      · rename_i hu
        split
        · exact .inr ⟨by omega, by omega⟩
        · refine .inr ⟨by omega, ?_⟩
          rcases hcap with e | e <;> omega
      · rename_i hu
        rcases hcap with e | e
        · exact .inl (by omega)
        · exact absurd e.1 hu
    · by_cases e : cap' = l.toNat
      · exact .inl (by omega)
      · exact .inr (by rw [if_neg e])
    · simp only [Instr.slice, Sem.run_bind, run_underlying hu, Result.andThen_ok, hb, sizeOf_any e 0 hie]
      by_cases e : cap' = l.toNat
      · simp [e]
      · simp [e]

/-- xs[l:h:m] of a slice. -/
theorem slSl3_sound {H : Heap} (hR : Rel ρ H w) {st e : TypeId} (hu : P.underlying st = some (.slice e)) {a : Option Addr} {len cap : Nat} {x' : Value} (hx : VR ρ (.slice a len cap) x') {lo hi : Option Value} {l h m : Int} {km : IntKind}
    (hh : (hi = none ∧ False) ∨ ∃ kd, hi = some (.int kd h)) (hl : (lo = none ∧ l = 0) ∨ ∃ kd, lo = some (.int kd l)) {k : Value → Option β} (hk : slSl3 H (P.cellsOf e) a len cap l h m k = some r) (hie : ∃ i, P.info? e = some i) :
    ∃ v v', k v = some r ∧ VR ρ v v' ∧ (Instr.sliceAt st x' lo hi (some (.int km m))).run P w = .ok v' w := by
  have hat : Instr.sliceAt st x' lo hi (some (.int km m)) = (do match ← underlying st with
    | .array n elem =>
      let a ← Instr.sureAddr x'
      let (l, h, m) ← Instr.sliceBounds false n n lo hi (some (.int km m))
      let size ← sizeOf elem
      pure (.slice (some (if m = l then a else a.add (l * size))) (h - l) (m - l))
    | _ => Instr.slice st x' lo hi (some (.int km m))) := rfl
  rw [hat]
  simp only [Sem.run_bind, run_underlying hu, Result.andThen_ok]
  unfold slSl3 at hk
  cases a with
  | none => cases hk
  | some a =>
    simp only [] at hk
    obtain ⟨cs, esz, own, hH, hes, hk⟩ := esOk_inv hk
    obtain ⟨⟨h0, h1, h2, h3⟩, hk⟩ := ite_inv hk
    obtain ⟨p, a', cap', hp, hs, rfl, hcap, hlen, haddr⟩ := hx.slice_inv
    have hle : m ≤ cap' := by
      rcases h3 with h3 | ⟨h3, h4⟩ | ⟨h3, h4⟩
      · omega
      · rcases hcap with e | e
        · omega
        · exact absurd e.1 h3
      · rcases hcap with e | e
        · omega
        · omega
    have hb := bounds3_run (P := P) (w := w) (isS := true) (len := len) (kd := km) hh hl h0 h1 h2 hle
    refine ⟨_, _, hk, slice_result (m' := m.toNat - l.toNat) (a'' := if m.toNat = l.toNat then a' else a'.add (l.toNat * P.cellsOf e)) hp hs (.inl rfl) (by omega) haddr (hR.esz hp hH hes) (by omega) ?_, ?_⟩
    · by_cases e : m.toNat = l.toNat
      · exact .inl (by omega)
      · exact .inr (by rw [if_neg e])
    · simp only [Instr.slice, Sem.run_bind, run_underlying hu, Result.andThen_ok, hb, sizeOf_any e 0 hie]
      by_cases e : m.toNat = l.toNat
      · simp [e]
      · simp [e]

/-- a[l:h] of an array. -/
theorem slArr_sound {H : Heap} (hR : Rel ρ H w) {st e : TypeId} {n : Nat} (hu : P.underlying st = some (.array n e)) {a : Addr} {x' : Value} (hx : VR ρ (.pointer (some a)) x') {lo hi : Option Value} {l h : Int}
    (hh : (hi = none ∧ h = n) ∨ ∃ kd, hi = some (.int kd h)) (hl : (lo = none ∧ l = 0) ∨ ∃ kd, lo = some (.int kd l)) {k : Value → Option β} (hk : slArr H (P.cellsOf e) n a l h k = some r) (hie : ∃ i, P.info? e = some i) :
    ∃ v v', k v = some r ∧ VR ρ v v' ∧ (Instr.sliceAt st x' lo hi none).run P w = .ok v' w := by
  have hat : Instr.sliceAt st x' lo hi none = (do match ← underlying st with
    | .array n elem =>
      let a ← Instr.sureAddr x'
      let (l, h, m) ← Instr.sliceBounds false n n lo hi none
      let size ← sizeOf elem
      pure (.slice (some (if m = l then a else a.add (l * size))) (h - l) (m - l))
    | _ => Instr.slice st x' lo hi none) := rfl
  rw [hat]
  unfold slArr at hk
  obtain ⟨cs0, esz, own, hH, hes, hk⟩ := esOk_inv hk
  replace hk := ldc_inv hk; obtain ⟨cs, esz2, own2, hH2, hk⟩ := hk
  rw [hH] at hH2
  obtain ⟨rfl, rfl, rfl⟩ := AObj.cells.inj (Option.some.inj hH2)
  replace hk := ite_inv hk; obtain ⟨⟨h0, h1, h2, h3⟩, hk⟩ := hk
  obtain ⟨p, hp, hs, rfl⟩ := hx.ptr_inv
  obtain ⟨c, el, fz, g1, g2, g3, g4, _⟩ := hR.obj _ p _ hp hH
  have hb := bounds_run (P := P) (w := w) (isS := false) (len := n) (cap := n) hh hl h0 h1 h2
  have hpe : p.esz = P.cellsOf e := hR.esz hp hH hes
  refine ⟨_, _, hk, slice_result (cap' := n) (a' := ⟨p.blk, p.base + a.off, none⟩) (m := n - l.toNat) (m' := n - l.toNat) (a'' := if n = l.toNat then ⟨p.blk, p.base + a.off, none⟩ else (⟨p.blk, p.base + a.off, none⟩ : Addr).add (l.toNat * P.cellsOf e)) hp hs (.inl rfl) (by omega) (.inr ⟨rfl, by rw [hpe]; omega⟩) hpe (by omega) ?_, ?_⟩
  · by_cases e : n = l.toNat
    · exact .inl (by omega)
    · exact .inr (by rw [if_neg e])
  · simp only [Sem.run_bind, run_underlying hu, Result.andThen_ok, Instr.sureAddr, Sem.run_pure, hb, sizeOf_any e 0 hie]

/-- s[l:h] of a text. -/
theorem slStr_sound {st : TypeId} (hu : P.underlying st = some .string) {s : ByteArray} {lo hi : Option Value} {l h : Int}
    (hh : (hi = none ∧ h = s.size) ∨ ∃ kd, hi = some (.int kd h)) (hl : (lo = none ∧ l = 0) ∨ ∃ kd, lo = some (.int kd l)) {k : Value → Option β} (hk : slStr s l h k = some r) :
    ∃ v, k v = some r ∧ VR ρ v v ∧ (Instr.sliceAt st (.string s) lo hi none).run P w = .ok v w := by
  have hat : Instr.sliceAt st (.string s) lo hi none = (do match ← underlying st with
    | .array n elem =>
      let a ← Instr.sureAddr (.string s)
      let (l, h, m) ← Instr.sliceBounds false n n lo hi none
      let size ← sizeOf elem
      pure (.slice (some (if m = l then a else a.add (l * size))) (h - l) (m - l))
    | _ => Instr.slice st (.string s) lo hi none) := rfl
  rw [hat]
  simp only [Sem.run_bind, run_underlying hu, Result.andThen_ok]
  unfold slStr at hk
  obtain ⟨⟨h0, h1, h2, h3⟩, hk⟩ := ite_inv hk
  have hb := bounds_run (P := P) (w := w) (isS := false) hh hl h2 h3 h1
  refine ⟨_, hk, .string _, ?_⟩
  simp only [Instr.slice, Sem.run_bind, run_underlying hu, Result.andThen_ok, hb, Option.isSome_none, Bool.false_eq_true, if_false, Sem.run_pure]

set_option maxHeartbeats 1000000 in
/-- WHAT CHANGES NOTHING. -/
theorem fl_sound {H : Heap} {t : Tm} {a : Act} (hR : Rel ρ H w) (ht : TR ρ t a.tmps) {o : Oper} {k : Value → Option β} (h : fl P t H o.type o.op k = some r) :
    ∃ v v', k v = some r ∧ VR ρ v v' ∧ (execOp a.eval o).run P w = .ok (.value v') w := by
  obtain ⟨dst, op, ty, pos, after, guard⟩ := o
  simp only [] at h
  cases op <;> simp only [fl] at h <;> try (cases h; done)
  case move x => replace h := opd_inv ht h; obtain ⟨v, hv, h⟩ := h; exact ⟨v, _, h, hv, rfl⟩
  case assign x => replace h := opd_inv ht h; obtain ⟨v, hv, h⟩ := h; exact ⟨v, _, h, hv, rfl⟩
  case pick c x y =>
    replace h := opd_inv ht h; obtain ⟨v, hv, h⟩ := h
    replace h := kBool_inv h; obtain ⟨b, rfl, h⟩ := h
    have e := hv.bool_inv
    cases b
    · replace h := opd_inv ht h; obtain ⟨u, hu, h⟩ := h
      exact ⟨u, _, h, hu, by simp [execOp, e, asBool]⟩
    · replace h := opd_inv ht h; obtain ⟨u, hu, h⟩ := h
      exact ⟨u, _, h, hu, by simp [execOp, e, asBool]⟩
  case nilCheck x =>
    replace h := opd_inv ht h; obtain ⟨v, hv, h⟩ := h
    split at h
    · replace h := kPtr_inv h; obtain ⟨q0, rfl, h⟩ := h
      replace h := onSome_inv h; obtain ⟨p, rfl, h⟩ := h
      obtain ⟨q, hq, hs, e⟩ := hv.ptr_inv
      refine ⟨_, _, h, hv, ?_⟩
      simp [execOp, e]
    · split at h
      · replace h := onSome_inv h; obtain ⟨p, rfl, h⟩ := h
        obtain ⟨q, hq, hs, e⟩ := hv.ptr_inv
        refine ⟨_, _, h, hv, ?_⟩
        simp [execOp, e]
      · obtain ⟨x', y', e, _, _⟩ := hv.func_inv
        refine ⟨_, _, h, hv, ?_⟩
        simp [execOp, e]
      · obtain ⟨u, e, _⟩ := hv.iface_inv
        refine ⟨_, _, h, hv, ?_⟩
        simp [execOp, e]
      · cases h
  case load lt x =>
    replace h := opd_inv ht h; obtain ⟨v, hv, h⟩ := h
    replace h := kPtr_inv h; obtain ⟨q, rfl, h⟩ := h
    replace h := onSome_inv h; obtain ⟨q, rfl, h⟩ := h
    obtain ⟨p, hp, hs, e⟩ := hv.ptr_inv
    obtain ⟨u, u', h1, h2, h3⟩ := ld_sound hR h hp
    refine ⟨u, u', h1, h2, ?_⟩
    simp only [execOp, e]
    exact val_run (by simp only [Instr.loadAt, Instr.sureAddr, Sem.run_bind, Sem.run_pure, Result.andThen_ok, h3])
  case binOp op xt x y yt =>
    replace h := opd_inv ht h; obtain ⟨u, hu, h⟩ := h
    replace h := opd_inv ht h; obtain ⟨v, hv, h⟩ := h
    obtain ⟨z, z', h1, h2, h3⟩ := bin_sound (P := P) (w := w) h hu hv
    exact ⟨z, z', h1, h2, val_run h3⟩
  case unOp op xt x =>
    replace h := opd_inv ht h; obtain ⟨v, hv, h⟩ := h
    split at h
    · replace h := kBool_inv h; obtain ⟨b, rfl, h⟩ := h
      exact ⟨_, _, h, .bool _, val_run (by rw [hv.bool_inv]; rfl)⟩
    · replace h := kAnyInt_inv h; obtain ⟨kd, n, rfl, h⟩ := h
      exact ⟨_, _, h, .int _ _, val_run (by rw [hv.int_inv]; rfl)⟩
    · replace h := kAnyInt_inv h; obtain ⟨kd, n, rfl, h⟩ := h
      exact ⟨_, _, h, .int _ _, val_run (by rw [hv.int_inv]; rfl)⟩
    · cases h
  case convert s d x =>
    replace h := opd_inv ht h; obtain ⟨v, hv, h⟩ := h
    split at h
    · rename_i ks kd hs hd
      unfold cvtV at h
      split at h
      · replace h := ite_inv h; obtain ⟨e, h⟩ := h
        subst e
        refine ⟨_, _, h, .int _ _, val_run ?_⟩
        rw [hv.int_inv]
        simp [convert, run_underlying hs, run_underlying hd, Conv.intToInt]
      · split at h
        · rename_i h1 h2
          obtain rfl := isI64_ok h1
          obtain rfl := isI64_ok h2
          replace h := onSome_inv h; obtain ⟨u, hu, h⟩ := h
          obtain ⟨n, e, hn⟩ := siOf_VR hu hv
          refine ⟨_, _, h, outS_VR hn, val_run ?_⟩
          rw [e]
          simp [convert, run_underlying hs, run_underlying hd, Conv.intToInt]
        · cases h
    · rename_i hs hd
      replace h := kStr_inv h; obtain ⟨n, rfl, h⟩ := h
      refine ⟨_, _, h, .string _, val_run ?_⟩
      rw [hv.string_inv]
      simp [convert, run_underlying hs, run_underlying hd]
    · rename_i t hs hd
      split at h
      · rename_i hz
        replace h := kPtr_inv h; obtain ⟨q, rfl, h⟩ := h
        replace h := onSome_inv h; obtain ⟨q, rfl, h⟩ := h
        replace h := ldc_inv h; obtain ⟨cs, esz, own, hH, h⟩ := h
        replace h := ite_inv h; obtain ⟨hlt, h⟩ := h
        exact ⟨_, _, h, hv, val_run (toUnsafe_run hs hd hz hR hv hH hlt)⟩
      · cases h
    · rename_i u hs hd
      split at h
      · rename_i hz
        replace h := kPtr_inv h; obtain ⟨q, rfl, h⟩ := h
        replace h := onSome_inv h; obtain ⟨q, rfl, h⟩ := h
        unfold fromU at h
        split at h
        · rename_i cs esz own hH
          replace h := ite_inv h; obtain ⟨⟨h1, h2, h3, h4⟩, h⟩ := h
          exact ⟨_, _, h, hv, val_run (fromUnsafe_run hs hd hz hR hv hH h1 h2 h3 h4)⟩
        · cases h
      · cases h
    · rename_i e hs hd
      split at h
      · rename_i he
        replace h := kSl_inv h; obtain ⟨q, len, cap, rfl, h⟩ := h
        cases q with
        | none =>
          simp only [] at h
          refine ⟨_, _, h, .string _, val_run ?_⟩
          rw [hv.sliceN_inv.1]
          simp [convert, run_underlying hs, run_underlying hd, run_underlying he, Conv.bytesToString]
        | some q =>
          simp only [] at h
          replace h := ldc_inv h; obtain ⟨cs, esz, own, hH, h⟩ := h
          replace h := ite_inv h; obtain ⟨hle, h⟩ := h
          replace h := onSome_inv h; obtain ⟨bs, hbs, h⟩ := h
          obtain ⟨p, a', cap', hp, hsp, e, hcap, hlen, haddr⟩ := hv.slice_inv
          refine ⟨_, _, h, .string _, val_run ?_⟩
          rw [e]
          obtain ⟨l, hl1, hl2⟩ := hR.range (P := P) hp hH hle
          have hbs' : bytesOf l = some bs := by
            obtain ⟨ns, h1, rfl⟩ := bytesOf_inv hbs
            have : ∀ (ns : List Int) (l : List Value), VL ρ (ns.map (Value.int .u8)) l → l = ns.map (Value.int .u8) := by
              intro ns
              induction ns with
              | nil => intro l hl; exact hl.nil_inv
              | cons n ns ih => intro l hl; obtain ⟨v', m, rfl, h1, h2⟩ := hl.cons_inv; rw [h1.int_inv, ih m h2]; rfl
            rw [h1] at hl2
            rw [this ns l hl2]
            clear h1 hl1 hl2 this h hbs
            induction ns with
            | nil => rfl
            | cons n ns ih => simp [bytesOf, ih]
          have hload : (loadCells a' len).run P w = .ok l.toArray w := by
            rcases haddr with h0 | ⟨rfl, _⟩
            · have : len = 0 := by omega
              subst this
              have hl0 : l = [] := by
                have := hl2.1
                rw [range_len hle] at this
                cases l with
                | nil => rfl
                | cons => simp at this
              rw [hl0]; rfl
            · exact hl1 w rfl
          have := bytesToString_run (cap := cap') hload hbs'
          simp only [convert, Sem.run_bind, run_underlying hs, run_underlying hd, run_underlying he, Result.andThen_ok]
          exact this
      · cases h
    · cases h
  case makeInterface xt x =>
    replace h := opd_inv ht h; obtain ⟨v, hv, h⟩ := h
    cases hu : P.underlying xt with
    | none => simp only [hu] at h; cases h
    | some d =>
      cases d <;> simp only [hu] at h <;> first
        | (cases h; done)
        | exact ⟨_, _, h, .iface _ _ _ hv, val_run (by simp [Instr.makeInterface, run_underlying hu])⟩
  case typeAssert x xt at_ ok =>
    replace h := opd_inv ht h; obtain ⟨v, hv, h⟩ := h
    obtain ⟨z, z', h1, h2, h3⟩ := tyAs_sound (P := P) (xt := xt) h hv
    exact ⟨z, z', h1, h2, val_run h3⟩
  case makeFunc fn first cap =>
    cases fn <;> simp only [] at h <;> try (cases h; done)
    replace h := opds_inv ht h; obtain ⟨xs, hxs, h⟩ := h
    replace h := opds_inv ht h; obtain ⟨ys, hys, h⟩ := h
    refine ⟨_, _, h, VR.func_mk hxs hys, val_run ?_⟩
    simp [Instr.makeFunc, ← Array.toList_map]
  case build bt parts =>
    replace h := opds_inv ht h; obtain ⟨vs, hvs, h⟩ := h
    obtain ⟨hone, h⟩ := cellsOks_inv hvs h
    replace h := onSome_inv h; obtain ⟨cells, hc, h⟩ := h
    split at h
    · rename_i z hz
      split at h
      · rename_i hp
        rw [Bool.and_eq_true] at hp
        obtain ⟨cells', h1, h2, h4⟩ := built_VL (PL.zip hvs _) (POne.zip hone _) hz hp.1 (fun v hv => List.all_eq_true.1 hp.2 v hv) hc
        rw [zip_map] at h1
        refine ⟨_, _, h, ?_, val_run (run_build w bt _ cells' (by simpa using h1))⟩
        have := VR.agg_mk h2 h4
        simpa using this
      · cases h
    · cases h
  case fieldAddr s x f =>
    replace h := onSome_inv h; obtain ⟨off, hoff, h⟩ := h
    replace h := opd_inv ht h; obtain ⟨v, hv, h⟩ := h
    replace h := kPtr_inv h; obtain ⟨q, rfl, h⟩ := h
    replace h := onSome_inv h; obtain ⟨q, rfl, h⟩ := h
    obtain ⟨p, hp, hs, e⟩ := hv.ptr_inv
    refine ⟨_, _, h, VR.ptr_add hp hs off, val_run ?_⟩
    rw [e]
    exact run_fieldAt_of hoff _ _
  case field s x f =>
    replace h := onSome_inv h; obtain ⟨ot, hot, h⟩ := h
    replace h := opd_inv ht h; obtain ⟨v, hv, h⟩ := h
    replace h := kAgg_inv h; obtain ⟨cs, rfl, h⟩ := h
    obtain ⟨cs', e, hcs⟩ := hv.agg_inv
    obtain ⟨fs, fld, hu, hf, rfl⟩ := fieldTy_inv hot
    obtain ⟨u, u', h1, h2, h3⟩ := partK_sound (P := P) (w := w) hcs h
    refine ⟨u, u', h1, h2, val_run ?_⟩
    rw [e]
    simp only [Instr.field, Sem.run_bind, run_underlying hu, Result.andThen_ok, hf, asAgg, Sem.run_pure]
    exact h3
  case indexAddr st x ix =>
    replace h := opd_inv ht h; obtain ⟨v, hv, h⟩ := h
    replace h := opd_inv ht h; obtain ⟨i, hi, h⟩ := h
    replace h := kAnyInt_inv h; obtain ⟨ki, i, rfl, h⟩ := h
    split at h
    · rename_i e hu
      replace h := onSome_inv h; obtain ⟨ie, hie, h⟩ := h
      replace h := kSl_inv h; obtain ⟨q, len, cap, rfl, h⟩ := h
      replace h := onSome_inv h; obtain ⟨q, rfl, h⟩ := h
      replace h := ite_inv h; obtain ⟨hin, h⟩ := h
      obtain ⟨p, a', cap', hp, hs, e2, hcap, hlen, haddr⟩ := hv.slice_inv
      have ha : a' = ⟨p.blk, p.base + q.off, none⟩ := by
        rcases haddr with h0 | ⟨h0, _⟩
        · omega
        · exact h0
      refine ⟨_, _, h, VR.ptr_add hp hs _, val_run ?_⟩
      rw [e2, hi.int_inv, ha]
      have hel : P.elem st = e := by simp [Program.elem, hu]
      rw [run_indexAt_slice w st _ len cap' ki i (by rw [hel]; exact hu), if_pos hin, hel, run_sizeOf' hie, Result.andThen_ok, addr_add]
    · rename_i n e hu
      replace h := onSome_inv h; obtain ⟨ie, hie, h⟩ := h
      replace h := kPtr_inv h; obtain ⟨q, rfl, h⟩ := h
      replace h := onSome_inv h; obtain ⟨q, rfl, h⟩ := h
      replace h := ite_inv h; obtain ⟨hin, h⟩ := h
      obtain ⟨p, hp, hs, e2⟩ := hv.ptr_inv
      refine ⟨_, _, h, VR.ptr_add hp hs _, val_run ?_⟩
      rw [e2, hi.int_inv]
      have hel : P.elem st = e := by simp [Program.elem, hu]
      have hn : P.arrayLen st = n := by simp [Program.arrayLen, hu]
      rw [run_indexAt_array w st _ ki i (by rw [hel, hn]; exact hu), hn, if_pos hin, hel, run_sizeOf' hie, Result.andThen_ok, addr_add]
    · cases h
  case index st x ix =>
    replace h := opd_inv ht h; obtain ⟨v, hv, h⟩ := h
    replace h := opd_inv ht h; obtain ⟨i, hi, h⟩ := h
    replace h := kAnyInt_inv h; obtain ⟨ki, i, rfl, h⟩ := h
    split at h
    · rename_i hu
      replace h := kStr_inv h; obtain ⟨s, rfl, h⟩ := h
      replace h := ite_inv h; obtain ⟨hin, h⟩ := h
      refine ⟨_, _, h, .int _ _, val_run ?_⟩
      rw [hv.string_inv, hi.int_inv]
      have hlt : i.toNat < s.size := by omega
      simp [Instr.index, asIntOf, run_underlying hu, hin.1, byteAt, hlt]
    · rename_i n e hu
      replace h := onSome_inv h; obtain ⟨ie, hie, h⟩ := h
      replace h := kAgg_inv h; obtain ⟨cs, rfl, h⟩ := h
      replace h := ite_inv h; obtain ⟨hin, h⟩ := h
      obtain ⟨cs', e2, hcs⟩ := hv.agg_inv
      obtain ⟨u, u', h1, h2, h3⟩ := partK_sound (P := P) (w := w) hcs h
      refine ⟨u, u', h1, h2, val_run ?_⟩
      rw [e2, hi.int_inv]
      simp only [Instr.index, asIntOf, Sem.run_bind, run_underlying hu, Result.andThen_ok, Sem.run_pure]
      rw [if_pos hin]
      simp only [Sem.run_bind, run_sizeOf' hie, Result.andThen_ok]
      exact h3
    · cases h
  case slice st x lo hi mx =>
    replace h := opd_inv ht h; obtain ⟨v, hv, h⟩ := h
    split at h
    · rename_i hu
      cases mx with
      | some m => cases h
      | none =>
        simp only [] at h
        replace h := kStr_inv h; obtain ⟨s, rfl, h⟩ := h
        obtain ⟨hn, h, hh⟩ := optInt_inv ht h
        obtain ⟨ln, h, hl⟩ := optInt_inv ht h
        obtain ⟨u, h1, h2, h3⟩ := slStr_sound (ρ := ρ) (w := w) hu (lo := lo.map a.eval) (hi := hi.map a.eval) (by
          rcases hh with ⟨rfl, rfl⟩ | ⟨o, kd, rfl, e⟩
          · exact .inl ⟨rfl, rfl⟩
          · exact .inr ⟨kd, by simp [e]⟩) (by
          rcases hl with ⟨rfl, rfl⟩ | ⟨o, kd, rfl, e⟩
          · exact .inl ⟨rfl, rfl⟩
          · exact .inr ⟨kd, by simp [e]⟩) h
        refine ⟨u, u, h1, h2, val_run ?_⟩
        rw [hv.string_inv]
        exact h3
    · rename_i e hu
      replace h := onSome_inv h; obtain ⟨ie, hie, h⟩ := h
      replace h := kSl_inv h; obtain ⟨q, len, cap, rfl, h⟩ := h
      obtain ⟨hn, h, hh⟩ := optInt_inv ht h
      obtain ⟨ln, h, hl⟩ := optInt_inv ht h
      have hl' : (lo.map a.eval = none ∧ ln = 0) ∨ ∃ kd, lo.map a.eval = some (.int kd ln) := by
        rcases hl with ⟨rfl, rfl⟩ | ⟨o, kd, rfl, e⟩
        · exact .inl ⟨rfl, rfl⟩
        · exact .inr ⟨kd, by simp [e]⟩
      cases mx with
      | none =>
        simp only [] at h
        obtain ⟨u, u', h1, h2, h3⟩ := slSl_sound (P := P) hR hu hv (lo := lo.map a.eval) (hi := hi.map a.eval) (by
          rcases hh with ⟨rfl, rfl⟩ | ⟨o, kd, rfl, e⟩
          · exact .inl ⟨rfl, rfl⟩
          · exact .inr ⟨kd, by simp [e]⟩) hl' h ⟨ie, hie⟩
        exact ⟨u, u', h1, h2, val_run h3⟩
      | some m =>
        simp only [] at h
        replace h := opd_inv ht h; obtain ⟨mv, hm, h⟩ := h
        replace h := kAnyInt_inv h; obtain ⟨km, m', rfl, h⟩ := h
        rcases hh with ⟨rfl, rfl⟩ | ⟨o, kd, rfl, e3⟩
        · cases h
        · obtain ⟨u, u', h1, h2, h3⟩ := slSl3_sound (P := P) (km := km) hR hu hv (lo := lo.map a.eval) (hi := some (a.eval o)) (.inr ⟨kd, by rw [e3]⟩) hl' h ⟨ie, hie⟩
          refine ⟨u, u', h1, h2, val_run ?_⟩
          have := hm.int_inv
          simp only [Option.map_some, this]
          exact h3
    · rename_i n e hu
      replace h := onSome_inv h; obtain ⟨ie, hie, h⟩ := h
      replace h := kPtr_inv h; obtain ⟨q, rfl, h⟩ := h
      replace h := onSome_inv h; obtain ⟨q, rfl, h⟩ := h
      replace h := optInt_inv ht h; obtain ⟨hn, h, hh⟩ := h
      replace h := optInt_inv ht h; obtain ⟨ln, h, hl⟩ := h
      cases mx with
      | some m => cases h
      | none =>
        simp only [] at h
        obtain ⟨u, u', h1, h2, h3⟩ := slArr_sound (P := P) hR hu hv (lo := lo.map a.eval) (hi := hi.map a.eval) (by
          rcases hh with ⟨rfl, rfl⟩ | ⟨o, kd, rfl, e⟩
          · exact .inl ⟨rfl, rfl⟩
          · exact .inr ⟨kd, by simp [e]⟩) (by
          rcases hl with ⟨rfl, rfl⟩ | ⟨o, kd, rfl, e⟩
          · exact .inl ⟨rfl, rfl⟩
          · exact .inr ⟨kd, by simp [e]⟩) h ⟨ie, hie⟩
        exact ⟨u, u', h1, h2, val_run h3⟩
    · cases h
  case lookup mt x ix ok =>
    replace h := opd_inv ht h; obtain ⟨u, hu, h⟩ := h
    replace h := opd_inv ht h; obtain ⟨v, hv, h⟩ := h
    obtain ⟨z, z', h1, h2, h3⟩ := lookupK_sound (P := P) hR h hu hv
    exact ⟨z, z', kTy_inv h1, h2, val_run h3⟩
  case extract x i =>
    replace h := opd_inv ht h; obtain ⟨v, hv, h⟩ := h
    replace h := kTup_inv h; obtain ⟨vs, rfl, h⟩ := h
    replace h := onSome_inv h; obtain ⟨u, hu, h⟩ := h
    obtain ⟨vs', e, hvs⟩ := hv.tuple_inv
    obtain ⟨u', h1, h2⟩ := hvs.getA hu
    refine ⟨u, u', kTy_inv h, h2, val_run ?_⟩
    rw [e]
    simp [Instr.extract, h1]
  case call c =>
    obtain ⟨callee, args, ats⟩ := c
    cases callee <;> simp only [] at h <;> try (cases h; done)
    rename_i b
    replace h := opds_inv ht h; obtain ⟨vs, hvs, h⟩ := h
    have hargs : args.map a.eval = (args.toList.map a.eval).toArray := by apply Array.ext'; simp
    cases b <;> simp only [] at h <;> try (cases h; done)
    case len =>
      split at h
      · rename_i at_ v hat
        obtain ⟨v', m, e, hv, hm⟩ := hvs.cons_inv
        rw [hm.nil_inv] at e
        have hexec : ∀ z, (∀ ty', (Builtin.len_ ats ty' #[v']).run P w = .ok z w) → (execOp a.eval { dst, op := .call { callee := .builtin .len, args, argTypes := ats }, type := ty, pos, after, guard }).run P w = .ok (.value z) w := fun z hz => by
          simp only [execOp, resolve, Sem.run_bind, Sem.run_pure, Result.andThen_ok, invoke, builtin]
          rw [hargs, e, hz]
          rfl
        split at h
        · rename_i hu
          replace h := kStr_inv h; obtain ⟨s, rfl, h⟩ := h
          exact ⟨_, _, h, .int _ _, hexec _ fun ty' => by rw [hv.string_inv]; simp [Builtin.len_, hat, run_underlying hu, goInt]⟩
        · rename_i el hu
          replace h := kSl_inv h; obtain ⟨q, len, cap, rfl, h⟩ := h
          refine ⟨_, _, h, .int _ _, hexec _ fun ty' => ?_⟩
          cases q with
          | none => obtain ⟨e1, rfl, _⟩ := hv.sliceN_inv; rw [e1]; simp [Builtin.len_, hat, run_underlying hu, goInt]
          | some q => obtain ⟨p, a', cap', _, _, e1, _⟩ := hv.slice_inv; rw [e1]; simp [Builtin.len_, hat, run_underlying hu, goInt]
        · rename_i kt et hu
          replace h := kMp_inv h; obtain ⟨rr, rfl, h⟩ := h
          obtain ⟨es, l, h1, h2, h3⟩ := ldmo_sound hR hv h
          refine ⟨_, _, h1, .int _ _, hexec _ fun ty' => ?_⟩
          rw [h2.1]
          rcases h3 with ⟨_, rfl, rfl⟩ | ⟨b, clock, rfl, hb⟩
          · simp [Builtin.len_, hat, run_underlying hu, goInt]
          · simp [Builtin.len_, hat, run_underlying hu, goInt, run_getMap hb]
        · cases h
      · cases h
    case cap =>
      split at h
      · rename_i at_ v hat
        obtain ⟨v', m, e, hv, hm⟩ := hvs.cons_inv
        rw [hm.nil_inv] at e
        split at h
        · rename_i el hu
          replace h := kSl_inv h; obtain ⟨q, len, cap, rfl, h⟩ := h
          split at h
          · cases h
          · rename_i hunk
            refine ⟨_, _, h, .int _ _, ?_⟩
            have hz : (Builtin.cap_ ats ty #[v']).run P w = .ok (.int .i64 cap) w := by
              cases q with
              | none => obtain ⟨e1, _, rfl⟩ := hv.sliceN_inv; rw [e1]; simp [Builtin.cap_, hat, run_underlying hu, goInt]
              | some q => obtain ⟨p, a', cap', _, _, e1, hcap, _⟩ := hv.slice_inv; rw [e1]; rw [hcap.resolve_right fun z => hunk z.1]; simp [Builtin.cap_, hat, run_underlying hu, goInt]
            simp only [execOp, resolve, Sem.run_bind, Sem.run_pure, Result.andThen_ok, invoke, builtin]
            rw [hargs, e, hz]
            rfl
        · cases h
      · cases h
    case unsafeSliceData =>
      split at h
      · rename_i v
        replace h := kSl_inv h; obtain ⟨q, len, cap, rfl, h⟩ := h
        obtain ⟨v', m, e, hv, hm⟩ := hvs.cons_inv
        rw [hm.nil_inv] at e
        have hexec : ∀ z, ((Builtin.unsafeSliceData_ ats ty #[v']).run P w = .ok z w) → (execOp a.eval { dst, op := .call { callee := .builtin .unsafeSliceData, args, argTypes := ats }, type := ty, pos, after, guard }).run P w = .ok (.value z) w := fun z hz => by
          simp only [execOp, resolve, Sem.run_bind, Sem.run_pure, Result.andThen_ok, invoke, builtin]
          rw [hargs, e, hz]
          rfl
        cases q with
        | none =>
          simp only [] at h
          exact ⟨_, _, h, .ptrN, hexec _ (by rw [hv.sliceN_inv.1]; rfl)⟩
        | some q =>
          simp only [] at h
          replace h := ite_inv h; obtain ⟨h0, h⟩ := h
          obtain ⟨p, a', cap', hp, hs, e2, hcap, hlen, haddr⟩ := hv.slice_inv
          obtain ⟨rfl, _⟩ : a' = ⟨p.blk, p.base + q.off, none⟩ ∧ True := by
            rcases haddr with h1 | ⟨h1, _⟩
            · omega
            · exact ⟨h1, trivial⟩
          refine ⟨_, _, h, ?_, hexec _ (by rw [e2]; exact Lib.run_unsafeSliceData_row _ _ _ _ _ _ (by omega))⟩
          rw [addr_eta hs]
          exact .ptr _ _ p hp
      · cases h
    case max =>
      split at h
      · rename_i v rest
        split at h
        · rename_i kd hk
          obtain ⟨v', m, e, hv, hm⟩ := hvs.cons_inv
          obtain ⟨n, e2, h⟩ := kIntS_VR h hv
          rw [e2] at hv
          obtain ⟨u, q, h1, h3, h2⟩ := max_run (P := P) (w := w) rest kd v _ h n hv m hm
          refine ⟨_, _, h1, h3, ?_⟩
          simp only [execOp, resolve, Sem.run_bind, Sem.run_pure, Result.andThen_ok, invoke, builtin]
          rw [hargs, e, e2]
          simp only [Builtin.max_, h2, Result.andThen_ok]
        · cases h
      · cases h
    case min =>
      split at h
      · rename_i v rest
        split at h
        · rename_i kd hk
          obtain ⟨v', m, e, hv, hm⟩ := hvs.cons_inv
          obtain ⟨n, e2, h⟩ := kIntS_VR h hv
          rw [e2] at hv
          obtain ⟨u, q, h1, h3, h2⟩ := min_run (P := P) (w := w) rest kd v _ h n hv m hm
          refine ⟨_, _, h1, h3, ?_⟩
          simp only [execOp, resolve, Sem.run_bind, Sem.run_pure, Result.andThen_ok, invoke, builtin]
          rw [hargs, e, e2]
          simp only [Builtin.min_, h2, Result.andThen_ok]
        · cases h
      · cases h
end
end Go.Proofs.YtgnkjpbecgpjoaaGreatDoor.Fw
set_option linter.unusedVariables false
set_option linter.unusedSimpArgs false
namespace Go.Proofs.YtgnkjpbecgpjoaaGreatDoor.Fw
open Go Go.RowKit

section
variable {P : Program} {ρ : Ren} {w : World} {β : Type} {r : β}

theorem heap_new (w : World) (o : Obj) : (w.alloc o).heap[w.heap.size]? = some o := by
  show (w.heap.push o)[w.heap.size]? = some o
  simp
theorem flat_len {α : Type} (l : List α) : ∀ n, (List.replicate n l).flatten.length = n * l.length
  | 0 => by simp
  | n + 1 => by rw [List.replicate_succ, List.flatten_cons, List.length_append, flat_len l n, Nat.succ_mul, Nat.add_comm]
theorem wrap_in {n : Int} (h : -9223372036854775808 ≤ n ∧ n < 9223372036854775808) : IntKind.i64.wrap n = n := by
  simp [IntKind.wrap, IntKind.bits, IntKind.signed]; omega

/-- A new row in the world. -/
theorem OR.new {ρ' : Ren} {cs : Array Value} {cs0 : List Value} (hc : VL ρ' cs0 cs.toList) (h1 : One cs0) (el : TypeId) {esz : Nat} (hz : ∀ t, esz / tyM = t + 1 → el = t) : OR ρ' (w.alloc (.cells cs el)) ⟨w.heap.size, 0, cs.size, esz % tyM⟩ (.cells cs0 esz true) := by
  refine ⟨cs, el, (0, 0), heap_new w _, rfl, ⟨rfl, fun t h => ⟨hz t h, rfl⟩⟩, ?_, ?_, ?_⟩
  · have := hc.1; simp at this; simp [this]
  · intro i v hv
    obtain ⟨v', h2, h3⟩ := hc.get hv
    exact ⟨h1 v (List.mem_of_getElem? hv), v', by simpa using h2, h3⟩
  · intro _ i _ h; simp at h

theorem small_ty {esz : Nat} (h : esz < tyM) {el : TypeId} : ∀ t, esz / tyM = t + 1 → el = t := fun t e => by rw [Nat.div_eq_of_lt h] at e; omega
theorem mod_ty (n : Nat) {el : TypeId} : ∀ t, n % tyM / tyM = t + 1 → el = t := small_ty (Nat.mod_lt _ (by decide))
theorem tyE_mod {P : Program} (e : TypeId) : tyE P e % tyM = P.cellsOf e % tyM := by
  unfold tyE
  split
  · exact tz_mod _ _
  · simp
theorem tyE_ty {P : Program} (e : TypeId) : ∀ t, tyE P e / tyM = t + 1 → e = t := by
  unfold tyE
  split
  · intro t h; rw [tz_div] at h; exact Nat.add_right_cancel h
  · exact mod_ty _
theorem selfTy_ty {P : Program} (e : TypeId) : ∀ t, selfTy P e / tyM = t + 1 → e = t := by
  unfold selfTy
  repeat' split
  all_goals first | (intro t h; rw [tz_div] at h; exact Nat.add_right_cancel h) | exact small_ty (esz := 0) (by decide) | exact mod_ty _

theorem boxTy_ty {P : Program} (e : TypeId) : ∀ t, boxTy P e / tyM = t + 1 → e = t := by
  unfold boxTy
  split
  · intro t h; rw [tz_div] at h; exact Nat.add_right_cancel h
  · exact small_ty (esz := 0) (by decide)
theorem zeroCells_map (z : Array Value) : ∀ n, (Array.range (n * z.size)).map (fun i => z[i % z.size]!) = ((List.replicate n z.toList).flatten).toArray := by
  intro n
  by_cases hz : z.size = 0
  · have : z.toList = [] := by simpa using hz
    simp [hz, this, Array.range]
  apply Array.ext'
  simp only [Array.toList_map, Array.toList_range]
  induction n with
  | zero => simp
  | succ n ih =>
    rw [List.replicate_succ', List.flatten_append, ← ih]
    simp only [List.flatten_cons, List.flatten_nil, List.append_nil]
    rw [Nat.succ_mul, List.range_add, List.map_append]
    congr 1
    rw [List.map_map]
    apply List.ext_getElem?
    intro i
    by_cases hi : i < z.size
    · have : (n * z.size + i) % z.size = i := by rw [Nat.mul_comm, Nat.mul_add_mod, Nat.mod_eq_of_lt hi]
      simp [hi, this]
    · simp [List.getElem?_eq_none, Nat.not_lt.1 hi]

theorem VL.flat {l : List Value} (h : VL ρ l l) (n : Nat) : VL ρ (List.replicate n l).flatten (List.replicate n l).flatten := by
  induction n with
  | zero => exact VL.nil
  | succ n ih => rw [List.replicate_succ]; exact h.append ih
theorem One.flat {l : List Value} (h : One l) (n : Nat) : One (List.replicate n l).flatten := by
  induction n with
  | zero => exact One.nil
  | succ n ih => rw [List.replicate_succ]; exact h.append ih

set_option maxHeartbeats 1000000 in
/-- WHAT MAKES A BLOCK. -/
theorem al_sound {t : Tm} {a : Act} (ht : TR ρ t a.tmps) {o : Oper} {k : AObj → (Nat → Value) → Option β} (h : al P t o.op k = some r) :
    ∃ ob mk, k ob mk = some r ∧ ∃ co v' p, (execOp a.eval o).run P w = .ok (.value v') (w.alloc co) ∧ p.blk = w.heap.size ∧ (∀ ρ', Le ρ ρ' → OR ρ' (w.alloc co) p ob) ∧ (∀ ρ' id, Le ρ ρ' → ρ' id = some p → VR ρ' (mk id) v') := by
  obtain ⟨dst, op, ty, pos, after, guard⟩ := o
  simp only [] at h
  have new : ∀ (cs : Array Value) (cs0 : List Value) (el : TypeId) (esz : Nat), VL ρ cs0 cs.toList → One cs0 → (∀ t, esz / tyM = t + 1 → el = t) → (∀ ρ', Le ρ ρ' → OR ρ' (w.alloc (.cells cs el)) ⟨w.heap.size, 0, cs.size, esz % tyM⟩ (.cells cs0 esz true)) := fun cs cs0 el esz h1 h2 hz ρ' hle => OR.new (h1.mono hle) h2 el hz
  have ptr : ∀ (n m : Nat) (ρ' : Ren) (id : Nat), Le ρ ρ' → ρ' id = some ⟨w.heap.size, 0, n, m⟩ → VR ρ' (.pointer (some ⟨id, 0, none⟩)) (.pointer (some ⟨w.heap.size, 0, none⟩)) := fun n m ρ' id _ hid => by
    have := VR.ptr (ρ := ρ') id 0 _ hid; simpa using this
  cases op <;> simp only [al] at h <;> try (cases h; done)
  case alloc e =>
    replace h := onSome_inv h; obtain ⟨z, hz, h⟩ := h
    split at h
    · rename_i hp
      rw [Bool.and_eq_true] at hp
      have hone : One z.cells.toList := fun v hv => List.all_eq_true.1 hp.2 v hv
      refine ⟨_, _, h, .cells z.cells e, _, ⟨w.heap.size, 0, z.cells.size, selfTy P e % tyM⟩, val_run ?_, rfl, new z.cells _ e _ (plainV_VR hp.1).cells hone (selfTy_ty e), ptr _ _⟩
      simp only [Instr.alloc, Sem.run_bind, run_zero hz, Result.andThen_ok, newVar, newRow, run_newObj, Sem.run_pure]
      rfl
    · cases h
  case box e x =>
    replace h := opd_inv ht h; obtain ⟨v, hv, h⟩ := h
    obtain ⟨hone, h⟩ := cellsOk_inv hv h
    refine ⟨_, _, h, .cells (a.eval x).cells e, _, ⟨w.heap.size, 0, (a.eval x).cells.size, boxTy P e % tyM⟩, val_run ?_, rfl, new _ _ e _ hv.cells hone (boxTy_ty e), ptr _ _⟩
    simp only [Instr.box, Sem.run_bind, newVar, newRow, run_newObj, Result.andThen_ok, Sem.run_pure]
    rfl
  case buildSlice st len parts =>
    replace h := onSome_inv h; obtain ⟨e, he, h⟩ := h
    replace h := onSome_inv h; obtain ⟨z, hz, h⟩ := h
    unfold elemOf at he
    split at he
    · rename_i e2 hu
      obtain rfl := Option.some.inj he
      split at h
      · cases h
      · rename_i hp
        simp only [Bool.and_eq_true] at hp
        obtain ⟨⟨hp1, hp2⟩, hp3⟩ := hp
        have hsz := Nat.eq_of_beq_eq_true hp3
        split at h
        · cases h
        · rename_i hsm
          have hsm := Nat.le_of_ble_eq_true hsm
          replace h := opds_inv ht h; obtain ⟨vs, hvs, h⟩ := h
          obtain ⟨hall, h⟩ := cellsOks_inv hvs h
          replace h := onSome_inv h; obtain ⟨cells, hc, h⟩ := h
          have hone : One z.cells.toList := fun v hv => List.all_eq_true.1 hp2 v hv
          have hz0 : VL ρ (zeroCellsOf z len).toArray.toList (zeroCellsOf z len).toArray.toList := by
            simpa [zeroCellsOf] using (plainV_VR (ρ := ρ) hp1).cells.flat len
          have hz1 : One (zeroCellsOf z len).toArray.toList := by simpa [zeroCellsOf] using hone.flat len
          obtain ⟨cells', h1, h2⟩ := fill_VL _ _ _ _ cells (PL.zip hvs (parts.toList.map (·.1))) hz0 hc
          rw [zip_map] at h1
          have hc1 := fill_one _ _ cells (POne.zip hall _) hz1 hc
          have hinfo : ∃ i, P.info? e2 = some i := by unfold zeroOf at hz; split at hz; exact ⟨_, ‹_›⟩; cases hz
          refine ⟨_, _, h, .cells cells' e2, .slice (some ⟨w.heap.size, 0, none⟩) len len, ⟨w.heap.size, 0, cells'.size, P.cellsOf e2 % tyM % tyM⟩, val_run ?_, rfl, new cells' _ e2 _ h2 hc1 (mod_ty _), ?_⟩
          · have h1' : Instr.fill (fun i => some (i * P.cellsOf e2, P.cellsOf e2)) (zeroCellsOf z len).toArray (parts.map fun (i, x) => (i, a.eval x)).toList = some cells' := by simpa using h1
            have hmap : (Array.range (len * P.cellsOf e2)).map (fun i => z.cells[i % z.cells.size]!) = (zeroCellsOf z len).toArray := by rw [← hsz]; exact zeroCells_map z.cells len
            simp only [Instr.buildSlice, Sem.run_bind, run_underlying hu, Result.andThen_ok, sizeOf_any e2 0 hinfo]
            rw [if_neg (by omega)]
            by_cases h0 : len * P.cellsOf e2 = 0
            · rw [if_pos h0]
              have : (zeroCellsOf z len).toArray = #[] := by
                rw [← hmap, h0]; simp [Array.range]
              rw [this] at h1'
              simp only [Sem.run_bind, Sem.run_pure, Result.andThen_ok, h0]
              simp only [Array.range, List.range_zero, Array.ofFn_zero, Array.map_empty, h1', newRow, Sem.run_bind, run_newObj, Result.andThen_ok, Sem.run_pure]
              rfl
            · rw [if_neg h0]
              simp only [Sem.run_bind, run_zero hz, Sem.run_pure, Result.andThen_ok]
              rw [hmap, h1']
              simp only [newRow, Sem.run_bind, run_newObj, Result.andThen_ok, Sem.run_pure]
              rfl
          · intro ρ' id hle hid
            refine .slice id 0 len len len _ _ hid (.inl rfl) (Nat.le_refl _) (.inr ⟨rfl, ?_⟩)
            have hl := h2.1
            have : cells.size = (zeroCellsOf z len).length := by
              have : ∀ (l : List (Nat × Value)) (c d : Array Value), Instr.fill (fun i => some (i * P.cellsOf e2, P.cellsOf e2)) c l = some d → d.size = c.size := by
                intro l
                induction l with
                | nil => intro c d hh; simp only [Instr.fill] at hh; obtain rfl := Option.some.inj hh; rfl
                | cons x l ih =>
                  obtain ⟨i, v⟩ := x
                  intro c d hh
                  simp only [Instr.fill] at hh
                  split at hh
                  · cases hh
                  · rw [ih _ _ hh, ← Array.foldl_toList]
                    have : ∀ (l : List (Value × Nat)) (c : Array Value), (l.foldl (fun (cs : Array Value) (x : Value × Nat) => cs.setIfInBounds (i * P.cellsOf e2 + x.2) x.1) c).size = c.size := by
                      intro l
                      induction l with
                      | nil => intro c; rfl
                      | cons y l ih => intro c; rw [List.foldl_cons, ih]; simp
                    exact this _ c
              simpa using this _ _ _ hc
            have hl2 : (zeroCellsOf z len).length = len * P.cellsOf e2 := by rw [← hsz]; exact flat_len _ _
            simp at hl
            simp only [Nat.zero_add]
            have hm : len * (P.cellsOf e2 % tyM % tyM) ≤ len * P.cellsOf e2 := Nat.mul_le_mul_left _ (Nat.le_trans (Nat.mod_le _ _) (Nat.mod_le _ _))
            omega
    · cases he
  case makeMap mt r =>
    have mk : ∀ ρ' id, Le ρ ρ' → ρ' id = some ⟨w.heap.size, 0, 0, 0⟩ → VR ρ' (.map (some id)) (.map (some w.heap.size)) := fun ρ' id _ hid => .map id _ hid
    have or_ : ∀ ρ', Le ρ ρ' → OR ρ' (w.alloc (.map #[] 0)) ⟨w.heap.size, 0, 0, 0⟩ (.map [] [] 0) := fun ρ' _ => ⟨#[], heap_new w _, rfl, by simp, Brn.nil, rfl⟩
    split at h
    · exact ⟨_, _, h, .map #[] 0, _, ⟨w.heap.size, 0, 0, 0⟩, val_run (by simp only [Instr.makeMap, Sem.run_bind, run_newObj, Result.andThen_ok, Sem.run_pure]; rfl), rfl, or_, mk⟩
    · replace h := opd_inv ht h; obtain ⟨v, hv, h⟩ := h
      replace h := kAnyInt_inv h; obtain ⟨kd, n, rfl, h⟩ := h
      split at h
      · rename_i kt et hu
        refine ⟨_, _, h, .map #[] 0, _, ⟨w.heap.size, 0, 0, 0⟩, val_run ?_, rfl, or_, mk⟩
        have := hv.int_inv
        simp only [Option.map_some, this, Instr.makeMap, Sem.run_bind, run_underlying hu, asInt, asIntOf, run_newObj, Result.andThen_ok, Sem.run_pure]
        rfl
      · cases h
  case makeSlice st l c =>
    replace h := onSome_inv h; obtain ⟨e, he, h⟩ := h
    replace h := onSome_inv h; obtain ⟨z, hz, h⟩ := h
    unfold elemOf at he
    split at he
    · rename_i e2 hu
      obtain rfl := Option.some.inj he
      split at h
      · cases h
      · rename_i hp
        simp only [Bool.and_eq_true] at hp
        obtain ⟨⟨hp1, hp2⟩, hp3⟩ := hp
        have hsz := Nat.eq_of_beq_eq_true hp3
        replace h := opd_inv ht h; obtain ⟨lv, hl, h⟩ := h
        replace h := kInt_inv h; obtain ⟨ln, rfl, h⟩ := h
        replace h := opd_inv ht h; obtain ⟨cv, hcv, h⟩ := h
        replace h := kInt_inv h; obtain ⟨cn, rfl, h⟩ := h
        replace h := ite_inv h; obtain ⟨⟨b1, b2, b3, b4⟩, h⟩ := h
        have hone : One z.cells.toList := fun v hv => List.all_eq_true.1 hp2 v hv
        obtain ⟨ii, hinfo⟩ : ∃ i, P.info? e2 = some i := by unfold zeroOf at hz; split at hz; exact ⟨_, ‹_›⟩; cases hz
        have hbytes : ii.bytes = P.bytesOf e2 := by simp [Program.bytesOf, hinfo]
        refine ⟨_, _, h, .cells (zeroCellsOf z cn.toNat).toArray e2, .slice (some ⟨w.heap.size, 0, none⟩) ln.toNat cn.toNat, ⟨w.heap.size, 0, (zeroCellsOf z cn.toNat).toArray.size, P.cellsOf e2 % tyM % tyM⟩, val_run ?_, rfl,
          new (zeroCellsOf z cn.toNat).toArray _ e2 _ (by simpa [zeroCellsOf] using (plainV_VR (ρ := ρ) hp1).cells.flat cn.toNat) (hone.flat _) (mod_ty _), ?_⟩
        · have w1 : IntKind.i64.wrap ln = ln := wrap_in (by omega)
          have w2 : IntKind.i64.wrap cn = cn := wrap_in (by omega)
          have t2 : (decide (cn < 0) || decide ((ii.bytes : Int) * cn > 2 ^ 48)) = false := by
            rw [hbytes]; simp; omega
          rw [hl.int_inv, hcv.int_inv]
          simp only [Instr.makeSlice, Sem.run_bind, run_underlying hu, Result.andThen_ok, asInt, asIntOf, Sem.run_pure, typeInfo, run_program, hinfo, w1, w2]
          rw [if_neg (by
            rw [hbytes]
            simp; omega)]
          simp only [Sem.run_bind, run_askRoom, Result.andThen_ok, sizeOf, typeInfo, run_program, hinfo, Sem.run_pure]
          have hcs : ii.size = P.cellsOf e2 := by simp [Program.cellsOf, hinfo]
          have hmap : (Array.range (cn.toNat * P.cellsOf e2)).map (fun i => z.cells[i % z.cells.size]!) = (zeroCellsOf z cn.toNat).toArray := by rw [← hsz]; exact zeroCells_map z.cells _
          rw [hcs]
          by_cases h0 : cn.toNat * P.cellsOf e2 = 0
          · rw [if_pos h0]
            simp only [Sem.run_bind, Sem.run_pure, Result.andThen_ok]
            rw [h0] at hmap ⊢
            rw [← hmap]
            simp only [Array.range, Array.ofFn_zero, Array.map_empty, newRow, Sem.run_bind, run_newObj, Result.andThen_ok, Sem.run_pure]
            rfl
          · rw [if_neg h0]
            simp only [Sem.run_bind, run_zero hz, Sem.run_pure, Result.andThen_ok]
            rw [hmap]
            simp only [newRow, Sem.run_bind, run_newObj, Result.andThen_ok, Sem.run_pure]
            rfl
        · intro ρ' id hle hid
          refine .slice id 0 _ _ cn.toNat _ _ hid (.inl rfl) (by omega) (.inr ⟨rfl, ?_⟩)
          have hl2 : (zeroCellsOf z cn.toNat).length = cn.toNat * P.cellsOf e2 := by rw [← hsz]; exact flat_len _ _
          have hm : cn.toNat * (P.cellsOf e2 % tyM % tyM) ≤ cn.toNat * P.cellsOf e2 := Nat.mul_le_mul_left _ (Nat.le_trans (Nat.mod_le _ _) (Nat.mod_le _ _))
          simp only [List.size_toArray, hl2, Nat.zero_add]
          exact hm
    · cases he
end
end Go.Proofs.YtgnkjpbecgpjoaaGreatDoor.Fw
