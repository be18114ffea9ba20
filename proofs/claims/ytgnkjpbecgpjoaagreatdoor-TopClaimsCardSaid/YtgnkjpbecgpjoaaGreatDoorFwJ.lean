/- FRAMEWORK 16: what an operation hangs on; regions in the order of the text. FRAMEWORK 17: regions in the order of the text do in the world what they do on the abstract heap. FRAMEWORK 18: regions that draw their order do in the world what they do on the abstract heap, whatever the order. FRAMEWORK 19: small things for regions that draw their order. -/
import Derived.Test.YtgnkjpbecgpjoaaGreatDoorFwF
set_option linter.unusedVariables false
set_option linter.unusedSimpArgs false
namespace Go.Proofs.YtgnkjpbecgpjoaaGreatDoor.Fw
open Go Go.RowKit

section
variable {β : Type}

/-- Two states of the temporaries that agree at what operands name. -/
def Agree (xs : List Operand) (t t' : Tm) : Prop := ∀ i, Operand.tmp i ∈ xs → t i = t' i
theorem opd_congr {xs : List Operand} {t t' : Tm} (h : Agree xs t t') {x : Operand} (hx : x ∈ xs) (k : Value → Option β) : opd t x k = opd t' x k := by
  cases x with
  | tmp i => simp only [opd, h i hx]
  | _ => rfl
theorem opds_congr {xs : List Operand} {t t' : Tm} (h : Agree xs t t') : ∀ {l : List Operand}, (∀ x ∈ l, x ∈ xs) → ∀ (k : List Value → Option β), opds t l k = opds t' l k
  | [], _, _ => rfl
  | x :: l, hl, k => by
    simp only [opds]
    rw [opd_congr h (hl x (by simp))]
    congr 1
    funext v
    exact opds_congr h (fun y hy => hl y (by simp [hy])) _
theorem optInt_congr {xs : List Operand} {t t' : Tm} (h : Agree xs t t') {x : Option Operand} (hx : ∀ y, x = some y → y ∈ xs) (d : Int) (k : Int → Option β) : optInt t x d k = optInt t' x d k := by
  cases x with
  | none => rfl
  | some x => exact opd_congr h (hx x rfl) _

theorem fl_congrT {P : Program} {t t' : Tm} {H : Heap} {ty : TypeId} {op : Op} (h : Agree op.operands.toList t t') (k : Value → Option β) : fl P t H ty op k = fl P t' H ty op k := by
  cases op <;> simp only [fl] <;> simp only [Op.operands] at h
  case move => exact opd_congr h (by simp) _
  case assign => exact opd_congr h (by simp) _
  case pick c a b =>
    rw [opd_congr h (x := c) (by simp)]
    congr 1; funext v; congr 1; funext u
    cases u
    · exact opd_congr h (by simp) _
    · exact opd_congr h (by simp) _
  case nilCheck => exact opd_congr h (by simp) _
  case load => exact opd_congr h (by simp) _
  case binOp op xt x y yt =>
    rw [opd_congr h (x := x) (by simp)]
    congr 1; funext v
    exact opd_congr h (by simp) _
  case unOp => exact opd_congr h (by simp) _
  case convert => exact opd_congr h (by simp) _
  case makeInterface => exact opd_congr h (by simp) _
  case typeAssert => exact opd_congr h (by simp) _
  case makeFunc fn first cap =>
    cases fn <;> simp only [fl]
    rw [opds_congr h (l := first.toList) (fun x hx => by simp; exact .inl (by simpa using hx))]
    congr 1; funext v
    exact opds_congr h (fun x hx => by simp; exact .inr (by simpa using hx)) _
  case build t parts => exact opds_congr h (fun x hx => by simpa using hx) _
  case fieldAddr =>
    congr 1; funext v
    exact opd_congr h (by simp) _
  case field =>
    congr 1; funext v
    exact opd_congr h (by simp) _
  case indexAddr st x ix =>
    rw [opd_congr h (x := x) (by simp)]
    congr 1; funext v
    exact opd_congr h (by simp) _
  case index st x ix =>
    rw [opd_congr h (x := x) (by simp)]
    congr 1; funext v
    exact opd_congr h (by simp) _
  case slice st x lo hi mx =>
    have hlo : ∀ y, lo = some y → y ∈ (#[x] ++ lo.toArray ++ hi.toArray ++ mx.toArray).toList := fun y hy => by subst hy; simp
    have hhi : ∀ y, hi = some y → y ∈ (#[x] ++ lo.toArray ++ hi.toArray ++ mx.toArray).toList := fun y hy => by subst hy; simp
    have hmx : ∀ y, mx = some y → y ∈ (#[x] ++ lo.toArray ++ hi.toArray ++ mx.toArray).toList := fun y hy => by subst hy; simp
    rw [opd_congr h (x := x) (by simp)]
    congr 1; funext v
    split
    · split
      · rfl
      · congr 1; funext s
        rw [optInt_congr h hhi]
        congr 1; funext a
        exact optInt_congr h hlo _ _
    · congr 1; funext _; congr 1; funext a l m
      rw [optInt_congr h hhi]
      congr 1; funext a
      rw [optInt_congr h hlo]
      congr 1; funext b
      split
      · rfl
      · rename_i y
        exact opd_congr h (hmx y rfl) _
    · congr 1; funext _; congr 1; funext a; congr 1; funext a
      rw [optInt_congr h hhi]
      congr 1; funext b
      exact optInt_congr h hlo _ _
    · rfl
  case lookup mt x ix ok =>
    rw [opd_congr h (x := x) (by simp)]
    congr 1; funext v
    exact opd_congr h (by simp) _
  case extract => exact opd_congr h (by simp) _
  case call c =>
    obtain ⟨callee, args, ats⟩ := c
    cases callee <;> simp only [fl]
    exact opds_congr h (fun x hx => by simp [Call.operands]; simpa using hx) _
  all_goals rfl

theorem al_congrT {P : Program} {t t' : Tm} {op : Op} (h : Agree op.operands.toList t t') (k : AObj → (Nat → Value) → Option β) : al P t op k = al P t' op k := by
  cases op <;> simp only [al] <;> simp only [Op.operands] at h
  case box => exact opd_congr h (by simp) _
  case buildSlice t len parts =>
    congr 1; funext e; congr 1; funext z
    split
    · rfl
    · split
      · rfl
      · exact opds_congr h (fun x hx => by simpa using hx) _
  case makeMap mt r =>
    cases r with
    | none => rfl
    | some x => exact opd_congr h (by simp) _
  case makeSlice st l c =>
    congr 1; funext e; congr 1; funext z
    split
    · rfl
    · rw [opd_congr h (x := l) (by simp)]
      congr 1; funext v; congr 1; funext n
      exact opd_congr h (by simp) _
  all_goals rfl

theorem ef_congrT {P : Program} {Γ : Fs} {t t' : Tm} {H : Heap} {ty : TypeId} {op : Op} (h : Agree op.operands.toList t t') (k : Value → Heap → Option β) : ef P Γ t H ty op k = ef P Γ t' H ty op k := by
  cases op <;> simp only [ef] <;> simp only [Op.operands] at h
  case store ty a x =>
    rw [opd_congr h (x := a) (by simp)]
    congr 1; funext v; congr 1; funext n; congr 1; funext a
    exact opd_congr h (by simp) _
  case convert => exact opd_congr h (by simp) _
  case mapUpdate mt m key x =>
    rw [opd_congr h (x := m) (by simp)]
    congr 1; funext v; congr 1; funext n; congr 1; funext a
    rw [opd_congr h (x := key) (by simp)]
    congr 1; funext v
    exact opd_congr h (by simp) _
  case insert mt m key x =>
    rw [opd_congr h (x := m) (by simp)]
    congr 1; funext v; congr 1; funext n; congr 1; funext a
    rw [opd_congr h (x := key) (by simp)]
    congr 1; funext v
    exact opd_congr h (by simp) _
  case mapEntry mt m key =>
    rw [opd_congr h (x := m) (by simp)]
    congr 1; funext v; congr 1; funext n; congr 1; funext a
    exact opd_congr h (by simp) _
  case entryStore mt m s x =>
    rw [opd_congr h (x := m) (by simp)]
    congr 1; funext v; congr 1; funext n; congr 1; funext a
    rw [opd_congr h (x := s) (by simp)]
    congr 1; funext v; congr 1; funext kd; congr 1; funext n
    exact opd_congr h (by simp) _
  case entry it => exact opd_congr h (by simp) _
  case range xt x => exact opd_congr h (by simp) _
  case call c =>
    obtain ⟨callee, args, ats⟩ := c
    cases callee with
    | invoke => rfl
    | builtin b => simp only [efCall]; exact opds_congr h (fun x hx => by simp [Call.operands]; simpa using hx) _
    | value x =>
      cases x <;> simp only [efCall]
      case func f =>
        congr 1; funext F
        exact opds_congr h (fun x hx => by simp [Call.operands]; exact .inr (by simpa using hx)) _
      all_goals
        rw [opd_congr h (by simp [Call.operands])]
        congr 1; funext v
        split
        · congr 1; funext F
          exact opds_congr h (fun x hx => by simp [Call.operands]; exact .inr (by simpa using hx)) _
        · rfl
  all_goals rfl

theorem opd_two {t : Tm} {x : Operand} {f g : Value → Option β} (h : ∀ v, opd t x some = some v → f v = g v) : opd t x f = opd t x g := by
  rw [opd_b t x f, opd_b t x g]
  cases hx : opd t x some with
  | none => rfl
  | some v => exact h v hx

/-- What is read hangs on the block that is read. -/
theorem ldc_congr {H H' : Heap} {b : Nat} (h : H'[b]? = H[b]?) (c : List Value → Option β) : ldc H' b c = ldc H b c := by simp only [ldc, h]
theorem esOk_congr {H H' : Heap} {b sz : Nat} (h : H'[b]? = H[b]?) (k : Option β) : esOk H' b sz k = esOk H b sz k := by simp only [esOk, h]
theorem fl_congrH {P : Program} {t : Tm} {H H' : Heap} {ty : TypeId} {op : Op} (h : ∀ b, rblk t op = some b → H'[b]? = H[b]?) (k : Value → Option β) : fl P t H' ty op k = fl P t H ty op k := by
  cases op <;> simp only [fl] <;> simp only [rblk] at h
  case load lt x =>
    refine opd_two fun v hx => ?_
    · rw [opd_b] at h
      simp only [hx, Option.bind_some] at h ⊢
      cases v <;> try rfl
      rename_i a
      cases a with
      | none => rfl
      | some a =>
        have := h a.block rfl
        simp only [kPtr, onSome, ld]
        split <;> exact ldc_congr this _
  case convert s d x =>
    refine opd_two fun v hx => ?_
    · rw [opd_b] at h
      simp only [hx, Option.bind_some] at h ⊢
      split
      · rfl
      · rfl
      · split
        · cases v <;> try rfl
          rename_i a
          cases a with
          | none => rfl
          | some a =>
            have := h a.block rfl
            simp only [kPtr, onSome]
            exact ldc_congr this _
        · rfl
      · split
        · cases v <;> try rfl
          rename_i a
          cases a with
          | none => rfl
          | some a =>
            have := h a.block rfl
            simp only [kPtr, onSome, fromU, this]
        · rfl
      · split
        · cases v <;> try rfl
          rename_i a len cap
          cases a with
          | none => rfl
          | some a =>
            have := h a.block rfl
            simp only [kSl]
            exact ldc_congr this _
        · rfl
      · rfl
  case slice st x lo hi mx =>
    refine opd_two fun v hx => ?_
    · rw [opd_b] at h
      simp only [hx, Option.bind_some] at h ⊢
      split
      · rfl
      · cases v <;> try rfl
        rename_i a len cap
        have hs : ∀ sz l h' (k : Value → Option β), slSl H' sz a len cap l h' k = slSl H sz a len cap l h' k := fun sz l h' k => by
          cases a with
          | none => rfl
          | some a => exact esOk_congr (h a.block rfl) _
        have hs3 : ∀ sz l h' m (k : Value → Option β), slSl3 H' sz a len cap l h' m k = slSl3 H sz a len cap l h' m k := fun sz l h' m k => by
          cases a with
          | none => rfl
          | some a => exact esOk_congr (h a.block rfl) _
        simp only [kSl]
        simp only [hs, hs3]
      · cases v <;> try rfl
        rename_i a
        cases a with
        | none => rfl
        | some a =>
          have hb := h a.block rfl
          have hs : ∀ sz n l h' (k : Value → Option β), slArr H' sz n a l h' k = slArr H sz n a l h' k := fun sz n l h' k => by
            unfold slArr esOk ldc
            rw [hb]
          simp only [kPtr, onSome, hs]
      · rfl
  case lookup mt x ix ok =>
    refine opd_two fun v hx => ?_
    · rw [opd_b] at h
      simp only [hx, Option.bind_some] at h ⊢
      congr 1; funext iv
      unfold lookupK
      split
      · congr 1; funext key
        cases v <;> try rfl
        rename_i rr
        simp only [kMp]
        cases rr with
        | none => rfl
        | some b =>
          have := h b rfl
          simp only [ldmo, ldm, this]
      · rfl
  case call c =>
    obtain ⟨callee, args, ats⟩ := c
    cases callee <;> simp only [fl]
    rename_i b
    cases b <;> simp only []
    -- len
    have hb : ∀ v, opds t args.toList some = some [v] → ∀ rr, v = .map (some rr) → H'[rr]? = H[rr]? := fun v hv rr e => by
      have := h rr
      apply this
      subst e
      have key : ∀ (l : List Operand) (vs : List Value) (q : List Value → Option Nat), opds t l some = some vs → opds t l q = q vs := by
        intro l
        induction l with
        | nil => intro vs q hq; simp only [opds] at hq ⊢; obtain rfl := Option.some.inj hq; rfl
        | cons x l ih =>
          intro vs q hq
          simp only [opds] at hq ⊢
          rw [opd_b] at hq ⊢
          cases hx : opd t x some with
          | none => rw [hx] at hq; cases hq
          | some u =>
            simp only [hx, Option.bind_some] at hq ⊢
            have e2 : (opds t l fun vs => some (u :: vs)) = (opds t l some).bind fun vs => some (u :: vs) := opds_bb fun _ => rfl
            rw [e2] at hq
            cases hl : opds t l some with
            | none => rw [hl] at hq; cases hq
            | some us =>
              rw [hl] at hq
              simp only [Option.bind_some] at hq
              obtain rfl := Option.some.inj hq
              exact ih us _ hl
      show (opds t args.toList fun vs => (match vs with | [v] => kMp v fun r => r | _ => none)) = some rr
      rw [key _ _ _ hv]
      rfl
    have e1 : ∀ (q : List Value → Option β), opds t args.toList q = (opds t args.toList some).bind q := fun q => opds_bb fun _ => rfl
    rw [e1, e1]
    cases hvs : opds t args.toList some with
    | none => rfl
    | some vs =>
      simp only [Option.bind_some]
      split
      · split
        · rfl
        · rfl
        · rename_i v _ _ _ _ _
          cases v <;> try rfl
          rename_i rr
          simp only [kMp]
          cases rr with
          | none => rfl
          | some b =>
            have := hb _ hvs b rfl
            simp only [ldmo, ldm, this]
        · rfl
      · rfl
  case makeFunc fn first cap => cases fn <;> rfl
  all_goals rfl
end
end Go.Proofs.YtgnkjpbecgpjoaaGreatDoor.Fw
set_option linter.unusedVariables false
set_option linter.unusedSimpArgs false
namespace Go.Proofs.YtgnkjpbecgpjoaaGreatDoor.Fw
open Go Go.RowKit

section
variable {P : Program} {β : Type} {r : β}

theorem put_size (a : Act) (d : Option Nat) (v : Value) : (a.put d v).tmps.size = a.tmps.size := by cases d <;> simp [Act.put]
theorem put_defers (a : Act) (d : Option Nat) (v : Value) : (a.put d v).defers = a.defers := by cases d <;> rfl

/-- The temporaries with a value put where it belongs. -/
def putT (t : Tm) (d : Option Nat) (v : Value) : Tm := match d with | none => t | some d => t.upd d v
theorem put_inv {n : Nat} {t : Tm} {d : Option Nat} {v : Value} {k : Tm → Option β} (h : put n t d v k = some r) : (∀ j, d = some j → j < n) ∧ k (putT t d v) = some r := by
  cases d with
  | none => exact ⟨(fun _ e => by cases e), h⟩
  | some d =>
    simp only [put] at h
    split at h
    · rename_i hb
      exact ⟨(fun j e => by obtain rfl := Option.some.inj e; exact Nat.le_of_ble_eq_true hb), h⟩
    · cases h
theorem TR.put {ρ : Ren} {t : Tm} {a : Act} {n : Nat} (h : TR ρ t a.tmps) (hn : a.tmps.size = n) {d : Option Nat} (hd : ∀ j, d = some j → j < n) {v v' : Value} (hv : VR ρ v v') : TR ρ (putT t d v) (a.put d v').tmps := by
  cases d with
  | none => exact h
  | some d => exact h.upd (by rw [hn]; exact hd d rfl) hv

/-- What a guard comes to. -/
def guardT (ops : List Oper) (n : Nat) (o : Oper) (t : Tm) : Option Bool :=
  match o.guard with
  | none => some true
  | some (j, want) => match ops[j]? with
    | some g => (match g.dst with | some d => (match t d with | some (.bool b) => if d < n then some (b == want) else none | some (.tuple _) => if d < n then some false else none | _ => none) | none => none)
    | none => none

theorem kBoolU_inv {v : Value} {u : Option β} {c : Bool → Option β} (h : kBoolU v u c = some r) : (∃ b, v = .bool b ∧ c b = some r) ∨ ∃ x, v = .tuple x ∧ u = some r := by
  unfold kBoolU at h
  split at h
  · exact .inl ⟨_, rfl, h⟩
  · exact .inr ⟨_, rfl, h⟩
  · cases h

theorem guard_inv {ops : List Oper} {n : Nat} {o : Oper} {t : Tm} {yes no : Tm → Option β} (h : guard ops n o t yes no = some r) :
    (guardT ops n o t = some true ∧ yes t = some r) ∨ (guardT ops n o t = some false ∧ no t = some r) := by
  unfold guard at h
  unfold guardT
  split at h
  · rename_i hg; exact .inl ⟨by simp [hg], h⟩
  · rename_i j want hg
    split at h
    · rename_i g hj
      split at h
      · rename_i d hd
        split at h
        · rename_i hb
          have hlt : d < n := Nat.le_of_ble_eq_true hb
          replace h := onSome_inv h; obtain ⟨v, hv, h⟩ := h
          rcases kBoolU_inv h with ⟨b, rfl, h⟩ | ⟨x, rfl, h⟩
          · have hu := upd_eq hv
            cases b <;> cases want <;> simp only [] at h <;> rw [hu] at h
            · exact .inl ⟨by simp [hg, hj, hd, hv, hlt], h⟩
            · exact .inr ⟨by simp [hg, hj, hd, hv, hlt], h⟩
            · exact .inr ⟨by simp [hg, hj, hd, hv, hlt], h⟩
            · exact .inl ⟨by simp [hg, hj, hd, hv, hlt], h⟩
          · exact .inr ⟨by simp [hg, hj, hd, hv, hlt], h⟩
        · cases h
      · cases h
    · cases h

theorem guard_wanted {ρ : Ren} {ops : Array Oper} {n : Nat} {o : Oper} {t : Tm} {tmps : Array Value} (ht : TR ρ t tmps) (hn : tmps.size = n) {b : Bool} (h : guardT ops.toList n o t = some b) : Region.wanted o (yielded ops tmps) = b := by
  unfold guardT at h
  unfold Region.wanted
  split at h
  · rename_i hg
    obtain rfl := Option.some.inj h
    simp [hg]
  · rename_i j want hg
    rw [hg]
    split at h
    · rename_i g hj
      split at h
      · rename_i d hd
        split at h
        · rename_i bb hv
          split at h
          · rename_i hlt
            obtain rfl := Option.some.inj h
            have e := (ht.1 d _ hv).bool_inv
            have hd' : d < tmps.size := by rw [hn]; exact hlt
            have hj' : ops[j]? = some g := by simpa using hj
            have e2 : tmps[d] = .bool bb := by simpa [Array.getD, hd'] using e
            have : yielded ops tmps j = some bb := by simp [yielded, hj', hd, hd', e2]
            simp only [this]
            cases bb <;> cases want <;> rfl
          · cases h
        · rename_i x hv
          split at h
          · rename_i hlt
            obtain rfl := Option.some.inj h
            obtain ⟨x', e, _⟩ := (ht.1 d _ hv).tuple_inv
            have hd' : d < tmps.size := by rw [hn]; exact hlt
            have hj' : ops[j]? = some g := by simpa using hj
            have e2 : tmps[d] = .tuple x' := by simpa [Array.getD, hd'] using e
            have : yielded ops tmps j = none := by simp [yielded, hj', hd, hd', e2]
            simp only [this]
            cases want <;> rfl
          · cases h
        · cases h
      · cases h
    · cases h

/-- What is so behind an operation. -/
structure Behind (ρ : Ren) (H : Heap) (w : World) (a : Act) (n : Nat) (k : Tm → Heap → Option Res) (r : Res) (a' : Act) (w' : World) : Prop where
  ex : ∃ r1 ρ' t' H', Less r1 r ∧ k t' H' = some r1 ∧ Rel ρ' H' w' ∧ Ext ρ H w ρ' H' w' ∧ TR ρ' t' a'.tmps
  size : a'.tmps.size = n
  defers : a'.defers = a.defers

theorem Ext.drew {ρ : Ren} {H : Heap} {w : World} (d : Nat) : Ext ρ H w ρ H { w with drawn := d } :=
  ⟨Le.refl ρ, Nat.le_refl _, fun b p h h' => (contra h h').elim, fun _ _ _ => rfl, fun b p h h' => (contra h h').elim, fun b p o' _ h ho => ⟨o', h, ho⟩, Nat.le_refl _, rfl, rfl, rfl⟩
theorem Rel.drewd {ρ : Ren} {H : Heap} {w : World} (h : Rel ρ H w) (d : Nat) : Rel ρ H { w with drawn := d } :=
  ⟨h.dom, fun b p o h1 h2 => (h.obj b p o h1 h2).of_block rfl, h.sep, h.glob⟩

/-- Lists alike, element by element. -/
inductive F2 {α γ : Type} (R : α → γ → Prop) : List α → List γ → Prop
  | nil : F2 R [] []
  | cons {a b l m} (h : R a b) (t : F2 R l m) : F2 R (a :: l) (b :: m)
theorem F2.len {α γ : Type} {R : α → γ → Prop} {l : List α} {m : List γ} (h : F2 R l m) : l.length = m.length := by
  induction h with
  | nil => rfl
  | cons _ _ ih => simp [ih]
theorem F2.filter {α γ : Type} {R : α → γ → Prop} {p : α → Bool} {q : γ → Bool} (hpq : ∀ a b, R a b → p a = q b) {l : List α} {m : List γ} (h : F2 R l m) : F2 R (l.filter p) (m.filter q) := by
  induction h with
  | nil => exact .nil
  | @cons a b l m ha _ ih =>
    simp only [List.filter_cons, hpq a b ha]
    split
    · exact .cons ha ih
    · exact ih
theorem F2.append {α γ : Type} {R : α → γ → Prop} {l l2 : List α} {m m2 : List γ} (h : F2 R l m) (h2 : F2 R l2 m2) : F2 R (l ++ l2) (m ++ m2) := by
  induction h with
  | nil => exact h2
  | cons ha _ ih => exact .cons ha ih
theorem F2.get {α γ : Type} {R : α → γ → Prop} {l : List α} {m : List γ} (h : F2 R l m) : ∀ {i : Nat} {y : γ}, m[i]? = some y → ∃ x, l[i]? = some x ∧ R x y := by
  induction h with
  | nil => intro i y hy; simp at hy
  | cons ha _ ih =>
    intro i y hy
    cases i with
    | zero => simp at hy; subst hy; exact ⟨_, rfl, ha⟩
    | succ i => exact ih (by simpa using hy)
/-- An entry, with its birth, and the world's. -/
def NR (ρ : Ren) (x : (Value × Value) × Nat) (e : MapEntry) : Prop := VR ρ x.1.1 e.key ∧ VR ρ x.1.2 e.val ∧ x.2 = e.born
def NO (ρ : Ren) : Option ((Value × Value) × Nat) → Option MapEntry → Prop
  | none, none => True
  | some x, some e => NR ρ x e
  | _, _ => False
theorem ER.pairs {ρ : Ren} : ∀ {es : List (Value × Value)} {l : List MapEntry}, ER ρ es l → F2 (NR ρ) (es.zip (l.map (·.born))) l
  | [], l, h => by rw [h.nil_inv]; exact .nil
  | (k, v) :: es, l, h => by
    obtain ⟨e, m, rfl, h1, h2, h3⟩ := h.cons_inv
    exact .cons ⟨h1, h2, rfl⟩ h3.pairs
theorem F2.somes {ρ : Ren} {l : List ((Value × Value) × Nat)} {m : List MapEntry} (h : F2 (NR ρ) l m) : F2 (NO ρ) (l.map some) (m.map some) := by
  induction h with
  | nil => exact .nil
  | cons ha _ ih => exact .cons ha ih
theorem setIter_run {w : World} {b since last : Nat} {m : Option Nat} {seen : Array Nat} (h : w.heap[b]? = some (.mapIter m since seen last)) (o : Obj) : (setObj b o).run P w = .ok () { w with heap := w.heap.setIfInBounds b o } := by
  simp [setObj, Sem.run, h]
theorem run_mapNext (w : World) (n : Nat) (hn : n ≠ 0) : ∃ i d, i < n ∧ (choose (.mapNext n)).run P w = .ok i { w with drawn := d } := by
  rw [run_choose_drew]
  by_cases hf : (Question.mapNext n).forced = true
  · rw [if_pos hf]; exact ⟨0, w.drawn, by omega, rfl⟩
  · rw [if_neg hf]
    refine ⟨_, w.drawn + 1, ?_, rfl⟩
    show (Question.mapNext n).cut _ < n
    simp only [Question.cut]
    exact Nat.mod_lt _ (by omega)
/-- AN ITERATION OVER A MAP GOES ON, in the world as on the abstract heap. -/
theorem nx_sound {t : Tm} {H : Heap} {it : Operand} {r : Res} {k : Value → Heap → Option Res} (h : nx t H it k = some r) {ρ : Ren} {w : World} {a : Act} (hR : Rel ρ H w) (ht : TR ρ t a.tmps) {o : Oper} (ho : nextOf o.op = some it)
    {K : Act → World → Prop} {Q : Exit → Act → World → Prop} (hK : ∀ r1, Less r1 r → ∀ v v' H' w', k v H' = some r1 → Rel ρ H' w' → Ext ρ H w ρ H' w' → VR ρ v v' → K (a.put o.dst v') w') : o.wp P a w K Q := by
  obtain ⟨dst, op, ty, pos, after, guard⟩ := o
  cases op <;> simp only [nextOf] at ho <;> try (cases ho; done)
  rename_i it' s
  cases s <;> simp only [] at ho <;> try (cases ho; done)
  obtain rfl := Option.some.inj ho
  unfold nx at h
  replace h := opd_inv ht h; obtain ⟨v, hv, h⟩ := h
  replace h := kPtr_inv h; obtain ⟨q, rfl, h⟩ := h
  replace h := onSome_inv h; obtain ⟨q, rfl, h⟩ := h
  obtain ⟨p, hp, hs, e⟩ := hv.ptr_inv
  have over : ∀ (w' : World), w' = { w with drawn := w'.drawn } → ∀ r1, Less r1 r → k (.tuple #[.bool false]) (H.set q.block .dead) = some r1 → (Instr.next (a.eval it') false ty).run P w = .ok (.tuple #[.bool false]) w' →
      (Oper.mk dst (.next it' false) ty pos after guard).wp P a w K Q := fun w' hw' r1 hl1 hk hrun => by
    refine val_wp (val_run hrun) (hK r1 hl1 _ _ _ w' hk ?_ ?_ (VR.tuple_mk (VL.cons (.bool false) VL.nil)))
    · rw [hw']; exact (hR.kill q.block).drewd _
    · rw [hw']; exact (Ext.kill q.block).trans (Ext.drew _) (hR.kill q.block).dom
  split at h
  · rename_i hq0 hH
    obtain ⟨hb, r', hw, hr⟩ := hR.obj q.block p _ hp hH
    have hoff : p.base + q.off = 0 := by rw [hb, Nat.eq_of_beq_eq_true hq0]
    rw [hoff] at e
    have hr0 : r' = none := by have := hr.mapN_inv; injection this
    subst hr0
    refine over w rfl r (Less.refl r) h ?_
    rw [e]
    simp only [Instr.next, Sem.run_bind, run_getIter hw, Result.andThen_ok, Sem.run_pure]
  · rename_i rb since seen last hq0 hH
    obtain ⟨hb, r', hw, hr⟩ := hR.obj q.block p _ hp hH
    have hoff : p.base + q.off = 0 := by rw [hb, Nat.eq_of_beq_eq_true hq0]
    rw [hoff] at e
    replace h := ldmB_inv h; obtain ⟨es, bs, clk, hHm, h⟩ := h
    obtain ⟨pm, hpm, hr0⟩ := hr.map_inv
    have hr0 : r' = some pm.blk := by injection hr0
    subst hr0
    obtain ⟨l, hl, he, hst, hbn⟩ := hR.map hpm hHm
    replace h := onSome_inv h; obtain ⟨cs, hcs, h⟩ := h
    obtain ⟨hne, hall⟩ := allEq_inv h
    unfold nextC at hcs
    split at hcs
    · cases hcs
    · rename_i hun
      have hun' : (!seen.toArray.isEmpty && !l.isEmpty && l.all (fun x => decide (x.born ≥ last))) = false := by
        have h1 : seen.toArray.isEmpty = seen.isEmpty := by cases seen <;> rfl
        have h2 : l.isEmpty = es.isEmpty := by
          have := he.1
          cases es with
          | nil => have : l.toList = [] := List.eq_nil_of_length_eq_zero this.symm; have : l = #[] := by simpa using this
                   rw [this]; rfl
          | cons x es =>
            have hl0 : l.size ≠ 0 := by simp at this; omega
            simp [Array.isEmpty, hl0]
        have h3 : l.all (fun x => decide (x.born ≥ last)) = bs.all fun b => Nat.ble last b := by
          rw [← hbn, ← Array.all_toList, List.all_map]
          congr 1
          funext x
          simp only [Function.comp]
          cases hb : Nat.ble last x.born with
          | true => simpa using Nat.le_of_ble_eq_true hb
          | false => simp only [decide_eq_false_iff_not]; intro hc; rw [Nat.ble_eq_true_of_le hc] at hb; cases hb
        rw [h1, h2, h3]; exact hun
      obtain rfl := Option.some.inj hcs
      have hpairs := he.pairs
      rw [hbn] at hpairs
      have hleft : F2 (NR ρ) ((es.zip bs).filter fun e => !seen.contains e.2) (l.filter fun e => !seen.toArray.contains e.born).toList := by
        rw [Array.toList_filter]
        exact hpairs.filter fun x y hxy => by rw [hxy.2.2]; simp
      have hold : F2 (NR ρ) (((es.zip bs).filter fun e => !seen.contains e.2).filter (fun e => Nat.blt e.2 since)) ((l.filter fun e => !seen.toArray.contains e.born).filter (fun e => decide (e.born < since))).toList := by
       rw [Array.toList_filter]
       exact hleft.filter (p := fun e => Nat.blt e.2 since) (q := fun e => decide (e.born < since)) fun x y hxy => by
        rw [hxy.2.2]
        cases hb : Nat.blt y.born since with
        | true => have : y.born + 1 ≤ since := Nat.le_of_ble_eq_true hb
                  simp; omega
        | false => simp only [Bool.false_eq, decide_eq_false_iff_not]; intro hc; have : Nat.blt y.born since = true := Nat.ble_eq_true_of_le hc
                   rw [this] at hb; cases hb
      have hnew : F2 (NR ρ) (((es.zip bs).filter fun e => !seen.contains e.2).filter (fun e => Nat.ble since e.2)) ((l.filter fun e => !seen.toArray.contains e.born).filter (fun e => decide (e.born ≥ since))).toList := by
       rw [Array.toList_filter]
       exact hleft.filter (p := fun e => Nat.ble since e.2) (q := fun e => decide (e.born ≥ since)) fun x y hxy => by
        rw [hxy.2.2]
        cases hb : Nat.ble since y.born with
        | true => simpa using Nat.le_of_ble_eq_true hb
        | false => simp only [Bool.false_eq, decide_eq_false_iff_not]; intro hc; rw [Nat.ble_eq_true_of_le hc] at hb; cases hb
      generalize hO : ((es.zip bs).filter fun e => !seen.contains e.2).filter (fun e => Nat.blt e.2 since) = O at hold hne hall
      generalize hN : ((es.zip bs).filter fun e => !seen.contains e.2).filter (fun e => Nat.ble since e.2) = N at hnew hne hall
      generalize hO' : (l.filter fun e => !seen.toArray.contains e.born).filter (fun e => decide (e.born < since)) = O' at hold
      generalize hN' : (l.filter fun e => !seen.toArray.contains e.born).filter (fun e => decide (e.born ≥ since)) = N' at hnew
      have hcand : F2 (NO ρ) (overC O ++ (O ++ N).map some) (((if O'.isEmpty = true then #[none] else #[]) ++ (O' ++ N').map some).toList) := by
        rw [Array.toList_append, Array.toList_map, Array.toList_append]
        refine F2.append ?_ (hold.append hnew).somes
        have hlen := hold.len
        cases O with
        | nil =>
          have : O' = #[] := by simpa using hlen.symm
          rw [this]; exact .cons trivial .nil
        | cons x O =>
          have : O'.isEmpty = false := by
            have h0 : O'.size ≠ 0 := by simp at hlen; omega
            simp [Array.isEmpty, h0]
          rw [this]; exact .nil
      generalize hC : ((if O'.isEmpty = true then #[none] else #[]) ++ (O' ++ N').map some) = C at hcand
      have hsz : C.size ≠ 0 := by
        have := hcand.len
        intro h0
        apply hne
        rw [List.map_eq_nil_iff]
        exact List.eq_nil_of_length_eq_zero (by rw [this]; simpa using h0)
      obtain ⟨i, d, hi, hch⟩ := run_mapNext (P := P) w C.size hsz
      have hCi : C[i]? = some C[i] := by simp [hi]
      obtain ⟨x, hx, hxy⟩ := hcand.get (i := i) (y := C[i]) (by simp [hi])
      obtain ⟨r1, hkx, hl1⟩ := hall _ (List.mem_map.2 ⟨x, List.mem_of_getElem? hx, rfl⟩)
      have hpre : ∀ (z : Value) (w2 : World), ((match C[i]? with
            | some (some e) => do setObj p.blk (.mapIter (some pm.blk) since (seen.toArray.push e.born) clk); pure (.tuple #[.bool true, e.key, e.val])
            | some none => pure (.tuple #[.bool false])
            | none => stuck "Next: no such candidate" : Sem Value)).run P { w with drawn := d } = .ok z w2 → (Instr.next (a.eval it') false ty).run P w = .ok z w2 := fun z w2 hz => by
        rw [e]
        simp only [Instr.next, Sem.run_bind, run_getIter hw, Result.andThen_ok, run_getMap hl, hun', Bool.false_eq_true, if_false, hO', hN', hC, hch]
        exact hz
      cases hCC : C[i] with
      | none =>
        rw [hCC] at hxy
        cases x with
        | some x => exact hxy.elim
        | none =>
          refine over { w with drawn := d } rfl r1 hl1 hkx (hpre _ _ ?_)
          rw [hCi, hCC]; simp only [Sem.run_pure]
      | some y =>
        rw [hCC] at hxy
        cases x with
        | none => exact hxy.elim
        | some x =>
          have hxy : NR ρ x y := hxy
          have hlt : p.blk < w.heap.size := (Array.getElem?_eq_some_iff.1 hw).1
          have hw2 : ({ w with drawn := d } : World).heap[p.blk]? = some (.mapIter (some pm.blk) since seen.toArray last) := hw
          have hor : OR ρ { w with drawn := d, heap := w.heap.setIfInBounds p.blk (.mapIter (some pm.blk) since (seen.toArray.push y.born) clk) } p (.iter (some rb) since (seen ++ [x.2]) clk) :=
            ⟨hb, some pm.blk, by rw [hxy.2.2]; simp [hlt], .map rb pm hpm⟩
          have hoth : ∀ j, j ≠ p.blk → ({ w with drawn := d, heap := w.heap.setIfInBounds p.blk (.mapIter (some pm.blk) since (seen.toArray.push y.born) clk) } : World).heap[j]? = w.heap[j]? := fun j hj => by simp [Ne.symm hj]
          refine val_wp (val_run (hpre _ _ ?_)) (hK r1 hl1 _ _ _ { w with drawn := d, heap := w.heap.setIfInBounds p.blk (.mapIter (some pm.blk) since (seen.toArray.push y.born) clk) } hkx (hR.turn hp hH rfl rfl hoth hor) (Ext.turn hp hH rfl hoth (by simp) rfl rfl rfl) (VR.tuple_mk (VL.cons (.bool true) (VL.cons hxy.1 (VL.cons hxy.2.1 VL.nil)))))
          rw [hCi, hCC]
          simp only [Sem.run_bind, setIter_run hw2, Result.andThen_ok, Sem.run_pure]
  · cases h

theorem op1_sound {Γ : Fs} (hΓ : ∀ f F, Γ f = some F → Sound P f F) {n : Nat} {o : Oper} {t : Tm} {H : Heap} {r : Res} {k : Tm → Heap → Option Res} (h : op1 P Γ n o t H k = some r) {ρ : Ren} {w : World} {a : Act} (hR : Rel ρ H w) (ht : TR ρ t a.tmps) (hn : a.tmps.size = n)
    {K : Act → World → Prop} {Q : Exit → Act → World → Prop} (hK : ∀ a' w', Behind ρ H w a n k r a' w' → K a' w') : o.wp P a w K Q := by
  unfold op1 at h
  split at h
  · rename_i it hit
    refine nx_sound h hR ht hit fun r1 hl1 v v' H' w' h1 h2 h3 h4 => ?_
    obtain ⟨hd, h5⟩ := put_inv h1
    exact hK _ _ ⟨⟨r1, ρ, _, H', hl1, h5, h2, h3, ht.put hn hd h4⟩, by rw [put_size, hn], put_defers _ _ _⟩
  split at h
  · obtain ⟨v, v', h1, h2, h3⟩ := fl_sound hR ht h
    obtain ⟨hd, h4⟩ := put_inv h1
    exact val_wp h3 (hK _ _ ⟨⟨r, ρ, _, H, Less.refl _, h4, hR, Ext.refl _ _ _, ht.put hn hd h2⟩, by rw [put_size, hn], put_defers _ _ _⟩)
  · obtain ⟨ob, mk, h1, co, v', p, h2, h3, h4, h5⟩ := al_sound (w := w) ht h
    obtain ⟨hd, h6⟩ := put_inv h1
    have hk : ∀ j, j < w.heap.size → (w.alloc co).heap[j]? = w.heap[j]? := fun j hj => Below.heap_alloc _ _ _ hj
    have hle := Ren.ins_le (p := p) hR.fresh
    exact val_wp h2 (hK _ _ ⟨⟨r, ρ.ins H.length p, _, _, Less.refl _, h6, hR.new_gen h3 hk h4, Ext.new_gen hR h3 hk (by simp) rfl rfl rfl, (ht.mono hle).put hn hd (h5 _ _ hle (Ren.ins_self _ _ _))⟩, by rw [put_size, hn], put_defers _ _ _⟩)
  · refine ef_sound hΓ hR ht h fun v v' ρ' H' w' h1 h2 h3 h4 => ?_
    obtain ⟨hd, h5⟩ := put_inv h1
    exact hK _ _ ⟨⟨r, ρ', _, H', Less.refl _, h5, h2, h3, (ht.mono h3.mono).put hn hd h4⟩, by rw [put_size, hn], put_defers _ _ _⟩

theorem opsE_sound {Γ : Fs} (hΓ : ∀ f F, Γ f = some F → Sound P f F) {n : Nat} {ops : Array Oper} {Q : Exit → Act → World → Prop} : ∀ (r : Res) (l : List Oper) (t : Tm) (H : Heap) (k : Tm → Heap → Option Res), opsE P Γ n ops.toList l t H k = some r →
    ∀ (ρ : Ren) (w : World) (a : Act), Rel ρ H w → TR ρ t a.tmps → a.tmps.size = n → (∀ a' w', Behind ρ H w a n k r a' w' → Q .normal a' w') → wpList P ops Q l a w
  | r, [], t, H, k, h, ρ, w, a, hR, ht, hn, hQ => hQ a w ⟨⟨r, ρ, t, H, Less.refl _, h, hR, Ext.refl _ _ _, ht⟩, hn, rfl⟩
  | r, o :: l, t, H, k, h, ρ, w, a, hR, ht, hn, hQ => by
    simp only [opsE] at h
    unfold wpList
    rcases guard_inv h with ⟨hg, h⟩ | ⟨hg, h⟩
    · rw [if_pos (guard_wanted ht hn hg)]
      refine .inl (op1_sound hΓ h hR ht hn fun a' w' hB => ?_)
      obtain ⟨r1, ρ', t', H', hl1, h1, h2, h3, h4⟩ := hB.ex
      refine opsE_sound hΓ r1 l t' H' k h1 ρ' w' a' h2 h4 hB.size fun a2 w2 hB2 => hQ a2 w2 ?_
      obtain ⟨r2, ρ2, t2, H2, hl2, g1, g2, g3, g4⟩ := hB2.ex
      exact ⟨⟨r2, ρ2, t2, H2, hl2.trans hl1, g1, g2, h3.trans g3 h2.dom, g4⟩, hB2.size, hB2.defers.trans hB.defers⟩
    · rw [if_neg (by rw [guard_wanted ht hn hg]; simp)]
      obtain ⟨hd, h⟩ := put_inv h
      refine opsE_sound hΓ r l _ H k h ρ w _ hR (ht.put hn hd (VR.tuple_mk VL.nil)) (by rw [put_size, hn]) fun a2 w2 hB2 => hQ a2 w2 ⟨hB2.ex, hB2.size, hB2.defers.trans (put_defers _ _ _)⟩
end
end Go.Proofs.YtgnkjpbecgpjoaaGreatDoor.Fw
set_option linter.unusedVariables false
set_option linter.unusedSimpArgs false
namespace Go.Proofs.YtgnkjpbecgpjoaaGreatDoor.Fw
open Go Go.RowKit

/-- One operation, as it was carried out on the abstract heap. -/
structure Stp where
  i : Nat
  o : Oper
  w : Bool
  v : Value
  t' : Tm
  H' : Heap

section
variable {P : Program} {β : Type} {r : β}

structure StpOk (P : Program) (Γ : Fs) (n : Nat) (ops : List Oper) (s : Stp) (t : Tm) (H : Heap) : Prop where
  op : ops[s.i]? = some s.o
  dst : ∀ d, s.o.dst = some d → d < n
  put : s.t' = putT t s.o.dst s.v
  guard : guardT ops n s.o t = some s.w
  no : s.w = false → s.v = undef ∧ s.H' = H
  fl : s.w = true → cls P s.o.op = .fl → fl P t H s.o.type s.o.op some = some s.v ∧ s.H' = H
  al : s.w = true → cls P s.o.op = .al → ∃ ob mk, al P t s.o.op (fun ob mk => some (ob, mk)) = some (ob, mk) ∧ s.v = mk H.length ∧ s.H' = H ++ [ob]
  ef : s.w = true → cls P s.o.op = .ef → ef P Γ t H s.o.type s.o.op (fun v H => some (v, H)) = some (s.v, s.H')

/-- The block that a step hangs on, or makes. -/
def blkOf (P : Program) (s : Stp) (t : Tm) (H : Heap) : Option Nat :=
  match s.w with
  | false => none
  | true => match cls P s.o.op with
    | .fl => rblk t s.o.op
    | .al => some H.length
    | .ef => none
def blks (P : Program) (s : Stp) (t : Tm) (H : Heap) (rs : List (Nat × Nat)) : List (Nat × Nat) := match blkOf P s t H with | some b => (s.i, b) :: rs | none => rs

def Chain (P : Program) (Γ : Fs) (n : Nat) (ops : List Oper) (bs : List Nat) : List Stp → List (Nat × Nat) → Tm → Heap → Prop
  | [], _, _, _ => True
  | s :: l, rs, t, H => StpOk P Γ n ops s t H ∧ (s.w = true → cls P s.o.op = .ef → ∀ x ∈ rs, (bs.getD s.i 0).testBit x.1 = false → s.H'[x.2]? = H[x.2]?) ∧ Chain P Γ n ops bs l (blks P s t H rs) s.t' s.H'

def endT : List Stp → Tm → Tm
  | [], t => t
  | s :: l, _ => endT l s.t'
def endH : List Stp → Heap → Heap
  | [], H => H
  | s :: l, _ => endH l s.H'

theorem unt_inv {H H' : Heap} {b : Nat} {k : Option β} (h : unt H H' b k = some r) : H'[b]? = H[b]? ∧ k = some r := by
  unfold unt at h
  split at h
  · rename_i e; exact ⟨e, h⟩
  · cases h
theorem untouched_inv {H H' : Heap} {bef : Nat} : ∀ {rs : List (Nat × Nat)} {k : Option β}, untouched H H' bef rs k = some r → (∀ x ∈ rs, bef.testBit x.1 = false → H'[x.2]? = H[x.2]?) ∧ k = some r
  | [], k, h => ⟨(fun _ hx => by cases hx), h⟩
  | (i, b) :: rs, k, h => by
    simp only [untouched] at h
    split at h
    · rename_i ht
      obtain ⟨h1, h2⟩ := untouched_inv h
      refine ⟨fun x hx hb => ?_, h2⟩
      rcases List.mem_cons.1 hx with rfl | hx
      · simp only [ht] at hb; cases hb
      · exact h1 x hx hb
    · obtain ⟨h0, h⟩ := unt_inv h
      obtain ⟨h1, h2⟩ := untouched_inv h
      refine ⟨fun x hx hb => ?_, h2⟩
      rcases List.mem_cons.1 hx with rfl | hx
      · exact h0
      · exact h1 x hx hb

theorem opsD_run {Γ : Fs} {n : Nat} {ops : List Oper} {bs : List Nat} : ∀ (g : List Nat) (rs : List (Nat × Nat)) (t : Tm) (H : Heap) (k : Tm → Heap → Option β), opsD P Γ n ops bs g rs t H k = some r →
    ∃ l : List Stp, l.map Stp.i = g ∧ Chain P Γ n ops bs l rs t H ∧ k (endT l t) (endH l H) = some r
  | [], rs, t, H, k, h => ⟨[], rfl, trivial, h⟩
  | i :: g, rs, t, H, k, h => by
    simp only [opsD] at h
    replace h := onSome_inv h; obtain ⟨o, ho, h⟩ := h
    have fin : ∀ (s : Stp), s.i = i → StpOk P Γ n ops s t H → (s.w = true → cls P s.o.op = .ef → ∀ x ∈ rs, (bs.getD s.i 0).testBit x.1 = false → s.H'[x.2]? = H[x.2]?) →
        opsD P Γ n ops bs g (blks P s t H rs) s.t' s.H' k = some r → ∃ l : List Stp, l.map Stp.i = i :: g ∧ Chain P Γ n ops bs l rs t H ∧ k (endT l t) (endH l H) = some r := fun s hi h1 h2 h3 => by
      obtain ⟨l, q1, q2, q3⟩ := opsD_run g _ _ _ k h3
      exact ⟨s :: l, by simp [hi, q1], ⟨h1, h2, q2⟩, q3⟩
    rcases guard_inv h with ⟨hg, h⟩ | ⟨hg, h⟩
    · split at h
      · rename_i hc
        obtain ⟨v, hv, h⟩ := fl_val h
        obtain ⟨hd, h⟩ := put_inv h
        refine fin ⟨i, o, true, v, putT t o.dst v, H⟩ rfl ⟨ho, hd, rfl, hg, (fun e => by cases e), fun _ _ => ⟨hv, rfl⟩, (fun _ e => by rw [hc] at e; cases e), (fun _ e => by rw [hc] at e; cases e)⟩ (fun _ e => by rw [hc] at e; cases e) ?_
        simp only [blks, blkOf, hc]
        cases hb : rblk t o.op with
        | none => simp only [hb] at h; exact h
        | some b => simp only [hb] at h; exact h
      · rename_i hc
        obtain ⟨ob, mk, hv, h⟩ := al_val h
        obtain ⟨hd, h⟩ := put_inv h
        refine fin ⟨i, o, true, mk H.length, putT t o.dst (mk H.length), H ++ [ob]⟩ rfl ⟨ho, hd, rfl, hg, (fun e => by cases e), (fun _ e => by rw [hc] at e; cases e), fun _ _ => ⟨ob, mk, hv, rfl, rfl⟩, (fun _ e => by rw [hc] at e; cases e)⟩ (fun _ e => by rw [hc] at e; cases e) ?_
        simp only [blks, blkOf, hc]
        exact h
      · rename_i hc
        obtain ⟨v, H', hv, h⟩ := ef_val h
        obtain ⟨hu, h⟩ := untouched_inv h
        obtain ⟨hd, h⟩ := put_inv h
        refine fin ⟨i, o, true, v, putT t o.dst v, H'⟩ rfl ⟨ho, hd, rfl, hg, (fun e => by cases e), (fun _ e => by rw [hc] at e; cases e), (fun _ e => by rw [hc] at e; cases e), fun _ _ => hv⟩ (fun _ _ => hu) ?_
        simp only [blks, blkOf, hc]
        exact h
    · obtain ⟨hd, h⟩ := put_inv h
      refine fin ⟨i, o, false, undef, putT t o.dst undef, H⟩ rfl ⟨ho, hd, rfl, hg, fun _ => ⟨rfl, rfl⟩, (fun e => by cases e), (fun e => by cases e), (fun e => by cases e)⟩ (fun e => by cases e) ?_
      exact h

/-- The states along a run. -/
def Ts (l : List Stp) (t : Tm) (p : Nat) : Tm := endT (l.take p) t
def Hs (l : List Stp) (H : Heap) (p : Nat) : Heap := endH (l.take p) H

theorem Ts_zero (l : List Stp) (t : Tm) : Ts l t 0 = t := rfl
theorem Hs_zero (l : List Stp) (H : Heap) : Hs l H 0 = H := rfl
theorem Ts_succ : ∀ (l : List Stp) (t : Tm) (p : Nat) (s : Stp), l[p]? = some s → Ts l t (p + 1) = s.t'
  | [], _, _, _, h => by simp at h
  | s :: l, t, 0, s', h => by simp at h; subst h; simp [Ts, endT]
  | s :: l, t, p + 1, s', h => by
    have := Ts_succ l s.t' p s' (by simpa using h)
    simpa [Ts, endT] using this
theorem Hs_succ : ∀ (l : List Stp) (H : Heap) (p : Nat) (s : Stp), l[p]? = some s → Hs l H (p + 1) = s.H'
  | [], _, _, _, h => by simp at h
  | s :: l, H, 0, s', h => by simp at h; subst h; simp [Hs, endH]
  | s :: l, H, p + 1, s', h => by
    have := Hs_succ l s.H' p s' (by simpa using h)
    simpa [Hs, endH] using this
theorem Ts_cons (s : Stp) (l : List Stp) (t : Tm) (p : Nat) : Ts (s :: l) t (p + 1) = Ts l s.t' p := by simp [Ts, endT]
theorem Hs_cons (s : Stp) (l : List Stp) (H : Heap) (p : Nat) : Hs (s :: l) H (p + 1) = Hs l s.H' p := by simp [Hs, endH]
theorem Ts_end (l : List Stp) (t : Tm) : Ts l t l.length = endT l t := by simp [Ts]
theorem Hs_end (l : List Stp) (H : Heap) : Hs l H l.length = endH l H := by simp [Hs]

/-- What a chain says of each place. -/
theorem Chain.at_ {Γ : Fs} {n : Nat} {ops : List Oper} {bs : List Nat} : ∀ (l : List Stp) (rs : List (Nat × Nat)) (t : Tm) (H : Heap), Chain P Γ n ops bs l rs t H → ∀ (p : Nat) (s : Stp), l[p]? = some s →
    StpOk P Γ n ops s (Ts l t p) (Hs l H p) ∧
    (s.w = true → cls P s.o.op = .ef → (∀ x ∈ rs, (bs.getD s.i 0).testBit x.1 = false → s.H'[x.2]? = (Hs l H p)[x.2]?) ∧
      ∀ q s2 b, q < p → l[q]? = some s2 → blkOf P s2 (Ts l t q) (Hs l H q) = some b → (bs.getD s.i 0).testBit s2.i = false → s.H'[b]? = (Hs l H p)[b]?)
  | [], _, _, _, _, p, s, h => by simp at h
  | s0 :: l, rs, t, H, hc, 0, s, h => by
    simp at h; subst h
    exact ⟨hc.1, fun h1 h2 => ⟨hc.2.1 h1 h2, fun q _ _ hq => absurd hq (Nat.not_lt_zero _)⟩⟩
  | s0 :: l, rs, t, H, hc, p + 1, s, h => by
    obtain ⟨h1, h2⟩ := Chain.at_ l _ _ _ hc.2.2 p s (by simpa using h)
    rw [Ts_cons, Hs_cons]
    refine ⟨h1, fun h3 h4 => ?_⟩
    obtain ⟨h5, h6⟩ := h2 h3 h4
    have hsub : ∀ x ∈ rs, x ∈ blks P s0 t H rs := fun x hx => by
      unfold blks
      split
      · exact List.mem_cons_of_mem _ hx
      · exact hx
    refine ⟨fun x hx => h5 x (hsub x hx), fun q s2 b hq hs2 hb ht => ?_⟩
    cases q with
    | zero =>
      simp at hs2
      subst hs2
      refine h5 (s0.i, b) ?_ ht
      unfold blks
      rw [show blkOf P s0 t H = some b from hb]
      exact List.mem_cons_self
    | succ q =>
      refine h6 q s2 b (by omega) (by simpa using hs2) ?_ ht
      rw [Ts_cons, Hs_cons] at hb
      exact hb
end
end Go.Proofs.YtgnkjpbecgpjoaaGreatDoor.Fw
set_option linter.unusedVariables false
set_option linter.unusedSimpArgs false
namespace Go.Proofs.YtgnkjpbecgpjoaaGreatDoor.Fw
open Go Go.RowKit

/-! ### What stands ahead -/
theorem bef1_bit {acc : List Nat} {o : Oper} {j : Nat} (h : (bef1 acc o).testBit j = true) : ∃ e ∈ o.after, Region.binds .any e = true ∧ (e.on = j ∨ (acc.getD e.on 0).testBit j = true) := by
  unfold bef1 at h
  have key : ∀ (l : List Edge), (l.foldr (fun e s => if Region.binds .any e = true then s ||| (2 ^ e.on ||| acc.getD e.on 0) else s) 0).testBit j = true → ∃ e ∈ l, Region.binds .any e = true ∧ (e.on = j ∨ (acc.getD e.on 0).testBit j = true) := by
    intro l
    induction l with
    | nil => intro h; simp at h
    | cons e l ih =>
      intro h
      simp only [List.foldr_cons] at h
      split at h
      · rename_i hb
        rw [Nat.testBit_or, Nat.testBit_or, Bool.or_eq_true, Bool.or_eq_true] at h
        rcases h with h | h | h
        · obtain ⟨e2, h1, h2⟩ := ih h
          exact ⟨e2, List.mem_cons_of_mem _ h1, h2⟩
        · rw [Nat.testBit_two_pow] at h
          exact ⟨e, by simp, hb, .inl (by simpa using h)⟩
        · exact ⟨e, by simp, hb, .inr h⟩
      · obtain ⟨e2, h1, h2⟩ := ih h
        exact ⟨e2, List.mem_cons_of_mem _ h1, h2⟩
  obtain ⟨e, h1, h2⟩ := key _ h
  exact ⟨e, by simpa using h1, h2⟩

theorem befsGo_len : ∀ (l : List Oper) (acc : List Nat), (befsGo l acc).length = acc.length + l.length
  | [], acc => rfl
  | o :: l, acc => by simp only [befsGo]; rw [befsGo_len l]; simp; omega
theorem befsGo_pre : ∀ (l : List Oper) (acc : List Nat) (i : Nat), i < acc.length → (befsGo l acc).getD i 0 = acc.getD i 0
  | [], acc, i, _ => rfl
  | o :: l, acc, i, h => by
    simp only [befsGo]
    rw [befsGo_pre l _ i (by simp; omega)]
    simp [List.getD, List.getElem?_append_left h]
theorem befsGo_at : ∀ (l : List Oper) (acc : List Nat) (i : Nat) (o : Oper), l[i]? = some o → ∃ acc', (befsGo l acc).getD (acc.length + i) 0 = bef1 acc' o ∧ acc'.length = acc.length + i ∧ ∀ j, j < acc.length + i → acc'.getD j 0 = (befsGo l acc).getD j 0
  | [], acc, i, o, h => by simp at h
  | o0 :: l, acc, 0, o, h => by
    simp at h; subst h
    simp only [befsGo]
    refine ⟨acc, ?_, rfl, fun j hj => ?_⟩
    · rw [befsGo_pre l _ _ (by simp)]
      simp [List.getD]
    · rw [befsGo_pre l _ j (by simp; omega)]
      simp [List.getD, List.getElem?_append_left (show j < acc.length by omega)]
  | o0 :: l, acc, i + 1, o, h => by
    obtain ⟨acc', h1, h2, h3⟩ := befsGo_at l (acc ++ [bef1 acc o0]) i o (by simpa using h)
    simp only [befsGo]
    refine ⟨acc', ?_, by rw [h2]; simp; omega, fun j hj => h3 j (by simp; omega)⟩
    rw [← h1]
    congr 1
    simp; omega

/-- What stands ahead stands ahead by an edge, or ahead of one that does. -/
theorem befs_bit {ops : List Oper} {i j : Nat} {o : Oper} (ho : ops[i]? = some o) (hback : ∀ e ∈ o.after, Region.binds .any e = true → e.on < i) (h : ((befs ops).getD i 0).testBit j = true) :
    ∃ e ∈ o.after, Region.binds .any e = true ∧ e.on < i ∧ (e.on = j ∨ ((befs ops).getD e.on 0).testBit j = true) := by
  obtain ⟨acc', h1, h2, h3⟩ := befsGo_at ops [] i o ho
  simp only [List.length_nil, Nat.zero_add] at h1 h2 h3
  unfold befs at h ⊢
  rw [h1] at h
  obtain ⟨e, he, hb, hj⟩ := bef1_bit h
  refine ⟨e, he, hb, hback e he hb, ?_⟩
  rcases hj with hj | hj
  · exact .inl hj
  · exact .inr (by rw [← h3 _ (hback e he hb)]; exact hj)

/-- Done so far, with all that stands ahead. -/
def Closed (ops : Array Oper) (listed : Array Bool) : Prop := ∀ i o, ops[i]? = some o → listed.getD i false = true → ∀ e ∈ o.after, Region.binds .any e = true → listed.getD e.on false = true

theorem Closed.bit {ops : Array Oper} {listed : Array Bool} (hc : Closed ops listed) (hback : ∀ i o, ops[i]? = some o → ∀ e ∈ o.after, Region.binds .any e = true → e.on < i) (hs : listed.size = ops.size) :
    ∀ (i j : Nat), listed.getD i false = true → ((befs ops.toList).getD i 0).testBit j = true → listed.getD j false = true := by
  intro i
  induction i using Nat.strongRecOn with
  | _ i ih =>
    intro j hi hb
    have hlt : i < ops.size := by
      rcases Nat.lt_or_ge i listed.size with h | h
      · omega
      · simp [Array.getD, Nat.not_lt.2 h] at hi
    have ho : ops[i]? = some ops[i] := by simp [hlt]
    obtain ⟨e, he, hbd, hlt2, hj⟩ := befs_bit (ops := ops.toList) (o := ops[i]) (by simp) (fun e he hb => hback i _ ho e he hb) hb
    have hl := hc i _ ho hi e he hbd
    rcases hj with rfl | hj
    · exact hl
    · exact ih e.on hlt2 j hl hj

/-- The same for one that may come up. -/
theorem Closed.bit_ready {ops : Array Oper} {listed : Array Bool} (hc : Closed ops listed) (hback : ∀ i o, ops[i]? = some o → ∀ e ∈ o.after, Region.binds .any e = true → e.on < i) (hs : listed.size = ops.size)
    {i j : Nat} {o : Oper} (ho : ops[i]? = some o) (hr : ∀ e ∈ o.after, Region.binds .any e = true → listed.getD e.on false = true) (hb : ((befs ops.toList).getD i 0).testBit j = true) : listed.getD j false = true := by
  obtain ⟨e, he, hbd, hlt2, hj⟩ := befs_bit (ops := ops.toList) (o := o) (by simpa using ho) (fun e he hb => hback i _ ho e he hb) hb
  have hl := hr e he hbd
  rcases hj with rfl | hj
  · exact hl
  · exact hc.bit hback hs e.on j hl hj

/-! ### The order -/
theorem pairsOk_at {P : Program} {ops : List Oper} {bs : List Nat} : ∀ {g : List Nat}, pairsOk P ops bs g = true → ∀ (p q i j : Nat), p < q → g[p]? = some i → g[q]? = some j → pairOk P ops bs i j = true
  | [], _, p, q, i, j, _, h, _ => by simp at h
  | x :: g, h, 0, q + 1, i, j, _, hi, hj => by
    simp only [pairsOk, Bool.and_eq_true] at h
    simp at hi hj
    subst hi
    exact List.all_eq_true.1 h.1 j (List.mem_of_getElem? hj)
  | x :: g, h, p + 1, q + 1, i, j, hpq, hi, hj => by
    simp only [pairsOk, Bool.and_eq_true] at h
    exact pairsOk_at h.2 p q i j (by omega) (by simpa using hi) (by simpa using hj)
theorem nodupB_at : ∀ {g : List Nat}, nodupB g = true → ∀ (p q i : Nat), p < q → g[p]? = some i → g[q]? = some i → False
  | [], _, p, q, i, _, h, _ => by simp at h
  | x :: g, h, 0, q + 1, i, _, hi, hj => by
    simp only [nodupB, Bool.and_eq_true, Bool.not_eq_true'] at h
    simp at hi hj
    subst hi
    have := List.mem_of_getElem? hj
    have h1 := h.1
    rw [List.contains_eq_mem] at h1
    simp [this] at h1
  | x :: g, h, p + 1, q + 1, i, hpq, hi, hj => by
    simp only [nodupB, Bool.and_eq_true] at h
    exact nodupB_at h.2 p q i (by omega) (by simpa using hi) (by simpa using hj)

/-! ### What a reading operation reads is there -/
theorem rblk_lt {P : Program} {t : Tm} {H : Heap} {ty : TypeId} {op : Op} {v : Value} (h : fl P t H ty op some = some v) {b : Nat} (hb : rblk t op = some b) : b < H.length := by
  have there : ∀ {c : AObj}, H[b]? = some c → b < H.length := fun {c} hc => by
    rcases Nat.lt_or_ge b H.length with h | h
    · exact h
    · simp [List.getElem?_eq_none h] at hc
  cases op <;> simp only [rblk] at hb <;> try (cases hb; done)
  case load lt x =>
    simp only [fl] at h
    rw [opd_b] at h hb
    cases hx : opd t x some with
    | none => rw [hx] at hb; cases hb
    | some u =>
      simp only [hx, Option.bind_some] at h hb
      cases u <;> simp only [kPtr] at hb <;> try (cases hb; done)
      rename_i a
      cases a with
      | none => cases hb
      | some a =>
        simp only [onSome, Option.some.injEq] at hb
        subst hb
        simp only [kPtr, onSome, ld] at h
        split at h <;> (obtain ⟨cs, esz, own, hH, _⟩ := ldc_inv h; exact there hH)
  case convert s d x =>
    simp only [fl] at h
    rw [opd_b] at h hb
    cases hx : opd t x some with
    | none => rw [hx] at hb; cases hb
    | some u =>
      simp only [hx, Option.bind_some] at h hb
      cases u <;> simp only [convBlk] at hb <;> try (cases hb; done)
      · rename_i a
        cases a with
        | none => cases hb
        | some a =>
          simp only [Option.map_some, Option.some.injEq] at hb
          subst hb
          split at h
          · simp only [cvtV] at h; split at h <;> first | (cases h; done) | (simp [siOf, onSome] at h; done)
          · simp only [kStr] at h; cases h
          · split at h
            · simp only [kPtr, onSome] at h
              obtain ⟨cs, esz, own, hH, _⟩ := ldc_inv h; exact there hH
            · cases h
          · split at h
            · simp only [kPtr, onSome, fromU] at h
              split at h
              · rename_i hH; exact there hH
              · cases h
            · cases h
          · split at h
            · simp only [kSl] at h; cases h
            · cases h
          · cases h
      · rename_i a len cap
        cases a with
        | none => cases hb
        | some a =>
          simp only [Option.map_some, Option.some.injEq] at hb
          subst hb
          split at h
          · simp only [cvtV] at h; split at h <;> first | (cases h; done) | (simp [siOf, onSome] at h; done)
          · simp only [kStr] at h; cases h
          · split at h
            · simp only [kPtr] at h; cases h
            · cases h
          · split at h
            · simp only [kPtr] at h; cases h
            · cases h
          · split at h
            · simp only [kSl] at h
              obtain ⟨cs, esz, own, hH, _⟩ := ldc_inv h; exact there hH
            · cases h
          · cases h
  case slice st x lo hi mx =>
    simp only [fl] at h
    rw [opd_b] at h hb
    cases hx : opd t x some with
    | none => rw [hx] at hb; cases hb
    | some u =>
      simp only [hx, Option.bind_some] at h hb
      have opt : ∀ {x : Option Operand} {d : Int} {k : Int → Option Value} {r : Value}, optInt t x d k = some r → ∃ n, k n = some r := fun {x d k r} hh => by
        cases x with
        | none => exact ⟨d, hh⟩
        | some o =>
          simp only [optInt] at hh
          rw [opd_b] at hh
          cases ho : opd t o some with
          | none => rw [ho] at hh; cases hh
          | some ov =>
            simp only [ho, Option.bind_some] at hh
            obtain ⟨_, n, _, hh⟩ := kAnyInt_inv hh
            exact ⟨n, hh⟩
      cases u <;> simp only [convBlk] at hb <;> try (cases hb; done)
      · rename_i a
        cases a with
        | none => cases hb
        | some a =>
          simp only [Option.map_some, Option.some.injEq] at hb
          subst hb
          split at h
          · split at h
            · cases h
            · simp only [kStr] at h; cases h
          · replace h := onSome_inv h; obtain ⟨_, _, h⟩ := h
            simp only [kSl] at h; cases h
          · replace h := onSome_inv h; obtain ⟨_, _, h⟩ := h
            simp only [kPtr, onSome] at h
            replace h := opt h; obtain ⟨_, h⟩ := h
            replace h := opt h; obtain ⟨_, h⟩ := h
            cases mx with
            | some m => cases h
            | none =>
              simp only [slArr] at h
              obtain ⟨cs, esz, own, hH, _⟩ := esOk_inv h; exact there hH
          · cases h
      · rename_i a len cap
        cases a with
        | none => cases hb
        | some a =>
          simp only [Option.map_some, Option.some.injEq] at hb
          subst hb
          split at h
          · split at h
            · cases h
            · simp only [kStr] at h; cases h
          · replace h := onSome_inv h; obtain ⟨_, _, h⟩ := h
            simp only [kSl] at h
            replace h := opt h; obtain ⟨_, h⟩ := h
            replace h := opt h; obtain ⟨_, h⟩ := h
            cases mx with
            | none =>
              simp only [slSl] at h
              obtain ⟨cs, esz, own, hH, _⟩ := esOk_inv h; exact there hH
            | some mo =>
              simp only [] at h
              rw [opd_b] at h
              cases ho : opd t mo some with
              | none => rw [ho] at h; cases h
              | some ov =>
                simp only [ho, Option.bind_some] at h
                obtain ⟨_, n, _, h⟩ := kAnyInt_inv h
                cases hi with
                | none => cases h
                | some hi =>
                  simp only [slSl3] at h
                  obtain ⟨cs, esz, own, hH, _⟩ := esOk_inv h; exact there hH
          · replace h := onSome_inv h; obtain ⟨_, _, h⟩ := h
            simp only [kPtr] at h; cases h
          · cases h
  case lookup mt x ix ok =>
    simp only [fl] at h
    rw [opd_b] at h hb
    cases hx : opd t x some with
    | none => rw [hx] at hb; cases hb
    | some u =>
      simp only [hx, Option.bind_some] at h hb
      cases u <;> simp only [kMp] at hb <;> try (cases hb; done)
      rename_i rr
      subst hb
      rw [opd_b] at h
      cases ho : opd t ix some with
      | none => rw [ho] at h; cases h
      | some ov =>
        simp only [ho, Option.bind_some] at h
        unfold lookupK at h
        split at h
        · obtain ⟨_, _, _, h2⟩ := kKey_inv h
          simp only [kMp, ldmo] at h2
          obtain ⟨es, _, _, hH, _⟩ := ldm_inv h2; exact there hH
        · cases h
  case call c =>
    obtain ⟨callee, args, ats⟩ := c
    cases callee <;> (try simp only [] at hb) <;> try (cases hb; done)
    rename_i bb
    cases bb <;> (try simp only [isLen] at hb) <;> try (cases hb; done)
    have e1 : ∀ {γ : Type} (q : List Value → Option γ), opds t args.toList q = (opds t args.toList some).bind q := fun q => opds_bb fun _ => rfl
    simp only [fl] at h
    rw [e1] at h hb
    cases hx : opds t args.toList some with
    | none => rw [hx] at hb; cases hb
    | some vs =>
      simp only [hx, Option.bind_some] at h hb
      split at hb
      · rename_i u
        cases u <;> simp only [kMp] at hb <;> try (cases hb; done)
        subst hb
        split at h
        · rename_i at_ v' hv hvs
          obtain rfl : v' = _ := by injection hvs with e _; exact e.symm
          split at h
          · simp only [kStr] at h; cases h
          · simp only [kSl] at h; cases h
          · simp only [kMp, ldmo] at h
            obtain ⟨es, _, _, hH, _⟩ := ldm_inv h; exact there hH
          · cases h
        · cases h
      · cases hb
end Go.Proofs.YtgnkjpbecgpjoaaGreatDoor.Fw
