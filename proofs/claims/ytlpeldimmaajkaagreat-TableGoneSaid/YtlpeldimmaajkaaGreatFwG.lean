/- FRAMEWORK 16: what an operation hangs on; regions in the order of the text. -/
import Derived.Test.YtlpeldimmaajkaaGreatFwF
set_option linter.unusedVariables false
set_option linter.unusedSimpArgs false
namespace Go.Proofs.YtlpeldimmaajkaaGreat.Fw
open Go Go.RowKit

section
variable {β : Type}

/-- Two states of the temporaries that agree at what operands name. -/
def Agree (xs : List Operand) (t t' : Tm) : Prop := ∀ i, Operand.tmp i ∈ xs → t i = t' i
theorem opd_congr {xs : List Operand} {t t' : Tm} (h : Agree xs t t') {x : Operand} (hx : x ∈ xs) (k : Value → Option β) : opd t x k = opd t' x k := by
  cases x with
  | tmp i => simp only [opd, h i hx]
  | _ => rfl
theorem opds_congr {xs : List Operand} {t t' : Tm} (h : Agree xs t t') : ∀ {l : List Operand}, (∀ x ∈ l, x ∈ xs) → ∀ (k : List Value → Option β), opds t l k = opds t' l k
  | [], _, _ => rfl
  | x :: l, hl, k => by
    simp only [opds]
    rw [opd_congr h (hl x (by simp))]
    congr 1
    funext v
    exact opds_congr h (fun y hy => hl y (by simp [hy])) _
theorem optInt_congr {xs : List Operand} {t t' : Tm} (h : Agree xs t t') {x : Option Operand} (hx : ∀ y, x = some y → y ∈ xs) (d : Int) (k : Int → Option β) : optInt t x d k = optInt t' x d k := by
  cases x with
  | none => rfl
  | some x => exact opd_congr h (hx x rfl) _

theorem fl_congrT {P : Program} {t t' : Tm} {H : Heap} {ty : TypeId} {op : Op} (h : Agree op.operands.toList t t') (k : Value → Option β) : fl P t H ty op k = fl P t' H ty op k := by
  cases op <;> simp only [fl] <;> simp only [Op.operands] at h
  case move => exact opd_congr h (by simp) _
  case assign => exact opd_congr h (by simp) _
  case pick c a b =>
    rw [opd_congr h (x := c) (by simp)]
    congr 1; funext v; congr 1; funext u
    cases u
    · exact opd_congr h (by simp) _
    · exact opd_congr h (by simp) _
  case nilCheck => exact opd_congr h (by simp) _
  case load => exact opd_congr h (by simp) _
  case binOp op xt x y yt =>
    rw [opd_congr h (x := x) (by simp)]
    congr 1; funext v
    exact opd_congr h (by simp) _
  case unOp => exact opd_congr h (by simp) _
  case convert => exact opd_congr h (by simp) _
  case makeInterface => exact opd_congr h (by simp) _
  case typeAssert => exact opd_congr h (by simp) _
  case makeFunc fn first cap =>
    cases fn <;> simp only [fl]
    rw [opds_congr h (l := first.toList) (fun x hx => by simp; exact .inl (by simpa using hx))]
    congr 1; funext v
    exact opds_congr h (fun x hx => by simp; exact .inr (by simpa using hx)) _
  case build t parts => exact opds_congr h (fun x hx => by simpa using hx) _
  case fieldAddr =>
    congr 1; funext v
    exact opd_congr h (by simp) _
  case field =>
    congr 1; funext v
    exact opd_congr h (by simp) _
  case indexAddr st x ix =>
    rw [opd_congr h (x := x) (by simp)]
    congr 1; funext v
    exact opd_congr h (by simp) _
  case index st x ix =>
    rw [opd_congr h (x := x) (by simp)]
    congr 1; funext v
    exact opd_congr h (by simp) _
  case slice st x lo hi mx =>
    have hlo : ∀ y, lo = some y → y ∈ (#[x] ++ lo.toArray ++ hi.toArray ++ mx.toArray).toList := fun y hy => by subst hy; simp
    have hhi : ∀ y, hi = some y → y ∈ (#[x] ++ lo.toArray ++ hi.toArray ++ mx.toArray).toList := fun y hy => by subst hy; simp
    have hmx : ∀ y, mx = some y → y ∈ (#[x] ++ lo.toArray ++ hi.toArray ++ mx.toArray).toList := fun y hy => by subst hy; simp
    rw [opd_congr h (x := x) (by simp)]
    congr 1; funext v
    split
    · split
      · rfl
      · congr 1; funext s
        rw [optInt_congr h hhi]
        congr 1; funext a
        exact optInt_congr h hlo _ _
    · congr 1; funext _; congr 1; funext a l m
      rw [optInt_congr h hhi]
      congr 1; funext a
      rw [optInt_congr h hlo]
      congr 1; funext b
      split
      · rfl
      · rename_i y
        exact opd_congr h (hmx y rfl) _
    · congr 1; funext _; congr 1; funext a; congr 1; funext a
      rw [optInt_congr h hhi]
      congr 1; funext b
      exact optInt_congr h hlo _ _
    · rfl
  case lookup mt x ix ok =>
    rw [opd_congr h (x := x) (by simp)]
    congr 1; funext v
    exact opd_congr h (by simp) _
  case extract => exact opd_congr h (by simp) _
  case call c =>
    obtain ⟨callee, args, ats⟩ := c
    cases callee <;> simp only [fl]
    exact opds_congr h (fun x hx => by simp [Call.operands]; simpa using hx) _
  all_goals rfl

theorem al_congrT {P : Program} {t t' : Tm} {op : Op} (h : Agree op.operands.toList t t') (k : AObj → (Nat → Value) → Option β) : al P t op k = al P t' op k := by
  cases op <;> simp only [al] <;> simp only [Op.operands] at h
  case box => exact opd_congr h (by simp) _
  case buildSlice t len parts =>
    congr 1; funext e; congr 1; funext z
    split
    · rfl
    · split
      · rfl
      · exact opds_congr h (fun x hx => by simpa using hx) _
  case makeMap mt r =>
    cases r with
    | none => rfl
    | some x => exact opd_congr h (by simp) _
  case makeSlice st l c =>
    congr 1; funext e; congr 1; funext z
    split
    · rfl
    · rw [opd_congr h (x := l) (by simp)]
      congr 1; funext v; congr 1; funext n
      exact opd_congr h (by simp) _
  all_goals rfl

theorem ef_congrT {P : Program} {Γ : Fs} {t t' : Tm} {H : Heap} {ty : TypeId} {op : Op} (h : Agree op.operands.toList t t') (k : Value → Heap → Option β) : ef P Γ t H ty op k = ef P Γ t' H ty op k := by
  cases op <;> simp only [ef] <;> simp only [Op.operands] at h
  case store ty a x =>
    rw [opd_congr h (x := a) (by simp)]
    congr 1; funext v; congr 1; funext n; congr 1; funext a
    exact opd_congr h (by simp) _
  case convert => exact opd_congr h (by simp) _
  case mapUpdate mt m key x =>
    rw [opd_congr h (x := m) (by simp)]
    congr 1; funext v; congr 1; funext n; congr 1; funext a
    rw [opd_congr h (x := key) (by simp)]
    congr 1; funext v
    exact opd_congr h (by simp) _
  case insert mt m key x =>
    rw [opd_congr h (x := m) (by simp)]
    congr 1; funext v; congr 1; funext n; congr 1; funext a
    rw [opd_congr h (x := key) (by simp)]
    congr 1; funext v
    exact opd_congr h (by simp) _
  case mapEntry mt m key =>
    rw [opd_congr h (x := m) (by simp)]
    congr 1; funext v; congr 1; funext n; congr 1; funext a
    exact opd_congr h (by simp) _
  case entryStore mt m s x =>
    rw [opd_congr h (x := m) (by simp)]
    congr 1; funext v; congr 1; funext n; congr 1; funext a
    rw [opd_congr h (x := s) (by simp)]
    congr 1; funext v; congr 1; funext kd; congr 1; funext n
    exact opd_congr h (by simp) _
  case entry it => exact opd_congr h (by simp) _
  case range xt x => exact opd_congr h (by simp) _
  case call c =>
    obtain ⟨callee, args, ats⟩ := c
    cases callee with
    | invoke => rfl
    | builtin b => simp only [efCall]; exact opds_congr h (fun x hx => by simp [Call.operands]; simpa using hx) _
    | value x =>
      cases x <;> simp only [efCall]
      case func f =>
        congr 1; funext F
        exact opds_congr h (fun x hx => by simp [Call.operands]; exact .inr (by simpa using hx)) _
      all_goals
        rw [opd_congr h (by simp [Call.operands])]
        congr 1; funext v
        split
        · congr 1; funext F
          exact opds_congr h (fun x hx => by simp [Call.operands]; exact .inr (by simpa using hx)) _
        · rfl
  all_goals rfl

theorem opd_two {t : Tm} {x : Operand} {f g : Value → Option β} (h : ∀ v, opd t x some = some v → f v = g v) : opd t x f = opd t x g := by
  rw [opd_b t x f, opd_b t x g]
  cases hx : opd t x some with
  | none => rfl
  | some v => exact h v hx

/-- What is read hangs on the block that is read. -/
theorem ldc_congr {H H' : Heap} {b : Nat} (h : H'[b]? = H[b]?) (c : List Value → Option β) : ldc H' b c = ldc H b c := by simp only [ldc, h]
theorem esOk_congr {H H' : Heap} {b sz : Nat} (h : H'[b]? = H[b]?) (k : Option β) : esOk H' b sz k = esOk H b sz k := by simp only [esOk, h]
theorem fl_congrH {P : Program} {t : Tm} {H H' : Heap} {ty : TypeId} {op : Op} (h : ∀ b, rblk t op = some b → H'[b]? = H[b]?) (k : Value → Option β) : fl P t H' ty op k = fl P t H ty op k := by
  cases op <;> simp only [fl] <;> simp only [rblk] at h
  case load lt x =>
    refine opd_two fun v hx => ?_
    · rw [opd_b] at h
      simp only [hx, Option.bind_some] at h ⊢
      cases v <;> try rfl
      rename_i a
      cases a with
      | none => rfl
      | some a =>
        have := h a.block rfl
        simp only [kPtr, onSome, ld]
        split <;> exact ldc_congr this _
  case convert s d x =>
    refine opd_two fun v hx => ?_
    · rw [opd_b] at h
      simp only [hx, Option.bind_some] at h ⊢
      split
      · rfl
      · rfl
      · split
        · cases v <;> try rfl
          rename_i a
          cases a with
          | none => rfl
          | some a =>
            have := h a.block rfl
            simp only [kPtr, onSome]
            exact ldc_congr this _
        · rfl
      · split
        · cases v <;> try rfl
          rename_i a
          cases a with
          | none => rfl
          | some a =>
            have := h a.block rfl
            simp only [kPtr, onSome, fromU, this]
        · rfl
      · split
        · cases v <;> try rfl
          rename_i a len cap
          cases a with
          | none => rfl
          | some a =>
            have := h a.block rfl
            simp only [kSl]
            exact ldc_congr this _
        · rfl
      · rfl
  case slice st x lo hi mx =>
    refine opd_two fun v hx => ?_
    · rw [opd_b] at h
      simp only [hx, Option.bind_some] at h ⊢
      split
      · rfl
      · cases v <;> try rfl
        rename_i a len cap
        have hs : ∀ sz l h' (k : Value → Option β), slSl H' sz a len cap l h' k = slSl H sz a len cap l h' k := fun sz l h' k => by
          cases a with
          | none => rfl
          | some a => exact esOk_congr (h a.block rfl) _
        have hs3 : ∀ sz l h' m (k : Value → Option β), slSl3 H' sz a len cap l h' m k = slSl3 H sz a len cap l h' m k := fun sz l h' m k => by
          cases a with
          | none => rfl
          | some a => exact esOk_congr (h a.block rfl) _
        simp only [kSl]
        simp only [hs, hs3]
      · cases v <;> try rfl
        rename_i a
        cases a with
        | none => rfl
        | some a =>
          have hb := h a.block rfl
          have hs : ∀ sz n l h' (k : Value → Option β), slArr H' sz n a l h' k = slArr H sz n a l h' k := fun sz n l h' k => by
            unfold slArr esOk ldc
            rw [hb]
          simp only [kPtr, onSome, hs]
      · rfl
  case lookup mt x ix ok =>
    refine opd_two fun v hx => ?_
    · rw [opd_b] at h
      simp only [hx, Option.bind_some] at h ⊢
      congr 1; funext iv
      unfold lookupK
      split
      · congr 1; funext key
        cases v <;> try rfl
        rename_i rr
        simp only [kMp]
        cases rr with
        | none => rfl
        | some b =>
          have := h b rfl
          simp only [ldmo, ldm, this]
      · rfl
  case call c =>
    obtain ⟨callee, args, ats⟩ := c
    cases callee <;> simp only [fl]
    rename_i b
    cases b <;> simp only []
    -- len
    have hb : ∀ v, opds t args.toList some = some [v] → ∀ rr, v = .map (some rr) → H'[rr]? = H[rr]? := fun v hv rr e => by
      have := h rr
      apply this
      subst e
      have key : ∀ (l : List Operand) (vs : List Value) (q : List Value → Option Nat), opds t l some = some vs → opds t l q = q vs := by
        intro l
        induction l with
        | nil => intro vs q hq; simp only [opds] at hq ⊢; obtain rfl := Option.some.inj hq; rfl
        | cons x l ih =>
          intro vs q hq
          simp only [opds] at hq ⊢
          rw [opd_b] at hq ⊢
          cases hx : opd t x some with
          | none => rw [hx] at hq; cases hq
          | some u =>
            simp only [hx, Option.bind_some] at hq ⊢
            have e2 : (opds t l fun vs => some (u :: vs)) = (opds t l some).bind fun vs => some (u :: vs) := opds_bb fun _ => rfl
            rw [e2] at hq
            cases hl : opds t l some with
            | none => rw [hl] at hq; cases hq
            | some us =>
              rw [hl] at hq
              simp only [Option.bind_some] at hq
              obtain rfl := Option.some.inj hq
              exact ih us _ hl
      show (opds t args.toList fun vs => (match vs with | [v] => kMp v fun r => r | _ => none)) = some rr
      rw [key _ _ _ hv]
      rfl
    have e1 : ∀ (q : List Value → Option β), opds t args.toList q = (opds t args.toList some).bind q := fun q => opds_bb fun _ => rfl
    rw [e1, e1]
    cases hvs : opds t args.toList some with
    | none => rfl
    | some vs =>
      simp only [Option.bind_some]
      split
      · split
        · rfl
        · rfl
        · rename_i v _ _ _ _ _
          cases v <;> try rfl
          rename_i rr
          simp only [kMp]
          cases rr with
          | none => rfl
          | some b =>
            have := hb _ hvs b rfl
            simp only [ldmo, ldm, this]
        · rfl
      · rfl
  case makeFunc fn first cap => cases fn <;> rfl
  all_goals rfl
end
end Go.Proofs.YtlpeldimmaajkaaGreat.Fw
