/- FRAMEWORK 15: what an operation comes to does not hang on what goes on behind it. -/
import Derived.Test.YtlpeldimmaajkaaGreatFwE
set_option linter.unusedVariables false
set_option linter.unusedSimpArgs false
namespace Go.Proofs.YtlpeldimmaajkaaGreat.Fw
open Go Go.RowKit

section
variable {β : Type} {k : Value → Option β}

theorem opd_b (t : Tm) (x : Operand) (k : Value → Option β) : opd t x k = (opd t x some).bind k := by
  cases x with
  | tmp i => simp only [opd]; split <;> rfl
  | const v => simp only [opd]; split <;> rfl
  | func f => rfl
  | global g => simp only [opd]; split <;> rfl
theorem onSome_b {α : Type} (x : Option α) (k : α → Option β) : onSome x k = x.bind k := by cases x <;> rfl
theorem kInt_b (kd : IntKind) (v : Value) (k : Int → Option β) : kInt kd v k = (kInt kd v some).bind k := by cases v <;> simp only [kInt] <;> first | rfl | (split <;> rfl)
theorem kBool_b (v : Value) (k : Bool → Option β) : kBool v k = (kBool v some).bind k := by cases v <;> rfl
theorem kStr_b (v : Value) (k : ByteArray → Option β) : kStr v k = (kStr v some).bind k := by cases v <;> rfl
theorem kPtr_b (v : Value) (k : Option Addr → Option β) : kPtr v k = (kPtr v some).bind k := by cases v <;> rfl
theorem kMp_b (v : Value) (k : Option Nat → Option β) : kMp v k = (kMp v some).bind k := by cases v <;> rfl
theorem kAgg_b (v : Value) (k : Array Value → Option β) : kAgg v k = (kAgg v some).bind k := by cases v <;> rfl
theorem kTup_b (v : Value) (k : Array Value → Option β) : kTup v k = (kTup v some).bind k := by cases v <;> rfl
theorem ldc_b (H : Heap) (b : Nat) (k : List Value → Option β) : ldc H b k = (ldc H b some).bind k := by unfold ldc; split <;> rfl
theorem ldm_b (H : Heap) (b : Nat) (k : List (Value × Value) → Option β) : ldm H b k = (ldm H b some).bind k := by unfold ldm; split <;> rfl
theorem ldmo_b (H : Heap) (b : Option Nat) (k : List (Value × Value) → Option β) : ldmo H b k = (ldmo H b some).bind k := by cases b with | none => rfl | some b => exact ldm_b H b k
theorem ite_b (c : Prop) [Decidable c] (x : Option Value) (k : Value → Option β) : (if c then x.bind k else none) = (if c then x else none).bind k := by split <;> rfl

section
variable {δ : Type} {k : δ → Option β}
/-- Two continuations of which one goes on behind the other one. -/
theorem bind_b {α γ : Type} (x : Option α) (f : α → Option δ) (g : α → Option β) (k : δ → Option β) (h : ∀ a, g a = (f a).bind k) : x.bind g = (x.bind f).bind k := by
  cases x with
  | none => rfl
  | some a => exact h a

theorem opd_bb {t : Tm} {x : Operand} {f : Value → Option δ} {g : Value → Option β} (h : ∀ a, g a = (f a).bind k) : opd t x g = (opd t x f).bind k := by
  rw [opd_b, opd_b t x f]; exact bind_b (γ := Unit) _ _ _ _ h
theorem opds_bb {t : Tm} : ∀ {x : List Operand} {f : List Value → Option δ} {g : List Value → Option β}, (∀ a, g a = (f a).bind k) → opds t x g = (opds t x f).bind k
  | [], _, _, h => h []
  | x :: xs, _, _, h => opd_bb fun v => opds_bb fun vs => h (v :: vs)
theorem onSome_bb {α : Type} {x : Option α} {f : α → Option δ} {g : α → Option β} (h : ∀ a, g a = (f a).bind k) : onSome x g = (onSome x f).bind k := by
  rw [onSome_b, onSome_b x f]; exact bind_b (γ := Unit) _ _ _ _ h
theorem kInt_bb {kd : IntKind} {v : Value} {f : Int → Option δ} {g : Int → Option β} (h : ∀ a, g a = (f a).bind k) : kInt kd v g = (kInt kd v f).bind k := by
  rw [kInt_b, kInt_b kd v f]; exact bind_b (γ := Unit) _ _ _ _ h
theorem kBool_bb {v : Value} {f : Bool → Option δ} {g : Bool → Option β} (h : ∀ a, g a = (f a).bind k) : kBool v g = (kBool v f).bind k := by
  rw [kBool_b, kBool_b v f]; exact bind_b (γ := Unit) _ _ _ _ h
theorem kStr_bb {v : Value} {f : ByteArray → Option δ} {g : ByteArray → Option β} (h : ∀ a, g a = (f a).bind k) : kStr v g = (kStr v f).bind k := by
  rw [kStr_b, kStr_b v f]; exact bind_b (γ := Unit) _ _ _ _ h
theorem kPtr_bb {v : Value} {f : Option Addr → Option δ} {g : Option Addr → Option β} (h : ∀ a, g a = (f a).bind k) : kPtr v g = (kPtr v f).bind k := by
  rw [kPtr_b, kPtr_b v f]; exact bind_b (γ := Unit) _ _ _ _ h
theorem kMp_bb {v : Value} {f : Option Nat → Option δ} {g : Option Nat → Option β} (h : ∀ a, g a = (f a).bind k) : kMp v g = (kMp v f).bind k := by
  rw [kMp_b, kMp_b v f]; exact bind_b (γ := Unit) _ _ _ _ h
theorem kAgg_bb {v : Value} {f : Array Value → Option δ} {g : Array Value → Option β} (h : ∀ a, g a = (f a).bind k) : kAgg v g = (kAgg v f).bind k := by
  rw [kAgg_b, kAgg_b v f]; exact bind_b (γ := Unit) _ _ _ _ h
theorem kTup_bb {v : Value} {f : Array Value → Option δ} {g : Array Value → Option β} (h : ∀ a, g a = (f a).bind k) : kTup v g = (kTup v f).bind k := by
  rw [kTup_b, kTup_b v f]; exact bind_b (γ := Unit) _ _ _ _ h
theorem kSl_bb {v : Value} {f : Option Addr → Nat → Nat → Option δ} {g : Option Addr → Nat → Nat → Option β} (h : ∀ a l m, g a l m = (f a l m).bind k) : kSl v g = (kSl v f).bind k := by
  cases v <;> first | rfl | exact h _ _ _
theorem kAnyInt_bb {v : Value} {f : IntKind → Int → Option δ} {g : IntKind → Int → Option β} (h : ∀ a l, g a l = (f a l).bind k) : kAnyInt v g = (kAnyInt v f).bind k := by
  cases v <;> first | rfl | exact h _ _
theorem ldc_bb {H : Heap} {b : Nat} {f : List Value → Option δ} {g : List Value → Option β} (h : ∀ a, g a = (f a).bind k) : ldc H b g = (ldc H b f).bind k := by
  rw [ldc_b, ldc_b H b f]; exact bind_b (γ := Unit) _ _ _ _ h
theorem ldm_bb {H : Heap} {b : Nat} {f : List (Value × Value) → Option δ} {g : List (Value × Value) → Option β} (h : ∀ a, g a = (f a).bind k) : ldm H b g = (ldm H b f).bind k := by
  unfold ldm
  split
  · exact h _
  · rfl
theorem ldmB_bb {H : Heap} {b : Nat} {f : List (Value × Value) → List Nat → Nat → Option δ} {g : List (Value × Value) → List Nat → Nat → Option β} (h : ∀ a l c, g a l c = (f a l c).bind k) : ldmB H b g = (ldmB H b f).bind k := by
  unfold ldmB
  split
  · exact h _ _ _
  · rfl
theorem ldmo_bb {H : Heap} {b : Option Nat} {f : List (Value × Value) → Option δ} {g : List (Value × Value) → Option β} (h : ∀ a, g a = (f a).bind k) : ldmo H b g = (ldmo H b f).bind k := by
  rw [ldmo_b, ldmo_b H b f]; exact bind_b (γ := Unit) _ _ _ _ h
theorem ite_bb {c : Prop} [Decidable c] {x : Option δ} {y : Option β} (h : y = x.bind k) : (if c then y else none) = (if c then x else none).bind k := by split <;> first | exact h | rfl
end
theorem kTy_b (kd : Option KD) (v : Value) (k : Value → Option β) : kTy kd v k = (kTy kd v some).bind k := by
  unfold kTy
  split
  · exact kInt_bb fun _ => rfl
  · exact kBool_bb fun _ => rfl
  · exact kStr_bb fun _ => rfl
  · exact kPtr_bb fun _ => rfl
  · exact kSl_bb fun _ _ _ => rfl
  · exact kMp_bb fun _ => rfl
  · rfl
  · exact kAgg_bb fun _ => ite_bb rfl
  · rfl
section
variable {δ : Type} {k : δ → Option β}
theorem kTy_bb {kd : Option KD} {v : Value} {f : Value → Option δ} {g : Value → Option β} (h : ∀ a, g a = (f a).bind k) : kTy kd v g = (kTy kd v f).bind k := by
  rw [kTy_b, kTy_b kd v f]; exact bind_b (γ := Unit) _ _ _ _ h
theorem kKey_bb {P : Program} {kt : TypeId} {v : Value} {f : Value → Option δ} {g : Value → Option β} (h : ∀ a, g a = (f a).bind k) : kKey P kt v g = (kKey P kt v f).bind k := by
  unfold kKey
  split
  · exact kTy_bb h
  · split
    · split
      · rfl
      · refine kAgg_bb fun cs => ?_
        split
        · exact h _
        · rfl
    · rfl
theorem optInt_bb {t : Tm} {x : Option Operand} {d : Int} {f : Int → Option δ} {g : Int → Option β} (h : ∀ a, g a = (f a).bind k) : optInt t x d g = (optInt t x d f).bind k := by
  cases x with
  | none => exact h d
  | some x => exact opd_bb fun v => kAnyInt_bb fun _ n => h n
theorem cellsOk_bb {v : Value} {x : Option δ} {y : Option β} (h : y = x.bind k) : cellsOk v y = (cellsOk v x).bind k := by
  unfold cellsOk
  split
  · exact h
  · split <;> first | exact h | rfl
theorem cellsOks_bb : ∀ {vs : List Value} {x : Option δ} {y : Option β}, y = x.bind k → cellsOks vs y = (cellsOks vs x).bind k
  | [], _, _, h => h
  | v :: vs, _, _, h => cellsOk_bb (cellsOks_bb h)
theorem foldInts_bb {q : Int → Int → Int} {kd : IntKind} : ∀ {vs : List Value} {x : Int} {f : Int → Option δ} {g : Int → Option β}, (∀ a, g a = (f a).bind k) → foldInts q kd vs x g = (foldInts q kd vs x f).bind k
  | [], x, _, _, h => h x
  | v :: vs, x, _, _, h => kInt_bb fun y => foldInts_bb h
end
theorem ld_b {P : Program} {ty : TypeId} {H : Heap} {a : Addr} : ld (kdOf P ty) H a k = (ld (kdOf P ty) H a some).bind k := by
  unfold ld
  split
  · exact ldc_bb fun cs => ite_bb rfl
  · exact ldc_bb fun cs => onSome_bb fun v => kTy_b _ _ _
theorem partK_b {P : Program} {e : TypeId} {cs : Array Value} {off : Nat} : partK P e cs off k = (partK P e cs off some).bind k := by
  unfold partK
  split
  · rfl
  · exact onSome_bb fun v => kTy_b _ _ _
theorem binInt_b {op : BinOp} {kd : IntKind} {a b : Int} : binInt op kd a b k = (binInt op kd a b some).bind k := by
  cases op <;> simp only [binInt] <;> first | rfl | (split <;> rfl)
theorem binSh_b {op : BinOp} {kd : IntKind} {a b : Int} : binSh op kd a b k = (binSh op kd a b some).bind k := by
  cases op <;> simp only [binSh] <;> first | rfl | (split <;> rfl)
theorem binStr_b {op : BinOp} {a b : ByteArray} : binStr op a b k = (binStr op a b some).bind k := by
  cases op <;> simp only [binStr] <;> first | rfl | (split <;> rfl)
theorem nilK_bb {P : Program} {t : TypeId} {v : Value} {f : Bool → Option Value} {g : Bool → Option β} (h : ∀ a, g a = (f a).bind k) : nilK P t v g = (nilK P t v f).bind k := by
  unfold nilK
  split
  · exact kPtr_bb fun a => h _
  · exact kSl_bb fun a _ _ => h _
  · exact kMp_bb fun a => h _
  · split <;> first | exact h _ | rfl
  · split <;> first | exact h _ | rfl
  · rfl
theorem eqv_bb {P : Program} : ∀ (n : Nat) {t : TypeId} {x y : Value} {f : Bool → Option Value} {g : Bool → Option β}, (∀ a, g a = (f a).bind k) → eqv P n t x y g = (eqv P n t x y f).bind k
  | 0, _, _, _, _, _, _ => rfl
  | n + 1, t, x, y, f, g, h => by
    simp only [eqv]
    split
    · exact kBool_bb fun _ => kBool_bb fun _ => h _
    · exact kInt_bb fun _ => kInt_bb fun _ => h _
    · exact kStr_bb fun _ => kStr_bb fun _ => h _
    · rename_i fs hu
      split
      · rfl
      · refine kAgg_bb fun xs => kAgg_bb fun ys => ?_
        generalize fs.toList = l
        induction l with
        | nil => exact h true
        | cons fl l ih =>
          simp only [List.foldr_cons]
          split
          · exact ih
          · split
            · refine eqv_bb n fun b => ?_
              cases b
              · exact h false
              · exact ih
            · refine onSome_bb fun u => onSome_bb fun v => eqv_bb n fun b => ?_
              cases b
              · exact h false
              · exact ih
    · rfl
theorem ptrEq_bb {δ : Type} {k : δ → Option β} {x y : Option Addr} {f : Bool → Option δ} {g : Bool → Option β} (h : ∀ b, g b = (f b).bind k) : ptrEq x y g = (ptrEq x y f).bind k := by
  unfold ptrEq
  split <;> try exact h _
  split <;> first | exact h _ | rfl
theorem bin_b {P : Program} {op : BinOp} {xt : TypeId} {xo yo : Operand} {x y : Value} : bin P op xt xo yo x y k = (bin P op xt xo yo x y some).bind k := by
  unfold bin
  split
  · exact kAnyInt_bb fun _ _ => kAnyInt_bb fun _ _ => binSh_b
  · split
    · exact kInt_bb fun _ => kInt_bb fun _ => binInt_b
    · exact kStr_bb fun _ => kStr_bb fun _ => binStr_b
    · refine kBool_bb fun _ => kBool_bb fun _ => ?_
      cases op <;> rfl
    · split
      · rfl
      · cases op <;> first | rfl | exact eqv_bb 20 fun _ => rfl
    · split
      · refine nilK_bb fun _ => ?_
        cases op <;> rfl
      · split
        · refine nilK_bb fun _ => ?_
          cases op <;> rfl
        · split
          · split
            · refine kPtr_bb fun _ => kPtr_bb fun _ => ptrEq_bb fun _ => ?_
              cases op <;> rfl
            · rfl
          · rfl
theorem slStr_b {s : ByteArray} {l h : Int} : slStr s l h k = (slStr s l h some).bind k := ite_bb rfl
theorem esOk_bb {H : Heap} {b sz : Nat} {x : Option Value} {y : Option β} (h : y = x.bind k) : esOk H b sz y = (esOk H b sz x).bind k := by
  unfold esOk
  split
  · split <;> first | exact h | rfl
  · rfl
theorem slSl_b {H : Heap} {sz : Nat} {a : Option Addr} {len cap : Nat} {l h : Int} : slSl H sz a len cap l h k = (slSl H sz a len cap l h some).bind k := by
  cases a with
  | none => exact ite_bb rfl
  | some a => exact esOk_bb (ite_bb rfl)
theorem slSl3_b {H : Heap} {sz : Nat} {a : Option Addr} {len cap : Nat} {l h m : Int} : slSl3 H sz a len cap l h m k = (slSl3 H sz a len cap l h m some).bind k := by
  cases a with
  | none => rfl
  | some a => exact esOk_bb (ite_bb rfl)
theorem slArr_b {H : Heap} {sz n : Nat} {a : Addr} {l h : Int} : slArr H sz n a l h k = (slArr H sz n a l h some).bind k := esOk_bb (ldc_bb fun _ => ite_bb rfl)
theorem lookupK_b {P : Program} {mt : TypeId} {H : Heap} {x ix : Value} {ok : Bool} : lookupK P mt H x ix ok k = (lookupK P mt H x ix ok some).bind k := by
  unfold lookupK
  split
  · refine kKey_bb fun key => kMp_bb fun r => ldmo_bb fun es => ?_
    split
    · rfl
    · split
      · exact kTy_bb fun _ => rfl
      · refine onSome_bb fun z => ?_
        split <;> rfl
  · rfl

theorem tyAs_b {P : Program} {at_ : TypeId} {ok : Bool} {v : Value} : tyAs P at_ ok v k = (tyAs P at_ ok v some).bind k := by
  unfold tyAs
  split
  · rfl
  · rfl
  · split
    · rfl
    · split
      · refine onSome_bb fun z => ?_
        split <;> rfl
      · rfl
    · rfl
theorem fl_b {P : Program} {t : Tm} {H : Heap} {ty : TypeId} {op : Op} : fl P t H ty op k = (fl P t H ty op some).bind k := by
  cases op <;> simp only [fl] <;> try rfl
  case move => exact opd_b _ _ _
  case assign => exact opd_b _ _ _
  case pick => refine opd_bb fun _ => kBool_bb fun b => ?_; cases b <;> exact opd_b _ _ _
  case nilCheck =>
    refine opd_bb fun v => ?_
    split
    · exact kPtr_bb fun _ => onSome_bb fun _ => rfl
    · split
      · exact onSome_bb fun _ => rfl
      · rfl
      · rfl
      · rfl
  case load => exact opd_bb fun _ => kPtr_bb fun _ => onSome_bb fun _ => ld_b
  case binOp => exact opd_bb fun _ => opd_bb fun _ => bin_b
  case unOp =>
    refine opd_bb fun v => ?_
    split
    · exact kBool_bb fun _ => rfl
    · exact kAnyInt_bb fun _ _ => rfl
    · exact kAnyInt_bb fun _ _ => rfl
    · rfl
  case convert =>
    refine opd_bb fun v => ?_
    split
    · exact kInt_bb fun _ => rfl
    · exact kStr_bb fun _ => rfl
    · split
      · exact kPtr_bb fun _ => onSome_bb fun _ => ldc_bb fun _ => ite_bb rfl
      · rfl
    · split
      · refine kPtr_bb fun _ => onSome_bb fun _ => ?_
        unfold fromU
        split
        · exact ite_bb rfl
        · rfl
      · rfl
    · split
      · refine kSl_bb fun a _ _ => ?_
        cases a with
        | none => rfl
        | some a => exact ldc_bb fun _ => ite_bb (onSome_bb fun _ => rfl)
      · rfl
    · rfl
  case makeInterface =>
    refine opd_bb fun v => ?_
    split <;> rfl
  case typeAssert => exact opd_bb fun _ => tyAs_b
  case makeFunc fn first cap =>
    cases fn <;> simp only [fl] <;> first
      | rfl
      | exact opds_bb fun _ => opds_bb fun _ => rfl
  case build =>
    refine opds_bb fun _ => cellsOks_bb (onSome_bb fun _ => ?_)
    split
    · split <;> rfl
    · rfl
  case fieldAddr => exact onSome_bb fun _ => opd_bb fun _ => kPtr_bb fun _ => onSome_bb fun _ => rfl
  case field => exact onSome_bb fun _ => opd_bb fun _ => kAgg_bb fun _ => partK_b
  case indexAddr =>
    refine opd_bb fun _ => opd_bb fun _ => kAnyInt_bb fun _ _ => ?_
    split
    · exact onSome_bb fun _ => kSl_bb fun _ _ _ => onSome_bb fun _ => ite_bb rfl
    · exact onSome_bb fun _ => kPtr_bb fun _ => onSome_bb fun _ => ite_bb rfl
    · rfl
  case index =>
    refine opd_bb fun _ => opd_bb fun _ => kAnyInt_bb fun _ _ => ?_
    split
    · exact kStr_bb fun _ => ite_bb rfl
    · exact onSome_bb fun _ => kAgg_bb fun _ => ite_bb partK_b
    · rfl
  case slice =>
    refine opd_bb fun _ => ?_
    split
    · split
      · rfl
      · exact kStr_bb fun _ => optInt_bb fun _ => optInt_bb fun _ => slStr_b
    · refine onSome_bb fun _ => kSl_bb fun _ _ _ => optInt_bb fun _ => optInt_bb fun _ => ?_
      split
      · exact slSl_b
      · refine opd_bb fun _ => kAnyInt_bb fun _ _ => ?_
        split
        · rfl
        · exact slSl3_b
    · refine onSome_bb fun _ => kPtr_bb fun _ => onSome_bb fun _ => optInt_bb fun _ => optInt_bb fun _ => ?_
      split
      · exact slArr_b
      · rfl
    · rfl
  case lookup =>
    refine opd_bb fun _ => opd_bb fun _ => ?_
    rw [lookupK_b, lookupK_b (k := fun v => kTy _ v some), Option.bind_assoc]
    congr 1; funext v
    exact kTy_b _ _ _
  case extract => exact opd_bb fun _ => kTup_bb fun _ => onSome_bb fun _ => kTy_b _ _ _
  case call c =>
    obtain ⟨callee, args, ats⟩ := c
    cases callee <;> simp only [fl] <;> try rfl
    rename_i b
    refine opds_bb fun vs => ?_
    cases b <;> simp only [] <;> try rfl
    case len =>
      split
      · split
        · exact kStr_bb fun _ => rfl
        · exact kSl_bb fun _ _ _ => rfl
        · exact kMp_bb fun _ => ldmo_bb fun _ => rfl
        · rfl
      · rfl
    case max =>
      split
      · split
        · exact kInt_bb fun _ => foldInts_bb fun _ => rfl
        · rfl
      · rfl
    case min =>
      split
      · split
        · exact kInt_bb fun _ => foldInts_bb fun _ => rfl
        · rfl
      · rfl
    case cap =>
      split
      · split
        · refine kSl_bb fun _ _ _ => ?_
          split <;> rfl
        · rfl
      · rfl
    case unsafeSliceData =>
      split
      · refine kSl_bb fun a _ _ => ?_
        cases a with
        | none => rfl
        | some a => exact ite_bb rfl
      · rfl

theorem al_b {P : Program} {t : Tm} {op : Op} {k : AObj → (Nat → Value) → Option β} : al P t op k = (al P t op fun ob mk => some (ob, mk)).bind fun p => k p.1 p.2 := by
  cases op <;> simp only [al] <;> try rfl
  case alloc => refine onSome_bb fun z => ?_; split <;> rfl
  case box => exact opd_bb fun v => cellsOk_bb rfl
  case buildSlice =>
    refine onSome_bb fun e => onSome_bb fun z => ?_
    split
    · rfl
    · split
      · rfl
      · exact opds_bb fun vs => cellsOks_bb (onSome_bb fun cells => rfl)
  case makeMap =>
    split
    · rfl
    · refine opd_bb fun v => kAnyInt_bb fun _ _ => ?_
      split <;> rfl
  case makeSlice =>
    refine onSome_bb fun e => onSome_bb fun z => ?_
    split
    · rfl
    · exact opd_bb fun _ => kInt_bb fun _ => opd_bb fun _ => kInt_bb fun _ => ite_bb rfl

theorem al_val {P : Program} {t : Tm} {op : Op} {k : AObj → (Nat → Value) → Option β} {r : β} (h : al P t op k = some r) : ∃ ob mk, al P t op (fun ob mk => some (ob, mk)) = some (ob, mk) ∧ k ob mk = some r := by
  rw [al_b] at h
  cases hv : al P t op (fun ob mk => some (ob, mk)) with
  | none => rw [hv] at h; cases h
  | some v => rw [hv] at h; exact ⟨v.1, v.2, rfl, h⟩

theorem firstC_bb {δ : Type} {k : δ → Option β} {H : Heap} {sz : Nat} {v : Value} {f : Nat → List Value → Option δ} {g : Nat → List Value → Option β} (h : ∀ n l, g n l = (f n l).bind k) : firstC H sz v g = (firstC H sz v f).bind k := by
  unfold firstC
  split
  · exact ite_bb (h _ _)
  · exact ldc_bb fun _ => ite_bb (h _ _)
  · split <;> first | exact h _ _ | rfl
  · rfl
theorem app_b {P : Program} {e : TypeId} {H : Heap} {s : Value} {n : Nat} {nw : List Value} {k : Value → Heap → Option β} : app P e H s n nw k = (app P e H s n nw fun v H => some (v, H)).bind fun p => k p.1 p.2 := by
  unfold app
  refine kSl_bb fun a len cap => ite_bb ?_
  cases a with
  | none => refine ite_bb ?_; split <;> rfl
  | some a =>
    simp only []
    split
    · refine ite_bb ?_
      split
      · split
        · rfl
        · exact ite_bb rfl
      · split
        · exact ite_bb rfl
        · rfl
    · rfl
theorem ef_b {P : Program} {Γ : Fs} {t : Tm} {H : Heap} {ty : TypeId} {op : Op} {k : Value → Heap → Option β} : ef P Γ t H ty op k = (ef P Γ t H ty op fun v H => some (v, H)).bind fun p => k p.1 p.2 := by
  cases op <;> simp only [ef] <;> try rfl
  case store =>
    refine opd_bb fun _ => kPtr_bb fun _ => onSome_bb fun _ => opd_bb fun _ => onSome_bb fun _ => cellsOk_bb ?_
    unfold st
    split
    · exact ite_bb rfl
    · rfl
  case convert =>
    refine opd_bb fun _ => ?_
    split
    · split
      · exact kStr_bb fun _ => ite_bb rfl
      · rfl
    · rfl
  case mapUpdate =>
    refine opd_bb fun _ => kMp_bb fun _ => onSome_bb fun _ => opd_bb fun _ => opd_bb fun _ => ?_
    split
    · refine kKey_bb fun _ => ?_
      unfold mupd
      refine ldmB_bb fun _ _ _ => ?_
      split <;> rfl
    · rfl
  case insert =>
    refine opd_bb fun _ => kMp_bb fun _ => onSome_bb fun _ => opd_bb fun _ => opd_bb fun _ => ?_
    split
    · refine kKey_bb fun _ => ?_
      unfold mupd
      refine ldmB_bb fun _ _ _ => ?_
      split <;> rfl
    · rfl
  case mapEntry =>
    refine opd_bb fun _ => kMp_bb fun _ => onSome_bb fun _ => opd_bb fun _ => ?_
    split
    · refine kKey_bb fun _ => ?_
      unfold ment
      refine ldmB_bb fun _ _ _ => ?_
      split
      · split
        · exact onSome_bb fun _ => onSome_bb fun _ => rfl
        · refine onSome_bb fun _ => ?_
          split <;> rfl
      · rfl
    · rfl
  case entryStore =>
    refine opd_bb fun _ => kMp_bb fun _ => onSome_bb fun _ => opd_bb fun _ => kAnyInt_bb fun _ _ => opd_bb fun _ => ?_
    unfold esto
    exact ldmB_bb fun _ _ _ => onSome_bb fun _ => onSome_bb fun _ => rfl
  case entry =>
    refine opd_bb fun _ => kPtr_bb fun _ => onSome_bb fun _ => ?_
    unfold entr
    split
    · exact ite_bb (onSome_bb fun _ => ldmB_bb fun _ _ _ => ite_bb (onSome_bb fun _ => onSome_bb fun _ => rfl))
    · rfl
  case range =>
    refine opd_bb fun _ => ?_
    split
    · refine kMp_bb fun r => ?_
      cases r with
      | none => rfl
      | some r => exact ldmB_bb fun _ _ _ => rfl
    · rfl
  case call c =>
    obtain ⟨callee, args, ats⟩ := c
    cases callee with
    | invoke => simp only [efCall]; rfl
    | builtin b =>
      simp only [efCall]
      refine opds_bb fun vs => ?_
      cases b <;> simp only [] <;> try rfl
      case append =>
        split
        · refine onSome_bb fun e => onSome_bb fun z => ?_
          split
          · rfl
          · split
            · rfl
            · rfl
            · exact firstC_bb fun _ _ => app_b
        · rfl
      case copy =>
        split
        · refine onSome_bb fun e => onSome_bb fun _ => firstC_bb fun n cs => kSl_bb fun a _ _ => ?_
          unfold cpy
          cases a with
          | none => exact ite_bb rfl
          | some a =>
            simp only []
            split
            · exact ite_bb rfl
            · rfl
        · rfl
      case clear =>
        split
        · refine onSome_bb fun _ => onSome_bb fun _ => ?_
          split
          · rfl
          · refine kSl_bb fun a _ _ => ?_
            unfold clr
            cases a with
            | none => rfl
            | some a =>
              simp only []
              split
              · exact ite_bb rfl
              · rfl
        · rfl
      case delete =>
        split
        · split
          · refine kKey_bb fun _ => kMp_bb fun q => ?_
            unfold dele
            cases q with
            | none => rfl
            | some q =>
              refine ldmB_bb fun _ _ _ => ?_
              split <;> rfl
          · rfl
        · rfl
      case unsafeString =>
        split
        · refine kPtr_bb fun a => kInt_bb fun n => ?_
          cases a with
          | none => exact ite_bb rfl
          | some a =>
            simp only []
            split
            · unfold uStr
              split
              · exact ite_bb (onSome_bb fun _ => rfl)
              · rfl
            · rfl
        · rfl
    | value x =>
      cases x <;> simp only [efCall] <;> first
        | exact onSome_bb fun _ => opds_bb fun _ => onSome_bb fun _ => kTy_bb fun _ => rfl
        | (refine opd_bb fun _ => ?_
           split
           · exact onSome_bb fun _ => opds_bb fun _ => onSome_bb fun _ => kTy_bb fun _ => rfl
           · rfl)
theorem ef_val {P : Program} {Γ : Fs} {t : Tm} {H : Heap} {ty : TypeId} {op : Op} {k : Value → Heap → Option β} {r : β} (h : ef P Γ t H ty op k = some r) : ∃ v H', ef P Γ t H ty op (fun v H => some (v, H)) = some (v, H') ∧ k v H' = some r := by
  rw [ef_b] at h
  cases hv : ef P Γ t H ty op (fun v H => some (v, H)) with
  | none => rw [hv] at h; cases h
  | some v => rw [hv] at h; exact ⟨v.1, v.2, rfl, h⟩

/-- What an operation that changes nothing comes to. -/
theorem fl_val {P : Program} {t : Tm} {H : Heap} {ty : TypeId} {op : Op} {r : β} (h : fl P t H ty op k = some r) : ∃ v, fl P t H ty op some = some v ∧ k v = some r := by
  rw [fl_b] at h
  cases hv : fl P t H ty op some with
  | none => rw [hv] at h; cases h
  | some v => rw [hv] at h; exact ⟨v, rfl, h⟩
end
end Go.Proofs.YtlpeldimmaajkaaGreat.Fw
