/- FRAMEWORK 33: texts of functions as data, and what they come to: on lists, and, for concrete runs, on trees. -/
import Derived.Test.YtlpeldimmaajkaaGreatFwW
set_option linter.unusedVariables false
namespace Go.Proofs.YtlpeldimmaajkaaGreat.Fw
open Go Go.RowKit

/-- A function's text. -/
inductive M : Type 1
  | ret (v : Value)
  | fail
  | jmp (key : Nat) (vs : List Value)
  | onS {α : Type} (x : Option α) (k : α → M)
  | opt {α : Type} (x : Option α) (a : M) (k : α → M)
  | bool (b : Bool) (x y : M)
  | ite (c : Prop) [d : Decidable c] (x : M)
  | nite (c : Prop) [d : Decidable c] (x : M)
  | kInt (kd : IntKind) (v : Value) (k : Int → M)
  | kAnyInt (v : Value) (k : IntKind → Int → M)
  | kBool (v : Value) (k : Bool → M)
  | kStr (v : Value) (k : ByteArray → M)
  | kPtr (v : Value) (k : Option Addr → M)
  | kSl (v : Value) (k : Option Addr → Nat → Nat → M)
  | kMp (v : Value) (k : Option Nat → M)
  | kAgg (v : Value) (k : Array Value → M)
  | kTup (v : Value) (k : Array Value → M)
  | nilI (v : Value) (x y : M)
  | nilF (v : Value) (x y : M)
  | wr (kd : IntKind) (n : Int) (k : Int → M)
  | cmp (op : BinOp) (a b : Int) (k : Bool → M)
  | fxI (n : Int) (k : Int → M)
  | fxB (b : Bool) (k : Bool → M)
  | fxV (v : Value) (k : Value → M)
  | inb (i : Int) (n : Nat) (x : M)
  | ldc (b : Nat) (k : List Value → M)
  | ld (b off : Nat) (k : Value → M)
  | ldn (b off n : Nat) (k : Array Value → M)
  | nthA (cs : Array Value) (i : Nat) (k : Value → M)
  | sub (cs : Array Value) (off n : Nat) (k : Array Value → M)
  | firstC (sz : Nat) (v : Value) (k : Nat → List Value → M)
  | app (e : TypeId) (s : Value) (n : Nat) (nw : List Value) (k : Value → M)
  | cpy (sz : Nat) (a : Option Addr) (len n : Nat) (nw : List Value) (k : Nat → M)
  | clr (sz : Nat) (z : Value) (a : Option Addr) (len : Nat) (x : M)
  | kKey (kt : TypeId) (v : Value) (k : Value → M)
  | dele (r : Option Nat) (key : Value) (x : M)
  | mupd (r : Nat) (key v : Value) (x : M)
  | ment (et : TypeId) (r : Nat) (key : Value) (k : Value → M)
  | esto (r : Nat) (n : Int) (v : Value) (x : M)
  | lookupK (mt : TypeId) (x ix : Value) (ok : Bool) (k : Value → M)
  | ldmo (r : Option Nat) (k : List (Value × Value) → M)
  | rng (r : Option Nat) (k : Value → M)
  | nxt (a : Addr) (k : Value → M)
  | entr (a : Addr) (k : Value → M)
  | uStr (a : Addr) (n : Int) (u one : Nat) (k : ByteArray → M)
  | fromU (a : Addr) (u n : Nat) (x : M)
  | slStr (s : ByteArray) (l h : Int) (k : ByteArray → M)
  | cat (a b : ByteArray) (k : ByteArray → M)
  | sEq (a b : ByteArray) (k : Bool → M)
  | byte (s : ByteArray) (i : Nat) (k : Int → M)
  | slSl (sz : Nat) (a : Option Addr) (len cap : Nat) (l h : Int) (k : Value → M)
  | slSl3 (sz : Nat) (a : Option Addr) (len cap : Nat) (l h m : Int) (k : Value → M)
  | slArr (sz n : Nat) (a : Addr) (l h : Int) (k : Value → M)
  | st (n : Nat) (a : Addr) (v : Value) (x : M)
  | new (o : AObj) (k : Nat → M)
  | newB (s : ByteArray) (k : Nat → M)
  | cellsOk (v : Value) (x : M)
  | cellsOks (vs : List Value) (x : M)
  | eqv (t : TypeId) (x y : Value) (k : Bool → M)
  | ptrEq (x y : Option Addr) (k : Bool → M)
  | tyAs (t : TypeId) (ok : Bool) (v : Value) (k : Value → M)
  | call (f : Nat) (args : List Value) (k : Value → M)
  | callV (v : Value) (args : List Value) (k : Value → M)
  | snap (b : Nat) (k : Option AObj → M)
  | same (b : Nat) (o : Option AObj) (x : M)

def cmpB (op : BinOp) (a b : Int) : Bool :=
  match op with
  | .eql => a == b
  | .neq => a != b
  | .lss => decide (a < b)
  | .leq => decide (a ≤ b)
  | .gtr => decide (b < a)
  | .geq => decide (b ≤ a)
  | _ => false
/-- An iteration goes on, of an address. -/
noncomputable def nxA {β : Type} (H : Heap) (a : Addr) (k : Value → Heap → Option β) : Option β :=
  match Nat.beq a.off 0, H[a.block]? with
    | true, some (.iter none _ _ _) => k (.tuple #[.bool false]) (H.set a.block .dead)
    | true, some (.iter (some r) since seen last) => ldmB H r fun es bs clk => onSome (nextC es bs since seen last) fun l => allEq (l.map (nextV H a.block r since seen clk k))
    | _, _ => none
def rngA {β : Type} (H : Heap) (r : Option Nat) (k : Value → Heap → Option β) : Option β :=
  match r with
  | none => k (.pointer (some ⟨H.length, 0, none⟩)) (H ++ [.iter none 0 [] 0])
  | some r => ldmB H r fun _ _ clk => k (.pointer (some ⟨H.length, 0, none⟩)) (H ++ [.iter (some r) clk [] clk])
open Classical in
noncomputable def sameO (H : Heap) (b : Nat) (o : Option AObj) (k : R) : R := if H[b]? = o then k else none

/-- WHAT A TEXT COMES TO. -/
noncomputable def M.run (P : Program) (Γ : Fs) (J : Nat → List Value → Heap → R) : M → Heap → R
  | .ret v, H => some (v, H)
  | .fail, H => none
  | .jmp key vs, H => J key vs H
  | .onS x k, H => onSome x fun a => (k a).run P Γ J H
  | .opt x a k, H => (match x with | none => a.run P Γ J H | some y => (k y).run P Γ J H)
  | .bool b x y, H => (match b with | true => x.run P Γ J H | false => y.run P Γ J H)
  | @M.ite c d x, H => if c then x.run P Γ J H else none
  | @M.nite c d x, H => if c then none else x.run P Γ J H
  | .kInt kd v k, H => Fw.kInt kd v fun n => (k n).run P Γ J H
  | .kAnyInt v k, H => Fw.kAnyInt v fun kd n => (k kd n).run P Γ J H
  | .kBool v k, H => Fw.kBool v fun b => (k b).run P Γ J H
  | .kStr v k, H => Fw.kStr v fun b => (k b).run P Γ J H
  | .kPtr v k, H => Fw.kPtr v fun b => (k b).run P Γ J H
  | .kSl v k, H => Fw.kSl v fun a l c => (k a l c).run P Γ J H
  | .kMp v k, H => Fw.kMp v fun r => (k r).run P Γ J H
  | .kAgg v k, H => Fw.kAgg v fun cs => (k cs).run P Γ J H
  | .kTup v k, H => Fw.kTup v fun cs => (k cs).run P Γ J H
  | .nilI v x y, H => (match v with | .nilIface => x.run P Γ J H | .iface _ _ => y.run P Γ J H | _ => none)
  | .nilF v x y, H => (match v with | .nilFunc => x.run P Γ J H | .func _ _ _ => y.run P Γ J H | _ => none)
  | .wr kd n k, H => (k (kd.wrap n)).run P Γ J H
  | .cmp op a b k, H => (k (cmpB op a b)).run P Γ J H
  | .fxI n k, H => (k n).run P Γ J H
  | .fxB b k, H => (k b).run P Γ J H
  | .fxV v k, H => (k v).run P Γ J H
  | .inb i n x, H => if 0 ≤ i ∧ i < (n : Nat) then x.run P Γ J H else none
  | .ldc b k, H => Fw.ldc H b fun cs => (k cs).run P Γ J H
  | .ld b off k, H => Fw.ldc H b fun cs => onSome cs[off]? fun v => (k v).run P Γ J H
  | .ldn b off n k, H => Fw.ldc H b fun cs => if off + n ≤ cs.length then (k (range cs off n).toArray).run P Γ J H else none
  | .nthA cs i k, H => onSome cs[i]? fun v => (k v).run P Γ J H
  | .sub cs off n k, H => (k (cs.extract off (off + n))).run P Γ J H
  | .firstC sz v k, H => Fw.firstC H sz v fun n l => (k n l).run P Γ J H
  | .app e s n nw k, H => Fw.app P e H s n nw fun v H => (k v).run P Γ J H
  | .cpy sz a len n nw k, H => Fw.cpy H sz a len n nw fun m H => (k m).run P Γ J H
  | .clr sz z a len x, H => Fw.clr H sz z a len fun H => x.run P Γ J H
  | .kKey kt v k, H => Fw.kKey P kt v fun v => (k v).run P Γ J H
  | .dele r key x, H => Fw.dele H r key fun H => x.run P Γ J H
  | .mupd r key v x, H => Fw.mupd H r key v fun H => x.run P Γ J H
  | .ment et r key k, H => Fw.ment P et H r key fun v H => (k v).run P Γ J H
  | .esto r n v x, H => Fw.esto H r n v fun H => x.run P Γ J H
  | .lookupK mt x ix ok k, H => Fw.lookupK P mt H x ix ok fun v => (k v).run P Γ J H
  | .ldmo r k, H => Fw.ldmo H r fun es => (k es).run P Γ J H
  | .rng r k, H => rngA H r fun v H => (k v).run P Γ J H
  | .nxt a k, H => nxA H a fun v H => (k v).run P Γ J H
  | .entr a k, H => Fw.entr H a fun v => (k v).run P Γ J H
  | .uStr a n u one k, H => Fw.uStr H a n u one fun s H => (k s).run P Γ J H
  | .fromU a u n x, H => Fw.fromU H a u n (x.run P Γ J H)
  | .slStr s l h k, H => Fw.slStr s l h fun v => Fw.kStr v fun s => (k s).run P Γ J H
  | .cat a b k, H => if a.size + b.size ≤ 9223372036854775807 then (k (a ++ b)).run P Γ J H else none
  | .sEq a b k, H => (k (a.toList == b.toList)).run P Γ J H
  | .byte s i k, H => (k (byteAt s i)).run P Γ J H
  | .slSl sz a len cap l h k, H => Fw.slSl H sz a len cap l h fun v => (k v).run P Γ J H
  | .slSl3 sz a len cap l h m k, H => Fw.slSl3 H sz a len cap l h m fun v => (k v).run P Γ J H
  | .slArr sz n a l h k, H => Fw.slArr H sz n a l h fun v => (k v).run P Γ J H
  | .st n a v x, H => Fw.st n H a v fun _ H => x.run P Γ J H
  | .new o k, H => (k H.length).run P Γ J (H ++ [o])
  | .newB s k, H => (k H.length).run P Γ J (H ++ [.cells (s.data.toList.map fun b => .int .u8 b.toNat) 1 true])
  | .cellsOk v x, H => Fw.cellsOk v (x.run P Γ J H)
  | .cellsOks vs x, H => Fw.cellsOks vs (x.run P Γ J H)
  | .eqv t x y k, H => Fw.eqv P 20 t x y fun b => (k b).run P Γ J H
  | .ptrEq x y k, H => Fw.ptrEq x y fun b => (k b).run P Γ J H
  | .tyAs t ok v k, H => Fw.tyAs P t ok v fun v => (k v).run P Γ J H
  | .call f args k, H => onSome (Γ f) fun F => onSome (F args H) fun r => (k r.1).run P Γ J r.2
  | .callV v args k, H => (match v with | .func (.func f) first cap => onSome (Γ f) fun F => onSome (F (first.toList ++ args ++ cap.toList) H) fun r => (k r.1).run P Γ J r.2 | _ => none)
  | .snap b k, H => (k H[b]?).run P Γ J H
  | .same b o x, H => sameO H b o (x.run P Γ J H)

/-! The quick forms, by the recursors themselves. -/
universe u
section
variable {α : Type u} {β : Type}
noncomputable def gR (t : Tr α) : Nat → Option α :=
  Tr.rec (motive := fun _ => Nat → Option α) (fun _ => none) (fun o l r il ir i => Nat.rec (motive := fun _ => Option α) o (fun j _ => Bool.rec (motive := fun _ => Option α) (ir (Nat.div j 2)) (il (Nat.div j 2)) (Nat.beq (Nat.mod j 2) 0)) i) t
theorem gR_eq (t : Tr α) : ∀ i, gR t i = t.get i := by
  induction t with
  | e => intro i; rfl
  | n o l r il ir =>
    intro i
    cases i with
    | zero => rfl
    | succ j =>
      show Bool.rec (motive := fun _ => Option α) (gR r (Nat.div j 2)) (gR l (Nat.div j 2)) (Nat.beq (Nat.mod j 2) 0) = _
      simp only [Tr.get]
      cases Nat.beq (Nat.mod j 2) 0 with
      | true => exact il _
      | false => exact ir _
noncomputable def mkR (f : Nat) : Nat → α → (Tr α → Option β) → Option β :=
  Nat.rec (motive := fun _ => Nat → α → (Tr α → Option β) → Option β) (fun _ _ _ => none)
    (fun _ ih i v k => Nat.rec (motive := fun _ => Option β) (k (.n (some v) .e .e)) (fun j _ => Bool.rec (motive := fun _ => Option β) (ih (Nat.div j 2) v fun r => k (.n none .e r)) (ih (Nat.div j 2) v fun l => k (.n none l .e)) (Nat.beq (Nat.mod j 2) 0)) i) f
noncomputable def pR (t : Tr α) : Nat → α → (Tr α → Option β) → Option β :=
  Tr.rec (motive := fun _ => Nat → α → (Tr α → Option β) → Option β) (mkR 40)
    (fun o l r il ir i v k => Nat.rec (motive := fun _ => Option β) (k (.n (some v) l r)) (fun j _ => Bool.rec (motive := fun _ => Option β) (ir (Nat.div j 2) v fun r => k (.n o l r)) (il (Nat.div j 2) v fun l => k (.n o l r)) (Nat.beq (Nat.mod j 2) 0)) i) t
theorem half (j : Nat) : (Nat.beq (Nat.mod j 2) 0 = true ∧ j = 2 * Nat.div j 2) ∨ (Nat.beq (Nat.mod j 2) 0 = false ∧ j = 2 * Nat.div j 2 + 1) := by
  have h : Nat.mod j 2 = j % 2 := rfl
  have h2 : Nat.div j 2 = j / 2 := rfl
  rw [h, h2]
  rcases Nat.mod_two_eq_zero_or_one j with e | e
  · left; rw [e]; exact ⟨rfl, by omega⟩
  · right; rw [e]; exact ⟨rfl, by omega⟩
/-- What is got behind a put. -/
theorem Tr.get_l (o : Option α) (l r : Tr α) (j q : Nat) (h : Nat.beq (Nat.mod j 2) 0 = true) : (Tr.n o l r).get (j + 1) = l.get (Nat.div j 2) := by simp only [Tr.get, h]
theorem Tr.get_r (o : Option α) (l r : Tr α) (j q : Nat) (h : Nat.beq (Nat.mod j 2) 0 = false) : (Tr.n o l r).get (j + 1) = r.get (Nat.div j 2) := by simp only [Tr.get, h]
theorem Tr.get_e (i : Nat) : (Tr.e : Tr α).get i = none := rfl
theorem put_ok {o o' : Option α} {l l' r r' : Tr α} {v : α} {i : Nat} (h0 : (Tr.n o' l' r').get 0 = if 0 = i then some v else (Tr.n o l r).get 0)
    (hl : ∀ q, l'.get q = if 2 * q + 1 = i then some v else l.get q) (hr : ∀ q, r'.get q = if 2 * q + 2 = i then some v else r.get q) : ∀ x, (Tr.n o' l' r').get x = if x = i then some v else (Tr.n o l r).get x := by
  intro x
  cases x with
  | zero => exact h0
  | succ j =>
    rcases half j with ⟨a, b⟩ | ⟨a, b⟩
    · rw [Tr.get_l _ _ _ _ 0 a, Tr.get_l _ _ _ _ 0 a, hl]
      congr 1
      exact propext ⟨fun e => by omega, fun e => by omega⟩
    · rw [Tr.get_r _ _ _ _ 0 a, Tr.get_r _ _ _ _ 0 a, hr]
      congr 1
      exact propext ⟨fun e => by omega, fun e => by omega⟩
theorem mkR_ok {r : β} : ∀ (f : Nat) {i : Nat} {v : α} {k : Tr α → Option β}, mkR f i v k = some r → ∃ t', k t' = some r ∧ ∀ x, t'.get x = if x = i then some v else none
  | 0, i, v, k, h => by cases h
  | f + 1, i, v, k, h => by
    have hh : mkR (f + 1) i v k = Nat.rec (motive := fun _ => Option β) (k (.n (some v) .e .e)) (fun j _ => Bool.rec (motive := fun _ => Option β) (mkR f (Nat.div j 2) v fun r => k (.n none .e r)) (mkR f (Nat.div j 2) v fun l => k (.n none l .e)) (Nat.beq (Nat.mod j 2) 0)) i := rfl
    rw [hh] at h
    have hE : ∀ x, (Tr.n (none : Option α) .e .e).get x = none := fun x => by
      cases x with
      | zero => rfl
      | succ j => rcases half j with ⟨a, _⟩ | ⟨a, _⟩ <;> simp [Tr.get, a]
    cases i with
    | zero => exact ⟨_, h, fun x => by rw [put_ok (o := none) (l := .e) (r := .e) (i := 0) (v := v) rfl (fun q => by rw [if_neg (by omega)]) (fun q => by rw [if_neg (by omega)])]; split <;> first | rfl | exact hE x⟩
    | succ j =>
      rcases half j with ⟨a, b⟩ | ⟨a, b⟩
      · simp only [a] at h
        obtain ⟨l', h1, h2⟩ := mkR_ok f h
        exact ⟨_, h1, fun x => by rw [put_ok (o := none) (o' := none) (l := .e) (r := .e) (i := j + 1) (v := v) (by rw [if_neg (by omega)]; rfl) (fun q => by rw [h2]; congr 1; exact propext ⟨fun e => by omega, fun e => by omega⟩) (fun q => by rw [if_neg (by omega)])]; split <;> first | rfl | exact hE x⟩
      · simp only [a] at h
        obtain ⟨l', h1, h2⟩ := mkR_ok f h
        exact ⟨_, h1, fun x => by rw [put_ok (o := none) (o' := none) (l := .e) (r := .e) (i := j + 1) (v := v) (by rw [if_neg (by omega)]; rfl) (fun q => by rw [if_neg (by omega)]) (fun q => by rw [h2]; congr 1; exact propext ⟨fun e => by omega, fun e => by omega⟩)]; split <;> first | rfl | exact hE x⟩
theorem pR_ok {r : β} {v : α} (t : Tr α) : ∀ {i : Nat} {k : Tr α → Option β}, pR t i v k = some r → ∃ t', k t' = some r ∧ ∀ x, t'.get x = if x = i then some v else t.get x := by
  induction t with
  | e => intro i k h; exact mkR_ok 40 h
  | n o l q il ir =>
    intro i k h
    have hh : pR (.n o l q) i v k = Nat.rec (motive := fun _ => Option β) (k (.n (some v) l q)) (fun j _ => Bool.rec (motive := fun _ => Option β) (pR q (Nat.div j 2) v fun r => k (.n o l r)) (pR l (Nat.div j 2) v fun l => k (.n o l q)) (Nat.beq (Nat.mod j 2) 0)) i := rfl
    rw [hh] at h
    cases i with
    | zero => exact ⟨_, h, put_ok rfl (fun q => by rw [if_neg (by omega)]) (fun q => by rw [if_neg (by omega)])⟩
    | succ j =>
      rcases half j with ⟨a, b⟩ | ⟨a, b⟩
      · simp only [a] at h
        obtain ⟨l', h1, h2⟩ := il h
        exact ⟨_, h1, put_ok rfl (fun q => by rw [h2]; congr 1; exact propext ⟨fun e => by omega, fun e => by omega⟩) (fun q => by rw [if_neg (by omega)])⟩
      · simp only [a] at h
        obtain ⟨l', h1, h2⟩ := ir h
        exact ⟨_, h1, put_ok rfl (fun q => by rw [if_neg (by omega)]) (fun q => by rw [h2]; congr 1; exact propext ⟨fun e => by omega, fun e => by omega⟩)⟩
end
end Go.Proofs.YtlpeldimmaajkaaGreat.Fw
