/- FRAMEWORK 32: the evaluator once more, for concrete runs: the heap and the variables lie in trees, all that is kept is worked out at once. Definitions alone. FRAMEWORK 33: texts of functions as data, and what they come to: on lists, and, for concrete runs, on trees. -/
import Derived.Test.YtgnkjpbecgpjoaaGreatDoorFwQ
set_option linter.unusedVariables false
namespace Go.Proofs.YtgnkjpbecgpjoaaGreatDoor.Fw
open Go Go.RowKit

universe u
section
variable {α : Type u} {β : Type}

/-- A tree of numbered things. -/
inductive Tr (α : Type u) where
  | e
  | n (o : Option α) (l r : Tr α)

def Tr.get : Tr α → Nat → Option α
  | .e, _ => none
  | .n o l r, i => (match i with
    | 0 => o
    | j + 1 => (match Nat.beq (Nat.mod j 2) 0 with
      | true => l.get (Nat.div j 2)
      | false => r.get (Nat.div j 2)))

def Tr.put : Nat → Tr α → Nat → α → (Tr α → Option β) → Option β
  | 0, _, _, _, _ => none
  | f + 1, t, i, v, k => (match i with
    | 0 => (match t with | .e => k (.n (some v) .e .e) | .n _ l r => k (.n (some v) l r))
    | j + 1 => (match t with
      | .e => (match Nat.beq (Nat.mod j 2) 0 with
        | true => Tr.put f .e (Nat.div j 2) v fun l => k (.n none l .e)
        | false => Tr.put f .e (Nat.div j 2) v fun r => k (.n none .e r))
      | .n o l r => (match Nat.beq (Nat.mod j 2) 0 with
        | true => Tr.put f l (Nat.div j 2) v fun l => k (.n o l r)
        | false => Tr.put f r (Nat.div j 2) v fun r => k (.n o l r))))

/-! What is worked out at once. -/
def fN (n : Nat) (k : Nat → Option β) : Option β := match n with | 0 => k 0 | m + 1 => k (Nat.succ m)
def fI (n : Int) (k : Int → Option β) : Option β := match n with | .ofNat m => fN m fun m => k (.ofNat m) | .negSucc m => fN m fun m => k (.negSucc m)
def fB (b : Bool) (k : Bool → Option β) : Option β := match b with | true => k true | false => k false
def fL : List α → (List α → Option β) → Option β
  | [], k => k []
  | a :: l, k => fL l fun l => k (a :: l)
def fM (f : α → (α → Option β) → Option β) : List α → (List α → Option β) → Option β
  | [], k => k []
  | a :: l, k => f a fun a => fM f l fun l => k (a :: l)
def fO (a : Option Nat) (k : Option Nat → Option β) : Option β := match a with | none => k none | some n => fN n fun n => k (some n)
def fA (a : Option Addr) (k : Option Addr → Option β) : Option β :=
  match a with
  | none => k none
  | some ⟨b, o, s⟩ => fN b fun b => fN o fun o => fO s fun s => k (some ⟨b, o, s⟩)
def fF (f : Fn) (k : Fn → Option β) : Option β := match f with | .func f => fN f fun f => k (.func f) | f => k f
def fS (s : ByteArray) (k : ByteArray → Option β) : Option β := match s with | ⟨⟨l⟩⟩ => fL l fun l => k ⟨⟨l⟩⟩
def fV : Nat → Value → (Value → Option β) → Option β
  | 0, v, k => k v
  | d + 1, v, k => (match v with
    | .int kd n => fI n fun n => k (.int kd n)
    | .bool b => fB b fun b => k (.bool b)
    | .string s => fS s fun s => k (.string s)
    | .pointer a => fA a fun a => k (.pointer a)
    | .slice a l c => fA a fun a => fN l fun l => fN c fun c => k (.slice a l c)
    | .map r => fO r fun r => k (.map r)
    | .agg cs => (match cs with | ⟨l⟩ => fM (fV d) l fun l => k (.agg ⟨l⟩))
    | .tuple cs => (match cs with | ⟨l⟩ => fM (fV d) l fun l => k (.tuple ⟨l⟩))
    | .iface t v => fN t fun t => fV d v fun v => k (.iface t v)
    | .func f x y => fF f fun f => (match x, y with | ⟨x⟩, ⟨y⟩ => fM (fV d) x fun x => fM (fV d) y fun y => k (.func f ⟨x⟩ ⟨y⟩))
    | v => k v)
/-- A block. -/
def fOb (o : AObj) (k : AObj → Option β) : Option β :=
  match o with
  | .cells cs esz own => fL cs fun cs => fN esz fun esz => fB own fun own => k (.cells cs esz own)
  | .map es bs clk => fL es fun es => fM fN bs fun bs => fN clk fun clk => k (.map es bs clk)
  | .iter r since seen last => fO r fun r => fN since fun since => fM fN seen fun seen => fN last fun last => k (.iter r since seen last)
  | .dead => k .dead

/-! The heap. -/
structure KH where
  n : Nat
  t : Tr AObj

def KH.get (T : KH) (b : Nat) : Option AObj := match T with | ⟨n, t⟩ => (match Nat.blt b n with | true => t.get b | false => none)
def KH.set (T : KH) (b : Nat) (o : AObj) (k : KH → Option β) : Option β := match T with | ⟨n, t⟩ => fOb o fun o => Tr.put 40 t b o fun t => k ⟨n, t⟩
def KH.push (T : KH) (o : AObj) (k : KH → Option β) : Option β := match T with | ⟨n, t⟩ => fOb o fun o => Tr.put 40 t n o fun t => k ⟨Nat.succ n, t⟩
/-- Cells with one put. -/
def KH.setc (T : KH) (b : Nat) (o : AObj) (k : KH → Option β) : Option β := match T with | ⟨n, t⟩ => Tr.put 40 t b o fun t => k ⟨n, t⟩
/-- The list that it is. -/
def KH.H (T : KH) : Heap := (List.range T.n).map fun i => (T.t.get i).getD .dead

def nth : List α → Nat → Option α
  | [], _ => none
  | a :: l, i => (match i with | 0 => some a | j + 1 => nth l j)
/-- A list with an element put, if it is there. -/
def setL : List α → Nat → α → (List α → Option β) → Option β
  | [], _, _, _ => none
  | a :: l, i, v, k => (match i with | 0 => k (v :: l) | j + 1 => setL l j v fun l => k (a :: l))

/-! Operations that change nothing. -/
def kldc (T : KH) (b : Nat) (k : List Value → Option β) : Option β := match T.get b with | some (.cells cs _ _) => k cs | _ => none
def kld (kd : Option KD) (T : KH) (a : Addr) (k : Value → Option β) : Option β :=
  match kd with
  | some (.agg n) => kldc T a.block fun cs => (match Nat.ble (Nat.add a.off n) cs.length with | true => k (.agg (range cs a.off n).toArray) | false => none)
  | kd => kldc T a.block fun cs => onSome (nth cs a.off) fun v => kTy kd v k
def kesOk (T : KH) (b sz : Nat) (k : Option β) : Option β := match T.get b with | some (.cells _ esz _) => (match Nat.beq (Nat.mod esz tyM) sz with | true => k | false => none) | _ => none
def kslSl (T : KH) (sz : Nat) (a : Option Addr) (len cap : Nat) (l h : Int) (k : Value → Option β) : Option β :=
  match a with
  | none => if l = 0 ∧ h = 0 ∧ len = 0 ∧ cap = 0 then k (.slice none 0 0) else none
  | some a => kesOk T a.block sz (if 0 ≤ l ∧ l ≤ h ∧ (h ≤ len ∨ (¬ unk ≤ cap ∧ h ≤ cap) ∨ (unk ≤ cap ∧ h ≤ (cap - unk : Nat))) then k (.slice (some (a.add (l.toNat * sz))) (h.toNat - l.toNat) (slCap len cap l.toNat)) else none)
def kslSl3 (T : KH) (sz : Nat) (a : Option Addr) (len cap : Nat) (l h m : Int) (k : Value → Option β) : Option β :=
  match a with
  | none => none
  | some a => kesOk T a.block sz (if 0 ≤ l ∧ l ≤ h ∧ h ≤ m ∧ (m ≤ len ∨ (¬ unk ≤ cap ∧ m ≤ cap) ∨ (unk ≤ cap ∧ m ≤ (cap - unk : Nat))) then k (.slice (some (a.add (l.toNat * sz))) (h.toNat - l.toNat) (m.toNat - l.toNat)) else none)
def kslArr (T : KH) (sz n : Nat) (a : Addr) (l h : Int) (k : Value → Option β) : Option β :=
  kesOk T a.block sz (kldc T a.block fun cs => if 0 ≤ l ∧ l ≤ h ∧ h ≤ (n : Int) ∧ a.off + n * sz ≤ cs.length then k (.slice (some (a.add (l.toNat * sz))) (h.toNat - l.toNat) (n - l.toNat)) else none)
def kldmB (T : KH) (b : Nat) (k : List (Value × Value) → List Nat → Nat → Option β) : Option β := match T.get b with | some (.map es bs clk) => k es bs clk | _ => none
def kldmo (T : KH) (r : Option Nat) (k : List (Value × Value) → Option β) : Option β := match r with | none => k [] | some r => kldmB T r fun es _ _ => k es
def klookup (P : Program) (mt : TypeId) (T : KH) (x ix : Value) (ok : Bool) (k : Value → Option β) : Option β :=
  match P.underlying mt with
  | some (.map kt et) => kKey P kt ix fun key => kMp x fun r => kldmo T r fun es => (match keysOk key es with
     | false => none
     | true => (match mfind key es with
      | some v => kTy (kdOf P et) v fun v => k (okV ok v true)
      | none => onSome (zeroOf P et) fun z => (match plainV z with | true => k (okV ok z false) | false => none)))
  | _ => none
def kfromU (T : KH) (a : Addr) (u n : Nat) (k : Option β) : Option β :=
  match T.get a.block with
  | some (.cells cs esz _) => if a.off = 0 ∧ n ≤ cs.length ∧ n ≠ 0 ∧ esz / tyM = u + 1 then k else none
  | _ => none
/-- len. -/
def klen (P : Program) (T : KH) (at_ : TypeId) (v : Value) (k : Value → Option β) : Option β :=
  match P.underlying at_ with
  | some .string => kStr v fun s => k (.int .i64 s.size)
  | some (.slice _) => kSl v fun _ len _ => k (.int .i64 len)
  | some (.map _ _) => kMp v fun r => kldmo T r fun es => k (.int .i64 es.length)
  | _ => none
/-- Whole numbers that fit. -/
def kwr (kd : IntKind) (n : Int) (k : Int → Option β) : Option β :=
  match kd with
  | .i64 => (match n with
      | .ofNat m => (match Nat.blt m 9223372036854775808 with | true => k (.ofNat m) | false => k (IntKind.i64.wrap (.ofNat m)))
      | .negSucc m => (match Nat.blt m 9223372036854775808 with | true => k (.negSucc m) | false => k (IntKind.i64.wrap (.negSucc m))))
  | kd => k (kd.wrap n)
/-- Whole numbers put together, the frequent ways. -/
def kbi (op : BinOp) (kd : IntKind) (a b : Int) (k : Value → Option β) : Option β :=
  match op with
  | .add => kwr kd (a + b) fun n => k (.int kd n)
  | .sub => kwr kd (a - b) fun n => k (.int kd n)
  | .eql => k (.bool (eqI a b))
  | .neq => k (.bool (!(eqI a b)))
  | .lss => k (.bool (ltI a b))
  | .geq => k (.bool (!(ltI a b)))
  | .gtr => k (.bool (ltI b a))
  | .leq => k (.bool (!(ltI b a)))
  | op => binInt op kd a b k
/-! Operations that change something. -/
def kst (n : Nat) (T : KH) (a : Addr) (v : Value) (k : Value → KH → Option β) : Option β :=
  match T.get a.block with
  | some (.cells cs esz true) => (match v with
      | .agg vs => if vs.size = n ∧ a.off + n ≤ cs.length then T.set a.block (.cells (splice cs a.off vs.toList) esz true) fun T => k undef T else none
      | v => (match Nat.beq n 1 with
          | true => setL cs a.off v fun cs => T.setc a.block (.cells cs esz true) fun T => k undef T
          | false => none))
  | _ => none
def kfirst (T : KH) (sz : Nat) (v : Value) (k : Nat → List Value → Option β) : Option β :=
  match v with
  | .slice none len _ => if len = 0 then k 0 [] else none
  | .slice (some a) len _ => kldc T a.block fun cs => if a.off + len * sz ≤ cs.length then k len (range cs a.off (len * sz)) else none
  | .string s => (match Nat.beq sz 1 with | true => fM (fV 1) (s.data.toList.map fun b => .int .u8 b.toNat) fun l => k s.size l | false => none)
  | _ => none
def kapp (P : Program) (e : TypeId) (T : KH) (s : Value) (n : Nat) (nw : List Value) (k : Value → KH → Option β) : Option β :=
  kSl s fun a len cap =>
    if (len + n) * P.bytesOf e ≤ 140737488355328 ∧ len + n ≤ 140737488355328 then
      match a with
      | none => if len = 0 ∧ cap = 0 then
          (if n = 0 then k (.slice none 0 0) T else T.push (.cells nw (tyE P e) true) fun T2 => k (.slice (some ⟨T.n, 0, none⟩) n unk) T2) else none
      | some a =>
        match T.get a.block with
        | some (.cells cs esz own) =>
          if a.off + len * P.cellsOf e ≤ cs.length ∧ szOk esz (P.cellsOf e) e = true then
            (if unk ≤ cap then
              (if unk < cap ∧ len + n ≤ cap - unk ∧ own = true ∧ a.off + (len + n) * P.cellsOf e ≤ cs.length then
                T.set a.block (.cells (splice cs (a.off + len * P.cellsOf e) nw) esz true) fun T => k (.slice (some a) (len + n) cap) T
              else if own = true then T.set a.block .dead fun T1 => T1.push (.cells (range cs a.off (len * P.cellsOf e) ++ nw) (tzOff a.off esz) true) fun T2 => k (.slice (some ⟨T.n, 0, none⟩) (len + n) unk) T2 else none)
            else if len + n ≤ cap then
              (if own = true ∧ a.off + (len + n) * P.cellsOf e ≤ cs.length then T.set a.block (.cells (splice cs (a.off + len * P.cellsOf e) nw) esz true) fun T => k (.slice (some a) (len + n) cap) T else none)
            else T.push (.cells (range cs a.off (len * P.cellsOf e) ++ nw) (tyE P e) true) fun T2 => k (.slice (some ⟨T.n, 0, none⟩) (len + n) unk) T2)
          else none
        | _ => none
    else none
def kcpy (T : KH) (sz : Nat) (a : Option Addr) (len n : Nat) (cs : List Value) (k : Nat → KH → Option β) : Option β :=
  match a with
  | none => if len = 0 then k 0 T else none
  | some a => (match T.get a.block with
      | some (.cells old esz true) => if a.off + len * sz ≤ old.length then T.set a.block (.cells (splice old a.off (cs.take (min n len * sz))) esz true) fun T => k (min n len) T else none
      | _ => none)
def kclr (T : KH) (sz : Nat) (z : Value) (a : Option Addr) (len : Nat) (k : KH → Option β) : Option β :=
  match a with
  | none => k T
  | some a => (match T.get a.block with
      | some (.cells old esz true) => if a.off + len * sz ≤ old.length then T.set a.block (.cells (splice old a.off (zeroCellsOf z len)) esz true) k else none
      | _ => none)
def kdele (T : KH) (r : Option Nat) (key : Value) (k : KH → Option β) : Option β :=
  match r with
  | none => k T
  | some r => kldmB T r fun es bs clk => (match keysOk key es with | true => T.set r (.map (mdel key es) (bdel key es bs) clk) k | false => none)
def kmupd (T : KH) (r : Nat) (key v : Value) (k : KH → Option β) : Option β :=
  kldmB T r fun es bs clk => (match keysOk key es with | true => T.set r (.map (mset key v es) (bset key es bs clk) (cset key es clk)) k | false => none)
def kment (P : Program) (et : TypeId) (T : KH) (r : Nat) (key : Value) (k : Value → KH → Option β) : Option β :=
  kldmB T r fun es bs clk => (match keysOk key es with
    | true => (match midx key es with
        | some j => onSome es[j]? fun e => onSome bs[j]? fun b => T.set r (.map (es.set j (key, e.2)) bs clk) fun T => k (.tuple #[e.2, .int .i64 b]) T
        | none => onSome (zeroOf P et) fun z => (match plainV z with | true => T.set r (.map (es ++ [(key, z)]) (bs ++ [clk]) (clk + 1)) fun T => k (.tuple #[z, .int .i64 clk]) T | false => none))
    | false => none)
def kesto (T : KH) (r : Nat) (n : Int) (v : Value) (k : KH → Option β) : Option β :=
  kldmB T r fun es bs clk => onSome (bidx n bs) fun j => onSome es[j]? fun e => T.set r (.map (es.set j (e.1, v)) bs clk) k
def kentr (T : KH) (a : Addr) (k : Value → Option β) : Option β :=
  match T.get a.block with
  | some (.iter (some r) _ seen last) => if a.off = 0 then onSome seen.getLast? fun s => kldmB T r fun es bs clk => if clk = last then onSome (bidx s bs) fun j => onSome es[j]? fun e => k (.tuple #[e.1, e.2]) else none else none
  | _ => none
def kuStr (T : KH) (a : Addr) (n : Int) (u one : Nat) (k : ByteArray → KH → Option β) : Option β :=
  match T.get a.block with
  | some (.cells cs esz true) => if 0 < n ∧ n ≤ 9223372036854775807 ∧ n.toNat ≤ cs.length ∧ a.off = 0 ∧ esz / tyM = u + 1 ∧ one = 1 then
      onSome (bytesOf (cs.take n.toNat)) fun l => T.set a.block .dead fun T => k ⟨l.toArray⟩ T else none
  | _ => none


/-! The same? -/
def eqT : Tr AObj → Tr AObj → Bool
  | .e, .e => true
  | .n o l r, .n p m s => (match eqO eqOb o p, eqT l m with | true, true => eqT r s | _, _ => false)
  | _, _ => false
def eqR (a b : Value × KH) : Bool := match eqV 8 a.1 b.1, eqN a.2.n b.2.n with | true, true => eqT a.2.t b.2.t | _, _ => false

abbrev KFs := Nat → List Value → KH → Option (Value × KH)
/-! Iterations over maps: whatever comes, it comes to the same. -/
abbrev KR := Option (Value × KH)
def kmeetO : Option AObj → Option AObj → Option AObj
  | some a, some b => (match eqOb a b with | true => some a | false => none)
  | _, _ => none
def kmeetT : Tr AObj → Tr AObj → Tr AObj
  | .n o l r, .n p m s => .n (kmeetO o p) (kmeetT l m) (kmeetT r s)
  | _, _ => .e
def kmeetR (x y : Value × KH) : KR := match eqV 8 x.1 y.1, eqN x.2.n y.2.n with
  | true, true => some (x.1, ⟨x.2.n, kmeetT x.2.t y.2.t⟩)
  | _, _ => none
def kallEq : List KR → KR
  | [] => none
  | [x] => x
  | x :: y :: l => (match x, kallEq (y :: l) with
      | some a, some b => kmeetR a b
      | _, _ => none)
def knextV (T : KH) (b r since : Nat) (seen : List Nat) (clk : Nat) (k : Value → KH → KR) : Option ((Value × Value) × Nat) → KR
  | none => T.set b .dead fun T => k (.tuple #[.bool false]) T
  | some e => T.set b (.iter (some r) since (seen ++ [e.2]) clk) fun T => k (.tuple #[.bool true, e.1.1, e.1.2]) T
end
end Go.Proofs.YtgnkjpbecgpjoaaGreatDoor.Fw
set_option linter.unusedVariables false
namespace Go.Proofs.YtgnkjpbecgpjoaaGreatDoor.Fw
open Go Go.RowKit

/-- A function's text. -/
inductive M : Type 1
  | ret (v : Value)
  | fail
  | jmp (key : Nat) (vs : List Value)
  | onS {α : Type} (x : Option α) (k : α → M)
  | opt {α : Type} (x : Option α) (a : M) (k : α → M)
  | bool (b : Bool) (x y : M)
  | ite (c : Prop) [d : Decidable c] (x : M)
  | nite (c : Prop) [d : Decidable c] (x : M)
  | kInt (kd : IntKind) (v : Value) (k : Int → M)
  | kAnyInt (v : Value) (k : IntKind → Int → M)
  | kBool (v : Value) (k : Bool → M)
  | kStr (v : Value) (k : ByteArray → M)
  | kPtr (v : Value) (k : Option Addr → M)
  | kSl (v : Value) (k : Option Addr → Nat → Nat → M)
  | kMp (v : Value) (k : Option Nat → M)
  | kAgg (v : Value) (k : Array Value → M)
  | kTup (v : Value) (k : Array Value → M)
  | nilI (v : Value) (x y : M)
  | nilF (v : Value) (x y : M)
  | wr (kd : IntKind) (n : Int) (k : Int → M)
  | cmp (op : BinOp) (a b : Int) (k : Bool → M)
  | tyI (kd : IntKind) (v : Value) (k : Value → M)
  | arV (op : BinOp) (kd : IntKind) (x y : Value) (k : Value → M)
  | cmpV (op : BinOp) (kd : IntKind) (x y : Value) (k : Bool → M)
  | shV (op : BinOp) (x y : Value) (k : Value → M)
  | mmV (mx : Bool) (kd : IntKind) (x y : Value) (k : Value → M)
  | cvtV (ks kd : IntKind) (v : Value) (k : Value → M)
  | fxI (n : Int) (k : Int → M)
  | fxB (b : Bool) (k : Bool → M)
  | fxV (v : Value) (k : Value → M)
  | inb (i : Int) (n : Nat) (x : M)
  | ldc (b : Nat) (k : List Value → M)
  | ld (b off : Nat) (k : Value → M)
  | ldn (b off n : Nat) (k : Array Value → M)
  | nthA (cs : Array Value) (i : Nat) (k : Value → M)
  | sub (cs : Array Value) (off n : Nat) (k : Array Value → M)
  | firstC (sz : Nat) (v : Value) (k : Nat → List Value → M)
  | app (e : TypeId) (s : Value) (n : Nat) (nw : List Value) (k : Value → M)
  | cpy (sz : Nat) (a : Option Addr) (len n : Nat) (nw : List Value) (k : Nat → M)
  | clr (sz : Nat) (z : Value) (a : Option Addr) (len : Nat) (x : M)
  | kKey (kt : TypeId) (v : Value) (k : Value → M)
  | dele (r : Option Nat) (key : Value) (x : M)
  | mupd (r : Nat) (key v : Value) (x : M)
  | ment (et : TypeId) (r : Nat) (key : Value) (k : Value → M)
  | esto (r : Nat) (n : Int) (v : Value) (x : M)
  | lookupK (mt : TypeId) (x ix : Value) (ok : Bool) (k : Value → M)
  | ldmo (r : Option Nat) (k : List (Value × Value) → M)
  | rng (r : Option Nat) (k : Value → M)
  | nxt (a : Addr) (k : Value → M)
  | entr (a : Addr) (k : Value → M)
  | uStr (a : Addr) (n : Int) (u one : Nat) (k : ByteArray → M)
  | fromU (a : Addr) (u n : Nat) (x : M)
  | slStr (s : ByteArray) (l h : Int) (k : ByteArray → M)
  | cat (a b : ByteArray) (k : ByteArray → M)
  | sEq (a b : ByteArray) (k : Bool → M)
  | byte (s : ByteArray) (i : Nat) (k : Int → M)
  | slSl (sz : Nat) (a : Option Addr) (len cap : Nat) (l h : Int) (k : Value → M)
  | slSl3 (sz : Nat) (a : Option Addr) (len cap : Nat) (l h m : Int) (k : Value → M)
  | slArr (sz n : Nat) (a : Addr) (l h : Int) (k : Value → M)
  | st (n : Nat) (a : Addr) (v : Value) (x : M)
  | new (o : AObj) (k : Nat → M)
  | newB (s : ByteArray) (k : Nat → M)
  | cellsOk (v : Value) (x : M)
  | cellsOks (vs : List Value) (x : M)
  | eqv (t : TypeId) (x y : Value) (k : Bool → M)
  | ptrEq (x y : Option Addr) (k : Bool → M)
  | tyAs (t : TypeId) (ok : Bool) (v : Value) (k : Value → M)
  | call (f : Nat) (args : List Value) (k : Value → M)
  | callV (v : Value) (args : List Value) (k : Value → M)
  | snap (b : Nat) (k : Option AObj → M)
  | same (b : Nat) (o : Option AObj) (x : M)

/-- An iteration goes on, of an address. -/
noncomputable def nxA (H : Heap) (a : Addr) (k : Value → Heap → Option Res) : Option Res :=
  match Nat.beq a.off 0, H[a.block]? with
    | true, some (.iter none _ _ _) => k (.tuple #[.bool false]) (H.set a.block .dead)
    | true, some (.iter (some r) since seen last) => ldmB H r fun es bs clk => onSome (nextC es bs since seen last) fun l => allEq (l.map (nextV H a.block r since seen clk k))
    | _, _ => none
def rngA {β : Type} (H : Heap) (r : Option Nat) (k : Value → Heap → Option β) : Option β :=
  match r with
  | none => k (.pointer (some ⟨H.length, 0, none⟩)) (H ++ [.iter none 0 [] 0])
  | some r => ldmB H r fun _ _ clk => k (.pointer (some ⟨H.length, 0, none⟩)) (H ++ [.iter (some r) clk [] clk])
open Classical in
noncomputable def sameO (H : Heap) (b : Nat) (o : Option AObj) (k : R) : R := if H[b]? = o then k else none

/-- WHAT A TEXT COMES TO. -/
noncomputable def M.run (P : Program) (Γ : Fs) (J : Nat → List Value → Heap → R) : M → Heap → R
  | .ret v, H => some (v, H)
  | .fail, H => none
  | .jmp key vs, H => J key vs H
  | .onS x k, H => onSome x fun a => (k a).run P Γ J H
  | .opt x a k, H => (match x with | none => a.run P Γ J H | some y => (k y).run P Γ J H)
  | .bool b x y, H => (match b with | true => x.run P Γ J H | false => y.run P Γ J H)
  | @M.ite c d x, H => if c then x.run P Γ J H else none
  | @M.nite c d x, H => if c then none else x.run P Γ J H
  | .kInt kd v k, H => Fw.kInt kd v fun n => (k n).run P Γ J H
  | .kAnyInt v k, H => Fw.kAnyInt v fun kd n => (k kd n).run P Γ J H
  | .kBool v k, H => Fw.kBool v fun b => (k b).run P Γ J H
  | .kStr v k, H => Fw.kStr v fun b => (k b).run P Γ J H
  | .kPtr v k, H => Fw.kPtr v fun b => (k b).run P Γ J H
  | .kSl v k, H => Fw.kSl v fun a l c => (k a l c).run P Γ J H
  | .kMp v k, H => Fw.kMp v fun r => (k r).run P Γ J H
  | .kAgg v k, H => Fw.kAgg v fun cs => (k cs).run P Γ J H
  | .kTup v k, H => Fw.kTup v fun cs => (k cs).run P Γ J H
  | .nilI v x y, H => (match v with | .nilIface => x.run P Γ J H | .iface _ _ => y.run P Γ J H | _ => none)
  | .nilF v x y, H => (match v with | .nilFunc => x.run P Γ J H | .func (.func _) _ _ => y.run P Γ J H | _ => none)
  | .wr kd n k, H => (k (kd.wrap n)).run P Γ J H
  | .cmp op a b k, H => (k (cmpB op a b)).run P Γ J H
  | .tyI kd v k, H => Fw.kIntS kd v fun v => (k v).run P Γ J H
  | .arV op kd x y k, H => Fw.arV op kd x y fun v => (k v).run P Γ J H
  | .cmpV op kd x y k, H => Fw.cmpV op kd x y fun b => (k b).run P Γ J H
  | .shV op x y k, H => Fw.shV op x y fun v => (k v).run P Γ J H
  | .mmV mx kd x y k, H => Fw.mmV mx kd x y fun v => (k v).run P Γ J H
  | .cvtV ks kd v k, H => Fw.cvtV ks kd v fun v => (k v).run P Γ J H
  | .fxI n k, H => (k n).run P Γ J H
  | .fxB b k, H => (k b).run P Γ J H
  | .fxV v k, H => (k v).run P Γ J H
  | .inb i n x, H => if 0 ≤ i ∧ i < (n : Nat) then x.run P Γ J H else none
  | .ldc b k, H => Fw.ldc H b fun cs => (k cs).run P Γ J H
  | .ld b off k, H => Fw.ldc H b fun cs => onSome cs[off]? fun v => (k v).run P Γ J H
  | .ldn b off n k, H => Fw.ldc H b fun cs => if off + n ≤ cs.length then (k (range cs off n).toArray).run P Γ J H else none
  | .nthA cs i k, H => onSome cs[i]? fun v => (k v).run P Γ J H
  | .sub cs off n k, H => (k (cs.extract off (off + n))).run P Γ J H
  | .firstC sz v k, H => Fw.firstC H sz v fun n l => (k n l).run P Γ J H
  | .app e s n nw k, H => Fw.app P e H s n nw fun v H => (k v).run P Γ J H
  | .cpy sz a len n nw k, H => Fw.cpy H sz a len n nw fun m H => (k m).run P Γ J H
  | .clr sz z a len x, H => Fw.clr H sz z a len fun H => x.run P Γ J H
  | .kKey kt v k, H => Fw.kKey P kt v fun v => (k v).run P Γ J H
  | .dele r key x, H => Fw.dele H r key fun H => x.run P Γ J H
  | .mupd r key v x, H => Fw.mupd H r key v fun H => x.run P Γ J H
  | .ment et r key k, H => Fw.ment P et H r key fun v H => (k v).run P Γ J H
  | .esto r n v x, H => Fw.esto H r n v fun H => x.run P Γ J H
  | .lookupK mt x ix ok k, H => Fw.lookupK P mt H x ix ok fun v => (k v).run P Γ J H
  | .ldmo r k, H => Fw.ldmo H r fun es => (k es).run P Γ J H
  | .rng r k, H => rngA H r fun v H => (k v).run P Γ J H
  | .nxt a k, H => nxA H a fun v H => (k v).run P Γ J H
  | .entr a k, H => Fw.entr H a fun v => (k v).run P Γ J H
  | .uStr a n u one k, H => Fw.uStr H a n u one fun s H => (k s).run P Γ J H
  | .fromU a u n x, H => Fw.fromU H a u n (x.run P Γ J H)
  | .slStr s l h k, H => Fw.slStr s l h fun v => Fw.kStr v fun s => (k s).run P Γ J H
  | .cat a b k, H => if a.size + b.size ≤ 9223372036854775807 then (k (a ++ b)).run P Γ J H else none
  | .sEq a b k, H => (k (a.toList == b.toList)).run P Γ J H
  | .byte s i k, H => (k (byteAt s i)).run P Γ J H
  | .slSl sz a len cap l h k, H => Fw.slSl H sz a len cap l h fun v => (k v).run P Γ J H
  | .slSl3 sz a len cap l h m k, H => Fw.slSl3 H sz a len cap l h m fun v => (k v).run P Γ J H
  | .slArr sz n a l h k, H => Fw.slArr H sz n a l h fun v => (k v).run P Γ J H
  | .st n a v x, H => Fw.st n H a v fun _ H => x.run P Γ J H
  | .new o k, H => (k H.length).run P Γ J (H ++ [o])
  | .newB s k, H => (k H.length).run P Γ J (H ++ [.cells (s.data.toList.map fun b => .int .u8 b.toNat) 1 true])
  | .cellsOk v x, H => Fw.cellsOk v (x.run P Γ J H)
  | .cellsOks vs x, H => Fw.cellsOks vs (x.run P Γ J H)
  | .eqv t x y k, H => Fw.eqv P 20 t x y fun b => (k b).run P Γ J H
  | .ptrEq x y k, H => Fw.ptrEq x y fun b => (k b).run P Γ J H
  | .tyAs t ok v k, H => Fw.tyAs P t ok v fun v => (k v).run P Γ J H
  | .call f args k, H => onSome (Γ f) fun F => onSome (F args H) fun r => (k r.1).run P Γ J r.2
  | .callV v args k, H => (match v with | .func (.func f) first cap => onSome (Γ f) fun F => onSome (F (first.toList ++ args ++ cap.toList) H) fun r => (k r.1).run P Γ J r.2 | _ => none)
  | .snap b k, H => (k H[b]?).run P Γ J H
  | .same b o x, H => sameO H b o (x.run P Γ J H)

/-! The quick forms, by the recursors themselves. -/
universe u
section
variable {α : Type u} {β : Type}
noncomputable def gR (t : Tr α) : Nat → Option α :=
  Tr.rec (motive := fun _ => Nat → Option α) (fun _ => none) (fun o l r il ir i => Nat.rec (motive := fun _ => Option α) o (fun j _ => Bool.rec (motive := fun _ => Option α) (ir (Nat.div j 2)) (il (Nat.div j 2)) (Nat.beq (Nat.mod j 2) 0)) i) t
theorem gR_eq (t : Tr α) : ∀ i, gR t i = t.get i := by
  induction t with
  | e => intro i; rfl
  | n o l r il ir =>
    intro i
    cases i with
    | zero => rfl
    | succ j =>
      show Bool.rec (motive := fun _ => Option α) (gR r (Nat.div j 2)) (gR l (Nat.div j 2)) (Nat.beq (Nat.mod j 2) 0) = _
      simp only [Tr.get]
      cases Nat.beq (Nat.mod j 2) 0 with
      | true => exact il _
      | false => exact ir _
noncomputable def mkR (f : Nat) : Nat → α → (Tr α → Option β) → Option β :=
  Nat.rec (motive := fun _ => Nat → α → (Tr α → Option β) → Option β) (fun _ _ _ => none)
    (fun _ ih i v k => Nat.rec (motive := fun _ => Option β) (k (.n (some v) .e .e)) (fun j _ => Bool.rec (motive := fun _ => Option β) (ih (Nat.div j 2) v fun r => k (.n none .e r)) (ih (Nat.div j 2) v fun l => k (.n none l .e)) (Nat.beq (Nat.mod j 2) 0)) i) f
noncomputable def pR (t : Tr α) : Nat → α → (Tr α → Option β) → Option β :=
  Tr.rec (motive := fun _ => Nat → α → (Tr α → Option β) → Option β) (mkR 40)
    (fun o l r il ir i v k => Nat.rec (motive := fun _ => Option β) (k (.n (some v) l r)) (fun j _ => Bool.rec (motive := fun _ => Option β) (ir (Nat.div j 2) v fun r => k (.n o l r)) (il (Nat.div j 2) v fun l => k (.n o l r)) (Nat.beq (Nat.mod j 2) 0)) i) t
theorem half (j : Nat) : (Nat.beq (Nat.mod j 2) 0 = true ∧ j = 2 * Nat.div j 2) ∨ (Nat.beq (Nat.mod j 2) 0 = false ∧ j = 2 * Nat.div j 2 + 1) := by
  have h : Nat.mod j 2 = j % 2 := rfl
  have h2 : Nat.div j 2 = j / 2 := rfl
  rw [h, h2]
  rcases Nat.mod_two_eq_zero_or_one j with e | e
  · left; rw [e]; exact ⟨rfl, by omega⟩
  · right; rw [e]; exact ⟨rfl, by omega⟩
/-- What is got behind a put. -/
theorem Tr.get_l (o : Option α) (l r : Tr α) (j q : Nat) (h : Nat.beq (Nat.mod j 2) 0 = true) : (Tr.n o l r).get (j + 1) = l.get (Nat.div j 2) := by simp only [Tr.get, h]
theorem Tr.get_r (o : Option α) (l r : Tr α) (j q : Nat) (h : Nat.beq (Nat.mod j 2) 0 = false) : (Tr.n o l r).get (j + 1) = r.get (Nat.div j 2) := by simp only [Tr.get, h]
theorem Tr.get_e (i : Nat) : (Tr.e : Tr α).get i = none := rfl
theorem put_ok {o o' : Option α} {l l' r r' : Tr α} {v : α} {i : Nat} (h0 : (Tr.n o' l' r').get 0 = if 0 = i then some v else (Tr.n o l r).get 0)
    (hl : ∀ q, l'.get q = if 2 * q + 1 = i then some v else l.get q) (hr : ∀ q, r'.get q = if 2 * q + 2 = i then some v else r.get q) : ∀ x, (Tr.n o' l' r').get x = if x = i then some v else (Tr.n o l r).get x := by
  intro x
  cases x with
  | zero => exact h0
  | succ j =>
    rcases half j with ⟨a, b⟩ | ⟨a, b⟩
    · rw [Tr.get_l _ _ _ _ 0 a, Tr.get_l _ _ _ _ 0 a, hl]
      congr 1
      exact propext ⟨fun e => by omega, fun e => by omega⟩
    · rw [Tr.get_r _ _ _ _ 0 a, Tr.get_r _ _ _ _ 0 a, hr]
      congr 1
      exact propext ⟨fun e => by omega, fun e => by omega⟩
theorem mkR_ok {r : β} : ∀ (f : Nat) {i : Nat} {v : α} {k : Tr α → Option β}, mkR f i v k = some r → ∃ t', k t' = some r ∧ ∀ x, t'.get x = if x = i then some v else none
  | 0, i, v, k, h => by cases h
  | f + 1, i, v, k, h => by
    have hh : mkR (f + 1) i v k = Nat.rec (motive := fun _ => Option β) (k (.n (some v) .e .e)) (fun j _ => Bool.rec (motive := fun _ => Option β) (mkR f (Nat.div j 2) v fun r => k (.n none .e r)) (mkR f (Nat.div j 2) v fun l => k (.n none l .e)) (Nat.beq (Nat.mod j 2) 0)) i := rfl
    rw [hh] at h
    have hE : ∀ x, (Tr.n (none : Option α) .e .e).get x = none := fun x => by
      cases x with
      | zero => rfl
      | succ j => rcases half j with ⟨a, _⟩ | ⟨a, _⟩ <;> simp [Tr.get, a]
    cases i with
    | zero => exact ⟨_, h, fun x => by rw [put_ok (o := none) (l := .e) (r := .e) (i := 0) (v := v) rfl (fun q => by rw [if_neg (by omega)]) (fun q => by rw [if_neg (by omega)])]; split <;> first | rfl | exact hE x⟩
    | succ j =>
      rcases half j with ⟨a, b⟩ | ⟨a, b⟩
      · simp only [a] at h
        obtain ⟨l', h1, h2⟩ := mkR_ok f h
        exact ⟨_, h1, fun x => by rw [put_ok (o := none) (o' := none) (l := .e) (r := .e) (i := j + 1) (v := v) (by rw [if_neg (by omega)]; rfl) (fun q => by rw [h2]; congr 1; exact propext ⟨fun e => by omega, fun e => by omega⟩) (fun q => by rw [if_neg (by omega)])]; split <;> first | rfl | exact hE x⟩
      · simp only [a] at h
        obtain ⟨l', h1, h2⟩ := mkR_ok f h
        exact ⟨_, h1, fun x => by rw [put_ok (o := none) (o' := none) (l := .e) (r := .e) (i := j + 1) (v := v) (by rw [if_neg (by omega)]; rfl) (fun q => by rw [if_neg (by omega)]) (fun q => by rw [h2]; congr 1; exact propext ⟨fun e => by omega, fun e => by omega⟩)]; split <;> first | rfl | exact hE x⟩
theorem pR_ok {r : β} {v : α} (t : Tr α) : ∀ {i : Nat} {k : Tr α → Option β}, pR t i v k = some r → ∃ t', k t' = some r ∧ ∀ x, t'.get x = if x = i then some v else t.get x := by
  induction t with
  | e => intro i k h; exact mkR_ok 40 h
  | n o l q il ir =>
    intro i k h
    have hh : pR (.n o l q) i v k = Nat.rec (motive := fun _ => Option β) (k (.n (some v) l q)) (fun j _ => Bool.rec (motive := fun _ => Option β) (pR q (Nat.div j 2) v fun r => k (.n o l r)) (pR l (Nat.div j 2) v fun l => k (.n o l q)) (Nat.beq (Nat.mod j 2) 0)) i := rfl
    rw [hh] at h
    cases i with
    | zero => exact ⟨_, h, put_ok rfl (fun q => by rw [if_neg (by omega)]) (fun q => by rw [if_neg (by omega)])⟩
    | succ j =>
      rcases half j with ⟨a, b⟩ | ⟨a, b⟩
      · simp only [a] at h
        obtain ⟨l', h1, h2⟩ := il h
        exact ⟨_, h1, put_ok rfl (fun q => by rw [h2]; congr 1; exact propext ⟨fun e => by omega, fun e => by omega⟩) (fun q => by rw [if_neg (by omega)])⟩
      · simp only [a] at h
        obtain ⟨l', h1, h2⟩ := ir h
        exact ⟨_, h1, put_ok rfl (fun q => by rw [if_neg (by omega)]) (fun q => by rw [h2]; congr 1; exact propext ⟨fun e => by omega, fun e => by omega⟩)⟩
end
end Go.Proofs.YtgnkjpbecgpjoaaGreatDoor.Fw
