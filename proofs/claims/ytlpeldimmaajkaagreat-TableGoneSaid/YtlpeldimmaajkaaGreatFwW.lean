/- FRAMEWORK 32: the evaluator once more, for concrete runs: the heap and the variables lie in trees, all that is kept is worked out at once. Definitions alone. -/
import Derived.Test.YtlpeldimmaajkaaGreatFwN
set_option linter.unusedVariables false
namespace Go.Proofs.YtlpeldimmaajkaaGreat.Fw
open Go Go.RowKit

universe u
section
variable {α : Type u} {β : Type}

/-- A tree of numbered things. -/
inductive Tr (α : Type u) where
  | e
  | n (o : Option α) (l r : Tr α)

def Tr.get : Tr α → Nat → Option α
  | .e, _ => none
  | .n o l r, i => (match i with
    | 0 => o
    | j + 1 => (match Nat.beq (Nat.mod j 2) 0 with
      | true => l.get (Nat.div j 2)
      | false => r.get (Nat.div j 2)))

def Tr.put : Nat → Tr α → Nat → α → (Tr α → Option β) → Option β
  | 0, _, _, _, _ => none
  | f + 1, t, i, v, k => (match i with
    | 0 => (match t with | .e => k (.n (some v) .e .e) | .n _ l r => k (.n (some v) l r))
    | j + 1 => (match t with
      | .e => (match Nat.beq (Nat.mod j 2) 0 with
        | true => Tr.put f .e (Nat.div j 2) v fun l => k (.n none l .e)
        | false => Tr.put f .e (Nat.div j 2) v fun r => k (.n none .e r))
      | .n o l r => (match Nat.beq (Nat.mod j 2) 0 with
        | true => Tr.put f l (Nat.div j 2) v fun l => k (.n o l r)
        | false => Tr.put f r (Nat.div j 2) v fun r => k (.n o l r))))

/-! What is worked out at once. -/
def fN (n : Nat) (k : Nat → Option β) : Option β := match n with | 0 => k 0 | m + 1 => k (Nat.succ m)
def fI (n : Int) (k : Int → Option β) : Option β := match n with | .ofNat m => fN m fun m => k (.ofNat m) | .negSucc m => fN m fun m => k (.negSucc m)
def fB (b : Bool) (k : Bool → Option β) : Option β := match b with | true => k true | false => k false
def fL : List α → (List α → Option β) → Option β
  | [], k => k []
  | a :: l, k => fL l fun l => k (a :: l)
def fM (f : α → (α → Option β) → Option β) : List α → (List α → Option β) → Option β
  | [], k => k []
  | a :: l, k => f a fun a => fM f l fun l => k (a :: l)
def fO (a : Option Nat) (k : Option Nat → Option β) : Option β := match a with | none => k none | some n => fN n fun n => k (some n)
def fA (a : Option Addr) (k : Option Addr → Option β) : Option β :=
  match a with
  | none => k none
  | some ⟨b, o, s⟩ => fN b fun b => fN o fun o => fO s fun s => k (some ⟨b, o, s⟩)
def fF (f : Fn) (k : Fn → Option β) : Option β := match f with | .func f => fN f fun f => k (.func f) | f => k f
def fS (s : ByteArray) (k : ByteArray → Option β) : Option β := match s with | ⟨⟨l⟩⟩ => fL l fun l => k ⟨⟨l⟩⟩
def fV : Nat → Value → (Value → Option β) → Option β
  | 0, v, k => k v
  | d + 1, v, k => (match v with
    | .int kd n => fI n fun n => k (.int kd n)
    | .bool b => fB b fun b => k (.bool b)
    | .string s => fS s fun s => k (.string s)
    | .pointer a => fA a fun a => k (.pointer a)
    | .slice a l c => fA a fun a => fN l fun l => fN c fun c => k (.slice a l c)
    | .map r => fO r fun r => k (.map r)
    | .agg cs => (match cs with | ⟨l⟩ => fM (fV d) l fun l => k (.agg ⟨l⟩))
    | .tuple cs => (match cs with | ⟨l⟩ => fM (fV d) l fun l => k (.tuple ⟨l⟩))
    | .iface t v => fN t fun t => fV d v fun v => k (.iface t v)
    | .func f x y => fF f fun f => (match x, y with | ⟨x⟩, ⟨y⟩ => fM (fV d) x fun x => fM (fV d) y fun y => k (.func f ⟨x⟩ ⟨y⟩))
    | v => k v)
/-- A block. -/
def fOb (o : AObj) (k : AObj → Option β) : Option β :=
  match o with
  | .cells cs esz own => fL cs fun cs => fN esz fun esz => fB own fun own => k (.cells cs esz own)
  | .map es bs clk => fL es fun es => fM fN bs fun bs => fN clk fun clk => k (.map es bs clk)
  | .iter r since seen last => fO r fun r => fN since fun since => fM fN seen fun seen => fN last fun last => k (.iter r since seen last)
  | .dead => k .dead

/-! The heap. -/
structure KH where
  n : Nat
  t : Tr AObj

def KH.get (T : KH) (b : Nat) : Option AObj := match T with | ⟨n, t⟩ => (match Nat.blt b n with | true => t.get b | false => none)
def KH.set (T : KH) (b : Nat) (o : AObj) (k : KH → Option β) : Option β := match T with | ⟨n, t⟩ => fOb o fun o => Tr.put 40 t b o fun t => k ⟨n, t⟩
def KH.push (T : KH) (o : AObj) (k : KH → Option β) : Option β := match T with | ⟨n, t⟩ => fOb o fun o => Tr.put 40 t n o fun t => k ⟨Nat.succ n, t⟩
/-- Cells with one put. -/
def KH.setc (T : KH) (b : Nat) (o : AObj) (k : KH → Option β) : Option β := match T with | ⟨n, t⟩ => Tr.put 40 t b o fun t => k ⟨n, t⟩
/-- The list that it is. -/
def KH.H (T : KH) : Heap := (List.range T.n).map fun i => (T.t.get i).getD .dead

def nth : List α → Nat → Option α
  | [], _ => none
  | a :: l, i => (match i with | 0 => some a | j + 1 => nth l j)
/-- A list with an element put, if it is there. -/
def setL : List α → Nat → α → (List α → Option β) → Option β
  | [], _, _, _ => none
  | a :: l, i, v, k => (match i with | 0 => k (v :: l) | j + 1 => setL l j v fun l => k (a :: l))

/-! Operations that change nothing. -/
def kldc (T : KH) (b : Nat) (k : List Value → Option β) : Option β := match T.get b with | some (.cells cs _ _) => k cs | _ => none
def kld (kd : Option KD) (T : KH) (a : Addr) (k : Value → Option β) : Option β :=
  match kd with
  | some (.agg n) => kldc T a.block fun cs => (match Nat.ble (Nat.add a.off n) cs.length with | true => k (.agg (range cs a.off n).toArray) | false => none)
  | kd => kldc T a.block fun cs => onSome (nth cs a.off) fun v => kTy kd v k
def kesOk (T : KH) (b sz : Nat) (k : Option β) : Option β := match T.get b with | some (.cells _ esz _) => (match Nat.beq (Nat.mod esz tyM) sz with | true => k | false => none) | _ => none
def kslSl (T : KH) (sz : Nat) (a : Option Addr) (len cap : Nat) (l h : Int) (k : Value → Option β) : Option β :=
  match a with
  | none => if l = 0 ∧ h = 0 ∧ len = 0 ∧ cap = 0 then k (.slice none 0 0) else none
  | some a => kesOk T a.block sz (if 0 ≤ l ∧ l ≤ h ∧ (h ≤ len ∨ (¬ unk ≤ cap ∧ h ≤ cap) ∨ (unk ≤ cap ∧ h ≤ (cap - unk : Nat))) then k (.slice (some (a.add (l.toNat * sz))) (h.toNat - l.toNat) (slCap len cap l.toNat)) else none)
def kslSl3 (T : KH) (sz : Nat) (a : Option Addr) (len cap : Nat) (l h m : Int) (k : Value → Option β) : Option β :=
  match a with
  | none => none
  | some a => kesOk T a.block sz (if 0 ≤ l ∧ l ≤ h ∧ h ≤ m ∧ (m ≤ len ∨ (¬ unk ≤ cap ∧ m ≤ cap) ∨ (unk ≤ cap ∧ m ≤ (cap - unk : Nat))) then k (.slice (some (a.add (l.toNat * sz))) (h.toNat - l.toNat) (m.toNat - l.toNat)) else none)
def kslArr (T : KH) (sz n : Nat) (a : Addr) (l h : Int) (k : Value → Option β) : Option β :=
  kesOk T a.block sz (kldc T a.block fun cs => if 0 ≤ l ∧ l ≤ h ∧ h ≤ (n : Int) ∧ a.off + n * sz ≤ cs.length then k (.slice (some (a.add (l.toNat * sz))) (h.toNat - l.toNat) (n - l.toNat)) else none)
def kldmB (T : KH) (b : Nat) (k : List (Value × Value) → List Nat → Nat → Option β) : Option β := match T.get b with | some (.map es bs clk) => k es bs clk | _ => none
def kldmo (T : KH) (r : Option Nat) (k : List (Value × Value) → Option β) : Option β := match r with | none => k [] | some r => kldmB T r fun es _ _ => k es
def klookup (P : Program) (mt : TypeId) (T : KH) (x ix : Value) (ok : Bool) (k : Value → Option β) : Option β :=
  match P.underlying mt with
  | some (.map kt et) => kKey P kt ix fun key => kMp x fun r => kldmo T r fun es => (match keysOk key es with
     | false => none
     | true => (match mfind key es with
      | some v => kTy (kdOf P et) v fun v => k (okV ok v true)
      | none => onSome (zeroOf P et) fun z => (match plainV z with | true => k (okV ok z false) | false => none)))
  | _ => none
def kfromU (T : KH) (a : Addr) (u n : Nat) (k : Option β) : Option β :=
  match T.get a.block with
  | some (.cells cs esz _) => if a.off = 0 ∧ n ≤ cs.length ∧ n ≠ 0 ∧ esz / tyM = u + 1 then k else none
  | _ => none
/-- len. -/
def klen (P : Program) (T : KH) (at_ : TypeId) (v : Value) (k : Value → Option β) : Option β :=
  match P.underlying at_ with
  | some .string => kStr v fun s => k (.int .i64 s.size)
  | some (.slice _) => kSl v fun _ len _ => k (.int .i64 len)
  | some (.map _ _) => kMp v fun r => kldmo T r fun es => k (.int .i64 es.length)
  | _ => none
/-- Whole numbers that fit. -/
def kwr (kd : IntKind) (n : Int) (k : Int → Option β) : Option β :=
  match kd with
  | .i64 => (match n with
      | .ofNat m => (match Nat.blt m 9223372036854775808 with | true => k (.ofNat m) | false => k (IntKind.i64.wrap (.ofNat m)))
      | .negSucc m => (match Nat.blt m 9223372036854775808 with | true => k (.negSucc m) | false => k (IntKind.i64.wrap (.negSucc m))))
  | kd => k (kd.wrap n)
def ltI : Int → Int → Bool
  | .ofNat m, .ofNat n => Nat.blt m n
  | .negSucc m, .negSucc n => Nat.blt n m
  | .negSucc _, .ofNat _ => true
  | .ofNat _, .negSucc _ => false
def eqI : Int → Int → Bool
  | .ofNat m, .ofNat n => Nat.beq m n
  | .negSucc m, .negSucc n => Nat.beq n m
  | _, _ => false
/-- Whole numbers put together, the frequent ways. -/
def kbi (op : BinOp) (kd : IntKind) (a b : Int) (k : Value → Option β) : Option β :=
  match op with
  | .add => kwr kd (a + b) fun n => k (.int kd n)
  | .sub => kwr kd (a - b) fun n => k (.int kd n)
  | .eql => k (.bool (eqI a b))
  | .neq => k (.bool (!(eqI a b)))
  | .lss => k (.bool (ltI a b))
  | .geq => k (.bool (!(ltI a b)))
  | .gtr => k (.bool (ltI b a))
  | .leq => k (.bool (!(ltI b a)))
  | op => binInt op kd a b k
/-! Operations that change something. -/
def kst (n : Nat) (T : KH) (a : Addr) (v : Value) (k : Value → KH → Option β) : Option β :=
  match T.get a.block with
  | some (.cells cs esz true) => (match v with
      | .agg vs => if vs.size = n ∧ a.off + n ≤ cs.length then T.set a.block (.cells (splice cs a.off vs.toList) esz true) fun T => k undef T else none
      | v => (match Nat.beq n 1 with
          | true => setL cs a.off v fun cs => T.setc a.block (.cells cs esz true) fun T => k undef T
          | false => none))
  | _ => none
def kfirst (T : KH) (sz : Nat) (v : Value) (k : Nat → List Value → Option β) : Option β :=
  match v with
  | .slice none len _ => if len = 0 then k 0 [] else none
  | .slice (some a) len _ => kldc T a.block fun cs => if a.off + len * sz ≤ cs.length then k len (range cs a.off (len * sz)) else none
  | .string s => (match Nat.beq sz 1 with | true => fM (fV 1) (s.data.toList.map fun b => .int .u8 b.toNat) fun l => k s.size l | false => none)
  | _ => none
def kapp (P : Program) (e : TypeId) (T : KH) (s : Value) (n : Nat) (nw : List Value) (k : Value → KH → Option β) : Option β :=
  kSl s fun a len cap =>
    if (len + n) * P.bytesOf e ≤ 140737488355328 ∧ len + n ≤ 140737488355328 then
      match a with
      | none => if len = 0 ∧ cap = 0 then
          (if n = 0 then k (.slice none 0 0) T else T.push (.cells nw (tyE P e) true) fun T2 => k (.slice (some ⟨T.n, 0, none⟩) n unk) T2) else none
      | some a =>
        match T.get a.block with
        | some (.cells cs esz own) =>
          if a.off + len * P.cellsOf e ≤ cs.length ∧ szOk esz (P.cellsOf e) e = true then
            (if unk ≤ cap then
              (if unk < cap ∧ len + n ≤ cap - unk ∧ own = true ∧ a.off + (len + n) * P.cellsOf e ≤ cs.length then
                T.set a.block (.cells (splice cs (a.off + len * P.cellsOf e) nw) esz true) fun T => k (.slice (some a) (len + n) cap) T
              else if own = true then T.set a.block .dead fun T1 => T1.push (.cells (range cs a.off (len * P.cellsOf e) ++ nw) (tzOff a.off esz) true) fun T2 => k (.slice (some ⟨T.n, 0, none⟩) (len + n) unk) T2 else none)
            else if len + n ≤ cap then
              (if own = true ∧ a.off + (len + n) * P.cellsOf e ≤ cs.length then T.set a.block (.cells (splice cs (a.off + len * P.cellsOf e) nw) esz true) fun T => k (.slice (some a) (len + n) cap) T else none)
            else T.push (.cells (range cs a.off (len * P.cellsOf e) ++ nw) (tyE P e) true) fun T2 => k (.slice (some ⟨T.n, 0, none⟩) (len + n) unk) T2)
          else none
        | _ => none
    else none
def kcpy (T : KH) (sz : Nat) (a : Option Addr) (len n : Nat) (cs : List Value) (k : Nat → KH → Option β) : Option β :=
  match a with
  | none => if len = 0 then k 0 T else none
  | some a => (match T.get a.block with
      | some (.cells old esz true) => if a.off + len * sz ≤ old.length then T.set a.block (.cells (splice old a.off (cs.take (min n len * sz))) esz true) fun T => k (min n len) T else none
      | _ => none)
def kclr (T : KH) (sz : Nat) (z : Value) (a : Option Addr) (len : Nat) (k : KH → Option β) : Option β :=
  match a with
  | none => k T
  | some a => (match T.get a.block with
      | some (.cells old esz true) => if a.off + len * sz ≤ old.length then T.set a.block (.cells (splice old a.off (zeroCellsOf z len)) esz true) k else none
      | _ => none)
def kdele (T : KH) (r : Option Nat) (key : Value) (k : KH → Option β) : Option β :=
  match r with
  | none => k T
  | some r => kldmB T r fun es bs clk => (match keysOk key es with | true => T.set r (.map (mdel key es) (bdel key es bs) clk) k | false => none)
def kmupd (T : KH) (r : Nat) (key v : Value) (k : KH → Option β) : Option β :=
  kldmB T r fun es bs clk => (match keysOk key es with | true => T.set r (.map (mset key v es) (bset key es bs clk) (cset key es clk)) k | false => none)
def kment (P : Program) (et : TypeId) (T : KH) (r : Nat) (key : Value) (k : Value → KH → Option β) : Option β :=
  kldmB T r fun es bs clk => (match keysOk key es with
    | true => (match midx key es with
        | some j => onSome es[j]? fun e => onSome bs[j]? fun b => T.set r (.map (es.set j (key, e.2)) bs clk) fun T => k (.tuple #[e.2, .int .i64 b]) T
        | none => onSome (zeroOf P et) fun z => (match plainV z with | true => T.set r (.map (es ++ [(key, z)]) (bs ++ [clk]) (clk + 1)) fun T => k (.tuple #[z, .int .i64 clk]) T | false => none))
    | false => none)
def kesto (T : KH) (r : Nat) (n : Int) (v : Value) (k : KH → Option β) : Option β :=
  kldmB T r fun es bs clk => onSome (bidx n bs) fun j => onSome es[j]? fun e => T.set r (.map (es.set j (e.1, v)) bs clk) k
def kentr (T : KH) (a : Addr) (k : Value → Option β) : Option β :=
  match T.get a.block with
  | some (.iter (some r) _ seen last) => if a.off = 0 then onSome seen.getLast? fun s => kldmB T r fun es bs clk => if clk = last then onSome (bidx s bs) fun j => onSome es[j]? fun e => k (.tuple #[e.1, e.2]) else none else none
  | _ => none
def kuStr (T : KH) (a : Addr) (n : Int) (u one : Nat) (k : ByteArray → KH → Option β) : Option β :=
  match T.get a.block with
  | some (.cells cs esz true) => if 0 < n ∧ n ≤ 9223372036854775807 ∧ n.toNat ≤ cs.length ∧ a.off = 0 ∧ esz / tyM = u + 1 ∧ one = 1 then
      onSome (bytesOf (cs.take n.toNat)) fun l => T.set a.block .dead fun T => k ⟨l.toArray⟩ T else none
  | _ => none


/-! The same? -/
def eqN (a b : Nat) : Bool := Nat.beq a b
def eqO {α : Type} (f : α → α → Bool) : Option α → Option α → Bool
  | none, none => true
  | some a, some b => f a b
  | _, _ => false
def eqL {α : Type} (f : α → α → Bool) : List α → List α → Bool
  | [], [] => true
  | a :: l, b :: m => (match f a b with | true => eqL f l m | false => false)
  | _, _ => false
def eqA (a b : Addr) : Bool := match eqN a.block b.block, eqN a.off b.off, eqO eqN a.spot b.spot with | true, true, true => true | _, _, _ => false
def eqK (a b : IntKind) : Bool := decide (a = b)
def eqF : Fn → Fn → Bool
  | .func a, .func b => eqN a b
  | _, _ => false
def eqB (a b : UInt8) : Bool := Nat.beq a.toNat b.toNat
def eqV : Nat → Value → Value → Bool
  | 0, _, _ => false
  | d + 1, v, w => (match v, w with
    | .int k a, .int j b => (match eqK k j with | true => eqI a b | false => false)
    | .bool a, .bool b => a == b
    | .string a, .string b => eqL eqB a.data.toList b.data.toList
    | .pointer a, .pointer b => eqO eqA a b
    | .slice a l c, .slice b m e => (match eqO eqA a b, eqN l m, eqN c e with | true, true, true => true | _, _, _ => false)
    | .map a, .map b => eqO eqN a b
    | .agg a, .agg b => eqL (eqV d) a.toList b.toList
    | .tuple a, .tuple b => eqL (eqV d) a.toList b.toList
    | .nilFunc, .nilFunc => true
    | .nilIface, .nilIface => true
    | .iface t a, .iface u b => (match eqN t u with | true => eqV d a b | false => false)
    | .func f x y, .func g a b => (match eqF f g, eqL (eqV d) x.toList a.toList, eqL (eqV d) y.toList b.toList with | true, true, true => true | _, _, _ => false)
    | _, _ => false)
def eqP (a b : Value × Value) : Bool := match eqV 6 a.1 b.1 with | true => eqV 6 a.2 b.2 | false => false
def eqOb : AObj → AObj → Bool
  | .cells a e o, .cells b f p => (match eqL (eqV 6) a b, eqN e f with | true, true => o == p | _, _ => false)
  | .map a b c, .map x y z => (match eqL eqP a x, eqL eqN b y with | true, true => eqN c z | _, _ => false)
  | .iter a b c d, .iter x y z w => (match eqO eqN a x, eqN b y, eqL eqN c z with | true, true, true => eqN d w | _, _, _ => false)
  | .dead, .dead => true
  | _, _ => false
def eqT : Tr AObj → Tr AObj → Bool
  | .e, .e => true
  | .n o l r, .n p m s => (match eqO eqOb o p, eqT l m with | true, true => eqT r s | _, _ => false)
  | _, _ => false
def eqR (a b : Value × KH) : Bool := match eqV 8 a.1 b.1, eqN a.2.n b.2.n with | true, true => eqT a.2.t b.2.t | _, _ => false

abbrev KFs := Nat → List Value → KH → Option (Value × KH)
/-! Iterations over maps: whatever comes, it comes to the same. -/
abbrev KR := Option (Value × KH)
def kallEq : List KR → KR
  | [] => none
  | [x] => x
  | x :: l => (match x with
      | none => none
      | some r => (match l.all (fun y => match y with | some s => eqR r s | none => false) with | true => some r | false => none))
def knextV (T : KH) (b r since : Nat) (seen : List Nat) (clk : Nat) (k : Value → KH → KR) : Option ((Value × Value) × Nat) → KR
  | none => T.set b .dead fun T => k (.tuple #[.bool false]) T
  | some e => T.set b (.iter (some r) since (seen ++ [e.2]) clk) fun T => k (.tuple #[.bool true, e.1.1, e.1.2]) T
end
end Go.Proofs.YtlpeldimmaajkaaGreat.Fw
