/- FRAMEWORK 2: what a Go function does on the abstract heap: an evaluator of the machine's code. Definitions alone. -/
import Derived.Test.YtlpeldimmaajkaaGreatFw1
import Derived.Laws.Tables
set_option linter.unusedVariables false
namespace Go.Proofs.YtlpeldimmaajkaaGreat.Fw
open Go Go.RowKit

section
variable {β : Type}

abbrev Tm := Nat → Option Value
def Tm.upd (t : Tm) (i : Nat) (v : Value) : Tm := fun j => match Nat.beq j i with | true => some v | false => t j

inductive KD where
  | int (k : IntKind) | bool | string | ptr | slice | map | any | agg (n : Nat)

def kdOf (P : Program) (t : TypeId) : Option KD :=
  match P.underlying t with
  | some .bool => some .bool
  | some (.int k) => some (.int k)
  | some .string => some .string
  | some (.pointer _) => some .ptr
  | some (.slice _) => some .slice
  | some (.map _ _) => some .map
  | some (.func _ _ _) | some (.interface _) | some (.tuple _) => some .any
  | some (.struct _) | some (.array _ _) => some (.agg (P.cellsOf t))
  | some .unsafePointer => some .ptr
  | _ => none

def kInt (k : IntKind) (v : Value) (c : Int → Option β) : Option β := match v with | .int k' n => if k' = k then c n else none | _ => none
def kBool (v : Value) (c : Bool → Option β) : Option β := match v with | .bool b => c b | _ => none
def kStr (v : Value) (c : ByteArray → Option β) : Option β := match v with | .string s => c s | _ => none
def kPtr (v : Value) (c : Option Addr → Option β) : Option β := match v with | .pointer a => c a | _ => none
def kSl (v : Value) (c : Option Addr → Nat → Nat → Option β) : Option β := match v with | .slice a l m => c a l m | _ => none
def kMp (v : Value) (c : Option Nat → Option β) : Option β := match v with | .map r => c r | _ => none
def kAgg (v : Value) (c : Array Value → Option β) : Option β := match v with | .agg cs => c cs | _ => none
def kTup (v : Value) (c : Array Value → Option β) : Option β := match v with | .tuple cs => c cs | _ => none
def kAnyInt (v : Value) (c : IntKind → Int → Option β) : Option β := match v with | .int k n => c k n | _ => none

def kTy (kd : Option KD) (v : Value) (c : Value → Option β) : Option β :=
  match kd with
  | some (.int k) => kInt k v fun n => c (.int k n)
  | some .bool => kBool v fun b => c (.bool b)
  | some .string => kStr v fun s => c (.string s)
  | some .ptr => kPtr v fun a => c (.pointer a)
  | some .slice => kSl v fun a l m => c (.slice a l m)
  | some .map => kMp v fun r => c (.map r)
  | some .any => c v
  | some (.agg n) => kAgg v fun cs => if cs.size = n then c (.agg cs) else none
  | none => none

def plain1 : Value → Bool
  | .bool _ | .int _ _ | .string _ | .pointer none | .slice none 0 0 | .map none | .nilFunc | .nilIface => true
  | _ => false
def plainV : Value → Bool
  | .agg cs => cs.toList.all plain1
  | .tuple cs => cs.toList.all plain1
  | v => plain1 v

/-- An operand. -/
def opd (t : Tm) (x : Operand) (k : Value → Option β) : Option β :=
  match x with
  | .tmp i => (match t i with | some v => k v | none => none)
  | .const v => (match plainV v with | true => k v | false => none)
  | .func f => k (.func (.func f) #[] #[])
  | .global g => (match Nat.blt g ng with | true => k (.pointer (some ⟨g, 0, none⟩)) | false => none)

def opds (t : Tm) (xs : List Operand) (k : List Value → Option β) : Option β :=
  match xs with
  | [] => k []
  | x :: rest => opd t x fun v => opds t rest fun vs => k (v :: vs)

def onSome {α : Type} (x : Option α) (k : α → Option β) : Option β := match x with | some v => k v | none => none

/-- The cells of a block. -/
def ldc (H : Heap) (b : Nat) (c : List Value → Option β) : Option β := match H[b]? with | some (.cells cs _ _) => c cs | _ => none

def range (cs : List Value) (off n : Nat) : List Value := (cs.drop off).take n

def ld (kd : Option KD) (H : Heap) (a : Addr) (k : Value → Option β) : Option β :=
  match kd with
  | some (.agg n) => ldc H a.block fun cs => if a.off + n ≤ cs.length then k (.agg (range cs a.off n).toArray) else none
  | kd => ldc H a.block fun cs => onSome cs[a.off]? fun v => kTy kd v k

def byteAt (s : ByteArray) (i : Nat) : Int := ((s[i]?).map (fun b => (b.toNat : Int))).getD 0

def binInt (op : BinOp) (k : IntKind) (a b : Int) (c : Value → Option β) : Option β :=
  match op with
  | .add => c (.int k (k.wrap (a + b)))
  | .sub => c (.int k (k.wrap (a - b)))
  | .mul => c (.int k (k.wrap (a * b)))
  | .quo => if b = 0 then none else c (.int k (k.wrap (a.tdiv b)))
  | .rem => if b = 0 then none else c (.int k (a.tmod b))
  | .and => c (.int k (bits .and k a b))
  | .or => c (.int k (bits .or k a b))
  | .xor => c (.int k (bits .xor k a b))
  | .andNot => c (.int k (bits .andNot k a b))
  | .eql => c (.bool (a == b))
  | .neq => c (.bool (a != b))
  | .lss => c (.bool (decide (a < b)))
  | .leq => c (.bool (decide (a ≤ b)))
  | .gtr => c (.bool (decide (b < a)))
  | .geq => c (.bool (decide (b ≤ a)))
  | _ => none

def binSh (op : BinOp) (k : IntKind) (a b : Int) (c : Value → Option β) : Option β :=
  match op with
  | .shl => if b < 0 then none else c (.int k (k.wrap (a * 2 ^ (min b.toNat k.bits))))
  | .shr => if b < 0 then none else c (.int k (a / 2 ^ (min b.toNat k.bits)))
  | _ => none

def binStr (op : BinOp) (a b : ByteArray) (c : Value → Option β) : Option β :=
  match op with
  | .add => if a.size + b.size ≤ 9223372036854775807 then c (.string (a ++ b)) else none
  | .eql => c (.bool (a.toList == b.toList))
  | .neq => c (.bool (!(a.toList == b.toList)))
  | .lss => c (.bool (Op.bytesLess a.toList b.toList))
  | .leq => c (.bool (Op.bytesLess a.toList b.toList || a.toList == b.toList))
  | .gtr => c (.bool (!(Op.bytesLess a.toList b.toList || a.toList == b.toList)))
  | .geq => c (.bool (!(Op.bytesLess a.toList b.toList)))
  | _ => none

/-- Is a value of such a type nil? -/
def nilK (P : Program) (t : TypeId) (v : Value) (c : Bool → Option β) : Option β :=
  match P.underlying t with
  | some (.pointer _) => kPtr v fun a => c a.isNone
  | some (.slice _) => kSl v fun a _ _ => c a.isNone
  | some (.map _ _) => kMp v fun r => c r.isNone
  | some (.func _ _ _) => (match v with | .nilFunc => c true | .func _ _ _ => c false | _ => none)
  | some (.interface _) => (match v with | .nilIface => c true | .iface _ _ => c false | _ => none)
  | _ => none

def isShift : BinOp → Bool | .shl => true | .shr => true | _ => false

/-- Is an operand the nil of such a type, written out? -/
def nilC (P : Program) (t : TypeId) (o : Operand) : Bool :=
  match P.underlying t, o with
  | some (.pointer _), .const (.pointer none) => true
  | some (.slice _), .const (.slice none 0 0) => true
  | some (.map _ _), .const (.map none) => true
  | some (.func _ _ _), .const .nilFunc => true
  | some (.interface _), .const .nilIface => true
  | _, _ => false

/-- Equality of values of a type, as far as it is told here: whole numbers, bools, texts, and structs of these (at most n deep); -1 fields that have no name are passed over. -/
def eqv (P : Program) : Nat → TypeId → Value → Value → (Bool → Option β) → Option β
  | 0, _, _, _, _ => none
  | n + 1, t, x, y, c =>
    match P.underlying t with
    | some .bool => kBool x fun a => kBool y fun b => c (a == b)
    | some (.int k) => kInt k x fun a => kInt k y fun b => c (a == b)
    | some .string => kStr x fun a => kStr y fun b => c (a.toList == b.toList)
    | some (.struct fs) =>
      match P.stoodInHeld t with
      | true => none
      | false => kAgg x fun xs => kAgg y fun ys => fs.toList.foldr (fun f k =>
          if f.name = "_" then k else
          match kdOf P f.type with
          | some (.agg m) => eqv P n f.type (.agg (xs.extract f.offset (f.offset + m))) (.agg (ys.extract f.offset (f.offset + m))) fun r => match r with | true => k | false => c false
          | kd => onSome xs[f.offset]? fun u => onSome ys[f.offset]? fun v => eqv P n f.type u v fun r => match r with | true => k | false => c false) (c true)
    | _ => none

/-- Pointers that are surely the same, or of which one is nil. -/
def ptrEq (x y : Option Addr) (k : Bool → Option β) : Option β :=
  match x, y with
  | none, none => k true
  | none, some _ => k false
  | some _, none => k false
  | some a, some b => (match Nat.beq a.block b.block && Nat.beq a.off b.off with | true => k true | false => none)

def bin (P : Program) (op : BinOp) (xt : TypeId) (xo yo : Operand) (x y : Value) (k : Value → Option β) : Option β :=
  match isShift op with
  | true => kAnyInt x fun kx a => kAnyInt y fun _ b => binSh op kx a b k
  | false =>
    match P.underlying xt with
    | some (.int kd) => kInt kd x fun a => kInt kd y fun b => binInt op kd a b k
    | some .string => kStr x fun a => kStr y fun b => binStr op a b k
    | some .bool => kBool x fun a => kBool y fun b => (match op with | .eql => k (.bool (a == b)) | .neq => k (.bool (!(a == b))) | _ => none)
    | some (.struct _) =>
      (match P.eqGuardType P.depth xt with
       | true => none
       | false => (match op with
          | .eql => eqv P 20 xt x y fun r => k (.bool r)
          | .neq => eqv P 20 xt x y fun r => k (.bool (!r))
          | _ => none))
    | _ =>
      (match nilC P xt yo with
       | true => nilK P xt x fun r => (match op with | .eql => k (.bool r) | .neq => k (.bool (!r)) | _ => none)
       | false => (match nilC P xt xo with
          | true => nilK P xt y fun r => (match op with | .eql => k (.bool r) | .neq => k (.bool (!r)) | _ => none)
          | false => (match P.underlying xt with
            | some (.pointer te) => (match P.info? te with
                | some _ => kPtr x fun a => kPtr y fun b => ptrEq a b fun r => (match op with | .eql => k (.bool r) | .neq => k (.bool (!r)) | _ => none)
                | none => none)
            | _ => none)))

/-- A value that has cells of one cell each, whatever it is. -/
def cellsOk (v : Value) (k : Option β) : Option β := match v with | .agg _ => k | v => (match v.oneCell' with | true => k | false => none)
def cellsOks : List Value → Option β → Option β
  | [], k => k
  | v :: rest, k => cellsOk v (cellsOks rest k)

/-- Where a field lies, if it has cells. -/
def fieldOff (P : Program) (s : TypeId) (f : Nat) : Option Nat :=
  match P.underlying s with
  | some (.struct fs) => (match fs[f]? with | some fl => (match Nat.beq (P.cellsOf fl.type) 0 with | true => none | false => some fl.offset) | none => none)
  | _ => none

def fieldTy (P : Program) (s : TypeId) (f : Nat) : Option (Nat × TypeId) :=
  match P.underlying s with
  | some (.struct fs) => (match fs[f]? with | some fl => some (fl.offset, fl.type) | none => none)
  | _ => none

/-- A part of an aggregate. -/
def partK (P : Program) (e : TypeId) (cs : Array Value) (off : Nat) (k : Value → Option β) : Option β :=
  match kdOf P e with
  | some (.agg n) => k (.agg (cs.extract off (off + n)))
  | kd => onSome cs[off]? fun v => kTy kd v k

def optInt (t : Tm) (x : Option Operand) (d : Int) (k : Int → Option β) : Option β :=
  match x with
  | none => k d
  | some x => opd t x fun v => kAnyInt v fun _ n => k n

/-- s[l:h]. -/
def slStr (s : ByteArray) (l h : Int) (k : Value → Option β) : Option β :=
  if 0 ≤ h ∧ h ≤ s.size ∧ 0 ≤ l ∧ l ≤ h then k (.string (s.extract l.toNat h.toNat)) else none

/-- Has a block elements of such a size? -/
def esOk (H : Heap) (b sz : Nat) (k : Option β) : Option β := match H[b]? with | some (.cells _ esz _) => (match Nat.beq (esz % tyM) sz with | true => k | false => none) | _ => none

/-- What is known of the capacity behind a slicing; behind a length it is as much at least. -/
def slCap (len cap : Nat) (l : Nat) : Nat := if unk ≤ cap then (if cap - unk < len then unk + (len - l) else unk + (cap - unk - l)) else cap - l

/-- xs[l:h], within the length, or the capacity if it is known. -/
def slSl (H : Heap) (sz : Nat) (a : Option Addr) (len cap : Nat) (l h : Int) (k : Value → Option β) : Option β :=
  match a with
  | none => if l = 0 ∧ h = 0 ∧ len = 0 ∧ cap = 0 then k (.slice none 0 0) else none
  | some a => esOk H a.block sz (if 0 ≤ l ∧ l ≤ h ∧ (h ≤ len ∨ (¬ unk ≤ cap ∧ h ≤ cap) ∨ (unk ≤ cap ∧ h ≤ (cap - unk : Nat))) then k (.slice (some (a.add (l.toNat * sz))) (h.toNat - l.toNat) (slCap len cap l.toNat)) else none)

/-- xs[l:h:m]. -/
def slSl3 (H : Heap) (sz : Nat) (a : Option Addr) (len cap : Nat) (l h m : Int) (k : Value → Option β) : Option β :=
  match a with
  | none => none
  | some a => esOk H a.block sz (if 0 ≤ l ∧ l ≤ h ∧ h ≤ m ∧ (m ≤ len ∨ (¬ unk ≤ cap ∧ m ≤ cap) ∨ (unk ≤ cap ∧ m ≤ (cap - unk : Nat))) then k (.slice (some (a.add (l.toNat * sz))) (h.toNat - l.toNat) (m.toNat - l.toNat)) else none)

/-- a[l:h] of an array that lies at an address. -/
def slArr (H : Heap) (sz n : Nat) (a : Addr) (l h : Int) (k : Value → Option β) : Option β :=
  esOk H a.block sz (ldc H a.block fun cs => if 0 ≤ l ∧ l ≤ h ∧ h ≤ (n : Int) ∧ a.off + n * sz ≤ cs.length then k (.slice (some (a.add (l.toNat * sz))) (h.toNat - l.toNat) (n - l.toNat)) else none)

def elemOf (P : Program) (t : TypeId) : Option TypeId := match P.underlying t with | some (.slice e) => some e | _ => none

/-- The size of an element of a row that is made anew: of bytes the type is kept, too. -/
def tyE (P : Program) (e : TypeId) : Nat := match P.underlying e with | some (.int .u8) => tz (P.cellsOf e) e | _ => P.cellsOf e % tyM

/-- Of a variable that is a struct whose first field points to such a struct the type is kept. -/
def selfTy (P : Program) (e : TypeId) : Nat :=
  match P.underlying e with
  | some (.struct fs) => (match fs[0]? with
      | some f => (match P.underlying f.type with | some (.pointer u) => (match Nat.beq u e with | true => tz 0 e | false => 0) | _ => 0)
      | none => 0)
  | some (.array _ el) => P.cellsOf el % tyM
  | _ => 0

/-- Of a map that is boxed the type is kept. -/
def boxTy (P : Program) (e : TypeId) : Nat := match P.underlying e with | some (.map _ _) => tz 0 e | _ => 0

def sized (P : Program) (t : TypeId) : Bool := match P.info? t with | some j => !(Nat.beq j.size 0) | none => false

/-- A number of cells that is known, or not. -/
def foldInts (f : Int → Int → Int) (kd : IntKind) : List Value → Int → (Int → Option β) → Option β
  | [], x, k => k x
  | v :: rest, x, k => kInt kd v fun y => foldInts f kd rest (f x y) k

def mxi (x y : Int) : Int := if y > x then y else x
def mni (x y : Int) : Int := if y < x then y else x

def keyK (v : Value) : Bool := match v with | .int _ _ => true | .string _ => true | .bool _ => true | _ => false
/-- Cells that are whole numbers, all the same. -/
def eqCells : List Value → List Value → Bool
  | [], [] => true
  | .int _ a :: x, .int _ b :: y => (match a == b with | true => eqCells x y | false => false)
  | _, _ => false
def keyEq : Value → Value → Bool
  | .int _ a, .int _ b => a == b
  | .string a, .string b => a == b
  | .bool a, .bool b => a == b
  | .agg x, .agg y => eqCells x.toList y.toList
  | _, _ => false
def mfind (k : Value) : List (Value × Value) → Option Value
  | [] => none
  | (a, v) :: rest => if keyEq k a then some v else mfind k rest
def mset (k v : Value) : List (Value × Value) → List (Value × Value)
  | [] => [(k, v)]
  | (a, u) :: rest => if keyEq k a then (k, v) :: rest else (a, u) :: mset k v rest
def mdel (k : Value) : List (Value × Value) → List (Value × Value)
  | [] => []
  | (a, u) :: rest => if keyEq k a then rest else (a, u) :: mdel k rest

/-- Where a key is found. -/
def midx (k : Value) : List (Value × Value) → Option Nat
  | [] => none
  | (a, _) :: rest => if keyEq k a then some 0 else (midx k rest).map (· + 1)

/-- Births: a key that is there keeps its own. -/
def bset (k : Value) (es : List (Value × Value)) (bs : List Nat) (clk : Nat) : List Nat := match mfind k es with | some _ => bs | none => bs ++ [clk]
def cset (k : Value) (es : List (Value × Value)) (clk : Nat) : Nat := match mfind k es with | some _ => clk | none => clk + 1
def bdel (k : Value) : List (Value × Value) → List Nat → List Nat
  | (a, _) :: rest, b :: bs => if keyEq k a then bs else b :: bdel k rest bs
  | _, bs => bs

def sameCells : List Value → List Value → Bool
  | [], [] => true
  | .int j _ :: x, .int k _ :: y => (match j == k with | true => sameCells x y | false => false)
  | _, _ => false
def sameK : Value → Value → Bool
  | .int j _, .int k _ => j == k
  | .string _, .string _ => true
  | .bool _, .bool _ => true
  | .agg x, .agg y => sameCells x.toList y.toList
  | _, _ => false
/-- All keys are of the kind of one. -/
def keysOk (k : Value) (es : List (Value × Value)) : Bool := es.all fun e => sameK k e.1

def ldm (H : Heap) (b : Nat) (c : List (Value × Value) → Option β) : Option β := match H[b]? with | some (.map es _ _) => c es | _ => none
def ldmB (H : Heap) (b : Nat) (c : List (Value × Value) → List Nat → Nat → Option β) : Option β := match H[b]? with | some (.map es bs clk) => c es bs clk | _ => none

/-- A map's entries, nil ones too. -/
def ldmo (H : Heap) (r : Option Nat) (c : List (Value × Value) → Option β) : Option β :=
  match r with
  | none => c []
  | some r => ldm H r c

def zeroOf (P : Program) (t : TypeId) : Option Value := match P.info? t with | some i => i.zero | none => none

/-- A key's kind: whole numbers, texts, bools. -/
def keyKd (P : Program) (t : TypeId) : Option KD :=
  match P.underlying t with
  | some (.int k) => some (.int k)
  | some .string => some .string
  | some .bool => some .bool
  | _ => none

/-- Are cells the fields of a struct of whole numbers? -/
def okCells (P : Program) : List Field → Nat → List Value → Bool
  | [], _, [] => true
  | f :: fs, i, .int k _ :: cs => (match f.name == "_", Nat.beq f.offset i, P.underlying f.type with
      | false, true, some (.int kd) => (match decide (k = kd) with | true => okCells P fs (i + 1) cs | false => false)
      | _, _, _ => false)
  | _, _, _ => false
/-- A key: of a kind, or a struct of whole numbers. -/
def kKey (P : Program) (kt : TypeId) (v : Value) (k : Value → Option β) : Option β :=
  match keyKd P kt with
  | some kk => kTy (some kk) v k
  | none => (match P.underlying kt with
      | some (.struct fs) => (match P.stoodInHeld kt with
          | true => none
          | false => kAgg v fun cs => (match okCells P fs.toList 0 cs.toList with | true => k (.agg cs) | false => none))
      | _ => none)

def okV (ok : Bool) (v : Value) (o : Bool) : Value := match ok with | true => .tuple #[v, .bool o] | false => v

def lookupK (P : Program) (mt : TypeId) (H : Heap) (x ix : Value) (ok : Bool) (k : Value → Option β) : Option β :=
  match P.underlying mt with
  | some (.map kt et) => kKey P kt ix fun key => kMp x fun r => ldmo H r fun es => match keysOk key es with
     | false => none
     | true => match mfind key es with
      | some v => kTy (kdOf P et) v fun v => k (okV ok v true)
      | none => onSome (zeroOf P et) fun z => (match plainV z with | true => k (okV ok z false) | false => none)
  | _ => none

/-- The bytes of cells. -/
def bytesOf : List Value → Option (List UInt8)
  | [] => some []
  | .int .u8 n :: rest => (bytesOf rest).map fun l => UInt8.ofNat n.toNat :: l
  | _ => none

inductive Cls where | fl | al | ef
  deriving DecidableEq

def isBuiltinFl : Builtin → Bool | .len | .cap | .min | .max | .unsafeSliceData => true | _ => false

def cls (P : Program) : Op → Cls
  | .move _ | .assign _ | .pick .. | .nilCheck _ | .load .. | .binOp .. | .unOp .. | .makeInterface .. | .typeAssert .. | .makeFunc .. | .build .. | .fieldAddr .. | .field .. | .indexAddr .. | .index .. | .slice .. | .lookup .. | .extract .. => .fl
  | .convert s d _ => (match P.underlying s, P.underlying d with | some .string, some (.slice _) => .ef | _, _ => .fl)
  | .call { callee := .builtin b, .. } => (match isBuiltinFl b with | true => .fl | false => .ef)
  | .alloc _ | .box .. | .buildSlice .. | .makeMap .. | .makeSlice .. => .al
  | _ => .ef

/-- Does a block begin with such a variable? -/
def fromU (H : Heap) (a : Addr) (u n : Nat) (k : Option β) : Option β :=
  match H[a.block]? with
  | some (.cells cs esz _) => if a.off = 0 ∧ n ≤ cs.length ∧ n ≠ 0 ∧ esz / tyM = u + 1 then k else none
  | _ => none

/-- The text of a row's first n bytes: the row is let go. -/
def uStr (H : Heap) (a : Addr) (n : Int) (u one : Nat) (k : ByteArray → Heap → Option β) : Option β :=
  match H[a.block]? with
  | some (.cells cs esz true) => if 0 < n ∧ n ≤ 9223372036854775807 ∧ n.toNat ≤ cs.length ∧ a.off = 0 ∧ esz / tyM = u + 1 ∧ one = 1 then
      onSome (bytesOf (cs.take n.toNat)) fun l => k ⟨l.toArray⟩ (H.set a.block .dead) else none
  | _ => none

/-- Is it a pointer's type? -/
def isPtrK (P : Program) (t : TypeId) : Bool := match P.underlying t with | some (.pointer _) => true | _ => false

/-- Is what an interface holds of such a type? -/
def tyIs (at_ : TypeId) (v : Value) : Option (Option Value) :=
  match v with
  | .nilIface => some none
  | .iface i u => (match Nat.beq i at_ with | true => some (some u) | false => some none)
  | _ => none

/-- x.(T), of a T that is no interface. -/
def tyAs (P : Program) (at_ : TypeId) (ok : Bool) (v : Value) (k : Value → Option β) : Option β :=
  match P.underlying at_ with
  | none => none
  | some (.interface _) => none
  | some _ => (match tyIs at_ v with
      | some (some u) => k (okV ok u true)
      | some none => (match ok with
          | true => onSome (zeroOf P at_) fun z => (match plainV z with | true => k (okV true z false) | false => none)
          | false => none)
      | none => none)

/-- OPERATIONS THAT CHANGE NOTHING. -/
def fl (P : Program) (t : Tm) (H : Heap) (ty : TypeId) (op : Op) (k : Value → Option β) : Option β :=
  match op with
  | .move x => opd t x k
  | .assign x => opd t x k
  | .pick c a b => opd t c fun c => kBool c fun c => (match c with | true => opd t a k | false => opd t b k)
  | .nilCheck x => opd t x fun v => (match isPtrK P ty with
    | true => kPtr v fun a => onSome a fun a => k (.pointer (some a))
    | false => match v with
      | .pointer a => onSome a fun a => k (.pointer (some a))
      | .func (.func f) first cap => k (.func (.func f) first cap)
      | .iface i v => k (.iface i v)
      | _ => none)
  | .load ty a => opd t a fun v => kPtr v fun a => onSome a fun a => ld (kdOf P ty) H a k
  | .binOp op xt x y _ => opd t x fun u => opd t y fun v => bin P op xt x y u v k
  | .unOp op xt x => opd t x fun v => (match op with
      | .not => kBool v fun b => k (.bool (!b))
      | .neg => kAnyInt v fun kd n => k (.int kd (kd.wrap (0 - n)))
      | .xor => kAnyInt v fun kd n => k (.int kd (bits .xor kd (if kd.signed then -1 else kd.max) n))
      | _ => none)
  | .convert s d x => opd t x fun v => (match P.underlying s, P.underlying d with
      | some (.int ks), some (.int kd) => kInt ks v fun n => k (.int kd (kd.wrap n))
      | some .string, some .string => kStr v fun s => k (.string s)
      | some (.pointer t), some .unsafePointer => (match sized P t with
          | true => kPtr v fun a => onSome a fun a => ldc H a.block fun cs => if a.off < cs.length then k (.pointer (some a)) else none
          | false => none)
      | some .unsafePointer, some (.pointer u) => (match sized P u with
          | true => kPtr v fun a => onSome a fun a => fromU H a u (P.cellsOf u) (k (.pointer (some a)))
          | false => none)
      | some (.slice e), some .string => (match P.underlying e with
          | some (.int .u8) => kSl v fun a len _ => (match a with
              | none => k (.string .empty)
              | some a => ldc H a.block fun cs => if a.off + len ≤ cs.length then onSome (bytesOf (range cs a.off len)) fun l => k (.string ⟨l.toArray⟩) else none)
          | _ => none)
      | _, _ => none)
  | .makeInterface xt x => opd t x fun v => (match P.underlying xt with | some (.interface _) => none | none => none | _ => k (.iface xt v))
  | .typeAssert x _ at_ ok => opd t x fun v => tyAs P at_ ok v k
  | .makeFunc (.func f) first cap => opds t first.toList fun a => opds t cap.toList fun b => k (.func (.func f) a.toArray b.toArray)
  | .build bt parts => opds t (parts.toList.map (·.2)) fun vs => cellsOks vs (onSome (P.built bt ((parts.toList.map (·.1)).zip vs)) fun cells =>
      (match zeroOf P bt with | some z => (match plainV z && z.cells.toList.all Value.oneCell' with | true => k (.agg cells) | false => none) | none => none))
  | .fieldAddr s x f => onSome (fieldOff P s f) fun off => opd t x fun v => kPtr v fun a => onSome a fun a => k (.pointer (some (a.add off)))
  | .field s x f => onSome (fieldTy P s f) fun ot => opd t x fun v => kAgg v fun cs => partK P ot.2 cs ot.1 k
  | .indexAddr st x ix => opd t x fun v => opd t ix fun i => kAnyInt i fun _ i => (match P.underlying st with
      | some (.slice e) => onSome (P.info? e) fun _ => kSl v fun a len _ => onSome a fun a => if 0 ≤ i ∧ i < len then k (.pointer (some (a.add (i.toNat * P.cellsOf e)))) else none
      | some (.array n e) => onSome (P.info? e) fun _ => kPtr v fun a => onSome a fun a => if 0 ≤ i ∧ i < n then k (.pointer (some (a.add (i.toNat * P.cellsOf e)))) else none
      | _ => none)
  | .index st x ix => opd t x fun v => opd t ix fun i => kAnyInt i fun _ i => (match P.underlying st with
      | some .string => kStr v fun s => if 0 ≤ i ∧ i < s.size then k (.int .u8 (byteAt s i.toNat)) else none
      | some (.array n e) => onSome (P.info? e) fun _ => kAgg v fun cs => if 0 ≤ i ∧ i < n then partK P e cs (i.toNat * P.cellsOf e) k else none
      | _ => none)
  | .slice st x lo hi mx => opd t x fun v => (match P.underlying st with
      | some .string => (match mx with
          | some _ => none
          | none => kStr v fun s => optInt t hi s.size fun h => optInt t lo 0 fun l => slStr s l h k)
      | some (.slice e) => onSome (P.info? e) fun _ => kSl v fun a len cap => optInt t hi len fun h => optInt t lo 0 fun l => (match mx with
          | none => slSl H (P.cellsOf e) a len cap l h k
          | some m => opd t m fun m => kAnyInt m fun _ m => (match hi with | none => none | some _ => slSl3 H (P.cellsOf e) a len cap l h m k))
      | some (.array n e) => onSome (P.info? e) fun _ => kPtr v fun a => onSome a fun a => optInt t hi n fun h => optInt t lo 0 fun l => (match mx with
          | none => slArr H (P.cellsOf e) n a l h k
          | some _ => none)
      | _ => none)
  | .lookup mt x ix ok => opd t x fun x => opd t ix fun ix => lookupK P mt H x ix ok fun v => kTy (kdOf P ty) v k
  | .extract x i => opd t x fun v => kTup v fun vs => onSome vs[i]? fun v => kTy (kdOf P ty) v k
  | .call { callee := .builtin b, args, argTypes } => opds t args.toList fun vs => (match b with
      | .len => (match argTypes[0]?, vs with
          | some at_, [v] => (match P.underlying at_ with
              | some .string => kStr v fun s => k (.int .i64 s.size)
              | some (.slice _) => kSl v fun _ len _ => k (.int .i64 len)
              | some (.map _ _) => kMp v fun r => ldmo H r fun es => k (.int .i64 es.length)
              | _ => none)
          | _, _ => none)
      | .cap => (match argTypes[0]?, vs with
          | some at_, [v] => (match P.underlying at_ with
              | some (.slice _) => kSl v fun _ _ c => if unk ≤ c then none else k (.int .i64 c)
              | _ => none)
          | _, _ => none)
      | .unsafeSliceData => (match vs with | [v] => kSl v fun a len _ => (match a with | none => k (.pointer none) | some a => if 0 < len then k (.pointer (some a)) else none) | _ => none)
      | .max => (match vs with | v :: rest => (match kdOf P ty with | some (.int kd) => kInt kd v fun x => foldInts mxi kd rest x fun n => k (.int kd n) | _ => none) | _ => none)
      | .min => (match vs with | v :: rest => (match kdOf P ty with | some (.int kd) => kInt kd v fun x => foldInts mni kd rest x fun n => k (.int kd n) | _ => none) | _ => none)
      | _ => none)
  | _ => none

def isLen : Builtin → Bool | .len => true | _ => false

/-- The block that a value leads to. -/
def convBlk (v : Value) : Option Nat := match v with | .pointer a => a.map (·.block) | .slice a _ _ => a.map (·.block) | _ => none

/-- The block that such an operation reads. -/
def rblk (t : Tm) (op : Op) : Option Nat :=
  match op with
  | .load _ a => opd t a fun v => kPtr v fun a => onSome a fun a => some a.block
  | .convert _ _ x => opd t x convBlk
  | .slice _ x _ _ _ => opd t x convBlk
  | .lookup _ x _ _ => opd t x fun v => kMp v fun r => r
  | .call { callee := .builtin b, args, .. } => (match isLen b with | true => opds t args.toList fun vs => (match vs with | [v] => kMp v fun r => r | _ => none) | false => none)
  | _ => none

def zeroCellsOf (z : Value) (n : Nat) : List Value := (List.replicate n z.cells.toList).flatten

/-- OPERATIONS THAT MAKE A BLOCK: the block, and the value that leads to it. -/
def al (P : Program) (t : Tm) (op : Op) (k : AObj → (Nat → Value) → Option β) : Option β :=
  match op with
  | .alloc e => onSome (zeroOf P e) fun z => (match plainV z && z.cells.toList.all Value.oneCell' with | true => k (.cells z.cells.toList (selfTy P e) true) fun id => .pointer (some ⟨id, 0, none⟩) | false => none)
  | .box e x => opd t x fun v => cellsOk v (k (.cells v.cells.toList (boxTy P e) true) fun id => .pointer (some ⟨id, 0, none⟩))
  | .buildSlice st len parts => onSome (elemOf P st) fun e => onSome (zeroOf P e) fun z => (match plainV z && z.cells.toList.all Value.oneCell' && Nat.beq z.cells.size (P.cellsOf e) with
      | false => none
      | true => (match Nat.ble (len * P.cellsOf e) 65536 with
        | false => none
        | true => opds t (parts.toList.map (·.2)) fun vs => cellsOks vs (
          onSome (Instr.fill (fun i => some (i * P.cellsOf e, P.cellsOf e)) (zeroCellsOf z len).toArray ((parts.toList.map (·.1)).zip vs)) fun cells =>
            k (.cells cells.toList (P.cellsOf e % tyM) true) fun id => .slice (some ⟨id, 0, none⟩) len len)))
  | .makeMap mt r => (match r with
      | none => k (.map [] [] 0) fun id => .map (some id)
      | some x => opd t x fun v => kAnyInt v fun _ _ => (match P.underlying mt with | some (.map _ _) => k (.map [] [] 0) fun id => .map (some id) | _ => none))
  | .makeSlice st l c => onSome (elemOf P st) fun e => onSome (zeroOf P e) fun z => (match plainV z && z.cells.toList.all Value.oneCell' && Nat.beq z.cells.size (P.cellsOf e) with
      | false => none
      | true => opd t l fun l => kInt .i64 l fun l => opd t c fun c => kInt .i64 c fun c =>
          if 0 ≤ l ∧ l ≤ c ∧ P.bytesOf e * c ≤ 140737488351232 ∧ c ≤ 140737488351232 then k (.cells (zeroCellsOf z c.toNat) (P.cellsOf e % tyM) true) fun id => .slice (some ⟨id, 0, none⟩) l.toNat c.toNat else none)
  | _ => none

/-- Cells with others written over them from a place on. -/
def splice (cs : List Value) (off : Nat) (vs : List Value) : List Value := cs.take off ++ vs ++ cs.drop (off + vs.length)

/-- Cells with a value put over them. -/
def putc (cs : List Value) (off : Nat) (v : Value) : List Value := match v with | .agg vs => splice cs off vs.toList | v => cs.set off v

/-- A store. -/
def st (n : Nat) (H : Heap) (a : Addr) (v : Value) (k : Value → Heap → Option β) : Option β :=
  match H[a.block]? with
  | some (.cells cs esz true) => if v.cells.size = n ∧ a.off + n ≤ cs.length then
      k undef (H.set a.block (.cells (putc cs a.off v) esz true)) else none
  | _ => none

/-- The cells of a slice's, or a text's, first n elements. -/
def firstC (H : Heap) (sz : Nat) (v : Value) (k : Nat → List Value → Option β) : Option β :=
  match v with
  | .slice none len _ => if len = 0 then k 0 [] else none
  | .slice (some a) len _ => ldc H a.block fun cs => if a.off + len * sz ≤ cs.length then k len (range cs a.off (len * sz)) else none
  | .string s => (match Nat.beq sz 1 with | true => k s.size (s.data.toList.map fun b => .int .u8 b.toNat) | false => none)
  | _ => none

/-- append. -/
def app (P : Program) (e : TypeId) (H : Heap) (s : Value) (n : Nat) (nw : List Value) (k : Value → Heap → Option β) : Option β :=
  kSl s fun a len cap =>
    if (len + n) * P.bytesOf e ≤ 140737488355328 ∧ len + n ≤ 140737488355328 then
      match a with
      | none => if len = 0 ∧ cap = 0 then
          (if n = 0 then k (.slice none 0 0) H else k (.slice (some ⟨H.length, 0, none⟩) n unk) (H ++ [.cells nw (tyE P e) true])) else none
      | some a =>
        match H[a.block]? with
        | some (.cells cs esz own) =>
          if a.off + len * P.cellsOf e ≤ cs.length ∧ szOk esz (P.cellsOf e) e = true then
            (if unk ≤ cap then
              (if unk < cap ∧ len + n ≤ cap - unk ∧ own = true ∧ a.off + (len + n) * P.cellsOf e ≤ cs.length then
                k (.slice (some a) (len + n) cap) (H.set a.block (.cells (splice cs (a.off + len * P.cellsOf e) nw) esz true))
              else if own = true then k (.slice (some ⟨H.length, 0, none⟩) (len + n) unk) (H.set a.block .dead ++ [.cells (range cs a.off (len * P.cellsOf e) ++ nw) (tzOff a.off esz) true]) else none)
            else if len + n ≤ cap then
              (if own = true ∧ a.off + (len + n) * P.cellsOf e ≤ cs.length then k (.slice (some a) (len + n) cap) (H.set a.block (.cells (splice cs (a.off + len * P.cellsOf e) nw) esz true)) else none)
            else k (.slice (some ⟨H.length, 0, none⟩) (len + n) unk) (H ++ [.cells (range cs a.off (len * P.cellsOf e) ++ nw) (tyE P e) true]))
          else none
        | _ => none
    else none

/-- What functions do that are called. -/
abbrev Fs := Nat → Option (List Value → Heap → Option (Value × Heap))

/-- copy's cells. -/
def cpy (H : Heap) (sz : Nat) (a : Option Addr) (len n : Nat) (cs : List Value) (k : Nat → Heap → Option β) : Option β :=
  match a with
  | none => if len = 0 then k 0 H else none
  | some a => (match H[a.block]? with
      | some (.cells old esz true) => if a.off + len * sz ≤ old.length then k (min n len) (H.set a.block (.cells (splice old a.off (cs.take (min n len * sz))) esz true)) else none
      | _ => none)
/-- clear: zero cells. -/
def clr (H : Heap) (sz : Nat) (z : Value) (a : Option Addr) (len : Nat) (k : Heap → Option β) : Option β :=
  match a with
  | none => k H
  | some a => (match H[a.block]? with
      | some (.cells old esz true) => if a.off + len * sz ≤ old.length then k (H.set a.block (.cells (splice old a.off (zeroCellsOf z len)) esz true)) else none
      | _ => none)
/-- A map without a key. -/
def dele (H : Heap) (r : Option Nat) (key : Value) (k : Heap → Option β) : Option β :=
  match r with
  | none => k H
  | some r => ldmB H r fun es bs clk => (match keysOk key es with | true => k (H.set r (.map (mdel key es) (bdel key es bs) clk)) | false => none)
/-- A map with a key's value. -/
def mupd (H : Heap) (r : Nat) (key v : Value) (k : Heap → Option β) : Option β :=
  ldmB H r fun es bs clk => (match keysOk key es with | true => k (H.set r (.map (mset key v es) (bset key es bs clk) (cset key es clk))) | false => none)

/-- A key's entry, made if there is none: its value, and its birth. -/
def ment (P : Program) (et : TypeId) (H : Heap) (r : Nat) (key : Value) (k : Value → Heap → Option β) : Option β :=
  ldmB H r fun es bs clk => (match keysOk key es with
    | true => (match midx key es with
        | some j => onSome es[j]? fun e => onSome bs[j]? fun b => k (.tuple #[e.2, .int .i64 b]) (H.set r (.map (es.set j (key, e.2)) bs clk))
        | none => onSome (zeroOf P et) fun z => (match plainV z with | true => k (.tuple #[z, .int .i64 clk]) (H.set r (.map (es ++ [(key, z)]) (bs ++ [clk]) (clk + 1))) | false => none))
    | false => none)
def bidx (n : Int) : List Nat → Option Nat
  | [] => none
  | b :: bs => (match ((b : Nat) : Int) == n with | true => some 0 | false => (bidx n bs).map (· + 1))
/-- An entry's value, the entry named by its birth. -/
def esto (H : Heap) (r : Nat) (n : Int) (v : Value) (k : Heap → Option β) : Option β :=
  ldmB H r fun es bs clk => onSome (bidx n bs) fun j => onSome es[j]? fun e => k (H.set r (.map (es.set j (e.1, v)) bs clk))

/-- The entry at which an iteration stands. -/
def entr (H : Heap) (a : Addr) (k : Value → Option β) : Option β :=
  match H[a.block]? with
  | some (.iter (some r) _ seen last) => if a.off = 0 then onSome seen.getLast? fun s => ldmB H r fun es bs clk => if clk = last then onSome (bidx s bs) fun j => onSome es[j]? fun e => k (.tuple #[e.1, e.2]) else none else none
  | _ => none

/-- CALLS THAT CHANGE SOMETHING. -/
def efCall (P : Program) (Γ : Fs) (t : Tm) (H : Heap) (ty : TypeId) (c : Call) (k : Value → Heap → Option β) : Option β :=
  match c with
  | { callee := .builtin b, args, argTypes } => opds t args.toList fun vs => (match b with
      | .append => (match argTypes[0]?, argTypes[1]?, vs with
          | some st, some xt, [s, x] => onSome (elemOf P st) fun e => onSome (zeroOf P e) fun z => (match plainV z && Nat.beq z.cells.size (P.cellsOf e) with | false => none | true => match P.underlying xt with
              | some (.int _) => none
              | none => none
              | _ => firstC H (P.cellsOf e) x fun n nw => app P e H s n nw k)
          | _, _, _ => none)
      | .copy => (match argTypes[0]?, vs with
          | some dt, [d, s] => onSome (elemOf P dt) fun e => onSome (P.info? e) fun _ => firstC H (P.cellsOf e) s fun n cs => kSl d fun a len _ => cpy H (P.cellsOf e) a len n cs fun m H => k (.int .i64 m) H
          | _, _ => none)
      | .clear => (match argTypes[0]?, vs with
          | some dt, [d] => onSome (elemOf P dt) fun e => onSome (zeroOf P e) fun z => (match plainV z && z.cells.toList.all Value.oneCell' && Nat.beq z.cells.size (P.cellsOf e) with
              | false => none
              | true => kSl d fun a len _ => clr H (P.cellsOf e) z a len fun H => k (.tuple #[]) H)
          | _, _ => none)
      | .delete => (match argTypes[0]?, vs with
          | some mt, [m, key] => (match P.underlying mt with
              | some (.map kt _) => kKey P kt key fun key => kMp m fun r => dele H r key fun H => k (.tuple #[]) H
              | _ => none)
          | _, _ => none)
      | .unsafeString => (match argTypes[0]?, vs with
          | some pt, [p, n] => kPtr p fun a => kInt .i64 n fun n => (match a with
              | none => if n = 0 then k (.string .empty) H else none
              | some a => (match P.underlying pt with
                  | some (.pointer u) => uStr H a n u (P.cellsOf u) fun s H => k (.string s) H
                  | _ => none))
          | _, _ => none)
      | _ => none)
  | { callee := .value (.func f), args, .. } => onSome (Γ f) fun F => opds t args.toList fun vs => onSome (F vs H) fun r => kTy (kdOf P ty) r.1 fun v => k v r.2
  | { callee := .value x, args, .. } => opd t x fun fv => (match fv with
      | .func (.func f) first cap => onSome (Γ f) fun F => opds t args.toList fun vs => onSome (F (first.toList ++ vs ++ cap.toList) H) fun r => kTy (kdOf P ty) r.1 fun v => k v r.2
      | _ => none)
  | _ => none

/-- OPERATIONS THAT CHANGE SOMETHING. -/
def ef (P : Program) (Γ : Fs) (t : Tm) (H : Heap) (ty : TypeId) (op : Op) (k : Value → Heap → Option β) : Option β :=
  match op with
  | .mapUpdate mt m key x => opd t m fun m => kMp m fun r => onSome r fun r => opd t key fun key => opd t x fun v => (match P.underlying mt with
      | some (.map kt _) => kKey P kt key fun key => mupd H r key v fun H => k undef H
      | _ => none)
  | .insert mt m key x => opd t m fun m => kMp m fun r => onSome r fun r => opd t key fun key => opd t x fun v => (match P.underlying mt with
      | some (.map kt _) => kKey P kt key fun key => mupd H r key v fun H => k undef H
      | _ => none)
  | .mapEntry mt m key => opd t m fun m => kMp m fun r => onSome r fun r => opd t key fun key => (match P.underlying mt with
      | some (.map kt et) => kKey P kt key fun key => ment P et H r key k
      | _ => none)
  | .entryStore mt m s x => opd t m fun m => kMp m fun r => onSome r fun r => opd t s fun s => kAnyInt s fun _ n => opd t x fun v => esto H r n v fun H => k undef H
  | .entry it => opd t it fun v => kPtr v fun a => onSome a fun a => entr H a fun v => k v H
  | .range xt x => opd t x fun v => (match P.underlying xt with
      | some (.map _ _) => kMp v fun r => (match r with
          | none => k (.pointer (some ⟨H.length, 0, none⟩)) (H ++ [.iter none 0 [] 0])
          | some r => ldmB H r fun _ _ clk => k (.pointer (some ⟨H.length, 0, none⟩)) (H ++ [.iter (some r) clk [] clk]))
      | _ => none)
  | .store ty a x => opd t a fun a => kPtr a fun a => onSome a fun a => opd t x fun v => onSome (P.info? ty) fun _ => cellsOk v (st (P.cellsOf ty) H a v k)
  | .convert s d x => opd t x fun v => (match P.underlying s, P.underlying d with
      | some .string, some (.slice e) => (match P.underlying e with
          | some (.int .u8) => kStr v fun s => if s.size ≤ 140737488351232 then k (.slice (some ⟨H.length, 0, none⟩) s.size unk) (H ++ [.cells (s.data.toList.map fun b => .int .u8 b.toNat) 1 true]) else none
          | _ => none)
      | _, _ => none)
  | .call c => efCall P Γ t H ty c k
  | _ => none

/-- The value of an operation put where it belongs. -/
def put (n : Nat) (t : Tm) (d : Option Nat) (v : Value) (k : Tm → Option β) : Option β :=
  match d with
  | none => k t
  | some d => (match Nat.blt d n with | true => k (t.upd d v) | false => none)

/-- An iteration over a map goes on: of what operand? -/
def nextOf : Op → Option Operand
  | .next it s => (match s with | true => none | false => some it)
  | _ => none
/-- It may be over if no old entry is left. -/
def overC {α : Type} : List α → List (Option α)
  | [] => [none]
  | _ :: _ => []
/-- The entries that may come next, each with its birth; none: it may be over. -/
def nextC (es : List (Value × Value)) (bs : List Nat) (since : Nat) (seen : List Nat) (last : Nat) : Option (List (Option ((Value × Value) × Nat))) :=
  match !seen.isEmpty && !es.isEmpty && bs.all (fun b => Nat.ble last b) with
  | true => none
  | false =>
    let left := (es.zip bs).filter fun e => !seen.contains e.2
    let old := left.filter fun e => Nat.blt e.2 since
    let new := left.filter fun e => Nat.ble since e.2
    some (overC old ++ (old ++ new).map some)
open Classical in
/-- Whatever comes, it comes to the same. -/
noncomputable def allEq : List (Option β) → Option β
  | [] => none
  | [x] => x
  | x :: y :: l => if ∀ z ∈ y :: l, z = x then x else none
/-- What such an entry brings. -/
def nextV (H : Heap) (b r since : Nat) (seen : List Nat) (clk : Nat) (k : Value → Heap → Option β) : Option ((Value × Value) × Nat) → Option β
  | none => k (.tuple #[.bool false]) (H.set b .dead)
  | some e => k (.tuple #[.bool true, e.1.1, e.1.2]) (H.set b (.iter (some r) since (seen ++ [e.2]) clk))
/-- AN ITERATION OVER A MAP GOES ON, in whatever order. -/
noncomputable def nx (t : Tm) (H : Heap) (it : Operand) (k : Value → Heap → Option β) : Option β :=
  opd t it fun v => kPtr v fun a => onSome a fun a => (match Nat.beq a.off 0, H[a.block]? with
    | true, some (.iter none _ _ _) => k (.tuple #[.bool false]) (H.set a.block .dead)
    | true, some (.iter (some r) since seen last) => ldmB H r fun es bs clk => onSome (nextC es bs since seen last) fun l => allEq (l.map (nextV H a.block r since seen clk k))
    | _, _ => none)

/-- One operation, its guard left aside. -/
noncomputable def op1 (P : Program) (Γ : Fs) (n : Nat) (o : Oper) (t : Tm) (H : Heap) (k : Tm → Heap → Option β) : Option β :=
  match nextOf o.op with
  | some it => nx t H it fun v H => put n t o.dst v fun t => k t H
  | none => match cls P o.op with
    | .fl => fl P t H o.type o.op fun v => put n t o.dst v fun t => k t H
    | .al => al P t o.op fun ob mk => put n t o.dst (mk H.length) fun t => k t (H ++ [ob])
    | .ef => ef P Γ t H o.type o.op fun v H => put n t o.dst v fun t => k t H

/-- A bool, or what was passed over. -/
def kBoolU (v : Value) (u : Option β) (c : Bool → Option β) : Option β := match v with | .bool b => c b | .tuple _ => u | _ => none

/-- A guard: what it hangs on is decided here; what hangs on what was passed over is passed over too. -/
def guard (ops : List Oper) (n : Nat) (o : Oper) (t : Tm) (yes : Tm → Option β) (no : Tm → Option β) : Option β :=
  match o.guard with
  | none => yes t
  | some (j, want) =>
    match ops[j]? with
    | some g => (match g.dst with
        | some d => (match Nat.blt d n with
            | true => onSome (t d) fun v => kBoolU v (no t) fun b => (match b with
                | true => (match want with | true => yes (t.upd d (.bool true)) | false => no (t.upd d (.bool true)))
                | false => (match want with | true => no (t.upd d (.bool false)) | false => yes (t.upd d (.bool false))))
            | false => none)
        | none => none)
    | none => none

/-- The operations of a region, in the order of the text. -/
noncomputable def opsE (P : Program) (Γ : Fs) (n : Nat) (ops : List Oper) : List Oper → Tm → Heap → (Tm → Heap → Option β) → Option β
  | [], t, H, k => k t H
  | o :: rest, t, H, k => guard ops n o t
      (fun t => op1 P Γ n o t H fun t H => opsE P Γ n ops rest t H k)
      (fun t => put n t o.dst undef fun t => opsE P Γ n ops rest t H k)

end
end Go.Proofs.YtlpeldimmaajkaaGreat.Fw
