/- FRAMEWORK 3: regions that draw their order, control, whole functions: definitions alone. -/
import Derived.Test.YtlpeldimmaajkaaGreatFw2
set_option linter.unusedVariables false
namespace Go.Proofs.YtlpeldimmaajkaaGreat.Fw
open Go Go.RowKit

section
variable {β : Type}

open Classical in
/-- A block is as it was. -/
noncomputable def unt (H H' : Heap) (b : Nat) (k : Option β) : Option β := if H'[b]? = H[b]? then k else none

noncomputable def untouched (H H' : Heap) (bef : Nat) : List (Nat × Nat) → Option β → Option β
  | [], k => k
  | (i, b) :: rest, k => (match bef.testBit i with | true => untouched H H' bef rest k | false => unt H H' b (untouched H H' bef rest k))

def bef1 (acc : List Nat) (o : Oper) : Nat := o.after.toList.foldr (fun e s => if Region.binds .any e = true then s ||| (2 ^ e.on ||| acc.getD e.on 0) else s) 0
def befsGo : List Oper → List Nat → List Nat
  | [], acc => acc
  | o :: l, acc => befsGo l (acc ++ [bef1 acc o])
/-- Of each operation, as bits, those that stand ahead of it. -/
def befs (ops : List Oper) : List Nat := befsGo ops []
def nodupB : List Nat → Bool
  | [] => true
  | x :: xs => !xs.contains x && nodupB xs

def isEf (P : Program) (ops : List Oper) (i : Nat) : Bool := match ops[i]? with | some o => (match cls P o.op with | .ef => true | _ => false) | none => false

/-- How many of a region's changing operations stand ahead of one. -/
def level (efs : List Nat) (bef : Nat) : Nat := (efs.filter fun e => bef.testBit e).length

/-- The order in which a region that draws is gone through here: what changes nothing as early as may be. -/
def greedy (P : Program) (ops : List Oper) : List Nat :=
  let efs := (List.range ops.length).filter (isEf P ops)
  let lv := (befs ops).map (level efs)
  (List.range (efs.length + 1)).flatMap fun L =>
    (List.range ops.length).filter (fun i => !isEf P ops i && Nat.beq (lv.getD i 0) L) ++ efs.filter (fun i => Nat.beq (lv.getD i 0) L)

def tmpsOf (o : Oper) (ops : List Oper) : List Nat :=
  (o.op.operands.toList.filterMap fun | .tmp t => some t | _ => none) ++ (match o.guard with | some (g, _) => (match ops[g]? with | some o => o.dst.toList | none => []) | none => [])

/-- Whether the order is one that may be taken for all: see 'drawn'. -/
def pairOk (P : Program) (ops : List Oper) (bs : List Nat) (i j : Nat) : Bool :=
  match ops[i]?, ops[j]? with
  | some a, some b =>
    let before := (bs.getD j 0).testBit i
    !((bs.getD i 0).testBit j) && (before ||
      (!isEf P ops i &&
       (match a.dst with | some d => !(tmpsOf b ops).contains d && b.dst != some d | none => true) &&
       (match b.dst with | some d => !(tmpsOf a ops).contains d | none => true)))
  | _, _ => false

def pairsOk (P : Program) (ops : List Oper) (bs : List Nat) : List Nat → Bool
  | [] => true
  | i :: rest => rest.all (pairOk P ops bs i) && pairsOk P ops bs rest

def backEdges (ops : List Oper) : Bool := (List.range ops.length).all fun i => (match ops[i]? with | some o => o.after.all (fun e => !Region.binds .any e || Nat.blt e.on i) | none => true)

def drawOk (P : Program) (ops : List Oper) (g : List Nat) : Bool :=
  backEdges ops && pairsOk P ops (befs ops) g && nodupB g && Nat.beq g.length ops.length && (List.range ops.length).all (g.contains ·) && P.follows .mixedOrders

noncomputable def opsD (P : Program) (Γ : Fs) (n : Nat) (ops : List Oper) (bs : List Nat) : List Nat → List (Nat × Nat) → Tm → Heap → (Tm → Heap → Option β) → Option β
  | [], rs, t, H, k => k t H
  | i :: rest, rs, t, H, k =>
    onSome ops[i]? fun o => guard ops n o t
      (fun t => match cls P o.op with
        | .fl => fl P t H o.type o.op fun v => put n t o.dst v fun t' => (match rblk t o.op with | some b => opsD P Γ n ops bs rest ((i, b) :: rs) t' H k | none => opsD P Γ n ops bs rest rs t' H k)
        | .al => al P t o.op fun ob mk => put n t o.dst (mk H.length) fun t' => opsD P Γ n ops bs rest ((i, H.length) :: rs) t' (H ++ [ob]) k
        | .ef => ef P Γ t H o.type o.op fun v H' => untouched H H' (bs.getD i 0) rs (put n t o.dst v fun t' => opsD P Γ n ops bs rest rs t' H' k))
      (fun t => put n t o.dst undef fun t => opsD P Γ n ops bs rest rs t H k)

noncomputable def regionE (P : Program) (Γ : Fs) (n : Nat) (ops : List Oper) (draw : Bool) (t : Tm) (H : Heap) (k : Tm → Heap → Option β) : Option β :=
  match draw with
  | false => opsE P Γ n ops ops t H k
  | true => (match drawOk P ops (greedy P ops) with | true => opsD P Γ n ops (befs ops) (greedy P ops) [] t H k | false => none)
end

abbrev R := Option (Value × Heap)

/-- The results. -/
def fin (P : Program) (t : Tm) (H : Heap) : List ResultVar → (List Value → R) → R
  | [], k => k []
  | .tmp i :: rest, k => onSome (t i) fun v => fin P t H rest fun vs => k (v :: vs)
  | .cell i ty :: rest, k => onSome (t i) fun v => kPtr v fun a => onSome a fun a => ld (kdOf P ty) H a fun v => fin P t H rest fun vs => k (v :: vs)

def retV (vs : List Value) (H : Heap) : R := match vs with | [v] => some (v, H) | vs => some (.tuple vs.toArray, H)

/-- The number of the first region of a code. -/
def lead : Code → Option Nat
  | .region id _ _ => some id
  | .seq a _ => lead a
  | .block _ c => lead c
  | .loop c => lead c
  | _ => none

/-- A place at which the text may be cut. -/
def cutKey : List Item → Option Nat
  | .code c :: _ => lead c
  | .inLoop c :: _ => (match lead c with | some i => some (i + 100000) | none => none)
  | _ => none

/-- The places at which the text is cut, and the variables that live there. -/
abbrev Cuts := List (Nat × List Nat)
def Cuts.at_ : Cuts → Nat → Option (List Nat)
  | [], _ => none
  | (k, l) :: rest, i => match Nat.beq k i with | true => some l | false => Cuts.at_ rest i
def cutOf (cuts : Cuts) (td : List Item) : Option (List Nat) := match cutKey td with | some i => cuts.at_ i | none => none

def sel (t : Tm) : List Nat → (List Value → R) → R
  | [], k => k []
  | i :: rest, k => onSome (t i) fun v => sel t rest fun vs => k (v :: vs)
def restore : List Nat → List Value → Tm
  | i :: is, v :: vs => (restore is vs).upd i v
  | _, _ => fun _ => none

noncomputable def exec (P : Program) (Γ : Fs) (fn : Func) (cuts : Cuts) (J : List Item → List Value → Heap → R) : Nat → List Item → Tm → Heap → R
  | 0, _, _, _ => none
  | g + 1, td, t, H =>
    let jump (td : List Item) (t : Tm) (H : Heap) : R := match cutOf cuts td with | some lv => sel t lv fun vs => J td vs H | none => exec P Γ fn cuts J g td t H
    match td with
    | [] => fin P t H fn.results.toList fun vs => retV vs H
    | .code .skip :: K => jump K t H
    | .code (.region _ ops dr) :: K => regionE P Γ fn.ntmps ops.toList dr t H fun t H => jump K t H
    | .code (.seq a b) :: K => exec P Γ fn cuts J g (.code a :: .code b :: K) t H
    | .code (.cond c a b) :: K => opd t c fun v => kBool v fun r => (match r with | true => jump (.code a :: K) t H | false => jump (.code b :: K) t H)
    | .code (.block id c) :: K => exec P Γ fn cuts J g (.code c :: .inBlock id :: K) t H
    | .code (.loop c) :: K => jump (.inLoop c :: K) t H
    | .code (.exit id) :: K => onSome (exitTo id K) fun K => jump K t H
    | .code .ret :: _ => fin P t H fn.results.toList fun vs => retV vs H
    | .inBlock _ :: K => jump K t H
    | .inLoop c :: K => exec P Γ fn cuts J g (.code c :: .inLoop c :: K) t H
    | _ => none

/-- Rounds of cut places. -/
noncomputable def run (P : Program) (Γ : Fs) (fn : Func) (cuts : Cuts) : Nat → List Item → List Value → Heap → R
  | 0, _, _, _ => none
  | m + 1, td, vs, H => onSome (cutOf cuts td) fun lv => exec P Γ fn cuts (run P Γ fn cuts m) 2000 td (restore lv vs) H

def argT (i : Nat) : List Value → Tm
  | [] => fun _ => none
  | v :: vs => (argT (i + 1) vs).upd i v

/-- A whole function, with so many rounds. -/
noncomputable def fnE (P : Program) (Γ : Fs) (fn : Func) (cuts : Cuts) (m : Nat) (args : List Value) (H : Heap) : R :=
  onSome fn.body fun c => exec P Γ fn cuts (run P Γ fn cuts m) 2000 [.code c] (argT 0 args) H

def hit (k : Nat) (c : Code) (K : List Item) (x : Option (List Item)) : Option (List Item) :=
  match cutKey (.code c :: K) with
  | some i => (match Nat.beq i k with | true => some (.code c :: K) | false => x)
  | none => x
/-- What is still to do at a place of the text. -/
def seek (k : Nat) : Code → List Item → Option (List Item)
  | .seq a b, K => hit k (.seq a b) K (match seek k a (.code b :: K) with | some r => some r | none => seek k b K)
  | .cond o a b, K => hit k (.cond o a b) K (match seek k a K with | some r => some r | none => seek k b K)
  | .block id c, K => hit k (.block id c) K (seek k c (.inBlock id :: K))
  | .loop c, K => hit k (.loop c) K (match lead c with
      | some i => (match Nat.beq (i + 100000) k with | true => some (.inLoop c :: K) | false => seek k c (.inLoop c :: K))
      | none => seek k c (.inLoop c :: K))
  | c, K => hit k c K none
def todoOf (fn : Func) (k : Nat) : List Item := match fn.body with | some c => (match seek k c [] with | some l => l | none => []) | none => []

open Classical in
/-- What a function with rounds comes to. -/
noncomputable def lim (g : Nat → R) : R := if h : ∃ m r, g m = some r then some (Classical.choose (Classical.choose_spec h)) else none

end Go.Proofs.YtlpeldimmaajkaaGreat.Fw
