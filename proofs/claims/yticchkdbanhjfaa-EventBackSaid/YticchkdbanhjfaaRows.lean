/-
  No cell of these rows narrows 'for every input' (looked for: loops, veiled, ifaces, maps, wideKeys, modest, calm, conditions, laid).
  DERIVED. THE GIVEN ROWS OF THIS SEAT. 7 by the template 'for every input the law returns true; each argument reads behind the call as it read before'; 0 by the template 'total and deterministic' (their statements: YticchkdbanhjfaaTotals.lean).
  GIVEN WITH THE SEED: the statements are not yours to turn. If you find one false, say at which input.
  Laid BY PROGRAM, IN A SANDBOX (cutbox-rows.mjs): the forced cells as the released guide's own fill.sh prints them over the translation c81e4c7454a5dede… (all of the seat's roots in one cut). By AI agents, Wed Nov 11 2026. No macro, syntax, notation, axiom, sorry.
-/
import Derived.Test.YticchkdbanhjfaaChecked
import GoSem.Claim
import GoSem.ClaimJoined
import GoSem.ClaimMapViews
import Derived.JoinedTies
import Derived.KernelRfl
namespace Go.Proofs.Yticchkdbanhjfaa
/- THE CELL 'sum', in the pinned program and in every row, IS THE sha256 OF THE DUMP (.gsa) THAT YticchkdbanhjfaaProg.lean LOADS. Nothing in Lean hashes anything: it is a label: what it is worth is what the hold of that sum in a sandbox is worth. -/
noncomputable def Try.pinned : Pinned := { name := "yticchkdbanhjfaa", sum := "c81e4c7454a5dede10a5207927bfbdf4c0b782bff0c6af7b0b6019a638cabf8f", checked := Try.checked }
namespace Rows
def none {H : Type} : Left H := { results := [], args := [] }

/-- 'sternpostlaw29.JudgeSome': WHATEVER THE INPUT: true; the input reads as it did. -/
def judgeSomeSpec : ChangeSpec := { name := "judgeSome", fn := fun _ => fun
  | [d1, d2] => { results := [.lit (.bool true)], args := [d1, d2] }
  | _ => none }
def judgeSomeRow : OpenClaim := { program := "yticchkdbanhjfaa", sum := "c81e4c7454a5dede10a5207927bfbdf4c0b782bff0c6af7b0b6019a638cabf8f", func := "sternpost/sternpostlaw29.JudgeSome", spec := "judgeSome", apart := false }
def JudgeSomeSaid : Prop := judgeSomeRow.holds Try.pinned (OpenSpec.ofChange judgeSomeSpec)

/-- ITS FALSE NEIGHBOUR: 'it returns false'. Refute it at one input. -/
def judgeSomeWrong : ChangeSpec := { name := "judgeSome", fn := fun _ => fun
  | [d1, d2] => { results := [.lit (.bool false)], args := [d1, d2] }
  | _ => none }
def JudgeSomeWrongFalsely : Prop := judgeSomeRow.holds Try.pinned (OpenSpec.ofChange judgeSomeWrong)

/-- 'sternpostlaw23.EventLogs': WHATEVER THE INPUT: true; the input reads as it did. -/
def eventLogsSpec : ChangeSpec := { name := "eventLogs", fn := fun _ => fun
  | [d1, d2, d3] => { results := [.lit (.bool true)], args := [d1, d2, d3] }
  | _ => none }
def eventLogsRow : OpenClaim := { program := "yticchkdbanhjfaa", sum := "c81e4c7454a5dede10a5207927bfbdf4c0b782bff0c6af7b0b6019a638cabf8f", func := "sternpost/sternpostlaw23.EventLogs", spec := "eventLogs", inPlace := ["internal/abi.NoEscape"], apart := false }
def EventLogsSaid : Prop := eventLogsRow.holds Try.pinned (OpenSpec.ofChange eventLogsSpec)

/-- ITS FALSE NEIGHBOUR: 'it returns false'. Refute it at one input. -/
def eventLogsWrong : ChangeSpec := { name := "eventLogs", fn := fun _ => fun
  | [d1, d2, d3] => { results := [.lit (.bool false)], args := [d1, d2, d3] }
  | _ => none }
def EventLogsWrongFalsely : Prop := eventLogsRow.holds Try.pinned (OpenSpec.ofChange eventLogsWrong)

/-- 'sternpostlaw26.RoleTakes': WHATEVER THE INPUT: true; the input reads as it did. -/
def roleTakesSpec : ChangeSpec := { name := "roleTakes", fn := fun _ => fun
  | [d1, d2] => { results := [.lit (.bool true)], args := [d1, d2] }
  | _ => none }
def roleTakesRow : OpenClaim := { program := "yticchkdbanhjfaa", sum := "c81e4c7454a5dede10a5207927bfbdf4c0b782bff0c6af7b0b6019a638cabf8f", func := "sternpost/sternpostlaw26.RoleTakes", spec := "roleTakes", apart := false }
def RoleTakesSaid : Prop := roleTakesRow.holds Try.pinned (OpenSpec.ofChange roleTakesSpec)

/-- ITS FALSE NEIGHBOUR: 'it returns false'. Refute it at one input. -/
def roleTakesWrong : ChangeSpec := { name := "roleTakes", fn := fun _ => fun
  | [d1, d2] => { results := [.lit (.bool false)], args := [d1, d2] }
  | _ => none }
def RoleTakesWrongFalsely : Prop := roleTakesRow.holds Try.pinned (OpenSpec.ofChange roleTakesWrong)

/-- 'sternpostlaw29.JudgeAmong': WHATEVER THE INPUT: true; the input reads as it did. -/
def judgeAmongSpec : ChangeSpec := { name := "judgeAmong", fn := fun _ => fun
  | [d1, d2] => { results := [.lit (.bool true)], args := [d1, d2] }
  | _ => none }
def judgeAmongRow : OpenClaim := { program := "yticchkdbanhjfaa", sum := "c81e4c7454a5dede10a5207927bfbdf4c0b782bff0c6af7b0b6019a638cabf8f", func := "sternpost/sternpostlaw29.JudgeAmong", spec := "judgeAmong", apart := false }
def JudgeAmongSaid : Prop := judgeAmongRow.holds Try.pinned (OpenSpec.ofChange judgeAmongSpec)

/-- ITS FALSE NEIGHBOUR: 'it returns false'. Refute it at one input. -/
def judgeAmongWrong : ChangeSpec := { name := "judgeAmong", fn := fun _ => fun
  | [d1, d2] => { results := [.lit (.bool false)], args := [d1, d2] }
  | _ => none }
def JudgeAmongWrongFalsely : Prop := judgeAmongRow.holds Try.pinned (OpenSpec.ofChange judgeAmongWrong)

/-- 'sternpostlaw26.RolePlays': WHATEVER THE INPUT: true; the input reads as it did. -/
def rolePlaysSpec : ChangeSpec := { name := "rolePlays", fn := fun _ => fun
  | [d1, d2, d3] => { results := [.lit (.bool true)], args := [d1, d2, d3] }
  | _ => none }
def rolePlaysRow : OpenClaim := { program := "yticchkdbanhjfaa", sum := "c81e4c7454a5dede10a5207927bfbdf4c0b782bff0c6af7b0b6019a638cabf8f", func := "sternpost/sternpostlaw26.RolePlays", spec := "rolePlays", apart := false }
def RolePlaysSaid : Prop := rolePlaysRow.holds Try.pinned (OpenSpec.ofChange rolePlaysSpec)

/-- ITS FALSE NEIGHBOUR: 'it returns false'. Refute it at one input. -/
def rolePlaysWrong : ChangeSpec := { name := "rolePlays", fn := fun _ => fun
  | [d1, d2, d3] => { results := [.lit (.bool false)], args := [d1, d2, d3] }
  | _ => none }
def RolePlaysWrongFalsely : Prop := rolePlaysRow.holds Try.pinned (OpenSpec.ofChange rolePlaysWrong)

/-- 'sternpostlaw26.RoleOne': WHATEVER THE INPUT: true; the input reads as it did. -/
def roleOneSpec : ChangeSpec := { name := "roleOne", fn := fun _ => fun
  | [d] => { results := [.lit (.bool true)], args := [d] }
  | _ => none }
def roleOneRow : OpenClaim := { program := "yticchkdbanhjfaa", sum := "c81e4c7454a5dede10a5207927bfbdf4c0b782bff0c6af7b0b6019a638cabf8f", func := "sternpost/sternpostlaw26.RoleOne", spec := "roleOne", apart := false }
def RoleOneSaid : Prop := roleOneRow.holds Try.pinned (OpenSpec.ofChange roleOneSpec)

/-- ITS FALSE NEIGHBOUR: 'it returns false'. Refute it at one input. -/
def roleOneWrong : ChangeSpec := { name := "roleOne", fn := fun _ => fun
  | [d] => { results := [.lit (.bool false)], args := [d] }
  | _ => none }
def RoleOneWrongFalsely : Prop := roleOneRow.holds Try.pinned (OpenSpec.ofChange roleOneWrong)

/-- 'sternpostlaw23.EventBack': WHATEVER THE INPUT: true; the input reads as it did. -/
def eventBackSpec : ChangeSpec := { name := "eventBack", fn := fun _ => fun
  | [d1, d2, d3] => { results := [.lit (.bool true)], args := [d1, d2, d3] }
  | _ => none }
def eventBackRow : OpenClaim := { program := "yticchkdbanhjfaa", sum := "c81e4c7454a5dede10a5207927bfbdf4c0b782bff0c6af7b0b6019a638cabf8f", func := "sternpost/sternpostlaw23.EventBack", spec := "eventBack", inPlace := ["internal/abi.NoEscape"], apart := false }
def EventBackSaid : Prop := eventBackRow.holds Try.pinned (OpenSpec.ofChange eventBackSpec)

/-- ITS FALSE NEIGHBOUR: 'it returns false'. Refute it at one input. -/
def eventBackWrong : ChangeSpec := { name := "eventBack", fn := fun _ => fun
  | [d1, d2, d3] => { results := [.lit (.bool false)], args := [d1, d2, d3] }
  | _ => none }
def EventBackWrongFalsely : Prop := eventBackRow.holds Try.pinned (OpenSpec.ofChange eventBackWrong)

/- THE SECOND FORM. 'bulk': how many values and letters a reading holds, each counted each time it is reached (what is shared counts as often as it is met; a slice's spare places count too). A statement '..UptoSaid' is the law's where the arguments, and the package variables that the reading takes, are together of bulk at most 1048576: NARROWER than '..Said'. Prove '..Said' where nothing that the law and all that it calls make is longer than what came in: it says more and counts as full. Else prove '..UptoSaid'. A law counts once. -/
mutual
def uptoBulk {H : Type} : DataW H → Nat
  | .lit (.string bytes) => bytes.length + 1
  | .lit _ => 1
  | .nil => 1
  | .ptr d => uptoBulk d + 1
  | .slice elems spare => uptoBulkAll elems + uptoBulkAll spare + 1
  | .agg parts => uptoBulkAll parts + 1
  | .iface _ d => uptoBulk d + 1
  | .map entries => uptoBulkEntries entries + 1
  | .held _ => 1
def uptoBulkAll {H : Type} : List (DataW H) → Nat
  | [] => 0
  | d :: r => uptoBulk d + uptoBulkAll r
def uptoBulkEntries {H : Type} : List (Lit × DataW H) → Nat
  | [] => 0
  | x :: r => uptoBulkEntry x + uptoBulkEntries r
def uptoBulkEntry {H : Type} : Lit × DataW H → Nat
  | (.string bytes, d) => bytes.length + uptoBulk d + 1
  | (_, d) => uptoBulk d + 1
 end
def uptoSmall : (H : Type) → List (DataW H) → Bool := fun _ ds => decide (uptoBulkAll ds ≤ 1048576)
def OpenSpec.upto (s : _root_.Go.ChangeSpec) : _root_.Go.OpenSpec := { _root_.Go.OpenSpec.ofChange s with cond := some uptoSmall }

/-- 'sternpostlaw29.JudgeSome', WHERE WHAT IT READS IS OF BULK AT MOST 1048576: true; the input reads as it did. -/
def judgeSomeUptoRow : OpenClaim := { program := "yticchkdbanhjfaa", sum := "c81e4c7454a5dede10a5207927bfbdf4c0b782bff0c6af7b0b6019a638cabf8f", func := "sternpost/sternpostlaw29.JudgeSome", spec := "judgeSome", apart := false, narrowed := true }
def JudgeSomeUptoSaid : Prop := judgeSomeUptoRow.holds Try.pinned (OpenSpec.upto judgeSomeSpec)

/-- 'sternpostlaw23.EventLogs', WHERE WHAT IT READS IS OF BULK AT MOST 1048576: true; the input reads as it did. -/
def eventLogsUptoRow : OpenClaim := { program := "yticchkdbanhjfaa", sum := "c81e4c7454a5dede10a5207927bfbdf4c0b782bff0c6af7b0b6019a638cabf8f", func := "sternpost/sternpostlaw23.EventLogs", spec := "eventLogs", inPlace := ["internal/abi.NoEscape"], apart := false, narrowed := true }
def EventLogsUptoSaid : Prop := eventLogsUptoRow.holds Try.pinned (OpenSpec.upto eventLogsSpec)

/-- 'sternpostlaw26.RoleTakes', WHERE WHAT IT READS IS OF BULK AT MOST 1048576: true; the input reads as it did. -/
def roleTakesUptoRow : OpenClaim := { program := "yticchkdbanhjfaa", sum := "c81e4c7454a5dede10a5207927bfbdf4c0b782bff0c6af7b0b6019a638cabf8f", func := "sternpost/sternpostlaw26.RoleTakes", spec := "roleTakes", apart := false, narrowed := true }
def RoleTakesUptoSaid : Prop := roleTakesUptoRow.holds Try.pinned (OpenSpec.upto roleTakesSpec)

/-- 'sternpostlaw29.JudgeAmong', WHERE WHAT IT READS IS OF BULK AT MOST 1048576: true; the input reads as it did. -/
def judgeAmongUptoRow : OpenClaim := { program := "yticchkdbanhjfaa", sum := "c81e4c7454a5dede10a5207927bfbdf4c0b782bff0c6af7b0b6019a638cabf8f", func := "sternpost/sternpostlaw29.JudgeAmong", spec := "judgeAmong", apart := false, narrowed := true }
def JudgeAmongUptoSaid : Prop := judgeAmongUptoRow.holds Try.pinned (OpenSpec.upto judgeAmongSpec)

/-- 'sternpostlaw26.RolePlays', WHERE WHAT IT READS IS OF BULK AT MOST 1048576: true; the input reads as it did. -/
def rolePlaysUptoRow : OpenClaim := { program := "yticchkdbanhjfaa", sum := "c81e4c7454a5dede10a5207927bfbdf4c0b782bff0c6af7b0b6019a638cabf8f", func := "sternpost/sternpostlaw26.RolePlays", spec := "rolePlays", apart := false, narrowed := true }
def RolePlaysUptoSaid : Prop := rolePlaysUptoRow.holds Try.pinned (OpenSpec.upto rolePlaysSpec)

/-- 'sternpostlaw26.RoleOne', WHERE WHAT IT READS IS OF BULK AT MOST 1048576: true; the input reads as it did. -/
def roleOneUptoRow : OpenClaim := { program := "yticchkdbanhjfaa", sum := "c81e4c7454a5dede10a5207927bfbdf4c0b782bff0c6af7b0b6019a638cabf8f", func := "sternpost/sternpostlaw26.RoleOne", spec := "roleOne", apart := false, narrowed := true }
def RoleOneUptoSaid : Prop := roleOneUptoRow.holds Try.pinned (OpenSpec.upto roleOneSpec)

/-- 'sternpostlaw23.EventBack', WHERE WHAT IT READS IS OF BULK AT MOST 1048576: true; the input reads as it did. -/
def eventBackUptoRow : OpenClaim := { program := "yticchkdbanhjfaa", sum := "c81e4c7454a5dede10a5207927bfbdf4c0b782bff0c6af7b0b6019a638cabf8f", func := "sternpost/sternpostlaw23.EventBack", spec := "eventBack", inPlace := ["internal/abi.NoEscape"], apart := false, narrowed := true }
def EventBackUptoSaid : Prop := eventBackUptoRow.holds Try.pinned (OpenSpec.upto eventBackSpec)

end Rows
end Go.Proofs.Yticchkdbanhjfaa
