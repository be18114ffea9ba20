/-
  No cell of these rows narrows 'for every input' (looked for: loops, veiled, ifaces, maps, wideKeys, modest, calm, conditions, laid).
  DERIVED. THE GIVEN ROWS OF THIS SEAT. 12 by the template 'for every input the law returns true; each argument reads behind the call as it read before'; 0 by the template 'total and deterministic' (their statements: YtlpeldimmaajkaaGreatTotals.lean).
  GIVEN WITH THE SEED: the statements are not yours to turn. If you find one false, say at which input.
  Laid BY PROGRAM, IN A SANDBOX (cutbox-rows.mjs): the forced cells as the released guide's own fill.sh prints them over the translation 69b39b64122e3acc… (all of the seat's roots in one cut). By AI agents, Wed Nov 11 2026. No macro, syntax, notation, axiom, sorry.
-/
import Derived.Test.YtlpeldimmaajkaaGreatChecked
import GoSem.Claim
import GoSem.ClaimJoined
import GoSem.ClaimMapViews
import Derived.JoinedTies
import Derived.KernelRfl
namespace Go.Proofs.YtlpeldimmaajkaaGreat
/- THE CELL 'sum', in the pinned program and in every row, IS THE sha256 OF THE DUMP (.gsa) THAT YtlpeldimmaajkaaGreatProg.lean LOADS. Nothing in Lean hashes anything: it is a label: what it is worth is what the hold of that sum in a sandbox is worth. -/
noncomputable def Tryz.pinned : Pinned := { name := "ytlpeldimmaajkaagreat", sum := "69b39b64122e3acc81b57889d74bc73632bea68faad2405198b75a089a392b7b", checked := Tryz.checked }
namespace Rows
def none {H : Type} : Left H := { results := [], args := [] }

/-- 'sternpostlaw20.SockNumbers': WHATEVER THE INPUT: true; the input reads as it did. -/
def sockNumbersSpec : ChangeSpec := { name := "sockNumbers", fn := fun _ => fun
  | [d] => { results := [.lit (.bool true)], args := [d] }
  | _ => none }
def sockNumbersRow : OpenClaim := { program := "ytlpeldimmaajkaagreat", sum := "69b39b64122e3acc81b57889d74bc73632bea68faad2405198b75a089a392b7b", func := "sternpost/sternpostlaw20.SockNumbers", spec := "sockNumbers", unfollowed := true, recurses := true, plainKeys := false, apart := false }
def SockNumbersSaid : Prop := sockNumbersRow.holds Tryz.pinned (OpenSpec.ofChange sockNumbersSpec)

/-- ITS FALSE NEIGHBOUR: 'it returns false'. Refute it at one input. -/
def sockNumbersWrong : ChangeSpec := { name := "sockNumbers", fn := fun _ => fun
  | [d] => { results := [.lit (.bool false)], args := [d] }
  | _ => none }
def SockNumbersWrongFalsely : Prop := sockNumbersRow.holds Tryz.pinned (OpenSpec.ofChange sockNumbersWrong)

/-- 'sternpostlaw19.TablePorts': WHATEVER THE INPUT: true; the input reads as it did. -/
def tablePortsSpec : ChangeSpec := { name := "tablePorts", fn := fun _ => fun
  | [d] => { results := [.lit (.bool true)], args := [d] }
  | _ => none }
def tablePortsRow : OpenClaim := { program := "ytlpeldimmaajkaagreat", sum := "69b39b64122e3acc81b57889d74bc73632bea68faad2405198b75a089a392b7b", func := "sternpost/sternpostlaw19.TablePorts", spec := "tablePorts", inPlace := ["internal/abi.NoEscape", "internal/bytealg.MakeNoZero"], unfollowed := true, recurses := true, plainKeys := false, apart := false }
def TablePortsSaid : Prop := tablePortsRow.holds Tryz.pinned (OpenSpec.ofChange tablePortsSpec)

/-- ITS FALSE NEIGHBOUR: 'it returns false'. Refute it at one input. -/
def tablePortsWrong : ChangeSpec := { name := "tablePorts", fn := fun _ => fun
  | [d] => { results := [.lit (.bool false)], args := [d] }
  | _ => none }
def TablePortsWrongFalsely : Prop := tablePortsRow.holds Tryz.pinned (OpenSpec.ofChange tablePortsWrong)

/-- 'sternpostlaw19.TableRoom': WHATEVER THE INPUT: true; the input reads as it did. -/
def tableRoomSpec : ChangeSpec := { name := "tableRoom", fn := fun _ => fun
  | [d1, d2] => { results := [.lit (.bool true)], args := [d1, d2] }
  | _ => none }
def tableRoomRow : OpenClaim := { program := "ytlpeldimmaajkaagreat", sum := "69b39b64122e3acc81b57889d74bc73632bea68faad2405198b75a089a392b7b", func := "sternpost/sternpostlaw19.TableRoom", spec := "tableRoom", inPlace := ["internal/abi.NoEscape", "internal/bytealg.MakeNoZero"], unfollowed := true, recurses := true, plainKeys := false, apart := false }
def TableRoomSaid : Prop := tableRoomRow.holds Tryz.pinned (OpenSpec.ofChange tableRoomSpec)

/-- ITS FALSE NEIGHBOUR: 'it returns false'. Refute it at one input. -/
def tableRoomWrong : ChangeSpec := { name := "tableRoom", fn := fun _ => fun
  | [d1, d2] => { results := [.lit (.bool false)], args := [d1, d2] }
  | _ => none }
def TableRoomWrongFalsely : Prop := tableRoomRow.holds Tryz.pinned (OpenSpec.ofChange tableRoomWrong)

/-- 'sternpostlaw20.SockRefused': WHATEVER THE INPUT: true; the input reads as it did. -/
def sockRefusedSpec : ChangeSpec := { name := "sockRefused", fn := fun _ => fun
  | [d1, d2] => { results := [.lit (.bool true)], args := [d1, d2] }
  | _ => none }
def sockRefusedRow : OpenClaim := { program := "ytlpeldimmaajkaagreat", sum := "69b39b64122e3acc81b57889d74bc73632bea68faad2405198b75a089a392b7b", func := "sternpost/sternpostlaw20.SockRefused", spec := "sockRefused", inPlace := ["internal/abi.NoEscape", "internal/bytealg.MakeNoZero"], unfollowed := true, recurses := true, plainKeys := false, apart := false }
def SockRefusedSaid : Prop := sockRefusedRow.holds Tryz.pinned (OpenSpec.ofChange sockRefusedSpec)

/-- ITS FALSE NEIGHBOUR: 'it returns false'. Refute it at one input. -/
def sockRefusedWrong : ChangeSpec := { name := "sockRefused", fn := fun _ => fun
  | [d1, d2] => { results := [.lit (.bool false)], args := [d1, d2] }
  | _ => none }
def SockRefusedWrongFalsely : Prop := sockRefusedRow.holds Tryz.pinned (OpenSpec.ofChange sockRefusedWrong)

/-- 'sternpostlaw20.SockCloses': WHATEVER THE INPUT: true; the input reads as it did. -/
def sockClosesSpec : ChangeSpec := { name := "sockCloses", fn := fun _ => fun
  | [d] => { results := [.lit (.bool true)], args := [d] }
  | _ => none }
def sockClosesRow : OpenClaim := { program := "ytlpeldimmaajkaagreat", sum := "69b39b64122e3acc81b57889d74bc73632bea68faad2405198b75a089a392b7b", func := "sternpost/sternpostlaw20.SockCloses", spec := "sockCloses", inPlace := ["internal/abi.NoEscape", "internal/bytealg.MakeNoZero"], unfollowed := true, recurses := true, plainKeys := false, apart := false }
def SockClosesSaid : Prop := sockClosesRow.holds Tryz.pinned (OpenSpec.ofChange sockClosesSpec)

/-- ITS FALSE NEIGHBOUR: 'it returns false'. Refute it at one input. -/
def sockClosesWrong : ChangeSpec := { name := "sockCloses", fn := fun _ => fun
  | [d] => { results := [.lit (.bool false)], args := [d] }
  | _ => none }
def SockClosesWrongFalsely : Prop := sockClosesRow.holds Tryz.pinned (OpenSpec.ofChange sockClosesWrong)

/-- 'sternpostlaw18.ConnStream': WHATEVER THE INPUT: true; the input reads as it did. -/
def connStreamSpec : ChangeSpec := { name := "connStream", fn := fun _ => fun
  | [d1, d2] => { results := [.lit (.bool true)], args := [d1, d2] }
  | _ => none }
def connStreamRow : OpenClaim := { program := "ytlpeldimmaajkaagreat", sum := "69b39b64122e3acc81b57889d74bc73632bea68faad2405198b75a089a392b7b", func := "sternpost/sternpostlaw18.ConnStream", spec := "connStream", inPlace := ["internal/abi.NoEscape", "internal/bytealg.MakeNoZero"], unfollowed := true, recurses := true, plainKeys := false, apart := false }
def ConnStreamSaid : Prop := connStreamRow.holds Tryz.pinned (OpenSpec.ofChange connStreamSpec)

/-- ITS FALSE NEIGHBOUR: 'it returns false'. Refute it at one input. -/
def connStreamWrong : ChangeSpec := { name := "connStream", fn := fun _ => fun
  | [d1, d2] => { results := [.lit (.bool false)], args := [d1, d2] }
  | _ => none }
def ConnStreamWrongFalsely : Prop := connStreamRow.holds Tryz.pinned (OpenSpec.ofChange connStreamWrong)

/-- 'sternpostlaw18.ConnSends': WHATEVER THE INPUT: true; the input reads as it did. -/
def connSendsSpec : ChangeSpec := { name := "connSends", fn := fun _ => fun
  | [d1, d2] => { results := [.lit (.bool true)], args := [d1, d2] }
  | _ => none }
def connSendsRow : OpenClaim := { program := "ytlpeldimmaajkaagreat", sum := "69b39b64122e3acc81b57889d74bc73632bea68faad2405198b75a089a392b7b", func := "sternpost/sternpostlaw18.ConnSends", spec := "connSends", inPlace := ["internal/abi.NoEscape", "internal/bytealg.MakeNoZero"], unfollowed := true, recurses := true, plainKeys := false, apart := false }
def ConnSendsSaid : Prop := connSendsRow.holds Tryz.pinned (OpenSpec.ofChange connSendsSpec)

/-- ITS FALSE NEIGHBOUR: 'it returns false'. Refute it at one input. -/
def connSendsWrong : ChangeSpec := { name := "connSends", fn := fun _ => fun
  | [d1, d2] => { results := [.lit (.bool false)], args := [d1, d2] }
  | _ => none }
def ConnSendsWrongFalsely : Prop := connSendsRow.holds Tryz.pinned (OpenSpec.ofChange connSendsWrong)

/-- 'sternpostlaw18.ConnIdle': WHATEVER THE INPUT: true; the input reads as it did. -/
def connIdleSpec : ChangeSpec := { name := "connIdle", fn := fun _ => fun
  | [d1, d2] => { results := [.lit (.bool true)], args := [d1, d2] }
  | _ => none }
def connIdleRow : OpenClaim := { program := "ytlpeldimmaajkaagreat", sum := "69b39b64122e3acc81b57889d74bc73632bea68faad2405198b75a089a392b7b", func := "sternpost/sternpostlaw18.ConnIdle", spec := "connIdle", inPlace := ["internal/abi.NoEscape", "internal/bytealg.MakeNoZero"], unfollowed := true, recurses := true, plainKeys := false, apart := false }
def ConnIdleSaid : Prop := connIdleRow.holds Tryz.pinned (OpenSpec.ofChange connIdleSpec)

/-- ITS FALSE NEIGHBOUR: 'it returns false'. Refute it at one input. -/
def connIdleWrong : ChangeSpec := { name := "connIdle", fn := fun _ => fun
  | [d1, d2] => { results := [.lit (.bool false)], args := [d1, d2] }
  | _ => none }
def ConnIdleWrongFalsely : Prop := connIdleRow.holds Tryz.pinned (OpenSpec.ofChange connIdleWrong)

/-- 'sternpostlaw18.ConnEnds': WHATEVER THE INPUT: true; the input reads as it did. -/
def connEndsSpec : ChangeSpec := { name := "connEnds", fn := fun _ => fun
  | [d1, d2] => { results := [.lit (.bool true)], args := [d1, d2] }
  | _ => none }
def connEndsRow : OpenClaim := { program := "ytlpeldimmaajkaagreat", sum := "69b39b64122e3acc81b57889d74bc73632bea68faad2405198b75a089a392b7b", func := "sternpost/sternpostlaw18.ConnEnds", spec := "connEnds", inPlace := ["internal/abi.NoEscape", "internal/bytealg.MakeNoZero"], unfollowed := true, recurses := true, plainKeys := false, apart := false }
def ConnEndsSaid : Prop := connEndsRow.holds Tryz.pinned (OpenSpec.ofChange connEndsSpec)

/-- ITS FALSE NEIGHBOUR: 'it returns false'. Refute it at one input. -/
def connEndsWrong : ChangeSpec := { name := "connEnds", fn := fun _ => fun
  | [d1, d2] => { results := [.lit (.bool false)], args := [d1, d2] }
  | _ => none }
def ConnEndsWrongFalsely : Prop := connEndsRow.holds Tryz.pinned (OpenSpec.ofChange connEndsWrong)

/-- 'sternpostlaw18.ConnAborts': WHATEVER THE INPUT: true; the input reads as it did. -/
def connAbortsSpec : ChangeSpec := { name := "connAborts", fn := fun _ => fun
  | [d1, d2, d3] => { results := [.lit (.bool true)], args := [d1, d2, d3] }
  | _ => none }
def connAbortsRow : OpenClaim := { program := "ytlpeldimmaajkaagreat", sum := "69b39b64122e3acc81b57889d74bc73632bea68faad2405198b75a089a392b7b", func := "sternpost/sternpostlaw18.ConnAborts", spec := "connAborts", inPlace := ["internal/abi.NoEscape", "internal/bytealg.MakeNoZero"], unfollowed := true, recurses := true, plainKeys := false, apart := false }
def ConnAbortsSaid : Prop := connAbortsRow.holds Tryz.pinned (OpenSpec.ofChange connAbortsSpec)

/-- ITS FALSE NEIGHBOUR: 'it returns false'. Refute it at one input. -/
def connAbortsWrong : ChangeSpec := { name := "connAborts", fn := fun _ => fun
  | [d1, d2, d3] => { results := [.lit (.bool false)], args := [d1, d2, d3] }
  | _ => none }
def ConnAbortsWrongFalsely : Prop := connAbortsRow.holds Tryz.pinned (OpenSpec.ofChange connAbortsWrong)

/-- 'sternpostlaw19.TableGone': WHATEVER THE INPUT: true; the input reads as it did. -/
def tableGoneSpec : ChangeSpec := { name := "tableGone", fn := fun _ => fun
  | [d1, d2] => { results := [.lit (.bool true)], args := [d1, d2] }
  | _ => none }
def tableGoneRow : OpenClaim := { program := "ytlpeldimmaajkaagreat", sum := "69b39b64122e3acc81b57889d74bc73632bea68faad2405198b75a089a392b7b", func := "sternpost/sternpostlaw19.TableGone", spec := "tableGone", inPlace := ["internal/abi.NoEscape", "internal/bytealg.MakeNoZero"], unfollowed := true, recurses := true, plainKeys := false, apart := false }
def TableGoneSaid : Prop := tableGoneRow.holds Tryz.pinned (OpenSpec.ofChange tableGoneSpec)

/-- ITS FALSE NEIGHBOUR: 'it returns false'. Refute it at one input. -/
def tableGoneWrong : ChangeSpec := { name := "tableGone", fn := fun _ => fun
  | [d1, d2] => { results := [.lit (.bool false)], args := [d1, d2] }
  | _ => none }
def TableGoneWrongFalsely : Prop := tableGoneRow.holds Tryz.pinned (OpenSpec.ofChange tableGoneWrong)

/-- 'sternpostlaw19.TableTalks': WHATEVER THE INPUT: true; the input reads as it did. -/
def tableTalksSpec : ChangeSpec := { name := "tableTalks", fn := fun _ => fun
  | [d] => { results := [.lit (.bool true)], args := [d] }
  | _ => none }
def tableTalksRow : OpenClaim := { program := "ytlpeldimmaajkaagreat", sum := "69b39b64122e3acc81b57889d74bc73632bea68faad2405198b75a089a392b7b", func := "sternpost/sternpostlaw19.TableTalks", spec := "tableTalks", inPlace := ["internal/abi.NoEscape", "internal/bytealg.MakeNoZero"], unfollowed := true, recurses := true, plainKeys := false, apart := false }
def TableTalksSaid : Prop := tableTalksRow.holds Tryz.pinned (OpenSpec.ofChange tableTalksSpec)

/-- ITS FALSE NEIGHBOUR: 'it returns false'. Refute it at one input. -/
def tableTalksWrong : ChangeSpec := { name := "tableTalks", fn := fun _ => fun
  | [d] => { results := [.lit (.bool false)], args := [d] }
  | _ => none }
def TableTalksWrongFalsely : Prop := tableTalksRow.holds Tryz.pinned (OpenSpec.ofChange tableTalksWrong)

/- THE SECOND FORM. 'bulk': how many values and letters a reading holds, each counted each time it is reached (what is shared counts as often as it is met; a slice's spare places count too). A statement '..UptoSaid' is the law's where the arguments, and the package variables that the reading takes, are together of bulk at most 1048576: NARROWER than '..Said'. Prove '..Said' where nothing that the law and all that it calls make is longer than what came in: it says more and counts as full. Else prove '..UptoSaid'. A law counts once. -/
mutual
def uptoBulk {H : Type} : DataW H → Nat
  | .lit (.string bytes) => bytes.length + 1
  | .lit _ => 1
  | .nil => 1
  | .ptr d => uptoBulk d + 1
  | .slice elems spare => uptoBulkAll elems + uptoBulkAll spare + 1
  | .agg parts => uptoBulkAll parts + 1
  | .iface _ d => uptoBulk d + 1
  | .map entries => uptoBulkEntries entries + 1
  | .held _ => 1
def uptoBulkAll {H : Type} : List (DataW H) → Nat
  | [] => 0
  | d :: r => uptoBulk d + uptoBulkAll r
def uptoBulkEntries {H : Type} : List (Lit × DataW H) → Nat
  | [] => 0
  | x :: r => uptoBulkEntry x + uptoBulkEntries r
def uptoBulkEntry {H : Type} : Lit × DataW H → Nat
  | (.string bytes, d) => bytes.length + uptoBulk d + 1
  | (_, d) => uptoBulk d + 1
 end
def uptoSmall : (H : Type) → List (DataW H) → Bool := fun _ ds => decide (uptoBulkAll ds ≤ 1048576)
def OpenSpec.upto (s : _root_.Go.ChangeSpec) : _root_.Go.OpenSpec := { _root_.Go.OpenSpec.ofChange s with cond := some uptoSmall }

/-- 'sternpostlaw20.SockNumbers', WHERE WHAT IT READS IS OF BULK AT MOST 1048576: true; the input reads as it did. -/
def sockNumbersUptoRow : OpenClaim := { program := "ytlpeldimmaajkaagreat", sum := "69b39b64122e3acc81b57889d74bc73632bea68faad2405198b75a089a392b7b", func := "sternpost/sternpostlaw20.SockNumbers", spec := "sockNumbers", unfollowed := true, recurses := true, plainKeys := false, apart := false, narrowed := true }
def SockNumbersUptoSaid : Prop := sockNumbersUptoRow.holds Tryz.pinned (OpenSpec.upto sockNumbersSpec)

/-- 'sternpostlaw19.TablePorts', WHERE WHAT IT READS IS OF BULK AT MOST 1048576: true; the input reads as it did. -/
def tablePortsUptoRow : OpenClaim := { program := "ytlpeldimmaajkaagreat", sum := "69b39b64122e3acc81b57889d74bc73632bea68faad2405198b75a089a392b7b", func := "sternpost/sternpostlaw19.TablePorts", spec := "tablePorts", inPlace := ["internal/abi.NoEscape", "internal/bytealg.MakeNoZero"], unfollowed := true, recurses := true, plainKeys := false, apart := false, narrowed := true }
def TablePortsUptoSaid : Prop := tablePortsUptoRow.holds Tryz.pinned (OpenSpec.upto tablePortsSpec)

/-- 'sternpostlaw19.TableRoom', WHERE WHAT IT READS IS OF BULK AT MOST 1048576: true; the input reads as it did. -/
def tableRoomUptoRow : OpenClaim := { program := "ytlpeldimmaajkaagreat", sum := "69b39b64122e3acc81b57889d74bc73632bea68faad2405198b75a089a392b7b", func := "sternpost/sternpostlaw19.TableRoom", spec := "tableRoom", inPlace := ["internal/abi.NoEscape", "internal/bytealg.MakeNoZero"], unfollowed := true, recurses := true, plainKeys := false, apart := false, narrowed := true }
def TableRoomUptoSaid : Prop := tableRoomUptoRow.holds Tryz.pinned (OpenSpec.upto tableRoomSpec)

/-- 'sternpostlaw20.SockRefused', WHERE WHAT IT READS IS OF BULK AT MOST 1048576: true; the input reads as it did. -/
def sockRefusedUptoRow : OpenClaim := { program := "ytlpeldimmaajkaagreat", sum := "69b39b64122e3acc81b57889d74bc73632bea68faad2405198b75a089a392b7b", func := "sternpost/sternpostlaw20.SockRefused", spec := "sockRefused", inPlace := ["internal/abi.NoEscape", "internal/bytealg.MakeNoZero"], unfollowed := true, recurses := true, plainKeys := false, apart := false, narrowed := true }
def SockRefusedUptoSaid : Prop := sockRefusedUptoRow.holds Tryz.pinned (OpenSpec.upto sockRefusedSpec)

/-- 'sternpostlaw20.SockCloses', WHERE WHAT IT READS IS OF BULK AT MOST 1048576: true; the input reads as it did. -/
def sockClosesUptoRow : OpenClaim := { program := "ytlpeldimmaajkaagreat", sum := "69b39b64122e3acc81b57889d74bc73632bea68faad2405198b75a089a392b7b", func := "sternpost/sternpostlaw20.SockCloses", spec := "sockCloses", inPlace := ["internal/abi.NoEscape", "internal/bytealg.MakeNoZero"], unfollowed := true, recurses := true, plainKeys := false, apart := false, narrowed := true }
def SockClosesUptoSaid : Prop := sockClosesUptoRow.holds Tryz.pinned (OpenSpec.upto sockClosesSpec)

/-- 'sternpostlaw18.ConnStream', WHERE WHAT IT READS IS OF BULK AT MOST 1048576: true; the input reads as it did. -/
def connStreamUptoRow : OpenClaim := { program := "ytlpeldimmaajkaagreat", sum := "69b39b64122e3acc81b57889d74bc73632bea68faad2405198b75a089a392b7b", func := "sternpost/sternpostlaw18.ConnStream", spec := "connStream", inPlace := ["internal/abi.NoEscape", "internal/bytealg.MakeNoZero"], unfollowed := true, recurses := true, plainKeys := false, apart := false, narrowed := true }
def ConnStreamUptoSaid : Prop := connStreamUptoRow.holds Tryz.pinned (OpenSpec.upto connStreamSpec)

/-- 'sternpostlaw18.ConnSends', WHERE WHAT IT READS IS OF BULK AT MOST 1048576: true; the input reads as it did. -/
def connSendsUptoRow : OpenClaim := { program := "ytlpeldimmaajkaagreat", sum := "69b39b64122e3acc81b57889d74bc73632bea68faad2405198b75a089a392b7b", func := "sternpost/sternpostlaw18.ConnSends", spec := "connSends", inPlace := ["internal/abi.NoEscape", "internal/bytealg.MakeNoZero"], unfollowed := true, recurses := true, plainKeys := false, apart := false, narrowed := true }
def ConnSendsUptoSaid : Prop := connSendsUptoRow.holds Tryz.pinned (OpenSpec.upto connSendsSpec)

/-- 'sternpostlaw18.ConnIdle', WHERE WHAT IT READS IS OF BULK AT MOST 1048576: true; the input reads as it did. -/
def connIdleUptoRow : OpenClaim := { program := "ytlpeldimmaajkaagreat", sum := "69b39b64122e3acc81b57889d74bc73632bea68faad2405198b75a089a392b7b", func := "sternpost/sternpostlaw18.ConnIdle", spec := "connIdle", inPlace := ["internal/abi.NoEscape", "internal/bytealg.MakeNoZero"], unfollowed := true, recurses := true, plainKeys := false, apart := false, narrowed := true }
def ConnIdleUptoSaid : Prop := connIdleUptoRow.holds Tryz.pinned (OpenSpec.upto connIdleSpec)

/-- 'sternpostlaw18.ConnEnds', WHERE WHAT IT READS IS OF BULK AT MOST 1048576: true; the input reads as it did. -/
def connEndsUptoRow : OpenClaim := { program := "ytlpeldimmaajkaagreat", sum := "69b39b64122e3acc81b57889d74bc73632bea68faad2405198b75a089a392b7b", func := "sternpost/sternpostlaw18.ConnEnds", spec := "connEnds", inPlace := ["internal/abi.NoEscape", "internal/bytealg.MakeNoZero"], unfollowed := true, recurses := true, plainKeys := false, apart := false, narrowed := true }
def ConnEndsUptoSaid : Prop := connEndsUptoRow.holds Tryz.pinned (OpenSpec.upto connEndsSpec)

/-- 'sternpostlaw18.ConnAborts', WHERE WHAT IT READS IS OF BULK AT MOST 1048576: true; the input reads as it did. -/
def connAbortsUptoRow : OpenClaim := { program := "ytlpeldimmaajkaagreat", sum := "69b39b64122e3acc81b57889d74bc73632bea68faad2405198b75a089a392b7b", func := "sternpost/sternpostlaw18.ConnAborts", spec := "connAborts", inPlace := ["internal/abi.NoEscape", "internal/bytealg.MakeNoZero"], unfollowed := true, recurses := true, plainKeys := false, apart := false, narrowed := true }
def ConnAbortsUptoSaid : Prop := connAbortsUptoRow.holds Tryz.pinned (OpenSpec.upto connAbortsSpec)

/-- 'sternpostlaw19.TableGone', WHERE WHAT IT READS IS OF BULK AT MOST 1048576: true; the input reads as it did. -/
def tableGoneUptoRow : OpenClaim := { program := "ytlpeldimmaajkaagreat", sum := "69b39b64122e3acc81b57889d74bc73632bea68faad2405198b75a089a392b7b", func := "sternpost/sternpostlaw19.TableGone", spec := "tableGone", inPlace := ["internal/abi.NoEscape", "internal/bytealg.MakeNoZero"], unfollowed := true, recurses := true, plainKeys := false, apart := false, narrowed := true }
def TableGoneUptoSaid : Prop := tableGoneUptoRow.holds Tryz.pinned (OpenSpec.upto tableGoneSpec)

/-- 'sternpostlaw19.TableTalks', WHERE WHAT IT READS IS OF BULK AT MOST 1048576: true; the input reads as it did. -/
def tableTalksUptoRow : OpenClaim := { program := "ytlpeldimmaajkaagreat", sum := "69b39b64122e3acc81b57889d74bc73632bea68faad2405198b75a089a392b7b", func := "sternpost/sternpostlaw19.TableTalks", spec := "tableTalks", inPlace := ["internal/abi.NoEscape", "internal/bytealg.MakeNoZero"], unfollowed := true, recurses := true, plainKeys := false, apart := false, narrowed := true }
def TableTalksUptoSaid : Prop := tableTalksUptoRow.holds Tryz.pinned (OpenSpec.upto tableTalksSpec)

end Rows
end Go.Proofs.YtlpeldimmaajkaaGreat
