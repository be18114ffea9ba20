/-
  DERIVED. GIVEN WITH THE SEED: THE CARDS: each row of YtgnkjpbecgpjoaaGreatDoorRows.lean that lists a variable, with what it lists TIED to the program's text (the seventh form; the later family's looks); each row that meets fmt, with fmt's text TOLD by the authors' own Lean function (tested against real Go, not proved from fmt's source: count such statements apart). THE CARD IS WHAT COUNTS. Prove the row's statement (the work); the ties are given (YtgnkjpbecgpjoaaGreatDoorTie.lean); close each card by the builder's one call (the guide's Derived/Test/ToyasCard.lean, 'card_holds'). Laid BY PROGRAM, IN A SANDBOX (cutbox-door.mjs). By AI agents, Wed Nov 11 2026. No macro, syntax, notation, axiom, sorry.
-/
import Derived.Test.YtgnkjpbecgpjoaaGreatDoorRows
import GoSem.ClaimSeven
namespace Go.Proofs.YtgnkjpbecgpjoaaGreatDoor
namespace Rows

/-- THE TIED CARD OF 'sternposttop.TopClaims'. -/
def topClaimsCard : Claim7 := { stood := { row := topClaimsRow, standIns := [], harness := (true, "bd8cd5c56afce83e72ec74eaa23e4144917924df3cb50555d073e15ea820dac4"), looks := true }, kinds := [], alts := [], laidByText := true, laidKinds := [.data, .data, .data, .pinned, .data, .sentinel, .sentinel, .handle], laidTests := true, laidLooks := .later }
def TopClaimsCardSaid : Prop := Claim7.holds Tryz.pinned (.plain (OpenSpec.ofChange topClaimsSpec)) topClaimsCard

/-- THE TIED CARD OF 'sternpostlaw22.HostFinds'. -/
def hostFindsCard : Claim7 := { stood := { row := hostFindsRow, standIns := [], harness := (true, "bd8cd5c56afce83e72ec74eaa23e4144917924df3cb50555d073e15ea820dac4"), looks := true }, kinds := [], alts := [], laidByText := true, laidKinds := [.data, .data, .data, .pinned, .data, .sentinel, .sentinel, .handle], laidTests := true, laidLooks := .later }
def HostFindsCardSaid : Prop := Claim7.holds Tryz.pinned (.plain (OpenSpec.ofChange hostFindsSpec)) hostFindsCard

/-- THE TIED CARD OF 'sternpostlaw22.HostEchoes'. -/
def hostEchoesCard : Claim7 := { stood := { row := hostEchoesRow, standIns := [], harness := (true, "bd8cd5c56afce83e72ec74eaa23e4144917924df3cb50555d073e15ea820dac4"), looks := true }, kinds := [], alts := [], laidByText := true, laidKinds := [.data, .data, .data, .pinned, .data, .sentinel, .sentinel, .handle], laidTests := true, laidLooks := .later }
def HostEchoesCardSaid : Prop := Claim7.holds Tryz.pinned (.plain (OpenSpec.ofChange hostEchoesSpec)) hostEchoesCard

/-- THE SECOND FORM's CARD OF 'sternposttop.TopClaims'. -/
def topClaimsUptoCard : Claim7 := { stood := { row := topClaimsUptoRow, standIns := [], harness := (true, "bd8cd5c56afce83e72ec74eaa23e4144917924df3cb50555d073e15ea820dac4"), looks := true }, kinds := [], alts := [], laidByText := true, laidKinds := [.data, .data, .data, .pinned, .data, .sentinel, .sentinel, .handle], laidTests := true, laidLooks := .later }
def TopClaimsUptoCardSaid : Prop := Claim7.holds Tryz.pinned (.plain (OpenSpec.upto topClaimsSpec)) topClaimsUptoCard

/-- THE SECOND FORM's CARD OF 'sternpostlaw22.HostFinds'. -/
def hostFindsUptoCard : Claim7 := { stood := { row := hostFindsUptoRow, standIns := [], harness := (true, "bd8cd5c56afce83e72ec74eaa23e4144917924df3cb50555d073e15ea820dac4"), looks := true }, kinds := [], alts := [], laidByText := true, laidKinds := [.data, .data, .data, .pinned, .data, .sentinel, .sentinel, .handle], laidTests := true, laidLooks := .later }
def HostFindsUptoCardSaid : Prop := Claim7.holds Tryz.pinned (.plain (OpenSpec.upto hostFindsSpec)) hostFindsUptoCard

/-- THE SECOND FORM's CARD OF 'sternpostlaw22.HostEchoes'. -/
def hostEchoesUptoCard : Claim7 := { stood := { row := hostEchoesUptoRow, standIns := [], harness := (true, "bd8cd5c56afce83e72ec74eaa23e4144917924df3cb50555d073e15ea820dac4"), looks := true }, kinds := [], alts := [], laidByText := true, laidKinds := [.data, .data, .data, .pinned, .data, .sentinel, .sentinel, .handle], laidTests := true, laidLooks := .later }
def HostEchoesUptoCardSaid : Prop := Claim7.holds Tryz.pinned (.plain (OpenSpec.upto hostEchoesSpec)) hostEchoesUptoCard
end Rows
end Go.Proofs.YtgnkjpbecgpjoaaGreatDoor
