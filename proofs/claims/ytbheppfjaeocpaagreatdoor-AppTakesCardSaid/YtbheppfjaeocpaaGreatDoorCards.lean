/-
  DERIVED. GIVEN WITH THE SEED: THE CARDS: each row of YtbheppfjaeocpaaGreatDoorRows.lean that lists a variable, with what it lists TIED to the program's text (the seventh form; the later family's looks); each row that meets fmt, with fmt's text TOLD by the authors' own Lean function (tested against real Go, not proved from fmt's source: count such statements apart). THE CARD IS WHAT COUNTS. Prove the row's statement (the work); the ties are given (YtbheppfjaeocpaaGreatDoorTie.lean); close each card by the builder's one call (the guide's Derived/Test/ToyasCard.lean, 'card_holds'). Laid BY PROGRAM, IN A SANDBOX (cutbox-door.mjs). By AI agents, Wed Nov 11 2026. No macro, syntax, notation, axiom, sorry.
-/
import Derived.Test.YtbheppfjaeocpaaGreatDoorRows
import GoSem.ClaimSeven
namespace Go.Proofs.YtbheppfjaeocpaaGreatDoor
namespace Rows

/-- THE TIED CARD OF 'sternpostlaw21.AppAnswers'. -/
def appAnswersCard : Claim7 := { stood := { row := appAnswersRow, standIns := [], harness := (true, "b8b0d2ab958794c952bd95dcbe98f4d35e0c2c08c0d52613441213616f69b007"), looks := true }, kinds := [], alts := [], laidByText := true, laidKinds := [.data, .data, .data, .data, .sentinel, .sentinel, .pinned], laidTests := true, laidLooks := .later }
def AppAnswersCardSaid : Prop := Claim7.holds Tryz.pinned (.plain (OpenSpec.ofChange appAnswersSpec)) appAnswersCard

/-- THE TIED CARD OF 'sternpostlaw21.AppKeeps'. -/
def appKeepsCard : Claim7 := { stood := { row := appKeepsRow, standIns := [], harness := (true, "b8b0d2ab958794c952bd95dcbe98f4d35e0c2c08c0d52613441213616f69b007"), looks := true }, kinds := [], alts := [], laidByText := true, laidKinds := [.data, .data, .data, .data, .sentinel, .sentinel, .pinned], laidTests := true, laidLooks := .later }
def AppKeepsCardSaid : Prop := Claim7.holds Tryz.pinned (.plain (OpenSpec.ofChange appKeepsSpec)) appKeepsCard

/-- THE TIED CARD OF 'sternpostlaw21.AppSums'. -/
def appSumsCard : Claim7 := { stood := { row := appSumsRow, standIns := [], harness := (true, "b8b0d2ab958794c952bd95dcbe98f4d35e0c2c08c0d52613441213616f69b007"), looks := true }, kinds := [], alts := [], laidByText := true, laidKinds := [.data, .data, .data, .data, .sentinel, .sentinel, .pinned], laidTests := true, laidLooks := .later }
def AppSumsCardSaid : Prop := Claim7.holds Tryz.pinned (.plain (OpenSpec.ofChange appSumsSpec)) appSumsCard

/-- THE TIED CARD OF 'sternpostlaw21.AppPieces'. -/
def appPiecesCard : Claim7 := { stood := { row := appPiecesRow, standIns := [], harness := (true, "b8b0d2ab958794c952bd95dcbe98f4d35e0c2c08c0d52613441213616f69b007"), looks := true }, kinds := [], alts := [], laidByText := true, laidKinds := [.data, .data, .data, .data, .sentinel, .sentinel, .pinned], laidTests := true, laidLooks := .later }
def AppPiecesCardSaid : Prop := Claim7.holds Tryz.pinned (.plain (OpenSpec.ofChange appPiecesSpec)) appPiecesCard

/-- THE TIED CARD OF 'sternpostlaw21.AppApart'. -/
def appApartCard : Claim7 := { stood := { row := appApartRow, standIns := [], harness := (true, "b8b0d2ab958794c952bd95dcbe98f4d35e0c2c08c0d52613441213616f69b007"), looks := true }, kinds := [], alts := [], laidByText := true, laidKinds := [.data, .data, .data, .data, .sentinel, .sentinel, .pinned], laidTests := true, laidLooks := .later }
def AppApartCardSaid : Prop := Claim7.holds Tryz.pinned (.plain (OpenSpec.ofChange appApartSpec)) appApartCard

/-- THE TIED CARD OF 'sternpostlaw21.AppTakes'. -/
def appTakesCard : Claim7 := { stood := { row := appTakesRow, standIns := [], harness := (true, "b8b0d2ab958794c952bd95dcbe98f4d35e0c2c08c0d52613441213616f69b007"), looks := true }, kinds := [], alts := [], laidByText := true, laidKinds := [.data, .data, .data, .data, .sentinel, .sentinel, .pinned], laidTests := true, laidLooks := .later }
def AppTakesCardSaid : Prop := Claim7.holds Tryz.pinned (.plain (OpenSpec.ofChange appTakesSpec)) appTakesCard

/-- THE TIED CARD OF 'sternpostlaw29.JudgeAnswers'. -/
def judgeAnswersCard : Claim7 := { stood := { row := judgeAnswersRow, standIns := [], harness := (true, "b8b0d2ab958794c952bd95dcbe98f4d35e0c2c08c0d52613441213616f69b007"), looks := true }, kinds := [], alts := [], laidByText := true, laidKinds := [.data, .data, .data, .data, .sentinel, .sentinel, .pinned], laidTests := true, laidLooks := .later }
def JudgeAnswersCardSaid : Prop := Claim7.holds Tryz.pinned (.plain (OpenSpec.ofChange judgeAnswersSpec)) judgeAnswersCard

/-- THE SECOND FORM's CARD OF 'sternpostlaw21.AppAnswers'. -/
def appAnswersUptoCard : Claim7 := { stood := { row := appAnswersUptoRow, standIns := [], harness := (true, "b8b0d2ab958794c952bd95dcbe98f4d35e0c2c08c0d52613441213616f69b007"), looks := true }, kinds := [], alts := [], laidByText := true, laidKinds := [.data, .data, .data, .data, .sentinel, .sentinel, .pinned], laidTests := true, laidLooks := .later }
def AppAnswersUptoCardSaid : Prop := Claim7.holds Tryz.pinned (.plain (OpenSpec.upto appAnswersSpec)) appAnswersUptoCard

/-- THE SECOND FORM's CARD OF 'sternpostlaw21.AppKeeps'. -/
def appKeepsUptoCard : Claim7 := { stood := { row := appKeepsUptoRow, standIns := [], harness := (true, "b8b0d2ab958794c952bd95dcbe98f4d35e0c2c08c0d52613441213616f69b007"), looks := true }, kinds := [], alts := [], laidByText := true, laidKinds := [.data, .data, .data, .data, .sentinel, .sentinel, .pinned], laidTests := true, laidLooks := .later }
def AppKeepsUptoCardSaid : Prop := Claim7.holds Tryz.pinned (.plain (OpenSpec.upto appKeepsSpec)) appKeepsUptoCard

/-- THE SECOND FORM's CARD OF 'sternpostlaw21.AppSums'. -/
def appSumsUptoCard : Claim7 := { stood := { row := appSumsUptoRow, standIns := [], harness := (true, "b8b0d2ab958794c952bd95dcbe98f4d35e0c2c08c0d52613441213616f69b007"), looks := true }, kinds := [], alts := [], laidByText := true, laidKinds := [.data, .data, .data, .data, .sentinel, .sentinel, .pinned], laidTests := true, laidLooks := .later }
def AppSumsUptoCardSaid : Prop := Claim7.holds Tryz.pinned (.plain (OpenSpec.upto appSumsSpec)) appSumsUptoCard

/-- THE SECOND FORM's CARD OF 'sternpostlaw21.AppPieces'. -/
def appPiecesUptoCard : Claim7 := { stood := { row := appPiecesUptoRow, standIns := [], harness := (true, "b8b0d2ab958794c952bd95dcbe98f4d35e0c2c08c0d52613441213616f69b007"), looks := true }, kinds := [], alts := [], laidByText := true, laidKinds := [.data, .data, .data, .data, .sentinel, .sentinel, .pinned], laidTests := true, laidLooks := .later }
def AppPiecesUptoCardSaid : Prop := Claim7.holds Tryz.pinned (.plain (OpenSpec.upto appPiecesSpec)) appPiecesUptoCard

/-- THE SECOND FORM's CARD OF 'sternpostlaw21.AppApart'. -/
def appApartUptoCard : Claim7 := { stood := { row := appApartUptoRow, standIns := [], harness := (true, "b8b0d2ab958794c952bd95dcbe98f4d35e0c2c08c0d52613441213616f69b007"), looks := true }, kinds := [], alts := [], laidByText := true, laidKinds := [.data, .data, .data, .data, .sentinel, .sentinel, .pinned], laidTests := true, laidLooks := .later }
def AppApartUptoCardSaid : Prop := Claim7.holds Tryz.pinned (.plain (OpenSpec.upto appApartSpec)) appApartUptoCard

/-- THE SECOND FORM's CARD OF 'sternpostlaw21.AppTakes'. -/
def appTakesUptoCard : Claim7 := { stood := { row := appTakesUptoRow, standIns := [], harness := (true, "b8b0d2ab958794c952bd95dcbe98f4d35e0c2c08c0d52613441213616f69b007"), looks := true }, kinds := [], alts := [], laidByText := true, laidKinds := [.data, .data, .data, .data, .sentinel, .sentinel, .pinned], laidTests := true, laidLooks := .later }
def AppTakesUptoCardSaid : Prop := Claim7.holds Tryz.pinned (.plain (OpenSpec.upto appTakesSpec)) appTakesUptoCard

/-- THE SECOND FORM's CARD OF 'sternpostlaw29.JudgeAnswers'. -/
def judgeAnswersUptoCard : Claim7 := { stood := { row := judgeAnswersUptoRow, standIns := [], harness := (true, "b8b0d2ab958794c952bd95dcbe98f4d35e0c2c08c0d52613441213616f69b007"), looks := true }, kinds := [], alts := [], laidByText := true, laidKinds := [.data, .data, .data, .data, .sentinel, .sentinel, .pinned], laidTests := true, laidLooks := .later }
def JudgeAnswersUptoCardSaid : Prop := Claim7.holds Tryz.pinned (.plain (OpenSpec.upto judgeAnswersSpec)) judgeAnswersUptoCard
end Rows
end Go.Proofs.YtbheppfjaeocpaaGreatDoor
