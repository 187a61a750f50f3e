/-
  DERIVED. GIVEN WITH THE SEED: THE CARDS: each row of YtaaomocodkpmfaaGreatDoorRows.lean that lists a variable, with what it lists TIED to the program's text (the seventh form; the later family's looks); each row that meets fmt, with fmt's text TOLD by the authors' own Lean function (tested against real Go, not proved from fmt's source: count such statements apart). THE CARD IS WHAT COUNTS. Prove the row's statement (the work); the ties are given (YtaaomocodkpmfaaGreatDoorTie.lean); close each card by the builder's one call (the guide's Derived/Test/ToyasCard.lean, 'card_holds'). Laid BY PROGRAM, IN A SANDBOX (cutbox-door.mjs). By AI agents, Wed Nov 11 2026. No macro, syntax, notation, axiom, sorry.
-/
import Derived.Test.YtaaomocodkpmfaaGreatDoorRows
import GoSem.ClaimSeven
namespace Go.Proofs.YtaaomocodkpmfaaGreatDoor
namespace Rows

/-- THE TIED CARD OF 'gameplayerlaw11.CheckRenamed'. -/
def checkRenamedCard : Claim7 := { stood := { row := checkRenamedRow, standIns := [], harness := (true, "9cee0fa3d9de2ce70b93023dce8983ca8f908daa8f8c90a4af5b14657babf70a"), looks := true }, kinds := [], alts := [], laidByText := true, laidKinds := [.widerDeep], laidTests := true, laidLooks := .later }
def CheckRenamedCardSaid : Prop := Claim7.holds Tryz.pinned (.plain (OpenSpec.ofChange checkRenamedSpec)) checkRenamedCard

/-- THE TIED CARD OF 'gameplayerlaw11.CheckText'. -/
def checkTextCard : Claim7 := { stood := { row := checkTextRow, standIns := [], harness := (true, "9cee0fa3d9de2ce70b93023dce8983ca8f908daa8f8c90a4af5b14657babf70a"), looks := true }, kinds := [], alts := [], laidByText := true, laidKinds := [.widerDeep, .widerDeep], laidTests := true, laidLooks := .later }
def CheckTextCardSaid : Prop := Claim7.holds Tryz.pinned (.plain (OpenSpec.ofChange checkTextSpec)) checkTextCard

/-- THE SECOND FORM's CARD OF 'gameplayerlaw11.CheckRenamed'. -/
def checkRenamedUptoCard : Claim7 := { stood := { row := checkRenamedUptoRow, standIns := [], harness := (true, "9cee0fa3d9de2ce70b93023dce8983ca8f908daa8f8c90a4af5b14657babf70a"), looks := true }, kinds := [], alts := [], laidByText := true, laidKinds := [.widerDeep], laidTests := true, laidLooks := .later }
def CheckRenamedUptoCardSaid : Prop := Claim7.holds Tryz.pinned (.plain (OpenSpec.upto checkRenamedSpec)) checkRenamedUptoCard

/-- THE SECOND FORM's CARD OF 'gameplayerlaw11.CheckText'. -/
def checkTextUptoCard : Claim7 := { stood := { row := checkTextUptoRow, standIns := [], harness := (true, "9cee0fa3d9de2ce70b93023dce8983ca8f908daa8f8c90a4af5b14657babf70a"), looks := true }, kinds := [], alts := [], laidByText := true, laidKinds := [.widerDeep, .widerDeep], laidTests := true, laidLooks := .later }
def CheckTextUptoCardSaid : Prop := Claim7.holds Tryz.pinned (.plain (OpenSpec.upto checkTextSpec)) checkTextUptoCard
end Rows
end Go.Proofs.YtaaomocodkpmfaaGreatDoor
