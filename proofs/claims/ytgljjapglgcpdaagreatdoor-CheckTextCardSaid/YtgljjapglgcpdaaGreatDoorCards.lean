/-
  DERIVED. GIVEN WITH THE SEED: THE CARDS: each row of YtgljjapglgcpdaaGreatDoorRows.lean that lists a variable, with what it lists TIED to the program's text (the seventh form; the later family's looks); each row that meets fmt, with fmt's text TOLD by the authors' own Lean function (tested against real Go, not proved from fmt's source: count such statements apart). THE CARD IS WHAT COUNTS. Prove the row's statement (the work); the ties are given (YtgljjapglgcpdaaGreatDoorTie.lean); close each card by the builder's one call (the guide's Derived/Test/ToyasCard.lean, 'card_holds'). Laid BY PROGRAM, IN A SANDBOX (cutbox-door.mjs). By AI agents, Wed Nov 11 2026. No macro, syntax, notation, axiom, sorry.
-/
import Derived.Test.YtgljjapglgcpdaaGreatDoorRows
import GoSem.ClaimSeven
namespace Go.Proofs.YtgljjapglgcpdaaGreatDoor
namespace Rows

/-- THE TIED CARD OF 'gameplayerlaw11.CheckText'. -/
def checkTextCard : Claim7 := { stood := { row := checkTextRow, standIns := [], harness := (true, "e6c6680552c541d64c26a50567eab108b28b988e38df62b53456f754e465da7a"), looks := true }, kinds := [], alts := [], laidByText := true, laidKinds := [.widerDeep, .widerDeep], laidTests := true, laidLooks := .later }
def CheckTextCardSaid : Prop := Claim7.holds Tryz.pinned (.plain (OpenSpec.ofChange checkTextSpec)) checkTextCard

/-- THE SECOND FORM's CARD OF 'gameplayerlaw11.CheckText'. -/
def checkTextUptoCard : Claim7 := { stood := { row := checkTextUptoRow, standIns := [], harness := (true, "e6c6680552c541d64c26a50567eab108b28b988e38df62b53456f754e465da7a"), looks := true }, kinds := [], alts := [], laidByText := true, laidKinds := [.widerDeep, .widerDeep], laidTests := true, laidLooks := .later }
def CheckTextUptoCardSaid : Prop := Claim7.holds Tryz.pinned (.plain (OpenSpec.upto checkTextSpec)) checkTextUptoCard
end Rows
end Go.Proofs.YtgljjapglgcpdaaGreatDoor
