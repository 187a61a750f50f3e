/-
  DERIVED. GIVEN WITH THE SEED: THE CARDS: each row of YtlficnfkekggjaaGreatDoorRows.lean that lists a variable, with what it lists TIED to the program's text (the seventh form; the later family's looks); each row that meets fmt, with fmt's text TOLD by the authors' own Lean function (tested against real Go, not proved from fmt's source: count such statements apart). THE CARD IS WHAT COUNTS. Prove the row's statement (the work); the ties are given (YtlficnfkekggjaaGreatDoorTie.lean); close each card by the builder's one call (the guide's Derived/Test/ToyasCard.lean, 'card_holds'). Laid BY PROGRAM, IN A SANDBOX (cutbox-door.mjs). By AI agents, Wed Nov 11 2026. No macro, syntax, notation, axiom, sorry.
-/
import Derived.Test.YtlficnfkekggjaaGreatDoorRows
import GoSem.ClaimSeven
namespace Go.Proofs.YtlficnfkekggjaaGreatDoor
namespace Rows

/-- THE TIED CARD OF 'gameplayerlaw37.PlayoutMeans'. -/
def playoutMeansCard : Claim7 := { stood := { row := playoutMeansRow, standIns := [], harness := (true, "9baced381924cc154212a28562b10da0afd4fccda15111fc3f45e0f6ab08d7a2"), looks := false }, kinds := [], alts := [], laidByText := true, laidKinds := [.data, .data, .data, .widerDeep], laidTests := true, laidLooks := .later }
def PlayoutMeansCardSaid : Prop := Claim7.holds Tryz.pinned (.plain (OpenSpec.ofChange playoutMeansSpec)) playoutMeansCard

/-- THE TIED CARD OF 'gameplayerlaw38.TreesearchScores'. -/
def treesearchScoresCard : Claim7 := { stood := { row := treesearchScoresRow, standIns := [], harness := (true, "9baced381924cc154212a28562b10da0afd4fccda15111fc3f45e0f6ab08d7a2"), looks := false }, kinds := [], alts := [], laidByText := true, laidKinds := [.data, .data, .data, .widerDeep], laidTests := true, laidLooks := .later }
def TreesearchScoresCardSaid : Prop := Claim7.holds Tryz.pinned (.plain (OpenSpec.ofChange treesearchScoresSpec)) treesearchScoresCard

/-- THE TIED CARD OF 'gameplayerlaw38.TreesearchGrows'. -/
def treesearchGrowsCard : Claim7 := { stood := { row := treesearchGrowsRow, standIns := [], harness := (true, "9baced381924cc154212a28562b10da0afd4fccda15111fc3f45e0f6ab08d7a2"), looks := false }, kinds := [], alts := [], laidByText := true, laidKinds := [.data, .data, .data, .widerDeep], laidTests := true, laidLooks := .later }
def TreesearchGrowsCardSaid : Prop := Claim7.holds Tryz.pinned (.plain (OpenSpec.ofChange treesearchGrowsSpec)) treesearchGrowsCard

/-- THE SECOND FORM's CARD OF 'gameplayerlaw37.PlayoutMeans'. -/
def playoutMeansUptoCard : Claim7 := { stood := { row := playoutMeansUptoRow, standIns := [], harness := (true, "9baced381924cc154212a28562b10da0afd4fccda15111fc3f45e0f6ab08d7a2"), looks := false }, kinds := [], alts := [], laidByText := true, laidKinds := [.data, .data, .data, .widerDeep], laidTests := true, laidLooks := .later }
def PlayoutMeansUptoCardSaid : Prop := Claim7.holds Tryz.pinned (.plain (OpenSpec.upto playoutMeansSpec)) playoutMeansUptoCard

/-- THE SECOND FORM's CARD OF 'gameplayerlaw38.TreesearchScores'. -/
def treesearchScoresUptoCard : Claim7 := { stood := { row := treesearchScoresUptoRow, standIns := [], harness := (true, "9baced381924cc154212a28562b10da0afd4fccda15111fc3f45e0f6ab08d7a2"), looks := false }, kinds := [], alts := [], laidByText := true, laidKinds := [.data, .data, .data, .widerDeep], laidTests := true, laidLooks := .later }
def TreesearchScoresUptoCardSaid : Prop := Claim7.holds Tryz.pinned (.plain (OpenSpec.upto treesearchScoresSpec)) treesearchScoresUptoCard

/-- THE SECOND FORM's CARD OF 'gameplayerlaw38.TreesearchGrows'. -/
def treesearchGrowsUptoCard : Claim7 := { stood := { row := treesearchGrowsUptoRow, standIns := [], harness := (true, "9baced381924cc154212a28562b10da0afd4fccda15111fc3f45e0f6ab08d7a2"), looks := false }, kinds := [], alts := [], laidByText := true, laidKinds := [.data, .data, .data, .widerDeep], laidTests := true, laidLooks := .later }
def TreesearchGrowsUptoCardSaid : Prop := Claim7.holds Tryz.pinned (.plain (OpenSpec.upto treesearchGrowsSpec)) treesearchGrowsUptoCard
end Rows
end Go.Proofs.YtlficnfkekggjaaGreatDoor
