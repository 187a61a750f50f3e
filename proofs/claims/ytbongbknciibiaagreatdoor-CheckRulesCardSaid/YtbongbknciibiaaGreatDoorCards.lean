/-
  DERIVED. GIVEN WITH THE SEED: THE CARDS: each row of YtbongbknciibiaaGreatDoorRows.lean that lists a variable, with what it lists TIED to the program's text (the seventh form; the later family's looks); each row that meets fmt, with fmt's text TOLD by the authors' own Lean function (tested against real Go, not proved from fmt's source: count such statements apart). THE CARD IS WHAT COUNTS. Prove the row's statement (the work); the ties are given (YtbongbknciibiaaGreatDoorTie.lean); close each card by the builder's one call (the guide's Derived/Test/ToyasCard.lean, 'card_holds'). Laid BY PROGRAM, IN A SANDBOX (cutbox-door.mjs). By AI agents, Wed Nov 11 2026. No macro, syntax, notation, axiom, sorry.
-/
import Derived.Test.YtbongbknciibiaaGreatDoorRows
import GoSem.ClaimSeven
namespace Go.Proofs.YtbongbknciibiaaGreatDoor
namespace Rows

/-- THE TIED CARD OF 'gameplayerlaw11.CheckKeywords'. -/
def checkKeywordsCard : Claim7 := { stood := { row := checkKeywordsRow, standIns := [], harness := (true, "1715774293bae6f125f96cecd94a875f83a6dea6fb2c472d457d5e1409ddaa61"), looks := false }, kinds := [], alts := [], laidByText := true, laidKinds := [.widerDeep], laidTests := true, laidLooks := .later }
def CheckKeywordsCardSaid : Prop := Claim7.holds Tryz.pinned (.plain (OpenSpec.ofChange checkKeywordsSpec)) checkKeywordsCard

/-- THE TIED CARD OF 'gameplayerlaw11.CheckRule'. -/
def checkRuleCard : Claim7 := { stood := { row := checkRuleRow, standIns := [], harness := (true, "1715774293bae6f125f96cecd94a875f83a6dea6fb2c472d457d5e1409ddaa61"), looks := false }, kinds := [], alts := [], laidByText := true, laidKinds := [.widerDeep], laidTests := true, laidLooks := .later }
def CheckRuleCardSaid : Prop := Claim7.holds Tryz.pinned (.plain (OpenSpec.ofChange checkRuleSpec)) checkRuleCard

/-- THE TIED CARD OF 'gameplayerlaw11.CheckRules'. -/
def checkRulesCard : Claim7 := { stood := { row := checkRulesRow, standIns := [], harness := (true, "1715774293bae6f125f96cecd94a875f83a6dea6fb2c472d457d5e1409ddaa61"), looks := false }, kinds := [], alts := [], laidByText := true, laidKinds := [.widerDeep], laidTests := true, laidLooks := .later }
def CheckRulesCardSaid : Prop := Claim7.holds Tryz.pinned (.plain (OpenSpec.ofChange checkRulesSpec)) checkRulesCard

/-- THE TIED CARD OF 'gameplayerlaw11.CheckRoles'. -/
def checkRolesCard : Claim7 := { stood := { row := checkRolesRow, standIns := [], harness := (true, "1715774293bae6f125f96cecd94a875f83a6dea6fb2c472d457d5e1409ddaa61"), looks := false }, kinds := [], alts := [], laidByText := true, laidKinds := [.widerDeep], laidTests := true, laidLooks := .later }
def CheckRolesCardSaid : Prop := Claim7.holds Tryz.pinned (.plain (OpenSpec.ofChange checkRolesSpec)) checkRolesCard

/-- THE TIED CARD OF 'gameplayerlaw11.CheckParts'. -/
def checkPartsCard : Claim7 := { stood := { row := checkPartsRow, standIns := [], harness := (true, "1715774293bae6f125f96cecd94a875f83a6dea6fb2c472d457d5e1409ddaa61"), looks := false }, kinds := [], alts := [], laidByText := true, laidKinds := [.widerDeep], laidTests := true, laidLooks := .later }
def CheckPartsCardSaid : Prop := Claim7.holds Tryz.pinned (.plain (OpenSpec.ofChange checkPartsSpec)) checkPartsCard

/-- THE TIED CARD OF 'gameplayerlaw11.CheckRenamed'. -/
def checkRenamedCard : Claim7 := { stood := { row := checkRenamedRow, standIns := [], harness := (true, "1715774293bae6f125f96cecd94a875f83a6dea6fb2c472d457d5e1409ddaa61"), looks := false }, kinds := [], alts := [], laidByText := true, laidKinds := [.widerDeep], laidTests := true, laidLooks := .later }
def CheckRenamedCardSaid : Prop := Claim7.holds Tryz.pinned (.plain (OpenSpec.ofChange checkRenamedSpec)) checkRenamedCard

/-- THE SECOND FORM's CARD OF 'gameplayerlaw11.CheckKeywords'. -/
def checkKeywordsUptoCard : Claim7 := { stood := { row := checkKeywordsUptoRow, standIns := [], harness := (true, "1715774293bae6f125f96cecd94a875f83a6dea6fb2c472d457d5e1409ddaa61"), looks := false }, kinds := [], alts := [], laidByText := true, laidKinds := [.widerDeep], laidTests := true, laidLooks := .later }
def CheckKeywordsUptoCardSaid : Prop := Claim7.holds Tryz.pinned (.plain (OpenSpec.upto checkKeywordsSpec)) checkKeywordsUptoCard

/-- THE SECOND FORM's CARD OF 'gameplayerlaw11.CheckRule'. -/
def checkRuleUptoCard : Claim7 := { stood := { row := checkRuleUptoRow, standIns := [], harness := (true, "1715774293bae6f125f96cecd94a875f83a6dea6fb2c472d457d5e1409ddaa61"), looks := false }, kinds := [], alts := [], laidByText := true, laidKinds := [.widerDeep], laidTests := true, laidLooks := .later }
def CheckRuleUptoCardSaid : Prop := Claim7.holds Tryz.pinned (.plain (OpenSpec.upto checkRuleSpec)) checkRuleUptoCard

/-- THE SECOND FORM's CARD OF 'gameplayerlaw11.CheckRules'. -/
def checkRulesUptoCard : Claim7 := { stood := { row := checkRulesUptoRow, standIns := [], harness := (true, "1715774293bae6f125f96cecd94a875f83a6dea6fb2c472d457d5e1409ddaa61"), looks := false }, kinds := [], alts := [], laidByText := true, laidKinds := [.widerDeep], laidTests := true, laidLooks := .later }
def CheckRulesUptoCardSaid : Prop := Claim7.holds Tryz.pinned (.plain (OpenSpec.upto checkRulesSpec)) checkRulesUptoCard

/-- THE SECOND FORM's CARD OF 'gameplayerlaw11.CheckRoles'. -/
def checkRolesUptoCard : Claim7 := { stood := { row := checkRolesUptoRow, standIns := [], harness := (true, "1715774293bae6f125f96cecd94a875f83a6dea6fb2c472d457d5e1409ddaa61"), looks := false }, kinds := [], alts := [], laidByText := true, laidKinds := [.widerDeep], laidTests := true, laidLooks := .later }
def CheckRolesUptoCardSaid : Prop := Claim7.holds Tryz.pinned (.plain (OpenSpec.upto checkRolesSpec)) checkRolesUptoCard

/-- THE SECOND FORM's CARD OF 'gameplayerlaw11.CheckParts'. -/
def checkPartsUptoCard : Claim7 := { stood := { row := checkPartsUptoRow, standIns := [], harness := (true, "1715774293bae6f125f96cecd94a875f83a6dea6fb2c472d457d5e1409ddaa61"), looks := false }, kinds := [], alts := [], laidByText := true, laidKinds := [.widerDeep], laidTests := true, laidLooks := .later }
def CheckPartsUptoCardSaid : Prop := Claim7.holds Tryz.pinned (.plain (OpenSpec.upto checkPartsSpec)) checkPartsUptoCard

/-- THE SECOND FORM's CARD OF 'gameplayerlaw11.CheckRenamed'. -/
def checkRenamedUptoCard : Claim7 := { stood := { row := checkRenamedUptoRow, standIns := [], harness := (true, "1715774293bae6f125f96cecd94a875f83a6dea6fb2c472d457d5e1409ddaa61"), looks := false }, kinds := [], alts := [], laidByText := true, laidKinds := [.widerDeep], laidTests := true, laidLooks := .later }
def CheckRenamedUptoCardSaid : Prop := Claim7.holds Tryz.pinned (.plain (OpenSpec.upto checkRenamedSpec)) checkRenamedUptoCard
end Rows
end Go.Proofs.YtbongbknciibiaaGreatDoor
