/-
  NARROWER THAN 'FOR EVERY INPUT', by the rows' own cells (each row's printed sentence says how): CheckKeywords: laid · CheckRule: loops, laid · CheckRules: loops, laid · CheckRoles: loops, laid · CheckParts: loops, laid · CheckRenamed: loops, laid.
  DERIVED. THE GIVEN ROWS OF THIS SEAT. 6 by the template 'for every input the law returns true; each argument reads behind the call as it read before'; 0 by the template 'total and deterministic' (their statements: YtbongbknciibiaaGreatDoorTotals.lean).
  GIVEN WITH THE SEED: the statements are not yours to turn. If you find one false, say at which input.
  Laid BY PROGRAM, IN A SANDBOX (cutbox-rows.mjs): the forced cells as the released guide's own fill.sh prints them over the translation b16c14c8ec4bc341… (all of the seat's roots in one cut). By AI agents, Wed Nov 11 2026. No macro, syntax, notation, axiom, sorry.
-/
import Derived.Test.YtbongbknciibiaaGreatDoorChecked
import GoSem.Claim
import GoSem.ClaimJoined
import GoSem.ClaimMapViews
import Derived.JoinedTies
import Derived.KernelRfl
namespace Go.Proofs.YtbongbknciibiaaGreatDoor
/- THE CELL 'sum', in the pinned program and in every row, IS THE sha256 OF THE DUMP (.gsa) THAT YtbongbknciibiaaGreatDoorProg.lean LOADS. Nothing in Lean hashes anything: it is a label: what it is worth is what the hold of that sum in a sandbox is worth. -/
noncomputable def Tryz.pinned : Pinned := { name := "ytbongbknciibiaagreatdoor", sum := "b16c14c8ec4bc341d3b1054ce78eb0eaec5554dafb17db742c6e3643c49f48f9", checked := Tryz.checked }
namespace Rows
def none {H : Type} : Left H := { results := [], args := [] }

/- WHAT THE LISTED PACKAGE-LEVEL VARIABLES READ AS WHEN THE CALL BEGINS. Each datum BY PROGRAM (the guide's laid-datum.mjs) off the statement by which the dump's own 'gosem.cut.vars' lays the variable. In a bare row this is a premise. The card (YtbongbknciibiaaGreatDoorCards.lean) ties it to the program's text. -/
def laid_gameplayer_check_keywords {H : Type} : DataW H := .agg [.agg [.lit (.string [114, 111, 108, 101]), .lit (.int .i64 1), .lit (.bool true), .lit (.bool true)], .agg [.lit (.string [105, 110, 105, 116]), .lit (.int .i64 1), .lit (.bool true), .lit (.bool false)], .agg [.lit (.string [116, 114, 117, 101]), .lit (.int .i64 1), .lit (.bool false), .lit (.bool true)], .agg [.lit (.string [100, 111, 101, 115]), .lit (.int .i64 2), .lit (.bool false), .lit (.bool true)], .agg [.lit (.string [108, 101, 103, 97, 108]), .lit (.int .i64 2), .lit (.bool true), .lit (.bool false)], .agg [.lit (.string [110, 101, 120, 116]), .lit (.int .i64 1), .lit (.bool true), .lit (.bool false)], .agg [.lit (.string [116, 101, 114, 109, 105, 110, 97, 108]), .lit (.int .i64 0), .lit (.bool true), .lit (.bool false)], .agg [.lit (.string [103, 111, 97, 108]), .lit (.int .i64 2), .lit (.bool true), .lit (.bool false)], .agg [.lit (.string [115, 101, 101, 115]), .lit (.int .i64 2), .lit (.bool true), .lit (.bool false)], .agg [.lit (.string [100, 105, 115, 116, 105, 110, 99, 116]), .lit (.int .i64 2), .lit (.bool false), .lit (.bool true)]]

/-- 'gameplayerlaw11.CheckKeywords': WHATEVER THE INPUT: true; the input reads as it did. -/
def checkKeywordsSpec : ChangeSpec := { name := "checkKeywords", fn := fun _ => fun
  | [d] => { results := [.lit (.bool true)], args := [d] }
  | _ => none }
def checkKeywordsRow : OpenClaim := { program := "ytbongbknciibiaagreatdoor", sum := "b16c14c8ec4bc341d3b1054ce78eb0eaec5554dafb17db742c6e3643c49f48f9", func := "gameplayer/gameplayerlaw11.CheckKeywords", spec := "checkKeywords", inPlace := ["internal/bytealg.abigen_runtime_cmpstring"], unfollowed := true, recurses := true, named := ["gameplayer/check.keywords"], plainKeys := false, apart := false, laid := [("gameplayer/check.keywords", laid_gameplayer_check_keywords)] }
def CheckKeywordsSaid : Prop := checkKeywordsRow.holds Tryz.pinned (OpenSpec.ofChange checkKeywordsSpec)

/-- ITS FALSE NEIGHBOUR: 'it returns false'. Refute it at one input. -/
def checkKeywordsWrong : ChangeSpec := { name := "checkKeywords", fn := fun _ => fun
  | [d] => { results := [.lit (.bool false)], args := [d] }
  | _ => none }
def CheckKeywordsWrongFalsely : Prop := checkKeywordsRow.holds Tryz.pinned (OpenSpec.ofChange checkKeywordsWrong)

/-- 'gameplayerlaw11.CheckRule': WHATEVER THE INPUT: true; the input reads as it did. -/
def checkRuleSpec : ChangeSpec := { name := "checkRule", fn := fun _ => fun
  | [d] => { results := [.lit (.bool true)], args := [d] }
  | _ => none }
def checkRuleRow : OpenClaim := { program := "ytbongbknciibiaagreatdoor", sum := "b16c14c8ec4bc341d3b1054ce78eb0eaec5554dafb17db742c6e3643c49f48f9", func := "gameplayer/gameplayerlaw11.CheckRule", spec := "checkRule", inPlace := ["internal/bytealg.abigen_runtime_cmpstring"], unfollowed := true, recurses := true, named := ["gameplayer/check.keywords"], loops := true, plainKeys := false, apart := false, laid := [("gameplayer/check.keywords", laid_gameplayer_check_keywords)] }
def CheckRuleSaid : Prop := checkRuleRow.holds Tryz.pinned (OpenSpec.ofChange checkRuleSpec)

/-- ITS FALSE NEIGHBOUR: 'it returns false'. Refute it at one input. -/
def checkRuleWrong : ChangeSpec := { name := "checkRule", fn := fun _ => fun
  | [d] => { results := [.lit (.bool false)], args := [d] }
  | _ => none }
def CheckRuleWrongFalsely : Prop := checkRuleRow.holds Tryz.pinned (OpenSpec.ofChange checkRuleWrong)

/-- 'gameplayerlaw11.CheckRules': WHATEVER THE INPUT: true; the input reads as it did. -/
def checkRulesSpec : ChangeSpec := { name := "checkRules", fn := fun _ => fun
  | [d] => { results := [.lit (.bool true)], args := [d] }
  | _ => none }
def checkRulesRow : OpenClaim := { program := "ytbongbknciibiaagreatdoor", sum := "b16c14c8ec4bc341d3b1054ce78eb0eaec5554dafb17db742c6e3643c49f48f9", func := "gameplayer/gameplayerlaw11.CheckRules", spec := "checkRules", inPlace := ["internal/bytealg.abigen_runtime_cmpstring"], unfollowed := true, recurses := true, named := ["gameplayer/check.keywords"], loops := true, plainKeys := false, apart := false, laid := [("gameplayer/check.keywords", laid_gameplayer_check_keywords)] }
def CheckRulesSaid : Prop := checkRulesRow.holds Tryz.pinned (OpenSpec.ofChange checkRulesSpec)

/-- ITS FALSE NEIGHBOUR: 'it returns false'. Refute it at one input. -/
def checkRulesWrong : ChangeSpec := { name := "checkRules", fn := fun _ => fun
  | [d] => { results := [.lit (.bool false)], args := [d] }
  | _ => none }
def CheckRulesWrongFalsely : Prop := checkRulesRow.holds Tryz.pinned (OpenSpec.ofChange checkRulesWrong)

/-- 'gameplayerlaw11.CheckRoles': WHATEVER THE INPUT: true; the input reads as it did. -/
def checkRolesSpec : ChangeSpec := { name := "checkRoles", fn := fun _ => fun
  | [d] => { results := [.lit (.bool true)], args := [d] }
  | _ => none }
def checkRolesRow : OpenClaim := { program := "ytbongbknciibiaagreatdoor", sum := "b16c14c8ec4bc341d3b1054ce78eb0eaec5554dafb17db742c6e3643c49f48f9", func := "gameplayer/gameplayerlaw11.CheckRoles", spec := "checkRoles", inPlace := ["internal/bytealg.abigen_runtime_cmpstring"], unfollowed := true, recurses := true, named := ["gameplayer/check.keywords"], loops := true, plainKeys := false, apart := false, laid := [("gameplayer/check.keywords", laid_gameplayer_check_keywords)] }
def CheckRolesSaid : Prop := checkRolesRow.holds Tryz.pinned (OpenSpec.ofChange checkRolesSpec)

/-- ITS FALSE NEIGHBOUR: 'it returns false'. Refute it at one input. -/
def checkRolesWrong : ChangeSpec := { name := "checkRoles", fn := fun _ => fun
  | [d] => { results := [.lit (.bool false)], args := [d] }
  | _ => none }
def CheckRolesWrongFalsely : Prop := checkRolesRow.holds Tryz.pinned (OpenSpec.ofChange checkRolesWrong)

/-- 'gameplayerlaw11.CheckParts': WHATEVER THE INPUT: true; the input reads as it did. -/
def checkPartsSpec : ChangeSpec := { name := "checkParts", fn := fun _ => fun
  | [d1, d2] => { results := [.lit (.bool true)], args := [d1, d2] }
  | _ => none }
def checkPartsRow : OpenClaim := { program := "ytbongbknciibiaagreatdoor", sum := "b16c14c8ec4bc341d3b1054ce78eb0eaec5554dafb17db742c6e3643c49f48f9", func := "gameplayer/gameplayerlaw11.CheckParts", spec := "checkParts", inPlace := ["internal/bytealg.abigen_runtime_cmpstring"], unfollowed := true, recurses := true, named := ["gameplayer/check.keywords"], loops := true, plainKeys := false, apart := false, laid := [("gameplayer/check.keywords", laid_gameplayer_check_keywords)] }
def CheckPartsSaid : Prop := checkPartsRow.holds Tryz.pinned (OpenSpec.ofChange checkPartsSpec)

/-- ITS FALSE NEIGHBOUR: 'it returns false'. Refute it at one input. -/
def checkPartsWrong : ChangeSpec := { name := "checkParts", fn := fun _ => fun
  | [d1, d2] => { results := [.lit (.bool false)], args := [d1, d2] }
  | _ => none }
def CheckPartsWrongFalsely : Prop := checkPartsRow.holds Tryz.pinned (OpenSpec.ofChange checkPartsWrong)

/-- 'gameplayerlaw11.CheckRenamed': WHATEVER THE INPUT: true; the input reads as it did. -/
def checkRenamedSpec : ChangeSpec := { name := "checkRenamed", fn := fun _ => fun
  | [d] => { results := [.lit (.bool true)], args := [d] }
  | _ => none }
def checkRenamedRow : OpenClaim := { program := "ytbongbknciibiaagreatdoor", sum := "b16c14c8ec4bc341d3b1054ce78eb0eaec5554dafb17db742c6e3643c49f48f9", func := "gameplayer/gameplayerlaw11.CheckRenamed", spec := "checkRenamed", inPlace := ["internal/bytealg.abigen_runtime_cmpstring"], unfollowed := true, recurses := true, named := ["gameplayer/check.keywords"], loops := true, plainKeys := false, apart := false, laid := [("gameplayer/check.keywords", laid_gameplayer_check_keywords)] }
def CheckRenamedSaid : Prop := checkRenamedRow.holds Tryz.pinned (OpenSpec.ofChange checkRenamedSpec)

/-- ITS FALSE NEIGHBOUR: 'it returns false'. Refute it at one input. -/
def checkRenamedWrong : ChangeSpec := { name := "checkRenamed", fn := fun _ => fun
  | [d] => { results := [.lit (.bool false)], args := [d] }
  | _ => none }
def CheckRenamedWrongFalsely : Prop := checkRenamedRow.holds Tryz.pinned (OpenSpec.ofChange checkRenamedWrong)

/- THE SECOND FORM. 'bulk': how many values and letters a reading holds, each counted each time it is reached (what is shared counts as often as it is met; a slice's spare places count too). A statement '..UptoSaid' is the law's where the arguments, and the package variables that the reading takes, are together of bulk at most 1048576: NARROWER than '..Said'. Prove '..Said' where nothing that the law and all that it calls make is longer than what came in: it says more and counts as full. Else prove '..UptoSaid'. A law counts once. -/
mutual
def uptoBulk {H : Type} : DataW H → Nat
  | .lit (.string bytes) => bytes.length + 1
  | .lit _ => 1
  | .nil => 1
  | .ptr d => uptoBulk d + 1
  | .slice elems spare => uptoBulkAll elems + uptoBulkAll spare + 1
  | .agg parts => uptoBulkAll parts + 1
  | .iface _ d => uptoBulk d + 1
  | .map entries => uptoBulkEntries entries + 1
  | .held _ => 1
def uptoBulkAll {H : Type} : List (DataW H) → Nat
  | [] => 0
  | d :: r => uptoBulk d + uptoBulkAll r
def uptoBulkEntries {H : Type} : List (Lit × DataW H) → Nat
  | [] => 0
  | x :: r => uptoBulkEntry x + uptoBulkEntries r
def uptoBulkEntry {H : Type} : Lit × DataW H → Nat
  | (.string bytes, d) => bytes.length + uptoBulk d + 1
  | (_, d) => uptoBulk d + 1
 end
def uptoSmall : (H : Type) → List (DataW H) → Bool := fun _ ds => decide (uptoBulkAll ds ≤ 1048576)
def OpenSpec.upto (s : _root_.Go.ChangeSpec) : _root_.Go.OpenSpec := { _root_.Go.OpenSpec.ofChange s with cond := some uptoSmall }

/-- 'gameplayerlaw11.CheckKeywords', WHERE WHAT IT READS IS OF BULK AT MOST 1048576: true; the input reads as it did. -/
def checkKeywordsUptoRow : OpenClaim := { program := "ytbongbknciibiaagreatdoor", sum := "b16c14c8ec4bc341d3b1054ce78eb0eaec5554dafb17db742c6e3643c49f48f9", func := "gameplayer/gameplayerlaw11.CheckKeywords", spec := "checkKeywords", inPlace := ["internal/bytealg.abigen_runtime_cmpstring"], unfollowed := true, recurses := true, named := ["gameplayer/check.keywords"], plainKeys := false, apart := false, laid := [("gameplayer/check.keywords", laid_gameplayer_check_keywords)], narrowed := true }
def CheckKeywordsUptoSaid : Prop := checkKeywordsUptoRow.holds Tryz.pinned (OpenSpec.upto checkKeywordsSpec)

/-- 'gameplayerlaw11.CheckRule', WHERE WHAT IT READS IS OF BULK AT MOST 1048576: true; the input reads as it did. -/
def checkRuleUptoRow : OpenClaim := { program := "ytbongbknciibiaagreatdoor", sum := "b16c14c8ec4bc341d3b1054ce78eb0eaec5554dafb17db742c6e3643c49f48f9", func := "gameplayer/gameplayerlaw11.CheckRule", spec := "checkRule", inPlace := ["internal/bytealg.abigen_runtime_cmpstring"], unfollowed := true, recurses := true, named := ["gameplayer/check.keywords"], loops := true, plainKeys := false, apart := false, laid := [("gameplayer/check.keywords", laid_gameplayer_check_keywords)], narrowed := true }
def CheckRuleUptoSaid : Prop := checkRuleUptoRow.holds Tryz.pinned (OpenSpec.upto checkRuleSpec)

/-- 'gameplayerlaw11.CheckRules', WHERE WHAT IT READS IS OF BULK AT MOST 1048576: true; the input reads as it did. -/
def checkRulesUptoRow : OpenClaim := { program := "ytbongbknciibiaagreatdoor", sum := "b16c14c8ec4bc341d3b1054ce78eb0eaec5554dafb17db742c6e3643c49f48f9", func := "gameplayer/gameplayerlaw11.CheckRules", spec := "checkRules", inPlace := ["internal/bytealg.abigen_runtime_cmpstring"], unfollowed := true, recurses := true, named := ["gameplayer/check.keywords"], loops := true, plainKeys := false, apart := false, laid := [("gameplayer/check.keywords", laid_gameplayer_check_keywords)], narrowed := true }
def CheckRulesUptoSaid : Prop := checkRulesUptoRow.holds Tryz.pinned (OpenSpec.upto checkRulesSpec)

/-- 'gameplayerlaw11.CheckRoles', WHERE WHAT IT READS IS OF BULK AT MOST 1048576: true; the input reads as it did. -/
def checkRolesUptoRow : OpenClaim := { program := "ytbongbknciibiaagreatdoor", sum := "b16c14c8ec4bc341d3b1054ce78eb0eaec5554dafb17db742c6e3643c49f48f9", func := "gameplayer/gameplayerlaw11.CheckRoles", spec := "checkRoles", inPlace := ["internal/bytealg.abigen_runtime_cmpstring"], unfollowed := true, recurses := true, named := ["gameplayer/check.keywords"], loops := true, plainKeys := false, apart := false, laid := [("gameplayer/check.keywords", laid_gameplayer_check_keywords)], narrowed := true }
def CheckRolesUptoSaid : Prop := checkRolesUptoRow.holds Tryz.pinned (OpenSpec.upto checkRolesSpec)

/-- 'gameplayerlaw11.CheckParts', WHERE WHAT IT READS IS OF BULK AT MOST 1048576: true; the input reads as it did. -/
def checkPartsUptoRow : OpenClaim := { program := "ytbongbknciibiaagreatdoor", sum := "b16c14c8ec4bc341d3b1054ce78eb0eaec5554dafb17db742c6e3643c49f48f9", func := "gameplayer/gameplayerlaw11.CheckParts", spec := "checkParts", inPlace := ["internal/bytealg.abigen_runtime_cmpstring"], unfollowed := true, recurses := true, named := ["gameplayer/check.keywords"], loops := true, plainKeys := false, apart := false, laid := [("gameplayer/check.keywords", laid_gameplayer_check_keywords)], narrowed := true }
def CheckPartsUptoSaid : Prop := checkPartsUptoRow.holds Tryz.pinned (OpenSpec.upto checkPartsSpec)

/-- 'gameplayerlaw11.CheckRenamed', WHERE WHAT IT READS IS OF BULK AT MOST 1048576: true; the input reads as it did. -/
def checkRenamedUptoRow : OpenClaim := { program := "ytbongbknciibiaagreatdoor", sum := "b16c14c8ec4bc341d3b1054ce78eb0eaec5554dafb17db742c6e3643c49f48f9", func := "gameplayer/gameplayerlaw11.CheckRenamed", spec := "checkRenamed", inPlace := ["internal/bytealg.abigen_runtime_cmpstring"], unfollowed := true, recurses := true, named := ["gameplayer/check.keywords"], loops := true, plainKeys := false, apart := false, laid := [("gameplayer/check.keywords", laid_gameplayer_check_keywords)], narrowed := true }
def CheckRenamedUptoSaid : Prop := checkRenamedUptoRow.holds Tryz.pinned (OpenSpec.upto checkRenamedSpec)

end Rows
end Go.Proofs.YtbongbknciibiaaGreatDoor
