/-
  NARROWER THAN 'FOR EVERY INPUT', by the rows' own cells (each row's printed sentence says how): CheckText: loops, laid.
  DERIVED. THE GIVEN ROWS OF THIS SEAT. 1 by the template 'for every input the law returns true; each argument reads behind the call as it read before'; 0 by the template 'total and deterministic' (their statements: YtgljjapglgcpdaaGreatDoorTotals.lean).
  GIVEN WITH THE SEED: the statements are not yours to turn. If you find one false, say at which input.
  Laid BY PROGRAM, IN A SANDBOX (cutbox-rows.mjs): the forced cells as the released guide's own fill.sh prints them over the translation 39fd9756f12af672… (all of the seat's roots in one cut). By AI agents, Wed Nov 11 2026. No macro, syntax, notation, axiom, sorry.
-/
import Derived.Test.YtgljjapglgcpdaaGreatDoorChecked
import GoSem.Claim
import GoSem.ClaimJoined
import GoSem.ClaimMapViews
import Derived.JoinedTies
import Derived.KernelRfl
namespace Go.Proofs.YtgljjapglgcpdaaGreatDoor
/- THE CELL 'sum', in the pinned program and in every row, IS THE sha256 OF THE DUMP (.gsa) THAT YtgljjapglgcpdaaGreatDoorProg.lean LOADS. Nothing in Lean hashes anything: it is a label: what it is worth is what the hold of that sum in a sandbox is worth. -/
noncomputable def Tryz.pinned : Pinned := { name := "ytgljjapglgcpdaagreatdoor", sum := "39fd9756f12af672e2bdff89f96b5e9b45d624ded44ca6361a6d108aac3182ce", checked := Tryz.checked }
namespace Rows
def none {H : Type} : Left H := { results := [], args := [] }

/- WHAT THE LISTED PACKAGE-LEVEL VARIABLES READ AS WHEN THE CALL BEGINS. Each datum BY PROGRAM (the guide's laid-datum.mjs) off the statement by which the dump's own 'gosem.cut.vars' lays the variable. In a bare row this is a premise. The card (YtgljjapglgcpdaaGreatDoorCards.lean) ties it to the program's text. -/
def laid_gameplayer_check_keywords {H : Type} : DataW H := .agg [.agg [.lit (.string [114, 111, 108, 101]), .lit (.int .i64 1), .lit (.bool true), .lit (.bool true)], .agg [.lit (.string [105, 110, 105, 116]), .lit (.int .i64 1), .lit (.bool true), .lit (.bool false)], .agg [.lit (.string [116, 114, 117, 101]), .lit (.int .i64 1), .lit (.bool false), .lit (.bool true)], .agg [.lit (.string [100, 111, 101, 115]), .lit (.int .i64 2), .lit (.bool false), .lit (.bool true)], .agg [.lit (.string [108, 101, 103, 97, 108]), .lit (.int .i64 2), .lit (.bool true), .lit (.bool false)], .agg [.lit (.string [110, 101, 120, 116]), .lit (.int .i64 1), .lit (.bool true), .lit (.bool false)], .agg [.lit (.string [116, 101, 114, 109, 105, 110, 97, 108]), .lit (.int .i64 0), .lit (.bool true), .lit (.bool false)], .agg [.lit (.string [103, 111, 97, 108]), .lit (.int .i64 2), .lit (.bool true), .lit (.bool false)], .agg [.lit (.string [115, 101, 101, 115]), .lit (.int .i64 2), .lit (.bool true), .lit (.bool false)], .agg [.lit (.string [100, 105, 115, 116, 105, 110, 99, 116]), .lit (.int .i64 2), .lit (.bool false), .lit (.bool true)]]
def laid_gameplayer_lexer_words {H : Type} : DataW H := .agg [.lit (.string [105, 102]), .lit (.string [97, 110, 100]), .lit (.string [110, 111, 116])]

/-- 'gameplayerlaw11.CheckText': WHATEVER THE INPUT: true; the input reads as it did. -/
def checkTextSpec : ChangeSpec := { name := "checkText", fn := fun _ => fun
  | [d] => { results := [.lit (.bool true)], args := [d] }
  | _ => none }
def checkTextRow : OpenClaim := { program := "ytgljjapglgcpdaagreatdoor", sum := "39fd9756f12af672e2bdff89f96b5e9b45d624ded44ca6361a6d108aac3182ce", func := "gameplayer/gameplayerlaw11.CheckText", spec := "checkText", inPlace := ["internal/bytealg.abigen_runtime_cmpstring", "internal/abi.NoEscape", "internal/bytealg.MakeNoZero", "internal/bytealg.IndexByteString"], unfollowed := true, recurses := true, named := ["gameplayer/check.keywords", "gameplayer/lexer.words"], loops := true, plainKeys := false, apart := false, laid := [("gameplayer/check.keywords", laid_gameplayer_check_keywords), ("gameplayer/lexer.words", laid_gameplayer_lexer_words)] }
def CheckTextSaid : Prop := checkTextRow.holds Tryz.pinned (OpenSpec.ofChange checkTextSpec)

/-- ITS FALSE NEIGHBOUR: 'it returns false'. Refute it at one input. -/
def checkTextWrong : ChangeSpec := { name := "checkText", fn := fun _ => fun
  | [d] => { results := [.lit (.bool false)], args := [d] }
  | _ => none }
def CheckTextWrongFalsely : Prop := checkTextRow.holds Tryz.pinned (OpenSpec.ofChange checkTextWrong)

/- THE SECOND FORM. 'bulk': how many values and letters a reading holds, each counted each time it is reached (what is shared counts as often as it is met; a slice's spare places count too). A statement '..UptoSaid' is the law's where the arguments, and the package variables that the reading takes, are together of bulk at most 1048576: NARROWER than '..Said'. Prove '..Said' where nothing that the law and all that it calls make is longer than what came in: it says more and counts as full. Else prove '..UptoSaid'. A law counts once. -/
mutual
def uptoBulk {H : Type} : DataW H → Nat
  | .lit (.string bytes) => bytes.length + 1
  | .lit _ => 1
  | .nil => 1
  | .ptr d => uptoBulk d + 1
  | .slice elems spare => uptoBulkAll elems + uptoBulkAll spare + 1
  | .agg parts => uptoBulkAll parts + 1
  | .iface _ d => uptoBulk d + 1
  | .map entries => uptoBulkEntries entries + 1
  | .held _ => 1
def uptoBulkAll {H : Type} : List (DataW H) → Nat
  | [] => 0
  | d :: r => uptoBulk d + uptoBulkAll r
def uptoBulkEntries {H : Type} : List (Lit × DataW H) → Nat
  | [] => 0
  | x :: r => uptoBulkEntry x + uptoBulkEntries r
def uptoBulkEntry {H : Type} : Lit × DataW H → Nat
  | (.string bytes, d) => bytes.length + uptoBulk d + 1
  | (_, d) => uptoBulk d + 1
 end
def uptoSmall : (H : Type) → List (DataW H) → Bool := fun _ ds => decide (uptoBulkAll ds ≤ 1048576)
def OpenSpec.upto (s : _root_.Go.ChangeSpec) : _root_.Go.OpenSpec := { _root_.Go.OpenSpec.ofChange s with cond := some uptoSmall }

/-- 'gameplayerlaw11.CheckText', WHERE WHAT IT READS IS OF BULK AT MOST 1048576: true; the input reads as it did. -/
def checkTextUptoRow : OpenClaim := { program := "ytgljjapglgcpdaagreatdoor", sum := "39fd9756f12af672e2bdff89f96b5e9b45d624ded44ca6361a6d108aac3182ce", func := "gameplayer/gameplayerlaw11.CheckText", spec := "checkText", inPlace := ["internal/bytealg.abigen_runtime_cmpstring", "internal/abi.NoEscape", "internal/bytealg.MakeNoZero", "internal/bytealg.IndexByteString"], unfollowed := true, recurses := true, named := ["gameplayer/check.keywords", "gameplayer/lexer.words"], loops := true, plainKeys := false, apart := false, laid := [("gameplayer/check.keywords", laid_gameplayer_check_keywords), ("gameplayer/lexer.words", laid_gameplayer_lexer_words)], narrowed := true }
def CheckTextUptoSaid : Prop := checkTextUptoRow.holds Tryz.pinned (OpenSpec.upto checkTextSpec)

end Rows
end Go.Proofs.YtgljjapglgcpdaaGreatDoor
