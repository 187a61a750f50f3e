/-
  NARROWER THAN 'FOR EVERY INPUT', by the rows' own cells (each row's printed sentence says how): StrataLevels: loops · StrataOrders: loops · StrataCycles: loops · StrataValid: loops · StrataLeast: loops · StrataCycle: loops · StrataParts: loops · StrataRules: loops · DependRules: loops · DependJoins: loops.
  DERIVED. THE GIVEN ROWS OF THIS SEAT. 14 by the template 'for every input the law returns true; each argument reads behind the call as it read before'; 0 by the template 'total and deterministic' (their statements: YtbjdikeaolibpaaTotals.lean).
  GIVEN WITH THE SEED: the statements are not yours to turn. If you find one false, say at which input.
  Laid BY PROGRAM, IN A SANDBOX (cutbox-rows.mjs): the forced cells as the released guide's own fill.sh prints them over the translation 2e699f56fcd41fc3… (all of the seat's roots in one cut). By AI agents, Wed Nov 11 2026. No macro, syntax, notation, axiom, sorry.
-/
import Derived.Test.YtbjdikeaolibpaaChecked
import GoSem.Claim
import GoSem.ClaimJoined
import GoSem.ClaimMapViews
import Derived.JoinedTies
import Derived.KernelRfl
namespace Go.Proofs.Ytbjdikeaolibpaa
/- THE CELL 'sum', in the pinned program and in every row, IS THE sha256 OF THE DUMP (.gsa) THAT YtbjdikeaolibpaaProg.lean LOADS. Nothing in Lean hashes anything: it is a label: what it is worth is what the hold of that sum in a sandbox is worth. -/
noncomputable def Try.pinned : Pinned := { name := "ytbjdikeaolibpaa", sum := "2e699f56fcd41fc34de6f56431d5e33ff46bd6d02104624ac9673e6b37effc9c", checked := Try.checked }
namespace Rows
def none {H : Type} : Left H := { results := [], args := [] }

/-- 'gameplayerlaw10.StrataLevels': WHATEVER THE INPUT: true; the input reads as it did. -/
def strataLevelsSpec : ChangeSpec := { name := "strataLevels", fn := fun _ => fun
  | [d1, d2] => { results := [.lit (.bool true)], args := [d1, d2] }
  | _ => none }
def strataLevelsRow : OpenClaim := { program := "ytbjdikeaolibpaa", sum := "2e699f56fcd41fc34de6f56431d5e33ff46bd6d02104624ac9673e6b37effc9c", func := "gameplayer/gameplayerlaw10.StrataLevels", spec := "strataLevels", unfollowed := true, recurses := true, loops := true, plainKeys := false, apart := false }
def StrataLevelsSaid : Prop := strataLevelsRow.holds Try.pinned (OpenSpec.ofChange strataLevelsSpec)

/-- ITS FALSE NEIGHBOUR: 'it returns false'. Refute it at one input. -/
def strataLevelsWrong : ChangeSpec := { name := "strataLevels", fn := fun _ => fun
  | [d1, d2] => { results := [.lit (.bool false)], args := [d1, d2] }
  | _ => none }
def StrataLevelsWrongFalsely : Prop := strataLevelsRow.holds Try.pinned (OpenSpec.ofChange strataLevelsWrong)

/-- 'gameplayerlaw10.StrataOrders': WHATEVER THE INPUT: true; the input reads as it did. -/
def strataOrdersSpec : ChangeSpec := { name := "strataOrders", fn := fun _ => fun
  | [d] => { results := [.lit (.bool true)], args := [d] }
  | _ => none }
def strataOrdersRow : OpenClaim := { program := "ytbjdikeaolibpaa", sum := "2e699f56fcd41fc34de6f56431d5e33ff46bd6d02104624ac9673e6b37effc9c", func := "gameplayer/gameplayerlaw10.StrataOrders", spec := "strataOrders", unfollowed := true, recurses := true, loops := true, plainKeys := false, apart := false }
def StrataOrdersSaid : Prop := strataOrdersRow.holds Try.pinned (OpenSpec.ofChange strataOrdersSpec)

/-- ITS FALSE NEIGHBOUR: 'it returns false'. Refute it at one input. -/
def strataOrdersWrong : ChangeSpec := { name := "strataOrders", fn := fun _ => fun
  | [d] => { results := [.lit (.bool false)], args := [d] }
  | _ => none }
def StrataOrdersWrongFalsely : Prop := strataOrdersRow.holds Try.pinned (OpenSpec.ofChange strataOrdersWrong)

/-- 'gameplayerlaw10.StrataCycles': WHATEVER THE INPUT: true; the input reads as it did. -/
def strataCyclesSpec : ChangeSpec := { name := "strataCycles", fn := fun _ => fun
  | [d] => { results := [.lit (.bool true)], args := [d] }
  | _ => none }
def strataCyclesRow : OpenClaim := { program := "ytbjdikeaolibpaa", sum := "2e699f56fcd41fc34de6f56431d5e33ff46bd6d02104624ac9673e6b37effc9c", func := "gameplayer/gameplayerlaw10.StrataCycles", spec := "strataCycles", unfollowed := true, recurses := true, loops := true, plainKeys := false, apart := false }
def StrataCyclesSaid : Prop := strataCyclesRow.holds Try.pinned (OpenSpec.ofChange strataCyclesSpec)

/-- ITS FALSE NEIGHBOUR: 'it returns false'. Refute it at one input. -/
def strataCyclesWrong : ChangeSpec := { name := "strataCycles", fn := fun _ => fun
  | [d] => { results := [.lit (.bool false)], args := [d] }
  | _ => none }
def StrataCyclesWrongFalsely : Prop := strataCyclesRow.holds Try.pinned (OpenSpec.ofChange strataCyclesWrong)

/-- 'gameplayerlaw10.StrataValid': WHATEVER THE INPUT: true; the input reads as it did. -/
def strataValidSpec : ChangeSpec := { name := "strataValid", fn := fun _ => fun
  | [d1, d2] => { results := [.lit (.bool true)], args := [d1, d2] }
  | _ => none }
def strataValidRow : OpenClaim := { program := "ytbjdikeaolibpaa", sum := "2e699f56fcd41fc34de6f56431d5e33ff46bd6d02104624ac9673e6b37effc9c", func := "gameplayer/gameplayerlaw10.StrataValid", spec := "strataValid", unfollowed := true, recurses := true, loops := true, plainKeys := false, apart := false }
def StrataValidSaid : Prop := strataValidRow.holds Try.pinned (OpenSpec.ofChange strataValidSpec)

/-- ITS FALSE NEIGHBOUR: 'it returns false'. Refute it at one input. -/
def strataValidWrong : ChangeSpec := { name := "strataValid", fn := fun _ => fun
  | [d1, d2] => { results := [.lit (.bool false)], args := [d1, d2] }
  | _ => none }
def StrataValidWrongFalsely : Prop := strataValidRow.holds Try.pinned (OpenSpec.ofChange strataValidWrong)

/-- 'gameplayerlaw10.StrataLeast': WHATEVER THE INPUT: true; the input reads as it did. -/
def strataLeastSpec : ChangeSpec := { name := "strataLeast", fn := fun _ => fun
  | [d1, d2] => { results := [.lit (.bool true)], args := [d1, d2] }
  | _ => none }
def strataLeastRow : OpenClaim := { program := "ytbjdikeaolibpaa", sum := "2e699f56fcd41fc34de6f56431d5e33ff46bd6d02104624ac9673e6b37effc9c", func := "gameplayer/gameplayerlaw10.StrataLeast", spec := "strataLeast", unfollowed := true, recurses := true, loops := true, plainKeys := false, apart := false }
def StrataLeastSaid : Prop := strataLeastRow.holds Try.pinned (OpenSpec.ofChange strataLeastSpec)

/-- ITS FALSE NEIGHBOUR: 'it returns false'. Refute it at one input. -/
def strataLeastWrong : ChangeSpec := { name := "strataLeast", fn := fun _ => fun
  | [d1, d2] => { results := [.lit (.bool false)], args := [d1, d2] }
  | _ => none }
def StrataLeastWrongFalsely : Prop := strataLeastRow.holds Try.pinned (OpenSpec.ofChange strataLeastWrong)

/-- 'gameplayerlaw10.StrataCycle': WHATEVER THE INPUT: true; the input reads as it did. -/
def strataCycleSpec : ChangeSpec := { name := "strataCycle", fn := fun _ => fun
  | [d] => { results := [.lit (.bool true)], args := [d] }
  | _ => none }
def strataCycleRow : OpenClaim := { program := "ytbjdikeaolibpaa", sum := "2e699f56fcd41fc34de6f56431d5e33ff46bd6d02104624ac9673e6b37effc9c", func := "gameplayer/gameplayerlaw10.StrataCycle", spec := "strataCycle", unfollowed := true, recurses := true, loops := true, plainKeys := false, apart := false }
def StrataCycleSaid : Prop := strataCycleRow.holds Try.pinned (OpenSpec.ofChange strataCycleSpec)

/-- ITS FALSE NEIGHBOUR: 'it returns false'. Refute it at one input. -/
def strataCycleWrong : ChangeSpec := { name := "strataCycle", fn := fun _ => fun
  | [d] => { results := [.lit (.bool false)], args := [d] }
  | _ => none }
def StrataCycleWrongFalsely : Prop := strataCycleRow.holds Try.pinned (OpenSpec.ofChange strataCycleWrong)

/-- 'gameplayerlaw10.StrataParts': WHATEVER THE INPUT: true; the input reads as it did. -/
def strataPartsSpec : ChangeSpec := { name := "strataParts", fn := fun _ => fun
  | [d1, d2, d3] => { results := [.lit (.bool true)], args := [d1, d2, d3] }
  | _ => none }
def strataPartsRow : OpenClaim := { program := "ytbjdikeaolibpaa", sum := "2e699f56fcd41fc34de6f56431d5e33ff46bd6d02104624ac9673e6b37effc9c", func := "gameplayer/gameplayerlaw10.StrataParts", spec := "strataParts", unfollowed := true, recurses := true, loops := true, plainKeys := false, apart := false }
def StrataPartsSaid : Prop := strataPartsRow.holds Try.pinned (OpenSpec.ofChange strataPartsSpec)

/-- ITS FALSE NEIGHBOUR: 'it returns false'. Refute it at one input. -/
def strataPartsWrong : ChangeSpec := { name := "strataParts", fn := fun _ => fun
  | [d1, d2, d3] => { results := [.lit (.bool false)], args := [d1, d2, d3] }
  | _ => none }
def StrataPartsWrongFalsely : Prop := strataPartsRow.holds Try.pinned (OpenSpec.ofChange strataPartsWrong)

/-- 'gameplayerlaw10.StrataRules': WHATEVER THE INPUT: true; the input reads as it did. -/
def strataRulesSpec : ChangeSpec := { name := "strataRules", fn := fun _ => fun
  | [d] => { results := [.lit (.bool true)], args := [d] }
  | _ => none }
def strataRulesRow : OpenClaim := { program := "ytbjdikeaolibpaa", sum := "2e699f56fcd41fc34de6f56431d5e33ff46bd6d02104624ac9673e6b37effc9c", func := "gameplayer/gameplayerlaw10.StrataRules", spec := "strataRules", unfollowed := true, recurses := true, loops := true, plainKeys := false, apart := false }
def StrataRulesSaid : Prop := strataRulesRow.holds Try.pinned (OpenSpec.ofChange strataRulesSpec)

/-- ITS FALSE NEIGHBOUR: 'it returns false'. Refute it at one input. -/
def strataRulesWrong : ChangeSpec := { name := "strataRules", fn := fun _ => fun
  | [d] => { results := [.lit (.bool false)], args := [d] }
  | _ => none }
def StrataRulesWrongFalsely : Prop := strataRulesRow.holds Try.pinned (OpenSpec.ofChange strataRulesWrong)

/-- 'gameplayerlaw09.DependRules': WHATEVER THE INPUT: true; the input reads as it did. -/
def dependRulesSpec : ChangeSpec := { name := "dependRules", fn := fun _ => fun
  | [d] => { results := [.lit (.bool true)], args := [d] }
  | _ => none }
def dependRulesRow : OpenClaim := { program := "ytbjdikeaolibpaa", sum := "2e699f56fcd41fc34de6f56431d5e33ff46bd6d02104624ac9673e6b37effc9c", func := "gameplayer/gameplayerlaw09.DependRules", spec := "dependRules", unfollowed := true, recurses := true, loops := true, plainKeys := false, apart := false }
def DependRulesSaid : Prop := dependRulesRow.holds Try.pinned (OpenSpec.ofChange dependRulesSpec)

/-- ITS FALSE NEIGHBOUR: 'it returns false'. Refute it at one input. -/
def dependRulesWrong : ChangeSpec := { name := "dependRules", fn := fun _ => fun
  | [d] => { results := [.lit (.bool false)], args := [d] }
  | _ => none }
def DependRulesWrongFalsely : Prop := dependRulesRow.holds Try.pinned (OpenSpec.ofChange dependRulesWrong)

/-- 'gameplayerlaw09.DependReaches': WHATEVER THE INPUT: true; the input reads as it did. -/
def dependReachesSpec : ChangeSpec := { name := "dependReaches", fn := fun _ => fun
  | [d1, d2] => { results := [.lit (.bool true)], args := [d1, d2] }
  | _ => none }
def dependReachesRow : OpenClaim := { program := "ytbjdikeaolibpaa", sum := "2e699f56fcd41fc34de6f56431d5e33ff46bd6d02104624ac9673e6b37effc9c", func := "gameplayer/gameplayerlaw09.DependReaches", spec := "dependReaches", unfollowed := true, recurses := true, plainKeys := false, apart := false }
def DependReachesSaid : Prop := dependReachesRow.holds Try.pinned (OpenSpec.ofChange dependReachesSpec)

/-- ITS FALSE NEIGHBOUR: 'it returns false'. Refute it at one input. -/
def dependReachesWrong : ChangeSpec := { name := "dependReaches", fn := fun _ => fun
  | [d1, d2] => { results := [.lit (.bool false)], args := [d1, d2] }
  | _ => none }
def DependReachesWrongFalsely : Prop := dependReachesRow.holds Try.pinned (OpenSpec.ofChange dependReachesWrong)

/-- 'gameplayerlaw09.DependGroups': WHATEVER THE INPUT: true; the input reads as it did. -/
def dependGroupsSpec : ChangeSpec := { name := "dependGroups", fn := fun _ => fun
  | [d1, d2] => { results := [.lit (.bool true)], args := [d1, d2] }
  | _ => none }
def dependGroupsRow : OpenClaim := { program := "ytbjdikeaolibpaa", sum := "2e699f56fcd41fc34de6f56431d5e33ff46bd6d02104624ac9673e6b37effc9c", func := "gameplayer/gameplayerlaw09.DependGroups", spec := "dependGroups", unfollowed := true, recurses := true, plainKeys := false, apart := false }
def DependGroupsSaid : Prop := dependGroupsRow.holds Try.pinned (OpenSpec.ofChange dependGroupsSpec)

/-- ITS FALSE NEIGHBOUR: 'it returns false'. Refute it at one input. -/
def dependGroupsWrong : ChangeSpec := { name := "dependGroups", fn := fun _ => fun
  | [d1, d2] => { results := [.lit (.bool false)], args := [d1, d2] }
  | _ => none }
def DependGroupsWrongFalsely : Prop := dependGroupsRow.holds Try.pinned (OpenSpec.ofChange dependGroupsWrong)

/-- 'gameplayerlaw09.DependTransitive': WHATEVER THE INPUT: true; the input reads as it did. -/
def dependTransitiveSpec : ChangeSpec := { name := "dependTransitive", fn := fun _ => fun
  | [d1, d2] => { results := [.lit (.bool true)], args := [d1, d2] }
  | _ => none }
def dependTransitiveRow : OpenClaim := { program := "ytbjdikeaolibpaa", sum := "2e699f56fcd41fc34de6f56431d5e33ff46bd6d02104624ac9673e6b37effc9c", func := "gameplayer/gameplayerlaw09.DependTransitive", spec := "dependTransitive", unfollowed := true, recurses := true, plainKeys := false, apart := false }
def DependTransitiveSaid : Prop := dependTransitiveRow.holds Try.pinned (OpenSpec.ofChange dependTransitiveSpec)

/-- ITS FALSE NEIGHBOUR: 'it returns false'. Refute it at one input. -/
def dependTransitiveWrong : ChangeSpec := { name := "dependTransitive", fn := fun _ => fun
  | [d1, d2] => { results := [.lit (.bool false)], args := [d1, d2] }
  | _ => none }
def DependTransitiveWrongFalsely : Prop := dependTransitiveRow.holds Try.pinned (OpenSpec.ofChange dependTransitiveWrong)

/-- 'gameplayerlaw09.DependOrdered': WHATEVER THE INPUT: true; the input reads as it did. -/
def dependOrderedSpec : ChangeSpec := { name := "dependOrdered", fn := fun _ => fun
  | [d1, d2] => { results := [.lit (.bool true)], args := [d1, d2] }
  | _ => none }
def dependOrderedRow : OpenClaim := { program := "ytbjdikeaolibpaa", sum := "2e699f56fcd41fc34de6f56431d5e33ff46bd6d02104624ac9673e6b37effc9c", func := "gameplayer/gameplayerlaw09.DependOrdered", spec := "dependOrdered", unfollowed := true, recurses := true, plainKeys := false, apart := false }
def DependOrderedSaid : Prop := dependOrderedRow.holds Try.pinned (OpenSpec.ofChange dependOrderedSpec)

/-- ITS FALSE NEIGHBOUR: 'it returns false'. Refute it at one input. -/
def dependOrderedWrong : ChangeSpec := { name := "dependOrdered", fn := fun _ => fun
  | [d1, d2] => { results := [.lit (.bool false)], args := [d1, d2] }
  | _ => none }
def DependOrderedWrongFalsely : Prop := dependOrderedRow.holds Try.pinned (OpenSpec.ofChange dependOrderedWrong)

/-- 'gameplayerlaw09.DependJoins': WHATEVER THE INPUT: true; the input reads as it did. -/
def dependJoinsSpec : ChangeSpec := { name := "dependJoins", fn := fun _ => fun
  | [d1, d2] => { results := [.lit (.bool true)], args := [d1, d2] }
  | _ => none }
def dependJoinsRow : OpenClaim := { program := "ytbjdikeaolibpaa", sum := "2e699f56fcd41fc34de6f56431d5e33ff46bd6d02104624ac9673e6b37effc9c", func := "gameplayer/gameplayerlaw09.DependJoins", spec := "dependJoins", unfollowed := true, recurses := true, loops := true, plainKeys := false, apart := false }
def DependJoinsSaid : Prop := dependJoinsRow.holds Try.pinned (OpenSpec.ofChange dependJoinsSpec)

/-- ITS FALSE NEIGHBOUR: 'it returns false'. Refute it at one input. -/
def dependJoinsWrong : ChangeSpec := { name := "dependJoins", fn := fun _ => fun
  | [d1, d2] => { results := [.lit (.bool false)], args := [d1, d2] }
  | _ => none }
def DependJoinsWrongFalsely : Prop := dependJoinsRow.holds Try.pinned (OpenSpec.ofChange dependJoinsWrong)

/- THE SECOND FORM. 'bulk': how many values and letters a reading holds, each counted each time it is reached (what is shared counts as often as it is met; a slice's spare places count too). A statement '..UptoSaid' is the law's where the arguments, and the package variables that the reading takes, are together of bulk at most 1048576: NARROWER than '..Said'. Prove '..Said' where nothing that the law and all that it calls make is longer than what came in: it says more and counts as full. Else prove '..UptoSaid'. A law counts once. -/
mutual
def uptoBulk {H : Type} : DataW H → Nat
  | .lit (.string bytes) => bytes.length + 1
  | .lit _ => 1
  | .nil => 1
  | .ptr d => uptoBulk d + 1
  | .slice elems spare => uptoBulkAll elems + uptoBulkAll spare + 1
  | .agg parts => uptoBulkAll parts + 1
  | .iface _ d => uptoBulk d + 1
  | .map entries => uptoBulkEntries entries + 1
  | .held _ => 1
def uptoBulkAll {H : Type} : List (DataW H) → Nat
  | [] => 0
  | d :: r => uptoBulk d + uptoBulkAll r
def uptoBulkEntries {H : Type} : List (Lit × DataW H) → Nat
  | [] => 0
  | x :: r => uptoBulkEntry x + uptoBulkEntries r
def uptoBulkEntry {H : Type} : Lit × DataW H → Nat
  | (.string bytes, d) => bytes.length + uptoBulk d + 1
  | (_, d) => uptoBulk d + 1
 end
def uptoSmall : (H : Type) → List (DataW H) → Bool := fun _ ds => decide (uptoBulkAll ds ≤ 1048576)
def OpenSpec.upto (s : _root_.Go.ChangeSpec) : _root_.Go.OpenSpec := { _root_.Go.OpenSpec.ofChange s with cond := some uptoSmall }

/-- 'gameplayerlaw10.StrataLevels', WHERE WHAT IT READS IS OF BULK AT MOST 1048576: true; the input reads as it did. -/
def strataLevelsUptoRow : OpenClaim := { program := "ytbjdikeaolibpaa", sum := "2e699f56fcd41fc34de6f56431d5e33ff46bd6d02104624ac9673e6b37effc9c", func := "gameplayer/gameplayerlaw10.StrataLevels", spec := "strataLevels", unfollowed := true, recurses := true, loops := true, plainKeys := false, apart := false, narrowed := true }
def StrataLevelsUptoSaid : Prop := strataLevelsUptoRow.holds Try.pinned (OpenSpec.upto strataLevelsSpec)

/-- 'gameplayerlaw10.StrataOrders', WHERE WHAT IT READS IS OF BULK AT MOST 1048576: true; the input reads as it did. -/
def strataOrdersUptoRow : OpenClaim := { program := "ytbjdikeaolibpaa", sum := "2e699f56fcd41fc34de6f56431d5e33ff46bd6d02104624ac9673e6b37effc9c", func := "gameplayer/gameplayerlaw10.StrataOrders", spec := "strataOrders", unfollowed := true, recurses := true, loops := true, plainKeys := false, apart := false, narrowed := true }
def StrataOrdersUptoSaid : Prop := strataOrdersUptoRow.holds Try.pinned (OpenSpec.upto strataOrdersSpec)

/-- 'gameplayerlaw10.StrataCycles', WHERE WHAT IT READS IS OF BULK AT MOST 1048576: true; the input reads as it did. -/
def strataCyclesUptoRow : OpenClaim := { program := "ytbjdikeaolibpaa", sum := "2e699f56fcd41fc34de6f56431d5e33ff46bd6d02104624ac9673e6b37effc9c", func := "gameplayer/gameplayerlaw10.StrataCycles", spec := "strataCycles", unfollowed := true, recurses := true, loops := true, plainKeys := false, apart := false, narrowed := true }
def StrataCyclesUptoSaid : Prop := strataCyclesUptoRow.holds Try.pinned (OpenSpec.upto strataCyclesSpec)

/-- 'gameplayerlaw10.StrataValid', WHERE WHAT IT READS IS OF BULK AT MOST 1048576: true; the input reads as it did. -/
def strataValidUptoRow : OpenClaim := { program := "ytbjdikeaolibpaa", sum := "2e699f56fcd41fc34de6f56431d5e33ff46bd6d02104624ac9673e6b37effc9c", func := "gameplayer/gameplayerlaw10.StrataValid", spec := "strataValid", unfollowed := true, recurses := true, loops := true, plainKeys := false, apart := false, narrowed := true }
def StrataValidUptoSaid : Prop := strataValidUptoRow.holds Try.pinned (OpenSpec.upto strataValidSpec)

/-- 'gameplayerlaw10.StrataLeast', WHERE WHAT IT READS IS OF BULK AT MOST 1048576: true; the input reads as it did. -/
def strataLeastUptoRow : OpenClaim := { program := "ytbjdikeaolibpaa", sum := "2e699f56fcd41fc34de6f56431d5e33ff46bd6d02104624ac9673e6b37effc9c", func := "gameplayer/gameplayerlaw10.StrataLeast", spec := "strataLeast", unfollowed := true, recurses := true, loops := true, plainKeys := false, apart := false, narrowed := true }
def StrataLeastUptoSaid : Prop := strataLeastUptoRow.holds Try.pinned (OpenSpec.upto strataLeastSpec)

/-- 'gameplayerlaw10.StrataCycle', WHERE WHAT IT READS IS OF BULK AT MOST 1048576: true; the input reads as it did. -/
def strataCycleUptoRow : OpenClaim := { program := "ytbjdikeaolibpaa", sum := "2e699f56fcd41fc34de6f56431d5e33ff46bd6d02104624ac9673e6b37effc9c", func := "gameplayer/gameplayerlaw10.StrataCycle", spec := "strataCycle", unfollowed := true, recurses := true, loops := true, plainKeys := false, apart := false, narrowed := true }
def StrataCycleUptoSaid : Prop := strataCycleUptoRow.holds Try.pinned (OpenSpec.upto strataCycleSpec)

/-- 'gameplayerlaw10.StrataParts', WHERE WHAT IT READS IS OF BULK AT MOST 1048576: true; the input reads as it did. -/
def strataPartsUptoRow : OpenClaim := { program := "ytbjdikeaolibpaa", sum := "2e699f56fcd41fc34de6f56431d5e33ff46bd6d02104624ac9673e6b37effc9c", func := "gameplayer/gameplayerlaw10.StrataParts", spec := "strataParts", unfollowed := true, recurses := true, loops := true, plainKeys := false, apart := false, narrowed := true }
def StrataPartsUptoSaid : Prop := strataPartsUptoRow.holds Try.pinned (OpenSpec.upto strataPartsSpec)

/-- 'gameplayerlaw10.StrataRules', WHERE WHAT IT READS IS OF BULK AT MOST 1048576: true; the input reads as it did. -/
def strataRulesUptoRow : OpenClaim := { program := "ytbjdikeaolibpaa", sum := "2e699f56fcd41fc34de6f56431d5e33ff46bd6d02104624ac9673e6b37effc9c", func := "gameplayer/gameplayerlaw10.StrataRules", spec := "strataRules", unfollowed := true, recurses := true, loops := true, plainKeys := false, apart := false, narrowed := true }
def StrataRulesUptoSaid : Prop := strataRulesUptoRow.holds Try.pinned (OpenSpec.upto strataRulesSpec)

/-- 'gameplayerlaw09.DependRules', WHERE WHAT IT READS IS OF BULK AT MOST 1048576: true; the input reads as it did. -/
def dependRulesUptoRow : OpenClaim := { program := "ytbjdikeaolibpaa", sum := "2e699f56fcd41fc34de6f56431d5e33ff46bd6d02104624ac9673e6b37effc9c", func := "gameplayer/gameplayerlaw09.DependRules", spec := "dependRules", unfollowed := true, recurses := true, loops := true, plainKeys := false, apart := false, narrowed := true }
def DependRulesUptoSaid : Prop := dependRulesUptoRow.holds Try.pinned (OpenSpec.upto dependRulesSpec)

/-- 'gameplayerlaw09.DependReaches', WHERE WHAT IT READS IS OF BULK AT MOST 1048576: true; the input reads as it did. -/
def dependReachesUptoRow : OpenClaim := { program := "ytbjdikeaolibpaa", sum := "2e699f56fcd41fc34de6f56431d5e33ff46bd6d02104624ac9673e6b37effc9c", func := "gameplayer/gameplayerlaw09.DependReaches", spec := "dependReaches", unfollowed := true, recurses := true, plainKeys := false, apart := false, narrowed := true }
def DependReachesUptoSaid : Prop := dependReachesUptoRow.holds Try.pinned (OpenSpec.upto dependReachesSpec)

/-- 'gameplayerlaw09.DependGroups', WHERE WHAT IT READS IS OF BULK AT MOST 1048576: true; the input reads as it did. -/
def dependGroupsUptoRow : OpenClaim := { program := "ytbjdikeaolibpaa", sum := "2e699f56fcd41fc34de6f56431d5e33ff46bd6d02104624ac9673e6b37effc9c", func := "gameplayer/gameplayerlaw09.DependGroups", spec := "dependGroups", unfollowed := true, recurses := true, plainKeys := false, apart := false, narrowed := true }
def DependGroupsUptoSaid : Prop := dependGroupsUptoRow.holds Try.pinned (OpenSpec.upto dependGroupsSpec)

/-- 'gameplayerlaw09.DependTransitive', WHERE WHAT IT READS IS OF BULK AT MOST 1048576: true; the input reads as it did. -/
def dependTransitiveUptoRow : OpenClaim := { program := "ytbjdikeaolibpaa", sum := "2e699f56fcd41fc34de6f56431d5e33ff46bd6d02104624ac9673e6b37effc9c", func := "gameplayer/gameplayerlaw09.DependTransitive", spec := "dependTransitive", unfollowed := true, recurses := true, plainKeys := false, apart := false, narrowed := true }
def DependTransitiveUptoSaid : Prop := dependTransitiveUptoRow.holds Try.pinned (OpenSpec.upto dependTransitiveSpec)

/-- 'gameplayerlaw09.DependOrdered', WHERE WHAT IT READS IS OF BULK AT MOST 1048576: true; the input reads as it did. -/
def dependOrderedUptoRow : OpenClaim := { program := "ytbjdikeaolibpaa", sum := "2e699f56fcd41fc34de6f56431d5e33ff46bd6d02104624ac9673e6b37effc9c", func := "gameplayer/gameplayerlaw09.DependOrdered", spec := "dependOrdered", unfollowed := true, recurses := true, plainKeys := false, apart := false, narrowed := true }
def DependOrderedUptoSaid : Prop := dependOrderedUptoRow.holds Try.pinned (OpenSpec.upto dependOrderedSpec)

/-- 'gameplayerlaw09.DependJoins', WHERE WHAT IT READS IS OF BULK AT MOST 1048576: true; the input reads as it did. -/
def dependJoinsUptoRow : OpenClaim := { program := "ytbjdikeaolibpaa", sum := "2e699f56fcd41fc34de6f56431d5e33ff46bd6d02104624ac9673e6b37effc9c", func := "gameplayer/gameplayerlaw09.DependJoins", spec := "dependJoins", unfollowed := true, recurses := true, loops := true, plainKeys := false, apart := false, narrowed := true }
def DependJoinsUptoSaid : Prop := dependJoinsUptoRow.holds Try.pinned (OpenSpec.upto dependJoinsSpec)

end Rows
end Go.Proofs.Ytbjdikeaolibpaa
