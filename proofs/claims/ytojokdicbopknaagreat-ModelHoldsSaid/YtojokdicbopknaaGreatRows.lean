/-
  NARROWER THAN 'FOR EVERY INPUT', by the rows' own cells (each row's printed sentence says how): ModelStrata: loops · ModelRanks: loops · ModelHolds: loops · ModelGround: loops · ModelDerives: loops · ModelMore: loops.
  DERIVED. THE GIVEN ROWS OF THIS SEAT. 6 by the template 'for every input the law returns true; each argument reads behind the call as it read before'; 0 by the template 'total and deterministic' (their statements: YtojokdicbopknaaGreatTotals.lean).
  GIVEN WITH THE SEED: the statements are not yours to turn. If you find one false, say at which input.
  Laid BY PROGRAM, IN A SANDBOX (cutbox-rows.mjs): the forced cells as the released guide's own fill.sh prints them over the translation 276aaa1b37688f8c… (all of the seat's roots in one cut). By AI agents, Wed Nov 11 2026. No macro, syntax, notation, axiom, sorry.
-/
import Derived.Test.YtojokdicbopknaaGreatChecked
import GoSem.Claim
import GoSem.ClaimJoined
import GoSem.ClaimMapViews
import Derived.JoinedTies
import Derived.KernelRfl
namespace Go.Proofs.YtojokdicbopknaaGreat
/- THE CELL 'sum', in the pinned program and in every row, IS THE sha256 OF THE DUMP (.gsa) THAT YtojokdicbopknaaGreatProg.lean LOADS. Nothing in Lean hashes anything: it is a label: what it is worth is what the hold of that sum in a sandbox is worth. -/
noncomputable def Tryz.pinned : Pinned := { name := "ytojokdicbopknaagreat", sum := "276aaa1b37688f8c899399eefa21dffe446cc4feb6cbf547a31845801388ff3f", checked := Tryz.checked }
namespace Rows
def none {H : Type} : Left H := { results := [], args := [] }

/-- 'gameplayerlaw14.ModelStrata': WHATEVER THE INPUT: true; the input reads as it did. -/
def modelStrataSpec : ChangeSpec := { name := "modelStrata", fn := fun _ => fun
  | [d] => { results := [.lit (.bool true)], args := [d] }
  | _ => none }
def modelStrataRow : OpenClaim := { program := "ytojokdicbopknaagreat", sum := "276aaa1b37688f8c899399eefa21dffe446cc4feb6cbf547a31845801388ff3f", func := "gameplayer/gameplayerlaw14.ModelStrata", spec := "modelStrata", inPlace := ["internal/bytealg.abigen_runtime_cmpstring"], unfollowed := true, recurses := true, loops := true, plainKeys := false, apart := false }
def ModelStrataSaid : Prop := modelStrataRow.holds Tryz.pinned (OpenSpec.ofChange modelStrataSpec)

/-- ITS FALSE NEIGHBOUR: 'it returns false'. Refute it at one input. -/
def modelStrataWrong : ChangeSpec := { name := "modelStrata", fn := fun _ => fun
  | [d] => { results := [.lit (.bool false)], args := [d] }
  | _ => none }
def ModelStrataWrongFalsely : Prop := modelStrataRow.holds Tryz.pinned (OpenSpec.ofChange modelStrataWrong)

/-- 'gameplayerlaw14.ModelRanks': WHATEVER THE INPUT: true; the input reads as it did. -/
def modelRanksSpec : ChangeSpec := { name := "modelRanks", fn := fun _ => fun
  | [d1, d2] => { results := [.lit (.bool true)], args := [d1, d2] }
  | _ => none }
def modelRanksRow : OpenClaim := { program := "ytojokdicbopknaagreat", sum := "276aaa1b37688f8c899399eefa21dffe446cc4feb6cbf547a31845801388ff3f", func := "gameplayer/gameplayerlaw14.ModelRanks", spec := "modelRanks", inPlace := ["internal/bytealg.abigen_runtime_cmpstring"], unfollowed := true, recurses := true, loops := true, plainKeys := false, apart := false }
def ModelRanksSaid : Prop := modelRanksRow.holds Tryz.pinned (OpenSpec.ofChange modelRanksSpec)

/-- ITS FALSE NEIGHBOUR: 'it returns false'. Refute it at one input. -/
def modelRanksWrong : ChangeSpec := { name := "modelRanks", fn := fun _ => fun
  | [d1, d2] => { results := [.lit (.bool false)], args := [d1, d2] }
  | _ => none }
def ModelRanksWrongFalsely : Prop := modelRanksRow.holds Tryz.pinned (OpenSpec.ofChange modelRanksWrong)

/-- 'gameplayerlaw14.ModelHolds': WHATEVER THE INPUT: true; the input reads as it did. -/
def modelHoldsSpec : ChangeSpec := { name := "modelHolds", fn := fun _ => fun
  | [d1, d2, d3] => { results := [.lit (.bool true)], args := [d1, d2, d3] }
  | _ => none }
def modelHoldsRow : OpenClaim := { program := "ytojokdicbopknaagreat", sum := "276aaa1b37688f8c899399eefa21dffe446cc4feb6cbf547a31845801388ff3f", func := "gameplayer/gameplayerlaw14.ModelHolds", spec := "modelHolds", inPlace := ["internal/bytealg.abigen_runtime_cmpstring"], unfollowed := true, recurses := true, loops := true, plainKeys := false, apart := false }
def ModelHoldsSaid : Prop := modelHoldsRow.holds Tryz.pinned (OpenSpec.ofChange modelHoldsSpec)

/-- ITS FALSE NEIGHBOUR: 'it returns false'. Refute it at one input. -/
def modelHoldsWrong : ChangeSpec := { name := "modelHolds", fn := fun _ => fun
  | [d1, d2, d3] => { results := [.lit (.bool false)], args := [d1, d2, d3] }
  | _ => none }
def ModelHoldsWrongFalsely : Prop := modelHoldsRow.holds Tryz.pinned (OpenSpec.ofChange modelHoldsWrong)

/-- 'gameplayerlaw14.ModelGround': WHATEVER THE INPUT: true; the input reads as it did. -/
def modelGroundSpec : ChangeSpec := { name := "modelGround", fn := fun _ => fun
  | [d1, d2] => { results := [.lit (.bool true)], args := [d1, d2] }
  | _ => none }
def modelGroundRow : OpenClaim := { program := "ytojokdicbopknaagreat", sum := "276aaa1b37688f8c899399eefa21dffe446cc4feb6cbf547a31845801388ff3f", func := "gameplayer/gameplayerlaw14.ModelGround", spec := "modelGround", inPlace := ["internal/bytealg.abigen_runtime_cmpstring"], unfollowed := true, recurses := true, loops := true, plainKeys := false, apart := false }
def ModelGroundSaid : Prop := modelGroundRow.holds Tryz.pinned (OpenSpec.ofChange modelGroundSpec)

/-- ITS FALSE NEIGHBOUR: 'it returns false'. Refute it at one input. -/
def modelGroundWrong : ChangeSpec := { name := "modelGround", fn := fun _ => fun
  | [d1, d2] => { results := [.lit (.bool false)], args := [d1, d2] }
  | _ => none }
def ModelGroundWrongFalsely : Prop := modelGroundRow.holds Tryz.pinned (OpenSpec.ofChange modelGroundWrong)

/-- 'gameplayerlaw14.ModelDerives': WHATEVER THE INPUT: true; the input reads as it did. -/
def modelDerivesSpec : ChangeSpec := { name := "modelDerives", fn := fun _ => fun
  | [d1, d2, d3] => { results := [.lit (.bool true)], args := [d1, d2, d3] }
  | _ => none }
def modelDerivesRow : OpenClaim := { program := "ytojokdicbopknaagreat", sum := "276aaa1b37688f8c899399eefa21dffe446cc4feb6cbf547a31845801388ff3f", func := "gameplayer/gameplayerlaw14.ModelDerives", spec := "modelDerives", inPlace := ["internal/bytealg.abigen_runtime_cmpstring"], unfollowed := true, recurses := true, loops := true, plainKeys := false, apart := false }
def ModelDerivesSaid : Prop := modelDerivesRow.holds Tryz.pinned (OpenSpec.ofChange modelDerivesSpec)

/-- ITS FALSE NEIGHBOUR: 'it returns false'. Refute it at one input. -/
def modelDerivesWrong : ChangeSpec := { name := "modelDerives", fn := fun _ => fun
  | [d1, d2, d3] => { results := [.lit (.bool false)], args := [d1, d2, d3] }
  | _ => none }
def ModelDerivesWrongFalsely : Prop := modelDerivesRow.holds Tryz.pinned (OpenSpec.ofChange modelDerivesWrong)

/-- 'gameplayerlaw14.ModelMore': WHATEVER THE INPUT: true; the input reads as it did. -/
def modelMoreSpec : ChangeSpec := { name := "modelMore", fn := fun _ => fun
  | [d1, d2, d3] => { results := [.lit (.bool true)], args := [d1, d2, d3] }
  | _ => none }
def modelMoreRow : OpenClaim := { program := "ytojokdicbopknaagreat", sum := "276aaa1b37688f8c899399eefa21dffe446cc4feb6cbf547a31845801388ff3f", func := "gameplayer/gameplayerlaw14.ModelMore", spec := "modelMore", inPlace := ["internal/bytealg.abigen_runtime_cmpstring"], unfollowed := true, recurses := true, loops := true, plainKeys := false, apart := false }
def ModelMoreSaid : Prop := modelMoreRow.holds Tryz.pinned (OpenSpec.ofChange modelMoreSpec)

/-- ITS FALSE NEIGHBOUR: 'it returns false'. Refute it at one input. -/
def modelMoreWrong : ChangeSpec := { name := "modelMore", fn := fun _ => fun
  | [d1, d2, d3] => { results := [.lit (.bool false)], args := [d1, d2, d3] }
  | _ => none }
def ModelMoreWrongFalsely : Prop := modelMoreRow.holds Tryz.pinned (OpenSpec.ofChange modelMoreWrong)

/- THE SECOND FORM. 'bulk': how many values and letters a reading holds, each counted each time it is reached (what is shared counts as often as it is met; a slice's spare places count too). A statement '..UptoSaid' is the law's where the arguments, and the package variables that the reading takes, are together of bulk at most 1048576: NARROWER than '..Said'. Prove '..Said' where nothing that the law and all that it calls make is longer than what came in: it says more and counts as full. Else prove '..UptoSaid'. A law counts once. -/
mutual
def uptoBulk {H : Type} : DataW H → Nat
  | .lit (.string bytes) => bytes.length + 1
  | .lit _ => 1
  | .nil => 1
  | .ptr d => uptoBulk d + 1
  | .slice elems spare => uptoBulkAll elems + uptoBulkAll spare + 1
  | .agg parts => uptoBulkAll parts + 1
  | .iface _ d => uptoBulk d + 1
  | .map entries => uptoBulkEntries entries + 1
  | .held _ => 1
def uptoBulkAll {H : Type} : List (DataW H) → Nat
  | [] => 0
  | d :: r => uptoBulk d + uptoBulkAll r
def uptoBulkEntries {H : Type} : List (Lit × DataW H) → Nat
  | [] => 0
  | x :: r => uptoBulkEntry x + uptoBulkEntries r
def uptoBulkEntry {H : Type} : Lit × DataW H → Nat
  | (.string bytes, d) => bytes.length + uptoBulk d + 1
  | (_, d) => uptoBulk d + 1
 end
def uptoSmall : (H : Type) → List (DataW H) → Bool := fun _ ds => decide (uptoBulkAll ds ≤ 1048576)
def OpenSpec.upto (s : _root_.Go.ChangeSpec) : _root_.Go.OpenSpec := { _root_.Go.OpenSpec.ofChange s with cond := some uptoSmall }

/-- 'gameplayerlaw14.ModelStrata', WHERE WHAT IT READS IS OF BULK AT MOST 1048576: true; the input reads as it did. -/
def modelStrataUptoRow : OpenClaim := { program := "ytojokdicbopknaagreat", sum := "276aaa1b37688f8c899399eefa21dffe446cc4feb6cbf547a31845801388ff3f", func := "gameplayer/gameplayerlaw14.ModelStrata", spec := "modelStrata", inPlace := ["internal/bytealg.abigen_runtime_cmpstring"], unfollowed := true, recurses := true, loops := true, plainKeys := false, apart := false, narrowed := true }
def ModelStrataUptoSaid : Prop := modelStrataUptoRow.holds Tryz.pinned (OpenSpec.upto modelStrataSpec)

/-- 'gameplayerlaw14.ModelRanks', WHERE WHAT IT READS IS OF BULK AT MOST 1048576: true; the input reads as it did. -/
def modelRanksUptoRow : OpenClaim := { program := "ytojokdicbopknaagreat", sum := "276aaa1b37688f8c899399eefa21dffe446cc4feb6cbf547a31845801388ff3f", func := "gameplayer/gameplayerlaw14.ModelRanks", spec := "modelRanks", inPlace := ["internal/bytealg.abigen_runtime_cmpstring"], unfollowed := true, recurses := true, loops := true, plainKeys := false, apart := false, narrowed := true }
def ModelRanksUptoSaid : Prop := modelRanksUptoRow.holds Tryz.pinned (OpenSpec.upto modelRanksSpec)

/-- 'gameplayerlaw14.ModelHolds', WHERE WHAT IT READS IS OF BULK AT MOST 1048576: true; the input reads as it did. -/
def modelHoldsUptoRow : OpenClaim := { program := "ytojokdicbopknaagreat", sum := "276aaa1b37688f8c899399eefa21dffe446cc4feb6cbf547a31845801388ff3f", func := "gameplayer/gameplayerlaw14.ModelHolds", spec := "modelHolds", inPlace := ["internal/bytealg.abigen_runtime_cmpstring"], unfollowed := true, recurses := true, loops := true, plainKeys := false, apart := false, narrowed := true }
def ModelHoldsUptoSaid : Prop := modelHoldsUptoRow.holds Tryz.pinned (OpenSpec.upto modelHoldsSpec)

/-- 'gameplayerlaw14.ModelGround', WHERE WHAT IT READS IS OF BULK AT MOST 1048576: true; the input reads as it did. -/
def modelGroundUptoRow : OpenClaim := { program := "ytojokdicbopknaagreat", sum := "276aaa1b37688f8c899399eefa21dffe446cc4feb6cbf547a31845801388ff3f", func := "gameplayer/gameplayerlaw14.ModelGround", spec := "modelGround", inPlace := ["internal/bytealg.abigen_runtime_cmpstring"], unfollowed := true, recurses := true, loops := true, plainKeys := false, apart := false, narrowed := true }
def ModelGroundUptoSaid : Prop := modelGroundUptoRow.holds Tryz.pinned (OpenSpec.upto modelGroundSpec)

/-- 'gameplayerlaw14.ModelDerives', WHERE WHAT IT READS IS OF BULK AT MOST 1048576: true; the input reads as it did. -/
def modelDerivesUptoRow : OpenClaim := { program := "ytojokdicbopknaagreat", sum := "276aaa1b37688f8c899399eefa21dffe446cc4feb6cbf547a31845801388ff3f", func := "gameplayer/gameplayerlaw14.ModelDerives", spec := "modelDerives", inPlace := ["internal/bytealg.abigen_runtime_cmpstring"], unfollowed := true, recurses := true, loops := true, plainKeys := false, apart := false, narrowed := true }
def ModelDerivesUptoSaid : Prop := modelDerivesUptoRow.holds Tryz.pinned (OpenSpec.upto modelDerivesSpec)

/-- 'gameplayerlaw14.ModelMore', WHERE WHAT IT READS IS OF BULK AT MOST 1048576: true; the input reads as it did. -/
def modelMoreUptoRow : OpenClaim := { program := "ytojokdicbopknaagreat", sum := "276aaa1b37688f8c899399eefa21dffe446cc4feb6cbf547a31845801388ff3f", func := "gameplayer/gameplayerlaw14.ModelMore", spec := "modelMore", inPlace := ["internal/bytealg.abigen_runtime_cmpstring"], unfollowed := true, recurses := true, loops := true, plainKeys := false, apart := false, narrowed := true }
def ModelMoreUptoSaid : Prop := modelMoreUptoRow.holds Tryz.pinned (OpenSpec.upto modelMoreSpec)

end Rows
end Go.Proofs.YtojokdicbopknaaGreat
