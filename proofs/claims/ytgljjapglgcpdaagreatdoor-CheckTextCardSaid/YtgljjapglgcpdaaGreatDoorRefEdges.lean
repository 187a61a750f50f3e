
/-
  The contract of the reference's Edges.
-/
import Derived.Test.YtgljjapglgcpdaaGreatDoorSmall3
import Derived.Test.YtgljjapglgcpdaaGreatDoorOrder
import Derived.Deep.RegionHeld3
namespace Go.Proofs.YtgljjapglgcpdaaGreatDoor
open Go.RowKit
attribute [local go_sem ↓] run_eql_ed run_neq_ed run_eql_lv run_neq_lv

end Go.Proofs.YtgljjapglgcpdaaGreatDoor
