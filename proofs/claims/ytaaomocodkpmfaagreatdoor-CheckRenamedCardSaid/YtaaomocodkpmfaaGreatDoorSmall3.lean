
/-
  Contracts of small functions over lists of lists.
-/
import Derived.Test.YtaaomocodkpmfaaGreatDoorSmall
import Derived.Test.YtaaomocodkpmfaaGreatDoorEqs
namespace Go.Proofs.YtaaomocodkpmfaaGreatDoor
open Go.RowKit
attribute [local go_sem ↓] run_eql_ed run_neq_ed run_eql_lv run_neq_lv

end Go.Proofs.YtaaomocodkpmfaaGreatDoor
