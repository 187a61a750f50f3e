
/-
  Contracts of small functions: comparisons of lists, membership, look-ups in lists of levels.
-/
import Derived.Test.YtaaomocodkpmfaaGreatDoorFacts
namespace Go.Proofs.YtaaomocodkpmfaaGreatDoor
open Go.RowKit
attribute [local go_sem ↓] run_eql_ed run_neq_ed run_eql_lv run_neq_lv

set_option maxHeartbeats 400000 in
theorem strataStep (e : Ed) (w : World) :
    Calls Tryz.prog 73 #[.agg #[.string e.f, .string e.t, .bool e.n]] w fun r w' => r = .returned (.int .i64 (if e.n then 1 else 0)) ∧ Ch [] w w' := by
  cases hn : e.n
  all_goals
    go_enter Tryz.func73, Tryz.ntmps73
    go_wp2
    go_ret
    exact ⟨rfl, (Ch.refl _ _).alloc _⟩

end Go.Proofs.YtaaomocodkpmfaaGreatDoor
