
/-
  The kernel runs the examples of the law of treesearch.
-/
import Derived.Test.YtlficnfkekggjaaGreatDoorEvHe
namespace Go.Proofs.YtlficnfkekggjaaGreatDoor
open Go.Ev Go.RowKit Go.Shelf
set_option maxRecDepth 10000000
set_option maxHeartbeats 0
theorem run38f : (fun ty => withK ty fun s => callB 10 [] s fun v s' => iff (isNil s'.w) (onB v fun b => some b) none) = fun _ => some true := by kernel_rfl
theorem awake38_ (W : World) (h : KwBlk W) : Calls Tryz.prog 10 #[] W fun e w' => e = .returned (.bool true) ∧ Ch [] W w' :=
  call_of_run hkB_sd (enters_of Tryz.func10 (by kernel_rfl) rfl) (fun ty => congrFun run38f ty) W h
end Go.Proofs.YtlficnfkekggjaaGreatDoor
