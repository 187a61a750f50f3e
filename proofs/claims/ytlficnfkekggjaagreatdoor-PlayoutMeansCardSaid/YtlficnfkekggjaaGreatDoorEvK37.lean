
/-
  The kernel runs the examples of the law of playout, from its snapshots.
-/
import Derived.Test.YtlficnfkekggjaaGreatDoorEvP5
import Derived.Test.YtlficnfkekggjaaGreatDoorEvP6
namespace Go.Proofs.YtlficnfkekggjaaGreatDoor
open Go.RowKit Go.Ev Go.Shelf
noncomputable def hkP6 {R : Type} (g : Nat) : Option (HK R) := match g with
  | 13 => some (hkSnap [snD])
  | 31 => some (hkSnapK kwsV [snN])
  | 32 => some (hkSnap [snS])
  | 18 => some (hkSnapK kwsV [snK])
  | g => hkB g
set_option maxRecDepth 100000 in
theorem hkP6_sd {R : Type} : HkSd Tryz.prog (hkP6 : Nat → Option (HK R)) := by
  intro g h hg
  unfold hkP6 at hg
  split at hg
  · injection hg with hg; subst hg; exact hkSnap_sd (by simp only [List.forall_mem_cons, List.not_mem_nil, false_imp_iff, implies_true, and_true]; exact snD_ok)
  · injection hg with hg; subst hg; exact hkSnapK_sd (by simp only [List.forall_mem_cons, List.not_mem_nil, false_imp_iff, implies_true, and_true]; exact snN_ok)
  · injection hg with hg; subst hg; exact hkSnap_sd (by simp only [List.forall_mem_cons, List.not_mem_nil, false_imp_iff, implies_true, and_true]; exact snS_ok)
  · injection hg with hg; subst hg; exact hkSnapK_sd (by simp only [List.forall_mem_cons, List.not_mem_nil, false_imp_iff, implies_true, and_true]; exact snK_ok)
  · exact hkB_sd g h hg
set_option maxRecDepth 10000000 in
set_option maxHeartbeats 0 in
theorem run37f : (fun ty => withK ty fun s => callG Tryz.prog (drawn Tryz.prog) hkP6 10000000 6 [] s fun v s' => iff (isNil s'.w) (onB v fun b => some b) none) = fun _ => some true := by kernel_rfl
theorem awake37_ (W : World) (h : KwBlk W) : Calls Tryz.prog 6 #[] W fun e w' => e = .returned (.bool true) ∧ Ch [] W w' :=
  call_of_run hkP6_sd (enters_of Tryz.func6 (by kernel_rfl) rfl) (fun ty => congrFun run37f ty) W h
end Go.Proofs.YtlficnfkekggjaaGreatDoor
