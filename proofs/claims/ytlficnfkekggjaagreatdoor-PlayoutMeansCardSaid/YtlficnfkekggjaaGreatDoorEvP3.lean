
/-
  Snapshots run: ground.Rules.
-/
import Derived.Test.YtlficnfkekggjaaGreatDoorEvP2
namespace Go.Proofs.YtlficnfkekggjaaGreatDoor
open Go.RowKit Go.Ev Go.Shelf
noncomputable def hkP2 {R : Type} (g : Nat) : Option (HK R) := match g with
  | 60 => some (hkSnapK kwsV [snA])
  | g => hkB g
set_option maxRecDepth 100000 in
theorem hkP2_sd {R : Type} : HkSd Tryz.prog (hkP2 : Nat → Option (HK R)) := by
  intro g h hg
  unfold hkP2 at hg
  split at hg
  · injection hg with hg; subst hg; exact hkSnapK_sd (by simp only [List.forall_mem_cons, List.not_mem_nil, false_imp_iff, implies_true, and_true]; exact snA_ok)
  · exact hkB_sd g h hg
set_option maxRecDepth 10000000 in
set_option maxHeartbeats 0 in
theorem snG_run : (fun ty => snRun (callG Tryz.prog (drawn Tryz.prog) hkP2 10000000 61) (snG.kw kwsV ty)) = fun _ => some true := by kernel_rfl
theorem snG_ok (ty : Nat) : SnOk Tryz.prog 61 (snG.kw kwsV ty) := snRun_ok (D := drawn Tryz.prog) (hk := hkP2) (f := 10000000) noNG hkP2_sd (drawn_spec mixed_) (congrFun snG_run ty)
end Go.Proofs.YtlficnfkekggjaaGreatDoor
