
/-
  Snapshots run: compile.Groups, Gates, Ground.
-/
import Derived.Test.YtlficnfkekggjaaGreatDoorEvD37
import Derived.Test.YtlficnfkekggjaaGreatDoorEvHe
namespace Go.Proofs.YtlficnfkekggjaaGreatDoor
open Go.RowKit Go.Ev Go.Shelf
set_option maxRecDepth 10000000 in
set_option maxHeartbeats 0 in
theorem snU_ok : SnOk Tryz.prog 103 snU := snRun_ok (D := drawn Tryz.prog) (hk := hkB) (f := 10000000) noNG hkB_sd (drawn_spec mixed_) (by kernel_rfl)
noncomputable def hkP3 {R : Type} (g : Nat) : Option (HK R) := match g with
  | 103 => some (hkSnap [snU])
  | g => hkB g
set_option maxRecDepth 100000 in
theorem hkP3_sd {R : Type} : HkSd Tryz.prog (hkP3 : Nat → Option (HK R)) := by
  intro g h hg
  unfold hkP3 at hg
  split at hg
  · injection hg with hg; subst hg; exact hkSnap_sd (by simp only [List.forall_mem_cons, List.not_mem_nil, false_imp_iff, implies_true, and_true]; exact snU_ok)
  · exact hkB_sd g h hg
set_option maxRecDepth 10000000 in
set_option maxHeartbeats 0 in
theorem snT_ok : SnOk Tryz.prog 98 snT := snRun_ok (D := drawn Tryz.prog) (hk := hkP3) (f := 10000000) noNG hkP3_sd (drawn_spec mixed_) (by kernel_rfl)
noncomputable def hkP4 {R : Type} (g : Nat) : Option (HK R) := match g with
  | 103 => some (hkSnap [snU])
  | 98 => some (hkSnap [snT])
  | g => hkB g
set_option maxRecDepth 100000 in
theorem hkP4_sd {R : Type} : HkSd Tryz.prog (hkP4 : Nat → Option (HK R)) := by
  intro g h hg
  unfold hkP4 at hg
  split at hg
  · injection hg with hg; subst hg; exact hkSnap_sd (by simp only [List.forall_mem_cons, List.not_mem_nil, false_imp_iff, implies_true, and_true]; exact snU_ok)
  · injection hg with hg; subst hg; exact hkSnap_sd (by simp only [List.forall_mem_cons, List.not_mem_nil, false_imp_iff, implies_true, and_true]; exact snT_ok)
  · exact hkB_sd g h hg
set_option maxRecDepth 10000000 in
set_option maxHeartbeats 0 in
theorem snH_ok : SnOk Tryz.prog 62 snH := snRun_ok (D := drawn Tryz.prog) (hk := hkP4) (f := 10000000) noNG hkP4_sd (drawn_spec mixed_) (by kernel_rfl)
end Go.Proofs.YtlficnfkekggjaaGreatDoor
