
/-
  Snapshots run: the last rounds; relax.Atoms.
-/
import Derived.Test.YtlficnfkekggjaaGreatDoorEvP1
namespace Go.Proofs.YtlficnfkekggjaaGreatDoor
open Go.RowKit Go.Ev Go.Shelf
set_option maxRecDepth 10000000 in
set_option maxHeartbeats 0 in
theorem snR8_ok : SnOk Tryz.prog 94 snR8 := snRun_ok (D := drawn Tryz.prog) (hk := hkB) (f := 10000000) noNG hkB_sd (drawn_spec mixed_) (by kernel_rfl)
set_option maxRecDepth 10000000 in
set_option maxHeartbeats 0 in
theorem snR9_ok : SnOk Tryz.prog 94 snR9 := snRun_ok (D := drawn Tryz.prog) (hk := hkB) (f := 10000000) noNG hkB_sd (drawn_spec mixed_) (by kernel_rfl)
noncomputable def hkP1 {R : Type} (g : Nat) : Option (HK R) := match g with
  | 94 => some (hkSnap [snR0, snR1, snR2, snR3, snR4, snR5, snR6, snR7, snR8, snR9])
  | g => hkB g
set_option maxRecDepth 100000 in
theorem hkP1_sd {R : Type} : HkSd Tryz.prog (hkP1 : Nat → Option (HK R)) := by
  intro g h hg
  unfold hkP1 at hg
  split at hg
  · injection hg with hg; subst hg; exact hkSnap_sd (by simp only [List.forall_mem_cons, List.not_mem_nil, false_imp_iff, implies_true, and_true]; exact ⟨snR0_ok, snR1_ok, snR2_ok, snR3_ok, snR4_ok, snR5_ok, snR6_ok, snR7_ok, snR8_ok, snR9_ok⟩)
  · exact hkB_sd g h hg
set_option maxRecDepth 10000000 in
set_option maxHeartbeats 0 in
theorem snA_run : (fun ty => snRun (callG Tryz.prog (drawn Tryz.prog) hkP1 10000000 60) (snA.kw kwsV ty)) = fun _ => some true := by kernel_rfl
theorem snA_ok (ty : Nat) : SnOk Tryz.prog 60 (snA.kw kwsV ty) := snRun_ok (D := drawn Tryz.prog) (hk := hkP1) (f := 10000000) noNG hkP1_sd (drawn_spec mixed_) (congrFun snA_run ty)
end Go.Proofs.YtlficnfkekggjaaGreatDoor
