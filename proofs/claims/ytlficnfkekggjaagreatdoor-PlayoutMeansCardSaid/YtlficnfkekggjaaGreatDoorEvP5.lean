
/-
  Snapshots run: compile.Net, simplify.Net, playout.Check.
-/
import Derived.Test.YtlficnfkekggjaaGreatDoorEvP3
import Derived.Test.YtlficnfkekggjaaGreatDoorEvP4
namespace Go.Proofs.YtlficnfkekggjaaGreatDoor
open Go.RowKit Go.Ev Go.Shelf
noncomputable def hkP5 {R : Type} (g : Nat) : Option (HK R) := match g with
  | 60 => some (hkSnapK kwsV [snA])
  | 61 => some (hkSnapK kwsV [snG])
  | 62 => some (hkSnap [snH])
  | g => hkB g
set_option maxRecDepth 100000 in
theorem hkP5_sd {R : Type} : HkSd Tryz.prog (hkP5 : Nat → Option (HK R)) := by
  intro g h hg
  unfold hkP5 at hg
  split at hg
  · injection hg with hg; subst hg; exact hkSnapK_sd (by simp only [List.forall_mem_cons, List.not_mem_nil, false_imp_iff, implies_true, and_true]; exact snA_ok)
  · injection hg with hg; subst hg; exact hkSnapK_sd (by simp only [List.forall_mem_cons, List.not_mem_nil, false_imp_iff, implies_true, and_true]; exact snG_ok)
  · injection hg with hg; subst hg; exact hkSnap_sd (by simp only [List.forall_mem_cons, List.not_mem_nil, false_imp_iff, implies_true, and_true]; exact snH_ok)
  · exact hkB_sd g h hg
set_option maxRecDepth 10000000 in
set_option maxHeartbeats 0 in
theorem snN_run : (fun ty => snRun (callG Tryz.prog (drawn Tryz.prog) hkP5 10000000 31) (snN.kw kwsV ty)) = fun _ => some true := by kernel_rfl
theorem snN_ok (ty : Nat) : SnOk Tryz.prog 31 (snN.kw kwsV ty) := snRun_ok (D := drawn Tryz.prog) (hk := hkP5) (f := 10000000) noNG hkP5_sd (drawn_spec mixed_) (congrFun snN_run ty)
set_option maxRecDepth 10000000 in
set_option maxHeartbeats 0 in
theorem snS_ok : SnOk Tryz.prog 32 snS := snRun_ok (D := drawn Tryz.prog) (hk := hkB) (f := 10000000) noNG hkB_sd (drawn_spec mixed_) (by kernel_rfl)
set_option maxRecDepth 10000000 in
set_option maxHeartbeats 0 in
theorem snK_run : (fun ty => snRun (callG Tryz.prog (drawn Tryz.prog) hkB 10000000 18) (snK.kw kwsV ty)) = fun _ => some true := by kernel_rfl
theorem snK_ok (ty : Nat) : SnOk Tryz.prog 18 (snK.kw kwsV ty) := snRun_ok (D := drawn Tryz.prog) (hk := hkB) (f := 10000000) noNG hkB_sd (drawn_spec mixed_) (congrFun snK_run ty)
end Go.Proofs.YtlficnfkekggjaaGreatDoor
