
/-
  Snapshots run: the rounds of relax.Atoms.
-/
import Derived.Test.YtlficnfkekggjaaGreatDoorEvD37
import Derived.Test.YtlficnfkekggjaaGreatDoorEvHe
namespace Go.Proofs.YtlficnfkekggjaaGreatDoor
open Go.RowKit Go.Ev Go.Shelf
set_option maxRecDepth 10000000 in
set_option maxHeartbeats 0 in
theorem snR0_ok : SnOk Tryz.prog 94 snR0 := snRun_ok (D := drawn Tryz.prog) (hk := hkB) (f := 10000000) noNG hkB_sd (drawn_spec mixed_) (by kernel_rfl)
set_option maxRecDepth 10000000 in
set_option maxHeartbeats 0 in
theorem snR1_ok : SnOk Tryz.prog 94 snR1 := snRun_ok (D := drawn Tryz.prog) (hk := hkB) (f := 10000000) noNG hkB_sd (drawn_spec mixed_) (by kernel_rfl)
set_option maxRecDepth 10000000 in
set_option maxHeartbeats 0 in
theorem snR2_ok : SnOk Tryz.prog 94 snR2 := snRun_ok (D := drawn Tryz.prog) (hk := hkB) (f := 10000000) noNG hkB_sd (drawn_spec mixed_) (by kernel_rfl)
set_option maxRecDepth 10000000 in
set_option maxHeartbeats 0 in
theorem snR3_ok : SnOk Tryz.prog 94 snR3 := snRun_ok (D := drawn Tryz.prog) (hk := hkB) (f := 10000000) noNG hkB_sd (drawn_spec mixed_) (by kernel_rfl)
set_option maxRecDepth 10000000 in
set_option maxHeartbeats 0 in
theorem snR4_ok : SnOk Tryz.prog 94 snR4 := snRun_ok (D := drawn Tryz.prog) (hk := hkB) (f := 10000000) noNG hkB_sd (drawn_spec mixed_) (by kernel_rfl)
set_option maxRecDepth 10000000 in
set_option maxHeartbeats 0 in
theorem snR5_ok : SnOk Tryz.prog 94 snR5 := snRun_ok (D := drawn Tryz.prog) (hk := hkB) (f := 10000000) noNG hkB_sd (drawn_spec mixed_) (by kernel_rfl)
set_option maxRecDepth 10000000 in
set_option maxHeartbeats 0 in
theorem snR6_ok : SnOk Tryz.prog 94 snR6 := snRun_ok (D := drawn Tryz.prog) (hk := hkB) (f := 10000000) noNG hkB_sd (drawn_spec mixed_) (by kernel_rfl)
set_option maxRecDepth 10000000 in
set_option maxHeartbeats 0 in
theorem snR7_ok : SnOk Tryz.prog 94 snR7 := snRun_ok (D := drawn Tryz.prog) (hk := hkB) (f := 10000000) noNG hkB_sd (drawn_spec mixed_) (by kernel_rfl)
end Go.Proofs.YtlficnfkekggjaaGreatDoor
