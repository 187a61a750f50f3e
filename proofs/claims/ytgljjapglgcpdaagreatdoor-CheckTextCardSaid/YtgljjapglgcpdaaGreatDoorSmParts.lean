
/-
  The contracts of plain's functions on terms: parts, Small, levels, key, variable.
-/
import Derived.Test.YtgljjapglgcpdaaGreatDoorTrees
import Derived.Test.YtgljjapglgcpdaaGreatDoorRead
namespace Go.Proofs.YtgljjapglgcpdaaGreatDoor
open Go.RowKit

set_option maxRecDepth 100000 in
set_option maxHeartbeats 2000000 in
theorem parts_ : ∀ (d : Nat) (t : Tm) (p : Nat → Prop) (v : Value) (w : World) (most : Nat) (D : Int), D = d → SlT p w v t.args → d ≤ 1000 → most ≤ 1000 →
    Calls Tryz.prog 72 #[.agg #[.string t.name, v], .int .i64 most, .int .i64 D] w fun e w' => e = .returned (.int .i64 (pParts most t d)) ∧ Ch [] w w' := by
  intro d
  induction d with
  | zero =>
    intro t p v w most D hD h hd hm
    subst hD
    obtain ⟨nm, ags⟩ := t
    obtain ⟨a, c, rfl, _, _⟩ := h.form
    simp only [Tm.args, Tm.name]
    go_enter Tryz.func72, Tryz.ntmps72
    go_wp2
    go_ret
    exact ⟨by simp [pParts], (Ch.refl _ _).alloc _⟩
  | succ d ih =>
    intro t p v w most D hD h hd hm
    have hD1 : (1 : Int) ≤ D := by omega
    have hD2 : D ≤ 1000 := by omega
    have HD := Lib.hid hD; clear hD
    obtain ⟨nm, ags⟩ := t
    obtain ⟨a, c, rfl, hlc, hmx⟩ := h.form
    simp only [Tm.args, Tm.name] at h hlc ⊢
    unfold maxLen at hmx
    have HIH := Lib.hid ih; clear ih
    have HP : Hid (pParts most (.mk nm ags) (d + 1) = pPartsL most ags d 1) := by unfold Hid; rw [pParts]
    have hPB : ∀ x, pParts most x d ≤ 1002001 := fun x => Nat.le_trans (pParts_bound most x d) (Nat.le_trans (Nat.mul_le_mul (show d + 1 ≤ 1001 by omega) (show most + 1 ≤ 1001 by omega)) (by decide))
    have HPB := Lib.hid hPB; clear hPB
    have hbx := Blk.new w 28 #[.string nm, .slice a ags.length c]
    have hcA : Ch [] w (w.alloc (.cells #[.string nm, .slice a ags.length c] 28)) := (Ch.refl _ _).alloc _
    go_enter Tryz.func72, Tryz.ntmps72
    go_wp2
    generalize (w.alloc (.cells #[.string nm, .slice a ags.length c] 28)) = wA at *
    go_loopw [7, 16] (fun n i wr => ∃ (k m : Nat), k ≤ ags.length ∧ i = .int .i64 k ∧ n = .int .i64 m ∧ Ch [] wA wr ∧ m ≤ 1004000 ∧ Hid (pPartsL most ags d 1 = pPartsL most (ags.drop k) d m)) (fun _ i _ => ags.length - (intOf i).toNat)
    case atStart => exact ⟨0, 1, Nat.zero_le _, rfl, rfl, Ch.refl _ _, by omega, rfl⟩
    case round =>
      obtain ⟨k, m, hk, rfl, rfl, hB, hmb, HX⟩ := hrel
      have hbr := hbx.ch hB (by simp)
      have b1 := hbr.cell 1
      by_cases hlt : k < ags.length
      · obtain ⟨b, o, a', c', rfl, hp, c0, c1, hT⟩ := (h.ch0 (hcA.trans hB)).at_ hlt
        have HDR : Hid (ags.drop k = ags[k] :: ags.drop (k + 1)) := List.drop_eq_getElem_cons hlt
        generalize ags[k] = x at *
        by_cases hgt : most < m
        · have hr : pPartsL most ags d 1 = m := by rw [HX.out, HDR.out, pPartsL, if_pos hgt]
          have HR := Lib.hid hr; clear hr
          go_wp2
          go_ret
          exact ⟨by rw [HP.out, HR.out]; rfl, hcA.trans hB⟩
        · have hpb := HPB.out x
          have hr : pPartsL most ags d 1 = pPartsL most (ags.drop (k + 1)) d (m + pParts most x d) := by rw [HX.out, HDR.out, pPartsL, if_neg hgt]
          have hcall := HIH.out x _ _ wr most (D - 1) (by have := HD.out; omega) hT (by omega) hm
          generalize pParts most x d = P at *
          have HR := Lib.hid hr; clear hr
          go_wp2_with (go_at_call 72; refine hcall.mono ?_; rintro e w1 ⟨rfl, hc1⟩; clear hcall)
          go_roundw
          case rel => exact ⟨k + 1, m + P, by omega, by go_num, by go_num, hB.trans hc1, by omega, HR⟩
          case measure => simp [intOf]; omega
      · have hr : pPartsL most ags d 1 = m := by rw [HX.out, List.drop_eq_nil_of_le (by omega), pPartsL]
        have HR := Lib.hid hr; clear hr
        go_wp2
        go_ret
        exact ⟨by rw [HP.out, HR.out]; rfl, hcA.trans hB⟩

set_option maxRecDepth 100000 in
theorem small_ (t : Tm) (p : Nat → Prop) (v : Value) (w : World) (most : Nat) (h : SlT p w v t.args) (hm : most ≤ 1000) :
    Calls Tryz.prog 36 #[.agg #[.string t.name, v], .int .i64 most] w fun e w' => e = .returned (.bool (decide (pParts most t most ≤ most))) ∧ Ch [] w w' := by
  obtain ⟨a, c, rfl, hlc, hmx⟩ := h.form
  have hbx := Blk.new w 28 #[.string t.name, .slice a t.args.length c]
  have hcA : Ch [] w (w.alloc (.cells #[.string t.name, .slice a t.args.length c] 28)) := (Ch.refl _ _).alloc _
  have hcall := fun wz hz => parts_ most t p (.slice a t.args.length c) wz most most rfl hz hm hm
  generalize pParts most t most = P at *
  go_enter Tryz.func36, Tryz.ntmps36
  go_wp2_with (go_at_call 72; refine (hcall _ (h.ch0 hcA)).mono ?_; rintro e w1 ⟨rfl, hc1⟩; clear hcall)
  go_ret
  exact ⟨by simp, hcA.trans hc1⟩

end Go.Proofs.YtgljjapglgcpdaaGreatDoor
