/-
  The contracts of plain's variable, Term and Terms.
-/
import Derived.Test.YtbjdikeaolibpaaSmParts
namespace Go.Proofs.Ytbjdikeaolibpaa
open Go.RowKit

set_option maxRecDepth 100000 in
set_option maxHeartbeats 2000000 in
theorem variable_ (t : Tm) (p : Nat → Prop) (v : Value) (w : World) (h : SlT p w v t.args) :
    Calls Try.prog 96 #[.agg #[.string t.name, v]] w fun e w' => e = .returned (.bool (isVar t)) ∧ Ch [] w w' := by
  obtain ⟨nm, ags⟩ := t
  obtain ⟨a, c, rfl, hlc, hmx⟩ := h.form
  simp only [Tm.args, Tm.name] at h hlc ⊢
  unfold maxLen at hmx
  have HP : Hid (isVar (.mk nm ags) = (decide (ags.length = 0) && (!decide (nm = ⟨#[]⟩) && (decide (65 ≤ byteAt nm 0) && decide (byteAt nm 0 ≤ 90))))) := rfl
  have hbx := Blk.new w 52 #[.string nm, .slice a ags.length c]
  have hcA : Ch [] w (w.alloc (.cells #[.string nm, .slice a ags.length c] 52)) := (Ch.refl _ _).alloc _
  have b0 := hbx.cell 0
  have b1 := hbx.cell 1
  have hcAl : ags.length ≤ 9223372036854775807 := by omega
  by_cases hl : ags.length = 0
  · by_cases hn : nm = ⟨#[]⟩
    · have h1 : ((ags.length : Int) == 0) = true := by simp [hl]
      have h2 : (nm.toList == []) = true := by rw [emp_eq]; simpa using hn
      have HR : Hid (isVar (.mk nm ags) = false) := by unfold Hid; rw [HP.out, hn]; simp
      clear hl hn
      go_enter Try.func96, Try.ntmps96
      go_wp2
      go_ret
      exact ⟨by rw [HR.out]; rfl, hcA⟩
    · have h1 : ((ags.length : Int) == 0) = true := by simp [hl]
      have h2 : (nm.toList == []) = false := by rw [emp_eq]; simpa using hn
      have hns : 0 < nm.size := by
        rcases Nat.eq_zero_or_pos nm.size with h0 | h0
        · exfalso; apply hn; apply ByteArray.ext; exact Array.eq_empty_of_size_eq_zero h0
        · exact h0
      have hb := byteAt_eq hns
      have HR : Hid (isVar (.mk nm ags) = (decide (65 ≤ byteAt nm 0) && decide (byteAt nm 0 ≤ 90))) := by unfold Hid; rw [HP.out]; simp [hl, hn]
      clear hl hn HP
      generalize byteAt nm 0 = b at *
      have hcs : (b < 65) ∨ (65 ≤ b ∧ b ≤ 90) ∨ 90 < b := by omega
      rcases hcs with hc | hc | hc
      · have HV : Hid ((decide (65 ≤ b) && decide (b ≤ 90)) = false) := by unfold Hid; simp; omega
        go_enter Try.func96, Try.ntmps96
        go_wp2
        all_goals
          go_ret
          exact ⟨by rw [HR.out, HV.out]; first | rfl | (simp; omega), hcA⟩
      · have HV : Hid ((decide (65 ≤ b) && decide (b ≤ 90)) = true) := by unfold Hid; simp; omega
        go_enter Try.func96, Try.ntmps96
        go_wp2
        all_goals
          go_ret
          exact ⟨by rw [HR.out, HV.out]; first | rfl | (simp; omega), hcA⟩
      · have HV : Hid ((decide (65 ≤ b) && decide (b ≤ 90)) = false) := by unfold Hid; simp; omega
        go_enter Try.func96, Try.ntmps96
        go_wp2
        all_goals
          go_ret
          exact ⟨by rw [HR.out, HV.out]; first | rfl | (simp; omega), hcA⟩
  · have h1 : ((ags.length : Int) == 0) = false := by rw [beq_eq_false_iff_ne]; omega
    have HR : Hid (isVar (.mk nm ags) = false) := by unfold Hid; rw [HP.out]; simp [hl]
    clear hl
    go_enter Try.func96, Try.ntmps96
    go_wp2
    go_ret
    exact ⟨by rw [HR.out]; rfl, hcA⟩
end Go.Proofs.Ytbjdikeaolibpaa
