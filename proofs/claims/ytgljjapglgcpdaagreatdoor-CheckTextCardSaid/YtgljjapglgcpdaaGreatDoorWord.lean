
/-
  The contracts of the reader of trusted descriptions.
  The contract of the reader's word.
-/
import Derived.Test.YtgljjapglgcpdaaGreatDoorRefEdges
import Derived.Test.YtgljjapglgcpdaaGreatDoorTrees
import Derived.BigQuiet
import Derived.Test.YtgljjapglgcpdaaGreatDoorLex
namespace Go.Proofs.YtgljjapglgcpdaaGreatDoor

section
open Go.RowKit

theorem int_eq (c n : Nat) : (c == n) = ((c : Int) == (n : Int)) := by rw [Bool.eq_iff_iff]; simp; omega
theorem isBlank_eq (c : Nat) : isBlank c = (((c : Int) == 32) || ((c : Int) == 10)) := by unfold isBlank; rw [int_eq, int_eq]; rfl
def Rdr (w : World) (R : Nat) (s : ByteArray) (i : Nat) : Prop := Blk w R 78 #[.string s, .int .i64 i]

set_option maxHeartbeats 1000000 in
theorem blank_ (R : Nat) (s : ByteArray) (i : Nat) (w : World) (h : Rdr w R s i) (hs : s.size ≤ 1000000000) (hi : i ≤ s.size) :
    Calls Tryz.prog 73 #[.pointer (some ⟨R, 0, none⟩)] w fun e w' => e = .returned (.tuple #[]) ∧ Rdr w' R s (skipTo s i) ∧ Ch [R] w w' := by
  go_enter Tryz.func73, Tryz.ntmps73
  go_wp2
  go_loopw [2] (fun _ wr => ∃ k : Nat, k ≤ s.size ∧ Rdr wr R s k ∧ Ch [R] w wr ∧ Hid (runTo isBlank s (s.size - k) k = skipTo s i)) (fun _ wr => s.size - (match wr.cell? ⟨R, 1, none⟩ with | some v => (intOf v).toNat | none => 0))
  case atStart => exact ⟨i, hi, h, Ch.refl _ _, rfl⟩
  case round =>
    obtain ⟨k, hk, hR, hB, HX⟩ := hrel
    have c0 := Later.cell (hR.cell 0)
    have c1 := Later.cell (hR.cell 1)
    by_cases hlt : k < s.size
    · have hb := byteAt_eq hlt
      have HS : Hid (runTo isBlank s (s.size - k) k = if isBlank (byteAt s k) = true then runTo isBlank s (s.size - (k + 1)) (k + 1) else k) := by
        unfold Hid
        rw [show s.size - k = (s.size - (k + 1)) + 1 from by omega]
        conv => lhs; unfold runTo
        by_cases hq : isBlank (byteAt s k) = true <;> simp [hq, hlt]
      generalize byteAt s k = c at *
      cases h1 : ((c : Int) == 32) <;> cases h2 : ((c : Int) == 10)
      all_goals
        have hq := isBlank_eq c
        rw [h1, h2] at hq
        have HQ := Lib.hid hq; clear hq
        go_wp2
        refine wp_region_later (by kernel_rfl) (by kernel_rfl) ?_
        repeat (go_big_quiet_step (fail))
        refine wpQuiet_nil ?_
        intro w1 hw1
        have hR1 := hR.ch hw1 (by simp)
        have hB1 := hB.trans hw1.of_nil
        have d0 := hR1.cell 0
        have d1 := hR1.cell 1
        have f1 := hR1.frozen 1
        have e1 := hR.cell 1
        go_wp2
        first
          | (go_end0
             refine ⟨rfl, ?_, hB1⟩
             have := HS.out
             rw [HQ.out, if_neg (by simp)] at this
             rw [← HX.out, this]
             exact hR1)
          | (have hR2 : Rdr (w1.setCell ⟨R, 1, none⟩ (.int .i64 ((k : Int) + 1))) R s (k + 1) := hR1.set_ 1 _
             have e2 := hR2.cell 1
             go_roundw
             case rel => exact ⟨k + 1, by omega, hR2, hB1.set (by simp) _, by unfold Hid; rw [← HX.out, HS.out, HQ.out]; rfl⟩
             case measure =>
               rw [e1, e2]
               show s.size - (((k + 1 : Nat) : Int)).toNat < s.size - ((k : Int)).toNat
               omega)
    · have hks : k = s.size := by omega
      subst hks
      go_wp2
      refine wp_region_later (by kernel_rfl) (by kernel_rfl) ?_
      repeat (go_big_quiet_step (fail))
      refine wpQuiet_nil ?_
      intro w1 hw1
      go_wp2
      go_end0
      have := HX.out
      rw [Nat.sub_self] at this
      exact ⟨rfl, by rw [← this]; exact hR.ch hw1 (by simp), hB.trans hw1.of_nil⟩

set_option maxHeartbeats 1000000 in
theorem sign_ (R : Nat) (s : ByteArray) (i ch : Nat) (w : World) (h : Rdr w R s i) (hs : s.size ≤ 1000000000) (hi : i ≤ s.size) :
    Calls Tryz.prog 75 #[.pointer (some ⟨R, 0, none⟩), .int .u8 ch] w fun e w' => e = .returned (.bool (pSign s i ch).1) ∧ Rdr w' R s (pSign s i ch).2 ∧ Ch [R] w w' := by
  have hj := (skipTo_le hi).2
  have HP : Hid (pSign s i ch = if skipTo s i < s.size ∧ byteAt s (skipTo s i) = ch then (true, skipTo s i + 1) else (false, skipTo s i)) := rfl
  have hbl := blank_ R s i w h hs hi
  generalize skipTo s i = j at *
  clear h hi
  go_enter Tryz.func75, Tryz.ntmps75
  go_wp2_with (go_at_call 73; refine hbl.mono ?_; rintro e w1 ⟨rfl, hR1, hc1⟩; clear hbl)
  have c0 := Later.cell (hR1.cell 0)
  have c1 := Later.cell (hR1.cell 1)
  by_cases hlt : j < s.size
  · have hb := byteAt_eq hlt
    generalize byteAt s j = c at *
    cases h1 : ((c : Int) == (ch : Int))
    all_goals
      refine wp_region_later (by kernel_rfl) (by kernel_rfl) ?_
      repeat (go_big_quiet_step (fail))
      refine wpQuiet_nil ?_
      intro w2 hw2
      have hR2 := hR1.ch hw2 (by simp)
      have hB2 := hc1.trans hw2.of_nil
      have d0 := hR2.cell 0
      have d1 := hR2.cell 1
      have f1 := hR2.frozen 1
      rw [← int_eq] at h1
      have H1 := Lib.hid h1; clear h1
      go_wp2
      go_ret
    · have hne : ¬ c = ch := by have := H1.out; simpa using this
      have hp := HP.out
      rw [if_neg (fun h => hne h.2)] at hp
      exact ⟨by rw [hp]; rfl, by rw [hp]; exact hR2, hB2⟩
    · have heq : c = ch := by have := H1.out; simpa using this
      have hp := HP.out
      rw [if_pos ⟨hlt, heq⟩] at hp
      have hR3 : Rdr (w2.setCell ⟨R, 1, none⟩ (.int .i64 ((j : Int) + 1))) R s (j + 1) := hR2.set_ 1 _
      exact ⟨by rw [hp]; rfl, by rw [hp]; exact hR3, hB2.set (by simp) _⟩
  · refine wp_region_later (by kernel_rfl) (by kernel_rfl) ?_
    repeat (go_big_quiet_step (fail))
    refine wpQuiet_nil ?_
    intro w2 hw2
    go_wp2
    go_ret
    have hp := HP.out
    rw [if_neg (fun h => hlt h.1)] at hp
    exact ⟨by rw [hp]; rfl, by rw [hp]; exact hR1.ch hw2 (by simp), hc1.trans hw2.of_nil⟩
end

section
open Go.RowKit

theorem cls (c : Nat) : c = 45 ∨ (48 ≤ c ∧ c ≤ 57) ∨ (97 ≤ c ∧ c ≤ 122) ∨ (65 ≤ c ∧ c ≤ 90) ∨ (c < 48 ∧ c ≠ 45) ∨ (58 ≤ c ∧ c ≤ 64) ∨ (91 ≤ c ∧ c ≤ 96) ∨ 123 ≤ c := by omega
theorem isWord_eq (c : Nat) : isWord c = (((c : Int) == 45) || (decide ((48 : Int) ≤ c) && decide ((c : Int) ≤ 57)) || (decide ((97 : Int) ≤ c) && decide ((c : Int) ≤ 122)) || (decide ((65 : Int) ≤ c) && decide ((c : Int) ≤ 90))) := by
  unfold isWord
  rw [int_eq]
  have h : ∀ n : Nat, decide (n ≤ c) = decide ((n : Int) ≤ c) := fun n => by rw [decide_eq_decide]; omega
  have h' : ∀ n : Nat, decide (c ≤ n) = decide ((c : Int) ≤ n) := fun n => by rw [decide_eq_decide]; omega
  simp only [h, h']
  rfl

set_option maxRecDepth 100000 in
set_option maxHeartbeats 4000000 in
theorem word_ (R : Nat) (s : ByteArray) (i : Nat) (w : World) (h : Rdr w R s i) (hs : s.size ≤ 1000000000) (hi : i ≤ s.size) :
    Calls Tryz.prog 37 #[.pointer (some ⟨R, 0, none⟩)] w fun e w' => e = .returned (.string (pWord s i).1) ∧ Rdr w' R s (pWord s i).2 ∧ Ch [R] w w' := by
  have hj := (skipTo_le hi).2
  have HP : Hid (pWord s i = (s.extract (skipTo s i) (wordEnd s (skipTo s i)), wordEnd s (skipTo s i))) := rfl
  have hbl := blank_ R s i w h hs hi
  generalize skipTo s i = j at *
  clear h hi
  go_enter Tryz.func37, Tryz.ntmps37
  have h0 : ∀ w1, Rdr w1 R s j → w1.cell? ⟨R, 1, none⟩ = some (.int .i64 j) := fun w1 h => h.cell 1
  go_wp2_with (go_at_call 73; refine hbl.mono ?_; rintro e w1 ⟨rfl, hR1, hc1⟩; clear hbl; have c1 := h0 _ hR1)
  go_loopw [10] (fun _ wr => ∃ k : Nat, j ≤ k ∧ k ≤ s.size ∧ Rdr wr R s k ∧ Ch [R] w wr ∧ Hid (runTo isWord s (s.size - k) k = wordEnd s j)) (fun _ wr => s.size - (match wr.cell? ⟨R, 1, none⟩ with | some v => (intOf v).toNat | none => 0))
  case atStart => exact ⟨j, Nat.le_refl _, hj, hR1, hc1, rfl⟩
  case round =>
    obtain ⟨k, hjk, hk, hR, hB, HX⟩ := hrel
    have c0 := Later.cell (hR.cell 0)
    have c1 := Later.cell (hR.cell 1)
    by_cases hlt : k < s.size
    · have hb := byteAt_eq hlt
      have HS : Hid (runTo isWord s (s.size - k) k = if isWord (byteAt s k) = true then runTo isWord s (s.size - (k + 1)) (k + 1) else k) := by
        unfold Hid
        rw [show s.size - k = (s.size - (k + 1)) + 1 from by omega]
        conv => lhs; unfold runTo
        by_cases hq : isWord (byteAt s k) = true <;> simp [hq, hlt]
      generalize byteAt s k = c at *
      have hcl := cls c
      rcases hcl with hcl | hcl | hcl | hcl | hcl | hcl | hcl | hcl
      all_goals
        have HCL := Lib.hid hcl
        go_wp2
        first
          | have a0 : ((c : Int) == 45) = true := by rw [beq_iff_eq]; omega
          | have a0 : ((c : Int) == 45) = false := by rw [beq_eq_false_iff_ne]; omega
        first
          | have a1 : decide ((48 : Int) ≤ c) = true := by rw [decide_eq_true_eq]; omega
          | have a1 : decide ((48 : Int) ≤ c) = false := by rw [decide_eq_false_iff_not]; omega
        first
          | have a2 : decide ((c : Int) ≤ 57) = true := by rw [decide_eq_true_eq]; omega
          | have a2 : decide ((c : Int) ≤ 57) = false := by rw [decide_eq_false_iff_not]; omega
        first
          | have a3 : decide ((97 : Int) ≤ c) = true := by rw [decide_eq_true_eq]; omega
          | have a3 : decide ((97 : Int) ≤ c) = false := by rw [decide_eq_false_iff_not]; omega
        first
          | have a4 : decide ((c : Int) ≤ 122) = true := by rw [decide_eq_true_eq]; omega
          | have a4 : decide ((c : Int) ≤ 122) = false := by rw [decide_eq_false_iff_not]; omega
        first
          | have a5 : decide ((65 : Int) ≤ c) = true := by rw [decide_eq_true_eq]; omega
          | have a5 : decide ((65 : Int) ≤ c) = false := by rw [decide_eq_false_iff_not]; omega
        first
          | have a6 : decide ((c : Int) ≤ 90) = true := by rw [decide_eq_true_eq]; omega
          | have a6 : decide ((c : Int) ≤ 90) = false := by rw [decide_eq_false_iff_not]; omega
        clear hcl
        have hq := isWord_eq c
        rw [a0, a1, a2, a3, a4, a5, a6] at hq
        have HQ := Lib.hid hq; clear hq
        dsimp only [List.append]
        refine wp_region_later (by kernel_rfl) (lexB_of (by kernel_rfl)) ?_
        repeat (go_big_quiet_step (fail))
        refine wpQuiet_nil ?_
        intro w2 hw2
        have hR2 := hR.ch hw2 (by simp)
        have hB2 := hB.trans hw2.of_nil
        have d0 := Later.cell (hR2.cell 0)
        have d1 := Later.cell (hR2.cell 1)
        have g0 := hR2.cell 0
        have g1 := hR2.cell 1
        have f1 := hR2.frozen 1
        have e1 := hR.cell 1
        clear a0 a1 a2 a3 a4 a5 a6
        go_wp2
        first
          | (have hR3 : Rdr (w2.setCell ⟨R, 1, none⟩ (.int .i64 ((k : Int) + 1))) R s (k + 1) := hR2.set_ 1 _
             have e2 := hR3.cell 1
             go_roundw
             case rel => exact ⟨k + 1, by omega, by omega, hR3, hB2.set (by simp) _, by unfold Hid; rw [← HX.out, HS.out, HQ.out]; rfl⟩
             case measure =>
               rw [e1, e2]
               show s.size - (((k + 1 : Nat) : Int)).toNat < s.size - ((k : Int)).toNat
               omega)
          | (refine wp_region_later (by kernel_rfl) (lexB_of (by kernel_rfl)) ?_
             repeat (go_big_quiet_step (fail))
             refine wpQuiet_nil ?_
             intro w3 hw3
             go_wp2
             go_ret
             have he : wordEnd s j = k := by rw [← HX.out, HS.out, HQ.out]; rfl
             have hp := HP.out
             rw [he] at hp
             exact ⟨by rw [hp]; rfl, by rw [hp]; exact hR2.ch hw3 (by simp), hB2.trans hw3.of_nil⟩)
    · have hks : k = s.size := by omega
      subst hks
      go_wp2
      dsimp only [List.append]
      refine wp_region_later (by kernel_rfl) (lexB_of (by kernel_rfl)) ?_
      repeat (go_big_quiet_step (fail))
      refine wpQuiet_nil ?_
      intro w2 hw2
      have hR2 := hR.ch hw2 (by simp)
      have hB2 := hB.trans hw2.of_nil
      have d0 := Later.cell (hR2.cell 0)
      have d1 := Later.cell (hR2.cell 1)
      go_wp2
      refine wp_region_later (by kernel_rfl) (lexB_of (by kernel_rfl)) ?_
      repeat (go_big_quiet_step (fail))
      refine wpQuiet_nil ?_
      intro w3 hw3
      go_wp2
      go_ret
      have he : wordEnd s j = s.size := by rw [← HX.out, Nat.sub_self]; rfl
      have hp := HP.out
      rw [he] at hp
      exact ⟨by rw [hp]; rfl, by rw [hp]; exact hR2.ch hw3 (by simp), hB2.trans hw3.of_nil⟩
end
end Go.Proofs.YtgljjapglgcpdaaGreatDoor
