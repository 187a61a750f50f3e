/-
  The contracts of the reader of trusted descriptions.
-/
import Derived.Test.YtbjdikeaolibpaaRefEdges
import Derived.Test.YtbjdikeaolibpaaParse
import Derived.BigQuiet
namespace Go.Proofs.Ytbjdikeaolibpaa
open Go.RowKit

theorem int_eq (c n : Nat) : (c == n) = ((c : Int) == (n : Int)) := by rw [Bool.eq_iff_iff]; simp; omega
theorem isBlank_eq (c : Nat) : isBlank c = (((c : Int) == 32) || ((c : Int) == 10)) := by unfold isBlank; rw [int_eq, int_eq]; rfl
def Rdr (w : World) (R : Nat) (s : ByteArray) (i : Nat) : Prop := Blk w R 118 #[.string s, .int .i64 i]

set_option maxHeartbeats 1000000 in
theorem blank_ (R : Nat) (s : ByteArray) (i : Nat) (w : World) (h : Rdr w R s i) (hs : s.size ≤ 1000000000) (hi : i ≤ s.size) :
    Calls Try.prog 97 #[.pointer (some ⟨R, 0, none⟩)] w fun e w' => e = .returned (.tuple #[]) ∧ Rdr w' R s (skipTo s i) ∧ Ch [R] w w' := by
  go_enter Try.func97, Try.ntmps97
  go_wp2
  go_loopw [2] (fun _ wr => ∃ k : Nat, k ≤ s.size ∧ Rdr wr R s k ∧ Ch [R] w wr ∧ Hid (runTo isBlank s (s.size - k) k = skipTo s i)) (fun _ wr => s.size - (match wr.cell? ⟨R, 1, none⟩ with | some v => (intOf v).toNat | none => 0))
  case atStart => exact ⟨i, hi, h, Ch.refl _ _, rfl⟩
  case round =>
    obtain ⟨k, hk, hR, hB, HX⟩ := hrel
    have c0 := Later.cell (hR.cell 0)
    have c1 := Later.cell (hR.cell 1)
    by_cases hlt : k < s.size
    · have hb := byteAt_eq hlt
      have HS : Hid (runTo isBlank s (s.size - k) k = if isBlank (byteAt s k) = true then runTo isBlank s (s.size - (k + 1)) (k + 1) else k) := by
        unfold Hid
        rw [show s.size - k = (s.size - (k + 1)) + 1 from by omega]
        conv => lhs; unfold runTo
        by_cases hq : isBlank (byteAt s k) = true <;> simp [hq, hlt]
      generalize byteAt s k = c at *
      cases h1 : ((c : Int) == 32) <;> cases h2 : ((c : Int) == 10)
      all_goals
        have hq := isBlank_eq c
        rw [h1, h2] at hq
        have HQ := Lib.hid hq; clear hq
        go_wp2
        refine wp_region_later (by kernel_rfl) (by kernel_rfl) ?_
        repeat (go_big_quiet_step (fail))
        refine wpQuiet_nil ?_
        intro w1 hw1
        have hR1 := hR.ch hw1 (by simp)
        have hB1 := hB.trans hw1.of_nil
        have d0 := hR1.cell 0
        have d1 := hR1.cell 1
        have f1 := hR1.frozen 1
        have e1 := hR.cell 1
        go_wp2
        first
          | (go_end0
             refine ⟨rfl, ?_, hB1⟩
             have := HS.out
             rw [HQ.out, if_neg (by simp)] at this
             rw [← HX.out, this]
             exact hR1)
          | (have hR2 : Rdr (w1.setCell ⟨R, 1, none⟩ (.int .i64 ((k : Int) + 1))) R s (k + 1) := hR1.set_ 1 _
             have e2 := hR2.cell 1
             go_roundw
             case rel => exact ⟨k + 1, by omega, hR2, hB1.set (by simp) _, by unfold Hid; rw [← HX.out, HS.out, HQ.out]; rfl⟩
             case measure =>
               rw [e1, e2]
               show s.size - (((k + 1 : Nat) : Int)).toNat < s.size - ((k : Int)).toNat
               omega)
    · have hks : k = s.size := by omega
      subst hks
      go_wp2
      refine wp_region_later (by kernel_rfl) (by kernel_rfl) ?_
      repeat (go_big_quiet_step (fail))
      refine wpQuiet_nil ?_
      intro w1 hw1
      go_wp2
      go_end0
      have := HX.out
      rw [Nat.sub_self] at this
      exact ⟨rfl, by rw [← this]; exact hR.ch hw1 (by simp), hB.trans hw1.of_nil⟩

set_option maxHeartbeats 1000000 in
theorem sign_ (R : Nat) (s : ByteArray) (i ch : Nat) (w : World) (h : Rdr w R s i) (hs : s.size ≤ 1000000000) (hi : i ≤ s.size) :
    Calls Try.prog 99 #[.pointer (some ⟨R, 0, none⟩), .int .u8 ch] w fun e w' => e = .returned (.bool (pSign s i ch).1) ∧ Rdr w' R s (pSign s i ch).2 ∧ Ch [R] w w' := by
  have hj := (skipTo_le hi).2
  have HP : Hid (pSign s i ch = if skipTo s i < s.size ∧ byteAt s (skipTo s i) = ch then (true, skipTo s i + 1) else (false, skipTo s i)) := rfl
  have hbl := blank_ R s i w h hs hi
  generalize skipTo s i = j at *
  clear h hi
  go_enter Try.func99, Try.ntmps99
  go_wp2_with (go_at_call 97; refine hbl.mono ?_; rintro e w1 ⟨rfl, hR1, hc1⟩; clear hbl)
  have c0 := Later.cell (hR1.cell 0)
  have c1 := Later.cell (hR1.cell 1)
  by_cases hlt : j < s.size
  · have hb := byteAt_eq hlt
    generalize byteAt s j = c at *
    cases h1 : ((c : Int) == (ch : Int))
    all_goals
      refine wp_region_later (by kernel_rfl) (by kernel_rfl) ?_
      repeat (go_big_quiet_step (fail))
      refine wpQuiet_nil ?_
      intro w2 hw2
      have hR2 := hR1.ch hw2 (by simp)
      have hB2 := hc1.trans hw2.of_nil
      have d0 := hR2.cell 0
      have d1 := hR2.cell 1
      have f1 := hR2.frozen 1
      rw [← int_eq] at h1
      have H1 := Lib.hid h1; clear h1
      go_wp2
      go_ret
    · have hne : ¬ c = ch := by have := H1.out; simpa using this
      have hp := HP.out
      rw [if_neg (fun h => hne h.2)] at hp
      exact ⟨by rw [hp]; rfl, by rw [hp]; exact hR2, hB2⟩
    · have heq : c = ch := by have := H1.out; simpa using this
      have hp := HP.out
      rw [if_pos ⟨hlt, heq⟩] at hp
      have hR3 : Rdr (w2.setCell ⟨R, 1, none⟩ (.int .i64 ((j : Int) + 1))) R s (j + 1) := hR2.set_ 1 _
      exact ⟨by rw [hp]; rfl, by rw [hp]; exact hR3, hB2.set (by simp) _⟩
  · refine wp_region_later (by kernel_rfl) (by kernel_rfl) ?_
    repeat (go_big_quiet_step (fail))
    refine wpQuiet_nil ?_
    intro w2 hw2
    go_wp2
    go_ret
    have hp := HP.out
    rw [if_neg (fun h => hlt h.1)] at hp
    exact ⟨by rw [hp]; rfl, by rw [hp]; exact hR1.ch hw2 (by simp), hc1.trans hw2.of_nil⟩
end Go.Proofs.Ytbjdikeaolibpaa
