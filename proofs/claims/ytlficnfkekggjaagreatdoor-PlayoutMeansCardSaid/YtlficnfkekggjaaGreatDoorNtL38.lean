
/-
  The laws TreesearchScores and TreesearchGrows, their examples told.
-/
import Derived.Test.YtlficnfkekggjaaGreatDoorNtTs1
import Derived.Test.YtlficnfkekggjaaGreatDoorEvHe
namespace Go.Proofs.YtlficnfkekggjaaGreatDoor
open Go.RowKit
/-- what the examples say -/
def Awakes (g : Nat) : Prop := ∀ W, KwBlk W → Calls Tryz.prog g #[] W fun e w' => e = .returned (.bool true) ∧ Ch [] W w'
set_option maxRecDepth 100000 in
set_option maxHeartbeats 2000000 in
/-- of any numbers there is a score -/
theorem tsAny_ (t p : Int) (v : Int) (_ht : -9223372036854775808 ≤ t ∧ t ≤ 9223372036854775807) (hv : -9223372036854775808 ≤ v ∧ v ≤ 9223372036854775807) (_hp : -9223372036854775808 ≤ p ∧ p ≤ 9223372036854775807) (w : World) :
    Calls Tryz.prog 9 #[.int .i64 t, .int .i64 v, .int .i64 p] w fun e w' => (∃ r, e = .returned r) ∧ Ch [] w w' := by
  by_cases h0 : v < 1
  · have j0 : decide (v < 1) = true := decide_eq_true h0
    clear h0
    go_enter Tryz.func9, Tryz.ntmps9
    go_wp2
    go_ret
    exact ⟨⟨_, rfl⟩, Ch.refl _ _⟩
  · obtain ⟨V, rfl⟩ : ∃ V : Nat, v = (V : Int) := ⟨v.toNat, by omega⟩
    have j0 : decide ((V : Int) < 1) = false := decide_eq_false (by omega)
    obtain ⟨q, hq⟩ : ∃ q : Nat, IntKind.u64.wrap p = (q : Int) := ⟨(IntKind.u64.wrap p).toNat, by rw [IntKind.wrap_u64]; omega⟩
    have hqm : q ≤ 18446744073709551615 := by have h := hq; rw [IntKind.wrap_u64] at h; omega
    have hL := ln_bits_Len (q : Int)
    have hb : Lib.bitLen (Int.toNat (q : Int)) = bitsN q := by rw [bitLen_N]; rfl
    rw [hb] at hL
    have hb64 : bitsN q ≤ 64 := bitsGo_le 64 q
    have hra := score_arg q V
    generalize bitsN q = b at *
    have hroot := tsRoot_ (2000000 * b / V) hra
    have hd1 : 2000000 * b / V ≤ 2000000 * b := Nat.div_le_self _ _
    have hrr := rt_is hra
    have c2 : (2000000 * (b : Int)) / (V : Int) = ((2000000 * b / V : Nat) : Int) := by
      rw [show (2000000 * (b : Int)) = ((2000000 * b : Nat) : Int) by omega]; rfl
    generalize 2000000 * b / V = x at *
    generalize hz : rt x = z at *
    have z1 : ((V : Int) == 0) = false := by simp only [beq_eq_false_iff_ne, ne_eq]; omega
    have k1 := fun q : Later w => later_call (x := q) ((hL q.w (by omega) (by omega)).mono fun e w' ⟨h1, h2⟩ => ⟨h1, h2 ▸ Ch.refl _ _⟩)
    have k2 := fun q : Later w => later_call (x := q) ((hroot q.w).mono fun e w' ⟨h1, h2⟩ => ⟨h1, h2 ▸ Ch.refl _ _⟩)
    clear hL hroot hz hrr hb
    go_enter Tryz.func9, Tryz.ntmps9
    go_wp2
    refine wp_region_later (by kernel_rfl) (lexB_of (by kernel_rfl)) ?_
    repeat (go_big_quiet_step (first
      | (go_at_call 22; exact k1 _)
      | (go_at_call 21; exact k2 _)))
    refine wpQuiet_nil ?_
    intro w1 hw1
    go_wp2
    go_ret
    exact ⟨⟨_, rfl⟩, hw1⟩
def inI64 (n : Int) : Prop := -9223372036854775808 ≤ n ∧ n ≤ 9223372036854775807
set_option maxRecDepth 100000 in
set_option maxHeartbeats 2000000 in
theorem lawScores_ (t v p : Int) (ht : inI64 t) (hv : inI64 v) (hp : inI64 p) (w : World) (hK : KwBlk w) (hA : Awakes 10) :
    Calls Tryz.prog 4 #[.int .i64 t, .int .i64 v, .int .i64 p] w fun e w' => e = .returned (.bool true) ∧ Ch [] w w' := by
  by_cases hin : (0 ≤ t ∧ t ≤ 1073741824) ∧ (0 ≤ v ∧ v ≤ 1073741824) ∧ (0 ≤ p ∧ p ≤ 1073741824)
  · obtain ⟨⟨h1, h2⟩, ⟨h3, h4⟩, h5, h6⟩ := hin
    obtain ⟨T, rfl⟩ : ∃ T : Nat, t = (T : Int) := ⟨t.toNat, by omega⟩
    obtain ⟨V, rfl⟩ : ∃ V : Nat, v = (V : Int) := ⟨v.toNat, by omega⟩
    obtain ⟨Q, rfl⟩ : ∃ Q : Nat, p = (Q : Int) := ⟨p.toNat, by omega⟩
    have k1 := fun w => tsScore_ T V Q (by omega) (by omega) (by omega) w
    have k2 := fun w => refScore_ T V Q (by omega) (by omega) (by omega) w
    generalize (if V < 1 then (0 : Int) else (scoreN T V Q : Int)) = r at *
    have d1 : decide ((T : Int) < 0) = false := decide_eq_false (by omega)
    have d2 : decide ((1073741824 : Int) < (T : Int)) = false := decide_eq_false (by omega)
    have d3 : decide ((V : Int) < 0) = false := decide_eq_false (by omega)
    have d4 : decide ((1073741824 : Int) < (V : Int)) = false := decide_eq_false (by omega)
    have d5 : decide ((Q : Int) < 0) = false := decide_eq_false (by omega)
    have d6 : decide ((1073741824 : Int) < (Q : Int)) = false := decide_eq_false (by omega)
    clear h1 h2 h3 h4 h5 h6
    go_enter Tryz.func4, Tryz.ntmps4
    go_wp2_with (first
      | (go_at_call 9; refine (k1 _).mono ?_; rintro e w1 ⟨rfl, hc1⟩)
      | (go_at_call 11; refine (k2 _).mono ?_; rintro e w2 ⟨rfl, hc2⟩)
      | (go_at_call 10; refine (hA _ (hK.ch (hc1.trans hc2))).mono ?_; rintro e w3 ⟨rfl, hc3⟩))
    go_ret
    exact ⟨rfl, (hc1.trans hc2).trans hc3⟩
  · have k1 := fun w => tsAny_ t p v ht hv hp w
    have hor : t < 0 ∨ (¬ t < 0 ∧ (1073741824 < t ∨ (¬ 1073741824 < t ∧ (v < 0 ∨ (¬ v < 0 ∧ (1073741824 < v ∨ (¬ 1073741824 < v ∧ (p < 0 ∨ (¬ p < 0 ∧ 1073741824 < p))))))))) := by omega
    rcases hor with e1 | ⟨e1, e2 | ⟨e2, e3 | ⟨e3, e4 | ⟨e4, e5 | ⟨e5, e6⟩⟩⟩⟩⟩
    · have d1 : decide (t < 0) = true := decide_eq_true e1
      clear e1 hin ht hv hp
      go_enter Tryz.func4, Tryz.ntmps4
      go_wp2_with (first
        | (go_at_call 9; refine (k1 _).mono ?_; rintro e w1 ⟨⟨r, rfl⟩, hc1⟩)
        | (go_at_call 10; refine (hA _ (hK.ch hc1)).mono ?_; rintro e w3 ⟨rfl, hc3⟩))
      go_ret
      exact ⟨rfl, hc1.trans hc3⟩
    · have d1 : decide (t < 0) = false := decide_eq_false e1
      have d2 : decide (1073741824 < t) = true := decide_eq_true e2
      clear e1 e2 hin ht hv hp
      go_enter Tryz.func4, Tryz.ntmps4
      go_wp2_with (first
        | (go_at_call 9; refine (k1 _).mono ?_; rintro e w1 ⟨⟨r, rfl⟩, hc1⟩)
        | (go_at_call 10; refine (hA _ (hK.ch hc1)).mono ?_; rintro e w3 ⟨rfl, hc3⟩))
      go_ret
      exact ⟨rfl, hc1.trans hc3⟩
    · have d1 : decide (t < 0) = false := decide_eq_false e1
      have d2 : decide (1073741824 < t) = false := decide_eq_false e2
      have d3 : decide (v < 0) = true := decide_eq_true e3
      clear e1 e2 e3 hin ht hv hp
      go_enter Tryz.func4, Tryz.ntmps4
      go_wp2_with (first
        | (go_at_call 9; refine (k1 _).mono ?_; rintro e w1 ⟨⟨r, rfl⟩, hc1⟩)
        | (go_at_call 10; refine (hA _ (hK.ch hc1)).mono ?_; rintro e w3 ⟨rfl, hc3⟩))
      go_ret
      exact ⟨rfl, hc1.trans hc3⟩
    · have d1 : decide (t < 0) = false := decide_eq_false e1
      have d2 : decide (1073741824 < t) = false := decide_eq_false e2
      have d3 : decide (v < 0) = false := decide_eq_false e3
      have d4 : decide (1073741824 < v) = true := decide_eq_true e4
      clear e1 e2 e3 e4 hin ht hv hp
      go_enter Tryz.func4, Tryz.ntmps4
      go_wp2_with (first
        | (go_at_call 9; refine (k1 _).mono ?_; rintro e w1 ⟨⟨r, rfl⟩, hc1⟩)
        | (go_at_call 10; refine (hA _ (hK.ch hc1)).mono ?_; rintro e w3 ⟨rfl, hc3⟩))
      go_ret
      exact ⟨rfl, hc1.trans hc3⟩
    · have d1 : decide (t < 0) = false := decide_eq_false e1
      have d2 : decide (1073741824 < t) = false := decide_eq_false e2
      have d3 : decide (v < 0) = false := decide_eq_false e3
      have d4 : decide (1073741824 < v) = false := decide_eq_false e4
      have d5 : decide (p < 0) = true := decide_eq_true e5
      clear e1 e2 e3 e4 e5 hin ht hv hp
      go_enter Tryz.func4, Tryz.ntmps4
      go_wp2_with (first
        | (go_at_call 9; refine (k1 _).mono ?_; rintro e w1 ⟨⟨r, rfl⟩, hc1⟩)
        | (go_at_call 10; refine (hA _ (hK.ch hc1)).mono ?_; rintro e w3 ⟨rfl, hc3⟩))
      go_ret
      exact ⟨rfl, hc1.trans hc3⟩
    · have d1 : decide (t < 0) = false := decide_eq_false e1
      have d2 : decide (1073741824 < t) = false := decide_eq_false e2
      have d3 : decide (v < 0) = false := decide_eq_false e3
      have d4 : decide (1073741824 < v) = false := decide_eq_false e4
      have d5 : decide (p < 0) = false := decide_eq_false e5
      have d6 : decide (1073741824 < p) = true := decide_eq_true e6
      clear e1 e2 e3 e4 e5 e6 hin ht hv hp
      go_enter Tryz.func4, Tryz.ntmps4
      go_wp2_with (first
        | (go_at_call 9; refine (k1 _).mono ?_; rintro e w1 ⟨⟨r, rfl⟩, hc1⟩)
        | (go_at_call 10; refine (hA _ (hK.ch hc1)).mono ?_; rintro e w3 ⟨rfl, hc3⟩))
      go_ret
      exact ⟨rfl, hc1.trans hc3⟩
set_option maxRecDepth 100000 in
set_option maxHeartbeats 2000000 in
theorem lawGrows_ (t v p : Int) (m : Int) (ht : 0 ≤ t ∧ t ≤ 4294967295) (hv : 0 ≤ v ∧ v ≤ 4294967295) (hp : 0 ≤ p ∧ p ≤ 4294967295) (hm : 0 ≤ m ∧ m ≤ 65535) (w : World) (hK : KwBlk w) (hA : Awakes 10) :
    Calls Tryz.prog 5 #[.int .u32 t, .int .u32 v, .int .u32 p, .int .u16 m] w fun e w' => e = .returned (.bool true) ∧ Ch [] w w' := by
  obtain ⟨T, rfl⟩ : ∃ T : Nat, t = (T : Int) := ⟨t.toNat, by omega⟩
  obtain ⟨V, rfl⟩ : ∃ V : Nat, v = (V : Int) := ⟨v.toNat, by omega⟩
  obtain ⟨Q, rfl⟩ : ∃ Q : Nat, p = (Q : Int) := ⟨p.toNat, by omega⟩
  obtain ⟨M, rfl⟩ : ∃ M : Nat, m = (M : Int) := ⟨m.toNat, by omega⟩
  obtain ⟨a, ha⟩ : ∃ a : Nat, (T : Int) % 536870912 = (a : Int) := ⟨T % 536870912, rfl⟩
  obtain ⟨b, hb⟩ : ∃ b : Nat, (V : Int) % 1073741824 = (b : Int) := ⟨V % 1073741824, rfl⟩
  obtain ⟨c, hc⟩ : ∃ c : Nat, (Q : Int) % 536870912 = (c : Int) := ⟨Q % 536870912, rfl⟩
  have ha1 : a < 536870912 := by omega
  have hb1 : b < 1073741824 := by omega
  have hc1 : c < 536870912 := by omega
  have k1 := fun w => tsScore_ a b c (by omega) (by omega) (by omega) w
  have k2 := fun w => tsScore_ (a + M) b c (by omega) (by omega) (by omega) w
  have k3 := fun w => tsScore_ a b (c + M) (by omega) (by omega) (by omega) w
  have q1 : (0 : Int) ≤ (if b < 1 then 0 else (scoreN a b c : Int)) := by split <;> omega
  have q2 : (if b < 1 then (0 : Int) else (scoreN a b c : Int)) ≤ (if b < 1 then 0 else (scoreN (a + M) b c : Int)) := by
    have := score_total (t := a) (d := M) (v := b) (p := c)
    split <;> omega
  have q3 : (if b < 1 then (0 : Int) else (scoreN a b c : Int)) ≤ (if b < 1 then 0 else (scoreN a b (c + M) : Int)) := by
    have := score_parent (t := a) (d := M) (v := b) (p := c)
    split <;> omega
  rw [show ((a + M : Nat) : Int) = (a : Int) + (M : Int) by omega] at k2
  rw [show ((c + M : Nat) : Int) = (c : Int) + (M : Int) by omega] at k3
  generalize (if b < 1 then (0 : Int) else (scoreN a b c : Int)) = r1 at *
  generalize (if b < 1 then (0 : Int) else (scoreN (a + M) b c : Int)) = r2 at *
  generalize (if b < 1 then (0 : Int) else (scoreN a b (c + M) : Int)) = r3 at *
  have d1 : decide (0 ≤ r1) = true := decide_eq_true q1
  have d2 : decide (r1 ≤ r2) = true := decide_eq_true q2
  have d3 : decide (r1 ≤ r3) = true := decide_eq_true q3
  clear q1 q2 q3
  go_enter Tryz.func5, Tryz.ntmps5
  go_wp2_with (first
    | (go_at_call 9; with_reducible refine (k1 _).mono ?_; rintro e w1 ⟨rfl, hq1⟩; clear k1)
    | (go_at_call 9; with_reducible refine (k2 _).mono ?_; rintro e w2 ⟨rfl, hq2⟩; clear k2)
    | (go_at_call 9; with_reducible refine (k3 _).mono ?_; rintro e w3 ⟨rfl, hq3⟩; clear k3)
    | (go_at_call 10; refine (hA _ (hK.ch ((hq1.trans hq2).trans hq3))).mono ?_; rintro e w4 ⟨rfl, hq4⟩))
  go_ret
  exact ⟨rfl, ((hq1.trans hq2).trans hq3).trans hq4⟩
end Go.Proofs.YtlficnfkekggjaaGreatDoor
