
/-
  The contracts of treesearch.root and Score, of ref38.root, bits and Score.
-/
import Derived.Test.YtlficnfkekggjaaGreatDoorNtSq
import Derived.Test.YtlficnfkekggjaaGreatDoorLayN
import Derived.Test.YtlficnfkekggjaaGreatDoorFacts
import Derived.Test.YtlficnfkekggjaaGreatDoorLex
namespace Go.Proofs.YtlficnfkekggjaaGreatDoor
open Go.RowKit

theorem bitLen_N (n : Nat) : Lib.bitLen n = bitsN n := by
  have : ∀ f n, Lib.bitLenAux f n = bitsGo f n := by
    intro f
    induction f with
    | zero => intro n; rfl
    | succ f ih => intro n; unfold Lib.bitLenAux bitsGo; rw [ih]; split <;> omega
  exact this 64 n
theorem w64 {z : Int} (h1 : -9223372036854775808 ≤ z) (h2 : z ≤ 9223372036854775807) : wrap64 z = z := by
  unfold wrap64; omega
theorem tdivN (a b : Nat) : Int.tdiv (a : Int) (b : Int) = ((a / b : Nat) : Int) := by
  rw [Int.tdiv_eq_ediv_of_nonneg (by omega)]; rfl
set_option maxRecDepth 100000 in
set_option maxHeartbeats 2000000 in
theorem tsRoot_ (n : Nat) (hn : n < 17179869184) (w : World) :
    Calls Tryz.prog 21 #[.int .i64 (n : Int)] w fun e w' => e = .returned (.int .i64 (rt n)) ∧ w' = w := by
  by_cases h0 : n < 1
  · have j0 : decide ((n : Int) < 1) = true := decide_eq_true (by omega)
    have HR : Hid (rt n = 0) := by
      have : n = 0 := by omega
      subst this; unfold Hid; decide
    clear h0
    go_enter Tryz.func21, Tryz.ntmps21
    go_wp2
    go_ret
    exact ⟨by rw [HR.out]; rfl, rfl⟩
  · have j0 : decide ((n : Int) < 1) = false := decide_eq_false (by omega)
    have hr := rt_is hn
    generalize rt n = r at *
    have HR := Lib.hid hr
    have hrn : r ≤ n := by have := hr.1; rcases Nat.eq_zero_or_pos r with h | h; omega; exact Nat.le_trans (Nat.le_mul_of_pos_left r h) this
    clear hr
    go_enter Tryz.func21, Tryz.ntmps21
    go_wp2
    go_loopw [3, 4] (fun x y wr => ∃ X : Nat, 1 ≤ X ∧ r ≤ X ∧ X ≤ n ∧ x = .int .i64 (X : Int) ∧ y = .int .i64 (((X + n / X) / 2 : Nat) : Int) ∧ wr = w) (fun x _ _ => (intOf x).toNat)
    case atStart => 
      refine ⟨n, by omega, hrn, Nat.le_refl _, rfl, ?_, rfl⟩
      congr 1
      rw [Nat.div_self (by omega)]
      omega
    case round =>
      obtain ⟨X, h1, h2, h3, rfl, rfl, rfl⟩ := hrel
      have hge := newton_ge HR.out h1
      have hst := Lib.hid (fun h => newton_stop HR.out h1 h2 h)
      by_cases hlt : (X + n / X) / 2 < X
      · generalize hY : (X + n / X) / 2 = Y at *
        have j1 : decide (Y < X) = true := decide_eq_true hlt
        clear hY hst
        have hY1 : 1 ≤ Y := by
          have := HR.out.2
          rcases Nat.eq_zero_or_pos r with hz | hz
          · subst hz; simp at this; omega
          · omega
        have hnY : n / Y ≤ n := Nat.div_le_self _ _
        have HQ : Hid (wrap64 ((wrap64 ((Y : Int) + wrap64 ((n : Int) / (Y : Int)))).tdiv 2) = (((Y + n / Y) / 2 : Nat) : Int)) := by
          unfold Hid
          have e1 : (n : Int) / (Y : Int) = ((n / Y : Nat) : Int) := rfl
          rw [e1]
          generalize n / Y = z at *
          rw [w64 (z := (z : Int)) (by omega) (by omega), w64 (z := (Y : Int) + (z : Int)) (by omega) (by omega), Int.tdiv_eq_ediv_of_nonneg (by omega), w64 (by omega) (by omega)]
          omega
        go_wp2
        go_roundw
        case rel => exact ⟨Y, hY1, hge, by omega, rfl, by rw [HQ.out], trivial⟩
        case measure => simp [intOf]; omega
      · generalize (X + n / X) / 2 = Y at *
        have j1 : decide (Y < X) = false := decide_eq_false hlt
        have HX := Lib.hid (hst.out hlt)
        clear hst hlt
        go_wp2
        go_ret
        exact ⟨by rw [HX.out]; rfl, rfl⟩

def stp : Nat → Nat | 0 => 0 | f + 1 => 2 ^ f
theorem stp_half : ∀ f, 2 ^ f / 2 = stp f
  | 0 => rfl
  | f + 1 => by
    show 2 ^ (f + 1) / 2 = 2 ^ f
    rw [Nat.pow_succ]; omega
set_option maxRecDepth 100000 in
set_option maxHeartbeats 2000000 in
theorem refRoot_ (n : Nat) (w : World) :
    Calls Tryz.prog 29 #[.int .i64 (n : Int)] w fun e w' => e = .returned (.int .i64 (rt n)) ∧ w' = w := by
  have HR := Lib.hid (show rt n = rtGo n 17 0 from rfl)
  generalize rt n = r at *
  go_enter Tryz.func29, Tryz.ntmps29
  go_wp2
  go_loopw [3, 4] (fun k y wr => ∃ (f K : Nat), k = .int .i64 (K : Int) ∧ y = .int .i64 (stp f : Int) ∧ Hid (K + 2 ^ f ≤ 131072) ∧ Hid (r = rtGo n f K) ∧ wr = w) (fun _ y _ => (intOf y).toNat)
  case atStart => exact ⟨17, 0, rfl, rfl, by unfold Hid; decide, HR, rfl⟩
  case round =>
    clear HR
    obtain ⟨f, K, rfl, rfl, HK, HR, rfl⟩ := hrel
    cases f with
    | zero =>
      have HX : Hid (r = K) := HR
      go_wp2
      go_ret
      exact ⟨by rw [HX.out]; rfl, rfl⟩
    | succ f =>
      have HX : Hid (r = rtGo n f (if (K + 2 ^ f) * (K + 2 ^ f) ≤ n then K + 2 ^ f else K)) := HR
      have hs : stp (f + 1) = 2 ^ f := rfl
      have hk := HK.out
      rw [Nat.pow_succ] at hk
      have hp := Nat.two_pow_pos f
      have HH := Lib.hid (stp_half f)
      rw [hs]
      clear HR HK hs
      generalize hq0 : 2 ^ f = q at *
      have j0 : decide (0 < q) = true := decide_eq_true hp
      have hb : (K + q) * (K + q) ≤ 131072 * 131072 := Nat.mul_le_mul (by omega) (by omega)
      have i1 : -9223372036854775808 ≤ (K : Int) + (q : Int) := by omega
      have i2 : (K : Int) + (q : Int) ≤ 9223372036854775807 := by omega
      have hm : ((K : Int) + (q : Int)) * ((K : Int) + (q : Int)) = (((K + q) * (K + q) : Nat) : Int) := by rw [Int.natCast_mul, Int.natCast_add]
      have e2 : wrap64 (((K : Int) + (q : Int)) * ((K : Int) + (q : Int))) = ((K : Int) + (q : Int)) * ((K : Int) + (q : Int)) := w64 (by omega) (by omega)
      have HQ : Hid ((q : Int) / 2 = (stp f : Int)) := by unfold Hid; rw [← HH.out]; omega
      have HE : Hid (2 ^ f = q) := hq0
      by_cases hc : (K + q) * (K + q) ≤ n
      · have j2 : decide (((K : Int) + (q : Int)) * ((K : Int) + (q : Int)) ≤ (n : Int)) = true := decide_eq_true (by rw [hm]; omega)
        have HX2 : Hid (r = rtGo n f (K + q)) := by unfold Hid; rw [HX.out, if_pos hc]
        clear hc hm HX
        go_wp2
        go_roundw
        case rel => exact ⟨f, K + q, rfl, by rw [HQ.out], by have := HE.out; unfold Hid; omega, HX2, trivial⟩
        case measure => simp [intOf]; omega
      · have j2 : decide (((K : Int) + (q : Int)) * ((K : Int) + (q : Int)) ≤ (n : Int)) = false := decide_eq_false (by rw [hm]; omega)
        have HX2 : Hid (r = rtGo n f K) := by unfold Hid; rw [HX.out, if_neg hc]
        clear hc hm HX
        go_wp2
        go_roundw
        case rel => exact ⟨f, K, rfl, by rw [HQ.out], by have := HE.out; unfold Hid; omega, HX2, trivial⟩
        case measure => simp [intOf]; omega

theorem bitsGo_succ (f n : Nat) : bitsGo (f + 1) n = if n = 0 then 0 else bitsGo f (n / 2) + 1 := rfl
theorem bitsGo_pos {f m : Nat} (h : m < 2 ^ f) (hm : 0 < m) : ∃ g, f = g + 1 ∧ m / 2 < 2 ^ g ∧ bitsGo f m = bitsGo g (m / 2) + 1 := by
  cases f with
  | zero => simp at h; omega
  | succ g => exact ⟨g, rfl, by rw [Nat.pow_succ] at h; omega, by rw [bitsGo_succ, if_neg (by omega)]⟩
set_option maxRecDepth 100000 in
set_option maxHeartbeats 2000000 in
theorem refBits_ (n : Nat) (hn : n < 9223372036854775808) (w : World) :
    Calls Tryz.prog 30 #[.int .i64 (n : Int)] w fun e w' => e = .returned (.int .i64 (bitsN n)) ∧ w' = w := by
  have HR := Lib.hid (show bitsN n = bitsGo 64 n from rfl)
  have HN : Hid (n < 2 ^ 64) := Nat.lt_trans hn (by decide)
  generalize bitsN n = r at *
  go_enter Tryz.func30, Tryz.ntmps30
  go_wp2
  go_loopw [0, 3] (fun x b wr => ∃ (f m c : Nat), x = .int .i64 (m : Int) ∧ b = .int .i64 (c : Int) ∧ Hid (m < 2 ^ f) ∧ Hid (r = c + bitsGo f m) ∧ c + f = 64 ∧ m ≤ n ∧ wr = w) (fun x _ _ => (intOf x).toNat)
  case atStart => exact ⟨64, n, 0, rfl, rfl, HN, by rw [HR.out]; exact (Nat.zero_add _).symm, rfl, Nat.le_refl _, rfl⟩
  case round =>
    clear HR HN
    obtain ⟨f, m, c, rfl, rfl, HM, HR, hcf, hmn, rfl⟩ := hrel
    by_cases h0 : 0 < m
    · obtain ⟨g, rfl, hg, hb⟩ := bitsGo_pos HM.out h0
      have HX : Hid (r = (c + 1) + bitsGo g (m / 2)) := by unfold Hid; rw [HR.out, hb]; omega
      have HG := Lib.hid hg
      have HH : Hid ((m : Int) / 2 = ((m / 2 : Nat) : Int)) := by unfold Hid; omega
      have j0 : decide (0 < m) = true := decide_eq_true h0
      clear hb hg HR HM
      go_wp2
      go_roundw
      case rel => exact ⟨g, m / 2, c + 1, by rw [HH.out], by go_num, HG, HX, by omega, by omega, trivial⟩
      case measure => simp [intOf]; omega
    · have j0 : decide (0 < m) = false := decide_eq_false h0
      have HX : Hid (r = c) := by
        have : m = 0 := by omega
        subst this
        unfold Hid
        rw [HR.out]
        cases f <;> simp [bitsGo]
      clear HR HM h0
      go_wp2
      go_ret
      exact ⟨by rw [HX.out]; rfl, rfl⟩
set_option maxRecDepth 100000 in
set_option maxHeartbeats 2000000 in
/-- the score of numbers from 0 to 2^30 -/
theorem tsScore_ (t v p : Nat) (ht : t ≤ 1073807360) (hv : v ≤ 1073741824) (hp : p ≤ 1073807360) (w : World) :
    Calls Tryz.prog 9 #[.int .i64 (t : Int), .int .i64 (v : Int), .int .i64 (p : Int)] w fun e w' => e = .returned (.int .i64 (if v < 1 then 0 else (scoreN t v p : Int))) ∧ Ch [] w w' := by
  by_cases h0 : v < 1
  · have j0 : decide ((v : Int) < 1) = true := decide_eq_true (by omega)
    rw [if_pos h0]
    clear h0
    go_enter Tryz.func9, Tryz.ntmps9
    go_wp2
    go_ret
    exact ⟨rfl, Ch.refl _ _⟩
  · have j0 : decide ((v : Int) < 1) = false := decide_eq_false (by omega)
    rw [if_neg h0]
    have hL := ln_bits_Len (p : Int)
    have hb : Lib.bitLen (Int.toNat (p : Int)) = bitsN p := by rw [bitLen_N]; rfl
    rw [hb] at hL
    have hb64 : bitsN p ≤ 64 := bitsGo_le 64 p
    have hra := score_arg p v
    have HS := Lib.hid (show (scoreN t v p : Int) = ((10 * t / v + rt (2000000 * bitsN p / v) : Nat) : Int) from rfl)
    generalize bitsN p = b at *
    have hroot := tsRoot_ (2000000 * b / v) hra
    have hd1 : 2000000 * b / v ≤ 2000000 * b := Nat.div_le_self _ _
    have hd2 : 10 * t / v ≤ 10 * t := Nat.div_le_self _ _
    have hrr := rt_is hra
    have c1 : Int.tdiv (10 * (t : Int)) (v : Int) = ((10 * t / v : Nat) : Int) := by have := tdivN (10 * t) v; exact_mod_cast this
    have c2 : (2000000 * (b : Int)) / (v : Int) = ((2000000 * b / v : Nat) : Int) := by
      rw [show (2000000 * (b : Int)) = ((2000000 * b : Nat) : Int) by omega]; rfl
    generalize 2000000 * b / v = x at *
    generalize 10 * t / v = y at *
    generalize hz : rt x = z at *
    have hzx : z ≤ x := by have := hrr.1; rcases Nat.eq_zero_or_pos z with h | h; omega; exact Nat.le_trans (Nat.le_mul_of_pos_left z h) this
    have z1 : ((v : Int) == 0) = false := by simp only [beq_eq_false_iff_ne, ne_eq]; omega
    have k1 := fun q : Later w => later_call (x := q) ((hL q.w (by omega) (by omega)).mono fun e w' ⟨h1, h2⟩ => ⟨h1, h2 ▸ Ch.refl _ _⟩)
    have k2 := fun q : Later w => later_call (x := q) ((hroot q.w).mono fun e w' ⟨h1, h2⟩ => ⟨h1, h2 ▸ Ch.refl _ _⟩)
    clear hL hroot hz hrr hb
    go_enter Tryz.func9, Tryz.ntmps9
    go_wp2
    refine wp_region_later (by kernel_rfl) (lexB_of (by kernel_rfl)) ?_
    repeat (go_big_quiet_step (first
      | (go_at_call 22; exact k1 _)
      | (go_at_call 21; exact k2 _)))
    refine wpQuiet_nil ?_
    intro w1 hw1
    go_wp2
    go_ret
    exact ⟨by rw [HS.out]; rfl, hw1⟩

set_option maxRecDepth 100000 in
set_option maxHeartbeats 2000000 in
theorem refScore_ (t v p : Nat) (ht : t ≤ 1073807360) (hv : v ≤ 1073741824) (hp : p ≤ 1073807360) (w : World) :
    Calls Tryz.prog 11 #[.int .i64 (t : Int), .int .i64 (v : Int), .int .i64 (p : Int)] w fun e w' => e = .returned (.int .i64 (if v < 1 then 0 else (scoreN t v p : Int))) ∧ Ch [] w w' := by
  by_cases h0 : v < 1
  · have j0 : decide ((v : Int) < 1) = true := decide_eq_true (by omega)
    rw [if_pos h0]
    clear h0
    go_enter Tryz.func11, Tryz.ntmps11
    go_wp2
    go_ret
    exact ⟨rfl, Ch.refl _ _⟩
  · have j0 : decide ((v : Int) < 1) = false := decide_eq_false (by omega)
    rw [if_neg h0]
    have hL := refBits_ p (by omega)
    have hb64 : bitsN p ≤ 64 := bitsGo_le 64 p
    have hra := score_arg p v
    have HS := Lib.hid (show (scoreN t v p : Int) = ((10 * t / v + rt (2000000 * bitsN p / v) : Nat) : Int) from rfl)
    generalize bitsN p = b at *
    have hroot := refRoot_ (2000000 * b / v)
    have hd1 : 2000000 * b / v ≤ 2000000 * b := Nat.div_le_self _ _
    have hd2 : 10 * t / v ≤ 10 * t := Nat.div_le_self _ _
    have hrr := rt_is hra
    have c1 : Int.tdiv (10 * (t : Int)) (v : Int) = ((10 * t / v : Nat) : Int) := by have := tdivN (10 * t) v; exact_mod_cast this
    have c2 : (2000000 * (b : Int)) / (v : Int) = ((2000000 * b / v : Nat) : Int) := by
      rw [show (2000000 * (b : Int)) = ((2000000 * b : Nat) : Int) by omega]; rfl
    generalize 2000000 * b / v = x at *
    generalize 10 * t / v = y at *
    generalize hz : rt x = z at *
    have hzx : z ≤ x := by have := hrr.1; rcases Nat.eq_zero_or_pos z with h | h; omega; exact Nat.le_trans (Nat.le_mul_of_pos_left z h) this
    have z1 : ((v : Int) == 0) = false := by simp only [beq_eq_false_iff_ne, ne_eq]; omega
    have k1 := fun q : Later w => later_call (x := q) ((hL q.w).mono fun e w' ⟨h1, h2⟩ => ⟨h1, h2 ▸ Ch.refl _ _⟩)
    have k2 := fun q : Later w => later_call (x := q) ((hroot q.w).mono fun e w' ⟨h1, h2⟩ => ⟨h1, h2 ▸ Ch.refl _ _⟩)
    clear hL hroot hz hrr
    go_enter Tryz.func11, Tryz.ntmps11
    go_wp2
    refine wp_region_later (by kernel_rfl) (lexB_of (by kernel_rfl)) ?_
    repeat (go_big_quiet_step (first
      | (go_at_call 30; exact k1 _)
      | (go_at_call 29; exact k2 _)))
    refine wpQuiet_nil ?_
    intro w1 hw1
    go_wp2
    go_ret
    exact ⟨by rw [HS.out]; rfl, hw1⟩
end Go.Proofs.YtlficnfkekggjaaGreatDoor
