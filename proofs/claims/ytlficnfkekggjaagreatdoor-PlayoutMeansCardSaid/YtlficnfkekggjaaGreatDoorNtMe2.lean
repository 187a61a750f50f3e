
/-
  The reference's fraction.Make, of a positive denominator; a slice of ints.
-/
import Derived.Test.YtlficnfkekggjaaGreatDoorNtMean
import Derived.Deep.QuietTactic
import Derived.BigQuiet
namespace Go.Proofs.YtlficnfkekggjaaGreatDoor
open Go.RowKit Go.Ev Go.Shelf
set_option maxRecDepth 100000 in
set_option maxHeartbeats 2000000 in
theorem refmake_ (n : Int) (hn : inI64 n) (D : Nat) (hD : 1 ≤ D ∧ D ≤ 9223372036854775807) (w : World) : Calls Tryz.prog 20 #[.int .i64 n, .int .i64 (D : Int)] w fun e w' => e = .returned (frV (mkFr n D)) ∧ Ch [] w w' := by
  have k1 := fun w => size_ n hn w
  have k2 := fun w => size_ (D : Int) ⟨by omega, by omega⟩ w
  have hDn : (D : Int).natAbs = D := rfl
  rw [hDn] at k2
  obtain ⟨n1, n2⟩ := hn
  have ha : n.natAbs ≤ 9223372036854775808 := by omega
  generalize hfr : mkFr n D = F0
  unfold mkFr at hfr
  have HR := Lib.hid hfr.symm
  clear hfr
  generalize hA : n.natAbs = A at *
  have k3 := fun w => gcd_ A D (by omega) (by omega) w
  have hg : 0 < Nat.gcd A D := Nat.gcd_pos_of_pos_right A (by omega)
  have hgA : A / Nat.gcd A D ≤ A := Nat.div_le_self _ _
  have hgD : D / Nat.gcd A D ≤ D := Nat.div_le_self _ _
  have q1 : (A : Int) / (Nat.gcd A D : Int) = ((A / Nat.gcd A D : Nat) : Int) := rfl
  have q2 : (D : Int) / (Nat.gcd A D : Int) = ((D / Nat.gcd A D : Nat) : Int) := rfl
  have q3 : (A : Int).tdiv (Nat.gcd A D : Int) = ((A / Nat.gcd A D : Nat) : Int) := rfl
  have q4 : (D : Int).tdiv (Nat.gcd A D : Int) = ((D / Nat.gcd A D : Nat) : Int) := rfl
  generalize A / Nat.gcd A D = x at *
  generalize D / Nat.gcd A D = y at *
  generalize Nat.gcd A D = g at *
  have k1q : ∀ (w : World) m, Calls Tryz.prog 51 #[.int .i64 n] (w.drewN m) fun e w'' => e = .returned (.int .u64 (A : Int)) ∧ ∃ m, w'' = w.drewN m := fun w m => Calls.quiet_of_same (k1 _)
  have k2q : ∀ (w : World) m, Calls Tryz.prog 51 #[.int .i64 (D : Int)] (w.drewN m) fun e w'' => e = .returned (.int .u64 (D : Int)) ∧ ∃ m, w'' = w.drewN m := fun w m => Calls.quiet_of_same (k2 _)
  have z0 : ((D : Int) == 0) = false := by simp only [beq_eq_false_iff_ne, ne_eq]; omega
  have z1 : ((g : Int) == 0) = false := by simp only [beq_eq_false_iff_ne, ne_eq]; omega
  have z2 : ¬ ((g : Int) = 0) := by omega
  have z3 : IntKind.u64.wrap (x : Int) = (x : Int) := IntWalk.u64_in _ (by omega)
  have z4 : IntKind.u64.wrap (y : Int) = (y : Int) := IntWalk.u64_in _ (by omega)
  have d2 : decide ((D : Int) < 0) = false := decide_eq_false (by omega)
  have hB := Blk.new w 25 #[.int .i64 0, .int .i64 0]
  have hC0 : Ch [] w (w.alloc (.cells #[.int .i64 0, .int .i64 0] 25)) := (Ch.refl [] w).alloc _
  have fin : ∀ (X Y er : Int) (wz : World) (z0 z1 : Value) (a : Act), frV F0 = frV (X, Y, er) → Blk wz w.heap.size 25 #[z0, z1] → Ch [] w wz → a.tmps.getD 4 undef = .pointer (some ⟨w.heap.size, 0, none⟩) → a.tmps.getD 5 undef = .int .i64 er → a.defers = [] →
      bodyPost Tryz.prog Tryz.f20 (fun e w' => e = .returned (frV F0) ∧ Ch [] w w') .ret a ((wz.setCell ⟨w.heap.size, 0, none⟩ (.int .i64 X)).setCell ⟨w.heap.size, 1, none⟩ (.int .i64 Y)) := fun X Y er wz z0 z1 a hR hb hc h4 h5 h6 => by
    have hb2 := (hb.set_ 0 (.int .i64 X)).set_ 1 (.int .i64 Y)
    have hc2 : Ch [w.heap.size] wz _ := ((Ch.refl _ _).set (by simp) (.int .i64 X) (p := ⟨w.heap.size, 0, none⟩)).set (by simp) (.int .i64 Y) (p := ⟨w.heap.size, 1, none⟩)
    exact ret_cell2 (by kernel_rfl) h4 h5 hb2 Tryz.underlying25 rfl (by kernel_rfl) h6 ⟨by rw [hR]; rfl, hc.step hc2 (by simp)⟩
  have hF := Lib.hid fin; clear fin
  by_cases c1 : 1073741824 < x
  · have e1 : decide ((1073741824 : Int) < (x : Int)) = true := decide_eq_true (by omega)
    have HX := Lib.hid (show frV F0 = frV (0, 0, 12) from by have := HR.out; rw [if_pos (Or.inl c1)] at this; exact congrArg frV this)
    clear HR
    go_enter Tryz.func20, Tryz.ntmps20
    go_wp2_with (first
      | (go_at_call 51; with_reducible refine (k1 _).mono ?_; rintro e w1 ⟨rfl, rfl⟩)
      | (go_at_call 51; with_reducible refine (k2 _).mono ?_; rintro e w1 ⟨rfl, rfl⟩)
      | (go_at_call 50; refine (k3 _).mono ?_; rintro e w3 ⟨rfl, hc3⟩; have hb3 := hB.ch hc3 (by simp); have y0 := hb3.cell 0; have y1 := hb3.cell 1; have f0 := hb3.frozen 0; have f1 := hb3.frozen 1))
    go_quiet ((go_at_call 51; with_reducible first | exact k1q _ _ | exact k2q _ _))
    go_wp2
    exact hF.out _ _ _ _ _ _ _ HX.out (hb3.drewN _) ((hC0.trans hc3).drewN _) (by rfl) (by rfl) (by rfl)
  · have e1 : decide ((1073741824 : Int) < (x : Int)) = false := decide_eq_false (by omega)
    by_cases c2 : 1073741824 < y
    · have e2 : decide ((1073741824 : Int) < (y : Int)) = true := decide_eq_true (by omega)
      have HX := Lib.hid (show frV F0 = frV (0, 0, 12) from by have := HR.out; rw [if_pos (Or.inr c2)] at this; exact congrArg frV this)
      clear HR
      go_enter Tryz.func20, Tryz.ntmps20
      go_wp2_with (first
        | (go_at_call 51; with_reducible refine (k1 _).mono ?_; rintro e w1 ⟨rfl, rfl⟩)
        | (go_at_call 51; with_reducible refine (k2 _).mono ?_; rintro e w1 ⟨rfl, rfl⟩)
        | (go_at_call 50; refine (k3 _).mono ?_; rintro e w3 ⟨rfl, hc3⟩; have hb3 := hB.ch hc3 (by simp); have y0 := hb3.cell 0; have y1 := hb3.cell 1; have f0 := hb3.frozen 0; have f1 := hb3.frozen 1))
      go_quiet ((go_at_call 51; with_reducible first | exact k1q _ _ | exact k2q _ _))
      go_wp2
      exact hF.out _ _ _ _ _ _ _ HX.out (hb3.drewN _) ((hC0.trans hc3).drewN _) (by rfl) (by rfl) (by rfl)
    · have e2 : decide ((1073741824 : Int) < (y : Int)) = false := decide_eq_false (by omega)
      by_cases c3 : n < 0
      · have e3 : decide (n < 0) = true := decide_eq_true c3
        have HX := Lib.hid (show frV F0 = frV (-(x : Int), (y : Int), 0) from by have := HR.out; rw [if_neg (by omega), if_pos c3] at this; exact congrArg frV this)
        clear HR
        go_enter Tryz.func20, Tryz.ntmps20
        go_wp2_with (first
          | (go_at_call 51; with_reducible refine (k1 _).mono ?_; rintro e w1 ⟨rfl, rfl⟩)
          | (go_at_call 51; with_reducible refine (k2 _).mono ?_; rintro e w1 ⟨rfl, rfl⟩)
          | (go_at_call 50; refine (k3 _).mono ?_; rintro e w3 ⟨rfl, hc3⟩; have hb3 := hB.ch hc3 (by simp); have y0 := hb3.cell 0; have y1 := hb3.cell 1; have f0 := hb3.frozen 0; have f1 := hb3.frozen 1))
        go_quiet ((go_at_call 51; with_reducible first | exact k1q _ _ | exact k2q _ _))
        go_wp2
        exact hF.out _ _ _ _ _ _ _ HX.out (hb3.drewN _) ((hC0.trans hc3).drewN _) (by rfl) (by rfl) (by rfl)
      · have e3 : decide (n < 0) = false := decide_eq_false c3
        have HX := Lib.hid (show frV F0 = frV ((x : Int), (y : Int), 0) from by have := HR.out; rw [if_neg (by omega), if_neg c3] at this; exact congrArg frV this)
        clear HR
        go_enter Tryz.func20, Tryz.ntmps20
        go_wp2_with (first
          | (go_at_call 51; with_reducible refine (k1 _).mono ?_; rintro e w1 ⟨rfl, rfl⟩)
          | (go_at_call 51; with_reducible refine (k2 _).mono ?_; rintro e w1 ⟨rfl, rfl⟩)
          | (go_at_call 50; refine (k3 _).mono ?_; rintro e w3 ⟨rfl, hc3⟩; have hb3 := hB.ch hc3 (by simp); have y0 := hb3.cell 0; have y1 := hb3.cell 1; have f0 := hb3.frozen 0; have f1 := hb3.frozen 1))
        go_quiet ((go_at_call 51; with_reducible first | exact k1q _ _ | exact k2q _ _))
        go_wp2
        exact hF.out _ _ _ _ _ _ _ HX.out (hb3.drewN _) ((hC0.trans hc3).drewN _) (by rfl) (by rfl) (by rfl)
end Go.Proofs.YtlficnfkekggjaaGreatDoor
