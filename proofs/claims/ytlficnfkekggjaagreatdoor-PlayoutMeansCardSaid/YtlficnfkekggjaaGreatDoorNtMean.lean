
/-
  The law PlayoutMeans: fractions in lowest terms.
-/
import Derived.Test.YtlficnfkekggjaaGreatDoorEvHe
import Derived.Test.YtlficnfkekggjaaGreatDoorNtL38
import Derived.Laws.ResultCell
namespace Go.Proofs.YtlficnfkekggjaaGreatDoor
open Go.RowKit
set_option maxRecDepth 100000 in
theorem magnitude_ (n : Int) (h : inI64 n) (w : World) : Calls Tryz.prog 48 #[.int .i64 n] w fun e w' => e = .returned (.int .u64 (n.natAbs : Int)) ∧ w' = w := by
  obtain ⟨h1, h2⟩ := h
  by_cases h0 : n < 0
  · have j0 : decide (n < 0) = true := decide_eq_true h0
    go_enter Tryz.func48, Tryz.ntmps48
    go_wp2
    go_ret
    refine ⟨?_, rfl⟩
    show Ending.returned (.int .u64 (-(n + 1) + 1)) = _
    rw [show -(n + 1) + 1 = (n.natAbs : Int) by omega]
  · have j0 : decide (n < 0) = false := decide_eq_false h0
    go_enter Tryz.func48, Tryz.ntmps48
    go_wp2
    go_ret
    refine ⟨?_, rfl⟩
    show Ending.returned (.int .u64 n) = _
    rw [show (n.natAbs : Int) = n by omega]
set_option maxRecDepth 100000 in
theorem size_ (n : Int) (h : inI64 n) (w : World) : Calls Tryz.prog 51 #[.int .i64 n] w fun e w' => e = .returned (.int .u64 (n.natAbs : Int)) ∧ w' = w := by
  obtain ⟨h1, h2⟩ := h
  by_cases h0 : n < 0
  · have j0 : decide (n < 0) = true := decide_eq_true h0
    go_enter Tryz.func51, Tryz.ntmps51
    go_wp2
    go_ret
    refine ⟨?_, rfl⟩
    show Ending.returned (.int .u64 (-(n + 1) + 1)) = _
    rw [show -(n + 1) + 1 = (n.natAbs : Int) by omega]
  · have j0 : decide (n < 0) = false := decide_eq_false h0
    go_enter Tryz.func51, Tryz.ntmps51
    go_wp2
    go_ret
    refine ⟨?_, rfl⟩
    show Ending.returned (.int .u64 n) = _
    rw [show (n.natAbs : Int) = n by omega]
set_option maxRecDepth 100000 in
set_option maxHeartbeats 1000000 in
theorem divisor_ (a b : Nat) (ha : a ≤ 18446744073709551615) (hb : b ≤ 18446744073709551615) (w : World) : Calls Tryz.prog 49 #[.int .u64 (a : Int), .int .u64 (b : Int)] w fun e w' => e = .returned (.int .u64 (Nat.gcd a b : Int)) ∧ Ch [] w w' := by
  generalize hg : Nat.gcd a b = g at *
  have HG := Lib.hid hg; clear hg
  go_enter Tryz.func49, Tryz.ntmps49
  go_wp2
  go_loopw [0, 1] (fun x y wr => ∃ X Y : Nat, x = .int .u64 (X : Int) ∧ y = .int .u64 (Y : Int) ∧ X ≤ 18446744073709551615 ∧ Y ≤ 18446744073709551615 ∧ Hid (Nat.gcd X Y = g) ∧ Ch [] w wr) (fun _ y _ => (intOf y).toNat)
  case atStart => exact ⟨a, b, rfl, rfl, ha, hb, HG, Ch.refl _ _⟩
  case round =>
    clear HG
    obtain ⟨X, Y, rfl, rfl, h1, h2, HG, hc⟩ := hrel
    by_cases h0 : Y = 0
    · subst h0
      have HX : Hid (X = g) := by have := HG.out; rw [Nat.gcd_zero_right] at this; exact this
      clear HG
      go_wp2
      go_ret
      exact ⟨by rw [HX.out]; rfl, hc⟩
    · have j0 : ((Y : Int) != 0) = true := by simp only [bne_iff_ne, ne_eq]; omega
      have z0 : ((Y : Int) == 0) = false := by simp only [beq_eq_false_iff_ne, ne_eq]; omega
      have hm : (X : Int) % (Y : Int) = ((X % Y : Nat) : Int) := rfl
      have hlt : X % Y < Y := Nat.mod_lt _ (by omega)
      have HX : Hid (Nat.gcd Y (X % Y) = g) := by unfold Hid; rw [← HG.out, Nat.gcd_comm X Y, Nat.gcd_rec Y X, Nat.gcd_comm]
      generalize X % Y = Z at *
      clear HG
      go_wp2
      go_region
      go_wp2
      go_roundw
      case rel => exact ⟨Y, Z, rfl, congrArg (Value.int .u64) hm, h2, by omega, HX, hc.drew⟩
      case measure => simp [intOf]; omega
set_option maxRecDepth 100000 in
set_option maxHeartbeats 1000000 in
theorem gcd_ (a b : Nat) (ha : a ≤ 18446744073709551615) (hb : b ≤ 18446744073709551615) (w : World) : Calls Tryz.prog 50 #[.int .u64 (a : Int), .int .u64 (b : Int)] w fun e w' => e = .returned (.int .u64 (Nat.gcd a b : Int)) ∧ Ch [] w w' := by
  generalize hg : Nat.gcd a b = g at *
  have HG := Lib.hid hg; clear hg
  go_enter Tryz.func50, Tryz.ntmps50
  go_wp2
  go_loopw [0, 1] (fun x y wr => ∃ X Y : Nat, x = .int .u64 (X : Int) ∧ y = .int .u64 (Y : Int) ∧ X ≤ 18446744073709551615 ∧ Y ≤ 18446744073709551615 ∧ Hid (Nat.gcd X Y = g) ∧ Ch [] w wr) (fun _ y _ => (intOf y).toNat)
  case atStart => exact ⟨a, b, rfl, rfl, ha, hb, HG, Ch.refl _ _⟩
  case round =>
    clear HG
    obtain ⟨X, Y, rfl, rfl, h1, h2, HG, hc⟩ := hrel
    by_cases h0 : Y = 0
    · subst h0
      have HX : Hid (X = g) := by have := HG.out; rw [Nat.gcd_zero_right] at this; exact this
      clear HG
      go_wp2
      go_ret
      exact ⟨by rw [HX.out]; rfl, hc⟩
    · have j0 : decide (0 < (Y : Int)) = true := decide_eq_true (by omega)
      have z0 : ((Y : Int) == 0) = false := by simp only [beq_eq_false_iff_ne, ne_eq]; omega
      have hm : (X : Int) % (Y : Int) = ((X % Y : Nat) : Int) := rfl
      have hlt : X % Y < Y := Nat.mod_lt _ (by omega)
      have HX : Hid (Nat.gcd Y (X % Y) = g) := by unfold Hid; rw [← HG.out, Nat.gcd_comm X Y, Nat.gcd_rec Y X, Nat.gcd_comm]
      generalize X % Y = Z at *
      clear HG
      go_wp2
      go_region
      go_wp2
      go_roundw
      case rel => exact ⟨Y, Z, rfl, congrArg (Value.int .u64) hm, h2, by omega, HX, hc.drew⟩
      case measure => simp [intOf]; omega
set_option maxRecDepth 100000 in
theorem ret_cell2 {R : Ending → World → Prop} {fn : Func} {p u : Tmp} {ty t : TypeId} {d : TypeDesc} {g : Nat} {cs : Array Value} {v : Value} {a : Act} {w : World} (hr : fn.results = #[.cell p ty, .tmp u]) (hp : a.tmps.getD p undef = .pointer (some ⟨g, 0, none⟩)) (hv : a.tmps.getD u undef = v) (hb : Blk w g t cs)
    (ht : Tryz.prog.underlying ty = some d) (hd : (match d with | .struct _ => true | _ => false) = true) (hs : (Tryz.prog.info? ty).map (·.size) = some cs.size) (h5 : a.defers = []) (h : R (.returned (.tuple #[.agg cs, v])) w) : bodyPost Tryz.prog fn R .ret a w := by
  refine bodyPost_ret ?_ h5 h
  rw [results_cell_tmp hr, hp, hv]
  have := run_loadVar_row (P := Tryz.prog) _ g t ty _ _ _ hb ht (by cases d <;> first | rfl | cases hd) hs
  simp [asAddr, this]
/-- a fraction in lowest terms, of a denominator that is positive -/
def mkFr (n : Int) (d : Nat) : Int × Int × Int :=
  if 1073741824 < n.natAbs / Nat.gcd n.natAbs d ∨ 1073741824 < d / Nat.gcd n.natAbs d then (0, 0, 12)
  else (if n < 0 then -((n.natAbs / Nat.gcd n.natAbs d : Nat) : Int) else ((n.natAbs / Nat.gcd n.natAbs d : Nat) : Int), ((d / Nat.gcd n.natAbs d : Nat) : Int), 0)
def frV (r : Int × Int × Int) : Value := .tuple #[.agg #[.int .i64 r.1, .int .i64 r.2.1], .int .i64 r.2.2]
set_option maxRecDepth 100000 in
set_option maxHeartbeats 2000000 in
theorem make_ (n : Int) (hn : inI64 n) (D : Nat) (hD : 1 ≤ D ∧ D ≤ 9223372036854775807) (w : World) : Calls Tryz.prog 19 #[.int .i64 n, .int .i64 (D : Int)] w fun e w' => e = .returned (frV (mkFr n D)) ∧ Ch [] w w' := by
  have k1 := fun w => magnitude_ n hn w
  have k2 := fun w => magnitude_ (D : Int) ⟨by omega, by omega⟩ w
  have hDn : (D : Int).natAbs = D := rfl
  rw [hDn] at k2
  obtain ⟨n1, n2⟩ := hn
  have ha : n.natAbs ≤ 9223372036854775808 := by omega
  have hs : n < 0 ↔ n < 0 := Iff.rfl
  generalize hfr : mkFr n D = F0
  unfold mkFr at hfr
  have HR := Lib.hid hfr.symm
  clear hfr
  generalize hA : n.natAbs = A at *
  have k3 := fun w => divisor_ A D (by omega) (by omega) w
  have hg : 0 < Nat.gcd A D := Nat.gcd_pos_of_pos_right A (by omega)
  have hgA : A / Nat.gcd A D ≤ A := Nat.div_le_self _ _
  have hgD : D / Nat.gcd A D ≤ D := Nat.div_le_self _ _
  have q1 : (A : Int) / (Nat.gcd A D : Int) = ((A / Nat.gcd A D : Nat) : Int) := rfl
  have q2 : (D : Int) / (Nat.gcd A D : Int) = ((D / Nat.gcd A D : Nat) : Int) := rfl
  generalize A / Nat.gcd A D = x at *
  generalize D / Nat.gcd A D = y at *
  generalize Nat.gcd A D = g at *
  have z0 : ((D : Int) == 0) = false := by simp only [beq_eq_false_iff_ne, ne_eq]; omega
  have z1 : ((g : Int) == 0) = false := by simp only [beq_eq_false_iff_ne, ne_eq]; omega
  have d2 : decide ((D : Int) < 0) = false := decide_eq_false (by omega)
  have hB := Blk.new w 25 #[.int .i64 0, .int .i64 0]
  have hC0 : Ch [] w (w.alloc (.cells #[.int .i64 0, .int .i64 0] 25)) := (Ch.refl [] w).alloc _
  have fin : ∀ (X Y er : Int) (wz : World) (z0 z1 : Value) (a : Act), frV (F0) = frV (X, Y, er) → Blk wz w.heap.size 25 #[z0, z1] → Ch [] w wz → a.tmps.getD 4 undef = .pointer (some ⟨w.heap.size, 0, none⟩) → a.tmps.getD 5 undef = .int .i64 er → a.defers = [] →
      bodyPost Tryz.prog Tryz.f19 (fun e w' => e = .returned (frV (F0)) ∧ Ch [] w w') .ret a ((wz.setCell ⟨w.heap.size, 0, none⟩ (.int .i64 X)).setCell ⟨w.heap.size, 1, none⟩ (.int .i64 Y)) := fun X Y er wz z0 z1 a hR hb hc h4 h5 h6 => by
    have hb2 := (hb.set_ 0 (.int .i64 X)).set_ 1 (.int .i64 Y)
    have hc2 : Ch [w.heap.size] wz _ := ((Ch.refl _ _).set (by simp) (.int .i64 X) (p := ⟨w.heap.size, 0, none⟩)).set (by simp) (.int .i64 Y) (p := ⟨w.heap.size, 1, none⟩)
    exact ret_cell2 (by kernel_rfl) h4 h5 hb2 Tryz.underlying25 rfl (by kernel_rfl) h6 ⟨by rw [hR]; rfl, hc.step hc2 (by simp)⟩
  have hF := Lib.hid fin; clear fin
  by_cases c1 : 1073741824 < x
  · have e1 : decide ((1073741824 : Int) < (x : Int)) = true := decide_eq_true (by omega)
    have HX := Lib.hid (show frV (F0) = frV (0, 0, 12) from by have := HR.out; rw [if_pos (Or.inl c1)] at this; exact congrArg frV this)
    clear HR
    go_enter Tryz.func19, Tryz.ntmps19
    go_wp2_with (first
      | (go_at_call 48; with_reducible refine (k1 _).mono ?_; rintro e w1 ⟨rfl, rfl⟩; clear k1)
      | (go_at_call 48; with_reducible refine (k2 _).mono ?_; rintro e w1 ⟨rfl, rfl⟩; clear k2)
      | (go_at_call 49; refine (k3 _).mono ?_; rintro e w3 ⟨rfl, hc3⟩; have hb3 := hB.ch hc3 (by simp); have y0 := hb3.cell 0; have y1 := hb3.cell 1; have f0 := hb3.frozen 0; have f1 := hb3.frozen 1))
    go_region
    go_wp2
    exact hF.out _ _ _ _ _ _ _ HX.out hb3.drew (hC0.trans hc3).drew (by rfl) (by rfl) (by rfl)
  · have e1 : decide ((1073741824 : Int) < (x : Int)) = false := decide_eq_false (by omega)
    by_cases c2 : 1073741824 < y
    · have e2 : decide ((1073741824 : Int) < (y : Int)) = true := decide_eq_true (by omega)
      have HX := Lib.hid (show frV (F0) = frV (0, 0, 12) from by have := HR.out; rw [if_pos (Or.inr c2)] at this; exact congrArg frV this)
      clear HR
      go_enter Tryz.func19, Tryz.ntmps19
      go_wp2_with (first
        | (go_at_call 48; with_reducible refine (k1 _).mono ?_; rintro e w1 ⟨rfl, rfl⟩; clear k1)
        | (go_at_call 48; with_reducible refine (k2 _).mono ?_; rintro e w1 ⟨rfl, rfl⟩; clear k2)
        | (go_at_call 49; refine (k3 _).mono ?_; rintro e w3 ⟨rfl, hc3⟩; have hb3 := hB.ch hc3 (by simp); have y0 := hb3.cell 0; have y1 := hb3.cell 1; have f0 := hb3.frozen 0; have f1 := hb3.frozen 1))
      go_region
      go_wp2
      exact hF.out _ _ _ _ _ _ _ HX.out hb3.drew (hC0.trans hc3).drew (by rfl) (by rfl) (by rfl)
    · have e2 : decide ((1073741824 : Int) < (y : Int)) = false := decide_eq_false (by omega)
      by_cases c3 : n < 0
      · have e3 : decide (n < 0) = true := decide_eq_true c3
        have HX := Lib.hid (show frV (F0) = frV (-(x : Int), (y : Int), 0) from by have := HR.out; rw [if_neg (by omega), if_pos c3] at this; exact congrArg frV this)
        clear HR
        go_enter Tryz.func19, Tryz.ntmps19
        go_wp2_with (first
          | (go_at_call 48; with_reducible refine (k1 _).mono ?_; rintro e w1 ⟨rfl, rfl⟩; clear k1)
          | (go_at_call 48; with_reducible refine (k2 _).mono ?_; rintro e w1 ⟨rfl, rfl⟩; clear k2)
          | (go_at_call 49; refine (k3 _).mono ?_; rintro e w3 ⟨rfl, hc3⟩; have hb3 := hB.ch hc3 (by simp); have y0 := hb3.cell 0; have y1 := hb3.cell 1; have f0 := hb3.frozen 0; have f1 := hb3.frozen 1))
        go_region
        have y0' : ∀ o, (w3.alloc o).cell? ⟨w.heap.size, 0, none⟩ = #[Value.int .i64 0, .int .i64 0][0]? := fun o => (hb3.alloc o).cell 0
        have y1' : ∀ o, (w3.alloc o).cell? ⟨w.heap.size, 1, none⟩ = #[Value.int .i64 0, .int .i64 0][1]? := fun o => (hb3.alloc o).cell 1
        have f0' : ∀ o, (w3.alloc o).frozen? ⟨w.heap.size, 0, none⟩ = false := fun o => (hb3.alloc o).frozen 0
        have f1' : ∀ o, (w3.alloc o).frozen? ⟨w.heap.size, 1, none⟩ = false := fun o => (hb3.alloc o).frozen 1
        go_wp2
        exact hF.out _ _ _ _ _ _ _ HX.out (hb3.drew.alloc _) ((hC0.trans hc3).drew.alloc _) (by rfl) (by rfl) (by rfl)
      · have e3 : decide (n < 0) = false := decide_eq_false c3
        have HX := Lib.hid (show frV (F0) = frV ((x : Int), (y : Int), 0) from by have := HR.out; rw [if_neg (by omega), if_neg c3] at this; exact congrArg frV this)
        clear HR
        go_enter Tryz.func19, Tryz.ntmps19
        go_wp2_with (first
          | (go_at_call 48; with_reducible refine (k1 _).mono ?_; rintro e w1 ⟨rfl, rfl⟩; clear k1)
          | (go_at_call 48; with_reducible refine (k2 _).mono ?_; rintro e w1 ⟨rfl, rfl⟩; clear k2)
          | (go_at_call 49; refine (k3 _).mono ?_; rintro e w3 ⟨rfl, hc3⟩; have hb3 := hB.ch hc3 (by simp); have y0 := hb3.cell 0; have y1 := hb3.cell 1; have f0 := hb3.frozen 0; have f1 := hb3.frozen 1))
        go_region
        have y0' : ∀ o, (w3.alloc o).cell? ⟨w.heap.size, 0, none⟩ = #[Value.int .i64 0, .int .i64 0][0]? := fun o => (hb3.alloc o).cell 0
        have y1' : ∀ o, (w3.alloc o).cell? ⟨w.heap.size, 1, none⟩ = #[Value.int .i64 0, .int .i64 0][1]? := fun o => (hb3.alloc o).cell 1
        have f0' : ∀ o, (w3.alloc o).frozen? ⟨w.heap.size, 0, none⟩ = false := fun o => (hb3.alloc o).frozen 0
        have f1' : ∀ o, (w3.alloc o).frozen? ⟨w.heap.size, 1, none⟩ = false := fun o => (hb3.alloc o).frozen 1
        go_wp2
        exact hF.out _ _ _ _ _ _ _ HX.out (hb3.drew.alloc _) ((hC0.trans hc3).drew.alloc _) (by rfl) (by rfl) (by rfl)
end Go.Proofs.YtlficnfkekggjaaGreatDoor
