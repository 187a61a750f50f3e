
/-
  playout.Mean and the reference's.
-/
import Derived.Test.YtlficnfkekggjaaGreatDoorNtMe2
namespace Go.Proofs.YtlficnfkekggjaaGreatDoor
open Go.RowKit Go.Ev Go.Shelf
/-- the mean: of these sums, of a role, over so many courses -/
def meanN (xs : List Int) (r n : Int) : Int × Int × Int :=
  if r < 0 ∨ (xs.length : Int) ≤ r then (0, 0, 8) else if n < 1 then (0, 0, 12) else mkFr (xs.getD r.toNat 0) n.toNat
set_option maxRecDepth 100000 in
set_option maxHeartbeats 2000000 in
theorem pmean_ (xs : List Int) (hx : ∀ x ∈ xs, inI64 x) (v : Value) (r n : Int) (hr : inI64 r) (hn : inI64 n) (w : World) (hs : SlI (fun _ => True) w v xs) : Calls Tryz.prog 7 #[v, .int .i64 r, .int .i64 n] w fun e w' => e = .returned (frV (meanN xs r n)) ∧ Ch [] w w' := by
  obtain ⟨a, c, rfl, hlc, hcm⟩ := hs.form
  have hml : (maxLen : Int) ≤ 9223372036854775807 := by decide
  have hlm : (xs.length : Int) ≤ 9223372036854775807 := by omega
  clear hml
  generalize hfr : meanN xs r n = F0
  unfold meanN at hfr
  have HR := Lib.hid hfr.symm
  clear hfr
  obtain ⟨r1, r2⟩ := hr
  obtain ⟨n1, n2⟩ := hn
  have hB := Blk.new w 25 #[.int .i64 0, .int .i64 0]
  have hC0 : Ch [] w (w.alloc (.cells #[.int .i64 0, .int .i64 0] 25)) := (Ch.refl [] w).alloc _
  have hs2 := hs.ch0 hC0
  have fin : ∀ (X Y er : Int) (wz : World) (z0 z1 : Value) (a : Act), frV F0 = frV (X, Y, er) → Blk wz w.heap.size 25 #[z0, z1] → Ch [] w wz → a.tmps.getD 6 undef = .pointer (some ⟨w.heap.size, 0, none⟩) → a.tmps.getD 7 undef = .int .i64 er → a.defers = [] →
      bodyPost Tryz.prog Tryz.f7 (fun e w' => e = .returned (frV F0) ∧ Ch [] w w') .ret a ((wz.setCell ⟨w.heap.size, 0, none⟩ (.int .i64 X)).setCell ⟨w.heap.size, 1, none⟩ (.int .i64 Y)) := fun X Y er wz z0 z1 a hR hb hc h4 h5 h6 => by
    have hb2 := (hb.set_ 0 (.int .i64 X)).set_ 1 (.int .i64 Y)
    have hc2 : Ch [w.heap.size] wz _ := ((Ch.refl _ _).set (by simp) (.int .i64 X) (p := ⟨w.heap.size, 0, none⟩)).set (by simp) (.int .i64 Y) (p := ⟨w.heap.size, 1, none⟩)
    exact ret_cell2 (by kernel_rfl) h4 h5 hb2 Tryz.underlying25 rfl (by kernel_rfl) h6 ⟨by rw [hR]; rfl, hc.step hc2 (by simp)⟩
  have hF := Lib.hid fin; clear fin
  by_cases c1 : r < 0
  · have d1 : decide (r < 0) = true := decide_eq_true c1
    have HX := Lib.hid (show frV F0 = frV (0, 0, 8) from by have := HR.out; rw [if_pos (Or.inl c1)] at this; exact congrArg frV this)
    clear HR hs hs2
    go_enter Tryz.func7, Tryz.ntmps7
    go_wp2
    exact ret_cell2 (p := 6) (u := 7) (by kernel_rfl) (by rfl) (by rfl) hB Tryz.underlying25 rfl (by kernel_rfl) rfl ⟨by rw [HX.out]; rfl, hC0⟩
  have d1 : decide (r < 0) = false := decide_eq_false c1
  by_cases c2 : (xs.length : Int) ≤ r
  · have d2 : decide ((xs.length : Int) ≤ r) = true := decide_eq_true c2
    have HX := Lib.hid (show frV F0 = frV (0, 0, 8) from by have := HR.out; rw [if_pos (Or.inr c2)] at this; exact congrArg frV this)
    clear HR hs hs2
    go_enter Tryz.func7, Tryz.ntmps7
    go_wp2
    exact ret_cell2 (p := 6) (u := 7) (by kernel_rfl) (by rfl) (by rfl) hB Tryz.underlying25 rfl (by kernel_rfl) rfl ⟨by rw [HX.out]; rfl, hC0⟩
  have d2 : decide ((xs.length : Int) ≤ r) = false := decide_eq_false c2
  by_cases c3 : n < 1
  · have d3 : decide (n < 1) = true := decide_eq_true c3
    have HX := Lib.hid (show frV F0 = frV (0, 0, 12) from by have := HR.out; rw [if_neg (by omega), if_pos c3] at this; exact congrArg frV this)
    clear HR hs hs2
    go_enter Tryz.func7, Tryz.ntmps7
    go_wp2
    exact ret_cell2 (p := 6) (u := 7) (by kernel_rfl) (by rfl) (by rfl) hB Tryz.underlying25 rfl (by kernel_rfl) rfl ⟨by rw [HX.out]; rfl, hC0⟩
  have d3 : decide (n < 1) = false := decide_eq_false c3
  obtain ⟨i, rfl⟩ : ∃ i : Nat, r = (i : Int) := ⟨r.toNat, by omega⟩
  obtain ⟨D, rfl⟩ : ∃ D : Nat, n = (D : Int) := ⟨n.toNat, by omega⟩
  have hi : i < xs.length := by omega
  obtain ⟨b, o, rfl, hbb, hcell⟩ := hs2.at_ hi
  have HX := Lib.hid (show F0 = mkFr xs[i] D from by have := HR.out; rw [if_neg (by omega), if_neg (by omega)] at this; simpa [List.getD, hi] using this)
  clear HR hs hs2
  have k1 := fun w => make_ xs[i] (hx _ (List.getElem_mem hi)) D ⟨by omega, by omega⟩ w
  generalize mkFr xs[i] D = F1 at *
  generalize xs[i] = z at *
  obtain rfl : F0 = F1 := HX.out
  obtain ⟨X, Y, er⟩ := F0
  have hi1 : (0 : Int) ≤ (i : Int) := by omega
  have hi2 : (i : Int) < (xs.length : Int) := by omega
  generalize xs.length = len at *
  clear HX
  unfold frV at k1
  simp only at k1
  go_enter Tryz.func7, Tryz.ntmps7
  go_wp2_with (first | (go_at_call 19; refine (k1 _).mono ?_; rintro e w3 ⟨rfl, hc3⟩; have hb3 := hB.ch hc3 (by simp); have y0 := hb3.cell 0; have y1 := hb3.cell 1; have f0 := hb3.frozen 0; have f1 := hb3.frozen 1))
  exact hF.out _ _ _ _ _ _ _ rfl hb3 (hC0.trans hc3) (by rfl) (by rfl) (by rfl)
set_option maxRecDepth 100000 in
set_option maxHeartbeats 2000000 in
theorem rmean_ (xs : List Int) (hx : ∀ x ∈ xs, inI64 x) (v : Value) (r n : Int) (hr : inI64 r) (hn : inI64 n) (w : World) (hs : SlI (fun _ => True) w v xs) : Calls Tryz.prog 8 #[v, .int .i64 r, .int .i64 n] w fun e w' => e = .returned (frV (meanN xs r n)) ∧ Ch [] w w' := by
  obtain ⟨a, c, rfl, hlc, hcm⟩ := hs.form
  have hml : (maxLen : Int) ≤ 9223372036854775807 := by decide
  have hlm : (xs.length : Int) ≤ 9223372036854775807 := by omega
  clear hml
  generalize hfr : meanN xs r n = F0
  unfold meanN at hfr
  have HR := Lib.hid hfr.symm
  clear hfr
  obtain ⟨r1, r2⟩ := hr
  obtain ⟨n1, n2⟩ := hn
  have hB := Blk.new w 25 #[.int .i64 0, .int .i64 0]
  have hC0 : Ch [] w (w.alloc (.cells #[.int .i64 0, .int .i64 0] 25)) := (Ch.refl [] w).alloc _
  have hs2 := hs.ch0 hC0
  have fin : ∀ (X Y er : Int) (wz : World) (z0 z1 : Value) (a : Act), frV F0 = frV (X, Y, er) → Blk wz w.heap.size 25 #[z0, z1] → Ch [] w wz → a.tmps.getD 6 undef = .pointer (some ⟨w.heap.size, 0, none⟩) → a.tmps.getD 7 undef = .int .i64 er → a.defers = [] →
      bodyPost Tryz.prog Tryz.f8 (fun e w' => e = .returned (frV F0) ∧ Ch [] w w') .ret a ((wz.setCell ⟨w.heap.size, 0, none⟩ (.int .i64 X)).setCell ⟨w.heap.size, 1, none⟩ (.int .i64 Y)) := fun X Y er wz z0 z1 a hR hb hc h4 h5 h6 => by
    have hb2 := (hb.set_ 0 (.int .i64 X)).set_ 1 (.int .i64 Y)
    have hc2 : Ch [w.heap.size] wz _ := ((Ch.refl _ _).set (by simp) (.int .i64 X) (p := ⟨w.heap.size, 0, none⟩)).set (by simp) (.int .i64 Y) (p := ⟨w.heap.size, 1, none⟩)
    exact ret_cell2 (by kernel_rfl) h4 h5 hb2 Tryz.underlying25 rfl (by kernel_rfl) h6 ⟨by rw [hR]; rfl, hc.step hc2 (by simp)⟩
  have hF := Lib.hid fin; clear fin
  by_cases c1 : r < 0
  · have d1 : decide (r < 0) = true := decide_eq_true c1
    have HX := Lib.hid (show frV F0 = frV (0, 0, 8) from by have := HR.out; rw [if_pos (Or.inl c1)] at this; exact congrArg frV this)
    clear HR hs hs2
    go_enter Tryz.func8, Tryz.ntmps8
    go_wp2
    exact ret_cell2 (p := 6) (u := 7) (by kernel_rfl) (by rfl) (by rfl) hB Tryz.underlying25 rfl (by kernel_rfl) rfl ⟨by rw [HX.out]; rfl, hC0⟩
  have d1 : decide (r < 0) = false := decide_eq_false c1
  by_cases c2 : (xs.length : Int) ≤ r
  · have d2 : decide ((xs.length : Int) ≤ r) = true := decide_eq_true c2
    have HX := Lib.hid (show frV F0 = frV (0, 0, 8) from by have := HR.out; rw [if_pos (Or.inr c2)] at this; exact congrArg frV this)
    clear HR hs hs2
    go_enter Tryz.func8, Tryz.ntmps8
    go_wp2
    exact ret_cell2 (p := 6) (u := 7) (by kernel_rfl) (by rfl) (by rfl) hB Tryz.underlying25 rfl (by kernel_rfl) rfl ⟨by rw [HX.out]; rfl, hC0⟩
  have d2 : decide ((xs.length : Int) ≤ r) = false := decide_eq_false c2
  by_cases c3 : n < 1
  · have d3 : decide (n < 1) = true := decide_eq_true c3
    have HX := Lib.hid (show frV F0 = frV (0, 0, 12) from by have := HR.out; rw [if_neg (by omega), if_pos c3] at this; exact congrArg frV this)
    clear HR hs hs2
    go_enter Tryz.func8, Tryz.ntmps8
    go_wp2
    exact ret_cell2 (p := 6) (u := 7) (by kernel_rfl) (by rfl) (by rfl) hB Tryz.underlying25 rfl (by kernel_rfl) rfl ⟨by rw [HX.out]; rfl, hC0⟩
  have d3 : decide (n < 1) = false := decide_eq_false c3
  obtain ⟨i, rfl⟩ : ∃ i : Nat, r = (i : Int) := ⟨r.toNat, by omega⟩
  obtain ⟨D, rfl⟩ : ∃ D : Nat, n = (D : Int) := ⟨n.toNat, by omega⟩
  have hi : i < xs.length := by omega
  obtain ⟨b, o, rfl, hbb, hcell⟩ := hs2.at_ hi
  have HX := Lib.hid (show F0 = mkFr xs[i] D from by have := HR.out; rw [if_neg (by omega), if_neg (by omega)] at this; simpa [List.getD, hi] using this)
  clear HR hs hs2
  have k1 := fun w => refmake_ xs[i] (hx _ (List.getElem_mem hi)) D ⟨by omega, by omega⟩ w
  generalize mkFr xs[i] D = F1 at *
  generalize xs[i] = z at *
  obtain rfl : F0 = F1 := HX.out
  obtain ⟨X, Y, er⟩ := F0
  have hi1 : (0 : Int) ≤ (i : Int) := by omega
  have hi2 : (i : Int) < (xs.length : Int) := by omega
  generalize xs.length = len at *
  clear HX
  unfold frV at k1
  simp only at k1
  go_enter Tryz.func8, Tryz.ntmps8
  go_wp2_with (first | (go_at_call 20; refine (k1 _).mono ?_; rintro e w3 ⟨rfl, hc3⟩; have hb3 := hB.ch hc3 (by simp); have y0 := hb3.cell 0; have y1 := hb3.cell 1; have f0 := hb3.frozen 0; have f1 := hb3.frozen 1))
  exact hF.out _ _ _ _ _ _ _ rfl hb3 (hC0.trans hc3) (by rfl) (by rfl) (by rfl)
end Go.Proofs.YtlficnfkekggjaaGreatDoor
