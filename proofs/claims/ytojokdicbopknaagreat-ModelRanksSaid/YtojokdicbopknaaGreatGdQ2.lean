
/-
  The laws ModelStrata, ModelRanks and ModelHolds hold.
-/
import Derived.Test.YtojokdicbopknaaGreatGdAw
namespace Go.Proofs.YtojokdicbopknaaGreat
open Go.RowKit

set_option maxRecDepth 100000 in
set_option maxHeartbeats 8000000 in
theorem lawStrata14_ (A : List Tm) (rs : List Gr) (p : Nat → Prop) (va vr : Value) (w : World) (hA : SlT p w va A) (hR : SlGr p w vr rs) (hN : NiceL reachBytes maxLen A) :
    Calls Tryz.prog 3 #[.agg #[va, vr]] w fun e w' => e = .returned (.bool true) ∧ Ch [] w w' := by
  have hfew := fun wz (hz : Ch [] w wz) => fewG_ A rs [] _ _ _ _ (.slice none 0 0) wz (hA.ch0 hz) (hR.ch0 hz) (SlI.nilZ (fun _ => True) _)
  have HOK := Lib.hid (fun h : fewG A rs [] = true => few_gd h hN)
  clear hN
  have hA0 : SlT (fun _ => True) w va A := hA.weak (fun _ _ _ => trivial)
  have hR0 : SlGr (fun _ => True) w vr rs := hR.weak (fun _ _ _ => trivial)
  clear hA hR
  obtain ⟨aA, cA, rfl, _, _⟩ := hA0.form
  obtain ⟨aR, cR, rfl, _, _⟩ := hR0.form
  have hbn := Blk.new w 25 #[.slice aA A.length cA, .slice aR rs.length cR]
  have hcA : Ch [] w (w.alloc (.cells #[.slice aA A.length cA, .slice aR rs.length cR] 25)) := (Ch.refl _ _).alloc _
  have x0 := hbn.cell 0
  have x1 := hbn.cell 1
  generalize hwA : (w.alloc (.cells #[.slice aA A.length cA, .slice aR rs.length cR] 25)) = wA at *
  have hf0 := hfew wA hcA
  clear hfew
  cases hfb : fewG A rs [] with
  | false =>
    rw [hfb] at hf0
    clear HOK hfb
    go_enter Tryz.func3, Tryz.ntmps3
    go_wp2_with (first
      | (go_at_call 9; ((with_reducible refine hf0.mono ?_); rintro e w1 ⟨rfl, hc1⟩; clear hf0))
      | (go_at_call 10; ((with_reducible refine (law14awake _).mono ?_); rintro e w2 ⟨rfl, hc2⟩)))
    go_ret
    exact ⟨rfl, (hcA.trans hc1).trans hc2⟩
  | true =>
    rw [hfb] at hf0
    obtain ⟨hbd, hFl⟩ := HOK.out hfb
    clear HOK hfb
    have HS := Lib.hid (fun wz (hz : Ch [] wA wz) => strataV_ A rs _ _ _ wz (hA0.ch0 (hcA.trans hz)) (hR0.ch0 (hcA.trans hz)) hbd)
    have HT := Lib.hid (fun wz (hz : Ch [] wA wz) => refStrata14_ A rs _ _ _ wz (hA0.ch0 (hcA.trans hz)) (hR0.ch0 (hcA.trans hz)) hbd)
    clear hA0 hR0 hbd hFl
    generalize stV A rs = R at *
    obtain ⟨n, L⟩ := R
    have j0 : (n == n) = true := by simp
    go_enter Tryz.func3, Tryz.ntmps3
    go_wp2_with (first
      | (go_at_call 9; ((with_reducible refine (hf0).mono ?_); rintro e w1 ⟨rfl, hc⟩; have hq : Ch [] wA w1 := hc; clear hc; have y0 := (hbn.ch hq (by simp)).cell 0; have y1 := (hbn.ch hq (by simp)).cell 1))
      | (go_at_call 11; ((with_reducible refine (HS.out _ hq).mono ?_); rintro e w2 ⟨v3, rfl, h3, hc⟩; replace hq := hq.trans hc; clear hc; obtain ⟨a3, c3, rfl, _, _⟩ := h3.form; have y0 := (hbn.ch hq (by simp)).cell 0; have y1 := (hbn.ch hq (by simp)).cell 1))
      | (go_at_call 12; ((with_reducible refine (HT.out _ hq).mono ?_); rintro e w3 ⟨v5, rfl, h5, hc⟩; replace hq := hq.trans hc; replace h3 := h3.ch0 hc; clear hc; obtain ⟨a5, c5, rfl, _, _⟩ := h5.form; have y0 := (hbn.ch hq (by simp)).cell 0; have y1 := (hbn.ch hq (by simp)).cell 1))
      | (go_at_call 13; ((with_reducible refine (intsEq _ _ _ _ L _ h3 h5).mono ?_); rintro e w4 ⟨rfl, hc⟩; replace hq := hq.trans hc; clear hc))
      | (go_at_call 10; ((with_reducible refine (law14awake _).mono ?_); rintro e w5 ⟨rfl, hc⟩; replace hq := hq.trans hc; clear hc)))
    go_ret
    exact ⟨rfl, hcA.trans hq⟩

set_option maxRecDepth 100000 in
set_option maxHeartbeats 8000000 in
theorem lawRanks14_ (A : List Tm) (rs : List Gr) (F : List Int) (p q : Nat → Prop) (va vr vf : Value) (w : World) (hA : SlT p w va A) (hR : SlGr p w vr rs) (hF : SlI q w vf F) (hN : NiceL reachBytes maxLen A) :
    Calls Tryz.prog 4 #[.agg #[va, vr], vf] w fun e w' => e = .returned (.bool true) ∧ Ch [] w w' := by
  have hfew := fun wz (hz : Ch [] w wz) => fewG_ A rs F _ _ _ _ vf wz (hA.ch0 hz) (hR.ch0 hz) (hF.ch0 hz)
  have HOK := Lib.hid (fun h : fewG A rs F = true => few_gd h hN)
  clear hN
  have hA0 : SlT (fun _ => True) w va A := hA.weak (fun _ _ _ => trivial)
  have hR0 : SlGr (fun _ => True) w vr rs := hR.weak (fun _ _ _ => trivial)
  clear hA hR
  obtain ⟨aA, cA, rfl, _, _⟩ := hA0.form
  obtain ⟨aR, cR, rfl, _, _⟩ := hR0.form
  have hF0 : SlI (fun _ => True) w vf F := hF.weak (fun _ _ _ => trivial)
  clear hF
  obtain ⟨aF, cF, rfl, _, _⟩ := hF0.form
  have hbn := Blk.new w 25 #[.slice aA A.length cA, .slice aR rs.length cR]
  have hcA : Ch [] w (w.alloc (.cells #[.slice aA A.length cA, .slice aR rs.length cR] 25)) := (Ch.refl _ _).alloc _
  have x0 := hbn.cell 0
  have x1 := hbn.cell 1
  generalize hwA : (w.alloc (.cells #[.slice aA A.length cA, .slice aR rs.length cR] 25)) = wA at *
  have hf0 := hfew wA hcA
  clear hfew
  cases hfb : fewG A rs F with
  | false =>
    rw [hfb] at hf0
    clear HOK hfb
    go_enter Tryz.func4, Tryz.ntmps4
    go_wp2_with (first
      | (go_at_call 9; ((with_reducible refine hf0.mono ?_); rintro e w1 ⟨rfl, hc1⟩; clear hf0))
      | (go_at_call 10; ((with_reducible refine (law14awake _).mono ?_); rintro e w2 ⟨rfl, hc2⟩)))
    go_ret
    exact ⟨rfl, (hcA.trans hc1).trans hc2⟩
  | true =>
    rw [hfb] at hf0
    obtain ⟨hbd, hFl⟩ := HOK.out hfb
    clear HOK hfb
    have HA1 := Lib.hid (fun wz (hz : Ch [] wA wz) => ranks_ A rs F _ _ _ _ wz (hA0.ch0 (hcA.trans hz)) (hR0.ch0 (hcA.trans hz)) (hF0.ch0 (hcA.trans hz)) hbd hFl)
    have HA2 := Lib.hid (fun wz (hz : Ch [] wA wz) => refRanks14_ A rs F _ _ _ _ wz (hA0.ch0 (hcA.trans hz)) (hR0.ch0 (hcA.trans hz)) (hF0.ch0 (hcA.trans hz)) hbd hFl)
    have HA3 := Lib.hid (fun wz (hz : Ch [] wA wz) => model_ A rs F _ _ _ _ wz (hA0.ch0 (hcA.trans hz)) (hR0.ch0 (hcA.trans hz)) (hF0.ch0 (hcA.trans hz)) hbd hFl)
    have HA4 := Lib.hid (fun wz (hz : Ch [] wA wz) => refModel14_ A rs F _ _ _ _ wz (hA0.ch0 (hcA.trans hz)) (hR0.ch0 (hcA.trans hz)) (hF0.ch0 (hcA.trans hz)) hbd hFl)
    clear hA0 hR0 hF0 hbd hFl
    generalize mdR (evA A rs F).2.2 (evA A rs F).2.2.length = M at *
    generalize evA A rs F = R at *
    obtain ⟨n, st, L⟩ := R
    have j0 : (n == n) = true := by simp
    go_enter Tryz.func4, Tryz.ntmps4
    go_wp2_with (first
      | (go_at_call 9; ((with_reducible refine (hf0).mono ?_); rintro e w1 ⟨rfl, hc⟩; have hq : Ch [] wA w1 := hc; clear hc; have y0 := (hbn.ch hq (by simp)).cell 0; have y1 := (hbn.ch hq (by simp)).cell 1))
      | (go_at_call 14; ((with_reducible refine (HA1.out _ hq).mono ?_); rintro e w2 ⟨v3, rfl, h3, hc⟩; replace hq := hq.trans hc; clear hc; obtain ⟨a3, c3, rfl, _, _⟩ := h3.form; have y0 := (hbn.ch hq (by simp)).cell 0; have y1 := (hbn.ch hq (by simp)).cell 1))
      | (go_at_call 15; ((with_reducible refine (HA2.out _ hq).mono ?_); rintro e w3 ⟨v5, rfl, h5, hc⟩; replace hq := hq.trans hc; replace h3 := h3.ch0 hc; clear hc; obtain ⟨a5, c5, rfl, _, _⟩ := h5.form; have y0 := (hbn.ch hq (by simp)).cell 0; have y1 := (hbn.ch hq (by simp)).cell 1))
      | (go_at_call 16; ((with_reducible refine (HA3.out _ hq).mono ?_); rintro e w4 ⟨v6, rfl, h6, hc⟩; replace hq := hq.trans hc; replace h3 := h3.ch0 hc; replace h5 := h5.ch0 hc; clear hc; obtain ⟨a6, c6, rfl, _, _⟩ := h6.form; have y0 := (hbn.ch hq (by simp)).cell 0; have y1 := (hbn.ch hq (by simp)).cell 1))
      | (go_at_call 17; ((with_reducible refine (HA4.out _ hq).mono ?_); rintro e w5 ⟨v7, rfl, h7, hc⟩; replace hq := hq.trans hc; replace h3 := h3.ch0 hc; replace h5 := h5.ch0 hc; replace h6 := h6.ch0 hc; clear hc; obtain ⟨a7, c7, rfl, _, _⟩ := h7.form; have y0 := (hbn.ch hq (by simp)).cell 0; have y1 := (hbn.ch hq (by simp)).cell 1))
      | (go_at_call 13; ((with_reducible refine (intsEq _ _ _ _ L _ h3 h5).mono ?_); rintro e w6 ⟨rfl, hc⟩; replace hq := hq.trans hc; replace h3 := h3.ch0 hc; replace h5 := h5.ch0 hc; replace h6 := h6.ch0 hc; replace h7 := h7.ch0 hc; clear hc h3 h5))
      | (go_at_call 13; ((with_reducible refine (intsEq _ _ _ _ M _ h6 h7).mono ?_); rintro e w7 ⟨rfl, hc⟩; replace hq := hq.trans hc; replace h6 := h6.ch0 hc; replace h7 := h7.ch0 hc; clear hc))
      | (go_at_call 10; ((with_reducible refine (law14awake _).mono ?_); rintro e w8 ⟨rfl, hc⟩; replace hq := hq.trans hc; replace h6 := h6.ch0 hc; replace h7 := h7.ch0 hc; clear hc)))
    go_ret
    exact ⟨rfl, hcA.trans hq⟩

theorem deAns_same {A : List Tm} {rs : List Gr} {F : List Int} {n : Int} {o1 o2 : List Int} {b1 b2 : Bool} (h : DeAns A rs F n o1 b1) (h' : DeAns A rs F n o2 b2) : o1 = o2 ∧ b1 = b2 := by
  rcases h with ⟨a1, a2, a3, rfl, f, hf, rfl⟩ | ⟨a1, rfl, rfl⟩ <;> rcases h' with ⟨e1, e2, e3, rfl, g, hg, rfl⟩ | ⟨e1, rfl, rfl⟩
  · exact ⟨derO_deep f g n [] hf hg, rfl⟩
  · exact absurd ⟨a1, a2, a3⟩ e1
  · exact absurd ⟨e1, e2, e3⟩ a1
  · exact ⟨rfl, rfl⟩

set_option maxRecDepth 100000 in
set_option maxHeartbeats 8000000 in
theorem lawHolds14_ (A : List Tm) (rs : List Gr) (F : List Int) (n : Int) (p q : Nat → Prop) (va vr vf : Value) (w : World) (hA : SlT p w va A) (hR : SlGr p w vr rs) (hF : SlI q w vf F) (hN : NiceL reachBytes maxLen A) :
    Calls Tryz.prog 5 #[.agg #[va, vr], vf, .int .i64 n] w fun e w' => e = .returned (.bool true) ∧ Ch [] w w' := by
  have hfew := fun wz (hz : Ch [] w wz) => fewG_ A rs F _ _ _ _ vf wz (hA.ch0 hz) (hR.ch0 hz) (hF.ch0 hz)
  have HOK := Lib.hid (fun h : fewG A rs F = true => few_gd h hN)
  clear hN
  have hA0 : SlT (fun _ => True) w va A := hA.weak (fun _ _ _ => trivial)
  have hR0 : SlGr (fun _ => True) w vr rs := hR.weak (fun _ _ _ => trivial)
  clear hA hR
  obtain ⟨aA, cA, rfl, _, _⟩ := hA0.form
  obtain ⟨aR, cR, rfl, _, _⟩ := hR0.form
  have hF0 : SlI (fun _ => True) w vf F := hF.weak (fun _ _ _ => trivial)
  clear hF
  obtain ⟨aF, cF, rfl, _, _⟩ := hF0.form
  have hbn := Blk.new w 25 #[.slice aA A.length cA, .slice aR rs.length cR]
  have hcA : Ch [] w (w.alloc (.cells #[.slice aA A.length cA, .slice aR rs.length cR] 25)) := (Ch.refl _ _).alloc _
  have x0 := hbn.cell 0
  have x1 := hbn.cell 1
  generalize hwA : (w.alloc (.cells #[.slice aA A.length cA, .slice aR rs.length cR] 25)) = wA at *
  have hf0 := hfew wA hcA
  clear hfew
  cases hfb : fewG A rs F with
  | false =>
    rw [hfb] at hf0
    clear HOK hfb
    go_enter Tryz.func5, Tryz.ntmps5
    go_wp2_with (first
      | (go_at_call 9; ((with_reducible refine hf0.mono ?_); rintro e w1 ⟨rfl, hc1⟩; clear hf0))
      | (go_at_call 10; ((with_reducible refine (law14awake _).mono ?_); rintro e w2 ⟨rfl, hc2⟩)))
    go_ret
    exact ⟨rfl, (hcA.trans hc1).trans hc2⟩
  | true =>
    rw [hfb] at hf0
    obtain ⟨hbd, hFl⟩ := HOK.out hfb
    clear HOK hfb
    have HA1 := Lib.hid (fun wz (hz : Ch [] wA wz) => holds_ A rs F n _ _ _ _ wz (hA0.ch0 (hcA.trans hz)) (hR0.ch0 (hcA.trans hz)) (hF0.ch0 (hcA.trans hz)) hbd hFl)
    have HA2 := Lib.hid (fun wz (hz : Ch [] wA wz) => refHolds14_ A rs F n _ _ _ _ wz (hA0.ch0 (hcA.trans hz)) (hR0.ch0 (hcA.trans hz)) (hF0.ch0 (hcA.trans hz)) hbd hFl)
    have HA3 := Lib.hid (fun wz (hz : Ch [] wA wz) => why_ A rs F n _ _ _ _ wz (hA0.ch0 (hcA.trans hz)) (hR0.ch0 (hcA.trans hz)) (hF0.ch0 (hcA.trans hz)) hbd hFl)
    have HA4 := Lib.hid (fun wz (hz : Ch [] wA wz) => refWhy14_ A rs F n _ _ _ _ wz (hA0.ch0 (hcA.trans hz)) (hR0.ch0 (hcA.trans hz)) (hF0.ch0 (hcA.trans hz)) hbd hFl)
    have HA5 := Lib.hid (fun wz (hz : Ch [] wA wz) => derivation_ A rs F n _ _ _ _ wz (hA0.ch0 (hcA.trans hz)) (hR0.ch0 (hcA.trans hz)) (hF0.ch0 (hcA.trans hz)) hbd hFl)
    have HA6 := Lib.hid (fun wz (hz : Ch [] wA wz) => refDerivation14_ A rs F n _ _ _ _ wz (hA0.ch0 (hcA.trans hz)) (hR0.ch0 (hcA.trans hz)) (hF0.ch0 (hcA.trans hz)) hbd hFl)
    clear hA0 hR0 hF0 hbd hFl
    generalize hoA A rs F n = H at *
    generalize whA A rs F n = Y at *
    obtain ⟨h1, h2⟩ := H
    obtain ⟨y1', y2'⟩ := Y
    have j0 : (h1 == h1) = true := by simp
    have j1 : (h2 == h2) = true := by simp
    have j2 : (y1' == y1') = true := by simp
    have j3 : (y2' == y2') = true := by simp
    go_enter Tryz.func5, Tryz.ntmps5
    go_wp2_with (first
      | (go_at_call 9; ((with_reducible refine (hf0).mono ?_); rintro e w1 ⟨rfl, hc⟩; have hq : Ch [] wA w1 := hc; clear hc; have y0 := (hbn.ch hq (by simp)).cell 0; have y1 := (hbn.ch hq (by simp)).cell 1))
      | (go_at_call 18; ((with_reducible refine (HA1.out _ hq).mono ?_); rintro e w2 ⟨rfl, hc⟩; replace hq := hq.trans hc; clear hc; have y0 := (hbn.ch hq (by simp)).cell 0; have y1 := (hbn.ch hq (by simp)).cell 1))
      | (go_at_call 19; ((with_reducible refine (HA2.out _ hq).mono ?_); rintro e w3 ⟨rfl, hc⟩; replace hq := hq.trans hc; clear hc; have y0 := (hbn.ch hq (by simp)).cell 0; have y1 := (hbn.ch hq (by simp)).cell 1))
      | (go_at_call 20; ((with_reducible refine (HA3.out _ hq).mono ?_); rintro e w4 ⟨rfl, hc⟩; replace hq := hq.trans hc; clear hc; have y0 := (hbn.ch hq (by simp)).cell 0; have y1 := (hbn.ch hq (by simp)).cell 1))
      | (go_at_call 21; ((with_reducible refine (HA4.out _ hq).mono ?_); rintro e w5 ⟨rfl, hc⟩; replace hq := hq.trans hc; clear hc; have y0 := (hbn.ch hq (by simp)).cell 0; have y1 := (hbn.ch hq (by simp)).cell 1))
      | (go_at_call 22; ((with_reducible refine (HA5.out _ hq).mono ?_); rintro e w6 ⟨v6, out1, ok1, rfl, h6, hd1, hc⟩; replace hq := hq.trans hc; clear hc; obtain ⟨a6, c6, rfl, _, _⟩ := h6.form; have y0 := (hbn.ch hq (by simp)).cell 0; have y1 := (hbn.ch hq (by simp)).cell 1))
      | (go_at_call 23; ((with_reducible refine (HA6.out _ hq).mono ?_); rintro e w7 ⟨v7, out2, ok2, rfl, h7, hd2, hc⟩; replace hq := hq.trans hc; replace h6 := h6.ch0 hc; clear hc; obtain ⟨rfl, rfl⟩ := deAns_same hd1 hd2; have k9 : (ok1 == ok1) = true := (by simp); clear hd1 hd2; obtain ⟨a7, c7, rfl, _, _⟩ := h7.form; have y0 := (hbn.ch hq (by simp)).cell 0; have y1 := (hbn.ch hq (by simp)).cell 1))
      | (go_at_call 13; ((with_reducible refine (intsEq _ _ _ _ out1 _ h6 h7).mono ?_); rintro e w8 ⟨rfl, hc⟩; replace hq := hq.trans hc; replace h6 := h6.ch0 hc; replace h7 := h7.ch0 hc; clear hc))
      | (go_at_call 10; ((with_reducible refine (law14awake _).mono ?_); rintro e w9 ⟨rfl, hc⟩; replace hq := hq.trans hc; replace h6 := h6.ch0 hc; replace h7 := h7.ch0 hc; clear hc)))
    go_ret
    exact ⟨rfl, hcA.trans hq⟩

end Go.Proofs.YtojokdicbopknaaGreat
