
/-
  The law ModelGround holds.
-/
import Derived.Test.YtojokdicbopknaaGreatGdAw
namespace Go.Proofs.YtojokdicbopknaaGreat
open Go.RowKit

/-- what stands behind an answer of Model, Ranks and Strata -/
theorem ev_facts (A : List Tm) (rs : List Gr) (F : List Int) : (∃ e, evA A rs F = (e, [], []) ∧ e ≠ 0) ∨ ∃ st rk, evA A rs F = (0, st, rk) ∧ stV A rs = (0, st) ∧ st.length = A.length ∧ rk.length = A.length ∧ RsOk A.length st rs ∧ RkOk A.length st rs F rk ∧ (∀ k, numIn A.length k = true → 0 ≤ gI st k) ∧ gdOk A rs = true ∧ factsOk A.length F = true ∧ stA A rs = some st ∧ rk = ranksR st rs A.length F := by
  rcases evA_cases A rs F with he | he | ⟨st, hg, hf, hs, he⟩
  · exact .inl ⟨13, he, by decide⟩
  · exact .inl ⟨10, he, by decide⟩
  · have ho := gdOk_rules hg
    have hst := stA_ok hs ho.1
    have hR : RsOk A.length st rs := ⟨ho.1, fun x hx => (hst.2 x hx).1, fun x hx => (hst.2 x hx).2⟩
    have hl := stA_len hs
    refine .inr ⟨st, _, he, by unfold stV; rw [if_pos hg, hs], hl, ranksR_len _ _ _ _, hR, ranksR_ok hR hl hst.1 ?_, fun k hk => ?_, hg, hf, hs, rfl⟩
    · simp only [factsOk, Bool.and_eq_true] at hf; exact hf.1
    · obtain ⟨j, hj, rfl⟩ := numIn_nat hk
      rw [gI_at (by omega)]
      exact hst.1 _ (List.getElem_mem _)
theorem mem_mdR {rk : List Int} {N : Nat} (hl : rk.length = N) {n : Int} : n ∈ mdR rk rk.length ↔ numIn N n = true ∧ 0 ≤ gI rk n := by
  subst hl
  exact mem_sel

set_option maxRecDepth 100000 in
set_option maxHeartbeats 8000000 in
theorem lawGround14_ (A : List Tm) (rs : List Gr) (F : List Int) (p q : Nat → Prop) (va vr vf : Value) (w : World) (hA : SlT p w va A) (hR : SlGr p w vr rs) (hF : SlI q w vf F) (hN : NiceL reachBytes maxLen A) :
    Calls Tryz.prog 6 #[.agg #[va, vr], vf] w fun e w' => e = .returned (.bool true) ∧ Ch [] w w' := by
  have hfew := fun wz (hz : Ch [] w wz) => fewG_ A rs F _ _ _ _ vf wz (hA.ch0 hz) (hR.ch0 hz) (hF.ch0 hz)
  have HOK := Lib.hid (fun h : fewG A rs F = true => few_gd h hN)
  clear hN
  have hA0 : SlT (fun _ => True) w va A := hA.weak (fun _ _ _ => trivial)
  have hR0 : SlGr (fun _ => True) w vr rs := hR.weak (fun _ _ _ => trivial)
  clear hA hR
  obtain ⟨aA, cA, rfl, _, _⟩ := hA0.form
  obtain ⟨aR, cR, rfl, _, _⟩ := hR0.form
  have hF0 : SlI (fun _ => True) w vf F := hF.weak (fun _ _ _ => trivial)
  clear hF
  obtain ⟨aF, cF, rfl, _, _⟩ := hF0.form
  have hbn := Blk.new w 25 #[.slice aA A.length cA, .slice aR rs.length cR]
  have hcA : Ch [] w (w.alloc (.cells #[.slice aA A.length cA, .slice aR rs.length cR] 25)) := (Ch.refl _ _).alloc _
  have x0 := hbn.cell 0
  have x1 := hbn.cell 1
  generalize hwA : (w.alloc (.cells #[.slice aA A.length cA, .slice aR rs.length cR] 25)) = wA at *
  have hf0 := hfew wA hcA
  clear hfew
  cases hfb : fewG A rs F with
  | false =>
    rw [hfb] at hf0
    clear HOK hfb
    go_enter Tryz.func6, Tryz.ntmps6
    go_wp2_with (first
      | (go_at_call 9; ((with_reducible refine hf0.mono ?_); rintro e w1 ⟨rfl, hc1⟩; clear hf0))
      | (go_at_call 10; ((with_reducible refine (law14awake _).mono ?_); rintro e w2 ⟨rfl, hc2⟩)))
    go_ret
    exact ⟨rfl, (hcA.trans hc1).trans hc2⟩
  | true =>
    rw [hfb] at hf0
    obtain ⟨hbd, hFl⟩ := HOK.out hfb
    clear HOK hfb
    have HM := Lib.hid (fun wz (hz : Ch [] wA wz) => model_ A rs F _ _ _ _ wz (hA0.ch0 (hcA.trans hz)) (hR0.ch0 (hcA.trans hz)) (hF0.ch0 (hcA.trans hz)) hbd hFl)
    have HK := Lib.hid (fun wz (hz : Ch [] wA wz) => ranks_ A rs F _ _ _ _ wz (hA0.ch0 (hcA.trans hz)) (hR0.ch0 (hcA.trans hz)) (hF0.ch0 (hcA.trans hz)) hbd hFl)
    have HT := Lib.hid (fun wz (hz : Ch [] wA wz) => strataV_ A rs _ _ _ wz (hA0.ch0 (hcA.trans hz)) (hR0.ch0 (hcA.trans hz)) hbd)
    have hrl := hbd.fit.r
    have hal := hbd.fit.a
    clear hbd
    rcases ev_facts A rs F with ⟨e0, he, hne⟩ | ⟨st, rk, he, hsv, hls, hlk, hRs, hKs, -⟩
    · rw [he] at HM HK
      have HMD : Hid (mdR ((e0, ([] : List Int), ([] : List Int))).2.2 ((e0, ([] : List Int), ([] : List Int))).2.2.length = []) := rfl
      rw [HMD.out] at HM
      have j0 : (e0 != 0) = true := by simpa using hne
      have j1 : (e0 == 0) = false := by simpa using hne
      have j2 : (e0 == e0) = true := by simp
      generalize stV A rs = T at *
      obtain ⟨n9, s9⟩ := T
      clear he hA0 hR0 hF0 HMD hne
      go_enter Tryz.func6, Tryz.ntmps6
      go_wp2_with (first
        | (go_at_call 9; ((with_reducible refine (hf0).mono ?_); rintro e w1 ⟨rfl, hc⟩; have hq : Ch [] wA w1 := hc; clear hc; have y0 := (hbn.ch hq (by simp)).cell 0; have y1 := (hbn.ch hq (by simp)).cell 1))
        | (go_at_call 16; ((with_reducible refine (HM.out _ hq).mono ?_); rintro e w2 ⟨v3, rfl, h3, hc⟩; replace hq := hq.trans hc; clear hc; obtain ⟨a3, c3, rfl, _, _⟩ := h3.form; have y0 := (hbn.ch hq (by simp)).cell 0; have y1 := (hbn.ch hq (by simp)).cell 1))
        | (go_at_call 14; ((with_reducible refine (HK.out _ hq).mono ?_); rintro e w3 ⟨v5, rfl, h5, hc⟩; replace hq := hq.trans hc; replace h3 := h3.ch0 hc; clear hc; obtain ⟨a5, c5, rfl, _, _⟩ := h5.form; have y0 := (hbn.ch hq (by simp)).cell 0; have y1 := (hbn.ch hq (by simp)).cell 1))
        | (go_at_call 11; ((with_reducible refine (HT.out _ hq).mono ?_); rintro e w4 ⟨v6, rfl, h6, hc⟩; replace hq := hq.trans hc; replace h3 := h3.ch0 hc; replace h5 := h5.ch0 hc; clear hc; obtain ⟨a6, c6, rfl, _, _⟩ := h6.form; have y0 := (hbn.ch hq (by simp)).cell 0; have y1 := (hbn.ch hq (by simp)).cell 1))
        | (go_at_call 10; ((with_reducible refine (law14awake _).mono ?_); rintro e w9 ⟨rfl, hc⟩; replace hq := hq.trans hc)))
      go_ret
      exact ⟨rfl, hcA.trans hq⟩
    · have HE2 : Hid (mdR (evA A rs F).2.2 (evA A rs F).2.2.length = mdR rk rk.length) := by unfold Hid; rw [he]
      rw [HE2.out, he] at HM
      rw [he] at HK
      rw [hsv] at HT
      have HMEM : Hid (∀ n, numIn A.length n = true → (n ∈ mdR rk rk.length ↔ 0 ≤ gI rk n)) := fun n hn => ⟨fun h => ((mem_mdR hlk).1 h).2, fun h => (mem_mdR hlk).2 ⟨hn, h⟩⟩
      generalize hS : mdR rk rk.length = S at *
      clear he hsv hS
      have HLS := Lib.hid hls
      have HLK := Lib.hid hlk
      have HRS := Lib.hid hRs
      have HKS := Lib.hid hKs
      have j3 : ((rk.length : Int) != (A.length : Int)) = false := by simp [hlk]
      have j4 : ((st.length : Int) != (A.length : Int)) = false := by simp [hls]
      clear hls hlk hRs hKs HE2
      go_enter Tryz.func6, Tryz.ntmps6
      go_wp2_with (first
        | (go_at_call 9; ((with_reducible refine (hf0).mono ?_); rintro e w1 ⟨rfl, hc⟩; have hq : Ch [] wA w1 := hc; clear hc; have y0 := (hbn.ch hq (by simp)).cell 0; have y1 := (hbn.ch hq (by simp)).cell 1))
        | (go_at_call 16; ((with_reducible refine (HM.out _ hq).mono ?_); rintro e w2 ⟨v3, rfl, h3, hc⟩; replace hq := hq.trans hc; clear hc; obtain ⟨a3, c3, rfl, _, _⟩ := h3.form; have y0 := (hbn.ch hq (by simp)).cell 0; have y1 := (hbn.ch hq (by simp)).cell 1))
        | (go_at_call 14; ((with_reducible refine (HK.out _ hq).mono ?_); rintro e w3 ⟨v5, rfl, h5, hc⟩; replace hq := hq.trans hc; replace h3 := h3.ch0 hc; clear hc; obtain ⟨a5, c5, rfl, _, _⟩ := h5.form; have y0 := (hbn.ch hq (by simp)).cell 0; have y1 := (hbn.ch hq (by simp)).cell 1))
        | (go_at_call 11; ((with_reducible refine (HT.out _ hq).mono ?_); rintro e w4 ⟨v6, rfl, h6, hc⟩; replace hq := hq.trans hc; replace h3 := h3.ch0 hc; replace h5 := h5.ch0 hc; clear hc; obtain ⟨a6, c6, rfl, _, _⟩ := h6.form; have y0 := (hbn.ch hq (by simp)).cell 0; have y1 := (hbn.ch hq (by simp)).cell 1)))
      have HB := Lib.hid (hbn.ch hq (by simp))
      have hcW := hcA.trans hq
      have HA4 := Lib.hid (hA0.ch0 hcW)
      have HR4 := Lib.hid (hR0.ch0 hcW)
      have HF4 := Lib.hid (hF0.ch0 hcW)
      have H3 := Lib.hid (h3.weak (q := fun _ => True) (fun _ _ _ => trivial))
      have H5 := Lib.hid (h5.weak (q := fun _ => True) (fun _ _ _ => trivial))
      have H6 := Lib.hid (h6.weak (q := fun _ => True) (fun _ _ _ => trivial))
      clear hA0 hR0 hF0 h3 h5 h6 y0 y1 x0 x1 hwA hbn hq hcA HM HK HT j3 j4
      go_loopw [11] (fun i wr => ∃ k : Nat, k ≤ rs.length ∧ i = .int .i64 k ∧ Ch [] w4 wr) (fun i _ => rs.length - (intOf i).toNat)
      case atStart => exact ⟨0, Nat.zero_le _, rfl, Ch.refl _ _⟩
      case round =>
        obtain ⟨k, hk, rfl, hq⟩ := hrel
        have y1 := (HB.out.ch hq (by simp)).cell 1
        by_cases hlt : k < rs.length
        · have jl : decide (k < rs.length) = true := decide_eq_true hlt
          obtain ⟨b, o, a7, c7, a8, c8, rfl, hp, e0, e1, e2, s4, s5⟩ := (HR4.out.ch0 hq).at_ hlt
          have hcall := body14_ rs[k] S _ _ (.slice a7 rs[k].ps.length c7) (.slice a8 rs[k].ns.length c8) _ wr s4 s5 (H3.out.ch0 hq)
          have HCL : Hid (bodyS S rs[k] = true → rs[k].h ∈ S) := fun hb => clo_ok HRS.out HKS.out HMEM.out (List.getElem_mem hlt) hb
          generalize rs[k] = x at *
          clear s4 s5
          cases hbo : bodyS S x with
          | false =>
            rw [hbo] at hcall
            clear hbo HCL
            go_wp2_with (go_at_call 24; ((with_reducible refine hcall.mono ?_); rintro e w7 ⟨rfl, hc⟩; clear hcall))
            go_roundw
            case rel => exact ⟨k + 1, by omega, by go_num, hq.trans hc⟩
            case measure => simp [intOf]; omega
          | true =>
            have hin := fun wz (hz : Ch [] w4 wz) => in14_ _ _ S x.h wz (H3.out.ch0 hz)
            rw [decide_eq_true (HCL.out hbo)] at hin
            rw [hbo] at hcall
            clear hbo HCL
            go_wp2_with (first
              | (go_at_call 24; ((with_reducible refine hcall.mono ?_); rintro e w7 ⟨rfl, hc⟩; clear hcall; have hq7 := hq.trans hc; have z1 := (HB.out.ch hq7 (by simp)).cell 1; have z0 := cell_ch (S := []) e0 hc (by simp)))
              | (go_at_call 25; ((with_reducible refine (hin _ hq7).mono ?_); rintro e w8 ⟨rfl, hc8⟩; clear hin)))
            go_roundw
            case rel => exact ⟨k + 1, by omega, by go_num, hq7.trans hc8⟩
            case measure => simp [intOf]; omega
        · have jl : decide (k < rs.length) = false := decide_eq_false hlt
          go_wp2
          clear y1
          go_loopw [12] (fun i wr => ∃ k : Nat, k ≤ rk.length ∧ i = .int .i64 k ∧ Ch [] w4 wr) (fun i _ => rk.length - (intOf i).toNat)
          case atStart => exact ⟨0, Nat.zero_le _, rfl, hq⟩
          case round =>
            clear hq hlt hk jl
            obtain ⟨k, hk, rfl, hq⟩ := hrel
            by_cases hlt : k < rk.length
            · have jl : decide (k < rk.length) = true := decide_eq_true hlt
              have hkA : k < A.length := by have := HLK.out; omega
              have hn : numIn A.length (k : Int) = true := by simp [numIn]; omega
              have HN1 : Hid ((k : Int) ∈ S ↔ 0 ≤ rk[k]'hlt) := by unfold Hid; rw [HMEM.out _ hn, gI_at hlt]
              have HN2 : Hid (rk[k]'hlt = 0 ↔ (k : Int) ∈ F) := by unfold Hid; rw [← HKS.out.fact _ hn, gI_at hlt]
              have HN3 : Hid (0 < rk[k]'hlt → supQ st rk S rs (k : Int) = true) := fun h => sup_ok HRS.out HKS.out HMEM.out hn (by rw [gI_at hlt]; exact h)
              have hS1 := fun wz (hz : Ch [] wr wz) => in14_ _ _ S (k : Int) wz (H3.out.ch0 (hq.trans hz))
              have hF1 := fun wz (hz : Ch [] wr wz) => in14_ _ _ F (k : Int) wz (HF4.out.ch0 (hq.trans hz))
              have hP1 := fun wz (hz : Ch [] w4 wz) => supported14_ rs A.length k st rk S HLS.out HLK.out HRS.out.ok hkA _ _ _ _ aA A.length cA _ _ _ _ wz (HR4.out.ch0 hz) (H5.out.ch0 hz) (H6.out.ch0 hz) (H3.out.ch0 hz)
              obtain ⟨b, o, rfl, _, d5⟩ := (H5.out.ch0 hq).at_ hlt
              have l5 := Later.cell d5
              have i1 : (k : Int) < (rk.length : Int) := by omega
              have i2 : (0 : Int) ≤ (k : Int) := by omega
              generalize rk[k]'hlt = q at *
              rcases Int.lt_trichotomy q 0 with t0 | t0 | t0
              · rw [decide_eq_false (fun h => by have := HN1.out.1 h; omega)] at hS1
                rw [decide_eq_false (fun h => by have := HN2.out.2 h; omega)] at hF1
                have j0 : decide (0 ≤ q) = false := decide_eq_false (by omega)
                have j1 : decide (q = 0) = false := decide_eq_false (by omega)
                have j1' : (q == 0) = false := by simp; omega
                have j2 : decide (0 < q) = false := decide_eq_false (by omega)
                clear t0 HN1 HN2 HN3 hP1
                have kS := fun y : Later wr => later_call (hS1 y.w y.ch)
                have kF := fun y : Later wr => later_call (hF1 y.w y.ch)
                clear hS1 hF1
                go_wp2
                refine wp_region_later (by kernel_rfl) (lexB_of (by kernel_rfl)) ?_
                repeat (go_big_quiet_step ((first | (go_at_call 25; with_reducible exact kS _) | (go_at_call 25; with_reducible exact kF _))))
                refine wpQuiet_nil ?_
                intro w6 hw6
                clear l5
                have d6 := cell_ch (S := []) d5 hw6 (by simp)
                go_wp2
                go_roundw
                case rel => exact ⟨k + 1, by omega, by go_num, hq.trans hw6⟩
                case measure => simp [intOf]; omega
              · subst t0
                rw [decide_eq_true (HN1.out.2 (by omega))] at hS1
                rw [decide_eq_true (HN2.out.1 rfl)] at hF1
                clear HN1 HN2 HN3 hP1
                have kS := fun y : Later wr => later_call (hS1 y.w y.ch)
                have kF := fun y : Later wr => later_call (hF1 y.w y.ch)
                clear hS1 hF1
                go_wp2
                refine wp_region_later (by kernel_rfl) (lexB_of (by kernel_rfl)) ?_
                repeat (go_big_quiet_step ((first | (go_at_call 25; with_reducible exact kS _) | (go_at_call 25; with_reducible exact kF _))))
                refine wpQuiet_nil ?_
                intro w6 hw6
                clear l5
                have d6 := cell_ch (S := []) d5 hw6 (by simp)
                go_wp2
                go_roundw
                case rel => exact ⟨k + 1, by omega, by go_num, hq.trans hw6⟩
                case measure => simp [intOf]; omega
              · rw [decide_eq_true (HN1.out.2 (by omega))] at hS1
                rw [decide_eq_false (fun h => by have := HN2.out.2 h; omega)] at hF1
                rw [HN3.out t0] at hP1
                have j0 : decide (0 ≤ q) = true := decide_eq_true (by omega)
                have j1 : decide (q = 0) = false := decide_eq_false (by omega)
                have j1' : (q == 0) = false := by simp; omega
                have j2 : decide (0 < q) = true := decide_eq_true (by omega)
                clear t0 HN1 HN2 HN3
                have kS := fun y : Later wr => later_call (hS1 y.w y.ch)
                have kF := fun y : Later wr => later_call (hF1 y.w y.ch)
                clear hS1 hF1
                go_wp2
                refine wp_region_later (by kernel_rfl) (lexB_of (by kernel_rfl)) ?_
                repeat (go_big_quiet_step ((first | (go_at_call 25; with_reducible exact kS _) | (go_at_call 25; with_reducible exact kF _))))
                refine wpQuiet_nil ?_
                intro w6 hw6
                clear l5
                have d6 := cell_ch (S := []) d5 hw6 (by simp)
                have hq6 := hq.trans hw6
                have y0 := (HB.out.ch hq6 (by simp)).cell 0
                have y1 := (HB.out.ch hq6 (by simp)).cell 1
                go_wp2_with (go_at_call 26; ((with_reducible refine (hP1 _ hq6).mono ?_); rintro e w8 ⟨rfl, hc8⟩; clear hP1))
                go_roundw
                case rel => exact ⟨k + 1, by omega, by go_num, hq6.trans hc8⟩
                case measure => simp [intOf]; omega
            · have jl : decide (k < rk.length) = false := decide_eq_false hlt
              go_wp2_with (go_at_call 10; ((with_reducible refine (law14awake _).mono ?_); rintro e w9 ⟨rfl, hc9⟩))
              go_ret
              exact ⟨rfl, (hcW.trans hq).trans hc9⟩

end Go.Proofs.YtojokdicbopknaaGreat
