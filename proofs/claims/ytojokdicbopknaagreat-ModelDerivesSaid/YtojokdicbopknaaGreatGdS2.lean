
/-
  The law ModelDerives holds.
-/
import Derived.Test.YtojokdicbopknaaGreatGdR2
import Derived.Deep.RegionHeld3
namespace Go.Proofs.YtojokdicbopknaaGreat
open Go.RowKit

theorem SlI.take {p : Nat → Prop} {w : World} {a : Option Addr} {n c m : Nat} {xs : List Int} (h : SlI p w (.slice a n c) xs) (hm : m ≤ n) : SlI p w (.slice a m c) (xs.take m) := by
  have := Sl.take h hm
  rwa [← List.map_take] at this
/-- what the law wants of a derivation that is there -/
theorem der_good {A : List Tm} {rs : List Gr} {F : List Int} {n : Int} {out : List Int} {ok : Bool} (h : DeAns A rs F n out ok) (hg : hoA A rs F n = (true, 0)) : ok = true ∧ ∃ st rk, evA A rs F = (0, st, rk) ∧ rk.length = A.length ∧ (∀ x ∈ rs, grOk A.length x = true) ∧ DerOk rk rs F out ∧ (out = [] → n ∈ F) ∧ ∀ (h : 0 < out.length), ∃ i : Nat, ∃ hi : i < rs.length, out[out.length - 1] = (i : Int) ∧ rs[i].h = n := by
  obtain ⟨st, rk, he, hsv, hls, hlk, hRs, hK, h0, m, rfl, hm, hrm⟩ := good_facts hg
  rcases h with ⟨_, h2, _, rfl, f, hD, rfl⟩ | ⟨h1, _⟩
  · rw [he] at hD ⊢
    obtain ⟨d1, d2, d3⟩ := der_law hRs hK hD h2 hrm
    exact ⟨rfl, st, rk, rfl, hlk, hRs.ok, d1, d2, d3⟩
  · exact absurd ((hoA_good A rs F (m : Int)).1 hg) h1
theorem der_bad {A : List Tm} {rs : List Gr} {F : List Int} {n : Int} {out : List Int} {ok : Bool} (h : DeAns A rs F n out ok) (hg : hoA A rs F n ≠ (true, 0)) : ok = false ∧ out = [] := by
  rcases h with ⟨h1, h2, h3, _⟩ | ⟨_, h2, h3⟩
  · exact absurd ((hoA_good A rs F n).2 ⟨h1, h2, h3⟩) hg
  · exact ⟨h2, h3⟩
/-- the atoms known so far -/
def knownL (rs : List Gr) (F out : List Int) (k : Nat) : List Int := F ++ (out.take k).map (hdOf rs)
theorem knownL_snoc (rs : List Gr) (F out : List Int) (k : Nat) (h : k < out.length) : knownL rs F out (k + 1) = knownL rs F out k ++ [hdOf rs out[k]] := by
  unfold knownL
  rw [take_snoc out k h, List.map_append, ← List.append_assoc]; rfl
theorem knownL_len (rs : List Gr) (F out : List Int) (k : Nat) : (knownL rs F out k).length ≤ F.length + out.length := by
  unfold knownL
  have : (out.take k).length ≤ out.length := by rw [List.length_take]; omega
  simp only [List.length_append, List.length_map]
  omega

set_option maxRecDepth 100000 in
set_option maxHeartbeats 8000000 in
theorem lawDerives14_ (A : List Tm) (rs : List Gr) (F : List Int) (n : Int) (p q : Nat → Prop) (va vr vf : Value) (w : World) (hA : SlT p w va A) (hR : SlGr p w vr rs) (hF : SlI q w vf F) (hN : NiceL reachBytes maxLen A) :
    Calls Tryz.prog 7 #[.agg #[va, vr], vf, .int .i64 n] w fun e w' => e = .returned (.bool true) ∧ Ch [] w w' := by
  have hfew := fun wz (hz : Ch [] w wz) => fewG_ A rs F _ _ _ _ vf wz (hA.ch0 hz) (hR.ch0 hz) (hF.ch0 hz)
  have HOK := Lib.hid (fun h : fewG A rs F = true => few_gd h hN)
  clear hN
  have hA0 : SlT (fun _ => True) w va A := hA.weak (fun _ _ _ => trivial)
  have hR0 : SlGr (fun _ => True) w vr rs := hR.weak (fun _ _ _ => trivial)
  clear hA hR
  obtain ⟨aA, cA, rfl, _, _⟩ := hA0.form
  obtain ⟨aR, cR, rfl, _, _⟩ := hR0.form
  have hF0 : SlI (fun _ => True) w vf F := hF.weak (fun _ _ _ => trivial)
  clear hF
  obtain ⟨aF, cF, rfl, _, _⟩ := hF0.form
  have hbn := Blk.new w 25 #[.slice aA A.length cA, .slice aR rs.length cR]
  have hcA : Ch [] w (w.alloc (.cells #[.slice aA A.length cA, .slice aR rs.length cR] 25)) := (Ch.refl _ _).alloc _
  have x0 := hbn.cell 0
  have x1 := hbn.cell 1
  generalize hwA : (w.alloc (.cells #[.slice aA A.length cA, .slice aR rs.length cR] 25)) = wA at *
  have hf0 := hfew wA hcA
  clear hfew
  cases hfb : fewG A rs F with
  | false =>
    rw [hfb] at hf0
    clear HOK hfb
    go_enter Tryz.func7, Tryz.ntmps7
    go_wp2_with (first
      | (go_at_call 9; ((with_reducible refine hf0.mono ?_); rintro e w1 ⟨rfl, hc1⟩; clear hf0))
      | (go_at_call 10; ((with_reducible refine (law14awake _).mono ?_); rintro e w2 ⟨rfl, hc2⟩)))
    go_ret
    exact ⟨rfl, (hcA.trans hc1).trans hc2⟩
  | true =>
    rw [hfb] at hf0
    obtain ⟨hbd, hFl⟩ := HOK.out hfb
    clear HOK hfb
    have HD := Lib.hid (fun wz (hz : Ch [] wA wz) => derivation_ A rs F n _ _ _ _ wz (hA0.ch0 (hcA.trans hz)) (hR0.ch0 (hcA.trans hz)) (hF0.ch0 (hcA.trans hz)) hbd hFl)
    have HO := Lib.hid (fun wz (hz : Ch [] wA wz) => holds_ A rs F n _ _ _ _ wz (hA0.ch0 (hcA.trans hz)) (hR0.ch0 (hcA.trans hz)) (hF0.ch0 (hcA.trans hz)) hbd hFl)
    have HM := Lib.hid (fun wz (hz : Ch [] wA wz) => model_ A rs F _ _ _ _ wz (hA0.ch0 (hcA.trans hz)) (hR0.ch0 (hcA.trans hz)) (hF0.ch0 (hcA.trans hz)) hbd hFl)
    have hrl := hbd.fit.r
    have hal := hbd.fit.a
    clear hbd
    by_cases hgo : hoA A rs F n = (true, 0)
    · rw [hgo] at HO
      have HGO := Lib.hid hgo
      clear hgo
      generalize hS : mdR (evA A rs F).2.2 (evA A rs F).2.2.length = S at *
      generalize hEV : (evA A rs F).1 = ev at *
      have HS := Lib.hid hS
      clear hS hEV
      go_enter Tryz.func7, Tryz.ntmps7
      go_wp2_with (first
        | (go_at_call 9; ((with_reducible refine (hf0).mono ?_); rintro e w1 ⟨rfl, hc⟩; have hq : Ch [] wA w1 := hc; clear hc; have y0 := (hbn.ch hq (by simp)).cell 0; have y1 := (hbn.ch hq (by simp)).cell 1))
        | (go_at_call 22; ((with_reducible refine (HD.out _ hq).mono ?_); rintro e w2 ⟨v3, out, ok, rfl, h3, hde, hc⟩; replace hq := hq.trans hc; clear hc; obtain rfl : ok = true := (der_good hde HGO.out).1; obtain ⟨a3, c3, rfl, _, _⟩ := h3.form; have y0 := (hbn.ch hq (by simp)).cell 0; have y1 := (hbn.ch hq (by simp)).cell 1))
        | (go_at_call 18; ((with_reducible refine (HO.out _ hq).mono ?_); rintro e w3 ⟨rfl, hc⟩; replace hq := hq.trans hc; replace h3 := h3.ch0 hc; clear hc; have y0 := (hbn.ch hq (by simp)).cell 0; have y1 := (hbn.ch hq (by simp)).cell 1))
        | (go_at_call 16; ((with_reducible refine (HM.out _ hq).mono ?_); rintro e w4 ⟨v6, rfl, h6, hc⟩; replace hq := hq.trans hc; replace h3 := h3.ch0 hc; clear hc; obtain ⟨a6, c6, rfl, _, _⟩ := h6.form; have y0 := (hbn.ch hq (by simp)).cell 0; have y1 := (hbn.ch hq (by simp)).cell 1))
        | (at_builtin; refine wpList_append_sl rfl _ _ _ rfl elIn (base := w4.heap.size) (v := .slice (some ⟨w4.heap.size, 0, none⟩) 0 0) (css := []) rfl (Own.empty_ w4 w4.heap.size _ _ (Nat.le_refl _)) rfl (hF0.ch0 ((hcA.trans hq).alloc _)) (by simp; omega) (by simp) ?_; intro v5 w5 ho5 hc5 hat5 hn5; clear hn5))
      have hdg := der_good hde HGO.out
      obtain ⟨-, st, rk, he, hlk, hok, hDO, hF1, hL1⟩ := hdg
      have HMEM : Hid (∀ j, numIn A.length j = true → (j ∈ S ↔ 0 ≤ gI rk j)) := by
        have h1 := HS.out
        rw [he] at h1
        intro j hj
        rw [← h1]
        exact ⟨fun h => ((mem_mdR hlk).1 h).2, fun h => (mem_mdR hlk).2 ⟨hj, h⟩⟩
      have hol := derOk_len hDO
      have HOK := Lib.hid hok
      have HDO := Lib.hid hDO
      have HF1 := Lib.hid hF1
      have HL1 := Lib.hid hL1
      have HB := Lib.hid (hbn.ch hq (by simp))
      have hcW := hcA.trans hq
      have HR4 := Lib.hid (hR0.ch0 hcW)
      have hF4 := hF0.ch0 hcW
      have HF4 := Lib.hid hF4
      have H3 := Lib.hid (h3.weak (q := fun _ => True) (fun _ _ _ => trivial))
      have H6 := Lib.hid (h6.weak (q := fun _ => True) (fun _ _ _ => trivial))
      clear hde he hlk hok hDO hF1 hL1 hA0 hR0 h3 h6 y0 y1 x0 x1 hwA hbn hq hcA HM HO HD HS HGO hF0
      have hc45 : Ch [] w4 w5 := ((Ch.refl [] w4).alloc (.cells #[] 3)).step hc5 (fun y hy => .inr (by simp [Value.ownBlock] at hy; omega))
      have ho5' : Own w5 w4.heap.size 3 1 v5 ((knownL rs F out 0).map encI) := by
        have e : knownL rs F out 0 = F := by simp [knownL]
        rw [e]
        exact ho5
      have hqw5 := hcW
      clear ho5 hc5 hat5 hF4
      go_loopw [13, 14] (fun kn i wr => ∃ (k : Nat) (v : Value), k ≤ out.length ∧ i = .int .i64 k ∧ v = kn ∧ Ch [] w4 wr ∧ Own wr w4.heap.size 3 1 v ((knownL rs F out k).map encI)) (fun _ i _ => out.length - (intOf i).toNat)
      case atStart => exact ⟨0, v5, Nat.zero_le _, rfl, rfl, hc45, ho5'⟩
      case round =>
        clear hc45 ho5'
        obtain ⟨k, v, hk, rfl, rfl, hq, ho⟩ := hrel
        have hb3 := HB.out.ch hq (by simp)
        have y1 := hb3.cell 1
        have h3q := H3.out.ch0 hq
        have hsq := hq.size
        by_cases hlt : k < out.length
        · have jl : decide (k < out.length) = true := decide_eq_true hlt
          obtain ⟨iN, hiN, eN, hnotin, hbody, hps⟩ := HDO.out k hlt
          obtain ⟨bO, oO, eO, _, dO⟩ := h3q.at_ hlt
          subst eO
          rw [eN] at dO
          have HSN := Lib.hid (knownL_snoc rs F out k hlt)
          have hhd : hdOf rs out[k] = rs[iN].h := by rw [eN]; simp [hdOf, hiN]
          rw [hhd] at HSN
          have hin1 := fun wz (hz : Ch [] wr wz) => in14_ _ _ (out.take k) (iN : Int) wz (SlI.take (h3q.ch0 hz) (m := k) (by omega))
          rw [decide_eq_false hnotin] at hin1
          have hkn := knownL_len rs F out k
          have HPS : Hid (∀ p ∈ rs[iN].ps, p ∈ knownL rs F out k) := fun p hp => by
            unfold knownL
            rw [List.mem_append]
            rcases hps p hp with h1 | ⟨j, hj, e⟩
            · exact .inl h1
            · exact .inr (List.mem_map.2 ⟨j, hj, e⟩)
          have hbs := bodyS_eq (S := S) (HOK.out _ (List.getElem_mem hiN)) HMEM.out
          rw [hbody] at hbs
          have HBS := Lib.hid hbs
          obtain ⟨bR, oR, a7, c7, a8, c8, eR, _, e0, e1, e2, s4, s5⟩ := HR4.out.at_ hiN
          have e0 := cell_ch (S := []) e0 hq (by simp)
          have e1 := cell_ch (S := []) e1 hq (by simp)
          have e2 := cell_ch (S := []) e2 hq (by simp)
          subst eR
          have HP4 := Lib.hid s4
          have HN5 := Lib.hid s5
          obtain ⟨_, _, eP, _, hmP⟩ := s4.form
          injection eP with eP1 _ eP2
          subst eP1 eP2
          obtain ⟨_, _, eP, _, hmG⟩ := s5.form
          injection eP with eP1 _ eP2
          subst eP1 eP2
          unfold maxLen at hmP hmG
          generalize rs[iN] = x at *
          have i1 : (iN : Int) < (rs.length : Int) := by omega
          have i2 : (0 : Int) ≤ (iN : Int) := by omega
          have i3 : (k : Int) < (out.length : Int) := by omega
          have j1 : decide ((iN : Int) < 0) = false := decide_eq_false (by omega)
          have j2 : decide (rs.length ≤ iN) = false := decide_eq_false (by omega)
          have j2' : decide ((rs.length : Int) ≤ (iN : Int)) = false := decide_eq_false (by omega)
          have kS := fun y : Later wr => later_call (hin1 y.w y.ch)
          have l1 := Later.cell dO
          have l2 := Later.cell y1
          clear hin1 hnotin hbody hps hhd eN s4 s5 hbs
          obtain ⟨a9, c9, e9⟩ := ho.form'
          rw [List.length_map] at e9
          subst e9
          have HO := Lib.hid ho
          clear ho
          go_wp2
          refine wp_region_later (by kernel_rfl) (lexB_of (by kernel_rfl)) ?_
          repeat (go_big_quiet_step ((go_at_call 25; with_reducible exact kS _)))
          refine wpQuiet_nil ?_
          intro w6 hw6
          clear l1 l2 kS
          have dO6 := cell_ch (S := []) dO hw6 (by simp)
          have y16 := (hb3.ch hw6 (by simp)).cell 1
          have e06 := cell_ch (S := []) e0 hw6 (by simp)
          have e16 := cell_ch (S := []) e1 hw6 (by simp)
          have e26 := cell_ch (S := []) e2 hw6 (by simp)
          have hq6 := hq.trans hw6
          have HO6 := Lib.hid (HO.out.ch0' hw6)
          clear dO y1 e0 e1 e2 hb3 h3q hq hw6 hsq HO
          go_wp2
          go_region_held3 (fun w' => w'.cell? ⟨w.heap.size, 1, none⟩ = some (.slice (some ⟨bR, oR, none⟩) rs.length cR) ∧ w'.cell? ⟨bO, oO + k, none⟩ = some (.int .i64 (iN : Int)) ∧ w'.cell? ⟨bR, oR + iN * 3, none⟩ = some (.int .i64 x.h) ∧ w'.cell? ⟨bR, oR + iN * 3 + 1, none⟩ = some (.slice a7 x.ps.length c7) ∧ w'.cell? ⟨bR, oR + iN * 3 + 2, none⟩ = some (.slice a8 x.ns.length c8)) (go_keep) (first | fail)
          have hbX : Blk (w6.alloc (.cells #[.int .i64 x.h, .slice a7 x.ps.length c7, .slice a8 x.ns.length c8] 44)).drew w6.heap.size 44 #[.int .i64 x.h, .slice a7 x.ps.length c7, .slice a8 x.ns.length c8] := (Blk.new _ _ _).drew
          have hcX : Ch [] w6 (w6.alloc (.cells #[.int .i64 x.h, .slice a7 x.ps.length c7, .slice a8 x.ns.length c8] 44)).drew := ((Ch.refl _ _).alloc _).drew
          generalize (w6.alloc (.cells #[.int .i64 x.h, .slice a7 x.ps.length c7, .slice a8 x.ns.length c8] 44)).drew = wX at *
          have hqX := hq6.trans hcX
          have HOX := Lib.hid (HO6.out.ch0' hcX)
          obtain ⟨B15, hB15⟩ : ∃ B, B = w6.heap.size := ⟨_, rfl⟩
          rw [← hB15] at hbX ⊢
          clear hB15 dO6 y16 e06 e16 e26 HO6 hcX hq6
          have HBX := Lib.hid hbX
          have HQX := Lib.hid hqX
          clear hbX hqX
          go_wp2
          go_loopw [16] (fun i wy => ∃ j : Nat, j ≤ x.ps.length ∧ i = .int .i64 j ∧ Ch [] wX wy) (fun i _ => x.ps.length - (intOf i).toNat)
          case atStart => exact ⟨0, Nat.zero_le _, rfl, Ch.refl _ _⟩
          case round =>
            obtain ⟨j, hj, rfl, hy⟩ := hrel
            have hqy := HQX.out.trans hy
            have hby := HBX.out.ch hy (by simp)
            have b0 := hby.cell 0
            have b1 := hby.cell 1
            have b2 := hby.cell 2
            have HOY := Lib.hid (HOX.out.ch0' hy)
            by_cases hlj : j < x.ps.length
            · have jj : decide (j < x.ps.length) = true := decide_eq_true hlj
              obtain ⟨bP, oP, eP, _, dP⟩ := (HP4.out.ch0 hqy).at_ hlj
              subst eP
              have hcall := in14_ _ _ (knownL rs F out k) x.ps[j] wr (show SlI _ _ _ (knownL rs F out k) from HOY.out.sl)
              rw [decide_eq_true (HPS.out _ (List.getElem_mem hlj))] at hcall
              generalize x.ps[j] = y at *
              generalize (knownL rs F out k).length = ln at *
              go_wp2_with (go_at_call 25; ((with_reducible refine hcall.mono ?_); rintro e w7 ⟨rfl, hc7⟩; clear hcall))
              go_roundw
              case rel => exact ⟨j + 1, by omega, by go_num, hy.trans hc7⟩
              case measure => simp [intOf]; omega
            · have jj : decide (j < x.ps.length) = false := decide_eq_false hlj
              have hcall := body14_ x S _ _ (.slice a7 x.ps.length c7) (.slice a8 x.ns.length c8) _ wr (HP4.out.ch0 hqy) (HN5.out.ch0 hqy) (H6.out.ch0 hqy)
              rw [HBS.out] at hcall
              have hsy := hqy.size
              generalize knownL rs F out k = M at *
              generalize x.h = xh at *
              go_wp2_with (first
                | (go_at_call 24; ((with_reducible refine hcall.mono ?_); rintro e w7 ⟨rfl, hc7⟩; clear hcall; have hq7 := hqy.trans hc7; have hs7 := hq7.size; have z0 := (hby.ch hc7 (by simp)).cell 0))
                | (at_builtin; refine wpList_append_sl rfl _ _ _ rfl elIn (base := w4.heap.size) (v := .slice a9 M.length c9) (css := M.map encI) rfl ((HOY.out.ch0' hc7).ch0' ((Ch.refl [] w7).alloc _)) rfl (Sl.one w7 1 _ [.int .i64 xh] rfl (by simp [Value.oneCell'])) (by simp; omega) (by simp; omega) ?_; intro v8 w8 ho8 hc8 hat8 hn8; clear hn8))
              have hq8 : Ch [] w4 w8 := (hq7.alloc _).step hc8 (fun b hb => .inr (HOY.out.lt (by simpa using hb)).1)
              have ho9 : Own w8 w4.heap.size 3 1 v8 ((M ++ [xh]).map encI) := by
                have e : M.map encI ++ [[Value.int .i64 xh]] = (M ++ [xh]).map encI := by rw [List.map_append]; rfl
                rw [e] at ho8
                exact ho8
              go_roundw
              case rel => exact ⟨k + 1, v8, by omega, by go_num, rfl, hq8, by rw [HSN.out]; exact ho9⟩
              case measure => simp [intOf]; omega
        · have jl : decide (k < out.length) = false := decide_eq_false hlt
          have hqw := hcW.trans hq
          by_cases hz : out.length = 0
          · have j8 : ((out.length : Int) == 0) = true := by simp [hz]
            have j8' : decide ((out.length : Int) = 0) = true := decide_eq_true (by omega)
            have j8'' : decide (out.length = 0) = true := decide_eq_true hz
            have hin := in14_ _ _ F n wr (HF4.out.ch0 hq)
            rw [decide_eq_true (HF1.out (List.eq_nil_of_length_eq_zero hz))] at hin
            clear hz hlt ho h3q
            go_wp2_with (first
              | (go_at_call 25; ((with_reducible refine hin.mono ?_); rintro e w7 ⟨rfl, hc7⟩; clear hin))
              | (go_at_call 10; ((with_reducible refine (law14awake _).mono ?_); rintro e w9 ⟨rfl, hc9⟩)))
            go_ret
            exact ⟨rfl, (hqw.trans hc7).trans hc9⟩
          · have j8 : ((out.length : Int) == 0) = false := by simp; intro h; exact hz (by simp [h])
            have j8' : decide ((out.length : Int) = 0) = false := decide_eq_false (by omega)
            have j8'' : decide (out.length = 0) = false := decide_eq_false hz
            obtain ⟨iN, hiN, eN, hhN⟩ := HL1.out (by omega)
            obtain ⟨J, hJ⟩ : ∃ J, J = out.length - 1 := ⟨_, rfl⟩
            have hJl : J < out.length := by omega
            have eJ : out[J] = (iN : Int) := by subst hJ; exact eN
            obtain ⟨bO, oO, eO, _, dO⟩ := h3q.at_ hJl
            subst eO
            rw [eJ] at dO
            obtain ⟨bR, oR, a7, c7, a8, c8, eR, _, e0, e1, e2, s4, s5⟩ := (HR4.out.ch0 hq).at_ hiN
            subst eR
            rw [hhN] at e0
            have hw2 : (out.length : Int) - 1 = (J : Int) := by omega
            have hw3 : IntKind.i64.wrap (J : Int) = (J : Int) := (wrap_sub1 J (by omega)).2.2
            have hw1 : IntKind.i64.wrap ((out.length : Int) - 1) = (J : Int) := by rw [hw2]; exact hw3
            have i1 : (iN : Int) < (rs.length : Int) := by omega
            have i2 : (0 : Int) ≤ (iN : Int) := by omega
            have i3 : (J : Int) < (out.length : Int) := by omega
            have i4 : (0 : Int) ≤ (J : Int) := by omega
            have l1 := Later.cell y1
            have l2 := Later.cell dO
            have l3 := Later.cell e0
            have k9 : (n == n) = true := by simp
            have kA := fun y : Later wr => later_call (law14awake y.w)
            clear hz hlt ho h3q eN hJ eJ hhN s4 s5 e1 e2
            go_wp2
            refine wp_region_later (by kernel_rfl) (lexB_of (by kernel_rfl)) ?_
            repeat (go_big_quiet_step ((go_at_call 10; with_reducible exact kA _)))
            refine wpQuiet_nil ?_
            intro w6 hw6
            clear l1 l2 l3 kA
            go_wp2
            go_ret
            exact ⟨rfl, hqw.trans hw6⟩
    · have HG := Lib.hid hgo
      clear hgo
      generalize hH : hoA A rs F n = H at *
      obtain ⟨b0, e0⟩ := H
      generalize mdR (evA A rs F).2.2 (evA A rs F).2.2.length = S at *
      generalize (evA A rs F).1 = ev at *
      have HH := Lib.hid hH
      clear hH
      by_cases t0 : e0 = 0
      · subst t0
        cases b0 with
        | true => exact absurd rfl HG.out
        | false =>
          go_enter Tryz.func7, Tryz.ntmps7
          go_wp2_with (first
            | (go_at_call 9; ((with_reducible refine (hf0).mono ?_); rintro e w1 ⟨rfl, hc⟩; have hq : Ch [] wA w1 := hc; clear hc; have y0 := (hbn.ch hq (by simp)).cell 0; have y1 := (hbn.ch hq (by simp)).cell 1))
            | (go_at_call 22; ((with_reducible refine (HD.out _ hq).mono ?_); rintro e w2 ⟨v3, out, ok, rfl, h3, hde, hc⟩; replace hq := hq.trans hc; clear hc; obtain ⟨rfl, rfl⟩ := der_bad hde (by rw [HH.out]; exact HG.out); obtain ⟨a3, c3, rfl, _, _⟩ := h3.form; have y0 := (hbn.ch hq (by simp)).cell 0; have y1 := (hbn.ch hq (by simp)).cell 1))
            | (go_at_call 18; ((with_reducible refine (HO.out _ hq).mono ?_); rintro e w3 ⟨rfl, hc⟩; replace hq := hq.trans hc; replace h3 := h3.ch0 hc; clear hc; have y0 := (hbn.ch hq (by simp)).cell 0; have y1 := (hbn.ch hq (by simp)).cell 1))
            | (go_at_call 16; ((with_reducible refine (HM.out _ hq).mono ?_); rintro e w4 ⟨v6, rfl, h6, hc⟩; replace hq := hq.trans hc; replace h3 := h3.ch0 hc; clear hc; obtain ⟨a6, c6, rfl, _, _⟩ := h6.form; have y0 := (hbn.ch hq (by simp)).cell 0; have y1 := (hbn.ch hq (by simp)).cell 1))
            | (go_at_call 10; ((with_reducible refine (law14awake _).mono ?_); rintro e w9 ⟨rfl, hc⟩; replace hq := hq.trans hc)))
          go_ret
          exact ⟨rfl, hcA.trans hq⟩
      · have j0 : (e0 != 0) = true := by simpa using t0
        have j1 : decide (e0 = 0) = false := decide_eq_false t0
        have j2 : (e0 == 0) = false := by simpa using t0
        clear t0
        go_enter Tryz.func7, Tryz.ntmps7
        go_wp2_with (first
          | (go_at_call 9; ((with_reducible refine (hf0).mono ?_); rintro e w1 ⟨rfl, hc⟩; have hq : Ch [] wA w1 := hc; clear hc; have y0 := (hbn.ch hq (by simp)).cell 0; have y1 := (hbn.ch hq (by simp)).cell 1))
          | (go_at_call 22; ((with_reducible refine (HD.out _ hq).mono ?_); rintro e w2 ⟨v3, out, ok, rfl, h3, hde, hc⟩; replace hq := hq.trans hc; clear hc; obtain ⟨rfl, rfl⟩ := der_bad hde (by rw [HH.out]; exact HG.out); obtain ⟨a3, c3, rfl, _, _⟩ := h3.form; have y0 := (hbn.ch hq (by simp)).cell 0; have y1 := (hbn.ch hq (by simp)).cell 1))
          | (go_at_call 18; ((with_reducible refine (HO.out _ hq).mono ?_); rintro e w3 ⟨rfl, hc⟩; replace hq := hq.trans hc; replace h3 := h3.ch0 hc; clear hc; have y0 := (hbn.ch hq (by simp)).cell 0; have y1 := (hbn.ch hq (by simp)).cell 1))
          | (go_at_call 16; ((with_reducible refine (HM.out _ hq).mono ?_); rintro e w4 ⟨v6, rfl, h6, hc⟩; replace hq := hq.trans hc; replace h3 := h3.ch0 hc; clear hc; obtain ⟨a6, c6, rfl, _, _⟩ := h6.form; have y0 := (hbn.ch hq (by simp)).cell 0; have y1 := (hbn.ch hq (by simp)).cell 1))
          | (go_at_call 10; ((with_reducible refine (law14awake _).mono ?_); rintro e w9 ⟨rfl, hc⟩; replace hq := hq.trans hc)))
        go_ret
        exact ⟨rfl, hcA.trans hq⟩

end Go.Proofs.YtojokdicbopknaaGreat
