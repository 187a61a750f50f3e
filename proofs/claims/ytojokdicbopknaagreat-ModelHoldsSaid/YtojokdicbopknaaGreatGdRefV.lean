
/-
  The contracts of ref13.ints and ref13.Compare.
  The contract of ref13.Valid.
-/
import Derived.Test.YtojokdicbopknaaGreatGdCmp
namespace Go.Proofs.YtojokdicbopknaaGreat

section
open Go.RowKit

def Small9 (l : List Int) : Prop := ∀ x ∈ l, 0 ≤ x ∧ x ≤ 1000000000
theorem wrap_dif {x y : Int} (h1 : 0 ≤ x) (h2 : x ≤ 1000000000) (h3 : 0 ≤ y) (h4 : y ≤ 1000000000) : IntKind.i64.wrap (x - y) = x - y := by
  simp [IntKind.wrap, IntKind.signed, IntKind.bits]; omega

set_option maxRecDepth 100000 in
set_option maxHeartbeats 4000000 in
theorem refInts_ (p q : Nat → Prop) (va vb : Value) (xs ys : List Int) (w : World) (h : SlI p w va xs) (h' : SlI q w vb ys) (hs1 : Small9 xs) (hs2 : Small9 ys) :
    Calls Tryz.prog 80 #[va, vb] w fun e w' => e = .returned (.int .i64 (difIs xs ys)) ∧ Ch [] w w' := by
  obtain ⟨a, c, rfl, hlc, hmx⟩ := h.form
  obtain ⟨b, d, rfl, hld, hmy⟩ := h'.form
  unfold maxLen at hmx hmy
  have HAt := Lib.hid (fun k h1 h2 hn hne => (cmpIs_at xs ys k h1 h2 hn hne).2)
  have HEnd := Lib.hid (fun hn => (cmpIs_end xs ys hn).2)
  have HS1 := Lib.hid hs1
  have HS2 := Lib.hid hs2
  have H := Lib.hid h
  have H' := Lib.hid h'
  clear h h' hs1 hs2
  generalize difIs xs ys = R at *
  go_enter Tryz.func80, Tryz.ntmps80
  go_wp2
  go_loopw [5] (fun i wr => ∃ k : Nat, k ≤ xs.length ∧ k ≤ ys.length ∧ i = .int .i64 k ∧ Ch [] w wr ∧ Hid (∀ j (h1 : j < xs.length) (h2 : j < ys.length), j < k → xs[j] = ys[j])) (fun i _ => xs.length - (intOf i).toNat)
  case atStart => exact ⟨0, Nat.zero_le _, Nat.zero_le _, rfl, Ch.refl _ _, fun j _ _ h => absurd h (Nat.not_lt_zero _)⟩
  case round =>
    obtain ⟨k, hk1, hk2, rfl, hB, HN⟩ := hrel
    by_cases hlt : k < xs.length ∧ k < ys.length
    · obtain ⟨h1, h2⟩ := hlt
      have j1 : decide (k < xs.length) = true := decide_eq_true h1
      have j2 : decide (k < ys.length) = true := decide_eq_true h2
      obtain ⟨ba, oa, rfl, hp1, c0⟩ := (H.out.ch0 hB).at_ h1
      obtain ⟨bb, ob, rfl, hp2, c1⟩ := (H'.out.ch0 hB).at_ h2
      have HA := Lib.hid (HAt.out k h1 h2 (fun j hj => HN.out j _ _ hj))
      have HX : Hid (xs[k] = ys[k] → ∀ j (h1 : j < xs.length) (h2 : j < ys.length), j < k + 1 → xs[j] = ys[j]) := fun h0 j g1 g2 g3 => by
        rcases Nat.lt_succ_iff_lt_or_eq.1 g3 with g4 | g4
        · exact HN.out j g1 g2 g4
        · subst g4; exact h0
      have hx9 := HS1.out _ (List.getElem_mem h1)
      have hy9 := HS2.out _ (List.getElem_mem h2)
      have i1 : (k : Int) < (xs.length : Int) := by omega
      have i2 : (k : Int) < (ys.length : Int) := by omega
      generalize xs[k] = x at *
      generalize ys[k] = y at *
      have l0 := Later.cell c0
      have l1 := Later.cell c1
      by_cases hz : x = y
      · have HY := Lib.hid (HX.out hz)
        have e1 : (x != y) = false := by simpa using hz
        clear hz c0 c1
        go_wp2
        refine wp_region_later (by kernel_rfl) (lexB_of (by kernel_rfl)) ?_
        repeat (go_big_quiet_step (fail))
        refine wpQuiet_nil ?_
        intro w3 hw3
        clear l0 l1
        go_wp2
        go_roundw
        case rel => exact ⟨k + 1, by omega, by omega, by go_num, hB.trans hw3, HY⟩
        case measure => simp [intOf]; omega
      · have HF := Lib.hid (HA.out hz)
        have e1 : (x != y) = true := by simpa using hz
        clear hz
        go_wp2
        refine wp_region_later (by kernel_rfl) (lexB_of (by kernel_rfl)) ?_
        repeat (go_big_quiet_step (fail))
        refine wpQuiet_nil ?_
        intro w3 hw3
        clear l0 l1
        have c0 := cell_ch (S := []) c0 hw3 (by simp)
        have c1 := cell_ch (S := []) c1 hw3 (by simp)
        have l0 := Later.cell c0
        have l1 := Later.cell c1
        have hwr := wrap_dif hx9.1 hx9.2 hy9.1 hy9.2
        clear c0 c1
        go_wp2
        refine wp_region_later (by kernel_rfl) (lexB_of (by kernel_rfl)) ?_
        repeat (go_big_quiet_step (fail))
        refine wpQuiet_nil ?_
        intro w4 hw4
        clear l0 l1
        go_wp2
        go_ret
        exact ⟨by rw [HF.out]; first | rfl | (rw [← hwr]; rfl), hB.trans (hw3.trans hw4)⟩
    · have HE := Lib.hid (HEnd.out (fun j g1 g2 => HN.out j g1 g2 (by omega)))
      by_cases h1 : k < xs.length
      · have j1 : decide (k < xs.length) = true := decide_eq_true h1
        have j2 : decide (k < ys.length) = false := decide_eq_false (by omega)
        clear hlt h1
        go_wp2
        go_ret
        exact ⟨by rw [HE.out]; rfl, hB⟩
      · have j1 : decide (k < xs.length) = false := decide_eq_false h1
        clear hlt h1
        go_wp2
        go_ret
        exact ⟨by rw [HE.out]; rfl, hB⟩

set_option maxRecDepth 100000 in
set_option maxHeartbeats 4000000 in
theorem refCompareG_ (x y : Gr) (p q : Nat → Prop) (va vb vc vd : Value) (w : World) (h1 : SlI p w va x.ps) (h2 : SlI p w vb x.ns) (h3 : SlI q w vc y.ps) (h4 : SlI q w vd y.ns)
    (s1 : Small9 x.ps) (s2 : Small9 x.ns) (s3 : Small9 y.ps) (s4 : Small9 y.ns) (hx : 0 ≤ x.h ∧ x.h ≤ 1000000000) (hy : 0 ≤ y.h ∧ y.h ≤ 1000000000) :
    Calls Tryz.prog 55 #[.agg #[.int .i64 x.h, va, vb], .agg #[.int .i64 y.h, vc, vd]] w fun e w' => e = .returned (.int .i64 (difGr x y)) ∧ Ch [] w w' := by
  have hA := fun wz (hz : Ch [] w wz) => refInts_ p q va vc x.ps y.ps wz (h1.ch0 hz) (h3.ch0 hz) s1 s3
  have hB := fun wz (hz : Ch [] w wz) => refInts_ p q vb vd x.ns y.ns wz (h2.ch0 hz) (h4.ch0 hz) s2 s4
  have HE : Hid (difGr x y = if x.h ≠ y.h then x.h - y.h else if difIs x.ps y.ps ≠ 0 then difIs x.ps y.ps else difIs x.ns y.ns) := rfl
  obtain ⟨a1, c1, rfl, _, _⟩ := h1.form
  obtain ⟨a2, c2, rfl, _, _⟩ := h2.form
  obtain ⟨a3, c3, rfl, _, _⟩ := h3.form
  obtain ⟨a4, c4, rfl, _, _⟩ := h4.form
  clear h1 h2 h3 h4 s1 s2 s3 s4
  generalize difGr x y = R at *
  generalize difIs x.ps y.ps = r2 at *
  generalize difIs x.ns y.ns = r3 at *
  generalize x.h = xh at *
  generalize y.h = yh at *
  generalize x.ps.length = n1 at *
  generalize x.ns.length = n2 at *
  generalize y.ps.length = n3 at *
  generalize y.ns.length = n4 at *
  obtain ⟨wB, hwB⟩ : ∃ wB, (w.alloc (.cells #[.int .i64 xh, .slice a1 n1 c1, .slice a2 n2 c2] 44)).alloc (.cells #[.int .i64 yh, .slice a3 n3 c3, .slice a4 n4 c4] 44) = wB := ⟨_, rfl⟩
  have g0 : Blk wB w.heap.size 44 #[.int .i64 xh, .slice a1 n1 c1, .slice a2 n2 c2] := by rw [← hwB]; exact (Blk.new _ _ _).alloc _
  have g1 : Blk wB (w.heap.size + 1) 44 #[.int .i64 yh, .slice a3 n3 c3, .slice a4 n4 c4] := by rw [← hwB]; exact Blk.new' _ _ _ _ (by simp)
  have hcB : Ch [] w wB := by rw [← hwB]; exact ((Ch.refl _ _).alloc _).alloc _
  have b0 := g0.cell 0
  have b1 := g0.cell 1
  have b2 := g0.cell 2
  have b3 := g1.cell 0
  have b4 := g1.cell 1
  have b5 := g1.cell 2
  obtain ⟨hx1, hx2⟩ := hx
  obtain ⟨hy1, hy2⟩ := hy
  by_cases e1 : xh = yh
  · have HE2 : Hid (R = if r2 ≠ 0 then r2 else r3) := by unfold Hid; rw [HE.out, if_neg (fun h => h e1)]
    have t1 : (xh != yh) = false := by simpa using e1
    clear HE e1
    by_cases e2 : r2 = 0
    · have HX : Hid (R = r3) := by unfold Hid; rw [HE2.out, if_neg (fun h => h e2)]
      subst e2
      clear HE2
      go_enter Tryz.func55, Tryz.ntmps55
      go_wp2_with (first
        | (go_at_call_of 80 (Value.slice a1 n1 c1); with_reducible refine (hA _ hcB).mono ?_; rintro e w1 ⟨rfl, hd1⟩; have d2 := (g0.ch hd1 (by simp)).cell 2; have d5 := (g1.ch hd1 (by simp)).cell 2)
        | (go_at_call_of 80 (Value.slice a2 n2 c2); with_reducible refine (hB _ (hcB.trans hd1)).mono ?_; rintro e w2 ⟨rfl, hd2⟩))
      go_ret
      exact ⟨by rw [HX.out]; rfl, (hcB.trans hd1).trans hd2⟩
    · have HX : Hid (R = r2) := by unfold Hid; rw [HE2.out, if_pos e2]
      have t2 : (r2 != 0) = true := by simpa using e2
      clear HE2 e2
      go_enter Tryz.func55, Tryz.ntmps55
      go_wp2_with (go_at_call_of 80 (Value.slice a1 n1 c1); with_reducible refine (hA _ hcB).mono ?_; rintro e w1 ⟨rfl, hd1⟩)
      go_ret
      exact ⟨by rw [HX.out]; rfl, hcB.trans hd1⟩
  · have HX : Hid (R = xh - yh) := by unfold Hid; rw [HE.out, if_pos e1]
    have t1 : (xh != yh) = true := by simpa using e1
    clear HE e1
    go_enter Tryz.func55, Tryz.ntmps55
    go_wp2
    go_ret
    exact ⟨by rw [HX.out]; rfl, hcB⟩
end

section
open Go.RowKit

theorem small_of {N : Nat} (hN : N ≤ 1000000) {x : Gr} (h : grOk N x = true) : (0 ≤ x.h ∧ x.h < N) ∧ Small9 x.ps ∧ Small9 x.ns := by
  have h0 := grOk_h h
  simp only [numIn, Bool.and_eq_true, decide_eq_true_eq] at h0
  refine ⟨h0, fun n hn => ?_, fun n hn => ?_⟩
  · have := grOk_p h n hn
    simp only [numIn, Bool.and_eq_true, decide_eq_true_eq] at this
    omega
  · have := grOk_n h n hn
    simp only [numIn, Bool.and_eq_true, decide_eq_true_eq] at this
    omega

set_option maxRecDepth 100000 in
set_option maxHeartbeats 8000000 in
theorem refValidG_ (A : List Tm) (rs : List Gr) (B b : Nat) (hN : ∀ t ∈ A, Nice B b t) (hBm : B ≤ maxLen) (p : Nat → Prop) (va vr : Value) (w : World) (hA : SlT p w va A) (hR : SlGr p w vr rs) (hd : ∀ t ∈ A, t.dep ≤ 1000000) (hlen : A.length ≤ 1000000)
    (hlr : rs.length ≤ 1000000) (hps : ∀ x ∈ rs, x.ps.length ≤ 1000000 ∧ x.ns.length ≤ 1000000) :
    Calls Tryz.prog 32 #[.agg #[va, vr]] w fun e w' => e = .returned (.bool (gdOk A rs)) ∧ Ch [] w w' := by
  have hls := fun wz (hz : Ch [] w wz) => refAtoms13_ A B b hN hBm p va wz (hA.ch0 hz) hd hlen
  have HPS := Lib.hid hps; clear hps
  obtain ⟨aA, cA, rfl, _, _⟩ := hA.form
  obtain ⟨aR, cR, rfl, hlc, hm⟩ := hR.form
  unfold maxLen at hm
  clear hN hBm hA hd
  have HG : Hid (gdOk A rs = (atmsOk A && (decide (rs.length ≤ 2048) && grsOk A.length rs))) := rfl
  generalize gdOk A rs = R at *
  generalize A.length = N at *
  have hbx := Blk.new w 25 #[.slice aA N cA, .slice aR rs.length cR]
  have hcA : Ch [] w (w.alloc (.cells #[.slice aA N cA, .slice aR rs.length cR] 25)) := (Ch.refl _ _).alloc _
  generalize hwA : (w.alloc (.cells #[.slice aA N cA, .slice aR rs.length cR] 25)) = wA at *
  have b0 := hbx.cell 0
  have b1 := hbx.cell 1
  cases hq : atmsOk A with
  | false =>
    rw [hq] at hls
    have HF : Hid (R = false) := by unfold Hid; rw [HG.out, hq]; rfl
    clear HG hq
    go_enter Tryz.func32, Tryz.ntmps32
    go_wp2_with (go_at_call 54; refine (hls _ hcA).mono ?_; rintro e w1 ⟨rfl, hc1⟩; have y1 := (hbx.ch hc1 (by simp)).cell 1)
    go_ret
    exact ⟨by rw [HF.out]; rfl, hcA.trans hc1⟩
  | true =>
  rw [hq] at hls
  by_cases h5 : 2048 < rs.length
  · have j0 : decide ((2048 : Int) < (rs.length : Int)) = true := decide_eq_true (by omega)
    have HF : Hid (R = false) := by unfold Hid; rw [HG.out, decide_eq_false (by omega)]; simp
    clear HG h5 hq
    go_enter Tryz.func32, Tryz.ntmps32
    go_wp2_with (go_at_call 54; refine (hls _ hcA).mono ?_; rintro e w1 ⟨rfl, hc1⟩; have y1 := (hbx.ch hc1 (by simp)).cell 1)
    go_ret
    exact ⟨by rw [HF.out]; rfl, hcA.trans hc1⟩
  have j0 : decide ((2048 : Int) < (rs.length : Int)) = false := decide_eq_false (by omega)
  have HR : Hid (R = chainB (grOk N) (fun a b => decide (cmpGr a b < 0)) rs) := by unfold Hid; rw [HG.out, hq, decide_eq_true (by omega), grsOk_chain]; rfl
  have HBad0 : Hid (∀ i (hi : i < rs.length), grOk N rs[i] = false → R = false) := fun i hi hq => by rw [HR.out]; exact chainB_bad hi (.inl hq)
  have HBad1 : Hid (∀ i (hi : i < rs.length) (h0 : 0 < i), 0 ≤ cmpGr (rs[i - 1]'(by omega)) rs[i] → R = false) := fun i hi h0 hq => by rw [HR.out]; exact chainB_bad hi (.inr ⟨h0, decide_eq_false (by omega)⟩)
  have HEnd : Hid ((∀ i (hi : i < rs.length), grOk N rs[i] = true ∧ ∀ (h0 : 0 < i), cmpGr (rs[i - 1]'(by omega)) rs[i] < 0) → R = true) := fun hq => by
    rw [HR.out]; exact chainB_good (fun i hi => (hq i hi).1) (fun i hi h0 => decide_eq_true ((hq i hi).2 h0))
  clear HG HR h5 hq
  go_enter Tryz.func32, Tryz.ntmps32
  go_wp2_with (go_at_call 54; refine (hls _ hcA).mono ?_; rintro e w1 ⟨rfl, hc1⟩; have y1 := (hbx.ch hc1 (by simp)).cell 1)
  clear hls b0 b1
  go_loopw [3, 4] (fun i _ wr => ∃ k : Nat, k ≤ rs.length ∧ i = .int .i64 k ∧ Ch [] wA wr ∧ Hid (∀ j (hj : j < rs.length), j < k → grOk N rs[j] = true ∧ ∀ (h0 : 0 < j), cmpGr (rs[j - 1]'(by omega)) rs[j] < 0)) (fun i _ _ => rs.length - (intOf i).toNat)
  case atStart => exact ⟨0, Nat.zero_le _, rfl, hc1, fun j _ h => absurd h (Nat.not_lt_zero _)⟩
  case round =>
    obtain ⟨k, hk, rfl, hB, HN⟩ := hrel
    have hwB := hcA.trans hB
    by_cases hlt : k < rs.length
    · have j1 : decide (k < rs.length) = true := decide_eq_true hlt
      obtain ⟨bk, o, a1, c1, a2, c2, rfl, hp, d0, d1, d2, hP, hG⟩ := (hR.ch0 hwB).at_ hlt
      have HB0 := Lib.hid (HBad0.out k hlt)
      have HPre : Hid (∀ (h0 : 0 < k), ∃ a3 c3 a4 c4, wr.cell? ⟨bk, o + (k - 1) * 3, none⟩ = some (.int .i64 (rs[k - 1]'(by omega)).h) ∧ wr.cell? ⟨bk, o + (k - 1) * 3 + 1, none⟩ = some (.slice a3 (rs[k - 1]'(by omega)).ps.length c3) ∧ wr.cell? ⟨bk, o + (k - 1) * 3 + 2, none⟩ = some (.slice a4 (rs[k - 1]'(by omega)).ns.length c4) ∧
          SlI p wr (.slice a3 (rs[k - 1]'(by omega)).ps.length c3) (rs[k - 1]'(by omega)).ps ∧ SlI p wr (.slice a4 (rs[k - 1]'(by omega)).ns.length c4) (rs[k - 1]'(by omega)).ns) := fun h0 => by
        have hk1 : k - 1 < rs.length := by omega
        obtain ⟨b2, o2, a3, c3, a4, c4, e, _, e0, e1, e2, hT2, hT3⟩ := (hR.ch0 hwB).at_ hk1
        injection e with e
        injection e with e1' e2'
        subst e1' e2'
        exact ⟨a3, c3, a4, c4, e0, e1, e2, hT2, hT3⟩
      have HNx : Hid (grOk N rs[k] = true → (∀ (h0 : 0 < k), cmpGr (rs[k - 1]'(by omega)) rs[k] < 0) → ∀ j (hj : j < rs.length), j < k + 1 → grOk N rs[j] = true ∧ ∀ (h0 : 0 < j), cmpGr (rs[j - 1]'(by omega)) rs[j] < 0) := fun h1 h2 j hj h3 => by
        rcases Nat.lt_succ_iff_lt_or_eq.1 h3 with h4 | h4
        · exact HN.out j hj h4
        · subst h4; exact ⟨h1, h2⟩
      have HB1 := Lib.hid (HBad1.out k hlt)
      have hpl := HPS.out _ (List.getElem_mem hlt)
      have HOK : Hid (grOk N rs[k] = (numIn N rs[k].h && (factsOk N rs[k].ps && factsOk N rs[k].ns))) := grOk_facts N rs[k]
      generalize hx : rs[k] = x at *
      clear hx
      have r1 := (hbx.ch hB (by simp)).cell 1
      obtain ⟨wN, hwN⟩ : ∃ wN, wr.alloc (.cells #[.int .i64 x.h, .slice a1 x.ps.length c1, .slice a2 x.ns.length c2] 44) = wN := ⟨_, rfl⟩
      have hcN : Ch [] wr wN := by rw [← hwN]; exact (Ch.refl _ _).alloc _
      have hbn : Blk wN wr.heap.size 44 #[.int .i64 x.h, .slice a1 x.ps.length c1, .slice a2 x.ns.length c2] := by rw [← hwN]; exact Blk.new _ _ _
      have hbg := (hbx.ch hB (by simp)).ch hcN (by simp)
      have l0 := Later.cell (hbn.cell 0)
      have l1 := Later.cell (hbn.cell 1)
      have l2 := Later.cell (hbn.cell 2)
      have k0 := Later.cell (hbg.cell 0)
      have k1 := Later.cell (hbg.cell 1)
      have hPN := hP.ch0 hcN
      have hGN := hG.ch0 hcN
      have qp := fun z : Later wN => later_call (refNumbers_ N _ _ x.ps z.w (hPN.ch0 z.ch) hpl.1 hlen)
      have qn := fun z : Later wN => later_call (refNumbers_ N _ _ x.ns z.w (hGN.ch0 z.ch) hpl.2 hlen)
      have HSM : Hid (grOk N x = true → (0 ≤ x.h ∧ x.h < N) ∧ Small9 x.ps ∧ Small9 x.ns) := fun hq => small_of hlen hq
      obtain ⟨q0, e0⟩ : ∃ q0, numIn N x.h = q0 := ⟨_, rfl⟩
      rw [e0] at HOK
      clear hpl
      generalize factsOk N x.ps = q1 at *
      generalize factsOk N x.ns = q2 at *
      by_cases hok : (q0 && (q1 && q2)) = true
      · simp only [Bool.and_eq_true] at hok
        obtain ⟨rfl, rfl, rfl⟩ := hok
        have HOK2 : Hid (grOk N x = true) := by unfold Hid; rw [HOK.out]; rfl
        have hsm := HSM.out HOK2.out
        have t0 : decide (x.h < 0) = false := decide_eq_false (by omega)
        have t1 : decide ((N : Int) ≤ x.h) = false := decide_eq_false (by omega)
        clear HB0 HOK HSM e0
        cases k with
        | zero =>
          have HY := Lib.hid (HNx.out HOK2.out (fun h0 => absurd h0 (by omega)))
          simp only [Nat.zero_mul, Nat.add_zero] at d0 d1 d2
          clear HB1 HNx HPre hsm
          go_wp2
          refine wp_region_later (by kernel_rfl) (lexB_of (by kernel_rfl)) ?_
          repeat (go_big_quiet_step (first | ((go_at_call_of 27 (Value.slice a1 x.ps.length c1); with_reducible exact qp _)) | ((go_at_call_of 27 (Value.slice a2 x.ns.length c2); with_reducible exact qn _))))
          refine wpQuiet_nil ?_
          intro w6 hw6
          clear l0 l1 l2 k0 k1
          go_wp2
          go_roundw
          case rel => exact ⟨1, by omega, by go_num, hB.trans (hcN.trans hw6), HY⟩
          case measure => simp [intOf]; omega
        | succ j =>
          obtain ⟨a3, c3, a4, c4, n0, n1, n2, hT3, hT4⟩ := HPre.out (by omega)
          have HNy := Lib.hid (fun (hq : cmpGr (rs[j]'(by omega)) x < 0) => HNx.out HOK2.out (fun _ => hq))
          have hoy := (HN.out j (by omega) (by omega)).1
          clear HPre HNx
          simp only [Nat.add_sub_cancel] at n0 n1 n2 hT3 hT4 HB1
          obtain ⟨hj1, hj2, hj3⟩ := wrap_sub1 j (by omega)
          have HB2 := Lib.hid (HB1.out (by omega))
          clear HB1
          generalize rs[j]'(by omega) = y at *
          have hsy := small_of hlen hoy
          have n0 := Later.cell (cell_ch (S := []) n0 hcN (by simp))
          have n1 := Later.cell (cell_ch (S := []) n1 hcN (by simp))
          have n2 := Later.cell (cell_ch (S := []) n2 hcN (by simp))
          have qc := fun z : Later wN => later_call (refCompareG_ y x _ _ _ _ _ _ z.w ((hT3.ch0 hcN).ch0 z.ch) ((hT4.ch0 hcN).ch0 z.ch) (hPN.ch0 z.ch) (hGN.ch0 z.ch) hsy.2.1 hsy.2.2 hsm.2.1 hsm.2.2 (by have := hsy.1; omega) (by have := hsm.1; omega))
          have HCD := Lib.hid (cmpGr_dif y x)
          clear hoy hsy hsm hT3 hT4
          generalize cmpGr y x = r0 at *
          generalize difGr y x = r at *
          by_cases hr : 0 ≤ r
          · have j2 : decide (0 ≤ r) = true := decide_eq_true hr
            have HF := Lib.hid (HB2.out (Int.not_lt.1 fun h => absurd (HCD.out.1 h) (by omega)))
            clear hr
            go_wp2
            refine wp_region_later (by kernel_rfl) (lexB_of (by kernel_rfl)) ?_
            repeat (go_big_quiet_step (first | ((go_at_call_of 27 (Value.slice a1 x.ps.length c1); with_reducible exact qp _)) | ((go_at_call_of 27 (Value.slice a2 x.ns.length c2); with_reducible exact qn _)) | ((go_at_call 55; with_reducible exact qc _))))
            refine wpQuiet_nil ?_
            intro w6 hw6
            clear l0 l1 l2 k0 k1 n0 n1 n2
            go_wp2
            go_ret
            exact ⟨by rw [HF.out]; rfl, hcA.trans (hB.trans (hcN.trans hw6))⟩
          · have j2 : decide (0 ≤ r) = false := decide_eq_false hr
            have HY := Lib.hid (HNy.out (HCD.out.2 (by omega)))
            clear hr
            go_wp2
            refine wp_region_later (by kernel_rfl) (lexB_of (by kernel_rfl)) ?_
            repeat (go_big_quiet_step (first | ((go_at_call_of 27 (Value.slice a1 x.ps.length c1); with_reducible exact qp _)) | ((go_at_call_of 27 (Value.slice a2 x.ns.length c2); with_reducible exact qn _)) | ((go_at_call 55; with_reducible exact qc _))))
            refine wpQuiet_nil ?_
            intro w6 hw6
            clear l0 l1 l2 k0 k1 n0 n1 n2 hj1 hj2 hj3
            go_wp2
            go_roundw
            case rel => exact ⟨j + 1 + 1, by omega, by go_num, hB.trans (hcN.trans hw6), HY⟩
            case measure => simp [intOf]; omega
      · have HF := Lib.hid (HB0.out (by rw [HOK.out]; simpa using hok))
        clear HB0 HB1 HOK HNx HPre HSM
        by_cases h0 : x.h < 0
        · have t0 : decide (x.h < 0) = true := decide_eq_true h0
          clear hok h0 e0
          go_wp2
          refine wp_region_later (by kernel_rfl) (lexB_of (by kernel_rfl)) ?_
          repeat (go_big_quiet_step (first | ((go_at_call_of 27 (Value.slice a1 x.ps.length c1); with_reducible exact qp _)) | ((go_at_call_of 27 (Value.slice a2 x.ns.length c2); with_reducible exact qn _))))
          refine wpQuiet_nil ?_
          intro w6 hw6
          clear l0 l1 l2 k0 k1
          go_wp2
          go_ret
          exact ⟨by rw [HF.out]; rfl, hcA.trans (hB.trans (hcN.trans hw6))⟩
        · have t0 : decide (x.h < 0) = false := decide_eq_false h0
          by_cases h1 : (N : Int) ≤ x.h
          · have t1 : decide ((N : Int) ≤ x.h) = true := decide_eq_true h1
            clear hok h0 h1 e0
            go_wp2
            refine wp_region_later (by kernel_rfl) (lexB_of (by kernel_rfl)) ?_
            repeat (go_big_quiet_step (first | ((go_at_call_of 27 (Value.slice a1 x.ps.length c1); with_reducible exact qp _)) | ((go_at_call_of 27 (Value.slice a2 x.ns.length c2); with_reducible exact qn _))))
            refine wpQuiet_nil ?_
            intro w6 hw6
            clear l0 l1 l2 k0 k1
            go_wp2
            go_ret
            exact ⟨by rw [HF.out]; rfl, hcA.trans (hB.trans (hcN.trans hw6))⟩
          · have t1 : decide ((N : Int) ≤ x.h) = false := decide_eq_false h1
            have eh : q0 = true := by rw [← e0, numIn, decide_eq_true (by omega), decide_eq_true (by omega)]; rfl
            clear e0 h0 h1
            subst eh
            cases q1
            · clear hok
              go_wp2
              refine wp_region_later (by kernel_rfl) (lexB_of (by kernel_rfl)) ?_
              repeat (go_big_quiet_step (first | ((go_at_call_of 27 (Value.slice a1 x.ps.length c1); with_reducible exact qp _)) | ((go_at_call_of 27 (Value.slice a2 x.ns.length c2); with_reducible exact qn _))))
              refine wpQuiet_nil ?_
              intro w6 hw6
              clear l0 l1 l2 k0 k1
              go_wp2
              go_ret
              exact ⟨by rw [HF.out]; rfl, hcA.trans (hB.trans (hcN.trans hw6))⟩
            · cases q2
              · clear hok
                go_wp2
                refine wp_region_later (by kernel_rfl) (lexB_of (by kernel_rfl)) ?_
                repeat (go_big_quiet_step (first | ((go_at_call_of 27 (Value.slice a1 x.ps.length c1); with_reducible exact qp _)) | ((go_at_call_of 27 (Value.slice a2 x.ns.length c2); with_reducible exact qn _))))
                refine wpQuiet_nil ?_
                intro w6 hw6
                clear l0 l1 l2 k0 k1
                go_wp2
                go_ret
                exact ⟨by rw [HF.out]; rfl, hcA.trans (hB.trans (hcN.trans hw6))⟩
              · exact absurd rfl hok
    · have j1 : decide (k < rs.length) = false := decide_eq_false hlt
      have HF := Lib.hid (HEnd.out (fun i hi => HN.out i hi (by omega)))
      have b1 := (hbx.ch hB (by simp)).cell 1
      go_wp2
      go_ret
      exact ⟨by rw [HF.out]; rfl, hcA.trans hB⟩
end
end Go.Proofs.YtojokdicbopknaaGreat
