
/-
  The contract of model.Derivation.
  The contract of ref14.fires.
  The contract of ref14.why.
-/
import Derived.Test.YtojokdicbopknaaGreatGdDrv
namespace Go.Proofs.YtojokdicbopknaaGreat

section
open Go.RowKit

/-- what Derivation answers -/
def DeAns (A : List Tm) (rs : List Gr) (F : List Int) (n : Int) (out : List Int) (ok : Bool) : Prop :=
  ((evA A rs F).1 = 0 ∧ numIn A.length n = true ∧ 0 ≤ gI (evA A rs F).2.2 n ∧ ok = true ∧ ∃ f, Deep (evA A rs F).2.1 (evA A rs F).2.2 rs f n ∧ out = derO (evA A rs F).2.1 (evA A rs F).2.2 rs f n []) ∨
  (¬ ((evA A rs F).1 = 0 ∧ numIn A.length n = true ∧ 0 ≤ gI (evA A rs F).2.2 n) ∧ ok = false ∧ out = [])
attribute [local go_sem] run_store_func
set_option maxRecDepth 100000 in
set_option maxHeartbeats 4000000 in
theorem derivation_ (A : List Tm) (rs : List Gr) (F : List Int) (n : Int) (p : Nat → Prop) (va vr vf : Value) (w : World) (hA : SlT p w va A) (hR : SlGr p w vr rs) (hF : SlI p w vf F) (hb : GdBnd A rs) (hFl : F.length ≤ 1000000) :
    Calls Tryz.prog 22 #[.agg #[va, vr], vf, .int .i64 n] w fun e w' => ∃ v out ok, e = .returned (.tuple #[v, .bool ok]) ∧ SlI (fun b => w.heap.size ≤ b) w' v out ∧ DeAns A rs F n out ok ∧ Ch [] w w' := by
  have HEV := Lib.hid (fun wz (hz : Ch [] w wz) => evaluated_ A rs F _ _ _ _ wz (hA.ch0 hz) (hR.ch0 hz) (hF.ch0 hz) hb hFl)
  have hAl := hb.fit.a
  have HPX := Lib.hid hb.fit.x
  obtain ⟨aA, cA, rfl, _, _⟩ := hA.form
  obtain ⟨aR, cR, rfl, _, _⟩ := hR.form
  have hbn := Blk.new w 25 #[.slice aA A.length cA, .slice aR rs.length cR]
  have hcA : Ch [] w (w.alloc (.cells #[.slice aA A.length cA, .slice aR rs.length cR] 25)) := (Ch.refl _ _).alloc _
  have x0 := hbn.cell 0
  have x1 := hbn.cell 1
  have hcall := HEV.out _ hcA
  have HRR := Lib.hid (hR.weak (q := fun _ => True) (fun _ _ _ => trivial))
  clear hA hR hF hb HEV
  generalize hwA : (w.alloc (.cells #[.slice aA A.length cA, .slice aR rs.length cR] 25)) = wA at *
  rcases evA_cases A rs F with he | he | ⟨st, hgd, hfo, hst, he⟩
  all_goals
    rw [he] at hcall
  · have HN : Hid (DeAns A rs F n [] false) := .inr ⟨(by rw [he]; rintro ⟨h, _⟩; exact absurd h (by decide)), rfl, rfl⟩
    clear he
    go_enter Tryz.func22, Tryz.ntmps22
    go_wp2_with (first | (go_at_call 36; ((with_reducible refine hcall.mono ?_); rintro e w1 ⟨v1, v2, rfl, h1, h2, hc1⟩; clear hcall; have g0 := (hbn.ch hc1 (by simp)).cell 0; have g1 := (hbn.ch hc1 (by simp)).cell 1; obtain ⟨a1, c1, rfl, _, _⟩ := h1.form; obtain ⟨a2, c2, rfl, _, _⟩ := h2.form)))
    go_ret2
    exact ⟨_, [], false, rfl, SlI.nilZ _ _, HN.out, (((hcA.trans hc1).alloc _).alloc _)⟩
  · have HN : Hid (DeAns A rs F n [] false) := .inr ⟨(by rw [he]; rintro ⟨h, _⟩; exact absurd h (by decide)), rfl, rfl⟩
    clear he
    go_enter Tryz.func22, Tryz.ntmps22
    go_wp2_with (first | (go_at_call 36; ((with_reducible refine hcall.mono ?_); rintro e w1 ⟨v1, v2, rfl, h1, h2, hc1⟩; clear hcall; have g0 := (hbn.ch hc1 (by simp)).cell 0; have g1 := (hbn.ch hc1 (by simp)).cell 1; obtain ⟨a1, c1, rfl, _, _⟩ := h1.form; obtain ⟨a2, c2, rfl, _, _⟩ := h2.form)))
    go_ret2
    exact ⟨_, [], false, rfl, SlI.nilZ _ _, HN.out, (((hcA.trans hc1).alloc _).alloc _)⟩
  · have hl := ranksR_len st rs A.length F
    have hl2 := stA_len hst
    have HOK := Lib.hid (gdOk_rules hgd).1
    have HL := Lib.hid hl
    have HL2 := Lib.hid hl2
    have HRS := Lib.hid (show RsOk A.length st rs from ⟨(gdOk_rules hgd).1, fun x hx => ((stA_ok hst (gdOk_rules hgd).1).2 x hx).1, fun x hx => ((stA_ok hst (gdOk_rules hgd).1).2 x hx).2⟩)
    have HST0 := Lib.hid (stA_ok hst (gdOk_rules hgd).1).1
    have HRK := Lib.hid (ranksR_ok HRS.out hl2 HST0.out (by simp only [factsOk, Bool.and_eq_true] at hfo; exact hfo.1))
    clear hgd hst hfo
    simp only at hcall
    generalize ranksR st rs A.length F = rk at *
    by_cases t0 : n < 0
    · have HN : Hid (DeAns A rs F n [] false) := .inr ⟨(by rw [he]; exact fun h => by (have := h.2.1; simp [numIn] at this; omega)), rfl, rfl⟩
      clear hl hl2 he
      have j0 : decide (n < 0) = true := decide_eq_true t0
      go_enter Tryz.func22, Tryz.ntmps22
      go_wp2_with (first | (go_at_call 36; ((with_reducible refine hcall.mono ?_); rintro e w1 ⟨v1, v2, rfl, h1, h2, hc1⟩; clear hcall; have g0 := (hbn.ch hc1 (by simp)).cell 0; have g1 := (hbn.ch hc1 (by simp)).cell 1; obtain ⟨a1, c1, rfl, _, _⟩ := h1.form; obtain ⟨a2, c2, rfl, _, _⟩ := h2.form)))
      go_ret2
      exact ⟨_, [], false, rfl, SlI.nilZ _ _, HN.out, (((hcA.trans hc1).alloc _).alloc _)⟩
    · by_cases t1 : (A.length : Int) ≤ n
      · have HN : Hid (DeAns A rs F n [] false) := .inr ⟨(by rw [he]; exact fun h => by (have := h.2.1; simp [numIn] at this; omega)), rfl, rfl⟩
        have j0 : decide (n < 0) = false := decide_eq_false t0
        have j1 : decide ((rk.length : Int) ≤ n) = true := decide_eq_true (by omega)
        clear hl hl2 he
        go_enter Tryz.func22, Tryz.ntmps22
        go_wp2_with (first | (go_at_call 36; ((with_reducible refine hcall.mono ?_); rintro e w1 ⟨v1, v2, rfl, h1, h2, hc1⟩; clear hcall; have g0 := (hbn.ch hc1 (by simp)).cell 0; have g1 := (hbn.ch hc1 (by simp)).cell 1; obtain ⟨a1, c1, rfl, _, _⟩ := h1.form; obtain ⟨a2, c2, rfl, _, _⟩ := h2.form)))
        go_ret2
        exact ⟨_, [], false, rfl, SlI.nilZ _ _, HN.out, (((hcA.trans hc1).alloc _).alloc _)⟩
      · have hlt : n.toNat < rk.length := by omega
        obtain ⟨m, hm⟩ : ∃ m : Nat, n = (m : Int) := ⟨n.toNat, by omega⟩
        subst hm
        rw [Int.toNat_natCast] at hlt
        have j0 : decide ((m : Int) < 0) = false := decide_eq_false t0
        have j1 : decide ((rk.length : Int) ≤ (m : Int)) = false := decide_eq_false (by omega)
        have hG := gI_at hlt
        have i1 : (m : Int) < (rk.length : Int) := by omega
        have i2 : (0 : Int) ≤ (m : Int) := by omega
        have hmA : m < A.length := by omega
        clear hl hl2
        by_cases t2 : rk[m] < 0
        · have HN : Hid (DeAns A rs F (m : Int) [] false) := .inr ⟨(by rw [he]; exact fun h => by (have := h.2.2; simp only at this; rw [hG] at this; omega)), rfl, rfl⟩
          have j2 : decide (rk[m] < 0) = true := decide_eq_true t2
          clear hG he
          go_enter Tryz.func22, Tryz.ntmps22
          go_wp2_with (first | (go_at_call 36; ((with_reducible refine hcall.mono ?_); rintro e w1 ⟨v1, v2, rfl, h1, h2, hc1⟩; clear hcall; have g0 := (hbn.ch hc1 (by simp)).cell 0; have g1 := (hbn.ch hc1 (by simp)).cell 1; obtain ⟨a1, c1, rfl, _, _⟩ := h1.form; obtain ⟨a2, c2, rfl, _, _⟩ := h2.form; obtain ⟨b2, o2, rfl, _, d2⟩ := h2.at_ hlt)))
          go_ret2
          exact ⟨_, [], false, rfl, SlI.nilZ _ _, HN.out, (((hcA.trans hc1).alloc _).alloc _)⟩
        · have j2 : decide (rk[m] < 0) = false := decide_eq_false t2
          obtain ⟨f, hf⟩ := deep_ex HRS.out (fun k hk => by obtain ⟨q, hq, rfl⟩ := numIn_nat hk; rw [gI_at (by rw [HL2.out]; exact hq)]; exact HST0.out _ (List.getElem_mem _)) (rk := rk) (m : Int) (by simp [numIn]; omega)
          have HDE := Lib.hid (show DeAns A rs F (m : Int) (derO st rk rs f (m : Int) []) true from .inl (by rw [he]; exact ⟨rfl, by simp [numIn]; omega, by (simp only; rw [hG]; omega), rfl, f, hf, rfl⟩))
          have HPR : Hid (DvPre st rk rs rk.length (List.replicate rk.length false) [] (m : Int)) := ⟨by rw [List.length_replicate], fun k hk hw => by (unfold whyIn at hw; cases hq : whyI st rk rs (k : Int) <;> simp [hq] at hw), fun k hk hw => by simp at hw⟩
          have HNF : Hid (nfB (List.replicate rk.length false) ≤ 1000) := by have h1 : nfB (List.replicate rk.length false) ≤ (List.replicate rk.length false).length := List.countP_le_length; rw [List.length_replicate, HL.out] at h1; rw [HL.out]; unfold Hid; omega
          have HGP := Lib.hid (show 0 ≤ gI rk (m : Int) by rw [hG]; omega)
          have HDF := Lib.hid hf
          clear hG he hf
          go_enter Tryz.func22, Tryz.ntmps22
          go_wp2_with (go_at_call 36; ((with_reducible refine hcall.mono ?_); rintro e w1 ⟨v1, v2, rfl, h1, h2, hc1⟩; clear hcall; have g0 := (hbn.ch hc1 (by simp)).cell 0; have g1 := (hbn.ch hc1 (by simp)).cell 1; obtain ⟨a1, c1, rfl, _, _⟩ := h1.form; obtain ⟨a2, c2, rfl, _, _⟩ := h2.form; have hX : Ch [] w1 ((w1.alloc (.cells #[.slice a1 st.length c1] 28)).alloc (.cells #[.slice a2 rk.length c2] 28)) := ((Ch.refl _ _).alloc _).alloc _; obtain ⟨b2, o2, eb, _, d2⟩ := (h2.ch0 hX).at_ hlt; subst eb; have bS := (Blk.new w1 28 #[.slice a1 st.length c1]).alloc (.cells #[.slice (some ⟨b2, o2, none⟩) rk.length c2] 28); have bK := Blk.new' (w1.alloc (.cells #[.slice a1 st.length c1] 28)) (w1.heap.size + 1) 28 #[.slice (some ⟨b2, o2, none⟩) rk.length c2] (by simp); have k0 := bK.cell 0; obtain ⟨w5, hmk, ho5, hc5⟩ := makeBools ((w1.alloc (.cells #[.slice a1 st.length c1] 28)).alloc (.cells #[.slice (some ⟨b2, o2, none⟩) rk.length c2] 28)) rk.length (by have := HL.out; omega); have k5 := (bK.ch hc5 (by simp)).cell 0))
          have hX2 : Ch [] w1 ((w1.alloc (.cells #[.slice a1 st.length c1] 28)).alloc (.cells #[.slice (some ⟨b2, o2, none⟩) rk.length c2] 28)) := ((Ch.refl _ _).alloc _).alloc _
          have hBDlt := (ho5.lt (b := ((w1.alloc (.cells #[.slice a1 st.length c1] 28)).alloc (.cells #[.slice (some ⟨b2, o2, none⟩) rk.length c2] 28)).heap.size) rfl).2
          have hszX : ((w1.alloc (.cells #[.slice a1 st.length c1] 28)).alloc (.cells #[.slice (some ⟨b2, o2, none⟩) rk.length c2] 28)).heap.size = w1.heap.size + 1 + 1 := by simp
          rw [hszX] at ho5 hBDlt
          have hsz1 := (hcA.trans hc1).size
          have hbnl := (hbn.ch hc1 (by simp)).lt
          have hY : Ch [] w5 (((w5.alloc (.cells #[.slice (some ⟨w1.heap.size + 1 + 1, 0, none⟩) rk.length rk.length] 64)).alloc (.cells #[.slice none 0 0] 28)).alloc (.cells #[(.func (.func 40) #[] #[.pointer (some ⟨w5.heap.size, 0, none⟩), .pointer (some ⟨w1.heap.size + 1, 0, none⟩), .pointer (some ⟨w.heap.size, 0, none⟩), .pointer (some ⟨w1.heap.size, 0, none⟩), .pointer (some ⟨w5.heap.size + 1 + 1, 0, none⟩), .pointer (some ⟨w5.heap.size + 1, 0, none⟩)])] 65)) := (((Ch.refl _ _).alloc _).alloc _).alloc _
          have hQ := hX2.trans hc5
          have hDv : DvAt (((w5.alloc (.cells #[.slice (some ⟨w1.heap.size + 1 + 1, 0, none⟩) rk.length rk.length] 64)).alloc (.cells #[.slice none 0 0] 28)).alloc (.cells #[(.func (.func 40) #[] #[.pointer (some ⟨w5.heap.size, 0, none⟩), .pointer (some ⟨w1.heap.size + 1, 0, none⟩), .pointer (some ⟨w.heap.size, 0, none⟩), .pointer (some ⟨w1.heap.size, 0, none⟩), .pointer (some ⟨w5.heap.size + 1 + 1, 0, none⟩), .pointer (some ⟨w5.heap.size + 1, 0, none⟩)])] 65)) w5.heap.size (w1.heap.size + 1) w.heap.size w1.heap.size (w5.heap.size + 1 + 1) (w5.heap.size + 1) (w1.heap.size + 1 + 1) rk.length (.slice aA A.length cA) (.slice aR rs.length cR) (.slice a1 st.length c1) (.slice (some ⟨b2, o2, none⟩) rk.length c2) (.slice none 0 0) st rk rs (List.replicate rk.length false) [] :=
            ⟨((Blk.new w5 64 _).alloc _).alloc _, (bK.ch hc5 (by simp)).ch hY (by simp), hbn.ch ((hc1.trans hQ).trans hY) (by simp), (bS.ch hc5 (by simp)).ch hY (by simp), Blk.new' _ _ _ _ (by simp), (Blk.new' _ _ _ _ (by simp)).alloc _, ho5.ch0' hY, Own.nil _ _ _ _,
              (HRR.out.weak (q := fun b => b < w1.heap.size + 1 + 1) (fun b hb _ => by omega)).ch0 (((hcA.trans hc1).trans hQ).trans hY), (h1.weak (q := fun b => b < w1.heap.size + 1 + 1) (fun b hb _ => by omega)).ch0 (hQ.trans hY), (h2.weak (q := fun b => b < w1.heap.size + 1 + 1) (fun b hb _ => by omega)).ch0 (hQ.trans hY)⟩
          have hd := deriv1_ rk.length st rk F rs (by rw [HL2.out, HL.out]) (by rw [HL.out]; exact HRS.out) (by rw [HL.out]; exact HRK.out) (by rw [HL.out]; omega) (fun x hx => by have := (HPX.out x hx).1; omega) _ _ _ _ _ _ _ ⟨by omega, by omega, by omega, by omega, by omega, by omega⟩ aA A.length cA _ _ _ f m _ _ [] _ hlt HGP.out HDF.out hDv HPR.out (by have := HNF.out; simp only [List.length_nil]; omega)
          ((with_reducible refine hd.mono ?_); intro e w6 hpost)
          obtain ⟨rfl, D', vo', hA6, _, _, hc6, _⟩ := hpost
          have l6 := hA6.o.cell 0
          have hfin : Ch [] w w6 := ((((hcA.trans hc1).trans hQ).trans hY)).step hc6 (fun y hy => .inr (by simp [Value.ownBlock] at hy; omega))
          have HOU := Lib.hid (show SlI _ _ _ _ from hA6.out.sl)
          have hs5 : w.heap.size ≤ w5.heap.size := by omega
          clear hA6 hd hDv
          go_wp2
          go_ret2
          exact ⟨_, _, true, rfl, HOU.out.weak (fun b _ hb => by have := hb.1; omega), HDE.out, hfin⟩
end

section
open Go.RowKit

theorem firR_pos {st rk : List Int} {rd : Int} {x : Gr} {k : Nat} (hk : k < x.ps.length) (h : posNo st rk (gI st x.h) rd x.ps[k] = true) : firR st rk rd x = false := by
  unfold firR
  have : (x.ps.all fun n => !posNo st rk (gI st x.h) rd n) = false := by
    rw [List.all_eq_false]
    exact ⟨_, List.getElem_mem hk, by rw [h]; simp⟩
  rw [this]; rfl
theorem firR_neg {st rk : List Int} {rd : Int} {x : Gr} (hp : ∀ j (hj : j < x.ps.length), posNo st rk (gI st x.h) rd x.ps[j] = false) : firR st rk rd x = x.ns.all fun n => decide (gI rk n < 0) := by
  unfold firR
  have : (x.ps.all fun n => !posNo st rk (gI st x.h) rd n) = true := by
    rw [List.all_eq_true]
    intro n hn
    obtain ⟨j, hj, rfl⟩ := List.getElem_of_mem hn
    rw [hp j hj]; rfl
  rw [this]; rfl
set_option maxRecDepth 100000 in
set_option maxHeartbeats 8000000 in
theorem refFires_ (x : Gr) (N : Nat) (st rk : List Int) (hs : st.length = N) (hr : rk.length = N) (hx : grOk N x = true) (rd : Int) (p q r : Nat → Prop) (va vb vs vk : Value) (w : World) (h1 : SlI q w vk rk) (h2 : SlI p w vs st) (h3 : SlI r w va x.ps) (h4 : SlI r w vb x.ns) :
    Calls Tryz.prog 37 #[.agg #[.int .i64 x.h, va, vb], vk, vs, .int .i64 rd] w fun e w' => e = .returned (.bool (firR st rk rd x)) ∧ Ch [] w w' := by
  obtain ⟨h, hh, eh⟩ := numIn_nat (grOk_h hx)
  have hhs : h < st.length := by omega
  have hgh := gI_at hhs
  obtain ⟨a1, c1, rfl, _, m1⟩ := h1.form
  obtain ⟨a2, c2, rfl, _, m2⟩ := h2.form
  obtain ⟨a3, c3, rfl, _, m3⟩ := h3.form
  obtain ⟨a4, c4, rfl, _, m4⟩ := h4.form
  unfold maxLen at m1 m2 m3 m4
  have hbx := Blk.new w 44 #[.int .i64 (h : Int), .slice a3 x.ps.length c3, .slice a4 x.ns.length c4]
  have hcA : Ch [] w (w.alloc (.cells #[.int .i64 (h : Int), .slice a3 x.ps.length c3, .slice a4 x.ns.length c4] 44)) := (Ch.refl _ _).alloc _
  have HG := Lib.hid (show gI st x.h = st[h] by rw [eh, hgh])
  have HX := Lib.hid hx
  have HS := Lib.hid hs
  have HRL := Lib.hid hr
  rw [eh]
  clear eh hgh hx hs hr
  obtain ⟨bh, oh, rfl, _, dh⟩ := h2.at_ hhs
  have ih1 : (h : Int) < (st.length : Int) := by omega
  have ih2 : (0 : Int) ≤ (h : Int) := by omega
  go_enter Tryz.func37, Tryz.ntmps37
  go_wp2
  generalize hsH : st[h] = sh at *
  clear hsH
  obtain ⟨B4, hB4⟩ : ∃ B, B = w.heap.size := ⟨_, rfl⟩
  rw [← hB4] at hbx ⊢
  clear hB4
  go_loopw [9, 10] (fun i _ wr => ∃ k : Nat, k ≤ x.ps.length ∧ i = .int .i64 k ∧ Ch [] w wr ∧ Blk wr B4 44 #[.int .i64 (h : Int), .slice a3 x.ps.length c3, .slice a4 x.ns.length c4] ∧ Hid (∀ j (hj : j < x.ps.length), j < k → posNo st rk (gI st x.h) rd x.ps[j] = false)) (fun i _ _ => x.ps.length - (intOf i).toNat)
  case atStart => exact ⟨0, Nat.zero_le _, rfl, hcA, hbx, fun j _ h => absurd h (Nat.not_lt_zero _)⟩
  case round =>
    obtain ⟨k, hk, rfl, hq, hb, HN⟩ := hrel
    have b0 := hb.cell 0
    have b1 := hb.cell 1
    have b2 := hb.cell 2
    by_cases hlt : k < x.ps.length
    · have jl : decide (k < x.ps.length) = true := decide_eq_true hlt
      obtain ⟨bp, op, rfl, _, dp⟩ := (h3.ch0 hq).at_ hlt
      obtain ⟨m, hm, em⟩ := numIn_nat (grOk_p HX.out _ (List.getElem_mem hlt))
      have hms : m < st.length := by rw [HS.out]; exact hm
      have hmr : m < rk.length := by rw [HRL.out]; exact hm
      rw [em] at dp
      obtain ⟨bs, os, es, _, ds⟩ := (h2.ch0 hq).at_ hms
      injection es with es
      injection es with es1 es2
      subst es1 es2
      obtain ⟨br, or, rfl, _, dr⟩ := (h1.ch0 hq).at_ hmr
      have hd1 : posNo st rk (gI st x.h) rd x.ps[k] = (decide (rk[m] < 0) || (decide (st[m] = sh) && decide (rd ≤ rk[m]))) := by unfold posNo; rw [em, HG.out, gI_at hms, gI_at hmr]
      have l1 := Later.cell ds
      have l2 := Later.cell dr
      have l3 := Later.cell b0
      have l4 := Later.cell (cell_ch (S := []) dh hq (by simp))
      have l5 := Later.cell dp
      have l6 := Later.cell b1
      have i1 : (m : Int) < (st.length : Int) := by omega
      have i2 : (m : Int) < (rk.length : Int) := by omega
      have i3 : (0 : Int) ≤ (m : Int) := by omega
      have HY : Hid (posNo st rk (gI st x.h) rd x.ps[k] = false → ∀ j (hj : j < x.ps.length), j < k + 1 → posNo st rk (gI st x.h) rd x.ps[j] = false) := fun hz j hj h1 => by
        rcases Nat.lt_succ_iff_lt_or_eq.1 h1 with h2 | h2
        · exact HN.out j hj h2
        · subst h2; exact hz
      have HF : Hid (posNo st rk (gI st x.h) rd x.ps[k] = true → firR st rk rd x = false) := fun hz => firR_pos hlt hz
      clear em ds dr
      generalize rk[m] = rq at *
      generalize st[m] = sq at *
      by_cases t0 : rq < 0
      · have j0 : decide (rq < 0) = true := decide_eq_true t0
        have HR := Lib.hid (HF.out (by rw [hd1, j0]; rfl))
        clear hd1
        go_wp2
        refine wp_region_later (by kernel_rfl) (lexB_of (by kernel_rfl)) ?_
        repeat (go_big_quiet_step (fail))
        refine wpQuiet_nil ?_
        intro w3 hw3
        clear l1 l2 l3 l4 l5 l6
        go_wp2
        go_ret
        exact ⟨by rw [HR.out]; rfl, hq.trans hw3⟩
      · have j0 : decide (rq < 0) = false := decide_eq_false t0
        by_cases t1 : sq = sh
        · have j1 : decide (sq = sh) = true := decide_eq_true t1
          have j1' : (sq == sh) = true := by simpa using t1
          clear t1
          by_cases t2 : rd ≤ rq
          · have j2 : decide (rd ≤ rq) = true := decide_eq_true t2
            have HR := Lib.hid (HF.out (by rw [hd1, j0, j1, j2]; rfl))
            clear hd1
            go_wp2
            refine wp_region_later (by kernel_rfl) (lexB_of (by kernel_rfl)) ?_
            repeat (go_big_quiet_step (fail))
            refine wpQuiet_nil ?_
            intro w3 hw3
            clear l1 l2 l3 l4 l5 l6
            go_wp2
            go_ret
            exact ⟨by rw [HR.out]; rfl, hq.trans hw3⟩
          · have j2 : decide (rd ≤ rq) = false := decide_eq_false t2
            have HN2 := Lib.hid (HY.out (by rw [hd1, j0, j1, j2]; rfl))
            clear hd1
            go_wp2
            refine wp_region_later (by kernel_rfl) (lexB_of (by kernel_rfl)) ?_
            repeat (go_big_quiet_step (fail))
            refine wpQuiet_nil ?_
            intro w3 hw3
            clear l1 l2 l3 l4 l5 l6
            go_wp2
            go_roundw
            case rel => exact ⟨k + 1, by omega, by go_num, hq.trans hw3, hb.ch hw3 (by simp), HN2⟩
            case measure => simp [intOf]; omega
        · have j1 : decide (sq = sh) = false := decide_eq_false t1
          have j1' : (sq == sh) = false := by simpa using t1
          clear t1
          have HN2 := Lib.hid (HY.out (by rw [hd1, j0, j1]; rfl))
          clear hd1
          go_wp2
          refine wp_region_later (by kernel_rfl) (lexB_of (by kernel_rfl)) ?_
          repeat (go_big_quiet_step (fail))
          refine wpQuiet_nil ?_
          intro w3 hw3
          clear l1 l2 l3 l4 l5 l6
          go_wp2
          go_roundw
          case rel => exact ⟨k + 1, by omega, by go_num, hq.trans hw3, hb.ch hw3 (by simp), HN2⟩
          case measure => simp [intOf]; omega
    · have jl : decide (k < x.ps.length) = false := decide_eq_false hlt
      have HFN := Lib.hid (firR_neg (st := st) (rk := rk) (rd := rd) (x := x) (fun j hj => HN.out j hj (by omega)))
      clear HN hlt hk
      go_wp2
      clear b0 b1 b2
      go_loopw [11] (fun i wr => ∃ k : Nat, k ≤ x.ns.length ∧ i = .int .i64 k ∧ Ch [] w wr ∧ Blk wr B4 44 #[.int .i64 (h : Int), .slice a3 x.ps.length c3, .slice a4 x.ns.length c4] ∧ Hid (∀ j (hj : j < x.ns.length), j < k → gI rk x.ns[j] < 0)) (fun i _ => x.ns.length - (intOf i).toNat)
      case atStart => exact ⟨0, Nat.zero_le _, rfl, hq, hb, fun j _ h => absurd h (Nat.not_lt_zero _)⟩
      case round =>
        clear hq hb
        obtain ⟨k, hk, rfl, hq, hb, HN⟩ := hrel
        have b0 := hb.cell 0
        have b1 := hb.cell 1
        have b2 := hb.cell 2
        by_cases hlt : k < x.ns.length
        · have jk : decide (k < x.ns.length) = true := decide_eq_true hlt
          obtain ⟨bp, op, rfl, _, dp⟩ := (h4.ch0 hq).at_ hlt
          obtain ⟨m, hm, em⟩ := numIn_nat (grOk_n HX.out _ (List.getElem_mem hlt))
          have hmr : m < rk.length := by rw [HRL.out]; exact hm
          rw [em] at dp
          obtain ⟨br, or, rfl, _, dr⟩ := (h1.ch0 hq).at_ hmr
          have i2 : (m : Int) < (rk.length : Int) := by omega
          have i3 : (0 : Int) ≤ (m : Int) := by omega
          have HE := Lib.hid (show gI rk x.ns[k] = rk[m] by rw [em, gI_at hmr])
          have hmem := List.getElem_mem hlt
          clear em
          by_cases t0 : 0 ≤ rk[m]
          · have j0 : decide (0 ≤ rk[m]) = true := decide_eq_true t0
            have HR : Hid (firR st rk rd x = false) := by
              unfold Hid
              rw [HFN.out, List.all_eq_false]
              exact ⟨_, hmem, by rw [HE.out]; simp; omega⟩
            clear hmem HE
            generalize rk[m] = rq at *
            go_wp2
            go_ret
            exact ⟨by rw [HR.out]; rfl, hq⟩
          · have j0 : decide (0 ≤ rk[m]) = false := decide_eq_false t0
            have HN2 : Hid (∀ j (hj : j < x.ns.length), j < k + 1 → gI rk x.ns[j] < 0) := fun j hj h1 => by
              rcases Nat.lt_succ_iff_lt_or_eq.1 h1 with h2 | h2
              · exact HN.out j hj h2
              · subst h2; rw [HE.out]; omega
            clear hmem HE
            generalize rk[m] = rq at *
            go_wp2
            go_roundw
            case rel => exact ⟨k + 1, by omega, by go_num, hq, hb, HN2⟩
            case measure => simp [intOf]; omega
        · have jk : decide (k < x.ns.length) = false := decide_eq_false hlt
          have HR : Hid (firR st rk rd x = true) := by
            unfold Hid
            rw [HFN.out, List.all_eq_true]
            intro n hn
            obtain ⟨j, hj, rfl⟩ := List.getElem_of_mem hn
            exact decide_eq_true (HN.out j hj (by omega))
          go_wp2
          go_ret
          exact ⟨by rw [HR.out]; rfl, hq⟩
end

section
open Go.RowKit

/-- the number of the rule, or -1 -/
def whyR (st rk : List Int) (rs : List Gr) (n : Int) : Int := match whyI st rk rs n with | some i => (i : Int) | none => -1
set_option maxRecDepth 100000 in
set_option maxHeartbeats 8000000 in
theorem refWhy_ (rs : List Gr) (N m : Nat) (st rk : List Int) (hs : st.length = N) (hr : rk.length = N) (hR : RsOk N st rs) (hm : m < N) (p q r : Nat → Prop) (aA : Option Addr) (nA cA : Nat) (vr vs vk : Value) (w : World) (h0 : SlGr p w vr rs) (h1 : SlI q w vk rk) (h2 : SlI r w vs st) :
    Calls Tryz.prog 39 #[.agg #[.slice aA nA cA, vr], vk, vs, .int .i64 (m : Int)] w fun e w' => e = .returned (.int .i64 (whyR st rk rs (m : Int))) ∧ Ch [] w w' := by
  have hmr : m < rk.length := by omega
  have hG := gI_at hmr
  obtain ⟨a0, c0, rfl, _, m0⟩ := h0.form
  obtain ⟨a1, c1, rfl, _, m1⟩ := h1.form
  obtain ⟨a2, c2, rfl, _, m2⟩ := h2.form
  unfold maxLen at m0 m1 m2
  obtain ⟨b1, o1, rfl, _, d1⟩ := h1.at_ hmr
  have hbx := Blk.new w 25 #[.slice aA nA cA, .slice a0 rs.length c0]
  have hcA : Ch [] w (w.alloc (.cells #[.slice aA nA cA, .slice a0 rs.length c0] 25)) := (Ch.refl _ _).alloc _
  have HG := Lib.hid hG
  have HR := Lib.hid hR
  have HS := Lib.hid hs
  have HL := Lib.hid hr
  have i1 : (m : Int) < (rk.length : Int) := by omega
  have i2 : (0 : Int) ≤ (m : Int) := by omega
  clear hG hR hs hr
  generalize hq0 : rk[m] = rd at *
  clear hq0
  go_enter Tryz.func39, Tryz.ntmps39
  go_wp2
  obtain ⟨B4, hB4⟩ : ∃ B, B = w.heap.size := ⟨_, rfl⟩
  rw [← hB4] at hbx ⊢
  clear hB4
  go_loopw [9] (fun i wr => ∃ k : Nat, k ≤ rs.length ∧ i = .int .i64 k ∧ Ch [] w wr ∧ Blk wr B4 25 #[.slice aA nA cA, .slice a0 rs.length c0] ∧ Hid (∀ j (hj : j < rs.length), j < k → (decide (rs[j].h = (m : Int)) && fireB st rk (gI st (m : Int)) (gI rk (m : Int)) rs[j]) = false)) (fun i _ => rs.length - (intOf i).toNat)
  case atStart => exact ⟨0, Nat.zero_le _, rfl, hcA, hbx, fun j _ h => absurd h (Nat.not_lt_zero _)⟩
  case round =>
    obtain ⟨k, hk, rfl, hq, hb, HN⟩ := hrel
    have x1 := hb.cell 1
    have d1' := cell_ch (S := []) d1 hq (by simp)
    by_cases hlt : k < rs.length
    · have jl : decide (k < rs.length) = true := decide_eq_true hlt
      by_cases t0 : 0 < rd
      · have j0 : decide (0 < rd) = true := decide_eq_true t0
        have h0q := (h0.ch0 hq)
        obtain ⟨b, o, a3, c3, a4, c4, rfl, hp, e0, e1, e2, s3, s4⟩ := h0q.at_ hlt
        have hxr := HR.out.ok _ (List.getElem_mem hlt)
        have hfr : rs[k].h = (m : Int) → firR st rk rd rs[k] = fireB st rk (gI st (m : Int)) (gI rk (m : Int)) rs[k] := fun e => by rw [firR_eq (fun n hn => HR.out.pos _ (List.getElem_mem hlt) n hn), e, HG.out]
        have hfc := fun wz (hz : Ch [] wr wz) => refFires_ rs[k] N st rk HS.out HL.out hxr rd _ _ _ _ _ _ _ wz (h1.ch0 (hq.trans hz)) (h2.ch0 (hq.trans hz)) (s3.ch0 hz) (s4.ch0 hz)
        have l1 := Later.cell x1
        have l2 := Later.cell d1'
        have l3 := Later.cell e0
        have l4 := Later.cell e1
        have l5 := Later.cell e2
        have l6 := l5
        have i3 : (k : Int) < (rs.length : Int) := by omega
        have i4 : (0 : Int) ≤ (k : Int) := by omega
        have HY : Hid ((decide (rs[k].h = (m : Int)) && fireB st rk (gI st (m : Int)) (gI rk (m : Int)) rs[k]) = false → ∀ j (hj : j < rs.length), j < k + 1 → (decide (rs[j].h = (m : Int)) && fireB st rk (gI st (m : Int)) (gI rk (m : Int)) rs[j]) = false) := fun hz j hj h1 => by
          rcases Nat.lt_succ_iff_lt_or_eq.1 h1 with h2 | h2
          · exact HN.out j hj h2
          · subst h2; exact hz
        have HW : Hid (rs[k].h = (m : Int) → fireB st rk (gI st (m : Int)) (gI rk (m : Int)) rs[k] = true → whyR st rk rs (m : Int) = (k : Int)) := fun hz hf => by
          unfold whyR
          rw [whyI_at (by rw [HG.out]; exact t0) hlt hz hf (fun j hj => HN.out j _ hj)]
        clear h0q hxr
        by_cases t1 : rs[k].h = (m : Int)
        · have HT := Lib.hid t1
          have hf1 := hfr t1
          rw [hf1] at hfc
          cases hf : fireB st rk (gI st (m : Int)) (gI rk (m : Int)) rs[k] with
          | true =>
            have HR := Lib.hid (HW.out t1 hf)
            rw [hf] at hfc
            have j1 : decide (rs[k].h = (m : Int)) = true := decide_eq_true t1
            have j1' : (rs[k].h == (m : Int)) = true := by simpa using t1
            have kf := fun y : Later wr => later_call (hfc y.w y.ch)
            clear hf hf1 hfr t1 s3 s4 HY HW hfc
            generalize rs[k] = x at *
            go_wp2
            refine wp_region_later (by kernel_rfl) (lexB_of (by kernel_rfl)) ?_
            repeat (go_big_quiet_step ((exact kf _)))
            refine wpQuiet_nil ?_
            intro w3 hw3
            clear l1 l2 l3 l4 l5 l6
            go_wp2
            go_ret
            exact ⟨by rw [HR.out]; rfl, hq.trans hw3⟩
          | false =>
            have HN2 := Lib.hid (HY.out (by rw [hf]; simp))
            rw [hf] at hfc
            have j1 : decide (rs[k].h = (m : Int)) = true := decide_eq_true t1
            have j1' : (rs[k].h == (m : Int)) = true := by simpa using t1
            have kf := fun y : Later wr => later_call (hfc y.w y.ch)
            clear hf hf1 hfr t1 s3 s4 HY HW hfc
            generalize rs[k] = x at *
            go_wp2
            refine wp_region_later (by kernel_rfl) (lexB_of (by kernel_rfl)) ?_
            repeat (go_big_quiet_step ((exact kf _)))
            refine wpQuiet_nil ?_
            intro w3 hw3
            clear l1 l2 l3 l4 l5 l6
            go_wp2
            go_roundw
            case rel => exact ⟨k + 1, by omega, by go_num, hq.trans hw3, hb.ch hw3 (by simp), HN2⟩
            case measure => simp [intOf]; omega
        · have j1 : decide (rs[k].h = (m : Int)) = false := decide_eq_false t1
          have j1' : (rs[k].h == (m : Int)) = false := by simpa using t1
          have HN2 := Lib.hid (HY.out (by rw [j1]; rfl))
          clear hfr t1 s3 s4 HY HW hfc
          generalize rs[k] = x at *
          go_wp2
          refine wp_region_later (by kernel_rfl) (lexB_of (by kernel_rfl)) ?_
          repeat (go_big_quiet_step ((fail)))
          refine wpQuiet_nil ?_
          intro w3 hw3
          clear l1 l2 l3 l4 l5 l6
          go_wp2
          go_roundw
          case rel => exact ⟨k + 1, by omega, by go_num, hq.trans hw3, hb.ch hw3 (by simp), HN2⟩
          case measure => simp [intOf]; omega
      · have j0 : decide (0 < rd) = false := decide_eq_false t0
        have HR : Hid (whyR st rk rs (m : Int) = -1) := by unfold Hid whyR; rw [whyI_zero (by rw [HG.out]; omega)]
        go_wp2
        go_ret
        exact ⟨by rw [HR.out]; rfl, hq⟩
    · have jl : decide (k < rs.length) = false := decide_eq_false hlt
      have HR : Hid (whyR st rk rs (m : Int) = -1) := by unfold Hid whyR; rw [whyI_no (fun j hj => HN.out j hj (by omega))]
      go_wp2
      go_ret
      exact ⟨by rw [HR.out]; rfl, hq⟩
end
end Go.Proofs.YtojokdicbopknaaGreat
