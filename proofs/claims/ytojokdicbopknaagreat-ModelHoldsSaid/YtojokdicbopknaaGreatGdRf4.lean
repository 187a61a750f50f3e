
/-
  The contracts of ref14.Why, ref14.derive and ref14.Derivation.
  The contracts of ref14.derive and ref14.Derivation.
  The contracts of law14's in, body and supported, of plain.SmallTerms and law14.few.
-/
import Derived.Test.YtojokdicbopknaaGreatGdRf3
import Derived.Test.YtojokdicbopknaaGreatGdVL
import Derived.Deep.RegionHeld3
import Derived.Test.YtojokdicbopknaaGreatSmParts
import Derived.Test.YtojokdicbopknaaGreatOpen
namespace Go.Proofs.YtojokdicbopknaaGreat

section
open Go.RowKit

theorem hoA_good (A : List Tm) (rs : List Gr) (F : List Int) (n : Int) : hoA A rs F n = (true, 0) ↔ ((evA A rs F).1 = 0 ∧ numIn A.length n = true ∧ 0 ≤ gI (evA A rs F).2.2 n) := by
  unfold hoA
  split
  · rename_i h; rw [h]; simp
  · split
    · rename_i h1 h2
      rw [h2]
      constructor
      · intro h
        injection h with h3 h4
        rw [Bool.and_eq_true] at h3
        exact ⟨h4, rfl, of_decide_eq_true h3.2⟩
      · rintro ⟨h3, _, h4⟩
        rw [decide_eq_true h4, h3]; rfl
    · rename_i h1 h2
      constructor
      · intro h; injection h with h3 _; cases h3
      · rintro ⟨_, h3, _⟩; exact absurd h3 h2
/-- what stands behind a good answer of Holds -/
theorem good_facts {A : List Tm} {rs : List Gr} {F : List Int} {n : Int} (h : hoA A rs F n = (true, 0)) : ∃ st rk, evA A rs F = (0, st, rk) ∧ stV A rs = (0, st) ∧ st.length = A.length ∧ rk.length = A.length ∧ RsOk A.length st rs ∧ RkOk A.length st rs F rk ∧ (∀ k, numIn A.length k = true → 0 ≤ gI st k) ∧ ∃ m : Nat, n = (m : Int) ∧ m < A.length ∧ 0 ≤ gI rk (m : Int) := by
  rw [hoA_good] at h
  obtain ⟨h1, h2, h3⟩ := h
  rcases evA_cases A rs F with he | he | ⟨st, hg, hf, hs, he⟩
  · rw [he] at h1; cases h1
  · rw [he] at h1; cases h1
  · rw [he] at h3
    obtain ⟨m, hm, rfl⟩ := numIn_nat h2
    have ho := gdOk_rules hg
    have hst := stA_ok hs ho.1
    have hR : RsOk A.length st rs := ⟨ho.1, fun x hx => (hst.2 x hx).1, fun x hx => (hst.2 x hx).2⟩
    have hl := stA_len hs
    refine ⟨st, _, he, by unfold stV; rw [if_pos hg, hs], hl, ranksR_len _ _ _ _, hR, ranksR_ok hR hl hst.1 ?_, fun k hk => ?_, m, rfl, hm, h3⟩
    · simp only [factsOk, Bool.and_eq_true] at hf; exact hf.1
    · obtain ⟨j, hj, rfl⟩ := numIn_nat hk
      rw [gI_at (by omega)]
      exact hst.1 _ (List.getElem_mem _)
/-- what the reference's Why answers is what Why answers -/
theorem whA_ref {A : List Tm} {rs : List Gr} {F : List Int} {st rk : List Int} {m : Nat} (he : evA A rs F = (0, st, rk)) (hm : m < A.length) (hK : RkOk A.length st rs F rk) : whA A rs F (m : Int) = (max (whyR st rk rs (m : Int)) 0, decide (0 ≤ whyR st rk rs (m : Int))) := by
  have hn : numIn A.length (m : Int) = true := by simp [numIn]; omega
  unfold whA
  rw [he]
  simp only [hn, true_and]
  by_cases h1 : 1 ≤ gI rk (m : Int)
  · obtain ⟨i, hi⟩ := whyI_pos hK hn (by omega)
    rw [if_pos h1, idxG_why hi]
    unfold whyR
    rw [hi]
    simp only [Prod.mk.injEq]
    refine ⟨by omega, ?_⟩
    rw [decide_eq_true (by omega)]
  · rw [if_neg h1]
    unfold whyR
    rw [whyI_zero (by omega)]
    rfl
theorem whA_bad {A : List Tm} {rs : List Gr} {F : List Int} {n : Int} (h : hoA A rs F n ≠ (true, 0)) : whA A rs F n = (0, false) := by
  unfold whA
  rw [if_neg]
  rintro ⟨h1, h2, h3⟩
  exact h ((hoA_good A rs F n).2 ⟨h1, h2, by omega⟩)
theorem whyR_ge (st rk : List Int) (rs : List Gr) (n : Int) : -1 ≤ whyR st rk rs n ∧ whyR st rk rs n < rs.length := by
  unfold whyR
  cases h : whyI st rk rs n with
  | none => simp only; omega
  | some i =>
    obtain ⟨_, hi, _⟩ := whyI_some h
    simp only; omega
theorem derOk_len {rk F : List Int} {rs : List Gr} {out : List Int} (h : DerOk rk rs F out) : out.length ≤ rs.length := by
  have hn : out.Nodup := by
    show List.Pairwise (· ≠ ·) out
    rw [List.pairwise_iff_getElem]
    intro i j hi hj hij he
    obtain ⟨m, hm, e1, e2, _⟩ := h j hj
    apply e2
    rw [← e1, ← he]
    exact List.mem_iff_getElem.2 ⟨i, by rw [List.length_take]; omega, by rw [List.getElem_take]⟩
  have := nodup_len hn (m := (List.range rs.length).map fun i : Nat => (i : Int)) (fun x hx => by
    obtain ⟨j, hj, rfl⟩ := List.getElem_of_mem hx
    obtain ⟨m, hm, e1, _⟩ := h j hj
    rw [e1]
    exact List.mem_map.2 ⟨m, List.mem_range.2 hm, rfl⟩)
  simpa using this

set_option maxRecDepth 100000 in
set_option maxHeartbeats 8000000 in
theorem refWhy14_ (A : List Tm) (rs : List Gr) (F : List Int) (n : Int) (p : Nat → Prop) (va vr vf : Value) (w : World) (hA : SlT p w va A) (hR : SlGr p w vr rs) (hF : SlI p w vf F) (hb : GdBnd A rs) (hFl : F.length ≤ 1000000) :
    Calls Tryz.prog 21 #[.agg #[va, vr], vf, .int .i64 n] w fun e w' => e = .returned (.tuple #[.int .i64 (whA A rs F n).1, .bool (whA A rs F n).2]) ∧ Ch [] w w' := by
  have HHO := Lib.hid (fun wz (hz : Ch [] w wz) => refHolds14_ A rs F n _ _ _ _ wz (hA.ch0 hz) (hR.ch0 hz) (hF.ch0 hz) hb hFl)
  have HRK := Lib.hid (fun wz (hz : Ch [] w wz) => refRanks14_ A rs F _ _ _ _ wz (hA.ch0 hz) (hR.ch0 hz) (hF.ch0 hz) hb hFl)
  have HST := Lib.hid (fun wz (hz : Ch [] w wz) => refStrata14_ A rs _ _ _ wz (hA.ch0 hz) (hR.ch0 hz) hb)
  have HR := Lib.hid hR
  obtain ⟨aA, cA, rfl, _, _⟩ := hA.form
  obtain ⟨aR, cR, rfl, _, _⟩ := hR.form
  clear hA hR hF hb
  have hbn := Blk.new w 25 #[.slice aA A.length cA, .slice aR rs.length cR]
  have hcA : Ch [] w (w.alloc (.cells #[.slice aA A.length cA, .slice aR rs.length cR] 25)) := (Ch.refl _ _).alloc _
  have x0 := hbn.cell 0
  have x1 := hbn.cell 1
  generalize hwA : (w.alloc (.cells #[.slice aA A.length cA, .slice aR rs.length cR] 25)) = wA at *
  have hho := HHO.out wA hcA
  by_cases hgo : hoA A rs F n = (true, 0)
  · obtain ⟨st, rk, he, hsv, hls, hlk, hRs, hK, _, m, rfl, hm, _⟩ := good_facts hgo
    have HW := Lib.hid (whA_ref he hm hK)
    rw [hgo] at hho
    have hrk := HRK.out
    rw [he] at hrk
    have hst := HST.out
    rw [hsv] at hst
    have HWY := Lib.hid (fun (vs vk : Value) (q r : Nat → Prop) (wz : World) (hz : Ch [] w wz) (h1 : SlI q wz vk rk) (h2 : SlI r wz vs st) => refWhy_ rs A.length m st rk hls hlk hRs hm _ q r aA A.length cA (.slice aR rs.length cR) vs vk wz (HR.out.ch0 hz) h1 h2)
    have hwg := whyR_ge st rk rs (m : Int)
    clear he hsv hls hlk hRs hK hgo HHO HRK HST HR
    generalize whA A rs F (m : Int) = W at *
    generalize whyR st rk rs (m : Int) = q at *
    go_enter Tryz.func21, Tryz.ntmps21
    go_wp2_with (first
      | (go_at_call 19; ((with_reducible refine hho.mono ?_); rintro e w1 ⟨rfl, hc1⟩; clear hho; have g0 := (hbn.ch hc1 (by simp)).cell 0; have g1 := (hbn.ch hc1 (by simp)).cell 1))
      | (go_at_call 15; ((with_reducible refine (hrk _ (hcA.trans hc1)).mono ?_); rintro e w2 ⟨v2, rfl, h2, hc2⟩; clear hrk; have k0 := (hbn.ch (hc1.trans hc2) (by simp)).cell 0; have k1 := (hbn.ch (hc1.trans hc2) (by simp)).cell 1))
      | (go_at_call 12; ((with_reducible refine (hst _ ((hcA.trans hc1).trans hc2)).mono ?_); rintro e w3 ⟨v3, rfl, h3, hc3⟩; clear hst; have l0 := (hbn.ch ((hc1.trans hc2).trans hc3) (by simp)).cell 0; have l1 := (hbn.ch ((hc1.trans hc2).trans hc3) (by simp)).cell 1))
      | (go_at_call 39; ((with_reducible refine (HWY.out _ _ _ _ _ (((hcA.trans hc1).trans hc2).trans hc3) (h2.ch0 hc3) h3).mono ?_); rintro e w4 ⟨rfl, hc4⟩)))
    go_ret2
    rw [HW.out]
    exact ⟨rfl, ((((hcA.trans hc1).trans hc2).trans hc3).trans hc4)⟩
  · have HW := Lib.hid (whA_bad hgo)
    have HG := Lib.hid hgo
    clear hgo HRK HST HR
    generalize whA A rs F n = W at *
    generalize hoA A rs F n = O at *
    obtain ⟨b, e0⟩ := O
    by_cases t0 : e0 = 0
    · subst t0
      cases b with
      | true => exact absurd rfl HG.out
      | false =>
        go_enter Tryz.func21, Tryz.ntmps21
        go_wp2_with (go_at_call 19; ((with_reducible refine hho.mono ?_); rintro e w1 ⟨rfl, hc1⟩; clear hho))
        go_ret2
        rw [HW.out]
        exact ⟨rfl, hcA.trans hc1⟩
    · have j0 : (e0 != 0) = true := by simpa using t0
      have j1 : decide (e0 = 0) = false := decide_eq_false t0
      have j2 : (e0 == 0) = false := by simpa using t0
      clear t0
      go_enter Tryz.func21, Tryz.ntmps21
      go_wp2_with (go_at_call 19; ((with_reducible refine hho.mono ?_); rintro e w1 ⟨rfl, hc1⟩; clear hho))
      go_ret2
      rw [HW.out]
      exact ⟨rfl, hcA.trans hc1⟩
end

section
open Go.RowKit

theorem whyR_none {st rk : List Int} {rs : List Gr} {n : Int} (h : whyI st rk rs n = none) : whyR st rk rs n = -1 := by unfold whyR; rw [h]
theorem whyR_some {st rk : List Int} {rs : List Gr} {n : Int} {i : Nat} (h : whyI st rk rs n = some i) : whyR st rk rs n = (i : Int) := by unfold whyR; rw [h]
/-- a row of the call's own is nowhere else -/
def OwnBy (v u : Value) (s : Nat) : Prop := ∀ b, v.ownBlock = some b → u.ownBlock = some b ∨ s ≤ b
theorem OwnBy.not {v u : Value} {s b : Nat} (h : OwnBy v u s) (h1 : b < s) (h2 : u.ownBlock ≠ some b) : v.ownBlock ≠ some b := fun e => by
  rcases h b e with h3 | h3
  · exact h2 h3
  · omega

set_option maxRecDepth 100000 in
set_option maxHeartbeats 16000000 in
theorem refDerive14_ (_A : List Tm) (rs : List Gr) (N : Nat) (st rk F : List Int) (hs : st.length = N) (hr : rk.length = N) (hR : RsOk N st rs) (hK : RkOk N st rs F rk) (hrs : rs.length ≤ 1000000) (hps : ∀ x ∈ rs, x.ps.length ≤ 1000000) (p q r : Nat → Prop) (aA : Option Addr) (nA cA : Nat) (vr vs vk : Value) (wb : World) (h0 : SlGr p wb vr rs) (h1 : SlI q wb vk rk) (h2 : SlI r wb vs st) :
    ∀ (f m : Nat) (out : List Int) (vo : Value) (w : World), Deep st rk rs f (m : Int) → m < N → 0 ≤ gI rk (m : Int) → DerOk rk rs F out → WhyL st rk rs out → Ch [] wb w → Own w wb.heap.size 3 1 vo (out.map encI) →
    Calls Tryz.prog 41 #[.agg #[.slice aA nA cA, vr], vk, vs, .int .i64 (m : Int), vo] w fun e w' => ∃ v', e = .returned v' ∧ Own w' wb.heap.size 3 1 v' ((derO st rk rs f (m : Int) out).map encI) ∧ Ch vo.ownBlock.toList w w' ∧ OwnBy v' vo w.heap.size := by
  obtain ⟨aR, cR, rfl, _, hmR⟩ := h0.form
  obtain ⟨aK, cK, rfl, _, hmK⟩ := h1.form
  obtain ⟨aS, cS, rfl, _, hmS⟩ := h2.form
  unfold maxLen at hmR hmK hmS
  have HS := Lib.hid hs
  have HRL := Lib.hid hr
  have HR := Lib.hid hR
  have HK := Lib.hid hK
  have HPS := Lib.hid hps
  clear hs hr hR hK hps
  intro f
  induction f with
  | zero =>
    intro m out vo w hD hm hrk hO hW hcb ho
    have hw : whyI st rk rs (m : Int) = none := hD
    have HW1 := Lib.hid (whyR_none hw)
    have HDE : Hid (derO st rk rs 0 (m : Int) out = out) := rfl
    have hcall := refWhy_ rs N m st rk HS.out HRL.out HR.out hm p q r aA nA cA (.slice aR rs.length cR) (.slice aS st.length cS) (.slice aK rk.length cK)
    have hol := derOk_len hO
    have HWL := Lib.hid hW
    clear hD hO hW
    have hbx := Blk.new w 25 #[.slice aA nA cA, .slice aR rs.length cR]
    have hcA : Ch [] w (w.alloc (.cells #[.slice aA nA cA, .slice aR rs.length cR] 25)) := (Ch.refl _ _).alloc _
    have x0 := hbx.cell 0
    have x1 := hbx.cell 1
    generalize hwA : (w.alloc (.cells #[.slice aA nA cA, .slice aR rs.length cR] 25)) = wA at *
    have hcall2 := hcall wA (h0.ch0 (hcb.trans hcA)) (h1.ch0 (hcb.trans hcA)) (h2.ch0 (hcb.trans hcA))
    rw [HW1.out] at hcall2
    clear hcall
    obtain ⟨a9, c9, rfl⟩ := ho.form'
    rw [List.length_map] at ho ⊢
    have HO := Lib.hid ho
    have hbse : wb.heap.size ≤ w.heap.size := hcb.size
    clear ho
    go_enter Tryz.func41, Tryz.ntmps41
    go_wp2_with (go_at_call 39; ((with_reducible refine hcall2.mono ?_); rintro e w1 ⟨rfl, hcw⟩; clear hcall2))
    have hc1 : Ch [] w w1 := hcA.trans hcw
    have hb1 := hbx.ch hcw (by simp)
    clear x0 x1
    go_loopw [12] (fun i' wr => ∃ k : Nat, k ≤ out.length ∧ i' = .int .i64 k ∧ Ch [] w wr) (fun i' _ => out.length - (intOf i').toNat)
    case atStart => exact ⟨0, Nat.zero_le _, rfl, hc1⟩
    case round =>
      obtain ⟨k, hk, rfl, hq⟩ := hrel
      have hor := HO.out.ch0' hq
      by_cases hlt : k < out.length
      · have jl : decide (k < out.length) = true := decide_eq_true hlt
        obtain ⟨b3, o3, e3, _, d3⟩ := (show SlI _ _ _ out from hor.sl).at_ hlt
        subst e3
        obtain ⟨iz, ez, _⟩ := HWL.out _ (List.getElem_mem hlt)
        have t0 : out[k] ≠ (-1 : Int) := by omega
        have j0 : decide (out[k] = (-1 : Int)) = false := decide_eq_false t0
        have j0' : (out[k] == (-1 : Int)) = false := by simpa using t0
        clear t0 ez
        generalize out[k] = y at *
        go_wp2
        go_roundw
        case rel => exact ⟨k + 1, by omega, by go_num, hq⟩
        case measure => simp [intOf]; omega
      · have jl : decide (k < out.length) = false := decide_eq_false hlt
        go_wp2
        go_ret
        exact ⟨_, rfl, by rw [HDE.out]; exact hor, hq.of_nil, fun b hb => .inl hb⟩
  | succ f ih =>
    intro m out vo w hD hm hrk hO hW hcb ho
    cases hw : whyI st rk rs (m : Int) with
    | none =>
      have HW1 := Lib.hid (whyR_none hw)
      have HDE : Hid (derO st rk rs (f + 1) (m : Int) out = out) := by unfold Hid derO; rw [hw]
      clear ih
      have hcall := refWhy_ rs N m st rk HS.out HRL.out HR.out hm p q r aA nA cA (.slice aR rs.length cR) (.slice aS st.length cS) (.slice aK rk.length cK)
      have hol := derOk_len hO
      have HWL := Lib.hid hW
      clear hD hO hW
      have hbx := Blk.new w 25 #[.slice aA nA cA, .slice aR rs.length cR]
      have hcA : Ch [] w (w.alloc (.cells #[.slice aA nA cA, .slice aR rs.length cR] 25)) := (Ch.refl _ _).alloc _
      have x0 := hbx.cell 0
      have x1 := hbx.cell 1
      generalize hwA : (w.alloc (.cells #[.slice aA nA cA, .slice aR rs.length cR] 25)) = wA at *
      have hcall2 := hcall wA (h0.ch0 (hcb.trans hcA)) (h1.ch0 (hcb.trans hcA)) (h2.ch0 (hcb.trans hcA))
      rw [HW1.out] at hcall2
      clear hcall
      obtain ⟨a9, c9, rfl⟩ := ho.form'
      rw [List.length_map] at ho ⊢
      have HO := Lib.hid ho
      have hbse : wb.heap.size ≤ w.heap.size := hcb.size
      clear ho
      go_enter Tryz.func41, Tryz.ntmps41
      go_wp2_with (go_at_call 39; ((with_reducible refine hcall2.mono ?_); rintro e w1 ⟨rfl, hcw⟩; clear hcall2))
      have hc1 : Ch [] w w1 := hcA.trans hcw
      have hb1 := hbx.ch hcw (by simp)
      clear x0 x1
      go_loopw [12] (fun i' wr => ∃ k : Nat, k ≤ out.length ∧ i' = .int .i64 k ∧ Ch [] w wr) (fun i' _ => out.length - (intOf i').toNat)
      case atStart => exact ⟨0, Nat.zero_le _, rfl, hc1⟩
      case round =>
        obtain ⟨k, hk, rfl, hq⟩ := hrel
        have hor := HO.out.ch0' hq
        by_cases hlt : k < out.length
        · have jl : decide (k < out.length) = true := decide_eq_true hlt
          obtain ⟨b3, o3, e3, _, d3⟩ := (show SlI _ _ _ out from hor.sl).at_ hlt
          subst e3
          obtain ⟨iz, ez, _⟩ := HWL.out _ (List.getElem_mem hlt)
          have t0 : out[k] ≠ (-1 : Int) := by omega
          have j0 : decide (out[k] = (-1 : Int)) = false := decide_eq_false t0
          have j0' : (out[k] == (-1 : Int)) = false := by simpa using t0
          clear t0 ez
          generalize out[k] = y at *
          go_wp2
          go_roundw
          case rel => exact ⟨k + 1, by omega, by go_num, hq⟩
          case measure => simp [intOf]; omega
        · have jl : decide (k < out.length) = false := decide_eq_false hlt
          go_wp2
          go_ret
          exact ⟨_, rfl, by rw [HDE.out]; exact hor, hq.of_nil, fun b hb => .inl hb⟩
    | some i =>
      obtain ⟨_, hi, _, _, hpe, hhd⟩ := whyI_some hw
      have HW1 := Lib.hid (whyR_some hw)
      have HPP := Lib.hid (hpe ▸ why_ps HR.out hw)
      have HDD := Lib.hid (show ∀ p ∈ rs[i].ps, Deep st rk rs f p from fun p hp => hD i hw p (hpe ▸ hp))
      have hol := derOk_len hO
      by_cases hmem : (i : Int) ∈ out
      · have HDE : Hid (derO st rk rs (f + 1) (m : Int) out = out) := by unfold Hid derO; rw [hw]; simp only; rw [if_pos hmem]
        have HM := Lib.hid hmem
        clear ih hmem hD hO hW
        have hcall := refWhy_ rs N m st rk HS.out HRL.out HR.out hm p q r aA nA cA (.slice aR rs.length cR) (.slice aS st.length cS) (.slice aK rk.length cK)
        have hbx := Blk.new w 25 #[.slice aA nA cA, .slice aR rs.length cR]
        have hcA : Ch [] w (w.alloc (.cells #[.slice aA nA cA, .slice aR rs.length cR] 25)) := (Ch.refl _ _).alloc _
        have x0 := hbx.cell 0
        have x1 := hbx.cell 1
        generalize hwA : (w.alloc (.cells #[.slice aA nA cA, .slice aR rs.length cR] 25)) = wA at *
        have hcall2 := hcall wA (h0.ch0 (hcb.trans hcA)) (h1.ch0 (hcb.trans hcA)) (h2.ch0 (hcb.trans hcA))
        rw [HW1.out] at hcall2
        clear hcall
        obtain ⟨a9, c9, rfl⟩ := ho.form'
        rw [List.length_map] at ho ⊢
        have HO := Lib.hid ho
        have hbse : wb.heap.size ≤ w.heap.size := hcb.size
        clear ho
        go_enter Tryz.func41, Tryz.ntmps41
        go_wp2_with (go_at_call 39; ((with_reducible refine hcall2.mono ?_); rintro e w1 ⟨rfl, hcw⟩; clear hcall2))
        have hc1 : Ch [] w w1 := hcA.trans hcw
        have hb1 := hbx.ch hcw (by simp)
        clear x0 x1
        go_loopw [12] (fun i' wr => ∃ k : Nat, k ≤ out.length ∧ i' = .int .i64 k ∧ Ch [] w wr ∧ Hid (∀ j (hj : j < out.length), j < k → out[j] ≠ (i : Int))) (fun i' _ => out.length - (intOf i').toNat)
        case atStart => exact ⟨0, Nat.zero_le _, rfl, hc1, fun j _ h => absurd h (Nat.not_lt_zero _)⟩
        case round =>
          obtain ⟨k, hk, rfl, hq, HN⟩ := hrel
          have hor := HO.out.ch0' hq
          by_cases hlt : k < out.length
          · have jl : decide (k < out.length) = true := decide_eq_true hlt
            obtain ⟨b3, o3, e3, _, d3⟩ := (show SlI _ _ _ out from hor.sl).at_ hlt
            subst e3
            by_cases t0 : out[k] = (i : Int)
            · have j0 : decide (out[k] = (i : Int)) = true := decide_eq_true t0
              have j0' : (out[k] == (i : Int)) = true := by simpa using t0
              clear t0
              generalize out[k] = y at *
              go_wp2
              go_ret
              exact ⟨_, rfl, by rw [HDE.out]; exact hor, hq.of_nil, fun b hb => .inl hb⟩
            · have j0 : decide (out[k] = (i : Int)) = false := decide_eq_false t0
              have j0' : (out[k] == (i : Int)) = false := by simpa using t0
              have HN2 : Hid (∀ j (hj : j < out.length), j < k + 1 → out[j] ≠ (i : Int)) := fun j hj h1 => by
                rcases Nat.lt_succ_iff_lt_or_eq.1 h1 with h2 | h2
                · exact HN.out j hj h2
                · subst h2; exact t0
              clear t0
              generalize out[k] = y at *
              go_wp2
              go_roundw
              case rel => exact ⟨k + 1, by omega, by go_num, hq, HN2⟩
              case measure => simp [intOf]; omega
          · obtain ⟨j, hj, e⟩ := List.getElem_of_mem HM.out
            exact absurd e (HN.out j hj (by omega))
      · have HDE : Hid (derO st rk rs (f + 1) (m : Int) out = derF st rk rs f rs[i].ps out ++ [(i : Int)]) := by unfold Hid derO; rw [hw]; simp only; rw [if_neg hmem, hpe]; rfl
        have HM := Lib.hid hmem
        have HIH := Lib.hid ih
        have HO0 := Lib.hid hO
        have HW0 := Lib.hid hW
        clear ih hmem hD hO hW hpe hhd
        have hcall := refWhy_ rs N m st rk HS.out HRL.out HR.out hm p q r aA nA cA (.slice aR rs.length cR) (.slice aS st.length cS) (.slice aK rk.length cK)
        have hbx := Blk.new w 25 #[.slice aA nA cA, .slice aR rs.length cR]
        have hcA : Ch [] w (w.alloc (.cells #[.slice aA nA cA, .slice aR rs.length cR] 25)) := (Ch.refl _ _).alloc _
        have x0 := hbx.cell 0
        have x1 := hbx.cell 1
        generalize hwA : (w.alloc (.cells #[.slice aA nA cA, .slice aR rs.length cR] 25)) = wA at *
        have hcall2 := hcall wA (h0.ch0 (hcb.trans hcA)) (h1.ch0 (hcb.trans hcA)) (h2.ch0 (hcb.trans hcA))
        rw [HW1.out] at hcall2
        clear hcall
        obtain ⟨a9, c9, rfl⟩ := ho.form'
        rw [List.length_map] at ho ⊢
        have HO := Lib.hid ho
        have hbse : wb.heap.size ≤ w.heap.size := hcb.size
        clear ho
        go_enter Tryz.func41, Tryz.ntmps41
        go_wp2_with (go_at_call 39; ((with_reducible refine hcall2.mono ?_); rintro e w1 ⟨rfl, hcw⟩; clear hcall2))
        have hc1 : Ch [] w w1 := hcA.trans hcw
        have hb1 := hbx.ch hcw (by simp)
        clear x0 x1
        go_loopw [12] (fun i' wr => ∃ k : Nat, k ≤ out.length ∧ i' = .int .i64 k ∧ Ch [] w1 wr) (fun i' _ => out.length - (intOf i').toNat)
        case atStart => exact ⟨0, Nat.zero_le _, rfl, Ch.refl _ _⟩
        case round =>
          obtain ⟨k, hk, rfl, hq⟩ := hrel
          have hqw := hc1.trans hq
          have hor := HO.out.ch0' hqw
          by_cases hlt : k < out.length
          · have jl : decide (k < out.length) = true := decide_eq_true hlt
            obtain ⟨b3, o3, e3, _, d3⟩ := (show SlI _ _ _ out from hor.sl).at_ hlt
            subst e3
            have t0 : out[k] ≠ (i : Int) := fun e => HM.out (e ▸ List.getElem_mem hlt)
            have j0 : decide (out[k] = (i : Int)) = false := decide_eq_false t0
            have j0' : (out[k] == (i : Int)) = false := by simpa using t0
            clear t0
            generalize out[k] = y at *
            go_wp2
            go_roundw
            case rel => exact ⟨k + 1, by omega, by go_num, hq⟩
            case measure => simp [intOf]; omega
          · have jl : decide (k < out.length) = false := decide_eq_false hlt
            have HB := Lib.hid (hb1.ch hq (by simp))
            have HQB := Lib.hid (hcb.trans hqw)
            have HQW : Hid (Ch (Value.slice a9 out.length c9).ownBlock.toList w wr) := hqw.of_nil
            have HOR := Lib.hid hor
            have HBL : Hid (∀ b, (Value.slice a9 out.length c9).ownBlock = some b → b < w.heap.size) := fun b hb => (HO.out.lt hb).2
            obtain ⟨bR, oR, a1, c1, a2, c2, eR, _, d0, d1, d2, hP, _⟩ := h0.at_ hi
            subst eR
            have HPL := Lib.hid (HPS.out _ (List.getElem_mem hi))
            have HP := Lib.hid hP
            have D1 := Lib.hid d1
            have ib : (i : Int) < (rs.length : Int) := by omega
            have ic : (0 : Int) ≤ (i : Int) := by omega
            clear hb1 hq hqw hor d0 d1 d2 hP hk hlt hc1 hcw hcA hwA hbx
            generalize hps0 : rs[i].ps = ps at *
            clear hps0
            have hpl := HPL.out
            have j0 : decide ((i : Int) < 0) = false := decide_eq_false (by omega)
            go_wp2
            generalize hvo : Value.slice a9 out.length c9 = vo at *
            have HVO := Lib.hid hvo
            have HOB : Hid (OwnBy vo vo (w.heap.size + 1)) := fun b hb => .inl hb
            clear hvo
            go_loopw [4, 13] (fun o i' wr => ∃ (k : Nat) (v : Value), k ≤ ps.length ∧ i' = .int .i64 k ∧ v = o ∧ Hid (Ch [] wb wr) ∧ Hid (Ch vo.ownBlock.toList w wr) ∧ Hid (Blk wr w.heap.size 25 #[.slice aA nA cA, .slice (some ⟨bR, oR, none⟩) rs.length cR]) ∧ Hid (Own wr wb.heap.size 3 1 v ((derF st rk rs f (ps.take k) out).map encI)) ∧ Hid (DerOk rk rs F (derF st rk rs f (ps.take k) out)) ∧ Hid (WhyL st rk rs (derF st rk rs f (ps.take k) out)) ∧ Hid (OwnBy v vo (w.heap.size + 1))) (fun _ i' _ => ps.length - (intOf i').toNat)
            case atStart => exact ⟨0, vo, Nat.zero_le _, rfl, rfl, HQB, HQW, HB, HOR, HO0, HW0, HOB⟩
            case round =>
              clear HQB HQW HB HOR HO0 HW0 HOB
              obtain ⟨k, v, hk, rfl, rfl, HQB, HQW, HB, HOR, HDO, HWL, HOB⟩ := hrel
              have x0 := HB.out.cell 0
              have x1 := HB.out.cell 1
              have d1 := cell_ch (S := []) D1.out HQB.out (by simp)
              have hol2 := derOk_len HDO.out
              by_cases hlt : k < ps.length
              · have jl : decide (k < ps.length) = true := decide_eq_true hlt
                obtain ⟨bP, oP, eP, _, dp0⟩ := HP.out.at_ hlt
                subst eP
                have DP0 := Lib.hid dp0
                obtain ⟨hpn, hpr, _⟩ := HPP.out _ (List.getElem_mem hlt)
                have hpd := HDD.out _ (List.getElem_mem hlt)
                have HFS := Lib.hid (derF_snoc (st := st) (rk := rk) (rs := rs) f ps out k hlt)
                obtain ⟨mp, hmp, em⟩ := numIn_nat hpn
                rw [em] at dp0 hpd hpr HFS DP0
                have hdr := derO_ok HR.out HK.out f (mp : Int) (derF st rk rs f (ps.take k) out) hpd (by rw [← em]; exact hpn) hpr HDO.out HWL.out (fun _ _ => .inr trivial)
                rw [← HFS.out] at hdr
                have HD2 := Lib.hid hdr.1
                have HW2 := Lib.hid hdr.2.1
                have hcall := HIH.out mp _ _ wr.drew hpd hmp hpr HDO.out HWL.out HQB.out.drew (HOR.out.ch0' (Ch.refl [] wr).drew)
                rw [← HFS.out] at hcall
                have dp := cell_ch (S := []) dp0 HQB.out (by simp)
                clear hdr hpn em dp0 hpd hpr
                obtain ⟨a8, c8, e8⟩ := HOR.out.form'
                rw [List.length_map] at e8
                subst e8
                have HNB : Hid ((Value.slice a8 (derF st rk rs f (ps.take k) out).length c8).ownBlock ≠ some w.heap.size) := fun e => by
                  rcases HOB.out _ e with h3 | h3
                  · have := HBL.out _ h3; omega
                  · omega
                generalize derF st rk rs f (ps.take k) out = M at *
                go_wp2
                go_region_held3 (fun w' => w'.cell? ⟨w.heap.size, 0, none⟩ = some (.slice aA nA cA) ∧ w'.cell? ⟨w.heap.size, 1, none⟩ = some (.slice (some ⟨bR, oR, none⟩) rs.length cR) ∧ w'.cell? ⟨bR, oR + i * 3 + 1, none⟩ = some (.slice (some ⟨bP, oP, none⟩) ps.length c1) ∧ w'.cell? ⟨bP, oP + k, none⟩ = some (.int .i64 (mp : Int))) (go_keep) (first
                  | (go_at_call 41; ((with_reducible refine hcall.mono ?_); rintro e w3 ⟨v3, rfl, ho3, hc3, hby3⟩; clear hcall; have hb3 := (HB.out.drew).ch hc3 (fun h => HNB.out (by simpa using h)); have hcb3 : Ch [] wb w3 := HQB.out.drew.step hc3 (fun b hb => .inr (HOR.out.lt (by simpa using hb)).1); have z0 := hb3.cell 0; have z1 := hb3.cell 1; have z2 := cell_ch (S := []) D1.out hcb3 (by simp); have z3 := cell_ch (S := []) DP0.out hcb3 (by simp))))
                have hwl := HB.out.lt
                have hq3 : Ch vo.ownBlock.toList w w3 := HQW.out.drew.step hc3 (fun b hb => by
                  rcases HOB.out b (by simpa using hb) with h | h
                  · exact .inl (by simpa using h)
                  · exact .inr (by omega))
                have hob3 : OwnBy v3 vo (w.heap.size + 1) := fun b hb => by
                  rcases hby3 b hb with h | h
                  · exact HOB.out b h
                  · have h4 : wr.heap.size ≤ b := h
                    exact .inr (by omega)
                clear z0 z1 z2 z3 hc3
                go_wp2
                go_roundw
                case rel => exact ⟨k + 1, v3, by omega, by go_num, rfl, hcb3, hq3, hb3, ho3, HD2, HW2, hob3⟩
                case measure => simp [intOf]; omega
              · have hkl : k = ps.length := by omega
                have jl : decide (k < ps.length) = false := decide_eq_false hlt
                have HE2 : Hid (derO st rk rs (f + 1) (m : Int) out = derF st rk rs f (ps.take k) out ++ [(i : Int)]) := by unfold Hid; rw [HDE.out, hkl, List.take_length]
                clear hkl
                have hwl := HB.out.lt
                have hwbl := HQB.out.size
                obtain ⟨a8, c8, e8⟩ := HOR.out.form'
                rw [List.length_map] at e8
                subst e8
                generalize derF st rk rs f (ps.take k) out = M at *
                go_wp2_with (at_builtin; refine wpList_append_sl rfl _ _ _ rfl elIn (base := wb.heap.size) (v := .slice a8 M.length c8) (css := M.map encI) rfl (HOR.out.ch0' ((Ch.refl [] wr).alloc _)) rfl (Sl.one wr 1 _ [.int .i64 (i : Int)] rfl (by simp [Value.oneCell'])) (by simp; omega) (by simp; omega) ?_; intro v6 w6 ho6 hc6 hat6 hn6; clear hn6)
                have ho7 : Own w6 wb.heap.size 3 1 v6 ((M ++ [(i : Int)]).map encI) := by
                  have e : M.map encI ++ [[Value.int .i64 (i : Int)]] = (M ++ [(i : Int)]).map encI := by rw [List.map_append]; rfl
                  rw [e] at ho6
                  exact ho6
                have hq6 : Ch vo.ownBlock.toList w w6 := (HQW.out.alloc _).step hc6 (fun b hb => by
                  rcases HOB.out b (by simpa using hb) with h | h
                  · exact .inl (by simpa using h)
                  · exact .inr (by omega))
                have hob6 : OwnBy v6 vo w.heap.size := fun b hb => by
                  rcases hat6 with h | h
                  · rw [h] at hb
                    rcases HOB.out b hb with h | h
                    · exact .inl h
                    · exact .inr (by omega)
                  · rw [h] at hb
                    injection hb with hb
                    simp at hb
                    exact .inr (by omega)
                clear hc6 hat6 ho6
                go_ret
                exact ⟨v6, rfl, by rw [HE2.out]; exact ho7, by rw [HVO.out]; exact hq6, by rw [HVO.out]; exact hob6⟩

set_option maxRecDepth 100000 in
set_option maxHeartbeats 8000000 in
theorem refDerivation14_ (A : List Tm) (rs : List Gr) (F : List Int) (n : Int) (p : Nat → Prop) (va vr vf : Value) (w : World) (hA : SlT p w va A) (hR : SlGr p w vr rs) (hF : SlI p w vf F) (hb : GdBnd A rs) (hFl : F.length ≤ 1000000) :
    Calls Tryz.prog 23 #[.agg #[va, vr], vf, .int .i64 n] w fun e w' => ∃ v out ok, e = .returned (.tuple #[v, .bool ok]) ∧ SlI (fun b => w.heap.size ≤ b) w' v out ∧ DeAns A rs F n out ok ∧ Ch [] w w' := by
  have HHO := Lib.hid (fun wz (hz : Ch [] w wz) => refHolds14_ A rs F n _ _ _ _ wz (hA.ch0 hz) (hR.ch0 hz) (hF.ch0 hz) hb hFl)
  have HRK := Lib.hid (fun wz (hz : Ch [] w wz) => refRanks14_ A rs F _ _ _ _ wz (hA.ch0 hz) (hR.ch0 hz) (hF.ch0 hz) hb hFl)
  have HST := Lib.hid (fun wz (hz : Ch [] w wz) => refStrata14_ A rs _ _ _ wz (hA.ch0 hz) (hR.ch0 hz) hb)
  have HR := Lib.hid hR
  have HRL := Lib.hid hb.fit
  obtain ⟨aA, cA, rfl, _, _⟩ := hA.form
  obtain ⟨aR, cR, rfl, _, _⟩ := hR.form
  clear hA hR hF hb
  have hbn := Blk.new w 25 #[.slice aA A.length cA, .slice aR rs.length cR]
  have hcA : Ch [] w (w.alloc (.cells #[.slice aA A.length cA, .slice aR rs.length cR] 25)) := (Ch.refl _ _).alloc _
  have x0 := hbn.cell 0
  have x1 := hbn.cell 1
  generalize hwA : (w.alloc (.cells #[.slice aA A.length cA, .slice aR rs.length cR] 25)) = wA at *
  have hho := HHO.out wA hcA
  by_cases hgo : hoA A rs F n = (true, 0)
  · obtain ⟨st, rk, he, hsv, hls, hlk, hRs, hK, h0, m, rfl, hm, hrm⟩ := good_facts hgo
    have hg3 := (hoA_good A rs F (m : Int)).1 hgo
    obtain ⟨f, hD⟩ := deep_ex (rk := rk) hRs h0 (m : Int) hg3.2.1
    have HDA : Hid (DeAns A rs F (m : Int) (derO st rk rs f (m : Int) []) true) := by
      refine .inl ⟨hg3.1, hg3.2.1, hg3.2.2, rfl, f, ?_⟩
      rw [he]
      exact ⟨hD, rfl⟩
    rw [hgo] at hho
    have hrk := HRK.out
    rw [he] at hrk
    have hst := HST.out
    rw [hsv] at hst
    have HDV := Lib.hid (fun (vs vk : Value) (q r : Nat → Prop) (wz : World) (hz : Ch [] w wz) (h1 : SlI q wz vk rk) (h2 : SlI r wz vs st) => refDerive14_ A rs A.length st rk F hls hlk hRs hK (by have := HRL.out.r; omega) (fun x hx => by have := HRL.out.x x hx; omega) _ q r aA A.length cA (.slice aR rs.length cR) vs vk wz (HR.out.ch0 hz) h1 h2 f m [] (.slice none 0 0) wz hD hm hrm (fun j hj => absurd hj (by simp)) (fun k hk => by simp at hk) (Ch.refl _ _) (Own.nil _ _ _ _))
    clear he hsv hls hlk hRs hK hgo HHO HRK HST HR hg3 hD h0 hrm
    generalize derO st rk rs f (m : Int) [] = out at *
    go_enter Tryz.func23, Tryz.ntmps23
    go_wp2_with (first
      | (go_at_call 19; ((with_reducible refine hho.mono ?_); rintro e w1 ⟨rfl, hc1⟩; clear hho; have g0 := (hbn.ch hc1 (by simp)).cell 0; have g1 := (hbn.ch hc1 (by simp)).cell 1))
      | (go_at_call 15; ((with_reducible refine (hrk _ (hcA.trans hc1)).mono ?_); rintro e w2 ⟨v2, rfl, h2, hc2⟩; clear hrk; have k0 := (hbn.ch (hc1.trans hc2) (by simp)).cell 0; have k1 := (hbn.ch (hc1.trans hc2) (by simp)).cell 1))
      | (go_at_call 12; ((with_reducible refine (hst _ ((hcA.trans hc1).trans hc2)).mono ?_); rintro e w3 ⟨v3, rfl, h3, hc3⟩; clear hst; have l0 := (hbn.ch ((hc1.trans hc2).trans hc3) (by simp)).cell 0; have l1 := (hbn.ch ((hc1.trans hc2).trans hc3) (by simp)).cell 1))
      | (go_at_call 41; ((with_reducible refine (HDV.out _ _ _ _ _ (((hcA.trans hc1).trans hc2).trans hc3) (h2.ch0 hc3) h3).mono ?_); rintro e w4 ⟨v4, rfl, ho4, hc4, _⟩)))
    have hc03 := ((hcA.trans hc1).trans hc2).trans hc3
    have hs3 := hc03.size
    go_ret2
    exact ⟨_, out, true, rfl, (show SlI _ _ _ _ from ho4.sl).weak (fun b _ hb => by have := hb.1; omega), HDA.out, hc03.trans (hc4.mono (by simp [Value.ownBlock]))⟩
  · have HDA : Hid (DeAns A rs F n [] false) := .inr ⟨fun h => hgo ((hoA_good A rs F n).2 h), rfl, rfl⟩
    have HG := Lib.hid hgo
    clear hgo HRK HST HR
    generalize hoA A rs F n = O at *
    obtain ⟨b, e0⟩ := O
    by_cases t0 : e0 = 0
    · subst t0
      cases b with
      | true => exact absurd rfl HG.out
      | false =>
        go_enter Tryz.func23, Tryz.ntmps23
        go_wp2_with (go_at_call 19; ((with_reducible refine hho.mono ?_); rintro e w1 ⟨rfl, hc1⟩; clear hho))
        go_ret2
        exact ⟨_, [], false, rfl, SlI.nilZ _ _, HDA.out, hcA.trans hc1⟩
    · have j0 : (e0 != 0) = true := by simpa using t0
      have j1 : decide (e0 = 0) = false := decide_eq_false t0
      have j2 : (e0 == 0) = false := by simpa using t0
      clear t0
      go_enter Tryz.func23, Tryz.ntmps23
      go_wp2_with (go_at_call 19; ((with_reducible refine hho.mono ?_); rintro e w1 ⟨rfl, hc1⟩; clear hho))
      go_ret2
      exact ⟨_, [], false, rfl, SlI.nilZ _ _, HDA.out, hcA.trans hc1⟩
end

section
open Go.RowKit

set_option maxRecDepth 100000 in
set_option maxHeartbeats 2000000 in
theorem in14_ (p : Nat → Prop) (v : Value) (xs : List Int) (n : Int) (w : World) (h : SlI p w v xs) :
    Calls Tryz.prog 25 #[v, .int .i64 n] w fun e w' => e = .returned (.bool (decide (n ∈ xs))) ∧ Ch [] w w' := by
  obtain ⟨a, c, rfl, hlc, hm⟩ := h.form
  unfold maxLen at hm
  go_enter Tryz.func25, Tryz.ntmps25
  go_wp2
  go_loopw [5] (fun i wr => ∃ k : Nat, k ≤ xs.length ∧ i = .int .i64 k ∧ Ch [] w wr ∧ Hid (∀ j (hj : j < xs.length), j < k → xs[j] ≠ n)) (fun i _ => xs.length - (intOf i).toNat)
  case atStart => exact ⟨0, Nat.zero_le _, rfl, Ch.refl _ _, fun j _ h => absurd h (Nat.not_lt_zero _)⟩
  case round =>
    obtain ⟨k, hk, rfl, hq, HN⟩ := hrel
    by_cases hlt : k < xs.length
    · have jl : decide (k < xs.length) = true := decide_eq_true hlt
      obtain ⟨b, o, rfl, _, d⟩ := (h.ch0 hq).at_ hlt
      by_cases t0 : xs[k] = n
      · have HR : Hid (decide (n ∈ xs) = true) := decide_eq_true (t0 ▸ List.getElem_mem hlt)
        have j0 : decide (xs[k] = n) = true := decide_eq_true t0
        have j0' : (xs[k] == n) = true := by simpa using t0
        clear t0
        generalize xs[k] = y at *
        go_wp2
        go_ret
        exact ⟨by rw [HR.out]; rfl, hq⟩
      · have j0 : decide (xs[k] = n) = false := decide_eq_false t0
        have j0' : (xs[k] == n) = false := by simpa using t0
        have HN2 : Hid (∀ j (hj : j < xs.length), j < k + 1 → xs[j] ≠ n) := fun j hj h1 => by
          rcases Nat.lt_succ_iff_lt_or_eq.1 h1 with h2 | h2
          · exact HN.out j hj h2
          · subst h2; exact t0
        clear t0
        generalize xs[k] = y at *
        go_wp2
        go_roundw
        case rel => exact ⟨k + 1, by omega, by go_num, hq, HN2⟩
        case measure => simp [intOf]; omega
    · have jl : decide (k < xs.length) = false := decide_eq_false hlt
      have HR : Hid (decide (n ∈ xs) = false) := decide_eq_false (fun hm => by
        obtain ⟨j, hj, e⟩ := List.getElem_of_mem hm
        exact HN.out j hj (by omega) e)
      go_wp2
      go_ret
      exact ⟨by rw [HR.out]; rfl, hq⟩

set_option maxRecDepth 100000 in
set_option maxHeartbeats 4000000 in
theorem body14_ (x : Gr) (S : List Int) (p q : Nat → Prop) (va vb vs : Value) (w : World) (h1 : SlI p w va x.ps) (h2 : SlI p w vb x.ns) (h3 : SlI q w vs S) :
    Calls Tryz.prog 24 #[.agg #[.int .i64 x.h, va, vb], vs] w fun e w' => e = .returned (.bool (bodyS S x)) ∧ Ch [] w w' := by
  obtain ⟨a1, c1, rfl, _, m1⟩ := h1.form
  obtain ⟨a2, c2, rfl, _, m2⟩ := h2.form
  obtain ⟨a3, c3, rfl, _, m3⟩ := h3.form
  unfold maxLen at m1 m2 m3
  have hbx := Blk.new w 44 #[.int .i64 x.h, .slice a1 x.ps.length c1, .slice a2 x.ns.length c2]
  have hcA : Ch [] w (w.alloc (.cells #[.int .i64 x.h, .slice a1 x.ps.length c1, .slice a2 x.ns.length c2] 44)) := (Ch.refl _ _).alloc _
  go_enter Tryz.func24, Tryz.ntmps24
  go_wp2
  obtain ⟨B, hB⟩ : ∃ B, B = w.heap.size := ⟨_, rfl⟩
  rw [← hB] at hbx ⊢
  clear hB
  go_loopw [5] (fun i wr => ∃ k : Nat, k ≤ x.ps.length ∧ i = .int .i64 k ∧ Ch [] w wr ∧ Blk wr B 44 #[.int .i64 x.h, .slice a1 x.ps.length c1, .slice a2 x.ns.length c2] ∧ Hid (∀ j (hj : j < x.ps.length), j < k → x.ps[j] ∈ S)) (fun i _ => x.ps.length - (intOf i).toNat)
  case atStart => exact ⟨0, Nat.zero_le _, rfl, hcA, hbx, fun j _ h => absurd h (Nat.not_lt_zero _)⟩
  case round =>
    obtain ⟨k, hk, rfl, hq, hb, HN⟩ := hrel
    have b1 := hb.cell 1
    by_cases hlt : k < x.ps.length
    · have jl : decide (k < x.ps.length) = true := decide_eq_true hlt
      obtain ⟨b, o, rfl, _, d⟩ := (h1.ch0 hq).at_ hlt
      have hcall := in14_ _ _ S x.ps[k] wr (h3.ch0 hq)
      have HNO : Hid (x.ps[k] ∉ S → bodyS S x = false) := fun h => bodyS_pos hlt h
      have HYES : Hid (x.ps[k] ∈ S → ∀ j (hj : j < x.ps.length), j < k + 1 → x.ps[j] ∈ S) := fun h j hj h1 => by
        rcases Nat.lt_succ_iff_lt_or_eq.1 h1 with h2 | h2
        · exact HN.out j hj h2
        · subst h2; exact h
      generalize x.ps[k] = y at *
      by_cases t0 : y ∈ S
      · rw [decide_eq_true t0] at hcall
        have HN2 := Lib.hid (HYES.out t0)
        clear t0 HYES HNO
        go_wp2_with (go_at_call 25; ((with_reducible refine hcall.mono ?_); rintro e w1 ⟨rfl, hc1⟩; clear hcall))
        go_roundw
        case rel => exact ⟨k + 1, by omega, by go_num, hq.trans hc1, hb.ch hc1 (by simp), HN2⟩
        case measure => simp [intOf]; omega
      · rw [decide_eq_false t0] at hcall
        have HR := Lib.hid (HNO.out t0)
        clear t0 HYES HNO
        go_wp2_with (go_at_call 25; ((with_reducible refine hcall.mono ?_); rintro e w1 ⟨rfl, hc1⟩; clear hcall))
        go_ret
        exact ⟨by rw [HR.out]; rfl, hq.trans hc1⟩
    · have jl : decide (k < x.ps.length) = false := decide_eq_false hlt
      have HFN := Lib.hid (bodyS_neg (S := S) (x := x) (fun j hj => HN.out j hj (by omega)))
      clear HN hlt hk
      go_wp2
      clear b1
      go_loopw [6] (fun i wr => ∃ k : Nat, k ≤ x.ns.length ∧ i = .int .i64 k ∧ Ch [] w wr ∧ Blk wr B 44 #[.int .i64 x.h, .slice a1 x.ps.length c1, .slice a2 x.ns.length c2] ∧ Hid (∀ j (hj : j < x.ns.length), j < k → x.ns[j] ∉ S)) (fun i _ => x.ns.length - (intOf i).toNat)
      case atStart => exact ⟨0, Nat.zero_le _, rfl, hq, hb, fun j _ h => absurd h (Nat.not_lt_zero _)⟩
      case round =>
        clear hq hb
        obtain ⟨k, hk, rfl, hq, hb, HN⟩ := hrel
        have b2 := hb.cell 2
        by_cases hlt : k < x.ns.length
        · have jl : decide (k < x.ns.length) = true := decide_eq_true hlt
          obtain ⟨b, o, rfl, _, d⟩ := (h2.ch0 hq).at_ hlt
          have hcall := in14_ _ _ S x.ns[k] wr (h3.ch0 hq)
          have HNO : Hid (x.ns[k] ∈ S → bodyS S x = false) := fun h => by
            unfold Hid at *
            rw [HFN, List.all_eq_false]
            exact ⟨_, List.getElem_mem hlt, by simp [h]⟩
          have HYES : Hid (x.ns[k] ∉ S → ∀ j (hj : j < x.ns.length), j < k + 1 → x.ns[j] ∉ S) := fun h j hj h1 => by
            rcases Nat.lt_succ_iff_lt_or_eq.1 h1 with h2 | h2
            · exact HN.out j hj h2
            · subst h2; exact h
          generalize x.ns[k] = y at *
          by_cases t0 : y ∈ S
          · rw [decide_eq_true t0] at hcall
            have HR := Lib.hid (HNO.out t0)
            clear t0 HYES HNO
            go_wp2_with (go_at_call 25; ((with_reducible refine hcall.mono ?_); rintro e w1 ⟨rfl, hc1⟩; clear hcall))
            go_ret
            exact ⟨by rw [HR.out]; rfl, hq.trans hc1⟩
          · rw [decide_eq_false t0] at hcall
            have HN2 := Lib.hid (HYES.out t0)
            clear t0 HYES HNO
            go_wp2_with (go_at_call 25; ((with_reducible refine hcall.mono ?_); rintro e w1 ⟨rfl, hc1⟩; clear hcall))
            go_roundw
            case rel => exact ⟨k + 1, by omega, by go_num, hq.trans hc1, hb.ch hc1 (by simp), HN2⟩
            case measure => simp [intOf]; omega
        · have jl : decide (k < x.ns.length) = false := decide_eq_false hlt
          have HR : Hid (bodyS S x = true) := by
            unfold Hid
            rw [HFN.out, List.all_eq_true]
            intro n hn
            obtain ⟨j, hj, rfl⟩ := List.getElem_of_mem hn
            simpa using HN.out j hj (by omega)
          go_wp2
          go_ret
          exact ⟨by rw [HR.out]; rfl, hq⟩

def supP (st rk : List Int) (n p : Int) : Bool := decide (gI st p < gI st n) || (decide (gI st p = gI st n) && decide (gI rk p < gI rk n))
theorem supX_P (st rk S : List Int) (n : Int) (x : Gr) : supX st rk S n x = (decide (x.h = n) && (bodyS S x && x.ps.all (supP st rk n))) := rfl
theorem all_take {q : Int → Bool} {l : List Int} {k : Nat} (h : (l.take k).all q = false) : l.all q = false := by
  rw [List.all_eq_false] at h ⊢
  obtain ⟨x, hx, h1⟩ := h
  exact ⟨x, List.mem_of_mem_take hx, h1⟩
theorem all_snoc (q : Int → Bool) (l : List Int) (k : Nat) (h : k < l.length) : (l.take (k + 1)).all q = ((l.take k).all q && q l[k]) := by
  rw [take_snoc l k h, List.all_append]; simp

set_option maxRecDepth 100000 in
set_option maxHeartbeats 16000000 in
theorem supported14_ (rs : List Gr) (N m : Nat) (st rk S : List Int) (hs : st.length = N) (hr : rk.length = N) (hR : ∀ x ∈ rs, grOk N x = true) (hm : m < N) (p q r s : Nat → Prop) (aA : Option Addr) (nA cA : Nat) (vr vs vk vS : Value) (w : World) (h0 : SlGr p w vr rs) (h1 : SlI q w vk rk) (h2 : SlI r w vs st) (h3 : SlI s w vS S) :
    Calls Tryz.prog 26 #[.agg #[.slice aA nA cA, vr], vS, vk, vs, .int .i64 (m : Int)] w fun e w' => e = .returned (.bool (supQ st rk S rs (m : Int))) ∧ Ch [] w w' := by
  have hmr : m < rk.length := by omega
  have hms : m < st.length := by omega
  have HGR := Lib.hid (gI_at hmr)
  have HGS := Lib.hid (gI_at hms)
  obtain ⟨a0, c0, rfl, _, m0⟩ := h0.form
  obtain ⟨a1, c1, rfl, _, m1⟩ := h1.form
  obtain ⟨a2, c2, rfl, _, m2⟩ := h2.form
  obtain ⟨a3, c3, rfl, _, m3⟩ := h3.form
  unfold maxLen at m0 m1 m2 m3
  obtain ⟨b1, o1, rfl, _, d1⟩ := h1.at_ hmr
  obtain ⟨b2, o2, rfl, _, d2⟩ := h2.at_ hms
  have D1 := Lib.hid d1
  have D2 := Lib.hid d2
  have hbx := Blk.new w 25 #[.slice aA nA cA, .slice a0 rs.length c0]
  have hcA : Ch [] w (w.alloc (.cells #[.slice aA nA cA, .slice a0 rs.length c0] 25)) := (Ch.refl _ _).alloc _
  have HR := Lib.hid hR
  have HSL := Lib.hid hs
  have HRL := Lib.hid hr
  have i1 : (m : Int) < (rk.length : Int) := by omega
  have i2 : (0 : Int) ≤ (m : Int) := by omega
  have i3 : (m : Int) < (st.length : Int) := by omega
  clear hR hs hr d1 d2
  generalize rk[m] = rm at *
  generalize st[m] = sm at *
  go_enter Tryz.func26, Tryz.ntmps26
  go_wp2
  obtain ⟨B6, hB6⟩ : ∃ B, B = w.heap.size := ⟨_, rfl⟩
  rw [← hB6] at hbx ⊢
  clear hB6
  go_loopw [11] (fun i wr => ∃ k : Nat, k ≤ rs.length ∧ i = .int .i64 k ∧ Ch [] w wr ∧ Blk wr B6 25 #[.slice aA nA cA, .slice a0 rs.length c0] ∧ Hid (∀ j (hj : j < rs.length), j < k → supX st rk S (m : Int) rs[j] = false)) (fun i _ => rs.length - (intOf i).toNat)
  case atStart => exact ⟨0, Nat.zero_le _, rfl, hcA, hbx, fun j _ h => absurd h (Nat.not_lt_zero _)⟩
  case round =>
    clear hcA hbx
    obtain ⟨k, hk, rfl, hq, hb, HN⟩ := hrel
    have x1 := hb.cell 1
    by_cases hlt : k < rs.length
    · have jl : decide (k < rs.length) = true := decide_eq_true hlt
      obtain ⟨b, o, a4, c4, a5, c5, rfl, hp, e0, e1, e2, s4, s5⟩ := (h0.ch0 hq).at_ hlt
      have HXO := Lib.hid (HR.out _ (List.getElem_mem hlt))
      have HYES : Hid (supX st rk S (m : Int) rs[k] = true → supQ st rk S rs (m : Int) = true) := fun h => supQ_at hlt h
      have HNO : Hid (supX st rk S (m : Int) rs[k] = false → ∀ j (hj : j < rs.length), j < k + 1 → supX st rk S (m : Int) rs[j] = false) := fun hz j hj h1 => by
        rcases Nat.lt_succ_iff_lt_or_eq.1 h1 with h2 | h2
        · exact HN.out j hj h2
        · subst h2; exact hz
      generalize rs[k] = x at *
      have HXP := Lib.hid (supX_P st rk S (m : Int) x)
      have hbn := Blk.new wr 44 #[.int .i64 x.h, .slice a4 x.ps.length c4, .slice a5 x.ns.length c5]
      have hcN : Ch [] wr (wr.alloc (.cells #[.int .i64 x.h, .slice a4 x.ps.length c4, .slice a5 x.ns.length c5] 44)) := (Ch.refl _ _).alloc _
      have hcall := body14_ x S _ _ (.slice a4 x.ps.length c4) (.slice a5 x.ns.length c5) (.slice a3 S.length c3) (wr.alloc (.cells #[.int .i64 x.h, .slice a4 x.ps.length c4, .slice a5 x.ns.length c5] 44)) (s4.ch0 hcN) (s5.ch0 hcN) (h3.ch0 (hq.trans hcN))
      have HS4 := Lib.hid s4
      have y0 := hbn.cell 0
      have y1 := hbn.cell 1
      have y2 := hbn.cell 2
      have hmx := s4.form
      obtain ⟨_, _, eP, _, hmP⟩ := hmx
      injection eP with eP1 _ eP2
      subst eP1 eP2
      unfold maxLen at hmP
      clear s4 s5
      generalize hwN : (wr.alloc (.cells #[.int .i64 x.h, .slice a4 x.ps.length c4, .slice a5 x.ns.length c5] 44)) = wN at *
      by_cases th : x.h = (m : Int)
      · have jh : decide (x.h = (m : Int)) = true := decide_eq_true th
        have jh' : (x.h == (m : Int)) = true := by simpa using th
        cases hbo : bodyS S x with
        | false =>
          have HX0 : Hid (supX st rk S (m : Int) x = false) := by unfold Hid; rw [HXP.out, hbo]; simp
          have HN2 := Lib.hid (HNO.out HX0.out)
          rw [hbo] at hcall
          clear hbo th
          generalize x.h = xh at *
          generalize hn1 : x.ps.length = n1 at *
          clear hn1
          go_wp2_with (go_at_call 24; ((with_reducible refine hcall.mono ?_); rintro e w1 ⟨rfl, hc1⟩; clear hcall))
          go_loopw [13, 14] (fun ok i wq => ok = .bool false ∧ i = .int .i64 0 ∧ Ch [] w wq ∧ Blk wq B6 25 #[.slice aA nA cA, .slice (some ⟨b, o, none⟩) rs.length c0] ∧ Blk wq wr.heap.size 44 #[.int .i64 xh, .slice a4 n1 c4, .slice a5 x.ns.length c5]) (fun _ _ _ => 0)
          case atStart => exact ⟨rfl, rfl, (hq.trans hcN).trans hc1, (hb.ch hcN (by simp)).ch hc1 (by simp), hbn.ch hc1 (by simp)⟩
          case round =>
            obtain ⟨rfl, rfl, hq3, hb3, hb4⟩ := hrel
            have z1 := hb4.cell 1
            by_cases hz : 0 < n1
            all_goals
              go_wp2
              go_roundw
              case rel => exact ⟨k + 1, by omega, by go_num, hq3, hb3, HN2⟩
              case measure => simp [intOf]; omega
        | true =>
          have HX0 : Hid (supX st rk S (m : Int) x = x.ps.all (supP st rk (m : Int))) := by unfold Hid; rw [HXP.out, hbo, jh]; simp
          rw [hbo] at hcall
          have HPN := Lib.hid (grOk_p HXO.out)
          clear hbo th
          generalize x.h = xh at *
          go_wp2_with (go_at_call 24; ((with_reducible refine hcall.mono ?_); rintro e w1 ⟨rfl, hc1⟩; clear hcall))
          have hq1 := (hq.trans hcN).trans hc1
          have hb1q := (hb.ch hcN (by simp)).ch hc1 (by simp)
          have hb2q := hbn.ch hc1 (by simp)
          obtain ⟨B12, hB12⟩ : ∃ B, B = wr.heap.size := ⟨_, rfl⟩
          rw [← hB12] at hb2q ⊢
          clear hB12
          have HPW := Lib.hid (HS4.out.ch0 (hcN.trans hc1))
          have HC1 := Lib.hid hq1
          clear x1 y0 y1 y2 e0 e1 e2 hwN hcN hq hb hbn
          go_loopw [13, 14] (fun ok i wq => ∃ j : Nat, j ≤ x.ps.length ∧ i = .int .i64 j ∧ ok = .bool ((x.ps.take j).all (supP st rk (m : Int))) ∧ Ch [] w1 wq ∧ Blk wq B6 25 #[.slice aA nA cA, .slice (some ⟨b, o, none⟩) rs.length c0] ∧ Blk wq B12 44 #[.int .i64 xh, .slice a4 x.ps.length c4, .slice a5 x.ns.length c5]) (fun _ i _ => x.ps.length - (intOf i).toNat)
          case atStart => exact ⟨0, Nat.zero_le _, rfl, rfl, Ch.refl _ _, hb1q, hb2q⟩
          case round =>
            clear hb1q hb2q
            obtain ⟨j, hj, rfl, rfl, hq3, hb3, hb4⟩ := hrel
            have hqw := HC1.out.trans hq3
            have z1 := hb4.cell 1
            cases hv : (x.ps.take j).all (supP st rk (m : Int)) with
            | false =>
              have HX1 : Hid (supX st rk S (m : Int) x = false) := by unfold Hid; rw [HX0.out, all_take hv]
              have HN2 := Lib.hid (HNO.out HX1.out)
              clear hv
              by_cases hz : j < x.ps.length
              all_goals
                go_wp2
                go_roundw
                case rel => exact ⟨k + 1, by omega, by go_num, hqw, hb3, HN2⟩
                case measure => simp [intOf]; omega
            | true =>
              by_cases hz : j < x.ps.length
              · have jz : decide (j < x.ps.length) = true := decide_eq_true hz
                have HSN := Lib.hid (all_snoc (supP st rk (m : Int)) x.ps j hz)
                obtain ⟨bP, oP, eP, _, dp⟩ := (HPW.out.ch0 hq3).at_ hz
                subst eP
                obtain ⟨mp, hmp, em⟩ := numIn_nat (HPN.out _ (List.getElem_mem hz))
                have hpr : mp < rk.length := by rw [HRL.out]; exact hmp
                have hps : mp < st.length := by rw [HSL.out]; exact hmp
                obtain ⟨_, _, f1, _, dr⟩ := (h1.ch0 hqw).at_ hpr
                injection f1 with f1
                injection f1 with f1 f2
                subst f1 f2
                obtain ⟨_, _, f1, _, ds⟩ := (h2.ch0 hqw).at_ hps
                injection f1 with f1
                injection f1 with f1 f2
                subst f1 f2
                have HSP : Hid (supP st rk (m : Int) x.ps[j] = (decide (st[mp] < sm) || (decide (st[mp] = sm) && decide (rk[mp] < rm)))) := by
                  unfold Hid supP
                  rw [em, gI_at hps, gI_at hpr, HGS.out, HGR.out]
                rw [hv, HSP.out] at HSN
                rw [em] at dp
                have i4 : (mp : Int) < (rk.length : Int) := by omega
                have i5 : (0 : Int) ≤ (mp : Int) := by omega
                have i6 : (mp : Int) < (st.length : Int) := by omega
                have l1 := Later.cell z1
                have l2 := Later.cell dp
                have l3 := Later.cell ds
                have l4 := Later.cell dr
                have l5 := Later.cell (cell_ch (S := []) D1.out hqw (by simp))
                have l6 := Later.cell (cell_ch (S := []) D2.out hqw (by simp))
                clear hv HSP em dp dr ds
                generalize rk[mp] = rp at *
                generalize st[mp] = sp at *
                by_cases t0 : sp < sm
                · have j0 : decide (sp < sm) = true := decide_eq_true t0
                  have HT : Hid ((x.ps.take (j + 1)).all (supP st rk (m : Int)) = true) := by unfold Hid; rw [HSN.out, j0]; rfl
                  clear HSN t0
                  go_wp2
                  refine wp_region_later (by kernel_rfl) (lexB_of (by kernel_rfl)) ?_
                  repeat (go_big_quiet_step (fail))
                  refine wpQuiet_nil ?_
                  intro w6 hw6
                  clear l1 l2 l3 l4 l5 l6 z1
                  go_wp2
                  go_roundw
                  case rel => exact ⟨j + 1, by omega, by go_num, by rw [HT.out], hq3.trans hw6, hb3.ch hw6 (by simp), hb4.ch hw6 (by simp)⟩
                  case measure => simp [intOf]; omega
                · have j0 : decide (sp < sm) = false := decide_eq_false t0
                  by_cases t1 : sp = sm
                  · have j1 : decide (sp = sm) = true := decide_eq_true t1
                    have j1' : (sp == sm) = true := by simpa using t1
                    by_cases t2 : rp < rm
                    · have j2 : decide (rp < rm) = true := decide_eq_true t2
                      have HT : Hid ((x.ps.take (j + 1)).all (supP st rk (m : Int)) = true) := by unfold Hid; rw [HSN.out, j0, j1, j2]; rfl
                      clear HSN t0 t1 t2
                      go_wp2
                      refine wp_region_later (by kernel_rfl) (lexB_of (by kernel_rfl)) ?_
                      repeat (go_big_quiet_step (fail))
                      refine wpQuiet_nil ?_
                      intro w6 hw6
                      clear l1 l2 l3 l4 l5 l6 z1
                      go_wp2
                      go_roundw
                      case rel => exact ⟨j + 1, by omega, by go_num, by rw [HT.out], hq3.trans hw6, hb3.ch hw6 (by simp), hb4.ch hw6 (by simp)⟩
                      case measure => simp [intOf]; omega
                    · have j2 : decide (rp < rm) = false := decide_eq_false t2
                      have HT : Hid ((x.ps.take (j + 1)).all (supP st rk (m : Int)) = false) := by unfold Hid; rw [HSN.out, j0, j1, j2]; rfl
                      clear HSN t0 t1 t2
                      go_wp2
                      refine wp_region_later (by kernel_rfl) (lexB_of (by kernel_rfl)) ?_
                      repeat (go_big_quiet_step (fail))
                      refine wpQuiet_nil ?_
                      intro w6 hw6
                      clear l1 l2 l3 l4 l5 l6 z1
                      go_wp2
                      go_roundw
                      case rel => exact ⟨j + 1, by omega, by go_num, by rw [HT.out], hq3.trans hw6, hb3.ch hw6 (by simp), hb4.ch hw6 (by simp)⟩
                      case measure => simp [intOf]; omega
                  · have j1 : decide (sp = sm) = false := decide_eq_false t1
                    have j1' : (sp == sm) = false := by simpa using t1
                    have HT : Hid ((x.ps.take (j + 1)).all (supP st rk (m : Int)) = false) := by unfold Hid; rw [HSN.out, j0, j1]; rfl
                    clear HSN t0 t1
                    go_wp2
                    refine wp_region_later (by kernel_rfl) (lexB_of (by kernel_rfl)) ?_
                    repeat (go_big_quiet_step (fail))
                    refine wpQuiet_nil ?_
                    intro w6 hw6
                    clear l1 l2 l3 l4 l5 l6 z1
                    go_wp2
                    go_roundw
                    case rel => exact ⟨j + 1, by omega, by go_num, by rw [HT.out], hq3.trans hw6, hb3.ch hw6 (by simp), hb4.ch hw6 (by simp)⟩
                    case measure => simp [intOf]; omega
              · have jz : decide (j < x.ps.length) = false := decide_eq_false hz
                have HX1 : Hid (supX st rk S (m : Int) x = true) := by unfold Hid; rw [HX0.out, ← hv, List.take_of_length_le (by omega)]
                have HRR := Lib.hid (HYES.out HX1.out)
                clear hv
                go_wp2
                go_ret
                exact ⟨by rw [HRR.out]; rfl, hqw⟩
      · have jh : decide (x.h = (m : Int)) = false := decide_eq_false th
        have jh' : (x.h == (m : Int)) = false := by simpa using th
        have HX0 : Hid (supX st rk S (m : Int) x = false) := by unfold Hid; rw [HXP.out, jh]; simp
        have HN2 := Lib.hid (HNO.out HX0.out)
        clear th hcall
        generalize x.h = xh at *
        generalize hn1 : x.ps.length = n1 at *
        clear hn1
        go_wp2
        go_loopw [13, 14] (fun ok i wq => ok = .bool false ∧ i = .int .i64 0 ∧ Ch [] w wq ∧ Blk wq B6 25 #[.slice aA nA cA, .slice (some ⟨b, o, none⟩) rs.length c0] ∧ Blk wq wr.heap.size 44 #[.int .i64 xh, .slice a4 n1 c4, .slice a5 x.ns.length c5]) (fun _ _ _ => 0)
        case atStart => exact ⟨rfl, rfl, hq.trans hcN, hb.ch hcN (by simp), hbn⟩
        case round =>
          obtain ⟨rfl, rfl, hq3, hb3, hb4⟩ := hrel
          have z1 := hb4.cell 1
          by_cases hz : 0 < n1
          all_goals
            go_wp2
            go_roundw
            case rel => exact ⟨k + 1, by omega, by go_num, hq3, hb3, HN2⟩
            case measure => simp [intOf]; omega
    · have jl : decide (k < rs.length) = false := decide_eq_false hlt
      have HRR : Hid (supQ st rk S rs (m : Int) = false) := supQ_no (fun j hj => HN.out j hj (by omega))
      go_wp2
      go_ret
      exact ⟨by rw [HRR.out]; rfl, hq⟩

theorem SlT.cellAt {p : Nat → Prop} {w : World} {a : Option Addr} {n c : Nat} {ts : List Tm} (h : SlT p w (.slice a n c) ts) {i : Nat} (hi : i < ts.length) : ∃ b o a' c', a = some ⟨b, o, none⟩ ∧ w.cell? ⟨b, o + i * 2, none⟩ = some (.string ts[i].name) ∧ w.cell? ⟨b, o + i * 2 + 1, none⟩ = some (.slice a' ts[i].args.length c') ∧ SlT p w (.slice a' ts[i].args.length c') ts[i].args := by
  obtain ⟨b, o, a', c', h1, _, h2, h3, h4⟩ := h.at_ hi
  exact ⟨b, o, a', c', h1, h2, h3, h4⟩
def smT (t : Tm) : Bool := decide (pParts 60 t 60 ≤ 60)
set_option maxRecDepth 100000 in
set_option maxHeartbeats 2000000 in
theorem smallTerms_ (p : Nat → Prop) (v : Value) (ts : List Tm) (w : World) (h : SlT p w v ts) :
    Calls Tryz.prog 28 #[v, .int .i64 60] w fun e w' => e = .returned (.bool (decide (ts.length ≤ 60) && ts.all smT)) ∧ Ch [] w w' := by
  obtain ⟨a, c, rfl, hlc, hm⟩ := h.form
  unfold maxLen at hm
  by_cases hbig : 60 < ts.length
  · have HR : Hid ((decide (ts.length ≤ 60) && ts.all smT) = false) := by unfold Hid; rw [decide_eq_false (by omega)]; rfl
    have j0 : decide (60 < ts.length) = true := decide_eq_true hbig
    have j0' : decide ((60 : Int) < (ts.length : Int)) = true := decide_eq_true (by omega)
    go_enter Tryz.func28, Tryz.ntmps28
    go_wp2
    go_ret
    exact ⟨by rw [HR.out]; rfl, Ch.refl _ _⟩
  · have HR : Hid ((decide (ts.length ≤ 60) && ts.all smT) = ts.all smT) := by unfold Hid; rw [decide_eq_true (by omega)]; rfl
    have j0 : decide (60 < ts.length) = false := decide_eq_false hbig
    have j0' : decide ((60 : Int) < (ts.length : Int)) = false := decide_eq_false (by omega)
    go_enter Tryz.func28, Tryz.ntmps28
    go_wp2
    go_loopw [12] (fun i wr => ∃ k : Nat, k ≤ ts.length ∧ i = .int .i64 k ∧ Ch [] w wr ∧ Hid (∀ j (hj : j < ts.length), j < k → smT ts[j] = true)) (fun i _ => ts.length - (intOf i).toNat)
    case atStart => exact ⟨0, Nat.zero_le _, rfl, Ch.refl _ _, fun j _ h => absurd h (Nat.not_lt_zero _)⟩
    case round =>
      obtain ⟨k, hk, rfl, hq, HN⟩ := hrel
      by_cases hlt : k < ts.length
      · have jl : decide (k < ts.length) = true := decide_eq_true hlt
        obtain ⟨b, o, a', c', rfl, d0, d1, hT⟩ := (h.ch0 hq).cellAt hlt
        have hcall := (show Calls Tryz.prog 42 #[.agg #[.string ts[k].name, .slice a' ts[k].args.length c'], .int .i64 60] wr _ from small_ ts[k] _ _ wr 60 hT (by omega))
        have HYES : Hid (smT ts[k] = true → ∀ j (hj : j < ts.length), j < k + 1 → smT ts[j] = true) := fun h j hj h1 => by
          rcases Nat.lt_succ_iff_lt_or_eq.1 h1 with h2 | h2
          · exact HN.out j hj h2
          · subst h2; exact h
        have HNO : Hid (smT ts[k] = false → ts.all smT = false) := fun h => by
          rw [List.all_eq_false]
          exact ⟨_, List.getElem_mem hlt, by simp [h]⟩
        have HSM : Hid (decide (pParts 60 ts[k] 60 ≤ 60) = smT ts[k]) := rfl
        rw [HSM.out] at hcall
        generalize ts[k] = t at *
        cases hs : smT t with
        | true =>
          have HN2 := Lib.hid (HYES.out hs)
          rw [hs] at hcall
          clear hs HYES HNO HSM hT
          go_wp2_with (go_at_call 42; ((with_reducible refine hcall.mono ?_); rintro e w1 ⟨rfl, hc1⟩; clear hcall))
          go_roundw
          case rel => exact ⟨k + 1, by omega, by go_num, hq.trans hc1, HN2⟩
          case measure => simp [intOf]; omega
        | false =>
          have HX := Lib.hid (HNO.out hs)
          rw [hs] at hcall
          clear hs HYES HNO HSM hT
          go_wp2_with (go_at_call 42; ((with_reducible refine hcall.mono ?_); rintro e w1 ⟨rfl, hc1⟩; clear hcall))
          go_ret
          exact ⟨by rw [HR.out, HX.out]; rfl, hq.trans hc1⟩
      · have jl : decide (k < ts.length) = false := decide_eq_false hlt
        have HX : Hid (ts.all smT = true) := by
          unfold Hid
          rw [List.all_eq_true]
          intro t ht
          obtain ⟨j, hj, rfl⟩ := List.getElem_of_mem ht
          exact HN.out j hj (by omega)
        go_wp2
        go_ret
        exact ⟨by rw [HR.out, HX.out]; rfl, hq⟩

def smX (x : Gr) : Bool := decide (x.ps.length ≤ 20) && decide (x.ns.length ≤ 20)
def fewG (A : List Tm) (rs : List Gr) (F : List Int) : Bool := (decide (A.length ≤ 60) && A.all smT) && (decide (rs.length ≤ 150) && (decide (F.length ≤ 80) && rs.all smX))
theorem smT_sz {t : Tm} (h : smT t = true) : t.sz ≤ 60 ∧ t.dep ≤ 60 := by
  have h1 : pParts 60 t 60 ≤ 60 := by simpa [smT] using h
  have := pParts_small 60 t 60 h1
  omega
theorem few_gd {A : List Tm} {rs : List Gr} {F : List Int} (h : fewG A rs F = true) (hN : NiceL reachBytes maxLen A) : GdBnd A rs ∧ F.length ≤ 1000000 := by
  simp only [fewG, smX, Bool.and_eq_true, decide_eq_true_eq, List.all_eq_true] at h
  obtain ⟨⟨h1, h2⟩, h3, h4, h5⟩ := h
  have hN' : ∀ t ∈ A, Nice reachBytes maxLen t := niceL_mem.1 hN
  refine ⟨⟨⟨by omega, by omega, fun x hx => h5 x hx, fun t ht => ?_⟩, fun t ht => ?_, reachBytes, maxLen, hN', by decide⟩, by omega⟩
  · have := hN' t ht
    obtain ⟨nm, ags⟩ := t
    simp only [Nice] at this
    exact Nat.le_trans this.1 (by decide)
  · have := smT_sz (h2 t ht); omega
set_option maxRecDepth 100000 in
set_option maxHeartbeats 4000000 in
theorem fewG_ (A : List Tm) (rs : List Gr) (F : List Int) (p q : Nat → Prop) (va vr vf : Value) (w : World) (hA : SlT p w va A) (hR : SlGr p w vr rs) (hF : SlI q w vf F) :
    Calls Tryz.prog 9 #[.agg #[va, vr], vf] w fun e w' => e = .returned (.bool (fewG A rs F)) ∧ Ch [] w w' := by
  have hsm := fun wz (hz : Ch [] w wz) => smallTerms_ p va A wz (hA.ch0 hz)
  obtain ⟨aA, cA, rfl, _, mA⟩ := hA.form
  obtain ⟨aR, cR, rfl, _, mR⟩ := hR.form
  obtain ⟨aF, cF, rfl, _, mF⟩ := hF.form
  unfold maxLen at mA mR mF
  have HFE : Hid (fewG A rs F = ((decide (A.length ≤ 60) && A.all smT) && (decide (rs.length ≤ 150) && (decide (F.length ≤ 80) && rs.all smX)))) := rfl
  generalize (decide (A.length ≤ 60) && A.all smT) = sa at *
  generalize fewG A rs F = O at *
  have hbn := Blk.new w 25 #[.slice aA A.length cA, .slice aR rs.length cR]
  have hcA : Ch [] w (w.alloc (.cells #[.slice aA A.length cA, .slice aR rs.length cR] 25)) := (Ch.refl _ _).alloc _
  have x0 := hbn.cell 0
  have x1 := hbn.cell 1
  generalize hwA : (w.alloc (.cells #[.slice aA A.length cA, .slice aR rs.length cR] 25)) = wA at *
  have hs1 := hsm wA hcA
  clear hsm
  cases sa with
  | false =>
    have HO : Hid (O = false) := by unfold Hid; rw [HFE.out]; rfl
    go_enter Tryz.func9, Tryz.ntmps9
    go_wp2_with (go_at_call 28; ((with_reducible refine hs1.mono ?_); rintro e w1 ⟨rfl, hc1⟩; clear hs1; have g1 := (hbn.ch hc1 (by simp)).cell 1))
    go_ret
    exact ⟨by rw [HO.out]; rfl, hcA.trans hc1⟩
  | true =>
    by_cases t1 : 150 < rs.length
    · have HO : Hid (O = false) := by unfold Hid; rw [HFE.out, decide_eq_false (by omega)]; rfl
      have j1 : decide (150 < rs.length) = true := decide_eq_true t1
      have j1' : decide ((150 : Int) < (rs.length : Int)) = true := decide_eq_true (by omega)
      go_enter Tryz.func9, Tryz.ntmps9
      go_wp2_with (go_at_call 28; ((with_reducible refine hs1.mono ?_); rintro e w1 ⟨rfl, hc1⟩; clear hs1; have g1 := (hbn.ch hc1 (by simp)).cell 1))
      go_ret
      exact ⟨by rw [HO.out]; rfl, hcA.trans hc1⟩
    · have j1 : decide (150 < rs.length) = false := decide_eq_false t1
      have j1' : decide ((150 : Int) < (rs.length : Int)) = false := decide_eq_false (by omega)
      by_cases t2 : 80 < F.length
      · have HO : Hid (O = false) := by unfold Hid; rw [HFE.out, decide_eq_true (show rs.length ≤ 150 by omega), decide_eq_false (by omega)]; rfl
        have j2 : decide (80 < F.length) = true := decide_eq_true t2
        have j2' : decide ((80 : Int) < (F.length : Int)) = true := decide_eq_true (by omega)
        go_enter Tryz.func9, Tryz.ntmps9
        go_wp2_with (go_at_call 28; ((with_reducible refine hs1.mono ?_); rintro e w1 ⟨rfl, hc1⟩; clear hs1; have g1 := (hbn.ch hc1 (by simp)).cell 1))
        go_ret
        exact ⟨by rw [HO.out]; rfl, hcA.trans hc1⟩
      · have j2 : decide (80 < F.length) = false := decide_eq_false t2
        have j2' : decide ((80 : Int) < (F.length : Int)) = false := decide_eq_false (by omega)
        have HO : Hid (O = rs.all smX) := by unfold Hid; rw [HFE.out, decide_eq_true (show rs.length ≤ 150 by omega), decide_eq_true (show F.length ≤ 80 by omega)]; rfl
        clear HFE
        go_enter Tryz.func9, Tryz.ntmps9
        go_wp2_with (go_at_call 28; ((with_reducible refine hs1.mono ?_); rintro e w1 ⟨rfl, hc1⟩; clear hs1; have g1 := (hbn.ch hc1 (by simp)).cell 1))
        have HB := Lib.hid (hbn.ch hc1 (by simp))
        have hq1 := hcA.trans hc1
        clear g1 x0 x1 hwA
        go_loopw [5] (fun i wr => ∃ k : Nat, k ≤ rs.length ∧ i = .int .i64 k ∧ Ch [] w1 wr ∧ Hid (∀ j (hj : j < rs.length), j < k → smX rs[j] = true)) (fun i _ => rs.length - (intOf i).toNat)
        case atStart => exact ⟨0, Nat.zero_le _, rfl, Ch.refl _ _, fun j _ h => absurd h (Nat.not_lt_zero _)⟩
        case round =>
          obtain ⟨k, hk, rfl, hq, HN⟩ := hrel
          have hqw := hq1.trans hq
          have g1 := (HB.out.ch hq (by simp)).cell 1
          by_cases hlt : k < rs.length
          · have jl : decide (k < rs.length) = true := decide_eq_true hlt
            obtain ⟨b, o, a4, c4, a5, c5, rfl, hp, e0, e1, e2, _, _⟩ := (hR.ch0 hqw).at_ hlt
            have HYES : Hid (smX rs[k] = true → ∀ j (hj : j < rs.length), j < k + 1 → smX rs[j] = true) := fun h j hj h1 => by
              rcases Nat.lt_succ_iff_lt_or_eq.1 h1 with h2 | h2
              · exact HN.out j hj h2
              · subst h2; exact h
            have HNO : Hid (smX rs[k] = false → rs.all smX = false) := fun h => by
              rw [List.all_eq_false]
              exact ⟨_, List.getElem_mem hlt, by simp [h]⟩
            generalize rs[k] = x at *
            have HSX : Hid (smX x = (decide (x.ps.length ≤ 20) && decide (x.ns.length ≤ 20))) := rfl
            by_cases u1 : 20 < x.ps.length
            · have k1 : decide (20 < x.ps.length) = true := decide_eq_true u1
              have k1' : decide ((20 : Int) < (x.ps.length : Int)) = true := decide_eq_true (by omega)
              have HX := Lib.hid (HNO.out (by rw [HSX.out, decide_eq_false (by omega)]; rfl))
              clear HYES HNO
              go_wp2
              go_ret
              exact ⟨by rw [HO.out, HX.out]; rfl, hqw⟩
            · have k1 : decide (20 < x.ps.length) = false := decide_eq_false u1
              have k1' : decide ((20 : Int) < (x.ps.length : Int)) = false := decide_eq_false (by omega)
              by_cases u2 : 20 < x.ns.length
              · have k2 : decide (20 < x.ns.length) = true := decide_eq_true u2
                have k2' : decide ((20 : Int) < (x.ns.length : Int)) = true := decide_eq_true (by omega)
                have HX := Lib.hid (HNO.out (by rw [HSX.out, decide_eq_false (show ¬ x.ns.length ≤ 20 by omega)]; simp))
                clear HYES HNO
                go_wp2
                go_ret
                exact ⟨by rw [HO.out, HX.out]; rfl, hqw⟩
              · have k2 : decide (20 < x.ns.length) = false := decide_eq_false u2
                have k2' : decide ((20 : Int) < (x.ns.length : Int)) = false := decide_eq_false (by omega)
                have HN2 := Lib.hid (HYES.out (by rw [HSX.out, decide_eq_true (show x.ps.length ≤ 20 by omega), decide_eq_true (show x.ns.length ≤ 20 by omega)]; rfl))
                clear HYES HNO
                go_wp2
                go_roundw
                case rel => exact ⟨k + 1, by omega, by go_num, hq, HN2⟩
                case measure => simp [intOf]; omega
          · have jl : decide (k < rs.length) = false := decide_eq_false hlt
            have HX : Hid (rs.all smX = true) := by
              unfold Hid
              rw [List.all_eq_true]
              intro t ht
              obtain ⟨j, hj, rfl⟩ := List.getElem_of_mem ht
              exact HN.out j hj (by omega)
            go_wp2
            go_ret
            exact ⟨by rw [HO.out, HX.out]; rfl, hqw⟩
end
end Go.Proofs.YtojokdicbopknaaGreat
