
/-
  The law ModelMore holds.
-/
import Derived.Test.YtojokdicbopknaaGreatGdR2
namespace Go.Proofs.YtojokdicbopknaaGreat
open Go.RowKit

/-- the facts and one atom more -/
def moreQ (F : List Int) (m : Nat) (i : Nat) : Bool := decide ((i : Int) ∈ F) || decide (i = m)
theorem mem_more {F : List Int} {m N : Nat} {n : Int} (hn : numIn N n = true) : n ∈ selI (moreQ F m) N ↔ n ∈ F ∨ n = (m : Int) := by
  obtain ⟨k, hk, rfl⟩ := numIn_nat hn
  rw [mem_selI]
  constructor
  · rintro ⟨i, e, _, hq⟩
    have : i = k := by omega
    subst this
    simp only [moreQ, Bool.or_eq_true, decide_eq_true_eq] at hq
    rcases hq with h | h
    · exact .inl h
    · exact .inr (by omega)
  · intro h
    refine ⟨k, rfl, hk, ?_⟩
    simp only [moreQ, Bool.or_eq_true, decide_eq_true_eq]
    rcases h with h | h
    · exact .inl h
    · exact .inr (by omega)
/-- what the law wants of the model with one fact more -/
theorem more_facts {A : List Tm} {rs : List Gr} {F : List Int} {m : Nat} (hmA : m < A.length) (h : (evA A rs F).1 = 0) : ∃ S S' : List Int, mdR (evA A rs F).2.2 (evA A rs F).2.2.length = S ∧ (evA A rs (selI (moreQ F m) A.length)).1 = 0 ∧ mdR (evA A rs (selI (moreQ F m) A.length)).2.2 (evA A rs (selI (moreQ F m) A.length)).2.2.length = S' ∧
    factsOk A.length S' = true ∧ (m : Int) ∈ S' ∧ ((m : Int) ∈ S → S = S') ∧ ((∀ x ∈ rs, x.ns = []) → ∀ n ∈ S, n ∈ S') ∧ S.length ≤ A.length ∧ S'.length ≤ A.length := by
  rcases ev_facts A rs F with ⟨e0, he, hne⟩ | ⟨st, rk, he, hsv, hls, hlk, hRs, hKs, h0, hgd, hfo, hst, -⟩
  · rw [he] at h; exact absurd h hne
  · have hfo' : factsOk A.length (selI (moreQ F m) A.length) = true := facts_selI (Nat.le_refl _)
    have he' := evA_some hgd hfo' hst
    have hKs' : RkOk A.length st rs (selI (moreQ F m) A.length) (ranksR st rs A.length (selI (moreQ F m) A.length)) := by
      refine ranksR_ok hRs hls (fun n hn => ?_) (by simp only [factsOk, Bool.and_eq_true] at hfo'; exact hfo'.1)
      obtain ⟨j, hj, rfl⟩ := List.getElem_of_mem hn
      have := h0 (j : Int) (by simp [numIn]; omega)
      rwa [gI_at hj] at this
    have hlk' := ranksR_len st rs A.length (selI (moreQ F m) A.length)
    have hnm : numIn A.length (m : Int) = true := by simp [numIn]; omega
    have hm0 := (hKs'.fact (m : Int) hnm).2 ((mem_more hnm).2 (.inr rfl))
    have hF1 : ∀ n ∈ F, numIn A.length n = true → 0 ≤ gI (ranksR st rs A.length (selI (moreQ F m) A.length)) n := fun n hn hi => by
      have := (hKs'.fact n hi).2 ((mem_more hi).2 (.inl hn)); omega
    refine ⟨_, _, rfl, by rw [he'], rfl, ?_, ?_, ?_, ?_, ?_, ?_⟩
    · rw [he']
      exact facts_selI (Nat.le_of_eq hlk')
    · rw [he']
      exact (mem_mdR hlk').2 ⟨hnm, by show 0 ≤ gI (ranksR st rs A.length (selI (moreQ F m) A.length)) (m : Int); omega⟩
    · intro hin
      rw [he] at hin ⊢
      rw [he']
      have h1 := (mem_mdR hlk).1 hin
      have hs := RkOk.same hRs hKs hKs' hF1 (fun n hn hi => by
        rcases (mem_more hi).1 hn with h2 | h2
        · have := (hKs.fact n hi).2 h2; omega
        · rw [h2]; exact h1.2) h0
      show selI _ rk.length = selI _ (ranksR st rs A.length (selI (moreQ F m) A.length)).length
      rw [hlk, hlk']
      exact selI_congr fun i hi => decide_eq_decide.2 (hs (i : Int) (by simp [numIn]; omega))
    · intro hp n hn
      rw [he] at hn
      rw [he']
      have h1 := (mem_mdR hlk).1 hn
      exact (mem_mdR hlk').2 ⟨h1.1, RkOk.more hRs hKs hKs' (fun k hk => by
        by_cases hi : numIn A.length k = true
        · exact (mem_more hi).2 (.inl hk)
        · simp only [factsOk, numsIn, Bool.and_eq_true, List.all_eq_true] at hfo
          exact absurd (hfo.1 k hk) hi) hp h0 n h1.1 h1.2⟩
    · rw [he]; exact Nat.le_trans (mdR_len _ _) (Nat.le_of_eq hlk)
    · rw [he']; exact Nat.le_trans (mdR_len _ _) (Nat.le_of_eq hlk')
def noNeg (x : Gr) : Bool := decide (x.ns.length = 0)
theorem noNeg_all {rs : List Gr} (h : rs.all noNeg = true) : ∀ x ∈ rs, x.ns = [] := fun x hx => by
  have := List.all_eq_true.1 h x hx
  simp only [noNeg, decide_eq_true_eq] at this
  exact List.eq_nil_of_length_eq_zero this
theorem noNeg_snoc (l : List Gr) (k : Nat) (h : k < l.length) : (l.take (k + 1)).all noNeg = ((l.take k).all noNeg && noNeg l[k]) := by
  rw [take_snoc l k h, List.all_append]; simp

set_option maxRecDepth 100000 in
set_option maxHeartbeats 8000000 in
theorem lawMore14_ (A : List Tm) (rs : List Gr) (F : List Int) (m : Nat) (hm : m ≤ 255) (p q : Nat → Prop) (va vr vf : Value) (w : World) (hA : SlT p w va A) (hR : SlGr p w vr rs) (hF : SlI q w vf F) (hN : NiceL reachBytes maxLen A) :
    Calls Tryz.prog 8 #[.agg #[va, vr], vf, .int .u8 (m : Int)] w fun e w' => e = .returned (.bool true) ∧ Ch [] w w' := by
  have hfew := fun wz (hz : Ch [] w wz) => fewG_ A rs F _ _ _ _ vf wz (hA.ch0 hz) (hR.ch0 hz) (hF.ch0 hz)
  have HOK := Lib.hid (fun h : fewG A rs F = true => few_gd h hN)
  clear hN
  have hA0 : SlT (fun _ => True) w va A := hA.weak (fun _ _ _ => trivial)
  have hR0 : SlGr (fun _ => True) w vr rs := hR.weak (fun _ _ _ => trivial)
  clear hA hR
  obtain ⟨aA, cA, rfl, _, _⟩ := hA0.form
  obtain ⟨aR, cR, rfl, _, _⟩ := hR0.form
  have hF0 : SlI (fun _ => True) w vf F := hF.weak (fun _ _ _ => trivial)
  clear hF
  obtain ⟨aF, cF, rfl, _, _⟩ := hF0.form
  have hbn := Blk.new w 25 #[.slice aA A.length cA, .slice aR rs.length cR]
  have hcA : Ch [] w (w.alloc (.cells #[.slice aA A.length cA, .slice aR rs.length cR] 25)) := (Ch.refl _ _).alloc _
  have x0 := hbn.cell 0
  have x1 := hbn.cell 1
  generalize hwA : (w.alloc (.cells #[.slice aA A.length cA, .slice aR rs.length cR] 25)) = wA at *
  have hf0 := hfew wA hcA
  clear hfew
  cases hfb : fewG A rs F with
  | false =>
    rw [hfb] at hf0
    clear HOK hfb
    go_enter Tryz.func8, Tryz.ntmps8
    go_wp2_with (first
      | (go_at_call 9; ((with_reducible refine hf0.mono ?_); rintro e w1 ⟨rfl, hc1⟩; clear hf0))
      | (go_at_call 10; ((with_reducible refine (law14awake _).mono ?_); rintro e w2 ⟨rfl, hc2⟩)))
    go_ret
    exact ⟨rfl, (hcA.trans hc1).trans hc2⟩
  | true =>
    rw [hfb] at hf0
    obtain ⟨hbd, hFl⟩ := HOK.out hfb
    clear HOK hfb
    by_cases hbig : A.length ≤ m
    · have j0 : decide (A.length ≤ m) = true := decide_eq_true hbig
      have j0' : decide ((A.length : Int) ≤ (m : Int)) = true := decide_eq_true (by omega)
      go_enter Tryz.func8, Tryz.ntmps8
      go_wp2_with (first
        | (go_at_call 9; ((with_reducible refine hf0.mono ?_); rintro e w1 ⟨rfl, hc1⟩; clear hf0; have y0 := (hbn.ch hc1 (by simp)).cell 0))
        | (go_at_call 10; ((with_reducible refine (law14awake _).mono ?_); rintro e w2 ⟨rfl, hc2⟩)))
      go_ret
      exact ⟨rfl, (hcA.trans hc1).trans hc2⟩
    · have j0 : decide (A.length ≤ m) = false := decide_eq_false hbig
      have j0' : decide ((A.length : Int) ≤ (m : Int)) = false := decide_eq_false (by omega)
      have HM := Lib.hid (fun wz (hz : Ch [] wA wz) => model_ A rs F _ _ _ _ wz (hA0.ch0 (hcA.trans hz)) (hR0.ch0 (hcA.trans hz)) (hF0.ch0 (hcA.trans hz)) hbd hFl)
      have HBD := Lib.hid hbd
      have hrl := hbd.fit.r
      have hal := hbd.fit.a
      clear hbd
      by_cases hev : (evA A rs F).1 = 0
      · obtain ⟨S, S', h1, h2, h3, h4, h5, h6, h7, hSl, hSl'⟩ := more_facts (m := m) (by omega) hev
        have HEV2 := Lib.hid h2
        have HS2 := Lib.hid h3
        have HF4 := Lib.hid h4
        have HM5 := Lib.hid h5
        have HSM := Lib.hid h6
        have HPL := Lib.hid h7
        rw [h1, hev] at HM
        clear h1 h2 h3 h4 h5 h6 h7 hev
        go_enter Tryz.func8, Tryz.ntmps8
        go_wp2_with (first
          | (go_at_call 9; ((with_reducible refine hf0.mono ?_); rintro e w1 ⟨rfl, hc1⟩; clear hf0; have y0 := (hbn.ch hc1 (by simp)).cell 0; have y1 := (hbn.ch hc1 (by simp)).cell 1))
          | (go_at_call 16; ((with_reducible refine (HM.out _ hc1).mono ?_); rintro e w4 ⟨v3, rfl, h3, hc2⟩; obtain ⟨a3, c3, rfl, _, _⟩ := h3.form)))
        have hq := hc1.trans hc2
        have HB := Lib.hid (hbn.ch hq (by simp))
        have hcW := hcA.trans hq
        have HA4 := Lib.hid (hA0.ch0 hcW)
        have HR4 := Lib.hid (hR0.ch0 hcW)
        have HFF := Lib.hid (hF0.ch0 hcW)
        have H3 := Lib.hid (h3.weak (q := fun _ => True) (fun _ _ _ => trivial))
        clear hA0 hR0 hF0 h3 y0 y1 x0 x1 hwA hbn hq hcA HM hc1 hc2
        go_loopw [9, 10] (fun o i wr => ∃ (k : Nat) (v : Value), k ≤ A.length ∧ i = .int .i64 k ∧ v = o ∧ Ch [] w4 wr ∧ Own wr w4.heap.size 3 1 v ((selI (moreQ F m) k).map encI)) (fun _ i _ => A.length - (intOf i).toNat)
        case atStart => exact ⟨0, _, Nat.zero_le _, rfl, rfl, Ch.refl _ _, Own.nil _ _ _ _⟩
        case round =>
          obtain ⟨k, v, hk, rfl, rfl, hq, ho⟩ := hrel
          have y0 := (HB.out.ch hq (by simp)).cell 0
          have y1 := (HB.out.ch hq (by simp)).cell 1
          have hsq := hq.size
          by_cases hlt : k < A.length
          · have jl : decide (k < A.length) = true := decide_eq_true hlt
            have hin := in14_ _ _ F (k : Int) wr (HFF.out.ch0 hq)
            have hsl := selI_len (moreQ F m) k
            obtain ⟨a9, c9, e9⟩ := ho.form'
            rw [List.length_map] at e9
            subst e9
            by_cases t0 : (k : Int) ∈ F
            · rw [decide_eq_true t0] at hin
              have HS := Lib.hid (selI_yes (q := moreQ F m) (k := k) (by simp [moreQ, t0]))
              clear t0
              generalize selI (moreQ F m) k = M at *
              go_wp2_with (first
                | (go_at_call 25; ((with_reducible refine hin.mono ?_); rintro e w7 ⟨rfl, hc7⟩; clear hin; have hs7 := hc7.size))
                | (at_builtin; refine wpList_append_sl rfl _ _ _ rfl elIn (base := w4.heap.size) (v := .slice a9 M.length c9) (css := M.map encI) rfl ((ho.ch0' hc7).ch0' ((Ch.refl [] w7).alloc _)) rfl (Sl.one w7 1 _ [.int .i64 (k : Int)] rfl (by simp [Value.oneCell'])) (by simp; omega) (by simp; omega) ?_; intro v8 w8 ho8 hc8 hat8 hn8; clear hn8))
              have hq8 : Ch [] w4 w8 := ((hq.trans hc7).alloc _).step hc8 (fun b hb => .inr (ho.lt (by simpa using hb)).1)
              have ho9 : Own w8 w4.heap.size 3 1 v8 ((M ++ [(k : Int)]).map encI) := by
                have e : M.map encI ++ [[Value.int .i64 (k : Int)]] = (M ++ [(k : Int)]).map encI := by rw [List.map_append]; rfl
                rw [e] at ho8
                exact ho8
              go_roundw
              case rel => exact ⟨k + 1, v8, by omega, by go_num, rfl, hq8, by rw [HS.out]; exact ho9⟩
              case measure => simp [intOf]; omega
            · rw [decide_eq_false t0] at hin
              by_cases t1 : k = m
              · have j1 : decide ((k : Int) = (m : Int)) = true := decide_eq_true (by omega)
                have j1' : ((k : Int) == (m : Int)) = true := by simp [t1]
                have j1p : decide (k = m) = true := decide_eq_true t1
                have j1q : (k == m) = true := by simp [t1]
                have HS := Lib.hid (selI_yes (q := moreQ F m) (k := k) (by simp [moreQ, t1]))
                clear t0 t1
                generalize selI (moreQ F m) k = M at *
                go_wp2_with (first
                  | (go_at_call 25; ((with_reducible refine hin.mono ?_); rintro e w7 ⟨rfl, hc7⟩; clear hin; have hs7 := hc7.size))
                  | (at_builtin; refine wpList_append_sl rfl _ _ _ rfl elIn (base := w4.heap.size) (v := .slice a9 M.length c9) (css := M.map encI) rfl ((ho.ch0' hc7).ch0' ((Ch.refl [] w7).alloc _)) rfl (Sl.one w7 1 _ [.int .i64 (k : Int)] rfl (by simp [Value.oneCell'])) (by simp; omega) (by simp; omega) ?_; intro v8 w8 ho8 hc8 hat8 hn8; clear hn8))
                have hq8 : Ch [] w4 w8 := ((hq.trans hc7).alloc _).step hc8 (fun b hb => .inr (ho.lt (by simpa using hb)).1)
                have ho9 : Own w8 w4.heap.size 3 1 v8 ((M ++ [(k : Int)]).map encI) := by
                  have e : M.map encI ++ [[Value.int .i64 (k : Int)]] = (M ++ [(k : Int)]).map encI := by rw [List.map_append]; rfl
                  rw [e] at ho8
                  exact ho8
                go_roundw
                case rel => exact ⟨k + 1, v8, by omega, by go_num, rfl, hq8, by rw [HS.out]; exact ho9⟩
                case measure => simp [intOf]; omega
              · have j1 : decide ((k : Int) = (m : Int)) = false := decide_eq_false (by omega)
                have j1' : ((k : Int) == (m : Int)) = false := by simp; omega
                have j1p : decide (k = m) = false := decide_eq_false t1
                have j1q : (k == m) = false := by simp; omega
                have HS := Lib.hid (selI_no (q := moreQ F m) (k := k) (by simp [moreQ, t0, t1]))
                clear t0 t1
                go_wp2_with (go_at_call 25; ((with_reducible refine hin.mono ?_); rintro e w7 ⟨rfl, hc7⟩; clear hin))
                go_roundw
                case rel => exact ⟨k + 1, _, by omega, by go_num, rfl, hq.trans hc7, by rw [HS.out]; exact ho.ch0' hc7⟩
                case measure => simp [intOf]; omega
          · have hkl : k = A.length := by omega
            have jl : decide (k < A.length) = false := decide_eq_false hlt
            obtain ⟨a9, c9, e9⟩ := ho.form'
            rw [List.length_map] at e9
            subst e9
            subst hkl
            have hml := selI_len (moreQ F m) A.length
            have HEV := Lib.hid (model_ A rs (selI (moreQ F m) A.length) (fun _ => True))
            generalize selI (moreQ F m) A.length = M at *
            rw [HEV2.out, HS2.out] at HEV
            clear HEV2 HS2
            have HMS := Lib.hid ((show SlI _ wr _ M from ho.sl).weak (q := fun _ => True) (fun _ _ _ => trivial))
            clear ho
            go_wp2
            clear y0 y1
            have HQ5 := Lib.hid hq
            obtain ⟨w5, hw5⟩ : ∃ w5, w5 = wr := ⟨_, rfl⟩
            rw [← hw5] at HQ5 HMS ⊢
            clear hw5 hq hsq
            go_loopw [11, 12] (fun pl i wr => ∃ k : Nat, k ≤ rs.length ∧ i = .int .i64 k ∧ pl = .bool ((rs.take k).all noNeg) ∧ Ch [] w5 wr) (fun _ i _ => rs.length - (intOf i).toNat)
            case atStart => exact ⟨0, Nat.zero_le _, rfl, rfl, Ch.refl _ _⟩
            case round =>
              clear hlt hk jl
              obtain ⟨k, hk, rfl, rfl, hq5⟩ := hrel
              have hq := HQ5.out.trans hq5
              have y0 := (HB.out.ch hq (by simp)).cell 0
              have y1 := (HB.out.ch hq (by simp)).cell 1
              by_cases hlt : k < rs.length
              · have jl : decide (k < rs.length) = true := decide_eq_true hlt
                obtain ⟨b, o, a7, c7, a8, c8, rfl, _, e0, e1, e2, _, _⟩ := (HR4.out.ch0 hq).at_ hlt
                have HSN := Lib.hid (noNeg_snoc rs k hlt)
                generalize rs[k] = x at *
                have HNX : Hid (noNeg x = decide (x.ns.length = 0)) := rfl
                cases hv : (rs.take k).all noNeg with
                | false =>
                  have HT : Hid ((rs.take (k + 1)).all noNeg = false) := by unfold Hid; rw [HSN.out, hv]; rfl
                  clear hv
                  go_wp2
                  go_roundw
                  case rel => exact ⟨k + 1, by omega, by go_num, by rw [HT.out], hq5⟩
                  case measure => simp [intOf]; omega
                | true =>
                  by_cases t0 : x.ns.length = 0
                  · have HT : Hid ((rs.take (k + 1)).all noNeg = true) := by unfold Hid; rw [HSN.out, hv, HNX.out, decide_eq_true t0]; rfl
                    have j0 : ((x.ns.length : Int) == 0) = true := by simp [t0]
                    have j0' : decide (x.ns.length = 0) = true := decide_eq_true t0
                    have j0p : decide ((x.ns.length : Int) = 0) = true := decide_eq_true (by omega)
                    have j0q : (x.ns.length == 0) = true := by simp [t0]
                    clear t0 hv
                    generalize x.ns.length = n9 at *
                    go_wp2
                    go_roundw
                    case rel => exact ⟨k + 1, by omega, by go_num, by rw [HT.out], hq5⟩
                    case measure => simp [intOf]; omega
                  · have HT : Hid ((rs.take (k + 1)).all noNeg = false) := by unfold Hid; rw [HSN.out, hv, HNX.out, decide_eq_false t0]; rfl
                    have j0 : ((x.ns.length : Int) == 0) = false := by simp; intro h; exact t0 (by simp [h])
                    have j0' : decide (x.ns.length = 0) = false := decide_eq_false t0
                    have j0p : decide ((x.ns.length : Int) = 0) = false := decide_eq_false (by omega)
                    have j0q : (x.ns.length == 0) = false := by simp; intro h; exact t0 (by simp [h])
                    clear t0 hv
                    generalize x.ns.length = n9 at *
                    go_wp2
                    go_roundw
                    case rel => exact ⟨k + 1, by omega, by go_num, by rw [HT.out], hq5⟩
                    case measure => simp [intOf]; omega
              · have hkl : k = rs.length := by omega
                have jl : decide (k < rs.length) = false := decide_eq_false hlt
                have HPA : Hid ((rs.take k).all noNeg = rs.all noNeg) := by unfold Hid; rw [hkl, List.take_length]
                rw [HPA.out]
                clear HPA
                have HPB : Hid (rs.all noNeg = true → ∀ n ∈ S, n ∈ S') := fun h => HPL.out (noNeg_all h)
                generalize rs.all noNeg = pl at *
                clear hkl
                have hmd := HEV.out (.slice aA A.length cA) (.slice aR rs.length cR) (.slice a9 M.length c9) wr (HA4.out.ch0 hq) (HR4.out.ch0 hq) (HMS.out.ch0 hq5) HBD.out (by omega)
                have hin := fun wz (hz : Ch [] w4 wz) => in14_ _ _ S (m : Int) wz (H3.out.ch0 hz)
                by_cases tm : (m : Int) ∈ S
                · rw [decide_eq_true tm] at hin
                  obtain rfl := HSM.out tm
                  clear tm
                  go_wp2_with (first
                    | (go_at_call 16; ((with_reducible refine hmd.mono ?_); rintro e w6 ⟨v6, rfl, h6, hc6⟩; clear hmd; obtain ⟨a6, c6, rfl, _, _⟩ := h6.form; have hq6 := hq.trans hc6))
                    | (go_at_call 25; ((with_reducible refine (hin _ hq6).mono ?_); rintro e w7 ⟨rfl, hc7⟩; clear hin; have hq7 := hq6.trans hc7))
                    | (go_at_call 13; ((with_reducible refine (intsEq _ _ _ _ S _ (H3.out.ch0 hq7) (h6.ch0 hc7)).mono ?_); rintro e w8 ⟨rfl, hc8⟩; have hq8 := hq7.trans hc8))
                    | (go_at_call 10; ((with_reducible refine (law14awake _).mono ?_); rintro e w9 ⟨rfl, hc9⟩)))
                  go_ret
                  exact ⟨rfl, (hcW.trans hq8).trans hc9⟩
                · rw [decide_eq_false tm] at hin
                  clear tm
                  go_wp2_with (first
                    | (go_at_call 16; ((with_reducible refine hmd.mono ?_); rintro e w6 ⟨v6, rfl, h6, hc6⟩; clear hmd; obtain ⟨a6, c6, rfl, _, _⟩ := h6.form; have hq6 := hq.trans hc6))
                    | (go_at_call 25; ((with_reducible refine (hin _ hq6).mono ?_); rintro e w7 ⟨rfl, hc7⟩; clear hin; have hq7 := hq6.trans hc7)))
                  have H6 := Lib.hid ((h6.ch0 hc7).weak (q := fun _ => True) (fun _ _ _ => trivial))
                  have HQ7 := Lib.hid hq7
                  clear h6 hc6 hc7 hq6 hq7 y0 y1 hq hq5
                  go_loopw [15] (fun i wr => ∃ k : Nat, k ≤ S.length ∧ i = .int .i64 k ∧ Ch [] w7 wr) (fun i _ => S.length - (intOf i).toNat)
                  case atStart => exact ⟨0, Nat.zero_le _, rfl, Ch.refl _ _⟩
                  case round =>
                    clear hlt hk jl
                    obtain ⟨k, hk, rfl, hq⟩ := hrel
                    have hq4 := HQ7.out.trans hq
                    have y0 := (HB.out.ch hq4 (by simp)).cell 0
                    have hi2 := fun wz (hz : Ch [] w7 wz) => in14_ _ _ S' (m : Int) wz (H6.out.ch0 hz)
                    rw [decide_eq_true HM5.out] at hi2
                    have hnu := fun wz (hz : Ch [] w7 wz) => refNumbers_ A.length _ _ S' wz (H6.out.ch0 hz) (by omega) (by omega)
                    rw [HF4.out] at hnu
                    by_cases hlt : k < S.length
                    · have jl : decide (k < S.length) = true := decide_eq_true hlt
                      cases pl with
                      | true =>
                        obtain ⟨b, o, eS, _, d3⟩ := (H3.out.ch0 hq4).at_ hlt
                        subst eS
                        have hi3 := in14_ _ _ S' S[k] wr (H6.out.ch0 hq)
                        rw [decide_eq_true (HPB.out rfl _ (List.getElem_mem hlt))] at hi3
                        generalize S[k] = y at *
                        clear hi2 hnu
                        go_wp2_with (go_at_call 25; ((with_reducible refine hi3.mono ?_); rintro e w8 ⟨rfl, hc8⟩; clear hi3))
                        go_roundw
                        case rel => exact ⟨k + 1, by omega, by go_num, hq.trans hc8⟩
                        case measure => simp [intOf]; omega
                      | false =>
                        go_wp2_with (first
                          | (go_at_call 25; ((with_reducible refine (hi2 _ hq).mono ?_); rintro e w8 ⟨rfl, hc8⟩; clear hi2; have z0 := (HB.out.ch (hq4.trans hc8) (by simp)).cell 0))
                          | (go_at_call 27; ((with_reducible refine (hnu _ (hq.trans hc8)).mono ?_); rintro e w10 ⟨rfl, hc10⟩; clear hnu))
                          | (go_at_call 10; ((with_reducible refine (law14awake _).mono ?_); rintro e w9 ⟨rfl, hc9⟩)))
                        go_ret
                        exact ⟨rfl, ((hcW.trans (hq4.trans hc8)).trans hc10).trans hc9⟩
                    · have jl : decide (k < S.length) = false := decide_eq_false hlt
                      go_wp2_with (first
                        | (go_at_call 25; ((with_reducible refine (hi2 _ hq).mono ?_); rintro e w8 ⟨rfl, hc8⟩; clear hi2; have z0 := (HB.out.ch (hq4.trans hc8) (by simp)).cell 0))
                        | (go_at_call 27; ((with_reducible refine (hnu _ (hq.trans hc8)).mono ?_); rintro e w10 ⟨rfl, hc10⟩; clear hnu))
                        | (go_at_call 10; ((with_reducible refine (law14awake _).mono ?_); rintro e w9 ⟨rfl, hc9⟩)))
                      go_ret
                      exact ⟨rfl, ((hcW.trans (hq4.trans hc8)).trans hc10).trans hc9⟩
      · have j1 : ((evA A rs F).1 != 0) = true := by simpa using hev
        have j2 : decide ((evA A rs F).1 = 0) = false := decide_eq_false hev
        generalize mdR (evA A rs F).2.2 (evA A rs F).2.2.length = S at *
        generalize (evA A rs F).1 = ev at *
        clear hev
        go_enter Tryz.func8, Tryz.ntmps8
        go_wp2_with (first
          | (go_at_call 9; ((with_reducible refine hf0.mono ?_); rintro e w1 ⟨rfl, hc1⟩; clear hf0; have y0 := (hbn.ch hc1 (by simp)).cell 0; have y1 := (hbn.ch hc1 (by simp)).cell 1))
          | (go_at_call 16; ((with_reducible refine (HM.out _ hc1).mono ?_); rintro e w4 ⟨v3, rfl, h3, hc2⟩; obtain ⟨a3, c3, rfl, _, _⟩ := h3.form))
          | (go_at_call 10; ((with_reducible refine (law14awake _).mono ?_); rintro e w2 ⟨rfl, hc3⟩)))
        go_ret
        exact ⟨rfl, ((hcA.trans hc1).trans hc2).trans hc3⟩

end Go.Proofs.YtojokdicbopknaaGreat
