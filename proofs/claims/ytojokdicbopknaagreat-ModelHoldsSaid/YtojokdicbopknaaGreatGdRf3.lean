
/-
  The contract of ref14.Ranks.
  The contracts of ref14.Model and ref14.Holds.
-/
import Derived.Test.YtojokdicbopknaaGreatGdRf2
namespace Go.Proofs.YtojokdicbopknaaGreat

section
open Go.RowKit

/-- the greatest stratum, -1 if there is none -/
def topM (st : List Int) : Int := st.foldl max (-1)
theorem topM_snoc (st : List Int) (k : Nat) (h : k < st.length) : topM (st.take (k + 1)) = max (topM (st.take k)) st[k] := by
  unfold topM; rw [take_snoc st k h, List.foldl_append]; rfl
theorem topM_ge (st : List Int) : -1 ≤ topM st := (foldl_max_ge st (-1)).1
theorem topM_le {st : List Int} {m : Int} (h0 : -1 ≤ m) (h : ∀ n ∈ st, n ≤ m) : topM st ≤ m := foldl_max_le st (-1) m h0 h
theorem topM_lev {st : List Int} {rs : List Gr} {N : Nat} {F : List Int} (hst : st.length = N) (h0 : ∀ n ∈ st, 0 ≤ n) : levR st rs (N + 1) (rk0 N F) (topM st + 1).toNat = ranksR st rs N F := by
  cases st with
  | nil =>
    have hN : N = 0 := by simpa using hst.symm
    subst hN
    have h1 : (levR [] rs (0 + 1) (rk0 0 F) (topM [] + 1).toNat).length = 0 := by rw [levR_len, rk0_len]
    have h2 := ranksR_len [] rs 0 F
    rw [List.eq_nil_of_length_eq_zero h1, List.eq_nil_of_length_eq_zero h2]
  | cons a l =>
    have ha := h0 a (by simp)
    have e : topM (a :: l) = topS (a :: l) := by
      unfold topM topS
      simp only [List.foldl_cons]
      rw [show max (-1) a = max 0 a by omega]
    unfold ranksR
    rw [e]

theorem own_addr {w : World} {base n c : Nat} {e : TypeId} {a : Option Addr} {xs : List Int} (h : Own w base e 1 (.slice a n c) (xs.map encI)) (hx : 0 < xs.length) : ∃ g, a = some ⟨g, 0, none⟩ ∧ base ≤ g := by
  rcases h.form with ⟨_, h2⟩ | ⟨g, c', h1, h2, _⟩
  · rw [List.map_eq_nil_iff] at h2; subst h2; simp at hx
  · injection h1 with h1
    exact ⟨g, h1, h2⟩

set_option maxRecDepth 100000 in
set_option maxHeartbeats 16000000 in
theorem refRanks14_ (A : List Tm) (rs : List Gr) (F : List Int) (p : Nat → Prop) (va vr vf : Value) (w : World) (hA : SlT p w va A) (hR : SlGr p w vr rs) (hF : SlI p w vf F) (hb : GdBnd A rs) (hFl : F.length ≤ 1000000) :
    Calls Tryz.prog 15 #[.agg #[va, vr], vf] w fun e w' => ∃ v2, e = .returned (.tuple #[v2, .int .i64 (evA A rs F).1]) ∧ SlI (fun b => w.heap.size ≤ b) w' v2 (evA A rs F).2.2 ∧ Ch [] w w' := by
  have hA0 : SlT (fun _ => True) w va A := hA.weak (fun _ _ _ => trivial)
  have hR0 : SlGr (fun _ => True) w vr rs := hR.weak (fun _ _ _ => trivial)
  have hF0 : SlI (fun _ => True) w vf F := hF.weak (fun _ _ _ => trivial)
  clear hA hR hF
  have HSTR := Lib.hid (fun wz (hz : Ch [] w wz) => refStrata14_ A rs _ _ _ wz (hA0.ch0 hz) (hR0.ch0 hz) hb)
  obtain ⟨hfit, hd, B, bb, hN, hBm⟩ := hb
  have ha := hfit.a
  have hr := hfit.r
  obtain ⟨aA, cA, rfl, _, _⟩ := hA0.form
  obtain ⟨aR, cR, rfl, _, hmR⟩ := hR0.form
  obtain ⟨aF, cF, rfl, _, hmF⟩ := hF0.form
  unfold maxLen at hmR hmF
  have hbn := Blk.new w 25 #[.slice aA A.length cA, .slice aR rs.length cR]
  have hcA : Ch [] w (w.alloc (.cells #[.slice aA A.length cA, .slice aR rs.length cR] 25)) := (Ch.refl _ _).alloc _
  have hval := fun wz (hz : Ch [] w wz) => refValidG_ A rs B bb hN hBm _ _ _ wz (hA0.ch0 hz) (hR0.ch0 hz) hd (by omega) (by omega) (fun x hx => by have := hfit.x x hx; omega)
  have hnum := fun wz (hz : Ch [] w wz) => refNumbers_ A.length _ _ F wz (hF0.ch0 hz) hFl (by omega)
  have x0 := hbn.cell 0
  have x1 := hbn.cell 1
  have hszA : w.heap.size ≤ (w.alloc (.cells #[.slice aA A.length cA, .slice aR rs.length cR] 25)).heap.size := hcA.size
  generalize hwA : (w.alloc (.cells #[.slice aA A.length cA, .slice aR rs.length cR] 25)) = wA at *
  have HV := Lib.hid (hval wA hcA)
  clear hval hN hBm hd
  cases hg : gdOk A rs with
  | false =>
    have HE := Lib.hid (evA_bad (A := A) (rs := rs) (F := F) (by rw [hg]; rfl))
    rw [hg] at HV
    clear hg
    have hv := HV.out
    go_enter Tryz.func15, Tryz.ntmps15
    go_wp2_with (go_at_call 32; ((with_reducible refine hv.mono ?_); rintro e w1 ⟨rfl, hc1⟩; clear hv))
    go_ret2
    rw [HE.out]
    exact ⟨_, rfl, SlI.nilZ _ _, hcA.trans hc1⟩
  | true =>
    have HOK := Lib.hid (gdOk_rules hg)
    have HG := Lib.hid hg
    rw [hg] at HV
    clear hg
    have hv := HV.out
    cases hf : factsOk A.length F with
    | false =>
      have HE := Lib.hid (evA_bad (A := A) (rs := rs) (F := F) (by rw [hf, HG.out]; rfl))
      have hgv := fun wz (hz : Ch [] w wz) => hf ▸ hnum wz hz
      clear hf hnum
      go_enter Tryz.func15, Tryz.ntmps15
      go_wp2_with (first
        | (go_at_call 32; ((with_reducible refine hv.mono ?_); rintro e w1 ⟨rfl, hc1⟩; clear hv; have y0 := (hbn.ch hc1 (by simp)).cell 0; have y1 := (hbn.ch hc1 (by simp)).cell 1))
        | (go_at_call 27; ((with_reducible refine (hgv _ (hcA.trans hc1)).mono ?_); rintro e w2 ⟨rfl, hc2⟩)))
      go_ret2
      rw [HE.out]
      exact ⟨_, rfl, SlI.nilZ _ _, (hcA.trans hc1).trans hc2⟩
    | true =>
      have hgv := fun wz (hz : Ch [] w wz) => hf ▸ hnum wz hz
      have HF := Lib.hid hf
      clear hf hnum
      go_enter Tryz.func15, Tryz.ntmps15
      go_wp2_with (first
        | (go_at_call 32; ((with_reducible refine hv.mono ?_); rintro e w1 ⟨rfl, hc1⟩; clear hv; have y0 := (hbn.ch hc1 (by simp)).cell 0; have y1 := (hbn.ch hc1 (by simp)).cell 1))
        | (go_at_call 27; ((with_reducible refine (hgv _ (hcA.trans hc1)).mono ?_); rintro e w2 ⟨rfl, hc2⟩; have z0 := (hbn.ch (hc1.trans hc2) (by simp)).cell 0; have z1 := (hbn.ch (hc1.trans hc2) (by simp)).cell 1)))
      have hc02 := (hcA.trans hc1).trans hc2
      have hstr := HSTR.out _ hc02
      have hSV : stV A rs = match stA A rs with | none => (10, []) | some st => (0, st) := by unfold stV; rw [if_pos HG.out]; cases stA A rs <;> rfl
      cases hs : stA A rs with
      | none =>
        have HE := Lib.hid (evA_none HG.out HF.out hs)
        rw [hs] at hSV
        rw [hSV] at hstr
        clear hs hSV HSTR
        ((with_reducible refine hstr.mono ?_); rintro e w3 ⟨v3, rfl, h3, hc3⟩)
        go_wp2
        go_ret2
        rw [HE.out]
        exact ⟨_, rfl, SlI.nilZ _ _, hc02.trans hc3⟩
      | some st =>
        have HE := Lib.hid (evA_some HG.out HF.out hs)
        have HST := Lib.hid (stA_len hs)
        have HS0 := Lib.hid (stA_ok hs HOK.out.1)
        have HSN := Lib.hid (stA_le hs HOK.out.1)
        rw [hs] at hSV
        rw [hSV] at hstr
        clear hs hSV HSTR
        ((with_reducible refine hstr.mono ?_); rintro e w3 ⟨v3, rfl, h3, hc3⟩)
        have hc03 := hc02.trans hc3
        have hb3 := hbn.ch ((hc1.trans hc2).trans hc3) (by simp)
        have hS3 : SlI (fun b => b < w3.heap.size) w3 v3 st := h3.weak (fun b hb _ => hb)
        obtain ⟨aS, cS, rfl, _, hmS⟩ := hS3.form
        unfold maxLen at hmS
        have HB3 := Lib.hid hb3
        have HFO := Lib.hid (show ∀ n ∈ F, numIn A.length n = true by have := HF.out; simp only [factsOk, numsIn, Bool.and_eq_true, List.all_eq_true] at this; exact this.1)
        have hA3 := hA0.ch0 hc03
        have hR3 := hR0.ch0 hc03
        have hF3 := hF0.ch0 hc03
        have hs3 := hc03.size
        clear h3 hb3 hstr hgv HV hbn x0 x1 y0 y1 z0 z1 hA0 hR0 hF0
        go_wp2
        have HOK1 := Lib.hid HOK.out.1
        clear HOK HG HF
        go_loopw [8, 9, 10] (fun o t i wr => ∃ (k : Nat) (v : Value), k ≤ A.length ∧ i = .int .i64 k ∧ v = o ∧ t = .int .i64 (topM (st.take k)) ∧ Ch [] w3 wr ∧ Own wr w3.heap.size 3 1 v ((List.replicate k (-1 : Int)).map encI)) (fun _ _ i _ => A.length - (intOf i).toNat)
        case atStart => exact ⟨0, _, Nat.zero_le _, rfl, rfl, rfl, Ch.refl _ _, Own.nil _ _ _ _⟩
        case round =>
          obtain ⟨k, v, hk, rfl, rfl, rfl, hq, ho⟩ := hrel
          have hsq := hq.size
          have hb := HB3.out.ch hq (by simp)
          have x0 := hb.cell 0
          by_cases hlt : k < A.length
          · have j1 : decide (k < A.length) = true := decide_eq_true hlt
            have hks : k < st.length := by rw [HST.out]; exact hlt
            obtain ⟨bS, oS, eS, _, dS⟩ := hS3.at_ hks
            subst eS
            have HDS : Hid (∀ wz, Ch [] w3 wz → wz.cell? ⟨bS, oS + k, none⟩ = some (.int .i64 st[k])) := fun wz hz => cell_ch (S := []) dS hz (by simp)
            have HT := Lib.hid (topM_snoc st k hks)
            clear dS
            generalize topM (st.take k) = t0 at *
            generalize st[k] = q at *
            obtain ⟨a0, c0, rfl⟩ := ho.form'
            rw [List.length_map, List.length_replicate] at ho ⊢
            go_wp2_with (at_builtin; refine wpList_append_sl rfl _ _ _ rfl elIn (base := w3.heap.size) (v := .slice a0 k c0) (css := (List.replicate k (-1 : Int)).map encI) rfl (ho.ch0' ((Ch.refl [] wr).alloc _)) rfl (Sl.one wr 1 _ [.int .i64 (-1)] rfl (by simp [Value.oneCell'])) (by simp; omega) (by simp; omega) ?_; intro v6 w6 ho6 hc6 hat6 hn6; clear hn6; have hq6 : Ch [] w3 w6 := (hq.alloc _).step hc6 (fun b hb => .inr (by
              cases hv : (Value.slice a0 k c0).ownBlock with
              | none => rw [hv] at hb; cases hb
              | some g => rw [hv] at hb; simp at hb; subst hb; exact (ho.lt hv).1)); have dS6 := HDS.out _ hq6)
            have ho7 : Own w6 w3.heap.size 3 1 v6 ((List.replicate (k + 1) (-1 : Int)).map encI) := by
              have e : (List.replicate k (-1 : Int)).map encI ++ [[Value.int .i64 (-1)]] = (List.replicate (k + 1) (-1 : Int)).map encI := by rw [List.replicate_succ', List.map_append]; rfl
              rw [e] at ho6
              exact ho6
            clear dS6
            go_roundw
            case rel => exact ⟨k + 1, v6, by omega, by go_num, rfl, by rw [HT.out], hq6, ho7⟩
            case measure => simp [intOf]; omega
          · have hkl : k = A.length := by omega
            have j1 : decide (k < A.length) = false := decide_eq_false hlt
            have HTT : Hid (topM (st.take k) = topM st) := by unfold Hid; rw [hkl, ← HST.out, List.take_length]
            obtain ⟨aK, cK, rfl⟩ := ho.form'
            rw [List.length_map, List.length_replicate] at ho ⊢
            have HO1 : Hid (Own wr w3.heap.size 3 1 (.slice aK k cK) ((rk0 A.length (F.take 0)).map encI)) := by
              have : rk0 A.length (F.take 0) = List.replicate k (-1) := by rw [hkl]; rfl
              rw [this]; exact ho
            rw [HTT.out]
            have hTg := topM_ge st
            have hTl := topM_le (st := st) (m := (A.length : Int)) (by omega) HSN.out
            have HTL := Lib.hid (topM_lev (rs := rs) (F := F) HST.out HS0.out.1)
            generalize topM st = T at *
            subst hkl
            clear HTT ho
            go_wp2
            clear x0 hb
            go_loopw [11] (fun i wr => ∃ m : Nat, m ≤ F.length ∧ i = .int .i64 m ∧ Ch [] w3 wr ∧ Hid (Own wr w3.heap.size 3 1 (.slice aK A.length cK) ((rk0 A.length (F.take m)).map encI))) (fun i _ => F.length - (intOf i).toNat)
            case atStart => exact ⟨0, Nat.zero_le _, rfl, hq, HO1⟩
            case round =>
              clear hq HO1 hsq
              obtain ⟨m, hm, rfl, hq, HO⟩ := hrel
              by_cases hlm : m < F.length
              · have j2 : decide (m < F.length) = true := decide_eq_true hlm
                obtain ⟨bF, oF, eF, _, dF⟩ := (hF3.ch0 hq).at_ hlm
                subst eF
                have HSN2 := Lib.hid (rk0_snoc A.length F m hlm)
                obtain ⟨n, hn, e⟩ := numIn_nat (HFO.out _ (List.getElem_mem hlm))
                rw [e] at dF
                have HEE := Lib.hid e
                clear e
                have HL := Lib.hid (rk0_len A.length (F.take m))
                obtain ⟨g, hga, hgb⟩ := own_addr HO.out (by rw [HL.out]; omega)
                subst hga
                obtain ⟨x0, y0, _, _⟩ := HO.out.atI HL.out (i := n) (by rw [HL.out]; exact hn)
                have i1 : (n : Int) < (A.length : Int) := by omega
                have i2 : (0 : Int) ≤ (n : Int) := by omega
                go_wp2
                have ho2 := HO.out.setI HL.out n 0
                have e2 := HSN2.out
                rw [HEE.out, Int.toNat_natCast] at e2
                rw [← e2] at ho2
                clear x0 y0 dF i1 i2 e2 HSN2 HEE
                go_roundw
                case rel => exact ⟨m + 1, by omega, by go_num, hq.set (.inr hgb) _, ho2⟩
                case measure => simp [intOf]; omega
              · have hml : m = F.length := by omega
                have j2 : decide (m < F.length) = false := decide_eq_false hlm
                have HOW : Hid (Own wr w3.heap.size 3 1 (.slice aK A.length cK) ((levR st rs (A.length + 1) (rk0 A.length F) 0).map encI)) := by
                  have := HO.out
                  rwa [hml, List.take_length] at this
                clear hml hm hlm HO
                obtain ⟨n1, hn1⟩ : ∃ n1 : Nat, n1 = (T + 1).toNat := ⟨_, rfl⟩
                rw [← hn1] at HTL
                have hn2 : (n1 : Int) = T + 1 := by omega
                have HN1 := Lib.hid hn2
                clear hn1 hn2
                go_wp2
                go_loopw [12] (fun i wr => ∃ L : Nat, L ≤ n1 ∧ i = .int .i64 L ∧ Ch [] w3 wr ∧ Hid (Own wr w3.heap.size 3 1 (.slice aK A.length cK) ((levR st rs (A.length + 1) (rk0 A.length F) L).map encI))) (fun i _ => n1 - (intOf i).toNat)
                case atStart => exact ⟨0, Nat.zero_le _, rfl, hq, HOW⟩
                case round =>
                  clear hq HOW
                  obtain ⟨L, hL, rfl, hq, HOW⟩ := hrel
                  have hLb : L ≤ 1001 := by have := HN1.out; omega
                  by_cases hlL : L < n1
                  · have j5 : decide ((L : Int) ≤ T) = true := decide_eq_true (by have := HN1.out; omega)
                    have HLL : Hid ((levR st rs (A.length + 1) (rk0 A.length F) L).length = A.length) := by unfold Hid; rw [levR_len, rk0_len]
                    have HR1 : Hid (RndAt st (L : Int) rs (levR st rs (A.length + 1) (rk0 A.length F) (L + 1)) (levR st rs (A.length + 1) (rk0 A.length F) L) A.length 1 true) := RndAt.start st (L : Int) rs (levR st rs (A.length + 1) (rk0 A.length F) L) A.length HLL.out
                    have HLT := Lib.hid hlL
                    go_wp2
                    go_loopw [13, 14] (fun ch rd wr => ∃ (r : Int) (b : Bool) (cur : List Int), rd = .int .i64 r ∧ ch = .bool b ∧ Ch [] w3 wr ∧ Hid (cur.length = A.length) ∧ Hid (RndAt st (L : Int) rs (levR st rs (A.length + 1) (rk0 A.length F) (L + 1)) cur A.length r b) ∧ Hid (Own wr w3.heap.size 3 1 (.slice aK A.length cK) (cur.map encI))) (fun _ rd _ => A.length + 3 - (intOf rd).toNat)
                    case atStart => exact ⟨1, true, _, rfl, rfl, hq, HLL, HR1, HOW⟩
                    case round =>
                      clear hq HLL HR1 HOW
                      obtain ⟨r, b, cur, rfl, rfl, hq, HLC, HRN, HOW⟩ := hrel
                      cases b with
                      | false =>
                        have HRX := Lib.hid (HRN.out.done)
                        go_wp2
                        go_roundw
                        case rel => exact ⟨L + 1, by omega, by go_num, hq, by have := HOW.out; rw [HRX.out] at this; exact this⟩
                        case measure => simp [intOf]; omega
                      | true =>
                        obtain ⟨hr1, hr2⟩ := HRN.out.bound
                        go_wp2
                        go_loopw [13, 15] (fun ch i wq => ∃ (m : Nat) (b : Bool) (cur2 : List Int), m ≤ rs.length ∧ i = .int .i64 m ∧ ch = .bool b ∧ Ch [] w3 wq ∧ Hid (PassAt st (L : Int) r rs cur cur2 m b) ∧ Hid (Own wq w3.heap.size 3 1 (.slice aK A.length cK) (cur2.map encI))) (fun _ i _ => rs.length - (intOf i).toNat)
                        case atStart => exact ⟨0, false, cur, Nat.zero_le _, rfl, rfl, hq, PassAt.zero _ _ _ _ _, HOW⟩
                        case round =>
                          clear hq HOW
                          obtain ⟨m, b, cur2, hm, rfl, rfl, hq, HP, HOW⟩ := hrel
                          have HL2 := Lib.hid (HP.out.len.trans HLC.out)
                          have hb := HB3.out.ch hq (by simp)
                          have x1 := hb.cell 1
                          by_cases hlm : m < rs.length
                          · have j7 : decide (m < rs.length) = true := decide_eq_true hlm
                            obtain ⟨bk, o, a1, c1, a2, c2, eK, hp, d0, d1, d2, h2, h3⟩ := (hR3.ch0 hq).at_ hlm
                            subst eK
                            have hgo : grOk A.length rs[m] = true := HOK1.out _ (List.getElem_mem hlm)
                            obtain ⟨h, hh, eh⟩ := numIn_nat (grOk_h hgo)
                            have HK : Hid (stepR st (L : Int) r cur2 rs[m] = cur2 → PassAt st (L : Int) r rs cur cur2 (m + 1) b) := fun hs => HP.out.keep hlm hs
                            have HW : Hid (∀ hj : h < cur2.length, cur2[h] < 0 → stepR st (L : Int) r cur2 rs[m] = cur2.set h r → PassAt st (L : Int) r rs cur (cur2.set h r) (m + 1) true) := fun hj h0 hs => HP.out.set hlm (by omega) hj h0 hs
                            have HPX : Hid (∀ n ∈ rs[m].ps, gI st n ≤ gI st rs[m].h) := (HS0.out.2 _ (List.getElem_mem hlm)).1
                            have HX := Lib.hid eh
                            rw [eh] at d0
                            have HGO := Lib.hid hgo
                            generalize rs[m] = x at *
                            clear eh hgo
                            have hj : h < cur2.length := by rw [HL2.out]; exact hh
                            have hjs : h < st.length := by rw [HST.out]; exact hh
                            have HGS : Hid (gI st x.h = st[h]) := by unfold Hid; rw [HX.out, gI_at hjs]
                            obtain ⟨bS, oS, eS, _, dS⟩ := (hS3.ch0 hq).at_ hjs
                            subst eS
                            obtain ⟨g, hga, hgb⟩ := own_addr HOW.out (by omega)
                            subst hga
                            have hoR := HOW.out
                            obtain ⟨x0, y0, _, _⟩ := hoR.atI HL2.out hj
                            have i6 : (h : Int) < (A.length : Int) := by omega
                            have i7 : (0 : Int) ≤ (h : Int) := by omega
                            have i8 : (h : Int) < (st.length : Int) := by omega
                            have hcall := refFires_ x A.length st cur2 HST.out HL2.out HGO.out r _ _ _ (.slice a1 x.ps.length c1) (.slice a2 x.ns.length c2) (.slice (some ⟨bS, oS, none⟩) st.length cS) (.slice (some ⟨g, 0, none⟩) A.length cK) wr (show SlI _ _ _ cur2 from hoR.sl) (hS3.ch0 hq) h2 h3
                            rw [HX.out] at hcall
                            have HFE := Lib.hid (firR_eq (st := st) (rk := cur2) (rd := r) HPX.out)
                            rw [HFE.out, HGS.out] at hcall
                            have HSE : Hid (st[h] = (L : Int) → cur2[h] < 0 → fireB st cur2 st[h] r x = true → stepR st (L : Int) r cur2 x = cur2.set h r) := fun hl h0 hf => stepR_set (HGS.out.trans hl) HX.out hj h0 (hl ▸ hf)
                            have HSK : Hid (st[h] = (L : Int) → (0 ≤ cur2[h] ∨ fireB st cur2 st[h] r x = false) → stepR st (L : Int) r cur2 x = cur2) := fun hl h0 => stepR_keep HX.out hj (h0.imp id (fun e => hl ▸ e))
                            have HSO : Hid (st[h] ≠ (L : Int) → stepR st (L : Int) r cur2 x = cur2) := fun hl => by unfold stepR; rw [if_neg (fun h => hl (HGS.out.symm.trans h.1))]
                            clear h2 h3 HGS HFE HPX HP
                            have HJ := Lib.hid hj
                            generalize st[h] = sh at *
                            by_cases tl : sh = (L : Int)
                            · have HTL2 := Lib.hid tl
                              have jl : decide (sh = (L : Int)) = true := decide_eq_true tl
                              have jl' : (sh == (L : Int)) = true := by simpa using tl
                              by_cases t0 : cur2[h] < 0
                              · have HT0 := Lib.hid t0
                                cases hf : fireB st cur2 sh r x with
                                | true =>
                                  have HPN := Lib.hid (HW.out hj t0 (HSE.out tl t0 hf))
                                  rw [hf] at hcall
                                  clear hf HK HW HSE HSK HSO t0 tl
                                  have j8 : decide (cur2[h] < 0) = true := decide_eq_true HT0.out
                                  generalize cur2[h] = qh at *
                                  generalize x.ps.length = n1' at *
                                  generalize x.ns.length = n2' at *
                                  go_wp2_with (go_at_call 37; ((with_reducible refine hcall.mono ?_); rintro e w6 ⟨rfl, hc6⟩; clear hcall; obtain ⟨x6, y6, _, _⟩ := (hoR.ch0' hc6).atI HL2.out HJ.out))
                                  have HON := Lib.hid ((hoR.ch0' hc6).setI HL2.out h r)
                                  go_roundw
                                  case rel => exact ⟨m + 1, true, cur2.set h r, by omega, by go_num, rfl, (hq.trans hc6).set (.inr hgb) _, HPN, HON⟩
                                  case measure => simp [intOf]; omega
                                | false =>
                                  have HPN := Lib.hid (HK.out (HSK.out tl (.inr hf)))
                                  rw [hf] at hcall
                                  clear hf HK HW HSE HSK HSO t0 tl
                                  have j8 : decide (cur2[h] < 0) = true := decide_eq_true HT0.out
                                  generalize cur2[h] = qh at *
                                  generalize x.ps.length = n1' at *
                                  generalize x.ns.length = n2' at *
                                  go_wp2_with (go_at_call 37; ((with_reducible refine hcall.mono ?_); rintro e w6 ⟨rfl, hc6⟩; clear hcall))
                                  go_roundw
                                  case rel => exact ⟨m + 1, b, cur2, by omega, by go_num, rfl, hq.trans hc6, HPN, hoR.ch0' hc6⟩
                                  case measure => simp [intOf]; omega
                              · have HPN := Lib.hid (HK.out (HSK.out tl (.inl (by omega))))
                                have j8 : decide (cur2[h] < 0) = false := decide_eq_false t0
                                clear HK HW HSE HSK HSO hcall tl
                                generalize cur2[h] = qh at *
                                go_wp2
                                go_roundw
                                case rel => exact ⟨m + 1, b, cur2, by omega, by go_num, rfl, hq, HPN, hoR⟩
                                case measure => simp [intOf]; omega
                            · have HPN := Lib.hid (HK.out (HSO.out tl))
                              have jl : decide (sh = (L : Int)) = false := decide_eq_false tl
                              have jl' : (sh == (L : Int)) = false := by simpa using tl
                              clear HK HW HSE HSK HSO hcall tl
                              generalize cur2[h] = qh at *
                              go_wp2
                              go_roundw
                              case rel => exact ⟨m + 1, b, cur2, by omega, by go_num, rfl, hq, HPN, hoR⟩
                              case measure => simp [intOf]; omega
                          · have j7 : decide (m < rs.length) = false := decide_eq_false hlm
                            have hfin := HP.out.full (by omega) HRN.out
                            have HFN := Lib.hid hfin.1
                            clear hfin HP HRN
                            go_wp2
                            go_roundw
                            case rel => exact ⟨r + 1, b, cur2, rfl, rfl, hq, HL2, HFN, HOW⟩
                            case measure => simp [intOf]; omega
                  · have hLn : L = n1 := by omega
                    have j5 : decide ((L : Int) ≤ T) = false := decide_eq_false (by have := HN1.out; omega)
                    have HOU : Hid (SlI (fun b => w.heap.size ≤ b) wr (.slice aK A.length cK) (ranksR st rs A.length F)) := by
                      have h0 := HOW.out
                      rw [hLn, HTL.out] at h0
                      exact (show SlI _ wr _ _ from h0.sl).weak (fun b _ hb => by have := hb.1; omega)
                    clear hLn HOW
                    go_wp2
                    go_ret2
                    rw [HE.out]
                    exact ⟨_, rfl, HOU.out, hc03.trans hq⟩
end

section
open Go.RowKit

set_option maxRecDepth 100000 in
set_option maxHeartbeats 4000000 in
theorem refModel14_ (A : List Tm) (rs : List Gr) (F : List Int) (p : Nat → Prop) (va vr vf : Value) (w : World) (hA : SlT p w va A) (hR : SlGr p w vr rs) (hF : SlI p w vf F) (hb : GdBnd A rs) (hFl : F.length ≤ 1000000) :
    Calls Tryz.prog 17 #[.agg #[va, vr], vf] w fun e w' => ∃ v2, e = .returned (.tuple #[v2, .int .i64 (evA A rs F).1]) ∧ SlI (fun b => w.heap.size ≤ b) w' v2 (mdR (evA A rs F).2.2 (evA A rs F).2.2.length) ∧ Ch [] w w' := by
  have HEV := Lib.hid (fun wz (hz : Ch [] w wz) => refRanks14_ A rs F _ _ _ _ wz (hA.ch0 hz) (hR.ch0 hz) (hF.ch0 hz) hb hFl)
  have hEL := (evA_len (A := A) (rs := rs) (F := F)).2
  have hAl := hb.fit.a
  obtain ⟨aA, cA, rfl, _, _⟩ := hA.form
  obtain ⟨aR, cR, rfl, _, _⟩ := hR.form
  have hbn := Blk.new w 25 #[.slice aA A.length cA, .slice aR rs.length cR]
  have hcA : Ch [] w (w.alloc (.cells #[.slice aA A.length cA, .slice aR rs.length cR] 25)) := (Ch.refl _ _).alloc _
  have x0 := hbn.cell 0
  have x1 := hbn.cell 1
  have hcall := HEV.out _ hcA
  clear hA hR hF hb HEV
  generalize evA A rs F = R at *
  obtain ⟨nR, sR, rk⟩ := R
  have hrl : rk.length ≤ 1000 := by simp only at hEL; omega
  have hsz := hcA.size
  generalize hwA : (w.alloc (.cells #[.slice aA A.length cA, .slice aR rs.length cR] 25)) = wA at *
  clear hEL hAl
  go_enter Tryz.func17, Tryz.ntmps17
  go_wp2_with (go_at_call 15; ((with_reducible refine hcall.mono ?_); rintro e w1 ⟨v2, rfl, h2, hc1⟩; clear hcall; obtain ⟨a2, c2, rfl, _, _⟩ := h2.form))
  have hc01 := hcA.trans hc1
  have hs1 := hc1.size
  have HK := Lib.hid h2
  clear h2 x0 x1 hwA
  go_loopw [8, 9] (fun o i wr => ∃ (k : Nat) (a : Option Addr) (c : Nat), k ≤ rk.length ∧ i = .int .i64 k ∧ o = .slice a (mdR rk k).length c ∧ Ch [] w wr ∧ Ch [] w1 wr ∧ Own wr w1.heap.size 3 1 (.slice a (mdR rk k).length c) ((mdR rk k).map encI)) (fun _ i _ => rk.length - (intOf i).toNat)
  case atStart => exact ⟨0, none, 0, Nat.zero_le _, rfl, rfl, hc01, Ch.refl _ _, Own.nil _ _ _ _⟩
  case round =>
    obtain ⟨k, a1, c1, hk, rfl, rfl, hq, hc, ho⟩ := hrel
    by_cases hlt : k < rk.length
    · have j1 : decide (k < rk.length) = true := decide_eq_true hlt
      obtain ⟨bK, oK, rfl, _, d0⟩ := (HK.out.ch0 hc).at_ hlt
      have hml := mdR_len rk k
      have HG := Lib.hid (gI_at hlt)
      by_cases t0 : 0 ≤ rk[k]
      · have j2 : decide (0 ≤ rk[k]) = true := decide_eq_true t0
        have HS := Lib.hid (mdR_yes (rk := rk) (k := k) (by rw [HG.out]; exact t0))
        have hsz2 := hc.size
        clear HG
        generalize rk[k] = q at *
        generalize mdR rk k = M at *
        go_wp2_with (at_builtin; refine wpList_append_sl rfl _ _ _ rfl elIn (base := w1.heap.size) (v := .slice a1 M.length c1) (css := M.map encI) rfl (ho.ch0' ((Ch.refl [] wr).alloc _)) rfl (Sl.one wr 1 _ [.int .i64 (k : Int)] rfl (by simp [Value.oneCell'])) (by simp; omega) (by simp; omega) ?_; intro v6 w6 ho6 hc6 hat6 hn6; clear hn6; obtain ⟨a7, c7, rfl⟩ := ho6.form')
        have hcB : Ch [] w1 w6 := (hc.alloc _).step hc6 (fun b hb => .inr (by
          cases hv : (Value.slice a1 M.length c1).ownBlock with
          | none => rw [hv] at hb; cases hb
          | some g => rw [hv] at hb; simp at hb; subst hb; exact (ho.lt hv).1))
        have ho7 : Own w6 w1.heap.size 3 1 (.slice a7 (M ++ [(k : Int)]).length c7) ((M ++ [(k : Int)]).map encI) := by
          have e : M.map encI ++ [[Value.int .i64 (k : Int)]] = (M ++ [(k : Int)]).map encI := by rw [List.map_append]; rfl
          rw [e] at ho6
          simpa only [List.length_map] using ho6
        rw [← HS.out] at ho7
        go_roundw
        case rel => exact ⟨k + 1, a7, c7, by omega, by go_num, by rw [HS.out]; simp, hc01.trans hcB, hcB, ho7⟩
        case measure => simp [intOf]; omega
      · have j2 : decide (0 ≤ rk[k]) = false := decide_eq_false t0
        have HS := Lib.hid (mdR_no (rk := rk) (k := k) (by rw [HG.out]; exact t0))
        clear HG
        generalize rk[k] = q at *
        go_wp2
        go_roundw
        case rel => exact ⟨k + 1, a1, c1, by omega, by go_num, by rw [HS.out], hq, hc, by rw [HS.out]; exact ho⟩
        case measure => simp [intOf]; omega
    · have hkl : k = rk.length := by omega
      subst hkl
      have j1 : decide (rk.length < rk.length) = false := decide_eq_false hlt
      have HO := Lib.hid ho
      go_wp2
      go_ret2
      exact ⟨_, rfl, (show SlI _ _ _ _ from HO.out.sl).weak (fun b _ hb => by have := hb.1; omega), hq⟩

/-- Holds asks for the validity first -/
theorem evA_13 (A : List Tm) (rs : List Gr) (F : List Int) : ((evA A rs F).1 = 13) ↔ (gdOk A rs && factsOk A.length F) = false := by
  cases hc : (gdOk A rs && factsOk A.length F) with
  | false => rw [evA_bad hc]; simp
  | true =>
    rw [Bool.and_eq_true] at hc
    cases hs : stA A rs with
    | none => rw [evA_none hc.1 hc.2 hs]; simp
    | some st => rw [evA_some hc.1 hc.2 hs]; simp
set_option maxRecDepth 100000 in
set_option maxHeartbeats 8000000 in
theorem refHolds14_ (A : List Tm) (rs : List Gr) (F : List Int) (n : Int) (p : Nat → Prop) (va vr vf : Value) (w : World) (hA : SlT p w va A) (hR : SlGr p w vr rs) (hF : SlI p w vf F) (hb : GdBnd A rs) (hFl : F.length ≤ 1000000) :
    Calls Tryz.prog 19 #[.agg #[va, vr], vf, .int .i64 n] w fun e w' => e = .returned (.tuple #[.bool (hoA A rs F n).1, .int .i64 (hoA A rs F n).2]) ∧ Ch [] w w' := by
  have hA0 : SlT (fun _ => True) w va A := hA.weak (fun _ _ _ => trivial)
  have hR0 : SlGr (fun _ => True) w vr rs := hR.weak (fun _ _ _ => trivial)
  have hF0 : SlI (fun _ => True) w vf F := hF.weak (fun _ _ _ => trivial)
  clear hA hR hF
  have HRK := Lib.hid (fun wz (hz : Ch [] w wz) => refRanks14_ A rs F _ _ _ _ wz (hA0.ch0 hz) (hR0.ch0 hz) (hF0.ch0 hz) hb hFl)
  obtain ⟨hfit, hd, B, bb, hN, hBm⟩ := hb
  have hAl := hfit.a
  have hr := hfit.r
  obtain ⟨aA, cA, rfl, _, _⟩ := hA0.form
  obtain ⟨aR, cR, rfl, _, _⟩ := hR0.form
  obtain ⟨aF, cF, rfl, _, _⟩ := hF0.form
  have hbn := Blk.new w 25 #[.slice aA A.length cA, .slice aR rs.length cR]
  have hcA : Ch [] w (w.alloc (.cells #[.slice aA A.length cA, .slice aR rs.length cR] 25)) := (Ch.refl _ _).alloc _
  have hval := fun wz (hz : Ch [] w wz) => refValidG_ A rs B bb hN hBm _ _ _ wz (hA0.ch0 hz) (hR0.ch0 hz) hd (by omega) (by omega) (fun x hx => by have := hfit.x x hx; omega)
  have hnum := fun wz (hz : Ch [] w wz) => refNumbers_ A.length _ _ F wz (hF0.ch0 hz) hFl (by omega)
  have x0 := hbn.cell 0
  have x1 := hbn.cell 1
  generalize hwA : (w.alloc (.cells #[.slice aA A.length cA, .slice aR rs.length cR] 25)) = wA at *
  have HV := Lib.hid (hval wA hcA)
  clear hval hN hBm hd
  have H13 := Lib.hid (evA_13 A rs F)
  have hHO : Hid (hoA A rs F n = if (evA A rs F).1 = 13 then (false, 13) else if numIn A.length n = true then (decide ((evA A rs F).1 = 0) && decide (0 ≤ gI (evA A rs F).2.2 n), (evA A rs F).1) else (false, 12)) := rfl
  cases hg : gdOk A rs with
  | false =>
    have HO : Hid (hoA A rs F n = (false, 13)) := by unfold Hid; rw [hHO.out, if_pos (H13.out.2 (by rw [hg]; rfl))]
    rw [hg] at HV
    clear hg hHO H13
    have hv := HV.out
    generalize hoA A rs F n = O at *
    go_enter Tryz.func19, Tryz.ntmps19
    go_wp2_with (go_at_call 32; ((with_reducible refine hv.mono ?_); rintro e w1 ⟨rfl, hc1⟩; clear hv))
    go_ret2
    rw [HO.out]
    exact ⟨rfl, hcA.trans hc1⟩
  | true =>
    rw [hg] at HV
    have hv := HV.out
    cases hf : factsOk A.length F with
    | false =>
      have HO : Hid (hoA A rs F n = (false, 13)) := by unfold Hid; rw [hHO.out, if_pos (H13.out.2 (by rw [hg, hf]; rfl))]
      have hgv := fun wz (hz : Ch [] w wz) => hf ▸ hnum wz hz
      clear hf hnum hg hHO H13
      generalize hoA A rs F n = O at *
      go_enter Tryz.func19, Tryz.ntmps19
      go_wp2_with (first
        | (go_at_call 32; ((with_reducible refine hv.mono ?_); rintro e w1 ⟨rfl, hc1⟩; clear hv; have y0 := (hbn.ch hc1 (by simp)).cell 0; have y1 := (hbn.ch hc1 (by simp)).cell 1))
        | (go_at_call 27; ((with_reducible refine (hgv _ (hcA.trans hc1)).mono ?_); rintro e w2 ⟨rfl, hc2⟩)))
      go_ret2
      rw [HO.out]
      exact ⟨rfl, (hcA.trans hc1).trans hc2⟩
    | true =>
      have hgv := fun wz (hz : Ch [] w wz) => hf ▸ hnum wz hz
      have HN13 : Hid (¬ (evA A rs F).1 = 13) := fun h => by have := H13.out.1 h; rw [hg, hf] at this; cases this
      clear hf hnum hg H13
      have ARM : True := trivial
      by_cases t0 : n < 0
      · have HO : Hid (hoA A rs F n = (false, 12)) := by unfold Hid; rw [hHO.out, if_neg HN13.out, if_neg (by simp [numIn]; omega)]
        have j0 : decide (n < 0) = true := decide_eq_true t0
        clear hHO HN13
        generalize hoA A rs F n = O at *
        go_enter Tryz.func19, Tryz.ntmps19
        go_wp2_with (first
          | (go_at_call 32; ((with_reducible refine hv.mono ?_); rintro e w1 ⟨rfl, hc1⟩; clear hv; have y0 := (hbn.ch hc1 (by simp)).cell 0; have y1 := (hbn.ch hc1 (by simp)).cell 1))
          | (go_at_call 27; ((with_reducible refine (hgv _ (hcA.trans hc1)).mono ?_); rintro e w2 ⟨rfl, hc2⟩; have z0 := (hbn.ch (hc1.trans hc2) (by simp)).cell 0; have z1 := (hbn.ch (hc1.trans hc2) (by simp)).cell 1)))
        go_ret2
        rw [HO.out]
        exact ⟨rfl, (hcA.trans hc1).trans hc2⟩
      · by_cases t1 : (A.length : Int) ≤ n
        · have HO : Hid (hoA A rs F n = (false, 12)) := by unfold Hid; rw [hHO.out, if_neg HN13.out, if_neg (by simp [numIn]; omega)]
          have j0 : decide (n < 0) = false := decide_eq_false t0
          have j1 : decide ((A.length : Int) ≤ n) = true := decide_eq_true t1
          clear hHO HN13
          generalize hoA A rs F n = O at *
          go_enter Tryz.func19, Tryz.ntmps19
          go_wp2_with (first
            | (go_at_call 32; ((with_reducible refine hv.mono ?_); rintro e w1 ⟨rfl, hc1⟩; clear hv; have y0 := (hbn.ch hc1 (by simp)).cell 0; have y1 := (hbn.ch hc1 (by simp)).cell 1))
            | (go_at_call 27; ((with_reducible refine (hgv _ (hcA.trans hc1)).mono ?_); rintro e w2 ⟨rfl, hc2⟩; have z0 := (hbn.ch (hc1.trans hc2) (by simp)).cell 0; have z1 := (hbn.ch (hc1.trans hc2) (by simp)).cell 1)))
          go_ret2
          rw [HO.out]
          exact ⟨rfl, (hcA.trans hc1).trans hc2⟩
        · have HO : Hid (hoA A rs F n = (decide ((evA A rs F).1 = 0) && decide (0 ≤ gI (evA A rs F).2.2 n), (evA A rs F).1)) := by unfold Hid; rw [hHO.out, if_neg HN13.out, if_pos (by simp [numIn]; omega)]
          have j0 : decide (n < 0) = false := decide_eq_false t0
          have j1 : decide ((A.length : Int) ≤ n) = false := decide_eq_false t1
          obtain ⟨m, hm⟩ : ∃ m : Nat, n = (m : Int) := ⟨n.toNat, by omega⟩
          subst hm
          clear hHO
          generalize hoA A rs F (m : Int) = O at *
          rcases evA_cases A rs F with he | he | ⟨st, _, _, _, he⟩
          · exact absurd (by rw [he]) HN13.out
          · rw [he] at HO
            have hrk := HRK.out
            rw [he] at hrk
            clear he HN13 HRK
            have HO' : Hid (O = (false, 10)) := HO.out
            go_enter Tryz.func19, Tryz.ntmps19
            go_wp2_with (first
              | (go_at_call 32; ((with_reducible refine hv.mono ?_); rintro e w1 ⟨rfl, hc1⟩; clear hv; have y0 := (hbn.ch hc1 (by simp)).cell 0; have y1 := (hbn.ch hc1 (by simp)).cell 1))
              | (go_at_call 27; ((with_reducible refine (hgv _ (hcA.trans hc1)).mono ?_); rintro e w2 ⟨rfl, hc2⟩; have z0 := (hbn.ch (hc1.trans hc2) (by simp)).cell 0; have z1 := (hbn.ch (hc1.trans hc2) (by simp)).cell 1))
              | (go_at_call 15; ((with_reducible refine (hrk _ ((hcA.trans hc1).trans hc2)).mono ?_); rintro e w3 ⟨v3, rfl, h3, hc3⟩)))
            go_ret2
            rw [HO'.out]
            exact ⟨rfl, ((hcA.trans hc1).trans hc2).trans hc3⟩
          · rw [he] at HO
            have hrk := HRK.out
            rw [he] at hrk
            have hl := ranksR_len st rs A.length F
            clear he HN13 HRK
            generalize ranksR st rs A.length F = rk at *
            have hlt : m < rk.length := by omega
            have HO' : Hid (O = (decide (0 ≤ rk[m]), 0)) := by unfold Hid; rw [HO.out]; simp only [gI_at hlt]; rfl
            have i1 : (m : Int) < (rk.length : Int) := by omega
            have i2 : (0 : Int) ≤ (m : Int) := by omega
            clear hl HO
            by_cases t2 : 0 ≤ rk[m]
            · replace HO' : Hid (O = (true, 0)) := by unfold Hid; rw [HO'.out]; exact congrArg (fun q => (q, (0 : Int))) (decide_eq_true t2)
              have j2 : decide (0 ≤ rk[m]) = true := decide_eq_true t2
              go_enter Tryz.func19, Tryz.ntmps19
              go_wp2_with (first
                | (go_at_call 32; ((with_reducible refine hv.mono ?_); rintro e w1 ⟨rfl, hc1⟩; clear hv; have y0 := (hbn.ch hc1 (by simp)).cell 0; have y1 := (hbn.ch hc1 (by simp)).cell 1))
                | (go_at_call 27; ((with_reducible refine (hgv _ (hcA.trans hc1)).mono ?_); rintro e w2 ⟨rfl, hc2⟩; have z0 := (hbn.ch (hc1.trans hc2) (by simp)).cell 0; have z1 := (hbn.ch (hc1.trans hc2) (by simp)).cell 1))
                | (go_at_call 15; ((with_reducible refine (hrk _ ((hcA.trans hc1).trans hc2)).mono ?_); rintro e w3 ⟨v3, rfl, h3, hc3⟩; obtain ⟨a2, c2, rfl, _, _⟩ := h3.form; obtain ⟨b2, o2, rfl, _, d2⟩ := h3.at_ hlt)))
              go_ret2
              rw [HO'.out]
              exact ⟨rfl, ((hcA.trans hc1).trans hc2).trans hc3⟩
            · replace HO' : Hid (O = (false, 0)) := by unfold Hid; rw [HO'.out]; exact congrArg (fun q => (q, (0 : Int))) (decide_eq_false t2)
              have j2 : decide (0 ≤ rk[m]) = false := decide_eq_false t2
              go_enter Tryz.func19, Tryz.ntmps19
              go_wp2_with (first
                | (go_at_call 32; ((with_reducible refine hv.mono ?_); rintro e w1 ⟨rfl, hc1⟩; clear hv; have y0 := (hbn.ch hc1 (by simp)).cell 0; have y1 := (hbn.ch hc1 (by simp)).cell 1))
                | (go_at_call 27; ((with_reducible refine (hgv _ (hcA.trans hc1)).mono ?_); rintro e w2 ⟨rfl, hc2⟩; have z0 := (hbn.ch (hc1.trans hc2) (by simp)).cell 0; have z1 := (hbn.ch (hc1.trans hc2) (by simp)).cell 1))
                | (go_at_call 15; ((with_reducible refine (hrk _ ((hcA.trans hc1).trans hc2)).mono ?_); rintro e w3 ⟨v3, rfl, h3, hc3⟩; obtain ⟨a2, c2, rfl, _, _⟩ := h3.form; obtain ⟨b2, o2, rfl, _, d2⟩ := h3.at_ hlt)))
              go_ret2
              rw [HO'.out]
              exact ⟨rfl, ((hcA.trans hc1).trans hc2).trans hc3⟩
end
end Go.Proofs.YtojokdicbopknaaGreat
