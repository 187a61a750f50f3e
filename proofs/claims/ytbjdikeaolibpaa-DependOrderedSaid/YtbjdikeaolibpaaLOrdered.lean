/-
  law09.DependOrdered: for every list of edges and every list of names the law returns true and leaves its arguments as they were. No condition.
-/
import Derived.Test.YtbjdikeaolibpaaAwake
import Derived.Test.YtbjdikeaolibpaaGroups
import Derived.Test.YtbjdikeaolibpaaGrpLaw
import Derived.Test.YtbjdikeaolibpaaRefs
import Derived.Test.YtbjdikeaolibpaaLex
import Derived.Deep.RegionHeld3
import Derived.Test.YtbjdikeaolibpaaOpen
namespace Go.Proofs.Ytbjdikeaolibpaa
open Go.ChangeShapes Go.WideShapes Go.ChangeAt Go.RowKit Go.ChangeMaps

theorem count_le (F : List Ed) (N : List ByteArray) (G : List (List ByteArray)) (h : IsG F N G) (k : Nat) (s : ByteArray) : countS (G.take k) s ≤ N.length := by
  unfold countS
  rw [countS_eq, Nat.zero_add]
  have h1 := (h.all k).nd.length_le_of_subset (h.all k).sub
  exact Nat.le_trans List.count_le_length h1
theorem row_le {F : List Ed} {N : List ByteArray} {G : List (List ByteArray)} (h : IsG F N G) {g : List ByteArray} (hg : g ∈ G) : g.length ≤ N.length := by
  obtain ⟨n, _, rfl⟩ := h.inv.of g hg
  exact List.length_filter_le _ _
theorem groups_le {F : List Ed} {N : List ByteArray} {G : List (List ByteArray)} (h : IsG F N G) : G.length ≤ N.length :=
  Nat.le_trans h.inv.len (h.inv.nd.length_le_of_subset h.inv.sub)

set_option maxRecDepth 100000 in
set_option maxHeartbeats 4000000 in
theorem lawOrdered_ (p q) (v vn : Value) (es : List Ed) (names : List ByteArray) (w : World) (h : SlE p w v es) (hn : SlS q w vn names) (hok : EdOk es) :
    Calls Try.prog 15 #[v, vn] w fun e w' => e = .returned (.bool true) ∧ Ch [] w w' := by
  obtain ⟨a, c, rfl, hlc, hm⟩ := h.form
  obtain ⟨an, cn, rfl, hlcn, hmn⟩ := hn.form
  unfold maxLen at hm hmn
  have HOK := Lib.hid hok; clear hok
  by_cases hle : es.length ≤ 60
  · by_cases hln : names.length ≤ 20
    · have hG := depGroups p q (.slice a es.length c) (.slice an names.length cn) es names w h hn (by omega) (by omega)
      have hIG := Lib.hid (isG_of es names)
      have HMN : Hid (∀ s, s ∈ insAll names ↔ s ∈ names) := fun s => mem_insAll names s
      have HAN : Hid (Asc sLt (insAll names)) := asc_insAll names
      have hNl : (insAll names).length ≤ 20 := by have := insAll_le names; omega
      generalize groupsOf es names = G at *
      generalize insAll names = N at *
      have hGl := groups_le hIG.out
      go_enter Try.func15, Try.ntmps15
      go_wp2_with (go_at_call 47; refine hG.mono ?_; rintro e w1 ⟨v1, rfl, h1, hc1⟩; clear hG; obtain ⟨a1, c1, rfl, hl1, hm1⟩ := h1.form)
      unfold maxLen at hm1
      go_loopw [6] (fun i wr => ∃ k : Nat, k ≤ names.length ∧ i = .int .i64 k ∧ Ch [] w1 wr) (fun i _ => names.length - (intOf i).toNat)
      case atStart => exact ⟨0, Nat.zero_le _, rfl, Ch.refl _ _⟩
      case round =>
        obtain ⟨k, hk, rfl, hB⟩ := hrel
        by_cases hlt : k < names.length
        · obtain ⟨b, o, rfl, hp, c0⟩ := hn.at_ hlt
          have c0 := cell_ch c0 (hc1.trans hB) (by simp)
          have hcnt := hIG.out.count ((HMN.out _).2 (List.getElem_mem hlt))
          generalize names[k] = x at *
          have hct := law09count _ _ G x _ (h1.ch0 hB) (fun k => by have := count_le _ _ _ hIG.out k x; omega) (fun r hr => by have := row_le hIG.out hr; omega)
          rw [hcnt] at hct
          clear hcnt
          go_wp2_with (go_at_call 50; refine hct.mono ?_; rintro e w2 ⟨rfl, rfl⟩; clear hct)
          go_roundw
          case rel => exact ⟨k + 1, by omega, by go_num, hB⟩
          case measure => simp [intOf]; omega
        · obtain ⟨w2, rfl⟩ : ∃ w2 : World, w2 = wr := ⟨_, rfl⟩
          have h12 := h1.ch0 hB
          have hc2 := hc1.trans hB
          clear h1 hc1 hB
          go_wp2
          go_loopw [7, 8] (fun ins i wr => ∃ k : Nat, k ≤ es.length ∧ i = .int .i64 k ∧ Ch [] w2 wr ∧ Own wr w2.heap.size 65 3 ins ((insOf (es.take k) N).map Ed.enc)) (fun _ i _ => es.length - (intOf i).toNat)
          case atStart => exact ⟨0, Nat.zero_le _, rfl, Ch.refl _ _, Own.nil _ _ _ _⟩
          case round =>
            obtain ⟨k, hk, rfl, hB, hw⟩ := hrel
            by_cases hlt : k < es.length
            · obtain ⟨b, o, rfl, hp, c0, c1', c2⟩ := h.at_ hlt
              have hBw := hc2.trans hB
              have c0 := cell_ch c0 hBw (by simp)
              have c1' := cell_ch c1' hBw (by simp)
              have c2 := cell_ch c2 hBw (by simp)
              have HS := Lib.hid (insOf_snoc es N k hlt)
              have hil := insOf_len (es.take k) N
              rw [List.length_take] at hil
              have hmem := List.getElem_mem hlt
              have hor : hasS N es[k].f = true → hasS N es[k].t = true → placeS G es[k].t ≤ placeS G es[k].f := fun h1 h2 =>
                hIG.out.order (.one (e := es[k]) (by rw [insOf, List.mem_filter]; exact ⟨hmem, by rw [h1, h2]; rfl⟩) rfl) (by simpa [hasS] using h1)
              have hp1 : decide ((0 : Int) ≤ placeS G es[k].f) = hasS N es[k].f := by rw [hasS, decide_eq_decide]; exact hIG.out.place_iff
              have hp2 : decide ((0 : Int) ≤ placeS G es[k].t) = hasS N es[k].t := by rw [hasS, decide_eq_decide]; exact hIG.out.place_iff
              have HOR := Lib.hid hor; clear hor
              have HP1 := Lib.hid hp1; clear hp1
              have HP2 := Lib.hid hp2; clear hp2
              clear hmem
              generalize es[k] = x at *
              generalize insOf (es.take k) N = ins0 at *
              obtain ⟨xf, hxf⟩ : ∃ xf, xf = x.f := ⟨_, rfl⟩
              obtain ⟨xt, hxt⟩ : ∃ xt, xt = x.t := ⟨_, rfl⟩
              rw [← hxf] at c0 HOR HP1 HS
              rw [← hxt] at c1' HOR HP2 HS
              have HXF := Lib.hid hxf; clear hxf
              have HXT := Lib.hid hxt; clear hxt
              have HQ1 : ∀ wz, Ch [] wr wz → Calls Try.prog 51 #[.slice a1 G.length c1, .string xf] wz fun e w' => e = .returned (.int .i64 (placeS G xf)) ∧ Ch [] wz w' := fun wz hz => (law09place _ _ _ xf wz ((h12.ch0 hB).ch0 hz)).mono fun e w' h => ⟨h.1, by rw [← h.2]; exact Ch.refl _ _⟩
              have HQ2 : ∀ wz, Ch [] wr wz → Calls Try.prog 51 #[.slice a1 G.length c1, .string xt] wz fun e w' => e = .returned (.int .i64 (placeS G xt)) ∧ Ch [] wz w' := fun wz hz => (law09place _ _ _ xt wz ((h12.ch0 hB).ch0 hz)).mono fun e w' h => ⟨h.1, by rw [← h.2]; exact Ch.refl _ _⟩
              generalize placeS G xf = pf at *
              generalize placeS G xt = pt at *
              have L0 := Later.cell c0
              have L1 := Later.cell c1'
              cases hb1 : hasS N xf <;> cases hb2 : hasS N xt <;> rw [hb1] at HP1 HOR HS <;> rw [hb2] at HP2 HOR HS
              all_goals
                clear hb1 hb2
                go_wp2
                refine wp_region_later (by kernel_rfl) (lexB_of (by kernel_rfl)) ?_
                repeat (go_big_quiet_step (first | (go_at_call_of 51 xf; exact later_call (HQ1 _ (Later.ch _))) | (go_at_call_of 51 xt; exact later_call (HQ2 _ (Later.ch _)))))
                refine wpQuiet_nil ?_
                intro w3 hw3
                have g0 := cell_ch c0 hw3 (by simp)
                have g1 := cell_ch c1' hw3 (by simp)
                have g2 := cell_ch c2 hw3 (by simp)
                have hw4 := hw.ch hw3 (by simp)
                have hB3 := hB.trans hw3
                have d1 := HP1.out
                have d2 := HP2.out
                first
                  | (go_wp2
                     go_roundw
                     case rel => exact ⟨k + 1, by omega, by go_num, hB3, by rw [HS.out]; exact hw4⟩
                     case measure => simp [intOf]; omega)
                  | (have d3 : decide (pf < pt) = false := by rw [decide_eq_false_iff_not]; have := HOR.out (by trivial) (by trivial); omega
                     go_wp2_with (at_builtin; go_loud (refine wpList_append_sl rfl _ _ _ rfl elE (base := w2.heap.size) (v := u7) (css := (ins0).map Ed.enc) rfl (hw4.ch ((Ch.refl [] w3).alloc _) (by simp)) rfl (Sl.one w3 3 _ [.string xf, .string xt, .bool x.n] rfl (by simp [Value.oneCell'])) (by simp; omega) (by have := hB3.size; simp; omega) ?_); intro v6 w6 ho6 hc6 hat6 hn6; clear hn6)
                     go_roundw
                     case rel => exact ⟨k + 1, by omega, by go_num, (hB3.alloc _).step hc6 (fun y hy => .inr (by
                       cases hu : u7.ownBlock with
                       | none => rw [hu] at hy; cases hy
                       | some g => rw [hu] at hy; simp at hy; subst hy; exact (hw.lt hu).1)), by rw [HS.out]; simp only [Bool.and_self, if_true, List.map_append]; simpa [Ed.enc, HXF.out, HXT.out] using ho6⟩
                     case measure => simp [intOf]; omega)
            · have : k = es.length := by omega
              subst this
              rw [List.take_length] at hw
              have hil := insOf_len es N
              have hins : SlE (fun b => w2.heap.size ≤ b) wr u7 (insOf es N) := SlE.weak hw.sl (fun b _ hb => hb.1)
              have hokF : EdOk (insOf es N) := fun e he => HOK.out e ((List.mem_filter.1 he).1)
              have HOF := Lib.hid hokF; clear hokF
              generalize insOf es N = F at *
              obtain ⟨aF, cF, rfl, hlF, hmF⟩ := hins.form
              unfold maxLen at hmF
              have h14 := h12.ch0 hB
              have hc4 := hc2.trans hB
              have hn4 := hn.ch0 hc4
              clear h12 hc2 hB hw h hn
              obtain ⟨w4, rfl⟩ : ∃ w4 : World, w4 = wr := ⟨_, rfl⟩
              go_wp2
              go_loopw [11] (fun i wr => ∃ k : Nat, k ≤ G.length ∧ i = .int .i64 k ∧ Ch [] w4 wr) (fun i _ => G.length - (intOf i).toNat)
              case atStart => exact ⟨0, Nat.zero_le _, rfl, Ch.refl _ _⟩
              case round =>
                obtain ⟨k, hk, rfl, hB⟩ := hrel
                by_cases hlt : k < G.length
                · obtain ⟨bG, oG, aR, cR, rfl, hpG, xR, sR⟩ := SlSS.at_ (h14.ch0 hB) hlt
                  have hgm := List.getElem_mem hlt
                  have HAR := Lib.hid (hIG.out.asc HAN.out hgm)
                  have HSR : Hid (∀ y ∈ G[k], hasS names y = true) := fun y hy => by simp only [hasS, decide_eq_true_eq]; exact (HMN.out y).1 (hIG.out.sub hgm hy)
                  have HGR : Hid (∀ a ∈ G[k], ∀ b ∈ G[k], a ≠ b → hasS (reachOf F a) b = true) := fun a ha b hb hne => by simp only [hasS, decide_eq_true_eq]; exact (mem_reachOf _ _ _).2 (hIG.out.grp hgm ha hb hne)
                  have hRl := row_le hIG.out hgm
                  clear hgm
                  generalize G[k] = R at *
                  obtain ⟨w5, rfl⟩ : ∃ w5 : World, w5 = wr := ⟨_, rfl⟩
                  go_wp2
                  go_loopw [12] (fun i wq => ∃ m : Nat, m ≤ R.length ∧ i = .int .i64 m ∧ Ch [] w5 wq) (fun i _ => R.length - (intOf i).toNat)
                  case atStart => exact ⟨0, Nat.zero_le _, rfl, Ch.refl _ _⟩
                  case round =>
                    obtain ⟨m, hm4, rfl, hB4⟩ := hrel
                    have xR4 := cell_ch xR hB4 (by simp)
                    by_cases hltm : m < R.length
                    · obtain ⟨bY, oY, rfl, hpY, cy⟩ := (sR.ch0 hB4).at_ hltm
                      have hym := List.getElem_mem hltm
                      have hH1 : ∀ wz, Ch [] wr wz → Calls Try.prog 33 #[.slice an names.length cn, .string R[m]] wz fun e w' => e = .returned (.bool true) ∧ wz = w' := fun wz hz => by
                        have := ref09Has _ _ names R[m] wz (hn4.ch0 ((hB.trans hB4).trans hz))
                        rwa [HSR.out _ hym] at this
                      by_cases hm0 : m = 0
                      · subst hm0
                        generalize R[0] = y at *
                        have cy0 : wr.cell? ⟨bY, oY, none⟩ = some (.string y) := by simpa using cy
                        have Lr := Later.cell xR4
                        have Ly := Later.cell cy0
                        go_wp2
                        try dsimp only [List.append]
                        refine wp_region_later (by kernel_rfl) (lexB_of (by kernel_rfl)) ?_
                        repeat (go_big_quiet_step ((go_at_call 33; exact later_call ((hH1 _ (Later.ch _)).mono fun e w' h => ⟨h.1, by rw [← h.2]; exact Ch.refl _ _⟩))))
                        refine wpQuiet_nil ?_
                        intro w6 hw6
                        go_wp2
                        go_roundw
                        case rel => exact ⟨1, by omega, by go_num, hB4.trans hw6⟩
                        case measure => simp [intOf]; omega
                      · obtain ⟨mz, hmz⟩ : ∃ mz, m = mz + 1 := ⟨m - 1, by omega⟩
                        have hltz : mz < R.length := by omega
                        have h0m : (0 : Int) < (m : Int) := by omega
                        have hsub : (m : Int) - 1 = (mz : Int) := by omega
                        have HMZ := Lib.hid hmz
                        obtain ⟨bZ, oZ, eZ, hpZ, cz⟩ := (sR.ch0 hB4).at_ hltz
                        injection eZ with eZ
                        injection eZ with eZ1 eZ2
                        subst eZ1 eZ2
                        have hzm := List.getElem_mem hltz
                        have hzy : sLt R[mz] R[m] = true := (List.pairwise_iff_getElem.1 HAR.out) mz m hltz hltm (by omega)
                        have hne := sLt_ne hzy
                        have hg1 := HGR.out _ hzm _ hym hne
                        have hg2 := HGR.out _ hym _ hzm (fun e => hne e.symm)
                        clear hym hzm hne hmz hm0
                        generalize R[m] = y at *
                        generalize R[mz] = z at *
                        have HRz := fun wz hz => depReach _ (.slice aF F.length cF) F z wz (hins.ch0 ((hB.trans hB4).trans hz)) (by omega) HOF.out
                        have HRy := fun wz hz => depReach _ (.slice aF F.length cF) F y wz (hins.ch0 ((hB.trans hB4).trans hz)) (by omega) HOF.out
                        generalize reachOf F z = RZ at *
                        generalize reachOf F y = RY at *
                        have hbl : Op.bytesLess z.toList y.toList = true := hzy
                        have HRZ := Lib.hid HRz; clear HRz
                        have HRY := Lib.hid HRy; clear HRy
                        have HH1 := Lib.hid hH1; clear hH1
                        have HG1 := Lib.hid hg1; clear hg1
                        have HG2 := Lib.hid hg2; clear hg2
                        clear hzy
                        go_wp2
                        try dsimp only [List.append]
                        have hw1 : IntKind.i64.wrap (mz : Int) = (mz : Int) := by have := hltz; simp [IntKind.wrap, IntKind.signed, IntKind.bits]; omega
                        have hw2 : IntKind.i64.wrap ((m : Int) - 1) = (mz : Int) := by rw [hsub]; exact hw1
                        have h0d : decide (0 < m) = true := by have := HMZ.out; rw [decide_eq_true_eq]; omega
                        go_region_held3 (fun w' => w'.cell? ⟨bG, oG + k, none⟩ = some (.slice (some ⟨bY, oY, none⟩) R.length cR) ∧ w'.cell? ⟨bY, oY + m, none⟩ = some (.string y) ∧ w'.cell? ⟨bY, oY + mz, none⟩ = some (.string z)) (go_keep) (first
                          | (go_at_call 33; refine (HH1.out _ ((Ch.refl [] wr).drew)).mono ?_; rintro e w6 ⟨rfl, rfl⟩; clear HH1)
                          | (go_at_call_of 43 z; refine (HRZ.out _ ((Ch.refl [] wr).drew)).mono ?_; rintro e w7 ⟨v7, rfl, h7, hc7⟩; clear HRZ; replace hc7 := ((Ch.refl [] wr).drew).trans hc7; have hH2 := ref09Has _ _ RZ y _ h7; rw [HG1.out] at hH2; have HH2 := Lib.hid hH2; clear hH2; have xR7 := cell_ch xR4 hc7 (by simp); have cy7 := cell_ch cy hc7 (by simp); have cz7 := cell_ch cz hc7 (by simp))
                          | (go_at_call 33; refine (HH2.out).mono ?_; rintro e w8 ⟨rfl, rfl⟩; clear HH2)
                          | (go_at_call_of 43 y; refine (HRY.out _ hc7).mono ?_; rintro e w9 ⟨v9, rfl, h9, hc9⟩; clear HRY; have hH3 := ref09Has _ _ RY z _ h9; rw [HG2.out] at hH3; have HH3 := Lib.hid hH3; clear hH3; have xR9 := cell_ch xR7 hc9 (by simp); have cy9 := cell_ch cy7 hc9 (by simp); have cz9 := cell_ch cz7 hc9 (by simp))
                          | (go_at_call 33; refine (HH3.out).mono ?_; rintro e w10 ⟨rfl, rfl⟩; clear HH3))
                        go_wp2
                        go_roundw
                        case rel => exact ⟨m + 1, by omega, by go_num, (hB4.trans hc7).trans hc9⟩
                        case measure => simp [intOf]; omega
                    · go_wp2
                      go_roundw
                      case rel => exact ⟨k + 1, by omega, by go_num, hB.trans hB4⟩
                      case measure => simp [intOf]; omega
                · go_wp2_with (go_at_call 36; refine (law09awake _).mono ?_; rintro e w6 ⟨rfl, hc⟩)
                  go_ret
                  exact ⟨rfl, (hc4.trans hB).trans hc⟩
    · go_enter Try.func15, Try.ntmps15
      go_wp2_with (go_at_call 36; refine (law09awake _).mono ?_; rintro e w6 ⟨rfl, hc⟩)
      go_ret
      exact ⟨rfl, hc⟩
  · go_enter Try.func15, Try.ntmps15
    go_wp2_with (go_at_call 36; refine (law09awake _).mono ?_; rintro e w6 ⟨rfl, hc⟩)
    go_ret
    exact ⟨rfl, hc⟩
end Go.Proofs.Ytbjdikeaolibpaa
