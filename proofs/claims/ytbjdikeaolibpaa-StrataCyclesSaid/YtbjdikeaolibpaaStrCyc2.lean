/-
  The contracts of the reference's before and Cycle.
-/
import Derived.Test.YtbjdikeaolibpaaStrDis2
import Derived.Test.YtbjdikeaolibpaaStrCycW
namespace Go.Proofs.Ytbjdikeaolibpaa
open Go.RowKit

theorem beforeB_at : ∀ (xs ys : List ByteArray) (k : Nat) (h1 : k < xs.length) (h2 : k < ys.length), xs.take k = ys.take k → xs[k] ≠ ys[k] → beforeB xs ys = sLt xs[k] ys[k]
  | [], _, _, h, _, _, _ => absurd h (by simp)
  | _ :: _, [], _, _, h, _, _ => absurd h (by simp)
  | a :: r, b :: l, 0, _, _, _, hn => by
    simp only [List.getElem_cons_zero] at hn ⊢
    simp only [beforeB, if_neg hn]
  | a :: r, b :: l, k + 1, h1, h2, ht, hn => by
    simp only [List.take_succ_cons, List.cons.injEq] at ht
    simp only [List.getElem_cons_succ] at hn ⊢
    simp only [beforeB, if_pos ht.1]
    exact beforeB_at r l k (by simpa using h1) (by simpa using h2) ht.2 hn

set_option maxHeartbeats 400000 in
theorem ref10Before (p q) (v u : Value) (xs ys : List ByteArray) (w : World) (h : SlS p w v xs) (h' : SlS q w u ys) (hl : xs.length = ys.length) :
    Calls Try.prog 63 #[v, u] w fun e w' => e = .returned (.bool (beforeB xs ys)) ∧ Ch [] w w' := by
  obtain ⟨a, c, rfl, hlc, hm⟩ := h.form
  obtain ⟨a', c', rfl, hlc', hm'⟩ := h'.form
  unfold maxLen at hm hm'
  have HL := Lib.hid hl; clear hl
  go_enter Try.func63, Try.ntmps63
  go_wp2
  go_loopw [5] (fun i wr => ∃ k : Nat, k ≤ xs.length ∧ i = .int .i64 k ∧ Ch [] w wr ∧ Hid (xs.take k = ys.take k)) (fun i _ => xs.length - (intOf i).toNat)
  case atStart => exact ⟨0, Nat.zero_le _, rfl, Ch.refl _ _, rfl⟩
  case round =>
    obtain ⟨k, hk, rfl, hB, HE⟩ := hrel
    by_cases hlt : k < xs.length
    · obtain ⟨b, o, rfl, hp, c0⟩ := h.at_ hlt
      have hlt' : k < ys.length := by have := HL.out; omega
      obtain ⟨b', o', rfl, hp', d0⟩ := h'.at_ hlt'
      have c0' := cell_ch c0 hB (by simp)
      have d0' := cell_ch d0 hB (by simp)
      have c0 := Later.cell c0'
      have d0 := Later.cell d0'
      have HS := Lib.hid (take_eq_step hlt hlt' HE.out)
      have HN := Lib.hid (beforeB_at xs ys k hlt hlt' HE.out)
      generalize xs[k] = x at *
      generalize ys[k] = y at *
      by_cases hxy : x = y
      · have hq : (x.toList == y.toList) = true := by rw [hxy]; simp
        have HXY := Lib.hid hxy; clear hxy
        go_wp2
        refine wp_region_later (by kernel_rfl) (lexB_of (by kernel_rfl)) ?_
        repeat (go_big_quiet_step (fail))
        refine wpQuiet_nil ?_
        intro w1 hw1
        go_wp2
        go_roundw
        case rel => exact ⟨k + 1, by omega, by go_num, hB.trans hw1, HS.out HXY.out⟩
        case measure => simp [intOf]; omega
      · have hq : (x.toList == y.toList) = false := by rw [beqS]; simpa using hxy
        have HXY := Lib.hid hxy; clear hxy
        go_wp2
        refine wp_region_later (by kernel_rfl) (lexB_of (by kernel_rfl)) ?_
        repeat (go_big_quiet_step (fail))
        refine wpQuiet_nil ?_
        intro w1 hw1
        have c1 := Later.cell (cell_ch c0' hw1 (by simp))
        have d1 := Later.cell (cell_ch d0' hw1 (by simp))
        clear c0 d0
        go_wp2
        refine wp_region_later (by kernel_rfl) (lexB_of (by kernel_rfl)) ?_
        repeat (go_big_quiet_step (fail))
        refine wpQuiet_nil ?_
        intro w2 hw2
        go_wp2
        go_ret
        exact ⟨by rw [HN.out HXY.out]; rfl, (hB.trans hw1).trans hw2⟩
    · have : k = xs.length := by omega
      subst this
      have hx := eq_of_prefix HL.out HE.out
      have HB : Hid (beforeB xs ys = false) := by unfold Hid; rw [← hx]; exact before_irr xs
      clear hx
      go_wp2
      go_ret
      exact ⟨by rw [HB.out]; rfl, hB⟩

/-- the best way so far, in memory -/
def BestV (w : World) (base : Nat) (es : List Ed) (v : Value) : Option (Nat × Ed) → Prop
  | none => v = .slice none 0 0
  | some x => (∃ a c, v = .slice (some a) x.1 c) ∧ SlS (fun b => base ≤ b) w v (wayOf es (some x))
theorem BestV.ch0 {w w' : World} {base : Nat} {es : List Ed} {v : Value} {o : Option (Nat × Ed)} (h : BestV w base es v o) (hc : Ch [] w w') : BestV w' base es v o := by
  cases o with
  | none => exact h
  | some x => exact ⟨h.1, h.2.ch0 hc⟩
theorem BestV.sl {w : World} {base : Nat} {es : List Ed} {v : Value} {o : Option (Nat × Ed)} (h : BestV w base es v o) : SlS (fun b => base ≤ b) w v (wayOf es o) := by
  cases o with
  | none => obtain rfl : v = .slice none 0 0 := h; exact Sl.nil _ _ _
  | some x => exact h.2
/-- the next name that is found -/
def NextV (o : Option ByteArray) (f nx : Value) : Prop := match o with
  | none => f = .bool false ∧ nx = .string ⟨#[]⟩
  | some z => f = .bool true ∧ nx = .string z

set_option maxRecDepth 100000 in
set_option maxHeartbeats 8000000 in
theorem ref10Cycle (p) (v : Value) (l : List Ru) (w : World) (h : SlR p w v l) (hf : Fit l) :
    Calls Try.prog 29 #[v] w fun r w' => ∃ v', r = .returned v' ∧ SlS (fun b => w.heap.size ≤ b) w' v' (cycOf (edgesOf l)) ∧ Ch [] w w' := by
  have hD := ref09Edges p v l w h hf
  have hel := edgesOf_len hf l.length
  rw [List.take_length] at hel
  have HAS := Lib.hid (asc_edgesOf l)
  have hnil : ∀ (w : World) (a : Option Addr) (n c n' c' : Nat), (binOp .eql 38 (.slice a n c) (.slice none n' c')).run Try.prog w = .ok (.bool a.isNone) w := fun w a n c n' c' => Lib.run_eql_slice_nil w _ _ a n c n' c' Try.underlying38
  generalize edgesOf l = es at *
  obtain ⟨a, c, rfl, hlc, hm⟩ := h.form
  unfold maxLen at hm
  go_enter Try.func29, Try.ntmps29
  go_wp2_with (go_at_call 32; refine hD.mono ?_; rintro e w1 ⟨v1, rfl, h1, hc1⟩; clear hD; obtain ⟨a1, c1, rfl, hl1, hm1⟩ := h1.form)
  unfold maxLen at hm1
  have hs1 := hc1.size
  go_loopw [4, 5] (fun bv i wr => ∃ (k : Nat), k ≤ es.length ∧ i = .int .i64 k ∧ Ch [] w1 wr ∧ Hid (BestV wr w1.heap.size es bv (bestOf es (es.take k)))) (fun _ i _ => es.length - (intOf i).toNat)
  case atStart => exact ⟨0, Nat.zero_le _, rfl, Ch.refl _ _, rfl⟩
  case round =>
    obtain ⟨k, hk, rfl, hB, HB⟩ := hrel
    by_cases hlt : k < es.length
    · obtain ⟨b, o, rfl, hp, c0, c1', c2⟩ := h1.at_ hlt
      have r0 := c0
      have r1 := c1'
      have c0 := cell_ch c0 hB (by simp)
      have c1' := cell_ch c1' hB (by simp)
      have c2 := cell_ch c2 hB (by simp)
      have HS := Lib.hid (bestOf_snoc es es k hlt)
      have hok := best_ok es (es.take k)
      have HMX := Lib.hid (fun y (hy : y ∈ es.take k) => (show edLess y es[k] = true from by
        obtain ⟨i, hi, e⟩ := List.mem_iff_getElem.1 hy
        rw [List.length_take] at hi
        rw [List.getElem_take] at e
        rw [← e]
        exact List.pairwise_iff_getElem.1 HAS.out i k (by omega) hlt (by omega)))
      have HTK := Lib.hid (take_snoc es k hlt)
      obtain ⟨x, hx⟩ : ∃ x, es[k] = x := ⟨_, rfl⟩
      rw [hx] at c0 c1' c2 HS r0 r1 HMX HTK
      clear hx
      generalize bestOf es (es.take k) = o0 at *
      have HOK := Lib.hid hok; clear hok
      have hcall := fun (y : Later wr) => later_call (x := y) (ref10Distance _ _ es x.t x.f y.w ((h1.ch0 hB).ch0 y.ch) (by omega))
      have b0 := Later.cell c0
      have b1 := Later.cell c1'
      go_wp2
      refine wp_region_later (by kernel_rfl) (lexB_of (by kernel_rfl)) ?_
      repeat (go_big_quiet_step (exact hcall _))
      refine wpQuiet_nil ?_
      intro w3 hw3
      clear hcall b0 b1
      have c2 := cell_ch c2 hw3 (by simp)
      have hB3 := hB.trans hw3
      have HB3 := Lib.hid (HB.out.ch0 hw3)
      clear HB
      cases hneg : x.n with
      | false =>
        have HNG := Lib.hid hneg
        rw [hneg] at c2
        go_wp2
        go_roundw
        case rel => exact ⟨k + 1, by omega, by go_num, hB3, by unfold Hid; rw [HS.out, better_skip HNG.out]; exact HB3.out⟩
        case measure => simp [intOf]; omega
      | true =>
        have HNG := Lib.hid hneg
        rw [hneg] at c2
        clear hneg
        cases hd : dst es x.t x.f with
        | none =>
          have hdi : distI es x.t x.f = -1 := by unfold distI; rw [hd]
          have HD := Lib.hid hd
          rw [hdi]
          clear hd hdi
          go_wp2
          go_roundw
          case rel => exact ⟨k + 1, by omega, by go_num, hB3, by unfold Hid; rw [HS.out, better_none HD.out]; exact HB3.out⟩
          case measure => simp [intOf]; omega
        | some d =>
          have hdi : distI es x.t x.f = (d : Int) := distI_some.2 hd
          have hdle := dst_le hd
          have HD := Lib.hid hd
          rw [hdi]
          clear hd hdi
          have s0 := cell_ch r0 hB3 (by simp)
          have s1 := cell_ch r1 hB3 (by simp)
          have hcA : Ch [] w3 (w3.alloc (.cells #[.string x.f] 9)) := (Ch.refl _ _).alloc _
          have t0 := cell_ch s0 hcA (by simp)
          have t1 := cell_ch s1 hcA (by simp)
          have hown0 := Own.one_ w3 w3.heap.size 9 1 [.string x.f] (Nat.le_refl _) rfl (by simp [Value.oneCell'])
          have HW0 : Hid (atW es x.f d x.t 0 = x.t) := atW_zero HD.out
          have HWD := Lib.hid (fun j (hj : j ≤ d) => atW_dst HD.out hj)
          have HWS := Lib.hid (fun j (hj : j < d) => atW_succ HD.out hj)
          have HWT := Lib.hid (fun j (hj : j < d) => walk_take (es := es) (to := x.f) (a := x.t) hj)
          have HWA := Lib.hid (walk_all (es := es) (to := x.f) (a := x.t) d)
          have HDM := Lib.hid (fun j => by have := walk_len (es := es) (to := x.f) d x.t; exact (List.length_take (i := j) (l := walkOf es x.f d x.t)).trans (by rw [this]))
          have HWY : Hid (wayOf es (some (d + 1, x)) = x.f :: walkOf es x.f d x.t) := rfl
          have HBT : Hid (∀ st n, BestAt o0 n st → True) := fun _ _ _ => trivial
          generalize hW : walkOf es x.f d x.t = W at *
          have HWW := Lib.hid hW; clear hW
          go_wp2
          obtain ⟨wo, hwo⟩ : ∃ wo : World, wo = w3 := ⟨_, rfl⟩
          have hBo : Ch [] wo (w3.alloc (.cells #[.string x.f] 9)) := by rw [hwo]; exact hcA
          have hB1o : Ch [] w1 wo := by rw [hwo]; exact hB3
          have HB3o : Hid (BestV wo w1.heap.size es u4 o0) := by rw [hwo]; exact HB3
          rw [← hwo] at hown0
          have hown1 : Own (w3.alloc (.cells #[.string x.f] 9)) wo.heap.size 9 1 (.slice (some ⟨w3.heap.size, 0, none⟩) 1 1) [[.string x.f]] := by rw [← hwo]; exact hown0
          clear hwo hown0 c0 c1' c2 s0 s1 t0 t1 hcA hw3 hB hB3 HB3
          go_loopw [7, 8] (fun wv av wq => ∃ (j : Nat), j ≤ d ∧ av = .string (atW es x.f d x.t j) ∧ Ch [] wo wq ∧ Own wq wo.heap.size 9 1 wv ((x.f :: W.take j).map encS)) (fun wv _ _ => d + 1 - lenV wv)
          case atStart => exact ⟨0, Nat.zero_le _, by rw [HW0.out], hBo, by rw [List.take_zero]; exact hown1⟩
          case round =>
            obtain ⟨j, hj, rfl, hB4, ho4⟩ := hrel
            have hB14 := hB1o.trans hB4
            have c0 := cell_ch r0 hB14 (by simp)
            have hlen : ((x.f :: W.take j).map encS).length = j + 1 := by have := HDM.out j; rw [List.length_map, List.length_cons, this]; omega
            obtain ⟨a7, c7, rfl⟩ := ho4.form'
            rw [hlen] at ho4 ⊢
            by_cases hjd : j < d
            · have hat := HWD.out j hj
              have HSU := Lib.hid (HWS.out j hjd)
              have HTK := Lib.hid (HWT.out j hjd)
              generalize atW es x.f d x.t j = y at *
              obtain ⟨m, hm1⟩ : ∃ m, m = d - j := ⟨_, rfl⟩
              obtain ⟨m', hm2⟩ : ∃ m', m' = d - j - 1 := ⟨_, rfl⟩
              have hmm : m = m' + 1 := by omega
              have hmle : m' ≤ d := by omega
              rw [← hm1] at hat
              have hdy : distI es y x.f = (m : Int) := distI_some.2 hat
              have hyx : (y.toList == x.f.toList) = false := by
                rw [beqS, decide_eq_false_iff_not]
                intro e
                rw [dst_zero.2 e] at hat
                injection hat with hat
                omega
              rw [hmm] at hat
              have HNS := Lib.hid (nxtAt_all hat)
              have HM2 := Lib.hid hm2
              have hw : IntKind.i64.wrap ((m : Int) - 1) = (m' : Int) := by rw [hmm]; simp [IntKind.wrap, IntKind.signed, IntKind.bits]; omega
              have HDY := Lib.hid hdy
              have HLEN := Lib.hid hlen
              clear hm1 hm2 hmm hat hdy hlen
              go_wp2_with (at_builtin; refine wpList_append_sl rfl _ _ _ rfl elS (base := wo.heap.size) (v := .slice a7 (j + 1) c7) (css := (x.f :: W.take j).map encS) rfl (ho4.ch ((Ch.refl [] wr).alloc _) (by simp)) rfl (Sl.one wr 1 _ [.string y] rfl (by simp [Value.oneCell'])) (by rw [HLEN.out]; simp; omega) (by have := hB4.size; simp; omega) ?_; intro v5 w5 ho5 hc5 hat5 hn5; clear hn5)
              have hB5 : Ch [] wo w5 := (hB4.alloc (.cells #[.string y] 9)).step hc5 (fun z hz => .inr (by
                cases hu : (Value.slice a7 (j + 1) c7).ownBlock with
                | none => rw [hu] at hz; cases hz
                | some g => rw [hu] at hz; simp at hz; subst hz; exact (ho4.lt hu).1))
              have ho5' : Own w5 wo.heap.size 9 1 v5 ((x.f :: W.take (j + 1)).map encS) := by
                rw [HTK.out]
                have e : (x.f :: (W.take j ++ [y])).map encS = (x.f :: W.take j).map encS ++ [[.string y]] := by simp [encS]
                rw [e]; exact ho5
              have hl5 : lenV v5 = j + 2 := by
                obtain ⟨a6, c6, e6⟩ := ho5'.form'
                have := HDM.out (j + 1)
                rw [e6]; simp only [lenV]; rw [List.length_map, List.length_cons, this]; omega
              have HL5 := Lib.hid hl5
              clear hc5 hat5 ho5 hB4 ho4 hl5 hB14 c0
              obtain ⟨wp, hwp⟩ : ∃ wp : World, wp = w5 := ⟨_, rfl⟩
              have hBp : Ch [] wp w5 := by rw [hwp]; exact Ch.refl _ _
              rw [← hwp] at hB5 ho5'
              clear hwp
              go_loopw [9, 10, 11] (fun nv fv i wq => ∃ q : Nat, q ≤ es.length ∧ i = .int .i64 q ∧ Ch [] wp wq ∧ Hid (NextV (nxtAt es (es.take q) x.f y m') fv nv)) (fun _ _ i _ => es.length - (intOf i).toNat)
              case atStart => exact ⟨0, Nat.zero_le _, rfl, hBp, ⟨rfl, rfl⟩⟩
              case round =>
                obtain ⟨q, hq, rfl, hB6, HN6⟩ := hrel
                by_cases hltq : q < es.length
                · obtain ⟨b2, o2, e2, hp2, d0, d1, d2⟩ := h1.at_ hltq
                  injection e2 with e2
                  injection e2 with e21 e22
                  subst e21 e22
                  have hB16 := (hB1o.trans hB5).trans hB6
                  have d0 := Later.cell (cell_ch d0 hB16 (by simp))
                  have d1' := cell_ch d1 hB16 (by simp)
                  have d1L := Later.cell d1'
                  have r0L := Later.cell (cell_ch r0 hB16 (by simp))
                  have HS6 := Lib.hid (nxtAt_snoc es es x.f y m' q hltq)
                  have HLE := Lib.hid (fun z => nxtAt_least (es := es) (l := es) HAS.out (to := x.f) (a := y) (y := z) (d := m') hltq)
                  obtain ⟨e, he⟩ : ∃ e, es[q] = e := ⟨_, rfl⟩
                  rw [he] at d0 d1' d1L HS6 HLE d1
                  clear he d2
                  have hcall1 := fun (z : Later wr) => later_call (x := z) (ref10Distance _ _ es e.t x.f z.w ((h1.ch0 hB16).ch0 z.ch) (by omega))
                  have hcall2 := fun (z : Later wr) => later_call (x := z) (ref10Distance _ _ es y x.f z.w ((h1.ch0 hB16).ch0 z.ch) (by omega))
                  rw [HDY.out] at hcall2
                  by_cases hf : e.f = y
                  · have hft : (e.f.toList == y.toList) = true := by rw [beqS]; simpa using hf
                    cases hd2 : decide (dst es e.t x.f = some m') with
                    | false =>
                      rw [decide_eq_false_iff_not] at hd2
                      have hdi : (distI es e.t x.f == (m' : Int)) = false := by rw [beq_eq_false_iff_ne]; exact fun h => hd2 (distI_some.1 h)
                      have HX : Hid (nxtAt es (es.take (q + 1)) x.f y m' = nxtAt es (es.take q) x.f y m') := by unfold Hid; rw [HS6.out, if_neg (fun h => hd2 h.2), Option.or_none]
                      generalize distI es e.t x.f = Q at *
                      clear hf hd2
                      go_wp2
                      refine wp_region_later (by kernel_rfl) (lexB_of (by kernel_rfl)) ?_
                      repeat (go_big_quiet_step (first | (go_at_call_of 62 e.t; exact hcall1 _) | (go_at_call_of 62 y; exact hcall2 _)))
                      refine wpQuiet_nil ?_
                      intro w7 hw7
                      go_wp2
                      go_roundw
                      case rel => exact ⟨q + 1, by omega, by go_num, hB6.trans hw7, by unfold Hid; rw [HX.out]; exact HN6.out⟩
                      case measure => simp [intOf]; omega
                    | true =>
                      rw [decide_eq_true_eq] at hd2
                      have hdi : distI es e.t x.f = (m' : Int) := distI_some.2 hd2
                      rw [hdi] at hcall1
                      have hn6 := HN6.out
                      cases ho : nxtAt es (es.take q) x.f y m' with
                      | none =>
                        rw [ho] at hn6
                        obtain ⟨rfl, rfl⟩ := hn6
                        have HX : Hid (nxtAt es (es.take (q + 1)) x.f y m' = some e.t) := by unfold Hid; rw [HS6.out, ho, if_pos ⟨hf, hd2⟩]; rfl
                        clear hf hd2 hdi ho
                        go_wp2
                        refine wp_region_later (by kernel_rfl) (lexB_of (by kernel_rfl)) ?_
                        repeat (go_big_quiet_step (first | (go_at_call_of 62 e.t; exact hcall1 _) | (go_at_call_of 62 y; exact hcall2 _)))
                        refine wpQuiet_nil ?_
                        intro w7 hw7
                        have d17 := cell_ch d1' hw7 (by simp)
                        go_wp2
                        go_roundw
                        case rel => exact ⟨q + 1, by omega, by go_num, hB6.trans hw7, by unfold Hid; rw [HX.out]; exact ⟨rfl, rfl⟩⟩
                        case measure => simp [intOf]; omega
                      | some z =>
                        rw [ho] at hn6
                        obtain ⟨rfl, rfl⟩ := hn6
                        have hle : Op.bytesLess e.t.toList z.toList = false := HLE.out z ho hf
                        have HX : Hid (nxtAt es (es.take (q + 1)) x.f y m' = some z) := by unfold Hid; rw [HS6.out, ho]; rfl
                        clear hf hd2 hdi ho
                        go_wp2
                        refine wp_region_later (by kernel_rfl) (lexB_of (by kernel_rfl)) ?_
                        repeat (go_big_quiet_step (first | (go_at_call_of 62 e.t; exact hcall1 _) | (go_at_call_of 62 y; exact hcall2 _)))
                        refine wpQuiet_nil ?_
                        intro w7 hw7
                        go_wp2
                        go_roundw
                        case rel => exact ⟨q + 1, by omega, by go_num, hB6.trans hw7, by unfold Hid; rw [HX.out]; exact ⟨rfl, rfl⟩⟩
                        case measure => simp [intOf]; omega
                  · have hft : (e.f.toList == y.toList) = false := by rw [beqS]; simpa using hf
                    have HX : Hid (nxtAt es (es.take (q + 1)) x.f y m' = nxtAt es (es.take q) x.f y m') := by unfold Hid; rw [HS6.out, if_neg (fun h => hf h.1), Option.or_none]
                    clear hf
                    go_wp2
                    refine wp_region_later (by kernel_rfl) (lexB_of (by kernel_rfl)) ?_
                    repeat (go_big_quiet_step (fail))
                    refine wpQuiet_nil ?_
                    intro w7 hw7
                    go_wp2
                    go_roundw
                    case rel => exact ⟨q + 1, by omega, by go_num, hB6.trans hw7, by unfold Hid; rw [HX.out]; exact HN6.out⟩
                    case measure => simp [intOf]; omega
                · have : q = es.length := by omega
                  subst this
                  have h1 := HN6.out
                  rw [List.take_length, HNS.out] at h1
                  obtain ⟨rfl, rfl⟩ := h1
                  have HNX : Hid (atW es x.f d x.t (j + 1) = nxt es x.f y m') := by unfold Hid; rw [HSU.out, ← HM2.out]
                  go_wp2
                  go_roundw
                  case rel => exact ⟨j + 1, by omega, by rw [HNX.out], hB5.trans hB6, ho5'.ch0' hB6⟩
                  case measure => rw [HL5.out]; simp only [lenV]; omega
            · have : j = d := by omega
              subst this
              rw [HWA.out] at ho4
              have hxx : atW es x.f j x.t j = x.f := dst_zero.1 (by have := HWD.out j (Nat.le_refl _); rwa [Nat.sub_self] at this)
              rw [hxx]
              have hsl : SlS (fun b => wo.heap.size ≤ b ∧ (Value.slice a7 (j + 1) c7).ownBlock = some b) wr (.slice a7 (j + 1) c7) (x.f :: W) := ho4.sl
              have hslw : SlS (fun b => w1.heap.size ≤ b) wr (.slice a7 (j + 1) c7) (wayOf es (some (j + 1, x))) := by
                rw [HWY.out]; exact hsl.weak (fun b _ hb => by have := hB1o.size; omega)
              obtain ⟨b7, o7, rfl, _⟩ := hsl.at_ (i := 0) (by simp)
              have hnew : BestV wr w1.heap.size es (.slice (some ⟨b7, o7, none⟩) (j + 1) c7) (some (j + 1, x)) := ⟨⟨_, _, rfl⟩, hslw⟩
              have HNEW := Lib.hid hnew
              have HBW := Lib.hid (HB3o.out.ch0 hB4)
              have HDM2 : Hid (W.length = j) := by have := HDM.out j; unfold Hid; rw [HWA.out, Nat.min_self] at this; exact this
              clear hnew hxx HWD HWS HWT HDM
              cases o0 with
              | none =>
                obtain rfl : u4 = .slice none 0 0 := HBW.out
                have HX : Hid (better es none x = some (j + 1, x)) := by unfold Hid better; rw [if_pos HNG.out, HD.out]
                clear HBW hsl hslw
                go_wp2
                go_roundw
                case rel => exact ⟨k + 1, by omega, by go_num, hB1o.trans hB4, by unfold Hid; rw [HS.out, HX.out]; exact HNEW.out⟩
                case measure => simp [intOf]; omega
              | some x0 =>
                obtain ⟨n0, e0⟩ := x0
                have hbw := HBW.out
                obtain ⟨⟨a4, c4, e4⟩, hs4⟩ := hbw
                simp only at e4
                subst e4
                obtain ⟨m1, m2, m3, m4⟩ := HOK.out
                simp only at m1 m2 m3 m4
                have hbet : better es (some (n0, e0)) x = if j + 1 < n0 then some (j + 1, x) else some (n0, e0) := by unfold better; rw [if_pos HNG.out, HD.out]
                have hedl := HMX.out e0 m1
                have hkeep : better es (some (n0, e0)) x = some (n0, e0) → Hid (BestV wr w1.heap.size es (.slice (some a4) n0 c4) (bestOf es (es.take (k + 1)))) := fun h => by unfold Hid; rw [HS.out, h]; exact HBW.out
                have HKP := Lib.hid hkeep; clear hkeep
                rcases Nat.lt_trichotomy (j + 1) n0 with hlt0 | heq | hgt
                · have hd1 : decide (j + 1 < n0) = true := by simpa using hlt0
                  have HX : Hid (better es (some (n0, e0)) x = some (j + 1, x)) := by unfold Hid; rw [hbet, if_pos hlt0]
                  clear hsl hslw hs4 m1 m2 m3 m4 hbet hedl
                  go_wp2
                  go_roundw
                  case rel => exact ⟨k + 1, by omega, by go_num, hB1o.trans hB4, by unfold Hid; rw [HS.out, HX.out]; exact HNEW.out⟩
                  case measure => simp [intOf]; omega
                · have hcall := ref10Before _ _ _ _ _ (wayOf es (some (n0, e0))) wr hsl hs4 (by rw [way_len (es := es) (l := es.take k) ⟨m1, m2, m3, m4⟩]; have := HDM2.out; simp only [List.length_cons, this]; exact heq)
                  have hbf : beforeB (x.f :: W) (wayOf es (some (n0, e0))) = false := by
                    rw [← HWY.out]
                    exact way_before (es := es) (l := es.take k ++ [x]) (x := (n0, e0)) (y := (j + 1, x)) hedl ⟨List.mem_append.2 (.inl m1), m2, m3, m4⟩ ⟨by simp, HNG.out, by simp, by simpa using HD.out⟩ heq.symm
                  rw [hbf] at hcall
                  have HX := HKP.out (by rw [hbet, if_neg (by omega)])
                  clear hsl hslw hs4 m1 m2 m3 m4 hbet hedl hbf
                  subst heq
                  go_wp2_with (go_at_call 63; refine hcall.mono ?_; clear hcall; rintro e w9 ⟨rfl, hc9⟩)
                  go_roundw
                  case rel => exact ⟨k + 1, by omega, by go_num, (hB1o.trans hB4).trans hc9, HX.out.ch0 hc9⟩
                  case measure => simp [intOf]; omega
                · have HX := HKP.out (by rw [hbet, if_neg (by omega)])
                  have hd1 : decide (j + 1 < n0) = false := by simp; omega
                  have hd2 : decide (j + 1 = n0) = false := by simp; omega
                  clear hsl hslw hs4 m1 m2 m3 m4 hbet hedl
                  go_wp2
                  go_roundw
                  case rel => exact ⟨k + 1, by omega, by go_num, hB1o.trans hB4, HX⟩
                  case measure => simp [intOf]; omega
    · have : k = es.length := by omega
      subst this
      rw [List.take_length] at HB
      go_wp2
      go_ret
      have hfin : SlS (fun b => w.heap.size ≤ b) wr u4 (cycOf es) := HB.out.sl.weak (fun b _ hb => by omega)
      exact ⟨_, rfl, hfin, hc1.trans hB⟩
end Go.Proofs.Ytbjdikeaolibpaa
