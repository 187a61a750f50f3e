/-
  The contract of strata.Valid and of the reference's Valid.
-/
import Derived.Test.YtbjdikeaolibpaaStrPlain
import Derived.Test.YtbjdikeaolibpaaStrOf
import Derived.Test.YtbjdikeaolibpaaEdSort
import Derived.Test.YtbjdikeaolibpaaRefEdges
import Derived.Test.YtbjdikeaolibpaaRefs
import Derived.Test.YtbjdikeaolibpaaLex
namespace Go.Proofs.Ytbjdikeaolibpaa
open Go.RowKit

/-- one level of a stratification -/
def OkAt (lv : List Lv) (i : Nat) : Prop := ∀ (h : i < lv.length), 0 ≤ lv[i].n ∧ ∀ (h0 : 0 < i), sLt lv[i - 1].s lv[i].s = true
/-- an edge that levels do not satisfy -/
def edBad (f t : Int) (n : Bool) : Bool := decide (f < t) || (n && decide (f = t))
theorem validL_iff (es : List Ed) (N : List ByteArray) (lv : List Lv) : ValidL es N lv ↔ (∀ i, i < lv.length → OkAt lv i) ∧ (∀ s ∈ N, 0 ≤ ofL lv s) ∧ ∀ e ∈ es, edBad (ofL lv e.f) (ofL lv e.t) e.n = false := by
  unfold ValidL OkAt edBad
  refine and_congr ⟨fun h i hi h2 => h i h2, fun h i hi => h i hi hi⟩ (and_congr Iff.rfl ⟨fun h e he => ?_, fun h e he => ?_⟩)
  · obtain ⟨h1, h2⟩ := h e he
    rw [Bool.or_eq_false_iff, decide_eq_false_iff_not]
    refine ⟨by omega, ?_⟩
    cases hn : e.n with
    | false => rfl
    | true => rw [Bool.true_and, decide_eq_false_iff_not]; exact h2 hn
  · have h1 := h e he
    rw [Bool.or_eq_false_iff, decide_eq_false_iff_not] at h1
    refine ⟨by omega, fun hn => ?_⟩
    have h2 := h1.2
    rw [hn, Bool.true_and, decide_eq_false_iff_not] at h2
    exact h2

/-- what Valid answers -/
def ValAns (es : List Ed) (N : List ByteArray) (lv : List Lv) (r : Ending) : Prop := ∃ b, r = .returned (.bool b) ∧ Hid (b = true ↔ ValidL es N lv)

set_option maxRecDepth 100000 in
set_option maxHeartbeats 4000000 in
theorem strataValid (p q) (v u : Value) (l : List Ru) (lv : List Lv) (w : World) (h : SlR p w v l) (h' : SlL q w u lv) (hf : Fit l) (hnm : NmOk l) :
    Calls Try.prog 30 #[v, u] w fun r w' => ValAns (edgesOf l) (relsOf l) lv r ∧ Ch [] w w' := by
  have hR := fun wz hz => depRelations p v l wz hz hf hnm
  have hD := fun wz hz => depEdges p v l wz hz hf
  have HV := Lib.hid (validL_iff (edgesOf l) (relsOf l) lv)
  have hn1 := relsOf_len hf
  have hn2 := edgesOf_len hf l.length
  rw [List.take_length] at hn2
  generalize relsOf l = N at *
  generalize edgesOf l = es at *
  obtain ⟨a, c, rfl, hlc, hm⟩ := h.form
  obtain ⟨a', c', rfl, hlc', hm'⟩ := h'.form
  unfold maxLen at hm hm'
  go_enter Try.func30, Try.ntmps30
  go_wp2
  go_loopw [15] (fun i wr => ∃ k : Nat, k ≤ lv.length ∧ i = .int .i64 k ∧ Ch [] w wr ∧ Hid (∀ i, i < k → OkAt lv i)) (fun i _ => lv.length - (intOf i).toNat)
  case atStart => exact ⟨0, Nat.zero_le _, rfl, Ch.refl _ _, by simp [Hid]⟩
  case round =>
    obtain ⟨k, hk, rfl, hB, HO⟩ := hrel
    by_cases hlt : k < lv.length
    · obtain ⟨b, o, rfl, hp, c0, c1⟩ := h'.at_ hlt
      have c0 := cell_ch c0 hB (by simp)
      have c1 := cell_ch c1 hB (by simp)
      obtain ⟨x, hx⟩ : ∃ x, lv[k] = x := ⟨_, rfl⟩
      have HOK : Hid (OkAt lv k ↔ (0 ≤ x.n ∧ ∀ (h0 : 0 < k), sLt (lv[k - 1]'(by omega)).s x.s = true)) := by
        unfold Hid OkAt
        rw [← hx]
        exact ⟨fun h => h hlt, fun h _ => h⟩
      rw [hx] at c0 c1
      obtain ⟨wA, hwA⟩ : ∃ wA, wA = wr.alloc (.cells #[.string x.s, .int .i64 x.n] 42) := ⟨_, rfl⟩
      have hbox : Blk wA wr.heap.size 42 #[.string x.s, .int .i64 x.n] := by rw [hwA]; exact Blk.new _ _ _
      have hcA : Ch [] wr wA := by rw [hwA]; exact (Ch.refl _ _).alloc _
      have b0 := Later.cell (hbox.cell 0)
      have b1 := Later.cell (hbox.cell 1)
      have hfin : ∀ i, OkAt lv k → i < k + 1 → OkAt lv i := fun i h1 h2 => by
        rcases Nat.lt_succ_iff_lt_or_eq.1 h2 with h3 | h3
        · exact HO.out i h3
        · subst h3; exact h1
      have HF := Lib.hid hfin; clear hfin
      cases hneg : decide (x.n < 0)
      · cases k with
        | zero =>
          have HNG := Lib.hid (of_decide_eq_false hneg)
          simp only [Nat.zero_mul, Nat.add_zero] at c0 c1
          go_wp2
          rw [← hwA]
          refine wp_region_later (by kernel_rfl) (lexB_of (by kernel_rfl)) ?_
          repeat (go_big_quiet_step (fail))
          refine wpQuiet_nil ?_
          intro w3 hw3
          go_wp2
          go_roundw
          case rel => exact ⟨1, by omega, by go_num, (hB.trans hcA).trans hw3, fun i h2 => HF.out i (HOK.out.2 ⟨by have := HNG.out; omega, fun h => by omega⟩) (by omega)⟩
          case measure => simp [intOf]; omega
        | succ j =>
          have HNG := Lib.hid (of_decide_eq_false hneg)
          obtain ⟨b2, o2, e2, hp2, d0, d1⟩ := h'.at_ (i := j) (by omega)
          injection e2 with e2
          injection e2 with e21 e22
          subst e21 e22
          have d0 := Later.cell (cell_ch d0 (hB.trans hcA) (by simp))
          obtain ⟨y, hy⟩ : ∃ y, lv[j] = y := ⟨_, rfl⟩
          rw [hy] at d0
          have hj1 : IntKind.i64.wrap (((j + 1 : Nat) : Int) - 1) = (j : Int) := by simp [IntKind.wrap, IntKind.signed, IntKind.bits]; omega
          have hj2 : IntKind.i64.wrap ((j : Int) + 1 - 1) = (j : Int) := by simp [IntKind.wrap, IntKind.signed, IntKind.bits]; omega
          have hj3 : IntKind.i64.wrap (j : Int) = (j : Int) := by simp [IntKind.wrap, IntKind.signed, IntKind.bits]; omega
          have hex : (sLt x.s y.s = true ∨ x.s = y.s) ∨ (sLt y.s x.s = true) := by
            cases h1 : sLt x.s y.s with
            | true => exact .inl (.inl rfl)
            | false =>
              by_cases h2 : x.s = y.s
              · exact .inl (.inr h2)
              · cases h3 : sLt y.s x.s with
                | true => exact .inr rfl
                | false => exact absurd (sLt_total h1 h3) h2
          rcases hex with hex | hex
          · have HEX := Lib.hid hex
            have hbad : ¬ sLt y.s x.s = true := by
              rcases hex with h1 | h1
              · rw [sLt_asymm h1]; simp
              · rw [h1, sLt_irr]; simp
            have HBD := Lib.hid hbad; clear hbad
            have hab : (Op.bytesLess x.s.toList y.s.toList = true) ∨ (Op.bytesLess x.s.toList y.s.toList = false ∧ (x.s.toList == y.s.toList) = true) := by
              rcases hex with h1 | h1
              · exact .inl h1
              · cases h2 : Op.bytesLess x.s.toList y.s.toList with
                | true => exact .inl rfl
                | false => exact .inr ⟨rfl, by rw [h1]; simp⟩
            clear hex
            rcases hab with h1 | ⟨h1, h2⟩
            all_goals
              go_wp2
              rw [← hwA]
              refine wp_region_later (by kernel_rfl) (lexB_of (by kernel_rfl)) ?_
              repeat (go_big_quiet_step (fail))
              refine wpQuiet_nil ?_
              intro w3 hw3
              go_wp2
              go_ret
              exact ⟨⟨_, rfl, by
                unfold Hid
                rw [HV.out]
                refine Iff.intro (fun h => (by cases h)) (fun h => ?_)
                have h1 := (HOK.out.1 (h.1 _ hlt)).2 (by omega)
                simp only [Nat.add_sub_cancel, hy] at h1
                exact absurd h1 HBD.out⟩, (hB.trans hcA).trans hw3⟩
          · have HSL := Lib.hid hex
            have h1 : Op.bytesLess x.s.toList y.s.toList = false := sLt_asymm hex
            have h2 : (x.s.toList == y.s.toList) = false := by rw [beqS, decide_eq_false_iff_not]; intro e; rw [e, sLt_irr] at hex; cases hex
            clear hex
            go_wp2
            rw [← hwA]
            refine wp_region_later (by kernel_rfl) (lexB_of (by kernel_rfl)) ?_
            repeat (go_big_quiet_step (fail))
            refine wpQuiet_nil ?_
            intro w3 hw3
            go_wp2
            go_roundw
            case rel => exact ⟨j + 1 + 1, by omega, by go_num, (hB.trans hcA).trans hw3, fun i h2 => HF.out i (HOK.out.2 ⟨by have := HNG.out; omega, fun h => by
              simp only [Nat.add_sub_cancel, hy]
              exact HSL.out⟩) (by omega)⟩
            case measure => simp [intOf]; omega
      · have HNG := Lib.hid (of_decide_eq_true hneg)
        go_wp2
        rw [← hwA]
        refine wp_region_later (by kernel_rfl) (lexB_of (by kernel_rfl)) ?_
        repeat (go_big_quiet_step (fail))
        refine wpQuiet_nil ?_
        intro w3 hw3
        go_wp2
        go_ret
        exact ⟨⟨_, rfl, by
          unfold Hid
          rw [HV.out]
          refine Iff.intro (fun h => (by cases h)) (fun h => ?_)
          have h1 := (HOK.out.1 (h.1 _ hlt)).1
          have h2 := HNG.out
          omega⟩, (hB.trans hcA).trans hw3⟩
    · have : k = lv.length := by omega
      subst this
      have h'r := h'.ch0 hB
      obtain ⟨wo, rfl⟩ : ∃ wo : World, wo = wr := ⟨_, rfl⟩
      go_wp2_with (go_at_call 37; refine (hR _ (h.ch0 hB)).mono ?_; rintro e w1 ⟨v1, rfl, h1, hc1⟩; clear hR; obtain ⟨a1, c1, rfl, hl1, hm1⟩ := h1.form; unfold maxLen at hm1)
      have h'1 := h'r.ch0 hc1
      have hB1 := hB.trans hc1
      go_loopw [42] (fun i wq => ∃ k : Nat, k ≤ N.length ∧ i = .int .i64 k ∧ Ch [] w1 wq ∧ Hid (∀ s ∈ N.take k, 0 ≤ ofL lv s)) (fun i _ => N.length - (intOf i).toNat)
      case atStart => exact ⟨0, Nat.zero_le _, rfl, Ch.refl _ _, by simp [Hid]⟩
      case round =>
        obtain ⟨k, hk, rfl, hB2, HN⟩ := hrel
        by_cases hlt : k < N.length
        · obtain ⟨b, o, rfl, hp, c0⟩ := h1.at_ hlt
          have c0 := cell_ch c0 hB2 (by simp)
          have HT := Lib.hid (take_snoc N k hlt)
          have HME := Lib.hid (List.getElem_mem hlt)
          have hcall := strataOf q _ lv N[k] _ (h'1.ch0 hB2)
          generalize N[k] = x at *
          cases hneg : decide (ofL lv x < 0)
          · have HNG := Lib.hid (of_decide_eq_false hneg)
            go_wp2_with (go_at_call 22; refine hcall.mono ?_; rintro e w2 ⟨rfl, hc2⟩; clear hcall)
            go_roundw
            case rel => exact ⟨k + 1, by omega, by go_num, hB2.trans hc2, fun s hs => by
              rw [HT.out] at hs
              rcases List.mem_append.1 hs with hs | hs
              · exact HN.out s hs
              · rw [List.mem_singleton.1 hs]; have := HNG.out; omega⟩
            case measure => simp [intOf]; omega
          · have HNG := Lib.hid (of_decide_eq_true hneg)
            go_wp2_with (go_at_call 22; refine hcall.mono ?_; rintro e w2 ⟨rfl, hc2⟩; clear hcall)
            go_ret
            exact ⟨⟨_, rfl, by
              unfold Hid
              rw [HV.out]
              refine Iff.intro (fun h => (by cases h)) (fun h => ?_)
              have h1 := h.2.1 x HME.out
              have h2 := HNG.out
              omega⟩, (hB1.trans hB2).trans hc2⟩
        · have : k = N.length := by omega
          subst this
          rw [List.take_length] at HN
          have h'2 := h'1.ch0 hB2
          have hB12 := hB1.trans hB2
          go_wp2_with (go_at_call 42; refine (hD _ (h.ch0 hB12)).mono ?_; rintro e w3 ⟨v3, rfl, h3, hc3⟩; clear hD; obtain ⟨a3, c3, rfl, hl3, hm3⟩ := h3.form; unfold maxLen at hm3)
          have h'3 := h'2.ch0 hc3
          have hB3 := hB12.trans hc3
          go_loopw [54] (fun i wq => ∃ k : Nat, k ≤ es.length ∧ i = .int .i64 k ∧ Ch [] w3 wq ∧ Hid (∀ e ∈ es.take k, edBad (ofL lv e.f) (ofL lv e.t) e.n = false)) (fun i _ => es.length - (intOf i).toNat)
          case atStart => exact ⟨0, Nat.zero_le _, rfl, Ch.refl _ _, by simp [Hid]⟩
          case round =>
            obtain ⟨k, hk, rfl, hB4, HE⟩ := hrel
            by_cases hlt : k < es.length
            · obtain ⟨b, o, rfl, hp, c0, c1', c2⟩ := h3.at_ hlt
              have c0 := cell_ch c0 hB4 (by simp)
              have c1' := cell_ch c1' hB4 (by simp)
              have c2 := cell_ch c2 hB4 (by simp)
              have HT := Lib.hid (take_snoc es k hlt)
              have HME := Lib.hid (List.getElem_mem hlt)
              obtain ⟨x, hx⟩ : ∃ x, es[k] = x := ⟨_, rfl⟩
              rw [hx] at c0 c1' c2 HME HT
              clear hx
              obtain ⟨wA, hwA⟩ : ∃ wA, wA = wr.alloc (.cells #[.string x.f, .string x.t, .bool x.n] 65) := ⟨_, rfl⟩
              have hbox : Blk wA wr.heap.size 65 #[.string x.f, .string x.t, .bool x.n] := by rw [hwA]; exact Blk.new _ _ _
              have hcA : Ch [] wr wA := by rw [hwA]; exact (Ch.refl _ _).alloc _
              have hcall := fun (y : Later wA) s => later_call (strataOf q _ lv s y.w ((h'3.ch0 (hB4.trans hcA)).ch0 y.ch))
              have b0 := Later.cell (hbox.cell 0)
              have b1 := Later.cell (hbox.cell 1)
              have HBD : Hid (edBad (ofL lv x.f) (ofL lv x.t) x.n = (decide (ofL lv x.f < ofL lv x.t) || (x.n && decide (ofL lv x.f = ofL lv x.t)))) := rfl
              go_wp2
              rw [← hwA]
              refine wp_region_later (by kernel_rfl) (lexB_of (by kernel_rfl)) ?_
              repeat (go_big_quiet_step (exact hcall _ _))
              refine wpQuiet_nil ?_
              intro w5 hw5
              have hbox5 := (hbox.ch hw5 (by simp)).cell 2
              have hbx : Hid (edBad (ofL lv x.f) (ofL lv x.t) x.n = (decide ((ofL lv x.f) < (ofL lv x.t)) || (x.n && decide ((ofL lv x.f) = (ofL lv x.t))))) := by unfold Hid; rw [HBD.out]
              clear hcall b0 b1
              cases h5 : decide ((ofL lv x.f) < (ofL lv x.t))
              · have hd5 := of_decide_eq_false h5
                cases h6 : x.n
                · have HBX : Hid (edBad (ofL lv x.f) (ofL lv x.t) x.n = false) := by unfold Hid; rw [hbx.out, h5, h6]; rfl
                  rw [h6] at hbox5
                  clear hd5
                  go_wp2
                  go_roundw
                  case rel => exact ⟨k + 1, by omega, by go_num, (hB4.trans hcA).trans hw5, fun e he => by
                    rw [HT.out] at he
                    rcases List.mem_append.1 he with he | he
                    · exact HE.out e he
                    · rw [List.mem_singleton.1 he]; exact HBX.out⟩
                  case measure => simp [intOf]; omega
                · rw [h6] at hbox5
                  by_cases h7 : (ofL lv x.f) = (ofL lv x.t)
                  · have HBX : Hid (edBad (ofL lv x.f) (ofL lv x.t) x.n = true) := by unfold Hid; rw [hbx.out, h5, h6, h7]; simp
                    have h8 : ((ofL lv x.f) == (ofL lv x.t)) = true := by simpa using h7
                    clear hd5
                    go_wp2
                    go_ret
                    exact ⟨⟨_, rfl, by
                      unfold Hid
                      rw [HV.out]
                      refine Iff.intro (fun h => (by cases h)) (fun h => ?_)
                      have h1 := h.2.2 x HME.out
                      rw [HBX.out] at h1; cases h1⟩, hB3.trans ((hB4.trans hcA).trans hw5)⟩
                  · have HBX : Hid (edBad (ofL lv x.f) (ofL lv x.t) x.n = false) := by unfold Hid; rw [hbx.out, h5, h6]; simp [h7]
                    have h8 : ((ofL lv x.f) == (ofL lv x.t)) = false := by simpa using h7
                    have h9 : decide ((ofL lv x.f) = (ofL lv x.t)) = false := by simpa using h7
                    have H7 := Lib.hid h7
                    clear hd5 h7
                    go_wp2
                    go_roundw
                    case rel => exact ⟨k + 1, by omega, by go_num, (hB4.trans hcA).trans hw5, fun e he => by
                      rw [HT.out] at he
                      rcases List.mem_append.1 he with he | he
                      · exact HE.out e he
                      · rw [List.mem_singleton.1 he]; exact HBX.out⟩
                    case measure => simp [intOf]; omega
              · have HBX : Hid (edBad (ofL lv x.f) (ofL lv x.t) x.n = true) := by unfold Hid; rw [hbx.out, h5]; rfl
                go_wp2
                go_ret
                exact ⟨⟨_, rfl, by
                  unfold Hid
                  rw [HV.out]
                  refine Iff.intro (fun h => (by cases h)) (fun h => ?_)
                  have h1 := h.2.2 x HME.out
                  rw [HBX.out] at h1; cases h1⟩, hB3.trans ((hB4.trans hcA).trans hw5)⟩
            · have : k = es.length := by omega
              subst this
              rw [List.take_length] at HE
              go_wp2
              go_ret
              exact ⟨⟨_, rfl, by
                unfold Hid
                rw [HV.out]
                exact Iff.intro (fun _ => ⟨HO.out, HN.out, HE.out⟩) (fun _ => rfl)⟩, hB3.trans hB4⟩
end Go.Proofs.Ytbjdikeaolibpaa
