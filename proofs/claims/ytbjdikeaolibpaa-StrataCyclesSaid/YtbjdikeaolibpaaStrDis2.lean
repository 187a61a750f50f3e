/-
  The contract of the reference's Distance.
-/
import Derived.Test.YtbjdikeaolibpaaStrPlain
import Derived.Test.YtbjdikeaolibpaaRefs
import Derived.Test.YtbjdikeaolibpaaSmBound
import Derived.Test.YtbjdikeaolibpaaLex
namespace Go.Proofs.Ytbjdikeaolibpaa
open Go.RowKit

set_option maxRecDepth 100000 in
set_option maxHeartbeats 4000000 in
theorem ref10Distance (p) (v : Value) (es : List Ed) (a b : ByteArray) (w : World) (h : SlE p w v es) (hf : es.length ≤ 1000000) :
    Calls Try.prog 62 #[v, .string a, .string b] w fun r w' => r = .returned (.int .i64 (distI es a b)) ∧ Ch [] w w' := by
  obtain ⟨ae, ce, rfl, hlc, hm⟩ := h.form
  unfold maxLen at hm
  have hone : SlS (fun b => b = w.heap.size) (w.alloc (.cells #[.string a] 9)) (.slice (some ⟨w.heap.size, 0, none⟩) 1 1) [a] := Sl.one w 1 9 [.string a] rfl (by simp [Value.oneCell'])
  go_enter Try.func62, Try.ntmps62
  go_wp2
  go_loopw [7, 8] (fun mv nv wr => ∃ (n : Nat) (met : List ByteArray), nv = .int .i64 n ∧ Ch [] w wr ∧ SlS (fun _ => True) wr mv met ∧ Hid (MetAt es a n met) ∧ Hid (∀ m, m < n → dst es a b ≠ some m) ∧ n + 1 ≤ met.length) (fun mv _ _ => es.length + 1 - lenV mv)
  case atStart => exact ⟨0, [a], rfl, (Ch.refl _ _).alloc _, hone.weak (fun _ _ _ => trivial), MetAt.zero es a, (fun m hm => by omega), Nat.le_refl _⟩
  case round =>
    obtain ⟨n, met, rfl, hB, hmet, HM, HN, hnm⟩ := hrel
    have hml := HM.out.len
    obtain ⟨am, cm, rfl, hlm, hmm⟩ := hmet.form
    unfold maxLen at hmm
    have hhas := ref09Has _ _ met b wr hmet
    cases hq : hasS met b with
    | true =>
      rw [hq] at hhas
      have HQ := Lib.hid hq; clear hq
      go_wp2_with (go_at_call 33; refine hhas.mono ?_; rintro e w1 ⟨rfl, rfl⟩)
      go_ret
      refine ⟨?_, hB⟩
      have h1 : b ∈ met := by have := HQ.out; simpa [hasS] using this
      obtain ⟨m, h2, h3⟩ := (HM.out.mem b).1 h1
      have h4 : m = n := by
        apply Classical.byContradiction
        intro h5
        exact HN.out m (by omega) h3
      subst h4
      rw [distI_some.2 h3]; rfl
    | false =>
      rw [hq] at hhas
      have HQ := Lib.hid hq; clear hq
      have HNL := Lib.hid (nextOf_len met)
      go_wp2_with (go_at_call 33; refine hhas.mono ?_; clear hhas; rintro e w1 ⟨rfl, rfl⟩)
      obtain ⟨wo, rfl⟩ : ∃ wo : World, wo = wr := ⟨_, rfl⟩
      go_loopw [9, 10] (fun xv i wq => ∃ k : Nat, k ≤ es.length ∧ i = .int .i64 k ∧ Ch [] wo wq ∧ SlS (fun _ => True) wq xv (nextOf (es.take k) met met)) (fun _ i _ => es.length - (intOf i).toNat)
      case atStart => exact ⟨0, Nat.zero_le _, rfl, Ch.refl _ _, hmet⟩
      case round =>
        obtain ⟨k, hk, rfl, hB2, hnx⟩ := hrel
        have hB02 := hB.trans hB2
        have hmet2 := hmet.ch0 hB2
        by_cases hlt : k < es.length
        · obtain ⟨bb, o, rfl, hp, c0, c1, c2⟩ := h.at_ hlt
          have c0 := cell_ch c0 hB02 (by simp)
          have c1 := cell_ch c1 hB02 (by simp)
          have hs := nextOf_snoc es met met k hlt
          have hnl := (HNL.out (es.take k) met).2
          rw [List.length_take] at hnl
          obtain ⟨x, hx⟩ : ∃ x, es[k] = x := ⟨_, rfl⟩
          rw [hx] at c0 c1 hs
          clear hx c2
          generalize nextOf (es.take k) met met = nx at *
          obtain ⟨an, cn, rfl, hln, hmn⟩ := hnx.form
          unfold maxLen at hmn
          have hcall1 := ref09Has _ _ met x.f wr hmet2
          have hcall2 := ref09Has _ _ nx x.t wr hnx
          cases hq1 : hasS met x.f with
          | false =>
            rw [hq1] at hcall1 hs
            have HS : Hid (nextOf (es.take (k + 1)) met met = nx) := by unfold Hid; rw [hs]; rfl
            clear hs hq1 hcall2
            go_wp2_with (go_at_call 33; refine hcall1.mono ?_; clear hcall1; rintro e w1 ⟨rfl, rfl⟩)
            go_roundw
            case rel => exact ⟨k + 1, by omega, by go_num, hB2, by rw [HS.out]; exact hnx⟩
            case measure => simp [intOf]; omega
          | true =>
            cases hq2 : hasS nx x.t with
            | true =>
              rw [hq1] at hcall1 hs
              rw [hq2] at hcall2 hs
              have HS : Hid (nextOf (es.take (k + 1)) met met = nx) := by unfold Hid; rw [hs]; rfl
              clear hs hq1 hq2
              go_wp2_with (first
                | (go_at_call 33; refine hcall1.mono ?_; clear hcall1; rintro e w1 ⟨rfl, rfl⟩)
                | (go_at_call 33; refine hcall2.mono ?_; clear hcall2; rintro e w1 ⟨rfl, rfl⟩))
              go_roundw
              case rel => exact ⟨k + 1, by omega, by go_num, hB2, by rw [HS.out]; exact hnx⟩
              case measure => simp [intOf]; omega
            | false =>
              rw [hq1] at hcall1 hs
              rw [hq2] at hcall2 hs
              have HS : Hid (nextOf (es.take (k + 1)) met met = nx ++ [x.t]) := by unfold Hid; rw [hs]; rfl
              clear hs hq1 hq2
              have hSL : ∀ wz, Ch [] wr wz → Sl (fun _ => True) wz 1 (.slice an nx.length cn) (nx.map encS) := fun wz hz => Sl.ch0 hnx hz
              have honeI : Sl (fun b => b = wr.heap.size + 1) ((wr.alloc (.cells #[] 9)).alloc (.cells #[.string x.t] 9)) 1 (.slice (some ⟨wr.heap.size + 1, 0, none⟩) 1 1) [[.string x.t]] := by
                have := Sl.one (wr.alloc (.cells #[] 9)) 1 9 [.string x.t] rfl (by simp [Value.oneCell'])
                simpa using this
              have honeJ : Sl (fun b => b = wr.heap.size) ((wr.alloc (.cells #[.string x.t] 9)).alloc (.cells #[] 9)) 1 (.slice (some ⟨wr.heap.size, 0, none⟩) 1 1) [[.string x.t]] := (Sl.one wr 1 9 [.string x.t] rfl (by simp [Value.oneCell'])).ch0 ((Ch.refl [] _).alloc _)
              have hownJ : Own ((wr.alloc (.cells #[.string x.t] 9)).alloc (.cells #[] 9)) wr.heap.size 9 1 (.slice (some ⟨wr.heap.size + 1, 0, none⟩) 0 0) [] := by
                have := Own.empty_ (wr.alloc (.cells #[.string x.t] 9)) wr.heap.size 9 1 (by simp)
                simpa using this
              have hlx : (nx.map encS).length = nx.length := by simp
              generalize hcss : nx.map encS = css at *
              have HCS := Lib.hid hcss; clear hcss
              go_wp2_with (first
                | (go_at_call 33; refine hcall1.mono ?_; clear hcall1; rintro e w1 ⟨rfl, rfl⟩)
                | (go_at_call 33; refine hcall2.mono ?_; clear hcall2; rintro e w1 ⟨rfl, rfl⟩))
              go_region_held3 (fun w' => w'.cell? ⟨bb, o + k * 3 + 1, none⟩ = some (.string x.t)) (go_keep) (first
                | (refine step_append_sl rfl _ _ _ rfl elS (base := wr.heap.size) (v := .slice (some ⟨wr.heap.size, 0, none⟩) 0 0) (css := []) rfl ((Own.empty_ wr wr.heap.size _ _ (Nat.le_refl _)).ch ((Ch.refl [] _).drew) (by simp)) rfl (hSL _ (((Ch.refl [] wr).alloc (.cells #[] 9)).drew)) (by simp; omega) (by simp <;> omega) ?_; intro v5 w5 ho5 hc5 hat5 hn5; clear hn5; have z5 : Ch [] wr w5 := (((Ch.refl [] wr).alloc (.cells #[] 9)).drew).step hc5 (by simp [Value.ownBlock]); have z0 := cell_ch c1 z5 (by simp))
                | (refine step_append_sl rfl _ _ _ rfl elS (base := wr.heap.size) (v := .slice (some ⟨wr.heap.size, 0, none⟩) 0 0) (css := []) rfl ((Own.empty_ wr wr.heap.size _ _ (Nat.le_refl _)).ch (((Ch.refl [] _).alloc (.cells #[.string x.t] 9)).drew) (by simp)) rfl (hSL _ ((((Ch.refl [] wr).alloc (.cells #[] 9)).alloc (.cells #[.string x.t] 9)).drew)) (by simp; omega) (by simp <;> omega) ?_; intro v5 w5 ho5 hc5 hat5 hn5; clear hn5; have z5 : Ch [] wr w5 := ((((Ch.refl [] wr).alloc (.cells #[] 9)).alloc (.cells #[.string x.t] 9)).drew).step hc5 (by simp [Value.ownBlock]); have hq5 := (honeI.ch0 ((Ch.refl [] _).drew)).ch hc5 (by intro b _ hb; simp [Value.ownBlock]; omega); have z0 := cell_ch c1 z5 (by simp))
                | (refine step_append_sl rfl _ _ _ rfl elS (base := wr.heap.size) (v := .slice (some ⟨wr.heap.size + 1, 0, none⟩) 0 0) (css := []) rfl (hownJ.ch ((Ch.refl [] _).drew) (by simp)) rfl (hSL _ ((((Ch.refl [] wr).alloc (.cells #[.string x.t] 9)).alloc (.cells #[] 9)).drew)) (by simp; omega) (by simp <;> omega) ?_; intro v5 w5 ho5 hc5 hat5 hn5; clear hn5; have z5 : Ch [] wr w5 := ((((Ch.refl [] wr).alloc (.cells #[.string x.t] 9)).alloc (.cells #[] 9)).drew).step hc5 (by simp [Value.ownBlock]); have hq5 := (honeJ.ch0 ((Ch.refl [] _).drew)).ch hc5 (by intro b _ hb; simp [Value.ownBlock]; omega); have z0 := cell_ch c1 z5 (by simp))
                | (refine step_append_sl rfl _ _ _ rfl elS (base := wr.heap.size) (v := v5) (css := [] ++ css) rfl (ho5.ch ((Ch.refl [] w5).alloc (.cells #[.string x.t] 9)) (by simp)) rfl (Sl.one w5 1 9 [.string x.t] rfl (by simp [Value.oneCell'])) (by simp; omega) (by have := z5.size; simp; omega) ?_; intro v7 w7 ho7 hc7 hat7 hn7; clear hn7; have z7 : Ch [] wr w7 := (z5.alloc (.cells #[.string x.t] 9)).step hc7 (by intro zz hz; right; cases hvo : v5.ownBlock with | none => rw [hvo] at hz; cases hz | some g6 => rw [hvo] at hz; simp at hz; subst hz; exact (ho5.lt hvo).1); have y0 := cell_ch c1 z7 (by simp))
                | (refine step_append_sl rfl _ _ _ rfl elS (base := wr.heap.size) (v := v5) (css := [] ++ css) rfl ho5 rfl hq5 (by simp; omega) (by have := z5.size; omega) ?_; intro v7 w7 ho7 hc7 hat7 hn7; clear hn7; have z7 : Ch [] wr w7 := z5.step hc7 (by intro zz hz; right; cases hvo : v5.ownBlock with | none => rw [hvo] at hz; cases hz | some g6 => rw [hvo] at hz; simp at hz; subst hz; exact (ho5.lt hvo).1); have y0 := cell_ch c1 z7 (by simp)))
              all_goals
                go_wp2
                go_roundw
                case rel => exact ⟨k + 1, by omega, by go_num, hB2.trans z7, by
                  rw [HS.out]
                  have := ho7.sl
                  rw [List.nil_append, ← HCS.out] at this
                  refine Sl.weak (p := fun b => wr.heap.size ≤ b ∧ v7.ownBlock = some b) ?_ (fun _ _ _ => trivial)
                  rw [List.map_append]; exact this⟩
                case measure => simp [intOf]; omega
        · have : k = es.length := by omega
          subst this
          rw [List.take_length] at hnx
          have hnl := HNL.out es met
          have HX := Lib.hid HM.out.next
          have hstop := Lib.hid (fun hl => HM.out.stop (b := b) hl (by have := HQ.out; simpa [hasS] using this))
          have hlen := HX.out.len
          have HNE : Hid (∀ m, m < n + 1 → dst es a b ≠ some m) := fun m hm hd => by
            have h1 : b ∉ met := by have := HQ.out; simpa [hasS] using this
            exact h1 ((HM.out.mem b).2 ⟨m, by omega, hd⟩)
          generalize nextOf es met met = nx at *
          obtain ⟨an, cn, rfl, hln, hmn⟩ := hnx.form
          unfold maxLen at hmn
          by_cases hl : nx.length = met.length
          · have hd : ((nx.length : Int) == (met.length : Int)) = true := by simp [hl]
            have HL := Lib.hid hl; clear hl
            go_wp2
            go_ret
            refine ⟨?_, hB02⟩
            have h1 := hstop.out HL.out
            unfold distI
            rw [h1]; rfl
          · have hd : ((nx.length : Int) == (met.length : Int)) = false := by rw [beq_eq_false_iff_ne]; omega
            go_wp2
            go_roundw
            case rel => exact ⟨n + 1, nx, by go_num, hB02, hnx, HX, HNE, by omega⟩
            case measure => simp only [lenV]; omega
end Go.Proofs.Ytbjdikeaolibpaa
