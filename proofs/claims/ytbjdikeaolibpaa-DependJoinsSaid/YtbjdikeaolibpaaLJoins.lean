/-
  law09.DependJoins: for every two descriptions the law returns true and leaves its arguments as they were. No condition.
-/
import Derived.Test.YtbjdikeaolibpaaAwake
import Derived.Test.YtbjdikeaolibpaaRefs
import Derived.Test.YtbjdikeaolibpaaSmUse
namespace Go.Proofs.Ytbjdikeaolibpaa
open Go.ChangeShapes Go.WideShapes Go.ChangeAt Go.RowKit Go.ChangeMaps

theorem fold_snoc' (o r : List ByteArray) (k : Nat) (h : k < r.length) : (r.take (k + 1)).foldl insS o = insS ((r.take k).foldl insS o) r[k] := by
  simp only [take_snoc r k h, List.foldl_append, List.foldl_cons, List.foldl_nil]
theorem fold_len : ∀ (r o : List ByteArray), (r.foldl insS o).length ≤ o.length + r.length
  | [], o => by simp
  | x :: r, o => by
    have h1 := fold_len r (insS o x)
    have h2 := insS_length o x
    simp only [List.foldl_cons, List.length_cons]; omega
theorem rels_app (l m : List Ru) : (relsOf m).foldl insS (relsOf l) = relsOf (l ++ m) := by
  refine asc_ext sLt_sto (insAll_asc' _ _ (asc_relsOf l)) (asc_relsOf _) fun x => ?_
  rw [insAll_mem', mem_relsOf, mem_relsOf, mem_relsOf]
  constructor
  · rintro (⟨h1, r, h2, h3⟩ | ⟨h1, r, h2, h3⟩)
    · exact ⟨h1, r, List.mem_append.2 (.inl h2), h3⟩
    · exact ⟨h1, r, List.mem_append.2 (.inr h2), h3⟩
  · rintro ⟨h1, r, h2, h3⟩
    rcases List.mem_append.1 h2 with h2 | h2
    · exact .inl ⟨h1, r, h2, h3⟩
    · exact .inr ⟨h1, r, h2, h3⟩
theorem heads_app (l m : List Ru) : (headsOf m).foldl insS (headsOf l) = headsOf (l ++ m) := by
  refine asc_ext sLt_sto (insAll_asc' _ _ (asc_headsOf l)) (asc_headsOf _) fun x => ?_
  rw [insAll_mem', mem_headsOf, mem_headsOf, mem_headsOf]
  constructor
  · rintro (⟨h1, r, h2, h3⟩ | ⟨h1, r, h2, h3⟩)
    · exact ⟨h1, r, List.mem_append.2 (.inl h2), h3⟩
    · exact ⟨h1, r, List.mem_append.2 (.inr h2), h3⟩
  · rintro ⟨h1, r, h2, h3⟩
    rcases List.mem_append.1 h2 with h2 | h2
    · exact .inl ⟨h1, r, h2, h3⟩
    · exact .inr ⟨h1, r, h2, h3⟩
theorem mem_edges_app (l m : List Ru) (e : Ed) : e ∈ edgesOf (l ++ m) ↔ e ∈ edgesOf l ∨ e ∈ edgesOf m := by
  rw [mem_edgesOf, mem_edgesOf, mem_edgesOf]
  constructor
  · rintro ⟨r, h2, h3⟩
    rcases List.mem_append.1 h2 with h2 | h2
    · exact .inl ⟨r, h2, h3⟩
    · exact .inr ⟨r, h2, h3⟩
  · rintro (⟨r, h2, h3⟩ | ⟨r, h2, h3⟩)
    · exact ⟨r, List.mem_append.2 (.inl h2), h3⟩
    · exact ⟨r, List.mem_append.2 (.inr h2), h3⟩
theorem ends_all (l : List Ru) (e : Ed) (h : e ∈ edgesOf l) : hasS (relsOf l) e.t = true ∧ hasS (headsOf l) e.f = true := by
  obtain ⟨r, hr, hd, x, hx, hxd, rfl⟩ := (mem_edgesOf l e).1 h
  simp only [hasS, decide_eq_true_eq]
  exact ⟨(mem_relsOf l _).2 ⟨hxd, r, hr, .inr ⟨x, hx, rfl⟩⟩, (mem_headsOf l _).2 ⟨hd, r, hr, rfl⟩⟩
theorem small_app {n : Nat} {l m : List Ru} (h1 : SmallL n l) (h2 : SmallL n m) : SmallL (n + n) (l ++ m) := by
  refine ⟨by have := h1.1; have := h2.1; simp; omega, fun r hr => ?_⟩
  rcases List.mem_append.1 hr with h | h
  · exact h1.2 r h
  · exact h2.2 r h

set_option maxRecDepth 100000 in
set_option maxHeartbeats 8000000 in
theorem lawJoins_ (p p') (v v' : Value) (l m : List Ru) (w : World) (h : SlR p w v l) (h' : SlR p' w v' m) (hN : ∀ r ∈ l, NiceR reachBytes maxLen r) (hN' : ∀ r ∈ m, NiceR reachBytes maxLen r) :
    Calls Try.prog 16 #[v, v'] w fun e w' => e = .returned (.bool true) ∧ Ch [] w w' := by
  have hS := small2 20 (by omega) p v l w h hN
  have hS' := fun wz hz => small2 20 (by omega) p' v' m wz hz hN'
  have hnmA : NmOk (l ++ m) := nm_of fun r hr => by
    rcases List.mem_append.1 hr with h1 | h1
    · exact hN r h1
    · exact hN' r h1
  have HNM := Lib.hid (nm_of hN); have HNM' := Lib.hid (nm_of hN')
  have HNA := Lib.hid hnmA; clear hnmA hN hN'
  obtain ⟨a, c, rfl, hlc, hm⟩ := h.form
  obtain ⟨a', c', rfl, hlc', hm'⟩ := h'.form
  unfold maxLen at hm hm'
  obtain ⟨css1, hsl1, hrow1⟩ := h.row
  obtain ⟨css2, hsl2, hrow2⟩ := h'.row
  have hl1 := hrow1.1
  have hl2 := hrow2.1
  have HR1 := Lib.hid hrow1
  have HR2 := Lib.hid hrow2
  have hra := fun wz hz hf => depRelations p (.slice a l.length c) l wz hz hf HNM.out
  have hrb := fun wz hz hf => depRelations p' (.slice a' m.length c') m wz hz hf HNM'.out
  have hha := fun wz hz hf => depHeads p (.slice a l.length c) l wz hz hf HNM.out
  have hhb := fun wz hz hf => depHeads p' (.slice a' m.length c') m wz hz hf HNM'.out
  clear hrow1 hrow2
  go_enter Try.func16, Try.ntmps16
  go_wp2_with (first
    | (go_at_call 17; refine hS.mono ?_; rintro e w1 (⟨rfl, hB⟩ | ⟨rfl, HF, hB⟩); all_goals clear hS)
    | (go_at_call 17; refine (hS' _ (h'.ch0 hB)).mono ?_; rintro e w2 (⟨rfl, hB2⟩ | ⟨rfl, HF', hB2⟩); all_goals (replace hB := hB.trans hB2; clear hB2 hS'))
    | (go_at_call 36; refine (law09awake _).mono ?_; rintro e w11 ⟨rfl, hc⟩; replace hB := hB.trans hc; clear hc)
    | (at_builtin; refine wpList_append_sl rfl (.tmp 26) (.tmp 27) _ rfl elR (base := w2.heap.size) (v := .slice (some ⟨w2.heap.size, 0, none⟩) 0 0) (css := []) rfl (Own.empty_ w2 w2.heap.size _ _ (Nat.le_refl _)) rfl ((hsl1.ch0 hB).ch0 ((Ch.refl [] w2).alloc _)) (by have := HF.out.1; simp; omega) (by simp) ?_; intro v5 w5 ho5 hc5 hat5 hn5; clear hn5; have hB5 : Ch [] w2 w5 := ((Ch.refl [] w2).alloc (.cells #[] 55)).step hc5 (fun y hy => (by simp [Value.ownBlock] at hy; subst hy; exact .inr (Nat.le_refl _))))
    | (at_builtin; refine wpList_append_sl rfl (.tmp 28) (.tmp 29) _ rfl elR (base := w2.heap.size) (v := v5) (css := [] ++ css1) rfl ho5 rfl ((hsl2.ch0 hB).ch0 hB5) (by have := HF.out.1; have := HF'.out.1; simp; omega) (by have := hB5.size; omega) ?_; intro v6 w6 ho6 hc6 hat6 hn6; clear hn6; have hB6 : Ch [] w2 w6 := hB5.step hc6 (fun y hy => .inr (by
        cases hub : v5.ownBlock with
        | none => rw [hub] at hy; cases hy
        | some g => rw [hub] at hy; simp at hy; subst hy; exact (ho5.lt hub).1)); replace hB := hB.trans hB6; have hBw6 := hB; clear hc5 hc6 hat5 hat6 hB5 hB6)
    | (go_at_call 37; refine (hra _ (h.ch0 hB) (fit_of HF.out (by omega))).mono ?_; clear hra; rintro e w7 ⟨v7, rfl, h7, hc⟩; have hB67 := hc; replace hB := hB.trans hc; clear hc)
    | (go_at_call 39; refine (hha _ (h.ch0 hB) (fit_of HF.out (by omega))).mono ?_; clear hha; rintro e w8 ⟨v8, rfl, h8, hc⟩; replace h7 := h7.ch0 hc; replace hB67 := hB67.trans hc; replace hB := hB.trans hc; clear hc)
    | (go_at_call 37; refine (hrb _ (h'.ch0 hB) (fit_of HF'.out (by omega))).mono ?_; clear hrb; rintro e w9 ⟨v9, rfl, h9, hc⟩; replace h7 := h7.ch0 hc; replace h8 := h8.ch0 hc; replace hB67 := hB67.trans hc; replace hB := hB.trans hc; clear hc; obtain ⟨a9, c9, rfl, hl9, hm9⟩ := h9.form)
    | (go_at_call 39; refine (hhb _ (h'.ch0 hB) (fit_of HF'.out (by omega))).mono ?_; clear hhb; rintro e w10 ⟨v10, rfl, h10, hc⟩; replace h7 := h7.ch0 hc; replace h8 := h8.ch0 hc; replace h9 := h9.ch0 hc; replace hB67 := hB67.trans hc; replace hB := hB.trans hc; clear hc; obtain ⟨a10, c10, rfl, hl10, hm10⟩ := h10.form))
  all_goals first
    | (go_ret
       exact ⟨rfl, hB⟩)
    | skip
  have hfl := fit_of HF.out (by omega)
  have hfm := fit_of HF'.out (by omega)
  have hfa : Fit (l ++ m) := fit_of (small_app HF.out HF'.out) (by omega)
  have hnl := relsOf_len hfl
  have hnm := relsOf_len hfm
  have hhl := hfl.heads l.length
  have hhm := hfm.heads m.length
  rw [List.take_length] at hhl hhm
  have hel := edgesOf_len hfl l.length
  have hem := edgesOf_len hfm m.length
  have hea := edgesOf_len hfa (l ++ m).length
  rw [List.take_length] at hel hem hea
  have HRA := Lib.hid (rels_app l m)
  have HHA := Lib.hid (heads_app l m)
  have HME := Lib.hid (mem_edges_app l m)
  have HEA := Lib.hid (ends_all (l ++ m))
  have hall0 : SlR (fun _ => True) w6 v6 (l ++ m) := RowR.sl ((HR1.out.ch0 hBw6).app (HR2.out.ch0 hBw6)) (by simpa using ho6)
  have hall := hall0.ch0 hB67
  clear hall0 ho6 HR1 HR2 hl1 hl2 hsl1 hsl2 hBw6 hB67
  have HFA := Lib.hid hfa
  have HFL := Lib.hid hfl
  have HFM := Lib.hid hfm
  clear hfa hfl hfm
  obtain ⟨N, hN⟩ : ∃ N, N = relsOf l := ⟨_, rfl⟩
  obtain ⟨M, hM⟩ : ∃ M, M = relsOf m := ⟨_, rfl⟩
  obtain ⟨K, hK⟩ : ∃ K, K = headsOf l := ⟨_, rfl⟩
  obtain ⟨O, hO⟩ : ∃ O, O = headsOf m := ⟨_, rfl⟩
  rw [← hN] at h7 hnl HRA
  rw [← hM] at h9 hnm HRA ⊢
  rw [← hK] at h8 hhl HHA
  rw [← hO] at h10 hhm HHA ⊢
  clear hN hM hK hO
  unfold maxLen at hm9 hm10
  go_loopw [6, 10] (fun nv i wq => ∃ k : Nat, k ≤ M.length ∧ i = .int .i64 k ∧ Ch [] w10 wq ∧ SlS (fun _ => True) wq nv ((M.take k).foldl insS N)) (fun _ i _ => M.length - (intOf i).toNat)
  case atStart => exact ⟨0, Nat.zero_le _, rfl, Ch.refl _ _, h7.weak (fun _ _ _ => trivial)⟩
  case round =>
    obtain ⟨k, hk, rfl, hB1, hn1⟩ := hrel
    by_cases hlt : k < M.length
    · obtain ⟨b, o, rfl, hp, c0⟩ := h9.at_ hlt
      have c0 := cell_ch c0 hB1 (by simp)
      have HS := Lib.hid (fold_snoc' N M k hlt)
      have hfl := fold_len (M.take k) N
      rw [List.length_take] at hfl
      generalize (M.take k).foldl insS N = n0 at *
      go_wp2_with (go_at_call 49; refine (ref09Insert _ _ _ _ _ hn1 (by omega)).mono ?_; rintro e w12 ⟨v12, rfl, hv, hc⟩)
      go_roundw
      case rel => exact ⟨k + 1, by omega, by go_num, hB1.trans hc, by rw [HS.out]; exact hv.weak (fun _ _ _ => trivial)⟩
      case measure => simp [intOf]; omega
    · have : k = M.length := by omega
      subst this
      rw [List.take_length, HRA.out] at hn1
      have hBa := hB.trans hB1
      have h8a := h8.ch0 hB1
      have h10a := h10.ch0 hB1
      have halla := hall.ch0 hB1
      clear h7 h8 h9 h10 hall
      obtain ⟨wo, hwo⟩ : ∃ wo : World, wo = wr := ⟨_, rfl⟩
      go_wp2
      go_loopw [7, 11] (fun nv i wq => ∃ k : Nat, k ≤ O.length ∧ i = .int .i64 k ∧ Ch [] wo wq ∧ SlS (fun _ => True) wq nv ((O.take k).foldl insS K)) (fun _ i _ => O.length - (intOf i).toNat)
      case atStart => exact ⟨0, Nat.zero_le _, rfl, by rw [hwo]; exact Ch.refl _ _, h8a.weak (fun _ _ _ => trivial)⟩
      case round =>
        obtain ⟨k, hk, rfl, hB2, hn2⟩ := hrel
        subst hwo
        by_cases hlt2 : k < O.length
        · obtain ⟨b, o, rfl, hp, c0⟩ := h10a.at_ hlt2
          have c0 := cell_ch c0 hB2 (by simp)
          have HS := Lib.hid (fold_snoc' K O k hlt2)
          have hfl := fold_len (O.take k) K
          rw [List.length_take] at hfl
          generalize (O.take k).foldl insS K = n0 at *
          go_wp2_with (go_at_call 49; refine (ref09Insert _ _ _ _ _ hn2 (by omega)).mono ?_; rintro e w12 ⟨v12, rfl, hv, hc⟩)
          go_roundw
          case rel => exact ⟨k + 1, by omega, by go_num, hB2.trans hc, by rw [HS.out]; exact hv.weak (fun _ _ _ => trivial)⟩
          case measure => simp [intOf]; omega
        · have : k = O.length := by omega
          subst this
          rw [List.take_length, HHA.out] at hn2
          have hBb := hBa.trans hB2
          have hnm1 := hn1.ch0 hB2
          have hallb := halla.ch0 hB2
          clear h8a h10a halla hn1
          generalize hRR : relsOf (l ++ m) = RR at *
          generalize hKK : headsOf (l ++ m) = KK at *
          have HRR := Lib.hid hRR; clear hRR
          have HKK := Lib.hid hKK; clear hKK
          have heall := fun wz hz => depEdges (fun _ => True) v6 (l ++ m) wz hz HFA.out
          have heal := fun wz hz => depEdges p (.slice a l.length c) l wz hz HFL.out
          have hebm := fun wz hz => depEdges p' (.slice a' m.length c') m wz hz HFM.out
          go_wp2_with (first
            | (go_at_call 42; refine (heall _ hallb).mono ?_; clear heall; rintro e w13 ⟨v13, rfl, h13, hc⟩; replace hBb := hBb.trans hc; replace hnm1 := hnm1.ch0 hc; replace hn2 := hn2.ch0 hc; replace hallb := hallb.ch0 hc; clear hc)
            | (go_at_call 42; refine (heal _ (h.ch0 hBb)).mono ?_; clear heal; rintro e w14 ⟨v14, rfl, h14, hc⟩; replace hBb := hBb.trans hc; replace hnm1 := hnm1.ch0 hc; replace hn2 := hn2.ch0 hc; replace hallb := hallb.ch0 hc; replace h13 := h13.ch0 hc; clear hc)
            | (go_at_call 42; refine (hebm _ (h'.ch0 hBb)).mono ?_; clear hebm; rintro e w15 ⟨v15, rfl, h15, hc⟩; replace hBb := hBb.trans hc; replace hnm1 := hnm1.ch0 hc; replace hn2 := hn2.ch0 hc; replace hallb := hallb.ch0 hc; replace h13 := h13.ch0 hc; replace h14 := h14.ch0 hc; clear hc; obtain ⟨a13, c13, rfl, hl13, hm13⟩ := h13.form; obtain ⟨a14, c14, rfl, hl14, hm14⟩ := h14.form; obtain ⟨a15, c15, rfl, hl15, hm15⟩ := h15.form))
          have HXY : Hid (∀ e ∈ edgesOf (l ++ m), hasE (edgesOf l) e = false → hasE (edgesOf m) e = true) := fun e he hf => by
            simp only [hasE, decide_eq_false_iff_not, decide_eq_true_eq] at hf ⊢
            exact ((HME.out e).1 he).resolve_left hf
          have HXE : Hid (∀ e ∈ edgesOf l, hasE (edgesOf (l ++ m)) e = true) := fun e he => by
            simp only [hasE, decide_eq_true_eq]
            exact (HME.out e).2 (.inl he)
          have HYE : Hid (∀ e ∈ edgesOf m, hasE (edgesOf (l ++ m)) e = true) := fun e he => by
            simp only [hasE, decide_eq_true_eq]
            exact (HME.out e).2 (.inr he)
          have HE12 : Hid (∀ e ∈ edgesOf (l ++ m), hasS RR e.t = true ∧ hasS KK e.f = true) := fun e he => HEA.out e he
          clear HME HEA
          generalize edgesOf (l ++ m) = E at *
          generalize edgesOf l = X at *
          generalize edgesOf m = Y at *
          unfold maxLen at hm13 hm14 hm15
          obtain ⟨wp, hwp⟩ : ∃ wp : World, wp = w15 := ⟨_, rfl⟩
          have hBp : Ch [] wp w15 := by rw [hwp]; exact Ch.refl _ _
          rw [← hwp] at hBb hnm1 hn2 hallb h13 h14 h15
          clear hwp
          go_loopw [15] (fun i wq => ∃ k : Nat, k ≤ E.length ∧ i = .int .i64 k ∧ Ch [] wp wq) (fun i _ => E.length - (intOf i).toNat)
          case atStart => exact ⟨0, Nat.zero_le _, rfl, hBp⟩
          case round =>
            obtain ⟨k, hk, rfl, hB3⟩ := hrel
            by_cases hlt3 : k < E.length
            · obtain ⟨b3, o3, rfl, hp3, c0, c1', c2⟩ := h13.at_ hlt3
              have hmem := List.getElem_mem hlt3
              have hxy := HXY.out _ hmem
              obtain ⟨he1, he2⟩ := HE12.out _ hmem
              obtain ⟨x, hx⟩ : ∃ x, E[k] = x := ⟨_, rfl⟩
              rw [hx] at c0 c1' c2 hxy he1 he2
              clear hx hmem
              have d0 := cell_ch c0 hB3 (by simp)
              have d1 := cell_ch c1' hB3 (by simp)
              have d2 := cell_ch c2 hB3 (by simp)
              have hca := fun wz (hz : Ch [] wp wz) => law09has _ _ X x wz (h14.ch0 hz)
              have hcb := fun wz (hz : Ch [] wp wz) => law09has _ _ Y x wz (h15.ch0 hz)
              have hct := fun wz (hz : Ch [] wp wz) => ref09Has _ _ RR x.t wz (hnm1.ch0 hz)
              have hcf := fun wz (hz : Ch [] wp wz) => ref09Has _ _ KK x.f wz (hn2.ch0 hz)
              rw [he1] at hct
              rw [he2] at hcf
              cases hxx : hasE X x with
              | true =>
                rw [hxx] at hca
                clear hxy hxx he1 he2 hcb
                go_wp2_with (first
                  | (go_at_call 52; refine (hca _ hB3).mono ?_; rintro e w16 ⟨rfl, hc⟩; have hB3 := hB3.trans hc; have d0 := cell_ch d0 hc (by simp); have d1 := cell_ch d1 hc (by simp))
                  | (go_at_call_of 33 x.t; refine (hct _ hB3).mono ?_; rintro e w17 ⟨rfl, rfl⟩)
                  | (go_at_call_of 33 x.f; refine (hcf _ hB3).mono ?_; rintro e w18 ⟨rfl, rfl⟩))
                go_roundw
                case rel => exact ⟨k + 1, by omega, by go_num, hB3⟩
                case measure => simp [intOf]; omega
              | false =>
                rw [hxx] at hca
                have hyy := hxy hxx
                simp only [hyy] at hcb
                clear hxy hxx he1 he2 hyy
                go_wp2_with (first
                  | (go_at_call_of 52 (Value.slice a14 X.length c14); refine (hca _ hB3).mono ?_; rintro e w16 ⟨rfl, hc⟩; have hB3 := hB3.trans hc; have d0 := cell_ch d0 hc (by simp); have d1 := cell_ch d1 hc (by simp); have d2 := cell_ch d2 hc (by simp))
                  | (go_at_call_of 52 (Value.slice a15 Y.length c15); refine (hcb _ hB3).mono ?_; rintro e w16 ⟨rfl, hc⟩; have hB3 := hB3.trans hc; have d0 := cell_ch d0 hc (by simp); have d1 := cell_ch d1 hc (by simp))
                  | (go_at_call_of 33 x.t; refine (hct _ hB3).mono ?_; rintro e w17 ⟨rfl, rfl⟩)
                  | (go_at_call_of 33 x.f; refine (hcf _ hB3).mono ?_; rintro e w18 ⟨rfl, rfl⟩))
                go_roundw
                case rel => exact ⟨k + 1, by omega, by go_num, hB3⟩
                case measure => simp [intOf]; omega
            · have : k = E.length := by omega
              subst this
              obtain ⟨wq, hwq⟩ : ∃ wq : World, wq = wr := ⟨_, rfl⟩
              go_wp2
              go_loopw [16] (fun i wz => ∃ k : Nat, k ≤ X.length + Y.length ∧ i = .int .i64 k ∧ Ch [] wp wz) (fun i _ => X.length + Y.length - (intOf i).toNat)
              case atStart => exact ⟨0, Nat.zero_le _, rfl, hB3⟩
              case round =>
                obtain ⟨k, hk, rfl, hB4⟩ := hrel
                clear hwq
                by_cases hlt4 : k < X.length + Y.length
                · have hce := fun e wz (hz : Ch [] wp wz) => law09has _ _ E e wz (h13.ch0 hz)
                  by_cases hkx : k < X.length
                  · obtain ⟨b4, o4, rfl, hp4, c0, c1', c2⟩ := h14.at_ hkx
                    have hmem := HXE.out _ (List.getElem_mem hkx)
                    have hce2 := hce X[k]
                    rw [hmem] at hce2
                    obtain ⟨x, hx⟩ : ∃ x, X[k] = x := ⟨_, rfl⟩
                    rw [hx] at c0 c1' c2 hce2
                    clear hx hmem hce
                    have d0 := cell_ch c0 hB4 (by simp)
                    have d1 := cell_ch c1' hB4 (by simp)
                    have d2 := cell_ch c2 hB4 (by simp)
                    have hd1 : decide ((X.length : Int) ≤ (k : Int)) = false := by simp; omega
                    go_wp2_with (go_at_call 52; refine (hce2 _ hB4).mono ?_; rintro e w16 ⟨rfl, hc⟩)
                    go_roundw
                    case rel => exact ⟨k + 1, by omega, by go_num, hB4.trans hc⟩
                    case measure => simp [intOf]; omega
                  · obtain ⟨d, rfl⟩ : ∃ d, k = X.length + d := ⟨k - X.length, by omega⟩
                    have hdy : d < Y.length := by omega
                    obtain ⟨b4, o4, rfl, hp4, c0, c1', c2⟩ := h15.at_ hdy
                    have hmem := HYE.out _ (List.getElem_mem hdy)
                    have hce2 := hce Y[d]
                    rw [hmem] at hce2
                    obtain ⟨x, hx⟩ : ∃ x, Y[d] = x := ⟨_, rfl⟩
                    rw [hx] at c0 c1' c2 hce2
                    clear hx hmem hce
                    have d0 := cell_ch c0 hB4 (by simp)
                    have d1 := cell_ch c1' hB4 (by simp)
                    have d2 := cell_ch c2 hB4 (by simp)
                    have hw1 : IntKind.i64.wrap (((X.length + d : Nat) : Int) - (X.length : Int)) = (d : Int) := by simp [IntKind.wrap, IntKind.signed, IntKind.bits]; omega
                    have hw2 : IntKind.i64.wrap ((X.length : Int) + (d : Int) - (X.length : Int)) = (d : Int) := by simp [IntKind.wrap, IntKind.signed, IntKind.bits]; omega
                    go_wp2_with (go_at_call 52; refine (hce2 _ hB4).mono ?_; rintro e w16 ⟨rfl, hc⟩)
                    go_roundw
                    case rel => exact ⟨X.length + d + 1, by omega, by go_num, hB4.trans hc⟩
                    case measure => simp [intOf]; omega
                · have hBz := hBb.trans hB4
                  have hnm2 := hnm1.ch0 hB4
                  have hn3 := hn2.ch0 hB4
                  have hall4 := hallb.ch0 hB4
                  have hRa := fun wz hz => depRelations (fun _ => True) v6 (l ++ m) wz hz HFA.out HNA.out
                  have hHa := fun wz hz => depHeads (fun _ => True) v6 (l ++ m) wz hz HFA.out HNA.out
                  rw [HRR.out] at hRa
                  rw [HKK.out] at hHa
                  go_wp2_with (first
                    | (go_at_call 37; refine (hRa _ hall4).mono ?_; clear hRa; rintro e w20 ⟨v20, rfl, h20, hc⟩; replace hBz := hBz.trans hc; replace hnm2 := hnm2.ch0 hc; replace hn3 := hn3.ch0 hc; replace hall4 := hall4.ch0 hc; clear hc)
                    | (go_at_call 27; refine (stringsSame _ _ _ _ _ _ h20 hnm2).mono ?_; rintro e w21 ⟨rfl, hc⟩; clear h20 hnm2; replace hBz := hBz.trans hc; replace hn3 := hn3.ch0 hc; replace hall4 := hall4.ch0 hc; clear hc)
                    | (go_at_call 39; refine (hHa _ hall4).mono ?_; clear hHa; rintro e w22 ⟨v22, rfl, h22, hc⟩; replace hBz := hBz.trans hc; replace hn3 := hn3.ch0 hc; clear hc)
                    | (go_at_call 27; refine (stringsSame _ _ _ _ _ _ h22 hn3).mono ?_; rintro e w23 ⟨rfl, hc⟩; replace hBz := hBz.trans hc; clear hc)
                    | (go_at_call 36; refine (law09awake _).mono ?_; rintro e w24 ⟨rfl, hc⟩; replace hBz := hBz.trans hc; clear hc))
                  go_ret
                  exact ⟨rfl, hBz⟩

set_option maxRecDepth 100000 in
theorem dependJoins_lifted (os : Os) (started : os.Started) (H : Type) (enc : TypeId × Value → H) :
    ReturnsInHanded {} Try.checked os 16 .any (Rows.dependJoinsSpec.pre6 enc Try.prog Try.f16 Rows.dependJoinsRow.domain false) (Rows.dependJoinsSpec.post enc Try.prog Try.f16 false true false false) := by
  refine returnsInHanded_of_change_sized (C := Try.checked) own started (by kernel_rfl) Try.func16
    (ChangeSpec.witness6 (enc := enc) (C := Try.checked) false ⟨#[], #[.slice none 0 0, .slice none 0 0], []⟩ 8 (by kernel_rfl) (by kernel_rfl) (by kernel_rfl) (by kernel_rfl)) ?_
  intro W base args ds gs before hval0 hW hcnd hsz _
  have hval : ∀ (j : Nat) t v, Try.f16.params[j]? = some t → args[j]? = some v → Value.okWide Try.prog W .any base t v := hval0
  have hW' := hW
  obtain ⟨p, q, hA0, hV, rfl, hfz, hnd⟩ := hW
  have hA : DataW.TrodAll enc Try.prog W 0 (fun _ => true) true Try.f16.params.toList args.toList ds p := hA0
  rw [Try.params16] at hA hval hsz
  obtain ⟨v0, vs0, d0, ds0, p0, q0, hargs, rfl, rfl, h0, r0⟩ := trodAll_cons hA
  obtain ⟨v1, vs1, d1, ds1, p1, q1, rfl, rfl, rfl, h1, r1⟩ := trodAll_cons r0
  obtain ⟨rfl, rfl, rfl⟩ := trodAll_nil r1
  obtain rfl : args = #[v0, v1] := by cases args; simp_all
  obtain ⟨rfl, rfl⟩ := trodVars_none hV
  have h0k := h0
  obtain ⟨x0, y0, z0⟩ := open_R (hval 0 22 v0 rfl rfl) h0 (wok_of (j := 0) hsz rfl rfl)
  have h1k := h1
  obtain ⟨x1, y1, z1⟩ := open_R (hval 1 22 v1 rfl rfl) h1 (wok_of (j := 1) hsz rfl rfl)
  clear hA0 hval0
  simp only [List.append_nil] at hW'
  refine (lawJoins_ _ _ v0 v1 x0 x1 W y0 y1 z0 z1).mono fun e W' ⟨he, hc⟩ => ?_
  subst he
  have hb : Below W.heap.size W W' := hc.below
  refine ⟨_, rfl, post_of_below (pa := p0 ++ p1) (pv := []) hW' (fun _ _ _ => (trodAll_cons_mk (shut_bool Try.underlying4 _) trodAll_mk0)) (fun sp hsp => ?_) (fun _ _ => rfl) (by simp) hb (ok_one (by kernel_rfl) rfl (okWide_bool_mk Try.underlying4 _))⟩
  have hlt := fun x hx => hW'.lt (p := x) hx
  have := trodAll_cons_mk (arg_later (sp := sp) (by kernel_rfl) (of_decide_eq_true (by kernel_rfl)) h0k hb (fun x hx => hlt x (by simp [hx])) (fun x hx => hsp x (by simp [hx]))) (trodAll_cons_mk (arg_later (sp := sp) (by kernel_rfl) (of_decide_eq_true (by kernel_rfl)) h1k hb (fun x hx => hlt x (by simp [hx])) (fun x hx => hsp x (by simp [hx]))) trodAll_mk0)
  simp only [List.append_nil] at this
  exact this

theorem dependJoins_over : Rows.dependJoinsRow.holds Try.pinned (OpenSpec.ofChange Rows.dependJoinsSpec) :=
  OpenClaim.holds_of_wide 16 Try.f16 rfl rfl rfl rfl rfl rfl rfl ⟨rfl, rfl, rfl, rfl, rfl⟩ rfl rfl rfl rfl rfl (by kernel_rfl) Try.func16 (by kernel_rfl)
    (of_decide_eq_true (by kernel_rfl)) (by unfold Func.isWrapper; first | (rw [if_pos (by decide +kernel)]; kernel_rfl) | (rw [if_neg (by decide +kernel)]; exact ⟨rfl, rfl⟩))
    (fun os started H enc _ => dependJoins_lifted os started H enc)

theorem dependJoins_holds : Rows.DependJoinsSaid := dependJoins_over
end Go.Proofs.Ytbjdikeaolibpaa
