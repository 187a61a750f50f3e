/-
  law10.StrataCycle: for every description the law returns true and leaves its argument as it was. No condition.
-/
import Derived.Test.YtbjdikeaolibpaaSgAwake
import Derived.Test.YtbjdikeaolibpaaSmUse
import Derived.Test.YtbjdikeaolibpaaOpenL
import Derived.Test.YtbjdikeaolibpaaRefEdges
namespace Go.Proofs.Ytbjdikeaolibpaa
open Go.ChangeShapes Go.WideShapes Go.ChangeAt Go.RowKit Go.ChangeMaps

theorem cyc_facts {es : List Ed} (hno : ¬ ∃ f, Strat es f) : ∃ C, cycOf es = C ∧ 0 < C.length ∧ C.length ≤ es.length + 1 ∧ (∀ i (hi : i < C.length), hasS (C.take i) C[i] = false) ∧
    ∀ i r (hi : i < C.length) (hr : r < C.length), r = (i + 1) % C.length → joinedB es C[i] C[r] (decide (i = 0)) = true := by
  obtain ⟨x, hok, hcy⟩ := cyc_some hno
  have hwl := way_len hok
  refine ⟨_, hcy, ?_, ?_, fun i hi => way_diff hok i hi, fun i r hi hr e => ?_⟩
  · obtain ⟨_, _, h3, _⟩ := hok
    omega
  · obtain ⟨_, _, h3, h4⟩ := hok
    have := dst_le h4
    omega
  · subst e
    exact way_joined (fun e he => he) hok i hi hr

set_option maxRecDepth 100000 in
set_option maxHeartbeats 4000000 in
theorem lawSCycle_ (p) (v : Value) (l : List Ru) (w : World) (h : SlR p w v l) (hN : ∀ r ∈ l, NiceR reachBytes maxLen r) :
    Calls Try.prog 8 #[v] w fun e w' => e = .returned (.bool true) ∧ Ch [] w w' := by
  have hS2 := small2 20 (by omega) p v l w h hN
  have hnm := nm_of hN
  have HNM := Lib.hid hnm; clear hnm hN
  obtain ⟨a, c, rfl, hlc, hm⟩ := h.form
  unfold maxLen at hm
  go_enter Try.func8, Try.ntmps8
  go_wp2_with (first
    | (go_at_call 17; refine hS2.mono ?_; rintro e w1 (⟨rfl, hB⟩ | ⟨rfl, HF0, hB⟩); all_goals clear hS2)
    | (go_at_call 19; refine (strataLevels p _ l _ (h.ch0 hB) (fit_of HF0.out (by omega)) HNM.out).mono ?_; rintro e w2 ⟨v2, n2, o, rfl, ha2, hr2, hc⟩; have HA2 := Lib.hid ha2; replace hB := hB.trans hc; clear hc ha2; rcases o with _ | lv; all_goals (obtain ⟨h2, rfl⟩ := hr2); all_goals (clear h2))
    | (go_at_call 28; refine (strataCycle p _ l _ (h.ch0 hB) (fit_of HF0.out (by omega))).mono ?_; rintro e w3 ⟨v3, rfl, h3, hc⟩; replace hB := hB.trans hc; clear hc; have HC3 := Lib.hid h3; clear h3; obtain ⟨a3, c3, rfl, hl3, hm3⟩ := HC3.out.form; clear hl3 hm3)
    | (go_at_call 32; refine (ref09Edges p _ l _ (h.ch0 hB) (fit_of HF0.out (by omega))).mono ?_; rintro e w4 ⟨v4, rfl, h4, hc⟩; replace hB := hB.trans hc; have HC4 := Lib.hid (HC3.out.ch0 hc); clear hc HC3)
    | (go_at_call 18; refine (law10awake _).mono ?_; rintro e w11 ⟨rfl, hc⟩; replace hB := hB.trans hc; clear hc))
  all_goals first
    | (go_ret
       exact ⟨rfl, hB⟩)
    | (exfalso
       obtain ⟨f, hf, _⟩ := HA2.out.form
       exact absurd (cyc_none ⟨f, hf⟩) (by assumption))
    | skip
  have hno : ¬ ∃ f, Strat (edgesOf l) f := by
    rcases HA2.out with ⟨f, _, _, e⟩ | ⟨h1, _⟩
    · cases e
    · exact h1
  obtain ⟨C, hcy, hpos, hdle, hdi0, hjo0⟩ := cyc_facts hno
  have hel := edgesOf_len (fit_of HF0.out (by omega)) l.length
  rw [List.take_length] at hel
  have HDI := Lib.hid hdi0
  have HJO := Lib.hid hjo0
  have hC4 := HC4.out
  rw [hcy] at hC4 ⊢
  clear HC4 hno hcy hdi0 hjo0
  generalize edgesOf l = es at *
  obtain ⟨a4, c4, rfl, hl4, hm4⟩ := h4.form
  unfold maxLen at hm4
  go_loopw [7] (fun i wr => ∃ k : Nat, k ≤ C.length ∧ i = .int .i64 k ∧ Ch [] w4 wr) (fun i _ => C.length - (intOf i).toNat)
  case atStart => exact ⟨0, Nat.zero_le _, rfl, Ch.refl _ _⟩
  case round =>
    obtain ⟨k, hk, rfl, hB5⟩ := hrel
    have hcap : C.length ≤ c3 := by
      obtain ⟨_, _, e, h1, _⟩ := SlS.form hC4
      injection e with _ _ e
      omega
    by_cases hlt : k < C.length
    · have hkc : k ≤ c3 := by omega
      obtain ⟨r, hr⟩ : ∃ r, r = (k + 1) % C.length := ⟨_, rfl⟩
      have hrlt : r < C.length := by rw [hr]; exact Nat.mod_lt _ (by omega)
      have hdi := HDI.out k hlt
      have hjo := HJO.out k r hlt hrlt hr
      obtain ⟨b, o, e3, hp, c0⟩ := SlS.at_ hC4 hlt
      subst e3
      obtain ⟨b', o', e3, hp', d0⟩ := SlS.at_ hC4 hrlt
      injection e3 with e3
      injection e3 with e31 e32
      subst e31 e32
      have htk := (SlS.take hC4 (m := k) (by omega))
      have c0 := Later.cell (cell_ch c0 hB5 (by simp))
      have d0 := cell_ch d0 hB5 (by simp)
      have hcallH := fun y : Later wr => later_call (x := y) ((ref09Has _ _ (C.take k) C[k] y.w (htk.ch0 (hB5.trans y.ch))).mono fun e w' hh => ⟨hh.1, by rw [← hh.2]; exact Ch.refl _ _⟩)
      have hcallJ := fun (y : Later wr) => later_call (x := y) ((law10joined _ _ es C[k] C[r] (decide (k = 0)) y.w (h4.ch0 (hB5.trans y.ch))).mono fun e w' hh => ⟨hh.1, by rw [← hh.2]; exact Ch.refl _ _⟩)
      rw [hdi] at hcallH
      rw [hjo] at hcallJ
      have hrl2 : (k + 1) % C.length < C.length := by rw [← hr]; exact hrlt
      clear hdi hjo
      generalize C[k] = y at *
      generalize C[r] = z at *
      rw [hr] at d0
      clear hr hrlt hp'
      rcases Nat.eq_zero_or_pos k with rfl | hkp
      · simp only [Nat.zero_add, decide_true] at d0 hrl2 hcallJ
        simp only [Nat.add_zero] at c0
        have hri : (1 : Int) % (C.length : Int) < (C.length : Int) := by exact_mod_cast hrl2
        have hri0 : 0 ≤ (1 : Int) % (C.length : Int) := Int.emod_nonneg _ (by omega)
        have d0L := Later.cell d0
        go_wp2
        refine wp_region_later (by kernel_rfl) (lexB_of (by kernel_rfl)) ?_
        repeat (go_big_quiet_step (first | (go_at_call 33; exact hcallH _) | (go_at_call 34; exact hcallJ _)))
        refine wpQuiet_nil ?_
        intro w7 hw7
        go_wp2
        go_roundw
        case rel => exact ⟨1, by omega, by go_num, hB5.trans hw7⟩
        case measure => simp [intOf]; omega
      · rw [show decide (k = 0) = false from by simp; omega] at hcallJ
        have hk0 : ((k : Int) == 0) = false := by simp; omega
        have hk1 : ¬ k = 0 := by omega
        have hri : ((k : Int) + 1) % (C.length : Int) < (C.length : Int) := by exact_mod_cast hrl2
        have hri0 : 0 ≤ ((k : Int) + 1) % (C.length : Int) := Int.emod_nonneg _ (by omega)
        have d0L := Later.cell d0
        go_wp2
        refine wp_region_later (by kernel_rfl) (lexB_of (by kernel_rfl)) ?_
        repeat (go_big_quiet_step (first | (go_at_call 33; exact hcallH _) | (go_at_call 34; exact hcallJ _)))
        refine wpQuiet_nil ?_
        intro w7 hw7
        go_wp2
        go_roundw
        case rel => exact ⟨k + 1, by omega, by go_num, hB5.trans hw7⟩
        case measure => simp [intOf]; omega
    · have hB45 := hB.trans hB5
      go_wp2_with (go_at_call 18; refine (law10awake _).mono ?_; rintro e w11 ⟨rfl, hc⟩)
      go_ret
      exact ⟨rfl, hB45.trans hc⟩

set_option maxRecDepth 100000 in
theorem strataCycles1_lifted (os : Os) (started : os.Started) (H : Type) (enc : TypeId × Value → H) :
    ReturnsInHanded {} Try.checked os 8 .any (Rows.strataCycleSpec.pre6 enc Try.prog Try.f8 Rows.strataCycleRow.domain false) (Rows.strataCycleSpec.post enc Try.prog Try.f8 false true false false) := by
  refine returnsInHanded_of_change_sized (C := Try.checked) own started (by kernel_rfl) Try.func8
    (ChangeSpec.witness6 (enc := enc) (C := Try.checked) false ⟨#[], #[.slice none 0 0], []⟩ 8 (by kernel_rfl) (by kernel_rfl) (by kernel_rfl) (by kernel_rfl)) ?_
  intro W base args ds gs before hval0 hW hcnd hsz _
  have hval : ∀ (j : Nat) t v, Try.f8.params[j]? = some t → args[j]? = some v → Value.okWide Try.prog W .any base t v := hval0
  have hW' := hW
  obtain ⟨p, q, hA0, hV, rfl, hfz, hnd⟩ := hW
  have hA : DataW.TrodAll enc Try.prog W 0 (fun _ => true) true Try.f8.params.toList args.toList ds p := hA0
  rw [Try.params8] at hA hval hsz
  obtain ⟨v0, vs0, d0, ds0, p0, q0, hargs, rfl, rfl, h0, r0⟩ := trodAll_cons hA
  obtain ⟨rfl, rfl, rfl⟩ := trodAll_nil r0
  obtain rfl : args = #[v0] := by cases args; simp_all
  obtain ⟨rfl, rfl⟩ := trodVars_none hV
  have h0k := h0
  obtain ⟨x0, y0, z0⟩ := open_R (hval 0 22 v0 rfl rfl) h0 (wok_of (j := 0) hsz rfl rfl)
  clear hA0 hval0
  simp only [List.append_nil] at hW'
  refine (lawSCycle_ _ v0 x0 W y0 z0).mono fun e W' ⟨he, hc⟩ => ?_
  subst he
  have hb : Below W.heap.size W W' := hc.below
  refine ⟨_, rfl, post_of_below (pa := p0) (pv := []) hW' (fun _ _ _ => (trodAll_cons_mk (shut_bool Try.underlying4 _) trodAll_mk0)) (fun sp hsp => ?_) (fun _ _ => rfl) (by simp) hb (ok_one (by kernel_rfl) rfl (okWide_bool_mk Try.underlying4 _))⟩
  have hlt := fun x hx => hW'.lt (p := x) hx
  have := trodAll_cons_mk (arg_later (sp := sp) (by kernel_rfl) (of_decide_eq_true (by kernel_rfl)) h0k hb (fun x hx => hlt x (by simp [hx])) (fun x hx => hsp x (by simp [hx]))) trodAll_mk0
  simp only [List.append_nil] at this
  exact this

theorem strataCycles1_over : Rows.strataCycleRow.holds Try.pinned (OpenSpec.ofChange Rows.strataCycleSpec) :=
  OpenClaim.holds_of_wide 8 Try.f8 rfl rfl rfl rfl rfl rfl rfl ⟨rfl, rfl, rfl, rfl, rfl⟩ rfl rfl rfl rfl rfl (by kernel_rfl) Try.func8 (by kernel_rfl)
    (of_decide_eq_true (by kernel_rfl)) (by unfold Func.isWrapper; first | (rw [if_pos (by decide +kernel)]; kernel_rfl) | (rw [if_neg (by decide +kernel)]; exact ⟨rfl, rfl⟩))
    (fun os started H enc _ => strataCycles1_lifted os started H enc)

theorem strataCycles1_holds : Rows.StrataCycleSaid := strataCycles1_over
end Go.Proofs.Ytbjdikeaolibpaa
