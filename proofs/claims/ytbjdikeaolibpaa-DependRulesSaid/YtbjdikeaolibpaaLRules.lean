/-
  law09.DependRules: for every description the law returns true and leaves its argument as it was. No condition.
-/
import Derived.Test.YtbjdikeaolibpaaAwake
import Derived.Test.YtbjdikeaolibpaaRefs
import Derived.Test.YtbjdikeaolibpaaSmUse
namespace Go.Proofs.Ytbjdikeaolibpaa
open Go.ChangeShapes Go.WideShapes Go.ChangeAt Go.RowKit Go.ChangeMaps

theorem edgesSame (p q) (v u : Value) (xs : List Ed) (w : World) (h : SlE p w v xs) (h' : SlE q w u xs) :
    Calls Try.prog 41 #[v, u] w fun e w' => e = .returned (.bool true) ∧ Ch [] w w' := by
  have := law09same p q v u xs xs w h h'
  refine this.mono fun e w' hh => ?_
  simpa [eqE] using hh

set_option maxRecDepth 100000 in
set_option maxHeartbeats 4000000 in
theorem lawRules_ (p) (v : Value) (l : List Ru) (w : World) (h : SlR p w v l) (hN : ∀ r ∈ l, NiceR reachBytes maxLen r) :
    Calls Try.prog 11 #[v] w fun e w' => e = .returned (.bool true) ∧ Ch [] w w' := by
  have hS2 := small2 40 (by omega) p v l w h hN
  have hnm := nm_of hN
  have HNM := Lib.hid hnm; clear hnm hN
  obtain ⟨a, c, rfl, hlc, hm⟩ := h.form
  unfold maxLen at hm
  go_enter Try.func11, Try.ntmps11
  go_wp2_with (first
    | (go_at_call 17; refine hS2.mono ?_; rintro e w1 (⟨rfl, hB⟩ | ⟨rfl, HF0, hB⟩); all_goals clear hS2)
    | (go_at_call 37; refine (depRelations p _ l _ (h.ch0 hB) (fit_of HF0.out (by omega)) HNM.out).mono ?_; rintro e w2 ⟨v2, rfl, h2, hc⟩; replace hB := hB.trans hc; clear hc)
    | (go_at_call 38; refine (ref09Relations p _ l _ (h.ch0 hB) (fit_of HF0.out (by omega))).mono ?_; rintro e w3 ⟨v3, rfl, h3, hc⟩; replace hB := hB.trans hc; replace h2 := h2.ch0 hc; clear hc)
    | (go_at_call 27; refine (stringsSame _ _ _ _ _ _ h2 h3).mono ?_; rintro e w4 ⟨rfl, hc⟩; clear h2 h3; replace hB := hB.trans hc; clear hc)
    | (go_at_call 39; refine (depHeads p _ l _ (h.ch0 hB) (fit_of HF0.out (by omega)) HNM.out).mono ?_; rintro e w5 ⟨v5, rfl, h5, hc⟩; replace hB := hB.trans hc; clear hc)
    | (go_at_call 40; refine (ref09Heads p _ l _ (h.ch0 hB) (fit_of HF0.out (by omega))).mono ?_; rintro e w6 ⟨v6, rfl, h6, hc⟩; replace hB := hB.trans hc; replace h5 := h5.ch0 hc; clear hc)
    | (go_at_call 27; refine (stringsSame _ _ _ _ _ _ h5 h6).mono ?_; rintro e w7 ⟨rfl, hc⟩; clear h5 h6; replace hB := hB.trans hc; clear hc)
    | (go_at_call 42; refine (depEdges p _ l _ (h.ch0 hB) (fit_of HF0.out (by omega))).mono ?_; rintro e w8 ⟨v8, rfl, h8, hc⟩; replace hB := hB.trans hc; clear hc)
    | (go_at_call 32; refine (ref09Edges p _ l _ (h.ch0 hB) (fit_of HF0.out (by omega))).mono ?_; rintro e w9 ⟨v9, rfl, h9, hc⟩; replace hB := hB.trans hc; replace h8 := h8.ch0 hc; clear hc)
    | (go_at_call 41; refine (edgesSame _ _ _ _ _ _ h8 h9).mono ?_; rintro e w10 ⟨rfl, hc⟩; clear h8 h9; replace hB := hB.trans hc; clear hc)
    | (go_at_call 36; refine (law09awake _).mono ?_; rintro e w11 ⟨rfl, hc⟩; replace hB := hB.trans hc; clear hc))
  all_goals
    go_ret
    exact ⟨rfl, hB⟩

set_option maxRecDepth 100000 in
theorem dependRules_lifted (os : Os) (started : os.Started) (H : Type) (enc : TypeId × Value → H) :
    ReturnsInHanded {} Try.checked os 11 .any (Rows.dependRulesSpec.pre6 enc Try.prog Try.f11 Rows.dependRulesRow.domain false) (Rows.dependRulesSpec.post enc Try.prog Try.f11 false true false false) := by
  refine returnsInHanded_of_change_sized (C := Try.checked) own started (by kernel_rfl) Try.func11
    (ChangeSpec.witness6 (enc := enc) (C := Try.checked) false ⟨#[], #[.slice none 0 0], []⟩ 8 (by kernel_rfl) (by kernel_rfl) (by kernel_rfl) (by kernel_rfl)) ?_
  intro W base args ds gs before hval0 hW hcnd hsz _
  have hval : ∀ (j : Nat) t v, Try.f11.params[j]? = some t → args[j]? = some v → Value.okWide Try.prog W .any base t v := hval0
  have hW' := hW
  obtain ⟨p, q, hA0, hV, rfl, hfz, hnd⟩ := hW
  have hA : DataW.TrodAll enc Try.prog W 0 (fun _ => true) true Try.f11.params.toList args.toList ds p := hA0
  rw [Try.params11] at hA hval hsz
  obtain ⟨v0, vs0, d0, ds0, p0, q0, hargs, rfl, rfl, h0, r0⟩ := trodAll_cons hA
  obtain ⟨rfl, rfl, rfl⟩ := trodAll_nil r0
  obtain rfl : args = #[v0] := by cases args; simp_all
  obtain ⟨rfl, rfl⟩ := trodVars_none hV
  have h0k := h0
  obtain ⟨x0, y0, z0⟩ := open_R (hval 0 22 v0 rfl rfl) h0 (wok_of (j := 0) hsz rfl rfl)
  clear hA0 hval0
  simp only [List.append_nil] at hW'
  refine (lawRules_ _ v0 x0 W y0 z0).mono fun e W' ⟨he, hc⟩ => ?_
  subst he
  have hb : Below W.heap.size W W' := hc.below
  refine ⟨_, rfl, post_of_below (pa := p0) (pv := []) hW' (fun _ _ _ => (trodAll_cons_mk (shut_bool Try.underlying4 _) trodAll_mk0)) (fun sp hsp => ?_) (fun _ _ => rfl) (by simp) hb (ok_one (by kernel_rfl) rfl (okWide_bool_mk Try.underlying4 _))⟩
  have hlt := fun x hx => hW'.lt (p := x) hx
  have := trodAll_cons_mk (arg_later (sp := sp) (by kernel_rfl) (of_decide_eq_true (by kernel_rfl)) h0k hb (fun x hx => hlt x (by simp [hx])) (fun x hx => hsp x (by simp [hx]))) trodAll_mk0
  simp only [List.append_nil] at this
  exact this

theorem dependRules_over : Rows.dependRulesRow.holds Try.pinned (OpenSpec.ofChange Rows.dependRulesSpec) :=
  OpenClaim.holds_of_wide 11 Try.f11 rfl rfl rfl rfl rfl rfl rfl ⟨rfl, rfl, rfl, rfl, rfl⟩ rfl rfl rfl rfl rfl (by kernel_rfl) Try.func11 (by kernel_rfl)
    (of_decide_eq_true (by kernel_rfl)) (by unfold Func.isWrapper; first | (rw [if_pos (by decide +kernel)]; kernel_rfl) | (rw [if_neg (by decide +kernel)]; exact ⟨rfl, rfl⟩))
    (fun os started H enc _ => dependRules_lifted os started H enc)

theorem dependRules_holds : Rows.DependRulesSaid := dependRules_over
end Go.Proofs.Ytbjdikeaolibpaa
