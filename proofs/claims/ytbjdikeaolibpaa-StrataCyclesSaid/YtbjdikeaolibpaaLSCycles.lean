/-
  law10.StrataCycles: for every description the law returns true and leaves its argument as it was. No condition.
-/
import Derived.Test.YtbjdikeaolibpaaSgAwake
import Derived.Test.YtbjdikeaolibpaaSmUse
import Derived.Test.YtbjdikeaolibpaaOpenL
import Derived.Test.YtbjdikeaolibpaaStrCyc2
namespace Go.Proofs.Ytbjdikeaolibpaa
open Go.ChangeShapes Go.WideShapes Go.ChangeAt Go.RowKit Go.ChangeMaps

set_option maxRecDepth 100000 in
set_option maxHeartbeats 4000000 in
theorem lawSCycles_ (p) (v : Value) (l : List Ru) (w : World) (h : SlR p w v l) (hN : ∀ r ∈ l, NiceR reachBytes maxLen r) :
    Calls Try.prog 5 #[v] w fun e w' => e = .returned (.bool true) ∧ Ch [] w w' := by
  have hS2 := small2 20 (by omega) p v l w h hN
  clear hN
  obtain ⟨a, c, rfl, hlc, hm⟩ := h.form
  unfold maxLen at hm
  go_enter Try.func5, Try.ntmps5
  go_wp2_with (first
    | (go_at_call 17; refine hS2.mono ?_; rintro e w1 (⟨rfl, hB⟩ | ⟨rfl, HF0, hB⟩); all_goals clear hS2)
    | (go_at_call 28; refine (strataCycle p _ l _ (h.ch0 hB) (fit_of HF0.out (by omega))).mono ?_; rintro e w2 ⟨v2, rfl, h2, hc⟩; replace hB := hB.trans hc; clear hc)
    | (go_at_call 29; refine (ref10Cycle p _ l _ (h.ch0 hB) (fit_of HF0.out (by omega))).mono ?_; rintro e w3 ⟨v3, rfl, h3, hc⟩; replace hB := hB.trans hc; replace h2 := h2.ch0 hc; clear hc)
    | (go_at_call 27; refine (stringsSame _ _ _ _ _ _ h2 h3).mono ?_; rintro e w4 ⟨rfl, hc⟩; clear h2 h3; replace hB := hB.trans hc; clear hc)
    | (go_at_call 18; refine (law10awake _).mono ?_; rintro e w11 ⟨rfl, hc⟩; replace hB := hB.trans hc; clear hc))
  all_goals
    go_ret
    exact ⟨rfl, hB⟩

set_option maxRecDepth 100000 in
theorem strataCycles_lifted (os : Os) (started : os.Started) (H : Type) (enc : TypeId × Value → H) :
    ReturnsInHanded {} Try.checked os 5 .any (Rows.strataCyclesSpec.pre6 enc Try.prog Try.f5 Rows.strataCyclesRow.domain false) (Rows.strataCyclesSpec.post enc Try.prog Try.f5 false true false false) := by
  refine returnsInHanded_of_change_sized (C := Try.checked) own started (by kernel_rfl) Try.func5
    (ChangeSpec.witness6 (enc := enc) (C := Try.checked) false ⟨#[], #[.slice none 0 0], []⟩ 8 (by kernel_rfl) (by kernel_rfl) (by kernel_rfl) (by kernel_rfl)) ?_
  intro W base args ds gs before hval0 hW hcnd hsz _
  have hval : ∀ (j : Nat) t v, Try.f5.params[j]? = some t → args[j]? = some v → Value.okWide Try.prog W .any base t v := hval0
  have hW' := hW
  obtain ⟨p, q, hA0, hV, rfl, hfz, hnd⟩ := hW
  have hA : DataW.TrodAll enc Try.prog W 0 (fun _ => true) true Try.f5.params.toList args.toList ds p := hA0
  rw [Try.params5] at hA hval hsz
  obtain ⟨v0, vs0, d0, ds0, p0, q0, hargs, rfl, rfl, h0, r0⟩ := trodAll_cons hA
  obtain ⟨rfl, rfl, rfl⟩ := trodAll_nil r0
  obtain rfl : args = #[v0] := by cases args; simp_all
  obtain ⟨rfl, rfl⟩ := trodVars_none hV
  have h0k := h0
  obtain ⟨x0, y0, z0⟩ := open_R (hval 0 22 v0 rfl rfl) h0 (wok_of (j := 0) hsz rfl rfl)
  clear hA0 hval0
  simp only [List.append_nil] at hW'
  refine (lawSCycles_ _ v0 x0 W y0 z0).mono fun e W' ⟨he, hc⟩ => ?_
  subst he
  have hb : Below W.heap.size W W' := hc.below
  refine ⟨_, rfl, post_of_below (pa := p0) (pv := []) hW' (fun _ _ _ => (trodAll_cons_mk (shut_bool Try.underlying4 _) trodAll_mk0)) (fun sp hsp => ?_) (fun _ _ => rfl) (by simp) hb (ok_one (by kernel_rfl) rfl (okWide_bool_mk Try.underlying4 _))⟩
  have hlt := fun x hx => hW'.lt (p := x) hx
  have := trodAll_cons_mk (arg_later (sp := sp) (by kernel_rfl) (of_decide_eq_true (by kernel_rfl)) h0k hb (fun x hx => hlt x (by simp [hx])) (fun x hx => hsp x (by simp [hx]))) trodAll_mk0
  simp only [List.append_nil] at this
  exact this

theorem strataCycles_over : Rows.strataCyclesRow.holds Try.pinned (OpenSpec.ofChange Rows.strataCyclesSpec) :=
  OpenClaim.holds_of_wide 5 Try.f5 rfl rfl rfl rfl rfl rfl rfl ⟨rfl, rfl, rfl, rfl, rfl⟩ rfl rfl rfl rfl rfl (by kernel_rfl) Try.func5 (by kernel_rfl)
    (of_decide_eq_true (by kernel_rfl)) (by unfold Func.isWrapper; first | (rw [if_pos (by decide +kernel)]; kernel_rfl) | (rw [if_neg (by decide +kernel)]; exact ⟨rfl, rfl⟩))
    (fun os started H enc _ => strataCycles_lifted os started H enc)

theorem strataCycles_holds : Rows.StrataCyclesSaid := strataCycles_over
end Go.Proofs.Ytbjdikeaolibpaa
