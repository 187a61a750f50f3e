/-
  law09.DependReaches: for every list of edges and every name the law returns true and leaves its arguments as they were. No condition.
-/
import Derived.Test.YtbjdikeaolibpaaAwake
import Derived.Test.YtbjdikeaolibpaaReach
import Derived.Test.YtbjdikeaolibpaaRefs
import Derived.Test.YtbjdikeaolibpaaOpen
namespace Go.Proofs.Ytbjdikeaolibpaa
open Go.ChangeShapes Go.WideShapes Go.ChangeAt Go.RowKit Go.ChangeMaps

set_option maxRecDepth 100000 in
set_option maxHeartbeats 4000000 in
theorem lawReaches_ (p) (v : Value) (es : List Ed) (s : ByteArray) (w : World) (h : SlE p w v es) (hok : EdOk es) :
    Calls Try.prog 12 #[v, .string s] w fun e w' => e = .returned (.bool true) ∧ Ch [] w w' := by
  obtain ⟨a, c, rfl, hlc, hm⟩ := h.form
  unfold maxLen at hm
  have HOK := Lib.hid hok; clear hok
  by_cases hle : es.length ≤ 60
  · have hR := fun wz hz => depReach p (.slice a es.length c) es s wz hz (by omega) HOK.out
    have hD := fun wz hz => depRecursive p (.slice a es.length c) es s wz hz (by omega)
    have hR9 := fun wz hz => ref09Reach p (.slice a es.length c) es s wz hz (by omega)
    have hD9 := fun wz hz => ref09Recursive p (.slice a es.length c) es s wz hz (by omega)
    generalize reachOf es s = RS at *
    generalize hasS RS s = hb at *
    go_enter Try.func12, Try.ntmps12
    go_wp2_with (first
      | (go_at_call 43; refine (hR _ h).mono ?_; rintro e w1 ⟨v1, rfl, h1, hc⟩; clear hR; have hB := hc; replace h := h.ch0 hc; clear hc)
      | (go_at_call 44; refine (hR9 _ h).mono ?_; rintro e w2 ⟨v2, rfl, h2, hc⟩; clear hR9; replace hB := hB.trans hc; replace h := h.ch0 hc; replace h1 := h1.ch0 hc; clear hc)
      | (go_at_call 27; refine (stringsSame _ _ _ _ _ _ h1 h2).mono ?_; rintro e w3 ⟨rfl, hc⟩; clear h1 h2; replace hB := hB.trans hc; replace h := h.ch0 hc; clear hc)
      | (go_at_call 45; refine (hD _ h).mono ?_; rintro e w4 ⟨rfl, hc⟩; clear hD; replace hB := hB.trans hc; replace h := h.ch0 hc; clear hc)
      | (go_at_call 46; refine (hD9 _ h).mono ?_; rintro e w5 ⟨rfl, hc⟩; clear hD9; replace hB := hB.trans hc; replace h := h.ch0 hc; clear hc)
      | (go_at_call 36; refine (law09awake _).mono ?_; rintro e w6 ⟨rfl, hc⟩; replace hB := hB.trans hc; clear hc))
    go_ret
    exact ⟨rfl, hB⟩
  · go_enter Try.func12, Try.ntmps12
    go_wp2_with (go_at_call 36; refine (law09awake _).mono ?_; rintro e w6 ⟨rfl, hc⟩)
    go_ret
    exact ⟨rfl, hc⟩

set_option maxRecDepth 100000 in
theorem reaches_lifted (os : Os) (started : os.Started) (H : Type) (enc : TypeId × Value → H) :
    ReturnsInHanded {} Try.checked os 12 .any (Rows.dependReachesSpec.pre6 enc Try.prog Try.f12 Rows.dependReachesRow.domain false) (Rows.dependReachesSpec.post enc Try.prog Try.f12 false true false false) := by
  refine returnsInHanded_of_change (C := Try.checked) own started (by kernel_rfl) Try.func12
    (ChangeSpec.witness6 (enc := enc) (C := Try.checked) false ⟨#[], #[.slice none 0 0, .string ByteArray.empty], []⟩ 8 (by kernel_rfl) (by kernel_rfl) (by kernel_rfl) (by kernel_rfl)) ?_
  intro W base args ds gs before hval0 hW hcnd _
  have hval : ∀ (j : Nat) t v, Try.f12.params[j]? = some t → args[j]? = some v → Value.okWide Try.prog W .any base t v := hval0
  have hW' := hW
  obtain ⟨p, q, hA0, hV, rfl, hfz, hnd⟩ := hW
  have hA : DataW.TrodAll enc Try.prog W 0 (fun _ => true) true Try.f12.params.toList args.toList ds p := hA0
  rw [Try.params12] at hA hval
  obtain ⟨v0, vs0, d0, ds0, p0, q0, hargs, rfl, rfl, h0, r0⟩ := trodAll_cons hA
  obtain ⟨v1, vs1, d1, ds1, p1, q1, rfl, rfl, rfl, h1, r1⟩ := trodAll_cons r0
  obtain ⟨rfl, rfl, rfl⟩ := trodAll_nil r1
  obtain rfl : args = #[v0, v1] := by cases args; simp_all
  obtain ⟨rfl, rfl⟩ := trodVars_none hV
  have h0k := h0
  have h1k := h1
  obtain ⟨es, hes, hsz⟩ := open_E (hval 0 43 v0 rfl rfl) h0
  obtain ⟨s, rfl, rfl, rfl, hs⟩ := open_string Try.underlying9 (hval 1 9 v1 rfl rfl) h1
  clear hA0 hval0
  simp only [List.append_nil] at hW'
  refine (lawReaches_ _ v0 es s W hes (fun e he => (hsz e he).2)).mono fun e W' ⟨he, hc⟩ => ?_
  subst he
  have hb : Below W.heap.size W W' := hc.below
  refine ⟨_, rfl, post_of_below (pa := p0) (pv := []) hW' (fun _ _ _ => (trodAll_cons_mk (shut_bool Try.underlying4 _) trodAll_mk0)) (fun sp hsp => ?_) (fun _ _ => rfl) (by simp) hb (ok_one (by kernel_rfl) rfl (okWide_bool_mk Try.underlying4 _))⟩
  have hlt := fun x hx => hW'.lt (p := x) hx
  have := trodAll_cons_mk (arg_later (sp := sp) (by kernel_rfl) (of_decide_eq_true (by kernel_rfl)) h0k hb (fun x hx => hlt x (by simpa using hx)) (fun x hx => hsp x (by simpa using hx))) (trodAll_cons_mk (shut_string Try.underlying9 hs) trodAll_mk0)
  simp only [List.append_nil] at this
  exact this

theorem reaches_over : Rows.dependReachesRow.holds Try.pinned (OpenSpec.ofChange Rows.dependReachesSpec) :=
  OpenClaim.holds_of_wide 12 Try.f12 rfl rfl rfl rfl rfl rfl rfl ⟨rfl, rfl, rfl, rfl, rfl⟩ rfl rfl rfl rfl rfl (by kernel_rfl) Try.func12 (by kernel_rfl)
    (of_decide_eq_true (by kernel_rfl)) (by unfold Func.isWrapper; first | (rw [if_pos (by decide +kernel)]; kernel_rfl) | (rw [if_neg (by decide +kernel)]; exact ⟨rfl, rfl⟩))
    (fun os started H enc _ => reaches_lifted os started H enc)

theorem dependReaches_holds : Rows.DependReachesSaid := reaches_over
end Go.Proofs.Ytbjdikeaolibpaa
