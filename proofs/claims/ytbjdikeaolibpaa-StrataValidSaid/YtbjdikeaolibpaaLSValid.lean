/-
  law10.StrataValid: for every description and every list of levels the law returns true and leaves its arguments as they were. No condition.
-/
import Derived.Test.YtbjdikeaolibpaaSgAwake
import Derived.Test.YtbjdikeaolibpaaSmUse
import Derived.Test.YtbjdikeaolibpaaOpenL
import Derived.Test.YtbjdikeaolibpaaStrVal2
namespace Go.Proofs.Ytbjdikeaolibpaa
open Go.ChangeShapes Go.WideShapes Go.ChangeAt Go.RowKit Go.ChangeMaps

set_option maxRecDepth 100000 in
set_option maxHeartbeats 4000000 in
theorem lawSValid_ (p q) (v u : Value) (l : List Ru) (lv : List Lv) (w : World) (h : SlR p w v l) (h' : SlL q w u lv) (hN : ∀ r ∈ l, NiceR reachBytes maxLen r) :
    Calls Try.prog 6 #[v, u] w fun e w' => e = .returned (.bool true) ∧ Ch [] w w' := by
  have hS2 := small2 40 (by omega) p v l w h hN
  have hnm := nm_of hN
  have HNM := Lib.hid hnm; clear hnm hN
  obtain ⟨a, c, rfl, hlc, hm⟩ := h.form
  obtain ⟨a', c', rfl, hlc', hm'⟩ := h'.form
  unfold maxLen at hm hm'
  go_enter Try.func6, Try.ntmps6
  go_wp2_with (first
    | (go_at_call 17; refine hS2.mono ?_; rintro e w1 (⟨rfl, hB⟩ | ⟨rfl, HF0, hB⟩); all_goals clear hS2)
    | (go_at_call 30; refine (strataValid p q _ _ l lv _ (h.ch0 hB) (h'.ch0 hB) (fit_of HF0.out (by omega)) HNM.out).mono ?_; rintro e w2 ⟨⟨b2, rfl, hb2⟩, hc⟩; replace hB := hB.trans hc; clear hc)
    | (go_at_call 31; refine (ref10Valid p q _ _ l lv _ (h.ch0 hB) (h'.ch0 hB) (fit_of HF0.out (by omega))).mono ?_; rintro e w3 ⟨⟨b3, rfl, hb3⟩, hc⟩; obtain rfl : b3 = b2 := Bool.eq_iff_iff.2 (hb3.out.trans hb2.out.symm); clear hb2 hb3; replace hB := hB.trans hc; clear hc)
    | (go_at_call 18; refine (law10awake _).mono ?_; rintro e w11 ⟨rfl, hc⟩; replace hB := hB.trans hc; clear hc))
  all_goals
    go_ret
    exact ⟨rfl, hB⟩

set_option maxRecDepth 100000 in
theorem strataValid_lifted (os : Os) (started : os.Started) (H : Type) (enc : TypeId × Value → H) :
    ReturnsInHanded {} Try.checked os 6 .any (Rows.strataValidSpec.pre6 enc Try.prog Try.f6 Rows.strataValidRow.domain false) (Rows.strataValidSpec.post enc Try.prog Try.f6 false true false false) := by
  refine returnsInHanded_of_change_sized (C := Try.checked) own started (by kernel_rfl) Try.func6
    (ChangeSpec.witness6 (enc := enc) (C := Try.checked) false ⟨#[], #[.slice none 0 0, .slice none 0 0], []⟩ 8 (by kernel_rfl) (by kernel_rfl) (by kernel_rfl) (by kernel_rfl)) ?_
  intro W base args ds gs before hval0 hW hcnd hsz _
  have hval : ∀ (j : Nat) t v, Try.f6.params[j]? = some t → args[j]? = some v → Value.okWide Try.prog W .any base t v := hval0
  have hW' := hW
  obtain ⟨p, q, hA0, hV, rfl, hfz, hnd⟩ := hW
  have hA : DataW.TrodAll enc Try.prog W 0 (fun _ => true) true Try.f6.params.toList args.toList ds p := hA0
  rw [Try.params6] at hA hval hsz
  obtain ⟨v0, vs0, d0, ds0, p0, q0, hargs, rfl, rfl, h0, r0⟩ := trodAll_cons hA
  obtain ⟨v1, vs1, d1, ds1, p1, q1, rfl, rfl, rfl, h1, r1⟩ := trodAll_cons r0
  obtain ⟨rfl, rfl, rfl⟩ := trodAll_nil r1
  obtain rfl : args = #[v0, v1] := by cases args; simp_all
  obtain ⟨rfl, rfl⟩ := trodVars_none hV
  have h0k := h0
  obtain ⟨x0, y0, z0⟩ := open_R (hval 0 22 v0 rfl rfl) h0 (wok_of (j := 0) hsz rfl rfl)
  have h1k := h1
  obtain ⟨x1, y1, z1⟩ := open_L (hval 1 25 v1 rfl rfl) h1
  clear hA0 hval0
  simp only [List.append_nil] at hW'
  refine (lawSValid_ _ _ v0 v1 x0 x1 W y0 y1 z0).mono fun e W' ⟨he, hc⟩ => ?_
  subst he
  have hb : Below W.heap.size W W' := hc.below
  refine ⟨_, rfl, post_of_below (pa := p0 ++ p1) (pv := []) hW' (fun _ _ _ => (trodAll_cons_mk (shut_bool Try.underlying4 _) trodAll_mk0)) (fun sp hsp => ?_) (fun _ _ => rfl) (by simp) hb (ok_one (by kernel_rfl) rfl (okWide_bool_mk Try.underlying4 _))⟩
  have hlt := fun x hx => hW'.lt (p := x) hx
  have := trodAll_cons_mk (arg_later (sp := sp) (by kernel_rfl) (of_decide_eq_true (by kernel_rfl)) h0k hb (fun x hx => hlt x (by simp [hx])) (fun x hx => hsp x (by simp [hx]))) (trodAll_cons_mk (arg_later (sp := sp) (by kernel_rfl) (of_decide_eq_true (by kernel_rfl)) h1k hb (fun x hx => hlt x (by simp [hx])) (fun x hx => hsp x (by simp [hx]))) trodAll_mk0)
  simp only [List.append_nil] at this
  exact this

theorem strataValid_over : Rows.strataValidRow.holds Try.pinned (OpenSpec.ofChange Rows.strataValidSpec) :=
  OpenClaim.holds_of_wide 6 Try.f6 rfl rfl rfl rfl rfl rfl rfl ⟨rfl, rfl, rfl, rfl, rfl⟩ rfl rfl rfl rfl rfl (by kernel_rfl) Try.func6 (by kernel_rfl)
    (of_decide_eq_true (by kernel_rfl)) (by unfold Func.isWrapper; first | (rw [if_pos (by decide +kernel)]; kernel_rfl) | (rw [if_neg (by decide +kernel)]; exact ⟨rfl, rfl⟩))
    (fun os started H enc _ => strataValid_lifted os started H enc)

theorem strataValids_holds : Rows.StrataValidSaid := strataValid_over
end Go.Proofs.Ytbjdikeaolibpaa
