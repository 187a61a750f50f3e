/-
  law09.DependGroups: for every list of edges and every list of names the law returns true and leaves its arguments as they were. No condition.
-/
import Derived.Test.YtbjdikeaolibpaaAwake
import Derived.Test.YtbjdikeaolibpaaRefGrp
import Derived.Test.YtbjdikeaolibpaaOpen
namespace Go.Proofs.Ytbjdikeaolibpaa
open Go.ChangeShapes Go.WideShapes Go.ChangeAt Go.RowKit Go.ChangeMaps

set_option maxRecDepth 100000 in
set_option maxHeartbeats 4000000 in
theorem lawGroups_ (p q) (v vn : Value) (es : List Ed) (names : List ByteArray) (w : World) (h : SlE p w v es) (hn : SlS q w vn names) :
    Calls Try.prog 13 #[v, vn] w fun e w' => e = .returned (.bool true) ∧ Ch [] w w' := by
  obtain ⟨a, c, rfl, hlc, hm⟩ := h.form
  obtain ⟨an, cn, rfl, hlcn, hmn⟩ := hn.form
  unfold maxLen at hm hmn
  by_cases hle : es.length ≤ 60
  · by_cases hln : names.length ≤ 20
    · have hG := fun wz hz hzn => depGroups p q (.slice a es.length c) (.slice an names.length cn) es names wz hz hzn (by omega) (by omega)
      have hG9 := fun wz hz hzn => ref09Groups p q (.slice a es.length c) (.slice an names.length cn) es names wz hz hzn (by omega) (by omega)
      generalize groupsOf es names = G at *
      go_enter Try.func13, Try.ntmps13
      go_wp2_with (first
        | (go_at_call 47; refine (hG _ h hn).mono ?_; rintro e w1 ⟨v1, rfl, h1, hc1⟩; clear hG; obtain ⟨a1, c1, rfl, hl1, hm1⟩ := h1.form)
        | (go_at_call 48; refine (hG9 _ (h.ch0 hc1) (hn.ch0 hc1)).mono ?_; rintro e w2 ⟨v2, rfl, h2, hc2⟩; clear hG9; obtain ⟨a2, c2, rfl, hl2, hm2⟩ := h2.form))
      unfold maxLen at hm1 hm2
      have h12 := h1.ch0 hc2
      have hcw := hc1.trans hc2
      clear h1 hc1 hc2
      go_loopw [7] (fun i wr => ∃ k : Nat, k ≤ G.length ∧ i = .int .i64 k ∧ Ch [] w2 wr) (fun i _ => G.length - (intOf i).toNat)
      case atStart => exact ⟨0, Nat.zero_le _, rfl, Ch.refl _ _⟩
      case round =>
        obtain ⟨k, hk, rfl, hB⟩ := hrel
        by_cases hlt : k < G.length
        · obtain ⟨b1, o1, a3, c3, rfl, hp1, x1, s1⟩ := SlSS.at_ (h12.ch0 hB) hlt
          obtain ⟨b2, o2, a4, c4, rfl, hp2, x2, s2⟩ := SlSS.at_ (h2.ch0 hB) hlt
          have x1 := Later.cell x1
          have x2 := Later.cell x2
          generalize G[k] = r at *
          go_wp2
          refine wp_region_later (by kernel_rfl) (lexB_of (by kernel_rfl)) ?_
          repeat (go_big_quiet_step ((go_at_call 27; exact later_call (stringsSame _ _ _ _ _ _ (s1.ch0 (Later.ch _)) (s2.ch0 (Later.ch _))))))
          refine wpQuiet_nil ?_
          intro w3 hw3
          go_wp2
          go_roundw
          case rel => exact ⟨k + 1, by omega, by go_num, hB.trans hw3⟩
          case measure => simp [intOf]; omega
        · go_wp2_with (go_at_call 36; refine (law09awake _).mono ?_; rintro e w6 ⟨rfl, hc⟩)
          go_ret
          exact ⟨rfl, (hcw.trans hB).trans hc⟩
    · go_enter Try.func13, Try.ntmps13
      go_wp2_with (go_at_call 36; refine (law09awake _).mono ?_; rintro e w6 ⟨rfl, hc⟩)
      go_ret
      exact ⟨rfl, hc⟩
  · go_enter Try.func13, Try.ntmps13
    go_wp2_with (go_at_call 36; refine (law09awake _).mono ?_; rintro e w6 ⟨rfl, hc⟩)
    go_ret
    exact ⟨rfl, hc⟩

set_option maxRecDepth 100000 in
theorem dependGroups_lifted (os : Os) (started : os.Started) (H : Type) (enc : TypeId × Value → H) :
    ReturnsInHanded {} Try.checked os 13 .any (Rows.dependGroupsSpec.pre6 enc Try.prog Try.f13 Rows.dependGroupsRow.domain false) (Rows.dependGroupsSpec.post enc Try.prog Try.f13 false true false false) := by
  refine returnsInHanded_of_change (C := Try.checked) own started (by kernel_rfl) Try.func13
    (ChangeSpec.witness6 (enc := enc) (C := Try.checked) false ⟨#[], #[.slice none 0 0, .slice none 0 0], []⟩ 8 (by kernel_rfl) (by kernel_rfl) (by kernel_rfl) (by kernel_rfl)) ?_
  intro W base args ds gs before hval0 hW hcnd _
  have hval : ∀ (j : Nat) t v, Try.f13.params[j]? = some t → args[j]? = some v → Value.okWide Try.prog W .any base t v := hval0
  have hW' := hW
  obtain ⟨p, q, hA0, hV, rfl, hfz, hnd⟩ := hW
  have hA : DataW.TrodAll enc Try.prog W 0 (fun _ => true) true Try.f13.params.toList args.toList ds p := hA0
  rw [Try.params13] at hA hval
  obtain ⟨v0, vs0, d0, ds0, p0, q0, hargs, rfl, rfl, h0, r0⟩ := trodAll_cons hA
  obtain ⟨v1, vs1, d1, ds1, p1, q1, rfl, rfl, rfl, h1, r1⟩ := trodAll_cons r0
  obtain ⟨rfl, rfl, rfl⟩ := trodAll_nil r1
  obtain rfl : args = #[v0, v1] := by cases args; simp_all
  obtain ⟨rfl, rfl⟩ := trodVars_none hV
  have h0k := h0
  obtain ⟨x0, y0, z0⟩ := open_E (hval 0 43 v0 rfl rfl) h0
  have h1k := h1
  obtain ⟨x1, y1, z1⟩ := open_S (hval 1 38 v1 rfl rfl) h1
  clear hA0 hval0
  simp only [List.append_nil] at hW'
  refine (lawGroups_ _ _ v0 v1 x0 x1 W y0 y1).mono fun e W' ⟨he, hc⟩ => ?_
  subst he
  have hb : Below W.heap.size W W' := hc.below
  refine ⟨_, rfl, post_of_below (pa := p0 ++ p1) (pv := []) hW' (fun _ _ _ => (trodAll_cons_mk (shut_bool Try.underlying4 _) trodAll_mk0)) (fun sp hsp => ?_) (fun _ _ => rfl) (by simp) hb (ok_one (by kernel_rfl) rfl (okWide_bool_mk Try.underlying4 _))⟩
  have hlt := fun x hx => hW'.lt (p := x) hx
  have := trodAll_cons_mk (arg_later (sp := sp) (by kernel_rfl) (of_decide_eq_true (by kernel_rfl)) h0k hb (fun x hx => hlt x (by simp [hx])) (fun x hx => hsp x (by simp [hx]))) (trodAll_cons_mk (arg_later (sp := sp) (by kernel_rfl) (of_decide_eq_true (by kernel_rfl)) h1k hb (fun x hx => hlt x (by simp [hx])) (fun x hx => hsp x (by simp [hx]))) trodAll_mk0)
  simp only [List.append_nil, List.nil_append] at this
  exact this

theorem dependGroups_over : Rows.dependGroupsRow.holds Try.pinned (OpenSpec.ofChange Rows.dependGroupsSpec) :=
  OpenClaim.holds_of_wide 13 Try.f13 rfl rfl rfl rfl rfl rfl rfl ⟨rfl, rfl, rfl, rfl, rfl⟩ rfl rfl rfl rfl rfl (by kernel_rfl) Try.func13 (by kernel_rfl)
    (of_decide_eq_true (by kernel_rfl)) (by unfold Func.isWrapper; first | (rw [if_pos (by decide +kernel)]; kernel_rfl) | (rw [if_neg (by decide +kernel)]; exact ⟨rfl, rfl⟩))
    (fun os started H enc _ => dependGroups_lifted os started H enc)

theorem dependGroups_holds : Rows.DependGroupsSaid := dependGroups_over
end Go.Proofs.Ytbjdikeaolibpaa
