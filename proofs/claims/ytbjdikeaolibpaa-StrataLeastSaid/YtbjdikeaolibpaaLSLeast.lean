/-
  law10.StrataLeast: for every description and every list of levels the law returns true and leaves its arguments as they were. No condition.
-/
import Derived.Test.YtbjdikeaolibpaaSgAwake
import Derived.Test.YtbjdikeaolibpaaSmUse
import Derived.Test.YtbjdikeaolibpaaOpenL
import Derived.Test.YtbjdikeaolibpaaStrVal2
namespace Go.Proofs.Ytbjdikeaolibpaa
open Go.ChangeShapes Go.WideShapes Go.ChangeAt Go.RowKit Go.ChangeMaps

set_option maxRecDepth 100000 in
set_option maxHeartbeats 4000000 in
theorem lawSLeast_ (p q) (v u : Value) (l : List Ru) (other : List Lv) (w : World) (h : SlR p w v l) (h' : SlL q w u other) (hN : ∀ r ∈ l, NiceR reachBytes maxLen r) :
    Calls Try.prog 7 #[v, u] w fun e w' => e = .returned (.bool true) ∧ Ch [] w w' := by
  have hS2 := small2 40 (by omega) p v l w h hN
  have hnm := nm_of hN
  have HNM := Lib.hid hnm; clear hnm hN
  have HE := Lib.hid (ends_of l)
  have HA := Lib.hid (asc_relsOf l)
  obtain ⟨a, c, rfl, hlc, hm⟩ := h.form
  obtain ⟨a', c', rfl, hlc', hm'⟩ := h'.form
  unfold maxLen at hm hm'
  go_enter Try.func7, Try.ntmps7
  go_wp2_with (first
    | (go_at_call 17; refine hS2.mono ?_; rintro e w1 (⟨rfl, hB⟩ | ⟨rfl, HF0, hB⟩); all_goals clear hS2)
    | (go_at_call 19; refine (strataLevels p _ l _ (h.ch0 hB) (fit_of HF0.out (by omega)) HNM.out).mono ?_; rintro e w2 ⟨v2, n2, o, rfl, ha2, hr2, hc⟩; have HA2 := Lib.hid ha2; replace hB := hB.trans hc; clear hc ha2; rcases o with _ | lv; all_goals (obtain ⟨h2, rfl⟩ := hr2); all_goals (first | subst h2 | (obtain ⟨a2, c2, rfl, hl2, hm2⟩ := h2.form)))
    | (go_at_call_of 31 (Value.slice a2 lv.length c2); refine (ref10Valid p _ _ _ l lv _ (h.ch0 hB) h2 (fit_of HF0.out (by omega))).mono ?_; rintro e w3 ⟨⟨b3, rfl, hb3⟩, hc⟩; obtain rfl : b3 = true := hb3.out.2 (HA2.out.valid HE.out HA.out); clear hb3; replace hB := hB.trans hc; replace h2 := h2.ch0 hc; clear hc)
    | (go_at_call_of 31 (Value.slice a' other.length c'); refine (ref10Valid p q _ _ l other _ (h.ch0 hB) (h'.ch0 hB) (fit_of HF0.out (by omega))).mono ?_; rintro e w4 ⟨⟨b4, rfl, hb4⟩, hc⟩; have HB4 := Lib.hid hb4.out; clear hb4; replace hB := hB.trans hc; (try replace h2 := h2.ch0 hc); clear hc; cases b4)
    | (go_at_call 18; refine (law10awake _).mono ?_; rintro e w11 ⟨rfl, hc⟩; replace hB := hB.trans hc; clear hc))
  all_goals first
    | (go_ret
       exact ⟨rfl, hB⟩)
    | skip
  · exfalso
    obtain ⟨lv', e', _⟩ := HA2.out.least HE.out (HB4.out.1 (by simp))
    cases e'
  · obtain ⟨lv', e', hle⟩ := HA2.out.least HE.out (HB4.out.1 (by simp))
    injection e' with e'
    subst e'
    have HLE := Lib.hid hle; clear hle
    unfold maxLen at hm2
    go_loopw [7] (fun i wr => ∃ k : Nat, k ≤ lv.length ∧ i = .int .i64 k ∧ Ch [] w4 wr) (fun i _ => lv.length - (intOf i).toNat)
    case atStart => exact ⟨0, Nat.zero_le _, rfl, Ch.refl _ _⟩
    case round =>
      obtain ⟨k, hk, rfl, hB5⟩ := hrel
      by_cases hlt : k < lv.length
      · obtain ⟨b, o, rfl, hp, c0, c1⟩ := h2.at_ hlt
        have c0 := Later.cell (cell_ch c0 hB5 (by simp))
        have c1 := Later.cell (cell_ch c1 hB5 (by simp))
        have hx := HLE.out _ (List.getElem_mem hlt)
        obtain ⟨x, hxe⟩ : ∃ x, lv[k] = x := ⟨_, rfl⟩
        rw [hxe] at c0 c1 hx
        clear hxe
        have hcall := fun y : Later wr => later_call (x := y) ((ref10Of q _ other x.s y.w (h'.ch0 ((hB.trans hB5).trans y.ch))).mono fun e w' hh => ⟨hh.1, by rw [← hh.2]; exact Ch.refl _ _⟩)
        generalize ofL other x.s = m at *
        have hd : decide (m < x.n) = false := by simpa using hx
        have HX := Lib.hid hx; clear hx
        go_wp2
        refine wp_region_later (by kernel_rfl) (lexB_of (by kernel_rfl)) ?_
        repeat (go_big_quiet_step (exact hcall _))
        refine wpQuiet_nil ?_
        intro w5 hw5
        go_wp2
        go_roundw
        case rel => exact ⟨k + 1, by omega, by go_num, hB5.trans hw5⟩
        case measure => simp [intOf]; omega
      · have hB45 := hB.trans hB5
        go_wp2_with (go_at_call 18; refine (law10awake _).mono ?_; rintro e w11 ⟨rfl, hc⟩)
        go_ret
        exact ⟨rfl, hB45.trans hc⟩

set_option maxRecDepth 100000 in
theorem strataLeast_lifted (os : Os) (started : os.Started) (H : Type) (enc : TypeId × Value → H) :
    ReturnsInHanded {} Try.checked os 7 .any (Rows.strataLeastSpec.pre6 enc Try.prog Try.f7 Rows.strataLeastRow.domain false) (Rows.strataLeastSpec.post enc Try.prog Try.f7 false true false false) := by
  refine returnsInHanded_of_change_sized (C := Try.checked) own started (by kernel_rfl) Try.func7
    (ChangeSpec.witness6 (enc := enc) (C := Try.checked) false ⟨#[], #[.slice none 0 0, .slice none 0 0], []⟩ 8 (by kernel_rfl) (by kernel_rfl) (by kernel_rfl) (by kernel_rfl)) ?_
  intro W base args ds gs before hval0 hW hcnd hsz _
  have hval : ∀ (j : Nat) t v, Try.f7.params[j]? = some t → args[j]? = some v → Value.okWide Try.prog W .any base t v := hval0
  have hW' := hW
  obtain ⟨p, q, hA0, hV, rfl, hfz, hnd⟩ := hW
  have hA : DataW.TrodAll enc Try.prog W 0 (fun _ => true) true Try.f7.params.toList args.toList ds p := hA0
  rw [Try.params7] at hA hval hsz
  obtain ⟨v0, vs0, d0, ds0, p0, q0, hargs, rfl, rfl, h0, r0⟩ := trodAll_cons hA
  obtain ⟨v1, vs1, d1, ds1, p1, q1, rfl, rfl, rfl, h1, r1⟩ := trodAll_cons r0
  obtain ⟨rfl, rfl, rfl⟩ := trodAll_nil r1
  obtain rfl : args = #[v0, v1] := by cases args; simp_all
  obtain ⟨rfl, rfl⟩ := trodVars_none hV
  have h0k := h0
  obtain ⟨x0, y0, z0⟩ := open_R (hval 0 22 v0 rfl rfl) h0 (wok_of (j := 0) hsz rfl rfl)
  have h1k := h1
  obtain ⟨x1, y1, z1⟩ := open_L (hval 1 25 v1 rfl rfl) h1
  clear hA0 hval0
  simp only [List.append_nil] at hW'
  refine (lawSLeast_ _ _ v0 v1 x0 x1 W y0 y1 z0).mono fun e W' ⟨he, hc⟩ => ?_
  subst he
  have hb : Below W.heap.size W W' := hc.below
  refine ⟨_, rfl, post_of_below (pa := p0 ++ p1) (pv := []) hW' (fun _ _ _ => (trodAll_cons_mk (shut_bool Try.underlying4 _) trodAll_mk0)) (fun sp hsp => ?_) (fun _ _ => rfl) (by simp) hb (ok_one (by kernel_rfl) rfl (okWide_bool_mk Try.underlying4 _))⟩
  have hlt := fun x hx => hW'.lt (p := x) hx
  have := trodAll_cons_mk (arg_later (sp := sp) (by kernel_rfl) (of_decide_eq_true (by kernel_rfl)) h0k hb (fun x hx => hlt x (by simp [hx])) (fun x hx => hsp x (by simp [hx]))) (trodAll_cons_mk (arg_later (sp := sp) (by kernel_rfl) (of_decide_eq_true (by kernel_rfl)) h1k hb (fun x hx => hlt x (by simp [hx])) (fun x hx => hsp x (by simp [hx]))) trodAll_mk0)
  simp only [List.append_nil] at this
  exact this

theorem strataLeast_over : Rows.strataLeastRow.holds Try.pinned (OpenSpec.ofChange Rows.strataLeastSpec) :=
  OpenClaim.holds_of_wide 7 Try.f7 rfl rfl rfl rfl rfl rfl rfl ⟨rfl, rfl, rfl, rfl, rfl⟩ rfl rfl rfl rfl rfl (by kernel_rfl) Try.func7 (by kernel_rfl)
    (of_decide_eq_true (by kernel_rfl)) (by unfold Func.isWrapper; first | (rw [if_pos (by decide +kernel)]; kernel_rfl) | (rw [if_neg (by decide +kernel)]; exact ⟨rfl, rfl⟩))
    (fun os started H enc _ => strataLeast_lifted os started H enc)

theorem strataLeast_holds : Rows.StrataLeastSaid := strataLeast_over
end Go.Proofs.Ytbjdikeaolibpaa
