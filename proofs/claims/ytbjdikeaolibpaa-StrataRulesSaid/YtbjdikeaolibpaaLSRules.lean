/-
  law10.StrataRules: for every description the law returns true and leaves its argument as it was. No condition.
-/
import Derived.Test.YtbjdikeaolibpaaSgAwake
import Derived.Test.YtbjdikeaolibpaaSmUse
import Derived.Test.YtbjdikeaolibpaaOpenL
namespace Go.Proofs.Ytbjdikeaolibpaa
open Go.ChangeShapes Go.WideShapes Go.ChangeAt Go.RowKit Go.ChangeMaps

theorem placeI_small (lv : List Lv) (l : List Ru) (n : Int) (k : Nat) : (placeI ((orderOf lv l).take k) n).2 ≤ (orderOf lv l).length * l.length := by
  have hrow : ∀ (r : List (List Int)) (a : Int × Nat) (i : Nat), (∀ x ∈ r, x.length ≤ l.length) → ((r.zipIdx i).foldl (fun a x => rowI n x.2 a x.1) a).2 ≤ a.2 + r.length * l.length := by
    intro r
    induction r with
    | nil => intro a i _; simp
    | cons x r ih =>
      intro a i hx
      have h1 := rowI_le n i x a
      have h2 := ih (rowI n i a x) (i + 1) (fun y hy => hx y (by simp [hy]))
      have h3 := hx x (by simp)
      simp only [List.zipIdx_cons, List.foldl_cons, List.length_cons, Nat.add_mul, Nat.one_mul]
      omega
  have h := hrow ((orderOf lv l).take k) (-1, 0) 0 (fun x hx => by
    have hx' := List.mem_of_mem_take hx
    simp only [orderOf, List.mem_map] at hx'
    obtain ⟨m, _, rfl⟩ := hx'
    exact rowOf_len lv l m)
  have h4 : ((orderOf lv l).take k).length ≤ (orderOf lv l).length := by simp; omega
  have h5 := Nat.mul_le_mul_right l.length h4
  unfold placeI
  simp only at h
  omega

set_option maxRecDepth 100000 in
set_option maxHeartbeats 8000000 in
theorem lawSRules_ (p) (v : Value) (l : List Ru) (w : World) (h : SlR p w v l) (hN : ∀ r ∈ l, NiceR reachBytes maxLen r) :
    Calls Try.prog 10 #[v] w fun e w' => e = .returned (.bool true) ∧ Ch [] w w' := by
  have hS2 := small2 40 (by omega) p v l w h hN
  have hnm := nm_of hN
  have HNM := Lib.hid hnm; clear hnm hN
  obtain ⟨a, c, rfl, hlc, hm⟩ := h.form
  unfold maxLen at hm
  go_enter Try.func10, Try.ntmps10
  go_wp2_with (first
    | (go_at_call 17; refine hS2.mono ?_; rintro e w1 (⟨rfl, hB⟩ | ⟨rfl, HF0, hB⟩); all_goals clear hS2)
    | (go_at_call 24; refine (strataOrder p _ l _ (h.ch0 hB) (fit_of HF0.out (by omega)) HNM.out).mono ?_; rintro e w2 ⟨v2, n2, o, rfl, ha2, hr2, hc⟩; have HA2 := Lib.hid ha2; replace hB := hB.trans hc; clear hc ha2; rcases o with _ | lv; all_goals (obtain ⟨h2, rfl⟩ := hr2); all_goals (first | subst h2 | (obtain ⟨a2, c2, rfl, hl2, hm2⟩ := h2.form)))
    | (go_at_call 18; refine (law10awake _).mono ?_; rintro e w11 ⟨rfl, hc⟩; replace hB := hB.trans hc; clear hc))
  all_goals first
    | (go_ret
       exact ⟨rfl, hB⟩)
    | skip
  have hfit := fit_of HF0.out (by omega)
  have hrl := relsOf_len hfit
  have hll := hfit.1
  obtain ⟨ht1, _, _, _⟩ := HA2.out.top (ends_of l)
  have hol := orderOf_len lv l
  have hprod : (orderOf lv l).length * l.length ≤ 101000 * 1000 := Nat.mul_le_mul (by omega) hll
  have hplace := fun (k : Nat) (wz : World) (hz : Ch [] w2 wz) => law10place _ _ (orderOf lv l) (k : Int) wz (h2.ch0 hz) (fun j => by have := placeI_small lv l k j; omega) (fun r hr => by
    simp only [orderOf, List.mem_map] at hr
    obtain ⟨m, _, rfl⟩ := hr
    have := rowOf_len lv l m; omega)
  have HPD := Lib.hid (fun k (hk : k < l.length) hd => HA2.out.head_dis hk hd)
  have HPN := Lib.hid (fun k (hk : k < l.length) hd => HA2.out.head_place hk hd)
  have HAF := Lib.hid (fun i j k (hi : i < l.length) (hj : j < l.length) hk hd he hdj => HA2.out.after (i := i) (j := j) (k := k) hi hj hk hd he hdj)
  have HFT := Lib.hid hfit.2
  clear hprod hol ht1 hrl hfit
  go_loopw [5] (fun i wr => ∃ k : Nat, k ≤ l.length ∧ i = .int .i64 k ∧ Ch [] w2 wr) (fun i _ => l.length - (intOf i).toNat)
  case atStart => exact ⟨0, Nat.zero_le _, rfl, Ch.refl _ _⟩
  case round =>
    obtain ⟨i, hi, rfl, hB5⟩ := hrel
    by_cases hlt : i < l.length
    · obtain ⟨b, o, a', c', a'', c'', rfl, hp, c0, c1', c2', hx1, hx2⟩ := h.at_ hlt
      have hBw := hB.trans hB5
      have k0 := c0
      have k2 := c2'
      have c0 := cell_ch c0 hBw (by simp)
      have c2' := cell_ch c2' hBw (by simp)
      have hpl := hplace i wr hB5
      by_cases hd : l[i].head.name = dis
      · rw [HPD.out i hlt hd] at hpl
        have hq : (l[i].head.name.toList == [100, 105, 115, 116, 105, 110, 99, 116]) = true := by rw [dis_eq]; simpa using hd
        clear hd
        go_wp2_with (go_at_call 35; refine hpl.mono ?_; clear hpl; rintro e w6 ⟨rfl, rfl⟩)
        go_roundw
        case rel => exact ⟨i + 1, by omega, by go_num, hB5⟩
        case measure => simp [intOf]; omega
      · rw [HPN.out i hlt hd] at hpl
        have hq : (l[i].head.name.toList == [100, 105, 115, 116, 105, 110, 99, 116]) = false := by rw [dis_eq]; simpa using hd
        have HD := Lib.hid hd; clear hd
        have hft := HFT.out _ (List.getElem_mem hlt)
        go_wp2_with (go_at_call 35; refine hpl.mono ?_; clear hpl; rintro e w6 ⟨rfl, rfl⟩)
        have hmi : 0 ≤ b + o := Nat.zero_le _
        clear hmi c0 c2' hq
        obtain ⟨wo, hwo⟩ : ∃ wo : World, wo = wr := ⟨_, rfl⟩
        have hBo : Ch [] w2 wr := hB5
        clear hwo
        have hxb := hx2.form
        generalize hat : ofL lv l[i].head.name = at0 at *
        have HAT := Lib.hid hat; clear hat
        go_loopw [8] (fun kv wq => ∃ k : Nat, k ≤ l[i].body.length ∧ kv = .int .i64 k ∧ Ch [] w2 wq) (fun kv _ => l[i].body.length - (intOf kv).toNat)
        case atStart => exact ⟨0, Nat.zero_le _, rfl, hBo⟩
        case round =>
          obtain ⟨k, hk, rfl, hB6⟩ := hrel
          have hBw6 := hB.trans hB6
          have c2' := cell_ch k2 hBw6 (by simp)
          by_cases hltk : k < l[i].body.length
          · go_wp2
            go_loopw [9] (fun jv wq => ∃ j : Nat, j ≤ l.length ∧ jv = .int .i64 j ∧ Ch [] w2 wq) (fun jv _ => l.length - (intOf jv).toNat)
            case atStart => exact ⟨0, Nat.zero_le _, rfl, hB6⟩
            case round =>
              obtain ⟨j, hj, rfl, hB7⟩ := hrel
              by_cases hltj : j < l.length
              · have hBw7 := hB.trans hB7
                obtain ⟨b7, o7, a7, c7, a8, c8, e7, hp7, d0, d1, d2, hx7, hx8⟩ := h.at_ hltj
                injection e7 with e7
                injection e7 with e71 e72
                subst e71 e72
                obtain ⟨b9, o9, a9, c9, rfl, hp9, f0, f1, f2, hx9⟩ := hx2.at_ hltk
                have d0' := cell_ch d0 hBw7 (by simp)
                have k2' := cell_ch k2 hBw7 (by simp)
                have f0' := cell_ch f0 hBw7 (by simp)
                have f1' := cell_ch f1 hBw7 (by simp)
                have d0L := Later.cell d0'
                have k2L := Later.cell k2'
                have f1L := Later.cell f1'
                have haf := HAF.out i j k hlt hltj hltk HD.out
                have hpn := HPN.out j hltj
                have hplj := hplace j
                clear d0 d1 d2 hx7 hx8 f0 f1 f2 hx9
                rw [HAT.out] at haf
                generalize l[j].head.name = jn at *
                generalize l[i].body[k].atom.name = bn at *
                by_cases hjb : jn = bn
                · by_cases hjd : jn = dis
                  · have hq1 : (jn.toList == bn.toList) = true := by rw [beqS]; simpa using hjb
                    have hq2 : (jn.toList == [100, 105, 115, 116, 105, 110, 99, 116]) = true := by rw [dis_eq]; simpa using hjd
                    clear hjb hjd hpn haf
                    go_wp2
                    refine wp_region_later (by kernel_rfl) (lexB_of (by kernel_rfl)) ?_
                    repeat (go_big_quiet_step (fail))
                    refine wpQuiet_nil ?_
                    intro w8 hw8
                    go_wp2
                    go_roundw
                    case rel => exact ⟨j + 1, by omega, by go_num, hB7.trans hw8⟩
                    case measure => simp [intOf]; omega
                  · have hq1 : (jn.toList == bn.toList) = true := by rw [beqS]; simpa using hjb
                    have hq2 : (jn.toList == [100, 105, 115, 116, 105, 110, 99, 116]) = false := by rw [dis_eq]; simpa using hjd
                    obtain ⟨ha1, ha2⟩ := haf hjb hjd
                    have hpl2 := hpn hjd
                    have HHJ := Lib.hid hjb
                    clear hjb hjd hpn haf
                    generalize ofL lv jn = on at *
                    have hle : decide (at0 < on) = false := by simpa using ha1
                    have HLE := Lib.hid ha1
                    go_wp2
                    refine wp_region_later (by kernel_rfl) (lexB_of (by kernel_rfl)) ?_
                    repeat (go_big_quiet_step (fail))
                    refine wpQuiet_nil ?_
                    intro w8 hw8
                    have hB8 := hB7.trans hw8
                    have hcj := hplj w8 hB8
                    rw [hpl2] at hcj
                    have k3 := cell_ch k2' hw8 (by simp)
                    have f3 := cell_ch f0' hw8 (by simp)
                    clear hplj hpl2 ha1 d0L k2L f1L
                    cases hnt : l[i].body[k].nt with
                    | false =>
                      rw [hnt] at f3
                      clear ha2 hnt
                      go_wp2_with (go_at_call 35; refine hcj.mono ?_; clear hcj; rintro e w9 ⟨rfl, rfl⟩)
                      go_roundw
                      case rel => exact ⟨j + 1, by omega, by go_num, hB8⟩
                      case measure => simp [intOf]; omega
                    | true =>
                      rw [hnt] at f3
                      have hne := ha2 hnt
                      have hne2 : (on == at0) = false := by simpa using hne
                      clear ha2 hnt hne
                      go_wp2_with (go_at_call 35; refine hcj.mono ?_; clear hcj; rintro e w9 ⟨rfl, rfl⟩)
                      go_roundw
                      case rel => exact ⟨j + 1, by omega, by go_num, hB8⟩
                      case measure => simp [intOf]; omega
                · have hq1 : (jn.toList == bn.toList) = false := by rw [beqS]; simpa using hjb
                  clear hjb hpn haf
                  go_wp2
                  refine wp_region_later (by kernel_rfl) (lexB_of (by kernel_rfl)) ?_
                  repeat (go_big_quiet_step (fail))
                  refine wpQuiet_nil ?_
                  intro w8 hw8
                  go_wp2
                  go_roundw
                  case rel => exact ⟨j + 1, by omega, by go_num, hB7.trans hw8⟩
                  case measure => simp [intOf]; omega
              · go_wp2
                go_roundw
                case rel => exact ⟨k + 1, by omega, by go_num, hB7⟩
                case measure => simp [intOf]; omega
          · go_wp2
            go_roundw
            case rel => exact ⟨i + 1, by omega, by go_num, hB6⟩
            case measure => simp [intOf]; omega
    · have hB45 := hB.trans hB5
      go_wp2_with (go_at_call 18; refine (law10awake _).mono ?_; rintro e w11 ⟨rfl, hc⟩)
      go_ret
      exact ⟨rfl, hB45.trans hc⟩

set_option maxRecDepth 100000 in
theorem strataRules_lifted (os : Os) (started : os.Started) (H : Type) (enc : TypeId × Value → H) :
    ReturnsInHanded {} Try.checked os 10 .any (Rows.strataRulesSpec.pre6 enc Try.prog Try.f10 Rows.strataRulesRow.domain false) (Rows.strataRulesSpec.post enc Try.prog Try.f10 false true false false) := by
  refine returnsInHanded_of_change_sized (C := Try.checked) own started (by kernel_rfl) Try.func10
    (ChangeSpec.witness6 (enc := enc) (C := Try.checked) false ⟨#[], #[.slice none 0 0], []⟩ 8 (by kernel_rfl) (by kernel_rfl) (by kernel_rfl) (by kernel_rfl)) ?_
  intro W base args ds gs before hval0 hW hcnd hsz _
  have hval : ∀ (j : Nat) t v, Try.f10.params[j]? = some t → args[j]? = some v → Value.okWide Try.prog W .any base t v := hval0
  have hW' := hW
  obtain ⟨p, q, hA0, hV, rfl, hfz, hnd⟩ := hW
  have hA : DataW.TrodAll enc Try.prog W 0 (fun _ => true) true Try.f10.params.toList args.toList ds p := hA0
  rw [Try.params10] at hA hval hsz
  obtain ⟨v0, vs0, d0, ds0, p0, q0, hargs, rfl, rfl, h0, r0⟩ := trodAll_cons hA
  obtain ⟨rfl, rfl, rfl⟩ := trodAll_nil r0
  obtain rfl : args = #[v0] := by cases args; simp_all
  obtain ⟨rfl, rfl⟩ := trodVars_none hV
  have h0k := h0
  obtain ⟨x0, y0, z0⟩ := open_R (hval 0 22 v0 rfl rfl) h0 (wok_of (j := 0) hsz rfl rfl)
  clear hA0 hval0
  simp only [List.append_nil] at hW'
  refine (lawSRules_ _ v0 x0 W y0 z0).mono fun e W' ⟨he, hc⟩ => ?_
  subst he
  have hb : Below W.heap.size W W' := hc.below
  refine ⟨_, rfl, post_of_below (pa := p0) (pv := []) hW' (fun _ _ _ => (trodAll_cons_mk (shut_bool Try.underlying4 _) trodAll_mk0)) (fun sp hsp => ?_) (fun _ _ => rfl) (by simp) hb (ok_one (by kernel_rfl) rfl (okWide_bool_mk Try.underlying4 _))⟩
  have hlt := fun x hx => hW'.lt (p := x) hx
  have := trodAll_cons_mk (arg_later (sp := sp) (by kernel_rfl) (of_decide_eq_true (by kernel_rfl)) h0k hb (fun x hx => hlt x (by simp [hx])) (fun x hx => hsp x (by simp [hx]))) trodAll_mk0
  simp only [List.append_nil] at this
  exact this

theorem strataRules_over : Rows.strataRulesRow.holds Try.pinned (OpenSpec.ofChange Rows.strataRulesSpec) :=
  OpenClaim.holds_of_wide 10 Try.f10 rfl rfl rfl rfl rfl rfl rfl ⟨rfl, rfl, rfl, rfl, rfl⟩ rfl rfl rfl rfl rfl (by kernel_rfl) Try.func10 (by kernel_rfl)
    (of_decide_eq_true (by kernel_rfl)) (by unfold Func.isWrapper; first | (rw [if_pos (by decide +kernel)]; kernel_rfl) | (rw [if_neg (by decide +kernel)]; exact ⟨rfl, rfl⟩))
    (fun os started H enc _ => strataRules_lifted os started H enc)

theorem strataRules_holds : Rows.StrataRulesSaid := strataRules_over
end Go.Proofs.Ytbjdikeaolibpaa
