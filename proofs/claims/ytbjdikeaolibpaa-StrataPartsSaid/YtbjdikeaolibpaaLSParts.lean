/-
  law10.StrataParts: for every description and every two numbers the law returns true and leaves its arguments as they were. No condition.
-/
import Derived.Test.YtbjdikeaolibpaaSgAwake
import Derived.Test.YtbjdikeaolibpaaSmUse
import Derived.Test.YtbjdikeaolibpaaOpenL
namespace Go.Proofs.Ytbjdikeaolibpaa
open Go.ChangeShapes Go.WideShapes Go.ChangeAt Go.RowKit Go.ChangeMaps

/-- what is cut out of a list of rules -/
theorem SlR.sub {p : Nat → Prop} {w : World} {a : Option Addr} {n c A B : Nat} {l : List Ru} (h : SlR p w (.slice a n c) l) (hA : A ≤ B) (hB : B ≤ n) :
    SlR p w (.slice (if c = A then a else a.map (·.add (A * 3))) (B - A) (c - A)) ((l.take B).drop A) := by
  obtain ⟨css, h1, h2, h3⟩ := h
  refine ⟨(css.take B).drop A, Sl.drop (Sl.take h1 hB) hA, by simp [h2], fun i cs x h4 h5 => ?_⟩
  rw [List.getElem?_drop, List.getElem?_take] at h4 h5
  split at h4
  · rename_i hlt
    rw [if_pos hlt] at h5
    exact h3 _ cs x h4 h5
  · cases h4
theorem mem_sub {l : List Ru} {A B : Nat} : ∀ r ∈ (l.take B).drop A, r ∈ l := fun _ hr => List.mem_of_mem_take (List.mem_of_mem_drop hr)

set_option maxRecDepth 100000 in
set_option maxHeartbeats 4000000 in
theorem lawSParts_ (p) (v : Value) (l : List Ru) (F M : Nat) (w : World) (h : SlR p w v l) (hN : ∀ r ∈ l, NiceR reachBytes maxLen r) (hF : F ≤ 255) (hM : M ≤ 255) :
    Calls Try.prog 9 #[v, .int .u8 F, .int .u8 M] w fun e w' => e = .returned (.bool true) ∧ Ch [] w w' := by
  have hS2 := small2 40 (by omega) p v l w h hN
  have hnm := nm_of hN
  have HNM := Lib.hid hnm; clear hnm hN
  obtain ⟨a, c, rfl, hlc, hm⟩ := h.form
  unfold maxLen at hm
  obtain ⟨A, hA⟩ : ∃ A, A = min F l.length := ⟨_, rfl⟩
  obtain ⟨B, hBn⟩ : ∃ B, B = min (A + M) l.length := ⟨_, rfl⟩
  have hAB : A ≤ B := by omega
  have hBl : B ≤ l.length := by omega
  have hmin1 : min (F : Int) (l.length : Int) = (A : Int) := by omega
  have hmin2 : min ((A : Int) + (M : Int)) (l.length : Int) = (B : Int) := by omega
  have hA255 : A ≤ 255 := by omega
  have hcut := fun wz (hz : Ch [] w wz) => (h.ch0 hz).sub hAB hBl
  have hfit := fun (hl : Fit l) => (show Fit ((l.take B).drop A) from ⟨by have := hl.1; simp; omega, fun r hr => hl.2 r (mem_sub r hr)⟩)
  have hnmp : NmOk ((l.take B).drop A) := fun r hr => HNM.out r (mem_sub r hr)
  have HES := Lib.hid (edges_sub (l := l) (m := (l.take B).drop A) mem_sub)
  have HRS := Lib.hid (rels_sub (l := l) (m := (l.take B).drop A) mem_sub)
  have HFIT := Lib.hid hfit
  have HNP := Lib.hid hnmp
  clear hA hBn hfit hnmp
  have hcc : A < c ∨ c = A := by omega
  generalize (l.take B).drop A = part at *
  have HCUT : Hid (∀ wz, Ch [] w wz → SlR p wz (.slice (if c = A then a else a.map (·.add (A * 3))) (B - A) (c - A)) part) := hcut
  clear hcut
  rcases hcc with hcc | hcc
  case' inl =>
    have hne : ¬ c = A := by omega
    have HSUB : Hid (∀ wz, Ch [] w wz → SlR p wz (.slice (Option.map (fun x => x.add (A * 3)) a) (B - A) (c - A)) part) := fun wz hz => by
      have := HCUT.out wz hz
      rwa [if_neg hne] at this
  case' inr =>
    subst hcc
    have HSUB : Hid (∀ wz, Ch [] w wz → SlR p wz (.slice a (B - c) 0) part) := fun wz hz => by
      have := HCUT.out wz hz
      rwa [if_pos rfl, Nat.sub_self] at this
  all_goals
    clear HCUT
    go_enter Try.func9, Try.ntmps9
    go_wp2_with (first
      | (go_at_call 17; refine hS2.mono ?_; rintro e w1 (⟨rfl, hB⟩ | ⟨rfl, HF0, hB⟩); all_goals clear hS2)
      | (go_at_call 19; refine (strataLevels p _ l _ (h.ch0 hB) (fit_of HF0.out (by omega)) HNM.out).mono ?_; clear h; rintro e w2 ⟨v2, n2, o, rfl, ha2, hr2, hc⟩; have HA2 := Lib.hid ha2; replace hB := hB.trans hc; clear hc ha2; rcases o with _ | lv; all_goals (obtain ⟨h2, rfl⟩ := hr2); all_goals (first | subst h2 | (obtain ⟨a2, c2, rfl, hl2, hm2⟩ := h2.form)))
      | (go_at_call 19; refine (strataLevels p _ part _ (HSUB.out _ hB) (HFIT.out (fit_of HF0.out (by omega))) HNP.out).mono ?_; rintro e w3 ⟨v3, n3, o3, rfl, ha3, hr3, hc⟩; have HA3 := Lib.hid ha3; replace hB := hB.trans hc; (try replace h2 := h2.ch0 hc); clear hc ha3 HSUB; rcases o3 with _ | lv3; all_goals (obtain ⟨h3, rfl⟩ := hr3); all_goals (first | subst h3 | (obtain ⟨a3, c3, rfl, hl3, hm3⟩ := h3.form)))
      | (go_at_call 18; refine (law10awake _).mono ?_; rintro e w11 ⟨rfl, hc⟩; replace hB := hB.trans hc; clear hc))
    all_goals first
      | (go_ret
         exact ⟨rfl, hB⟩)
      | skip
    all_goals (obtain ⟨lv', e', hle⟩ := HA2.out.part HA3.out HES.out HRS.out)
    all_goals first
      | (exfalso
         cases e'
         done)
      | skip
    injection e' with e'
    subst e'
    have HLE := Lib.hid hle; clear hle
    unfold maxLen at hm2 hm3
    go_loopw [13] (fun i wr => ∃ k : Nat, k ≤ lv3.length ∧ i = .int .i64 k ∧ Ch [] w3 wr) (fun i _ => lv3.length - (intOf i).toNat)
    case atStart => exact ⟨0, Nat.zero_le _, rfl, Ch.refl _ _⟩
    case round =>
      obtain ⟨k, hk, rfl, hB5⟩ := hrel
      by_cases hlt : k < lv3.length
      · obtain ⟨b, o, rfl, hp, c0, c1⟩ := h3.at_ hlt
        have c0 := Later.cell (cell_ch c0 hB5 (by simp))
        have c1 := Later.cell (cell_ch c1 hB5 (by simp))
        have hx := HLE.out _ (List.getElem_mem hlt)
        obtain ⟨x, hxe⟩ : ∃ x, lv3[k] = x := ⟨_, rfl⟩
        rw [hxe] at c0 c1 hx
        clear hxe
        have hcall := fun y : Later wr => later_call (x := y) (strataOf _ _ lv x.s y.w ((h2.ch0 hB5).ch0 y.ch))
        generalize ofL lv x.s = m at *
        have hd : decide (m < x.n) = false := by simpa using hx
        have hd2 : decide (x.n > m) = false := by simpa using hx
        have HX := Lib.hid hx; clear hx
        go_wp2
        refine wp_region_later (by kernel_rfl) (lexB_of (by kernel_rfl)) ?_
        repeat (go_big_quiet_step (exact hcall _))
        refine wpQuiet_nil ?_
        intro w5 hw5
        go_wp2
        go_roundw
        case rel => exact ⟨k + 1, by omega, by go_num, hB5.trans hw5⟩
        case measure => simp [intOf]; omega
      · have hB45 := hB.trans hB5
        go_wp2_with (go_at_call 18; refine (law10awake _).mono ?_; rintro e w11 ⟨rfl, hc⟩)
        go_ret
        exact ⟨rfl, hB45.trans hc⟩
theorem lawSParts2_ (p) (v : Value) (l : List Ru) (f m : Int) (w : World) (h : SlR p w v l) (hN : ∀ r ∈ l, NiceR reachBytes maxLen r) (hf : (Lit.int .u8 f).wf = true) (hm : (Lit.int .u8 m).wf = true) :
    Calls Try.prog 9 #[v, .int .u8 f, .int .u8 m] w fun e w' => e = .returned (.bool true) ∧ Ch [] w w' := by
  have h1 := bounds_u8 hf
  have h2 := bounds_u8 hm
  obtain ⟨F, rfl⟩ : ∃ F : Nat, f = F := ⟨f.toNat, by omega⟩
  obtain ⟨M, rfl⟩ : ∃ M : Nat, m = M := ⟨m.toNat, by omega⟩
  exact lawSParts_ p v l F M w h hN (by omega) (by omega)

set_option maxRecDepth 100000 in
theorem strataParts_lifted (os : Os) (started : os.Started) (H : Type) (enc : TypeId × Value → H) :
    ReturnsInHanded {} Try.checked os 9 .any (Rows.strataPartsSpec.pre6 enc Try.prog Try.f9 Rows.strataPartsRow.domain false) (Rows.strataPartsSpec.post enc Try.prog Try.f9 false true false false) := by
  refine returnsInHanded_of_change_sized (C := Try.checked) own started (by kernel_rfl) Try.func9
    (ChangeSpec.witness6 (enc := enc) (C := Try.checked) false ⟨#[], #[.slice none 0 0, .int .u8 0, .int .u8 0], []⟩ 8 (by kernel_rfl) (by kernel_rfl) (by kernel_rfl) (by kernel_rfl)) ?_
  intro W base args ds gs before hval0 hW hcnd hsz _
  have hval : ∀ (j : Nat) t v, Try.f9.params[j]? = some t → args[j]? = some v → Value.okWide Try.prog W .any base t v := hval0
  have hW' := hW
  obtain ⟨p, q, hA0, hV, rfl, hfz, hnd⟩ := hW
  have hA : DataW.TrodAll enc Try.prog W 0 (fun _ => true) true Try.f9.params.toList args.toList ds p := hA0
  rw [Try.params9] at hA hval hsz
  obtain ⟨v0, vs0, d0, ds0, p0, q0, hargs, rfl, rfl, h0, r0⟩ := trodAll_cons hA
  obtain ⟨v1, vs1, d1, ds1, p1, q1, rfl, rfl, rfl, h1, r1⟩ := trodAll_cons r0
  obtain ⟨v2, vs2, d2, ds2, p2, q2, rfl, rfl, rfl, h2, r2⟩ := trodAll_cons r1
  obtain ⟨rfl, rfl, rfl⟩ := trodAll_nil r2
  obtain rfl : args = #[v0, v1, v2] := by cases args; simp_all
  obtain ⟨rfl, rfl⟩ := trodVars_none hV
  have h0k := h0
  obtain ⟨x0, y0, z0⟩ := open_R (hval 0 22 v0 rfl rfl) h0 (wok_of (j := 0) hsz rfl rfl)
  obtain ⟨x1, rfl, rfl, rfl, z1⟩ := open_int Try.underlying5 (hval 1 5 v1 rfl rfl) h1
  obtain ⟨x2, rfl, rfl, rfl, z2⟩ := open_int Try.underlying5 (hval 2 5 v2 rfl rfl) h2
  clear hA0 hval0
  simp only [List.append_nil] at hW'
  refine (lawSParts2_ _ v0 x0 x1 x2 W y0 z0 z1 z2).mono fun e W' ⟨he, hc⟩ => ?_
  subst he
  have hb : Below W.heap.size W W' := hc.below
  refine ⟨_, rfl, post_of_below (pa := p0) (pv := []) hW' (fun _ _ _ => (trodAll_cons_mk (shut_bool Try.underlying4 _) trodAll_mk0)) (fun sp hsp => ?_) (fun _ _ => rfl) (by simp) hb (ok_one (by kernel_rfl) rfl (okWide_bool_mk Try.underlying4 _))⟩
  have hlt := fun x hx => hW'.lt (p := x) hx
  have := trodAll_cons_mk (arg_later (sp := sp) (by kernel_rfl) (of_decide_eq_true (by kernel_rfl)) h0k hb (fun x hx => hlt x (by simp [hx])) (fun x hx => hsp x (by simp [hx]))) (trodAll_cons_mk (shut_int Try.underlying5 z1) (trodAll_cons_mk (shut_int Try.underlying5 z2) trodAll_mk0))
  simp only [List.append_nil] at this
  exact this

theorem strataParts_over : Rows.strataPartsRow.holds Try.pinned (OpenSpec.ofChange Rows.strataPartsSpec) :=
  OpenClaim.holds_of_wide 9 Try.f9 rfl rfl rfl rfl rfl rfl rfl ⟨rfl, rfl, rfl, rfl, rfl⟩ rfl rfl rfl rfl rfl (by kernel_rfl) Try.func9 (by kernel_rfl)
    (of_decide_eq_true (by kernel_rfl)) (by unfold Func.isWrapper; first | (rw [if_pos (by decide +kernel)]; kernel_rfl) | (rw [if_neg (by decide +kernel)]; exact ⟨rfl, rfl⟩))
    (fun os started H enc _ => strataParts_lifted os started H enc)

theorem strataParts_holds : Rows.StrataPartsSaid := strataParts_over
end Go.Proofs.Ytbjdikeaolibpaa
