
/-
  The contracts of the reference's head, body, Variable (of layer 7), atom (of layer 11).
  The contracts of the reference's collect and Vars (of layer 7).
  The contracts of the reference's Vars (of layer 7), atoms, Binds, safe (of layer 11).
  The contracts of the reference's atoms, Binds, safe (of layer 11).
  The contracts of the reference's safe and Rule (of layer 11).
  The contracts of law11's few, fewRules; a rule as an argument, opened; law11.CheckRule.
-/
import Derived.Test.YtbongbknciibiaaGreatDoorChRef2
import Derived.Test.YtbongbknciibiaaGreatDoorChLaid
import Derived.Test.YtbongbknciibiaaGreatDoorSmall
import Derived.Test.YtbongbknciibiaaGreatDoorOpenR
namespace Go.Proofs.YtbongbknciibiaaGreatDoor

section
section
open Go.RowKit

theorem kw_cases (s : ByteArray) : (kwOf s = none ∧ ∀ k ∈ kws, k.n ≠ s) ∨ ∃ k ∈ kws, s = k.n ∧ kwOf s = some k := by
  cases h : kwOf s with
  | none =>
    left
    refine ⟨rfl, fun k hk e => ?_⟩
    have := List.find?_eq_none.1 h k hk
    simp [e] at this
  | some k =>
    right
    have h1 := List.find?_some h
    exact ⟨k, List.mem_of_find?_eq_some h, (by simp only [decide_eq_true_eq] at h1; exact h1.symm), rfl⟩
/-- may it be a head; may it be in a body -/
def headB (s : ByteArray) : Bool := match kwOf s with | some k => k.h | none => true
def bodyB (s : ByteArray) : Bool := match kwOf s with | some k => k.b | none => true
theorem headB_eq (s : ByteArray) : headB s = (!decide (s = ⟨#[116, 114, 117, 101]⟩) && (!decide (s = ⟨#[100, 111, 101, 115]⟩) && !decide (s = ⟨#[100, 105, 115, 116, 105, 110, 99, 116]⟩))) := by
  rcases kw_cases s with ⟨h1, h2⟩ | ⟨k, hk, rfl, h2⟩
  · unfold headB
    rw [h1]
    have n1 : ¬ s = ⟨#[116, 114, 117, 101]⟩ := fun e => h2 ⟨⟨#[116, 114, 117, 101]⟩, 1, false, true⟩ (by simp [kws]) e.symm
    have n2 : ¬ s = ⟨#[100, 111, 101, 115]⟩ := fun e => h2 ⟨⟨#[100, 111, 101, 115]⟩, 2, false, true⟩ (by simp [kws]) e.symm
    have n3 : ¬ s = ⟨#[100, 105, 115, 116, 105, 110, 99, 116]⟩ := fun e => h2 ⟨⟨#[100, 105, 115, 116, 105, 110, 99, 116]⟩, 2, false, true⟩ (by simp [kws]) e.symm
    rw [decide_eq_false n1, decide_eq_false n2, decide_eq_false n3]; rfl
  · clear h2
    simp only [kws, List.mem_cons, List.not_mem_nil, or_false] at hk
    rcases hk with rfl | rfl | rfl | rfl | rfl | rfl | rfl | rfl | rfl | rfl <;> kernel_rfl
theorem bodyB_eq (s : ByteArray) : bodyB s = (!(kwOf s).isSome || (decide (s = ⟨#[114, 111, 108, 101]⟩) || (decide (s = ⟨#[116, 114, 117, 101]⟩) || (decide (s = ⟨#[100, 111, 101, 115]⟩) || decide (s = ⟨#[100, 105, 115, 116, 105, 110, 99, 116]⟩))))) := by
  rcases kw_cases s with ⟨h1, h2⟩ | ⟨k, hk, rfl, h2⟩
  · unfold bodyB; rw [h1]; rfl
  · clear h2
    simp only [kws, List.mem_cons, List.not_mem_nil, or_false] at hk
    rcases hk with rfl | rfl | rfl | rfl | rfl | rfl | rfl | rfl | rfl | rfl <;> kernel_rfl

set_option maxRecDepth 100000 in
set_option maxHeartbeats 2000000 in
theorem head_ (s : ByteArray) (w : World) : Calls Tryz.prog 71 #[.string s] w fun e w' => e = .returned (.bool (headB s)) ∧ w = w' := by
  have HB := Lib.hid (headB_eq s)
  have e1 : (s.toList != [116, 114, 117, 101]) = !decide (s = ⟨#[116, 114, 117, 101]⟩) := by rw [bne, kwe_true]
  have e2 : (s.toList != [100, 111, 101, 115]) = !decide (s = ⟨#[100, 111, 101, 115]⟩) := by rw [bne, kwe_does]
  have e3 : (s.toList != [100, 105, 115, 116, 105, 110, 99, 116]) = !decide (s = ⟨#[100, 105, 115, 116, 105, 110, 99, 116]⟩) := by rw [bne, kwe_distinct]
  have f1 := kwe_true s
  have f2 := kwe_does s
  have f3 := kwe_distinct s
  generalize decide (s = ⟨#[116, 114, 117, 101]⟩) = q1 at *
  generalize decide (s = ⟨#[100, 111, 101, 115]⟩) = q2 at *
  generalize decide (s = ⟨#[100, 105, 115, 116, 105, 110, 99, 116]⟩) = q3 at *
  generalize headB s = R at *
  cases q1 <;> cases q2 <;> cases q3
  all_goals
    go_enter Tryz.func71, Tryz.ntmps71
    go_wp2
    go_ret
    exact ⟨by rw [HB.out]; rfl, rfl⟩

set_option maxRecDepth 100000 in
set_option maxHeartbeats 4000000 in
theorem body_ (s : ByteArray) (w : World) : Calls Tryz.prog 72 #[.string s] w fun e w' => e = .returned (.bool (bodyB s)) ∧ w = w' := by
  have HB := Lib.hid (bodyB_eq s)
  have f0 := kwe_role s
  have f1 := kwe_true s
  have f2 := kwe_does s
  have f3 := kwe_distinct s
  have hkw := fun wz => ref11Keyword s wz
  generalize decide (s = ⟨#[114, 111, 108, 101]⟩) = q0 at *
  generalize decide (s = ⟨#[116, 114, 117, 101]⟩) = q1 at *
  generalize decide (s = ⟨#[100, 111, 101, 115]⟩) = q2 at *
  generalize decide (s = ⟨#[100, 105, 115, 116, 105, 110, 99, 116]⟩) = q3 at *
  generalize bodyB s = R at *
  generalize (kwOf s).isSome = ks at *
  generalize kwA (kwOf s) = ka at *
  cases ks with
  | false =>
    go_enter Tryz.func72, Tryz.ntmps72
    go_wp2_with (go_at_call 10; refine (hkw _).mono ?_; rintro e w1 ⟨rfl, rfl⟩)
    go_ret
    exact ⟨by rw [HB.out]; rfl, rfl⟩
  | true =>
    cases q0 <;> cases q1 <;> cases q2 <;> cases q3
    all_goals
      go_enter Tryz.func72, Tryz.ntmps72
      go_wp2_with (go_at_call 10; refine (hkw _).mono ?_; rintro e w1 ⟨rfl, rfl⟩)
      go_ret
      exact ⟨by rw [HB.out]; rfl, rfl⟩

/-- a variable, as layer 7 says -/
def isV (t : Tm) : Bool := decide (t.args.length = 0) && varB t.name
set_option maxRecDepth 100000 in
set_option maxHeartbeats 2000000 in
theorem variable7_ (nm : ByteArray) (a : Option Addr) (n c : Nat) (w : World) (hs : nm.size ≤ maxLen) :
    Calls Tryz.prog 104 #[.agg #[.string nm, .slice a n c]] w fun e w' => e = .returned (.bool (decide (n = 0) && varB nm)) ∧ Ch [] w w' := by
  have hbx := Blk.new w 28 #[.string nm, .slice a n c]
  have hcA : Ch [] w (w.alloc (.cells #[.string nm, .slice a n c] 28)) := (Ch.refl _ _).alloc _
  have b0 := hbx.cell 0
  have b1 := hbx.cell 1
  have hvar := fun wz => ref01Variable nm wz hs
  have e1 : ((n : Int) == 0) = decide (n = 0) := by rw [Bool.eq_iff_iff]; simp
  generalize decide (n = 0) = q at *
  generalize varB nm = r at *
  cases q
  all_goals
    go_enter Tryz.func104, Tryz.ntmps104
    go_wp2_with (go_at_call 56; refine (hvar _).mono ?_; rintro e w1 ⟨rfl, rfl⟩)
    go_ret
    exact ⟨rfl, hcA⟩

/-- the error of an atom, apart from its place -/
def atomR (t : Tm) : Int :=
  if (!nameB t.name || misL t.args) = true then 4
  else if (wideT t || match kwOf t.name with | some k => !decide (t.args.length = k.a) | none => false) = true then 5
  else if 4 < t.dep then 3
  else 0
theorem misT_name {t : Tm} (h : nameB t.name = true) : misT t = misL t.args := by rw [mis_eq, h]; simp
theorem atomE_R (t : Tm) (hd : Bool) : atomE t hd = if atomR t ≠ 0 then atomR t else if (if hd = true then headB t.name else bodyB t.name) = true then 0 else 6 := by
  have hm : (!nameB t.name || misT t) = (!nameB t.name || misL t.args) := by
    cases h : nameB t.name with
    | false => rfl
    | true => rw [misT_name h]
  unfold atomE atomR headB bodyB
  rw [hm]
  generalize (!nameB t.name || misL t.args) = q1
  generalize wideT t = q3
  cases kwOf t.name with
  | none =>
    cases q1 <;> cases q3 <;> cases hd <;> by_cases h4 : 4 < t.dep <;> simp [h4]
  | some k =>
    obtain ⟨kn, ka, kh, kb⟩ := k
    by_cases hl : t.args.length = ka <;> cases q1 <;> cases q3 <;> cases hd <;> cases kh <;> cases kb <;> by_cases h4 : 4 < t.dep <;> simp [h4, hl]
set_option maxRecDepth 100000 in
set_option maxHeartbeats 8000000 in
theorem atomR_ (t : Tm) (p : Nat → Prop) (v : Value) (w : World) (B b : Nat) (h : SlT p w v t.args) (hN : Nice B b t) (hBm : B ≤ maxLen) (hdm : t.dep ≤ 1000000000) :
    Calls Tryz.prog 70 #[.agg #[.string t.name, v]] w fun e w' => e = .returned (.int .i64 (atomR t)) ∧ Ch [] w w' := by
  have hnm : t.name.size ≤ maxLen := by
    obtain ⟨nm, ags⟩ := t
    simp only [Nice] at hN
    have := hN.1
    simp only [Tm.name]; omega
  have hkw := fun wz => ref11Keyword t.name wz
  have hname := fun wz => ref01Name t.name wz hnm
  have hmis := fun wz (hz : Ch [] w wz) => named_ t.dep t (Nat.le_refl _) B b hN hBm p v wz (h.ch0 hz)
  have hnar := fun wz (hz : Ch [] w wz) => narrow_ t.dep t (Nat.le_refl _) p v wz (h.ch0 hz)
  have hdep := fun wz (hz : Ch [] w wz) => ref01Depth t.dep t (Nat.le_refl _) p v wz (h.ch0 hz) hdm
  obtain ⟨a, c, rfl, hlc, hmx⟩ := h.form
  have hbx := Blk.new w 28 #[.string t.name, .slice a t.args.length c]
  have hcA : Ch [] w (w.alloc (.cells #[.string t.name, .slice a t.args.length c] 28)) := (Ch.refl _ _).alloc _
  generalize hwA : (w.alloc (.cells #[.string t.name, .slice a t.args.length c] 28)) = wA at *
  have b0 := hbx.cell 0
  have b1 := hbx.cell 1
  have hb0 := fun wz (hz : Ch [] wA wz) => (hbx.ch hz (by simp)).cell 0
  have hb1 := fun wz (hz : Ch [] wA wz) => (hbx.ch hz (by simp)).cell 1
  have HE := Lib.hid (show atomR t = if (!nameB t.name || misL t.args) = true then 4 else if (wideT t || match kwOf t.name with | some k => !decide (t.args.length = k.a) | none => false) = true then 5 else if 4 < t.dep then 3 else 0 from rfl)
  clear h hN hBm hnm
  generalize atomR t = E at *
  generalize nameB t.name = x1 at *
  generalize misL t.args = x2 at *
  generalize wideT t = x3 at *
  generalize kwOf t.name = ko at *
  generalize t.dep = D at *
  generalize t.name = nm at *
  generalize t.args.length = L at *
  cases x1 with
  | false =>
    have HX : Hid (E = 4) := by unfold Hid; rw [HE.out]; rfl
    clear hmis hnar hdep HE
    go_enter Tryz.func70, Tryz.ntmps70
    go_wp2_with (first
      | (go_at_call 10; refine (hkw _).mono ?_; rintro e w1 ⟨rfl, rfl⟩)
      | (go_at_call 37; refine (hname _).mono ?_; rintro e w1 ⟨rfl, rfl⟩))
    go_ret
    exact ⟨by rw [HX.out]; rfl, hcA⟩
  | true =>
    cases x2 with
    | true =>
      have HX : Hid (E = 4) := by unfold Hid; rw [HE.out]; rfl
      clear hnar hdep HE
      go_enter Tryz.func70, Tryz.ntmps70
      go_wp2_with (first
        | (go_at_call 10; refine (hkw _).mono ?_; rintro e w1 ⟨rfl, rfl⟩)
        | (go_at_call 37; refine (hname _).mono ?_; rintro e w1 ⟨rfl, rfl⟩)
        | (go_at_call 101; refine (hmis _ hcA).mono ?_; rintro e w2 ⟨rfl, hc2⟩))
      go_ret
      exact ⟨by rw [HX.out]; rfl, hcA.trans hc2⟩
    | false =>
      cases x3 with
      | true =>
        have HX : Hid (E = 5) := by unfold Hid; rw [HE.out]; rfl
        clear hdep HE
        go_enter Tryz.func70, Tryz.ntmps70
        go_wp2_with (first
          | (go_at_call 10; refine (hkw _).mono ?_; rintro e w1 ⟨rfl, rfl⟩)
          | (go_at_call 37; refine (hname _).mono ?_; rintro e w1 ⟨rfl, rfl⟩)
          | (go_at_call 101; refine (hmis _ hcA).mono ?_; rintro e w2 ⟨rfl, hc2⟩; have p20 := hb0 _ hc2; have p21 := hb1 _ hc2)
          | (go_at_call 102; refine (hnar _ (hcA.trans hc2)).mono ?_; rintro e w3 ⟨rfl, hc3⟩))
        go_ret
        exact ⟨by rw [HX.out]; rfl, (hcA.trans hc2).trans hc3⟩
      | false =>
        have hcs : (∃ k : Kw, ko = some k ∧ L ≠ k.a) ∨ (ko = none ∨ ∃ k : Kw, ko = some k ∧ L = k.a) := by
          cases ko with
          | none => exact .inr (.inl rfl)
          | some k =>
            by_cases hq : L = k.a
            · exact .inr (.inr ⟨k, rfl, hq⟩)
            · exact .inl ⟨k, rfl, hq⟩
        rcases hcs with ⟨k, rfl, hq⟩ | hcs
        · have HX : Hid (E = 5) := by unfold Hid; rw [HE.out]; simp [hq]
          have e6 : ((L : Int) != (k.a : Int)) = true := by simp; omega
          clear hdep HE hq
          have hka : kwA (some k) = (k.a : Int) := rfl
          rw [hka] at hkw
          generalize k.a = ka at *
          go_enter Tryz.func70, Tryz.ntmps70
          go_wp2_with (first
            | (go_at_call 10; refine (hkw _).mono ?_; rintro e w1 ⟨rfl, rfl⟩)
            | (go_at_call 37; refine (hname _).mono ?_; rintro e w1 ⟨rfl, rfl⟩)
            | (go_at_call 101; refine (hmis _ hcA).mono ?_; rintro e w2 ⟨rfl, hc2⟩; have p20 := hb0 _ hc2; have p21 := hb1 _ hc2)
            | (go_at_call 102; refine (hnar _ (hcA.trans hc2)).mono ?_; rintro e w3 ⟨rfl, hc3⟩; have p30 := hb0 _ (hc2.trans hc3); have p31 := hb1 _ (hc2.trans hc3)))
          go_ret
          exact ⟨by rw [HX.out]; rfl, (hcA.trans hc2).trans hc3⟩
        · have HE2 : Hid (E = if 4 < D then 3 else 0) := by
            unfold Hid
            rw [HE.out]
            rcases hcs with rfl | ⟨k, rfl, hq⟩
            · rfl
            · simp [hq]
          have e6 : ∀ k : Kw, ko = some k → ((L : Int) != (k.a : Int)) = false := by
            intro k hk
            rcases hcs with h | ⟨k', h, hq⟩
            · rw [h] at hk; cases hk
            · rw [h] at hk; injection hk with hk; subst hk; rw [hq]; simp
          clear HE hcs
          by_cases h4 : 4 < D
          · have HX : Hid (E = 3) := by unfold Hid; rw [HE2.out, if_pos h4]
            have d4 : decide ((4 : Int) < (D : Int)) = true := decide_eq_true (by omega)
            clear h4 HE2
            cases ko with
            | none =>
              clear e6
              go_enter Tryz.func70, Tryz.ntmps70
              go_wp2_with (first
                | (go_at_call 10; refine (hkw _).mono ?_; rintro e w1 ⟨rfl, rfl⟩)
                | (go_at_call 37; refine (hname _).mono ?_; rintro e w1 ⟨rfl, rfl⟩)
                | (go_at_call 101; refine (hmis _ hcA).mono ?_; rintro e w2 ⟨rfl, hc2⟩; have p20 := hb0 _ hc2; have p21 := hb1 _ hc2)
                | (go_at_call 102; refine (hnar _ (hcA.trans hc2)).mono ?_; rintro e w3 ⟨rfl, hc3⟩; have p30 := hb0 _ (hc2.trans hc3); have p31 := hb1 _ (hc2.trans hc3))
                | (go_at_call 103; refine (hdep _ ((hcA.trans hc2).trans hc3)).mono ?_; rintro e w4 ⟨rfl, hc4⟩))
              go_ret
              exact ⟨by rw [HX.out]; rfl, ((hcA.trans hc2).trans hc3).trans hc4⟩
            | some k =>
              have e6 := e6 k rfl
              have hka : kwA (some k) = (k.a : Int) := rfl
              rw [hka] at hkw
              generalize k.a = ka at *
              go_enter Tryz.func70, Tryz.ntmps70
              go_wp2_with (first
                | (go_at_call 10; refine (hkw _).mono ?_; rintro e w1 ⟨rfl, rfl⟩)
                | (go_at_call 37; refine (hname _).mono ?_; rintro e w1 ⟨rfl, rfl⟩)
                | (go_at_call 101; refine (hmis _ hcA).mono ?_; rintro e w2 ⟨rfl, hc2⟩; have p20 := hb0 _ hc2; have p21 := hb1 _ hc2)
                | (go_at_call 102; refine (hnar _ (hcA.trans hc2)).mono ?_; rintro e w3 ⟨rfl, hc3⟩; have p30 := hb0 _ (hc2.trans hc3); have p31 := hb1 _ (hc2.trans hc3))
                | (go_at_call 103; refine (hdep _ ((hcA.trans hc2).trans hc3)).mono ?_; rintro e w4 ⟨rfl, hc4⟩))
              go_ret
              exact ⟨by rw [HX.out]; rfl, ((hcA.trans hc2).trans hc3).trans hc4⟩
          · have HX : Hid (E = 0) := by unfold Hid; rw [HE2.out, if_neg h4]
            have d4 : decide ((4 : Int) < (D : Int)) = false := decide_eq_false (by omega)
            clear h4 HE2
            cases ko with
            | none =>
              clear e6
              go_enter Tryz.func70, Tryz.ntmps70
              go_wp2_with (first
                | (go_at_call 10; refine (hkw _).mono ?_; rintro e w1 ⟨rfl, rfl⟩)
                | (go_at_call 37; refine (hname _).mono ?_; rintro e w1 ⟨rfl, rfl⟩)
                | (go_at_call 101; refine (hmis _ hcA).mono ?_; rintro e w2 ⟨rfl, hc2⟩; have p20 := hb0 _ hc2; have p21 := hb1 _ hc2)
                | (go_at_call 102; refine (hnar _ (hcA.trans hc2)).mono ?_; rintro e w3 ⟨rfl, hc3⟩; have p30 := hb0 _ (hc2.trans hc3); have p31 := hb1 _ (hc2.trans hc3))
                | (go_at_call 103; refine (hdep _ ((hcA.trans hc2).trans hc3)).mono ?_; rintro e w4 ⟨rfl, hc4⟩))
              go_ret
              exact ⟨by rw [HX.out]; rfl, ((hcA.trans hc2).trans hc3).trans hc4⟩
            | some k =>
              have e6 := e6 k rfl
              have hka : kwA (some k) = (k.a : Int) := rfl
              rw [hka] at hkw
              generalize k.a = ka at *
              go_enter Tryz.func70, Tryz.ntmps70
              go_wp2_with (first
                | (go_at_call 10; refine (hkw _).mono ?_; rintro e w1 ⟨rfl, rfl⟩)
                | (go_at_call 37; refine (hname _).mono ?_; rintro e w1 ⟨rfl, rfl⟩)
                | (go_at_call 101; refine (hmis _ hcA).mono ?_; rintro e w2 ⟨rfl, hc2⟩; have p20 := hb0 _ hc2; have p21 := hb1 _ hc2)
                | (go_at_call 102; refine (hnar _ (hcA.trans hc2)).mono ?_; rintro e w3 ⟨rfl, hc3⟩; have p30 := hb0 _ (hc2.trans hc3); have p31 := hb1 _ (hc2.trans hc3))
                | (go_at_call 103; refine (hdep _ ((hcA.trans hc2).trans hc3)).mono ?_; rintro e w4 ⟨rfl, hc4⟩))
              go_ret
              exact ⟨by rw [HX.out]; rfl, ((hcA.trans hc2).trans hc3).trans hc4⟩
end

section
open Go.RowKit

theorem lvsT_fold {nm : ByteArray} {ags : List Tm} (h : (decide (ags.length = 0) && varB nm) = false) (ls : List ByteArray) : (lvsT (.mk nm ags)).foldl addV ls = (lvsL ags).foldl addV ls := by
  cases ags with
  | nil =>
    simp only [List.length_nil, decide_true, Bool.true_and] at h
    rw [lvsT_nil]
    simp [lvsL, addV, h]
  | cons a r => rw [lvsT_cons (by simp)]
set_option maxRecDepth 100000 in
set_option maxHeartbeats 8000000 in
theorem collect_ : ∀ (n : Nat) (t : Tm), t.dep ≤ n → ∀ (B b : Nat), Nice B b t → B ≤ maxLen → ∀ (p : Nat → Prop) (v : Value) (w : World) (base : Nat) (vl : Value) (ls : List ByteArray), SlT p w v t.args →
    Own w base 9 1 vl (ls.map encS) → (∀ b, p b → b < w.heap.size → vl.ownBlock ≠ some b) → base ≤ w.heap.size → ls.length + (lvsT t).length ≤ 1000000000 →
    Calls Tryz.prog 73 #[vl, .agg #[.string t.name, v]] w fun e w' => ∃ v', e = .returned v' ∧ Own w' base 9 1 v' (((lvsT t).foldl addV ls).map encS) ∧ Ch vl.ownBlock.toList w w' ∧ (v'.ownBlock = vl.ownBlock ∨ ∃ g, v'.ownBlock = some g ∧ w.heap.size ≤ g) := by
  intro n
  induction n with
  | zero => intro t ht; cases t; simp [Tm.dep] at ht
  | succ n ih =>
    intro t ht B b hN hBm p v w base vl ls h ho hsep hbase hlen
    obtain ⟨nm, ags⟩ := t
    obtain ⟨a, c, rfl, hlc, hmx⟩ := h.form
    have hfm := ho.form'
    rw [List.length_map] at hfm
    obtain ⟨al, cl, rfl⟩ := hfm
    simp only [Tm.args, Tm.name, Tm.dep] at h hlc ht ⊢
    simp only [Nice] at hN
    have HNI := Lib.hid (niceL_mem.1 hN.2.2)
    have hnm : nm.size ≤ maxLen := by omega
    have HBM := Lib.hid hBm; clear hBm hN
    unfold maxLen at hmx
    have HIH := Lib.hid ih; clear ih
    have hbx := Blk.new w 28 #[.string nm, .slice a ags.length c]
    have hcA : Ch [] w (w.alloc (.cells #[.string nm, .slice a ags.length c] 28)) := (Ch.refl _ _).alloc _
    have b0 := hbx.cell 0
    have b1 := hbx.cell 1
    have hvar := fun wz => variable7_ nm a ags.length c wz hnm
    have hown0 : ∀ g, (Value.slice al ls.length cl).ownBlock = some g → base ≤ g ∧ g < w.heap.size := fun g hg => ho.lt hg
    generalize hwA : (w.alloc (.cells #[.string nm, .slice a ags.length c] 28)) = wA at *
    cases hV : (decide (ags.length = 0) && varB nm) with
    | true =>
      rw [hV] at hvar
      rw [Bool.and_eq_true, decide_eq_true_eq] at hV
      obtain ⟨hz, hvb⟩ := hV
      have hnil : ags = [] := List.eq_nil_of_length_eq_zero hz
      subst hnil
      simp only [List.length_nil] at hwA b1 hbx hvar
      rw [lvsT_nil] at hlen ⊢
      have HF : Hid ([nm].foldl addV ls = if (varB nm && !hasS ls nm) = true then ls ++ [nm] else ls) := rfl
      generalize [nm].foldl addV ls = R at *
      have HVB := Lib.hid hvb; clear hvb hz
      have hlen1 : ls.length ≤ 1000000000 := by simp at hlen; omega
      go_enter Tryz.func73, Tryz.ntmps73
      go_wp2_with (go_at_call 104; refine (hvar _).mono ?_; rintro e w1 ⟨rfl, hc1⟩; clear hvar)
      have hC1 := hcA.trans hc1
      have ho1 := ho.ch0' hC1
      have hbx1 := hbx.ch hc1 (by simp)
      go_loopw [5] (fun i wr => ∃ k : Nat, k ≤ ls.length ∧ i = .int .i64 k ∧ Ch [] w1 wr ∧ Hid (hasS (ls.take k) nm = false)) (fun i _ => ls.length - (intOf i).toNat)
      case atStart => exact ⟨0, Nat.zero_le _, rfl, Ch.refl _ _, by simp [Hid, hasS]⟩
      case round =>
        obtain ⟨k, hk, rfl, hB, HN⟩ := hrel
        have hor := ho1.ch0' hB
        have hbr := hbx1.ch hB (by simp)
        by_cases hlt : k < ls.length
        · obtain ⟨bb, o, rfl, hp, c0⟩ := SlS.at_ hor.sl hlt
          have HS := Lib.hid (hasS_snoc ls nm k hlt)
          have HAT := Lib.hid (fun he => hasS_at ls nm k hlt he)
          have j1 : decide (k < ls.length) = true := decide_eq_true hlt
          have i1 : (k : Int) < (ls.length : Int) := by omega
          have l0 := Later.cell c0
          have l1 := Later.cell (hbr.cell 0)
          have hbs := beqS ls[k] nm
          clear c0
          by_cases he : ls[k] = nm
          · have HX : Hid (R = ls) := by unfold Hid; rw [HF.out, HAT.out he]; simp
            rw [decide_eq_true he] at hbs
            clear he HAT HS
            generalize ls[k] = s at *
            go_wp2
            refine wp_region_later (by kernel_rfl) (lexB_of (by kernel_rfl)) ?_
            repeat (go_big_quiet_step (fail))
            refine wpQuiet_nil ?_
            intro w3 hw3
            clear l0 l1
            go_wp2
            go_ret
            exact ⟨_, rfl, by rw [HX.out]; exact hor.ch0' hw3, ((hC1.trans hB).trans hw3).of_nil, .inl rfl⟩
          · have HX : Hid (hasS (ls.take (k + 1)) nm = false) := by unfold Hid; rw [HS.out, HN.out, decide_eq_false he]; rfl
            rw [decide_eq_false he] at hbs
            clear he HAT HS
            generalize ls[k] = s at *
            go_wp2
            refine wp_region_later (by kernel_rfl) (lexB_of (by kernel_rfl)) ?_
            repeat (go_big_quiet_step (fail))
            refine wpQuiet_nil ?_
            intro w3 hw3
            clear l0 l1
            go_wp2
            go_roundw
            case rel => exact ⟨k + 1, by omega, by go_num, hB.trans hw3, HX⟩
            case measure => simp [intOf]; omega
        · have HX : Hid (R = ls ++ [nm]) := by
            have := HN.out
            rw [List.take_of_length_le (by omega)] at this
            unfold Hid; rw [HF.out, HVB.out, this]; rfl
          have j1 : decide (k < ls.length) = false := decide_eq_false hlt
          have hbr0 := hbr.cell 0
          have hszr := (hC1.trans hB).size
          go_wp2_with (first | (at_builtin; refine wpList_append_sl rfl _ _ _ rfl elS (base := base) (v := .slice al ls.length cl) (css := ls.map encS) rfl (hor.ch0' ((Ch.refl [] wr).alloc _)) rfl (Sl.one wr 1 _ [.string nm] rfl (by simp [Value.oneCell'])) (by simp; omega) (by simp; omega) ?_; intro v6 w6 ho6 hc6 hat6 hn6; clear hn6))
          go_ret
          refine ⟨_, rfl, by rw [HX.out]; simpa [encS] using ho6, ((hC1.trans hB).alloc _).of_nil.trans hc6, ?_⟩
          rcases hat6 with e1 | e1
          · exact .inl e1
          · exact .inr ⟨_, e1, by simp; omega⟩
    | false =>
      rw [hV] at hvar
      have HL := Lib.hid (lvsT_fold hV ls)
      have hll : (lvsL ags).length ≤ (lvsT (.mk nm ags)).length := by
        cases ags with
        | nil => simp [lvsL]
        | cons x r => rw [lvsT_cons (by simp)]; exact Nat.le_refl _
      clear hV
      generalize (lvsT (.mk nm ags)).foldl addV ls = R at *
      generalize (lvsT (.mk nm ags)).length = ll at *
      go_enter Tryz.func73, Tryz.ntmps73
      go_wp2_with (go_at_call 104; refine (hvar _).mono ?_; rintro e w1 ⟨rfl, hc1⟩; clear hvar)
      have hC1 := hcA.trans hc1
      have hbx1 := hbx.ch hc1 (by simp)
      have hsz1 := hC1.size
      go_loopw [0, 6] (fun lv i wr => ∃ k : Nat, k ≤ ags.length ∧ i = .int .i64 k ∧ Ch (Value.slice al ls.length cl).ownBlock.toList w1 wr ∧ Own wr base 9 1 lv (((lvsL (ags.take k)).foldl addV ls).map encS) ∧ (lv.ownBlock = (Value.slice al ls.length cl).ownBlock ∨ ∃ g, lv.ownBlock = some g ∧ w1.heap.size ≤ g)) (fun _ i _ => ags.length - (intOf i).toNat)
      case atStart => exact ⟨0, Nat.zero_le _, rfl, Ch.refl _ _, by simpa [lvsL] using ho.ch0' hC1, .inl rfl⟩
      case round =>
        obtain ⟨k, hk, rfl, hB, hown, hat⟩ := hrel
        have hbr1 := (hbx1.ch hB (fun hm => by simp at hm; have := (hown0 _ hm).2; omega)).cell 1
        by_cases hlt : k < ags.length
        · have hT0 : SlT (fun b => p b ∧ b < w.heap.size) wr (.slice a ags.length c) ags := (h.small.ch0 hC1).ch hB (fun b hb hpb hm => by
            have := hsep b hpb.1 hpb.2
            simp at hm
            exact this hm)
          obtain ⟨b', o, a', c', rfl, hp, c0, c1, hT⟩ := hT0.at_ hlt
          have HDR : Hid ((lvsL (ags.take (k + 1))).foldl addV ls = (lvsT ags[k]).foldl addV ((lvsL (ags.take k)).foldl addV ls)) := by unfold Hid; rw [lvsL_snoc ags k hlt, List.foldl_append]
          have hle := lvsL_le ags k hlt
          have hxd := deps_mem (List.getElem_mem hlt)
          have hnx := HNI.out _ (List.getElem_mem hlt)
          have hfl := addV_len (lvsL (ags.take k)) ls
          have j1 : decide (k < ags.length) = true := decide_eq_true hlt
          generalize ags[k] = x at *
          have hszB := hB.size
          have hcall := HIH.out x (by omega) B b hnx HBM.out _ _ _ base u0 ((lvsL (ags.take k)).foldl addV ls) hT hown (fun b hpb hb e => by
            rcases hat with e1 | ⟨g, e1, e2⟩
            · rw [e1] at e; exact hsep b hpb.1 hpb.2 e
            · rw [e1] at e; injection e with e; have := hpb.2; omega) (by omega) (by omega)
          go_wp2_with (go_at_call 73; refine hcall.mono ?_; rintro e w2 ⟨v1, rfl, ho1, hc2, hat1⟩; clear hcall)
          go_roundw
          case rel =>
            refine ⟨k + 1, by omega, by go_num, hB.step hc2 (fun y hy => ?_), by rw [HDR.out]; exact ho1, ?_⟩
            · rcases hat with e1 | ⟨g, e1, e2⟩
              · rw [e1] at hy; exact .inl hy
              · rw [e1] at hy; simp at hy; subst hy; exact .inr e2
            · rcases hat1 with e3 | ⟨g, e3, e4⟩
              · rw [e3]; exact hat
              · exact .inr ⟨g, e3, by omega⟩
          case measure => simp [intOf]; omega
        · have hr : (lvsL (ags.take k)).foldl addV ls = R := by rw [List.take_of_length_le (by omega), ← HL.out]
          rw [hr] at hown
          clear hr
          have j1 : decide (k < ags.length) = false := decide_eq_false hlt
          go_wp2
          go_ret
          exact ⟨_, rfl, hown, hC1.of_nil.trans hB, hat.imp id fun ⟨g, e1, e2⟩ => ⟨g, e1, by omega⟩⟩
end

section
open Go.RowKit

set_option maxRecDepth 100000 in
set_option maxHeartbeats 8000000 in
theorem refVars7_ (r : Ru) (p : Nat → Prop) (vh vb : Value) (w : World) (B b : Nat) (hh : SlT p w vh r.head.args) (hb : SlLi p w vb r.body) (hO : RuOk B b r) :
    Calls Tryz.prog 35 #[.agg #[.string r.head.name, vh, vb]] w fun e w' => ∃ v', e = .returned v' ∧ Own w' w.heap.size 9 1 v' ((varsL (atomsOf r)).map encS) ∧ Ch [] w w' := by
  have hall := hO.all.1
  have HNI := Lib.hid hO.nice
  have HBM := Lib.hid hO.B
  have hlen := hO.len
  have HV : Hid (varsL (atomsOf r) = (lvsL (atomsOf r)).foldl addV []) := rfl
  obtain ⟨hd, body⟩ := r
  have HAT : Hid (atomsOf ⟨hd, body⟩ = hd :: body.map (·.atom)) := rfl
  have HLE : Hid (∀ k, (hk : k < body.length) → (lvsL (hd :: (body.take k).map (·.atom))).length + (lvsT body[k].atom).length ≤ 1000000000) := fun k hk => by
    have h1 : atomsOf ⟨hd, body⟩ = (hd :: (body.take (k + 1)).map (·.atom)) ++ (body.drop (k + 1)).map (·.atom) := by
      rw [HAT.out, List.cons_append, ← List.map_append, List.take_append_drop]
    have h2 : hd :: (body.take (k + 1)).map (·.atom) = (hd :: (body.take k).map (·.atom)) ++ [body[k].atom] := by
      rw [take_snoc body k hk, List.map_append]; rfl
    have h3 : (lvsL [body[k].atom]).length = (lvsT body[k].atom).length := by simp [lvsL]
    rw [h1, lvsL_append, h2, lvsL_append, List.length_append, List.length_append, h3] at hall
    omega
  have HL0 : Hid ((lvsT hd).length ≤ 1000000000) := by
    unfold Hid
    rw [HAT.out] at hall
    simp only [lvsL, List.length_append] at hall
    omega
  generalize varsL (atomsOf ⟨hd, body⟩) = R at *
  simp only at hh hb hlen ⊢
  have hh0 := hh.small
  have hb0 : SlLi (fun x => p x ∧ x < w.heap.size) w vb body := hb.weak fun x hx hp => ⟨hp, hx⟩
  have hhn := HNI.out hd (by rw [HAT.out]; simp)
  obtain ⟨ah, ch, rfl, _, _⟩ := hh.form
  obtain ⟨a, c, rfl, hlc, hmx⟩ := hb.form
  unfold maxLen at hmx
  clear hh hb hall
  have hbx := Blk.new w 31 #[.string hd.name, .slice ah hd.args.length ch, .slice a body.length c]
  have hcA : Ch [] w (w.alloc (.cells #[.string hd.name, .slice ah hd.args.length ch, .slice a body.length c] 31)) := (Ch.refl _ _).alloc _
  have b0 := hbx.cell 0
  have b1 := hbx.cell 1
  have hc0 := collect_ hd.dep hd (Nat.le_refl _) B b hhn HBM.out _ _ _ (w.heap.size + 1) (.slice none 0 0) [] (hh0.ch0 hcA) (Own.nil _ _ _ _) (fun b _ _ e => by simp [Value.ownBlock] at e) (by simp) (by have := HL0.out; simp; omega)
  generalize hwA : (w.alloc (.cells #[.string hd.name, .slice ah hd.args.length ch, .slice a body.length c] 31)) = wA at *
  go_enter Tryz.func35, Tryz.ntmps35
  go_wp2_with (go_at_call 73; refine hc0.mono ?_; rintro e w1 ⟨v1, rfl, ho1, hc1, hat1⟩; clear hc0)
  have hC1 : Ch [] w w1 := hcA.trans (hc1.mono (by simp [Value.ownBlock]))
  have hbx1 := hbx.ch (S := []) (hc1.mono (by simp [Value.ownBlock])) (by simp)
  clear b0 b1 hwA hat1 hc1 hhn hh0
  go_loopw [3, 4] (fun lv i wr => ∃ k : Nat, k ≤ body.length ∧ i = .int .i64 k ∧ Ch [] w wr ∧ Blk wr w.heap.size 31 #[.string hd.name, .slice ah hd.args.length ch, .slice a body.length c] ∧ Own wr (w.heap.size + 1) 9 1 lv (((lvsL (hd :: (body.take k).map (·.atom))).foldl addV []).map encS)) (fun _ i _ => body.length - (intOf i).toNat)
  case atStart => exact ⟨0, Nat.zero_le _, rfl, hC1, hbx1, by simpa [lvsL] using ho1⟩
  case round =>
    obtain ⟨k, hk, rfl, hB, hbr, hown⟩ := hrel
    have hbr2 := hbr.cell 2
    have hsB := hbr.lt
    by_cases hlt : k < body.length
    · obtain ⟨b', o, a', c', rfl, hp, c0, c1, c2, hT⟩ := (hb0.ch0 hB).at_ hlt
      have hle := HLE.out k hlt
      have hnx := HNI.out body[k].atom (by rw [HAT.out]; exact List.mem_cons_of_mem _ (List.mem_map.2 ⟨_, List.getElem_mem hlt, rfl⟩))
      have HDR : Hid ((lvsL (hd :: (body.take (k + 1)).map (·.atom))).foldl addV [] = (lvsT body[k].atom).foldl addV ((lvsL (hd :: (body.take k).map (·.atom))).foldl addV [])) := by
        unfold Hid
        rw [take_snoc body k hlt, List.map_append, ← List.cons_append, lvsL_append, List.foldl_append]
        simp [lvsL]
      have hfl := addV_len (lvsL (hd :: (body.take k).map (·.atom))) []
      rw [List.length_nil, Nat.zero_add] at hfl
      have j1 : decide (k < body.length) = true := decide_eq_true hlt
      generalize body[k] = x at *
      obtain ⟨xn, xa⟩ := x
      simp only at hnx hle HDR c0 c1 c2 hT
      generalize (lvsL (hd :: (body.take k).map (·.atom))).foldl addV [] = L0 at *
      have hcall := collect_ xa.dep xa (Nat.le_refl _) B b hnx HBM.out _ _ _ (w.heap.size + 1) u3 L0 hT hown (fun b hpb hb e => by have := (hown.lt e).1; have := hpb.2; omega) (by omega) (by omega)
      have HLV := Lib.hid (show ∀ b, u3.ownBlock = some b → w.heap.size + 1 ≤ b ∧ b < wr.heap.size from fun b hb => hown.lt hb)
      go_wp2_with (go_at_call 73; refine hcall.mono ?_; rintro e w2 ⟨v2, rfl, ho2, hc2, hat2⟩; clear hcall)
      go_roundw
      case rel =>
        exact ⟨k + 1, by omega, by go_num, hB.step hc2 (fun y hy => by simp at hy; have := (HLV.out y hy).1; exact .inr (by omega)), hbr.ch hc2 (fun hm => by simp at hm; have := (HLV.out _ hm).1; omega), by rw [HDR.out]; exact ho2⟩
      case measure => simp [intOf]; omega
    · have hr : (lvsL (hd :: (body.take k).map (·.atom))).foldl addV [] = R := by rw [List.take_of_length_le (by omega), HV.out, HAT.out]
      rw [hr] at hown
      clear hr
      have j1 : decide (k < body.length) = false := decide_eq_false hlt
      go_wp2
      go_ret
      exact ⟨_, rfl, hown.base_le (by omega), hB⟩
end

section
open Go.RowKit

set_option maxRecDepth 100000 in
set_option maxHeartbeats 2000000 in
theorem binds_ (nt : Bool) (nm : ByteArray) (a : Option Addr) (n c : Nat) (w : World) :
    Calls Tryz.prog 75 #[.agg #[.bool nt, .string nm, .slice a n c]] w fun e w' => e = .returned (.bool (!nt && !decide (nm = dis))) ∧ Ch [] w w' := by
  have hbx := Blk.new w 53 #[.bool nt, .string nm, .slice a n c]
  have hcA : Ch [] w (w.alloc (.cells #[.bool nt, .string nm, .slice a n c] 53)) := (Ch.refl _ _).alloc _
  have b0 := hbx.cell 0
  have b1 := hbx.cell 1
  have e0 := dis_eq nm
  have e1 : (nm.toList != [100, 105, 115, 116, 105, 110, 99, 116]) = !decide (nm = dis) := by rw [bne, dis_eq]
  generalize decide (nm = dis) = q at *
  cases nt <;> cases q
  all_goals
    go_enter Tryz.func75, Tryz.ntmps75
    go_wp2
    go_ret
    exact ⟨rfl, hcA⟩

theorem atomsE_cons (hd : Tm) (body : List Li) : atomsE true (hd :: body.map (·.atom)) = if atomE hd true ≠ 0 then atomE hd true else atomsE false (body.map (·.atom)) := by
  rw [atomsE]
  split <;> simp_all
set_option maxRecDepth 100000 in
set_option maxHeartbeats 8000000 in
theorem refAtoms_ (r : Ru) (p : Nat → Prop) (vh vb : Value) (w : World) (B b : Nat) (hh : SlT p w vh r.head.args) (hb : SlLi p w vb r.body) (hO : RuOk B b r) :
    Calls Tryz.prog 34 #[.agg #[.string r.head.name, vh, vb]] w fun e w' => e = .returned (.int .i64 (atomsE true (atomsOf r))) ∧ Ch [] w w' := by
  have HAR := Lib.hid (fun (t : Tm) (ht : t ∈ atomsOf r) (q : Nat → Prop) (v : Value) (wz : World) (hz : SlT q wz v t.args) => atomR_ t q v wz B b hz (hO.nice t ht) hO.B (hO.dep t ht))
  obtain ⟨hd, body⟩ := r
  have HAT : Hid (atomsOf ⟨hd, body⟩ = hd :: body.map (·.atom)) := rfl
  have HE : Hid (atomsE true (atomsOf ⟨hd, body⟩) = if atomE hd true ≠ 0 then atomE hd true else atomsE false (body.map (·.atom))) := by unfold Hid; rw [HAT.out, atomsE_cons]
  have HH := Lib.hid (atomE_R hd true)
  generalize atomsE true (atomsOf ⟨hd, body⟩) = E at *
  simp only at hh hb ⊢
  have hch := HAR.out hd (by rw [HAT.out]; simp)
  have hcb : Hid (∀ (k : Nat) (hk : k < body.length) (q : Nat → Prop) (v : Value) (wz : World), SlT q wz v body[k].atom.args → Calls Tryz.prog 70 #[.agg #[.string body[k].atom.name, v]] wz fun e w' => e = .returned (.int .i64 (atomR body[k].atom)) ∧ Ch [] wz w') :=
    fun k hk => HAR.out body[k].atom (by rw [HAT.out]; exact List.mem_cons_of_mem _ (List.mem_map.2 ⟨_, List.getElem_mem hk, rfl⟩))
  have hch := fun wz (hz : Ch [] w wz) => hch p vh wz (hh.ch0 hz)
  clear HAR HAT hO
  obtain ⟨ah, ch, rfl, _, _⟩ := hh.form
  obtain ⟨a, c, rfl, hlc, hmx⟩ := hb.form
  unfold maxLen at hmx
  generalize hd.args.length = hL at *
  have hbx := Blk.new w 31 #[.string hd.name, .slice ah hL ch, .slice a body.length c]
  have hcA : Ch [] w (w.alloc (.cells #[.string hd.name, .slice ah hL ch, .slice a body.length c] 31)) := (Ch.refl _ _).alloc _
  generalize hwA : (w.alloc (.cells #[.string hd.name, .slice ah hL ch, .slice a body.length c] 31)) = wA at *
  have b0 := hbx.cell 0
  have b1 := hbx.cell 1
  have hbc := fun wz (hz : Ch [] wA wz) (i : Nat) => (hbx.ch hz (by simp)).cell i
  generalize hE1 : atomR hd = E1 at *
  by_cases hz : E1 = 0
  · subst hz
    cases hhb : headB hd.name with
    | false =>
      have HX : Hid (E = 6) := by
        have h1 : atomE hd true = 6 := by rw [HH.out, if_neg (by simp), if_pos rfl, hhb, if_neg (by simp)]
        unfold Hid; rw [HE.out, h1, if_pos (by omega)]
      have hhd := fun wz => head_ hd.name wz
      rw [hhb] at hhd
      clear hhb HE HH hcb hE1
      go_enter Tryz.func34, Tryz.ntmps34
      go_wp2_with (first
        | (go_at_call 70; refine (hch _ hcA).mono ?_; rintro e w1 ⟨rfl, hc1⟩; clear hch; have p0 := hbc _ hc1 0)
        | (go_at_call 71; refine (hhd _).mono ?_; rintro e w2 ⟨rfl, rfl⟩; clear hhd))
      go_ret
      exact ⟨by rw [HX.out]; rfl, hcA.trans hc1⟩
    | true =>
      have HE2 : Hid (E = atomsE false (body.map (·.atom))) := by
        have h1 : atomE hd true = 0 := by rw [HH.out, if_neg (by simp), if_pos rfl, hhb, if_pos rfl]
        unfold Hid; rw [HE.out, h1, if_neg (by simp)]
      have hhd := fun wz => head_ hd.name wz
      rw [hhb] at hhd
      clear hhb HE HH hE1
      go_enter Tryz.func34, Tryz.ntmps34
      go_wp2_with (first
        | (go_at_call 70; refine (hch _ hcA).mono ?_; rintro e w1 ⟨rfl, hc1⟩; clear hch; have p0 := hbc _ hc1 0)
        | (go_at_call 71; refine (hhd _).mono ?_; rintro e w2 ⟨rfl, rfl⟩; clear hhd))
      clear p0 b0 b1 hwA
      have hC1 := hcA.trans hc1
      have hbx1 := hbx.ch hc1 (by simp)
      clear hbc hbx
      go_loopw [4, 5] (fun i _ wr => ∃ k : Nat, k ≤ body.length ∧ i = .int .i64 k ∧ Ch [] w1 wr ∧ Hid (∀ j (hj : j < body.length), j < k → atomE body[j].atom false = 0)) (fun i _ _ => body.length - (intOf i).toNat)
      case atStart => exact ⟨0, Nat.zero_le _, rfl, Ch.refl _ _, fun j _ h => absurd h (Nat.not_lt_zero _)⟩
      case round =>
        obtain ⟨k, hk, rfl, hB, HN⟩ := hrel
        have hbr2 := (hbx1.ch hB (by simp)).cell 2
        by_cases hlt : k < body.length
        · obtain ⟨b', o, a', c', rfl, hp, c0, c1, c2, hT⟩ := (hb.ch0 (hC1.trans hB)).at_ hlt
          have hca := hcb.out k hlt _ _ wr hT
          have HHB := Lib.hid (atomE_R body[k].atom false)
          have HG := Lib.hid (show ∀ q, atomE body[k].atom false = q → q ≠ 0 → E = q from fun q hq h0 => by
            have hl : k < (body.map (·.atom)).length := by simpa using hlt
            have hget : (body.map (·.atom))[k] = body[k].atom := by simp
            have := atomsE_at (body.map (·.atom)) false k hl (fun j hj => by simpa using HN.out j (by omega) hj) (by rw [hget]; simpa [hq] using h0)
            rw [hget, Bool.false_and, hq] at this
            rw [HE2.out, this])
          have HG0 := Lib.hid (show atomE body[k].atom false = 0 → ∀ j (hj : j < body.length), j < k + 1 → atomE body[j].atom false = 0 from fun h0 j hj h1 => by
            rcases Nat.lt_succ_iff_lt_or_eq.1 h1 with h2 | h2
            · exact HN.out j hj h2
            · subst h2; exact h0)
          have j1 : decide (k < body.length) = true := decide_eq_true hlt
          generalize body[k] = x at *
          obtain ⟨xn, xa⟩ := x
          simp only at hca HHB HG HG0 c0 c1 c2 hT
          have hbd := fun wz => body_ xa.name wz
          clear hT
          generalize atomE xa false = E2 at *
          generalize atomR xa = E3 at *
          generalize bodyB xa.name = bb at *
          generalize xa.args.length = xl at *
          generalize xa.name = xnm at *
          have hcc := fun wz (hz : Ch [] wr wz) => cell_ch c1 hz (by simp)
          by_cases h3 : E3 = 0
          · subst h3
            cases bb with
            | true =>
              have hE2 : E2 = 0 := by rw [HHB.out]; simp
              have HX := Lib.hid (HG0.out hE2)
              go_wp2_with (first
                | (go_at_call 70; refine hca.mono ?_; rintro e w3 ⟨rfl, hc3⟩; clear hca; have q0 := hcc _ hc3; have q1 := (hbx1.ch (hB.trans hc3) (by simp)).cell 2)
                | (go_at_call 72; refine (hbd _).mono ?_; rintro e w4 ⟨rfl, rfl⟩; clear hbd))
              go_roundw
              case rel => exact ⟨k + 1, by omega, by go_num, hB.trans hc3, HX⟩
              case measure => simp [intOf]; omega
            | false =>
              have hE2 : E2 = 6 := by rw [HHB.out]; simp
              have HX := Lib.hid (HG.out 6 hE2 (by omega))
              clear hE2 HHB HG HG0
              go_wp2_with (first
                | (go_at_call 70; refine hca.mono ?_; rintro e w3 ⟨rfl, hc3⟩; clear hca; have q0 := hcc _ hc3; have q1 := (hbx1.ch (hB.trans hc3) (by simp)).cell 2)
                | (go_at_call 72; refine (hbd _).mono ?_; rintro e w4 ⟨rfl, rfl⟩; clear hbd))
              go_ret
              exact ⟨by rw [HX.out]; rfl, (hC1.trans hB).trans hc3⟩
          · have hE2 : E2 = E3 := by rw [HHB.out, if_pos h3]
            have HX := Lib.hid (HG.out E3 hE2 h3)
            have e1 : (E3 != 0) = true := by simpa using h3
            clear hE2 HHB HG HG0 h3 hbd
            go_wp2_with (first
              | (go_at_call 70; refine hca.mono ?_; rintro e w3 ⟨rfl, hc3⟩; clear hca))
            go_ret
            exact ⟨by rw [HX.out]; rfl, (hC1.trans hB).trans hc3⟩
        · have HX : Hid (E = 0) := by
            unfold Hid
            rw [HE2.out]
            refine atomsE_none _ false (fun j hj => ?_)
            have hj' : j < body.length := by simpa using hj
            have := HN.out j hj' (by omega)
            simpa using this
          have j1 : decide (k < body.length) = false := decide_eq_false hlt
          go_wp2
          go_ret
          exact ⟨by rw [HX.out]; rfl, hC1.trans hB⟩
  · have HX : Hid (E = E1) := by
      have h1 : atomE hd true = E1 := by rw [HH.out, if_pos hz]
      unfold Hid; rw [HE.out, h1, if_pos hz]
    have e1 : (E1 != 0) = true := by simpa using hz
    clear HE HH hcb hE1 hz
    go_enter Tryz.func34, Tryz.ntmps34
    go_wp2_with (go_at_call 70; refine (hch _ hcA).mono ?_; rintro e w1 ⟨rfl, hc1⟩; clear hch)
    go_ret
    exact ⟨by rw [HX.out]; rfl, hcA.trans hc1⟩
end

section
open Go.RowKit

theorem mem_lvsL {ts : List Tm} {s : ByteArray} : s ∈ lvsL ts ↔ ∃ t ∈ ts, s ∈ lvsT t := by
  induction ts with
  | nil => simp [lvsL]
  | cons x r ih => simp only [lvsL, List.mem_append, ih, List.mem_cons]; constructor
                   · rintro (h | ⟨t, ht, h⟩)
                     · exact ⟨x, .inl rfl, h⟩
                     · exact ⟨t, .inr ht, h⟩
                   · rintro ⟨t, rfl | ht, h⟩
                     · exact .inl h
                     · exact .inr ⟨t, ht, h⟩
theorem mem_vars1 {t : Tm} {s : ByteArray} : s ∈ varsL [t] ↔ s ∈ lvsT t ∧ varB s = true := by rw [mem_varsL]; simp [lvsL]
def vrs (x : Li) : List ByteArray := varsL [x.atom]
def bindL (body : List Li) : List ByteArray := (body.filter bindsB).flatMap vrs
def needL (hd : Tm) (body : List Li) : List ByteArray := varsL [hd] ++ (body.filter fun x => !bindsB x).flatMap vrs
theorem mem_bindL {r : Ru} {s : ByteArray} : s ∈ bindL r.body ↔ s ∈ varsL (bindOf r) := by
  rw [mem_varsL, mem_lvsL]
  simp only [bindL, vrs, List.mem_flatMap, mem_vars1, bindOf, List.mem_map]
  constructor
  · rintro ⟨x, hx, h1, h2⟩; exact ⟨⟨x.atom, ⟨x, hx, rfl⟩, h1⟩, h2⟩
  · rintro ⟨⟨t, ⟨x, hx, rfl⟩, h1⟩, h2⟩; exact ⟨x, hx, h1, h2⟩
theorem mem_needL {r : Ru} {s : ByteArray} : s ∈ needL r.head r.body ↔ s ∈ varsL (needOf r) := by
  rw [mem_varsL, mem_lvsL]
  simp only [needL, vrs, List.mem_append, List.mem_flatMap, mem_vars1, needOf, List.mem_cons, List.mem_map]
  constructor
  · rintro (⟨h1, h2⟩ | ⟨x, hx, h1, h2⟩)
    · exact ⟨⟨_, .inl rfl, h1⟩, h2⟩
    · exact ⟨⟨x.atom, .inr ⟨x, hx, rfl⟩, h1⟩, h2⟩
  · rintro ⟨⟨t, rfl | ⟨x, hx, rfl⟩, h1⟩, h2⟩
    · exact .inl ⟨h1, h2⟩
    · exact .inr ⟨x, hx, h1, h2⟩
theorem safe_eq (r : Ru) : (needL r.head r.body).all (fun s => hasS (bindL r.body) s) = safeB r := by
  unfold safeB
  rw [Bool.eq_iff_iff, List.all_eq_true, List.all_eq_true]
  simp only [hasS, decide_eq_true_eq]
  constructor
  · intro h s hs; exact mem_bindL.1 (h s (mem_needL.2 hs))
  · intro h s hs; exact mem_bindL.2 (h s (mem_needL.1 hs))
theorem vrs_len (x : Li) (h : x.atom.sz ≤ 1000) : (vrs x).length ≤ 1000 := by
  have h1 := addV_len (lvsL [x.atom]) []
  have h2 := lvsT_sz x.atom
  have h3 : (lvsL [x.atom]).length = (lvsT x.atom).length := by simp [lvsL]
  unfold vrs varsL
  simp only [List.length_nil] at h1
  omega
theorem flat_le (L : List Li) (h : ∀ x ∈ L, (vrs x).length ≤ 1000) : (L.flatMap vrs).length ≤ L.length * 1000 := by
  induction L with
  | nil => simp
  | cons x r ih =>
    have h1 := h x (by simp)
    have h2 := ih (fun y hy => h y (by simp [hy]))
    simp only [List.flatMap_cons, List.length_append, List.length_cons, Nat.add_mul]; omega
theorem SlT.one_ {p : Nat → Prop} {w : World} {t : Tm} {v : Value} (h : SlT p w v t.args) : SlT (fun _ => True) (w.alloc (.cells #[.string t.name, v] 28)) (.slice (some ⟨w.heap.size, 0, none⟩) 1 1) [t] := by
  have hR := TmR.of (h.ch0 ((Ch.refl [] w).alloc (.cells #[.string t.name, v] 28)))
  obtain ⟨a, c, rfl, _, _⟩ := h.form
  refine ⟨[[.string t.name, .slice a t.args.length c]], (Sl.one w 2 _ [.string t.name, .slice a t.args.length c] rfl (by simp [Value.oneCell'])).weak (fun _ _ _ => trivial), ?_⟩
  simp only [TmsR]
  exact ⟨_, [], rfl, TmR.imp (Nat.le_refl _) (fun _ _ _ => ⟨trivial, rfl⟩) hR, rfl⟩

set_option maxRecDepth 100000 in
set_option maxHeartbeats 8000000 in
theorem refSafe_ (r : Ru) (p : Nat → Prop) (vh vb : Value) (w : World) (B b : Nat) (hh : SlT p w vh r.head.args) (hb : SlLi p w vb r.body) (hO : RuOk B b r) :
    Calls Tryz.prog 36 #[.agg #[.string r.head.name, vh, vb]] w fun e w' => e = .returned (.bool (safeB r)) ∧ Ch [] w w' := by
  have HS := Lib.hid (safe_eq r)
  generalize safeB r = SB at *
  have HVR := Lib.hid (fun (t : Tm) (ht : t ∈ atomsOf r) (v : Value) (wz : World) (hz : SlT (fun _ => True) wz v [t]) => refVars_ [t] _ v wz hz (by have := lvsT_sz t; have := hO.sz t ht; simp [lvsL]; omega) (fun s hs => by
    have h1 := lvsT_nice B b t (hO.nice t ht) s (by simpa [lvsL] using hs)
    have h2 := hO.B
    omega))
  have HSZ := Lib.hid (fun (t : Tm) (ht : t ∈ atomsOf r) => hO.sz t ht)
  have hlen := hO.len
  obtain ⟨hd, body⟩ := r
  have HAT : Hid (atomsOf ⟨hd, body⟩ = hd :: body.map (·.atom)) := rfl
  have hmh : hd ∈ atomsOf ⟨hd, body⟩ := by rw [HAT.out]; simp
  have hmb : Hid (∀ (k : Nat) (hk : k < body.length), body[k].atom ∈ atomsOf ⟨hd, body⟩) := fun k hk => by rw [HAT.out]; exact List.mem_cons_of_mem _ (List.mem_map.2 ⟨_, List.getElem_mem hk, rfl⟩)
  have HVL : Hid (∀ x ∈ body, (vrs x).length ≤ 1000) := fun x hx => vrs_len x (HSZ.out _ (by rw [HAT.out]; exact List.mem_cons_of_mem _ (List.mem_map.2 ⟨_, hx, rfl⟩)))
  have HHL : Hid ((varsL [hd]).length ≤ 1000) := vrs_len ⟨true, hd⟩ (HSZ.out _ hmh)
  simp only at hh hb hlen ⊢
  have HRES : Hid (needL hd body = varsL [hd] ++ (body.filter fun x => !bindsB x).flatMap vrs) := rfl
  have HREB : Hid (bindL body = (body.filter bindsB).flatMap vrs) := rfl
  have hv0 := fun wz (hz : Ch [] w wz) => HVR.out hd hmh (.slice (some ⟨wz.heap.size, 0, none⟩) 1 1) _ (hh.ch0 hz).one_
  obtain ⟨ah, ch, rfl, _, _⟩ := hh.form
  obtain ⟨a, c, rfl, hlc, hmx⟩ := hb.form
  unfold maxLen at hmx
  clear hO
  have hbx := Blk.new w 31 #[.string hd.name, .slice ah hd.args.length ch, .slice a body.length c]
  have hcA : Ch [] w (w.alloc (.cells #[.string hd.name, .slice ah hd.args.length ch, .slice a body.length c] 31)) := (Ch.refl _ _).alloc _
  have hsA : (w.alloc (.cells #[.string hd.name, .slice ah hd.args.length ch, .slice a body.length c] 31)).heap.size = w.heap.size + 1 := by simp
  have b0 := hbx.cell 0
  have b1 := hbx.cell 1
  have hv0 := hv0 _ hcA
  generalize hwA : (w.alloc (.cells #[.string hd.name, .slice ah hd.args.length ch, .slice a body.length c] 31)) = wA at *
  have HSA := Lib.hid hsA; clear hsA
  generalize hN0 : varsL [hd] = N0 at *
  go_enter Tryz.func36, Tryz.ntmps36
  go_wp2_with (go_at_call 74; refine hv0.mono ?_; rintro e w1 ⟨v1, rfl, ho1, hc1⟩; clear hv0)
  have hcAB : Ch [] wA w1 := ((Ch.refl [] wA).alloc _).trans hc1
  have hC1 := hcA.trans hcAB
  have hbx1 := hbx.ch hcAB (by simp)
  have ho1 := ho1.base_le (base' := w.heap.size + 1) (by simp; have := HSA.out; omega)
  clear b0 b1 hwA hbx hc1 hcA hcAB hN0
  go_loopw [3, 4, 5, 6] (fun bv nv i _ wr => ∃ k : Nat, k ≤ body.length ∧ i = .int .i64 k ∧ Ch [] w wr ∧ Blk wr w.heap.size 31 #[.string hd.name, .slice ah hd.args.length ch, .slice a body.length c] ∧ Own wr (w.heap.size + 1) 9 1 bv ((((body.take k).filter bindsB).flatMap vrs).map encS) ∧ Own wr (w.heap.size + 1) 9 1 nv ((N0 ++ ((body.take k).filter fun x => !bindsB x).flatMap vrs).map encS) ∧ (∀ g, bv.ownBlock = some g → nv.ownBlock ≠ some g)) (fun _ _ i _ _ => body.length - (intOf i).toNat)
  case atStart => exact ⟨0, Nat.zero_le _, rfl, hC1, hbx1, Own.nil _ _ _ _, by simpa using ho1, fun g e => by simp [Value.ownBlock] at e⟩
  case round =>
    obtain ⟨k, hk, rfl, hB, hbr, hob, hon, hdf⟩ := hrel
    have hbr2 := hbr.cell 2
    have hsB := hbr.lt
    have hbl : (((body.take k).filter bindsB).flatMap vrs).length ≤ 100000000 := by
      have h1 := flat_le ((body.take k).filter bindsB) (fun x hx => HVL.out x (List.mem_of_mem_take ((List.mem_filter.1 hx).1)))
      have h2 := List.length_filter_le bindsB (body.take k)
      rw [List.length_take] at h2
      have := Nat.mul_le_mul_right 1000 (show ((body.take k).filter bindsB).length ≤ 100000 by omega)
      omega
    have hnl : (N0 ++ ((body.take k).filter fun x => !bindsB x).flatMap vrs).length ≤ 100001000 := by
      have h1 := flat_le ((body.take k).filter fun x => !bindsB x) (fun x hx => HVL.out x (List.mem_of_mem_take ((List.mem_filter.1 hx).1)))
      have h2 := List.length_filter_le (fun x => !bindsB x) (body.take k)
      have h3 := HHL.out
      rw [List.length_take] at h2
      rw [List.length_append]
      have := Nat.mul_le_mul_right 1000 (show ((body.take k).filter fun x => !bindsB x).length ≤ 100000 by omega)
      omega
    have HBL := Lib.hid hbl; clear hbl
    have HNL := Lib.hid hnl; clear hnl
    by_cases hlt : k < body.length
    · obtain ⟨b', o, a', c', rfl, hp, c0, c1, c2, hT⟩ := (hb.ch0 hB).at_ hlt
      have hmk := hmb.out k hlt
      have hvl := HVL.out _ (List.getElem_mem hlt)
      have HFT := Lib.hid (show bindsB body[k] = true → ((body.take (k + 1)).filter bindsB).flatMap vrs = ((body.take k).filter bindsB).flatMap vrs ++ vrs body[k] ∧ N0 ++ ((body.take (k + 1)).filter fun x => !bindsB x).flatMap vrs = N0 ++ ((body.take k).filter fun x => !bindsB x).flatMap vrs from fun h => by
        rw [take_snoc body k hlt, List.filter_append, List.filter_append, List.flatMap_append, List.flatMap_append]
        simp [h])
      have HFF := Lib.hid (show bindsB body[k] = false → ((body.take (k + 1)).filter bindsB).flatMap vrs = ((body.take k).filter bindsB).flatMap vrs ∧ N0 ++ ((body.take (k + 1)).filter fun x => !bindsB x).flatMap vrs = (N0 ++ ((body.take k).filter fun x => !bindsB x).flatMap vrs) ++ vrs body[k] from fun h => by
        rw [take_snoc body k hlt, List.filter_append, List.filter_append, List.flatMap_append, List.flatMap_append]
        simp [h])
      have j1 : decide (k < body.length) = true := decide_eq_true hlt
      generalize body[k] = x at *
      obtain ⟨xn, xa⟩ := x
      have HVX : Hid (vrs ⟨xn, xa⟩ = varsL [xa]) := rfl
      have HBB := Lib.hid (show bindsB ⟨xn, xa⟩ = (!xn && !decide (xa.name = dis)) from rfl)
      simp only at hmk c0 c1 c2 hT
      have hvx := HVR.out xa hmk (.slice (some ⟨wr.heap.size, 0, none⟩) 1 1) _ hT.one_
      have hbd := fun wz => binds_ xn xa.name a' xa.args.length c' wz
      rw [← HBB.out] at hbd
      rw [← HVX.out] at hvx
      clear hT hmk
      have hcc0 := fun wz (hz : Ch [] wr wz) => cell_ch c0 hz (by simp)
      have hcc1 := fun wz (hz : Ch [] wr wz) => cell_ch c1 hz (by simp)
      have hcc2 := fun wz (hz : Ch [] wr wz) => cell_ch c2 hz (by simp)
      have HLB := Lib.hid (show ∀ g, u3.ownBlock = some g → w.heap.size + 1 ≤ g ∧ g < wr.heap.size from fun g hg => hob.lt hg)
      have HLN := Lib.hid (show ∀ g, u4.ownBlock = some g → w.heap.size + 1 ≤ g ∧ g < wr.heap.size from fun g hg => hon.lt hg)
      generalize vrs ⟨xn, xa⟩ = VX at *
      generalize hbq : bindsB ⟨xn, xa⟩ = bq at *
      generalize hLBk : ((body.take k).filter bindsB).flatMap vrs = LB at *
      generalize hLNk : N0 ++ ((body.take k).filter fun x => !bindsB x).flatMap vrs = LN at *
      have hcQ : ∀ {wx : World}, Ch [] (wr.alloc (.cells #[.string xa.name, .slice a' xa.args.length c'] 28)) wx → Ch [] wr wx := fun h => ((Ch.refl [] wr).alloc _).trans h
      cases bq with
      | true =>
        have HF := Lib.hid (HFT.out rfl)
        clear HFT HFF hLBk hLNk hbq
        go_wp2_with (first
          | (go_at_call 74; refine hvx.mono ?_; rintro e w3 ⟨v3, rfl, ho3, hc3⟩; clear hvx; have z3 := hcQ hc3; have q0 := hcc0 _ z3; have q1 := hcc1 _ z3; have q2 := hcc2 _ z3; have q3 := (hbr.ch z3 (by simp)).cell 2)
          | (go_at_call 75; refine (hbd _).mono ?_; rintro e w4 ⟨rfl, hc4⟩; clear hbd; have q4 := (hbr.ch (z3.trans hc4) (by simp)).cell 2)
          | (at_builtin; refine wpList_append_sl rfl _ _ _ rfl elS (base := w.heap.size + 1) (v := u3) (css := LB.map encS) rfl (hob.ch0' (z3.trans hc4)) rfl (ho3.ch0' hc4).sl (by have := HBL.out; simp; omega) (by have := (z3.trans hc4).size; omega) ?_; intro v6 w6 ho6 hc6 hat6 hn6; clear hn6))
        have hz := z3.trans hc4
        have hzs := hz.size
        go_roundw
        case rel => 
          refine ⟨k + 1, by omega, by go_num, (hB.trans hz).step hc6 (fun y hy => by simp at hy; have := (HLB.out y hy).1; exact .inr (by omega)), (hbr.ch hz (by simp)).ch hc6 (fun hm => by simp at hm; have := (HLB.out _ hm).1; omega), by rw [HF.out.1, List.map_append]; exact ho6, by rw [HF.out.2]; exact (hon.ch0' hz).ch hc6 (fun g hg hm => by simp at hm; exact hdf g hm hg), fun g e1 e2 => ?_⟩
          rcases hat6 with e3 | e3
          · rw [e3] at e1; exact hdf g e1 e2
          · rw [e3] at e1; injection e1 with e1; have := (HLN.out g e2).2; omega
        case measure => simp [intOf]; omega
      | false =>
        have HF := Lib.hid (HFF.out rfl)
        clear HFT HFF hLBk hLNk hbq
        go_wp2_with (first
          | (go_at_call 74; refine hvx.mono ?_; rintro e w3 ⟨v3, rfl, ho3, hc3⟩; clear hvx; have z3 := hcQ hc3; have q0 := hcc0 _ z3; have q1 := hcc1 _ z3; have q2 := hcc2 _ z3; have q3 := (hbr.ch z3 (by simp)).cell 2)
          | (go_at_call 75; refine (hbd _).mono ?_; rintro e w4 ⟨rfl, hc4⟩; clear hbd; have q4 := (hbr.ch (z3.trans hc4) (by simp)).cell 2)
          | (at_builtin; refine wpList_append_sl rfl _ _ _ rfl elS (base := w.heap.size + 1) (v := u4) (css := LN.map encS) rfl (hon.ch0' (z3.trans hc4)) rfl (ho3.ch0' hc4).sl (by have := HNL.out; simp; omega) (by have := (z3.trans hc4).size; omega) ?_; intro v6 w6 ho6 hc6 hat6 hn6; clear hn6))
        have hz := z3.trans hc4
        have hzs := hz.size
        go_roundw
        case rel => 
          refine ⟨k + 1, by omega, by go_num, (hB.trans hz).step hc6 (fun y hy => by simp at hy; have := (HLN.out y hy).1; exact .inr (by omega)), (hbr.ch hz (by simp)).ch hc6 (fun hm => by simp at hm; have := (HLN.out _ hm).1; omega), by rw [HF.out.1]; exact (hob.ch0' hz).ch hc6 (fun g hg hm => by simp at hm; exact hdf g hg hm), by rw [HF.out.2, List.map_append]; exact ho6, fun g e1 e2 => ?_⟩
          rcases hat6 with e3 | e3
          · rw [e3] at e2; exact hdf g e1 e2
          · rw [e3] at e2; injection e2 with e2; have := (HLB.out g e1).2; omega
        case measure => simp [intOf]; omega
    · have j1 : decide (k < body.length) = false := decide_eq_false hlt
      rw [List.take_of_length_le (by omega)] at hob hon HBL HNL
      rw [← HREB.out] at hob HBL
      rw [← HRES.out] at hon HNL
      generalize bindL body = LB at *
      generalize needL hd body = LN at *
      have hfB := hob.form'
      have hfN := hon.form'
      rw [List.length_map] at hfB hfN
      obtain ⟨aB, cB, rfl⟩ := hfB
      obtain ⟨aN, cN, rfl⟩ := hfN
      have hlnN := HNL.out
      have hcon := fun s => ref09Has _ (.slice aB LB.length cB) LB s wr hob.sl
      have HR : Hid (∀ j (hj : j < LN.length), hasS LB LN[j] = false → SB = false) := fun j hj h => by
        rw [← HS.out, List.all_eq_false]
        exact ⟨_, List.getElem_mem hj, by rw [h]; simp⟩
      have HRT : Hid ((∀ j (hj : j < LN.length), hasS LB LN[j] = true) → SB = true) := fun h => by
        rw [← HS.out, List.all_eq_true]
        intro s hs
        obtain ⟨j, hj, rfl⟩ := List.getElem_of_mem hs
        exact h j hj
      clear HS
      go_wp2
      go_loopw [7] (fun i wx => ∃ k : Nat, k ≤ LN.length ∧ i = .int .i64 k ∧ wx = wr ∧ Hid (∀ j (hj : j < LN.length), j < k → hasS LB LN[j] = true)) (fun i _ => LN.length - (intOf i).toNat)
      case atStart => exact ⟨0, Nat.zero_le _, rfl, rfl, fun j _ h => absurd h (Nat.not_lt_zero _)⟩
      case round =>
        obtain ⟨k2, hk2, rfl, rfl, HN⟩ := hrel
        by_cases hlt2 : k2 < LN.length
        · obtain ⟨b6, o6, rfl, hp6, c60⟩ := SlS.at_ hon.sl hlt2
          have j2 : decide (k2 < LN.length) = true := decide_eq_true hlt2
          have hc := hcon LN[k2]
          cases hq : hasS LB LN[k2] with
          | true =>
            rw [hq] at hc
            have HX : Hid (∀ j (hj : j < LN.length), j < k2 + 1 → hasS LB LN[j] = true) := fun j hj h1 => by
              rcases Nat.lt_succ_iff_lt_or_eq.1 h1 with h2 | h2
              · exact HN.out j hj h2
              · subst h2; exact hq
            clear hq hcon
            generalize LN[k2] = s at *
            go_wp2_with (go_at_call 76; refine hc.mono ?_; rintro e w7 ⟨rfl, rfl⟩)
            go_roundw
            case rel => exact ⟨k2 + 1, by omega, by go_num, trivial, HX⟩
            case measure => simp [intOf]; omega
          | false =>
            rw [hq] at hc
            have HX := Lib.hid (HR.out k2 hlt2 hq)
            clear hq hcon
            generalize LN[k2] = s at *
            go_wp2_with (go_at_call 76; refine hc.mono ?_; rintro e w7 ⟨rfl, rfl⟩)
            go_ret
            exact ⟨by rw [HX.out]; rfl, hB⟩
        · have HX := Lib.hid (HRT.out (fun j hj => HN.out j hj (by omega)))
          have j2 : decide (k2 < LN.length) = false := decide_eq_false hlt2
          clear hcon
          go_wp2
          go_ret
          exact ⟨by rw [HX.out]; rfl, hB⟩

set_option maxRecDepth 100000 in
set_option maxHeartbeats 8000000 in
theorem refRule_ (r : Ru) (p : Nat → Prop) (vh vb : Value) (w : World) (B b : Nat) (hh : SlT p w vh r.head.args) (hb : SlLi p w vb r.body) (hO : RuOk B b r) :
    Calls Tryz.prog 14 #[.agg #[.string r.head.name, vh, vb]] w fun e w' => e = .returned (.int .i64 (ruleE r)) ∧ Ch [] w w' := by
  have HE := Lib.hid (show ruleE r = if 8 < r.body.length then 2 else if atomsE true (atomsOf r) ≠ 0 then atomsE true (atomsOf r) else if 5 < (varsL (atomsOf r)).length then 11 else if safeB r = false then 7 else if roleBad r = true then 8 else 0 from rfl)
  have hatoms := fun wz (hz : Ch [] w wz) => refAtoms_ r p vh vb wz B b (hh.ch0 hz) (hb.ch0 hz) hO
  have hvars := fun wz (hz : Ch [] w wz) => refVars7_ r p vh vb wz B b (hh.ch0 hz) (hb.ch0 hz) hO
  have hsafe := fun wz (hz : Ch [] w wz) => refSafe_ r p vh vb wz B b (hh.ch0 hz) (hb.ch0 hz) hO
  obtain ⟨ah, ch, rfl, _, _⟩ := hh.form
  obtain ⟨a, c, rfl, hlc, hmx⟩ := hb.form
  unfold maxLen at hmx
  generalize hal : r.head.args.length = al at *
  have hbx := Blk.new w 31 #[.string r.head.name, .slice ah al ch, .slice a r.body.length c]
  have hcA : Ch [] w (w.alloc (.cells #[.string r.head.name, .slice ah al ch, .slice a r.body.length c] 31)) := (Ch.refl _ _).alloc _
  generalize hwA : (w.alloc (.cells #[.string r.head.name, .slice ah al ch, .slice a r.body.length c] 31)) = wA at *
  have b0 := hbx.cell 0
  have b1 := hbx.cell 1
  have b2 := hbx.cell 2
  have hbc := fun wz (hz : Ch [] wA wz) (i : Nat) => (hbx.ch hz (by simp)).cell i
  generalize hE : ruleE r = E at *
  clear hE
  have hsf := fun wz (hz : Ch [] wA wz) => hsafe wz (hcA.trans hz)
  clear hsafe
  by_cases hlong : 8 < r.body.length
  · have hd : decide ((8 : Int) < (r.body.length : Int)) = true := decide_eq_true (by omega)
    have HR : Hid (E = 2) := by unfold Hid; rw [HE.out, if_pos hlong]
    clear hlong hatoms hvars hsf
    go_enter Tryz.func14, Tryz.ntmps14
    go_wp2
    go_ret
    exact ⟨by rw [HR.out]; rfl, hcA⟩
  · have hd : decide ((8 : Int) < (r.body.length : Int)) = false := decide_eq_false (by omega)
    have HE2 : Hid (E = if atomsE true (atomsOf r) ≠ 0 then atomsE true (atomsOf r) else if 5 < (varsL (atomsOf r)).length then 11 else if safeB r = false then 7 else if roleBad r = true then 8 else 0) := by unfold Hid; rw [HE.out, if_neg hlong]
    clear HE hlong
    have HRB := Lib.hid (show roleBad r = (decide (r.head.name = bRole) && (decide (0 < r.body.length) || match r.head.args with | x :: _ => decide (0 < x.args.length) || !nameB x.name | [] => false)) from rfl)
    have HH0 : Hid (atomsE true (atomsOf r) = 0 → atomE r.head true = 0) := fun h => by
      have h2 : atomsE true (atomsOf r) = if atomE r.head true ≠ 0 then atomE r.head true else atomsE false (r.body.map (·.atom)) := atomsE_cons _ _
      by_cases h3 : atomE r.head true = 0
      · exact h3
      · rw [h2, if_pos h3] at h; exact h
    have HXN : Hid (∀ x, r.head.args = [x] → x.name.size ≤ maxLen) := fun x hx => by
      have h1 := (hO.arg hx).1
      have h2 := hO.B
      cases x with
      | mk m ys => simp only [Nice] at h1; simp only [Tm.name]; omega
    clear hb hO
    generalize varsL (atomsOf r) = VN at *
    generalize safeB r = SB at *
    generalize roleBad r = RB at *
    generalize r.body.length = bl at *
    generalize hAE : atomsE true (atomsOf r) = AE at *
    clear hAE
    by_cases hz : AE = 0
    · have HE3 : Hid (E = if 5 < VN.length then 11 else if SB = false then 7 else if RB = true then 8 else 0) := by unfold Hid; rw [HE2.out, if_neg (by simp [hz])]
      have HHZ := Lib.hid (HH0.out hz)
      clear HH0 HE2
      subst hz
      by_cases h5 : 5 < VN.length
      · have d5 : decide ((5 : Int) < (VN.length : Int)) = true := decide_eq_true (by omega)
        have HX : Hid (E = 11) := by unfold Hid; rw [HE3.out, if_pos h5]
        clear h5 hsf
        go_enter Tryz.func14, Tryz.ntmps14
        go_wp2_with (first | (go_at_call 34; refine (hatoms _ hcA).mono ?_; rintro e w1 ⟨rfl, hB1⟩; clear hatoms; have hv := hvars _ (hcA.trans hB1); have r0 := hbc _ hB1 0; have r1 := hbc _ hB1 1; have r2 := hbc _ hB1 2) | (go_at_call 35; refine hv.mono ?_; rintro e w2 ⟨v2, rfl, ho2, hc2⟩; clear hv; obtain ⟨a2, c2, e2⟩ := ho2.form'; rw [List.length_map] at e2; subst e2; have p0 := hbc _ (hB1.trans hc2) 0; have p1 := hbc _ (hB1.trans hc2) 1; have p2 := hbc _ (hB1.trans hc2) 2))
        go_ret
        exact ⟨by rw [HX.out]; rfl, (hcA.trans hB1).trans hc2⟩
      · have d5 : decide ((5 : Int) < (VN.length : Int)) = false := decide_eq_false (by omega)
        have HE4 : Hid (E = if SB = false then 7 else if RB = true then 8 else 0) := by unfold Hid; rw [HE3.out, if_neg h5]
        clear h5 HE3
        cases SB with
        | false =>
          have HX : Hid (E = 7) := by unfold Hid; rw [HE4.out, if_pos rfl]
          go_enter Tryz.func14, Tryz.ntmps14
          go_wp2_with (first | (go_at_call 34; refine (hatoms _ hcA).mono ?_; rintro e w1 ⟨rfl, hB1⟩; clear hatoms; have hv := hvars _ (hcA.trans hB1); have r0 := hbc _ hB1 0; have r1 := hbc _ hB1 1; have r2 := hbc _ hB1 2) | (go_at_call 35; refine hv.mono ?_; rintro e w2 ⟨v2, rfl, ho2, hc2⟩; clear hv; obtain ⟨a2, c2, e2⟩ := ho2.form'; rw [List.length_map] at e2; subst e2; have p0 := hbc _ (hB1.trans hc2) 0; have p1 := hbc _ (hB1.trans hc2) 1; have p2 := hbc _ (hB1.trans hc2) 2) | (go_at_call 36; refine (hsf _ (hB1.trans hc2)).mono ?_; rintro e w3 ⟨rfl, hc3⟩; clear hsf p0 p1 p2; have q0 := hbc _ ((hB1.trans hc2).trans hc3) 0; have q1 := hbc _ ((hB1.trans hc2).trans hc3) 1; have q2 := hbc _ ((hB1.trans hc2).trans hc3) 2))
          go_ret
          exact ⟨by rw [HX.out]; rfl, ((hcA.trans hB1).trans hc2).trans hc3⟩
        | true =>
          have HE5 : Hid (E = if RB = true then 8 else 0) := by unfold Hid; rw [HE4.out, if_neg (by simp)]
          clear HE4
          by_cases hn : r.head.name = bRole
          · obtain ⟨x, hx⟩ := role_args HHZ.out hn
            have hxs := HXN.out x hx
            have er : (r.head.name.toList == [114, 111, 108, 101]) = true := by rw [role_eq]; exact decide_eq_true hn
            have HE6 : Hid (E = if (decide (0 < bl) || (decide (0 < x.args.length) || !nameB x.name)) = true then 8 else 0) := by
              unfold Hid
              rw [HE5.out, HRB.out, hx, decide_eq_true hn, Bool.true_and]
            have hal1 : al = 1 := by rw [← hal, hx]; rfl
            rw [hx] at hh
            subst hal1
            obtain ⟨bx, ox, ax, cx, rfl, hpx, x0, x1, _⟩ := hh.at_ (i := 0) (by simp)
            simp only [Nat.zero_mul, Nat.add_zero, List.getElem_cons_zero] at x0 x1
            have hnx := fun wz => ref01Name x.name wz hxs
            clear hn hal hx hxs HRB HHZ HXN HE5 hh
            generalize r.head.name = nm at *
            generalize x.name = xn at *
            generalize x.args.length = xl at *
            generalize nameB xn = nb at *
            have hxc := fun wz (hz : Ch [] w wz) => cell_ch x0 hz (by simp)
            have hxc1 := fun wz (hz : Ch [] w wz) => cell_ch x1 hz (by simp)
            rcases Nat.eq_zero_or_pos bl with hb0 | hb0
            · rcases Nat.eq_zero_or_pos xl with hx0 | hx0
              · cases nb with
                | false =>
                  have HX : Hid (E = 8) := by unfold Hid; rw [HE6.out, if_pos (by simp)]
                  clear HE6
                  subst hb0 hx0
                  go_enter Tryz.func14, Tryz.ntmps14
                  go_wp2_with (first | (go_at_call 34; refine (hatoms _ hcA).mono ?_; rintro e w1 ⟨rfl, hB1⟩; clear hatoms; have hv := hvars _ (hcA.trans hB1); have r0 := hbc _ hB1 0; have r1 := hbc _ hB1 1; have r2 := hbc _ hB1 2) | (go_at_call 35; refine hv.mono ?_; rintro e w2 ⟨v2, rfl, ho2, hc2⟩; clear hv; obtain ⟨a2, c2, e2⟩ := ho2.form'; rw [List.length_map] at e2; subst e2; have p0 := hbc _ (hB1.trans hc2) 0; have p1 := hbc _ (hB1.trans hc2) 1; have p2 := hbc _ (hB1.trans hc2) 2) | (go_at_call 36; refine (hsf _ (hB1.trans hc2)).mono ?_; rintro e w3 ⟨rfl, hc3⟩; clear hsf p0 p1 p2; have q0 := hbc _ ((hB1.trans hc2).trans hc3) 0; have q1 := hbc _ ((hB1.trans hc2).trans hc3) 1; have q2 := hbc _ ((hB1.trans hc2).trans hc3) 2; have x0 := hxc _ (hcA.trans ((hB1.trans hc2).trans hc3)); have x1 := hxc1 _ (hcA.trans ((hB1.trans hc2).trans hc3))) | (go_at_call 37; refine (hnx _).mono ?_; rintro e w5 ⟨rfl, rfl⟩))
                  go_ret
                  exact ⟨by rw [HX.out]; rfl, ((hcA.trans hB1).trans hc2).trans hc3⟩
                | true =>
                  have HX : Hid (E = 0) := by unfold Hid; rw [HE6.out, hb0, hx0, if_neg (by simp)]
                  clear HE6
                  subst hb0 hx0
                  go_enter Tryz.func14, Tryz.ntmps14
                  go_wp2_with (first | (go_at_call 34; refine (hatoms _ hcA).mono ?_; rintro e w1 ⟨rfl, hB1⟩; clear hatoms; have hv := hvars _ (hcA.trans hB1); have r0 := hbc _ hB1 0; have r1 := hbc _ hB1 1; have r2 := hbc _ hB1 2) | (go_at_call 35; refine hv.mono ?_; rintro e w2 ⟨v2, rfl, ho2, hc2⟩; clear hv; obtain ⟨a2, c2, e2⟩ := ho2.form'; rw [List.length_map] at e2; subst e2; have p0 := hbc _ (hB1.trans hc2) 0; have p1 := hbc _ (hB1.trans hc2) 1; have p2 := hbc _ (hB1.trans hc2) 2) | (go_at_call 36; refine (hsf _ (hB1.trans hc2)).mono ?_; rintro e w3 ⟨rfl, hc3⟩; clear hsf p0 p1 p2; have q0 := hbc _ ((hB1.trans hc2).trans hc3) 0; have q1 := hbc _ ((hB1.trans hc2).trans hc3) 1; have q2 := hbc _ ((hB1.trans hc2).trans hc3) 2; have x0 := hxc _ (hcA.trans ((hB1.trans hc2).trans hc3)); have x1 := hxc1 _ (hcA.trans ((hB1.trans hc2).trans hc3))) | (go_at_call 37; refine (hnx _).mono ?_; rintro e w5 ⟨rfl, rfl⟩))
                  go_ret
                  exact ⟨by rw [HX.out]; rfl, ((hcA.trans hB1).trans hc2).trans hc3⟩
              · have HX : Hid (E = 8) := by unfold Hid; rw [HE6.out, if_pos (by simp [hx0])]
                have d7 : decide ((0 : Int) < (xl : Int)) = true := decide_eq_true (by omega)
                have d8 : decide (0 < xl) = true := decide_eq_true hx0
                clear HE6
                subst hb0
                go_enter Tryz.func14, Tryz.ntmps14
                go_wp2_with (first | (go_at_call 34; refine (hatoms _ hcA).mono ?_; rintro e w1 ⟨rfl, hB1⟩; clear hatoms; have hv := hvars _ (hcA.trans hB1); have r0 := hbc _ hB1 0; have r1 := hbc _ hB1 1; have r2 := hbc _ hB1 2) | (go_at_call 35; refine hv.mono ?_; rintro e w2 ⟨v2, rfl, ho2, hc2⟩; clear hv; obtain ⟨a2, c2, e2⟩ := ho2.form'; rw [List.length_map] at e2; subst e2; have p0 := hbc _ (hB1.trans hc2) 0; have p1 := hbc _ (hB1.trans hc2) 1; have p2 := hbc _ (hB1.trans hc2) 2) | (go_at_call 36; refine (hsf _ (hB1.trans hc2)).mono ?_; rintro e w3 ⟨rfl, hc3⟩; clear hsf p0 p1 p2; have q0 := hbc _ ((hB1.trans hc2).trans hc3) 0; have q1 := hbc _ ((hB1.trans hc2).trans hc3) 1; have q2 := hbc _ ((hB1.trans hc2).trans hc3) 2; have x0 := hxc _ (hcA.trans ((hB1.trans hc2).trans hc3)); have x1 := hxc1 _ (hcA.trans ((hB1.trans hc2).trans hc3))))
                go_ret
                exact ⟨by rw [HX.out]; rfl, ((hcA.trans hB1).trans hc2).trans hc3⟩
            · have HX : Hid (E = 8) := by unfold Hid; rw [HE6.out, if_pos (by simp [hb0])]
              have d7 : decide ((0 : Int) < (bl : Int)) = true := decide_eq_true (by omega)
              have d8 : decide (0 < bl) = true := decide_eq_true hb0
              clear HE6
              go_enter Tryz.func14, Tryz.ntmps14
              go_wp2_with (first | (go_at_call 34; refine (hatoms _ hcA).mono ?_; rintro e w1 ⟨rfl, hB1⟩; clear hatoms; have hv := hvars _ (hcA.trans hB1); have r0 := hbc _ hB1 0; have r1 := hbc _ hB1 1; have r2 := hbc _ hB1 2) | (go_at_call 35; refine hv.mono ?_; rintro e w2 ⟨v2, rfl, ho2, hc2⟩; clear hv; obtain ⟨a2, c2, e2⟩ := ho2.form'; rw [List.length_map] at e2; subst e2; have p0 := hbc _ (hB1.trans hc2) 0; have p1 := hbc _ (hB1.trans hc2) 1; have p2 := hbc _ (hB1.trans hc2) 2) | (go_at_call 36; refine (hsf _ (hB1.trans hc2)).mono ?_; rintro e w3 ⟨rfl, hc3⟩; clear hsf p0 p1 p2; have q0 := hbc _ ((hB1.trans hc2).trans hc3) 0; have q1 := hbc _ ((hB1.trans hc2).trans hc3) 1; have q2 := hbc _ ((hB1.trans hc2).trans hc3) 2; have x0 := hxc _ (hcA.trans ((hB1.trans hc2).trans hc3)); have x1 := hxc1 _ (hcA.trans ((hB1.trans hc2).trans hc3))))
              go_ret
              exact ⟨by rw [HX.out]; rfl, ((hcA.trans hB1).trans hc2).trans hc3⟩
          · have er : (r.head.name.toList == [114, 111, 108, 101]) = false := by rw [role_eq]; exact decide_eq_false hn
            have HX : Hid (E = 0) := by unfold Hid; rw [HE5.out, HRB.out, decide_eq_false hn, if_neg (by simp)]
            clear hn HRB HHZ HXN HE5 hh hal
            generalize r.head.name = nm at *
            go_enter Tryz.func14, Tryz.ntmps14
            go_wp2_with (first | (go_at_call 34; refine (hatoms _ hcA).mono ?_; rintro e w1 ⟨rfl, hB1⟩; clear hatoms; have hv := hvars _ (hcA.trans hB1); have r0 := hbc _ hB1 0; have r1 := hbc _ hB1 1; have r2 := hbc _ hB1 2) | (go_at_call 35; refine hv.mono ?_; rintro e w2 ⟨v2, rfl, ho2, hc2⟩; clear hv; obtain ⟨a2, c2, e2⟩ := ho2.form'; rw [List.length_map] at e2; subst e2; have p0 := hbc _ (hB1.trans hc2) 0; have p1 := hbc _ (hB1.trans hc2) 1; have p2 := hbc _ (hB1.trans hc2) 2) | (go_at_call 36; refine (hsf _ (hB1.trans hc2)).mono ?_; rintro e w3 ⟨rfl, hc3⟩; clear hsf p0 p1 p2; have q0 := hbc _ ((hB1.trans hc2).trans hc3) 0; have q1 := hbc _ ((hB1.trans hc2).trans hc3) 1; have q2 := hbc _ ((hB1.trans hc2).trans hc3) 2))
            go_ret
            exact ⟨by rw [HX.out]; rfl, ((hcA.trans hB1).trans hc2).trans hc3⟩
    · have HX : Hid (E = AE) := by unfold Hid; rw [HE2.out, if_pos hz]
      have e1 : (AE != 0) = true := by simpa using hz
      clear hz HE2 HH0 hsf
      go_enter Tryz.func14, Tryz.ntmps14
      go_wp2_with (go_at_call 34; refine (hatoms _ hcA).mono ?_; rintro e w1 ⟨rfl, hB1⟩; clear hatoms; have hv := hvars _ (hcA.trans hB1); have r0 := hbc _ hB1 0; have r1 := hbc _ hB1 1; have r2 := hbc _ hB1 2)
      go_ret
      exact ⟨by rw [HX.out]; rfl, hcA.trans hB1⟩
end
end

section
open Go.ChangeShapes Go.WideShapes Go.ChangeAt Go.RowKit

def smB (t : Tm) : Bool := decide (pParts 60 t 60 ≤ 60)
def fewB (r : Ru) : Bool := decide (r.body.length ≤ 12) && (smB r.head && r.body.all (fun x => smB x.atom))
theorem smB_sz {t : Tm} (h : smB t = true) : t.sz ≤ 60 := by
  have h1 : pParts 60 t 60 ≤ 60 := by simpa [smB] using h
  have := (pParts_small 60 t 60 h1).1
  omega
theorem few_ok {r : Ru} (h : fewB r = true) (hN : NiceR reachBytes maxLen r) : RuOk reachBytes maxLen r := by
  simp only [fewB, Bool.and_eq_true, decide_eq_true_eq, List.all_eq_true] at h
  obtain ⟨h1, h2, h3⟩ := h
  refine ⟨fun t ht => ?_, fun t ht => ?_, by omega, by decide⟩
  · simp only [atomsOf, List.mem_cons, List.mem_map] at ht
    rcases ht with rfl | ⟨x, hx, rfl⟩
    · exact hN.1
    · exact hN.2 x hx
  · simp only [atomsOf, List.mem_cons, List.mem_map] at ht
    rcases ht with rfl | ⟨x, hx, rfl⟩
    · have := smB_sz h2; omega
    · have := smB_sz (h3 x hx); omega

set_option maxRecDepth 100000 in
set_option maxHeartbeats 4000000 in
theorem few_ (r : Ru) (p : Nat → Prop) (vh vb : Value) (w : World) (hh : SlT p w vh r.head.args) (hb : SlLi p w vb r.body) :
    Calls Tryz.prog 12 #[.agg #[.string r.head.name, vh, vb]] w fun e w' => e = .returned (.bool (fewB r)) ∧ Ch [] w w' := by
  have HF := Lib.hid (show fewB r = (decide (r.body.length ≤ 12) && (smB r.head && r.body.all (fun x => smB x.atom))) from rfl)
  generalize fewB r = R at *
  obtain ⟨hd, body⟩ := r
  simp only at hh hb HF ⊢
  have hsh : ∀ wz, Ch [] w wz → Calls Tryz.prog 28 #[.agg #[.string hd.name, vh], .int .i64 (60 : Nat)] wz fun e w' => e = .returned (.bool (smB hd)) ∧ Ch [] wz w' := fun wz (hz : Ch [] w wz) => small_ hd p vh wz 60 (hh.ch0 hz) (by omega)
  obtain ⟨ah, ch, rfl, _, _⟩ := hh.form
  obtain ⟨a, c, rfl, hlc, hmx⟩ := hb.form
  unfold maxLen at hmx
  generalize hd.args.length = hL at *
  have hbx := Blk.new w 31 #[.string hd.name, .slice ah hL ch, .slice a body.length c]
  have hcA : Ch [] w (w.alloc (.cells #[.string hd.name, .slice ah hL ch, .slice a body.length c] 31)) := (Ch.refl _ _).alloc _
  generalize hwA : (w.alloc (.cells #[.string hd.name, .slice ah hL ch, .slice a body.length c] 31)) = wA at *
  have b0 := hbx.cell 0
  have b1 := hbx.cell 1
  have b2 := hbx.cell 2
  by_cases hbig : 12 < body.length
  · have d1 : decide ((12 : Int) < (body.length : Int)) = true := decide_eq_true (by omega)
    have HX : Hid (R = false) := by unfold Hid; rw [HF.out, decide_eq_false (by omega)]; rfl
    clear hbig
    go_enter Tryz.func12, Tryz.ntmps12
    go_wp2
    go_ret
    exact ⟨by rw [HX.out]; rfl, hcA⟩
  · have d1 : decide ((12 : Int) < (body.length : Int)) = false := decide_eq_false (by omega)
    have HF2 : Hid (R = (smB hd && body.all (fun x => smB x.atom))) := by unfold Hid; rw [HF.out, decide_eq_true (by omega)]; rfl
    clear hbig HF
    cases hs : smB hd with
    | false =>
      rw [hs] at hsh
      have HX : Hid (R = false) := by unfold Hid; rw [HF2.out, hs]; rfl
      clear hs
      go_enter Tryz.func12, Tryz.ntmps12
      go_wp2_with (go_at_call 28; refine (hsh _ hcA).mono ?_; rintro e w1 ⟨rfl, hc1⟩; clear hsh)
      go_ret
      exact ⟨by rw [HX.out]; rfl, hcA.trans hc1⟩
    | true =>
      rw [hs] at hsh
      have HF3 : Hid (R = body.all (fun x => smB x.atom)) := by unfold Hid; rw [HF2.out, hs]; rfl
      clear hs HF2
      go_enter Tryz.func12, Tryz.ntmps12
      go_wp2_with (go_at_call 28; refine (hsh _ hcA).mono ?_; rintro e w1 ⟨rfl, hc1⟩; clear hsh)
      have hC1 := hcA.trans hc1
      have hbx1 := hbx.ch hc1 (by simp)
      clear b0 b1 b2 hwA hbx
      go_loopw [3] (fun i wr => ∃ k : Nat, k ≤ body.length ∧ i = .int .i64 k ∧ Ch [] w1 wr ∧ Hid (∀ j (hj : j < body.length), j < k → smB body[j].atom = true)) (fun i _ => body.length - (intOf i).toNat)
      case atStart => exact ⟨0, Nat.zero_le _, rfl, Ch.refl _ _, fun j _ h => absurd h (Nat.not_lt_zero _)⟩
      case round =>
        obtain ⟨k, hk, rfl, hB, HN⟩ := hrel
        have hbr2 := (hbx1.ch hB (by simp)).cell 2
        by_cases hlt : k < body.length
        · obtain ⟨b', o, a', c', rfl, hp, c0, c1, c2, hT⟩ := (hb.ch0 (hC1.trans hB)).at_ hlt
          have hcall : Calls Tryz.prog 28 #[.agg #[.string body[k].atom.name, .slice a' body[k].atom.args.length c'], .int .i64 (60 : Nat)] wr fun e w' => e = .returned (.bool (smB body[k].atom)) ∧ Ch [] wr w' := small_ body[k].atom _ _ wr 60 hT (by omega)
          have j1 : decide (k < body.length) = true := decide_eq_true hlt
          have HG0 := Lib.hid (show smB body[k].atom = true → ∀ j (hj : j < body.length), j < k + 1 → smB body[j].atom = true from fun h0 j hj h1 => by
            rcases Nat.lt_succ_iff_lt_or_eq.1 h1 with h2 | h2
            · exact HN.out j hj h2
            · subst h2; exact h0)
          have HG1 := Lib.hid (show smB body[k].atom = false → R = false from fun h0 => by
            rw [HF3.out, List.all_eq_false]
            exact ⟨_, List.getElem_mem hlt, by rw [h0]; simp⟩)
          clear hT
          generalize body[k] = x at *
          obtain ⟨xn, xa⟩ := x
          simp only at hcall HG0 HG1 c0 c1 c2
          cases hs : smB xa with
          | true =>
            rw [hs] at hcall
            have HX := Lib.hid (HG0.out hs)
            clear hs HG0 HG1
            go_wp2_with (go_at_call 28; refine hcall.mono ?_; rintro e w3 ⟨rfl, hc3⟩; clear hcall)
            go_roundw
            case rel => exact ⟨k + 1, by omega, by go_num, hB.trans hc3, HX⟩
            case measure => simp [intOf]; omega
          | false =>
            rw [hs] at hcall
            have HX := Lib.hid (HG1.out hs)
            clear hs HG0 HG1
            go_wp2_with (go_at_call 28; refine hcall.mono ?_; rintro e w3 ⟨rfl, hc3⟩; clear hcall)
            go_ret
            exact ⟨by rw [HX.out]; rfl, (hC1.trans hB).trans hc3⟩
        · have HX : Hid (R = true) := by
            unfold Hid
            rw [HF3.out, List.all_eq_true]
            intro x hx
            obtain ⟨j, hj, rfl⟩ := List.getElem_of_mem hx
            exact HN.out j hj (by omega)
          have j1 : decide (k < body.length) = false := decide_eq_false hlt
          go_wp2
          go_ret
          exact ⟨by rw [HX.out]; rfl, hC1.trans hB⟩

set_option maxRecDepth 100000 in
set_option maxHeartbeats 4000000 in
theorem fewRules_ (p : Nat → Prop) (v : Value) (l : List Ru) (most : Nat) (w : World) (h : SlR p w v l) :
    Calls Tryz.prog 15 #[v, .int .i64 (most : Int)] w fun e w' => e = .returned (.bool (decide (l.length ≤ most) && l.all fewB)) ∧ Ch [] w w' := by
  have HF := Lib.hid (show (decide (l.length ≤ most) && l.all fewB) = (decide (l.length ≤ most) && l.all fewB) from rfl)
  generalize hR : (decide (l.length ≤ most) && l.all fewB) = R at *
  have HF : Hid (R = (decide (l.length ≤ most) && l.all fewB)) := hR.symm
  clear hR
  obtain ⟨a, c, rfl, hlc, hm⟩ := h.form
  unfold maxLen at hm
  by_cases hbig : most < l.length
  · have d1 : decide (most < l.length) = true := decide_eq_true hbig
    have HX : Hid (R = false) := by unfold Hid; rw [HF.out, decide_eq_false (by omega)]; rfl
    clear hbig
    go_enter Tryz.func15, Tryz.ntmps15
    go_wp2
    go_ret
    exact ⟨by rw [HX.out]; rfl, Ch.refl _ _⟩
  · have d1 : decide (most < l.length) = false := decide_eq_false hbig
    have HF3 : Hid (R = l.all fewB) := by unfold Hid; rw [HF.out, decide_eq_true (by omega)]; rfl
    clear hbig HF
    go_enter Tryz.func15, Tryz.ntmps15
    go_wp2
    go_loopw [5] (fun i wr => ∃ k : Nat, k ≤ l.length ∧ i = .int .i64 k ∧ Ch [] w wr ∧ Hid (∀ j (hj : j < l.length), j < k → fewB l[j] = true)) (fun i _ => l.length - (intOf i).toNat)
    case atStart => exact ⟨0, Nat.zero_le _, rfl, Ch.refl _ _, fun j _ h => absurd h (Nat.not_lt_zero _)⟩
    case round =>
      obtain ⟨k, hk, rfl, hB, HN⟩ := hrel
      by_cases hlt : k < l.length
      · obtain ⟨bb, o, a', c', a'', c'', rfl, hp, c0, c1, c2, hT, hL⟩ := (h.ch0 hB).at_ hlt
        have hcall := few_ l[k] _ _ _ wr hT hL
        have j1 : decide (k < l.length) = true := decide_eq_true hlt
        have HG0 := Lib.hid (show fewB l[k] = true → ∀ j (hj : j < l.length), j < k + 1 → fewB l[j] = true from fun h0 j hj h1 => by
          rcases Nat.lt_succ_iff_lt_or_eq.1 h1 with h2 | h2
          · exact HN.out j hj h2
          · subst h2; exact h0)
        have HG1 := Lib.hid (show fewB l[k] = false → R = false from fun h0 => by
          rw [HF3.out, List.all_eq_false]
          exact ⟨_, List.getElem_mem hlt, by rw [h0]; simp⟩)
        clear hT hL
        generalize l[k] = x at *
        cases hs : fewB x with
        | true =>
          rw [hs] at hcall
          have HX := Lib.hid (HG0.out hs)
          clear hs HG0 HG1
          go_wp2_with (go_at_call 12; refine hcall.mono ?_; rintro e w3 ⟨rfl, hc3⟩; clear hcall)
          go_roundw
          case rel => exact ⟨k + 1, by omega, by go_num, hB.trans hc3, HX⟩
          case measure => simp [intOf]; omega
        | false =>
          rw [hs] at hcall
          have HX := Lib.hid (HG1.out hs)
          clear hs HG0 HG1
          go_wp2_with (go_at_call 12; refine hcall.mono ?_; rintro e w3 ⟨rfl, hc3⟩; clear hcall)
          go_ret
          exact ⟨by rw [HX.out]; rfl, hB.trans hc3⟩
      · have HX : Hid (R = true) := by
          unfold Hid
          rw [HF3.out, List.all_eq_true]
          intro x hx
          obtain ⟨j, hj, rfl⟩ := List.getElem_of_mem hx
          exact HN.out j hj (by omega)
        have j1 : decide (k < l.length) = false := decide_eq_false hlt
        go_wp2
        go_ret
        exact ⟨by rw [HX.out]; rfl, hB⟩

section
variable {H : Type} {enc : TypeId × Value → H} {W : World}
set_option maxRecDepth 100000 in
theorem open_r {base : Nat} {v : Value} {d : DataW H} {ps : List MemPlace} (hval : Value.okWide Tryz.prog W .any base 31 v) (h : DataW.Trod enc Tryz.prog W 0 (fun _ => true) true 31 v d ps) (hw : WOk 31 d) :
    ∃ (r : Ru) (va vb : Value), v = .agg #[.string r.head.name, va, vb] ∧ SlT (fun _ => True) W va r.head.args ∧ SlLi (fun _ => True) W vb r.body ∧ NiceR reachBytes maxLen r := by
  obtain ⟨cs, rfl, hsz⟩ := okWide_struct Tryz.underlying31 hval
  obtain ⟨fuel, hf⟩ := h
  obtain ⟨r, ⟨va, vb, e, h1, h2⟩, h3⟩ := trod_Ru (show DataW.trod enc Tryz.prog W 0 (fun _ => true) true fuel 31 cs.toList = some (d, ps) from hf) hw
  refine ⟨r, va, vb, ?_, h1, h2, h3⟩
  obtain ⟨l⟩ := cs
  simp only at e
  rw [e]
end

set_option maxRecDepth 100000 in
set_option maxHeartbeats 8000000 in
theorem lawRule_ (r : Ru) (p : Nat → Prop) (vh vb : Value) (w : World) (hK : KwAt w) (hh : SlT p w vh r.head.args) (hb : SlLi p w vb r.body) (hN : NiceR reachBytes maxLen r) :
    Calls Tryz.prog 4 #[.agg #[.string r.head.name, vh, vb]] w fun e w' => e = .returned (.bool true) ∧ Ch [] w w' := by
  have hfew := fun wz (hz : Ch [] w wz) => few_ r p vh vb wz (hh.ch0 hz) (hb.ch0 hz)
  have HOK := Lib.hid (show fewB r = true → RuOk reachBytes maxLen r from fun h => few_ok h hN)
  clear hN
  have hc1 := Lib.hid (fun (hO : RuOk reachBytes maxLen r) wz (hz : Ch [] w wz) => chRule_ r p vh vb wz reachBytes maxLen (hK.ch hz) (hh.ch0 hz) (hb.ch0 hz) hO)
  have hc2 := Lib.hid (fun (hO : RuOk reachBytes maxLen r) wz (hz : Ch [] w wz) => refRule_ r p vh vb wz reachBytes maxLen (hh.ch0 hz) (hb.ch0 hz) hO)
  have hc3 := fun wz (hz : Ch [] w wz) => law11awake wz (hK.ch hz)
  obtain ⟨ah, ch, rfl, _, _⟩ := hh.form
  obtain ⟨a, c, rfl, hlc, hmx⟩ := hb.form
  generalize hal : r.head.args.length = al at *
  generalize hbl : r.body.length = bl at *
  clear hal hbl
  have hbx := Blk.new w 31 #[.string r.head.name, .slice ah al ch, .slice a bl c]
  have hcA : Ch [] w (w.alloc (.cells #[.string r.head.name, .slice ah al ch, .slice a bl c] 31)) := (Ch.refl _ _).alloc _
  generalize hwA : (w.alloc (.cells #[.string r.head.name, .slice ah al ch, .slice a bl c] 31)) = wA at *
  have b0 := hbx.cell 0
  have b1 := hbx.cell 1
  have b2 := hbx.cell 2
  cases hf : fewB r with
  | false =>
    rw [hf] at hfew
    go_enter Tryz.func4, Tryz.ntmps4
    go_wp2_with (first
      | (go_at_call 12; refine (hfew _ hcA).mono ?_; rintro e w1 ⟨rfl, hd1⟩; clear hfew)
      | (go_at_call 11; refine (hc3 _ (hcA.trans hd1)).mono ?_; rintro e w2 ⟨rfl, hd2⟩))
    go_ret
    exact ⟨rfl, (hcA.trans hd1).trans hd2⟩
  | true =>
    have hO := HOK.out hf
    rw [hf] at hfew
    have hr1 := hc1.out hO
    have hr2 := hc2.out hO
    clear hf HOK hc1 hc2 hO
    generalize ruleE r = E at *
    generalize r.head.name = nm at *
    go_enter Tryz.func4, Tryz.ntmps4
    go_wp2_with (first
      | (go_at_call 12; refine (hfew _ hcA).mono ?_; rintro e w1 ⟨rfl, hd1⟩; clear hfew))
    have hb1 := hbx.ch hd1 (by simp)
    have l0 := Later.cell (hb1.cell 0)
    have l1 := Later.cell (hb1.cell 1)
    have l2 := Later.cell (hb1.cell 2)
    have k1 := fun y : Later w1 => later_call (hr1 y.w ((hcA.trans hd1).trans y.ch))
    have k2 := fun y : Later w1 => later_call (hr2 y.w ((hcA.trans hd1).trans y.ch))
    have k3 := fun y : Later w1 => later_call (hc3 y.w ((hcA.trans hd1).trans y.ch))
    have e1 : (E == E) = true := by simp
    clear hr1 hr2 hc3 b0 b1 b2
    refine wp_region_later (by kernel_rfl) (lexB_of (by kernel_rfl)) ?_
    repeat (go_big_quiet_step (first | exact k1 _ | exact k2 _ | exact k3 _))
    refine wpQuiet_nil ?_
    intro w3 hw3
    go_wp2
    go_ret
    exact ⟨rfl, (hcA.trans hd1).trans hw3⟩
end
end Go.Proofs.YtbongbknciibiaaGreatDoor
