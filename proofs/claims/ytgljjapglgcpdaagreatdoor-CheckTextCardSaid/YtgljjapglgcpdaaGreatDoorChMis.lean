
/-
  The contracts of slices.IndexFunc, ContainsFunc over terms (PRINTED BY wip/gen/idx.py), and of check.misnamed and wide.
  The contracts of check.misnamed and wide.
-/
import Derived.Test.YtgljjapglgcpdaaGreatDoorChVars
import Derived.Test.YtgljjapglgcpdaaGreatDoorChPlain
namespace Go.Proofs.YtgljjapglgcpdaaGreatDoor

section
open Go.RowKit

theorem idxOf_at (f : Tm → Bool) (ts : List Tm) (k : Nat) (h : k < ts.length) (hn : ∀ i (hi : i < k), f (ts[i]'(by omega)) = false) (hk : f ts[k] = true) : idxOf f ts = k := by
  have : ts.findIdx? f = some k := by
    rw [List.findIdx?_eq_some_iff_getElem]
    exact ⟨h, hk, fun j hj => by rw [hn j hj]; simp⟩
  unfold idxOf; rw [this]
theorem idxOf_none (f : Tm → Bool) (ts : List Tm) (hn : ∀ i (hi : i < ts.length), f ts[i] = false) : idxOf f ts = -1 := by
  have : ts.findIdx? f = none := by
    rw [List.findIdx?_eq_none_iff]
    intro x hx
    obtain ⟨i, hi, rfl⟩ := List.getElem_of_mem hx
    exact hn i hi
  unfold idxOf; rw [this]
theorem idxOf_any (f : Tm → Bool) (ts : List Tm) : decide (0 ≤ idxOf f ts) = ts.any f := by
  cases h : ts.findIdx? f with
  | none =>
    have h1 : idxOf f ts = -1 := by unfold idxOf; rw [h]
    rw [List.findIdx?_eq_none_iff] at h
    have h2 : ts.any f = false := by
      rw [List.any_eq_false]
      intro x hx; simp [h x hx]
    rw [h1, h2]; rfl
  | some k =>
    have h1 : idxOf f ts = k := by unfold idxOf; rw [h]
    rw [h1]
    rw [List.findIdx?_eq_some_iff_getElem] at h
    obtain ⟨h2, h3, _⟩ := h
    have : ts.any f = true := List.any_eq_true.2 ⟨_, List.getElem_mem h2, h3⟩
    rw [this]; exact decide_eq_true (by omega)

set_option maxRecDepth 100000 in
set_option maxHeartbeats 2000000 in
theorem idx_misnamed (f : Tm → Bool) (p : Nat → Prop) (v : Value) (ts : List Tm) (w : World) (h : SlT p w v ts)
    (hF : ∀ t ∈ ts, ∀ (q : Nat → Prop) (va : Value) (wz : World), SlT q wz va t.args → Calls Tryz.prog 50 #[.agg #[.string t.name, va]] wz fun e w' => e = .returned (.bool (f t)) ∧ Ch [] wz w') :
    Calls Tryz.prog 44 #[v, .func (.func 50) #[] #[]] w fun e w' => e = .returned (.int .i64 (idxOf f ts)) ∧ Ch [] w w' := by
  obtain ⟨a, c, rfl, hlc, hm⟩ := h.form
  unfold maxLen at hm
  have HF := Lib.hid hF; clear hF
  go_enter Tryz.func44, Tryz.ntmps44
  go_wp2
  go_loopw [5, 8] (fun _ i wr => ∃ k : Nat, k ≤ ts.length ∧ i = .int .i64 k ∧ Ch [] w wr ∧ Hid (∀ j (hj : j < ts.length), j < k → f ts[j] = false)) (fun _ i _ => ts.length - (intOf i).toNat)
  case atStart => exact ⟨0, Nat.zero_le _, rfl, Ch.refl _ _, fun j _ h => absurd h (Nat.not_lt_zero _)⟩
  case round =>
    obtain ⟨k, hk, rfl, hB, HN⟩ := hrel
    by_cases hlt : k < ts.length
    · obtain ⟨b, o, a', c', rfl, hp, c0, c1, hT⟩ := (h.ch0 hB).at_ hlt
      have hcall := HF.out ts[k] (List.getElem_mem hlt) _ _ wr hT
      cases hq : f ts[k] with
      | true =>
        rw [hq] at hcall
        have HR := Lib.hid (idxOf_at f ts k hlt (fun j hj => HN.out j _ hj) hq)
        clear hq
        generalize ts[k] = x at *
        go_wp2_with (go_at_call 50; refine hcall.mono ?_; rintro e w1 ⟨rfl, hc1⟩; clear hcall)
        go_ret
        exact ⟨by rw [HR.out]; rfl, hB.trans hc1⟩
      | false =>
        rw [hq] at hcall
        have HX : Hid (∀ j (hj : j < ts.length), j < k + 1 → f ts[j] = false) := fun j hj h1 => by
          rcases Nat.lt_succ_iff_lt_or_eq.1 h1 with h2 | h2
          · exact HN.out j hj h2
          · subst h2; exact hq
        clear hq
        generalize ts[k] = x at *
        go_wp2_with (go_at_call 50; refine hcall.mono ?_; rintro e w1 ⟨rfl, hc1⟩; clear hcall)
        go_roundw
        case rel => exact ⟨k + 1, by omega, by go_num, hB.trans hc1, HX⟩
        case measure => simp [intOf]; omega
    · have HR := Lib.hid (idxOf_none f ts (fun j hj => HN.out j hj (by omega)))
      go_wp2
      go_ret
      exact ⟨by rw [HR.out]; rfl, hB⟩

set_option maxRecDepth 100000 in
set_option maxHeartbeats 2000000 in
theorem any_misnamed (f : Tm → Bool) (p : Nat → Prop) (v : Value) (ts : List Tm) (w : World) (h : SlT p w v ts)
    (hF : ∀ t ∈ ts, ∀ (q : Nat → Prop) (va : Value) (wz : World), SlT q wz va t.args → Calls Tryz.prog 50 #[.agg #[.string t.name, va]] wz fun e w' => e = .returned (.bool (f t)) ∧ Ch [] wz w') :
    Calls Tryz.prog 40 #[v, .func (.func 50) #[] #[]] w fun e w' => e = .returned (.bool (ts.any f)) ∧ Ch [] w w' := by
  have hcall := fun wz (hz : SlT p wz v ts) => idx_misnamed f p v ts wz hz hF
  have HA := Lib.hid (idxOf_any f ts)
  clear hF
  generalize idxOf f ts = r at *
  generalize ts.any f = an at *
  obtain ⟨a, c, rfl, hlc, hm⟩ := h.form
  go_enter Tryz.func40, Tryz.ntmps40
  go_wp2_with (go_at_call 44; refine (hcall _ h).mono ?_; rintro e w1 ⟨rfl, hc1⟩; clear hcall)
  go_ret
  exact ⟨by rw [← HA.out]; rfl, hc1⟩


set_option maxRecDepth 100000 in
set_option maxHeartbeats 2000000 in
theorem idx_wide (f : Tm → Bool) (p : Nat → Prop) (v : Value) (ts : List Tm) (w : World) (h : SlT p w v ts)
    (hF : ∀ t ∈ ts, ∀ (q : Nat → Prop) (va : Value) (wz : World), SlT q wz va t.args → Calls Tryz.prog 51 #[.agg #[.string t.name, va]] wz fun e w' => e = .returned (.bool (f t)) ∧ Ch [] wz w') :
    Calls Tryz.prog 44 #[v, .func (.func 51) #[] #[]] w fun e w' => e = .returned (.int .i64 (idxOf f ts)) ∧ Ch [] w w' := by
  obtain ⟨a, c, rfl, hlc, hm⟩ := h.form
  unfold maxLen at hm
  have HF := Lib.hid hF; clear hF
  go_enter Tryz.func44, Tryz.ntmps44
  go_wp2
  go_loopw [5, 8] (fun _ i wr => ∃ k : Nat, k ≤ ts.length ∧ i = .int .i64 k ∧ Ch [] w wr ∧ Hid (∀ j (hj : j < ts.length), j < k → f ts[j] = false)) (fun _ i _ => ts.length - (intOf i).toNat)
  case atStart => exact ⟨0, Nat.zero_le _, rfl, Ch.refl _ _, fun j _ h => absurd h (Nat.not_lt_zero _)⟩
  case round =>
    obtain ⟨k, hk, rfl, hB, HN⟩ := hrel
    by_cases hlt : k < ts.length
    · obtain ⟨b, o, a', c', rfl, hp, c0, c1, hT⟩ := (h.ch0 hB).at_ hlt
      have hcall := HF.out ts[k] (List.getElem_mem hlt) _ _ wr hT
      cases hq : f ts[k] with
      | true =>
        rw [hq] at hcall
        have HR := Lib.hid (idxOf_at f ts k hlt (fun j hj => HN.out j _ hj) hq)
        clear hq
        generalize ts[k] = x at *
        go_wp2_with (go_at_call 51; refine hcall.mono ?_; rintro e w1 ⟨rfl, hc1⟩; clear hcall)
        go_ret
        exact ⟨by rw [HR.out]; rfl, hB.trans hc1⟩
      | false =>
        rw [hq] at hcall
        have HX : Hid (∀ j (hj : j < ts.length), j < k + 1 → f ts[j] = false) := fun j hj h1 => by
          rcases Nat.lt_succ_iff_lt_or_eq.1 h1 with h2 | h2
          · exact HN.out j hj h2
          · subst h2; exact hq
        clear hq
        generalize ts[k] = x at *
        go_wp2_with (go_at_call 51; refine hcall.mono ?_; rintro e w1 ⟨rfl, hc1⟩; clear hcall)
        go_roundw
        case rel => exact ⟨k + 1, by omega, by go_num, hB.trans hc1, HX⟩
        case measure => simp [intOf]; omega
    · have HR := Lib.hid (idxOf_none f ts (fun j hj => HN.out j hj (by omega)))
      go_wp2
      go_ret
      exact ⟨by rw [HR.out]; rfl, hB⟩

set_option maxRecDepth 100000 in
set_option maxHeartbeats 2000000 in
theorem any_wide (f : Tm → Bool) (p : Nat → Prop) (v : Value) (ts : List Tm) (w : World) (h : SlT p w v ts)
    (hF : ∀ t ∈ ts, ∀ (q : Nat → Prop) (va : Value) (wz : World), SlT q wz va t.args → Calls Tryz.prog 51 #[.agg #[.string t.name, va]] wz fun e w' => e = .returned (.bool (f t)) ∧ Ch [] wz w') :
    Calls Tryz.prog 40 #[v, .func (.func 51) #[] #[]] w fun e w' => e = .returned (.bool (ts.any f)) ∧ Ch [] w w' := by
  have hcall := fun wz (hz : SlT p wz v ts) => idx_wide f p v ts wz hz hF
  have HA := Lib.hid (idxOf_any f ts)
  clear hF
  generalize idxOf f ts = r at *
  generalize ts.any f = an at *
  obtain ⟨a, c, rfl, hlc, hm⟩ := h.form
  go_enter Tryz.func40, Tryz.ntmps40
  go_wp2_with (go_at_call 44; refine (hcall _ h).mono ?_; rintro e w1 ⟨rfl, hc1⟩; clear hcall)
  go_ret
  exact ⟨by rw [← HA.out]; rfl, hc1⟩
end

section
open Go.RowKit

theorem misL_any : ∀ ts : List Tm, ts.any misT = misL ts
  | [] => rfl
  | t :: ts => by simp only [List.any_cons, misL, misL_any ts]
theorem wideL_any : ∀ ts : List Tm, ts.any wideT = wideL ts
  | [] => rfl
  | t :: ts => by simp only [List.any_cons, wideL, wideL_any ts]
theorem misT_cons {nm : ByteArray} {ags : List Tm} (h : ags ≠ []) : misT (.mk nm ags) = (!nameB nm || misL ags) := by
  cases ags with
  | nil => exact absurd rfl h
  | cons a r => simp only [misT]

set_option maxRecDepth 100000 in
set_option maxHeartbeats 4000000 in
theorem misnamed_ : ∀ (n : Nat) (t : Tm), t.dep ≤ n → ∀ (p : Nat → Prop) (v : Value) (w : World) (B b : Nat), SlT p w v t.args → Nice B b t → B ≤ maxLen →
    Calls Tryz.prog 50 #[.agg #[.string t.name, v]] w fun e w' => e = .returned (.bool (misT t)) ∧ Ch [] w w' := by
  intro n
  induction n with
  | zero => intro t ht; cases t; simp [Tm.dep] at ht
  | succ n ih =>
    intro t ht p v w B b h hN hBm
    obtain ⟨nm, ags⟩ := t
    obtain ⟨a, c, rfl, hlc, hmx⟩ := h.form
    simp only [Tm.args, Tm.name, Tm.dep, Nice] at h hlc ht hN ⊢
    unfold maxLen at hmx
    have hnm : nm.size ≤ maxLen := by have := hN.1; omega
    have hbx := Blk.new w 28 #[.string nm, .slice a ags.length c]
    have hcA : Ch [] w (w.alloc (.cells #[.string nm, .slice a ags.length c] 28)) := (Ch.refl _ _).alloc _
    have hnum := fun wz => number_ nm wz hnm
    have hname := fun wz => name_ nm wz hnm
    have hvar := fun wz => variableT_ nm wz hnm
    by_cases hz : ags.length = 0
    · have hnil : ags = [] := List.eq_nil_of_length_eq_zero hz
      subst hnil
      clear ih hN
      have HR := Lib.hid (show misT (.mk nm []) = (!numB nm && (!nameB nm && !varB nm)) from by simp only [misT])
      simp only [List.length_nil] at hcA hbx h
      generalize hwA : (w.alloc (.cells #[.string nm, .slice a 0 c] 28)) = wA at *
      generalize numV nm = nv at *
      generalize numB nm = x1 at *
      generalize nameB nm = x2 at *
      generalize varB nm = x3 at *
      have b0 := hbx.cell 0
      have b1 := hbx.cell 1
      have hb0 := fun wz (hz : Ch [] wA wz) => (hbx.ch hz (by simp)).cell 0
      cases x1 <;> cases x2 <;> cases x3
      all_goals
        go_enter Tryz.func50, Tryz.ntmps50
        go_wp2_with (first
          | (go_at_call 86; refine (hnum _).mono ?_; rintro e w1 ⟨rfl, hc1⟩; have b01 := hb0 _ hc1)
          | (go_at_call 22; refine (hname _).mono ?_; rintro e w2 ⟨rfl, hc2⟩; have b02 := hb0 _ (hc1.trans hc2))
          | (go_at_call 54; refine (hvar _).mono ?_; rintro e w3 ⟨rfl, hc3⟩))
        go_ret
        refine ⟨by rw [HR.out]; rfl, ?_⟩
        first | exact ((hcA.trans hc1).trans hc2).trans hc3 | exact (hcA.trans hc1).trans hc2 | exact hcA.trans hc1
    · have hne : ags ≠ [] := fun e => hz (by rw [e]; rfl)
      have e1 : ((ags.length : Int) == 0) = false := by rw [beq_eq_false_iff_ne]; omega
      have HR := Lib.hid (misT_cons (nm := nm) hne)
      have hany := fun wz (hz : SlT p wz (.slice a ags.length c) ags) => any_misnamed misT p (.slice a ags.length c) ags wz hz (fun t htm q va wz hT => ih t (by have := deps_mem htm; omega) q va wz B b hT (niceL_mem.1 hN.2.2 t htm) hBm)
      rw [misL_any] at hany
      clear ih hN hne hz
      generalize hwA : (w.alloc (.cells #[.string nm, .slice a ags.length c] 28)) = wA at *
      generalize nameB nm = x2 at *
      generalize misL ags = x3 at *
      have b0 := hbx.cell 0
      have b1 := hbx.cell 1
      have hb1 := fun wz (hz : Ch [] wA wz) => (hbx.ch hz (by simp)).cell 1
      cases x2
      · go_enter Tryz.func50, Tryz.ntmps50
        go_wp2_with (first
          | (go_at_call 22; refine (hname _).mono ?_; rintro e w2 ⟨rfl, hc2⟩))
        go_ret
        exact ⟨by rw [HR.out]; rfl, hcA.trans hc2⟩
      · go_enter Tryz.func50, Tryz.ntmps50
        go_wp2_with (first
          | (go_at_call 22; refine (hname _).mono ?_; rintro e w2 ⟨rfl, hc2⟩; have b12 := hb1 _ hc2; have hw2 := (h.ch0 hcA).ch0 hc2)
          | (go_at_call 40; refine (hany _ hw2).mono ?_; rintro e w3 ⟨rfl, hc3⟩))
        go_ret
        exact ⟨by rw [HR.out]; rfl, (hcA.trans hc2).trans hc3⟩

set_option maxRecDepth 100000 in
set_option maxHeartbeats 4000000 in
theorem wide_ : ∀ (n : Nat) (t : Tm), t.dep ≤ n → ∀ (p : Nat → Prop) (v : Value) (w : World), SlT p w v t.args →
    Calls Tryz.prog 51 #[.agg #[.string t.name, v]] w fun e w' => e = .returned (.bool (wideT t)) ∧ Ch [] w w' := by
  intro n
  induction n with
  | zero => intro t ht; cases t; simp [Tm.dep] at ht
  | succ n ih =>
    intro t ht p v w h
    obtain ⟨nm, ags⟩ := t
    obtain ⟨a, c, rfl, hlc, hmx⟩ := h.form
    simp only [Tm.args, Tm.name, Tm.dep] at h hlc ht ⊢
    unfold maxLen at hmx
    have hbx := Blk.new w 28 #[.string nm, .slice a ags.length c]
    have hcA : Ch [] w (w.alloc (.cells #[.string nm, .slice a ags.length c] 28)) := (Ch.refl _ _).alloc _
    have HR := Lib.hid (show wideT (.mk nm ags) = (decide (4 < ags.length) || wideL ags) from by simp only [wideT])
    have hany := fun wz (hz : SlT p wz (.slice a ags.length c) ags) => any_wide wideT p (.slice a ags.length c) ags wz hz (fun t htm q va wz hT => ih t (by have := deps_mem htm; omega) q va wz hT)
    rw [wideL_any] at hany
    clear ih
    generalize wideL ags = x3 at *
    have b1 := hbx.cell 1
    have hw2 := h.ch0 hcA
    by_cases h4 : 4 < ags.length
    · have HX := Lib.hid (decide_eq_true h4)
      have e4 : decide ((4 : Int) < (ags.length : Int)) = true := decide_eq_true (by omega)
      go_enter Tryz.func51, Tryz.ntmps51
      go_wp2
      go_ret
      exact ⟨by rw [HR.out, HX.out]; rfl, hcA⟩
    · have HX := Lib.hid (decide_eq_false h4)
      have e4 : decide ((4 : Int) < (ags.length : Int)) = false := decide_eq_false (by omega)
      go_enter Tryz.func51, Tryz.ntmps51
      go_wp2_with (go_at_call 40; refine (hany _ hw2).mono ?_; rintro e w3 ⟨rfl, hc3⟩)
      go_ret
      exact ⟨by rw [HR.out, HX.out]; first | rfl | simp [e4], hcA.trans hc3⟩
end
end Go.Proofs.YtgljjapglgcpdaaGreatDoor
