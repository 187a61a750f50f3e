
/-
  The contracts of term.number, within, Ground, and of ref01's IsNumber, IsVariable, Constant, within, Ground.
  The contracts of ref01's Constant, within, Ground, sign, Strings, class, Compare, CompareList.
  The contracts of ref01's sign, Strings, class, CompareList, Compare.
  The contracts of slices.IndexFunc and ContainsFunc over numbers at a closure with one captured pointer, and of ground's numbers, rising.
  The contracts of ground.rising, of ref13.Numbers and of model.given.
-/
import Derived.Test.YtojokdicbopknaaGreatGdVL
import Derived.Test.YtojokdicbopknaaGreatChRef2
import Derived.Test.YtojokdicbopknaaGreatTmCmp
namespace Go.Proofs.YtojokdicbopknaaGreat

section
open Go.RowKit

set_option maxRecDepth 100000 in
theorem numT_ (s : ByteArray) (w : World) (hs : s.size ≤ maxLen) :
    Calls Tryz.prog 106 #[.string s] w fun e w' => e = .returned (.bool (numB s)) ∧ Ch [] w w' := by
  have hn := number_ s w hs
  go_enter Tryz.func106, Tryz.ntmps106
  go_wp2_with (go_at_call 108; refine hn.mono ?_; rintro e w1 ⟨rfl, hc1⟩)
  go_ret
  exact ⟨rfl, hc1⟩
set_option maxRecDepth 100000 in
theorem refIsNumber (s : ByteArray) (w : World) (hs : s.size ≤ maxLen) :
    Calls Tryz.prog 118 #[.string s] w fun e w' => e = .returned (.bool (numB s)) ∧ w = w' := by
  have hn := ref01Number s w hs
  go_enter Tryz.func118, Tryz.ntmps118
  go_wp2_with (go_at_call 120; refine hn.mono ?_; rintro e w1 ⟨rfl, rfl⟩)
  go_ret
  exact ⟨rfl, rfl⟩
set_option maxRecDepth 100000 in
theorem refValue (s : ByteArray) (w : World) (hs : s.size ≤ maxLen) :
    Calls Tryz.prog 102 #[.string s] w fun e w' => e = .returned (.int .i64 (numV s)) ∧ w = w' := by
  have hn := ref01Number s w hs
  go_enter Tryz.func102, Tryz.ntmps102
  go_wp2_with (go_at_call 120; refine hn.mono ?_; rintro e w1 ⟨rfl, rfl⟩)
  go_ret
  exact ⟨rfl, rfl⟩

set_option maxRecDepth 100000 in
set_option maxHeartbeats 4000000 in
theorem within_ : ∀ (l : Nat) (L : Int), Hid (L = (l : Int)) → L ≤ 4 → ∀ (t : Tm) (B b : Nat), Nice B b t → B ≤ maxLen → ∀ (p : Nat → Prop) (v : Value) (w : World), SlT p w v t.args →
    Calls Tryz.prog 86 #[.agg #[.string t.name, v], .int .i64 L, .bool false] w fun e w' => e = .returned (.bool (grdT l t)) ∧ Ch [] w w' := by
  intro l
  induction l with
  | zero =>
    intro L hL _ t B b _ _ p v w h
    have hz : L = 0 := by have := hL.out; simpa using this
    clear hL
    subst hz
    obtain ⟨a, c, rfl, hlc, hmx⟩ := h.form
    generalize t.args.length = n at *
    go_enter Tryz.func86, Tryz.ntmps86
    go_wp2
    go_ret
    exact ⟨rfl, (Ch.refl _ _).alloc _⟩
  | succ l ih =>
    intro L hL hL4 t B b hN hBm p v w h
    obtain ⟨nm, ags⟩ := t
    obtain ⟨a, c, rfl, hlc, hmx⟩ := h.form
    simp only [Tm.args, Tm.name] at h hlc ⊢
    simp only [Nice] at hN
    have HG : Hid (grdT (l + 1) (.mk nm ags) = (decide (ags.length ≤ 4) && (if ags.length = 0 then nameB nm || numB nm else ags.all (grdT l) && nameB nm))) := rfl
    generalize grdT (l + 1) (.mk nm ags) = R at *
    have HIH := Lib.hid ih; clear ih
    have HNI := Lib.hid (niceL_mem.1 hN.2.2)
    have HBM := Lib.hid hBm
    have hsz : nm.size ≤ maxLen := Nat.le_trans hN.1 hBm
    have hname := fun wz => name_ nm wz hsz
    have hnum := fun wz => numT_ nm wz hsz
    have hL1 : 1 ≤ L := by have := hL.out; omega
    have HL : Hid (L - 1 = (l : Int)) := by have := hL.out; unfold Hid; omega
    clear hN hBm hL hsz
    unfold maxLen at hmx
    have hbx := Blk.new w 59 #[.string nm, .slice a ags.length c]
    have hcA : Ch [] w (w.alloc (.cells #[.string nm, .slice a ags.length c] 59)) := (Ch.refl _ _).alloc _
    generalize hwA : (w.alloc (.cells #[.string nm, .slice a ags.length c] 59)) = wA at *
    have b0 := hbx.cell 0
    have b1 := hbx.cell 1
    have j0 : decide (L < 1) = false := decide_eq_false (by omega)
    by_cases h4 : 4 < ags.length
    · have HR : Hid (R = false) := by unfold Hid; rw [HG.out, decide_eq_false (by omega)]; rfl
      have j4 : decide (4 < ags.length) = true := decide_eq_true h4
      clear HG
      go_enter Tryz.func86, Tryz.ntmps86
      go_wp2
      go_ret
      exact ⟨by rw [HR.out]; rfl, hcA⟩
    · have j4 : decide (4 < ags.length) = false := decide_eq_false h4
      by_cases h0 : ags.length = 0
      · have hx : ags = [] := List.eq_nil_of_length_eq_zero h0
        subst hx
        have HR : Hid (R = (nameB nm || numB nm)) := by unfold Hid; rw [HG.out]; rfl
        clear HG h0 j4 h4
        simp only [List.length_nil] at *
        cases hn : nameB nm with
        | true =>
          rw [hn] at hname HR
          clear hn
          go_enter Tryz.func86, Tryz.ntmps86
          go_wp2_with (go_at_call 64; refine (hname _).mono ?_; rintro e w1 ⟨rfl, hc1⟩)
          go_ret
          exact ⟨by rw [HR.out]; rfl, hcA.trans hc1⟩
        | false =>
          rw [hn] at hname HR
          clear hn
          generalize numB nm = q at *
          cases q
          all_goals
            go_enter Tryz.func86, Tryz.ntmps86
            go_wp2_with (first
              | (go_at_call 64; refine (hname _).mono ?_; rintro e w1 ⟨rfl, hc1⟩; have d0 := (hbx.ch hc1 (by simp)).cell 0)
              | (go_at_call 106; refine (hnum _).mono ?_; rintro e w2 ⟨rfl, hc2⟩))
            go_ret
            exact ⟨by rw [HR.out]; rfl, (hcA.trans hc1).trans hc2⟩
      · have e0 : ((ags.length : Int) == 0) = false := by simpa using h0
        have HR : Hid (R = (ags.all (grdT l) && nameB nm)) := by unfold Hid; rw [HG.out, if_neg h0, decide_eq_true (by omega)]; rfl
        have HAt : Hid (∀ k (hk : k < ags.length), grdT l ags[k] = false → R = false) := fun k hk hq => by
          rw [HR.out]
          have : ags.all (grdT l) = false := by
            rw [Bool.eq_false_iff]; intro hall
            rw [List.all_eq_true] at hall
            rw [hall _ (List.getElem_mem hk)] at hq; cases hq
          rw [this]; rfl
        have HEnd : Hid ((∀ k (hk : k < ags.length), grdT l ags[k] = true) → R = nameB nm) := fun hq => by
          rw [HR.out]
          have : ags.all (grdT l) = true := by
            rw [List.all_eq_true]
            intro x hx
            obtain ⟨j, hj, rfl⟩ := List.getElem_of_mem hx
            exact hq j hj
          rw [this]; rfl
        clear HG HR h0 hnum
        go_enter Tryz.func86, Tryz.ntmps86
        go_wp2
        clear b0 b1
        go_loopw [8, 40] (fun _ i wr => ∃ k : Nat, k ≤ ags.length ∧ i = .int .i64 k ∧ Ch [] wA wr ∧ Hid (∀ j (hj : j < ags.length), j < k → grdT l ags[j] = true)) (fun _ i _ => ags.length - (intOf i).toNat)
        case atStart => exact ⟨0, Nat.zero_le _, rfl, Ch.refl _ _, fun j _ h => absurd h (Nat.not_lt_zero _)⟩
        case round =>
          obtain ⟨k, hk, rfl, hB, HN⟩ := hrel
          have hbr := hbx.ch hB (by simp)
          have b0 := hbr.cell 0
          have b1 := hbr.cell 1
          by_cases hlt : k < ags.length
          · obtain ⟨bk, o, a', c', rfl, hp, c0, c1, hT⟩ := (h.ch0 (hcA.trans hB)).at_ hlt
            have hnx := HNI.out _ (List.getElem_mem hlt)
            have j1 : decide (k < ags.length) = true := decide_eq_true hlt
            have hq0 := HAt.out k hlt
            have HX : Hid (grdT l ags[k] = true → ∀ j (hj : j < ags.length), j < k + 1 → grdT l ags[j] = true) := fun hq j hj h1 => by
              rcases Nat.lt_succ_iff_lt_or_eq.1 h1 with h2 | h2
              · exact HN.out j hj h2
              · subst h2; exact hq
            have HQ := Lib.hid hq0; clear hq0
            generalize ags[k] = x at *
            have hcN : Ch [] wr (wr.alloc (.cells #[.string x.name, .slice a' x.args.length c'] 59)) := (Ch.refl _ _).alloc _
            have hbn := Blk.new wr 59 #[.string x.name, .slice a' x.args.length c']
            have b10 := hbn.cell 0
            have b11 := hbn.cell 1
            have hcall := HIH.out (L - 1) HL (by omega) x B b hnx HBM.out _ _ _ (hT.ch0 hcN)
            cases hq : grdT l x with
            | false =>
              rw [hq] at hcall
              have HF := Lib.hid (HQ.out hq)
              clear hq HX HQ
              go_wp2_with (go_at_call 86; refine hcall.mono ?_; rintro e w1 ⟨rfl, hc1⟩; clear hcall)
              go_ret
              exact ⟨by rw [HF.out]; rfl, hcA.trans (hB.trans (hcN.trans hc1))⟩
            | true =>
              rw [hq] at hcall
              have HY := Lib.hid (HX.out hq)
              clear hq HX HQ
              go_wp2_with (go_at_call 86; refine hcall.mono ?_; rintro e w1 ⟨rfl, hc1⟩; clear hcall)
              go_roundw
              case rel => exact ⟨k + 1, by omega, by go_num, hB.trans (hcN.trans hc1), HY⟩
              case measure => simp [intOf]; omega
          · have HF := Lib.hid (HEnd.out (fun j hj => HN.out j hj (by omega)))
            have j1 : decide (k < ags.length) = false := decide_eq_false hlt
            go_wp2_with (go_at_call 64; refine (hname _).mono ?_; rintro e w1 ⟨rfl, hc1⟩)
            go_ret
            exact ⟨by rw [HF.out]; rfl, hcA.trans (hB.trans hc1)⟩

set_option maxRecDepth 100000 in
theorem groundT_ (t : Tm) (B b : Nat) (hN : Nice B b t) (hBm : B ≤ maxLen) (p : Nat → Prop) (v : Value) (w : World) (h : SlT p w v t.args) :
    Calls Tryz.prog 65 #[.agg #[.string t.name, v]] w fun e w' => e = .returned (.bool (grdT 4 t)) ∧ Ch [] w w' := by
  have hcall := fun wz (hz : Ch [] w wz) => within_ 4 4 rfl (Int.le_refl _) t B b hN hBm p v wz (h.ch0 hz)
  clear hN hBm
  obtain ⟨a, c, rfl, hlc, hmx⟩ := h.form
  clear h
  generalize t.args.length = n at *
  generalize t.name = nm at *
  generalize grdT 4 t = R at *
  have hbx := Blk.new w 59 #[.string nm, .slice a n c]
  have hcA : Ch [] w (w.alloc (.cells #[.string nm, .slice a n c] 59)) := (Ch.refl _ _).alloc _
  generalize hwA : (w.alloc (.cells #[.string nm, .slice a n c] 59)) = wA at *
  have b0 := hbx.cell 0
  have b1 := hbx.cell 1
  go_enter Tryz.func65, Tryz.ntmps65
  go_wp2_with (go_at_call 86; refine (hcall _ hcA).mono ?_; rintro e w1 ⟨rfl, hc1⟩)
  go_ret
  exact ⟨rfl, hcA.trans hc1⟩
end

section
open Go.RowKit

set_option maxRecDepth 100000 in
theorem refConst0 (nm : ByteArray) (a : Option Addr) (c : Nat) (w : World) (hs : nm.size ≤ maxLen) :
    Calls Tryz.prog 116 #[.agg #[.string nm, .slice a 0 c]] w fun e w' => e = .returned (.bool (nameB nm || numB nm)) ∧ Ch [] w w' := by
  have hname := fun wz => ref01Name nm wz hs
  have hnum := fun wz => refIsNumber nm wz hs
  have hbx := Blk.new w 59 #[.string nm, .slice a 0 c]
  have hcA : Ch [] w (w.alloc (.cells #[.string nm, .slice a 0 c] 59)) := (Ch.refl _ _).alloc _
  generalize hwA : (w.alloc (.cells #[.string nm, .slice a 0 c] 59)) = wA at *
  have b0 := hbx.cell 0
  have b1 := hbx.cell 1
  cases hn : nameB nm with
  | true =>
    rw [hn] at hname
    go_enter Tryz.func116, Tryz.ntmps116
    go_wp2_with (go_at_call 78; refine (hname _).mono ?_; rintro e w1 ⟨rfl, rfl⟩)
    go_ret
    exact ⟨rfl, hcA⟩
  | false =>
    rw [hn] at hname
    generalize numB nm = q at *
    cases q
    all_goals
      go_enter Tryz.func116, Tryz.ntmps116
      go_wp2_with (first
        | (go_at_call 78; refine (hname _).mono ?_; rintro e w1 ⟨rfl, rfl⟩)
        | (go_at_call 118; refine (hnum _).mono ?_; rintro e w2 ⟨rfl, rfl⟩))
      go_ret
      exact ⟨rfl, hcA⟩

set_option maxRecDepth 100000 in
set_option maxHeartbeats 4000000 in
theorem refWithin_ : ∀ (l : Nat) (L : Int), Hid (L = (l : Int)) → L ≤ 4 → ∀ (t : Tm) (B b : Nat), Nice B b t → B ≤ maxLen → ∀ (p : Nat → Prop) (v : Value) (w : World), SlT p w v t.args →
    Calls Tryz.prog 97 #[.agg #[.string t.name, v], .int .i64 L, .bool true] w fun e w' => e = .returned (.bool (grdT l t)) ∧ Ch [] w w' := by
  intro l
  induction l with
  | zero =>
    intro L hL _ t B b _ _ p v w h
    have hz : L = 0 := by have := hL.out; simpa using this
    clear hL
    subst hz
    obtain ⟨a, c, rfl, hlc, hmx⟩ := h.form
    generalize t.args.length = n at *
    go_enter Tryz.func97, Tryz.ntmps97
    go_wp2
    go_ret
    exact ⟨rfl, (Ch.refl _ _).alloc _⟩
  | succ l ih =>
    intro L hL hL4 t B b hN hBm p v w h
    obtain ⟨nm, ags⟩ := t
    obtain ⟨a, c, rfl, hlc, hmx⟩ := h.form
    simp only [Tm.args, Tm.name] at h hlc ⊢
    simp only [Nice] at hN
    have HG : Hid (grdT (l + 1) (.mk nm ags) = (decide (ags.length ≤ 4) && (if ags.length = 0 then nameB nm || numB nm else ags.all (grdT l) && nameB nm))) := rfl
    generalize grdT (l + 1) (.mk nm ags) = R at *
    have HIH := Lib.hid ih; clear ih
    have HNI := Lib.hid (niceL_mem.1 hN.2.2)
    have HBM := Lib.hid hBm
    have hsz : nm.size ≤ maxLen := Nat.le_trans hN.1 hBm
    have hname := fun wz => ref01Name nm wz hsz
    have hcon := fun a c wz => refConst0 nm a c wz hsz
    have hL1 : 1 ≤ L := by have := hL.out; omega
    have HL : Hid (L - 1 = (l : Int)) := by have := hL.out; unfold Hid; omega
    clear hN hBm hL hsz
    unfold maxLen at hmx
    have hbx := Blk.new w 59 #[.string nm, .slice a ags.length c]
    have hcA : Ch [] w (w.alloc (.cells #[.string nm, .slice a ags.length c] 59)) := (Ch.refl _ _).alloc _
    generalize hwA : (w.alloc (.cells #[.string nm, .slice a ags.length c] 59)) = wA at *
    have b0 := hbx.cell 0
    have b1 := hbx.cell 1
    have j0 : decide (L < 1) = false := decide_eq_false (by omega)
    by_cases h4 : 4 < ags.length
    · have HR : Hid (R = false) := by unfold Hid; rw [HG.out, decide_eq_false (by omega)]; rfl
      have j4 : decide (4 < ags.length) = true := decide_eq_true h4
      have e0 : ((ags.length : Int) == 0) = false := by have : ags.length ≠ 0 := by omega
                                                        simpa using this
      clear HG hcon
      generalize nameB nm = q at *
      cases q
      all_goals
        go_enter Tryz.func97, Tryz.ntmps97
        go_wp2_with (go_at_call 78; refine (hname _).mono ?_; rintro e w1 ⟨rfl, rfl⟩)
        go_ret
        exact ⟨by rw [HR.out]; rfl, hcA⟩
    · have j4 : decide (4 < ags.length) = false := decide_eq_false h4
      by_cases h0 : ags.length = 0
      · have hx : ags = [] := List.eq_nil_of_length_eq_zero h0
        subst hx
        have HR : Hid (R = (nameB nm || numB nm)) := by unfold Hid; rw [HG.out]; rfl
        clear HG h0 j4 h4
        simp only [List.length_nil] at *
        generalize (nameB nm || numB nm) = q at *
        cases q
        all_goals
          go_enter Tryz.func97, Tryz.ntmps97
          go_wp2_with (go_at_call 116; refine (hcon _ _ _).mono ?_; rintro e w1 ⟨rfl, hc1⟩)
          go_ret
          exact ⟨by rw [HR.out]; rfl, hcA.trans hc1⟩
      · have e0 : ((ags.length : Int) == 0) = false := by simpa using h0
        have HR : Hid (R = (ags.all (grdT l) && nameB nm)) := by unfold Hid; rw [HG.out, if_neg h0, decide_eq_true (by omega)]; rfl
        have HAt : Hid (∀ k (hk : k < ags.length), grdT l ags[k] = false → R = false) := fun k hk hq => by
          rw [HR.out]
          have : ags.all (grdT l) = false := by
            rw [Bool.eq_false_iff]; intro hall
            rw [List.all_eq_true] at hall
            rw [hall _ (List.getElem_mem hk)] at hq; cases hq
          rw [this]; rfl
        have HEnd : Hid (nameB nm = true → (∀ k (hk : k < ags.length), grdT l ags[k] = true) → R = true) := fun hn hq => by
          rw [HR.out, hn]
          have : ags.all (grdT l) = true := by
            rw [List.all_eq_true]
            intro x hx
            obtain ⟨j, hj, rfl⟩ := List.getElem_of_mem hx
            exact hq j hj
          rw [this]; rfl
        have HNo : Hid (nameB nm = false → R = false) := fun hn => by rw [HR.out, hn]; simp
        clear HG HR h0 hcon
        cases hn : nameB nm with
        | false =>
          rw [hn] at hname
          have HF := Lib.hid (HNo.out hn)
          clear hn HEnd HNo HAt
          go_enter Tryz.func97, Tryz.ntmps97
          go_wp2_with (go_at_call 78; refine (hname _).mono ?_; rintro e w1 ⟨rfl, rfl⟩)
          go_ret
          exact ⟨by rw [HF.out]; rfl, hcA⟩
        | true =>
        rw [hn] at hname
        have HEN := Lib.hid (HEnd.out hn)
        clear hn HEnd HNo
        go_enter Tryz.func97, Tryz.ntmps97
        go_wp2_with (go_at_call 78; refine (hname _).mono ?_; rintro e w1 ⟨rfl, rfl⟩)
        clear b0 b1
        go_loopw [7, 37] (fun _ i wr => ∃ k : Nat, k ≤ ags.length ∧ i = .int .i64 k ∧ Ch [] wA wr ∧ Hid (∀ j (hj : j < ags.length), j < k → grdT l ags[j] = true)) (fun _ i _ => ags.length - (intOf i).toNat)
        case atStart => exact ⟨0, Nat.zero_le _, rfl, Ch.refl _ _, fun j _ h => absurd h (Nat.not_lt_zero _)⟩
        case round =>
          obtain ⟨k, hk, rfl, hB, HN⟩ := hrel
          have hbr := hbx.ch hB (by simp)
          have b0 := hbr.cell 0
          have b1 := hbr.cell 1
          by_cases hlt : k < ags.length
          · obtain ⟨bk, o, a', c', rfl, hp, c0, c1, hT⟩ := (h.ch0 (hcA.trans hB)).at_ hlt
            have hnx := HNI.out _ (List.getElem_mem hlt)
            have j1 : decide (k < ags.length) = true := decide_eq_true hlt
            have hq0 := HAt.out k hlt
            have HX : Hid (grdT l ags[k] = true → ∀ j (hj : j < ags.length), j < k + 1 → grdT l ags[j] = true) := fun hq j hj h1 => by
              rcases Nat.lt_succ_iff_lt_or_eq.1 h1 with h2 | h2
              · exact HN.out j hj h2
              · subst h2; exact hq
            have HQ := Lib.hid hq0; clear hq0
            generalize ags[k] = x at *
            have hcall := HIH.out (L - 1) HL (by omega) x B b hnx HBM.out _ _ _ hT
            cases hq : grdT l x with
            | false =>
              rw [hq] at hcall
              have HF := Lib.hid (HQ.out hq)
              clear hq HX HQ
              go_wp2_with (go_at_call 97; refine hcall.mono ?_; rintro e w1 ⟨rfl, hc1⟩; clear hcall)
              go_ret
              exact ⟨by rw [HF.out]; rfl, hcA.trans (hB.trans hc1)⟩
            | true =>
              rw [hq] at hcall
              have HY := Lib.hid (HX.out hq)
              clear hq HX HQ
              go_wp2_with (go_at_call 97; refine hcall.mono ?_; rintro e w1 ⟨rfl, hc1⟩; clear hcall)
              go_roundw
              case rel => exact ⟨k + 1, by omega, by go_num, hB.trans hc1, HY⟩
              case measure => simp [intOf]; omega
          · have HF := Lib.hid (HEN.out (fun j hj => HN.out j hj (by omega)))
            have j1 : decide (k < ags.length) = false := decide_eq_false hlt
            go_wp2
            go_ret
            exact ⟨by rw [HF.out]; rfl, hcA.trans hB⟩

set_option maxRecDepth 100000 in
theorem refGround_ (t : Tm) (B b : Nat) (hN : Nice B b t) (hBm : B ≤ maxLen) (p : Nat → Prop) (v : Value) (w : World) (h : SlT p w v t.args) :
    Calls Tryz.prog 77 #[.agg #[.string t.name, v]] w fun e w' => e = .returned (.bool (grdT 4 t)) ∧ Ch [] w w' := by
  have hcall := fun wz (hz : Ch [] w wz) => refWithin_ 4 4 rfl (Int.le_refl _) t B b hN hBm p v wz (h.ch0 hz)
  clear hN hBm
  obtain ⟨a, c, rfl, hlc, hmx⟩ := h.form
  clear h
  generalize t.args.length = n at *
  generalize t.name = nm at *
  generalize grdT 4 t = R at *
  have hbx := Blk.new w 59 #[.string nm, .slice a n c]
  have hcA : Ch [] w (w.alloc (.cells #[.string nm, .slice a n c] 59)) := (Ch.refl _ _).alloc _
  generalize hwA : (w.alloc (.cells #[.string nm, .slice a n c] 59)) = wA at *
  have b0 := hbx.cell 0
  have b1 := hbx.cell 1
  go_enter Tryz.func77, Tryz.ntmps77
  go_wp2_with (go_at_call 97; refine (hcall _ hcA).mono ?_; rintro e w1 ⟨rfl, hc1⟩)
  go_ret
  exact ⟨rfl, hcA.trans hc1⟩
end

section
open Go.RowKit

theorem refSign (a b : Nat) (w : World) : Calls Tryz.prog 100 #[.int .i64 (a : Int), .int .i64 (b : Int)] w fun e w' => e = .returned (.int .i64 (ordN a b)) ∧ w = w' := by
  have HO := Lib.hid (show ordN a b = if a < b then -1 else if b < a then 1 else 0 from rfl)
  generalize ordN a b = r at *
  rcases Nat.lt_trichotomy a b with h | h | h
  · have d1 : decide (a < b) = true := decide_eq_true h
    have HR : Hid (r = -1) := by unfold Hid; rw [HO.out, if_pos h]
    clear h
    go_enter Tryz.func100, Tryz.ntmps100
    go_wp2
    go_ret
    exact ⟨by rw [HR.out]; rfl, rfl⟩
  · subst h
    have HR : Hid (r = 0) := by unfold Hid; rw [HO.out]; simp
    go_enter Tryz.func100, Tryz.ntmps100
    go_wp2
    go_ret
    exact ⟨by rw [HR.out]; rfl, rfl⟩
  · have d1 : decide (a < b) = false := decide_eq_false (by omega)
    have d2 : decide (b < a) = true := decide_eq_true h
    have HR : Hid (r = 1) := by unfold Hid; rw [HO.out, if_neg (by omega), if_pos h]
    clear h
    go_enter Tryz.func100, Tryz.ntmps100
    go_wp2
    go_ret
    exact ⟨by rw [HR.out]; rfl, rfl⟩

theorem refStrings (a b : ByteArray) (w : World) : Calls Tryz.prog 103 #[.string a, .string b] w fun e w' => e = .returned (.int .i64 (ordS a b)) ∧ w = w' := by
  have HO := Lib.hid (show ordS a b = if sLt a b = true then -1 else if sLt b a = true then 1 else 0 from rfl)
  have e1 : Op.bytesLess a.toList b.toList = sLt a b := rfl
  have e3 := beqS a b
  have HT := Lib.hid (@sLt_total a b)
  have HI := Lib.hid (sLt_irr a)
  cases hx : sLt a b with
  | false =>
    rw [hx] at e1
    by_cases hab : a = b
    · subst hab
      have HR : Hid (ordS a a = 0) := by unfold Hid; rw [HO.out, HI.out]; rfl
      rw [decide_eq_true rfl] at e3
      generalize ordS a a = r at *
      clear HO HT HI hx
      go_enter Tryz.func103, Tryz.ntmps103
      go_wp2
      go_ret
      exact ⟨by rw [HR.out]; rfl, rfl⟩
    · have hy : sLt b a = true := by
        cases hy : sLt b a with
        | true => rfl
        | false => exact absurd (HT.out hx hy) hab
      have HR : Hid (ordS a b = 1) := by unfold Hid; rw [HO.out, hx, hy]; rfl
      rw [decide_eq_false hab] at e3
      generalize ordS a b = r at *
      clear HO HT HI hx hy hab
      go_enter Tryz.func103, Tryz.ntmps103
      go_wp2
      go_ret
      exact ⟨by rw [HR.out]; rfl, rfl⟩
  | true =>
    rw [hx] at e1
    have HR : Hid (ordS a b = -1) := by unfold Hid; rw [HO.out, hx]; rfl
    generalize ordS a b = r at *
    clear HO HT HI hx e3
    go_enter Tryz.func103, Tryz.ntmps103
    go_wp2
    go_ret
    exact ⟨by rw [HR.out]; rfl, rfl⟩

set_option maxRecDepth 100000 in
theorem refClass (nm : ByteArray) (ags : List Tm) (a : Option Addr) (c : Nat) (w : World) (hs : nm.size ≤ maxLen) :
    Calls Tryz.prog 101 #[.agg #[.string nm, .slice a ags.length c]] w fun e w' => e = .returned (.int .i64 (clsT (.mk nm ags))) ∧ Ch [] w w' := by
  have hvar := fun wz => ref01Variable nm wz hs
  have hnum := fun wz => refIsNumber nm wz hs
  have HC := Lib.hid (clsT_mk nm ags)
  generalize clsT (.mk nm ags) = R at *
  generalize ags.length = n at *
  have hbx := Blk.new w 59 #[.string nm, .slice a n c]
  have hcA : Ch [] w (w.alloc (.cells #[.string nm, .slice a n c] 59)) := (Ch.refl _ _).alloc _
  generalize hwA : (w.alloc (.cells #[.string nm, .slice a n c] 59)) = wA at *
  have b0 := hbx.cell 0
  have b1 := hbx.cell 1
  by_cases h0 : n = 0
  · subst h0
    cases hn : numB nm with
    | true =>
      rw [hn] at hnum
      have HR : Hid (R = 0) := by unfold Hid; rw [HC.out, if_pos rfl, if_pos hn]
      clear hn HC
      go_enter Tryz.func101, Tryz.ntmps101
      go_wp2_with (go_at_call 118; refine (hnum _).mono ?_; rintro e w1 ⟨rfl, rfl⟩)
      go_ret
      exact ⟨by rw [HR.out]; rfl, hcA⟩
    | false =>
      rw [hn] at hnum
      have HV : Hid (R = if varB nm = true then 2 else 1) := by unfold Hid; rw [HC.out, if_pos rfl, if_neg (by simp [hn])]
      clear hn HC
      generalize varB nm = q at *
      cases q
      · have HR : Hid (R = 1) := by unfold Hid; rw [HV.out]; rfl
        go_enter Tryz.func101, Tryz.ntmps101
        go_wp2_with (first
          | (go_at_call 118; refine (hnum _).mono ?_; rintro e w1 ⟨rfl, rfl⟩)
          | (go_at_call 119; refine (hvar _).mono ?_; rintro e w1 ⟨rfl, rfl⟩))
        go_ret
        exact ⟨by rw [HR.out]; rfl, hcA⟩
      · have HR : Hid (R = 2) := by unfold Hid; rw [HV.out]; rfl
        go_enter Tryz.func101, Tryz.ntmps101
        go_wp2_with (first
          | (go_at_call 118; refine (hnum _).mono ?_; rintro e w1 ⟨rfl, rfl⟩)
          | (go_at_call 119; refine (hvar _).mono ?_; rintro e w1 ⟨rfl, rfl⟩))
        go_ret
        exact ⟨by rw [HR.out]; rfl, hcA⟩
  · have j1 : decide (0 < n) = true := decide_eq_true (by omega)
    have HR : Hid (R = 3) := by unfold Hid; rw [HC.out, if_neg h0]
    clear HC h0
    go_enter Tryz.func101, Tryz.ntmps101
    go_wp2
    go_ret
    exact ⟨by rw [HR.out]; rfl, hcA⟩
set_option maxRecDepth 100000 in
set_option maxHeartbeats 4000000 in
theorem refCmpList_ (xs ys : List Tm) (p q : Nat → Prop) (va vb : Value) (w : World) (h : SlT p w va xs) (h' : SlT q w vb ys)
    (HC : ∀ x ∈ xs, ∀ y ∈ ys, ∀ (p q : Nat → Prop) (va vb : Value) (wz : World), SlT p wz va x.args → SlT q wz vb y.args → Calls Tryz.prog 79 #[.agg #[.string x.name, va], .agg #[.string y.name, vb]] wz fun e w' => e = .returned (.int .i64 (cmpT x y)) ∧ Ch [] wz w') :
    Calls Tryz.prog 104 #[va, vb] w fun e w' => e = .returned (.int .i64 (cmpTL xs ys)) ∧ Ch [] w w' := by
  obtain ⟨a, c, rfl, hlc, hmx⟩ := h.form
  obtain ⟨b, d, rfl, hld, hmy⟩ := h'.form
  unfold maxLen at hmx hmy
  have HCC := Lib.hid HC; clear HC
  go_enter Tryz.func104, Tryz.ntmps104
  go_wp2
  go_loopw [5, 6] (fun i _ wr => ∃ k : Nat, k ≤ xs.length ∧ k ≤ ys.length ∧ i = .int .i64 k ∧ Ch [] w wr ∧ Hid (∀ j (h1 : j < xs.length) (h2 : j < ys.length), j < k → cmpT xs[j] ys[j] = 0)) (fun i _ _ => xs.length - (intOf i).toNat)
  case atStart => exact ⟨0, Nat.zero_le _, Nat.zero_le _, rfl, Ch.refl _ _, fun j _ _ h => absurd h (Nat.not_lt_zero _)⟩
  case round =>
    obtain ⟨k, hk1, hk2, rfl, hB, HN⟩ := hrel
    by_cases hlt : k < xs.length ∧ k < ys.length
    · obtain ⟨h1, h2⟩ := hlt
      obtain ⟨ba, oa, a1, c1, rfl, hp1, d0, d1, hT1⟩ := (h.ch0 hB).at_ h1
      obtain ⟨bb, ob, a2, c2, rfl, hp2, e0, e1, hT2⟩ := (h'.ch0 hB).at_ h2
      have hcall := fun y : Later wr => later_call (HCC.out xs[k] (List.getElem_mem h1) ys[k] (List.getElem_mem h2) _ _ _ _ y.w (hT1.ch0 y.ch) (hT2.ch0 y.ch))
      have HG0 := Lib.hid (show cmpT xs[k] ys[k] = 0 → ∀ j (h1 : j < xs.length) (h2 : j < ys.length), j < k + 1 → cmpT xs[j] ys[j] = 0 from fun h0 j g1 g2 g3 => by
        rcases Nat.lt_succ_iff_lt_or_eq.1 g3 with g4 | g4
        · exact HN.out j g1 g2 g4
        · subst g4; exact h0)
      have HG1 := Lib.hid (show ∀ r, cmpT xs[k] ys[k] = r → r ≠ 0 → cmpTL xs ys = r from fun r hr h0 => by
        rw [← hr] at h0 ⊢
        exact cmpTL_at xs ys k h1 h2 (fun j hj => HN.out j _ _ hj) h0)
      have l0 := Later.cell d0
      have l1 := Later.cell d1
      have l2 := Later.cell e0
      have l3 := Later.cell e1
      have i1 : (k : Int) < (xs.length : Int) := by omega
      have i2 : (k : Int) < (ys.length : Int) := by omega
      have j1 : decide (k < xs.length) = true := decide_eq_true h1
      have j2 : decide (k < ys.length) = true := decide_eq_true h2
      clear d0 d1 e0 e1 hT1 hT2
      generalize xs[k] = x at *
      generalize ys[k] = y at *
      generalize cmpT x y = r at *
      go_wp2
      refine wp_region_later (by kernel_rfl) (lexB_of (by kernel_rfl)) ?_
      repeat (go_big_quiet_step (exact hcall _))
      refine wpQuiet_nil ?_
      intro w3 hw3
      clear hcall l0 l1 l2 l3
      by_cases hz : r = 0
      · subst hz
        have HX := Lib.hid (HG0.out rfl)
        go_wp2
        go_roundw
        case rel => exact ⟨k + 1, by omega, by omega, by go_num, hB.trans hw3, HX⟩
        case measure => simp [intOf]; omega
      · have e1 : (r != 0) = true := by simpa using hz
        have HX := Lib.hid (HG1.out r rfl hz)
        clear hz
        go_wp2
        go_ret
        exact ⟨by rw [HX.out]; rfl, hB.trans hw3⟩
    · have HX : Hid (cmpTL xs ys = ordN xs.length ys.length) := cmpTL_end xs ys (fun j g1 g2 => HN.out j g1 g2 (by omega))
      rcases Nat.lt_or_ge k xs.length with h1 | h1
      · have j1 : decide (k < xs.length) = true := decide_eq_true h1
        have j2 : decide (k < ys.length) = false := decide_eq_false (fun h2 => hlt ⟨h1, h2⟩)
        clear hlt h1
        go_wp2_with (go_at_call 100; refine (refSign _ _ _).mono ?_; rintro e w' ⟨rfl, rfl⟩)
        go_ret
        exact ⟨by rw [HX.out]; rfl, hB⟩
      · have j1 : decide (k < xs.length) = false := decide_eq_false (by omega)
        clear hlt h1
        go_wp2_with (go_at_call 100; refine (refSign _ _ _).mono ?_; rintro e w' ⟨rfl, rfl⟩)
        go_ret
        exact ⟨by rw [HX.out]; rfl, hB⟩

set_option maxRecDepth 100000 in
set_option maxHeartbeats 8000000 in
theorem refCompare_ : ∀ (n : Nat) (t u : Tm), t.dep ≤ n → ∀ (B b : Nat), Nice B b t → Nice B b u → B ≤ maxLen → ∀ (p q : Nat → Prop) (va vb : Value) (w : World), SlT p w va t.args → SlT q w vb u.args →
    Calls Tryz.prog 79 #[.agg #[.string t.name, va], .agg #[.string u.name, vb]] w fun e w' => e = .returned (.int .i64 (cmpT t u)) ∧ Ch [] w w' := by
  intro n
  induction n with
  | zero => intro t u ht; cases t; simp [Tm.dep] at ht
  | succ n ih =>
    intro t u ht B b hN1 hN2 hBm p q va vb w h h'
    obtain ⟨nm, xs⟩ := t
    obtain ⟨mm, ys⟩ := u
    simp only [Tm.args, Tm.name, Tm.dep] at h h' ht ⊢
    simp only [Nice] at hN1 hN2
    have hlist := fun wz (hz : Ch [] w wz) => refCmpList_ xs ys p q va vb wz (h.ch0 hz) (h'.ch0 hz) (fun x hx y hy p q va vb wz hx1 hy1 => ih x y (by have := deps_mem hx; omega) B b (niceL_mem.1 hN1.2.2 x hx) (niceL_mem.1 hN2.2.2 y hy) hBm p q va vb wz hx1 hy1)
    obtain ⟨a, c, rfl, hlc, hmx⟩ := h.form
    obtain ⟨b, d, rfl, hld, hmy⟩ := h'.form
    have hs1 : nm.size ≤ maxLen := by omega
    have hs2 : mm.size ≤ maxLen := by omega
    have hk1 := fun wz => refClass nm xs a c wz hs1
    have hk2 := fun wz => refClass mm ys b d wz hs2
    have hv1 := fun wz => refValue nm wz hs1
    have hv2 := fun wz => refValue mm wz hs2
    have HE : Hid (cmpT (.mk nm xs) (.mk mm ys) = if ordN (clsT (.mk nm xs)) (clsT (.mk mm ys)) ≠ 0 then ordN (clsT (.mk nm xs)) (clsT (.mk mm ys)) else if clsT (.mk nm xs) = 0 then ordN (numV nm) (numV mm) else
      if xs.length ≠ ys.length then ordN xs.length ys.length else if ordS nm mm ≠ 0 then ordS nm mm else cmpTL xs ys) := cmpT_ref (.mk nm xs) (.mk mm ys)
    clear ih h h' hN1 hN2 hs1 hs2
    generalize cmpT (.mk nm xs) (.mk mm ys) = R at *
    generalize cmpTL xs ys = RL at *
    generalize clsT (.mk nm xs) = c1 at *
    generalize clsT (.mk mm ys) = c2 at *
    generalize numV nm = v1 at *
    generalize numV mm = v2 at *
    generalize xs.length = L at *
    generalize ys.length = M at *
    obtain ⟨wB, hwB⟩ : ∃ wB, (w.alloc (.cells #[.string nm, .slice a L c] 59)).alloc (.cells #[.string mm, .slice b M d] 59) = wB := ⟨_, rfl⟩
    have g0 : Blk wB w.heap.size 59 #[.string nm, .slice a L c] := by rw [← hwB]; exact (Blk.new _ _ _).alloc _
    have g1 : Blk wB (w.heap.size + 1) 59 #[.string mm, .slice b M d] := by rw [← hwB]; exact Blk.new' _ _ _ _ (by simp)
    have hcB : Ch [] w wB := by rw [← hwB]; exact ((Ch.refl _ _).alloc _).alloc _
    have l0 := Later.cell (g0.cell 0)
    have l1 := Later.cell (g0.cell 1)
    have l2 := Later.cell (g1.cell 0)
    have l3 := Later.cell (g1.cell 1)
    have q1 := fun y : Later wB => later_call (hk1 y.w)
    have q2 := fun y : Later wB => later_call (hk2 y.w)
    have q3 := fun (y : Later wB) => later_call ((refSign c1 c2 y.w).mono (fun e w' h => ⟨h.1, by rw [← h.2]; exact Ch.refl _ _⟩))
    go_enter Tryz.func79, Tryz.ntmps79
    go_wp2
    refine wp_region_later (by kernel_rfl) (lexB_of (by kernel_rfl)) ?_
    repeat (go_big_quiet_step (first | ((go_at_call_of 101 (Value.agg #[Value.string nm, Value.slice a L c]); with_reducible exact q1 _)) | ((go_at_call_of 101 (Value.agg #[Value.string mm, Value.slice b M d]); with_reducible exact q2 _)) | ((go_at_call 100; with_reducible exact q3 _))))
    refine wpQuiet_nil ?_
    intro w3 hw3
    have h0 := g0.ch hw3 (by simp)
    have h1 := g1.ch hw3 (by simp)
    have b0 := h0.cell 0
    have b1 := h0.cell 1
    have b2 := h1.cell 0
    have b3 := h1.cell 1
    have hw := hcB.trans hw3
    clear l0 l1 l2 l3 q1 q2 q3 hk2 g0 g1 hwB
    have HRL := Lib.hid (fun wz hz => hlist wz hz)
    clear hlist
    by_cases ec : c1 = c2
    · subst ec
      have hz : ordN c1 c1 = 0 := ordN_zero.2 rfl
      rw [hz] at HE ⊢
      clear hz
      by_cases e0 : c1 = 0
      · subst e0
        have HX : Hid (R = ordN v1 v2) := by unfold Hid; rw [HE.out, if_neg (by simp), if_pos rfl]
        have HH0 := Lib.hid h0
        have HH1 := Lib.hid h1
        clear HE
        go_wp2_with (go_at_call 101; refine (hk1 _).mono ?_; rintro e w4 ⟨rfl, hc4⟩; clear hk1)
        have l0 := Later.cell ((HH0.out.ch hc4 (by simp)).cell 0)
        have l2 := Later.cell ((HH1.out.ch hc4 (by simp)).cell 0)
        have q1 := fun y : Later w4 => later_call ((hv1 y.w).mono (fun e w' h => ⟨h.1, by rw [← h.2]; exact Ch.refl _ _⟩))
        have q2 := fun y : Later w4 => later_call ((hv2 y.w).mono (fun e w' h => ⟨h.1, by rw [← h.2]; exact Ch.refl _ _⟩))
        have q3 := fun (y : Later w4) => later_call ((refSign v1 v2 y.w).mono (fun e w' h => ⟨h.1, by rw [← h.2]; exact Ch.refl _ _⟩))
        clear hv1 hv2 b0 b1 b2 b3
        refine wp_region_later (by kernel_rfl) (lexB_of (by kernel_rfl)) ?_
        repeat (go_big_quiet_step (first | ((go_at_call_of 102 nm; with_reducible exact q1 _)) | ((go_at_call_of 102 mm; with_reducible exact q2 _)) | ((go_at_call 100; with_reducible exact q3 _))))
        refine wpQuiet_nil ?_
        intro w5 hw5
        go_wp2
        go_ret
        exact ⟨by rw [HX.out]; rfl, hw.trans (hc4.trans hw5)⟩
      · have q0 : ((c1 : Int) == 0) = false := by simpa using e0
        have HE2 : Hid (R = if L ≠ M then ordN L M else if ordS nm mm ≠ 0 then ordS nm mm else RL) := by unfold Hid; rw [HE.out, if_neg (by simp), if_neg e0]
        clear HE e0 hv1 hv2
        by_cases eL : L = M
        · subst eL
          have HE3 : Hid (R = if ordS nm mm ≠ 0 then ordS nm mm else RL) := by unfold Hid; rw [HE2.out, if_neg (by simp)]
          have hst := fun wz => refStrings nm mm wz
          clear HE2
          generalize ordS nm mm = r at *
          by_cases er : r = 0
          · subst er
            have HX : Hid (R = RL) := by unfold Hid; rw [HE3.out, if_neg (by simp)]
            clear HE3
            go_wp2_with (first
              | (go_at_call 101; refine (hk1 _).mono ?_; rintro e w4 ⟨rfl, hc4⟩; clear hk1; have k0 := h0.ch hc4 (by simp); have k1 := h1.ch hc4 (by simp); have d0 := k0.cell 0; have d1 := k0.cell 1; have d2 := k1.cell 0; have d3 := k1.cell 1)
              | (go_at_call 103; refine (hst _).mono ?_; rintro e w5 ⟨rfl, rfl⟩; clear hst)
              | (go_at_call 104; refine (HRL.out _ (hw.trans hc4)).mono ?_; rintro e w6 ⟨rfl, hc6⟩))
            go_ret
            exact ⟨by rw [HX.out]; rfl, (hw.trans hc4).trans hc6⟩
          · have HX : Hid (R = r) := by unfold Hid; rw [HE3.out, if_pos er]
            have e1 : (r != 0) = true := by simpa using er
            clear HE3 er
            go_wp2_with (first
              | (go_at_call 101; refine (hk1 _).mono ?_; rintro e w4 ⟨rfl, hc4⟩; clear hk1; have k0 := h0.ch hc4 (by simp); have k1 := h1.ch hc4 (by simp); have d0 := k0.cell 0; have d1 := k0.cell 1; have d2 := k1.cell 0; have d3 := k1.cell 1)
              | (go_at_call 103; refine (hst _).mono ?_; rintro e w5 ⟨rfl, rfl⟩; clear hst))
            go_ret
            exact ⟨by rw [HX.out]; rfl, hw.trans hc4⟩
        · have HX : Hid (R = ordN L M) := by unfold Hid; rw [HE2.out, if_pos eL]
          have e1 : ((L : Int) != (M : Int)) = true := by simp; omega
          have e2 : ((L : Int) == (M : Int)) = false := by rw [beq_eq_false_iff_ne]; omega
          clear HE2 eL
          go_wp2_with (first
            | (go_at_call 101; refine (hk1 _).mono ?_; rintro e w4 ⟨rfl, hc4⟩; clear hk1; have k0 := h0.ch hc4 (by simp); have k1 := h1.ch hc4 (by simp); have d0 := k0.cell 0; have d1 := k0.cell 1; have d2 := k1.cell 0; have d3 := k1.cell 1)
            | (go_at_call 100; refine (refSign _ _ _).mono ?_; rintro e w5 ⟨rfl, rfl⟩))
          go_ret
          exact ⟨by rw [HX.out]; rfl, hw.trans hc4⟩
    · have hr : ordN c1 c2 ≠ 0 := fun h => ec (ordN_zero.1 h)
      have HX : Hid (R = ordN c1 c2) := by unfold Hid; rw [HE.out, if_pos hr]
      generalize ordN c1 c2 = r at *
      have e1 : (r != 0) = true := by simpa using hr
      clear HE hr ec
      go_wp2
      go_ret
      exact ⟨by rw [HX.out]; rfl, hw⟩
end

section
open Go.RowKit

def idxG {α : Type} (f : α → Bool) (l : List α) : Int := match l.findIdx? f with | some i => (i : Int) | none => -1
theorem idxG_at {α : Type} (f : α → Bool) (ts : List α) (k : Nat) (h : k < ts.length) (hn : ∀ i (hi : i < k), f (ts[i]'(by omega)) = false) (hk : f ts[k] = true) : idxG f ts = k := by
  have : ts.findIdx? f = some k := by
    rw [List.findIdx?_eq_some_iff_getElem]
    exact ⟨h, hk, fun j hj => by rw [hn j hj]; simp⟩
  unfold idxG; rw [this]
theorem idxG_none {α : Type} (f : α → Bool) (ts : List α) (hn : ∀ i (hi : i < ts.length), f ts[i] = false) : idxG f ts = -1 := by
  have : ts.findIdx? f = none := by
    rw [List.findIdx?_eq_none_iff]
    intro x hx
    obtain ⟨i, hi, rfl⟩ := List.getElem_of_mem hx
    exact hn i hi
  unfold idxG; rw [this]
theorem idxG_any {α : Type} (f : α → Bool) (ts : List α) : decide (0 ≤ idxG f ts) = ts.any f := by
  cases h : ts.findIdx? f with
  | none =>
    have h1 : idxG f ts = -1 := by unfold idxG; rw [h]
    rw [List.findIdx?_eq_none_iff] at h
    have h2 : ts.any f = false := by
      rw [List.any_eq_false]
      intro x hx; simp [h x hx]
    rw [h1, h2]; rfl
  | some k =>
    have h1 : idxG f ts = k := by unfold idxG; rw [h]
    rw [h1]
    rw [List.findIdx?_eq_some_iff_getElem] at h
    obtain ⟨h2, h3, _⟩ := h
    have : ts.any f = true := List.any_eq_true.2 ⟨_, List.getElem_mem h2, h3⟩
    rw [this]; exact decide_eq_true (by omega)

set_option maxRecDepth 100000 in
theorem numbers1_ (x : Int) (N : Nat) (B : Nat) (a : Option Addr) (c : Nat) (v2 : Value) (w : World) (hb : Blk w B 25 #[.slice a N c, v2]) :
    Calls Tryz.prog 68 #[.int .i64 x, .pointer (some ⟨B, 0, none⟩)] w fun e w' => e = .returned (.bool (!numIn N x)) ∧ Ch [] w w' := by
  have b0 := hb.cell 0
  have HR := Lib.hid (show numIn N x = (decide (0 ≤ x) && decide (x < N)) from rfl)
  generalize numIn N x = R at *
  by_cases h0 : x < 0
  · have HX : Hid (R = false) := by unfold Hid; rw [HR.out, decide_eq_false (by omega)]; rfl
    have j0 : decide (x < 0) = true := decide_eq_true h0
    clear HR
    go_enter Tryz.func68, Tryz.ntmps68
    go_wp2
    go_ret
    exact ⟨by rw [HX.out]; rfl, Ch.refl _ _⟩
  · have j0 : decide (x < 0) = false := decide_eq_false h0
    by_cases h1 : (N : Int) ≤ x
    · have HX : Hid (R = false) := by unfold Hid; rw [HR.out, decide_eq_false (p := x < N) (by omega)]; simp
      have j1 : decide ((N : Int) ≤ x) = true := decide_eq_true h1
      clear HR
      go_enter Tryz.func68, Tryz.ntmps68
      go_wp2
      go_ret
      exact ⟨by rw [HX.out]; rfl, Ch.refl _ _⟩
    · have HX : Hid (R = true) := by unfold Hid; rw [HR.out, decide_eq_true (by omega), decide_eq_true (by omega)]; rfl
      have j1 : decide ((N : Int) ≤ x) = false := decide_eq_false h1
      clear HR
      go_enter Tryz.func68, Tryz.ntmps68
      go_wp2
      go_ret
      exact ⟨by rw [HX.out]; rfl, Ch.refl _ _⟩

set_option maxRecDepth 100000 in
set_option maxHeartbeats 2000000 in
theorem idxI_numbers (f : Int → Bool) (c1 : Value) (p : Nat → Prop) (v : Value) (xs : List Int) (w : World) (h : SlI p w v xs)
    (hF : ∀ x ∈ xs, ∀ wz, Ch [] w wz → Calls Tryz.prog 68 #[.int .i64 x, c1] wz fun e w' => e = .returned (.bool (f x)) ∧ Ch [] wz w') :
    Calls Tryz.prog 91 #[v, .func (.func 68) #[] #[c1]] w fun e w' => e = .returned (.int .i64 (idxG f xs)) ∧ Ch [] w w' := by
  obtain ⟨a, c, rfl, hlc, hm⟩ := h.form
  unfold maxLen at hm
  have HF := Lib.hid hF; clear hF
  go_enter Tryz.func91, Tryz.ntmps91
  go_wp2
  go_loopw [5, 8] (fun _ i wr => ∃ k : Nat, k ≤ xs.length ∧ i = .int .i64 k ∧ Ch [] w wr ∧ Hid (∀ j (hj : j < xs.length), j < k → f xs[j] = false)) (fun _ i _ => xs.length - (intOf i).toNat)
  case atStart => exact ⟨0, Nat.zero_le _, rfl, Ch.refl _ _, fun j _ h => absurd h (Nat.not_lt_zero _)⟩
  case round =>
    obtain ⟨k, hk, rfl, hB, HN⟩ := hrel
    by_cases hlt : k < xs.length
    · obtain ⟨b, o, rfl, hp, c0⟩ := (h.ch0 hB).at_ hlt
      have hcall := HF.out xs[k] (List.getElem_mem hlt) wr hB
      cases hq : f xs[k] with
      | true =>
        rw [hq] at hcall
        have HR := Lib.hid (idxG_at f xs k hlt (fun j hj => HN.out j _ hj) hq)
        clear hq
        generalize xs[k] = x at *
        go_wp2_with (go_at_call 68; refine hcall.mono ?_; rintro e w1 ⟨rfl, hc1⟩; clear hcall)
        go_ret
        exact ⟨by rw [HR.out]; rfl, hB.trans hc1⟩
      | false =>
        rw [hq] at hcall
        have HX : Hid (∀ j (hj : j < xs.length), j < k + 1 → f xs[j] = false) := fun j hj h1 => by
          rcases Nat.lt_succ_iff_lt_or_eq.1 h1 with h2 | h2
          · exact HN.out j hj h2
          · subst h2; exact hq
        clear hq
        generalize xs[k] = x at *
        go_wp2_with (go_at_call 68; refine hcall.mono ?_; rintro e w1 ⟨rfl, hc1⟩; clear hcall)
        go_roundw
        case rel => exact ⟨k + 1, by omega, by go_num, hB.trans hc1, HX⟩
        case measure => simp [intOf]; omega
    · have HR := Lib.hid (idxG_none f xs (fun j hj => HN.out j hj (by omega)))
      go_wp2
      go_ret
      exact ⟨by rw [HR.out]; rfl, hB⟩

set_option maxRecDepth 100000 in
set_option maxHeartbeats 2000000 in
theorem anyI_numbers (f : Int → Bool) (c1 : Value) (p : Nat → Prop) (v : Value) (xs : List Int) (w : World) (h : SlI p w v xs)
    (hF : ∀ x ∈ xs, ∀ wz, Ch [] w wz → Calls Tryz.prog 68 #[.int .i64 x, c1] wz fun e w' => e = .returned (.bool (f x)) ∧ Ch [] wz w') :
    Calls Tryz.prog 67 #[v, .func (.func 68) #[] #[c1]] w fun e w' => e = .returned (.bool (xs.any f)) ∧ Ch [] w w' := by
  have hcall := idxI_numbers f c1 p v xs w h hF
  have HA := Lib.hid (idxG_any f xs)
  clear hF
  generalize idxG f xs = r at *
  generalize xs.any f = an at *
  obtain ⟨a, c, rfl, hlc, hm⟩ := h.form
  go_enter Tryz.func67, Tryz.ntmps67
  go_wp2_with (go_at_call 91; refine hcall.mono ?_; rintro e w1 ⟨rfl, hc1⟩; clear hcall)
  go_ret
  exact ⟨by rw [← HA.out]; rfl, hc1⟩

set_option maxRecDepth 100000 in
theorem numbers_ (N : Nat) (a : Option Addr) (c : Nat) (v2 : Value) (p : Nat → Prop) (v : Value) (xs : List Int) (w : World) (h : SlI p w v xs) (_h2 : v2.oneCell' = true) :
    Calls Tryz.prog 47 #[.agg #[.slice a N c, v2], v] w fun e w' => e = .returned (.bool (numsIn N xs)) ∧ Ch [] w w' := by
  have hbx := Blk.new w 25 #[.slice a N c, v2]
  have hcA : Ch [] w (w.alloc (.cells #[.slice a N c, v2] 25)) := (Ch.refl _ _).alloc _
  generalize hwA : (w.alloc (.cells #[.slice a N c, v2] 25)) = wA at *
  have hcall := anyI_numbers (fun x => !numIn N x) (.pointer (some ⟨w.heap.size, 0, none⟩)) p v xs wA (h.ch0 hcA) (fun x _ wz hz => numbers1_ x N w.heap.size a c v2 wz (hbx.ch hz (by simp)))
  have HR : Hid (numsIn N xs = !(xs.any fun x => !numIn N x)) := by
    unfold Hid numsIn
    rw [List.not_any_eq_all_not]; simp
  generalize numsIn N xs = R at *
  generalize (xs.any fun x => !numIn N x) = an at *
  go_enter Tryz.func47, Tryz.ntmps47
  go_wp2_with (go_at_call 67; refine hcall.mono ?_; rintro e w1 ⟨rfl, hc1⟩; clear hcall)
  go_ret
  exact ⟨by rw [HR.out]; rfl, hcA.trans hc1⟩
end

section
open Go.RowKit

theorem SlI.two {p : Nat → Prop} {w : World} {a : Option Addr} {n c i j : Nat} {xs : List Int} (h : SlI p w (.slice a n c) xs) (hi : i < xs.length) (hj : j < xs.length) :
    ∃ b o, a = some ⟨b, o, none⟩ ∧ w.cell? ⟨b, o + i, none⟩ = some (.int .i64 xs[i]) ∧ w.cell? ⟨b, o + j, none⟩ = some (.int .i64 xs[j]) := by
  obtain ⟨b, o, rfl, _, h1⟩ := h.at_ hi
  obtain ⟨b2, o2, e, _, h2⟩ := h.at_ hj
  injection e with e
  injection e with e1 e2
  subst e1 e2
  exact ⟨_, _, rfl, h1, h2⟩
theorem wrap_sub1 (j : Nat) (h : j ≤ 1000000000) : IntKind.i64.wrap (((j + 1 : Nat) : Int) - 1) = (j : Int) ∧ IntKind.i64.wrap ((j : Int) + 1 - 1) = (j : Int) ∧ IntKind.i64.wrap (j : Int) = (j : Int) := by
  refine ⟨?_, ?_, ?_⟩ <;> (simp [IntKind.wrap, IntKind.signed, IntKind.bits]; omega)

set_option maxRecDepth 100000 in
set_option maxHeartbeats 2000000 in
theorem rising_ (p : Nat → Prop) (v : Value) (xs : List Int) (w : World) (h : SlI p w v xs) (hb : xs.length ≤ 1000000) :
    Calls Tryz.prog 48 #[v] w fun e w' => e = .returned (.bool (riseB xs)) ∧ Ch [] w w' := by
  obtain ⟨a, c, rfl, hlc, hm⟩ := h.form
  unfold maxLen at hm
  have HBad := Lib.hid (fun i hi h0 hl => riseB_bad (l := xs) (i := i) hi h0 hl)
  have HEnd := Lib.hid (riseB_iff xs).2
  generalize riseB xs = R at *
  go_enter Tryz.func48, Tryz.ntmps48
  go_wp2
  go_loopw [3, 6] (fun _ i wr => ∃ k : Nat, k ≤ xs.length ∧ i = .int .i64 k ∧ Ch [] w wr ∧ Hid (∀ j (hj : j + 1 < xs.length), j + 1 < k → xs[j] < xs[j + 1])) (fun _ i _ => xs.length - (intOf i).toNat)
  case atStart => exact ⟨0, Nat.zero_le _, rfl, Ch.refl _ _, fun j _ h => absurd h (Nat.not_lt_zero _)⟩
  case round =>
    obtain ⟨k, hk, rfl, hB, HN⟩ := hrel
    by_cases hlt : k < xs.length
    · have j1 : decide (k < xs.length) = true := decide_eq_true hlt
      cases k with
      | zero =>
        go_wp2
        refine wp_region_later (by kernel_rfl) (lexB_of (by kernel_rfl)) ?_
        repeat (go_big_quiet_step (fail))
        refine wpQuiet_nil ?_
        intro w3 hw3
        go_wp2
        go_roundw
        case rel => exact ⟨1, by omega, by go_num, hB.trans hw3, fun j _ h2 => by omega⟩
        case measure => simp [intOf]; omega
      | succ j =>
        obtain ⟨b, o, rfl, c0, c1⟩ := (h.ch0 hB).two (i := j + 1) (j := j) hlt (by omega)
        have l0 := Later.cell c0
        have l1 := Later.cell c1
        obtain ⟨hj1, hj2, hj3⟩ := wrap_sub1 j (by omega)
        have HB1 := Lib.hid (HBad.out (j + 1) hlt (by omega))
        simp only [Nat.add_sub_cancel] at HB1
        have HX : Hid (xs[j] < xs[j + 1] → ∀ i (hi : i + 1 < xs.length), i + 1 < j + 1 + 1 → xs[i] < xs[i + 1]) := fun hq i hi h1 => by
          by_cases e : i = j
          · subst e; exact hq
          · exact HN.out i hi (by omega)
        clear c0 c1
        generalize xs[j + 1] = x at *
        generalize xs[j] = y at *
        by_cases hxy : x ≤ y
        · have j2 : decide (x ≤ y) = true := decide_eq_true hxy
          have HF := Lib.hid (HB1.out hxy)
          clear hxy
          go_wp2
          refine wp_region_later (by kernel_rfl) (lexB_of (by kernel_rfl)) ?_
          repeat (go_big_quiet_step (fail))
          refine wpQuiet_nil ?_
          intro w3 hw3
          go_wp2
          go_ret
          exact ⟨by rw [HF.out]; rfl, hB.trans hw3⟩
        · have j2 : decide (x ≤ y) = false := decide_eq_false hxy
          have HY := Lib.hid (HX.out (by omega))
          clear hxy
          go_wp2
          refine wp_region_later (by kernel_rfl) (lexB_of (by kernel_rfl)) ?_
          repeat (go_big_quiet_step (fail))
          refine wpQuiet_nil ?_
          intro w3 hw3
          clear hj1 hj2 hj3
          go_wp2
          go_roundw
          case rel => exact ⟨j + 1 + 1, by omega, by go_num, hB.trans hw3, HY⟩
          case measure => simp [intOf]; omega
    · have j1 : decide (k < xs.length) = false := decide_eq_false hlt
      have HF := Lib.hid (HEnd.out (fun i hi => HN.out i hi (by omega)))
      go_wp2
      go_ret
      exact ⟨by rw [HF.out]; rfl, hB⟩
set_option maxRecDepth 100000 in
set_option maxHeartbeats 4000000 in
theorem refNumbers_ (N : Nat) (p : Nat → Prop) (v : Value) (xs : List Int) (w : World) (h : SlI p w v xs) (hb : xs.length ≤ 1000000) (_hNb : N ≤ 1000000) :
    Calls Tryz.prog 27 #[v, .int .i64 (N : Int)] w fun e w' => e = .returned (.bool (factsOk N xs)) ∧ Ch [] w w' := by
  obtain ⟨a, c, rfl, hlc, hm⟩ := h.form
  unfold maxLen at hm
  have HBad0 : Hid (∀ i (hi : i < xs.length), numIn N xs[i] = false → factsOk N xs = false) := fun i hi hq => by rw [factsOk_chain]; exact chainB_bad hi (.inl hq)
  have HBad1 : Hid (∀ i (hi : i < xs.length) (h0 : 0 < i), xs[i] ≤ xs[i - 1]'(by omega) → factsOk N xs = false) := fun i hi h0 hq => by rw [factsOk_chain]; exact chainB_bad hi (.inr ⟨h0, decide_eq_false (by omega)⟩)
  have HEnd : Hid ((∀ i (hi : i < xs.length), numIn N xs[i] = true ∧ ∀ (h0 : 0 < i), xs[i - 1]'(by omega) < xs[i]) → factsOk N xs = true) := fun hq => by
    rw [factsOk_chain]; exact chainB_good (fun i hi => (hq i hi).1) (fun i hi h0 => decide_eq_true ((hq i hi).2 h0))
  generalize factsOk N xs = R at *
  go_enter Tryz.func27, Tryz.ntmps27
  go_wp2
  go_loopw [5] (fun i wr => ∃ k : Nat, k ≤ xs.length ∧ i = .int .i64 k ∧ Ch [] w wr ∧ Hid (∀ j (hj : j < xs.length), j < k → numIn N xs[j] = true ∧ ∀ (h0 : 0 < j), xs[j - 1]'(by omega) < xs[j])) (fun i _ => xs.length - (intOf i).toNat)
  case atStart => exact ⟨0, Nat.zero_le _, rfl, Ch.refl _ _, fun j _ h => absurd h (Nat.not_lt_zero _)⟩
  case round =>
    obtain ⟨k, hk, rfl, hB, HN⟩ := hrel
    by_cases hlt : k < xs.length
    · have j1 : decide (k < xs.length) = true := decide_eq_true hlt
      have HB0 := Lib.hid (HBad0.out k hlt)
      cases k with
      | zero =>
        obtain ⟨b, o, rfl, c0, _⟩ := (h.ch0 hB).two (i := 0) (j := 0) hlt hlt
        simp only [Nat.add_zero] at c0
        have l0 := Later.cell c0
        have HX : Hid (numIn N xs[0] = true → ∀ j (hj : j < xs.length), j < 1 → numIn N xs[j] = true ∧ ∀ (h0 : 0 < j), xs[j - 1]'(by omega) < xs[j]) := fun hq j hj h1 => by
          have : j = 0 := by omega
          subst this
          exact ⟨hq, fun h0 => absurd h0 (by omega)⟩
        clear HBad0 HBad1 HEnd
        generalize xs[0] = x at *
        by_cases h0 : x < 0
        · have t0 : decide (x < 0) = true := decide_eq_true h0
          have HF := Lib.hid (HB0.out (by rw [numIn, decide_eq_false (by omega)]; rfl))
          clear h0
          go_wp2
          refine wp_region_later (by kernel_rfl) (lexB_of (by kernel_rfl)) ?_
          repeat (go_big_quiet_step (fail))
          refine wpQuiet_nil ?_
          intro w3 hw3
          go_wp2
          go_ret
          exact ⟨by rw [HF.out]; rfl, hB.trans hw3⟩
        · have t0 : decide (x < 0) = false := decide_eq_false h0
          by_cases hN : (N : Int) ≤ x
          · have t1 : decide ((N : Int) ≤ x) = true := decide_eq_true hN
            have HF := Lib.hid (HB0.out (by rw [numIn, decide_eq_false (p := x < N) (by omega)]; simp))
            clear hN h0
            go_wp2
            refine wp_region_later (by kernel_rfl) (lexB_of (by kernel_rfl)) ?_
            repeat (go_big_quiet_step (fail))
            refine wpQuiet_nil ?_
            intro w3 hw3
            go_wp2
            go_ret
            exact ⟨by rw [HF.out]; rfl, hB.trans hw3⟩
          · have t1 : decide ((N : Int) ≤ x) = false := decide_eq_false hN
            have hin : numIn N x = true := by rw [numIn, decide_eq_true (by omega), decide_eq_true (by omega)]; rfl
            have HY := Lib.hid (HX.out hin)
            clear hN h0 hin
            go_wp2
            refine wp_region_later (by kernel_rfl) (lexB_of (by kernel_rfl)) ?_
            repeat (go_big_quiet_step (fail))
            refine wpQuiet_nil ?_
            intro w3 hw3
            go_wp2
            go_roundw
            case rel => exact ⟨1, by omega, by go_num, hB.trans hw3, HY⟩
            case measure => simp [intOf]; omega
      | succ j =>
        obtain ⟨b, o, rfl, c0, c1⟩ := (h.ch0 hB).two (i := j + 1) (j := j) hlt (by omega)
        have l0 := Later.cell c0
        have l1 := Later.cell c1
        obtain ⟨hj1, hj2, hj3⟩ := wrap_sub1 j (by omega)
        have HB1 := Lib.hid (HBad1.out (j + 1) hlt (by omega))
        simp only [Nat.add_sub_cancel] at HB1
        have HX : Hid (numIn N xs[j + 1] = true → xs[j] < xs[j + 1] → ∀ i (hi : i < xs.length), i < j + 1 + 1 → numIn N xs[i] = true ∧ ∀ (h0 : 0 < i), xs[i - 1]'(by omega) < xs[i]) := fun hn hq i hi h1 => by
          rcases Nat.lt_succ_iff_lt_or_eq.1 h1 with h2 | h2
          · exact HN.out i hi h2
          · subst h2
            exact ⟨hn, fun _ => hq⟩
        clear c0 c1 HBad0 HBad1 HEnd
        generalize xs[j + 1] = x at *
        generalize xs[j] = y at *
        by_cases h0 : x < 0
        · have t0 : decide (x < 0) = true := decide_eq_true h0
          have HF := Lib.hid (HB0.out (by rw [numIn, decide_eq_false (by omega)]; rfl))
          clear h0
          go_wp2
          refine wp_region_later (by kernel_rfl) (lexB_of (by kernel_rfl)) ?_
          repeat (go_big_quiet_step (fail))
          refine wpQuiet_nil ?_
          intro w3 hw3
          go_wp2
          go_ret
          exact ⟨by rw [HF.out]; rfl, hB.trans hw3⟩
        · have t0 : decide (x < 0) = false := decide_eq_false h0
          by_cases hN : (N : Int) ≤ x
          · have t1 : decide ((N : Int) ≤ x) = true := decide_eq_true hN
            have HF := Lib.hid (HB0.out (by rw [numIn, decide_eq_false (p := x < N) (by omega)]; simp))
            clear hN h0
            go_wp2
            refine wp_region_later (by kernel_rfl) (lexB_of (by kernel_rfl)) ?_
            repeat (go_big_quiet_step (fail))
            refine wpQuiet_nil ?_
            intro w3 hw3
            go_wp2
            go_ret
            exact ⟨by rw [HF.out]; rfl, hB.trans hw3⟩
          · have t1 : decide ((N : Int) ≤ x) = false := decide_eq_false hN
            have hin : numIn N x = true := by rw [numIn, decide_eq_true (by omega), decide_eq_true (by omega)]; rfl
            by_cases hxy : x ≤ y
            · have j2 : decide (x ≤ y) = true := decide_eq_true hxy
              have HF := Lib.hid (HB1.out hxy)
              clear hxy hN h0 hin
              go_wp2
              refine wp_region_later (by kernel_rfl) (lexB_of (by kernel_rfl)) ?_
              repeat (go_big_quiet_step (fail))
              refine wpQuiet_nil ?_
              intro w3 hw3
              go_wp2
              go_ret
              exact ⟨by rw [HF.out]; rfl, hB.trans hw3⟩
            · have j2 : decide (x ≤ y) = false := decide_eq_false hxy
              have HY := Lib.hid (HX.out hin (by omega))
              clear hxy hN h0 hin
              go_wp2
              refine wp_region_later (by kernel_rfl) (lexB_of (by kernel_rfl)) ?_
              repeat (go_big_quiet_step (fail))
              refine wpQuiet_nil ?_
              intro w3 hw3
              clear hj1 hj2 hj3
              go_wp2
              go_roundw
              case rel => exact ⟨j + 1 + 1, by omega, by go_num, hB.trans hw3, HY⟩
              case measure => simp [intOf]; omega
    · have j1 : decide (k < xs.length) = false := decide_eq_false hlt
      have HF := Lib.hid (HEnd.out (fun i hi => HN.out i hi (by omega)))
      go_wp2
      go_ret
      exact ⟨by rw [HF.out]; rfl, hB⟩


set_option maxRecDepth 100000 in
set_option maxHeartbeats 4000000 in
theorem given_ (N : Nat) (ag : Option Addr) (cg : Nat) (v2 : Value) (p : Nat → Prop) (v : Value) (xs : List Int) (w : World) (h : SlI p w v xs) (hb : xs.length ≤ 1000000) (_hNb : N ≤ 1000000) (_h2 : v2.oneCell' = true) :
    Calls Tryz.prog 57 #[.agg #[.slice ag N cg, v2], v] w fun e w' => e = .returned (.bool (factsOk N xs)) ∧ Ch [] w w' := by
  obtain ⟨a, c, rfl, hlc, hm⟩ := h.form
  unfold maxLen at hm
  have HBad0 : Hid (∀ i (hi : i < xs.length), numIn N xs[i] = false → factsOk N xs = false) := fun i hi hq => by rw [factsOk_chain]; exact chainB_bad hi (.inl hq)
  have HBad1 : Hid (∀ i (hi : i < xs.length) (h0 : 0 < i), xs[i] ≤ xs[i - 1]'(by omega) → factsOk N xs = false) := fun i hi h0 hq => by rw [factsOk_chain]; exact chainB_bad hi (.inr ⟨h0, decide_eq_false (by omega)⟩)
  have HEnd : Hid ((∀ i (hi : i < xs.length), numIn N xs[i] = true ∧ ∀ (h0 : 0 < i), xs[i - 1]'(by omega) < xs[i]) → factsOk N xs = true) := fun hq => by
    rw [factsOk_chain]; exact chainB_good (fun i hi => (hq i hi).1) (fun i hi h0 => decide_eq_true ((hq i hi).2 h0))
  generalize factsOk N xs = R at *
  have hbx := Blk.new w 25 #[.slice ag N cg, v2]
  have hcA : Ch [] w (w.alloc (.cells #[.slice ag N cg, v2] 25)) := (Ch.refl _ _).alloc _
  generalize hwA : (w.alloc (.cells #[.slice ag N cg, v2] 25)) = wA at *
  go_enter Tryz.func57, Tryz.ntmps57
  go_wp2
  go_loopw [5, 6, 9] (fun _ _ i wr => ∃ k : Nat, k ≤ xs.length ∧ i = .int .i64 k ∧ Ch [] wA wr ∧ Hid (∀ j (hj : j < xs.length), j < k → numIn N xs[j] = true ∧ ∀ (h0 : 0 < j), xs[j - 1]'(by omega) < xs[j])) (fun _ _ i _ => xs.length - (intOf i).toNat)
  case atStart => exact ⟨0, Nat.zero_le _, rfl, Ch.refl _ _, fun j _ h => absurd h (Nat.not_lt_zero _)⟩
  case round =>
    obtain ⟨k, hk, rfl, hB, HN⟩ := hrel
    by_cases hlt : k < xs.length
    · have j1 : decide (k < xs.length) = true := decide_eq_true hlt
      have HB0 := Lib.hid (HBad0.out k hlt)
      have b0 := (hbx.ch hB (by simp)).cell 0
      cases k with
      | zero =>
        obtain ⟨b, o, rfl, c0, _⟩ := (h.ch0 (hcA.trans hB)).two (i := 0) (j := 0) hlt hlt
        simp only [Nat.add_zero] at c0
        have l0 := Later.cell c0
        have HX : Hid (numIn N xs[0] = true → ∀ j (hj : j < xs.length), j < 1 → numIn N xs[j] = true ∧ ∀ (h0 : 0 < j), xs[j - 1]'(by omega) < xs[j]) := fun hq j hj h1 => by
          have : j = 0 := by omega
          subst this
          exact ⟨hq, fun h0 => absurd h0 (by omega)⟩
        clear HBad0 HBad1 HEnd l0
        generalize xs[0] = x at *
        by_cases h0 : x < 0
        · have t0 : decide (x < 0) = true := decide_eq_true h0
          have HF := Lib.hid (HB0.out (by rw [numIn, decide_eq_false (by omega)]; rfl))
          clear h0
          go_wp2
          go_ret
          exact ⟨by rw [HF.out]; rfl, hcA.trans (hB)⟩
        · have t0 : decide (x < 0) = false := decide_eq_false h0
          by_cases hN : (N : Int) ≤ x
          · have t1 : decide ((N : Int) ≤ x) = true := decide_eq_true hN
            have HF := Lib.hid (HB0.out (by rw [numIn, decide_eq_false (p := x < N) (by omega)]; simp))
            clear hN h0
            go_wp2
            go_ret
            exact ⟨by rw [HF.out]; rfl, hcA.trans (hB)⟩
          · have t1 : decide ((N : Int) ≤ x) = false := decide_eq_false hN
            have hin : numIn N x = true := by rw [numIn, decide_eq_true (by omega), decide_eq_true (by omega)]; rfl
            have HY := Lib.hid (HX.out hin)
            clear hN h0 hin
            go_wp2
            go_roundw
            case rel => exact ⟨1, by omega, by go_num, hB, HY⟩
            case measure => simp [intOf]; omega
      | succ j =>
        obtain ⟨b, o, rfl, c0, c1⟩ := (h.ch0 (hcA.trans hB)).two (i := j + 1) (j := j) hlt (by omega)
        have l0 := Later.cell c0
        have l1 := Later.cell c1
        obtain ⟨hj1, hj2, hj3⟩ := wrap_sub1 j (by omega)
        have HB1 := Lib.hid (HBad1.out (j + 1) hlt (by omega))
        simp only [Nat.add_sub_cancel] at HB1
        have HX : Hid (numIn N xs[j + 1] = true → xs[j] < xs[j + 1] → ∀ i (hi : i < xs.length), i < j + 1 + 1 → numIn N xs[i] = true ∧ ∀ (h0 : 0 < i), xs[i - 1]'(by omega) < xs[i]) := fun hn hq i hi h1 => by
          rcases Nat.lt_succ_iff_lt_or_eq.1 h1 with h2 | h2
          · exact HN.out i hi h2
          · subst h2
            exact ⟨hn, fun _ => hq⟩
        clear l0 l1 HBad0 HBad1 HEnd
        generalize xs[j + 1] = x at *
        generalize xs[j] = y at *
        by_cases h0 : x < 0
        · have t0 : decide (x < 0) = true := decide_eq_true h0
          have HF := Lib.hid (HB0.out (by rw [numIn, decide_eq_false (by omega)]; rfl))
          clear h0
          go_wp2
          go_ret
          exact ⟨by rw [HF.out]; rfl, hcA.trans (hB)⟩
        · have t0 : decide (x < 0) = false := decide_eq_false h0
          by_cases hN : (N : Int) ≤ x
          · have t1 : decide ((N : Int) ≤ x) = true := decide_eq_true hN
            have HF := Lib.hid (HB0.out (by rw [numIn, decide_eq_false (p := x < N) (by omega)]; simp))
            clear hN h0
            go_wp2
            go_ret
            exact ⟨by rw [HF.out]; rfl, hcA.trans (hB)⟩
          · have t1 : decide ((N : Int) ≤ x) = false := decide_eq_false hN
            have hin : numIn N x = true := by rw [numIn, decide_eq_true (by omega), decide_eq_true (by omega)]; rfl
            by_cases hxy : x ≤ y
            · have j2 : decide (x ≤ y) = true := decide_eq_true hxy
              have HF := Lib.hid (HB1.out hxy)
              clear hxy hN h0 hin
              go_wp2
              go_ret
              exact ⟨by rw [HF.out]; rfl, hcA.trans (hB)⟩
            · have j2 : decide (x ≤ y) = false := decide_eq_false hxy
              have HY := Lib.hid (HX.out hin (by omega))
              clear hxy hN h0 hin
              go_wp2
              go_roundw
              case rel => exact ⟨j + 1 + 1, by omega, by go_num, hB, HY⟩
              case measure => simp [intOf]; omega
    · have j1 : decide (k < xs.length) = false := decide_eq_false hlt
      have HF := Lib.hid (HEnd.out (fun i hi => HN.out i hi (by omega)))
      go_wp2
      go_ret
      exact ⟨by rw [HF.out]; rfl, hcA.trans hB⟩
end
end Go.Proofs.YtojokdicbopknaaGreat
