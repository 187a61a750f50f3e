
/-
  The contracts of printer.atom, printer.Valid, ref06.Atom, ref06.Valid.
-/
import Derived.Test.YtgljjapglgcpdaaGreatDoorChVld
namespace Go.Proofs.YtgljjapglgcpdaaGreatDoor

section
open Go.RowKit

set_option maxRecDepth 100000 in
theorem prAtom_ (t : Tm) (B b : Nat) (hN : Nice B b t) (hBm : B ≤ maxLen) (p : Nat → Prop) (v : Value) (w : World) (h : SlT p w v t.args) :
    Calls Tryz.prog 62 #[.agg #[.string t.name, v]] w fun e w' => e = .returned (.bool (atmV t)) ∧ Ch [] w w' := by
  have hvld := fun wz (hz : Ch [] w wz) => validT_ t B b hN hBm p v wz (h.ch0 hz)
  have HG := Lib.hid (show atmV t = (vldT 4 t && nameB t.name) from rfl)
  have hsz : t.name.size ≤ maxLen := by obtain ⟨nm, ags⟩ := t; simp only [Nice] at hN; exact Nat.le_trans hN.1 hBm
  have hname := fun wz => name_ t.name wz hsz
  clear hN hBm hsz
  obtain ⟨a, c, rfl, hlc, hmx⟩ := h.form
  clear h
  generalize atmV t = R at *
  generalize vldT 4 t = V at *
  generalize t.args.length = n at *
  generalize t.name = nm at *
  have hbx := Blk.new w 28 #[.string nm, .slice a n c]
  have hcA : Ch [] w (w.alloc (.cells #[.string nm, .slice a n c] 28)) := (Ch.refl _ _).alloc _
  generalize hwA : (w.alloc (.cells #[.string nm, .slice a n c] 28)) = wA at *
  have b0 := hbx.cell 0
  have b1 := hbx.cell 1
  cases hn : nameB nm with
  | false =>
    have HR : Hid (R = false) := by unfold Hid; rw [HG.out, hn, Bool.and_false]
    rw [hn] at hname
    clear HG hn
    go_enter Tryz.func62, Tryz.ntmps62
    go_wp2_with (go_at_call 22; refine (hname _).mono ?_; rintro e w1 ⟨rfl, hc1⟩)
    go_ret
    exact ⟨by rw [HR.out]; rfl, hcA.trans hc1⟩
  | true =>
    have HR : Hid (R = V) := by unfold Hid; rw [HG.out, hn, Bool.and_true]
    rw [hn] at hname
    clear HG hn
    cases V
    all_goals
      go_enter Tryz.func62, Tryz.ntmps62
      go_wp2_with (first
        | (go_at_call 22; refine (hname _).mono ?_; rintro e w1 ⟨rfl, hc1⟩; have d0 := (hbx.ch hc1 (by simp)).cell 0; have d1 := (hbx.ch hc1 (by simp)).cell 1)
        | (go_at_call 95; refine (hvld _ (hcA.trans hc1)).mono ?_; rintro e w2 ⟨rfl, hc2⟩))
      go_ret
      exact ⟨by rw [HR.out]; rfl, (hcA.trans hc1).trans hc2⟩

set_option maxRecDepth 100000 in
theorem rfAtom_ (t : Tm) (B b : Nat) (hN : Nice B b t) (hBm : B ≤ maxLen) (p : Nat → Prop) (v : Value) (w : World) (h : SlT p w v t.args) :
    Calls Tryz.prog 17 #[.agg #[.string t.name, v]] w fun e w' => e = .returned (.bool (atmV t)) ∧ Ch [] w w' := by
  have hvld := fun wz (hz : Ch [] w wz) => refValidT_ t B b hN hBm p v wz (h.ch0 hz)
  have HG := Lib.hid (show atmV t = (vldT 4 t && nameB t.name) from rfl)
  have hsz : t.name.size ≤ maxLen := by obtain ⟨nm, ags⟩ := t; simp only [Nice] at hN; exact Nat.le_trans hN.1 hBm
  have hname := fun wz => ref01Name t.name wz hsz
  clear hN hBm hsz
  obtain ⟨a, c, rfl, hlc, hmx⟩ := h.form
  clear h
  generalize atmV t = R at *
  generalize vldT 4 t = V at *
  generalize t.args.length = n at *
  generalize t.name = nm at *
  generalize nameB nm = q at *
  have hbx := Blk.new w 28 #[.string nm, .slice a n c]
  have hcA : Ch [] w (w.alloc (.cells #[.string nm, .slice a n c] 28)) := (Ch.refl _ _).alloc _
  generalize hwA : (w.alloc (.cells #[.string nm, .slice a n c] 28)) = wA at *
  have b0 := hbx.cell 0
  have b1 := hbx.cell 1
  cases V <;> cases q
  all_goals
    have HR := HG.out
    simp only [Bool.and_true, Bool.and_false] at HR
    have HR := Lib.hid HR
    clear HG
    go_enter Tryz.func17, Tryz.ntmps17
    go_wp2_with (first
      | (go_at_call 48; refine (hvld _ hcA).mono ?_; rintro e w1 ⟨rfl, hc1⟩; have d0 := (hbx.ch hc1 (by simp)).cell 0)
      | (go_at_call 49; refine (hname _).mono ?_; rintro e w2 ⟨rfl, rfl⟩))
    go_ret
    exact ⟨by rw [HR.out]; rfl, hcA.trans hc1⟩
/-! ### rules -/
set_option maxRecDepth 100000 in
set_option maxHeartbeats 8000000 in
theorem prValid_ (r : Ru) (B b : Nat) (hO : RuOk B b r) (p : Nat → Prop) (vh vb : Value) (w : World) (hh : SlT p w vh r.head.args) (hb : SlLi p w vb r.body) :
    Calls Tryz.prog 28 #[.agg #[.string r.head.name, vh, vb]] w fun e w' => e = .returned (.bool (ruV r)) ∧ Ch [] w w' := by
  have hatm := fun wz (hz : Ch [] w wz) => prAtom_ r.head B b (hO.nice _ (by simp [atomsOf])) hO.B p vh wz (hh.ch0 hz)
  have HLN := Lib.hid hO.len
  have HNC := Lib.hid (show ∀ x ∈ r.body, Nice B b x.atom from fun x hx => hO.nice _ (by simp only [atomsOf, List.mem_cons, List.mem_map]; exact .inr ⟨x, hx, rfl⟩))
  have HBM := Lib.hid hO.B
  clear hO
  have HG := Lib.hid (show ruV r = (decide (r.body.length ≤ 8) && (atmV r.head && r.body.all fun x => atmV x.atom)) from rfl)
  generalize ruV r = R at *
  obtain ⟨hd, body⟩ := r
  obtain ⟨ah, ch, rfl, _, _⟩ := hh.form
  obtain ⟨a, c, rfl, hlc, hmx⟩ := hb.form
  unfold maxLen at hmx
  clear hh
  simp only at hatm hb hlc ⊢
  generalize hd.args.length = hL at *
  generalize hd.name = hn at *
  generalize atmV hd = HV at *
  have hbx := Blk.new w 31 #[.string hn, .slice ah hL ch, .slice a body.length c]
  have hcA : Ch [] w (w.alloc (.cells #[.string hn, .slice ah hL ch, .slice a body.length c] 31)) := (Ch.refl _ _).alloc _
  generalize hwA : (w.alloc (.cells #[.string hn, .slice ah hL ch, .slice a body.length c] 31)) = wA at *
  have b0 := hbx.cell 0
  have b1 := hbx.cell 1
  have b2 := hbx.cell 2
  have hcall := hatm wA hcA
  clear hatm
  by_cases h8 : body.length ≤ 8
  · have HL8 : Hid (body.length ≤ 8) := h8
    have j8 : decide (8 < body.length) = false := decide_eq_false (by omega)
    cases HV with
    | false =>
      have HR : Hid (R = false) := by unfold Hid; rw [HG.out]; simp
      clear HG HL8
      go_enter Tryz.func28, Tryz.ntmps28
      go_wp2_with (go_at_call 62; refine hcall.mono ?_; rintro e w1 ⟨rfl, hc1⟩)
      go_ret
      exact ⟨by rw [HR.out]; rfl, hcA.trans hc1⟩
    | true =>
      have HAt : Hid (∀ k (hk : k < body.length), atmV body[k].atom = false → R = false) := fun k hk hq => by
        rw [HG.out]
        have : (body.all fun x => atmV x.atom) = false := by
          rw [Bool.eq_false_iff]; intro hall
          rw [List.all_eq_true] at hall
          rw [hall _ (List.getElem_mem hk)] at hq; cases hq
        rw [this, Bool.and_false, Bool.and_false]
      have HEnd : Hid ((∀ k (hk : k < body.length), atmV body[k].atom = true) → R = true) := fun hq => by
        rw [HG.out]
        have : (body.all fun x => atmV x.atom) = true := by
          rw [List.all_eq_true]
          intro x hx
          obtain ⟨j, hj, rfl⟩ := List.getElem_of_mem hx
          exact hq j hj
        rw [this, decide_eq_true HL8.out]; rfl
      clear HG
      go_enter Tryz.func28, Tryz.ntmps28
      go_wp2_with (go_at_call 62; refine hcall.mono ?_; rintro e w1 ⟨rfl, hc1⟩; have d2 := (hbx.ch hc1 (by simp)).cell 2)
      clear d2
      clear b0 b1 b2
      go_loopw [4, 18] (fun _ i wr => ∃ k : Nat, k ≤ body.length ∧ i = .int .i64 k ∧ Ch [] w1 wr ∧ Hid (∀ j (hj : j < body.length), j < k → atmV body[j].atom = true)) (fun _ i _ => body.length - (intOf i).toNat)
      case atStart => exact ⟨0, Nat.zero_le _, rfl, Ch.refl _ _, fun j _ h => absurd h (Nat.not_lt_zero _)⟩
      case round =>
        obtain ⟨k, hk, rfl, hB, HN⟩ := hrel
        have hbr := (hbx.ch hc1 (by simp)).ch hB (by simp)
        have b0 := hbr.cell 0
        have b1 := hbr.cell 1
        have b2 := hbr.cell 2
        by_cases hlt : k < body.length
        · obtain ⟨bk, o, a', c', rfl, hp, c0, c1, c2, hT⟩ := (hb.ch0 ((hcA.trans hc1).trans hB)).at_ hlt
          have hnx := HNC.out _ (List.getElem_mem hlt)
          have j1 : decide (k < body.length) = true := decide_eq_true hlt
          have HQ := Lib.hid (HAt.out k hlt)
          have HX : Hid (atmV body[k].atom = true → ∀ j (hj : j < body.length), j < k + 1 → atmV body[j].atom = true) := fun hq j hj h1 => by
            rcases Nat.lt_succ_iff_lt_or_eq.1 h1 with h2 | h2
            · exact HN.out j hj h2
            · subst h2; exact hq
          generalize body[k] = x at *
          have hcN : Ch [] wr (wr.alloc (.cells #[.bool x.nt, .string x.atom.name, .slice a' x.atom.args.length c'] 48)) := (Ch.refl _ _).alloc _
          have hbl := Blk.new wr 48 #[.bool x.nt, .string x.atom.name, .slice a' x.atom.args.length c']
          have l1 := hbl.cell 1
          have l2 := hbl.cell 2
          have hcall := prAtom_ x.atom B b hnx HBM.out _ _ _ (hT.ch0 hcN)
          cases hq : atmV x.atom with
          | false =>
            rw [hq] at hcall
            have HF := Lib.hid (HQ.out hq)
            clear hq HX HQ
            go_wp2_with (go_at_call 62; refine hcall.mono ?_; rintro e w3 ⟨rfl, hc3⟩; clear hcall)
            go_ret
            exact ⟨by rw [HF.out]; rfl, hcA.trans (hc1.trans (hB.trans (hcN.trans hc3)))⟩
          | true =>
            rw [hq] at hcall
            have HY := Lib.hid (HX.out hq)
            clear hq HX HQ
            go_wp2_with (go_at_call 62; refine hcall.mono ?_; rintro e w3 ⟨rfl, hc3⟩; clear hcall)
            go_roundw
            case rel => exact ⟨k + 1, by omega, by go_num, hB.trans (hcN.trans hc3), HY⟩
            case measure => simp [intOf]; omega
        · have HF := Lib.hid (HEnd.out (fun j hj => HN.out j hj (by omega)))
          have j1 : decide (k < body.length) = false := decide_eq_false hlt
          go_wp2
          go_ret
          exact ⟨by rw [HF.out]; rfl, hcA.trans (hc1.trans hB)⟩
  · have HR : Hid (R = false) := by unfold Hid; rw [HG.out, decide_eq_false h8]; rfl
    have j8 : decide (8 < body.length) = true := decide_eq_true (by omega)
    clear HG
    go_enter Tryz.func28, Tryz.ntmps28
    go_wp2
    go_ret
    exact ⟨by rw [HR.out]; rfl, hcA⟩

set_option maxRecDepth 100000 in
set_option maxHeartbeats 8000000 in
theorem rfValid_ (r : Ru) (B b : Nat) (hO : RuOk B b r) (p : Nat → Prop) (vh vb : Value) (w : World) (hh : SlT p w vh r.head.args) (hb : SlLi p w vb r.body) :
    Calls Tryz.prog 6 #[.agg #[.string r.head.name, vh, vb]] w fun e w' => e = .returned (.bool (ruV r)) ∧ Ch [] w w' := by
  have hatm := fun wz (hz : Ch [] w wz) => rfAtom_ r.head B b (hO.nice _ (by simp [atomsOf])) hO.B p vh wz (hh.ch0 hz)
  have HLN := Lib.hid hO.len
  have HNC := Lib.hid (show ∀ x ∈ r.body, Nice B b x.atom from fun x hx => hO.nice _ (by simp only [atomsOf, List.mem_cons, List.mem_map]; exact .inr ⟨x, hx, rfl⟩))
  have HBM := Lib.hid hO.B
  clear hO
  have HG := Lib.hid (show ruV r = (decide (r.body.length ≤ 8) && (atmV r.head && r.body.all fun x => atmV x.atom)) from rfl)
  generalize ruV r = R at *
  obtain ⟨hd, body⟩ := r
  obtain ⟨ah, ch, rfl, _, _⟩ := hh.form
  obtain ⟨a, c, rfl, hlc, hmx⟩ := hb.form
  unfold maxLen at hmx
  clear hh
  simp only at hatm hb hlc ⊢
  generalize hd.args.length = hL at *
  generalize hd.name = hn at *
  generalize atmV hd = HV at *
  have hbx := Blk.new w 31 #[.string hn, .slice ah hL ch, .slice a body.length c]
  have hcA : Ch [] w (w.alloc (.cells #[.string hn, .slice ah hL ch, .slice a body.length c] 31)) := (Ch.refl _ _).alloc _
  generalize hwA : (w.alloc (.cells #[.string hn, .slice ah hL ch, .slice a body.length c] 31)) = wA at *
  have b0 := hbx.cell 0
  have b1 := hbx.cell 1
  have b2 := hbx.cell 2
  have hcall := hatm wA hcA
  clear hatm
  cases HV with
  | false =>
    have HR : Hid (R = false) := by unfold Hid; rw [HG.out]; simp
    clear HG
    go_enter Tryz.func6, Tryz.ntmps6
    go_wp2_with (go_at_call 17; refine hcall.mono ?_; rintro e w1 ⟨rfl, hc1⟩)
    go_ret
    exact ⟨by rw [HR.out]; rfl, hcA.trans hc1⟩
  | true =>
    by_cases h8 : body.length ≤ 8
    · have HL8 : Hid (body.length ≤ 8) := h8
      have j8 : decide (8 < body.length) = false := decide_eq_false (by omega)
      have HAt : Hid (∀ k (hk : k < body.length), atmV body[k].atom = false → R = false) := fun k hk hq => by
        rw [HG.out]
        have : (body.all fun x => atmV x.atom) = false := by
          rw [Bool.eq_false_iff]; intro hall
          rw [List.all_eq_true] at hall
          rw [hall _ (List.getElem_mem hk)] at hq; cases hq
        rw [this, Bool.and_false, Bool.and_false]
      have HEnd : Hid ((∀ k (hk : k < body.length), atmV body[k].atom = true) → R = true) := fun hq => by
        rw [HG.out]
        have : (body.all fun x => atmV x.atom) = true := by
          rw [List.all_eq_true]
          intro x hx
          obtain ⟨j, hj, rfl⟩ := List.getElem_of_mem hx
          exact hq j hj
        rw [this, decide_eq_true HL8.out]; rfl
      clear HG
      go_enter Tryz.func6, Tryz.ntmps6
      go_wp2_with (go_at_call 17; refine hcall.mono ?_; rintro e w1 ⟨rfl, hc1⟩; have d2 := (hbx.ch hc1 (by simp)).cell 2)
      clear d2
      clear b0 b1 b2
      go_loopw [3] (fun i wr => ∃ k : Nat, k ≤ body.length ∧ i = .int .i64 k ∧ Ch [] w1 wr ∧ Hid (∀ j (hj : j < body.length), j < k → atmV body[j].atom = true)) (fun i _ => body.length - (intOf i).toNat)
      case atStart => exact ⟨0, Nat.zero_le _, rfl, Ch.refl _ _, fun j _ h => absurd h (Nat.not_lt_zero _)⟩
      case round =>
        obtain ⟨k, hk, rfl, hB, HN⟩ := hrel
        have hbr := (hbx.ch hc1 (by simp)).ch hB (by simp)
        have b0 := hbr.cell 0
        have b1 := hbr.cell 1
        have b2 := hbr.cell 2
        by_cases hlt : k < body.length
        · obtain ⟨bk, o, a', c', rfl, hp, c0, c1, c2, hT⟩ := (hb.ch0 ((hcA.trans hc1).trans hB)).at_ hlt
          have hnx := HNC.out _ (List.getElem_mem hlt)
          have j1 : decide (k < body.length) = true := decide_eq_true hlt
          have HQ := Lib.hid (HAt.out k hlt)
          have HX : Hid (atmV body[k].atom = true → ∀ j (hj : j < body.length), j < k + 1 → atmV body[j].atom = true) := fun hq j hj h1 => by
            rcases Nat.lt_succ_iff_lt_or_eq.1 h1 with h2 | h2
            · exact HN.out j hj h2
            · subst h2; exact hq
          generalize body[k] = x at *
          have hcN : Ch [] wr wr := Ch.refl _ _

          have hcall := rfAtom_ x.atom B b hnx HBM.out _ _ _ (hT.ch0 hcN)
          cases hq : atmV x.atom with
          | false =>
            rw [hq] at hcall
            have HF := Lib.hid (HQ.out hq)
            clear hq HX HQ
            go_wp2_with (go_at_call 17; refine hcall.mono ?_; rintro e w3 ⟨rfl, hc3⟩; clear hcall)
            go_ret
            exact ⟨by rw [HF.out]; rfl, hcA.trans (hc1.trans (hB.trans (hcN.trans hc3)))⟩
          | true =>
            rw [hq] at hcall
            have HY := Lib.hid (HX.out hq)
            clear hq HX HQ
            go_wp2_with (go_at_call 17; refine hcall.mono ?_; rintro e w3 ⟨rfl, hc3⟩; clear hcall)
            go_roundw
            case rel => exact ⟨k + 1, by omega, by go_num, hB.trans (hcN.trans hc3), HY⟩
            case measure => simp [intOf]; omega
        · have HF := Lib.hid (HEnd.out (fun j hj => HN.out j hj (by omega)))
          have j1 : decide (k < body.length) = false := decide_eq_false hlt
          go_wp2
          go_ret
          exact ⟨by rw [HF.out]; rfl, hcA.trans (hc1.trans hB)⟩
    · have HR : Hid (R = false) := by unfold Hid; rw [HG.out, decide_eq_false h8]; rfl
      have j8 : decide (8 < body.length) = true := decide_eq_true (by omega)
      clear HG
      go_enter Tryz.func6, Tryz.ntmps6
      go_wp2_with (go_at_call 17; refine hcall.mono ?_; rintro e w1 ⟨rfl, hc1⟩; have d2 := (hbx.ch hc1 (by simp)).cell 2)
      go_ret
      exact ⟨by rw [HR.out]; rfl, hcA.trans hc1⟩
end
end Go.Proofs.YtgljjapglgcpdaaGreatDoor
