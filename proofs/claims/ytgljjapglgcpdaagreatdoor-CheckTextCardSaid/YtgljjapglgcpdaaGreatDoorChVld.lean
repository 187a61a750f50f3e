
/-
  The contracts of term.Valid and ref01.Valid. PRINTED BY wip/gen/vld.py.
-/
import Derived.Test.YtgljjapglgcpdaaGreatDoorChTxt
import Derived.Test.YtgljjapglgcpdaaGreatDoorChRef2
namespace Go.Proofs.YtgljjapglgcpdaaGreatDoor

/-- a valid term of at most so many levels -/
def vldT : Nat → Tm → Bool
  | 0, _ => false
  | l + 1, t => decide (t.args.length ≤ 4) && (if t.args.length = 0 then leafB t.name else t.args.all (vldT l) && nameB t.name)
theorem leafB_mis {nm : ByteArray} (h : misT (.mk nm []) = false) : leafB nm = true := by
  have := txOk_mis (.mk nm []) h
  simpa only [txOk] using this
theorem wideT_len {nm : ByteArray} {ags : List Tm} (h : wideT (.mk nm ags) = false) : ags.length ≤ 4 ∧ wideL ags = false := by
  simp only [wideT, Bool.or_eq_false_iff, decide_eq_false_iff_not] at h
  exact ⟨by omega, h.2⟩
mutual
/-- a term without an error is valid -/
theorem vldT_of : ∀ (l : Nat) (t : Tm), misT t = false → wideT t = false → t.dep ≤ l → vldT l t = true
  | 0, .mk nm ags, _, _, h => by simp only [Tm.dep] at h; omega
  | l + 1, .mk nm [], h1, _, _ => by
    simp only [vldT, Tm.args, Tm.name, List.length_nil]
    rw [leafB_mis h1]; rfl
  | l + 1, .mk nm (a :: ags), h1, h2, h3 => by
    have h4 := wideT_len h2
    simp only [misT, Bool.or_eq_false_iff, Bool.not_eq_false'] at h1
    simp only [Tm.dep] at h3
    have h5 := vldL_of l (a :: ags) h1.2 h4.2 (by omega)
    have hr : vldT (l + 1) (.mk nm (a :: ags)) = (decide ((a :: ags).length ≤ 4) && (if (a :: ags).length = 0 then leafB nm else (a :: ags).all (vldT l) && nameB nm)) := rfl
    rw [hr, decide_eq_true h4.1, if_neg (by simp), h5, h1.1]; rfl
theorem vldL_of : ∀ (l : Nat) (ts : List Tm), misL ts = false → wideL ts = false → deps ts ≤ l → ts.all (vldT l) = true
  | _, [], _, _, _ => rfl
  | l, t :: ts, h1, h2, h3 => by
    simp only [misL, wideL, deps, Bool.or_eq_false_iff] at h1 h2 h3
    simp only [List.all_cons, Bool.and_eq_true]
    exact ⟨vldT_of l t h1.1 h2.1 (by omega), vldL_of l ts h1.2 h2.2 (by omega)⟩
end
theorem ite4 {a b c d : Prop} [Decidable a] [Decidable b] [Decidable c] [Decidable d] (h : (if a then (4 : Int) else if b then 5 else if c then 3 else if d then 6 else 0) = 0) : ¬ a ∧ ¬ b ∧ ¬ c ∧ ¬ d := by
  by_cases h1 : a
  · rw [if_pos h1] at h; exact absurd h (by decide)
  · by_cases h2 : b
    · rw [if_neg h1, if_pos h2] at h; exact absurd h (by decide)
    · by_cases h3 : c
      · rw [if_neg h1, if_neg h2, if_pos h3] at h; exact absurd h (by decide)
      · by_cases h4 : d
        · rw [if_neg h1, if_neg h2, if_neg h3, if_pos h4] at h; exact absurd h (by decide)
        · exact ⟨h1, h2, h3, h4⟩
theorem atomE_ok {t : Tm} {hd : Bool} (h : atomE t hd = 0) : nameB t.name = true ∧ misT t = false ∧ wideT t = false ∧ t.dep ≤ 4 := by
  have h0 := ite4 (by unfold atomE at h; exact h)
  obtain ⟨h1, h2, h3, _⟩ := h0
  simp only [Bool.or_eq_true, not_or, Bool.not_eq_true] at h1 h2
  exact ⟨by simpa using h1.1, h1.2, h2.1, by omega⟩
theorem atomsE_ok : ∀ (ts : List Tm) (hd : Bool), atomsE hd ts = 0 → ∀ t ∈ ts, nameB t.name = true ∧ misT t = false ∧ wideT t = false ∧ t.dep ≤ 4
  | [], _, _, _, h => by simp at h
  | t :: ts, hd, h, u, hu => by
    simp only [atomsE] at h
    split at h
    · rename_i h1
      rcases List.mem_cons.1 hu with rfl | hu
      · exact atomE_ok h1
      · exact atomsE_ok ts false h u hu
    · rename_i h1; exact absurd h h1
/-- an atom whose text can be read -/
def atmV (t : Tm) : Bool := vldT 4 t && nameB t.name
def ruV (r : Ru) : Bool := decide (r.body.length ≤ 8) && (atmV r.head && r.body.all fun x => atmV x.atom)
/-- what a rule without an error has -/
structure RuT (r : Ru) : Prop where
  len : r.body.length ≤ 8
  atm : ∀ t ∈ atomsOf r, nameB t.name = true ∧ misT t = false ∧ wideT t = false ∧ t.dep ≤ 4
theorem ruT_of {r : Ru} (h : ruleE r = 0) : RuT r := by
  unfold ruleE at h
  split at h
  · cases h
  · rename_i h1
    split at h
    · rename_i h2; exact absurd h h2
    · rename_i h2
      exact ⟨by omega, atomsE_ok _ _ (by simpa using h2)⟩
theorem RuT.ruV {r : Ru} (h : RuT r) : ruV r = true := by
  have key : ∀ t ∈ atomsOf r, atmV t = true := fun t ht => by
    obtain ⟨h1, h2, h3, h4⟩ := h.atm t ht
    unfold atmV
    rw [vldT_of 4 t h2 h3 h4, h1]; rfl
  unfold Go.Proofs.YtgljjapglgcpdaaGreatDoor.ruV
  rw [decide_eq_true h.len, key r.head (by simp [atomsOf])]
  simp only [Bool.true_and, List.all_eq_true]
  intro x hx
  exact key x.atom (by simp only [atomsOf, List.mem_cons, List.mem_map]; exact .inr ⟨x, hx, rfl⟩)
theorem RuT.txOk {r : Ru} (h : RuT r) : txOkR r = true := by
  unfold txOkR
  rw [txOk_mis _ (h.atm r.head (by simp [atomsOf])).2.1]
  simp only [Bool.true_and, List.all_eq_true]
  intro x hx
  exact txOk_mis _ (h.atm x.atom (by simp only [atomsOf, List.mem_cons, List.mem_map]; exact .inr ⟨x, hx, rfl⟩)).2.1
/-- a rule that is not printable has an error -/
theorem ruV_no {r : Ru} (h : Go.Proofs.YtgljjapglgcpdaaGreatDoor.ruV r = false) : ruleE r ≠ 0 := fun e => by
  rw [(ruT_of e).ruV] at h; cases h

section
open Go.RowKit

set_option maxRecDepth 100000 in
theorem numTV_ (s : ByteArray) (w : World) (hs : s.size ≤ maxLen) :
    Calls Tryz.prog 137 #[.string s] w fun e w' => e = .returned (.bool (numB s)) ∧ Ch [] w w' := by
  have hn := number_ s w hs
  go_enter Tryz.func137, Tryz.ntmps137
  go_wp2_with (go_at_call 86; refine hn.mono ?_; rintro e w1 ⟨rfl, hc1⟩)
  go_ret
  exact ⟨rfl, hc1⟩
set_option maxRecDepth 100000 in
theorem refIsNumV (s : ByteArray) (w : World) (hs : s.size ≤ maxLen) :
    Calls Tryz.prog 128 #[.string s] w fun e w' => e = .returned (.bool (numB s)) ∧ w = w' := by
  have hn := ref01Number s w hs
  go_enter Tryz.func128, Tryz.ntmps128
  go_wp2_with (go_at_call 142; refine hn.mono ?_; rintro e w1 ⟨rfl, rfl⟩)
  go_ret
  exact ⟨rfl, rfl⟩
set_option maxRecDepth 100000 in
set_option maxHeartbeats 4000000 in
theorem withinV_ : ∀ (l : Nat) (L : Int), Hid (L = (l : Int)) → L ≤ 4 → ∀ (t : Tm) (B b : Nat), Nice B b t → B ≤ maxLen → ∀ (p : Nat → Prop) (v : Value) (w : World), SlT p w v t.args →
    Calls Tryz.prog 121 #[.agg #[.string t.name, v], .int .i64 L, .bool true] w fun e w' => e = .returned (.bool (vldT l t)) ∧ Ch [] w w' := by
  intro l
  induction l with
  | zero =>
    intro L hL _ t B b _ _ p v w h
    have hz : L = 0 := by have := hL.out; simpa using this
    clear hL
    subst hz
    obtain ⟨a, c, rfl, hlc, hmx⟩ := h.form
    generalize t.args.length = n at *
    go_enter Tryz.func121, Tryz.ntmps121
    go_wp2
    go_ret
    exact ⟨rfl, (Ch.refl _ _).alloc _⟩
  | succ l ih =>
    intro L hL hL4 t B b hN hBm p v w h
    obtain ⟨nm, ags⟩ := t
    obtain ⟨a, c, rfl, hlc, hmx⟩ := h.form
    simp only [Tm.args, Tm.name] at h hlc ⊢
    simp only [Nice] at hN
    have HG : Hid (vldT (l + 1) (.mk nm ags) = (decide (ags.length ≤ 4) && (if ags.length = 0 then leafB nm else ags.all (vldT l) && nameB nm))) := rfl
    generalize vldT (l + 1) (.mk nm ags) = R at *
    have HIH := Lib.hid ih; clear ih
    have HNI := Lib.hid (niceL_mem.1 hN.2.2)
    have HBM := Lib.hid hBm
    have hsz : nm.size ≤ maxLen := Nat.le_trans hN.1 hBm
    have hname := fun wz => name_ nm wz hsz
    have hnum := fun wz => numTV_ nm wz hsz
    have hvar := fun wz => variableT_ nm wz hsz
    have hL1 : 1 ≤ L := by have := hL.out; omega
    have HL : Hid (L - 1 = (l : Int)) := by have := hL.out; unfold Hid; omega
    clear hN hBm hL hsz
    unfold maxLen at hmx
    have hbx := Blk.new w 28 #[.string nm, .slice a ags.length c]
    have hcA : Ch [] w (w.alloc (.cells #[.string nm, .slice a ags.length c] 28)) := (Ch.refl _ _).alloc _
    generalize hwA : (w.alloc (.cells #[.string nm, .slice a ags.length c] 28)) = wA at *
    have b0 := hbx.cell 0
    have b1 := hbx.cell 1
    have j0 : decide (L < 1) = false := decide_eq_false (by omega)
    by_cases h4 : 4 < ags.length
    · have HR : Hid (R = false) := by unfold Hid; rw [HG.out, decide_eq_false (by omega)]; rfl
      have j4 : decide (4 < ags.length) = true := decide_eq_true h4
      clear HG
      go_enter Tryz.func121, Tryz.ntmps121
      go_wp2
      go_ret
      exact ⟨by rw [HR.out]; rfl, hcA⟩
    · have j4 : decide (4 < ags.length) = false := decide_eq_false h4
      by_cases h0 : ags.length = 0
      · have hx : ags = [] := List.eq_nil_of_length_eq_zero h0
        subst hx
        have HR : Hid (R = (nameB nm || (numB nm || varB nm))) := by unfold Hid; rw [HG.out]; rfl
        clear HG h0 j4 h4
        simp only [List.length_nil] at *
        cases hn : nameB nm with
        | true =>
          rw [hn] at hname HR
          clear hn
          go_enter Tryz.func121, Tryz.ntmps121
          go_wp2_with (go_at_call 22; refine (hname _).mono ?_; rintro e w1 ⟨rfl, hc1⟩)
          go_ret
          exact ⟨by rw [HR.out]; rfl, hcA.trans hc1⟩
        | false =>
          rw [hn] at hname HR
          clear hn
          cases hn : numB nm with
          | true =>
            rw [hn] at hnum HR
            clear hn
            go_enter Tryz.func121, Tryz.ntmps121
            go_wp2_with (first
              | (go_at_call 22; refine (hname _).mono ?_; rintro e w1 ⟨rfl, hc1⟩; have d0 := (hbx.ch hc1 (by simp)).cell 0)
              | (go_at_call 137; refine (hnum _).mono ?_; rintro e w2 ⟨rfl, hc2⟩))
            go_ret
            exact ⟨by rw [HR.out]; rfl, (hcA.trans hc1).trans hc2⟩
          | false =>
            rw [hn] at hnum HR
            clear hn
            generalize varB nm = q at *
            cases q
            all_goals
              go_enter Tryz.func121, Tryz.ntmps121
              go_wp2_with (first
                | (go_at_call 22; refine (hname _).mono ?_; rintro e w1 ⟨rfl, hc1⟩; have d0 := (hbx.ch hc1 (by simp)).cell 0)
                | (go_at_call 137; refine (hnum _).mono ?_; rintro e w2 ⟨rfl, hc2⟩; have d1 := (hbx.ch (hc1.trans hc2) (by simp)).cell 0)
                | (go_at_call 54; refine (hvar _).mono ?_; rintro e w3 ⟨rfl, hc3⟩))
              go_ret
              exact ⟨by rw [HR.out]; rfl, ((hcA.trans hc1).trans hc2).trans hc3⟩
      · have e0 : ((ags.length : Int) == 0) = false := by simpa using h0
        have HR : Hid (R = (ags.all (vldT l) && nameB nm)) := by unfold Hid; rw [HG.out, if_neg h0, decide_eq_true (by omega)]; rfl
        have HAt : Hid (∀ k (hk : k < ags.length), vldT l ags[k] = false → R = false) := fun k hk hq => by
          rw [HR.out]
          have : ags.all (vldT l) = false := by
            rw [Bool.eq_false_iff]; intro hall
            rw [List.all_eq_true] at hall
            rw [hall _ (List.getElem_mem hk)] at hq; cases hq
          rw [this]; rfl
        have HEnd : Hid ((∀ k (hk : k < ags.length), vldT l ags[k] = true) → R = nameB nm) := fun hq => by
          rw [HR.out]
          have : ags.all (vldT l) = true := by
            rw [List.all_eq_true]
            intro x hx
            obtain ⟨j, hj, rfl⟩ := List.getElem_of_mem hx
            exact hq j hj
          rw [this]; rfl
        clear HG HR h0 hnum hvar
        go_enter Tryz.func121, Tryz.ntmps121
        go_wp2
        clear b0 b1
        go_loopw [8, 40] (fun _ i wr => ∃ k : Nat, k ≤ ags.length ∧ i = .int .i64 k ∧ Ch [] wA wr ∧ Hid (∀ j (hj : j < ags.length), j < k → vldT l ags[j] = true)) (fun _ i _ => ags.length - (intOf i).toNat)
        case atStart => exact ⟨0, Nat.zero_le _, rfl, Ch.refl _ _, fun j _ h => absurd h (Nat.not_lt_zero _)⟩
        case round =>
          obtain ⟨k, hk, rfl, hB, HN⟩ := hrel
          have hbr := hbx.ch hB (by simp)
          have b0 := hbr.cell 0
          have b1 := hbr.cell 1
          by_cases hlt : k < ags.length
          · obtain ⟨bk, o, a', c', rfl, hp, c0, c1, hT⟩ := (h.ch0 (hcA.trans hB)).at_ hlt
            have hnx := HNI.out _ (List.getElem_mem hlt)
            have j1 : decide (k < ags.length) = true := decide_eq_true hlt
            have hq0 := HAt.out k hlt
            have HX : Hid (vldT l ags[k] = true → ∀ j (hj : j < ags.length), j < k + 1 → vldT l ags[j] = true) := fun hq j hj h1 => by
              rcases Nat.lt_succ_iff_lt_or_eq.1 h1 with h2 | h2
              · exact HN.out j hj h2
              · subst h2; exact hq
            have HQ := Lib.hid hq0; clear hq0
            generalize ags[k] = x at *
            have hcN : Ch [] wr (wr.alloc (.cells #[.string x.name, .slice a' x.args.length c'] 28)) := (Ch.refl _ _).alloc _
            have hbn := Blk.new wr 28 #[.string x.name, .slice a' x.args.length c']
            have b10 := hbn.cell 0
            have b11 := hbn.cell 1
            have hcall := HIH.out (L - 1) HL (by omega) x B b hnx HBM.out _ _ _ (hT.ch0 hcN)
            cases hq : vldT l x with
            | false =>
              rw [hq] at hcall
              have HF := Lib.hid (HQ.out hq)
              clear hq HX HQ
              go_wp2_with (go_at_call 121; refine hcall.mono ?_; rintro e w1 ⟨rfl, hc1⟩; clear hcall)
              go_ret
              exact ⟨by rw [HF.out]; rfl, hcA.trans (hB.trans (hcN.trans hc1))⟩
            | true =>
              rw [hq] at hcall
              have HY := Lib.hid (HX.out hq)
              clear hq HX HQ
              go_wp2_with (go_at_call 121; refine hcall.mono ?_; rintro e w1 ⟨rfl, hc1⟩; clear hcall)
              go_roundw
              case rel => exact ⟨k + 1, by omega, by go_num, hB.trans (hcN.trans hc1), HY⟩
              case measure => simp [intOf]; omega
          · have HF := Lib.hid (HEnd.out (fun j hj => HN.out j hj (by omega)))
            have j1 : decide (k < ags.length) = false := decide_eq_false hlt
            go_wp2_with (go_at_call 22; refine (hname _).mono ?_; rintro e w1 ⟨rfl, hc1⟩)
            go_ret
            exact ⟨by rw [HF.out]; rfl, hcA.trans (hB.trans hc1)⟩

set_option maxRecDepth 100000 in
theorem validT_ (t : Tm) (B b : Nat) (hN : Nice B b t) (hBm : B ≤ maxLen) (p : Nat → Prop) (v : Value) (w : World) (h : SlT p w v t.args) :
    Calls Tryz.prog 95 #[.agg #[.string t.name, v]] w fun e w' => e = .returned (.bool (vldT 4 t)) ∧ Ch [] w w' := by
  have hcall := fun wz (hz : Ch [] w wz) => withinV_ 4 4 rfl (Int.le_refl _) t B b hN hBm p v wz (h.ch0 hz)
  clear hN hBm
  obtain ⟨a, c, rfl, hlc, hmx⟩ := h.form
  clear h
  generalize t.args.length = n at *
  generalize t.name = nm at *
  generalize vldT 4 t = R at *
  have hbx := Blk.new w 28 #[.string nm, .slice a n c]
  have hcA : Ch [] w (w.alloc (.cells #[.string nm, .slice a n c] 28)) := (Ch.refl _ _).alloc _
  generalize hwA : (w.alloc (.cells #[.string nm, .slice a n c] 28)) = wA at *
  have b0 := hbx.cell 0
  have b1 := hbx.cell 1
  go_enter Tryz.func95, Tryz.ntmps95
  go_wp2_with (go_at_call 121; refine (hcall _ hcA).mono ?_; rintro e w1 ⟨rfl, hc1⟩)
  go_ret
  exact ⟨rfl, hcA.trans hc1⟩
end
section
open Go.RowKit

set_option maxRecDepth 100000 in
theorem refConstV0 (nm : ByteArray) (a : Option Addr) (c : Nat) (w : World) (hs : nm.size ≤ maxLen) :
    Calls Tryz.prog 111 #[.agg #[.string nm, .slice a 0 c]] w fun e w' => e = .returned (.bool (nameB nm || numB nm)) ∧ Ch [] w w' := by
  have hname := fun wz => ref01Name nm wz hs
  have hnum := fun wz => refIsNumV nm wz hs
  have hbx := Blk.new w 28 #[.string nm, .slice a 0 c]
  have hcA : Ch [] w (w.alloc (.cells #[.string nm, .slice a 0 c] 28)) := (Ch.refl _ _).alloc _
  generalize hwA : (w.alloc (.cells #[.string nm, .slice a 0 c] 28)) = wA at *
  have b0 := hbx.cell 0
  have b1 := hbx.cell 1
  cases hn : nameB nm with
  | true =>
    rw [hn] at hname
    go_enter Tryz.func111, Tryz.ntmps111
    go_wp2_with (go_at_call 49; refine (hname _).mono ?_; rintro e w1 ⟨rfl, rfl⟩)
    go_ret
    exact ⟨rfl, hcA⟩
  | false =>
    rw [hn] at hname
    generalize numB nm = q at *
    cases q
    all_goals
      go_enter Tryz.func111, Tryz.ntmps111
      go_wp2_with (first
        | (go_at_call 49; refine (hname _).mono ?_; rintro e w1 ⟨rfl, rfl⟩)
        | (go_at_call 128; refine (hnum _).mono ?_; rintro e w2 ⟨rfl, rfl⟩))
      go_ret
      exact ⟨rfl, hcA⟩

set_option maxRecDepth 100000 in
theorem refVarV0 (nm : ByteArray) (a : Option Addr) (c : Nat) (w : World) (hs : nm.size ≤ maxLen) :
    Calls Tryz.prog 112 #[.agg #[.string nm, .slice a 0 c]] w fun e w' => e = .returned (.bool (varB nm)) ∧ Ch [] w w' := by
  have hv := fun wz => ref01Variable nm wz hs
  have hbx := Blk.new w 28 #[.string nm, .slice a 0 c]
  have hcA : Ch [] w (w.alloc (.cells #[.string nm, .slice a 0 c] 28)) := (Ch.refl _ _).alloc _
  generalize hwA : (w.alloc (.cells #[.string nm, .slice a 0 c] 28)) = wA at *
  have b0 := hbx.cell 0
  have b1 := hbx.cell 1
  generalize varB nm = q at *
  go_enter Tryz.func112, Tryz.ntmps112
  go_wp2_with (go_at_call 129; refine (hv _).mono ?_; rintro e w1 ⟨rfl, rfl⟩)
  go_ret
  exact ⟨rfl, hcA⟩
set_option maxRecDepth 100000 in
set_option maxHeartbeats 4000000 in
theorem refWithinV_ : ∀ (l : Nat) (L : Int), Hid (L = (l : Int)) → L ≤ 4 → ∀ (t : Tm) (B b : Nat), Nice B b t → B ≤ maxLen → ∀ (p : Nat → Prop) (v : Value) (w : World), SlT p w v t.args →
    Calls Tryz.prog 83 #[.agg #[.string t.name, v], .int .i64 L, .bool false] w fun e w' => e = .returned (.bool (vldT l t)) ∧ Ch [] w w' := by
  intro l
  induction l with
  | zero =>
    intro L hL _ t B b _ _ p v w h
    have hz : L = 0 := by have := hL.out; simpa using this
    clear hL
    subst hz
    obtain ⟨a, c, rfl, hlc, hmx⟩ := h.form
    generalize t.args.length = n at *
    go_enter Tryz.func83, Tryz.ntmps83
    go_wp2
    go_ret
    exact ⟨rfl, (Ch.refl _ _).alloc _⟩
  | succ l ih =>
    intro L hL hL4 t B b hN hBm p v w h
    obtain ⟨nm, ags⟩ := t
    obtain ⟨a, c, rfl, hlc, hmx⟩ := h.form
    simp only [Tm.args, Tm.name] at h hlc ⊢
    simp only [Nice] at hN
    have HG : Hid (vldT (l + 1) (.mk nm ags) = (decide (ags.length ≤ 4) && (if ags.length = 0 then leafB nm else ags.all (vldT l) && nameB nm))) := rfl
    generalize vldT (l + 1) (.mk nm ags) = R at *
    have HIH := Lib.hid ih; clear ih
    have HNI := Lib.hid (niceL_mem.1 hN.2.2)
    have HBM := Lib.hid hBm
    have hsz : nm.size ≤ maxLen := Nat.le_trans hN.1 hBm
    have hname := fun wz => ref01Name nm wz hsz
    have hcon := fun a c wz => refConstV0 nm a c wz hsz
    have hvar := fun a c wz => refVarV0 nm a c wz hsz
    have hL1 : 1 ≤ L := by have := hL.out; omega
    have HL : Hid (L - 1 = (l : Int)) := by have := hL.out; unfold Hid; omega
    clear hN hBm hL hsz
    unfold maxLen at hmx
    have hbx := Blk.new w 28 #[.string nm, .slice a ags.length c]
    have hcA : Ch [] w (w.alloc (.cells #[.string nm, .slice a ags.length c] 28)) := (Ch.refl _ _).alloc _
    generalize hwA : (w.alloc (.cells #[.string nm, .slice a ags.length c] 28)) = wA at *
    have b0 := hbx.cell 0
    have b1 := hbx.cell 1
    have j0 : decide (L < 1) = false := decide_eq_false (by omega)
    by_cases h4 : 4 < ags.length
    · have HR : Hid (R = false) := by unfold Hid; rw [HG.out, decide_eq_false (by omega)]; rfl
      have j4 : decide (4 < ags.length) = true := decide_eq_true h4
      have e0 : ((ags.length : Int) == 0) = false := by have : ags.length ≠ 0 := by omega
                                                        simpa using this
      clear HG hcon hvar
      generalize nameB nm = q at *
      cases q
      all_goals
        go_enter Tryz.func83, Tryz.ntmps83
        go_wp2_with (go_at_call 49; refine (hname _).mono ?_; rintro e w1 ⟨rfl, rfl⟩)
        go_ret
        exact ⟨by rw [HR.out]; rfl, hcA⟩
    · have j4 : decide (4 < ags.length) = false := decide_eq_false h4
      by_cases h0 : ags.length = 0
      · have hx : ags = [] := List.eq_nil_of_length_eq_zero h0
        subst hx
        have HR : Hid (R = ((nameB nm || numB nm) || varB nm)) := by unfold Hid; rw [HG.out, Bool.or_assoc]; rfl
        clear HG h0 j4 h4
        simp only [List.length_nil] at *
        cases hn : (nameB nm || numB nm) with
        | true =>
          rw [hn] at hcon HR
          clear hn
          go_enter Tryz.func83, Tryz.ntmps83
          go_wp2_with (go_at_call 111; refine (hcon _ _ _).mono ?_; rintro e w1 ⟨rfl, hc1⟩)
          go_ret
          exact ⟨by rw [HR.out]; rfl, hcA.trans hc1⟩
        | false =>
          rw [hn] at hcon HR
          clear hn
          generalize varB nm = q at *
          cases q
          all_goals
            go_enter Tryz.func83, Tryz.ntmps83
            go_wp2_with (first
              | (go_at_call 111; refine (hcon _ _ _).mono ?_; rintro e w1 ⟨rfl, hc1⟩; have d0 := (hbx.ch hc1 (by simp)).cell 0; have d1 := (hbx.ch hc1 (by simp)).cell 1)
              | (go_at_call 112; refine (hvar _ _ _).mono ?_; rintro e w3 ⟨rfl, hc3⟩))
            go_ret
            exact ⟨by rw [HR.out]; rfl, (hcA.trans hc1).trans hc3⟩
      · have e0 : ((ags.length : Int) == 0) = false := by simpa using h0
        have HR : Hid (R = (ags.all (vldT l) && nameB nm)) := by unfold Hid; rw [HG.out, if_neg h0, decide_eq_true (by omega)]; rfl
        have HAt : Hid (∀ k (hk : k < ags.length), vldT l ags[k] = false → R = false) := fun k hk hq => by
          rw [HR.out]
          have : ags.all (vldT l) = false := by
            rw [Bool.eq_false_iff]; intro hall
            rw [List.all_eq_true] at hall
            rw [hall _ (List.getElem_mem hk)] at hq; cases hq
          rw [this]; rfl
        have HEnd : Hid (nameB nm = true → (∀ k (hk : k < ags.length), vldT l ags[k] = true) → R = true) := fun hn hq => by
          rw [HR.out, hn]
          have : ags.all (vldT l) = true := by
            rw [List.all_eq_true]
            intro x hx
            obtain ⟨j, hj, rfl⟩ := List.getElem_of_mem hx
            exact hq j hj
          rw [this]; rfl
        have HNo : Hid (nameB nm = false → R = false) := fun hn => by rw [HR.out, hn]; simp
        clear HG HR h0 hcon hvar
        cases hn : nameB nm with
        | false =>
          rw [hn] at hname
          have HF := Lib.hid (HNo.out hn)
          clear hn HEnd HNo HAt
          go_enter Tryz.func83, Tryz.ntmps83
          go_wp2_with (go_at_call 49; refine (hname _).mono ?_; rintro e w1 ⟨rfl, rfl⟩)
          go_ret
          exact ⟨by rw [HF.out]; rfl, hcA⟩
        | true =>
        rw [hn] at hname
        have HEN := Lib.hid (HEnd.out hn)
        clear hn HEnd HNo
        go_enter Tryz.func83, Tryz.ntmps83
        go_wp2_with (go_at_call 49; refine (hname _).mono ?_; rintro e w1 ⟨rfl, rfl⟩)
        clear b0 b1
        go_loopw [7, 37] (fun _ i wr => ∃ k : Nat, k ≤ ags.length ∧ i = .int .i64 k ∧ Ch [] wA wr ∧ Hid (∀ j (hj : j < ags.length), j < k → vldT l ags[j] = true)) (fun _ i _ => ags.length - (intOf i).toNat)
        case atStart => exact ⟨0, Nat.zero_le _, rfl, Ch.refl _ _, fun j _ h => absurd h (Nat.not_lt_zero _)⟩
        case round =>
          obtain ⟨k, hk, rfl, hB, HN⟩ := hrel
          have hbr := hbx.ch hB (by simp)
          have b0 := hbr.cell 0
          have b1 := hbr.cell 1
          by_cases hlt : k < ags.length
          · obtain ⟨bk, o, a', c', rfl, hp, c0, c1, hT⟩ := (h.ch0 (hcA.trans hB)).at_ hlt
            have hnx := HNI.out _ (List.getElem_mem hlt)
            have j1 : decide (k < ags.length) = true := decide_eq_true hlt
            have hq0 := HAt.out k hlt
            have HX : Hid (vldT l ags[k] = true → ∀ j (hj : j < ags.length), j < k + 1 → vldT l ags[j] = true) := fun hq j hj h1 => by
              rcases Nat.lt_succ_iff_lt_or_eq.1 h1 with h2 | h2
              · exact HN.out j hj h2
              · subst h2; exact hq
            have HQ := Lib.hid hq0; clear hq0
            generalize ags[k] = x at *
            have hcall := HIH.out (L - 1) HL (by omega) x B b hnx HBM.out _ _ _ hT
            cases hq : vldT l x with
            | false =>
              rw [hq] at hcall
              have HF := Lib.hid (HQ.out hq)
              clear hq HX HQ
              go_wp2_with (go_at_call 83; refine hcall.mono ?_; rintro e w1 ⟨rfl, hc1⟩; clear hcall)
              go_ret
              exact ⟨by rw [HF.out]; rfl, hcA.trans (hB.trans hc1)⟩
            | true =>
              rw [hq] at hcall
              have HY := Lib.hid (HX.out hq)
              clear hq HX HQ
              go_wp2_with (go_at_call 83; refine hcall.mono ?_; rintro e w1 ⟨rfl, hc1⟩; clear hcall)
              go_roundw
              case rel => exact ⟨k + 1, by omega, by go_num, hB.trans hc1, HY⟩
              case measure => simp [intOf]; omega
          · have HF := Lib.hid (HEN.out (fun j hj => HN.out j hj (by omega)))
            have j1 : decide (k < ags.length) = false := decide_eq_false hlt
            go_wp2
            go_ret
            exact ⟨by rw [HF.out]; rfl, hcA.trans hB⟩

set_option maxRecDepth 100000 in
theorem refValidT_ (t : Tm) (B b : Nat) (hN : Nice B b t) (hBm : B ≤ maxLen) (p : Nat → Prop) (v : Value) (w : World) (h : SlT p w v t.args) :
    Calls Tryz.prog 48 #[.agg #[.string t.name, v]] w fun e w' => e = .returned (.bool (vldT 4 t)) ∧ Ch [] w w' := by
  have hcall := fun wz (hz : Ch [] w wz) => refWithinV_ 4 4 rfl (Int.le_refl _) t B b hN hBm p v wz (h.ch0 hz)
  clear hN hBm
  obtain ⟨a, c, rfl, hlc, hmx⟩ := h.form
  clear h
  generalize t.args.length = n at *
  generalize t.name = nm at *
  generalize vldT 4 t = R at *
  have hbx := Blk.new w 28 #[.string nm, .slice a n c]
  have hcA : Ch [] w (w.alloc (.cells #[.string nm, .slice a n c] 28)) := (Ch.refl _ _).alloc _
  generalize hwA : (w.alloc (.cells #[.string nm, .slice a n c] 28)) = wA at *
  have b0 := hbx.cell 0
  have b1 := hbx.cell 1
  go_enter Tryz.func48, Tryz.ntmps48
  go_wp2_with (go_at_call 83; refine (hcall _ hcA).mono ?_; rintro e w1 ⟨rfl, hc1⟩)
  go_ret
  exact ⟨rfl, hcA.trans hc1⟩
end
end Go.Proofs.YtgljjapglgcpdaaGreatDoor
