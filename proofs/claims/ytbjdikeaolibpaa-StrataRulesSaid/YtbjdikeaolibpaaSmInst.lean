/-
  The contract of plain's instance.
-/
import Derived.Test.YtbjdikeaolibpaaSmBound
import Derived.Laws.ResultCell
namespace Go.Proofs.Ytbjdikeaolibpaa
open Go.RowKit

/-- a row of terms of the call's own, from base on; the terms' own rows lie where L holds or from base on -/
def OwnT3 (L : Nat → Prop) (w : World) (base : Nat) (v : Value) (ts : List Tm) : Prop := ∃ css, Own w base 52 2 v css ∧ TmsR (fun b => (L b ∨ base ≤ b) ∧ v.ownBlock ≠ some b) w ts css
theorem OwnT3.nil (L : Nat → Prop) (w : World) (base : Nat) : OwnT3 L w base (.slice none 0 0) [] := ⟨[], Own.nil _ _ _ _, by simp [TmsR]⟩
theorem OwnT3.ch {L : Nat → Prop} {S : List Nat} {w w' : World} {base : Nat} {v : Value} {ts : List Tm} (h : OwnT3 L w base v ts) (hc : Ch S w w') (hS : ∀ x ∈ S, (¬ L x ∧ x < base) ∨ w.heap.size ≤ x) : OwnT3 L w' base v ts := by
  obtain ⟨css, h2, h3⟩ := h
  refine ⟨css, h2.ch hc (fun b hb hm => ?_), TmsR.imp hc.size (fun b hb hp => ⟨hp, hc.block b hb (fun hm => ?_)⟩) h3⟩
  · have := h2.lt hb; rcases hS b hm with h | h <;> omega
  · rcases hS b hm with h | h
    · rcases hp.1 with h1 | h1
      · exact h.1 h1
      · omega
    · omega
theorem OwnT3.slt {L : Nat → Prop} {w : World} {base : Nat} {v : Value} {ts : List Tm} (h : OwnT3 L w base v ts) : SlT (fun b => L b ∨ base ≤ b) w v ts := by
  obtain ⟨css, h2, h3⟩ := h
  exact ⟨css, h2.sl.weak (fun b _ hb => .inr hb.1), TmsR.imp (Nat.le_refl _) (fun b _ hp => ⟨hp.1, rfl⟩) h3⟩
theorem OwnT3.add {L : Nat → Prop} {w1 w2 : World} {base : Nat} {v v' va : Value} {ts : List Tm} {css : List (List Value)} {t : Tm} (h2 : TmsR (fun b => (L b ∨ base ≤ b) ∧ v.ownBlock ≠ some b) w1 ts css)
    (hg : SlT (fun b => (L b ∨ base ≤ b) ∧ v.ownBlock ≠ some b) w1 va t.args) (hc : Ch v.ownBlock.toList w1 w2) (hat : v'.ownBlock = v.ownBlock ∨ v'.ownBlock = some w1.heap.size) (ho : Own w2 base 52 2 v' (css ++ [[.string t.name, va]])) : OwnT3 L w2 base v' (ts ++ [t]) := by
  obtain ⟨nm, ags⟩ := t
  have key : ∀ b, b < w1.heap.size → ((L b ∨ base ≤ b) ∧ v.ownBlock ≠ some b) → ((L b ∨ base ≤ b) ∧ v'.ownBlock ≠ some b) ∧ w2.heap[b]? = w1.heap[b]? := by
    intro b hb hp
    refine ⟨⟨hp.1, fun e => ?_⟩, hc.block b hb (fun hm => ?_)⟩
    · rcases hat with h | h
      · exact hp.2 (h ▸ e)
      · rw [h] at e; injection e with e; omega
    · cases hv : v.ownBlock with
      | none => rw [hv] at hm; cases hm
      | some g' => rw [hv] at hm; simp at hm; subst hm; exact hp.2 hv
  refine ⟨_, ho, TmsR.snoc (TmsR.imp hc.size key h2) ?_⟩
  obtain ⟨c2, a1, a2⟩ := hg
  simp only [TmR]
  exact ⟨va, c2, rfl, a1.imp hc.size key, TmsR.imp hc.size key a2⟩

theorem inst_fin {p : Nat → Prop} {w wz : World} {nm : ByteArray} {va : Value} {q : Bool} {ags : List Tm} {z0 z1 : Value} (hr4 : Blk wz (w.heap.size + 1) 52 #[z0, z1]) (hB : Ch [] w wz)
    (a : Act) (h4 : a.tmps.getD 4 undef = .pointer (some ⟨w.heap.size + 1, 0, none⟩)) (h6 : a.tmps.getD 5 undef = .bool q) (h5 : a.defers = [])
    (hin : SlT (fun b => (p b ∨ w.heap.size ≤ b) ∧ b ≠ w.heap.size + 1) wz va ags) :
    bodyPost Try.prog Try.f80 (fun e w' => ∃ v', e = .returned (.tuple #[.agg #[.string nm, v'], .bool q]) ∧ SlT (fun b => p b ∨ w.heap.size ≤ b) w' v' ags ∧ Ch [] w w') .ret a
      ((wz.setCell ⟨w.heap.size + 1, 0, none⟩ (.string nm)).setCell ⟨w.heap.size + 1, 1, none⟩ va) := by
  have hbF : Blk ((wz.setCell ⟨w.heap.size + 1, 0, none⟩ (.string nm)).setCell ⟨w.heap.size + 1, 1, none⟩ va) (w.heap.size + 1) 52 #[.string nm, va] := (hr4.set_ 0 _).set_ 1 _
  have hcF : Ch [w.heap.size + 1] wz ((wz.setCell ⟨w.heap.size + 1, 0, none⟩ (.string nm)).setCell ⟨w.heap.size + 1, 1, none⟩ va) := ((Ch.refl _ _).set (by simp) _).set (by simp) _
  have hrun : (results Try.f80 a.tmps).run Try.prog ((wz.setCell ⟨w.heap.size + 1, 0, none⟩ (.string nm)).setCell ⟨w.heap.size + 1, 1, none⟩ va) = .ok (.tuple #[.agg #[.string nm, va], .bool q]) ((wz.setCell ⟨w.heap.size + 1, 0, none⟩ (.string nm)).setCell ⟨w.heap.size + 1, 1, none⟩ va) := by
    rw [results_cell_tmp (p := 4) (u := 5) (ty := 52) (by kernel_rfl), h4, h6]
    have := run_loadVar_row (P := Try.prog) _ (w.heap.size + 1) 52 52 _ _ _ hbF Try.underlying52 rfl (by kernel_rfl)
    simp [asAddr, this]
  refine bodyPost_ret hrun h5 ⟨va, rfl, (hin.ch hcF (by intro b _ hb; simp; exact hb.2)).weak (fun b _ hb => hb.1), hB.step hcF (by simp)⟩

def InstC (n : Nat) : Prop := ∀ (t : Tm) (s : List Pr), t.sz ≤ n → t.sz ≤ 1000000 → ∀ (p : Nat → Prop) (v u : Value) (w : World), SlT p w v t.args → SlPr p w u s →
  Calls Try.prog 80 #[.agg #[.string t.name, v], u] w fun e w' => ∃ v', e = .returned (.tuple #[.agg #[.string (pInst t s).1.name, v'], .bool (pInst t s).2]) ∧ SlT (fun b => p b ∨ w.heap.size ≤ b) w' v' (pInst t s).1.args ∧ Ch [] w w'
theorem pInst_some {n : ByteArray} {ts : List Tm} {s : List Pr} {x : Pr} (hv : isVar (.mk n ts) = true) (hf : s.find? (fun x => decide (x.1 = n)) = some x) : pInst (.mk n ts) s = (x.2, true) := by
  rw [pInst, if_pos hv, hf]
theorem pInst_none {n : ByteArray} {ts : List Tm} {s : List Pr} (hv : isVar (.mk n ts) = true) (hf : s.find? (fun x => decide (x.1 = n)) = none) : pInst (.mk n ts) s = (.mk n ts, false) := by
  rw [pInst, if_pos hv, hf]
theorem pInst_yes {n : ByteArray} {ts out : List Tm} {s : List Pr} (hv : isVar (.mk n ts) = false) (hf : pInstL ts s = some out) : pInst (.mk n ts) s = (.mk n out, true) := by
  rw [pInst, if_neg (by rw [hv]; simp), hf]
theorem pInst_no {n : ByteArray} {ts : List Tm} {s : List Pr} (hv : isVar (.mk n ts) = false) (hf : pInstL ts s = none) : pInst (.mk n ts) s = (.mk n ts, false) := by
  rw [pInst, if_neg (by rw [hv]; simp), hf]

set_option maxRecDepth 100000 in
set_option maxHeartbeats 4000000 in
theorem inst_step (n : Nat) (IH : InstC n) : InstC (n + 1) := by
  intro t s hsz hle p v u w h hs
  obtain ⟨nm, ags⟩ := t
  obtain ⟨a, c, rfl, hlc, hmx⟩ := h.form
  obtain ⟨a2, c2, rfl, hl2, hm2⟩ := hs.form
  simp only [Tm.args, Tm.sz] at h hlc hsz hle
  show Calls Try.prog 80 #[.agg #[.string nm, .slice a ags.length c], .slice a2 s.length c2] w _
  unfold maxLen at hmx hm2
  have HIH := Lib.hid IH; clear IH
  have hagl := szs_len ags
  obtain ⟨wA, hwA⟩ : ∃ wA, wA = ((w.alloc (.cells #[.string nm, .slice a ags.length c] 52)).alloc (.cells #[.string ⟨#[]⟩, .slice none 0 0] 52)) := ⟨_, rfl⟩
  have hbx : Blk wA w.heap.size 52 #[.string nm, .slice a ags.length c] := by rw [hwA]; exact (Blk.new w _ _).alloc _
  have hby : Blk wA (w.heap.size + 1) 52 #[.string ⟨#[]⟩, .slice none 0 0] := by
    rw [hwA]
    have := Blk.new (w.alloc (.cells #[.string nm, .slice a ags.length c] 52)) 52 #[.string ⟨#[]⟩, .slice none 0 0]
    simpa using this
  have hcA : Ch [] w wA := by rw [hwA]; exact ((Ch.refl _ _).alloc _).alloc _
  have hszA : wA.heap.size = w.heap.size + 2 := by rw [hwA]; simp
  -- what is old keeps clear of the result's cell
  have hold : ∀ wz, Ch [] wA wz → ∀ (ts : List Tm) (va : Value), SlT p w va ts → SlT (fun b => (p b ∨ w.heap.size ≤ b) ∧ b ≠ w.heap.size + 1) wz va ts := fun wz hz ts va hT =>
    hT.imp (Nat.le_trans hcA.size hz.size) (fun b hb hp => ⟨⟨.inl hp, by omega⟩, (hcA.trans hz).block b hb (by simp)⟩)
  have hv := variable_ (.mk nm ags) p (.slice a ags.length c) wA (h.ch0 hcA)
  have b0 := hbx.cell 0
  have b1 := hbx.cell 1
  simp only [Tm.name] at hv
  have HO := Lib.hid hold; clear hold
  cases hiv : isVar (.mk nm ags) with
  | true =>
    rw [hiv] at hv
    have HIV := Lib.hid hiv
    clear hiv
    go_enter Try.func80, Try.ntmps80
    go_wp2_with (rw [← hwA]; go_at_call 96; refine hv.mono ?_; rintro e w1 ⟨rfl, hc1⟩; clear hv)
    have hbx1 := hbx.ch hc1 (by simp)
    have hby1 := hby.ch hc1 (by simp)
    have hB1 := hcA.trans hc1
    clear b0 b1 hbx hby hwA
    go_loopw [15] (fun i wr => ∃ k : Nat, k ≤ s.length ∧ i = .int .i64 k ∧ Ch [] w1 wr ∧ Hid (∀ i (hi : i < s.length), i < k → s[i].1 ≠ nm)) (fun i _ => s.length - (intOf i).toNat)
    case atStart => exact ⟨0, Nat.zero_le _, rfl, Ch.refl _ _, fun i _ h => by omega⟩
    case round =>
      obtain ⟨k, hk, rfl, hB, HN⟩ := hrel
      have hbx2 := hbx1.ch hB (by simp)
      have hby2 := hby1.ch hB (by simp)
      have b0 := hbx2.cell 0
      by_cases hlt : k < s.length
      · obtain ⟨b, o, a3, c3, rfl, hp, k0', k1', k2', hT⟩ := hs.at_ hlt
        have k0 := cell_ch k0' (hB1.trans hB) (by simp)
        have k1 := cell_ch k1' (hB1.trans hB) (by simp)
        have k2 := cell_ch k2' (hB1.trans hB) (by simp)
        have HFA := Lib.hid (fun he => find_at' (n := nm) hlt HN.out he)
        have hst : s[k].1 ≠ nm → ∀ i (hi : i < s.length), i < k + 1 → s[i].1 ≠ nm := fun hf i hi hij => by
          rcases Nat.lt_succ_iff_lt_or_eq.1 hij with h1 | h1
          · exact HN.out i hi h1
          · subst h1; exact hf
        have HST := Lib.hid hst; clear hst
        clear k0' k1' k2'
        generalize s[k] = x at *
        obtain ⟨xn, xt⟩ := x
        have L0 := Later.cell k0
        have LB := Later.cell b0
        simp only at L0 k0 k1 k2 HFA HST hT
        by_cases hxn : xn = nm
        · have hq : (xn.toList == nm.toList) = true := by rw [beqS]; simpa using hxn
          have HR := Lib.hid (pInst_some HIV.out (HFA.out hxn))
          clear hxn HFA HST
          go_wp2
          refine wp_region_later (by kernel_rfl) (lexB_of (by kernel_rfl)) ?_
          repeat (go_big_quiet_step (fail))
          refine wpQuiet_nil ?_
          intro w3 hw3
          have m1 := cell_ch k1 hw3 (by simp)
          have m2 := cell_ch k2 hw3 (by simp)
          have hby3 := hby2.ch hw3 (by simp)
          have y0 := hby3.cell 0
          have y1 := hby3.cell 1
          have f0 := hby3.frozen 0
          have f1 := hby3.frozen 1
          clear L0 LB
          go_wp2
          rw [HR.out]
          exact inst_fin hby3 ((hB1.trans hB).trans hw3) _ (by rfl) (by rfl) (by rfl) (HO.out _ ((hc1.trans hB).trans hw3) _ _ hT)
        · have hq : (xn.toList == nm.toList) = false := by rw [beqS]; simpa using hxn
          have HST2 := Lib.hid (HST.out hxn)
          clear hxn HFA HST
          go_wp2
          refine wp_region_later (by kernel_rfl) (lexB_of (by kernel_rfl)) ?_
          repeat (go_big_quiet_step (fail))
          refine wpQuiet_nil ?_
          intro w3 hw3
          go_wp2
          go_roundw
          case rel => exact ⟨k + 1, by omega, by go_num, hB.trans hw3, HST2.out⟩
          case measure => simp [intOf]; omega
      · have HR := Lib.hid (pInst_none HIV.out (find_none' (fun i hi => HN.out i hi (by omega))))
        have b1 := hbx2.cell 1
        have y0 := hby2.cell 0
        have y1 := hby2.cell 1
        have f0 := hby2.frozen 0
        have f1 := hby2.frozen 1
        go_wp2
        rw [HR.out]
        exact inst_fin hby2 (hB1.trans hB) _ (by rfl) (by rfl) (by rfl) (HO.out _ (hc1.trans hB) _ _ h)
  | false =>
    rw [hiv] at hv
    have HIV := Lib.hid hiv
    clear hiv
    go_enter Try.func80, Try.ntmps80
    go_wp2_with (rw [← hwA]; go_at_call 96; refine hv.mono ?_; rintro e w1 ⟨rfl, hc1⟩; clear hv; have hbx1 := hbx.ch hc1 (by simp); have hby1 := hby.ch hc1 (by simp); have g0 := hbx1.cell 0; have g1 := hbx1.cell 1; have g2 := (hbx1.alloc (.cells #[.string nm, .slice none 0 0] 52)).cell 1)
    have hB1 := hcA.trans hc1
    have hB7 : w.heap.size + 2 ≤ w1.heap.size := by have := hc1.size; omega
    have hb7 := Blk.new w1 52 #[.string nm, .slice none 0 0]
    have hbxB := hbx1.alloc (.cells #[.string nm, .slice none 0 0] 52)
    have hbyB := hby1.alloc (.cells #[.string nm, .slice none 0 0] 52)
    have hBB := hB1.alloc (.cells #[.string nm, .slice none 0 0] 52)
    have hAB := hc1.alloc (.cells #[.string nm, .slice none 0 0] 52)
    generalize (w1.alloc (.cells #[.string nm, .slice none 0 0] 52)) = wB at *
    generalize w1.heap.size = B7 at *
    clear b0 b1 hbx hby hwA g0 g1 g2 hbx1 hby1 hc1 hB1
    obtain ⟨L, hL⟩ : ∃ L : Nat → Prop, L = fun b => p b ∧ b < w.heap.size := ⟨_, rfl⟩
    have HL : Hid (∀ b, L b ↔ p b ∧ b < w.heap.size) := fun b => by rw [hL]
    have hsL : SlPr L w (.slice a2 s.length c2) s := SlG.imp hs (Nat.le_refl _) (fun b hb h1 => ⟨(HL.out b).2 ⟨h1, hb⟩, rfl⟩) fun x cs hx => imp_pr _ _ _ _ _ _ (Nat.le_refl _) (fun b hb h1 => ⟨(HL.out b).2 ⟨h1, hb⟩, rfl⟩) hx
    have hhL : SlT L w (.slice a ags.length c) ags := h.weak (fun b hb h1 => (HL.out b).2 ⟨h1, hb⟩)
    clear hL
    go_loopw [39] (fun i wr => ∃ (k : Nat) (ov : Value) (acc : List Tm), k ≤ ags.length ∧ i = .int .i64 k ∧ Ch [] w wr ∧ Blk wr w.heap.size 52 #[.string nm, .slice a ags.length c] ∧ Blk wr (w.heap.size + 1) 52 #[.string ⟨#[]⟩, .slice none 0 0] ∧ Blk wr B7 52 #[.string nm, ov] ∧ OwnT3 L wr (B7 + 1) ov acc ∧ acc.length = k ∧
        Hid (pInstL ags s = (pInstL (ags.drop k) s).map (acc ++ ·))) (fun i _ => ags.length - (intOf i).toNat)
    case atStart => exact ⟨0, _, [], Nat.zero_le _, rfl, hBB, hbxB, hbyB, hb7, OwnT3.nil _ _ _, rfl, by unfold Hid; simp⟩
    case round =>
      obtain ⟨k, ov, acc, hk, rfl, hB, hbx, hby, hb7r, ho, hacc, HX⟩ := hrel
      have g1 := hbx.cell 1
      have hb7l := hb7r.lt
      by_cases hlt : k < ags.length
      · obtain ⟨b, o, a4, c4, rfl, hp, k0, k1, hT⟩ := (hhL.ch0 hB).at_ hlt
        have HDR : Hid (ags.drop k = ags[k] :: ags.drop (k + 1)) := List.drop_eq_getElem_cons hlt
        have hszx := szs_mem (List.getElem_mem hlt)
        generalize ags[k] = x at *
        have hcall := HIH.out x s (by omega) (by omega) L _ _ wr hT (hsL.ch0 hB)
        obtain ⟨x2, q2, hpe⟩ : ∃ x2 q2, pInst x s = (x2, q2) := ⟨_, _, rfl⟩
        rw [hpe] at hcall
        simp only at hcall
        obtain ⟨css, hown, htms⟩ := ho
        have hcl := htms.len
        have hlv : ∀ b, ov.ownBlock = some b → B7 + 1 ≤ b ∧ b < wr.heap.size := fun b hb => hown.lt hb
        have HLV := Lib.hid hlv; clear hlv
        cases q2 with
        | false =>
          have hr : pInstL ags s = none := by rw [HX.out, HDR.out, pInstL, if_neg (by rw [hpe]; simp)]; rfl
          have HR := Lib.hid (pInst_no HIV.out hr); clear hr hpe
          go_wp2_with (go_at_call 80; refine hcall.mono ?_; rintro e w3 ⟨v3, rfl, hv3, hc3⟩; clear hcall; obtain ⟨a3, c3, rfl, hl3, hm3⟩ := hv3.form; have hbx3 := (hbx.ch hc3 (by simp)).alloc (.cells #[.string x2.name, .slice a3 x2.args.length c3] 52); have hby3 := (hby.ch hc3 (by simp)).alloc (.cells #[.string x2.name, .slice a3 x2.args.length c3] 52); have b0 := hbx3.cell 0; have b1 := hbx3.cell 1; have y0 := hby3.cell 0; have y1 := hby3.cell 1; have f0 := hby3.frozen 0; have f1 := hby3.frozen 1)
          rw [HR.out]
          have hcF := hc3.alloc (.cells #[.string x2.name, .slice a3 x2.args.length c3] 52)
          exact inst_fin hby3 (hB.trans hcF) _ (by rfl) (by rfl) (by rfl) (h.imp (hB.trans hcF).size (fun b hb hp => ⟨⟨.inl hp, by omega⟩, (hB.trans hcF).block b hb (by simp)⟩))
        | true =>
          have hr : pInstL ags s = (pInstL (ags.drop (k + 1)) s).map ((acc ++ [x2]) ++ ·) := by
            rw [HX.out, HDR.out, pInstL, if_pos (by rw [hpe]), hpe]
            cases pInstL (ags.drop (k + 1)) s <;> simp
          have HRR := Lib.hid hr; clear hr hpe
          have HCL := Lib.hid hcl; clear hcl
          go_wp2_with (first
            | (go_at_call 80; refine hcall.mono ?_; rintro e w3 ⟨v3, rfl, hv3, hc3⟩; clear hcall; obtain ⟨a3, c3, rfl, hl3, hm3⟩ := hv3.form; have hb73 := hb7r.ch hc3 (by simp); have hb74 := hb73.alloc (.cells #[.string x2.name, .slice a3 x2.args.length c3] 52); have d1 := hb74.cell 1; have hbz := Blk.new w3 52 #[.string x2.name, .slice a3 x2.args.length c3]; have z0 := hbz.cell 0; have z1 := hbz.cell 1; have d2 := (hb74.alloc (.cells #[.string x2.name, .slice a3 x2.args.length c3] 52)).cell 1; have hone : Sl (fun b => b = w3.heap.size + 1) ((w3.alloc (.cells #[.string x2.name, .slice a3 x2.args.length c3] 52)).alloc (.cells #[.string x2.name, .slice a3 x2.args.length c3] 52)) 2 (.slice (some ⟨w3.heap.size + 1, 0, none⟩) 1 1) [[.string x2.name, .slice a3 x2.args.length c3]] := (by have := Sl.one (w3.alloc (.cells #[.string x2.name, .slice a3 x2.args.length c3] 52)) 2 52 [.string x2.name, .slice a3 x2.args.length c3] rfl (by simp [Value.oneCell']); simpa using this))
            | (at_builtin; refine wpList_append_sl rfl _ _ _ rfl elT (base := B7 + 1) (v := ov) (css := css) rfl (((hown.ch hc3 (by simp)).ch ((Ch.refl [] w3).alloc (.cells #[.string x2.name, .slice a3 x2.args.length c3] 52)) (by simp)).ch ((Ch.refl [] (w3.alloc (.cells #[.string x2.name, .slice a3 x2.args.length c3] 52))).alloc (.cells #[.string x2.name, .slice a3 x2.args.length c3] 52)) (by simp)) rfl hone (by have := HCL.out; simp; omega) (by have := hc3.size; simp; omega) ?_; intro v8 w8 ho8 hc8 hat8 hn8; clear hn8; obtain ⟨a8, c8, rfl⟩ := ho8.form'; have hb78 := (hb74.alloc (.cells #[.string x2.name, .slice a3 x2.args.length c3] 52)).ch hc8 (by intro hm; cases hvo : ov.ownBlock with | none => rw [hvo] at hm; cases hm | some g6 => rw [hvo] at hm; have := (HLV.out g6 hvo).1; simp at hm; omega); have d8 := hb78.cell 1; have e8 := hb78.frozen 1))
          have hcW : Ch [] wr ((w3.alloc (.cells #[.string x2.name, .slice a3 x2.args.length c3] 52)).alloc (.cells #[.string x2.name, .slice a3 x2.args.length c3] 52)) := (hc3.alloc _).alloc _
          have hs3 := hc3.size
          have hlv8 : ∀ b, b ∈ ov.ownBlock.toList → B7 + 1 ≤ b := by
            intro b hb
            cases hvo : ov.ownBlock with
            | none => rw [hvo] at hb; cases hb
            | some g6 => rw [hvo] at hb; simp at hb; subst hb; exact (HLV.out b hvo).1
          have htmsW := TmsR.imp (q := fun b => (L b ∨ B7 + 1 ≤ b) ∧ ov.ownBlock ≠ some b) hcW.size (fun b hb hp => ⟨hp, hcW.block b hb (by simp)⟩) htms
          have hvW : SlT (fun b => (L b ∨ B7 + 1 ≤ b) ∧ ov.ownBlock ≠ some b) ((w3.alloc (.cells #[.string x2.name, .slice a3 x2.args.length c3] 52)).alloc (.cells #[.string x2.name, .slice a3 x2.args.length c3] 52)) (.slice a3 x2.args.length c3) x2.args :=
            (hv3.ch0 (((Ch.refl _ _).alloc _).alloc _)).weak fun b _ hb => by
              rcases hb with hb | hb
              · exact ⟨.inl hb, fun e => by have h1 := (HLV.out b e).1; have h2 := ((HL.out b).1 hb).2; omega⟩
              · exact ⟨.inr (by omega), fun e => by have h1 := (HLV.out b e).2; omega⟩
          have hoT := OwnT3.add htmsW hvW hc8 hat8 ho8
          have hl8 : (css ++ [[Value.string x2.name, Value.slice a3 x2.args.length c3]]).length = css.length + 1 := by simp
          rw [hl8] at hoT
          have hcS : Ch [B7] w8 (w8.setCell ⟨B7, 1, none⟩ (.slice a8 (css.length + 1) c8)) := (Ch.refl _ _).set (by simp) _
          have hoF := OwnT3.ch hoT hcS (by
            intro z hz
            simp at hz; subst hz
            exact .inl ⟨fun hl => by have := ((HL.out _).1 hl).2; omega, by omega⟩)
          have hbxF := ((hbx.ch hcW (by simp)).ch hc8 (fun hm => by have := hlv8 _ hm; omega)).ch hcS (by simp; omega)
          have hbyF := ((hby.ch hcW (by simp)).ch hc8 (fun hm => by have := hlv8 _ hm; omega)).ch hcS (by simp; omega)
          have hb7F : Blk (w8.setCell ⟨B7, 1, none⟩ (.slice a8 (css.length + 1) c8)) B7 52 #[.string nm, .slice a8 (css.length + 1) c8] := hb78.set_ 1 _
          have hBF : Ch [] w (w8.setCell ⟨B7, 1, none⟩ (.slice a8 (css.length + 1) c8)) := ((hB.trans hcW).step hc8 (fun z hz => .inr (by have := hlv8 _ hz; omega))).set (.inr (by simp; omega)) _
          go_roundw
          case rel => exact ⟨k + 1, _, acc ++ [x2], by omega, by go_num, hBF, hbxF, hbyF, hb7F, hoF, by simp; omega, HRR⟩
          case measure => simp [intOf]; omega
      · have hr : pInstL ags s = some acc := by rw [HX.out, List.drop_eq_nil_of_le (by omega), pInstL]; simp
        have HR := Lib.hid (pInst_yes HIV.out hr); clear hr
        have hsl := ho.slt
        obtain ⟨a8, c8, rfl, hl8, hm8⟩ := hsl.form
        have hin : SlT (fun b => (p b ∨ w.heap.size ≤ b) ∧ b ≠ w.heap.size + 1) wr (.slice a8 acc.length c8) acc := hsl.weak (fun b _ hb => by
          rcases hb with hb | hb
          · have := (HL.out b).1 hb; exact ⟨.inl this.1, by omega⟩
          · exact ⟨.inr (by omega), by omega⟩)
        have d0 := hb7r.cell 0
        have d1 := hb7r.cell 1
        have y0 := hby.cell 0
        have y1 := hby.cell 1
        have f0 := hby.frozen 0
        have f1 := hby.frozen 1
        go_wp2
        rw [HR.out]
        rw [hacc] at hin
        exact inst_fin hby hB _ (by rfl) (by rfl) (by rfl) hin
theorem instC_all : ∀ n, InstC n
  | 0 => fun t _ h => by cases t; simp [Tm.sz] at h
  | n + 1 => inst_step n (instC_all n)
end Go.Proofs.Ytbjdikeaolibpaa
