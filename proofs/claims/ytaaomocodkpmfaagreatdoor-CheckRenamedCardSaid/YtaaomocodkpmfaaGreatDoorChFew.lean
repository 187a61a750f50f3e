
/-
  The contracts of the reference's head, body, Variable (of layer 7), atom (of layer 11).
  The contracts of the reference's collect and Vars (of layer 7).
  The contracts of the reference's Vars (of layer 7), atoms, Binds, safe (of layer 11).
  The contracts of the reference's atoms, Binds, safe (of layer 11).
  The contracts of the reference's safe and Rule (of layer 11).
  The contracts of law11's few, fewRules; a rule as an argument, opened; law11.CheckRule.
-/
import Derived.Test.YtaaomocodkpmfaaGreatDoorChRef2
import Derived.Test.YtaaomocodkpmfaaGreatDoorChLaid
import Derived.Test.YtaaomocodkpmfaaGreatDoorSmall
import Derived.Test.YtaaomocodkpmfaaGreatDoorOpenR
namespace Go.Proofs.YtaaomocodkpmfaaGreatDoor

section
section
open Go.RowKit

theorem kw_cases (s : ByteArray) : (kwOf s = none ∧ ∀ k ∈ kws, k.n ≠ s) ∨ ∃ k ∈ kws, s = k.n ∧ kwOf s = some k := by
  cases h : kwOf s with
  | none =>
    left
    refine ⟨rfl, fun k hk e => ?_⟩
    have := List.find?_eq_none.1 h k hk
    simp [e] at this
  | some k =>
    right
    have h1 := List.find?_some h
    exact ⟨k, List.mem_of_find?_eq_some h, (by simp only [decide_eq_true_eq] at h1; exact h1.symm), rfl⟩
/-- may it be a head; may it be in a body -/
def headB (s : ByteArray) : Bool := match kwOf s with | some k => k.h | none => true
def bodyB (s : ByteArray) : Bool := match kwOf s with | some k => k.b | none => true
theorem headB_eq (s : ByteArray) : headB s = (!decide (s = ⟨#[116, 114, 117, 101]⟩) && (!decide (s = ⟨#[100, 111, 101, 115]⟩) && !decide (s = ⟨#[100, 105, 115, 116, 105, 110, 99, 116]⟩))) := by
  rcases kw_cases s with ⟨h1, h2⟩ | ⟨k, hk, rfl, h2⟩
  · unfold headB
    rw [h1]
    have n1 : ¬ s = ⟨#[116, 114, 117, 101]⟩ := fun e => h2 ⟨⟨#[116, 114, 117, 101]⟩, 1, false, true⟩ (by simp [kws]) e.symm
    have n2 : ¬ s = ⟨#[100, 111, 101, 115]⟩ := fun e => h2 ⟨⟨#[100, 111, 101, 115]⟩, 2, false, true⟩ (by simp [kws]) e.symm
    have n3 : ¬ s = ⟨#[100, 105, 115, 116, 105, 110, 99, 116]⟩ := fun e => h2 ⟨⟨#[100, 105, 115, 116, 105, 110, 99, 116]⟩, 2, false, true⟩ (by simp [kws]) e.symm
    rw [decide_eq_false n1, decide_eq_false n2, decide_eq_false n3]; rfl
  · clear h2
    simp only [kws, List.mem_cons, List.not_mem_nil, or_false] at hk
    rcases hk with rfl | rfl | rfl | rfl | rfl | rfl | rfl | rfl | rfl | rfl <;> kernel_rfl
theorem bodyB_eq (s : ByteArray) : bodyB s = (!(kwOf s).isSome || (decide (s = ⟨#[114, 111, 108, 101]⟩) || (decide (s = ⟨#[116, 114, 117, 101]⟩) || (decide (s = ⟨#[100, 111, 101, 115]⟩) || decide (s = ⟨#[100, 105, 115, 116, 105, 110, 99, 116]⟩))))) := by
  rcases kw_cases s with ⟨h1, h2⟩ | ⟨k, hk, rfl, h2⟩
  · unfold bodyB; rw [h1]; rfl
  · clear h2
    simp only [kws, List.mem_cons, List.not_mem_nil, or_false] at hk
    rcases hk with rfl | rfl | rfl | rfl | rfl | rfl | rfl | rfl | rfl | rfl <;> kernel_rfl

/-- a variable, as layer 7 says -/
def isV (t : Tm) : Bool := decide (t.args.length = 0) && varB t.name
set_option maxRecDepth 100000 in
set_option maxHeartbeats 2000000 in
theorem variable7_ (nm : ByteArray) (a : Option Addr) (n c : Nat) (w : World) (hs : nm.size ≤ maxLen) :
    Calls Tryz.prog 94 #[.agg #[.string nm, .slice a n c]] w fun e w' => e = .returned (.bool (decide (n = 0) && varB nm)) ∧ Ch [] w w' := by
  have hbx := Blk.new w 24 #[.string nm, .slice a n c]
  have hcA : Ch [] w (w.alloc (.cells #[.string nm, .slice a n c] 24)) := (Ch.refl _ _).alloc _
  have b0 := hbx.cell 0
  have b1 := hbx.cell 1
  have hvar := fun wz => ref01Variable nm wz hs
  have e1 : ((n : Int) == 0) = decide (n = 0) := by rw [Bool.eq_iff_iff]; simp
  generalize decide (n = 0) = q at *
  generalize varB nm = r at *
  cases q
  all_goals
    go_enter Tryz.func94, Tryz.ntmps94
    go_wp2_with (go_at_call 22; refine (hvar _).mono ?_; rintro e w1 ⟨rfl, rfl⟩)
    go_ret
    exact ⟨rfl, hcA⟩

/-- the error of an atom, apart from its place -/
def atomR (t : Tm) : Int :=
  if (!nameB t.name || misL t.args) = true then 4
  else if (wideT t || match kwOf t.name with | some k => !decide (t.args.length = k.a) | none => false) = true then 5
  else if 4 < t.dep then 3
  else 0
theorem misT_name {t : Tm} (h : nameB t.name = true) : misT t = misL t.args := by rw [mis_eq, h]; simp
theorem atomE_R (t : Tm) (hd : Bool) : atomE t hd = if atomR t ≠ 0 then atomR t else if (if hd = true then headB t.name else bodyB t.name) = true then 0 else 6 := by
  have hm : (!nameB t.name || misT t) = (!nameB t.name || misL t.args) := by
    cases h : nameB t.name with
    | false => rfl
    | true => rw [misT_name h]
  unfold atomE atomR headB bodyB
  rw [hm]
  generalize (!nameB t.name || misL t.args) = q1
  generalize wideT t = q3
  cases kwOf t.name with
  | none =>
    cases q1 <;> cases q3 <;> cases hd <;> by_cases h4 : 4 < t.dep <;> simp [h4]
  | some k =>
    obtain ⟨kn, ka, kh, kb⟩ := k
    by_cases hl : t.args.length = ka <;> cases q1 <;> cases q3 <;> cases hd <;> cases kh <;> cases kb <;> by_cases h4 : 4 < t.dep <;> simp [h4, hl]
end

section
open Go.RowKit

theorem lvsT_fold {nm : ByteArray} {ags : List Tm} (h : (decide (ags.length = 0) && varB nm) = false) (ls : List ByteArray) : (lvsT (.mk nm ags)).foldl addV ls = (lvsL ags).foldl addV ls := by
  cases ags with
  | nil =>
    simp only [List.length_nil, decide_true, Bool.true_and] at h
    rw [lvsT_nil]
    simp [lvsL, addV, h]
  | cons a r => rw [lvsT_cons (by simp)]
set_option maxRecDepth 100000 in
set_option maxHeartbeats 8000000 in
theorem collect_ : ∀ (n : Nat) (t : Tm), t.dep ≤ n → ∀ (B b : Nat), Nice B b t → B ≤ maxLen → ∀ (p : Nat → Prop) (v : Value) (w : World) (base : Nat) (vl : Value) (ls : List ByteArray), SlT p w v t.args →
    Own w base 9 1 vl (ls.map encS) → (∀ b, p b → b < w.heap.size → vl.ownBlock ≠ some b) → base ≤ w.heap.size → ls.length + (lvsT t).length ≤ 1000000000 →
    Calls Tryz.prog 55 #[vl, .agg #[.string t.name, v]] w fun e w' => ∃ v', e = .returned v' ∧ Own w' base 9 1 v' (((lvsT t).foldl addV ls).map encS) ∧ Ch vl.ownBlock.toList w w' ∧ (v'.ownBlock = vl.ownBlock ∨ ∃ g, v'.ownBlock = some g ∧ w.heap.size ≤ g) := by
  intro n
  induction n with
  | zero => intro t ht; cases t; simp [Tm.dep] at ht
  | succ n ih =>
    intro t ht B b hN hBm p v w base vl ls h ho hsep hbase hlen
    obtain ⟨nm, ags⟩ := t
    obtain ⟨a, c, rfl, hlc, hmx⟩ := h.form
    have hfm := ho.form'
    rw [List.length_map] at hfm
    obtain ⟨al, cl, rfl⟩ := hfm
    simp only [Tm.args, Tm.name, Tm.dep] at h hlc ht ⊢
    simp only [Nice] at hN
    have HNI := Lib.hid (niceL_mem.1 hN.2.2)
    have hnm : nm.size ≤ maxLen := by omega
    have HBM := Lib.hid hBm; clear hBm hN
    unfold maxLen at hmx
    have HIH := Lib.hid ih; clear ih
    have hbx := Blk.new w 24 #[.string nm, .slice a ags.length c]
    have hcA : Ch [] w (w.alloc (.cells #[.string nm, .slice a ags.length c] 24)) := (Ch.refl _ _).alloc _
    have b0 := hbx.cell 0
    have b1 := hbx.cell 1
    have hvar := fun wz => variable7_ nm a ags.length c wz hnm
    have hown0 : ∀ g, (Value.slice al ls.length cl).ownBlock = some g → base ≤ g ∧ g < w.heap.size := fun g hg => ho.lt hg
    generalize hwA : (w.alloc (.cells #[.string nm, .slice a ags.length c] 24)) = wA at *
    cases hV : (decide (ags.length = 0) && varB nm) with
    | true =>
      rw [hV] at hvar
      rw [Bool.and_eq_true, decide_eq_true_eq] at hV
      obtain ⟨hz, hvb⟩ := hV
      have hnil : ags = [] := List.eq_nil_of_length_eq_zero hz
      subst hnil
      simp only [List.length_nil] at hwA b1 hbx hvar
      rw [lvsT_nil] at hlen ⊢
      have HF : Hid ([nm].foldl addV ls = if (varB nm && !hasS ls nm) = true then ls ++ [nm] else ls) := rfl
      generalize [nm].foldl addV ls = R at *
      have HVB := Lib.hid hvb; clear hvb hz
      have hlen1 : ls.length ≤ 1000000000 := by simp at hlen; omega
      go_enter Tryz.func55, Tryz.ntmps55
      go_wp2_with (go_at_call 94; refine (hvar _).mono ?_; rintro e w1 ⟨rfl, hc1⟩; clear hvar)
      have hC1 := hcA.trans hc1
      have ho1 := ho.ch0' hC1
      have hbx1 := hbx.ch hc1 (by simp)
      go_loopw [5] (fun i wr => ∃ k : Nat, k ≤ ls.length ∧ i = .int .i64 k ∧ Ch [] w1 wr ∧ Hid (hasS (ls.take k) nm = false)) (fun i _ => ls.length - (intOf i).toNat)
      case atStart => exact ⟨0, Nat.zero_le _, rfl, Ch.refl _ _, by simp [Hid, hasS]⟩
      case round =>
        obtain ⟨k, hk, rfl, hB, HN⟩ := hrel
        have hor := ho1.ch0' hB
        have hbr := hbx1.ch hB (by simp)
        by_cases hlt : k < ls.length
        · obtain ⟨bb, o, rfl, hp, c0⟩ := SlS.at_ hor.sl hlt
          have HS := Lib.hid (hasS_snoc ls nm k hlt)
          have HAT := Lib.hid (fun he => hasS_at ls nm k hlt he)
          have j1 : decide (k < ls.length) = true := decide_eq_true hlt
          have i1 : (k : Int) < (ls.length : Int) := by omega
          have l0 := Later.cell c0
          have l1 := Later.cell (hbr.cell 0)
          have hbs := beqS ls[k] nm
          clear c0
          by_cases he : ls[k] = nm
          · have HX : Hid (R = ls) := by unfold Hid; rw [HF.out, HAT.out he]; simp
            rw [decide_eq_true he] at hbs
            clear he HAT HS
            generalize ls[k] = s at *
            go_wp2
            refine wp_region_later (by kernel_rfl) (lexB_of (by kernel_rfl)) ?_
            repeat (go_big_quiet_step (fail))
            refine wpQuiet_nil ?_
            intro w3 hw3
            clear l0 l1
            go_wp2
            go_ret
            exact ⟨_, rfl, by rw [HX.out]; exact hor.ch0' hw3, ((hC1.trans hB).trans hw3).of_nil, .inl rfl⟩
          · have HX : Hid (hasS (ls.take (k + 1)) nm = false) := by unfold Hid; rw [HS.out, HN.out, decide_eq_false he]; rfl
            rw [decide_eq_false he] at hbs
            clear he HAT HS
            generalize ls[k] = s at *
            go_wp2
            refine wp_region_later (by kernel_rfl) (lexB_of (by kernel_rfl)) ?_
            repeat (go_big_quiet_step (fail))
            refine wpQuiet_nil ?_
            intro w3 hw3
            clear l0 l1
            go_wp2
            go_roundw
            case rel => exact ⟨k + 1, by omega, by go_num, hB.trans hw3, HX⟩
            case measure => simp [intOf]; omega
        · have HX : Hid (R = ls ++ [nm]) := by
            have := HN.out
            rw [List.take_of_length_le (by omega)] at this
            unfold Hid; rw [HF.out, HVB.out, this]; rfl
          have j1 : decide (k < ls.length) = false := decide_eq_false hlt
          have hbr0 := hbr.cell 0
          have hszr := (hC1.trans hB).size
          go_wp2_with (first | (at_builtin; refine wpList_append_sl rfl _ _ _ rfl elS (base := base) (v := .slice al ls.length cl) (css := ls.map encS) rfl (hor.ch0' ((Ch.refl [] wr).alloc _)) rfl (Sl.one wr 1 _ [.string nm] rfl (by simp [Value.oneCell'])) (by simp; omega) (by simp; omega) ?_; intro v6 w6 ho6 hc6 hat6 hn6; clear hn6))
          go_ret
          refine ⟨_, rfl, by rw [HX.out]; simpa [encS] using ho6, ((hC1.trans hB).alloc _).of_nil.trans hc6, ?_⟩
          rcases hat6 with e1 | e1
          · exact .inl e1
          · exact .inr ⟨_, e1, by simp; omega⟩
    | false =>
      rw [hV] at hvar
      have HL := Lib.hid (lvsT_fold hV ls)
      have hll : (lvsL ags).length ≤ (lvsT (.mk nm ags)).length := by
        cases ags with
        | nil => simp [lvsL]
        | cons x r => rw [lvsT_cons (by simp)]; exact Nat.le_refl _
      clear hV
      generalize (lvsT (.mk nm ags)).foldl addV ls = R at *
      generalize (lvsT (.mk nm ags)).length = ll at *
      go_enter Tryz.func55, Tryz.ntmps55
      go_wp2_with (go_at_call 94; refine (hvar _).mono ?_; rintro e w1 ⟨rfl, hc1⟩; clear hvar)
      have hC1 := hcA.trans hc1
      have hbx1 := hbx.ch hc1 (by simp)
      have hsz1 := hC1.size
      go_loopw [0, 6] (fun lv i wr => ∃ k : Nat, k ≤ ags.length ∧ i = .int .i64 k ∧ Ch (Value.slice al ls.length cl).ownBlock.toList w1 wr ∧ Own wr base 9 1 lv (((lvsL (ags.take k)).foldl addV ls).map encS) ∧ (lv.ownBlock = (Value.slice al ls.length cl).ownBlock ∨ ∃ g, lv.ownBlock = some g ∧ w1.heap.size ≤ g)) (fun _ i _ => ags.length - (intOf i).toNat)
      case atStart => exact ⟨0, Nat.zero_le _, rfl, Ch.refl _ _, by simpa [lvsL] using ho.ch0' hC1, .inl rfl⟩
      case round =>
        obtain ⟨k, hk, rfl, hB, hown, hat⟩ := hrel
        have hbr1 := (hbx1.ch hB (fun hm => by simp at hm; have := (hown0 _ hm).2; omega)).cell 1
        by_cases hlt : k < ags.length
        · have hT0 : SlT (fun b => p b ∧ b < w.heap.size) wr (.slice a ags.length c) ags := (h.small.ch0 hC1).ch hB (fun b hb hpb hm => by
            have := hsep b hpb.1 hpb.2
            simp at hm
            exact this hm)
          obtain ⟨b', o, a', c', rfl, hp, c0, c1, hT⟩ := hT0.at_ hlt
          have HDR : Hid ((lvsL (ags.take (k + 1))).foldl addV ls = (lvsT ags[k]).foldl addV ((lvsL (ags.take k)).foldl addV ls)) := by unfold Hid; rw [lvsL_snoc ags k hlt, List.foldl_append]
          have hle := lvsL_le ags k hlt
          have hxd := deps_mem (List.getElem_mem hlt)
          have hnx := HNI.out _ (List.getElem_mem hlt)
          have hfl := addV_len (lvsL (ags.take k)) ls
          have j1 : decide (k < ags.length) = true := decide_eq_true hlt
          generalize ags[k] = x at *
          have hszB := hB.size
          have hcall := HIH.out x (by omega) B b hnx HBM.out _ _ _ base u0 ((lvsL (ags.take k)).foldl addV ls) hT hown (fun b hpb hb e => by
            rcases hat with e1 | ⟨g, e1, e2⟩
            · rw [e1] at e; exact hsep b hpb.1 hpb.2 e
            · rw [e1] at e; injection e with e; have := hpb.2; omega) (by omega) (by omega)
          go_wp2_with (go_at_call 55; refine hcall.mono ?_; rintro e w2 ⟨v1, rfl, ho1, hc2, hat1⟩; clear hcall)
          go_roundw
          case rel =>
            refine ⟨k + 1, by omega, by go_num, hB.step hc2 (fun y hy => ?_), by rw [HDR.out]; exact ho1, ?_⟩
            · rcases hat with e1 | ⟨g, e1, e2⟩
              · rw [e1] at hy; exact .inl hy
              · rw [e1] at hy; simp at hy; subst hy; exact .inr e2
            · rcases hat1 with e3 | ⟨g, e3, e4⟩
              · rw [e3]; exact hat
              · exact .inr ⟨g, e3, by omega⟩
          case measure => simp [intOf]; omega
        · have hr : (lvsL (ags.take k)).foldl addV ls = R := by rw [List.take_of_length_le (by omega), ← HL.out]
          rw [hr] at hown
          clear hr
          have j1 : decide (k < ags.length) = false := decide_eq_false hlt
          go_wp2
          go_ret
          exact ⟨_, rfl, hown, hC1.of_nil.trans hB, hat.imp id fun ⟨g, e1, e2⟩ => ⟨g, e1, by omega⟩⟩
end

section
open Go.RowKit

set_option maxRecDepth 100000 in
set_option maxHeartbeats 8000000 in
theorem refVars7_ (r : Ru) (p : Nat → Prop) (vh vb : Value) (w : World) (B b : Nat) (hh : SlT p w vh r.head.args) (hb : SlLi p w vb r.body) (hO : RuOk B b r) :
    Calls Tryz.prog 20 #[.agg #[.string r.head.name, vh, vb]] w fun e w' => ∃ v', e = .returned v' ∧ Own w' w.heap.size 9 1 v' ((varsL (atomsOf r)).map encS) ∧ Ch [] w w' := by
  have hall := hO.all.1
  have HNI := Lib.hid hO.nice
  have HBM := Lib.hid hO.B
  have hlen := hO.len
  have HV : Hid (varsL (atomsOf r) = (lvsL (atomsOf r)).foldl addV []) := rfl
  obtain ⟨hd, body⟩ := r
  have HAT : Hid (atomsOf ⟨hd, body⟩ = hd :: body.map (·.atom)) := rfl
  have HLE : Hid (∀ k, (hk : k < body.length) → (lvsL (hd :: (body.take k).map (·.atom))).length + (lvsT body[k].atom).length ≤ 1000000000) := fun k hk => by
    have h1 : atomsOf ⟨hd, body⟩ = (hd :: (body.take (k + 1)).map (·.atom)) ++ (body.drop (k + 1)).map (·.atom) := by
      rw [HAT.out, List.cons_append, ← List.map_append, List.take_append_drop]
    have h2 : hd :: (body.take (k + 1)).map (·.atom) = (hd :: (body.take k).map (·.atom)) ++ [body[k].atom] := by
      rw [take_snoc body k hk, List.map_append]; rfl
    have h3 : (lvsL [body[k].atom]).length = (lvsT body[k].atom).length := by simp [lvsL]
    rw [h1, lvsL_append, h2, lvsL_append, List.length_append, List.length_append, h3] at hall
    omega
  have HL0 : Hid ((lvsT hd).length ≤ 1000000000) := by
    unfold Hid
    rw [HAT.out] at hall
    simp only [lvsL, List.length_append] at hall
    omega
  generalize varsL (atomsOf ⟨hd, body⟩) = R at *
  simp only at hh hb hlen ⊢
  have hh0 := hh.small
  have hb0 : SlLi (fun x => p x ∧ x < w.heap.size) w vb body := hb.weak fun x hx hp => ⟨hp, hx⟩
  have hhn := HNI.out hd (by rw [HAT.out]; simp)
  obtain ⟨ah, ch, rfl, _, _⟩ := hh.form
  obtain ⟨a, c, rfl, hlc, hmx⟩ := hb.form
  unfold maxLen at hmx
  clear hh hb hall
  have hbx := Blk.new w 27 #[.string hd.name, .slice ah hd.args.length ch, .slice a body.length c]
  have hcA : Ch [] w (w.alloc (.cells #[.string hd.name, .slice ah hd.args.length ch, .slice a body.length c] 27)) := (Ch.refl _ _).alloc _
  have b0 := hbx.cell 0
  have b1 := hbx.cell 1
  have hc0 := collect_ hd.dep hd (Nat.le_refl _) B b hhn HBM.out _ _ _ (w.heap.size + 1) (.slice none 0 0) [] (hh0.ch0 hcA) (Own.nil _ _ _ _) (fun b _ _ e => by simp [Value.ownBlock] at e) (by simp) (by have := HL0.out; simp; omega)
  generalize hwA : (w.alloc (.cells #[.string hd.name, .slice ah hd.args.length ch, .slice a body.length c] 27)) = wA at *
  go_enter Tryz.func20, Tryz.ntmps20
  go_wp2_with (go_at_call 55; refine hc0.mono ?_; rintro e w1 ⟨v1, rfl, ho1, hc1, hat1⟩; clear hc0)
  have hC1 : Ch [] w w1 := hcA.trans (hc1.mono (by simp [Value.ownBlock]))
  have hbx1 := hbx.ch (S := []) (hc1.mono (by simp [Value.ownBlock])) (by simp)
  clear b0 b1 hwA hat1 hc1 hhn hh0
  go_loopw [3, 4] (fun lv i wr => ∃ k : Nat, k ≤ body.length ∧ i = .int .i64 k ∧ Ch [] w wr ∧ Blk wr w.heap.size 27 #[.string hd.name, .slice ah hd.args.length ch, .slice a body.length c] ∧ Own wr (w.heap.size + 1) 9 1 lv (((lvsL (hd :: (body.take k).map (·.atom))).foldl addV []).map encS)) (fun _ i _ => body.length - (intOf i).toNat)
  case atStart => exact ⟨0, Nat.zero_le _, rfl, hC1, hbx1, by simpa [lvsL] using ho1⟩
  case round =>
    obtain ⟨k, hk, rfl, hB, hbr, hown⟩ := hrel
    have hbr2 := hbr.cell 2
    have hsB := hbr.lt
    by_cases hlt : k < body.length
    · obtain ⟨b', o, a', c', rfl, hp, c0, c1, c2, hT⟩ := (hb0.ch0 hB).at_ hlt
      have hle := HLE.out k hlt
      have hnx := HNI.out body[k].atom (by rw [HAT.out]; exact List.mem_cons_of_mem _ (List.mem_map.2 ⟨_, List.getElem_mem hlt, rfl⟩))
      have HDR : Hid ((lvsL (hd :: (body.take (k + 1)).map (·.atom))).foldl addV [] = (lvsT body[k].atom).foldl addV ((lvsL (hd :: (body.take k).map (·.atom))).foldl addV [])) := by
        unfold Hid
        rw [take_snoc body k hlt, List.map_append, ← List.cons_append, lvsL_append, List.foldl_append]
        simp [lvsL]
      have hfl := addV_len (lvsL (hd :: (body.take k).map (·.atom))) []
      rw [List.length_nil, Nat.zero_add] at hfl
      have j1 : decide (k < body.length) = true := decide_eq_true hlt
      generalize body[k] = x at *
      obtain ⟨xn, xa⟩ := x
      simp only at hnx hle HDR c0 c1 c2 hT
      generalize (lvsL (hd :: (body.take k).map (·.atom))).foldl addV [] = L0 at *
      have hcall := collect_ xa.dep xa (Nat.le_refl _) B b hnx HBM.out _ _ _ (w.heap.size + 1) u3 L0 hT hown (fun b hpb hb e => by have := (hown.lt e).1; have := hpb.2; omega) (by omega) (by omega)
      have HLV := Lib.hid (show ∀ b, u3.ownBlock = some b → w.heap.size + 1 ≤ b ∧ b < wr.heap.size from fun b hb => hown.lt hb)
      go_wp2_with (go_at_call 55; refine hcall.mono ?_; rintro e w2 ⟨v2, rfl, ho2, hc2, hat2⟩; clear hcall)
      go_roundw
      case rel =>
        exact ⟨k + 1, by omega, by go_num, hB.step hc2 (fun y hy => by simp at hy; have := (HLV.out y hy).1; exact .inr (by omega)), hbr.ch hc2 (fun hm => by simp at hm; have := (HLV.out _ hm).1; omega), by rw [HDR.out]; exact ho2⟩
      case measure => simp [intOf]; omega
    · have hr : (lvsL (hd :: (body.take k).map (·.atom))).foldl addV [] = R := by rw [List.take_of_length_le (by omega), HV.out, HAT.out]
      rw [hr] at hown
      clear hr
      have j1 : decide (k < body.length) = false := decide_eq_false hlt
      go_wp2
      go_ret
      exact ⟨_, rfl, hown.base_le (by omega), hB⟩
end

section
open Go.RowKit

theorem atomsE_cons (hd : Tm) (body : List Li) : atomsE true (hd :: body.map (·.atom)) = if atomE hd true ≠ 0 then atomE hd true else atomsE false (body.map (·.atom)) := by
  rw [atomsE]
  split <;> simp_all
end

section
open Go.RowKit

theorem mem_lvsL {ts : List Tm} {s : ByteArray} : s ∈ lvsL ts ↔ ∃ t ∈ ts, s ∈ lvsT t := by
  induction ts with
  | nil => simp [lvsL]
  | cons x r ih => simp only [lvsL, List.mem_append, ih, List.mem_cons]; constructor
                   · rintro (h | ⟨t, ht, h⟩)
                     · exact ⟨x, .inl rfl, h⟩
                     · exact ⟨t, .inr ht, h⟩
                   · rintro ⟨t, rfl | ht, h⟩
                     · exact .inl h
                     · exact .inr ⟨t, ht, h⟩
theorem mem_vars1 {t : Tm} {s : ByteArray} : s ∈ varsL [t] ↔ s ∈ lvsT t ∧ varB s = true := by rw [mem_varsL]; simp [lvsL]
def vrs (x : Li) : List ByteArray := varsL [x.atom]
def bindL (body : List Li) : List ByteArray := (body.filter bindsB).flatMap vrs
def needL (hd : Tm) (body : List Li) : List ByteArray := varsL [hd] ++ (body.filter fun x => !bindsB x).flatMap vrs
theorem mem_bindL {r : Ru} {s : ByteArray} : s ∈ bindL r.body ↔ s ∈ varsL (bindOf r) := by
  rw [mem_varsL, mem_lvsL]
  simp only [bindL, vrs, List.mem_flatMap, mem_vars1, bindOf, List.mem_map]
  constructor
  · rintro ⟨x, hx, h1, h2⟩; exact ⟨⟨x.atom, ⟨x, hx, rfl⟩, h1⟩, h2⟩
  · rintro ⟨⟨t, ⟨x, hx, rfl⟩, h1⟩, h2⟩; exact ⟨x, hx, h1, h2⟩
theorem mem_needL {r : Ru} {s : ByteArray} : s ∈ needL r.head r.body ↔ s ∈ varsL (needOf r) := by
  rw [mem_varsL, mem_lvsL]
  simp only [needL, vrs, List.mem_append, List.mem_flatMap, mem_vars1, needOf, List.mem_cons, List.mem_map]
  constructor
  · rintro (⟨h1, h2⟩ | ⟨x, hx, h1, h2⟩)
    · exact ⟨⟨_, .inl rfl, h1⟩, h2⟩
    · exact ⟨⟨x.atom, .inr ⟨x, hx, rfl⟩, h1⟩, h2⟩
  · rintro ⟨⟨t, rfl | ⟨x, hx, rfl⟩, h1⟩, h2⟩
    · exact .inl ⟨h1, h2⟩
    · exact .inr ⟨x, hx, h1, h2⟩
theorem safe_eq (r : Ru) : (needL r.head r.body).all (fun s => hasS (bindL r.body) s) = safeB r := by
  unfold safeB
  rw [Bool.eq_iff_iff, List.all_eq_true, List.all_eq_true]
  simp only [hasS, decide_eq_true_eq]
  constructor
  · intro h s hs; exact mem_bindL.1 (h s (mem_needL.2 hs))
  · intro h s hs; exact mem_bindL.2 (h s (mem_needL.1 hs))
theorem vrs_len (x : Li) (h : x.atom.sz ≤ 1000) : (vrs x).length ≤ 1000 := by
  have h1 := addV_len (lvsL [x.atom]) []
  have h2 := lvsT_sz x.atom
  have h3 : (lvsL [x.atom]).length = (lvsT x.atom).length := by simp [lvsL]
  unfold vrs varsL
  simp only [List.length_nil] at h1
  omega
theorem flat_le (L : List Li) (h : ∀ x ∈ L, (vrs x).length ≤ 1000) : (L.flatMap vrs).length ≤ L.length * 1000 := by
  induction L with
  | nil => simp
  | cons x r ih =>
    have h1 := h x (by simp)
    have h2 := ih (fun y hy => h y (by simp [hy]))
    simp only [List.flatMap_cons, List.length_append, List.length_cons, Nat.add_mul]; omega
theorem SlT.one_ {p : Nat → Prop} {w : World} {t : Tm} {v : Value} (h : SlT p w v t.args) : SlT (fun _ => True) (w.alloc (.cells #[.string t.name, v] 24)) (.slice (some ⟨w.heap.size, 0, none⟩) 1 1) [t] := by
  have hR := TmR.of (h.ch0 ((Ch.refl [] w).alloc (.cells #[.string t.name, v] 24)))
  obtain ⟨a, c, rfl, _, _⟩ := h.form
  refine ⟨[[.string t.name, .slice a t.args.length c]], (Sl.one w 2 _ [.string t.name, .slice a t.args.length c] rfl (by simp [Value.oneCell'])).weak (fun _ _ _ => trivial), ?_⟩
  simp only [TmsR]
  exact ⟨_, [], rfl, TmR.imp (Nat.le_refl _) (fun _ _ _ => ⟨trivial, rfl⟩) hR, rfl⟩

end
end

section
open Go.ChangeShapes Go.WideShapes Go.ChangeAt Go.RowKit

def smB (t : Tm) : Bool := decide (pParts 60 t 60 ≤ 60)
def fewB (r : Ru) : Bool := decide (r.body.length ≤ 12) && (smB r.head && r.body.all (fun x => smB x.atom))
theorem smB_sz {t : Tm} (h : smB t = true) : t.sz ≤ 60 := by
  have h1 : pParts 60 t 60 ≤ 60 := by simpa [smB] using h
  have := (pParts_small 60 t 60 h1).1
  omega
theorem few_ok {r : Ru} (h : fewB r = true) (hN : NiceR reachBytes maxLen r) : RuOk reachBytes maxLen r := by
  simp only [fewB, Bool.and_eq_true, decide_eq_true_eq, List.all_eq_true] at h
  obtain ⟨h1, h2, h3⟩ := h
  refine ⟨fun t ht => ?_, fun t ht => ?_, by omega, by decide⟩
  · simp only [atomsOf, List.mem_cons, List.mem_map] at ht
    rcases ht with rfl | ⟨x, hx, rfl⟩
    · exact hN.1
    · exact hN.2 x hx
  · simp only [atomsOf, List.mem_cons, List.mem_map] at ht
    rcases ht with rfl | ⟨x, hx, rfl⟩
    · have := smB_sz h2; omega
    · have := smB_sz (h3 x hx); omega

set_option maxRecDepth 100000 in
set_option maxHeartbeats 4000000 in
theorem few_ (r : Ru) (p : Nat → Prop) (vh vb : Value) (w : World) (hh : SlT p w vh r.head.args) (hb : SlLi p w vb r.body) :
    Calls Tryz.prog 5 #[.agg #[.string r.head.name, vh, vb]] w fun e w' => e = .returned (.bool (fewB r)) ∧ Ch [] w w' := by
  have HF := Lib.hid (show fewB r = (decide (r.body.length ≤ 12) && (smB r.head && r.body.all (fun x => smB x.atom))) from rfl)
  generalize fewB r = R at *
  obtain ⟨hd, body⟩ := r
  simp only at hh hb HF ⊢
  have hsh : ∀ wz, Ch [] w wz → Calls Tryz.prog 14 #[.agg #[.string hd.name, vh], .int .i64 (60 : Nat)] wz fun e w' => e = .returned (.bool (smB hd)) ∧ Ch [] wz w' := fun wz (hz : Ch [] w wz) => small_ hd p vh wz 60 (hh.ch0 hz) (by omega)
  obtain ⟨ah, ch, rfl, _, _⟩ := hh.form
  obtain ⟨a, c, rfl, hlc, hmx⟩ := hb.form
  unfold maxLen at hmx
  generalize hd.args.length = hL at *
  have hbx := Blk.new w 27 #[.string hd.name, .slice ah hL ch, .slice a body.length c]
  have hcA : Ch [] w (w.alloc (.cells #[.string hd.name, .slice ah hL ch, .slice a body.length c] 27)) := (Ch.refl _ _).alloc _
  generalize hwA : (w.alloc (.cells #[.string hd.name, .slice ah hL ch, .slice a body.length c] 27)) = wA at *
  have b0 := hbx.cell 0
  have b1 := hbx.cell 1
  have b2 := hbx.cell 2
  by_cases hbig : 12 < body.length
  · have d1 : decide ((12 : Int) < (body.length : Int)) = true := decide_eq_true (by omega)
    have HX : Hid (R = false) := by unfold Hid; rw [HF.out, decide_eq_false (by omega)]; rfl
    clear hbig
    go_enter Tryz.func5, Tryz.ntmps5
    go_wp2
    go_ret
    exact ⟨by rw [HX.out]; rfl, hcA⟩
  · have d1 : decide ((12 : Int) < (body.length : Int)) = false := decide_eq_false (by omega)
    have HF2 : Hid (R = (smB hd && body.all (fun x => smB x.atom))) := by unfold Hid; rw [HF.out, decide_eq_true (by omega)]; rfl
    clear hbig HF
    cases hs : smB hd with
    | false =>
      rw [hs] at hsh
      have HX : Hid (R = false) := by unfold Hid; rw [HF2.out, hs]; rfl
      clear hs
      go_enter Tryz.func5, Tryz.ntmps5
      go_wp2_with (go_at_call 14; refine (hsh _ hcA).mono ?_; rintro e w1 ⟨rfl, hc1⟩; clear hsh)
      go_ret
      exact ⟨by rw [HX.out]; rfl, hcA.trans hc1⟩
    | true =>
      rw [hs] at hsh
      have HF3 : Hid (R = body.all (fun x => smB x.atom)) := by unfold Hid; rw [HF2.out, hs]; rfl
      clear hs HF2
      go_enter Tryz.func5, Tryz.ntmps5
      go_wp2_with (go_at_call 14; refine (hsh _ hcA).mono ?_; rintro e w1 ⟨rfl, hc1⟩; clear hsh)
      have hC1 := hcA.trans hc1
      have hbx1 := hbx.ch hc1 (by simp)
      clear b0 b1 b2 hwA hbx
      go_loopw [3] (fun i wr => ∃ k : Nat, k ≤ body.length ∧ i = .int .i64 k ∧ Ch [] w1 wr ∧ Hid (∀ j (hj : j < body.length), j < k → smB body[j].atom = true)) (fun i _ => body.length - (intOf i).toNat)
      case atStart => exact ⟨0, Nat.zero_le _, rfl, Ch.refl _ _, fun j _ h => absurd h (Nat.not_lt_zero _)⟩
      case round =>
        obtain ⟨k, hk, rfl, hB, HN⟩ := hrel
        have hbr2 := (hbx1.ch hB (by simp)).cell 2
        by_cases hlt : k < body.length
        · obtain ⟨b', o, a', c', rfl, hp, c0, c1, c2, hT⟩ := (hb.ch0 (hC1.trans hB)).at_ hlt
          have hcall : Calls Tryz.prog 14 #[.agg #[.string body[k].atom.name, .slice a' body[k].atom.args.length c'], .int .i64 (60 : Nat)] wr fun e w' => e = .returned (.bool (smB body[k].atom)) ∧ Ch [] wr w' := small_ body[k].atom _ _ wr 60 hT (by omega)
          have j1 : decide (k < body.length) = true := decide_eq_true hlt
          have HG0 := Lib.hid (show smB body[k].atom = true → ∀ j (hj : j < body.length), j < k + 1 → smB body[j].atom = true from fun h0 j hj h1 => by
            rcases Nat.lt_succ_iff_lt_or_eq.1 h1 with h2 | h2
            · exact HN.out j hj h2
            · subst h2; exact h0)
          have HG1 := Lib.hid (show smB body[k].atom = false → R = false from fun h0 => by
            rw [HF3.out, List.all_eq_false]
            exact ⟨_, List.getElem_mem hlt, by rw [h0]; simp⟩)
          clear hT
          generalize body[k] = x at *
          obtain ⟨xn, xa⟩ := x
          simp only at hcall HG0 HG1 c0 c1 c2
          cases hs : smB xa with
          | true =>
            rw [hs] at hcall
            have HX := Lib.hid (HG0.out hs)
            clear hs HG0 HG1
            go_wp2_with (go_at_call 14; refine hcall.mono ?_; rintro e w3 ⟨rfl, hc3⟩; clear hcall)
            go_roundw
            case rel => exact ⟨k + 1, by omega, by go_num, hB.trans hc3, HX⟩
            case measure => simp [intOf]; omega
          | false =>
            rw [hs] at hcall
            have HX := Lib.hid (HG1.out hs)
            clear hs HG0 HG1
            go_wp2_with (go_at_call 14; refine hcall.mono ?_; rintro e w3 ⟨rfl, hc3⟩; clear hcall)
            go_ret
            exact ⟨by rw [HX.out]; rfl, (hC1.trans hB).trans hc3⟩
        · have HX : Hid (R = true) := by
            unfold Hid
            rw [HF3.out, List.all_eq_true]
            intro x hx
            obtain ⟨j, hj, rfl⟩ := List.getElem_of_mem hx
            exact HN.out j hj (by omega)
          have j1 : decide (k < body.length) = false := decide_eq_false hlt
          go_wp2
          go_ret
          exact ⟨by rw [HX.out]; rfl, hC1.trans hB⟩

set_option maxRecDepth 100000 in
set_option maxHeartbeats 4000000 in
theorem fewRules_ (p : Nat → Prop) (v : Value) (l : List Ru) (most : Nat) (w : World) (h : SlR p w v l) :
    Calls Tryz.prog 9 #[v, .int .i64 (most : Int)] w fun e w' => e = .returned (.bool (decide (l.length ≤ most) && l.all fewB)) ∧ Ch [] w w' := by
  have HF := Lib.hid (show (decide (l.length ≤ most) && l.all fewB) = (decide (l.length ≤ most) && l.all fewB) from rfl)
  generalize hR : (decide (l.length ≤ most) && l.all fewB) = R at *
  have HF : Hid (R = (decide (l.length ≤ most) && l.all fewB)) := hR.symm
  clear hR
  obtain ⟨a, c, rfl, hlc, hm⟩ := h.form
  unfold maxLen at hm
  by_cases hbig : most < l.length
  · have d1 : decide (most < l.length) = true := decide_eq_true hbig
    have HX : Hid (R = false) := by unfold Hid; rw [HF.out, decide_eq_false (by omega)]; rfl
    clear hbig
    go_enter Tryz.func9, Tryz.ntmps9
    go_wp2
    go_ret
    exact ⟨by rw [HX.out]; rfl, Ch.refl _ _⟩
  · have d1 : decide (most < l.length) = false := decide_eq_false hbig
    have HF3 : Hid (R = l.all fewB) := by unfold Hid; rw [HF.out, decide_eq_true (by omega)]; rfl
    clear hbig HF
    go_enter Tryz.func9, Tryz.ntmps9
    go_wp2
    go_loopw [5] (fun i wr => ∃ k : Nat, k ≤ l.length ∧ i = .int .i64 k ∧ Ch [] w wr ∧ Hid (∀ j (hj : j < l.length), j < k → fewB l[j] = true)) (fun i _ => l.length - (intOf i).toNat)
    case atStart => exact ⟨0, Nat.zero_le _, rfl, Ch.refl _ _, fun j _ h => absurd h (Nat.not_lt_zero _)⟩
    case round =>
      obtain ⟨k, hk, rfl, hB, HN⟩ := hrel
      by_cases hlt : k < l.length
      · obtain ⟨bb, o, a', c', a'', c'', rfl, hp, c0, c1, c2, hT, hL⟩ := (h.ch0 hB).at_ hlt
        have hcall := few_ l[k] _ _ _ wr hT hL
        have j1 : decide (k < l.length) = true := decide_eq_true hlt
        have HG0 := Lib.hid (show fewB l[k] = true → ∀ j (hj : j < l.length), j < k + 1 → fewB l[j] = true from fun h0 j hj h1 => by
          rcases Nat.lt_succ_iff_lt_or_eq.1 h1 with h2 | h2
          · exact HN.out j hj h2
          · subst h2; exact h0)
        have HG1 := Lib.hid (show fewB l[k] = false → R = false from fun h0 => by
          rw [HF3.out, List.all_eq_false]
          exact ⟨_, List.getElem_mem hlt, by rw [h0]; simp⟩)
        clear hT hL
        generalize l[k] = x at *
        cases hs : fewB x with
        | true =>
          rw [hs] at hcall
          have HX := Lib.hid (HG0.out hs)
          clear hs HG0 HG1
          go_wp2_with (go_at_call 5; refine hcall.mono ?_; rintro e w3 ⟨rfl, hc3⟩; clear hcall)
          go_roundw
          case rel => exact ⟨k + 1, by omega, by go_num, hB.trans hc3, HX⟩
          case measure => simp [intOf]; omega
        | false =>
          rw [hs] at hcall
          have HX := Lib.hid (HG1.out hs)
          clear hs HG0 HG1
          go_wp2_with (go_at_call 5; refine hcall.mono ?_; rintro e w3 ⟨rfl, hc3⟩; clear hcall)
          go_ret
          exact ⟨by rw [HX.out]; rfl, hB.trans hc3⟩
      · have HX : Hid (R = true) := by
          unfold Hid
          rw [HF3.out, List.all_eq_true]
          intro x hx
          obtain ⟨j, hj, rfl⟩ := List.getElem_of_mem hx
          exact HN.out j hj (by omega)
        have j1 : decide (k < l.length) = false := decide_eq_false hlt
        go_wp2
        go_ret
        exact ⟨by rw [HX.out]; rfl, hB⟩

section
variable {H : Type} {enc : TypeId × Value → H} {W : World}
set_option maxRecDepth 100000 in
theorem open_r {base : Nat} {v : Value} {d : DataW H} {ps : List MemPlace} (hval : Value.okWide Tryz.prog W .any base 27 v) (h : DataW.Trod enc Tryz.prog W 0 (fun _ => true) true 27 v d ps) (hw : WOk 27 d) :
    ∃ (r : Ru) (va vb : Value), v = .agg #[.string r.head.name, va, vb] ∧ SlT (fun _ => True) W va r.head.args ∧ SlLi (fun _ => True) W vb r.body ∧ NiceR reachBytes maxLen r := by
  obtain ⟨cs, rfl, hsz⟩ := okWide_struct Tryz.underlying27 hval
  obtain ⟨fuel, hf⟩ := h
  obtain ⟨r, ⟨va, vb, e, h1, h2⟩, h3⟩ := trod_Ru (show DataW.trod enc Tryz.prog W 0 (fun _ => true) true fuel 27 cs.toList = some (d, ps) from hf) hw
  refine ⟨r, va, vb, ?_, h1, h2, h3⟩
  obtain ⟨l⟩ := cs
  simp only at e
  rw [e]
end

end
end Go.Proofs.YtaaomocodkpmfaaGreatDoor
