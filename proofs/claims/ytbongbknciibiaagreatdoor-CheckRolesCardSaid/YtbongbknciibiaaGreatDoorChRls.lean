
/-
  The contract of check.Rules (PRINTED BY wip/gen/chrls.py).
-/
import Derived.Test.YtbongbknciibiaaGreatDoorChHid
import Derived.Test.YtbongbknciibiaaGreatDoorChDiff
import Derived.Test.YtbongbknciibiaaGreatDoorStrLev
namespace Go.Proofs.YtbongbknciibiaaGreatDoor
open Go.RowKit

theorem eachGo_at : ∀ (l : List Ru) (i k : Nat) (h : k < l.length), (∀ j (hj : j < k), ruleE (l[j]'(by omega)) = 0) → ruleE l[k] ≠ 0 → eachGo i l = some (i + k, ruleE l[k])
  | [], _, k, h, _, _ => by simp at h
  | r :: l, i, 0, h, _, hk => by
    simp only [List.getElem_cons_zero] at hk ⊢
    unfold eachGo; rw [if_neg hk]; rfl
  | r :: l, i, k + 1, h, hn, hk => by
    have h0 := hn 0 (by omega)
    simp only [List.getElem_cons_zero, List.getElem_cons_succ] at h0 hk ⊢
    unfold eachGo; rw [if_pos h0]
    rw [eachGo_at l (i + 1) k (by simpa using h) (fun j hj => by have := hn (j + 1) (by omega); simpa using this) hk]
    congr 2; omega
theorem ruleE_body {r : Ru} (h : ruleE r = 0) : r.body.length ≤ 8 := by
  unfold ruleE at h
  by_cases h8 : 8 < r.body.length
  · rw [if_pos h8] at h; omega
  · omega
theorem strE_res {es : List Ed} {N : List ByteArray} {o : Option (List Lv)} {base : Nat} {w : World} {v : Value} {n : Int} (h : LvAns es N o) (hr : LvRes base w v n o) : strE es = n := by
  unfold strE
  rcases h with ⟨f, h1, _, rfl⟩ | ⟨h1, rfl⟩
  · rw [if_pos ⟨f, h1⟩]; exact hr.2.symm
  · rw [if_neg h1]; exact hr.2.symm
theorem RuOk.nm {B b : Nat} {l : List Ru} (h : ∀ r ∈ l, RuOk B b r) : NmOk l := fun r hr => by
  have hO := h r hr
  have hB := hO.B
  refine ⟨?_, fun x hx => ?_⟩
  · have := hO.nice r.head (by simp [atomsOf])
    cases hh : r.head with
    | mk n ags => rw [hh] at this; simp only [Nice] at this; have := this.1; simp only [Tm.name]; omega
  · have := hO.nice x.atom (by simp only [atomsOf, List.mem_cons, List.mem_map]; exact .inr ⟨x, hx, rfl⟩)
    cases hh : x.atom with
    | mk n ags => rw [hh] at this; simp only [Nice] at this; have := this.1; simp only [Tm.name]; omega

set_option maxRecDepth 100000 in
set_option maxHeartbeats 8000000 in
theorem chRules_ (p : Nat → Prop) (v : Value) (l : List Ru) (w : World) (B b : Nat) (hK : KwAt w) (h : SlR p w v l) (hO : ∀ r ∈ l, RuOk B b r) (hlen : l.length ≤ 1000000) :
    Calls Tryz.prog 16 #[v] w fun e w' => e = .returned (.tuple #[.int .i64 (rulesE l).1, .int .i64 (rulesE l).2]) ∧ Ch [] w w' := by
  have HE : Hid (rulesE l = if 128 < l.length then (128, 2) else match eachGo 0 l with
    | some x => (((x.1 : Nat) : Int), x.2)
    | none => if 0 ≤ diffOf l then (diffOf l, 5) else if rolesBad l = true then (0, 8) else if depsB (edgesOf l) = true then (0, 9) else (0, strE (edgesOf l))) := rfl
  have hdf := fun wz (hz : Ch [] w wz) => differing_ p v l wz B b (h.ch0 hz) hO
  have hro := fun wz (hz : Ch [] w wz) => roles_ p v l wz B b (h.ch0 hz) hO hlen
  have hch := fun wz (hz : Ch [] w wz) => chance_ p v l wz B b (h.ch0 hz) hO hlen
  have HNM := Lib.hid (RuOk.nm hO)
  have hdp := fun wz (hz : Ch [] w wz) (hf : Fit l) => depends_ p v l wz (h.ch0 hz) hf (RuOk.nm hO)
  have hst := fun wz (hz : Ch [] w wz) (hf : Fit l) => strataLevels p v l wz (h.ch0 hz) hf (RuOk.nm hO)
  have HO := Lib.hid hO; clear hO
  obtain ⟨a, c, rfl, hlc, hm⟩ := h.form
  unfold maxLen at hm
  by_cases hbig : 128 < l.length
  · have d1 : decide ((128 : Int) < (l.length : Int)) = true := decide_eq_true (by omega)
    have HX : Hid (rulesE l = (128, 2)) := by unfold Hid; rw [HE.out, if_pos hbig]
    clear hbig HE hdf hro hch hdp hst
    go_enter Tryz.func16, Tryz.ntmps16
    go_wp2
    go_ret2
    exact ⟨by rw [HX.out]; rfl, Ch.refl _ _⟩
  · have d1 : decide ((128 : Int) < (l.length : Int)) = false := decide_eq_false (by omega)
    have HE2 : Hid (rulesE l = match eachGo 0 l with
      | some x => (((x.1 : Nat) : Int), x.2)
      | none => if 0 ≤ diffOf l then (diffOf l, 5) else if rolesBad l = true then (0, 8) else if depsB (edgesOf l) = true then (0, 9) else (0, strE (edgesOf l))) := by unfold Hid; rw [HE.out, if_neg hbig]
    have hl128 : l.length ≤ 128 := by omega
    clear hbig HE
    go_enter Tryz.func16, Tryz.ntmps16
    go_wp2
    go_loopw [4, 5, 6, 16] (fun _ _ _ i wr => ∃ k : Nat, k ≤ l.length ∧ i = .int .i64 k ∧ Ch [] w wr ∧ Hid (∀ j (hj : j < l.length), j < k → ruleE l[j] = 0)) (fun _ _ _ i _ => l.length - (intOf i).toNat)
    case atStart => exact ⟨0, Nat.zero_le _, rfl, Ch.refl _ _, fun j _ h => absurd h (Nat.not_lt_zero _)⟩
    case round =>
      obtain ⟨k, hk, rfl, hB, HN⟩ := hrel
      by_cases hlt : k < l.length
      · clear hdf hro hch hdp hst
        obtain ⟨bb, o, a', c', a'', c'', rfl, hp, c0, c1, c2, hT, hL⟩ := (h.ch0 hB).at_ hlt
        have hOk := HO.out _ (List.getElem_mem hlt)
        have HG0 := Lib.hid (show ruleE l[k] = 0 → ∀ j (hj : j < l.length), j < k + 1 → ruleE l[j] = 0 from fun h0 j hj h1 => by
          rcases Nat.lt_succ_iff_lt_or_eq.1 h1 with h2 | h2
          · exact HN.out j hj h2
          · subst h2; exact h0)
        have HG1 := Lib.hid (show ∀ q, ruleE l[k] = q → q ≠ 0 → rulesE l = ((k : Int), q) from fun q hq h0 => by
          have := eachGo_at l 0 k hlt (fun j hj => HN.out j _ hj) (by rw [hq]; exact h0)
          rw [HE2.out, this, hq]
          simp)
        generalize l[k] = r at *
        obtain ⟨wN, hwN⟩ : ∃ wN, wr.alloc (.cells #[.string r.head.name, .slice a' r.head.args.length c', .slice a'' r.body.length c''] 31) = wN := ⟨_, rfl⟩
        have hbn : Blk wN wr.heap.size 31 #[.string r.head.name, .slice a' r.head.args.length c', .slice a'' r.body.length c''] := by rw [← hwN]; exact Blk.new _ _ _
        have hcN : Ch [] wr wN := by rw [← hwN]; exact (Ch.refl _ _).alloc _
        have hcall := chRule_ r _ _ _ wN B b (hK.ch (hB.trans hcN)) (hT.ch0 hcN) (hL.ch0 hcN) hOk
        have n0 := hbn.cell 0
        have n1 := hbn.cell 1
        have n2 := hbn.cell 2
        clear hT hL hOk
        generalize ruleE r = q at *
        by_cases hz : q = 0
        · subst hz
          have HX := Lib.hid (HG0.out rfl)
          go_wp2_with (go_at_call 13; refine hcall.mono ?_; rintro e w2 ⟨rfl, hc2⟩; clear hcall)
          go_roundw
          case rel => exact ⟨k + 1, by omega, by go_num, (hB.trans hcN).trans hc2, HX⟩
          case measure => simp [intOf]; omega
        · have e1 : (q != 0) = true := by simpa using hz
          have HX := Lib.hid (HG1.out q rfl hz)
          clear hz
          go_wp2_with (go_at_call 13; refine hcall.mono ?_; rintro e w2 ⟨rfl, hc2⟩; clear hcall)
          go_ret2
          exact ⟨by rw [HX.out]; rfl, (hB.trans hcN).trans hc2⟩
      · have hall : ∀ r ∈ l, ruleE r = 0 := fun r hr => by
          obtain ⟨j, hj, rfl⟩ := List.getElem_of_mem hr
          exact HN.out j hj (by omega)
        have hfit : Fit l := ⟨by omega, fun r hr => by have := ruleE_body (hall r hr); omega⟩
        have hdp := fun wz hz => hdp wz hz hfit
        have hst := fun wz hz => hst wz hz hfit
        have HE3 : Hid (rulesE l = if 0 ≤ diffOf l then (diffOf l, 5) else if rolesBad l = true then (0, 8) else if depsB (edgesOf l) = true then (0, 9) else (0, strE (edgesOf l))) := by
          unfold Hid; rw [HE2.out, (eachGo_none l 0).2 hall]
        clear hall hfit HE2 HN h hK
        by_cases hd0 : 0 ≤ diffOf l
        · have d2 : decide (0 ≤ diffOf l) = true := decide_eq_true hd0
          have HX : Hid (rulesE l = (diffOf l, 5)) := by unfold Hid; rw [HE3.out, if_pos hd0]
          clear hd0 HE3 hro hch hdp hst
          generalize diffOf l = q at *
          go_wp2_with (first
            | (go_at_call 38; refine (hdf _ hB).mono ?_; rintro e w2 ⟨rfl, hc2⟩; clear hdf; have z2 := hB.trans hc2))
          go_ret2
          exact ⟨by rw [HX.out]; rfl, z2⟩
        · have d2 : decide (0 ≤ diffOf l) = false := decide_eq_false hd0
          have HE4 : Hid (rulesE l = if rolesBad l = true then (0, 8) else if depsB (edgesOf l) = true then (0, 9) else (0, strE (edgesOf l))) := by unfold Hid; rw [HE3.out, if_neg hd0]
          have HRB : Hid (rolesBad l = (decide ((rolesOf l).length = 0) || (decide (4 < (rolesOf l).length) || (decide ((rolesOf l).length = 1) && decide (chanceOf l = 0))))) := rfl
          clear hd0 HE3
          generalize diffOf l = dq at *
          generalize hrl : (rolesOf l) = RL at *
          generalize chanceOf l = cq at *
          generalize hRLn : RL.length = rl at *
          by_cases h0 : rl = 0
          · subst h0
            have HX : Hid (rulesE l = (0, 8)) := by unfold Hid; rw [HE4.out, if_pos (by rw [HRB.out]; simp)]
            clear HE4 HRB hch hdp hst
            go_wp2_with (first
              | (go_at_call 38; refine (hdf _ hB).mono ?_; rintro e w2 ⟨rfl, hc2⟩; clear hdf; have z2 := hB.trans hc2)
              | (go_at_call 19; refine (hro _ z2).mono ?_; rintro e w3 ⟨v3, rfl, ho3, hc3⟩; clear hro; have z3 := z2.trans hc3; obtain ⟨a3, c3, rfl, _, _⟩ := ho3.slt.form; rw [hRLn] at *; clear ho3))
            go_ret2
            exact ⟨by rw [HX.out]; rfl, z3⟩
          · have e0 : ((rl : Int) == 0) = false := by rw [beq_eq_false_iff_ne]; omega
            by_cases h4 : 4 < rl
            · have HX : Hid (rulesE l = (0, 8)) := by unfold Hid; rw [HE4.out, if_pos (by rw [HRB.out]; simp [h4])]
              have d4 : decide ((4 : Int) < (rl : Int)) = true := decide_eq_true (by omega)
              clear HE4 HRB hch hdp hst h0 h4
              go_wp2_with (first
                | (go_at_call 38; refine (hdf _ hB).mono ?_; rintro e w2 ⟨rfl, hc2⟩; clear hdf; have z2 := hB.trans hc2)
                | (go_at_call 19; refine (hro _ z2).mono ?_; rintro e w3 ⟨v3, rfl, ho3, hc3⟩; clear hro; have z3 := z2.trans hc3; obtain ⟨a3, c3, rfl, _, _⟩ := ho3.slt.form; rw [hRLn] at *; clear ho3))
              go_ret2
              exact ⟨by rw [HX.out]; rfl, z3⟩
            · have d4 : decide ((4 : Int) < (rl : Int)) = false := decide_eq_false (by omega)
              by_cases h1 : rl = 1
              · subst h1
                by_cases hc0 : cq = 0
                · subst hc0
                  have HX : Hid (rulesE l = (0, 8)) := by unfold Hid; rw [HE4.out, if_pos (by rw [HRB.out]; simp)]
                  clear HE4 HRB hdp hst h0 h4
                  go_wp2_with (first
                    | (go_at_call 38; refine (hdf _ hB).mono ?_; rintro e w2 ⟨rfl, hc2⟩; clear hdf; have z2 := hB.trans hc2)
                    | (go_at_call 19; refine (hro _ z2).mono ?_; rintro e w3 ⟨v3, rfl, ho3, hc3⟩; clear hro; have z3 := z2.trans hc3; obtain ⟨a3, c3, rfl, _, _⟩ := ho3.slt.form; rw [hRLn] at *; clear ho3)
                    | (go_at_call 21; refine (hch _ z3).mono ?_; rintro e w4 ⟨rfl, hc4⟩; clear hch; have z4 := z3.trans hc4))
                  go_ret2
                  exact ⟨by rw [HX.out]; rfl, z4⟩
                · have HE5 : Hid (rulesE l = if depsB (edgesOf l) = true then (0, 9) else (0, strE (edgesOf l))) := by unfold Hid; rw [HE4.out, if_neg (by rw [HRB.out]; simp [hc0])]
                  have e2 : (cq == 0) = false := by simpa using hc0
                  clear HE4 HRB h0 h4 hc0
                  cases hq : depsB (edgesOf l) with
                  | true =>
                    rw [hq] at hdp
                    have HX : Hid (rulesE l = (0, 9)) := by unfold Hid; rw [HE5.out, if_pos hq]
                    clear hq HE5
                    go_wp2_with (first
                      | (go_at_call 38; refine (hdf _ hB).mono ?_; rintro e w2 ⟨rfl, hc2⟩; clear hdf; have z2 := hB.trans hc2)
                      | (go_at_call 19; refine (hro _ z2).mono ?_; rintro e w3 ⟨v3, rfl, ho3, hc3⟩; clear hro; have z3 := z2.trans hc3; obtain ⟨a3, c3, rfl, _, _⟩ := ho3.slt.form; rw [hRLn] at *; clear ho3)
                      | (go_at_call 21; refine (hch _ z3).mono ?_; rintro e w4 ⟨rfl, hc4⟩; clear hch; have z4 := z3.trans hc4)
                      | (go_at_call 39; refine (hdp _ z4).mono ?_; rintro e w5 ⟨rfl, hc5⟩; clear hdp; have z5 := z4.trans hc5))
                    go_ret2
                    exact ⟨by rw [HX.out]; rfl, z5⟩
                  | false =>
                    rw [hq] at hdp
                    have HX : Hid (rulesE l = (0, strE (edgesOf l))) := by unfold Hid; rw [HE5.out, if_neg (by simp [hq])]
                    clear hq HE5
                    go_wp2_with (first
                      | (go_at_call 38; refine (hdf _ hB).mono ?_; rintro e w2 ⟨rfl, hc2⟩; clear hdf; have z2 := hB.trans hc2)
                      | (go_at_call 19; refine (hro _ z2).mono ?_; rintro e w3 ⟨v3, rfl, ho3, hc3⟩; clear hro; have z3 := z2.trans hc3; obtain ⟨a3, c3, rfl, _, _⟩ := ho3.slt.form; rw [hRLn] at *; clear ho3)
                      | (go_at_call 21; refine (hch _ z3).mono ?_; rintro e w4 ⟨rfl, hc4⟩; clear hch; have z4 := z3.trans hc4)
                      | (go_at_call 39; refine (hdp _ z4).mono ?_; rintro e w5 ⟨rfl, hc5⟩; clear hdp; have z5 := z4.trans hc5)
                      | (go_at_call 40; refine (hst _ z5).mono ?_; rintro e w6 ⟨v6, n6, o6, rfl, ha6, hr6, hc6⟩; clear hst; have z6 := z5.trans hc6))
                    go_ret2
                    exact ⟨by rw [HX.out, strE_res ha6 hr6]; rfl, z6⟩
              · have e2 : ((rl : Int) == 1) = false := by rw [beq_eq_false_iff_ne]; omega
                have HE5 : Hid (rulesE l = if depsB (edgesOf l) = true then (0, 9) else (0, strE (edgesOf l))) := by unfold Hid; rw [HE4.out, if_neg (by rw [HRB.out]; simp [h0, h4, h1])]
                clear HE4 HRB h0 h4 h1 hch
                cases hq : depsB (edgesOf l) with
                | true =>
                  rw [hq] at hdp
                  have HX : Hid (rulesE l = (0, 9)) := by unfold Hid; rw [HE5.out, if_pos hq]
                  clear hq HE5
                  go_wp2_with (first
                    | (go_at_call 38; refine (hdf _ hB).mono ?_; rintro e w2 ⟨rfl, hc2⟩; clear hdf; have z2 := hB.trans hc2)
                    | (go_at_call 19; refine (hro _ z2).mono ?_; rintro e w3 ⟨v3, rfl, ho3, hc3⟩; clear hro; have z3 := z2.trans hc3; obtain ⟨a3, c3, rfl, _, _⟩ := ho3.slt.form; rw [hRLn] at *; clear ho3)
                    | (go_at_call 39; refine (hdp _ z3).mono ?_; rintro e w5 ⟨rfl, hc5⟩; clear hdp; have z5 := z3.trans hc5))
                  go_ret2
                  exact ⟨by rw [HX.out]; rfl, z5⟩
                | false =>
                  rw [hq] at hdp
                  have HX : Hid (rulesE l = (0, strE (edgesOf l))) := by unfold Hid; rw [HE5.out, if_neg (by simp [hq])]
                  clear hq HE5
                  go_wp2_with (first
                    | (go_at_call 38; refine (hdf _ hB).mono ?_; rintro e w2 ⟨rfl, hc2⟩; clear hdf; have z2 := hB.trans hc2)
                    | (go_at_call 19; refine (hro _ z2).mono ?_; rintro e w3 ⟨v3, rfl, ho3, hc3⟩; clear hro; have z3 := z2.trans hc3; obtain ⟨a3, c3, rfl, _, _⟩ := ho3.slt.form; rw [hRLn] at *; clear ho3)
                    | (go_at_call 39; refine (hdp _ z3).mono ?_; rintro e w5 ⟨rfl, hc5⟩; clear hdp; have z5 := z3.trans hc5)
                    | (go_at_call 40; refine (hst _ z5).mono ?_; rintro e w6 ⟨v6, n6, o6, rfl, ha6, hr6, hc6⟩; clear hst; have z6 := z5.trans hc6))
                  go_ret2
                  exact ⟨by rw [HX.out, strE_res ha6 hr6]; rfl, z6⟩
end Go.Proofs.YtbongbknciibiaaGreatDoor
