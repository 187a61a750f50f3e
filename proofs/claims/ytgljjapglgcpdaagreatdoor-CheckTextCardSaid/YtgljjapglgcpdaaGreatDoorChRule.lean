
/-
  The contract of check.Rule.
-/
import Derived.Test.YtgljjapglgcpdaaGreatDoorChSafe
import Derived.Test.YtgljjapglgcpdaaGreatDoorChPlain
namespace Go.Proofs.YtgljjapglgcpdaaGreatDoor
open Go.RowKit

theorem role_eq (s : ByteArray) : (s.toList == [114, 111, 108, 101]) = decide (s = bRole) := by
  have : bRole.toList = [114, 111, 108, 101] := by rw [ByteArray.toList_eq]; rfl
  rw [← this, beqS]

set_option maxRecDepth 100000 in
set_option maxHeartbeats 8000000 in
theorem chRule_ (r : Ru) (p : Nat → Prop) (vh vb : Value) (w : World) (B b : Nat) (hK : KwAt w) (hh : SlT p w vh r.head.args) (hb : SlLi p w vb r.body) (hO : RuOk B b r) :
    Calls Tryz.prog 7 #[.agg #[.string r.head.name, vh, vb]] w fun e w' => e = .returned (.int .i64 (ruleE r)) ∧ Ch [] w w' := by
  have HE := Lib.hid (show ruleE r = if 8 < r.body.length then 2 else if atomsE true (atomsOf r) ≠ 0 then atomsE true (atomsOf r) else if 5 < (varsL (atomsOf r)).length then 11 else if safeB r = false then 7 else if roleBad r = true then 8 else 0 from rfl)
  have hname := name_
  have hatoms := fun wz (hz : Ch [] w wz) => atoms_ r p vh vb wz (hh.ch0 hz) (hb.ch0 hz) (by have := hO.len; omega)
  have hsafe := fun wz (hz : Ch [] w wz) => safe_ r p vh vb wz (hh.ch0 hz) (hb.ch0 hz) (by have := hO.len; omega) hO.need.1 hO.bind.1 hO.need.2 hO.bind.2
  obtain ⟨ah, ch, rfl, _, _⟩ := hh.form
  obtain ⟨a, c, rfl, hlc, hmx⟩ := hb.form
  unfold maxLen at hmx
  generalize hal : r.head.args.length = al at *
  have hbx := Blk.new w 31 #[.string r.head.name, .slice ah al ch, .slice a r.body.length c]
  have hcA : Ch [] w (w.alloc (.cells #[.string r.head.name, .slice ah al ch, .slice a r.body.length c] 31)) := (Ch.refl _ _).alloc _
  generalize hwA : (w.alloc (.cells #[.string r.head.name, .slice ah al ch, .slice a r.body.length c] 31)) = wA at *
  have b0 := hbx.cell 0
  have b1 := hbx.cell 1
  have b2 := hbx.cell 2
  have hbc := fun wz (hz : Ch [] wA wz) (i : Nat) => (hbx.ch hz (by simp)).cell i
  generalize hE : ruleE r = E at *
  clear hE
  by_cases hlong : 8 < r.body.length
  · have hd : decide ((8 : Int) < (r.body.length : Int)) = true := decide_eq_true (by omega)
    have HR : Hid (E = 2) := by unfold Hid; rw [HE.out, if_pos hlong]
    clear hlong
    go_enter Tryz.func7, Tryz.ntmps7
    go_wp2
    go_ret
    exact ⟨by rw [HR.out]; rfl, hcA⟩
  · have hd : decide ((8 : Int) < (r.body.length : Int)) = false := decide_eq_false (by omega)
    have HE2 : Hid (E = if atomsE true (atomsOf r) ≠ 0 then atomsE true (atomsOf r) else if 5 < (varsL (atomsOf r)).length then 11 else if safeB r = false then 7 else if roleBad r = true then 8 else 0) := by unfold Hid; rw [HE.out, if_neg hlong]
    clear HE hlong
    have HRB := Lib.hid (show roleBad r = (decide (r.head.name = bRole) && (decide (0 < r.body.length) || match r.head.args with | x :: _ => decide (0 < x.args.length) || !nameB x.name | [] => false)) from rfl)
    have HA0 : Hid (∃ h : 0 < (atomsOf r).length, (atomsOf r)[0] = r.head) := ⟨by simp [atomsOf], by simp [atomsOf]⟩
    have hall := hO.all
    have hvars := fun (vv : Value) (wz : World) (hz : SlT (fun _ => True) wz vv (atomsOf r)) => vars_ (atomsOf r) (fun _ => True) vv wz hz hall.1 hall.2
    have hat := fun (t : Tm) (ht : t ∈ atomsOf r) (hq : Bool) (q : Nat → Prop) (v : Value) (wz : World) (hkz : KwAt wz) (hz : SlT q wz v t.args) => atom_ t hq q v wz B b hkz hz (hO.nice t ht) hO.B (hO.dep t ht)
    have HXN : Hid (∀ x, r.head.args = [x] → x.name.size ≤ maxLen) := fun x hx => by
      have h1 := hO.nice r.head (by simp [atomsOf])
      have h2 := hO.B
      cases hr : r.head with
      | mk n ags =>
        rw [hr] at hx h1
        simp only [Tm.args] at hx
        subst hx
        simp only [Nice, NiceL] at h1
        cases x with
        | mk m bs =>
          simp only [Nice] at h1
          have := h1.2.2.1.1
          simp only [Tm.name]; omega
    clear hall hb hO
    generalize hLdef : atomsOf r = L at *
    clear hLdef
    generalize varsL L = VN at *
    generalize safeB r = SB at *
    generalize roleBad r = RB at *
    generalize r.body.length = bl at *
    go_enter Tryz.func7, Tryz.ntmps7
    go_wp2_with (go_at_call 18; refine (hatoms _ hcA).mono ?_; rintro e w1 ⟨v1, rfl, hRT, hc1⟩; clear hatoms; obtain ⟨css, ho, htm⟩ := hRT; have hS : SlT (fun _ => True) w1 v1 L := ⟨css, ho.sl.weak (fun _ _ _ => trivial), htm.imp hc1.size (fun b hb hp => ⟨trivial, hc1.block b hb (by simp)⟩)⟩; obtain ⟨a1, c1, rfl, hlc1, hm1⟩ := hS.form; clear ho htm)
    unfold maxLen at hm1
    clear b0 b1 b2
    go_loopw [4, 5, 6, 16] (fun _ _ _ i wr => ∃ k : Nat, k ≤ L.length ∧ i = .int .i64 k ∧ Ch [] w1 wr ∧ Hid (∀ j (hj : j < L.length), j < k → atomE L[j] (decide (j = 0)) = 0)) (fun _ _ _ i _ => L.length - (intOf i).toNat)
    case atStart => exact ⟨0, Nat.zero_le _, rfl, Ch.refl _ _, fun j _ h => absurd h (Nat.not_lt_zero _)⟩
    case round =>
      obtain ⟨k, hk, rfl, hB, HN⟩ := hrel
      by_cases hlt : k < L.length
      · obtain ⟨b', o, a', c', rfl, hp, c0, c1', hT⟩ := (hS.ch0 hB).at_ hlt
        have e0 : ((k : Int) == 0) = decide (k = 0) := by rw [Bool.eq_iff_iff]; simp
        have hc := hat L[k] (List.getElem_mem hlt) (decide (k = 0))
        have HG := Lib.hid (show ∀ E1, atomE L[k] (decide (k = 0)) = E1 → E1 ≠ 0 → E = E1 from fun E1 h1 h2 => by
          have := atomsE_at L true k hlt (fun j hj => by rw [Bool.true_and]; exact HN.out j _ hj) (by rw [Bool.true_and, h1]; exact h2)
          rw [Bool.true_and, h1] at this
          rw [HE2.out, this, if_pos h2])
        have HG0 := Lib.hid (show atomE L[k] (decide (k = 0)) = 0 → ∀ j (hj : j < L.length), j < k + 1 → atomE L[j] (decide (j = 0)) = 0 from fun h0 j hj h1 => by
          rcases Nat.lt_succ_iff_lt_or_eq.1 h1 with h2 | h2
          · exact HN.out j hj h2
          · subst h2; exact h0)
        clear hat
        generalize decide (k = 0) = hq at *
        generalize L[k] = x at *
        have hbn := Blk.new wr 28 #[.string x.name, .slice a' x.args.length c']
        have b10 := hbn.cell 0
        have b11 := hbn.cell 1
        have hcN : Ch [] wr (wr.alloc (.cells #[.string x.name, .slice a' x.args.length c'] 28)) := (Ch.refl _ _).alloc _
        have hc := hc _ _ _ (hK.ch (((hcA.trans hc1).trans hB).trans hcN)) (hT.ch0 hcN)
        clear hT
        generalize hE1 : atomE x hq = E1 at *
        by_cases hz : E1 = 0
        · subst hz
          have HX := Lib.hid (HG0.out rfl)
          clear hE1
          go_wp2_with (go_at_call 19; refine hc.mono ?_; rintro e w2 ⟨rfl, hc2⟩; clear hc)
          go_roundw
          case rel => exact ⟨k + 1, by omega, by go_num, (hB.trans hcN).trans hc2, HX⟩
          case measure => simp [intOf]; omega
        · have e1 : (E1 != 0) = true := by simpa using hz
          have HX := Lib.hid (HG.out E1 rfl hz)
          clear hE1 hz
          go_wp2_with (go_at_call 19; refine hc.mono ?_; rintro e w2 ⟨rfl, hc2⟩; clear hc)
          go_ret
          exact ⟨by rw [HX.out]; rfl, ((hcA.trans hc1).trans hB).trans (hcN.trans hc2)⟩
      · have HZ := Lib.hid (atomsE_none L true (fun j hj => by rw [Bool.true_and]; exact HN.out j hj (by omega)))
        have HH0 : Hid (atomE r.head true = 0) := by
          obtain ⟨h0, e⟩ := HA0.out
          have := HN.out 0 h0 (by omega)
          rw [e] at this; unfold Hid; simpa using this
        have HE3 : Hid (E = if 5 < VN.length then 11 else if SB = false then 7 else if RB = true then 8 else 0) := by unfold Hid; rw [HE2.out, HZ.out, if_neg (by simp)]
        clear HE2 HZ HN hat HA0
        have hB1 := hc1.trans hB
        have hBW := hcA.trans hB1
        have hv := hvars (.slice a1 L.length c1) wr (hS.ch0 hB)
        have hsf := fun wz (hz : Ch [] wA wz) => hsafe wz (hcA.trans hz)
        clear hvars hsafe hS hwA
        by_cases h5 : 5 < VN.length
        · have d5 : decide ((5 : Int) < (VN.length : Int)) = true := decide_eq_true (by omega)
          have HX : Hid (E = 11) := by unfold Hid; rw [HE3.out, if_pos h5]
          clear h5
          go_wp2_with (go_at_call 20; refine hv.mono ?_; rintro e w2 ⟨v2, rfl, ho2, hc2⟩; clear hv; obtain ⟨a2, c2, e2⟩ := ho2.form'; rw [List.length_map] at e2; subst e2; have p0 := hbc _ (hB1.trans hc2) 0; have p1 := hbc _ (hB1.trans hc2) 1; have p2 := hbc _ (hB1.trans hc2) 2)
          go_ret
          exact ⟨by rw [HX.out]; rfl, hBW.trans hc2⟩
        · have d5 : decide ((5 : Int) < (VN.length : Int)) = false := decide_eq_false (by omega)
          have HE4 : Hid (E = if SB = false then 7 else if RB = true then 8 else 0) := by unfold Hid; rw [HE3.out, if_neg h5]
          clear h5 HE3
          cases SB with
          | false =>
            have HX : Hid (E = 7) := by unfold Hid; rw [HE4.out, if_pos rfl]
            go_wp2_with (first | (go_at_call 20; refine hv.mono ?_; rintro e w2 ⟨v2, rfl, ho2, hc2⟩; clear hv; obtain ⟨a2, c2, e2⟩ := ho2.form'; rw [List.length_map] at e2; subst e2; have p0 := hbc _ (hB1.trans hc2) 0; have p1 := hbc _ (hB1.trans hc2) 1; have p2 := hbc _ (hB1.trans hc2) 2) | (go_at_call 21; refine (hsf _ (hB1.trans hc2)).mono ?_; rintro e w3 ⟨rfl, hc3⟩; clear hsf p0 p1 p2; have q0 := hbc _ ((hB1.trans hc2).trans hc3) 0; have q1 := hbc _ ((hB1.trans hc2).trans hc3) 1; have q2 := hbc _ ((hB1.trans hc2).trans hc3) 2))
            go_ret
            exact ⟨by rw [HX.out]; rfl, (hBW.trans hc2).trans hc3⟩
          | true =>
            have HE5 : Hid (E = if RB = true then 8 else 0) := by unfold Hid; rw [HE4.out, if_neg (by simp)]
            clear HE4
            by_cases hn : r.head.name = bRole
            · obtain ⟨x, hx⟩ := role_args HH0.out hn
              have hxs := HXN.out x hx
              have er : (r.head.name.toList == [114, 111, 108, 101]) = true := by rw [role_eq]; exact decide_eq_true hn
              have HE6 : Hid (E = if (decide (0 < bl) || (decide (0 < x.args.length) || !nameB x.name)) = true then 8 else 0) := by
                unfold Hid
                rw [HE5.out, HRB.out, hx, decide_eq_true hn, Bool.true_and]
              have hal1 : al = 1 := by rw [← hal, hx]; rfl
              rw [hx] at hh
              subst hal1
              obtain ⟨bx, ox, ax, cx, rfl, hpx, x0, x1, _⟩ := hh.at_ (i := 0) (by simp)
              simp only [Nat.zero_mul, Nat.add_zero, List.getElem_cons_zero] at x0 x1
              have hnx := fun wz => name_ x.name wz hxs
              clear hn hal hx hxs HRB HH0 HXN HE5 hh
              generalize r.head.name = nm at *
              generalize x.name = xn at *
              generalize x.args.length = xl at *
              generalize nameB xn = nb at *
              have hxc := fun wz (hz : Ch [] w wz) => cell_ch x0 hz (by simp)
              have hxc1 := fun wz (hz : Ch [] w wz) => cell_ch x1 hz (by simp)
              have hX := fun wz => Blk.new wz 28 #[.string xn, .slice ax xl cx]
              have hCX := fun wz => (Ch.refl [] wz).alloc (.cells #[.string xn, .slice ax xl cx] 28)
              rcases Nat.eq_zero_or_pos bl with hb0 | hb0
              · rcases Nat.eq_zero_or_pos xl with hx0 | hx0
                · cases nb with
                  | false =>
                    have HX : Hid (E = 8) := by unfold Hid; rw [HE6.out, if_pos (by simp)]
                    clear HE6
                    subst hb0 hx0
                    go_wp2_with (first | (go_at_call 20; refine hv.mono ?_; rintro e w2 ⟨v2, rfl, ho2, hc2⟩; clear hv; obtain ⟨a2, c2, e2⟩ := ho2.form'; rw [List.length_map] at e2; subst e2; have p0 := hbc _ (hB1.trans hc2) 0; have p1 := hbc _ (hB1.trans hc2) 1; have p2 := hbc _ (hB1.trans hc2) 2) | (go_at_call 21; refine (hsf _ (hB1.trans hc2)).mono ?_; rintro e w3 ⟨rfl, hc3⟩; clear hsf p0 p1 p2; have q0 := hbc _ ((hB1.trans hc2).trans hc3) 0; have q1 := hbc _ ((hB1.trans hc2).trans hc3) 1; have q2 := hbc _ ((hB1.trans hc2).trans hc3) 2; have hcw := ((hB1.trans hc2).trans hc3).trans (hCX w3); have x0 := hxc _ (hcA.trans ((hB1.trans hc2).trans hc3)); have x1 := hxc1 _ (hcA.trans ((hB1.trans hc2).trans hc3)); have y0 := (hX w3).cell 0; have y1 := (hX w3).cell 1; have z1 := hbc _ hcw 1; have z2 := hbc _ hcw 2) | (go_at_call 22; refine (hnx _).mono ?_; rintro e w5 ⟨rfl, hc5⟩))
                    go_ret
                    exact ⟨by rw [HX.out]; rfl, (hcA.trans hcw).trans hc5⟩
                  | true =>
                    have HX : Hid (E = 0) := by unfold Hid; rw [HE6.out, hb0, hx0, if_neg (by simp)]
                    clear HE6
                    subst hb0 hx0
                    go_wp2_with (first | (go_at_call 20; refine hv.mono ?_; rintro e w2 ⟨v2, rfl, ho2, hc2⟩; clear hv; obtain ⟨a2, c2, e2⟩ := ho2.form'; rw [List.length_map] at e2; subst e2; have p0 := hbc _ (hB1.trans hc2) 0; have p1 := hbc _ (hB1.trans hc2) 1; have p2 := hbc _ (hB1.trans hc2) 2) | (go_at_call 21; refine (hsf _ (hB1.trans hc2)).mono ?_; rintro e w3 ⟨rfl, hc3⟩; clear hsf p0 p1 p2; have q0 := hbc _ ((hB1.trans hc2).trans hc3) 0; have q1 := hbc _ ((hB1.trans hc2).trans hc3) 1; have q2 := hbc _ ((hB1.trans hc2).trans hc3) 2; have hcw := ((hB1.trans hc2).trans hc3).trans (hCX w3); have x0 := hxc _ (hcA.trans ((hB1.trans hc2).trans hc3)); have x1 := hxc1 _ (hcA.trans ((hB1.trans hc2).trans hc3)); have y0 := (hX w3).cell 0; have y1 := (hX w3).cell 1; have z1 := hbc _ hcw 1; have z2 := hbc _ hcw 2) | (go_at_call 22; refine (hnx _).mono ?_; rintro e w5 ⟨rfl, hc5⟩))
                    go_ret
                    exact ⟨by rw [HX.out]; rfl, (hcA.trans hcw).trans hc5⟩
                · have HX : Hid (E = 8) := by unfold Hid; rw [HE6.out, if_pos (by simp [hx0])]
                  have d7 : decide ((0 : Int) < (xl : Int)) = true := decide_eq_true (by omega)
                  have d8 : decide (0 < xl) = true := decide_eq_true hx0
                  clear HE6
                  subst hb0
                  go_wp2_with (first | (go_at_call 20; refine hv.mono ?_; rintro e w2 ⟨v2, rfl, ho2, hc2⟩; clear hv; obtain ⟨a2, c2, e2⟩ := ho2.form'; rw [List.length_map] at e2; subst e2; have p0 := hbc _ (hB1.trans hc2) 0; have p1 := hbc _ (hB1.trans hc2) 1; have p2 := hbc _ (hB1.trans hc2) 2) | (go_at_call 21; refine (hsf _ (hB1.trans hc2)).mono ?_; rintro e w3 ⟨rfl, hc3⟩; clear hsf p0 p1 p2; have q0 := hbc _ ((hB1.trans hc2).trans hc3) 0; have q1 := hbc _ ((hB1.trans hc2).trans hc3) 1; have q2 := hbc _ ((hB1.trans hc2).trans hc3) 2; have hcw := ((hB1.trans hc2).trans hc3).trans (hCX w3); have x0 := hxc _ (hcA.trans ((hB1.trans hc2).trans hc3)); have x1 := hxc1 _ (hcA.trans ((hB1.trans hc2).trans hc3)); have y0 := (hX w3).cell 0; have y1 := (hX w3).cell 1; have z1 := hbc _ hcw 1; have z2 := hbc _ hcw 2))
                  go_ret
                  exact ⟨by rw [HX.out]; rfl, hcA.trans hcw⟩
              · have HX : Hid (E = 8) := by unfold Hid; rw [HE6.out, if_pos (by simp [hb0])]
                have d7 : decide ((0 : Int) < (bl : Int)) = true := decide_eq_true (by omega)
                have d8 : decide (0 < bl) = true := decide_eq_true hb0
                clear HE6
                go_wp2_with (first | (go_at_call 20; refine hv.mono ?_; rintro e w2 ⟨v2, rfl, ho2, hc2⟩; clear hv; obtain ⟨a2, c2, e2⟩ := ho2.form'; rw [List.length_map] at e2; subst e2; have p0 := hbc _ (hB1.trans hc2) 0; have p1 := hbc _ (hB1.trans hc2) 1; have p2 := hbc _ (hB1.trans hc2) 2) | (go_at_call 21; refine (hsf _ (hB1.trans hc2)).mono ?_; rintro e w3 ⟨rfl, hc3⟩; clear hsf p0 p1 p2; have q0 := hbc _ ((hB1.trans hc2).trans hc3) 0; have q1 := hbc _ ((hB1.trans hc2).trans hc3) 1; have q2 := hbc _ ((hB1.trans hc2).trans hc3) 2; have hcw := ((hB1.trans hc2).trans hc3).trans (hCX w3); have x0 := hxc _ (hcA.trans ((hB1.trans hc2).trans hc3)); have x1 := hxc1 _ (hcA.trans ((hB1.trans hc2).trans hc3)); have y0 := (hX w3).cell 0; have y1 := (hX w3).cell 1; have z1 := hbc _ hcw 1; have z2 := hbc _ hcw 2))
                go_ret
                exact ⟨by rw [HX.out]; rfl, hcA.trans hcw⟩
            · have er : (r.head.name.toList == [114, 111, 108, 101]) = false := by rw [role_eq]; exact decide_eq_false hn
              have HX : Hid (E = 0) := by unfold Hid; rw [HE5.out, HRB.out, decide_eq_false hn, if_neg (by simp)]
              clear hn HRB HH0 HXN HE5 hh hal
              generalize r.head.name = nm at *
              go_wp2_with (first | (go_at_call 20; refine hv.mono ?_; rintro e w2 ⟨v2, rfl, ho2, hc2⟩; clear hv; obtain ⟨a2, c2, e2⟩ := ho2.form'; rw [List.length_map] at e2; subst e2; have p0 := hbc _ (hB1.trans hc2) 0; have p1 := hbc _ (hB1.trans hc2) 1; have p2 := hbc _ (hB1.trans hc2) 2) | (go_at_call 21; refine (hsf _ (hB1.trans hc2)).mono ?_; rintro e w3 ⟨rfl, hc3⟩; clear hsf p0 p1 p2; have q0 := hbc _ ((hB1.trans hc2).trans hc3) 0; have q1 := hbc _ ((hB1.trans hc2).trans hc3) 1; have q2 := hbc _ ((hB1.trans hc2).trans hc3) 2))
              go_ret
              exact ⟨by rw [HX.out]; rfl, (hBW.trans hc2).trans hc3⟩
end Go.Proofs.YtgljjapglgcpdaaGreatDoor
