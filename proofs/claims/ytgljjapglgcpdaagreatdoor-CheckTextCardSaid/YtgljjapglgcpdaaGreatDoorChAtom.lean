
/-
  The contract of check.atom.
-/
import Derived.Test.YtgljjapglgcpdaaGreatDoorChFind
namespace Go.Proofs.YtgljjapglgcpdaaGreatDoor
open Go.RowKit

set_option maxRecDepth 100000 in
set_option maxHeartbeats 40000000 in
theorem atom_ (t : Tm) (hd : Bool) (p : Nat → Prop) (v : Value) (w : World) (B b : Nat) (hK : KwAt w) (h : SlT p w v t.args) (hN : Nice B b t) (hBm : B ≤ maxLen) (hdm : t.dep ≤ 1000000000) :
    Calls Tryz.prog 19 #[.agg #[.string t.name, v], .bool hd] w fun e w' => e = .returned (.int .i64 (atomE t hd)) ∧ Ch [] w w' := by
  obtain ⟨a, c, rfl, hlc, hmx⟩ := h.form
  unfold maxLen at hmx
  have hnm : t.name.size ≤ maxLen := by
    obtain ⟨nm, ags⟩ := t
    simp only [Nice] at hN
    have := hN.1
    simp only [Tm.name]; omega
  have hbx := Blk.new w 28 #[.string t.name, .slice a t.args.length c]
  have hcA : Ch [] w (w.alloc (.cells #[.string t.name, .slice a t.args.length c] 28)) := (Ch.refl _ _).alloc _
  have hname := fun wz => name_ t.name wz hnm
  have hmis := fun wz (hz : Ch [] w wz) => misnamed_ t.dep t (Nat.le_refl _) p (.slice a t.args.length c) wz B b (h.ch0 hz) hN hBm
  have hwid := fun wz (hz : Ch [] w wz) => wide_ t.dep t (Nat.le_refl _) p (.slice a t.args.length c) wz (h.ch0 hz)
  have hdep := fun wz (hz : Ch [] w wz) => depth_ t.dep t (Nat.le_refl _) p (.slice a t.args.length c) wz (h.ch0 hz) hdm
  have hfin := fun wz (hz : Ch [] w wz) => find_ t.name wz (hK.ch hz)
  generalize hE : atomE t hd = E at *
  unfold atomE at hE
  have HE := Lib.hid hE.symm
  clear hE
  generalize hwA : (w.alloc (.cells #[.string t.name, .slice a t.args.length c] 28)) = wA at *
  have b0 := hbx.cell 0
  have b1 := hbx.cell 1
  have hb0 := fun wz (hz : Ch [] wA wz) => (hbx.ch hz (by simp)).cell 0
  have hb1 := fun wz (hz : Ch [] wA wz) => (hbx.ch hz (by simp)).cell 1
  generalize nameB t.name = x1 at *
  generalize misT t = x2 at *
  generalize wideT t = x3 at *
  generalize kwOf t.name = ko at *
  clear hN hBm h
  generalize t.dep = D at *
  generalize t.name = nm at *
  generalize t.args.length = L at *
  rcases Nat.lt_or_ge 4 D with hD | hD
  · have HD := Lib.hid hD
    have e5 : decide ((4 : Int) < (D : Int)) = true := decide_eq_true (by omega)
    clear hD
    cases ko with
    | none =>
      have HQ := Lib.hid trivial
      have hKK := fun wz => Blk.new wz 81 #[.string ⟨#[]⟩, .int .i64 0, .bool false, .bool false]
      have hCK := fun wz => (Ch.refl [] wz).alloc (.cells #[.string ⟨#[]⟩, .int .i64 0, .bool false, .bool false] 81)
      cases x1 <;> cases x2 <;> cases x3
      all_goals
          go_enter Tryz.func19, Tryz.ntmps19
          go_wp2_with (first
            | (go_at_call 22; refine (hname _).mono ?_; rintro e w1 ⟨rfl, hc1⟩; have p10 := hb0 _ hc1; have p11 := hb1 _ hc1)
            | (go_at_call 50; refine (hmis _ (hcA.trans hc1)).mono ?_; rintro e w2 ⟨rfl, hc2⟩; have p20 := hb0 _ (hc1.trans hc2); have p21 := hb1 _ (hc1.trans hc2))
            | (go_at_call 39; refine (hfin _ ((hcA.trans hc1).trans hc2)).mono ?_; rintro e w3 ⟨rfl, hc3⟩; simp only [kwV]; have hk3 := hKK w3; have hcK := ((hc1.trans hc2).trans hc3).trans (hCK w3); have p30 := hb0 _ hcK; have p31 := hb1 _ hcK)
            | (go_at_call 51; refine (hwid _ (hcA.trans hcK)).mono ?_; rintro e w4 ⟨rfl, hc4⟩; have q41 := (hk3.ch hc4 (by simp)).cell 1; have q42 := (hk3.ch hc4 (by simp)).cell 2; have q43 := (hk3.ch hc4 (by simp)).cell 3; have p40 := hb0 _ (hcK.trans hc4); have p41 := hb1 _ (hcK.trans hc4))
            | (go_at_call 52; refine (hdep _ (hcA.trans (hcK.trans hc4))).mono ?_; rintro e w5 ⟨rfl, hc5⟩; have q52 := ((hk3.ch hc4 (by simp)).ch hc5 (by simp)).cell 2; have q53 := ((hk3.ch hc4 (by simp)).ch hc5 (by simp)).cell 3))
          go_ret
          refine ⟨by rw [HE.out]; simp [HD.out], ?_⟩
          first | exact (hcA.trans (hcK.trans hc4)).trans hc5 | exact hcA.trans (hcK.trans hc4) | exact (hcA.trans hc1).trans hc2 | exact hcA.trans hc1
    | some k =>
      obtain ⟨kn, ka, kh, kb⟩ := k
      have hKK := fun wz => Blk.new wz 81 #[.string kn, .int .i64 ka, .bool kh, .bool kb]
      have hCK := fun wz => (Ch.refl [] wz).alloc (.cells #[.string kn, .int .i64 ka, .bool kh, .bool kb] 81)
      by_cases hq : L = ka
      · have e6 : ((L : Int) != (ka : Int)) = false := by rw [hq]; simp
        have HQ := Lib.hid hq
        clear hq
        cases x1 <;> cases x2 <;> cases x3 <;> cases hd <;> cases kh <;> cases kb
        all_goals
          go_enter Tryz.func19, Tryz.ntmps19
          go_wp2_with (first
            | (go_at_call 22; refine (hname _).mono ?_; rintro e w1 ⟨rfl, hc1⟩; have p10 := hb0 _ hc1; have p11 := hb1 _ hc1)
            | (go_at_call 50; refine (hmis _ (hcA.trans hc1)).mono ?_; rintro e w2 ⟨rfl, hc2⟩; have p20 := hb0 _ (hc1.trans hc2); have p21 := hb1 _ (hc1.trans hc2))
            | (go_at_call 39; refine (hfin _ ((hcA.trans hc1).trans hc2)).mono ?_; rintro e w3 ⟨rfl, hc3⟩; simp only [kwV]; have hk3 := hKK w3; have hcK := ((hc1.trans hc2).trans hc3).trans (hCK w3); have p30 := hb0 _ hcK; have p31 := hb1 _ hcK)
            | (go_at_call 51; refine (hwid _ (hcA.trans hcK)).mono ?_; rintro e w4 ⟨rfl, hc4⟩; have q41 := (hk3.ch hc4 (by simp)).cell 1; have q42 := (hk3.ch hc4 (by simp)).cell 2; have q43 := (hk3.ch hc4 (by simp)).cell 3; have p40 := hb0 _ (hcK.trans hc4); have p41 := hb1 _ (hcK.trans hc4))
            | (go_at_call 52; refine (hdep _ (hcA.trans (hcK.trans hc4))).mono ?_; rintro e w5 ⟨rfl, hc5⟩; have q52 := ((hk3.ch hc4 (by simp)).ch hc5 (by simp)).cell 2; have q53 := ((hk3.ch hc4 (by simp)).ch hc5 (by simp)).cell 3))
          go_ret
          refine ⟨by rw [HE.out]; simp [HD.out, HQ.out], ?_⟩
          first | exact (hcA.trans (hcK.trans hc4)).trans hc5 | exact hcA.trans (hcK.trans hc4) | exact (hcA.trans hc1).trans hc2 | exact hcA.trans hc1
      · have e6 : ((L : Int) != (ka : Int)) = true := by rw [bne_iff_ne]; omega
        have HQ := Lib.hid hq
        clear hq
        cases x1 <;> cases x2 <;> cases x3
        all_goals
          go_enter Tryz.func19, Tryz.ntmps19
          go_wp2_with (first
            | (go_at_call 22; refine (hname _).mono ?_; rintro e w1 ⟨rfl, hc1⟩; have p10 := hb0 _ hc1; have p11 := hb1 _ hc1)
            | (go_at_call 50; refine (hmis _ (hcA.trans hc1)).mono ?_; rintro e w2 ⟨rfl, hc2⟩; have p20 := hb0 _ (hc1.trans hc2); have p21 := hb1 _ (hc1.trans hc2))
            | (go_at_call 39; refine (hfin _ ((hcA.trans hc1).trans hc2)).mono ?_; rintro e w3 ⟨rfl, hc3⟩; simp only [kwV]; have hk3 := hKK w3; have hcK := ((hc1.trans hc2).trans hc3).trans (hCK w3); have p30 := hb0 _ hcK; have p31 := hb1 _ hcK)
            | (go_at_call 51; refine (hwid _ (hcA.trans hcK)).mono ?_; rintro e w4 ⟨rfl, hc4⟩; have q41 := (hk3.ch hc4 (by simp)).cell 1; have q42 := (hk3.ch hc4 (by simp)).cell 2; have q43 := (hk3.ch hc4 (by simp)).cell 3; have p40 := hb0 _ (hcK.trans hc4); have p41 := hb1 _ (hcK.trans hc4))
            | (go_at_call 52; refine (hdep _ (hcA.trans (hcK.trans hc4))).mono ?_; rintro e w5 ⟨rfl, hc5⟩; have q52 := ((hk3.ch hc4 (by simp)).ch hc5 (by simp)).cell 2; have q53 := ((hk3.ch hc4 (by simp)).ch hc5 (by simp)).cell 3))
          go_ret
          refine ⟨by rw [HE.out]; simp [HQ.out], ?_⟩
          first | exact (hcA.trans (hcK.trans hc4)).trans hc5 | exact hcA.trans (hcK.trans hc4) | exact (hcA.trans hc1).trans hc2 | exact hcA.trans hc1
  · have HD := Lib.hid (Nat.not_lt.2 hD)
    have e5 : decide ((4 : Int) < (D : Int)) = false := decide_eq_false (by omega)
    clear hD
    cases ko with
    | none =>
      have HQ := Lib.hid trivial
      have hKK := fun wz => Blk.new wz 81 #[.string ⟨#[]⟩, .int .i64 0, .bool false, .bool false]
      have hCK := fun wz => (Ch.refl [] wz).alloc (.cells #[.string ⟨#[]⟩, .int .i64 0, .bool false, .bool false] 81)
      cases x1 <;> cases x2 <;> cases x3
      all_goals
          go_enter Tryz.func19, Tryz.ntmps19
          go_wp2_with (first
            | (go_at_call 22; refine (hname _).mono ?_; rintro e w1 ⟨rfl, hc1⟩; have p10 := hb0 _ hc1; have p11 := hb1 _ hc1)
            | (go_at_call 50; refine (hmis _ (hcA.trans hc1)).mono ?_; rintro e w2 ⟨rfl, hc2⟩; have p20 := hb0 _ (hc1.trans hc2); have p21 := hb1 _ (hc1.trans hc2))
            | (go_at_call 39; refine (hfin _ ((hcA.trans hc1).trans hc2)).mono ?_; rintro e w3 ⟨rfl, hc3⟩; simp only [kwV]; have hk3 := hKK w3; have hcK := ((hc1.trans hc2).trans hc3).trans (hCK w3); have p30 := hb0 _ hcK; have p31 := hb1 _ hcK)
            | (go_at_call 51; refine (hwid _ (hcA.trans hcK)).mono ?_; rintro e w4 ⟨rfl, hc4⟩; have q41 := (hk3.ch hc4 (by simp)).cell 1; have q42 := (hk3.ch hc4 (by simp)).cell 2; have q43 := (hk3.ch hc4 (by simp)).cell 3; have p40 := hb0 _ (hcK.trans hc4); have p41 := hb1 _ (hcK.trans hc4))
            | (go_at_call 52; refine (hdep _ (hcA.trans (hcK.trans hc4))).mono ?_; rintro e w5 ⟨rfl, hc5⟩; have q52 := ((hk3.ch hc4 (by simp)).ch hc5 (by simp)).cell 2; have q53 := ((hk3.ch hc4 (by simp)).ch hc5 (by simp)).cell 3))
          go_ret
          refine ⟨by rw [HE.out]; simp [HD.out], ?_⟩
          first | exact (hcA.trans (hcK.trans hc4)).trans hc5 | exact hcA.trans (hcK.trans hc4) | exact (hcA.trans hc1).trans hc2 | exact hcA.trans hc1
    | some k =>
      obtain ⟨kn, ka, kh, kb⟩ := k
      have hKK := fun wz => Blk.new wz 81 #[.string kn, .int .i64 ka, .bool kh, .bool kb]
      have hCK := fun wz => (Ch.refl [] wz).alloc (.cells #[.string kn, .int .i64 ka, .bool kh, .bool kb] 81)
      by_cases hq : L = ka
      · have e6 : ((L : Int) != (ka : Int)) = false := by rw [hq]; simp
        have HQ := Lib.hid hq
        clear hq
        cases x1 <;> cases x2 <;> cases x3 <;> cases hd <;> cases kh <;> cases kb
        all_goals
          go_enter Tryz.func19, Tryz.ntmps19
          go_wp2_with (first
            | (go_at_call 22; refine (hname _).mono ?_; rintro e w1 ⟨rfl, hc1⟩; have p10 := hb0 _ hc1; have p11 := hb1 _ hc1)
            | (go_at_call 50; refine (hmis _ (hcA.trans hc1)).mono ?_; rintro e w2 ⟨rfl, hc2⟩; have p20 := hb0 _ (hc1.trans hc2); have p21 := hb1 _ (hc1.trans hc2))
            | (go_at_call 39; refine (hfin _ ((hcA.trans hc1).trans hc2)).mono ?_; rintro e w3 ⟨rfl, hc3⟩; simp only [kwV]; have hk3 := hKK w3; have hcK := ((hc1.trans hc2).trans hc3).trans (hCK w3); have p30 := hb0 _ hcK; have p31 := hb1 _ hcK)
            | (go_at_call 51; refine (hwid _ (hcA.trans hcK)).mono ?_; rintro e w4 ⟨rfl, hc4⟩; have q41 := (hk3.ch hc4 (by simp)).cell 1; have q42 := (hk3.ch hc4 (by simp)).cell 2; have q43 := (hk3.ch hc4 (by simp)).cell 3; have p40 := hb0 _ (hcK.trans hc4); have p41 := hb1 _ (hcK.trans hc4))
            | (go_at_call 52; refine (hdep _ (hcA.trans (hcK.trans hc4))).mono ?_; rintro e w5 ⟨rfl, hc5⟩; have q52 := ((hk3.ch hc4 (by simp)).ch hc5 (by simp)).cell 2; have q53 := ((hk3.ch hc4 (by simp)).ch hc5 (by simp)).cell 3))
          go_ret
          refine ⟨by rw [HE.out]; simp [HD.out, HQ.out], ?_⟩
          first | exact (hcA.trans (hcK.trans hc4)).trans hc5 | exact hcA.trans (hcK.trans hc4) | exact (hcA.trans hc1).trans hc2 | exact hcA.trans hc1
      · have e6 : ((L : Int) != (ka : Int)) = true := by rw [bne_iff_ne]; omega
        have HQ := Lib.hid hq
        clear hq
        cases x1 <;> cases x2 <;> cases x3
        all_goals
          go_enter Tryz.func19, Tryz.ntmps19
          go_wp2_with (first
            | (go_at_call 22; refine (hname _).mono ?_; rintro e w1 ⟨rfl, hc1⟩; have p10 := hb0 _ hc1; have p11 := hb1 _ hc1)
            | (go_at_call 50; refine (hmis _ (hcA.trans hc1)).mono ?_; rintro e w2 ⟨rfl, hc2⟩; have p20 := hb0 _ (hc1.trans hc2); have p21 := hb1 _ (hc1.trans hc2))
            | (go_at_call 39; refine (hfin _ ((hcA.trans hc1).trans hc2)).mono ?_; rintro e w3 ⟨rfl, hc3⟩; simp only [kwV]; have hk3 := hKK w3; have hcK := ((hc1.trans hc2).trans hc3).trans (hCK w3); have p30 := hb0 _ hcK; have p31 := hb1 _ hcK)
            | (go_at_call 51; refine (hwid _ (hcA.trans hcK)).mono ?_; rintro e w4 ⟨rfl, hc4⟩; have q41 := (hk3.ch hc4 (by simp)).cell 1; have q42 := (hk3.ch hc4 (by simp)).cell 2; have q43 := (hk3.ch hc4 (by simp)).cell 3; have p40 := hb0 _ (hcK.trans hc4); have p41 := hb1 _ (hcK.trans hc4))
            | (go_at_call 52; refine (hdep _ (hcA.trans (hcK.trans hc4))).mono ?_; rintro e w5 ⟨rfl, hc5⟩; have q52 := ((hk3.ch hc4 (by simp)).ch hc5 (by simp)).cell 2; have q53 := ((hk3.ch hc4 (by simp)).ch hc5 (by simp)).cell 3))
          go_ret
          refine ⟨by rw [HE.out]; simp [HQ.out], ?_⟩
          first | exact (hcA.trans (hcK.trans hc4)).trans hc5 | exact hcA.trans (hcK.trans hc4) | exact (hcA.trans hc1).trans hc2 | exact hcA.trans hc1
end Go.Proofs.YtgljjapglgcpdaaGreatDoor
