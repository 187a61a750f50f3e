
/-
  The contracts of the reference's Roles, Chance, Hidden (of layer 11).
-/
import Derived.Test.YtbongbknciibiaaGreatDoorChFew
import Derived.Test.YtbongbknciibiaaGreatDoorSmEq
namespace Go.Proofs.YtbongbknciibiaaGreatDoor
open Go.RowKit

theorem chance_eq' (s : ByteArray) : (s.toList == [99, 104, 97, 110, 99, 101]) = decide (s = bChance) := chance_eq s
theorem memT_snoc (o : List Tm) (k : Nat) (h : k < o.length) (x : Tm) : (o.take (k + 1)).any (fun u => tmEq u x) = ((o.take k).any (fun u => tmEq u x) || tmEq o[k] x) := by
  rw [take_snoc o k h, List.any_append]; simp

set_option maxRecDepth 100000 in
set_option maxHeartbeats 8000000 in
theorem refRoles_ (p : Nat → Prop) (v : Value) (l : List Ru) (w : World) (B b : Nat) (h : SlR p w v l) (hO : ∀ r ∈ l, RuOk B b r) (hlen : l.length ≤ 1000000) :
    Calls Tryz.prog 20 #[v] w fun e w' => ∃ v', e = .returned v' ∧ SlT (fun _ => True) w' v' (rolesOf l) ∧ Ch [] w w' := by
  obtain ⟨a, c, rfl, hlc, hm⟩ := h.form
  unfold maxLen at hm
  have HO := Lib.hid hO; clear hO
  have h0 : SlR (fun x => p x ∧ x < w.heap.size) w (.slice a l.length c) l := h.weak fun x hx hp => ⟨hp, hx⟩
  clear h
  go_enter Tryz.func20, Tryz.ntmps20
  go_wp2
  go_loopw [3, 4, 5, 6] (fun ov i _ _ wr => ∃ (k : Nat) (css : List (List Value)), k ≤ l.length ∧ i = .int .i64 k ∧ Ch [] w wr ∧ Own wr w.heap.size 28 2 ov css ∧ TmsR (fun x => p x ∧ x < w.heap.size) w (rolesOf (l.take k)) css) (fun _ i _ _ _ => l.length - (intOf i).toNat)
  case atStart => exact ⟨0, [], Nat.zero_le _, rfl, Ch.refl _ _, Own.nil _ _ _ _, by simp [TmsR, rolesOf]⟩
  case round =>
    obtain ⟨k, css, hk, rfl, hB, hown, htm⟩ := hrel
    by_cases hlt : k < l.length
    · obtain ⟨bb, o, a', c', a'', c'', rfl, hp, c0, c1, c2, hT, hL⟩ := h0.at_ hlt
      have c0 := cell_ch c0 hB (by simp)
      have c1 := cell_ch c1 hB (by simp)
      have c2 := cell_ch c2 hB (by simp)
      have HST := Lib.hid (rolesOf_snoc l k hlt)
      have hOk := HO.out _ (List.getElem_mem hlt)
      have hol : (rolesOf (l.take k)).length ≤ k := by have := rolesOf_len (l.take k); rw [List.length_take] at this; omega
      have j1 : decide (k < l.length) = true := decide_eq_true hlt
      have i1 : (k : Int) < (l.length : Int) := by omega
      clear hL hp
      generalize l[k] = r at *
      generalize rolesOf (l.take k) = L0 at *
      have HMT := Lib.hid (show ∀ x, memT L0 x = L0.any (fun u => tmEq u x) from fun _ => rfl)
      have er := role_ne r.head.name
      have er2 := role_eq r.head.name
      by_cases hq1 : r.head.name = bRole
      · rw [decide_eq_true hq1] at er er2
        by_cases hq2 : r.head.args.length = 1
        · obtain ⟨x, hx⟩ := List.length_eq_one_iff.1 hq2
          by_cases hq3 : r.body.length = 0
          · have HX0 : Hid (rolesOf (l.take (k + 1)) = if memT L0 x = true then L0 else L0 ++ [x]) := by unfold Hid; rw [HST.out, stepRole_yes hq1 hx hq3]
            rw [hx] at hT
            rw [hq2] at c1
            rw [hq3] at c2
            have hT : SlT (fun y => p y ∧ y < w.heap.size) w (.slice a' 1 c') [x] := hT
            obtain ⟨bx, ox, ax, cx, rfl, hpx, x0, x1, hTx⟩ := hT.at_ (i := 0) (by simp)
            simp only [Nat.zero_mul, Nat.add_zero, List.getElem_cons_zero] at x0 x1 hTx
            have hRx := TmR.of hTx
            have x0 := cell_ch x0 hB (by simp)
            have x1 := cell_ch x1 hB (by simp)
            clear hq1 hq2 hq3 hx HST hOk hT HO
            have hSL : SlT (fun _ => True) wr u3 L0 := ⟨css, hown.sl.weak (fun _ _ _ => trivial), TmsR.imp hB.size (fun y hy hp => ⟨trivial, hB.block y hy (by simp)⟩) htm⟩
            have hcsl : css.length = L0.length := htm.len
            have HCL := Lib.hid hcsl; clear hcsl
            obtain ⟨a3, c3, rfl, hl3, hm3⟩ := hSL.form
            unfold maxLen at hm3
            have HMX := Lib.hid (HMT.out x)
            generalize memT L0 x = mq at *
            have hszB := hB.size
            have HLV := Lib.hid (show ∀ g, (Value.slice a3 L0.length c3).ownBlock = some g → w.heap.size ≤ g ∧ g < wr.heap.size from fun g hg => hown.lt hg)
            go_wp2
            obtain ⟨wo, rfl⟩ : ∃ wo : World, wo = wr := ⟨_, rfl⟩
            go_loopw [5, 6] (fun q i wq => ∃ (j : Nat) (bq : Bool), j ≤ L0.length ∧ i = .int .i64 j ∧ q = .bool bq ∧ Ch [] wo wq ∧ Hid (bq = (L0.take j).any (fun u => tmEq u x))) (fun _ i _ => L0.length - (intOf i).toNat)
            case atStart => exact ⟨0, false, Nat.zero_le _, rfl, rfl, Ch.refl _ _, by simp [Hid]⟩
            case round =>
              obtain ⟨j, bq, hj, rfl, rfl, hB2, HQ⟩ := hrel
              have c1 := cell_ch c1 hB2 (by simp)
              have x0 := cell_ch x0 hB2 (by simp)
              have x1 := cell_ch x1 hB2 (by simp)
              by_cases hjt : j < L0.length
              · obtain ⟨b3, o3, a4, c4, rfl, hp3, d0, d1, hTd⟩ := (hSL.ch0 hB2).at_ hjt
                have HSN := Lib.hid (memT_snoc L0 j hjt x)
                have j2 : decide (j < L0.length) = true := decide_eq_true hjt
                have i2 : (j : Int) < (L0.length : Int) := by omega
                have hcall := fun y : Later wr => later_call (plainTerm L0[j] x _ _ _ _ y.w (hTd.ch0 y.ch) ((hTx.ch0 (hB.trans hB2)).ch0 y.ch))
                have l0 := Later.cell d0
                have l1 := Later.cell d1
                have l2 := Later.cell c1
                have l3 := Later.cell x0
                have l4 := Later.cell x1
                clear hTd d0 d1
                generalize L0[j] = y at *
                generalize tmEq y x = eq at *
                cases bq with
                | true =>
                  have HX : Hid (true = (L0.take (j + 1)).any (fun u => tmEq u x)) := by unfold Hid; rw [HSN.out, ← HQ.out]; rfl
                  go_wp2
                  refine wp_region_later (by kernel_rfl) (lexB_of (by kernel_rfl)) ?_
                  repeat (go_big_quiet_step (exact hcall _))
                  refine wpQuiet_nil ?_
                  intro w3 hw3
                  clear hcall l0 l1 l2 l3 l4
                  go_wp2
                  go_roundw
                  case rel => exact ⟨j + 1, true, by omega, by go_num, rfl, hB2.trans hw3, HX⟩
                  case measure => simp [intOf]; omega
                | false =>
                  have HX : Hid (eq = (L0.take (j + 1)).any (fun u => tmEq u x)) := by unfold Hid; rw [HSN.out, ← HQ.out]; rfl
                  go_wp2
                  refine wp_region_later (by kernel_rfl) (lexB_of (by kernel_rfl)) ?_
                  repeat (go_big_quiet_step (exact hcall _))
                  refine wpQuiet_nil ?_
                  intro w3 hw3
                  clear hcall l0 l1 l2 l3 l4
                  go_wp2
                  go_roundw
                  case rel => exact ⟨j + 1, eq, by omega, by go_num, rfl, hB2.trans hw3, HX⟩
                  case measure => simp [intOf]; omega
              · have HQ2 : Hid (bq = mq) := by
                  have := HQ.out
                  rw [List.take_of_length_le (by omega)] at this
                  unfold Hid; rw [this, HMX.out]
                have j2 : decide (j < L0.length) = false := decide_eq_false hjt
                cases bq with
                | true =>
                  have HX : Hid (rolesOf (l.take (k + 1)) = L0) := by unfold Hid; rw [HX0.out, ← HQ2.out]; simp
                  go_wp2
                  go_roundw
                  case rel => exact ⟨k + 1, css, by omega, by go_num, hB.trans hB2, hown.ch0' hB2, by rw [HX.out]; exact htm⟩
                  case measure => simp [intOf]; omega
                | false =>
                  have HX : Hid (rolesOf (l.take (k + 1)) = L0 ++ [x]) := by unfold Hid; rw [HX0.out, ← HQ2.out]; simp
                  go_wp2_with (at_builtin; refine wpList_append_sl rfl _ _ _ rfl elT (base := w.heap.size) (v := .slice a3 L0.length c3) (css := css) rfl ((hown.ch0' hB2).ch0' ((Ch.refl [] wr).alloc _)) rfl (Sl.one wr 2 28 [.string x.name, .slice ax x.args.length cx] rfl (by simp [Value.oneCell'])) (by have := HCL.out; simp; omega) (by have := hB2.size; simp; omega) ?_; intro v6 w6 ho6 hc6 hat6 hn6; clear hn6)
                  go_roundw
                  case rel => exact ⟨k + 1, _, by omega, by go_num, ((hB.trans hB2).alloc _).step hc6 (fun y hy => by simp at hy; exact .inr (HLV.out y hy).1), ho6, by rw [HX.out]; exact TmsR.snoc htm hRx⟩
                  case measure => simp [intOf]; omega
          · have HX : Hid (rolesOf (l.take (k + 1)) = L0) := by unfold Hid; rw [HST.out, stepRole_no3 hq3]
            have d1 : decide ((0 : Int) < (r.body.length : Int)) = true := decide_eq_true (by omega)
            have d2 : decide (0 < r.body.length) = true := decide_eq_true (by omega)
            have d3 : ((r.head.args.length : Int) != 1) = false := by rw [hq2]; rfl
            clear hq1 hq2 hq3 hx HST hOk hT HO
            generalize r.body.length = bl at *
            generalize r.head.args.length = al at *
            generalize r.head.name = nm at *
            go_wp2
            go_roundw
            case rel => exact ⟨k + 1, css, by omega, by go_num, hB, hown, by rw [HX.out]; exact htm⟩
            case measure => simp [intOf]; omega
        · have HX : Hid (rolesOf (l.take (k + 1)) = L0) := by unfold Hid; rw [HST.out, stepRole_no2 hq2]
          have d3 : ((r.head.args.length : Int) != 1) = true := by simp; omega
          clear hq1 hq2 HST hOk hT HO
          generalize r.body.length = bl at *
          generalize r.head.args.length = al at *
          generalize r.head.name = nm at *
          go_wp2
          go_roundw
          case rel => exact ⟨k + 1, css, by omega, by go_num, hB, hown, by rw [HX.out]; exact htm⟩
          case measure => simp [intOf]; omega
      · rw [decide_eq_false hq1] at er er2
        have HX : Hid (rolesOf (l.take (k + 1)) = L0) := by unfold Hid; rw [HST.out, stepRole_no1 hq1]
        clear hq1 HST hOk hT HO
        generalize r.body.length = bl at *
        generalize r.head.args.length = al at *
        generalize r.head.name = nm at *
        go_wp2
        go_roundw
        case rel => exact ⟨k + 1, css, by omega, by go_num, hB, hown, by rw [HX.out]; exact htm⟩
        case measure => simp [intOf]; omega
    · rw [List.take_of_length_le (by omega)] at htm
      have j1 : decide (k < l.length) = false := decide_eq_false hlt
      go_wp2
      go_ret
      exact ⟨_, rfl, ⟨css, hown.sl.weak (fun _ _ _ => trivial), TmsR.imp hB.size (fun x hx hp => ⟨trivial, hB.block x hx (by simp)⟩) htm⟩, hB⟩

theorem sees_eq' (s : ByteArray) : (s.toList == [115, 101, 101, 115]) = decide (s = bSees) := sees_eq s
theorem tmsEq_self : ∀ ts : List Tm, tmsEq ts ts = true
  | [] => by simp [tmsEq]
  | t :: ts => by
    rw [tmsEq, Bool.and_eq_true]
    exact ⟨(tmEq_iff t t).2 rfl, tmsEq_self ts⟩

set_option maxRecDepth 100000 in
set_option maxHeartbeats 4000000 in
theorem refChance_ (p : Nat → Prop) (v : Value) (l : List Ru) (w : World) (B b : Nat) (h : SlR p w v l) (hO : ∀ r ∈ l, RuOk B b r) (hlen : l.length ≤ 1000000) :
    Calls Tryz.prog 22 #[v] w fun e w' => e = .returned (.int .i64 (chanceOf l)) ∧ Ch [] w w' := by
  have hr := refRoles_ p v l w B b h hO hlen
  obtain ⟨a, c, rfl, hlc, hm⟩ := h.form
  have HC := Lib.hid (show chanceOf l = idxOf isChance (rolesOf l) from rfl)
  clear hO h
  generalize chanceOf l = R at *
  generalize rolesOf l = ts at *
  have HK : Hid (∀ k : Nat, (∀ j (hj : j < ts.length), j < k → isChance ts[j] = false) → (hk : k < ts.length) → isChance ts[k] = true → R = k) := fun k hn hk ht => by rw [HC.out]; exact idxOf_at isChance ts k hk (fun j hj => hn j _ hj) ht
  have HKN : Hid ((∀ j (hj : j < ts.length), isChance ts[j] = false) → R = -1) := fun hn => by rw [HC.out]; exact idxOf_none isChance ts hn
  clear HC
  go_enter Tryz.func22, Tryz.ntmps22
  go_wp2_with (go_at_call 20; refine hr.mono ?_; rintro e w1 ⟨v1, rfl, hs, hc1⟩; clear hr)
  obtain ⟨a1, n1, rfl, hln1, hm1⟩ := hs.form
  unfold maxLen at hm1
  go_loopw [4] (fun i wr => ∃ k : Nat, k ≤ ts.length ∧ i = .int .i64 k ∧ Ch [] w1 wr ∧ Hid (∀ j (hj : j < ts.length), j < k → isChance ts[j] = false)) (fun i _ => ts.length - (intOf i).toNat)
  case atStart => exact ⟨0, Nat.zero_le _, rfl, Ch.refl _ _, fun j _ h => absurd h (Nat.not_lt_zero _)⟩
  case round =>
    obtain ⟨k, hk, rfl, hB, HN⟩ := hrel
    by_cases hlt : k < ts.length
    · obtain ⟨b, o, a', c', rfl, hp, c0, c1, hT⟩ := (hs.ch0 hB).at_ hlt
      have er := chance_eq' ts[k].name
      have e2 : ((ts[k].args.length : Int) == 0) = decide (ts[k].args.length = 0) := by
        cases h9 : decide (ts[k].args.length = 0) with
        | true => rw [decide_eq_true_eq] at h9; rw [h9]; rfl
        | false => rw [decide_eq_false_iff_not] at h9; rw [beq_eq_false_iff_ne]; omega
      have hq0 : isChance ts[k] = (decide (ts[k].name = bChance) && decide (ts[k].args.length = 0)) := rfl
      have HR : Hid (isChance ts[k] = true → R = k) := fun ht => HK.out k HN.out hlt ht
      have HX : Hid (isChance ts[k] = false → ∀ j (hj : j < ts.length), j < k + 1 → isChance ts[j] = false) := fun hq j hj h1 => by
        rcases Nat.lt_succ_iff_lt_or_eq.1 h1 with h2 | h2
        · exact HN.out j hj h2
        · subst h2; exact hq
      generalize hq : isChance ts[k] = q at *
      generalize decide (ts[k].name = bChance) = b1 at *
      generalize decide (ts[k].args.length = 0) = b2 at *
      clear hq hT HN
      generalize ts[k] = x at *
      cases b1 <;> cases b2
      case true.true =>
        have hr := HR.out hq0
        go_wp2
        go_ret
        exact ⟨by rw [hr]; rfl, hc1.trans hB⟩
      all_goals
        have hx := Lib.hid (HX.out hq0)
        go_wp2
        go_roundw
        case rel => exact ⟨k + 1, by omega, by go_num, hB, hx⟩
        case measure => simp [intOf]; omega
    · have hr := HKN.out (fun j hj => HN.out j hj (by omega))
      go_wp2
      go_ret
      exact ⟨by rw [hr]; rfl, hc1.trans hB⟩

set_option maxRecDepth 100000 in
set_option maxHeartbeats 4000000 in
theorem refHidden_ (p : Nat → Prop) (v : Value) (l : List Ru) (w : World) (h : SlR p w v l) :
    Calls Tryz.prog 24 #[v] w fun e w' => e = .returned (.bool (hiddenB l)) ∧ Ch [] w w' := by
  obtain ⟨a, c, rfl, hlc, hm⟩ := h.form
  unfold maxLen at hm
  have HT : Hid (∀ k (hk : k < l.length), decide (l[k].head.name = bSees) = true → hiddenB l = true) := fun k hk ht => List.any_eq_true.2 ⟨l[k], List.getElem_mem hk, ht⟩
  have HF : Hid ((∀ j (hj : j < l.length), decide (l[j].head.name = bSees) = false) → hiddenB l = false) := fun hn => by
    rw [hiddenB, List.any_eq_false]
    intro r hr
    obtain ⟨j, hj, rfl⟩ := List.getElem_of_mem hr
    rw [hn j hj]; simp
  generalize hiddenB l = R at *
  go_enter Tryz.func24, Tryz.ntmps24
  go_wp2
  go_loopw [3] (fun i wr => ∃ k : Nat, k ≤ l.length ∧ i = .int .i64 k ∧ Ch [] w wr ∧ Hid (∀ j (hj : j < l.length), j < k → decide (l[j].head.name = bSees) = false)) (fun i _ => l.length - (intOf i).toNat)
  case atStart => exact ⟨0, Nat.zero_le _, rfl, Ch.refl _ _, fun j _ h => absurd h (Nat.not_lt_zero _)⟩
  case round =>
    obtain ⟨k, hk, rfl, hB, HN⟩ := hrel
    by_cases hlt : k < l.length
    · obtain ⟨b, o, a', c', a'', c'', rfl, hp, c0, c1, c2, hT, hL⟩ := (h.ch0 hB).at_ hlt
      have er := sees_eq' l[k].head.name
      have HR := Lib.hid (HT.out k hlt)
      have HX : Hid (decide (l[k].head.name = bSees) = false → ∀ j (hj : j < l.length), j < k + 1 → decide (l[j].head.name = bSees) = false) := fun hq j hj h1 => by
        rcases Nat.lt_succ_iff_lt_or_eq.1 h1 with h2 | h2
        · exact HN.out j hj h2
        · subst h2; exact hq
      generalize hb1 : decide (l[k].head.name = bSees) = b1 at *
      clear hb1 hT hL HN
      generalize l[k] = x at *
      cases b1
      case true =>
        have hr := HR.out rfl
        go_wp2
        go_ret
        exact ⟨by rfl, hB⟩
      case false =>
        have hx := Lib.hid (HX.out rfl)
        go_wp2
        go_roundw
        case rel => exact ⟨k + 1, by omega, by go_num, hB, hx⟩
        case measure => simp [intOf]; omega
    · have hr := HF.out (fun j hj => HN.out j hj (by omega))
      go_wp2
      go_ret
      exact ⟨by rw [hr]; rfl, hB⟩

set_option maxRecDepth 100000 in
set_option maxHeartbeats 8000000 in
theorem lawRoles_ (l : List Ru) (p : Nat → Prop) (v : Value) (w : World) (hK : KwAt w) (h : SlR p w v l) (hN : ∀ r ∈ l, NiceR reachBytes maxLen r) :
    Calls Tryz.prog 6 #[v] w fun e w' => e = .returned (.bool true) ∧ Ch [] w w' := by
  have hfew : ∀ wz, Ch [] w wz → Calls Tryz.prog 15 #[v, .int .i64 (60 : Nat)] wz fun e w' => e = .returned (.bool (decide (l.length ≤ 60) && l.all fewB)) ∧ Ch [] wz w' := fun wz hz => fewRules_ p v l 60 wz (h.ch0 hz)
  have haw := fun wz (hz : Ch [] w wz) => law11awake wz (hK.ch hz)
  have HOK := Lib.hid (show (decide (l.length ≤ 60) && l.all fewB) = true → (∀ r ∈ l, RuOk reachBytes maxLen r) ∧ l.length ≤ 60 from fun hq => by
    rw [Bool.and_eq_true, decide_eq_true_eq, List.all_eq_true] at hq
    exact ⟨fun r hr => few_ok (hq.2 r hr) (hN r hr), hq.1⟩)
  clear hN
  have HM : Hid (∀ (hO : ∀ r ∈ l, RuOk reachBytes maxLen r) (hl : l.length ≤ 60) wz, Ch [] w wz →
      Calls Tryz.prog 19 #[v] wz fun e w' => ∃ v', e = .returned v' ∧ SlT (fun _ => True) w' v' (rolesOf l) ∧ Ch [] wz w') := fun hO hl wz hz => (roles_ p v l wz reachBytes maxLen (h.ch0 hz) hO (by omega)).mono (by rintro e w' ⟨v', rfl, ho, hc⟩; exact ⟨v', rfl, ho.slt.weak (fun _ _ _ => trivial), hc⟩)
  have HRR := Lib.hid (fun (hO : ∀ r ∈ l, RuOk reachBytes maxLen r) (hl : l.length ≤ 60) wz (hz : Ch [] w wz) => refRoles_ p v l wz reachBytes maxLen (h.ch0 hz) hO (by omega))
  have HC1 := Lib.hid (fun (hO : ∀ r ∈ l, RuOk reachBytes maxLen r) (hl : l.length ≤ 60) wz (hz : Ch [] w wz) => chance_ p v l wz reachBytes maxLen (h.ch0 hz) hO (by omega))
  have HC2 := Lib.hid (fun (hO : ∀ r ∈ l, RuOk reachBytes maxLen r) (hl : l.length ≤ 60) wz (hz : Ch [] w wz) => refChance_ p v l wz reachBytes maxLen (h.ch0 hz) hO (by omega))
  have hh1 := fun wz (hz : Ch [] w wz) => hidden_ p v l wz (h.ch0 hz)
  have hh2 := fun wz (hz : Ch [] w wz) => refHidden_ p v l wz (h.ch0 hz)
  have HT : Hid (∀ (va vb : Value) wz, SlT (fun _ => True) wz va (rolesOf l) → SlT (fun _ => True) wz vb (rolesOf l) → Calls Tryz.prog 18 #[va, vb] wz fun e w' => e = .returned (.bool true) ∧ Ch [] wz w') := fun va vb wz ha hb => by
    have := terms_step _ (termC_all (szs (rolesOf l))) (rolesOf l) (rolesOf l) (Nat.le_refl _) _ _ va vb wz ha hb
    rwa [tmsEq_self] at this
  obtain ⟨a, c, rfl, hlc, hm⟩ := h.form
  clear h
  generalize chanceOf l = R at *
  generalize hiddenB l = R2 at *
  generalize rolesOf l = ts at *
  cases hf : (decide (l.length ≤ 60) && l.all fewB) with
  | false =>
    rw [hf] at hfew
    clear hf HOK hh1 hh2
    go_enter Tryz.func6, Tryz.ntmps6
    go_wp2_with (first
      | (go_at_call 15; refine (hfew _ (Ch.refl _ _)).mono ?_; rintro e w1 ⟨rfl, hd1⟩; clear hfew)
      | (go_at_call 11; refine (haw _ hd1).mono ?_; rintro e w2 ⟨rfl, hd2⟩))
    go_ret
    exact ⟨rfl, hd1.trans hd2⟩
  | true =>
    rw [hf] at hfew
    obtain ⟨hO, hl60⟩ := HOK.out hf
    have hm1 := HM.out hO hl60
    have hm2 := HRR.out hO hl60
    have hm3 := HC1.out hO hl60
    have hm4 := HC2.out hO hl60
    clear hf HOK HM HRR HC1 HC2 hO
    go_enter Tryz.func6, Tryz.ntmps6
    go_wp2_with (first
      | (go_at_call 15; refine (hfew _ (Ch.refl _ _)).mono ?_; rintro e w1 ⟨rfl, hB⟩; clear hfew)
      | (go_at_call 19; refine (hm1 _ hB).mono ?_; rintro e w2 ⟨v1, rfl, hs1, hd⟩; replace hB := hB.trans hd; clear hd hm1)
      | (go_at_call 20; refine (hm2 _ hB).mono ?_; rintro e w3 ⟨v2, rfl, hs2, hd⟩; replace hB := hB.trans hd; replace hs1 := hs1.ch0 hd; clear hd hm2)
      | (go_at_call 18; refine (HT.out _ _ _ hs1 hs2).mono ?_; rintro e w4 ⟨rfl, hd⟩; replace hB := hB.trans hd; clear hd HT hs1 hs2)
      | (go_at_call 21; refine (hm3 _ hB).mono ?_; rintro e w5 ⟨rfl, hd⟩; replace hB := hB.trans hd; clear hd hm3)
      | (go_at_call 22; refine (hm4 _ hB).mono ?_; rintro e w6 ⟨rfl, hd⟩; replace hB := hB.trans hd; clear hd hm4)
      | (go_at_call 23; refine (hh1 _ hB).mono ?_; rintro e w7 ⟨rfl, hd⟩; replace hB := hB.trans hd; clear hd hh1)
      | (go_at_call 24; refine (hh2 _ hB).mono ?_; rintro e w8 ⟨rfl, hd⟩; replace hB := hB.trans hd; clear hd hh2)
      | (go_at_call 11; refine (haw _ hB).mono ?_; rintro e w9 ⟨rfl, hd⟩; replace hB := hB.trans hd; clear hd haw))
    go_ret
    exact ⟨rfl, hB⟩
end Go.Proofs.YtbongbknciibiaaGreatDoor
