
/-
  The contracts of slices.IndexFunc, ContainsFunc over terms at the functions of check.Roles and check.Chance (PRINTED BY wip/gen/idx.py), and these functions.
  The contract of check.clone.
  The contracts of check.Roles, Chance.
-/
import Derived.Test.YtgljjapglgcpdaaGreatDoorChMis
import Derived.Test.YtgljjapglgcpdaaGreatDoorTmCmp
import Derived.Test.YtgljjapglgcpdaaGreatDoorChVars
import Derived.Test.YtgljjapglgcpdaaGreatDoorRead
import Derived.Test.YtgljjapglgcpdaaGreatDoorFacts
import Derived.Laws.ResultCell
import Derived.Test.YtgljjapglgcpdaaGreatDoorChRule
namespace Go.Proofs.YtgljjapglgcpdaaGreatDoor

section
open Go.RowKit

set_option maxRecDepth 100000 in
set_option maxHeartbeats 2000000 in
theorem idx_role1 (f : Tm → Bool) (B : Nat) (p : Nat → Prop) (v : Value) (ts : List Tm) (w : World) (h : SlT p w v ts)
    (hF : ∀ t ∈ ts, ∀ (q : Nat → Prop) (va : Value) (wz : World), Ch [] w wz → SlT q wz va t.args → Calls Tryz.prog 41 #[.agg #[.string t.name, va], .pointer (some ⟨B, 0, none⟩)] wz fun e w' => e = .returned (.bool (f t)) ∧ Ch [] wz w') :
    Calls Tryz.prog 44 #[v, .func (.func 41) #[] #[.pointer (some ⟨B, 0, none⟩)]] w fun e w' => e = .returned (.int .i64 (idxOf f ts)) ∧ Ch [] w w' := by
  obtain ⟨a, c, rfl, hlc, hm⟩ := h.form
  unfold maxLen at hm
  have HF := Lib.hid hF; clear hF
  go_enter Tryz.func44, Tryz.ntmps44
  go_wp2
  go_loopw [5, 8] (fun _ i wr => ∃ k : Nat, k ≤ ts.length ∧ i = .int .i64 k ∧ Ch [] w wr ∧ Hid (∀ j (hj : j < ts.length), j < k → f ts[j] = false)) (fun _ i _ => ts.length - (intOf i).toNat)
  case atStart => exact ⟨0, Nat.zero_le _, rfl, Ch.refl _ _, fun j _ h => absurd h (Nat.not_lt_zero _)⟩
  case round =>
    obtain ⟨k, hk, rfl, hB, HN⟩ := hrel
    by_cases hlt : k < ts.length
    · obtain ⟨b, o, a', c', rfl, hp, c0, c1, hT⟩ := (h.ch0 hB).at_ hlt
      have hcall := HF.out ts[k] (List.getElem_mem hlt) _ _ wr hB hT
      cases hq : f ts[k] with
      | true =>
        rw [hq] at hcall
        have HR := Lib.hid (idxOf_at f ts k hlt (fun j hj => HN.out j _ hj) hq)
        clear hq
        generalize ts[k] = x at *
        go_wp2_with (go_at_call 41; refine hcall.mono ?_; rintro e w1 ⟨rfl, hc1⟩; clear hcall)
        go_ret
        exact ⟨by rw [HR.out]; rfl, hB.trans hc1⟩
      | false =>
        rw [hq] at hcall
        have HX : Hid (∀ j (hj : j < ts.length), j < k + 1 → f ts[j] = false) := fun j hj h1 => by
          rcases Nat.lt_succ_iff_lt_or_eq.1 h1 with h2 | h2
          · exact HN.out j hj h2
          · subst h2; exact hq
        clear hq
        generalize ts[k] = x at *
        go_wp2_with (go_at_call 41; refine hcall.mono ?_; rintro e w1 ⟨rfl, hc1⟩; clear hcall)
        go_roundw
        case rel => exact ⟨k + 1, by omega, by go_num, hB.trans hc1, HX⟩
        case measure => simp [intOf]; omega
    · have HR := Lib.hid (idxOf_none f ts (fun j hj => HN.out j hj (by omega)))
      go_wp2
      go_ret
      exact ⟨by rw [HR.out]; rfl, hB⟩

set_option maxRecDepth 100000 in
set_option maxHeartbeats 2000000 in
theorem any_role1 (f : Tm → Bool) (B : Nat) (p : Nat → Prop) (v : Value) (ts : List Tm) (w : World) (h : SlT p w v ts)
    (hF : ∀ t ∈ ts, ∀ (q : Nat → Prop) (va : Value) (wz : World), Ch [] w wz → SlT q wz va t.args → Calls Tryz.prog 41 #[.agg #[.string t.name, va], .pointer (some ⟨B, 0, none⟩)] wz fun e w' => e = .returned (.bool (f t)) ∧ Ch [] wz w') :
    Calls Tryz.prog 40 #[v, .func (.func 41) #[] #[.pointer (some ⟨B, 0, none⟩)]] w fun e w' => e = .returned (.bool (ts.any f)) ∧ Ch [] w w' := by
  have hcall := idx_role1 f B p v ts w h hF
  have HA := Lib.hid (idxOf_any f ts)
  clear hF
  generalize idxOf f ts = r at *
  generalize ts.any f = an at *
  obtain ⟨a, c, rfl, hlc, hm⟩ := h.form
  go_enter Tryz.func40, Tryz.ntmps40
  go_wp2_with (go_at_call 44; refine hcall.mono ?_; rintro e w1 ⟨rfl, hc1⟩; clear hcall)
  go_ret
  exact ⟨by rw [← HA.out]; rfl, hc1⟩


set_option maxRecDepth 100000 in
set_option maxHeartbeats 2000000 in
theorem idx_chance1 (f : Tm → Bool) (p : Nat → Prop) (v : Value) (ts : List Tm) (w : World) (h : SlT p w v ts)
    (hF : ∀ t ∈ ts, ∀ (q : Nat → Prop) (va : Value) (wz : World), SlT q wz va t.args → Calls Tryz.prog 45 #[.agg #[.string t.name, va]] wz fun e w' => e = .returned (.bool (f t)) ∧ Ch [] wz w') :
    Calls Tryz.prog 44 #[v, .func (.func 45) #[] #[]] w fun e w' => e = .returned (.int .i64 (idxOf f ts)) ∧ Ch [] w w' := by
  obtain ⟨a, c, rfl, hlc, hm⟩ := h.form
  unfold maxLen at hm
  have HF := Lib.hid hF; clear hF
  go_enter Tryz.func44, Tryz.ntmps44
  go_wp2
  go_loopw [5, 8] (fun _ i wr => ∃ k : Nat, k ≤ ts.length ∧ i = .int .i64 k ∧ Ch [] w wr ∧ Hid (∀ j (hj : j < ts.length), j < k → f ts[j] = false)) (fun _ i _ => ts.length - (intOf i).toNat)
  case atStart => exact ⟨0, Nat.zero_le _, rfl, Ch.refl _ _, fun j _ h => absurd h (Nat.not_lt_zero _)⟩
  case round =>
    obtain ⟨k, hk, rfl, hB, HN⟩ := hrel
    by_cases hlt : k < ts.length
    · obtain ⟨b, o, a', c', rfl, hp, c0, c1, hT⟩ := (h.ch0 hB).at_ hlt
      have hcall := HF.out ts[k] (List.getElem_mem hlt) _ _ wr hT
      cases hq : f ts[k] with
      | true =>
        rw [hq] at hcall
        have HR := Lib.hid (idxOf_at f ts k hlt (fun j hj => HN.out j _ hj) hq)
        clear hq
        generalize ts[k] = x at *
        go_wp2_with (go_at_call 45; refine hcall.mono ?_; rintro e w1 ⟨rfl, hc1⟩; clear hcall)
        go_ret
        exact ⟨by rw [HR.out]; rfl, hB.trans hc1⟩
      | false =>
        rw [hq] at hcall
        have HX : Hid (∀ j (hj : j < ts.length), j < k + 1 → f ts[j] = false) := fun j hj h1 => by
          rcases Nat.lt_succ_iff_lt_or_eq.1 h1 with h2 | h2
          · exact HN.out j hj h2
          · subst h2; exact hq
        clear hq
        generalize ts[k] = x at *
        go_wp2_with (go_at_call 45; refine hcall.mono ?_; rintro e w1 ⟨rfl, hc1⟩; clear hcall)
        go_roundw
        case rel => exact ⟨k + 1, by omega, by go_num, hB.trans hc1, HX⟩
        case measure => simp [intOf]; omega
    · have HR := Lib.hid (idxOf_none f ts (fun j hj => HN.out j hj (by omega)))
      go_wp2
      go_ret
      exact ⟨by rw [HR.out]; rfl, hB⟩

set_option maxRecDepth 100000 in
set_option maxHeartbeats 2000000 in
theorem any_chance1 (f : Tm → Bool) (p : Nat → Prop) (v : Value) (ts : List Tm) (w : World) (h : SlT p w v ts)
    (hF : ∀ t ∈ ts, ∀ (q : Nat → Prop) (va : Value) (wz : World), SlT q wz va t.args → Calls Tryz.prog 45 #[.agg #[.string t.name, va]] wz fun e w' => e = .returned (.bool (f t)) ∧ Ch [] wz w') :
    Calls Tryz.prog 40 #[v, .func (.func 45) #[] #[]] w fun e w' => e = .returned (.bool (ts.any f)) ∧ Ch [] w w' := by
  have hcall := idx_chance1 f p v ts w h hF
  have HA := Lib.hid (idxOf_any f ts)
  clear hF
  generalize idxOf f ts = r at *
  generalize ts.any f = an at *
  obtain ⟨a, c, rfl, hlc, hm⟩ := h.form
  go_enter Tryz.func40, Tryz.ntmps40
  go_wp2_with (go_at_call 44; refine hcall.mono ?_; rintro e w1 ⟨rfl, hc1⟩; clear hcall)
  go_ret
  exact ⟨by rw [← HA.out]; rfl, hc1⟩

theorem chance_eq (s : ByteArray) : (s.toList == [99, 104, 97, 110, 99, 101]) = decide (s = bChance) := by
  have : bChance.toList = [99, 104, 97, 110, 99, 101] := by rw [ByteArray.toList_eq]; rfl
  rw [← this, beqS]
set_option maxRecDepth 100000 in
set_option maxHeartbeats 2000000 in
theorem chance1_ (nm : ByteArray) (a : Option Addr) (n c : Nat) (w : World) :
    Calls Tryz.prog 45 #[.agg #[.string nm, .slice a n c]] w fun e w' => e = .returned (.bool (decide (nm = bChance) && decide (n = 0))) ∧ Ch [] w w' := by
  have hbx := Blk.new w 28 #[.string nm, .slice a n c]
  have hcA : Ch [] w (w.alloc (.cells #[.string nm, .slice a n c] 28)) := (Ch.refl _ _).alloc _
  have b0 := hbx.cell 0
  have b1 := hbx.cell 1
  have e1 : ((n : Int) == 0) = decide (n = 0) := by rw [Bool.eq_iff_iff]; simp
  have e0 := chance_eq nm
  generalize decide (nm = bChance) = q at *
  generalize decide (n = 0) = r at *
  cases q <;> cases r
  all_goals
    go_enter Tryz.func45, Tryz.ntmps45
    go_wp2
    go_ret
    exact ⟨rfl, hcA⟩
set_option maxRecDepth 100000 in
set_option maxHeartbeats 2000000 in
theorem role1_ (x u : Tm) (B : Nat) (Bn b : Nat) (hx : Nice Bn b x) (hu : Nice Bn b u) (hBn : Bn ≤ maxLen) (p q : Nat → Prop) (va vb : Value) (w : World) (h : SlT p w va x.args) (h' : SlT q w vb u.args) (hb : Blk w B 28 #[.string u.name, vb]) :
    Calls Tryz.prog 41 #[.agg #[.string x.name, va], .pointer (some ⟨B, 0, none⟩)] w fun e w' => e = .returned (.bool (tmEq x u)) ∧ Ch [] w w' := by
  rw [← cmpT_tmEq]
  have hc := fun wz (hz : Ch [] w wz) => compare_ x.dep x u (Nat.le_refl _) Bn b hx hu hBn p q va vb wz (h.ch0 hz) (h'.ch0 hz)
  obtain ⟨a, c, rfl, _, _⟩ := h.form
  obtain ⟨a', c', rfl, _, _⟩ := h'.form
  generalize cmpT x u = r at *
  generalize x.args.length = n at *
  generalize u.args.length = m at *
  generalize x.name = nm at *
  generalize u.name = um at *
  have hcA : Ch [] w (w.alloc (.cells #[.string nm, .slice a n c] 28)) := (Ch.refl _ _).alloc _
  have b0 := (Blk.new w 28 #[.string nm, .slice a n c]).cell 0
  have b1 := (Blk.new w 28 #[.string nm, .slice a n c]).cell 1
  have c0 := (hb.ch hcA (by simp)).cell 0
  have c1 := (hb.ch hcA (by simp)).cell 1
  have e1 : (r == 0) = decide (r = 0) := by rw [Bool.eq_iff_iff]; simp
  go_enter Tryz.func41, Tryz.ntmps41
  go_wp2_with (go_at_call 42; refine (hc _ hcA).mono ?_; rintro e w1 ⟨rfl, hc1⟩; clear hc)
  go_ret
  exact ⟨by rfl, hcA.trans hc1⟩
end

section
open Go.RowKit

theorem clone_fin {w wz : World} {B1 : Nat} {nm : ByteArray} {va : Value} {ags : List Tm} {z0 z1 : Value} (hr4 : Blk wz B1 28 #[z0, z1]) (hB : Ch [] w wz) (hl : B1 = w.heap.size + 1)
    (a : Act) (h4 : a.tmps.getD 2 undef = .pointer (some ⟨B1, 0, none⟩)) (h5 : a.defers = [])
    (hin : SlT (fun b => w.heap.size + 3 ≤ b) wz va ags) :
    bodyPost Tryz.prog Tryz.f43 (fun e w' => ∃ v', e = .returned (.agg #[.string nm, v']) ∧ SlT (fun b => w.heap.size ≤ b) w' v' ags ∧ Ch [] w w') .ret a
      ((wz.setCell ⟨B1, 0, none⟩ (.string nm)).setCell ⟨B1, 1, none⟩ va) := by
  have hbF : Blk ((wz.setCell ⟨B1, 0, none⟩ (.string nm)).setCell ⟨B1, 1, none⟩ va) B1 28 #[.string nm, va] := (hr4.set_ 0 _).set_ 1 _
  have hcF : Ch [B1] wz ((wz.setCell ⟨B1, 0, none⟩ (.string nm)).setCell ⟨B1, 1, none⟩ va) := ((Ch.refl _ _).set (by simp) _).set (by simp) _
  refine bodyPost_ret (results_cell_row (p := 2) (ty := 28) (by kernel_rfl) _ _ B1 28 _ _ _ h4 hbF Tryz.underlying28 rfl (by kernel_rfl)) h5 ?_
  exact ⟨va, rfl, (hin.ch hcF (by intro b _ hb; simp; omega)).weak (fun b _ hb => by omega), hB.step hcF (by simp; omega)⟩

set_option maxRecDepth 100000 in
set_option maxHeartbeats 4000000 in
theorem clone_ : ∀ (n : Nat) (t : Tm), t.sz ≤ n → t.sz ≤ 1000000 → ∀ (p : Nat → Prop) (v : Value) (w : World), SlT p w v t.args →
    Calls Tryz.prog 43 #[.agg #[.string t.name, v]] w fun e w' => ∃ v', e = .returned (.agg #[.string t.name, v']) ∧ SlT (fun b => w.heap.size ≤ b) w' v' t.args ∧ Ch [] w w' := by
  intro n
  induction n with
  | zero => intro t ht; cases t; simp [Tm.sz] at ht
  | succ n ih =>
    intro t ht hbig p v w h
    obtain ⟨nm, ags⟩ := t
    obtain ⟨a, c, rfl, hlc, hmx⟩ := h.form
    simp only [Tm.args, Tm.name, Tm.sz] at h hlc ht hbig ⊢
    unfold maxLen at hmx
    have hsl := szs_len ags
    have HIH := Lib.hid ih; clear ih
    obtain ⟨w1, hw1⟩ : ∃ w1, w.alloc (.cells #[.string nm, .slice a ags.length c] 28) = w1 := ⟨_, rfl⟩
    have g1 : Blk w1 w.heap.size 28 #[.string nm, .slice a ags.length c] := by rw [← hw1]; exact Blk.new _ _ _
    have hc1 : Ch [] w w1 := by rw [← hw1]; exact (Ch.refl _ _).alloc _
    have s1 : w1.heap.size = w.heap.size + 1 := by rw [← hw1]; simp
    obtain ⟨w2, hw2⟩ : ∃ w2, w1.alloc (.cells #[.string ⟨#[]⟩, .slice none 0 0] 28) = w2 := ⟨_, rfl⟩
    have g2 : Blk w2 w1.heap.size 28 #[.string ⟨#[]⟩, .slice none 0 0] := by rw [← hw2]; exact Blk.new _ _ _
    have hc2 : Ch [] w1 w2 := by rw [← hw2]; exact (Ch.refl _ _).alloc _
    have s2 : w2.heap.size = w1.heap.size + 1 := by rw [← hw2]; simp
    obtain ⟨w3, hw3⟩ : ∃ w3, w2.alloc (.cells #[.string nm, .slice none 0 0] 28) = w3 := ⟨_, rfl⟩
    have hb2 : Blk w3 w2.heap.size 28 #[.string nm, .slice none 0 0] := by rw [← hw3]; exact Blk.new _ _ _
    have hc3 : Ch [] w2 w3 := by rw [← hw3]; exact (Ch.refl _ _).alloc _
    have s3 : w3.heap.size = w2.heap.size + 1 := by rw [← hw3]; simp
    have hcA := (hc1.trans hc2).trans hc3
    have hb1 := g2.ch hc3 (by simp)
    have k0 := (g1.ch hc2 (by simp)).cell 0
    have k1 := (g1.ch hc2 (by simp)).cell 1
    have k2 : w.heap.size < w2.heap.size := by omega
    have HW3 := Lib.hid hw3; clear hw3
    have e1 : w1.heap.size = w.heap.size + 1 := s1
    have e2 : w2.heap.size = w.heap.size + 2 := by omega
    have e3 : w.heap.size + 3 ≤ w3.heap.size := by omega
    have HE1 := Lib.hid e1
    have HE2 := Lib.hid e2
    clear s1 s2 s3 e1 e2
    go_enter Tryz.func43, Tryz.ntmps43
    go_wp2
    rw [HW3.out]
    clear k0 k1 k2 hw1 hw2 HW3
    generalize w1.heap.size = B1 at *
    generalize w2.heap.size = B2 at *
    go_loopw [5, 12] (fun _ i wr => ∃ (k : Nat) (v : Value), k ≤ ags.length ∧ i = .int .i64 k ∧ Ch [] w wr ∧ w.heap.size + 3 ≤ wr.heap.size ∧ Blk wr B1 28 #[.string ⟨#[]⟩, .slice none 0 0] ∧ Blk wr B2 28 #[.string nm, v] ∧ OwnT wr (w.heap.size + 3) v (ags.take k)) (fun _ i _ => ags.length - (intOf i).toNat)
    case atStart => exact ⟨0, _, Nat.zero_le _, rfl, hcA, e3, hb1, hb2, OwnT.nil _ _⟩
    case round =>
      obtain ⟨k, v, hk, rfl, hB, hszB, hr1, hr2, ho⟩ := hrel
      by_cases hlt : k < ags.length
      · obtain ⟨b, o, a', c', rfl, hp, c0, c1, hT⟩ := (h.ch0 hB).at_ hlt
        have HTS := Lib.hid (take_snoc ags k hlt)
        have hxz := szs_mem (List.getElem_mem hlt)
        generalize ags[k] = x at *
        obtain ⟨wN, hwN⟩ : ∃ wN, wr.alloc (.cells #[.string x.name, .slice a' x.args.length c'] 28) = wN := ⟨_, rfl⟩
        have hbn : Blk wN wr.heap.size 28 #[.string x.name, .slice a' x.args.length c'] := by rw [← hwN]; exact Blk.new _ _ _
        have hcN : Ch [] wr wN := by rw [← hwN]; exact (Ch.refl _ _).alloc _
        have hrN := hr2.ch hcN (by simp)
        have hr1N := hr1.ch hcN (by simp)
        have hcall := HIH.out x (by omega) (by omega) _ _ wN.drew (hT.ch0 (hcN.drew))
        obtain ⟨css, hown, htms⟩ := ho
        have hcl : css.length = k := by rw [htms.len]; simp; omega
        have HCL := Lib.hid hcl; clear hcl
        have HLV := Lib.hid (show ∀ b, v.ownBlock = some b → w.heap.size + 3 ≤ b ∧ b < wr.heap.size from fun b hb => hown.lt hb)
        have hszN : wr.heap.size < wN.heap.size := hbn.lt
        have n0 := hbn.cell 0
        have n1 := hbn.cell 1
        have x1 := hrN.cell 1
        have hownN := hown.ch0' hcN
        go_wp2
        clear hwN
        go_region_law (first
          | (go_simp; go_at_call 43; refine hcall.mono ?_; rintro e w4 ⟨va, rfl, hva, hc4⟩; obtain ⟨a5, c5, rfl, hl5, hm5⟩ := hva.form; have hr54 := (Blk.drew hrN).ch hc4 (by simp); have x4 := hr54.cell 1; have x5 := (hr54.alloc (.cells #[.string x.name, .slice a5 x.args.length c5] 28)).cell 1)
          | (refine step_append_sl rfl _ _ _ rfl elT (base := w.heap.size + 3) (v := v) rfl ((((Own.ch hownN ((Ch.refl [] wN).drew) (by simp)).ch0' hc4)).ch ((Ch.refl [] w4).alloc _) (by simp)) rfl (Sl.one w4 2 28 [.string x.name, .slice a5 x.args.length c5] rfl (by simp [Value.oneCell'])) (by have := HCL.out; simp; omega) (by have := hc4.size; simp at this; simp; omega) ?_; intro v6 w6 ho6 hc6 hat6 hn6; clear hn6; obtain ⟨a7, c7, rfl⟩ := ho6.form'; have hr56 := (hr54.alloc (.cells #[.string x.name, .slice a5 x.args.length c5] 28)).ch hc6 (by intro hm; cases hvo : v.ownBlock with | none => rw [hvo] at hm; cases hm | some g6 => rw [hvo] at hm; have := (HLV.out g6 hvo).1; have := HE2.out; simp at hm; omega); have x6 := hr56.cell 1; have y6 := hr56.frozen 1))
        all_goals
          have hcA4 : Ch [] wr (w4.alloc (.cells #[.string x.name, .slice a5 x.args.length c5] 28)) := (hcN.drew.trans hc4).alloc _
          have hownA : Own (w4.alloc (.cells #[.string x.name, .slice a5 x.args.length c5] 28)) (w.heap.size + 3) 28 2 v css := hown.ch0' hcA4
          have hsz4 : wN.heap.size ≤ w4.heap.size := hc4.size
          have htmsA := TmsR.imp (q := fun b => w.heap.size + 3 ≤ b ∧ v.ownBlock ≠ some b) hcA4.size (fun b hb hp => ⟨hp, hcA4.block b hb (by simp)⟩) htms
          have hvaA : SlT (fun b => w.heap.size + 3 ≤ b ∧ v.ownBlock ≠ some b) (w4.alloc (.cells #[.string x.name, .slice a5 x.args.length c5] 28)) (.slice a5 x.args.length c5) x.args :=
            (hva.ch0 ((Ch.refl _ _).alloc _)).weak fun b _ hb => ⟨by have : wN.heap.size ≤ b := hb; omega, fun e => by have := (HLV.out b e).2; have : wN.heap.size ≤ b := hb; omega⟩
          have hoT := OwnT.add hownA htmsA hvaA hc6 hat6 ho6
          have hlv6 : ∀ b, b ∈ v.ownBlock.toList → w.heap.size + 3 ≤ b := by
            intro b hb
            cases hvo : v.ownBlock with
            | none => rw [hvo] at hb; cases hb
            | some g6 => rw [hvo] at hb; simp at hb; subst hb; exact (HLV.out b hvo).1
          have hr16 := ((((hr1N.drew).ch hc4 (by simp)).alloc (.cells #[.string x.name, .slice a5 x.args.length c5] 28)).ch hc6 (fun hm => by have := hlv6 _ hm; have := HE1.out; omega))
          have hB6 : Ch [] w w6 := (hB.trans hcA4).step hc6 (fun x hx => .inr (by have := hlv6 _ hx; omega))
          have hcS : Ch [B2] w6 (w6.setCell ⟨B2, 1, none⟩ (.slice a7 (css.length + 1) c7)) := (Ch.refl _ _).set (by simp) _
          have hlv7 : (css ++ [[Value.string x.name, Value.slice a5 x.args.length c5]]).length = css.length + 1 := by simp
          rw [hlv7] at hoT
          have hoF := hoT.ch hcS (by have := HE2.out; simp; omega)
          have hxx : (Tm.mk x.name x.args) = x := by cases x; rfl
          rw [hxx, ← HTS.out] at hoF
          have hr1F := hr16.far (p := ⟨B2, 1, none⟩) (by have := HE1.out; have := HE2.out; simp; omega) (.slice a7 (css.length + 1) c7)
          have hr2F : Blk (w6.setCell ⟨B2, 1, none⟩ (.slice a7 (css.length + 1) c7)) B2 28 #[.string nm, .slice a7 (css.length + 1) c7] := hr56.set_ 1 _
          have hBF : Ch [] w (w6.setCell ⟨B2, 1, none⟩ (.slice a7 (css.length + 1) c7)) := hB6.set (.inr (by have := HE2.out; simp; omega)) _
          have hszF : w.heap.size + 3 ≤ (w6.setCell ⟨B2, 1, none⟩ (.slice a7 (css.length + 1) c7)).heap.size := by have h1 := hcA4.size; have h2 := hc6.size; have h3 := hcS.size; omega
          generalize (w6.setCell ⟨B2, 1, none⟩ (.slice a7 (css.length + 1) c7)) = wF at *
          generalize css.length + 1 = nF at *
          clear hoT hr56 hr54 x1 x4 x5 x6 y6 hat6 ho6 hvaA htmsA hownA hcA4 hva htms hown hcall c0 c1 hcS hr16 hB6 hc4 hxx n0 n1
          go_wp2
          go_roundw
          case rel => exact ⟨k + 1, _, by omega, by go_num, hBF, hszF, hr1F, hr2F, hoF⟩
          case measure => simp [intOf]; omega
      · rw [List.take_of_length_le (by omega)] at ho
        have hfv : ∃ a n c, v = .slice a n c := by obtain ⟨css0, hw0, _⟩ := ho; obtain ⟨av, cv, e⟩ := hw0.form'; exact ⟨_, _, _, e⟩
        obtain ⟨av, nv, cv, rfl⟩ := hfv
        have y0 := hr2.cell 0
        have y1 := hr2.cell 1
        have z0 := hr1.cell 0
        have z1 := hr1.cell 1
        have f0 := hr1.frozen 0
        have f1 := hr1.frozen 1
        go_wp2
        exact clone_fin hr1 hB HE1.out _ (by rfl) (by rfl) ho.slt
end

section
open Go.RowKit

theorem role_ne (s : ByteArray) : (s.toList != [114, 111, 108, 101]) = !decide (s = bRole) := by rw [bne, role_eq]
theorem mem_stepRole {o : List Tm} {r : Ru} {t : Tm} (h : t ∈ stepRole o r) : t ∈ o ∨ r.head.args = [t] := by
  unfold stepRole at h
  split at h
  · split at h
    · rename_i x hx
      split at h
      · exact .inl h
      · rcases List.mem_append.1 h with h | h
        · exact .inl h
        · rw [List.mem_singleton] at h; subst h; exact .inr hx
    · exact .inl h
  · exact .inl h
theorem mem_rolesOf {l : List Ru} {t : Tm} (h : t ∈ rolesOf l) : ∃ r ∈ l, r.head.args = [t] := by
  have key : ∀ (l : List Ru) (o : List Tm), t ∈ l.foldl stepRole o → t ∈ o ∨ ∃ r ∈ l, r.head.args = [t] := by
    intro l
    induction l with
    | nil => intro o h; exact .inl h
    | cons r l ih =>
      intro o h
      rcases ih _ h with h | ⟨r', h1, h2⟩
      · rcases mem_stepRole h with h | h
        · exact .inl h
        · exact .inr ⟨r, by simp, h⟩
      · exact .inr ⟨r', by simp [h1], h2⟩
  rcases key l [] h with h | h
  · cases h
  · exact h
theorem rolesOf_len (l : List Ru) : (rolesOf l).length ≤ l.length := by
  have key : ∀ (l : List Ru) (o : List Tm), (l.foldl stepRole o).length ≤ o.length + l.length := by
    intro l
    induction l with
    | nil => intro o; simp
    | cons r l ih =>
      intro o
      have h1 := ih (stepRole o r)
      have h2 : (stepRole o r).length ≤ o.length + 1 := by
        unfold stepRole
        split
        · split
          · split <;> simp
          · omega
        · omega
      simp only [List.foldl_cons, List.length_cons]; omega
  have := key l []
  simp only [List.length_nil, Nat.zero_add] at this
  exact this
theorem RuOk.arg {B b : Nat} {r : Ru} (h : RuOk B b r) {x : Tm} (hx : r.head.args = [x]) : Nice B b x ∧ x.sz ≤ 1000 := by
  have h1 := h.nice r.head (by simp [atomsOf])
  have h2 := h.sz r.head (by simp [atomsOf])
  cases hr : r.head with
  | mk n ags =>
    rw [hr] at hx h1 h2
    simp only [Tm.args] at hx
    subst hx
    simp only [Nice, NiceL] at h1
    simp only [Tm.sz, szs] at h2
    exact ⟨h1.2.2.1, by omega⟩
theorem stepRole_no1 {o : List Tm} {r : Ru} (h : r.head.name ≠ bRole) : stepRole o r = o := rolesOf_skip h
theorem stepRole_no2 {o : List Tm} {r : Ru} (h : r.head.args.length ≠ 1) : stepRole o r = o := by
  unfold stepRole
  split
  · split
    · rename_i x hx; rw [hx] at h; simp at h
    · rfl
  · rfl
theorem stepRole_no3 {o : List Tm} {r : Ru} (h : r.body.length ≠ 0) : stepRole o r = o := by
  unfold stepRole; rw [if_neg (fun h2 => h h2.2)]
theorem stepRole_yes {o : List Tm} {r : Ru} {x : Tm} (h1 : r.head.name = bRole) (h2 : r.head.args = [x]) (h3 : r.body.length = 0) : stepRole o r = if memT o x = true then o else o ++ [x] := by
  unfold stepRole; rw [if_pos ⟨h1, h3⟩, h2]

set_option maxRecDepth 100000 in
set_option maxHeartbeats 8000000 in
theorem roles_ (p : Nat → Prop) (v : Value) (l : List Ru) (w : World) (B b : Nat) (h : SlR p w v l) (hO : ∀ r ∈ l, RuOk B b r) (hlen : l.length ≤ 1000000) :
    Calls Tryz.prog 14 #[v] w fun e w' => ∃ v', e = .returned v' ∧ OwnT w' w.heap.size v' (rolesOf l) ∧ Ch [] w w' := by
  obtain ⟨a, c, rfl, hlc, hm⟩ := h.form
  unfold maxLen at hm
  have HO := Lib.hid hO; clear hO
  go_enter Tryz.func14, Tryz.ntmps14
  go_wp2
  go_loopw [3, 5, 6, 9] (fun ov _ _ i wr => ∃ k : Nat, k ≤ l.length ∧ i = .int .i64 k ∧ Ch [] w wr ∧ OwnT wr w.heap.size ov (rolesOf (l.take k))) (fun _ _ _ i _ => l.length - (intOf i).toNat)
  case atStart => exact ⟨0, Nat.zero_le _, rfl, Ch.refl _ _, OwnT.nil _ _⟩
  case round =>
    obtain ⟨k, hk, rfl, hB, ho⟩ := hrel
    by_cases hlt : k < l.length
    · obtain ⟨bb, o, a', c', a'', c'', rfl, hp, c0, c1, c2, hT, hL⟩ := (h.ch0 hB).at_ hlt
      have HST := Lib.hid (rolesOf_snoc l k hlt)
      have hOk := HO.out _ (List.getElem_mem hlt)
      have hol : (rolesOf (l.take k)).length ≤ k := by have := rolesOf_len (l.take k); rw [List.length_take] at this; omega
      have HNI : Hid (∀ t ∈ rolesOf (l.take k), Nice B b t) := fun t ht => by
        obtain ⟨r, hr, e⟩ := mem_rolesOf ht
        exact ((HO.out r (List.mem_of_mem_take hr)).arg e).1
      generalize l[k] = r at *
      generalize rolesOf (l.take k) = L0 at *
      have HMT := Lib.hid (show ∀ x, memT L0 x = L0.any (fun u => tmEq u x) from fun _ => rfl)
      obtain ⟨wN, hwN⟩ : ∃ wN, wr.alloc (.cells #[.string r.head.name, .slice a' r.head.args.length c', .slice a'' r.body.length c''] 31) = wN := ⟨_, rfl⟩
      have hbn : Blk wN wr.heap.size 31 #[.string r.head.name, .slice a' r.head.args.length c', .slice a'' r.body.length c''] := by rw [← hwN]; exact Blk.new _ _ _
      have hcN : Ch [] wr wN := by rw [← hwN]; exact (Ch.refl _ _).alloc _
      have n0 := hbn.cell 0
      have n1 := hbn.cell 1
      have n2 := hbn.cell 2
      have er := role_ne r.head.name
      have er2 := role_eq r.head.name
      have hoN := ho.ch hcN (by simp)
      clear hL
      by_cases hq1 : r.head.name = bRole
      · rw [decide_eq_true hq1] at er er2
        by_cases hq2 : r.head.args.length = 1
        · obtain ⟨x, hx⟩ := List.length_eq_one_iff.1 hq2
          by_cases hq3 : r.body.length = 0
          · have HX0 : Hid (rolesOf (l.take (k + 1)) = if memT L0 x = true then L0 else L0 ++ [x]) := by unfold Hid; rw [HST.out, stepRole_yes hq1 hx hq3]
            obtain ⟨hnx, hsx⟩ := hOk.arg hx
            have hBB := hOk.B
            rw [hx] at hT
            rw [hq2] at hbn n1 hwN c1
            have hT : SlT p wr (.slice a' 1 c') [x] := hT
            rw [hq3] at hbn n2 hwN c2
            obtain ⟨bx, ox, ax, cx, rfl, hpx, x0, x1, hTx⟩ := hT.at_ (i := 0) (by simp)
            simp only [Nat.zero_mul, Nat.add_zero, List.getElem_cons_zero] at x0 x1 hTx
            have x0 := cell_ch x0 hcN (by simp)
            have x1 := cell_ch x1 hcN (by simp)
            clear hq1 hq2 hq3 hx HST hOk hT HO hbn
            obtain ⟨wX, hwX⟩ : ∃ wX, wN.alloc (.cells #[.string x.name, .slice ax x.args.length cx] 28) = wX := ⟨_, rfl⟩
            have hbX : Blk wX wN.heap.size 28 #[.string x.name, .slice ax x.args.length cx] := by rw [← hwX]; exact Blk.new _ _ _
            have hcX : Ch [] wN wX := by rw [← hwX]; exact (Ch.refl _ _).alloc _
            have hoX := hoN.ch hcX (by simp)
            have hTX := hTx.ch0 (hcN.trans hcX)
            have hany := any_role1 (fun t => tmEq t x) wN.heap.size _ u3 L0 wX hoX.slt (fun t ht q va wz hz hsz => role1_ t x wN.heap.size B b (HNI.out t ht) hnx hBB q _ va _ wz hsz (hTX.ch0 hz) (hbX.ch hz (by simp)))
            have hcl := fun wz (hz : Ch [] wX wz) => clone_ x.sz x (Nat.le_refl _) (by omega) _ _ wz (hTX.ch0 hz)
            rw [← HMT.out x] at hany
            clear hTX hTx hnx hBB HNI hoN
            generalize memT L0 x = mq at *
            have hx0 := fun wz (hz : Ch [] wX wz) => (hbX.ch hz (by simp)).cell 0
            have hx1 := fun wz (hz : Ch [] wX wz) => (hbX.ch hz (by simp)).cell 1
            cases mq with
            | true =>
              have HX : Hid (rolesOf (l.take (k + 1)) = L0) := by unfold Hid; rw [HX0.out, if_pos rfl]
              clear hcl HX0
              go_wp2_with (go_at_call 40; refine hany.mono ?_; rintro e w1 ⟨rfl, hc1⟩; clear hany)
              go_roundw
              case rel => exact ⟨k + 1, by omega, by go_num, ((hB.trans hcN).trans hcX).trans hc1, by rw [HX.out]; exact hoX.ch hc1 (by simp)⟩
              case measure => simp [intOf]; omega
            | false =>
              have HX : Hid (rolesOf (l.take (k + 1)) = L0 ++ [x]) := by unfold Hid; rw [HX0.out, if_neg (by simp)]
              clear HX0
              obtain ⟨css, hown, htms⟩ := hoX
              have hcsl : css.length = L0.length := htms.len
              have HCL := Lib.hid hcsl; clear hcsl
              have HLV := Lib.hid (show ∀ b, u3.ownBlock = some b → w.heap.size ≤ b ∧ b < wX.heap.size from fun b hb => hown.lt hb)
              have hszB := hB.size
              have hszN := hcN.size
              have hszX := hcX.size
              go_wp2_with (first
                | (go_at_call 40; refine hany.mono ?_; rintro e w1 ⟨rfl, hc1⟩; clear hany; have y0 := hx0 _ hc1; have y1 := hx1 _ hc1)
                | (go_at_call 43; refine (hcl _ hc1).mono ?_; rintro e w4 ⟨va, rfl, hva, hc4⟩; clear hcl; obtain ⟨a5, c5, rfl, hl5, hm5⟩ := hva.form)
                | (at_builtin; refine wpList_append_sl rfl _ _ _ rfl elT (base := w.heap.size) (v := u3) (css := css) rfl (((hown.ch0' hc1).ch0' hc4).ch0' ((Ch.refl [] w4).alloc _)) rfl (Sl.one w4 2 28 [.string x.name, .slice a5 x.args.length c5] rfl (by simp [Value.oneCell'])) (by have := HCL.out; simp; omega) (by have := hc1.size; have := hc4.size; simp; omega) ?_; intro v6 w6 ho6 hc6 hat6 hn6; clear hn6))
              have hcA4 : Ch [] wX (w4.alloc (.cells #[.string x.name, .slice a5 x.args.length c5] 28)) := (hc1.trans hc4).alloc _
              have hownA := hown.ch0' hcA4
              have htmsA := TmsR.imp (q := fun b => w.heap.size ≤ b ∧ u3.ownBlock ≠ some b) hcA4.size (fun b hb hp => ⟨hp, hcA4.block b hb (by simp)⟩) htms
              have hsz1 := hc1.size
              have hvaA : SlT (fun b => w.heap.size ≤ b ∧ u3.ownBlock ≠ some b) (w4.alloc (.cells #[.string x.name, .slice a5 x.args.length c5] 28)) (.slice a5 x.args.length c5) x.args :=
                (hva.ch0 ((Ch.refl _ _).alloc _)).weak fun b _ hb => ⟨by have : w1.heap.size ≤ b := hb; omega, fun e => by have := (HLV.out b e).2; have : w1.heap.size ≤ b := hb; omega⟩
              have hoT := OwnT.add hownA htmsA hvaA hc6 hat6 ho6
              have hxx : (Tm.mk x.name x.args) = x := by cases x; rfl
              rw [hxx, ← HX.out] at hoT
              have hlv6 : ∀ b, b ∈ u3.ownBlock.toList → w.heap.size ≤ b := by
                intro b hb
                cases hvo : u3.ownBlock with
                | none => rw [hvo] at hb; cases hb
                | some g6 => rw [hvo] at hb; simp at hb; subst hb; exact (HLV.out b hvo).1
              have hBF : Ch [] w w6 := (((hB.trans hcN).trans hcX).trans hcA4).step hc6 (fun x hx => .inr (hlv6 _ hx))
              clear hvaA htmsA hownA hcA4 ho6 hc6 hat6 htms hown hva hxx
              go_wp2
              go_roundw
              case rel => exact ⟨k + 1, by omega, by go_num, hBF, hoT⟩
              case measure => simp [intOf]; omega
          · have HX : Hid (rolesOf (l.take (k + 1)) = L0) := by unfold Hid; rw [HST.out, stepRole_no3 hq3]
            have d1 : decide ((0 : Int) < (r.body.length : Int)) = true := decide_eq_true (by omega)
            have d2 : decide (0 < r.body.length) = true := decide_eq_true (by omega)
            have d3 : ((r.head.args.length : Int) != 1) = false := by rw [hq2]; rfl
            clear hq1 hq2 hq3 hx HST hOk hT HO
            generalize r.body.length = bl at *
            generalize r.head.args.length = al at *
            generalize r.head.name = nm at *
            go_wp2
            go_roundw
            case rel => exact ⟨k + 1, by omega, by go_num, hB.trans hcN, by rw [HX.out]; exact hoN⟩
            case measure => simp [intOf]; omega
        · have HX : Hid (rolesOf (l.take (k + 1)) = L0) := by unfold Hid; rw [HST.out, stepRole_no2 hq2]
          have d3 : ((r.head.args.length : Int) != 1) = true := by simp; omega
          clear hq1 hq2 HST hOk hT HO
          generalize r.body.length = bl at *
          generalize r.head.args.length = al at *
          generalize r.head.name = nm at *
          go_wp2
          go_roundw
          case rel => exact ⟨k + 1, by omega, by go_num, hB.trans hcN, by rw [HX.out]; exact hoN⟩
          case measure => simp [intOf]; omega
      · rw [decide_eq_false hq1] at er er2
        have HX : Hid (rolesOf (l.take (k + 1)) = L0) := by unfold Hid; rw [HST.out, stepRole_no1 hq1]
        clear hq1 HST hOk hT HO
        generalize r.body.length = bl at *
        generalize r.head.args.length = al at *
        generalize r.head.name = nm at *
        go_wp2
        go_roundw
        case rel => exact ⟨k + 1, by omega, by go_num, hB.trans hcN, by rw [HX.out]; exact hoN⟩
        case measure => simp [intOf]; omega
    · rw [List.take_of_length_le (by omega)] at ho
      go_wp2
      go_ret
      exact ⟨_, rfl, ho, hB⟩

set_option maxRecDepth 100000 in
set_option maxHeartbeats 2000000 in
theorem chance_ (p : Nat → Prop) (v : Value) (l : List Ru) (w : World) (B b : Nat) (h : SlR p w v l) (hO : ∀ r ∈ l, RuOk B b r) (hlen : l.length ≤ 1000000) :
    Calls Tryz.prog 15 #[v] w fun e w' => e = .returned (.int .i64 (chanceOf l)) ∧ Ch [] w w' := by
  have hr := roles_ p v l w B b h hO hlen
  have HC := Lib.hid (show chanceOf l = idxOf isChance (rolesOf l) from rfl)
  obtain ⟨a, c, rfl, hlc, hm⟩ := h.form
  go_enter Tryz.func15, Tryz.ntmps15
  go_wp2_with (first
    | (go_at_call 14; refine hr.mono ?_; rintro e w1 ⟨v1, rfl, ho, hc1⟩; clear hr; have hi := idx_chance1 isChance _ v1 (rolesOf l) w1 ho.slt (fun t _ q va wz hz => by obtain ⟨a2, c2, rfl, _, _⟩ := hz.form; exact chance1_ _ _ _ _ _))
    | (go_at_call 44; refine hi.mono ?_; rintro e w2 ⟨rfl, hc2⟩; clear hi))
  go_ret
  exact ⟨by rw [HC.out]; rfl, hc1.trans hc2⟩
end
end Go.Proofs.YtgljjapglgcpdaaGreatDoor
