
/-
  The contracts of cmp.Compare, cmp.Or and slices.Compare over numbers, and of ground.compare.
  The contracts of ground.listed and of ref13.Atoms.
  The contract of ground.Valid.
-/
import Derived.Test.YtojokdicbopknaaGreatGdNum
namespace Go.Proofs.YtojokdicbopknaaGreat

section
open Go.RowKit

theorem isNaNZ_ (a : Int) (w : World) : Calls Tryz.prog 92 #[.int .i64 a] w fun e w' => e = .returned (.bool false) ∧ w = w' := by
  have h : (a != a) = false := by simp
  go_enter Tryz.func92, Tryz.ntmps92
  go_wp2
  go_ret
  exact ⟨by first | rfl | simp, rfl⟩
set_option maxRecDepth 100000 in
theorem cmpI_ (a b : Int) (w : World) : Calls Tryz.prog 70 #[.int .i64 a, .int .i64 b] w fun e w' => e = .returned (.int .i64 (ordI a b)) ∧ w = w' := by
  have HO := Lib.hid (show ordI a b = if a < b then -1 else if b < a then 1 else 0 from rfl)
  generalize ordI a b = r at *
  by_cases h1 : a < b
  · have d1 : decide (a < b) = true := decide_eq_true h1
    have HR : Hid (r = -1) := by unfold Hid; rw [HO.out, if_pos h1]
    clear h1 HO
    go_enter Tryz.func70, Tryz.ntmps70
    go_wp2_with (go_at_call 92; refine (isNaNZ_ _ _).mono ?_; rintro e w1 ⟨rfl, rfl⟩)
    go_ret
    exact ⟨by rw [HR.out]; rfl, rfl⟩
  · have d1 : decide (a < b) = false := decide_eq_false h1
    by_cases h2 : b < a
    · have d2 : decide (b < a) = true := decide_eq_true h2
      have HR : Hid (r = 1) := by unfold Hid; rw [HO.out, if_neg h1, if_pos h2]
      clear h1 h2 HO
      go_enter Tryz.func70, Tryz.ntmps70
      go_wp2_with (go_at_call 92; refine (isNaNZ_ _ _).mono ?_; rintro e w1 ⟨rfl, rfl⟩)
      go_ret
      exact ⟨by rw [HR.out]; rfl, rfl⟩
    · have d2 : decide (b < a) = false := decide_eq_false h2
      have HR : Hid (r = 0) := by unfold Hid; rw [HO.out, if_neg h1, if_neg h2]
      clear h1 h2 HO
      go_enter Tryz.func70, Tryz.ntmps70
      go_wp2_with (go_at_call 92; refine (isNaNZ_ _ _).mono ?_; rintro e w1 ⟨rfl, rfl⟩)
      go_ret
      exact ⟨by rw [HR.out]; rfl, rfl⟩

set_option maxRecDepth 100000 in
set_option maxHeartbeats 2000000 in
theorem cmpIs_ (p q : Nat → Prop) (va vb : Value) (xs ys : List Int) (w : World) (h : SlI p w va xs) (h' : SlI q w vb ys) :
    Calls Tryz.prog 71 #[va, vb] w fun e w' => e = .returned (.int .i64 (cmpIs xs ys)) ∧ w = w' := by
  obtain ⟨a, c, rfl, hlc, hmx⟩ := h.form
  obtain ⟨b, d, rfl, hld, hmy⟩ := h'.form
  unfold maxLen at hmx hmy
  have HAt := Lib.hid (fun k h1 h2 hn hne => (cmpIs_at xs ys k h1 h2 hn hne).1)
  have HEnd := Lib.hid (fun hn => (cmpIs_end xs ys hn).1)
  have H := Lib.hid h
  have H' := Lib.hid h'
  clear h h'
  generalize cmpIs xs ys = R at *
  go_enter Tryz.func71, Tryz.ntmps71
  go_wp2
  go_loop [5, 6, 7, 8, 11] (fun _ _ _ _ i => ∃ k : Nat, k ≤ xs.length ∧ k ≤ ys.length ∧ i = .int .i64 k ∧ Hid (∀ j (h1 : j < xs.length) (h2 : j < ys.length), j < k → xs[j] = ys[j])) (fun _ _ _ _ i => xs.length - (intOf i).toNat)
  case atStart => exact ⟨0, Nat.zero_le _, Nat.zero_le _, rfl, fun j _ _ h => absurd h (Nat.not_lt_zero _)⟩
  case round =>
    obtain ⟨k, hk1, hk2, rfl, HN⟩ := hrel
    by_cases h1 : k < xs.length
    · have j1 : decide (k < xs.length) = true := decide_eq_true h1
      obtain ⟨ba, oa, rfl, hp1, c0⟩ := H.out.at_ h1
      by_cases h2 : k < ys.length
      · have j2 : decide (ys.length ≤ k) = false := decide_eq_false (by omega)
        obtain ⟨bb, ob, rfl, hp2, c1⟩ := H'.out.at_ h2
        have HA := Lib.hid (HAt.out k h1 h2 (fun j hj => HN.out j _ _ hj))
        have HX : Hid (xs[k] = ys[k] → ∀ j (h1 : j < xs.length) (h2 : j < ys.length), j < k + 1 → xs[j] = ys[j]) := fun h0 j g1 g2 g3 => by
          rcases Nat.lt_succ_iff_lt_or_eq.1 g3 with g4 | g4
          · exact HN.out j g1 g2 g4
          · subst g4; exact h0
        generalize xs[k] = x at *
        generalize ys[k] = y at *
        have hcm := fun wz => cmpI_ x y wz
        by_cases hz : x = y
        · have HY := Lib.hid (HX.out hz)
          rw [ordI_zero.2 hz] at hcm
          clear hz
          go_wp2_with (go_at_call 70; refine (hcm _).mono ?_; rintro e w1 ⟨rfl, rfl⟩; clear hcm)
          go_round
          case rel => exact ⟨k + 1, by omega, by omega, by go_num, HY⟩
          case measure => simp [intOf]; omega
        · have HF := Lib.hid (HA.out hz)
          have hr : ordI x y ≠ 0 := fun h => hz (ordI_zero.1 h)
          generalize ordI x y = r at *
          have e1 : (r != 0) = true := by simpa using hr
          clear hz hr
          go_wp2_with (go_at_call 70; refine (hcm _).mono ?_; rintro e w1 ⟨rfl, rfl⟩; clear hcm)
          go_ret
          exact ⟨by rw [HF.out]; rfl, rfl⟩
      · have j2 : decide (ys.length ≤ k) = true := decide_eq_true (by omega)
        have HF : Hid (R = 1) := by
          unfold Hid
          rw [HEnd.out (fun j g1 g2 => HN.out j g1 g2 (by omega))]
          have := ordI_cases (xs.length : Int) (ys.length : Int)
          omega
        go_wp2
        go_ret
        exact ⟨by rw [HF.out]; rfl, rfl⟩
    · have j1 : decide (k < xs.length) = false := decide_eq_false h1
      have HE := Lib.hid (HEnd.out (fun j g1 g2 => HN.out j g1 g2 (by omega)))
      by_cases h2 : xs.length < ys.length
      · have j2 : decide (xs.length < ys.length) = true := decide_eq_true h2
        have HF : Hid (R = -1) := by
          unfold Hid; rw [HE.out]
          have := ordI_cases (xs.length : Int) (ys.length : Int)
          omega
        clear h2
        go_wp2
        go_ret
        exact ⟨by rw [HF.out]; rfl, rfl⟩
      · have j2 : decide (xs.length < ys.length) = false := decide_eq_false h2
        have HF : Hid (R = 0) := by
          unfold Hid; rw [HE.out]
          have := ordI_cases (xs.length : Int) (ys.length : Int)
          omega
        clear h2
        go_wp2
        go_ret
        exact ⟨by rw [HF.out]; rfl, rfl⟩

/-- the first number that is not 0 -/
def orZ : List Int → Int
  | [] => 0
  | x :: l => if x ≠ 0 then x else orZ l
theorem orZ_at : ∀ (xs : List Int) (k : Nat) (h : k < xs.length), (∀ j (hj : j < k), xs[j]'(by omega) = 0) → xs[k] ≠ 0 → orZ xs = xs[k]
  | [], _, h, _, _ => by simp at h
  | x :: l, 0, _, _, hk => by simp only [List.getElem_cons_zero] at hk ⊢; unfold orZ; rw [if_pos hk]
  | x :: l, k + 1, h, hn, hk => by
    have h0 : x = 0 := hn 0 (by omega)
    simp only [List.getElem_cons_succ] at hk ⊢
    unfold orZ
    rw [if_neg (fun h => h h0)]
    exact orZ_at l k (by simpa using h) (fun j hj => by simpa using hn (j + 1) (by omega)) hk
theorem orZ_none : ∀ xs : List Int, (∀ j (hj : j < xs.length), xs[j] = 0) → orZ xs = 0
  | [], _ => rfl
  | x :: l, hn => by
    have h0 : x = 0 := hn 0 (by simp)
    unfold orZ
    rw [if_neg (fun h => h h0)]
    exact orZ_none l (fun j hj => by have := hn (j + 1) (by simpa using hj); simpa only [List.getElem_cons_succ] using this)
theorem orZ_gr (a b : Gr) : orZ [ordI a.h b.h, cmpIs a.ps b.ps, cmpIs a.ns b.ns] = cmpGr a b := by
  unfold cmpGr orZ orZ orZ orZ
  by_cases h1 : ordI a.h b.h = 0
  · by_cases h2 : cmpIs a.ps b.ps = 0
    · by_cases h3 : cmpIs a.ns b.ns = 0 <;> simp [h1, h2, h3]
    · simp [h1, h2]
  · simp [h1]

set_option maxRecDepth 100000 in
set_option maxHeartbeats 2000000 in
theorem or_ (p : Nat → Prop) (v : Value) (xs : List Int) (w : World) (h : SlI p w v xs) :
    Calls Tryz.prog 69 #[v] w fun e w' => e = .returned (.int .i64 (orZ xs)) ∧ w = w' := by
  obtain ⟨a, c, rfl, hlc, hmx⟩ := h.form
  unfold maxLen at hmx
  have HAt := Lib.hid (fun k h1 hn hne => orZ_at xs k h1 hn hne)
  have HEnd := Lib.hid (orZ_none xs)
  have H := Lib.hid h
  clear h
  generalize orZ xs = R at *
  go_enter Tryz.func69, Tryz.ntmps69
  go_wp2
  go_loop [5, 8] (fun _ i => ∃ k : Nat, k ≤ xs.length ∧ i = .int .i64 k ∧ Hid (∀ j (h1 : j < xs.length), j < k → xs[j] = 0)) (fun _ i => xs.length - (intOf i).toNat)
  case atStart => exact ⟨0, Nat.zero_le _, rfl, fun j _ h => absurd h (Nat.not_lt_zero _)⟩
  case round =>
    obtain ⟨k, hk, rfl, HN⟩ := hrel
    by_cases hlt : k < xs.length
    · have j1 : decide (k < xs.length) = true := decide_eq_true hlt
      obtain ⟨ba, oa, rfl, hp1, c0⟩ := H.out.at_ hlt
      have HA := Lib.hid (HAt.out k hlt (fun j hj => HN.out j _ hj))
      have HX : Hid (xs[k] = 0 → ∀ j (h1 : j < xs.length), j < k + 1 → xs[j] = 0) := fun h0 j g1 g3 => by
        rcases Nat.lt_succ_iff_lt_or_eq.1 g3 with g4 | g4
        · exact HN.out j g1 g4
        · subst g4; exact h0
      generalize xs[k] = x at *
      by_cases hz : x = 0
      · subst hz
        have HY := Lib.hid (HX.out rfl)
        go_wp2
        go_round
        case rel => exact ⟨k + 1, by omega, by go_num, HY⟩
        case measure => simp [intOf]; omega
      · have HF := Lib.hid (HA.out hz)
        have e1 : (x != 0) = true := by simpa using hz
        clear hz
        go_wp2
        go_ret
        exact ⟨by rw [HF.out]; rfl, rfl⟩
    · have j1 : decide (k < xs.length) = false := decide_eq_false hlt
      have HF := Lib.hid (HEnd.out (fun j g1 => HN.out j g1 (by omega)))
      go_wp2
      go_ret
      exact ⟨by rw [HF.out]; rfl, rfl⟩

theorem SlI.box3 (w : World) (t : TypeId) (x y z : Int) : SlI (fun b => b = w.heap.size) (w.alloc (.cells #[.int .i64 x, .int .i64 y, .int .i64 z] t)) (.slice (some ⟨w.heap.size, 0, none⟩) 3 3) [x, y, z] := by
  refine ⟨_, 3, rfl, by simp, by decide, fun i cs hi => ?_⟩
  have hb := Blk.new w t #[.int .i64 x, .int .i64 y, .int .i64 z]
  match i, hi with
  | 0, hi => simp at hi; subst hi; exact ⟨⟨rfl, by simp [encI, Value.oneCell']⟩, _, 0, rfl, ⟨rfl, by simp⟩, fun j u hu => by cases j <;> simp [encI] at hu; subst hu; rw [hb.cell]; simp⟩
  | 1, hi => simp at hi; subst hi; exact ⟨⟨rfl, by simp [encI, Value.oneCell']⟩, _, 0, rfl, ⟨rfl, by simp⟩, fun j u hu => by cases j <;> simp [encI] at hu; subst hu; rw [hb.cell]; simp⟩
  | 2, hi => simp at hi; subst hi; exact ⟨⟨rfl, by simp [encI, Value.oneCell']⟩, _, 0, rfl, ⟨rfl, by simp⟩, fun j u hu => by cases j <;> simp [encI] at hu; subst hu; rw [hb.cell]; simp⟩
  | i + 3, hi => simp at hi

set_option maxRecDepth 100000 in
set_option maxHeartbeats 4000000 in
theorem compareG_ (x y : Gr) (p q : Nat → Prop) (va vb vc vd : Value) (w : World) (h1 : SlI p w va x.ps) (h2 : SlI p w vb x.ns) (h3 : SlI q w vc y.ps) (h4 : SlI q w vd y.ns) :
    Calls Tryz.prog 49 #[.agg #[.int .i64 x.h, va, vb], .agg #[.int .i64 y.h, vc, vd]] w fun e w' => e = .returned (.int .i64 (cmpGr x y)) ∧ Ch [] w w' := by
  have HR := Lib.hid (orZ_gr x y)
  have hA := fun wz (hz : Ch [] w wz) => cmpIs_ p q va vc x.ps y.ps wz (h1.ch0 hz) (h3.ch0 hz)
  have hB := fun wz (hz : Ch [] w wz) => cmpIs_ p q vb vd x.ns y.ns wz (h2.ch0 hz) (h4.ch0 hz)
  have hC := fun wz => cmpI_ x.h y.h wz
  have hO := fun wz => or_ _ _ _ _ ((SlI.box3 wz 3 (ordI x.h y.h) (cmpIs x.ps y.ps) (cmpIs x.ns y.ns)).ch0 ((Ch.refl [] _).drew))
  obtain ⟨a1, c1, rfl, _, _⟩ := h1.form
  obtain ⟨a2, c2, rfl, _, _⟩ := h2.form
  obtain ⟨a3, c3, rfl, _, _⟩ := h3.form
  obtain ⟨a4, c4, rfl, _, _⟩ := h4.form
  clear h1 h2 h3 h4
  generalize cmpGr x y = R at *
  generalize cmpIs x.ps y.ps = r2 at *
  generalize cmpIs x.ns y.ns = r3 at *
  generalize ordI x.h y.h = r1 at *
  rw [HR.out] at hO
  generalize x.h = xh at *
  generalize y.h = yh at *
  generalize x.ps.length = n1 at *
  generalize x.ns.length = n2 at *
  generalize y.ps.length = n3 at *
  generalize y.ns.length = n4 at *
  obtain ⟨wB, hwB⟩ : ∃ wB, (w.alloc (.cells #[.int .i64 xh, .slice a1 n1 c1, .slice a2 n2 c2] 44)).alloc (.cells #[.int .i64 yh, .slice a3 n3 c3, .slice a4 n4 c4] 44) = wB := ⟨_, rfl⟩
  have g0 : Blk wB w.heap.size 44 #[.int .i64 xh, .slice a1 n1 c1, .slice a2 n2 c2] := by rw [← hwB]; exact (Blk.new _ _ _).alloc _
  have g1 : Blk wB (w.heap.size + 1) 44 #[.int .i64 yh, .slice a3 n3 c3, .slice a4 n4 c4] := by rw [← hwB]; exact Blk.new' _ _ _ _ (by simp)
  have hcB : Ch [] w wB := by rw [← hwB]; exact ((Ch.refl _ _).alloc _).alloc _
  have b0 := g0.cell 0
  have b1 := g0.cell 1
  have b2 := g0.cell 2
  have b3 := g1.cell 0
  have b4 := g1.cell 1
  have b5 := g1.cell 2
  have z0 := World.new_ne wB _ b0
  have z1 := World.new_ne wB _ b3
  go_enter Tryz.func49, Tryz.ntmps49
  go_wp2
  go_region_held3 (fun w' => w'.cell? ⟨w.heap.size, 0, none⟩ = some (.int .i64 xh) ∧ w'.cell? ⟨w.heap.size, 1, none⟩ = some (.slice a1 n1 c1) ∧ w'.cell? ⟨w.heap.size, 2, none⟩ = some (.slice a2 n2 c2) ∧ w'.cell? ⟨w.heap.size + 1, 0, none⟩ = some (.int .i64 yh) ∧ w'.cell? ⟨w.heap.size + 1, 1, none⟩ = some (.slice a3 n3 c3) ∧ w'.cell? ⟨w.heap.size + 1, 2, none⟩ = some (.slice a4 n4 c4)) (go_keep) (first
    | (go_at_call 70; with_reducible refine (hC _).mono ?_; rintro e w1 ⟨rfl, rfl⟩)
    | (go_at_call_of 71 (Value.slice a1 n1 c1); with_reducible refine (hA _ hcB.drew).mono ?_; rintro e w1 ⟨rfl, rfl⟩)
    | (go_at_call_of 71 (Value.slice a2 n2 c2); with_reducible refine (hB _ hcB.drew).mono ?_; rintro e w1 ⟨rfl, rfl⟩)
    | (go_at_call 69; with_reducible refine (hO _).mono ?_; rintro e w1 ⟨rfl, rfl⟩))
  all_goals
    go_wp2
    go_ret
    exact ⟨rfl, (hcB.alloc _).drew⟩
end

section
open Go.RowKit

theorem nice_name {B b : Nat} {t : Tm} (h : Nice B b t) : t.name.size ≤ B := by
  obtain ⟨n, ags⟩ := t
  simp only [Nice] at h
  exact h.1

set_option maxRecDepth 100000 in
set_option maxHeartbeats 8000000 in
theorem listed_ (A : List Tm) (B b : Nat) (hN : ∀ t ∈ A, Nice B b t) (hBm : B ≤ maxLen) (p : Nat → Prop) (v : Value) (w : World) (h : SlT p w v A) (hd : ∀ t ∈ A, t.dep ≤ 1000000) (hlen : A.length ≤ 1000000) :
    Calls Tryz.prog 46 #[v] w fun e w' => e = .returned (.bool (atmsOk A)) ∧ Ch [] w w' := by
  obtain ⟨a, c, rfl, hlc, hm⟩ := h.form
  unfold maxLen at hm
  have HN0 := Lib.hid hN; clear hN
  have HBM := Lib.hid hBm; clear hBm
  have HD := Lib.hid hd; clear hd
  have HG : Hid (atmsOk A = (decide (A.length ≤ 512) && chainB atmOk ltT A)) := rfl
  generalize atmsOk A = R at *
  by_cases h5 : 512 < A.length
  · have j0 : decide ((512 : Int) < (A.length : Int)) = true := decide_eq_true (by omega)
    have HF : Hid (R = false) := by unfold Hid; rw [HG.out, decide_eq_false (by omega)]; rfl
    clear HG h5
    go_enter Tryz.func46, Tryz.ntmps46
    go_wp2
    go_ret
    exact ⟨by rw [HF.out]; rfl, Ch.refl _ _⟩
  have j0 : decide ((512 : Int) < (A.length : Int)) = false := decide_eq_false (by omega)
  have HR : Hid (R = chainB atmOk ltT A) := by unfold Hid; rw [HG.out, decide_eq_true (by omega)]; rfl
  have HBad0 : Hid (∀ i (hi : i < A.length), atmOk A[i] = false → R = false) := fun i hi hq => by rw [HR.out]; exact chainB_bad hi (.inl hq)
  have HBad1 : Hid (∀ i (hi : i < A.length) (h0 : 0 < i), ltT (A[i - 1]'(by omega)) A[i] = false → R = false) := fun i hi h0 hq => by rw [HR.out]; exact chainB_bad hi (.inr ⟨h0, hq⟩)
  have HEnd : Hid ((∀ i (hi : i < A.length), atmOk A[i] = true ∧ ∀ (h0 : 0 < i), ltT (A[i - 1]'(by omega)) A[i] = true) → R = true) := fun hq => by
    rw [HR.out]; exact chainB_good (fun i hi => (hq i hi).1) (fun i hi h0 => (hq i hi).2 h0)
  clear HG HR h5
  go_enter Tryz.func46, Tryz.ntmps46
  go_wp2
  go_loopw [3, 4, 10] (fun _ _ i wr => ∃ k : Nat, k ≤ A.length ∧ i = .int .i64 k ∧ Ch [] w wr ∧ Hid (∀ j (hj : j < A.length), j < k → atmOk A[j] = true ∧ ∀ (h0 : 0 < j), ltT (A[j - 1]'(by omega)) A[j] = true)) (fun _ _ i _ => A.length - (intOf i).toNat)
  case atStart => exact ⟨0, Nat.zero_le _, rfl, Ch.refl _ _, fun j _ h => absurd h (Nat.not_lt_zero _)⟩
  case round =>
    obtain ⟨k, hk, rfl, hB, HN⟩ := hrel
    by_cases hlt : k < A.length
    · have j1 : decide (k < A.length) = true := decide_eq_true hlt
      obtain ⟨bk, o, a', c', rfl, hp, d0, d1, hT⟩ := (h.ch0 hB).at_ hlt
      have HB0 := Lib.hid (HBad0.out k hlt)
      have hNt := HN0.out _ (List.getElem_mem hlt)
      have hdt := HD.out _ (List.getElem_mem hlt)
      have HPre : Hid (∀ (h0 : 0 < k), ∃ a3 c3, wr.cell? ⟨bk, o + (k - 1) * 2, none⟩ = some (.string (A[k - 1]'(by omega)).name) ∧ wr.cell? ⟨bk, o + (k - 1) * 2 + 1, none⟩ = some (.slice a3 (A[k - 1]'(by omega)).args.length c3) ∧ SlT p wr (.slice a3 (A[k - 1]'(by omega)).args.length c3) (A[k - 1]'(by omega)).args ∧ Nice B b (A[k - 1]'(by omega)) ∧ (A[k - 1]'(by omega)).dep ≤ 1000000) := fun h0 => by
        have hk1 : k - 1 < A.length := by omega
        obtain ⟨b2, o2, a3, c3, e, _, e0, e1, hT2⟩ := (h.ch0 hB).at_ hk1
        injection e with e
        injection e with e1' e2'
        subst e1' e2'
        exact ⟨a3, c3, e0, e1, hT2, HN0.out _ (List.getElem_mem hk1), HD.out _ (List.getElem_mem hk1)⟩
      have HNx : Hid (atmOk A[k] = true → (∀ (h0 : 0 < k), ltT (A[k - 1]'(by omega)) A[k] = true) → ∀ j (hj : j < A.length), j < k + 1 → atmOk A[j] = true ∧ ∀ (h0 : 0 < j), ltT (A[j - 1]'(by omega)) A[j] = true) := fun h1 h2 j hj h3 => by
        rcases Nat.lt_succ_iff_lt_or_eq.1 h3 with h4 | h4
        · exact HN.out j hj h4
        · subst h4; exact ⟨h1, h2⟩
      have HB1 := Lib.hid (HBad1.out k hlt)
      have hdis := dis_eq A[k].name
      have HOK : Hid (atmOk A[k] = (!decide (A[k].name = dis) && (nameB A[k].name && grdT 4 A[k]))) := rfl
      have hsz : A[k].name.size ≤ maxLen := by
        have := nice_name hNt
        have := HBM.out
        omega
      generalize hx : A[k] = x at *
      clear hx
      have hcN : Ch [] wr (wr.alloc (.cells #[.string x.name, .slice a' x.args.length c'] 59)) := (Ch.refl _ _).alloc _
      have hbn := Blk.new wr 59 #[.string x.name, .slice a' x.args.length c']
      have l0 := Later.cell (hbn.cell 0)
      have l1 := Later.cell (hbn.cell 1)
      have m0 := Later.cell (cell_ch d0 hcN (by simp))
      have m1 := Later.cell (cell_ch d1 hcN (by simp))
      have hTN := hT.ch0 hcN
      generalize hwN : (wr.alloc (.cells #[.string x.name, .slice a' x.args.length c'] 59)) = wN at *
      have qn := fun y : Later wN => later_call (name_ x.name y.w hsz)
      have qg := fun y : Later wN => later_call (groundT_ x B b hNt HBM.out p _ y.w (hTN.ch0 y.ch))
      clear hTN hsz
      generalize decide (x.name = dis) = q1 at *
      generalize nameB x.name = q2 at *
      generalize grdT 4 x = q3 at *
      by_cases hok : (!q1 && (q2 && q3)) = true
      · simp only [Bool.and_eq_true, Bool.not_eq_true'] at hok
        obtain ⟨rfl, rfl, rfl⟩ := hok
        have HOK2 : Hid (atmOk x = true) := by unfold Hid; rw [HOK.out]; rfl
        clear HB0 HOK
        cases k with
        | zero =>
          have HY := Lib.hid (HNx.out HOK2.out (fun h0 => absurd h0 (by omega)))
          simp only [Nat.zero_mul, Nat.add_zero] at m0 m1 l0 l1 d0 d1
          go_wp2
          refine wp_region_later (by kernel_rfl) (lexB_of (by kernel_rfl)) ?_
          repeat (go_big_quiet_step (first | ((go_at_call 64; with_reducible exact qn _)) | ((go_at_call 65; with_reducible exact qg _))))
          refine wpQuiet_nil ?_
          intro w3 hw3
          clear l0 l1 m0 m1
          go_wp2
          go_roundw
          case rel => exact ⟨1, by omega, by go_num, hB.trans (hcN.trans hw3), HY⟩
          case measure => simp [intOf]; omega
        | succ j =>
          obtain ⟨a3, c3, n0, n1, hT3, hN3, hd3⟩ := HPre.out (by omega)
          have HNy := Lib.hid (fun (hq : ltT (A[j]'(by omega)) x = true) => HNx.out HOK2.out (fun _ => hq))
          clear HPre HNx
          simp only [Nat.add_sub_cancel] at n0 n1 hT3 hN3 hd3 HB1
          obtain ⟨hj1, hj2, hj3⟩ := wrap_sub1 j (by omega)
          have n0 := Later.cell (cell_ch n0 hcN (by simp))
          have n1 := Later.cell (cell_ch n1 hcN (by simp))
          have HB2 := Lib.hid (HB1.out (by omega))
          clear HB1
          generalize A[j]'(by omega) = y at *
          have qc := fun z : Later wN => later_call (compare_ 1000000 y x hd3 B b hN3 hNt HBM.out p p _ _ z.w ((hT3.ch0 hcN).ch0 z.ch) ((hT.ch0 hcN).ch0 z.ch))
          have HLT : Hid (ltT y x = decide (cmpT y x < 0)) := rfl
          generalize cmpT y x = r at *
          by_cases hr : 0 ≤ r
          · have j2 : decide (0 ≤ r) = true := decide_eq_true hr
            have HF := Lib.hid (HB2.out (by rw [HLT.out]; exact decide_eq_false (by omega)))
            clear hr
            go_wp2
            refine wp_region_later (by kernel_rfl) (lexB_of (by kernel_rfl)) ?_
            repeat (go_big_quiet_step (first | ((go_at_call 64; with_reducible exact qn _)) | ((go_at_call 65; with_reducible exact qg _)) | ((go_at_call 66; with_reducible exact qc _))))
            refine wpQuiet_nil ?_
            intro w3 hw3
            clear l0 l1 m0 m1 n0 n1
            go_wp2
            go_ret
            exact ⟨by rw [HF.out]; rfl, hB.trans (hcN.trans hw3)⟩
          · have j2 : decide (0 ≤ r) = false := decide_eq_false hr
            have HY := Lib.hid (HNy.out (by rw [HLT.out]; exact decide_eq_true (by omega)))
            clear hr
            go_wp2
            refine wp_region_later (by kernel_rfl) (lexB_of (by kernel_rfl)) ?_
            repeat (go_big_quiet_step (first | ((go_at_call 64; with_reducible exact qn _)) | ((go_at_call 65; with_reducible exact qg _)) | ((go_at_call 66; with_reducible exact qc _))))
            refine wpQuiet_nil ?_
            intro w3 hw3
            clear l0 l1 m0 m1 n0 n1 hj1 hj2 hj3
            go_wp2
            go_roundw
            case rel => exact ⟨j + 1 + 1, by omega, by go_num, hB.trans (hcN.trans hw3), HY⟩
            case measure => simp [intOf]; omega
      · have HF := Lib.hid (HB0.out (by rw [HOK.out]; simpa using hok))
        clear HB0 HB1 HOK HNx HPre
        cases q1
        · skip
          cases q2
          · clear hok
            go_wp2
            refine wp_region_later (by kernel_rfl) (lexB_of (by kernel_rfl)) ?_
            repeat (go_big_quiet_step (first | ((go_at_call 64; with_reducible exact qn _)) | ((go_at_call 65; with_reducible exact qg _))))
            refine wpQuiet_nil ?_
            intro w3 hw3
            clear l0 l1 m0 m1
            go_wp2
            go_ret
            exact ⟨by rw [HF.out]; rfl, hB.trans (hcN.trans hw3)⟩
          · skip
            cases q3
            · clear hok
              go_wp2
              refine wp_region_later (by kernel_rfl) (lexB_of (by kernel_rfl)) ?_
              repeat (go_big_quiet_step (first | ((go_at_call 64; with_reducible exact qn _)) | ((go_at_call 65; with_reducible exact qg _))))
              refine wpQuiet_nil ?_
              intro w3 hw3
              clear l0 l1 m0 m1
              go_wp2
              go_ret
              exact ⟨by rw [HF.out]; rfl, hB.trans (hcN.trans hw3)⟩
            · exact absurd rfl hok
        · clear hok
          go_wp2
          refine wp_region_later (by kernel_rfl) (lexB_of (by kernel_rfl)) ?_
          repeat (go_big_quiet_step (first | ((go_at_call 64; with_reducible exact qn _)) | ((go_at_call 65; with_reducible exact qg _))))
          refine wpQuiet_nil ?_
          intro w3 hw3
          clear l0 l1 m0 m1
          go_wp2
          go_ret
          exact ⟨by rw [HF.out]; rfl, hB.trans (hcN.trans hw3)⟩
    · have j1 : decide (k < A.length) = false := decide_eq_false hlt
      have HF := Lib.hid (HEnd.out (fun i hi => HN.out i hi (by omega)))
      go_wp2
      go_ret
      exact ⟨by rw [HF.out]; rfl, hB⟩

set_option maxRecDepth 100000 in
set_option maxHeartbeats 8000000 in
theorem refAtoms13_ (A : List Tm) (B b : Nat) (hN : ∀ t ∈ A, Nice B b t) (hBm : B ≤ maxLen) (p : Nat → Prop) (v : Value) (w : World) (h : SlT p w v A) (hd : ∀ t ∈ A, t.dep ≤ 1000000) (hlen : A.length ≤ 1000000) :
    Calls Tryz.prog 54 #[v] w fun e w' => e = .returned (.bool (atmsOk A)) ∧ Ch [] w w' := by
  obtain ⟨a, c, rfl, hlc, hm⟩ := h.form
  unfold maxLen at hm
  have HN0 := Lib.hid hN; clear hN
  have HBM := Lib.hid hBm; clear hBm
  have HD := Lib.hid hd; clear hd
  have HG : Hid (atmsOk A = (decide (A.length ≤ 512) && chainB atmOk ltT A)) := rfl
  generalize atmsOk A = R at *
  by_cases h5 : 512 < A.length
  · have j0 : decide ((512 : Int) < (A.length : Int)) = true := decide_eq_true (by omega)
    have HF : Hid (R = false) := by unfold Hid; rw [HG.out, decide_eq_false (by omega)]; rfl
    clear HG h5
    go_enter Tryz.func54, Tryz.ntmps54
    go_wp2
    go_ret
    exact ⟨by rw [HF.out]; rfl, Ch.refl _ _⟩
  have j0 : decide ((512 : Int) < (A.length : Int)) = false := decide_eq_false (by omega)
  have HR : Hid (R = chainB atmOk ltT A) := by unfold Hid; rw [HG.out, decide_eq_true (by omega)]; rfl
  have HBad0 : Hid (∀ i (hi : i < A.length), atmOk A[i] = false → R = false) := fun i hi hq => by rw [HR.out]; exact chainB_bad hi (.inl hq)
  have HBad1 : Hid (∀ i (hi : i < A.length) (h0 : 0 < i), ltT (A[i - 1]'(by omega)) A[i] = false → R = false) := fun i hi h0 hq => by rw [HR.out]; exact chainB_bad hi (.inr ⟨h0, hq⟩)
  have HEnd : Hid ((∀ i (hi : i < A.length), atmOk A[i] = true ∧ ∀ (h0 : 0 < i), ltT (A[i - 1]'(by omega)) A[i] = true) → R = true) := fun hq => by
    rw [HR.out]; exact chainB_good (fun i hi => (hq i hi).1) (fun i hi h0 => (hq i hi).2 h0)
  clear HG HR h5
  go_enter Tryz.func54, Tryz.ntmps54
  go_wp2
  go_loopw [3] (fun i wr => ∃ k : Nat, k ≤ A.length ∧ i = .int .i64 k ∧ Ch [] w wr ∧ Hid (∀ j (hj : j < A.length), j < k → atmOk A[j] = true ∧ ∀ (h0 : 0 < j), ltT (A[j - 1]'(by omega)) A[j] = true)) (fun i _ => A.length - (intOf i).toNat)
  case atStart => exact ⟨0, Nat.zero_le _, rfl, Ch.refl _ _, fun j _ h => absurd h (Nat.not_lt_zero _)⟩
  case round =>
    obtain ⟨k, hk, rfl, hB, HN⟩ := hrel
    by_cases hlt : k < A.length
    · have j1 : decide (k < A.length) = true := decide_eq_true hlt
      obtain ⟨bk, o, a', c', rfl, hp, d0, d1, hT⟩ := (h.ch0 hB).at_ hlt
      have HB0 := Lib.hid (HBad0.out k hlt)
      have hNt := HN0.out _ (List.getElem_mem hlt)
      have hdt := HD.out _ (List.getElem_mem hlt)
      have HPre : Hid (∀ (h0 : 0 < k), ∃ a3 c3, wr.cell? ⟨bk, o + (k - 1) * 2, none⟩ = some (.string (A[k - 1]'(by omega)).name) ∧ wr.cell? ⟨bk, o + (k - 1) * 2 + 1, none⟩ = some (.slice a3 (A[k - 1]'(by omega)).args.length c3) ∧ SlT p wr (.slice a3 (A[k - 1]'(by omega)).args.length c3) (A[k - 1]'(by omega)).args ∧ Nice B b (A[k - 1]'(by omega)) ∧ (A[k - 1]'(by omega)).dep ≤ 1000000) := fun h0 => by
        have hk1 : k - 1 < A.length := by omega
        obtain ⟨b2, o2, a3, c3, e, _, e0, e1, hT2⟩ := (h.ch0 hB).at_ hk1
        injection e with e
        injection e with e1' e2'
        subst e1' e2'
        exact ⟨a3, c3, e0, e1, hT2, HN0.out _ (List.getElem_mem hk1), HD.out _ (List.getElem_mem hk1)⟩
      have HNx : Hid (atmOk A[k] = true → (∀ (h0 : 0 < k), ltT (A[k - 1]'(by omega)) A[k] = true) → ∀ j (hj : j < A.length), j < k + 1 → atmOk A[j] = true ∧ ∀ (h0 : 0 < j), ltT (A[j - 1]'(by omega)) A[j] = true) := fun h1 h2 j hj h3 => by
        rcases Nat.lt_succ_iff_lt_or_eq.1 h3 with h4 | h4
        · exact HN.out j hj h4
        · subst h4; exact ⟨h1, h2⟩
      have HB1 := Lib.hid (HBad1.out k hlt)
      have hdis := dis_eq A[k].name
      have HOK : Hid (atmOk A[k] = (!decide (A[k].name = dis) && (nameB A[k].name && grdT 4 A[k]))) := rfl
      have hsz : A[k].name.size ≤ maxLen := by
        have := nice_name hNt
        have := HBM.out
        omega
      generalize hx : A[k] = x at *
      clear hx
      obtain ⟨wN, hwN⟩ : ∃ wN, wN = wr := ⟨_, rfl⟩
      have hcN : Ch [] wr wN := by rw [hwN]; exact Ch.refl _ _
      have hTN := hT.ch0 hcN
      subst hwN
      have l0 := Later.cell d0
      have l1 := Later.cell d1
      have m0 := l0
      have m1 := l1
      have qn := fun y : Later wN => later_call ((ref01Name x.name y.w hsz).mono (fun e w' h => ⟨h.1, by rw [← h.2]; exact Ch.refl _ _⟩))
      have qg := fun y : Later wN => later_call (refGround_ x B b hNt HBM.out p _ y.w (hTN.ch0 y.ch))
      clear hTN hsz
      generalize decide (x.name = dis) = q1 at *
      generalize nameB x.name = q2 at *
      generalize grdT 4 x = q3 at *
      by_cases hok : (!q1 && (q2 && q3)) = true
      · simp only [Bool.and_eq_true, Bool.not_eq_true'] at hok
        obtain ⟨rfl, rfl, rfl⟩ := hok
        have HOK2 : Hid (atmOk x = true) := by unfold Hid; rw [HOK.out]; rfl
        clear HB0 HOK
        cases k with
        | zero =>
          have HY := Lib.hid (HNx.out HOK2.out (fun h0 => absurd h0 (by omega)))
          simp only [Nat.zero_mul, Nat.add_zero] at m0 m1 l0 l1 d0 d1
          go_wp2
          refine wp_region_later (by kernel_rfl) (lexB_of (by kernel_rfl)) ?_
          repeat (go_big_quiet_step (first | ((go_at_call 78; with_reducible exact qn _)) | ((go_at_call 77; with_reducible exact qg _))))
          refine wpQuiet_nil ?_
          intro w3 hw3
          clear l0 l1 m0 m1
          go_wp2
          go_roundw
          case rel => exact ⟨1, by omega, by go_num, hB.trans (hcN.trans hw3), HY⟩
          case measure => simp [intOf]; omega
        | succ j =>
          obtain ⟨a3, c3, n0, n1, hT3, hN3, hd3⟩ := HPre.out (by omega)
          have HNy := Lib.hid (fun (hq : ltT (A[j]'(by omega)) x = true) => HNx.out HOK2.out (fun _ => hq))
          clear HPre HNx
          simp only [Nat.add_sub_cancel] at n0 n1 hT3 hN3 hd3 HB1
          obtain ⟨hj1, hj2, hj3⟩ := wrap_sub1 j (by omega)
          have n0 := Later.cell (cell_ch n0 hcN (by simp))
          have n1 := Later.cell (cell_ch n1 hcN (by simp))
          have HB2 := Lib.hid (HB1.out (by omega))
          clear HB1
          generalize A[j]'(by omega) = y at *
          have qc := fun z : Later wN => later_call (refCompare_ 1000000 y x hd3 B b hN3 hNt HBM.out p p _ _ z.w ((hT3.ch0 hcN).ch0 z.ch) ((hT.ch0 hcN).ch0 z.ch))
          have HLT : Hid (ltT y x = decide (cmpT y x < 0)) := rfl
          generalize cmpT y x = r at *
          by_cases hr : 0 ≤ r
          · have j2 : decide (0 ≤ r) = true := decide_eq_true hr
            have HF := Lib.hid (HB2.out (by rw [HLT.out]; exact decide_eq_false (by omega)))
            clear hr
            go_wp2
            refine wp_region_later (by kernel_rfl) (lexB_of (by kernel_rfl)) ?_
            repeat (go_big_quiet_step (first | ((go_at_call 78; with_reducible exact qn _)) | ((go_at_call 77; with_reducible exact qg _)) | ((go_at_call 79; with_reducible exact qc _))))
            refine wpQuiet_nil ?_
            intro w3 hw3
            clear l0 l1 m0 m1 n0 n1
            go_wp2
            go_ret
            exact ⟨by rw [HF.out]; rfl, hB.trans (hcN.trans hw3)⟩
          · have j2 : decide (0 ≤ r) = false := decide_eq_false hr
            have HY := Lib.hid (HNy.out (by rw [HLT.out]; exact decide_eq_true (by omega)))
            clear hr
            go_wp2
            refine wp_region_later (by kernel_rfl) (lexB_of (by kernel_rfl)) ?_
            repeat (go_big_quiet_step (first | ((go_at_call 78; with_reducible exact qn _)) | ((go_at_call 77; with_reducible exact qg _)) | ((go_at_call 79; with_reducible exact qc _))))
            refine wpQuiet_nil ?_
            intro w3 hw3
            clear l0 l1 m0 m1 n0 n1 hj1 hj2 hj3
            go_wp2
            go_roundw
            case rel => exact ⟨j + 1 + 1, by omega, by go_num, hB.trans (hcN.trans hw3), HY⟩
            case measure => simp [intOf]; omega
      · have HF := Lib.hid (HB0.out (by rw [HOK.out]; simpa using hok))
        clear HB0 HB1 HOK HNx HPre
        cases q3
        · clear hok
          go_wp2
          refine wp_region_later (by kernel_rfl) (lexB_of (by kernel_rfl)) ?_
          repeat (go_big_quiet_step (first | ((go_at_call 78; with_reducible exact qn _)) | ((go_at_call 77; with_reducible exact qg _))))
          refine wpQuiet_nil ?_
          intro w3 hw3
          clear l0 l1 m0 m1
          go_wp2
          go_ret
          exact ⟨by rw [HF.out]; rfl, hB.trans (hcN.trans hw3)⟩
        · skip
          cases q2
          · clear hok
            go_wp2
            refine wp_region_later (by kernel_rfl) (lexB_of (by kernel_rfl)) ?_
            repeat (go_big_quiet_step (first | ((go_at_call 78; with_reducible exact qn _)) | ((go_at_call 77; with_reducible exact qg _))))
            refine wpQuiet_nil ?_
            intro w3 hw3
            clear l0 l1 m0 m1
            go_wp2
            go_ret
            exact ⟨by rw [HF.out]; rfl, hB.trans (hcN.trans hw3)⟩
          · skip
            cases q1
            · exact absurd rfl hok
            · clear hok
              go_wp2
              refine wp_region_later (by kernel_rfl) (lexB_of (by kernel_rfl)) ?_
              repeat (go_big_quiet_step (first | ((go_at_call 78; with_reducible exact qn _)) | ((go_at_call 77; with_reducible exact qg _))))
              refine wpQuiet_nil ?_
              intro w3 hw3
              clear l0 l1 m0 m1
              go_wp2
              go_ret
              exact ⟨by rw [HF.out]; rfl, hB.trans (hcN.trans hw3)⟩
    · have j1 : decide (k < A.length) = false := decide_eq_false hlt
      have HF := Lib.hid (HEnd.out (fun i hi => HN.out i hi (by omega)))
      go_wp2
      go_ret
      exact ⟨by rw [HF.out]; rfl, hB⟩
end

section
open Go.RowKit

set_option maxRecDepth 100000 in
set_option maxHeartbeats 8000000 in
theorem validG_ (A : List Tm) (rs : List Gr) (B b : Nat) (hN : ∀ t ∈ A, Nice B b t) (hBm : B ≤ maxLen) (p : Nat → Prop) (va vr : Value) (w : World) (hA : SlT p w va A) (hR : SlGr p w vr rs) (hd : ∀ t ∈ A, t.dep ≤ 1000000) (hlen : A.length ≤ 1000000)
    (hlr : rs.length ≤ 1000000) (hps : ∀ x ∈ rs, x.ps.length ≤ 1000000 ∧ x.ns.length ≤ 1000000) :
    Calls Tryz.prog 30 #[.agg #[va, vr]] w fun e w' => e = .returned (.bool (gdOk A rs)) ∧ Ch [] w w' := by
  have hls := fun wz (hz : Ch [] w wz) => listed_ A B b hN hBm p va wz (hA.ch0 hz) hd hlen
  have HPS := Lib.hid hps; clear hps
  obtain ⟨aA, cA, rfl, _, _⟩ := hA.form
  obtain ⟨aR, cR, rfl, hlc, hm⟩ := hR.form
  unfold maxLen at hm
  clear hN hBm hA hd
  have HG : Hid (gdOk A rs = (atmsOk A && (decide (rs.length ≤ 2048) && grsOk A.length rs))) := rfl
  generalize gdOk A rs = R at *
  generalize A.length = N at *
  have hbx := Blk.new w 25 #[.slice aA N cA, .slice aR rs.length cR]
  have hcA : Ch [] w (w.alloc (.cells #[.slice aA N cA, .slice aR rs.length cR] 25)) := (Ch.refl _ _).alloc _
  generalize hwA : (w.alloc (.cells #[.slice aA N cA, .slice aR rs.length cR] 25)) = wA at *
  have b0 := hbx.cell 0
  have b1 := hbx.cell 1
  cases hq : atmsOk A with
  | false =>
    rw [hq] at hls
    have HF : Hid (R = false) := by unfold Hid; rw [HG.out, hq]; rfl
    clear HG hq
    go_enter Tryz.func30, Tryz.ntmps30
    go_wp2_with (go_at_call 46; refine (hls _ hcA).mono ?_; rintro e w1 ⟨rfl, hc1⟩; have y1 := (hbx.ch hc1 (by simp)).cell 1)
    go_ret
    exact ⟨by rw [HF.out]; rfl, hcA.trans hc1⟩
  | true =>
  rw [hq] at hls
  by_cases h5 : 2048 < rs.length
  · have j0 : decide ((2048 : Int) < (rs.length : Int)) = true := decide_eq_true (by omega)
    have HF : Hid (R = false) := by unfold Hid; rw [HG.out, decide_eq_false (by omega)]; simp
    clear HG h5 hq
    go_enter Tryz.func30, Tryz.ntmps30
    go_wp2_with (go_at_call 46; refine (hls _ hcA).mono ?_; rintro e w1 ⟨rfl, hc1⟩; have y1 := (hbx.ch hc1 (by simp)).cell 1)
    go_ret
    exact ⟨by rw [HF.out]; rfl, hcA.trans hc1⟩
  have j0 : decide ((2048 : Int) < (rs.length : Int)) = false := decide_eq_false (by omega)
  have HR : Hid (R = chainB (grOk N) (fun a b => decide (cmpGr a b < 0)) rs) := by unfold Hid; rw [HG.out, hq, decide_eq_true (by omega), grsOk_chain]; rfl
  have HBad0 : Hid (∀ i (hi : i < rs.length), grOk N rs[i] = false → R = false) := fun i hi hq => by rw [HR.out]; exact chainB_bad hi (.inl hq)
  have HBad1 : Hid (∀ i (hi : i < rs.length) (h0 : 0 < i), 0 ≤ cmpGr (rs[i - 1]'(by omega)) rs[i] → R = false) := fun i hi h0 hq => by rw [HR.out]; exact chainB_bad hi (.inr ⟨h0, decide_eq_false (by omega)⟩)
  have HEnd : Hid ((∀ i (hi : i < rs.length), grOk N rs[i] = true ∧ ∀ (h0 : 0 < i), cmpGr (rs[i - 1]'(by omega)) rs[i] < 0) → R = true) := fun hq => by
    rw [HR.out]; exact chainB_good (fun i hi => (hq i hi).1) (fun i hi h0 => decide_eq_true ((hq i hi).2 h0))
  clear HG HR h5 hq
  go_enter Tryz.func30, Tryz.ntmps30
  go_wp2_with (go_at_call 46; refine (hls _ hcA).mono ?_; rintro e w1 ⟨rfl, hc1⟩; have y1 := (hbx.ch hc1 (by simp)).cell 1)
  clear hls b0 b1
  go_loopw [3, 4, 18] (fun _ _ i wr => ∃ k : Nat, k ≤ rs.length ∧ i = .int .i64 k ∧ Ch [] wA wr ∧ Hid (∀ j (hj : j < rs.length), j < k → grOk N rs[j] = true ∧ ∀ (h0 : 0 < j), cmpGr (rs[j - 1]'(by omega)) rs[j] < 0)) (fun _ _ i _ => rs.length - (intOf i).toNat)
  case atStart => exact ⟨0, Nat.zero_le _, rfl, hc1, fun j _ h => absurd h (Nat.not_lt_zero _)⟩
  case round =>
    obtain ⟨k, hk, rfl, hB, HN⟩ := hrel
    have hwB := hcA.trans hB
    by_cases hlt : k < rs.length
    · have j1 : decide (k < rs.length) = true := decide_eq_true hlt
      obtain ⟨bk, o, a1, c1, a2, c2, rfl, hp, d0, d1, d2, hP, hG⟩ := (hR.ch0 hwB).at_ hlt
      have HB0 := Lib.hid (HBad0.out k hlt)
      have HPre : Hid (∀ (h0 : 0 < k), ∃ a3 c3 a4 c4, wr.cell? ⟨bk, o + (k - 1) * 3, none⟩ = some (.int .i64 (rs[k - 1]'(by omega)).h) ∧ wr.cell? ⟨bk, o + (k - 1) * 3 + 1, none⟩ = some (.slice a3 (rs[k - 1]'(by omega)).ps.length c3) ∧ wr.cell? ⟨bk, o + (k - 1) * 3 + 2, none⟩ = some (.slice a4 (rs[k - 1]'(by omega)).ns.length c4) ∧
          SlI p wr (.slice a3 (rs[k - 1]'(by omega)).ps.length c3) (rs[k - 1]'(by omega)).ps ∧ SlI p wr (.slice a4 (rs[k - 1]'(by omega)).ns.length c4) (rs[k - 1]'(by omega)).ns) := fun h0 => by
        have hk1 : k - 1 < rs.length := by omega
        obtain ⟨b2, o2, a3, c3, a4, c4, e, _, e0, e1, e2, hT2, hT3⟩ := (hR.ch0 hwB).at_ hk1
        injection e with e
        injection e with e1' e2'
        subst e1' e2'
        exact ⟨a3, c3, a4, c4, e0, e1, e2, hT2, hT3⟩
      have HNx : Hid (grOk N rs[k] = true → (∀ (h0 : 0 < k), cmpGr (rs[k - 1]'(by omega)) rs[k] < 0) → ∀ j (hj : j < rs.length), j < k + 1 → grOk N rs[j] = true ∧ ∀ (h0 : 0 < j), cmpGr (rs[j - 1]'(by omega)) rs[j] < 0) := fun h1 h2 j hj h3 => by
        rcases Nat.lt_succ_iff_lt_or_eq.1 h3 with h4 | h4
        · exact HN.out j hj h4
        · subst h4; exact ⟨h1, h2⟩
      have HB1 := Lib.hid (HBad1.out k hlt)
      have hpl := HPS.out _ (List.getElem_mem hlt)
      have HOK : Hid (grOk N rs[k] = (numIn N rs[k].h && (numsIn N rs[k].ps && (numsIn N rs[k].ns && (riseB rs[k].ps && riseB rs[k].ns))))) := rfl
      generalize hx : rs[k] = x at *
      clear hx
      obtain ⟨wN, hwN⟩ : ∃ wN, wr.alloc (.cells #[.int .i64 x.h, .slice a1 x.ps.length c1, .slice a2 x.ns.length c2] 44) = wN := ⟨_, rfl⟩
      have hcN : Ch [] wr wN := by rw [← hwN]; exact (Ch.refl _ _).alloc _
      have hbn : Blk wN wr.heap.size 44 #[.int .i64 x.h, .slice a1 x.ps.length c1, .slice a2 x.ns.length c2] := by rw [← hwN]; exact Blk.new _ _ _
      have hbg := (hbx.ch hB (by simp)).ch hcN (by simp)
      have m0 := hbn.cell 0
      have m1 := hbn.cell 1
      have m2 := hbn.cell 2
      have g0 := hbg.cell 0
      have g1 := hbg.cell 1
      have g1r := (hbx.ch hB (by simp)).cell 1
      have o0 := (hbn.alloc (.cells #[.int .i64 x.h] 3)).cell 0
      have o1 := (hbn.alloc (.cells #[.int .i64 x.h] 3)).cell 1
      have o2 := (hbn.alloc (.cells #[.int .i64 x.h] 3)).cell 2
      have p0 := (hbg.alloc (.cells #[.int .i64 x.h] 3)).cell 0
      have p1 := (hbg.alloc (.cells #[.int .i64 x.h] 3)).cell 1
      have hcN2 : Ch [] wr (wN.alloc (.cells #[.int .i64 x.h] 3)) := hcN.alloc _
      have hp0 := numbers_ N aA cA (.slice (some ⟨bk, o, none⟩) rs.length cR) _ _ [x.h] _ (Sl.one wN 1 3 [.int .i64 x.h] rfl (by simp [Value.oneCell'])) rfl
      have hp1 := fun wz (hz : Ch [] wr wz) => numbers_ N aA cA (.slice (some ⟨bk, o, none⟩) rs.length cR) _ (.slice a1 x.ps.length c1) x.ps wz (hP.ch0 hz) rfl
      have hp2 := fun wz (hz : Ch [] wr wz) => numbers_ N aA cA (.slice (some ⟨bk, o, none⟩) rs.length cR) _ (.slice a2 x.ns.length c2) x.ns wz (hG.ch0 hz) rfl
      have hr1 := fun wz (hz : Ch [] wr wz) => rising_ _ _ x.ps wz (hP.ch0 hz) hpl.1
      have hr2 := fun wz (hz : Ch [] wr wz) => rising_ _ _ x.ns wz (hG.ch0 hz) hpl.2
      have e0 : numsIn N [x.h] = numIn N x.h := by simp [numsIn]
      rw [e0] at hp0
      clear e0 hpl
      generalize numIn N x.h = q0 at *
      generalize numsIn N x.ps = q1 at *
      generalize numsIn N x.ns = q2 at *
      generalize riseB x.ps = q3 at *
      generalize riseB x.ns = q4 at *
      by_cases hok : (q0 && (q1 && (q2 && (q3 && q4)))) = true
      · simp only [Bool.and_eq_true] at hok
        obtain ⟨rfl, rfl, rfl, rfl, rfl⟩ := hok
        have HOK2 : Hid (grOk N x = true) := by unfold Hid; rw [HOK.out]; rfl
        clear HB0 HOK
        cases k with
        | zero =>
          have HY := Lib.hid (HNx.out HOK2.out (fun h0 => absurd h0 (by omega)))
          simp only [Nat.zero_mul, Nat.add_zero] at d0 d1 d2
          clear HB1 HNx HPre
          go_wp2_with (first
            | (go_at_call_of 47 (Value.slice a1 x.ps.length c1); with_reducible refine (hp1 _ hw1).mono ?_; rintro e w2 ⟨rfl, hd⟩; have hw2 := hw1.trans hd; have m0 := cell_ch (S := []) m0 hd (by simp); have m1 := cell_ch (S := []) m1 hd (by simp); have m2 := cell_ch (S := []) m2 hd (by simp); have g0 := cell_ch (S := []) g0 hd (by simp); have g1 := cell_ch (S := []) g1 hd (by simp); clear hd)
            | (go_at_call_of 47 (Value.slice a2 x.ns.length c2); with_reducible refine (hp2 _ hw2).mono ?_; rintro e w3 ⟨rfl, hd⟩; have hw3 := hw2.trans hd; have m0 := cell_ch (S := []) m0 hd (by simp); have m1 := cell_ch (S := []) m1 hd (by simp); have m2 := cell_ch (S := []) m2 hd (by simp); have g0 := cell_ch (S := []) g0 hd (by simp); have g1 := cell_ch (S := []) g1 hd (by simp); clear hd)
            | (go_at_call_of 48 (Value.slice a1 x.ps.length c1); with_reducible refine (hr1 _ hw3).mono ?_; rintro e w4 ⟨rfl, hd⟩; have hw4 := hw3.trans hd; have m0 := cell_ch (S := []) m0 hd (by simp); have m1 := cell_ch (S := []) m1 hd (by simp); have m2 := cell_ch (S := []) m2 hd (by simp); have g0 := cell_ch (S := []) g0 hd (by simp); have g1 := cell_ch (S := []) g1 hd (by simp); clear hd)
            | (go_at_call_of 48 (Value.slice a2 x.ns.length c2); with_reducible refine (hr2 _ hw4).mono ?_; rintro e w5 ⟨rfl, hd⟩; have hw5 := hw4.trans hd; have m0 := cell_ch (S := []) m0 hd (by simp); have m1 := cell_ch (S := []) m1 hd (by simp); have m2 := cell_ch (S := []) m2 hd (by simp); have g0 := cell_ch (S := []) g0 hd (by simp); have g1 := cell_ch (S := []) g1 hd (by simp); clear hd)
            | (go_at_call 47; with_reducible refine hp0.mono ?_; rintro e w1 ⟨rfl, hd⟩; have hw1 := hcN2.trans hd; have m0 := cell_ch (S := []) o0 hd (by simp); have m1 := cell_ch (S := []) o1 hd (by simp); have m2 := cell_ch (S := []) o2 hd (by simp); have g0 := cell_ch (S := []) p0 hd (by simp); have g1 := cell_ch (S := []) p1 hd (by simp); clear hd))
          have l0 := Later.cell m0
          have l1 := Later.cell m1
          have l2 := Later.cell m2
          have k0 := Later.cell g0
          have k1 := Later.cell g1
          clear m0 m1 m2 g0 g1
          refine wp_region_later (by kernel_rfl) (lexB_of (by kernel_rfl)) ?_
          repeat (go_big_quiet_step (fail))
          refine wpQuiet_nil ?_
          intro w6 hw6
          clear l0 l1 l2 k0 k1
          go_wp2
          go_roundw
          case rel => exact ⟨1, by omega, by go_num, hB.trans (hw5.trans hw6), HY⟩
          case measure => simp [intOf]; omega
        | succ j =>
          obtain ⟨a3, c3, a4, c4, n0, n1, n2, hT3, hT4⟩ := HPre.out (by omega)
          have HNy := Lib.hid (fun (hq : cmpGr (rs[j]'(by omega)) x < 0) => HNx.out HOK2.out (fun _ => hq))
          clear HPre HNx
          simp only [Nat.add_sub_cancel] at n0 n1 n2 hT3 hT4 HB1
          obtain ⟨hj1, hj2, hj3⟩ := wrap_sub1 j (by omega)
          have HB2 := Lib.hid (HB1.out (by omega))
          clear HB1
          generalize rs[j]'(by omega) = y at *
          have HQC := Lib.hid (fun wz (hz : Ch [] wr wz) => compareG_ y x _ _ _ _ _ _ wz (hT3.ch0 hz) (hT4.ch0 hz) (hP.ch0 hz) (hG.ch0 hz))
          generalize cmpGr y x = r at *
          by_cases hr : 0 ≤ r
          · have j2 : decide (0 ≤ r) = true := decide_eq_true hr
            have HF := Lib.hid (HB2.out hr)
            clear hr
            go_wp2_with (first
              | (go_at_call_of 47 (Value.slice a1 x.ps.length c1); with_reducible refine (hp1 _ hw1).mono ?_; rintro e w2 ⟨rfl, hd⟩; have hw2 := hw1.trans hd; have m0 := cell_ch (S := []) m0 hd (by simp); have m1 := cell_ch (S := []) m1 hd (by simp); have m2 := cell_ch (S := []) m2 hd (by simp); have g0 := cell_ch (S := []) g0 hd (by simp); have g1 := cell_ch (S := []) g1 hd (by simp); clear hd)
              | (go_at_call_of 47 (Value.slice a2 x.ns.length c2); with_reducible refine (hp2 _ hw2).mono ?_; rintro e w3 ⟨rfl, hd⟩; have hw3 := hw2.trans hd; have m0 := cell_ch (S := []) m0 hd (by simp); have m1 := cell_ch (S := []) m1 hd (by simp); have m2 := cell_ch (S := []) m2 hd (by simp); have g0 := cell_ch (S := []) g0 hd (by simp); have g1 := cell_ch (S := []) g1 hd (by simp); clear hd)
              | (go_at_call_of 48 (Value.slice a1 x.ps.length c1); with_reducible refine (hr1 _ hw3).mono ?_; rintro e w4 ⟨rfl, hd⟩; have hw4 := hw3.trans hd; have m0 := cell_ch (S := []) m0 hd (by simp); have m1 := cell_ch (S := []) m1 hd (by simp); have m2 := cell_ch (S := []) m2 hd (by simp); have g0 := cell_ch (S := []) g0 hd (by simp); have g1 := cell_ch (S := []) g1 hd (by simp); clear hd)
              | (go_at_call_of 48 (Value.slice a2 x.ns.length c2); with_reducible refine (hr2 _ hw4).mono ?_; rintro e w5 ⟨rfl, hd⟩; have hw5 := hw4.trans hd; have m0 := cell_ch (S := []) m0 hd (by simp); have m1 := cell_ch (S := []) m1 hd (by simp); have m2 := cell_ch (S := []) m2 hd (by simp); have g0 := cell_ch (S := []) g0 hd (by simp); have g1 := cell_ch (S := []) g1 hd (by simp); clear hd)
              | (go_at_call 47; with_reducible refine hp0.mono ?_; rintro e w1 ⟨rfl, hd⟩; have hw1 := hcN2.trans hd; have m0 := cell_ch (S := []) o0 hd (by simp); have m1 := cell_ch (S := []) o1 hd (by simp); have m2 := cell_ch (S := []) o2 hd (by simp); have g0 := cell_ch (S := []) p0 hd (by simp); have g1 := cell_ch (S := []) p1 hd (by simp); clear hd))
            have l0 := Later.cell m0
            have l1 := Later.cell m1
            have l2 := Later.cell m2
            have k0 := Later.cell g0
            have k1 := Later.cell g1
            have qc := fun z : Later w5 => later_call (HQC.out z.w (hw5.trans z.ch))
            have n0 := Later.cell (cell_ch (S := []) n0 hw5 (by simp))
            have n1 := Later.cell (cell_ch (S := []) n1 hw5 (by simp))
            have n2 := Later.cell (cell_ch (S := []) n2 hw5 (by simp))
            clear m0 m1 m2 g0 g1
            refine wp_region_later (by kernel_rfl) (lexB_of (by kernel_rfl)) ?_
            repeat (go_big_quiet_step ((go_at_call 49; with_reducible exact qc _)))
            refine wpQuiet_nil ?_
            intro w6 hw6
            clear l0 l1 l2 k0 k1 n0 n1 n2
            go_wp2
            go_ret
            exact ⟨by rw [HF.out]; rfl, hcA.trans (hB.trans (hw5.trans hw6))⟩
          · have j2 : decide (0 ≤ r) = false := decide_eq_false hr
            have HY := Lib.hid (HNy.out (by omega))
            clear hr
            go_wp2_with (first
              | (go_at_call_of 47 (Value.slice a1 x.ps.length c1); with_reducible refine (hp1 _ hw1).mono ?_; rintro e w2 ⟨rfl, hd⟩; have hw2 := hw1.trans hd; have m0 := cell_ch (S := []) m0 hd (by simp); have m1 := cell_ch (S := []) m1 hd (by simp); have m2 := cell_ch (S := []) m2 hd (by simp); have g0 := cell_ch (S := []) g0 hd (by simp); have g1 := cell_ch (S := []) g1 hd (by simp); clear hd)
              | (go_at_call_of 47 (Value.slice a2 x.ns.length c2); with_reducible refine (hp2 _ hw2).mono ?_; rintro e w3 ⟨rfl, hd⟩; have hw3 := hw2.trans hd; have m0 := cell_ch (S := []) m0 hd (by simp); have m1 := cell_ch (S := []) m1 hd (by simp); have m2 := cell_ch (S := []) m2 hd (by simp); have g0 := cell_ch (S := []) g0 hd (by simp); have g1 := cell_ch (S := []) g1 hd (by simp); clear hd)
              | (go_at_call_of 48 (Value.slice a1 x.ps.length c1); with_reducible refine (hr1 _ hw3).mono ?_; rintro e w4 ⟨rfl, hd⟩; have hw4 := hw3.trans hd; have m0 := cell_ch (S := []) m0 hd (by simp); have m1 := cell_ch (S := []) m1 hd (by simp); have m2 := cell_ch (S := []) m2 hd (by simp); have g0 := cell_ch (S := []) g0 hd (by simp); have g1 := cell_ch (S := []) g1 hd (by simp); clear hd)
              | (go_at_call_of 48 (Value.slice a2 x.ns.length c2); with_reducible refine (hr2 _ hw4).mono ?_; rintro e w5 ⟨rfl, hd⟩; have hw5 := hw4.trans hd; have m0 := cell_ch (S := []) m0 hd (by simp); have m1 := cell_ch (S := []) m1 hd (by simp); have m2 := cell_ch (S := []) m2 hd (by simp); have g0 := cell_ch (S := []) g0 hd (by simp); have g1 := cell_ch (S := []) g1 hd (by simp); clear hd)
              | (go_at_call 47; with_reducible refine hp0.mono ?_; rintro e w1 ⟨rfl, hd⟩; have hw1 := hcN2.trans hd; have m0 := cell_ch (S := []) o0 hd (by simp); have m1 := cell_ch (S := []) o1 hd (by simp); have m2 := cell_ch (S := []) o2 hd (by simp); have g0 := cell_ch (S := []) p0 hd (by simp); have g1 := cell_ch (S := []) p1 hd (by simp); clear hd))
            have l0 := Later.cell m0
            have l1 := Later.cell m1
            have l2 := Later.cell m2
            have k0 := Later.cell g0
            have k1 := Later.cell g1
            have qc := fun z : Later w5 => later_call (HQC.out z.w (hw5.trans z.ch))
            have n0 := Later.cell (cell_ch (S := []) n0 hw5 (by simp))
            have n1 := Later.cell (cell_ch (S := []) n1 hw5 (by simp))
            have n2 := Later.cell (cell_ch (S := []) n2 hw5 (by simp))
            clear m0 m1 m2 g0 g1
            refine wp_region_later (by kernel_rfl) (lexB_of (by kernel_rfl)) ?_
            repeat (go_big_quiet_step ((go_at_call 49; with_reducible exact qc _)))
            refine wpQuiet_nil ?_
            intro w6 hw6
            clear l0 l1 l2 k0 k1 n0 n1 n2
            clear hj1 hj2 hj3
            go_wp2
            go_roundw
            case rel => exact ⟨j + 1 + 1, by omega, by go_num, hB.trans (hw5.trans hw6), HY⟩
            case measure => simp [intOf]; omega
      · have HF := Lib.hid (HB0.out (by rw [HOK.out]; simpa using hok))
        clear HB0 HB1 HOK HNx HPre
        cases q0
        · clear hok
          go_wp2_with (first
            | (go_at_call_of 47 (Value.slice a1 x.ps.length c1); with_reducible refine (hp1 _ hw1).mono ?_; rintro e w2 ⟨rfl, hd⟩; have hw2 := hw1.trans hd; have m0 := cell_ch (S := []) m0 hd (by simp); have m1 := cell_ch (S := []) m1 hd (by simp); have m2 := cell_ch (S := []) m2 hd (by simp); have g0 := cell_ch (S := []) g0 hd (by simp); have g1 := cell_ch (S := []) g1 hd (by simp); clear hd)
            | (go_at_call_of 47 (Value.slice a2 x.ns.length c2); with_reducible refine (hp2 _ hw2).mono ?_; rintro e w3 ⟨rfl, hd⟩; have hw3 := hw2.trans hd; have m0 := cell_ch (S := []) m0 hd (by simp); have m1 := cell_ch (S := []) m1 hd (by simp); have m2 := cell_ch (S := []) m2 hd (by simp); have g0 := cell_ch (S := []) g0 hd (by simp); have g1 := cell_ch (S := []) g1 hd (by simp); clear hd)
            | (go_at_call_of 48 (Value.slice a1 x.ps.length c1); with_reducible refine (hr1 _ hw3).mono ?_; rintro e w4 ⟨rfl, hd⟩; have hw4 := hw3.trans hd; have m0 := cell_ch (S := []) m0 hd (by simp); have m1 := cell_ch (S := []) m1 hd (by simp); have m2 := cell_ch (S := []) m2 hd (by simp); have g0 := cell_ch (S := []) g0 hd (by simp); have g1 := cell_ch (S := []) g1 hd (by simp); clear hd)
            | (go_at_call_of 48 (Value.slice a2 x.ns.length c2); with_reducible refine (hr2 _ hw4).mono ?_; rintro e w5 ⟨rfl, hd⟩; have hw5 := hw4.trans hd; have m0 := cell_ch (S := []) m0 hd (by simp); have m1 := cell_ch (S := []) m1 hd (by simp); have m2 := cell_ch (S := []) m2 hd (by simp); have g0 := cell_ch (S := []) g0 hd (by simp); have g1 := cell_ch (S := []) g1 hd (by simp); clear hd)
            | (go_at_call 47; with_reducible refine hp0.mono ?_; rintro e w1 ⟨rfl, hd⟩; have hw1 := hcN2.trans hd; have m0 := cell_ch (S := []) o0 hd (by simp); have m1 := cell_ch (S := []) o1 hd (by simp); have m2 := cell_ch (S := []) o2 hd (by simp); have g0 := cell_ch (S := []) p0 hd (by simp); have g1 := cell_ch (S := []) p1 hd (by simp); clear hd))
          go_ret
          exact ⟨by rw [HF.out]; rfl, hcA.trans (hB.trans hw1)⟩
        · skip
          cases q1
          · clear hok
            go_wp2_with (first
              | (go_at_call_of 47 (Value.slice a1 x.ps.length c1); with_reducible refine (hp1 _ hw1).mono ?_; rintro e w2 ⟨rfl, hd⟩; have hw2 := hw1.trans hd; have m0 := cell_ch (S := []) m0 hd (by simp); have m1 := cell_ch (S := []) m1 hd (by simp); have m2 := cell_ch (S := []) m2 hd (by simp); have g0 := cell_ch (S := []) g0 hd (by simp); have g1 := cell_ch (S := []) g1 hd (by simp); clear hd)
              | (go_at_call_of 47 (Value.slice a2 x.ns.length c2); with_reducible refine (hp2 _ hw2).mono ?_; rintro e w3 ⟨rfl, hd⟩; have hw3 := hw2.trans hd; have m0 := cell_ch (S := []) m0 hd (by simp); have m1 := cell_ch (S := []) m1 hd (by simp); have m2 := cell_ch (S := []) m2 hd (by simp); have g0 := cell_ch (S := []) g0 hd (by simp); have g1 := cell_ch (S := []) g1 hd (by simp); clear hd)
              | (go_at_call_of 48 (Value.slice a1 x.ps.length c1); with_reducible refine (hr1 _ hw3).mono ?_; rintro e w4 ⟨rfl, hd⟩; have hw4 := hw3.trans hd; have m0 := cell_ch (S := []) m0 hd (by simp); have m1 := cell_ch (S := []) m1 hd (by simp); have m2 := cell_ch (S := []) m2 hd (by simp); have g0 := cell_ch (S := []) g0 hd (by simp); have g1 := cell_ch (S := []) g1 hd (by simp); clear hd)
              | (go_at_call_of 48 (Value.slice a2 x.ns.length c2); with_reducible refine (hr2 _ hw4).mono ?_; rintro e w5 ⟨rfl, hd⟩; have hw5 := hw4.trans hd; have m0 := cell_ch (S := []) m0 hd (by simp); have m1 := cell_ch (S := []) m1 hd (by simp); have m2 := cell_ch (S := []) m2 hd (by simp); have g0 := cell_ch (S := []) g0 hd (by simp); have g1 := cell_ch (S := []) g1 hd (by simp); clear hd)
              | (go_at_call 47; with_reducible refine hp0.mono ?_; rintro e w1 ⟨rfl, hd⟩; have hw1 := hcN2.trans hd; have m0 := cell_ch (S := []) o0 hd (by simp); have m1 := cell_ch (S := []) o1 hd (by simp); have m2 := cell_ch (S := []) o2 hd (by simp); have g0 := cell_ch (S := []) p0 hd (by simp); have g1 := cell_ch (S := []) p1 hd (by simp); clear hd))
            go_ret
            exact ⟨by rw [HF.out]; rfl, hcA.trans (hB.trans hw2)⟩
          · skip
            cases q2
            · clear hok
              go_wp2_with (first
                | (go_at_call_of 47 (Value.slice a1 x.ps.length c1); with_reducible refine (hp1 _ hw1).mono ?_; rintro e w2 ⟨rfl, hd⟩; have hw2 := hw1.trans hd; have m0 := cell_ch (S := []) m0 hd (by simp); have m1 := cell_ch (S := []) m1 hd (by simp); have m2 := cell_ch (S := []) m2 hd (by simp); have g0 := cell_ch (S := []) g0 hd (by simp); have g1 := cell_ch (S := []) g1 hd (by simp); clear hd)
                | (go_at_call_of 47 (Value.slice a2 x.ns.length c2); with_reducible refine (hp2 _ hw2).mono ?_; rintro e w3 ⟨rfl, hd⟩; have hw3 := hw2.trans hd; have m0 := cell_ch (S := []) m0 hd (by simp); have m1 := cell_ch (S := []) m1 hd (by simp); have m2 := cell_ch (S := []) m2 hd (by simp); have g0 := cell_ch (S := []) g0 hd (by simp); have g1 := cell_ch (S := []) g1 hd (by simp); clear hd)
                | (go_at_call_of 48 (Value.slice a1 x.ps.length c1); with_reducible refine (hr1 _ hw3).mono ?_; rintro e w4 ⟨rfl, hd⟩; have hw4 := hw3.trans hd; have m0 := cell_ch (S := []) m0 hd (by simp); have m1 := cell_ch (S := []) m1 hd (by simp); have m2 := cell_ch (S := []) m2 hd (by simp); have g0 := cell_ch (S := []) g0 hd (by simp); have g1 := cell_ch (S := []) g1 hd (by simp); clear hd)
                | (go_at_call_of 48 (Value.slice a2 x.ns.length c2); with_reducible refine (hr2 _ hw4).mono ?_; rintro e w5 ⟨rfl, hd⟩; have hw5 := hw4.trans hd; have m0 := cell_ch (S := []) m0 hd (by simp); have m1 := cell_ch (S := []) m1 hd (by simp); have m2 := cell_ch (S := []) m2 hd (by simp); have g0 := cell_ch (S := []) g0 hd (by simp); have g1 := cell_ch (S := []) g1 hd (by simp); clear hd)
                | (go_at_call 47; with_reducible refine hp0.mono ?_; rintro e w1 ⟨rfl, hd⟩; have hw1 := hcN2.trans hd; have m0 := cell_ch (S := []) o0 hd (by simp); have m1 := cell_ch (S := []) o1 hd (by simp); have m2 := cell_ch (S := []) o2 hd (by simp); have g0 := cell_ch (S := []) p0 hd (by simp); have g1 := cell_ch (S := []) p1 hd (by simp); clear hd))
              go_ret
              exact ⟨by rw [HF.out]; rfl, hcA.trans (hB.trans hw3)⟩
            · skip
              cases q3
              · clear hok
                go_wp2_with (first
                  | (go_at_call_of 47 (Value.slice a1 x.ps.length c1); with_reducible refine (hp1 _ hw1).mono ?_; rintro e w2 ⟨rfl, hd⟩; have hw2 := hw1.trans hd; have m0 := cell_ch (S := []) m0 hd (by simp); have m1 := cell_ch (S := []) m1 hd (by simp); have m2 := cell_ch (S := []) m2 hd (by simp); have g0 := cell_ch (S := []) g0 hd (by simp); have g1 := cell_ch (S := []) g1 hd (by simp); clear hd)
                  | (go_at_call_of 47 (Value.slice a2 x.ns.length c2); with_reducible refine (hp2 _ hw2).mono ?_; rintro e w3 ⟨rfl, hd⟩; have hw3 := hw2.trans hd; have m0 := cell_ch (S := []) m0 hd (by simp); have m1 := cell_ch (S := []) m1 hd (by simp); have m2 := cell_ch (S := []) m2 hd (by simp); have g0 := cell_ch (S := []) g0 hd (by simp); have g1 := cell_ch (S := []) g1 hd (by simp); clear hd)
                  | (go_at_call_of 48 (Value.slice a1 x.ps.length c1); with_reducible refine (hr1 _ hw3).mono ?_; rintro e w4 ⟨rfl, hd⟩; have hw4 := hw3.trans hd; have m0 := cell_ch (S := []) m0 hd (by simp); have m1 := cell_ch (S := []) m1 hd (by simp); have m2 := cell_ch (S := []) m2 hd (by simp); have g0 := cell_ch (S := []) g0 hd (by simp); have g1 := cell_ch (S := []) g1 hd (by simp); clear hd)
                  | (go_at_call_of 48 (Value.slice a2 x.ns.length c2); with_reducible refine (hr2 _ hw4).mono ?_; rintro e w5 ⟨rfl, hd⟩; have hw5 := hw4.trans hd; have m0 := cell_ch (S := []) m0 hd (by simp); have m1 := cell_ch (S := []) m1 hd (by simp); have m2 := cell_ch (S := []) m2 hd (by simp); have g0 := cell_ch (S := []) g0 hd (by simp); have g1 := cell_ch (S := []) g1 hd (by simp); clear hd)
                  | (go_at_call 47; with_reducible refine hp0.mono ?_; rintro e w1 ⟨rfl, hd⟩; have hw1 := hcN2.trans hd; have m0 := cell_ch (S := []) o0 hd (by simp); have m1 := cell_ch (S := []) o1 hd (by simp); have m2 := cell_ch (S := []) o2 hd (by simp); have g0 := cell_ch (S := []) p0 hd (by simp); have g1 := cell_ch (S := []) p1 hd (by simp); clear hd))
                go_ret
                exact ⟨by rw [HF.out]; rfl, hcA.trans (hB.trans hw4)⟩
              · skip
                cases q4
                · clear hok
                  go_wp2_with (first
                    | (go_at_call_of 47 (Value.slice a1 x.ps.length c1); with_reducible refine (hp1 _ hw1).mono ?_; rintro e w2 ⟨rfl, hd⟩; have hw2 := hw1.trans hd; have m0 := cell_ch (S := []) m0 hd (by simp); have m1 := cell_ch (S := []) m1 hd (by simp); have m2 := cell_ch (S := []) m2 hd (by simp); have g0 := cell_ch (S := []) g0 hd (by simp); have g1 := cell_ch (S := []) g1 hd (by simp); clear hd)
                    | (go_at_call_of 47 (Value.slice a2 x.ns.length c2); with_reducible refine (hp2 _ hw2).mono ?_; rintro e w3 ⟨rfl, hd⟩; have hw3 := hw2.trans hd; have m0 := cell_ch (S := []) m0 hd (by simp); have m1 := cell_ch (S := []) m1 hd (by simp); have m2 := cell_ch (S := []) m2 hd (by simp); have g0 := cell_ch (S := []) g0 hd (by simp); have g1 := cell_ch (S := []) g1 hd (by simp); clear hd)
                    | (go_at_call_of 48 (Value.slice a1 x.ps.length c1); with_reducible refine (hr1 _ hw3).mono ?_; rintro e w4 ⟨rfl, hd⟩; have hw4 := hw3.trans hd; have m0 := cell_ch (S := []) m0 hd (by simp); have m1 := cell_ch (S := []) m1 hd (by simp); have m2 := cell_ch (S := []) m2 hd (by simp); have g0 := cell_ch (S := []) g0 hd (by simp); have g1 := cell_ch (S := []) g1 hd (by simp); clear hd)
                    | (go_at_call_of 48 (Value.slice a2 x.ns.length c2); with_reducible refine (hr2 _ hw4).mono ?_; rintro e w5 ⟨rfl, hd⟩; have hw5 := hw4.trans hd; have m0 := cell_ch (S := []) m0 hd (by simp); have m1 := cell_ch (S := []) m1 hd (by simp); have m2 := cell_ch (S := []) m2 hd (by simp); have g0 := cell_ch (S := []) g0 hd (by simp); have g1 := cell_ch (S := []) g1 hd (by simp); clear hd)
                    | (go_at_call 47; with_reducible refine hp0.mono ?_; rintro e w1 ⟨rfl, hd⟩; have hw1 := hcN2.trans hd; have m0 := cell_ch (S := []) o0 hd (by simp); have m1 := cell_ch (S := []) o1 hd (by simp); have m2 := cell_ch (S := []) o2 hd (by simp); have g0 := cell_ch (S := []) p0 hd (by simp); have g1 := cell_ch (S := []) p1 hd (by simp); clear hd))
                  go_ret
                  exact ⟨by rw [HF.out]; rfl, hcA.trans (hB.trans hw5)⟩
                · exact absurd rfl hok
    · have j1 : decide (k < rs.length) = false := decide_eq_false hlt
      have HF := Lib.hid (HEnd.out (fun i hi => HN.out i hi (by omega)))
      go_wp2
      go_ret
      exact ⟨by rw [HF.out]; rfl, hcA.trans hB⟩
end
end Go.Proofs.YtojokdicbopknaaGreat
