
/-
  The contracts of model.fires and of its closures.
  A table of rows of ground rules, which model.ranksOf writes.
  What model.ranksOf needs besides: the greatest stratum, the rules of a stratum, the rounds.
-/
import Derived.Test.YtojokdicbopknaaGreatGdStr
namespace Go.Proofs.YtojokdicbopknaaGreat

section
open Go.RowKit

/-- what a closure of model.fires keeps -/
structure FrAt (w : World) (B4 B5 B6 B7 B9 : Nat) (vs vr : Value) (lv rd : Int) : Prop where
  s : Blk w B4 28 #[vs]
  r : Blk w B5 28 #[vr]
  l : Blk w B6 3 #[.int .i64 lv]
  d : Blk w B7 3 #[.int .i64 rd]
  f : Blk w B9 103 #[.func (.func 81) #[] #[.pointer (some ⟨B5, 0, none⟩), .pointer (some ⟨B4, 0, none⟩), .pointer (some ⟨B6, 0, none⟩), .pointer (some ⟨B7, 0, none⟩)]]
theorem FrAt.ch {S : List Nat} {w w' : World} {B4 B5 B6 B7 B9 : Nat} {vs vr : Value} {lv rd : Int} (h : FrAt w B4 B5 B6 B7 B9 vs vr lv rd) (hc : Ch S w w') (h4 : B4 ∉ S) (h5 : B5 ∉ S) (h6 : B6 ∉ S) (h7 : B7 ∉ S) (h9 : B9 ∉ S) : FrAt w' B4 B5 B6 B7 B9 vs vr lv rd :=
  ⟨h.s.ch hc h4, h.r.ch hc h5, h.l.ch hc h6, h.d.ch hc h7, h.f.ch hc h9⟩
theorem FrAt.ch0 {w w' : World} {B4 B5 B6 B7 B9 : Nat} {vs vr : Value} {lv rd : Int} (h : FrAt w B4 B5 B6 B7 B9 vs vr lv rd) (hc : Ch [] w w') : FrAt w' B4 B5 B6 B7 B9 vs vr lv rd :=
  h.ch hc (by simp) (by simp) (by simp) (by simp) (by simp)

set_option maxRecDepth 100000 in
set_option maxHeartbeats 4000000 in
theorem fires1_ (st rk : List Int) (k : Nat) (hs : k < st.length) (hr : k < rk.length) (lv rd : Int) (p q : Nat → Prop) (vs vr : Value) (w : World) (B4 B5 B6 B7 B9 : Nat) (h : FrAt w B4 B5 B6 B7 B9 vs vr lv rd) (h1 : SlI p w vs st) (h2 : SlI q w vr rk) :
    Calls Tryz.prog 81 #[.int .i64 (k : Int), .pointer (some ⟨B5, 0, none⟩), .pointer (some ⟨B4, 0, none⟩), .pointer (some ⟨B6, 0, none⟩), .pointer (some ⟨B7, 0, none⟩)] w fun e w' => e = .returned (.bool (posOk st rk lv rd (k : Int))) ∧ Ch [] w w' := by
  have HP : Hid (posOk st rk lv rd (k : Int) = (decide (0 ≤ rk[k]) && (decide (st[k] < lv) || decide (rk[k] < rd)))) := by
    unfold Hid posOk; rw [gI_at hs, gI_at hr]
  obtain ⟨a1, c1, rfl, _, m1⟩ := h1.form
  obtain ⟨a2, c2, rfl, _, m2⟩ := h2.form
  unfold maxLen at m1 m2
  obtain ⟨b1, o1, rfl, _, d1⟩ := h1.at_ hs
  obtain ⟨b2, o2, rfl, _, d2⟩ := h2.at_ hr
  have l1 := Later.cell (h.s.cell 0)
  have l2 := Later.cell (h.r.cell 0)
  have l3 := Later.cell (h.l.cell 0)
  have l4 := Later.cell (h.d.cell 0)
  have l5 := Later.cell d1
  have l6 := Later.cell d2
  have i1 : (k : Int) < (st.length : Int) := by omega
  have i2 : (k : Int) < (rk.length : Int) := by omega
  have i3 : (0 : Int) ≤ (k : Int) := by omega
  generalize posOk st rk lv rd (k : Int) = R at *
  clear h h1 h2 d1 d2
  generalize st[k] = s at *
  generalize rk[k] = r at *
  clear hs hr
  by_cases t0 : 0 ≤ r
  · have j0 : decide (0 ≤ r) = true := decide_eq_true t0
    by_cases t1 : s < lv
    · have j1 : decide (s < lv) = true := decide_eq_true t1
      have HR : Hid (R = true) := by unfold Hid; rw [HP.out, j0, j1]; rfl
      clear HP t0 t1
      go_enter Tryz.func81, Tryz.ntmps81
      go_wp2
      refine wp_region_later (by kernel_rfl) (lexB_of (by kernel_rfl)) ?_
      repeat (go_big_quiet_step (fail))
      refine wpQuiet_nil ?_
      intro w3 hw3
      clear l1 l2 l3 l4 l5 l6
      go_wp2
      go_ret
      exact ⟨by rw [HR.out]; rfl, hw3⟩
    · have j1 : decide (s < lv) = false := decide_eq_false t1
      by_cases t2 : r < rd
      · have j2 : decide (r < rd) = true := decide_eq_true t2
        have HR : Hid (R = true) := by unfold Hid; rw [HP.out, j0, j1, j2]; rfl
        clear HP t0 t1 t2
        go_enter Tryz.func81, Tryz.ntmps81
        go_wp2
        refine wp_region_later (by kernel_rfl) (lexB_of (by kernel_rfl)) ?_
        repeat (go_big_quiet_step (fail))
        refine wpQuiet_nil ?_
        intro w3 hw3
        clear l1 l2 l3 l4 l5 l6
        go_wp2
        go_ret
        exact ⟨by rw [HR.out]; rfl, hw3⟩
      · have j2 : decide (r < rd) = false := decide_eq_false t2
        have HR : Hid (R = false) := by unfold Hid; rw [HP.out, j0, j1, j2]; rfl
        clear HP t0 t1 t2
        go_enter Tryz.func81, Tryz.ntmps81
        go_wp2
        refine wp_region_later (by kernel_rfl) (lexB_of (by kernel_rfl)) ?_
        repeat (go_big_quiet_step (fail))
        refine wpQuiet_nil ?_
        intro w3 hw3
        clear l1 l2 l3 l4 l5 l6
        go_wp2
        go_ret
        exact ⟨by rw [HR.out]; rfl, hw3⟩
  · have j0 : decide (0 ≤ r) = false := decide_eq_false t0
    have HR : Hid (R = false) := by unfold Hid; rw [HP.out, j0]; rfl
    clear HP t0
    go_enter Tryz.func81, Tryz.ntmps81
    go_wp2
    refine wp_region_later (by kernel_rfl) (lexB_of (by kernel_rfl)) ?_
    repeat (go_big_quiet_step (fail))
    refine wpQuiet_nil ?_
    intro w3 hw3
    clear l1 l2 l3 l4 l5 l6
    go_wp2
    go_ret
    exact ⟨by rw [HR.out]; rfl, hw3⟩

set_option maxRecDepth 100000 in
theorem fires21_ (st rk : List Int) (k : Nat) (hs : k < st.length) (hr : k < rk.length) (lv rd : Int) (p q : Nat → Prop) (vs vr : Value) (w : World) (B4 B5 B6 B7 B9 : Nat) (h : FrAt w B4 B5 B6 B7 B9 vs vr lv rd) (h1 : SlI p w vs st) (h2 : SlI q w vr rk) :
    Calls Tryz.prog 83 #[.int .i64 (k : Int), .pointer (some ⟨B9, 0, none⟩)] w fun e w' => e = .returned (.bool (!posOk st rk lv rd (k : Int))) ∧ Ch [] w w' := by
  have hcall := fires1_ st rk k hs hr lv rd p q vs vr w B4 B5 B6 B7 B9 h h1 h2
  have b0 := h.f.cell 0
  clear h h1 h2
  generalize posOk st rk lv rd (k : Int) = R at *
  go_enter Tryz.func83, Tryz.ntmps83
  go_wp2_with (go_at_call 81; ((with_reducible refine hcall.mono ?_); rintro e w1 ⟨rfl, hc1⟩))
  go_ret
  exact ⟨rfl, hc1⟩
set_option maxRecDepth 100000 in
theorem fires22_ (rk : List Int) (k : Nat) (hr : k < rk.length) (q : Nat → Prop) (vr : Value) (w : World) (B5 : Nat) (h : Blk w B5 28 #[vr]) (h2 : SlI q w vr rk) :
    Calls Tryz.prog 84 #[.int .i64 (k : Int), .pointer (some ⟨B5, 0, none⟩)] w fun e w' => e = .returned (.bool (decide (0 ≤ gI rk (k : Int)))) ∧ Ch [] w w' := by
  rw [gI_at hr]
  obtain ⟨a2, c2, rfl, _, m2⟩ := h2.form
  unfold maxLen at m2
  obtain ⟨b2, o2, rfl, _, d2⟩ := h2.at_ hr
  have b0 := h.cell 0
  have i2 : (k : Int) < (rk.length : Int) := by omega
  have i3 : (0 : Int) ≤ (k : Int) := by omega
  generalize rk[k] = r at *
  go_enter Tryz.func84, Tryz.ntmps84
  go_wp2
  go_ret
  exact ⟨rfl, Ch.refl _ _⟩

set_option maxRecDepth 100000 in
set_option maxHeartbeats 2000000 in
theorem idxI_f21 (f : Int → Bool) (c1 : Value) (p : Nat → Prop) (v : Value) (xs : List Int) (w : World) (h : SlI p w v xs)
    (hF : ∀ x ∈ xs, ∀ wz, Ch [] w wz → Calls Tryz.prog 83 #[.int .i64 x, c1] wz fun e w' => e = .returned (.bool (f x)) ∧ Ch [] wz w') :
    Calls Tryz.prog 91 #[v, .func (.func 83) #[] #[c1]] w fun e w' => e = .returned (.int .i64 (idxG f xs)) ∧ Ch [] w w' := by
  obtain ⟨a, c, rfl, hlc, hm⟩ := h.form
  unfold maxLen at hm
  have HF := Lib.hid hF; clear hF
  go_enter Tryz.func91, Tryz.ntmps91
  go_wp2
  go_loopw [5, 8] (fun _ i wr => ∃ k : Nat, k ≤ xs.length ∧ i = .int .i64 k ∧ Ch [] w wr ∧ Hid (∀ j (hj : j < xs.length), j < k → f xs[j] = false)) (fun _ i _ => xs.length - (intOf i).toNat)
  case atStart => exact ⟨0, Nat.zero_le _, rfl, Ch.refl _ _, fun j _ h => absurd h (Nat.not_lt_zero _)⟩
  case round =>
    obtain ⟨k, hk, rfl, hB, HN⟩ := hrel
    by_cases hlt : k < xs.length
    · obtain ⟨b, o, rfl, hp, c0⟩ := (h.ch0 hB).at_ hlt
      have hcall := HF.out xs[k] (List.getElem_mem hlt) wr hB
      cases hq : f xs[k] with
      | true =>
        rw [hq] at hcall
        have HR := Lib.hid (idxG_at f xs k hlt (fun j hj => HN.out j _ hj) hq)
        clear hq
        generalize xs[k] = x at *
        go_wp2_with (go_at_call 83; refine hcall.mono ?_; rintro e w1 ⟨rfl, hc1⟩; clear hcall)
        go_ret
        exact ⟨by rw [HR.out]; rfl, hB.trans hc1⟩
      | false =>
        rw [hq] at hcall
        have HX : Hid (∀ j (hj : j < xs.length), j < k + 1 → f xs[j] = false) := fun j hj h1 => by
          rcases Nat.lt_succ_iff_lt_or_eq.1 h1 with h2 | h2
          · exact HN.out j hj h2
          · subst h2; exact hq
        clear hq
        generalize xs[k] = x at *
        go_wp2_with (go_at_call 83; refine hcall.mono ?_; rintro e w1 ⟨rfl, hc1⟩; clear hcall)
        go_roundw
        case rel => exact ⟨k + 1, by omega, by go_num, hB.trans hc1, HX⟩
        case measure => simp [intOf]; omega
    · have HR := Lib.hid (idxG_none f xs (fun j hj => HN.out j hj (by omega)))
      go_wp2
      go_ret
      exact ⟨by rw [HR.out]; rfl, hB⟩

set_option maxRecDepth 100000 in
set_option maxHeartbeats 2000000 in
theorem anyI_f21 (f : Int → Bool) (c1 : Value) (p : Nat → Prop) (v : Value) (xs : List Int) (w : World) (h : SlI p w v xs)
    (hF : ∀ x ∈ xs, ∀ wz, Ch [] w wz → Calls Tryz.prog 83 #[.int .i64 x, c1] wz fun e w' => e = .returned (.bool (f x)) ∧ Ch [] wz w') :
    Calls Tryz.prog 67 #[v, .func (.func 83) #[] #[c1]] w fun e w' => e = .returned (.bool (xs.any f)) ∧ Ch [] w w' := by
  have hcall := idxI_f21 f c1 p v xs w h hF
  have HA := Lib.hid (idxG_any f xs)
  clear hF
  generalize idxG f xs = r at *
  generalize xs.any f = an at *
  obtain ⟨a, c, rfl, hlc, hm⟩ := h.form
  go_enter Tryz.func67, Tryz.ntmps67
  go_wp2_with (go_at_call 91; refine hcall.mono ?_; rintro e w1 ⟨rfl, hc1⟩; clear hcall)
  go_ret
  exact ⟨by rw [← HA.out]; rfl, hc1⟩


set_option maxRecDepth 100000 in
set_option maxHeartbeats 2000000 in
theorem idxI_f22 (f : Int → Bool) (c1 : Value) (p : Nat → Prop) (v : Value) (xs : List Int) (w : World) (h : SlI p w v xs)
    (hF : ∀ x ∈ xs, ∀ wz, Ch [] w wz → Calls Tryz.prog 84 #[.int .i64 x, c1] wz fun e w' => e = .returned (.bool (f x)) ∧ Ch [] wz w') :
    Calls Tryz.prog 91 #[v, .func (.func 84) #[] #[c1]] w fun e w' => e = .returned (.int .i64 (idxG f xs)) ∧ Ch [] w w' := by
  obtain ⟨a, c, rfl, hlc, hm⟩ := h.form
  unfold maxLen at hm
  have HF := Lib.hid hF; clear hF
  go_enter Tryz.func91, Tryz.ntmps91
  go_wp2
  go_loopw [5, 8] (fun _ i wr => ∃ k : Nat, k ≤ xs.length ∧ i = .int .i64 k ∧ Ch [] w wr ∧ Hid (∀ j (hj : j < xs.length), j < k → f xs[j] = false)) (fun _ i _ => xs.length - (intOf i).toNat)
  case atStart => exact ⟨0, Nat.zero_le _, rfl, Ch.refl _ _, fun j _ h => absurd h (Nat.not_lt_zero _)⟩
  case round =>
    obtain ⟨k, hk, rfl, hB, HN⟩ := hrel
    by_cases hlt : k < xs.length
    · obtain ⟨b, o, rfl, hp, c0⟩ := (h.ch0 hB).at_ hlt
      have hcall := HF.out xs[k] (List.getElem_mem hlt) wr hB
      cases hq : f xs[k] with
      | true =>
        rw [hq] at hcall
        have HR := Lib.hid (idxG_at f xs k hlt (fun j hj => HN.out j _ hj) hq)
        clear hq
        generalize xs[k] = x at *
        go_wp2_with (go_at_call 84; refine hcall.mono ?_; rintro e w1 ⟨rfl, hc1⟩; clear hcall)
        go_ret
        exact ⟨by rw [HR.out]; rfl, hB.trans hc1⟩
      | false =>
        rw [hq] at hcall
        have HX : Hid (∀ j (hj : j < xs.length), j < k + 1 → f xs[j] = false) := fun j hj h1 => by
          rcases Nat.lt_succ_iff_lt_or_eq.1 h1 with h2 | h2
          · exact HN.out j hj h2
          · subst h2; exact hq
        clear hq
        generalize xs[k] = x at *
        go_wp2_with (go_at_call 84; refine hcall.mono ?_; rintro e w1 ⟨rfl, hc1⟩; clear hcall)
        go_roundw
        case rel => exact ⟨k + 1, by omega, by go_num, hB.trans hc1, HX⟩
        case measure => simp [intOf]; omega
    · have HR := Lib.hid (idxG_none f xs (fun j hj => HN.out j hj (by omega)))
      go_wp2
      go_ret
      exact ⟨by rw [HR.out]; rfl, hB⟩

set_option maxRecDepth 100000 in
set_option maxHeartbeats 2000000 in
theorem anyI_f22 (f : Int → Bool) (c1 : Value) (p : Nat → Prop) (v : Value) (xs : List Int) (w : World) (h : SlI p w v xs)
    (hF : ∀ x ∈ xs, ∀ wz, Ch [] w wz → Calls Tryz.prog 84 #[.int .i64 x, c1] wz fun e w' => e = .returned (.bool (f x)) ∧ Ch [] wz w') :
    Calls Tryz.prog 67 #[v, .func (.func 84) #[] #[c1]] w fun e w' => e = .returned (.bool (xs.any f)) ∧ Ch [] w w' := by
  have hcall := idxI_f22 f c1 p v xs w h hF
  have HA := Lib.hid (idxG_any f xs)
  clear hF
  generalize idxG f xs = r at *
  generalize xs.any f = an at *
  obtain ⟨a, c, rfl, hlc, hm⟩ := h.form
  go_enter Tryz.func67, Tryz.ntmps67
  go_wp2_with (go_at_call 91; refine hcall.mono ?_; rintro e w1 ⟨rfl, hc1⟩; clear hcall)
  go_ret
  exact ⟨by rw [← HA.out]; rfl, hc1⟩

theorem anyI_congr {l : List Int} {f g : Int → Bool} (h : ∀ n ∈ l, f n = g n) : l.any f = l.any g := by
  induction l with
  | nil => rfl
  | cons a r ih => simp only [List.any_cons]; rw [h a (by simp), ih (fun x hx => h x (by simp [hx]))]
theorem fireB_any (st rk : List Int) (lv rd : Int) (x : Gr) : fireB st rk lv rd x = (!(x.ps.any fun n => !posOk st rk lv rd n) && !(x.ns.any fun n => decide (0 ≤ gI rk n))) := by
  unfold fireB
  rw [List.not_any_eq_all_not, List.not_any_eq_all_not]
  congr 1
  · simp
  · apply all_congr_
    intro n _
    by_cases h : 0 ≤ gI rk n
    · rw [decide_eq_true h, decide_eq_false (by omega)]; rfl
    · rw [decide_eq_false h, decide_eq_true (by omega)]; rfl

set_option maxRecDepth 100000 in
set_option maxHeartbeats 4000000 in
theorem fires2_ (x : Gr) (N : Nat) (st rk : List Int) (hs : st.length = N) (hr : rk.length = N) (hx : grOk N x = true) (lv rd : Int) (p q r : Nat → Prop) (va vb vs vr : Value) (w : World) (B4 B5 B6 B7 B9 : Nat) (h : FrAt w B4 B5 B6 B7 B9 vs vr lv rd) (h1 : SlI p w vs st) (h2 : SlI q w vr rk)
    (h3 : SlI r w va x.ps) (h4 : SlI r w vb x.ns) :
    Calls Tryz.prog 82 #[.agg #[.int .i64 x.h, va, vb], .pointer (some ⟨B9, 0, none⟩), .pointer (some ⟨B5, 0, none⟩)] w fun e w' => e = .returned (.bool (fireB st rk lv rd x)) ∧ Ch [] w w' := by
  have HF := Lib.hid (fireB_any st rk lv rd x)
  have hP := fun wz (hz : Ch [] w wz) => anyI_f21 (fun n => !posOk st rk lv rd n) (.pointer (some ⟨B9, 0, none⟩)) r va x.ps wz (h3.ch0 hz) (fun n hn wy hy => by
    obtain ⟨k, hk, rfl⟩ := numIn_nat (grOk_p hx n hn)
    exact fires21_ st rk k (by omega) (by omega) lv rd p q vs vr wy B4 B5 B6 B7 B9 (h.ch0 (hz.trans hy)) (h1.ch0 (hz.trans hy)) (h2.ch0 (hz.trans hy)))
  have hN := fun wz (hz : Ch [] w wz) => anyI_f22 (fun n => decide (0 ≤ gI rk n)) (.pointer (some ⟨B5, 0, none⟩)) r vb x.ns wz (h4.ch0 hz) (fun n hn wy hy => by
    obtain ⟨k, hk, rfl⟩ := numIn_nat (grOk_n hx n hn)
    exact fires22_ rk k (by omega) q vr wy B5 (h.r.ch (hz.trans hy) (by simp)) (h2.ch0 (hz.trans hy)))
  obtain ⟨a1, c1, rfl, _, _⟩ := h3.form
  obtain ⟨a2, c2, rfl, _, _⟩ := h4.form
  clear h h1 h2 h3 h4 hx
  generalize fireB st rk lv rd x = R at *
  generalize (x.ps.any fun n => !posOk st rk lv rd n) = q1 at *
  generalize (x.ns.any fun n => decide (0 ≤ gI rk n)) = q2 at *
  generalize x.ps.length = n1 at *
  generalize x.ns.length = n2 at *
  generalize x.h = xh at *
  have hbx := Blk.new w 44 #[.int .i64 xh, .slice a1 n1 c1, .slice a2 n2 c2]
  have hcA : Ch [] w (w.alloc (.cells #[.int .i64 xh, .slice a1 n1 c1, .slice a2 n2 c2] 44)) := (Ch.refl _ _).alloc _
  generalize hwA : (w.alloc (.cells #[.int .i64 xh, .slice a1 n1 c1, .slice a2 n2 c2] 44)) = wA at *
  have b1 := hbx.cell 1
  have b2 := hbx.cell 2
  cases q1
  · cases q2
    all_goals
      go_enter Tryz.func82, Tryz.ntmps82
      go_wp2_with (first
        | (go_at_call_of 67 (Value.slice a1 n1 c1); ((with_reducible refine (hP _ hcA).mono ?_); rintro e w1 ⟨rfl, hc1⟩; have d2 := (hbx.ch hc1 (by simp)).cell 2))
        | (go_at_call_of 67 (Value.slice a2 n2 c2); ((with_reducible refine (hN _ (hcA.trans hc1)).mono ?_); rintro e w2 ⟨rfl, hc2⟩)))
      go_ret
      exact ⟨by rw [HF.out]; rfl, (hcA.trans hc1).trans hc2⟩
  · go_enter Tryz.func82, Tryz.ntmps82
    go_wp2_with (go_at_call_of 67 (Value.slice a1 n1 c1); ((with_reducible refine (hP _ hcA).mono ?_); rintro e w1 ⟨rfl, hc1⟩))
    go_ret
    exact ⟨by rw [HF.out]; rfl, hcA.trans hc1⟩

theorem run_store_func {P : Program} {w : World} {a : Addr} {m : Mode} (f : Fn) (x y : Array Value) : (store a (.func f x y) m).run P w = stored P w a (.func f x y) m := run_store P w a _ m rfl
attribute [local go_sem] run_store_func
set_option maxRecDepth 100000 in
theorem fires_ (a1 a2 : Option Addr) (n1 c1 n2 c2 : Nat) (lv rd : Int) (w : World) :
    Calls Tryz.prog 59 #[.slice a1 n1 c1, .slice a2 n2 c2, .int .i64 lv, .int .i64 rd] w fun e w' => ∃ B4 B5 B6 B7 B9, e = .returned (.func (.func 82) #[] #[.pointer (some ⟨B9, 0, none⟩), .pointer (some ⟨B5, 0, none⟩)]) ∧
      (w.heap.size ≤ B4 ∧ w.heap.size ≤ B5 ∧ w.heap.size ≤ B6 ∧ w.heap.size ≤ B7 ∧ w.heap.size ≤ B9) ∧ FrAt w' B4 B5 B6 B7 B9 (.slice a1 n1 c1) (.slice a2 n2 c2) lv rd ∧ Ch [] w w' := by
  go_enter Tryz.func59, Tryz.ntmps59
  go_wp2
  go_ret
  refine ⟨w.heap.size, w.heap.size + 1, w.heap.size + 1 + 1, w.heap.size + 1 + 1 + 1, w.heap.size + 1 + 1 + 1 + 1, rfl, by omega, ⟨?_, ?_, ?_, ?_, ?_⟩, ?_⟩
  · exact ((((Blk.new _ _ _).alloc _).alloc _).alloc _).alloc _
  · exact (((Blk.new' _ _ _ _ (by simp)).alloc _).alloc _).alloc _
  · exact ((Blk.new' _ _ _ _ (by simp)).alloc _).alloc _
  · exact (Blk.new' _ _ _ _ (by simp)).alloc _
  · exact Blk.new' _ _ _ _ (by simp)
  · exact (((((Ch.refl _ _).alloc _).alloc _).alloc _).alloc _).alloc _
end

section
open Go.RowKit

theorem elGr : Elem Tryz.prog 23 44 3 56 := Elem.mk' Tryz.underlying23 (by kernel_rfl) (by decide) (by decide)
theorem elGG : Elem Tryz.prog 113 23 1 24 := Elem.mk' Tryz.underlying113 (by kernel_rfl) (by decide) (by decide)
theorem Own.differ2 {w : World} {base base' k k' : Nat} {e e' : TypeId} {v v' : Value} {css css' : List (List Value)} (h : Own w base e k v css) (h' : Own w base' e' k' v' css') (hne : e ≠ e') {g : Nat} (hg : v.ownBlock = some g) : v'.ownBlock ≠ some g := by
  intro hg'
  rcases h.1.2 with ⟨rfl, _⟩ | ⟨g1, cap, cur, rfl, _, h2, _⟩
  · cases hg
  · rcases h'.1.2 with ⟨rfl, _⟩ | ⟨g2, cap2, cur2, rfl, _, h3, _⟩
    · cases hg'
    · simp [Value.ownBlock] at hg hg'
      subst hg hg'
      rw [h2] at h3
      injection h3 with h3
      injection h3 with _ h3
      exact hne h3

theorem Own.ch0_ {w w' : World} {base k : Nat} {e : TypeId} {v : Value} {css : List (List Value)} (h : Own w base e k v css) (hc : Ch [] w w') : Own w' base e k v css := h.ch hc (by simp)
/-- a table of rows of ground rules, each in a block of its own -/
structure RowsG (w : World) (base : Nat) (ov : Value) (us : List Value) (rows : List (List (List Value))) : Prop where
  out : Own w base 23 1 ov (us.map fun u => [u])
  len : us.length = rows.length
  row : ∀ (i : Nat) (u : Value) (r : List (List Value)), us[i]? = some u → rows[i]? = some r → Own w base 44 3 u r
  diff : ∀ (i j : Nat) (u v : Value), i ≠ j → us[i]? = some u → us[j]? = some v → ∀ g, u.ownBlock = some g → v.ownBlock ≠ some g
theorem RowsG.ch0 {w w' : World} {base : Nat} {ov : Value} {us : List Value} {rows : List (List (List Value))} (h : RowsG w base ov us rows) (hc : Ch [] w w') : RowsG w' base ov us rows :=
  ⟨h.out.ch hc (by simp), h.len, fun i u r h1 h2 => (h.row i u r h1 h2).ch hc (by simp), h.diff⟩
theorem RowsG.step {w wX w1 : World} {base G T c n : Nat} {us : List Value} {rows : List (List (List Value))} {u v1 : Value} {r : List (List Value)} {x : List Value} (h : RowsG w base (.slice (some ⟨G, 0, none⟩) T c) us rows)
    (hu : us[n]? = some u) (hr : rows[n]? = some r) (hX : Ch [] w wX) (h1 : Ch u.ownBlock.toList wX w1) (ho1 : Own w1 base 44 3 v1 (r ++ [x]))
    (hat : v1.ownBlock = u.ownBlock ∨ v1.ownBlock = some wX.heap.size) : RowsG (w1.setCell ⟨G, n, none⟩ v1) base (.slice (some ⟨G, 0, none⟩) T c) (us.set n v1) (rows.set n (r ++ [x])) := by
  have hnu : n < us.length := (List.getElem?_eq_some_iff.1 hu).1
  have hnr : n < rows.length := (List.getElem?_eq_some_iff.1 hr).1
  have hrow := h.row n u r hu hr
  have hGu : ∀ g, u.ownBlock = some g → g ≠ G := fun g hg e => by
    subst e
    exact hrow.differ2 h.out (by decide) hg rfl
  have hsX := hX.size
  have hGlt : G < w.heap.size := (h.out.lt (b := G) rfl).2
  have hS : ∀ g, g ∈ u.ownBlock.toList → u.ownBlock = some g := fun g hg => by
    cases hb : u.ownBlock with
    | none => rw [hb] at hg; cases hg
    | some g' => rw [hb] at hg; simp at hg; rw [hg]
  obtain ⟨g1, hg1⟩ : ∃ g, v1.ownBlock = some g := by
    rcases ho1.form with ⟨_, h0⟩ | ⟨g, c, rfl, _⟩
    · simp at h0
    · exact ⟨g, rfl⟩
  have hg1G : g1 ≠ G := by
    rcases hat with e | e
    · exact hGu g1 (e ▸ hg1)
    · rw [e] at hg1; injection hg1 with e; omega
  have hout1 : Own w1 base 23 1 (.slice (some ⟨G, 0, none⟩) T c) (us.map fun u => [u]) :=
    (h.out.ch hX (by simp)).ch h1 (fun b hb hm => by injection hb with hb; subst hb; exact hGu _ (hS _ hm) rfl)
  have hone : v1.oneCell' = true := by
    obtain ⟨a, c, e⟩ := ho1.form'
    rw [e]; rfl
  have hset := hout1.set_ n 0 (cs := [u]) (u := v1) (by simp [hu]) (by omega) hone
  rw [Nat.mul_one, Nat.add_zero] at hset
  have hcS : Ch [G] w1 (w1.setCell ⟨G, n, none⟩ v1) := (Ch.refl _ _).set (by simp) _
  have hmap : (us.map fun u => [u]).set n ([u].set 0 v1) = (us.set n v1).map fun u => [u] := by rw [List.map_set]; rfl
  rw [hmap] at hset
  refine ⟨hset, by simp [h.len], fun i u' r' h2 h3 => ?_, fun i j u' v' hij h2 h3 g hg => ?_⟩
  · rw [List.getElem?_set] at h2 h3
    by_cases hi : n = i
    · subst hi
      rw [if_pos rfl, if_pos hnu] at h2
      rw [if_pos rfl, if_pos hnr] at h3
      injection h2 with h2
      injection h3 with h3
      subst h2 h3
      exact ho1.ch hcS (fun b hb hm => by rw [hg1] at hb; injection hb with hb; subst hb; exact hg1G (by simpa using hm))
    · rw [if_neg hi] at h2 h3
      have h4 := h.row i u' r' h2 h3
      refine ((h4.ch hX (by simp)).ch h1 (fun b hb hm => ?_)).ch hcS (fun b hb hm => ?_)
      · exact h.diff n i u u' hi hu h2 b (hS _ hm) hb
      · simp at hm; subst hm
        exact h4.differ2 h.out (by decide) hb rfl
  · rw [List.getElem?_set] at h2 h3
    have hfar : ∀ (k : Nat) (y : Value), k ≠ n → us[k]? = some y → ∀ g, y.ownBlock = some g → v1.ownBlock ≠ some g := fun k y hk hy g hg e => by
      rcases hat with e1 | e1
      · exact h.diff k n y u hk hy hu g hg (e1 ▸ e)
      · rw [e1] at e
        injection e with e
        have hklt : k < rows.length := by rw [← h.len]; exact (List.getElem?_eq_some_iff.1 hy).1
        have := ((h.row k y _ hy (List.getElem?_eq_getElem hklt)).lt hg).2
        omega
    by_cases hi : n = i
    · subst hi
      rw [if_pos rfl, if_pos hnu] at h2
      rw [if_neg hij] at h3
      injection h2 with h2
      subst h2
      intro e
      exact hfar j v' (fun e => hij e.symm) h3 g e hg
    · rw [if_neg hi] at h2
      by_cases hj : n = j
      · subst hj
        rw [if_pos rfl, if_pos hnu] at h3
        injection h3 with h3
        subst h3
        exact hfar i u' (fun e => hi e.symm) h2 g hg
      · rw [if_neg hj] at h3
        exact h.diff i j u' v' hij h2 h3 g hg

theorem makeRowsG (w : World) (n : Nat) (hn : n ≤ 1000000) : ∃ w', (Instr.makeSlice 113 (.int .i64 (n : Int)) (.int .i64 (n : Int))).run Tryz.prog w = .ok (.slice (some ⟨w.heap.size, 0, none⟩) n n) w' ∧
    Own w' w.heap.size 23 1 (.slice (some ⟨w.heap.size, 0, none⟩) n n) ((List.replicate n (Value.slice none 0 0)).map fun u => [u]) ∧ Ch [] w w' := by
  obtain ⟨i, z, h1, h2, h3, h4, _⟩ := elGG.i
  have hz : (Tryz.prog.info? 23).bind (·.zero) = some (.slice none 0 0) := by kernel_rfl
  rw [h1] at hz
  simp only [Option.bind_some, h2, Option.some.injEq] at hz
  subst hz
  obtain ⟨w', h5, h6, h7⟩ := run_make_full (P := Tryz.prog) w w.heap.size 113 23 i _ 1 elGG.t h1 h2 h3 .i64 .i64 n (by rw [h4]; omega) (by unfold maxLen; omega) (Nat.le_refl _)
  refine ⟨w', h5, ⟨?_, ?_⟩, by simpa using Ch.of_grown h7⟩
  · have e1 : (madeCells (Value.slice none 0 0).cells (n * 1)).toList = List.replicate n (Value.slice none 0 0) := by
      have : (Value.slice none 0 0).cells = #[Value.slice none 0 0] := rfl
      rw [this, Nat.mul_one, toList_madeCells_one]
    rw [e1] at h6
    have e2 : ((List.replicate n (Value.slice none 0 0)).map fun u => [u]).flatten = List.replicate n (Value.slice none 0 0) := by
      induction n with
      | zero => rfl
      | succ n ih => simp
    rw [e2]
    simpa using h6
  · intro cs hcs
    obtain ⟨u, hu, rfl⟩ := List.mem_map.1 hcs
    have := List.eq_of_mem_replicate hu
    subst this
    exact ⟨rfl, by simp [Value.oneCell']⟩
end

section
open Go.RowKit

theorem topS_snoc (st : List Int) (k : Nat) (h : k < st.length) : topS (st.take (k + 1)) = max (topS (st.take k)) st[k] := by
  simp only [topS, take_snoc st k h, List.foldl_append, List.foldl_cons, List.foldl_nil]
theorem foldl_max_ge : ∀ (l : List Int) (a : Int), a ≤ l.foldl max a ∧ ∀ n ∈ l, n ≤ l.foldl max a
  | [], a => ⟨Int.le_refl _, by simp⟩
  | x :: l, a => by
    obtain ⟨h1, h2⟩ := foldl_max_ge l (max a x)
    simp only [List.foldl_cons]
    refine ⟨by omega, fun n hn => ?_⟩
    rcases List.mem_cons.1 hn with rfl | hn
    · omega
    · exact h2 n hn
theorem foldl_max_le : ∀ (l : List Int) (a m : Int), a ≤ m → (∀ n ∈ l, n ≤ m) → l.foldl max a ≤ m
  | [], _, _, h, _ => h
  | x :: l, a, m, h, h1 => by
    simp only [List.foldl_cons]
    exact foldl_max_le l _ m (by have := h1 x (by simp); omega) (fun n hn => h1 n (by simp [hn]))
theorem topQ_nn (st : List Int) : 0 ≤ topS st := (foldl_max_ge st 0).1
theorem topQ_ge {st : List Int} {n : Int} (h : n ∈ st) : n ≤ topS st := (foldl_max_ge st 0).2 n h
theorem topQ_le {st : List Int} {m : Int} (h0 : 0 ≤ m) (h : ∀ n ∈ st, n ≤ m) : topS st ≤ m := foldl_max_le st 0 m h0 h
theorem stA_le {A : List Tm} {rs : List Gr} {st : List Int} (h : stA A rs = some st) (hr : ∀ x ∈ rs, grOk A.length x = true) : ∀ n ∈ st, n ≤ (A.length : Int) := by
  unfold stA at h
  cases hl : leastF (gEds A rs) with
  | none => rw [hl] at h; cases h
  | some f =>
    rw [hl] at h
    simp only [Option.map_some, Option.some.injEq] at h
    obtain ⟨h1, h2⟩ := leastF_is hl
    have hE : Ends (gEds A rs) (A.map Tm.name) := fun e he => by
      obtain ⟨x, hx, he⟩ := mem_gEds.1 he
      have ho := hr x hx
      have hm : ∀ i, numIn A.length i = true → nmA A i ∈ A.map Tm.name := fun i hi => by
        obtain ⟨k, hk, rfl, e⟩ := nmA_of hi
        rw [e]; exact List.mem_map.2 ⟨_, List.getElem_mem hk, rfl⟩
      simp only [edsX, List.mem_append, List.mem_map] at he
      rcases he with ⟨n, hn, rfl⟩ | ⟨n, hn, rfl⟩
      · exact ⟨hm _ (grOk_h ho), hm _ (grOk_p ho n hn)⟩
      · exact ⟨hm _ (grOk_h ho), hm _ (grOk_n ho n hn)⟩
    obtain ⟨g', h3, h4⟩ := h1.small hE
    intro n hn
    rw [← h] at hn
    obtain ⟨t, ht, rfl⟩ := List.mem_map.1 hn
    have h5 := h2 g' h3 t.name
    have h6 := h4 t.name (List.mem_map.2 ⟨t, ht, rfl⟩)
    rw [List.length_map] at h6
    omega

/-! ### the rules of a stratum, with their cells -/
theorem SlGr.pairs {p : Nat → Prop} {w : World} {v : Value} {xs : List Gr} (h : SlGr p w v xs) : ∃ ys : List (List Value × Gr), Sl p w 3 v (ys.map (·.1)) ∧ ys.map (·.2) = xs ∧ ∀ y ∈ ys, GrR p w y.2 y.1 := by
  obtain ⟨css, h1, h2, h3⟩ := h
  refine ⟨css.zip xs, ?_, ?_, ?_⟩
  · rw [List.map_fst_zip (by omega)]; exact h1
  · rw [List.map_snd_zip (by omega)]
  · intro y hy
    obtain ⟨i, hi, rfl⟩ := List.mem_iff_getElem.1 hy
    rw [List.length_zip] at hi
    rw [List.getElem_zip]
    exact h3 i _ _ (List.getElem?_eq_getElem (by omega)) (List.getElem?_eq_getElem (by omega))
def rowY (st : List Int) (ys : List (List Value × Gr)) (s : Int) : List (List Value × Gr) := ys.filter fun y => decide (gI st y.2.h = s)
def rowsT (st : List Int) (T : Nat) (ys : List (List Value × Gr)) : List (List (List Value)) := (List.range T).map fun (s : Nat) => (rowY st ys (s : Int)).map (·.1)
theorem rowsT_at {st : List Int} {T n : Nat} {ys : List (List Value × Gr)} (h : n < T) : (rowsT st T ys)[n]? = some ((rowY st ys (n : Int)).map (·.1)) := by simp [rowsT, h]
theorem rowsT_nil (st : List Int) (T : Nat) : rowsT st T [] = List.replicate T [] := by
  simp [rowsT, rowY, List.map_const']
theorem rowsT_len (st : List Int) (T : Nat) (ys : List (List Value × Gr)) : (rowsT st T ys).length = T := by simp [rowsT]
theorem rowsT_snoc (st : List Int) (T : Nat) (ys : List (List Value × Gr)) (k : Nat) (hk : k < ys.length) (n : Nat) (hn : gI st ys[k].2.h = (n : Int)) :
    rowsT st T (ys.take (k + 1)) = (rowsT st T (ys.take k)).set n ((rowY st (ys.take k) (n : Int)).map (·.1) ++ [ys[k].1]) := by
  apply List.ext_getElem?
  intro s
  rw [List.getElem?_set, rowsT_len]
  by_cases hs : s < T
  · rw [rowsT_at hs]
    have e : rowY st (ys.take (k + 1)) (s : Int) = rowY st (ys.take k) (s : Int) ++ if n = s then [ys[k]] else [] := by
      unfold rowY
      rw [take_snoc ys k hk, List.filter_append, List.filter_cons, hn, List.filter_nil]
      by_cases h : n = s
      · rw [if_pos h, if_pos (decide_eq_true (by omega))]
      · rw [if_neg h, if_neg (by simp; omega)]
    rw [e]
    by_cases h : n = s
    · subst h
      rw [if_pos rfl, if_pos rfl, if_pos hs, List.map_append]; rfl
    · rw [if_neg h, if_neg h, rowsT_at hs, List.append_nil]
  · have h1 : ∀ zs, (rowsT st T zs)[s]? = none := fun zs => List.getElem?_eq_none (by rw [rowsT_len]; omega)
    rw [h1, h1]
    by_cases h : n = s
    · rw [if_pos h, if_neg (by omega)]
    · rw [if_neg h]
theorem rowY_rules (st : List Int) (ys : List (List Value × Gr)) (s : Int) : (rowY st ys s).map (·.2) = (ys.map (·.2)).filter fun x => decide (gI st x.h = s) := by
  unfold rowY
  rw [List.filter_map]; rfl
theorem row_slgr {p q : Nat → Prop} {w : World} {base : Nat} {e : TypeId} {v : Value} {ys : List (List Value × Gr)} (h : Own w base e 3 v (ys.map (·.1))) (hy : ∀ y ∈ ys, GrR q w y.2 y.1) (hp : ∀ b, base ≤ b → p b) (hq : ∀ b, b < w.heap.size → q b → p b) : SlGr p w v (ys.map (·.2)) := by
  refine ⟨ys.map (·.1), h.sl.weak (fun b _ hb => hp b hb.1), by simp, fun i cs x h1 h2 => ?_⟩
  rw [List.getElem?_map] at h1 h2
  cases hg : ys[i]? with
  | none => rw [hg] at h1; cases h1
  | some y =>
    rw [hg] at h1 h2
    simp only [Option.map_some, Option.some.injEq] at h1 h2
    subst h1 h2
    exact GrR.imp (Nat.le_refl _) (fun b hb h => ⟨hq b hb h, rfl⟩) (hy y (List.mem_of_getElem? hg))
/-- the table of the strata's rules, as it is read -/
def TblR (w : World) (Bt B1 : Nat) (st : List Int) (rs : List Gr) (T : Nat) : Prop :=
  ∀ L : Nat, L < T → ∃ a c, w.cell? ⟨Bt, L, none⟩ = some (.slice a (rs.filter fun x => decide (gI st x.h = (L : Int))).length c) ∧ SlGr (fun b => b ≠ B1) w (.slice a (rs.filter fun x => decide (gI st x.h = (L : Int))).length c) (rs.filter fun x => decide (gI st x.h = (L : Int)))
theorem TblR.ch {w w' : World} {Bt B1 T : Nat} {st : List Int} {rs : List Gr} (h : TblR w Bt B1 st rs T) (hc : Ch [B1] w w') (hn : Bt ≠ B1) : TblR w' Bt B1 st rs T := fun L hL => by
  obtain ⟨a, c, h1, h2⟩ := h L hL
  exact ⟨a, c, cell_ch h1 hc (by simpa using hn), h2.ch hc (fun b _ hb => by simpa using hb)⟩
theorem RowsG.tbl {w : World} {base G B1 T c : Nat} {us : List Value} {st : List Int} {ys : List (List Value × Gr)} (h : RowsG w base (.slice (some ⟨G, 0, none⟩) T c) us (rowsT st T ys)) {q : Nat → Prop} (hy : ∀ y ∈ ys, GrR q w y.2 y.1)
    (hb : B1 < base) (hq : ∀ b, b < w.heap.size → q b → b ≠ B1) : TblR w G B1 st (ys.map (·.2)) T := fun L hL => by
  have hl : L < us.length := by rw [h.len, rowsT_len]; exact hL
  have hu := List.getElem?_eq_getElem hl
  have hr := h.row L _ _ hu (rowsT_at hL)
  have hs := row_slgr (p := fun b => b ≠ B1) hr (q := q) (fun y hy' => hy y (List.mem_filter.1 hy').1) (fun b hb' => by omega) hq
  have hc := h.out.cells_ (i := L) (j := 0) (cs := [us[L]]) (u := us[L]) (by simp [hl]) rfl
  rw [Nat.mul_one, Nat.add_zero] at hc
  rw [rowY_rules] at hs
  obtain ⟨a, c', e, _⟩ := hs.form
  rw [e] at hs hc
  exact ⟨a, c', hc, hs⟩

/-! ### the rounds -/
theorem stepR_set {st rk : List Int} {lv rd : Int} {x : Gr} {k : Nat} (hL : gI st x.h = lv) (hx : x.h = (k : Int)) (hk : k < rk.length) (h0 : rk[k] < 0) (hf : fireB st rk lv rd x = true) : stepR st lv rd rk x = rk.set k rd := by
  unfold stepR
  rw [if_pos ⟨hL, by rw [hx, gI_at hk]; exact h0, hf⟩, hx, Int.toNat_natCast]
theorem stepR_keep {st rk : List Int} {lv rd : Int} {x : Gr} {k : Nat} (hx : x.h = (k : Int)) (hk : k < rk.length) (h : 0 ≤ rk[k] ∨ fireB st rk lv rd x = false) : stepR st lv rd rk x = rk := by
  unfold stepR
  rw [if_neg]
  rintro ⟨_, h1, h2⟩
  rw [hx, gI_at hk] at h1
  rcases h with h | h
  · omega
  · rw [h] at h2; cases h2
/-- how far the rounds of a stratum have come: what the rounds from here on lead to -/
def RndAt (st : List Int) (lv : Int) (R : List Gr) (E rk : List Int) (N : Nat) (rd : Int) (ch : Bool) : Prop :=
  (ch = true ∧ ∃ f : Nat, rd + f = N + 2 ∧ 1 ≤ rd ∧ negs rk < f ∧ loopR st lv R f rd rk = E) ∨ (ch = false ∧ rk = E ∧ 1 ≤ rd ∧ rd ≤ N + 2)
theorem RndAt.start (st : List Int) (lv : Int) (R : List Gr) (rk : List Int) (N : Nat) (h : rk.length = N) : RndAt st lv R (loopR st lv R (N + 1) 1 rk) rk N 1 true :=
  .inl ⟨rfl, N + 1, by omega, by omega, by have := negs_le rk; omega, rfl⟩
theorem RndAt.next {st : List Int} {lv : Int} {R : List Gr} {E rk : List Int} {N : Nat} {rd : Int} (h : RndAt st lv R E rk N rd true) (b : Bool) (hb : (b = false ∧ passR st lv rd R rk = rk) ∨ (b = true ∧ negs (passR st lv rd R rk) < negs rk)) : RndAt st lv R E (passR st lv rd R rk) N (rd + 1) b ∧ rd ≤ N + 1 := by
  rcases h with ⟨_, f, h1, h2, h3, h4⟩ | ⟨h, _⟩
  · obtain ⟨f, rfl⟩ : ∃ g, f = g + 1 := ⟨f - 1, by omega⟩
    refine ⟨?_, by omega⟩
    unfold loopR at h4
    rcases hb with ⟨rfl, h5⟩ | ⟨rfl, h5⟩
    · rw [h5, if_pos rfl] at h4
      exact .inr ⟨rfl, by rw [h5, h4], by omega, by omega⟩
    · rw [if_neg (fun e => by rw [e] at h5; omega)] at h4
      exact .inl ⟨rfl, f, by omega, by omega, by omega, h4⟩
  · cases h
theorem RndAt.done {st : List Int} {lv : Int} {R : List Gr} {E rk : List Int} {N : Nat} {rd : Int} (h : RndAt st lv R E rk N rd false) : rk = E := by
  rcases h with ⟨h, _⟩ | ⟨_, h, _⟩
  · cases h
  · exact h
theorem RndAt.bound {st : List Int} {lv : Int} {R : List Gr} {E rk : List Int} {N : Nat} {rd : Int} (h : RndAt st lv R E rk N rd true) : 1 ≤ rd ∧ rd ≤ N + 1 := by
  rcases h with ⟨_, f, h1, h2, h3, _⟩ | ⟨h, _⟩
  · exact ⟨h2, by omega⟩
  · cases h
/-- a round under way -/
def PassAt (st : List Int) (lv rd : Int) (R : List Gr) (rk cur : List Int) (k : Nat) (b : Bool) : Prop :=
  cur = passR st lv rd (R.take k) rk ∧ ((b = false ∧ cur = rk) ∨ (b = true ∧ negs cur < negs rk))
theorem PassAt.zero (st : List Int) (lv rd : Int) (R : List Gr) (rk : List Int) : PassAt st lv rd R rk rk 0 false := ⟨rfl, .inl ⟨rfl, rfl⟩⟩
theorem PassAt.keep {st : List Int} {lv rd : Int} {R : List Gr} {rk cur : List Int} {k : Nat} {b : Bool} (h : PassAt st lv rd R rk cur k b) (hk : k < R.length) (hs : stepR st lv rd cur R[k] = cur) : PassAt st lv rd R rk cur (k + 1) b :=
  ⟨by rw [passR_snoc _ _ _ _ _ _ hk, ← h.1, hs], h.2⟩
theorem PassAt.set {st : List Int} {lv rd : Int} {R : List Gr} {rk cur : List Int} {k j : Nat} {b : Bool} (h : PassAt st lv rd R rk cur k b) (hk : k < R.length) (hrd : 0 ≤ rd) (hj : j < cur.length) (h0 : cur[j] < 0) (hs : stepR st lv rd cur R[k] = cur.set j rd) : PassAt st lv rd R rk (cur.set j rd) (k + 1) true := by
  refine ⟨by rw [passR_snoc _ _ _ _ _ _ hk, ← h.1, hs], .inr ⟨rfl, ?_⟩⟩
  have h1 := negs_set cur j rd hrd hj (by simpa [hj] using h0)
  rcases h.2 with ⟨_, h2⟩ | ⟨_, h2⟩
  · rw [← h2]; omega
  · omega
theorem PassAt.len {st : List Int} {lv rd : Int} {R : List Gr} {rk cur : List Int} {k : Nat} {b : Bool} (h : PassAt st lv rd R rk cur k b) : cur.length = rk.length := by rw [h.1, passR_len]
theorem PassAt.full {st : List Int} {lv rd : Int} {R : List Gr} {E rk cur : List Int} {k N : Nat} {b : Bool} (h : PassAt st lv rd R rk cur k b) (hk : R.length ≤ k) (hR : RndAt st lv R E rk N rd true) : RndAt st lv R E cur N (rd + 1) b ∧ rd ≤ N + 1 := by
  obtain ⟨h1, h2⟩ := h
  rw [List.take_of_length_le hk] at h1
  subst h1
  exact hR.next b h2
theorem levR_next (st : List Int) (rs : List Gr) (N : Nat) (rk : List Int) (n : Nat) : levR st rs (N + 1) rk (n + 1) = loopR st (n : Int) (rs.filter fun x => decide (gI st x.h = (n : Int))) (N + 1) 1 (levR st rs (N + 1) rk n) := by
  rw [loopR_filter]; rfl
end
end Go.Proofs.YtojokdicbopknaaGreat
