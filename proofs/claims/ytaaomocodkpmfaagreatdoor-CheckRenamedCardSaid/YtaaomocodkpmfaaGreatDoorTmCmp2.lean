
/-
  The contracts of term.CompareList and term.Compare.
-/
import Derived.Test.YtaaomocodkpmfaaGreatDoorTmCmp
import Derived.Test.YtaaomocodkpmfaaGreatDoorFacts
import Derived.Deep.RegionHeld3
import Derived.Deep.DeepCutAuto
import Derived.Deep.Light
namespace Go.Proofs.YtaaomocodkpmfaaGreatDoor
open Go.RowKit

set_option maxRecDepth 100000 in
set_option maxHeartbeats 4000000 in
theorem cmpList_ (xs ys : List Tm) (p q : Nat → Prop) (va vb : Value) (w : World) (h : SlT p w va xs) (h' : SlT q w vb ys)
    (HC : ∀ x ∈ xs, ∀ y ∈ ys, ∀ (p q : Nat → Prop) (va vb : Value) (wz : World), SlT p wz va x.args → SlT q wz vb y.args → Calls Tryz.prog 49 #[.agg #[.string x.name, va], .agg #[.string y.name, vb]] wz fun e w' => e = .returned (.int .i64 (cmpT x y)) ∧ Ch [] wz w') :
    Calls Tryz.prog 90 #[va, vb] w fun e w' => e = .returned (.int .i64 (cmpTL xs ys)) ∧ Ch [] w w' := by
  obtain ⟨a, c, rfl, hlc, hmx⟩ := h.form
  obtain ⟨b, d, rfl, hld, hmy⟩ := h'.form
  unfold maxLen at hmx hmy
  have HCC := Lib.hid HC; clear HC
  go_enter Tryz.func90, Tryz.ntmps90
  go_wp2
  go_loopw [5, 6] (fun i _ wr => ∃ k : Nat, k ≤ xs.length ∧ k ≤ ys.length ∧ i = .int .i64 k ∧ Ch [] w wr ∧ Hid (∀ j (h1 : j < xs.length) (h2 : j < ys.length), j < k → cmpT xs[j] ys[j] = 0)) (fun i _ _ => xs.length - (intOf i).toNat)
  case atStart => exact ⟨0, Nat.zero_le _, Nat.zero_le _, rfl, Ch.refl _ _, fun j _ _ h => absurd h (Nat.not_lt_zero _)⟩
  case round =>
    obtain ⟨k, hk1, hk2, rfl, hB, HN⟩ := hrel
    by_cases hlt : k < xs.length ∧ k < ys.length
    · obtain ⟨h1, h2⟩ := hlt
      obtain ⟨ba, oa, a1, c1, rfl, hp1, d0, d1, hT1⟩ := (h.ch0 hB).at_ h1
      obtain ⟨bb, ob, a2, c2, rfl, hp2, e0, e1, hT2⟩ := (h'.ch0 hB).at_ h2
      have hcall := fun y : Later wr => later_call (HCC.out xs[k] (List.getElem_mem h1) ys[k] (List.getElem_mem h2) _ _ _ _ y.w (hT1.ch0 y.ch) (hT2.ch0 y.ch))
      have HG0 := Lib.hid (show cmpT xs[k] ys[k] = 0 → ∀ j (h1 : j < xs.length) (h2 : j < ys.length), j < k + 1 → cmpT xs[j] ys[j] = 0 from fun h0 j g1 g2 g3 => by
        rcases Nat.lt_succ_iff_lt_or_eq.1 g3 with g4 | g4
        · exact HN.out j g1 g2 g4
        · subst g4; exact h0)
      have HG1 := Lib.hid (show ∀ r, cmpT xs[k] ys[k] = r → r ≠ 0 → cmpTL xs ys = r from fun r hr h0 => by
        rw [← hr] at h0 ⊢
        exact cmpTL_at xs ys k h1 h2 (fun j hj => HN.out j _ _ hj) h0)
      have l0 := Later.cell d0
      have l1 := Later.cell d1
      have l2 := Later.cell e0
      have l3 := Later.cell e1
      have i1 : (k : Int) < (xs.length : Int) := by omega
      have i2 : (k : Int) < (ys.length : Int) := by omega
      have j1 : decide (k < xs.length) = true := decide_eq_true h1
      have j2 : decide (k < ys.length) = true := decide_eq_true h2
      clear d0 d1 e0 e1 hT1 hT2
      generalize xs[k] = x at *
      generalize ys[k] = y at *
      generalize cmpT x y = r at *
      go_wp2
      refine wp_region_later (by kernel_rfl) (lexB_of (by kernel_rfl)) ?_
      repeat (go_big_quiet_step (exact hcall _))
      refine wpQuiet_nil ?_
      intro w3 hw3
      clear hcall l0 l1 l2 l3
      by_cases hz : r = 0
      · subst hz
        have HX := Lib.hid (HG0.out rfl)
        go_wp2
        go_roundw
        case rel => exact ⟨k + 1, by omega, by omega, by go_num, hB.trans hw3, HX⟩
        case measure => simp [intOf]; omega
      · have e1 : (r != 0) = true := by simpa using hz
        have HX := Lib.hid (HG1.out r rfl hz)
        clear hz
        go_wp2
        go_ret
        exact ⟨by rw [HX.out]; rfl, hB.trans hw3⟩
    · have HX : Hid (cmpTL xs ys = ordN xs.length ys.length) := cmpTL_end xs ys (fun j g1 g2 => HN.out j g1 g2 (by omega))
      rcases Nat.lt_or_ge k xs.length with h1 | h1
      · have j1 : decide (k < xs.length) = true := decide_eq_true h1
        have j2 : decide (k < ys.length) = false := decide_eq_false (fun h2 => hlt ⟨h1, h2⟩)
        clear hlt h1
        go_wp2_with (go_at_call 91; refine (order_ _ _ _).mono ?_; rintro e w' ⟨rfl, rfl⟩)
        go_ret
        exact ⟨by rw [HX.out]; rfl, hB⟩
      · have j1 : decide (k < xs.length) = false := decide_eq_false (by omega)
        clear hlt h1
        go_wp2_with (go_at_call 91; refine (order_ _ _ _).mono ?_; rintro e w' ⟨rfl, rfl⟩)
        go_ret
        exact ⟨by rw [HX.out]; rfl, hB⟩

/-- what was there before a call that only lays memory, as rules of the walk -/
theorem Ch.cells {w w' : World} (h : Ch [] w w') : (∀ b o, b < w.heap.size → w'.cell? ⟨b, o, none⟩ = w.cell? ⟨b, o, none⟩) ∧ (∀ b o, b < w.heap.size → w'.frozen? ⟨b, o, none⟩ = w.frozen? ⟨b, o, none⟩) :=
  ⟨fun b o hb => h.below.cell (p := ⟨b, o, none⟩) hb, fun b o hb => h.below.frozen (p := ⟨b, o, none⟩) hb⟩
theorem Blk.new' (w : World) (n : Nat) (t : TypeId) (cs : Array Value) (h : n = w.heap.size) : Blk (w.alloc (.cells cs t)) n t cs := by subst h; exact Blk.new w t cs
/-- a block of four cells -/
def Blk4 (w : World) (g : Nat) (t : TypeId) : Prop := ∃ cs : Array Value, cs.size = 4 ∧ Blk w g t cs
section
variable {w w' : World} {g : Nat} {t : TypeId}
theorem Blk4.new' (w : World) (n : Nat) (t : TypeId) (x y z u : Value) (h : n = w.heap.size) : Blk4 (w.alloc (.cells #[x, y, z, u] t)) n t := ⟨_, rfl, Blk.new' _ _ _ _ h⟩
theorem Blk4.alloc (h : Blk4 w g t) (o : Obj) : Blk4 (w.alloc o) g t := by obtain ⟨cs, h1, h2⟩ := h; exact ⟨cs, h1, h2.alloc o⟩
theorem Blk4.drew (h : Blk4 w g t) : Blk4 w.drew g t := h
theorem Blk4.ch (h : Blk4 w g t) (hc : Ch [] w w') : Blk4 w' g t := by obtain ⟨cs, h1, h2⟩ := h; exact ⟨cs, h1, h2.ch hc (by simp)⟩
theorem Blk4.far4 (h : Blk4 w g t) {b : Nat} (hn : g ≠ b) (a0 a1 a2 a3 : Value) : Blk4 ((((w.setCell ⟨b, 0, none⟩ a0).setCell ⟨b, 1, none⟩ a1).setCell ⟨b, 2, none⟩ a2).setCell ⟨b, 3, none⟩ a3) g t := by
  obtain ⟨cs, h1, h2⟩ := h; exact ⟨cs, h1, (((h2.far hn _).far hn _).far hn _).far hn _⟩
theorem Blk4.set4 {a0 a1 a2 a3 : Value} (h : Blk4 w g t) : Blk ((((w.setCell ⟨g, 0, none⟩ a0).setCell ⟨g, 1, none⟩ a1).setCell ⟨g, 2, none⟩ a2).setCell ⟨g, 3, none⟩ a3) g t #[a0, a1, a2, a3] := by
  obtain ⟨cs, n, h⟩ := h
  have key : ∀ (cs : Array Value) (x y z u : Value), cs.size = 4 → (((cs.setIfInBounds 0 x).setIfInBounds 1 y).setIfInBounds 2 z).setIfInBounds 3 u = #[x, y, z, u] := by
    intro cs x y z u h
    apply Array.ext
    · simp [h]
    · intro i h1 h2
      have : i = 0 ∨ i = 1 ∨ i = 2 ∨ i = 3 := by simp at h2; omega
      rcases this with rfl | rfl | rfl | rfl <;> simp [h]
  have := (((h.set_ 0 a0).set_ 1 a1).set_ 2 a2).set_ 3 a3
  rwa [key _ _ _ _ _ n] at this
theorem Blk.far4 {cs : Array Value} (h : Blk w g t cs) {b : Nat} (hn : g ≠ b) (a0 a1 a2 a3 : Value) : Blk ((((w.setCell ⟨b, 0, none⟩ a0).setCell ⟨b, 1, none⟩ a1).setCell ⟨b, 2, none⟩ a2).setCell ⟨b, 3, none⟩ a3) g t cs :=
  (((h.far hn _).far hn _).far hn _).far hn _
theorem Ch.set4 {a : World} (h : Ch [] a w) {b : Nat} (hn : a.heap.size ≤ b) (a0 a1 a2 a3 : Value) : Ch [] a ((((w.setCell ⟨b, 0, none⟩ a0).setCell ⟨b, 1, none⟩ a1).setCell ⟨b, 2, none⟩ a2).setCell ⟨b, 3, none⟩ a3) :=
  (((h.set (.inr hn) _).set (.inr hn) _).set (.inr hn) _).set (.inr hn) _
end

set_option maxRecDepth 100000 in
set_option maxHeartbeats 8000000 in
theorem compare_ : ∀ (n : Nat) (t u : Tm), t.dep ≤ n → ∀ (B b : Nat), Nice B b t → Nice B b u → B ≤ maxLen → ∀ (p q : Nat → Prop) (va vb : Value) (w : World), SlT p w va t.args → SlT q w vb u.args →
    Calls Tryz.prog 49 #[.agg #[.string t.name, va], .agg #[.string u.name, vb]] w fun e w' => e = .returned (.int .i64 (cmpT t u)) ∧ Ch [] w w' := by
  intro n
  induction n with
  | zero => intro t u ht; cases t; simp [Tm.dep] at ht
  | succ n ih =>
    intro t u ht B b hN1 hN2 hBm p q va vb w h h'
    obtain ⟨nm, xs⟩ := t
    obtain ⟨mm, ys⟩ := u
    simp only [Tm.args, Tm.name, Tm.dep] at h h' ht ⊢
    simp only [Nice] at hN1 hN2
    have hlist := fun wz (hz : Ch [] w wz) => cmpList_ xs ys p q va vb wz (h.ch0 hz) (h'.ch0 hz) (fun x hx y hy p q va vb wz hx1 hy1 => ih x y (by have := deps_mem hx; omega) B b (niceL_mem.1 hN1.2.2 x hx) (niceL_mem.1 hN2.2.2 y hy) hBm p q va vb wz hx1 hy1)
    obtain ⟨a, c, rfl, hlc, hmx⟩ := h.form
    obtain ⟨b, d, rfl, hld, hmy⟩ := h'.form
    have hk1 := fun wz => kindOf_ nm xs a c wz (by omega)
    have hk2 := fun wz => kindOf_ mm ys b d wz (by omega)
    have HE : Hid (cmpT (.mk nm xs) (.mk mm ys) = if kdEq (kdOf (.mk nm xs)) (kdOf (.mk mm ys)) = true then cmpTL xs ys else ordK (kdOf (.mk nm xs)) (kdOf (.mk mm ys))) := by unfold Hid; rw [cmpT]; rfl
    clear ih h h' hN1 hN2
    generalize cmpT (.mk nm xs) (.mk mm ys) = R at *
    generalize cmpTL xs ys = RL at *
    unfold kV at hk1 hk2
    generalize kdOf (.mk nm xs) = K1 at *
    generalize kdOf (.mk mm ys) = K2 at *
    obtain ⟨k1, v1, n1, s1⟩ := K1
    obtain ⟨k2, v2, n2, s2⟩ := K2
    simp only at hk1 hk2
    generalize xs.length = L at *
    generalize ys.length = M at *
    obtain ⟨wA, hwA⟩ : ∃ wA, w.alloc (.cells #[.string nm, .slice a L c] 24) = wA := ⟨_, rfl⟩
    have hbx : Blk wA w.heap.size 24 #[.string nm, .slice a L c] := by rw [← hwA]; exact Blk.new _ _ _
    have hcA : Ch [] w wA := by rw [← hwA]; exact (Ch.refl _ _).alloc _
    have hsA : wA.heap.size = w.heap.size + 1 := by rw [← hwA]; simp
    obtain ⟨wB, hwB⟩ : ∃ wB, wA.alloc (.cells #[.string mm, .slice b M d] 24) = wB := ⟨_, rfl⟩
    have hby : Blk wB wA.heap.size 24 #[.string mm, .slice b M d] := by rw [← hwB]; exact Blk.new _ _ _
    have hbx2 : Blk wB w.heap.size 24 #[.string nm, .slice a L c] := by rw [← hwB]; exact hbx.alloc _
    have hcB : Ch [] w wB := by rw [← hwB]; exact hcA.alloc _
    have b0 := hbx2.cell 0
    have b1 := hbx2.cell 1
    have b2 := hby.cell 0
    have b3 := hby.cell 1
    have hlt1 : w.heap.size < wB.heap.size := hbx2.lt
    have hlt2 : wA.heap.size < wB.heap.size := hby.lt
    clear hbx hsA
    have hS : ∀ wz, Ch [] wB wz → wz.cell? ⟨w.heap.size, 0, none⟩ = some (.string nm) ∧ wz.cell? ⟨w.heap.size, 1, none⟩ = some (.slice a L c) ∧ wz.cell? ⟨wA.heap.size, 0, none⟩ = some (.string mm) ∧ wz.cell? ⟨wA.heap.size, 1, none⟩ = some (.slice b M d) := fun wz hz => ⟨cell_ch b0 hz (by simp), cell_ch b1 hz (by simp), cell_ch b2 hz (by simp), cell_ch b3 hz (by simp)⟩
    go_enter Tryz.func49, Tryz.ntmps49
    go_upto_region 1 with fail
    go_cut [5, 6] (fun s5 s6 wx => ∃ g5 g6 : Nat, s5 = .pointer (some ⟨g5, 0, none⟩) ∧ s6 = .pointer (some ⟨g6, 0, none⟩) ∧ Blk wx g5 141 #[.int .i64 k1, .int .i64 v1, .int .i64 n1, .string s1] ∧ Blk wx g6 141 #[.int .i64 k2, .int .i64 v2, .int .i64 n2, .string s2] ∧ Ch [] wB wx)
    case first =>
      go_region_held3 (fun w' => w'.cell? ⟨w.heap.size, 0, none⟩ = some (.string nm) ∧ w'.cell? ⟨w.heap.size, 1, none⟩ = some (.slice a L c) ∧ w'.cell? ⟨wA.heap.size, 0, none⟩ = some (.string mm) ∧ w'.cell? ⟨wA.heap.size, 1, none⟩ = some (.slice b M d)) ((refine hS _ ?_; (repeat (first | with_reducible exact Ch.refl _ _ | with_reducible refine Ch.drew ?_ | with_reducible refine Ch.alloc ?_ _ | with_reducible refine Ch.trans ?_ (by assumption) | with_reducible refine Ch.set ?_ (.inr (by simp only; omega)) _))))
        (first
          | (go_at_call_of 89 (Value.agg #[Value.string nm, Value.slice a L c]); refine (hk1 _).mono ?_; rintro e w1 ⟨rfl, hc1⟩; obtain ⟨x1, y1⟩ := hc1.cells; have sz1 := hc1.size; (try simp only [World.size_drew, World.size_alloc] at sz1); (try have r1 : wB.heap.size < w1.heap.size := by omega); (try have r2 : wB.heap.size + 1 < w1.heap.size := by omega))
          | (go_at_call_of 89 (Value.agg #[Value.string mm, Value.slice b M d]); refine (hk2 _).mono ?_; rintro e w2 ⟨rfl, hc2⟩; obtain ⟨x2, y2⟩ := hc2.cells; have sz2 := hc2.size; (try simp only [World.size_alloc] at sz2); (try have r3 : wB.heap.size < w2.heap.size := by omega); (try have r4 : wB.heap.size + 1 < w2.heap.size := by omega); (try have r5 : w1.heap.size < w2.heap.size := by omega); (try have r6 : w1.heap.size + 1 < w2.heap.size := by omega)))
      all_goals
        go_wp2_with fail
        go_meet
        go_light
        refine ⟨_, _, rfl, rfl, ?_, ?_, ?_⟩
        · first | ((repeat (first | (with_reducible refine Blk.new' _ _ _ _ ?_ <;> (simp <;> done)) | with_reducible refine Blk.alloc ?_ _ | (with_reducible refine Blk.far4 ?_ ?_ _ _ _ _; rotate_left; omega))); done) | ((repeat (first | (with_reducible refine Blk.new' _ _ _ _ ?_ <;> (simp <;> done)) | with_reducible refine Blk.alloc ?_ _ | (with_reducible refine Blk.far4 ?_ ?_ _ _ _ _; rotate_left; omega))); with_reducible refine Blk4.set4 ?_; (repeat (first | (with_reducible refine Blk4.new' _ _ _ _ _ _ _ ?_ <;> (simp <;> done)) | with_reducible refine Blk4.alloc ?_ _ | with_reducible refine Blk4.drew ?_ | (with_reducible apply Blk4.ch; rotate_left; assumption) | (with_reducible refine Blk4.far4 ?_ ?_ _ _ _ _; rotate_left; omega))); done)
        · first | ((repeat (first | (with_reducible refine Blk.new' _ _ _ _ ?_ <;> (simp <;> done)) | with_reducible refine Blk.alloc ?_ _ | (with_reducible refine Blk.far4 ?_ ?_ _ _ _ _; rotate_left; omega))); done) | ((repeat (first | (with_reducible refine Blk.new' _ _ _ _ ?_ <;> (simp <;> done)) | with_reducible refine Blk.alloc ?_ _ | (with_reducible refine Blk.far4 ?_ ?_ _ _ _ _; rotate_left; omega))); with_reducible refine Blk4.set4 ?_; (repeat (first | (with_reducible refine Blk4.new' _ _ _ _ _ _ _ ?_ <;> (simp <;> done)) | with_reducible refine Blk4.alloc ?_ _ | with_reducible refine Blk4.drew ?_ | (with_reducible apply Blk4.ch; rotate_left; assumption) | (with_reducible refine Blk4.far4 ?_ ?_ _ _ _ _; rotate_left; omega))); done)
        · (repeat (first | with_reducible exact Ch.refl _ _ | (with_reducible refine Ch.set4 ?_ ?_ _ _ _ _; rotate_left; omega) | with_reducible refine Ch.drew ?_ | with_reducible refine Ch.alloc ?_ _ | (with_reducible apply Ch.trans; rotate_left; assumption)))
    case rest =>
      obtain ⟨g5, g6, rfl, rfl, h5, h6, hcw⟩ := hcut
      have u0 := h5.cell 0
      have u1 := h5.cell 1
      have u2 := h5.cell 2
      have u3 := h5.cell 3
      have v0 := h6.cell 0
      have v1' := h6.cell 1
      have v2' := h6.cell 2
      have v3 := h6.cell 3
      have hall := hS _ hcw
      obtain ⟨z0, z1, z2, z3⟩ := hall
      have hli := hlist _ (hcB.trans hcw)
      have hw := hcB.trans hcw
      clear hS hlist hk1 hk2 hwA hwB hcA hbx2 hby b0 b1 b2 b3 h5 h6 hcB
      have HE' : Hid (R = if k1 = k2 ∧ v1 = v2 ∧ n1 = n2 ∧ s1 = s2 then RL else if k1 ≠ k2 then ordN k1 k2 else if v1 ≠ v2 then ordN v1 v2 else if n1 ≠ n2 then ordN n1 n2 else ordS s1 s2) := by
        unfold Hid
        rw [HE.out]
        by_cases h : k1 = k2 ∧ v1 = v2 ∧ n1 = n2 ∧ s1 = s2
        · rw [if_pos h, if_pos (kdEq_iff.2 h)]
        · rw [if_neg h, if_neg (fun h2 => h (kdEq_iff.1 h2))]; rfl
      clear HE
      by_cases e1 : k1 = k2
      · subst e1
        by_cases e2 : v1 = v2
        · subst e2
          by_cases e3 : n1 = n2
          · subst e3
            by_cases e4 : s1 = s2
            · subst e4
              have HX : Hid (R = RL) := by unfold Hid; rw [HE'.out, if_pos ⟨rfl, rfl, rfl, rfl⟩]
              go_wp2_with (go_at_call 90; refine hli.mono ?_; rintro e w5 ⟨rfl, hc5⟩)
              go_ret
              exact ⟨by rw [HX.out]; rfl, hw.trans hc5⟩
            · have HX : Hid (R = ordS s1 s2) := by unfold Hid; rw [HE'.out, if_neg (fun h => e4 h.2.2.2), if_neg (by simp), if_neg (by simp), if_neg (by simp)]
              have q1 : (s1.toList == s2.toList) = false := by rw [beqS]; exact decide_eq_false e4
              clear e4
              go_wp2_with (go_at_call 92; refine (strCompare_ _ _ _).mono ?_; rintro e w5 ⟨rfl, rfl⟩)
              go_ret
              exact ⟨by rw [HX.out]; rfl, hw⟩
          · have HX : Hid (R = ordN n1 n2) := by unfold Hid; rw [HE'.out, if_neg (fun h => e3 h.2.2.1), if_neg (by simp), if_neg (by simp), if_pos e3]
            have q1 : ((n1 : Int) == (n2 : Int)) = false := by rw [beq_eq_false_iff_ne]; omega
            have q2 : ((n1 : Int) != (n2 : Int)) = true := by simp; omega
            clear e3
            go_wp2_with (go_at_call 91; refine (order_ _ _ _).mono ?_; rintro e w5 ⟨rfl, rfl⟩)
            go_ret
            exact ⟨by rw [HX.out]; rfl, hw⟩
        · have HX : Hid (R = ordN v1 v2) := by unfold Hid; rw [HE'.out, if_neg (fun h => e2 h.2.1), if_neg (by simp), if_pos e2]
          have q1 : ((v1 : Int) == (v2 : Int)) = false := by rw [beq_eq_false_iff_ne]; omega
          have q2 : ((v1 : Int) != (v2 : Int)) = true := by simp; omega
          clear e2
          go_wp2_with (go_at_call 91; refine (order_ _ _ _).mono ?_; rintro e w5 ⟨rfl, rfl⟩)
          go_ret
          exact ⟨by rw [HX.out]; rfl, hw⟩
      · have HX : Hid (R = ordN k1 k2) := by unfold Hid; rw [HE'.out, if_neg (fun h => e1 h.1), if_pos e1]
        have q1 : ((k1 : Int) == (k2 : Int)) = false := by rw [beq_eq_false_iff_ne]; omega
        have q2 : ((k1 : Int) != (k2 : Int)) = true := by simp; omega
        clear e1
        go_wp2_with (go_at_call 91; refine (order_ _ _ _).mono ?_; rintro e w5 ⟨rfl, rfl⟩)
        go_ret
        exact ⟨by rw [HX.out]; rfl, hw⟩
end Go.Proofs.YtaaomocodkpmfaaGreatDoor
