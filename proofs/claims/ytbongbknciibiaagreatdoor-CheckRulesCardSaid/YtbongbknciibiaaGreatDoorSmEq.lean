
/-
  The contracts of plain's variable, Term and Terms.
  The contracts of plain.Term and plain.Terms.
-/
import Derived.Test.YtbongbknciibiaaGreatDoorSmParts
namespace Go.Proofs.YtbongbknciibiaaGreatDoor

section
open Go.RowKit

end

section
open Go.RowKit

theorem tmsEq_len : ∀ (ts us : List Tm), tmsEq ts us = true → ts.length = us.length
  | [], [], _ => rfl
  | [], _ :: _, h => by simp [tmsEq] at h
  | _ :: _, [], h => by simp [tmsEq] at h
  | a :: ts, b :: us, h => by
    simp only [tmsEq, Bool.and_eq_true] at h
    simp [tmsEq_len ts us h.2]
theorem tmsEq_ne {ts us : List Tm} (h : ts.length ≠ us.length) : tmsEq ts us = false := by
  cases hq : tmsEq ts us with
  | false => rfl
  | true => exact absurd (tmsEq_len ts us hq) h
def TermC (n : Nat) : Prop := ∀ (t u : Tm), t.sz ≤ n → ∀ (p q : Nat → Prop) (v v' : Value) (w : World), SlT p w v t.args → SlT q w v' u.args →
  Calls Tryz.prog 46 #[.agg #[.string t.name, v], .agg #[.string u.name, v']] w fun e w' => e = .returned (.bool (tmEq t u)) ∧ Ch [] w w'
def TermsC (n : Nat) : Prop := ∀ (ts us : List Tm), szs ts ≤ n → ∀ (p q : Nat → Prop) (v v' : Value) (w : World), SlT p w v ts → SlT q w v' us →
  Calls Tryz.prog 18 #[v, v'] w fun e w' => e = .returned (.bool (tmsEq ts us)) ∧ Ch [] w w'

set_option maxRecDepth 100000 in
set_option maxHeartbeats 2000000 in
theorem term_step (n : Nat) (IH : TermsC n) : TermC (n + 1) := by
  intro t u ht p q v v' w h h'
  obtain ⟨nm, ags⟩ := t
  obtain ⟨nu, bgs⟩ := u
  obtain ⟨a, c, rfl, hlc, hmx⟩ := h.form
  obtain ⟨a', c', rfl, hlc', hmx'⟩ := h'.form
  simp only [Tm.args, Tm.name, Tm.sz] at h h' hlc hlc' ht ⊢
  have hc := fun wz h1 h2 => IH ags bgs (by omega) p q (.slice a ags.length c) (.slice a' bgs.length c') wz h1 h2
  have HP : Hid (tmEq (.mk nm ags) (.mk nu bgs) = (decide (nm = nu) && tmsEq ags bgs)) := by unfold Hid; rw [tmEq]
  have hbx := (Blk.new w 28 #[.string nm, .slice a ags.length c]).alloc (.cells #[.string nu, .slice a' bgs.length c'] 28)
  have hby : Blk ((w.alloc (.cells #[.string nm, .slice a ags.length c] 28)).alloc (.cells #[.string nu, .slice a' bgs.length c'] 28)) (w.heap.size + 1) 28 #[.string nu, .slice a' bgs.length c'] := by
    have := Blk.new (w.alloc (.cells #[.string nm, .slice a ags.length c] 28)) 28 #[.string nu, .slice a' bgs.length c']
    simpa using this
  have hcA : Ch [] w ((w.alloc (.cells #[.string nm, .slice a ags.length c] 28)).alloc (.cells #[.string nu, .slice a' bgs.length c'] 28)) := ((Ch.refl _ _).alloc _).alloc _
  have b0 := hbx.cell 0
  have b1 := hbx.cell 1
  have e0 := hby.cell 0
  have e1 := hby.cell 1
  have hcc := hc _ (h.ch0 hcA) (h'.ch0 hcA)
  clear hc IH
  generalize tmsEq ags bgs = q1 at *
  by_cases hn : nm = nu
  · have hq : (nm.toList == nu.toList) = true := by rw [beqS]; simpa using hn
    have HR : Hid (tmEq (.mk nm ags) (.mk nu bgs) = q1) := by unfold Hid; rw [HP.out, decide_eq_true hn]; rfl
    clear hn HP
    go_enter Tryz.func46, Tryz.ntmps46
    go_wp2_with (go_at_call 18; refine hcc.mono ?_; rintro e w1 ⟨rfl, hc1⟩; clear hcc)
    all_goals
      go_ret
      exact ⟨by rw [HR.out]; first | rfl | simp_all, hcA.trans hc1⟩
  · have hq : (nm.toList == nu.toList) = false := by rw [beqS]; simpa using hn
    have HR : Hid (tmEq (.mk nm ags) (.mk nu bgs) = false) := by unfold Hid; rw [HP.out, decide_eq_false hn]; rfl
    clear hn HP hcc
    go_enter Tryz.func46, Tryz.ntmps46
    go_wp2
    go_ret
    exact ⟨by rw [HR.out]; rfl, hcA⟩

set_option maxRecDepth 100000 in
set_option maxHeartbeats 2000000 in
theorem terms_step (n : Nat) (T : TermC n) : TermsC n := by
  intro ts us ht p q v v' w h h'
  obtain ⟨a, c, rfl, hlc, hmx⟩ := h.form
  obtain ⟨a', c', rfl, hlc', hmx'⟩ := h'.form
  unfold maxLen at hmx hmx'
  have HT := Lib.hid T; clear T
  by_cases hl : ts.length = us.length
  · have hb : ((ts.length : Int) != (us.length : Int)) = false := by simp [hl]
    have HL := Lib.hid hl; clear hl
    go_enter Tryz.func18, Tryz.ntmps18
    go_wp2
    go_loopw [13] (fun i wr => ∃ k : Nat, k ≤ ts.length ∧ i = .int .i64 k ∧ Ch [] w wr ∧ Hid (tmsEq ts us = tmsEq (ts.drop k) (us.drop k))) (fun i _ => ts.length - (intOf i).toNat)
    case atStart => exact ⟨0, Nat.zero_le _, rfl, Ch.refl _ _, rfl⟩
    case round =>
      obtain ⟨k, hk, rfl, hB, HX⟩ := hrel
      by_cases hlt : k < ts.length
      · have hlu : k < us.length := by have := HL.out; omega
        obtain ⟨b, o, a1, c1, rfl, hp, k0, k1, hT1⟩ := (h.ch0 hB).at_ hlt
        obtain ⟨b', o', a2, c2, rfl, hp', m0, m1, hT2⟩ := (h'.ch0 hB).at_ hlu
        have hszx := szs_mem (List.getElem_mem hlt)
        have hr : tmsEq ts us = (tmEq ts[k] us[k] && tmsEq (ts.drop (k + 1)) (us.drop (k + 1))) := by rw [HX.out, List.drop_eq_getElem_cons hlt, List.drop_eq_getElem_cons hlu, tmsEq]
        have HR := Lib.hid hr; clear hr
        generalize ts[k] = x at *
        generalize us[k] = y at *
        have hcall : ∀ wz, Ch [] wr wz → Calls Tryz.prog 46 #[.agg #[.string x.name, .slice a1 x.args.length c1], .agg #[.string y.name, .slice a2 y.args.length c2]] wz fun e w' => e = .returned (.bool (tmEq x y)) ∧ Ch [] wz w' := fun wz hz => HT.out x y (by omega) _ _ _ _ wz (hT1.ch0 hz) (hT2.ch0 hz)
        have L0 := Later.cell k0
        have L1 := Later.cell k1
        have M0 := Later.cell m0
        have M1 := Later.cell m1
        cases hq : tmEq x y
        all_goals
          rw [hq] at hcall HR
          clear hq
          go_wp2
          refine wp_region_later (by kernel_rfl) (lexB_of (by kernel_rfl)) ?_
          repeat (go_big_quiet_step ((go_at_call 46; exact later_call (hcall _ (Later.ch _)))))
          refine wpQuiet_nil ?_
          intro w3 hw3
          go_wp2
          first
            | (go_ret
               exact ⟨by rw [HR.out]; rfl, hB.trans hw3⟩)
            | (go_roundw
               case rel => exact ⟨k + 1, by omega, by go_num, hB.trans hw3, by unfold Hid; rw [HR.out]; rfl⟩
               case measure => simp [intOf]; omega)
      · have hr : tmsEq ts us = true := by rw [HX.out, List.drop_eq_nil_of_le (by omega), List.drop_eq_nil_of_le (by have := HL.out; omega), tmsEq]
        have HR := Lib.hid hr; clear hr
        go_wp2
        go_ret
        exact ⟨by rw [HR.out]; rfl, hB⟩
  · have hb : ((ts.length : Int) != (us.length : Int)) = true := by simp; omega
    have HR := Lib.hid (tmsEq_ne hl); clear hl
    go_enter Tryz.func18, Tryz.ntmps18
    go_wp2
    go_ret
    exact ⟨by rw [HR.out]; rfl, Ch.refl _ _⟩
theorem termC_all : ∀ n, TermC n
  | 0 => fun t _ ht => by cases t; simp [Tm.sz] at ht
  | n + 1 => term_step n (terms_step n (termC_all n))
theorem plainTerm (t u : Tm) (p q : Nat → Prop) (v v' : Value) (w : World) (h : SlT p w v t.args) (h' : SlT q w v' u.args) :
    Calls Tryz.prog 46 #[.agg #[.string t.name, v], .agg #[.string u.name, v']] w fun e w' => e = .returned (.bool (tmEq t u)) ∧ Ch [] w w' := termC_all _ t u (Nat.le_refl _) p q v v' w h h'
end
end Go.Proofs.YtbongbknciibiaaGreatDoor
