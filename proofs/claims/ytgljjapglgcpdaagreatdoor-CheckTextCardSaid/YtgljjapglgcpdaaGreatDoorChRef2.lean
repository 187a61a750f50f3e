
/-
  The contracts of the reference's lower, upper, digit, Name, Variable, Number.
  The contract of the reference's Number.
  The contracts of the reference's named, narrow, head, body, Variable (of layer 7), atom.
  The contracts of the reference's Leaves, Has, Vars (of layer 1), collect, Vars (of layer 7).
-/
import Derived.Test.YtgljjapglgcpdaaGreatDoorChNames
import Derived.Test.YtgljjapglgcpdaaGreatDoorChVars
namespace Go.Proofs.YtgljjapglgcpdaaGreatDoor

section
section
open Go.RowKit

set_option maxHeartbeats 400000 in
theorem lower_ (c : Nat) (w : World) : Calls Tryz.prog 84 #[.int .u8 c] w fun e w' => e = .returned (.bool (lowC c)) ∧ w = w' := by
  have hcs : c < 97 ∨ (97 ≤ c ∧ c ≤ 122) ∨ 122 < c := by omega
  rcases hcs with hc | hc | hc
  · have HV : Hid (lowC c = false) := by unfold Hid lowC; rw [decide_eq_false (by omega)]; rfl
    go_enter Tryz.func84, Tryz.ntmps84
    go_wp2
    all_goals
      go_ret
      exact ⟨by rw [HV.out]; first | rfl | (simp; omega), rfl⟩
  · have HV : Hid (lowC c = true) := by unfold Hid lowC; rw [decide_eq_true (by omega), decide_eq_true (by omega)]; rfl
    go_enter Tryz.func84, Tryz.ntmps84
    go_wp2
    all_goals
      go_ret
      exact ⟨by rw [HV.out]; first | rfl | (simp; omega), rfl⟩
  · have HV : Hid (lowC c = false) := by unfold Hid lowC; rw [decide_eq_false (p := c ≤ 122) (by omega), Bool.and_false]
    go_enter Tryz.func84, Tryz.ntmps84
    go_wp2
    all_goals
      go_ret
      exact ⟨by rw [HV.out]; first | rfl | (simp; omega), rfl⟩
set_option maxHeartbeats 400000 in
theorem upper_ (c : Nat) (w : World) : Calls Tryz.prog 143 #[.int .u8 c] w fun e w' => e = .returned (.bool (uppC c)) ∧ w = w' := by
  have hcs : c < 65 ∨ (65 ≤ c ∧ c ≤ 90) ∨ 90 < c := by omega
  rcases hcs with hc | hc | hc
  · have HV : Hid (uppC c = false) := by unfold Hid uppC; rw [decide_eq_false (by omega)]; rfl
    go_enter Tryz.func143, Tryz.ntmps143
    go_wp2
    all_goals
      go_ret
      exact ⟨by rw [HV.out]; first | rfl | (simp; omega), rfl⟩
  · have HV : Hid (uppC c = true) := by unfold Hid uppC; rw [decide_eq_true (by omega), decide_eq_true (by omega)]; rfl
    go_enter Tryz.func143, Tryz.ntmps143
    go_wp2
    all_goals
      go_ret
      exact ⟨by rw [HV.out]; first | rfl | (simp; omega), rfl⟩
  · have HV : Hid (uppC c = false) := by unfold Hid uppC; rw [decide_eq_false (p := c ≤ 90) (by omega), Bool.and_false]
    go_enter Tryz.func143, Tryz.ntmps143
    go_wp2
    all_goals
      go_ret
      exact ⟨by rw [HV.out]; first | rfl | (simp; omega), rfl⟩
set_option maxHeartbeats 400000 in
theorem digit_ (c : Nat) (w : World) : Calls Tryz.prog 85 #[.int .u8 c] w fun e w' => e = .returned (.bool (digC c)) ∧ w = w' := by
  have hcs : c < 48 ∨ (48 ≤ c ∧ c ≤ 57) ∨ 57 < c := by omega
  rcases hcs with hc | hc | hc
  · have HV : Hid (digC c = false) := by unfold Hid digC; rw [decide_eq_false (by omega)]; rfl
    go_enter Tryz.func85, Tryz.ntmps85
    go_wp2
    all_goals
      go_ret
      exact ⟨by rw [HV.out]; first | rfl | (simp; omega), rfl⟩
  · have HV : Hid (digC c = true) := by unfold Hid digC; rw [decide_eq_true (by omega), decide_eq_true (by omega)]; rfl
    go_enter Tryz.func85, Tryz.ntmps85
    go_wp2
    all_goals
      go_ret
      exact ⟨by rw [HV.out]; first | rfl | (simp; omega), rfl⟩
  · have HV : Hid (digC c = false) := by unfold Hid digC; rw [decide_eq_false (p := c ≤ 57) (by omega), Bool.and_false]
    go_enter Tryz.func85, Tryz.ntmps85
    go_wp2
    all_goals
      go_ret
      exact ⟨by rw [HV.out]; first | rfl | (simp; omega), rfl⟩

theorem spelt_no {f q : Nat → Bool} {s : ByteArray} (h : s.size < 1 ∨ 16 < s.size ∨ f (byteAt s 0) = false) : spelt f q s = false := by
  unfold spelt
  rcases h with h | h | h
  · rw [decide_eq_false (p := 1 ≤ s.size) (by omega)]; rfl
  · rw [decide_eq_false (p := s.size ≤ 16) (by omega), Bool.false_and, Bool.and_false]
  · rw [h, Bool.false_and, Bool.and_false, Bool.and_false]

set_option maxRecDepth 100000 in
set_option maxHeartbeats 4000000 in
theorem ref01Variable (s : ByteArray) (w : World) (hs : s.size ≤ maxLen) :
    Calls Tryz.prog 129 #[.string s] w fun e w' => e = .returned (.bool (varB s)) ∧ w = w' := by
  unfold maxLen at hs
  by_cases hz : s.size = 0
  · have HR : Hid (varB s = false) := spelt_no (.inl (by omega))
    go_enter Tryz.func129, Tryz.ntmps129
    go_wp2
    go_ret
    exact ⟨by rw [HR.out]; rfl, rfl⟩
  · by_cases h16 : 16 < s.size
    · have HR : Hid (varB s = false) := spelt_no (.inr (.inl h16))
      go_enter Tryz.func129, Tryz.ntmps129
      go_wp2
      all_goals
        go_ret
        exact ⟨by rw [HR.out]; rfl, rfl⟩
    · have hb0 := byteAt_eq (s := s) (i := 0) (by omega)
      have hcall := fun wz => upper_ (byteAt s 0) wz
      cases hf : uppC (byteAt s 0) with
      | false =>
        have HR : Hid (varB s = false) := spelt_no (.inr (.inr hf))
        rw [hf] at hcall
        clear hf
        go_enter Tryz.func129, Tryz.ntmps129
        go_wp2_with (go_at_call 143; refine (hcall _).mono ?_; rintro e w1 ⟨rfl, rfl⟩)
        all_goals
          go_ret
          exact ⟨by rw [HR.out]; rfl, rfl⟩
      | true =>
        have HR : Hid (varB s = allC varC s) := by unfold Hid varB; rw [spelt_first (by omega) (by omega), hf]; rfl
        rw [hf] at hcall
        clear hf
        go_enter Tryz.func129, Tryz.ntmps129
        go_wp2_with (go_at_call 143; refine (hcall _).mono ?_; rintro e w1 ⟨rfl, rfl⟩)
        all_goals
          go_loopw [3, 20] (fun _ i wr => ∃ k : Nat, k ≤ s.size ∧ i = .int .i64 k ∧ wr = w ∧ Hid (∀ j, j < k → varC (byteAt s j) = true)) (fun _ i _ => s.size - (intOf i).toNat)
          case atStart => exact ⟨0, Nat.zero_le _, rfl, rfl, by simp [Hid]⟩
          case round =>
            obtain ⟨k, hk, rfl, rfl, HN⟩ := hrel
            by_cases hlt : k < s.size
            · have hb := byteAt_eq hlt
              have hl := fun wz => lower_ (byteAt s k) wz
              have hu := fun wz => upper_ (byteAt s k) wz
              have hd := fun wz => digit_ (byteAt s k) wz
              have HV := Lib.hid (show varC (byteAt s k) = (uppC (byteAt s k) || (lowC (byteAt s k) || digC (byteAt s k))) from rfl)
              have HAB := Lib.hid (fun h => allC_bad (q := varC) hlt h)
              have HGO : Hid (varC (byteAt s k) = true → ∀ j, j < k + 1 → varC (byteAt s j) = true) := fun h j hj => by
                rcases Nat.lt_succ_iff_lt_or_eq.1 hj with h4 | h4
                · exact HN.out j h4
                · subst h4; exact h
              generalize hcg : byteAt s k = c at *
              clear hcg
              generalize lowC c = l1 at *
              generalize uppC c = u1 at *
              generalize digC c = d1 at *
              clear hcall
              cases l1 <;> cases u1 <;> cases d1
              all_goals
                go_wp2_with (first | (go_at_call 84; refine (hl _).mono ?_; rintro e w1 ⟨rfl, rfl⟩) | (go_at_call 143; refine (hu _).mono ?_; rintro e w1 ⟨rfl, rfl⟩) | (go_at_call 85; refine (hd _).mono ?_; rintro e w1 ⟨rfl, rfl⟩))
                first | (go_ret; exact ⟨by rw [HR.out, HAB.out HV.out]; rfl, rfl⟩) | skip
              all_goals
                go_roundw
                case rel => exact ⟨k + 1, by omega, by go_num, trivial, HGO.out HV.out⟩
                case measure => simp [intOf]; omega
            · have hks : k = s.size := by omega
              subst hks
              have HX : Hid (allC varC s = true) := allC_all fun j hj => HN.out j hj
              clear hcall
              go_wp2
              go_ret
              exact ⟨by rw [HR.out, HX.out]; rfl, rfl⟩
set_option maxRecDepth 100000 in
set_option maxHeartbeats 8000000 in
theorem ref01Name (s : ByteArray) (w : World) (hs : s.size ≤ maxLen) :
    Calls Tryz.prog 49 #[.string s] w fun e w' => e = .returned (.bool (nameB s)) ∧ w = w' := by
  unfold maxLen at hs
  have HN0 : Hid (nameB s = (spelt lowC nameC s && (!decide (s = sIf) && (!decide (s = sAnd) && !decide (s = sNot))))) := rfl
  by_cases hz : s.size = 0
  · have HR : Hid (nameB s = false) := by unfold Hid; rw [HN0.out, spelt_no (.inl (by omega))]; rfl
    go_enter Tryz.func49, Tryz.ntmps49
    go_wp2
    go_ret
    exact ⟨by rw [HR.out]; rfl, rfl⟩
  · by_cases h16 : 16 < s.size
    · have HR : Hid (nameB s = false) := by unfold Hid; rw [HN0.out, spelt_no (.inr (.inl h16))]; rfl
      go_enter Tryz.func49, Tryz.ntmps49
      go_wp2
      all_goals
        go_ret
        exact ⟨by rw [HR.out]; rfl, rfl⟩
    · have hb0 := byteAt_eq (s := s) (i := 0) (by omega)
      have hcall := fun wz => lower_ (byteAt s 0) wz
      have HF := Lib.hid (spelt_first (f := lowC) (q := nameC) (s := s) (by omega) (by omega))
      have e1 := ifC_eq s
      have e2 := andC_eq s
      have e3 := notC_eq s
      generalize hf : lowC (byteAt s 0) = f0 at *
      have HF0 := Lib.hid hf
      clear hf
      generalize decide (s = sIf) = b at *
      generalize decide (s = sAnd) = c at *
      generalize decide (s = sNot) = d at *
      cases f0 <;> cases b <;> cases c <;> cases d
      all_goals
        go_enter Tryz.func49, Tryz.ntmps49
        go_wp2_with (go_at_call 84; refine (hcall _).mono ?_; rintro e w1 ⟨rfl, rfl⟩)
        first | (go_ret; exact ⟨by rw [HN0.out, HF.out]; simp, rfl⟩) | skip
      all_goals
        clear hcall
        have HR : Hid (nameB s = allC nameC s) := by unfold Hid; rw [HN0.out, HF.out]; simp
        go_loopw [3, 32] (fun _ i wr => ∃ k : Nat, k ≤ s.size ∧ i = .int .i64 k ∧ wr = w ∧ Hid (∀ j, j < k → nameC (byteAt s j) = true)) (fun _ i _ => s.size - (intOf i).toNat)
        case atStart => exact ⟨0, Nat.zero_le _, rfl, rfl, by simp [Hid]⟩
        case round =>
          obtain ⟨k, hk, rfl, rfl, HN⟩ := hrel
          by_cases hlt : k < s.size
          · have hb := byteAt_eq hlt
            have hl := fun wz => lower_ (byteAt s k) wz
            have hd := fun wz => digit_ (byteAt s k) wz
            have HV := Lib.hid (show nameC (byteAt s k) = (lowC (byteAt s k) || (digC (byteAt s k) || (byteAt s k == 45))) from rfl)
            have HAB := Lib.hid (fun h => allC_bad (q := nameC) hlt h)
            have HGO : Hid (nameC (byteAt s k) = true → ∀ j, j < k + 1 → nameC (byteAt s j) = true) := fun h j hj => by
              rcases Nat.lt_succ_iff_lt_or_eq.1 hj with h4 | h4
              · exact HN.out j h4
              · subst h4; exact h
            generalize hcg : byteAt s k = c at *
            clear hcg
            generalize lowC c = l1 at *
            generalize digC c = d1 at *
            by_cases h45 : c = 45
            · have HE := Lib.hid (show (c == 45) = true from by rw [h45]; rfl)
              have e45 : ((c : Int) == 45) = true := by rw [h45]; rfl
              clear h45
              cases l1 <;> cases d1
              all_goals
                go_wp2_with (first | (go_at_call 84; refine (hl _).mono ?_; rintro e w1 ⟨rfl, rfl⟩) | (go_at_call 85; refine (hd _).mono ?_; rintro e w1 ⟨rfl, rfl⟩))
                first | (go_ret; exact ⟨by rw [HR.out, HAB.out (by rw [HV.out, HE.out]; rfl)]; rfl, rfl⟩) | skip
              all_goals
                go_roundw
                case rel => exact ⟨k + 1, by omega, by go_num, trivial, HGO.out (by rw [HV.out, HE.out]; rfl)⟩
                case measure => simp [intOf]; omega
            · have HE := Lib.hid (show (c == 45) = false from beq_eq_false_iff_ne.2 h45)
              have e45 : ((c : Int) == 45) = false := beq_eq_false_iff_ne.2 (by omega)
              clear h45
              cases l1 <;> cases d1
              all_goals
                go_wp2_with (first | (go_at_call 84; refine (hl _).mono ?_; rintro e w1 ⟨rfl, rfl⟩) | (go_at_call 85; refine (hd _).mono ?_; rintro e w1 ⟨rfl, rfl⟩))
                first | (go_ret; exact ⟨by rw [HR.out, HAB.out (by rw [HV.out, HE.out]; rfl)]; rfl, rfl⟩) | skip
              all_goals
                go_roundw
                case rel => exact ⟨k + 1, by omega, by go_num, trivial, HGO.out (by rw [HV.out, HE.out]; rfl)⟩
                case measure => simp [intOf]; omega
          · have hks : k = s.size := by omega
            subst hks
            have HX : Hid (allC nameC s = true) := allC_all fun j hj => HN.out j hj
            go_wp2
            go_ret
            exact ⟨by rw [HR.out, HX.out]; rfl, rfl⟩
end

section
open Go.RowKit

set_option maxRecDepth 100000 in
set_option maxHeartbeats 8000000 in
theorem ref01Number (s : ByteArray) (w : World) (hs : s.size ≤ maxLen) :
    Calls Tryz.prog 142 #[.string s] w fun e w' => e = .returned (.tuple #[.int .i64 (numV s), .bool (numB s)]) ∧ w = w' := by
  unfold maxLen at hs
  have HV0 : numB s = false → numV s = 0 := fun h => numV_no h
  have HV1 : numB s = true → numV s = valTo s s.size := fun h => numV_yes h
  by_cases hz : s.size = 0
  · have HR := Lib.hid (numB_no (s := s) (.inl (by omega)))
    go_enter Tryz.func142, Tryz.ntmps142
    go_wp2
    go_ret2
    exact ⟨by rw [HR.out, (HV0 HR.out)]; rfl, rfl⟩
  · by_cases h4 : 4 < s.size
    · have HR := Lib.hid (numB_no (s := s) (.inr (.inl h4)))
      go_enter Tryz.func142, Tryz.ntmps142
      go_wp2
      all_goals
        go_ret2
        exact ⟨by rw [HR.out, (HV0 HR.out)]; rfl, rfl⟩
    · have hb0 := byteAt_eq (s := s) (i := 0) (by omega)
      by_cases hlead : byteAt s 0 = 48 ∧ 1 < s.size
      · have HR := Lib.hid (numB_no (s := s) (.inr (.inr hlead)))
        obtain ⟨h5, h6⟩ := hlead
        rw [h5] at hb0
        go_enter Tryz.func142, Tryz.ntmps142
        go_wp2
        all_goals
          go_ret2
          exact ⟨by rw [HR.out, (HV0 HR.out)]; rfl, rfl⟩
      · have HR := Lib.hid (numB_yes (s := s) (by omega) (by omega) hlead)
        have hP : pw10 s.size ≤ 10000 := pw10_le _ (by omega)
        have e1 : s.size ≤ 1 ∨ ((byteAt s 0 : Int) == 48) = false := by
          by_cases h5 : byteAt s 0 = 48
          · exact .inl (by omega)
          · exact .inr (beq_eq_false_iff_ne.2 (by omega))
        clear hlead
        rcases e1 with e1 | e1
        all_goals
         go_enter Tryz.func142, Tryz.ntmps142
         go_wp2
         all_goals
           go_loopw [4, 5, 26] (fun nv _ i wr => ∃ (k n : Nat), k ≤ s.size ∧ i = .int .i64 k ∧ nv = .int .i64 n ∧ wr = w ∧ n + 1 ≤ pw10 k ∧ Hid (n = valTo s k) ∧ Hid (∀ j, j < k → digC (byteAt s j) = true)) (fun _ _ i _ => s.size - (intOf i).toNat)
           case atStart => exact ⟨0, 0, Nat.zero_le _, rfl, rfl, rfl, Nat.le_refl _, rfl, by simp [Hid]⟩
           case round =>
             obtain ⟨k, n, hk, rfl, rfl, rfl, hn, HVN, HN⟩ := hrel
             have hpk : pw10 k ≤ 10000 := pw10_le _ (by omega)
             by_cases hlt : k < s.size
             · have hb := byteAt_eq hlt
               have hd := fun wz => digit_ (byteAt s k) wz
               have hdig : digC (byteAt s k) = (decide (48 ≤ byteAt s k) && decide (byteAt s k ≤ 57)) := rfl
               have HAB := Lib.hid (fun h => allC_bad (q := digC) hlt h)
               have hpk1 : pw10 (k + 1) = 10 * pw10 k := rfl
               cases hq : digC (byteAt s k) with
               | false =>
                 rw [hq] at hd
                 have HX : Hid (allC digC s = false) := HAB.out hq
                 clear hdig hq
                 generalize byteAt s k = c at *
                 go_wp2_with (go_at_call 85; refine (hd _).mono ?_; rintro e w1 ⟨rfl, rfl⟩)
                 all_goals
                   go_ret2
                   exact ⟨by rw [HR.out, HX.out, (HV0 (HR.out.trans HX.out))]; rfl, rfl⟩
               | true =>
                 have HX : Hid (∀ j, j < k + 1 → digC (byteAt s j) = true) := fun j hj => by
                   rcases Nat.lt_succ_iff_lt_or_eq.1 hj with h | h
                   · exact HN.out j h
                   · subst h; exact hq
                 have hq2 := hq
                 rw [hdig, Bool.and_eq_true, decide_eq_true_eq, decide_eq_true_eq] at hq2
                 obtain ⟨hlo, hhi⟩ := hq2
                 rw [hq] at hd
                 obtain ⟨d, hdd⟩ : ∃ d, byteAt s k = d + 48 := ⟨byteAt s k - 48, by omega⟩
                 have hd9 : d ≤ 9 := by omega
                 have HVX : Hid (10 * n + d = valTo s (k + 1)) := by unfold Hid; rw [valTo_succ, ← HVN.out, hdd]; simp
                 rw [hdd] at hb hd
                 have hw : IntKind.u8.wrap (((d + 48 : Nat) : Int) - 48) = (d : Int) := by simp [IntKind.wrap, IntKind.signed, IntKind.bits]; omega
                 have hw2 : IntKind.u8.wrap ((d : Int) + 48 - 48) = (d : Int) := by simp [IntKind.wrap, IntKind.signed, IntKind.bits]; omega
                 clear hdig hlo hhi hdd hq
                 go_wp2_with (go_at_call 85; refine (hd _).mono ?_; rintro e w1 ⟨rfl, rfl⟩)
                 all_goals
                   go_roundw
                   case rel => exact ⟨k + 1, 10 * n + d, by omega, by go_num, by go_num, trivial, by omega, HVX, HX⟩
                   case measure => simp [intOf]; omega
             · have hks : k = s.size := by omega
               subst hks
               have HX : Hid (allC digC s = true) := allC_all fun j hj => HN.out j hj
               have hn9 : n ≤ 9999 := by omega
               go_wp2
               go_ret2
               exact ⟨by rw [HR.out, HX.out, (HV1 (HR.out.trans HX.out)), ← HVN.out]; first | done | rfl | (simp; omega), rfl⟩
end
end

section
open Go.RowKit

theorem misL_snoc (ts : List Tm) (k : Nat) (h : k < ts.length) : misL (ts.take (k + 1)) = (misL (ts.take k) || misT ts[k]) := by
  have key : ∀ a b : List Tm, misL (a ++ b) = (misL a || misL b) := by
    intro a
    induction a with
    | nil => intro b; simp [misL]
    | cons x r ih => intro b; simp only [List.cons_append, misL, ih, Bool.or_assoc]
  rw [take_snoc ts k h, key]; simp [misL]
theorem wideL_snoc (ts : List Tm) (k : Nat) (h : k < ts.length) : wideL (ts.take (k + 1)) = (wideL (ts.take k) || wideT ts[k]) := by
  have key : ∀ a b : List Tm, wideL (a ++ b) = (wideL a || wideL b) := by
    intro a
    induction a with
    | nil => intro b; simp [wideL]
    | cons x r ih => intro b; simp only [List.cons_append, wideL, ih, Bool.or_assoc]
  rw [take_snoc ts k h, key]; simp [wideL]
theorem misL_at (ts : List Tm) {k : Nat} (h : k < ts.length) (hm : misT ts[k] = true) : misL ts = true := by
  induction ts generalizing k with
  | nil => simp at h
  | cons x r ih =>
    cases k with
    | zero => simp only [List.getElem_cons_zero] at hm; simp [misL, hm]
    | succ k =>
      simp only [List.getElem_cons_succ] at hm
      simp only [misL, ih (by simpa using h) hm, Bool.or_true]
theorem wideL_at (ts : List Tm) {k : Nat} (h : k < ts.length) (hm : wideT ts[k] = true) : wideL ts = true := by
  induction ts generalizing k with
  | nil => simp at h
  | cons x r ih =>
    cases k with
    | zero => simp only [List.getElem_cons_zero] at hm; simp [wideL, hm]
    | succ k =>
      simp only [List.getElem_cons_succ] at hm
      simp only [wideL, ih (by simpa using h) hm, Bool.or_true]
theorem mis_eq (x : Tm) : misT x = !((nameB x.name || (decide (x.args.length = 0) && (numB x.name || varB x.name))) && !misL x.args) := by
  obtain ⟨n, ags⟩ := x
  cases ags with
  | nil => simp only [misT, Tm.name, Tm.args, misL]; cases nameB n <;> cases numB n <;> cases varB n <;> rfl
  | cons a r => simp only [misT, Tm.name, Tm.args, List.length_cons]; cases nameB n <;> cases misL (a :: r) <;> simp

end

section
open Go.RowKit

end
end Go.Proofs.YtgljjapglgcpdaaGreatDoor
