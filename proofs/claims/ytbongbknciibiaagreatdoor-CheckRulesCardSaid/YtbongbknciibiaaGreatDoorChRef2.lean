
/-
  The contracts of the reference's lower, upper, digit, Name, Variable, Number.
  The contract of the reference's Number.
  The contracts of the reference's named, narrow, head, body, Variable (of layer 7), atom.
  The contracts of the reference's Leaves, Has, Vars (of layer 1), collect, Vars (of layer 7).
-/
import Derived.Test.YtbongbknciibiaaGreatDoorChNames
import Derived.Test.YtbongbknciibiaaGreatDoorChVars
namespace Go.Proofs.YtbongbknciibiaaGreatDoor

section
section
open Go.RowKit

set_option maxHeartbeats 400000 in
theorem lower_ (c : Nat) (w : World) : Calls Tryz.prog 77 #[.int .u8 c] w fun e w' => e = .returned (.bool (lowC c)) ∧ w = w' := by
  have hcs : c < 97 ∨ (97 ≤ c ∧ c ≤ 122) ∨ 122 < c := by omega
  rcases hcs with hc | hc | hc
  · have HV : Hid (lowC c = false) := by unfold Hid lowC; rw [decide_eq_false (by omega)]; rfl
    go_enter Tryz.func77, Tryz.ntmps77
    go_wp2
    all_goals
      go_ret
      exact ⟨by rw [HV.out]; first | rfl | (simp; omega), rfl⟩
  · have HV : Hid (lowC c = true) := by unfold Hid lowC; rw [decide_eq_true (by omega), decide_eq_true (by omega)]; rfl
    go_enter Tryz.func77, Tryz.ntmps77
    go_wp2
    all_goals
      go_ret
      exact ⟨by rw [HV.out]; first | rfl | (simp; omega), rfl⟩
  · have HV : Hid (lowC c = false) := by unfold Hid lowC; rw [decide_eq_false (p := c ≤ 122) (by omega), Bool.and_false]
    go_enter Tryz.func77, Tryz.ntmps77
    go_wp2
    all_goals
      go_ret
      exact ⟨by rw [HV.out]; first | rfl | (simp; omega), rfl⟩
set_option maxHeartbeats 400000 in
theorem upper_ (c : Nat) (w : World) : Calls Tryz.prog 93 #[.int .u8 c] w fun e w' => e = .returned (.bool (uppC c)) ∧ w = w' := by
  have hcs : c < 65 ∨ (65 ≤ c ∧ c ≤ 90) ∨ 90 < c := by omega
  rcases hcs with hc | hc | hc
  · have HV : Hid (uppC c = false) := by unfold Hid uppC; rw [decide_eq_false (by omega)]; rfl
    go_enter Tryz.func93, Tryz.ntmps93
    go_wp2
    all_goals
      go_ret
      exact ⟨by rw [HV.out]; first | rfl | (simp; omega), rfl⟩
  · have HV : Hid (uppC c = true) := by unfold Hid uppC; rw [decide_eq_true (by omega), decide_eq_true (by omega)]; rfl
    go_enter Tryz.func93, Tryz.ntmps93
    go_wp2
    all_goals
      go_ret
      exact ⟨by rw [HV.out]; first | rfl | (simp; omega), rfl⟩
  · have HV : Hid (uppC c = false) := by unfold Hid uppC; rw [decide_eq_false (p := c ≤ 90) (by omega), Bool.and_false]
    go_enter Tryz.func93, Tryz.ntmps93
    go_wp2
    all_goals
      go_ret
      exact ⟨by rw [HV.out]; first | rfl | (simp; omega), rfl⟩
set_option maxHeartbeats 400000 in
theorem digit_ (c : Nat) (w : World) : Calls Tryz.prog 78 #[.int .u8 c] w fun e w' => e = .returned (.bool (digC c)) ∧ w = w' := by
  have hcs : c < 48 ∨ (48 ≤ c ∧ c ≤ 57) ∨ 57 < c := by omega
  rcases hcs with hc | hc | hc
  · have HV : Hid (digC c = false) := by unfold Hid digC; rw [decide_eq_false (by omega)]; rfl
    go_enter Tryz.func78, Tryz.ntmps78
    go_wp2
    all_goals
      go_ret
      exact ⟨by rw [HV.out]; first | rfl | (simp; omega), rfl⟩
  · have HV : Hid (digC c = true) := by unfold Hid digC; rw [decide_eq_true (by omega), decide_eq_true (by omega)]; rfl
    go_enter Tryz.func78, Tryz.ntmps78
    go_wp2
    all_goals
      go_ret
      exact ⟨by rw [HV.out]; first | rfl | (simp; omega), rfl⟩
  · have HV : Hid (digC c = false) := by unfold Hid digC; rw [decide_eq_false (p := c ≤ 57) (by omega), Bool.and_false]
    go_enter Tryz.func78, Tryz.ntmps78
    go_wp2
    all_goals
      go_ret
      exact ⟨by rw [HV.out]; first | rfl | (simp; omega), rfl⟩

theorem spelt_no {f q : Nat → Bool} {s : ByteArray} (h : s.size < 1 ∨ 16 < s.size ∨ f (byteAt s 0) = false) : spelt f q s = false := by
  unfold spelt
  rcases h with h | h | h
  · rw [decide_eq_false (p := 1 ≤ s.size) (by omega)]; rfl
  · rw [decide_eq_false (p := s.size ≤ 16) (by omega), Bool.false_and, Bool.and_false]
  · rw [h, Bool.false_and, Bool.and_false, Bool.and_false]

set_option maxRecDepth 100000 in
set_option maxHeartbeats 4000000 in
theorem ref01Variable (s : ByteArray) (w : World) (hs : s.size ≤ maxLen) :
    Calls Tryz.prog 56 #[.string s] w fun e w' => e = .returned (.bool (varB s)) ∧ w = w' := by
  unfold maxLen at hs
  by_cases hz : s.size = 0
  · have HR : Hid (varB s = false) := spelt_no (.inl (by omega))
    go_enter Tryz.func56, Tryz.ntmps56
    go_wp2
    go_ret
    exact ⟨by rw [HR.out]; rfl, rfl⟩
  · by_cases h16 : 16 < s.size
    · have HR : Hid (varB s = false) := spelt_no (.inr (.inl h16))
      go_enter Tryz.func56, Tryz.ntmps56
      go_wp2
      all_goals
        go_ret
        exact ⟨by rw [HR.out]; rfl, rfl⟩
    · have hb0 := byteAt_eq (s := s) (i := 0) (by omega)
      have hcall := fun wz => upper_ (byteAt s 0) wz
      cases hf : uppC (byteAt s 0) with
      | false =>
        have HR : Hid (varB s = false) := spelt_no (.inr (.inr hf))
        rw [hf] at hcall
        clear hf
        go_enter Tryz.func56, Tryz.ntmps56
        go_wp2_with (go_at_call 93; refine (hcall _).mono ?_; rintro e w1 ⟨rfl, rfl⟩)
        all_goals
          go_ret
          exact ⟨by rw [HR.out]; rfl, rfl⟩
      | true =>
        have HR : Hid (varB s = allC varC s) := by unfold Hid varB; rw [spelt_first (by omega) (by omega), hf]; rfl
        rw [hf] at hcall
        clear hf
        go_enter Tryz.func56, Tryz.ntmps56
        go_wp2_with (go_at_call 93; refine (hcall _).mono ?_; rintro e w1 ⟨rfl, rfl⟩)
        all_goals
          go_loopw [3, 20] (fun _ i wr => ∃ k : Nat, k ≤ s.size ∧ i = .int .i64 k ∧ wr = w ∧ Hid (∀ j, j < k → varC (byteAt s j) = true)) (fun _ i _ => s.size - (intOf i).toNat)
          case atStart => exact ⟨0, Nat.zero_le _, rfl, rfl, by simp [Hid]⟩
          case round =>
            obtain ⟨k, hk, rfl, rfl, HN⟩ := hrel
            by_cases hlt : k < s.size
            · have hb := byteAt_eq hlt
              have hl := fun wz => lower_ (byteAt s k) wz
              have hu := fun wz => upper_ (byteAt s k) wz
              have hd := fun wz => digit_ (byteAt s k) wz
              have HV := Lib.hid (show varC (byteAt s k) = (uppC (byteAt s k) || (lowC (byteAt s k) || digC (byteAt s k))) from rfl)
              have HAB := Lib.hid (fun h => allC_bad (q := varC) hlt h)
              have HGO : Hid (varC (byteAt s k) = true → ∀ j, j < k + 1 → varC (byteAt s j) = true) := fun h j hj => by
                rcases Nat.lt_succ_iff_lt_or_eq.1 hj with h4 | h4
                · exact HN.out j h4
                · subst h4; exact h
              generalize hcg : byteAt s k = c at *
              clear hcg
              generalize lowC c = l1 at *
              generalize uppC c = u1 at *
              generalize digC c = d1 at *
              clear hcall
              cases l1 <;> cases u1 <;> cases d1
              all_goals
                go_wp2_with (first | (go_at_call 77; refine (hl _).mono ?_; rintro e w1 ⟨rfl, rfl⟩) | (go_at_call 93; refine (hu _).mono ?_; rintro e w1 ⟨rfl, rfl⟩) | (go_at_call 78; refine (hd _).mono ?_; rintro e w1 ⟨rfl, rfl⟩))
                first | (go_ret; exact ⟨by rw [HR.out, HAB.out HV.out]; rfl, rfl⟩) | skip
              all_goals
                go_roundw
                case rel => exact ⟨k + 1, by omega, by go_num, trivial, HGO.out HV.out⟩
                case measure => simp [intOf]; omega
            · have hks : k = s.size := by omega
              subst hks
              have HX : Hid (allC varC s = true) := allC_all fun j hj => HN.out j hj
              clear hcall
              go_wp2
              go_ret
              exact ⟨by rw [HR.out, HX.out]; rfl, rfl⟩
set_option maxRecDepth 100000 in
set_option maxHeartbeats 8000000 in
theorem ref01Name (s : ByteArray) (w : World) (hs : s.size ≤ maxLen) :
    Calls Tryz.prog 37 #[.string s] w fun e w' => e = .returned (.bool (nameB s)) ∧ w = w' := by
  unfold maxLen at hs
  have HN0 : Hid (nameB s = (spelt lowC nameC s && (!decide (s = sIf) && (!decide (s = sAnd) && !decide (s = sNot))))) := rfl
  by_cases hz : s.size = 0
  · have HR : Hid (nameB s = false) := by unfold Hid; rw [HN0.out, spelt_no (.inl (by omega))]; rfl
    go_enter Tryz.func37, Tryz.ntmps37
    go_wp2
    go_ret
    exact ⟨by rw [HR.out]; rfl, rfl⟩
  · by_cases h16 : 16 < s.size
    · have HR : Hid (nameB s = false) := by unfold Hid; rw [HN0.out, spelt_no (.inr (.inl h16))]; rfl
      go_enter Tryz.func37, Tryz.ntmps37
      go_wp2
      all_goals
        go_ret
        exact ⟨by rw [HR.out]; rfl, rfl⟩
    · have hb0 := byteAt_eq (s := s) (i := 0) (by omega)
      have hcall := fun wz => lower_ (byteAt s 0) wz
      have HF := Lib.hid (spelt_first (f := lowC) (q := nameC) (s := s) (by omega) (by omega))
      have e1 := ifC_eq s
      have e2 := andC_eq s
      have e3 := notC_eq s
      generalize hf : lowC (byteAt s 0) = f0 at *
      have HF0 := Lib.hid hf
      clear hf
      generalize decide (s = sIf) = b at *
      generalize decide (s = sAnd) = c at *
      generalize decide (s = sNot) = d at *
      cases f0 <;> cases b <;> cases c <;> cases d
      all_goals
        go_enter Tryz.func37, Tryz.ntmps37
        go_wp2_with (go_at_call 77; refine (hcall _).mono ?_; rintro e w1 ⟨rfl, rfl⟩)
        first | (go_ret; exact ⟨by rw [HN0.out, HF.out]; simp, rfl⟩) | skip
      all_goals
        clear hcall
        have HR : Hid (nameB s = allC nameC s) := by unfold Hid; rw [HN0.out, HF.out]; simp
        go_loopw [3, 32] (fun _ i wr => ∃ k : Nat, k ≤ s.size ∧ i = .int .i64 k ∧ wr = w ∧ Hid (∀ j, j < k → nameC (byteAt s j) = true)) (fun _ i _ => s.size - (intOf i).toNat)
        case atStart => exact ⟨0, Nat.zero_le _, rfl, rfl, by simp [Hid]⟩
        case round =>
          obtain ⟨k, hk, rfl, rfl, HN⟩ := hrel
          by_cases hlt : k < s.size
          · have hb := byteAt_eq hlt
            have hl := fun wz => lower_ (byteAt s k) wz
            have hd := fun wz => digit_ (byteAt s k) wz
            have HV := Lib.hid (show nameC (byteAt s k) = (lowC (byteAt s k) || (digC (byteAt s k) || (byteAt s k == 45))) from rfl)
            have HAB := Lib.hid (fun h => allC_bad (q := nameC) hlt h)
            have HGO : Hid (nameC (byteAt s k) = true → ∀ j, j < k + 1 → nameC (byteAt s j) = true) := fun h j hj => by
              rcases Nat.lt_succ_iff_lt_or_eq.1 hj with h4 | h4
              · exact HN.out j h4
              · subst h4; exact h
            generalize hcg : byteAt s k = c at *
            clear hcg
            generalize lowC c = l1 at *
            generalize digC c = d1 at *
            by_cases h45 : c = 45
            · have HE := Lib.hid (show (c == 45) = true from by rw [h45]; rfl)
              have e45 : ((c : Int) == 45) = true := by rw [h45]; rfl
              clear h45
              cases l1 <;> cases d1
              all_goals
                go_wp2_with (first | (go_at_call 77; refine (hl _).mono ?_; rintro e w1 ⟨rfl, rfl⟩) | (go_at_call 78; refine (hd _).mono ?_; rintro e w1 ⟨rfl, rfl⟩))
                first | (go_ret; exact ⟨by rw [HR.out, HAB.out (by rw [HV.out, HE.out]; rfl)]; rfl, rfl⟩) | skip
              all_goals
                go_roundw
                case rel => exact ⟨k + 1, by omega, by go_num, trivial, HGO.out (by rw [HV.out, HE.out]; rfl)⟩
                case measure => simp [intOf]; omega
            · have HE := Lib.hid (show (c == 45) = false from beq_eq_false_iff_ne.2 h45)
              have e45 : ((c : Int) == 45) = false := beq_eq_false_iff_ne.2 (by omega)
              clear h45
              cases l1 <;> cases d1
              all_goals
                go_wp2_with (first | (go_at_call 77; refine (hl _).mono ?_; rintro e w1 ⟨rfl, rfl⟩) | (go_at_call 78; refine (hd _).mono ?_; rintro e w1 ⟨rfl, rfl⟩))
                first | (go_ret; exact ⟨by rw [HR.out, HAB.out (by rw [HV.out, HE.out]; rfl)]; rfl, rfl⟩) | skip
              all_goals
                go_roundw
                case rel => exact ⟨k + 1, by omega, by go_num, trivial, HGO.out (by rw [HV.out, HE.out]; rfl)⟩
                case measure => simp [intOf]; omega
          · have hks : k = s.size := by omega
            subst hks
            have HX : Hid (allC nameC s = true) := allC_all fun j hj => HN.out j hj
            go_wp2
            go_ret
            exact ⟨by rw [HR.out, HX.out]; rfl, rfl⟩
end

section
open Go.RowKit

set_option maxRecDepth 100000 in
set_option maxHeartbeats 8000000 in
theorem ref01Number (s : ByteArray) (w : World) (hs : s.size ≤ maxLen) :
    Calls Tryz.prog 118 #[.string s] w fun e w' => e = .returned (.tuple #[.int .i64 (numV s), .bool (numB s)]) ∧ w = w' := by
  unfold maxLen at hs
  have HV0 : numB s = false → numV s = 0 := fun h => numV_no h
  have HV1 : numB s = true → numV s = valTo s s.size := fun h => numV_yes h
  by_cases hz : s.size = 0
  · have HR := Lib.hid (numB_no (s := s) (.inl (by omega)))
    go_enter Tryz.func118, Tryz.ntmps118
    go_wp2
    go_ret2
    exact ⟨by rw [HR.out, (HV0 HR.out)]; rfl, rfl⟩
  · by_cases h4 : 4 < s.size
    · have HR := Lib.hid (numB_no (s := s) (.inr (.inl h4)))
      go_enter Tryz.func118, Tryz.ntmps118
      go_wp2
      all_goals
        go_ret2
        exact ⟨by rw [HR.out, (HV0 HR.out)]; rfl, rfl⟩
    · have hb0 := byteAt_eq (s := s) (i := 0) (by omega)
      by_cases hlead : byteAt s 0 = 48 ∧ 1 < s.size
      · have HR := Lib.hid (numB_no (s := s) (.inr (.inr hlead)))
        obtain ⟨h5, h6⟩ := hlead
        rw [h5] at hb0
        go_enter Tryz.func118, Tryz.ntmps118
        go_wp2
        all_goals
          go_ret2
          exact ⟨by rw [HR.out, (HV0 HR.out)]; rfl, rfl⟩
      · have HR := Lib.hid (numB_yes (s := s) (by omega) (by omega) hlead)
        have hP : pw10 s.size ≤ 10000 := pw10_le _ (by omega)
        have e1 : s.size ≤ 1 ∨ ((byteAt s 0 : Int) == 48) = false := by
          by_cases h5 : byteAt s 0 = 48
          · exact .inl (by omega)
          · exact .inr (beq_eq_false_iff_ne.2 (by omega))
        clear hlead
        rcases e1 with e1 | e1
        all_goals
         go_enter Tryz.func118, Tryz.ntmps118
         go_wp2
         all_goals
           go_loopw [4, 5, 26] (fun nv _ i wr => ∃ (k n : Nat), k ≤ s.size ∧ i = .int .i64 k ∧ nv = .int .i64 n ∧ wr = w ∧ n + 1 ≤ pw10 k ∧ Hid (n = valTo s k) ∧ Hid (∀ j, j < k → digC (byteAt s j) = true)) (fun _ _ i _ => s.size - (intOf i).toNat)
           case atStart => exact ⟨0, 0, Nat.zero_le _, rfl, rfl, rfl, Nat.le_refl _, rfl, by simp [Hid]⟩
           case round =>
             obtain ⟨k, n, hk, rfl, rfl, rfl, hn, HVN, HN⟩ := hrel
             have hpk : pw10 k ≤ 10000 := pw10_le _ (by omega)
             by_cases hlt : k < s.size
             · have hb := byteAt_eq hlt
               have hd := fun wz => digit_ (byteAt s k) wz
               have hdig : digC (byteAt s k) = (decide (48 ≤ byteAt s k) && decide (byteAt s k ≤ 57)) := rfl
               have HAB := Lib.hid (fun h => allC_bad (q := digC) hlt h)
               have hpk1 : pw10 (k + 1) = 10 * pw10 k := rfl
               cases hq : digC (byteAt s k) with
               | false =>
                 rw [hq] at hd
                 have HX : Hid (allC digC s = false) := HAB.out hq
                 clear hdig hq
                 generalize byteAt s k = c at *
                 go_wp2_with (go_at_call 78; refine (hd _).mono ?_; rintro e w1 ⟨rfl, rfl⟩)
                 all_goals
                   go_ret2
                   exact ⟨by rw [HR.out, HX.out, (HV0 (HR.out.trans HX.out))]; rfl, rfl⟩
               | true =>
                 have HX : Hid (∀ j, j < k + 1 → digC (byteAt s j) = true) := fun j hj => by
                   rcases Nat.lt_succ_iff_lt_or_eq.1 hj with h | h
                   · exact HN.out j h
                   · subst h; exact hq
                 have hq2 := hq
                 rw [hdig, Bool.and_eq_true, decide_eq_true_eq, decide_eq_true_eq] at hq2
                 obtain ⟨hlo, hhi⟩ := hq2
                 rw [hq] at hd
                 obtain ⟨d, hdd⟩ : ∃ d, byteAt s k = d + 48 := ⟨byteAt s k - 48, by omega⟩
                 have hd9 : d ≤ 9 := by omega
                 have HVX : Hid (10 * n + d = valTo s (k + 1)) := by unfold Hid; rw [valTo_succ, ← HVN.out, hdd]; simp
                 rw [hdd] at hb hd
                 have hw : IntKind.u8.wrap (((d + 48 : Nat) : Int) - 48) = (d : Int) := by simp [IntKind.wrap, IntKind.signed, IntKind.bits]; omega
                 have hw2 : IntKind.u8.wrap ((d : Int) + 48 - 48) = (d : Int) := by simp [IntKind.wrap, IntKind.signed, IntKind.bits]; omega
                 clear hdig hlo hhi hdd hq
                 go_wp2_with (go_at_call 78; refine (hd _).mono ?_; rintro e w1 ⟨rfl, rfl⟩)
                 all_goals
                   go_roundw
                   case rel => exact ⟨k + 1, 10 * n + d, by omega, by go_num, by go_num, trivial, by omega, HVX, HX⟩
                   case measure => simp [intOf]; omega
             · have hks : k = s.size := by omega
               subst hks
               have HX : Hid (allC digC s = true) := allC_all fun j hj => HN.out j hj
               have hn9 : n ≤ 9999 := by omega
               go_wp2
               go_ret2
               exact ⟨by rw [HR.out, HX.out, (HV1 (HR.out.trans HX.out)), ← HVN.out]; first | done | rfl | (simp; omega), rfl⟩
end
end

section
open Go.RowKit

theorem misL_snoc (ts : List Tm) (k : Nat) (h : k < ts.length) : misL (ts.take (k + 1)) = (misL (ts.take k) || misT ts[k]) := by
  have key : ∀ a b : List Tm, misL (a ++ b) = (misL a || misL b) := by
    intro a
    induction a with
    | nil => intro b; simp [misL]
    | cons x r ih => intro b; simp only [List.cons_append, misL, ih, Bool.or_assoc]
  rw [take_snoc ts k h, key]; simp [misL]
theorem wideL_snoc (ts : List Tm) (k : Nat) (h : k < ts.length) : wideL (ts.take (k + 1)) = (wideL (ts.take k) || wideT ts[k]) := by
  have key : ∀ a b : List Tm, wideL (a ++ b) = (wideL a || wideL b) := by
    intro a
    induction a with
    | nil => intro b; simp [wideL]
    | cons x r ih => intro b; simp only [List.cons_append, wideL, ih, Bool.or_assoc]
  rw [take_snoc ts k h, key]; simp [wideL]
theorem misL_at (ts : List Tm) {k : Nat} (h : k < ts.length) (hm : misT ts[k] = true) : misL ts = true := by
  induction ts generalizing k with
  | nil => simp at h
  | cons x r ih =>
    cases k with
    | zero => simp only [List.getElem_cons_zero] at hm; simp [misL, hm]
    | succ k =>
      simp only [List.getElem_cons_succ] at hm
      simp only [misL, ih (by simpa using h) hm, Bool.or_true]
theorem wideL_at (ts : List Tm) {k : Nat} (h : k < ts.length) (hm : wideT ts[k] = true) : wideL ts = true := by
  induction ts generalizing k with
  | nil => simp at h
  | cons x r ih =>
    cases k with
    | zero => simp only [List.getElem_cons_zero] at hm; simp [wideL, hm]
    | succ k =>
      simp only [List.getElem_cons_succ] at hm
      simp only [wideL, ih (by simpa using h) hm, Bool.or_true]
theorem mis_eq (x : Tm) : misT x = !((nameB x.name || (decide (x.args.length = 0) && (numB x.name || varB x.name))) && !misL x.args) := by
  obtain ⟨n, ags⟩ := x
  cases ags with
  | nil => simp only [misT, Tm.name, Tm.args, misL]; cases nameB n <;> cases numB n <;> cases varB n <;> rfl
  | cons a r => simp only [misT, Tm.name, Tm.args, List.length_cons]; cases nameB n <;> cases misL (a :: r) <;> simp

set_option maxRecDepth 100000 in
set_option maxHeartbeats 8000000 in
theorem named_ : ∀ (n : Nat) (t : Tm), t.dep ≤ n → ∀ (B b : Nat), Nice B b t → B ≤ maxLen → ∀ (p : Nat → Prop) (v : Value) (w : World), SlT p w v t.args →
    Calls Tryz.prog 101 #[.agg #[.string t.name, v]] w fun e w' => e = .returned (.bool (!misL t.args)) ∧ Ch [] w w' := by
  intro n
  induction n with
  | zero => intro t ht; cases t; simp [Tm.dep] at ht
  | succ n ih =>
    intro t ht B b hN hBm p v w h
    obtain ⟨nm, ags⟩ := t
    obtain ⟨a, c, rfl, hlc, hmx⟩ := h.form
    simp only [Tm.args, Tm.name, Tm.dep] at h hlc ht ⊢
    simp only [Nice] at hN
    have HNI := Lib.hid (niceL_mem.1 hN.2.2)
    unfold maxLen at hmx
    have HIH := Lib.hid ih; clear ih
    have HBM := Lib.hid hBm; clear hBm hN
    have hbx := Blk.new w 28 #[.string nm, .slice a ags.length c]
    have hcA : Ch [] w (w.alloc (.cells #[.string nm, .slice a ags.length c] 28)) := (Ch.refl _ _).alloc _
    go_enter Tryz.func101, Tryz.ntmps101
    go_wp2
    generalize (w.alloc (.cells #[.string nm, .slice a ags.length c] 28)) = wA at *
    go_loopw [3] (fun i wr => ∃ k : Nat, k ≤ ags.length ∧ i = .int .i64 k ∧ Ch [] wA wr ∧ Hid (misL (ags.take k) = false)) (fun i _ => ags.length - (intOf i).toNat)
    case atStart => exact ⟨0, Nat.zero_le _, rfl, Ch.refl _ _, by simp [Hid, misL]⟩
    case round =>
      obtain ⟨k, hk, rfl, hB, HX⟩ := hrel
      have b1 := (hbx.ch hB (by simp)).cell 1
      by_cases hlt : k < ags.length
      · obtain ⟨bb, o, a', c', rfl, hp, c0, c1, hT⟩ := (h.ch0 (hcA.trans hB)).at_ hlt
        have HSN := Lib.hid (misL_snoc ags k hlt)
        have HAN := Lib.hid (fun hm => misL_at ags hlt hm)
        have hxd := deps_mem (List.getElem_mem hlt)
        have hnx := HNI.out _ (List.getElem_mem hlt)
        have d0 : decide (k < ags.length) = true := decide_eq_true hlt
        generalize ags[k] = x at *
        have hxs : x.name.size ≤ maxLen := by
          have h2 := HBM.out
          cases x with
          | mk m l => simp only [Nice] at hnx; simp only [Tm.name]; omega
        have HME := Lib.hid (mis_eq x)
        have hbn := Blk.new wr 28 #[.string x.name, .slice a' x.args.length c']
        have b10 := hbn.cell 0
        have b11 := hbn.cell 1
        have hcN : Ch [] wr (wr.alloc (.cells #[.string x.name, .slice a' x.args.length c'] 28)) := (Ch.refl _ _).alloc _
        have hcall := HIH.out x (by omega) B b hnx HBM.out _ _ _ (hT.ch0 hcN)
        have hnum := fun wz => ref01Number x.name wz hxs
        have hnam := fun wz => ref01Name x.name wz hxs
        have hvar := fun wz => ref01Variable x.name wz hxs
        have e1 : ((x.args.length : Int) == 0) = decide (x.args.length = 0) := by rw [Bool.eq_iff_iff]; simp
        clear hT hnx
        generalize nameB x.name = nb at *
        generalize numB x.name = nu at *
        generalize varB x.name = va at *
        generalize numV x.name = nv at *
        generalize decide (x.args.length = 0) = l0 at *
        generalize misL x.args = mx at *
        generalize misT x = mt at *
        generalize x.args.length = xl at *
        generalize x.name = xn at *
        rcases (show (nb || (l0 && (nu || va))) = true ∨ (nb || (l0 && (nu || va))) = false by cases nb <;> cases l0 <;> cases nu <;> cases va <;> simp) with hok | hok
        · rw [hok, Bool.true_and, Bool.not_not] at HME
          have hcs : nb = true ∨ (nb = false ∧ l0 = true ∧ nu = true) ∨ (nb = false ∧ l0 = true ∧ nu = false ∧ va = true) := by cases nb <;> cases l0 <;> cases nu <;> cases va <;> simp at hok ⊢
          clear hok
          cases mx with
          | true =>
            have HF := Lib.hid (HAN.out HME.out)
            rcases hcs with rfl | ⟨rfl, rfl, rfl⟩ | ⟨rfl, rfl, rfl, rfl⟩
            all_goals
              go_wp2_with (first
                | (go_at_call 118; refine (hnum _).mono ?_; rintro e w1 ⟨rfl, rfl⟩)
                | (go_at_call 37; refine (hnam _).mono ?_; rintro e w1 ⟨rfl, rfl⟩)
                | (go_at_call 56; refine (hvar _).mono ?_; rintro e w1 ⟨rfl, rfl⟩)
                | (go_at_call 101; refine hcall.mono ?_; rintro e w1 ⟨rfl, hc1⟩; clear hcall))
              go_ret
              exact ⟨by rw [HF.out]; rfl, (hcA.trans hB).trans (hcN.trans hc1)⟩
          | false =>
            have HX2 : Hid (misL (ags.take (k + 1)) = false) := by unfold Hid; rw [HSN.out, HX.out, HME.out]; rfl
            rcases hcs with rfl | ⟨rfl, rfl, rfl⟩ | ⟨rfl, rfl, rfl, rfl⟩
            all_goals
              go_wp2_with (first
                | (go_at_call 118; refine (hnum _).mono ?_; rintro e w1 ⟨rfl, rfl⟩)
                | (go_at_call 37; refine (hnam _).mono ?_; rintro e w1 ⟨rfl, rfl⟩)
                | (go_at_call 56; refine (hvar _).mono ?_; rintro e w1 ⟨rfl, rfl⟩)
                | (go_at_call 101; refine hcall.mono ?_; rintro e w1 ⟨rfl, hc1⟩; clear hcall))
              go_roundw
              case rel => exact ⟨k + 1, by omega, by go_num, hB.trans (hcN.trans hc1), HX2⟩
              case measure => simp [intOf]; omega
        · rw [hok, Bool.false_and, Bool.not_false] at HME
          have HF := Lib.hid (HAN.out HME.out)
          have hcs : (nb = false ∧ l0 = false) ∨ (nb = false ∧ l0 = true ∧ nu = false ∧ va = false) := by cases nb <;> cases l0 <;> cases nu <;> cases va <;> simp at hok ⊢
          clear hok hcall
          rcases hcs with ⟨rfl, rfl⟩ | ⟨rfl, rfl, rfl, rfl⟩
          all_goals
            go_wp2_with (first
              | (go_at_call 118; refine (hnum _).mono ?_; rintro e w1 ⟨rfl, rfl⟩)
              | (go_at_call 37; refine (hnam _).mono ?_; rintro e w1 ⟨rfl, rfl⟩)
              | (go_at_call 56; refine (hvar _).mono ?_; rintro e w1 ⟨rfl, rfl⟩))
            go_ret
            exact ⟨by rw [HF.out]; rfl, (hcA.trans hB).trans hcN⟩
      · have HF : Hid (misL ags = false) := by
          have := HX.out
          rwa [List.take_of_length_le (by omega)] at this
        have d0 : decide (k < ags.length) = false := decide_eq_false hlt
        go_wp2
        go_ret
        exact ⟨by rw [HF.out]; rfl, hcA.trans hB⟩

set_option maxRecDepth 100000 in
set_option maxHeartbeats 4000000 in
theorem narrow_ : ∀ (n : Nat) (t : Tm), t.dep ≤ n → ∀ (p : Nat → Prop) (v : Value) (w : World), SlT p w v t.args →
    Calls Tryz.prog 102 #[.agg #[.string t.name, v]] w fun e w' => e = .returned (.bool (!wideT t)) ∧ Ch [] w w' := by
  intro n
  induction n with
  | zero => intro t ht; cases t; simp [Tm.dep] at ht
  | succ n ih =>
    intro t ht p v w h
    obtain ⟨nm, ags⟩ := t
    obtain ⟨a, c, rfl, hlc, hmx⟩ := h.form
    simp only [Tm.args, Tm.name, Tm.dep] at h hlc ht ⊢
    have HW : Hid (wideT (.mk nm ags) = (decide (4 < ags.length) || wideL ags)) := by unfold Hid; rw [wideT]
    generalize wideT (.mk nm ags) = R at *
    unfold maxLen at hmx
    have HIH := Lib.hid ih; clear ih
    have hbx := Blk.new w 28 #[.string nm, .slice a ags.length c]
    have hcA : Ch [] w (w.alloc (.cells #[.string nm, .slice a ags.length c] 28)) := (Ch.refl _ _).alloc _
    go_enter Tryz.func102, Tryz.ntmps102
    go_wp2
    generalize (w.alloc (.cells #[.string nm, .slice a ags.length c] 28)) = wA at *
    go_loopw [3] (fun i wr => ∃ k : Nat, k ≤ ags.length ∧ i = .int .i64 k ∧ Ch [] wA wr ∧ Hid (wideL (ags.take k) = false)) (fun i _ => ags.length - (intOf i).toNat)
    case atStart => exact ⟨0, Nat.zero_le _, rfl, Ch.refl _ _, by simp [Hid, wideL]⟩
    case round =>
      obtain ⟨k, hk, rfl, hB, HX⟩ := hrel
      have b1 := (hbx.ch hB (by simp)).cell 1
      by_cases hlt : k < ags.length
      · obtain ⟨bb, o, a', c', rfl, hp, c0, c1, hT⟩ := (h.ch0 (hcA.trans hB)).at_ hlt
        have HSN := Lib.hid (wideL_snoc ags k hlt)
        have HAN := Lib.hid (fun hm => wideL_at ags hlt hm)
        have hxd := deps_mem (List.getElem_mem hlt)
        have d0 : decide (k < ags.length) = true := decide_eq_true hlt
        generalize ags[k] = x at *
        have hcall := HIH.out x (by omega) _ _ _ hT
        clear hT
        cases hm : wideT x with
        | true =>
          rw [hm] at hcall
          have HF : Hid (R = true) := by unfold Hid; rw [HW.out, HAN.out hm]; simp
          clear hm
          go_wp2_with (go_at_call 102; refine hcall.mono ?_; rintro e w1 ⟨rfl, hc1⟩; clear hcall)
          go_ret
          exact ⟨by rw [HF.out]; rfl, (hcA.trans hB).trans hc1⟩
        | false =>
          rw [hm] at hcall
          have HX2 : Hid (wideL (ags.take (k + 1)) = false) := by unfold Hid; rw [HSN.out, HX.out, hm]; rfl
          clear hm
          go_wp2_with (go_at_call 102; refine hcall.mono ?_; rintro e w1 ⟨rfl, hc1⟩; clear hcall)
          go_roundw
          case rel => exact ⟨k + 1, by omega, by go_num, hB.trans hc1, HX2⟩
          case measure => simp [intOf]; omega
      · have HF : Hid (wideL ags = false) := by
          have := HX.out
          rwa [List.take_of_length_le (by omega)] at this
        have d0 : decide (k < ags.length) = false := decide_eq_false hlt
        by_cases h4 : ags.length ≤ 4
        · have d4 : decide ((ags.length : Int) ≤ 4) = true := decide_eq_true (by omega)
          have HR : Hid (R = false) := by unfold Hid; rw [HW.out, HF.out, decide_eq_false (by omega)]; rfl
          clear h4
          go_wp2
          go_ret
          exact ⟨by rw [HR.out]; rfl, hcA.trans hB⟩
        · have d4 : decide ((ags.length : Int) ≤ 4) = false := decide_eq_false (by omega)
          have HR : Hid (R = true) := by unfold Hid; rw [HW.out, decide_eq_true (by omega)]; rfl
          clear h4
          go_wp2
          go_ret
          exact ⟨by rw [HR.out]; rfl, hcA.trans hB⟩
end

section
open Go.RowKit

set_option maxRecDepth 100000 in
set_option maxHeartbeats 4000000 in
theorem refLeaves_ : ∀ (n : Nat) (t : Tm), t.dep ≤ n → ∀ (p : Nat → Prop) (v : Value) (w : World), SlT p w v t.args → (lvsT t).length ≤ 1000000000 →
    Calls Tryz.prog 105 #[.agg #[.string t.name, v]] w fun e w' => ∃ v', e = .returned v' ∧ Own w' w.heap.size 9 1 v' ((lvsT t).map encS) ∧ Ch [] w w' := by
  intro n
  induction n with
  | zero => intro t ht; cases t; simp [Tm.dep] at ht
  | succ n ih =>
    intro t ht p v w h hlen
    obtain ⟨nm, ags⟩ := t
    obtain ⟨a, c, rfl, hlc, hmx⟩ := h.form
    simp only [Tm.args, Tm.name, Tm.dep] at h hlc ht ⊢
    unfold maxLen at hmx
    have HIH := Lib.hid ih; clear ih
    have hbx := Blk.new w 28 #[.string nm, .slice a ags.length c]
    have hcA : Ch [] w (w.alloc (.cells #[.string nm, .slice a ags.length c] 28)) := (Ch.refl _ _).alloc _
    have b0 := hbx.cell 0
    have b1 := hbx.cell 1
    by_cases hz : ags.length = 0
    · have hnil : ags = [] := List.eq_nil_of_length_eq_zero hz
      subst hnil
      rw [lvsT_nil] at hlen ⊢
      have hsz := hcA.size
      simp only [List.length_nil] at hcA b0 b1 hsz
      generalize hwA : (w.alloc (.cells #[.string nm, .slice a 0 c] 28)) = wA at *
      have hone := Own.one_ wA w.heap.size 9 1 [.string nm] hsz rfl (by simp [Value.oneCell'])
      go_enter Tryz.func105, Tryz.ntmps105
      go_wp2
      go_ret
      exact ⟨_, rfl, hone, hcA.alloc _⟩
    · have hne : ags ≠ [] := fun e => hz (by rw [e]; rfl)
      rw [lvsT_cons hne] at hlen ⊢
      have e1 : ((ags.length : Int) == 0) = false := by rw [beq_eq_false_iff_ne]; omega
      go_enter Tryz.func105, Tryz.ntmps105
      go_wp2
      generalize hwA : (w.alloc (.cells #[.string nm, .slice a ags.length c] 28)) = wA at *
      clear hwA b0 b1 e1
      have hsz := hcA.size
      go_loopw [3, 4, 15] (fun lv _ i wr => ∃ k : Nat, k ≤ ags.length ∧ i = .int .i64 k ∧ Ch [] wA wr ∧ Own wr wA.heap.size 9 1 lv ((lvsL (ags.take k)).map encS)) (fun _ _ i _ => ags.length - (intOf i).toNat)
      case atStart => exact ⟨0, Nat.zero_le _, rfl, Ch.refl _ _, Own.nil _ _ _ _⟩
      case round =>
        obtain ⟨k, hk, rfl, hB, hown⟩ := hrel
        have b1 := (hbx.ch hB (by simp)).cell 1
        by_cases hlt : k < ags.length
        · obtain ⟨b, o, a', c', rfl, hp, c0, c1, hT⟩ := (h.ch0 (hcA.trans hB)).at_ hlt
          have HDR := Lib.hid (lvsL_snoc ags k hlt)
          have hle := lvsL_le ags k hlt
          have hxd := deps_mem (List.getElem_mem hlt)
          generalize ags[k] = x at *
          have hszB := hB.size
          have hcall := HIH.out x (by omega) _ _ _ hT (by omega)
          have HLV := Lib.hid (show ∀ b, u3.ownBlock = some b → wA.heap.size ≤ b ∧ b < wr.heap.size from fun b hb => hown.lt hb)
          go_wp2_with (first
            | (go_at_call 105; refine hcall.mono ?_; rintro e w1 ⟨v1, rfl, ho1, hc1⟩; clear hcall)
            | (at_builtin; refine wpList_append_sl rfl _ _ _ rfl elS (base := wA.heap.size) (v := u3) (css := (lvsL (ags.take k)).map encS) rfl (hown.ch0' hc1) rfl ho1.sl (by simp; omega) (by have := hc1.size; omega) ?_; intro v6 w6 ho6 hc6 hat6 hn6; clear hn6))
          go_roundw
          case rel =>
            refine ⟨k + 1, by omega, by go_num, (hB.trans hc1).step hc6 (fun y hy => ?_), by rw [HDR.out, List.map_append]; exact ho6⟩
            simp at hy
            exact .inr (HLV.out y hy).1
          case measure => simp [intOf]; omega
        · have hr : lvsL (ags.take k) = lvsL ags := by rw [List.take_of_length_le (by omega)]
          rw [hr] at hown
          clear hr
          go_wp2
          go_ret
          exact ⟨_, rfl, hown.base_le hsz, hcA.trans hB⟩

set_option maxRecDepth 100000 in
set_option maxHeartbeats 2000000 in
theorem ref01Has_ (p : Nat → Prop) (v : Value) (xs : List ByteArray) (s : ByteArray) (w : World) (h : SlS p w v xs) :
    Calls Tryz.prog 106 #[v, .string s] w fun e w' => e = .returned (.bool (hasS xs s)) ∧ w = w' := by
  obtain ⟨a, c, rfl, hlc, hm⟩ := h.form
  unfold maxLen at hm
  go_enter Tryz.func106, Tryz.ntmps106
  go_wp2
  go_loopw [5, 8] (fun _ i wr => ∃ k : Nat, k ≤ xs.length ∧ i = .int .i64 k ∧ wr = w ∧ Hid (hasS (xs.take k) s = false)) (fun _ i _ => xs.length - (intOf i).toNat)
  case atStart => exact ⟨0, Nat.zero_le _, rfl, rfl, by simp [Hid, hasS]⟩
  case round =>
    obtain ⟨k, hk, rfl, rfl, HN⟩ := hrel
    by_cases hlt : k < xs.length
    · obtain ⟨b, o, rfl, hp, c0⟩ := h.at_ hlt
      have HS := Lib.hid (hasS_snoc xs s k hlt)
      by_cases he : xs[k] = s
      · have HR := Lib.hid (hasS_at xs s k hlt he)
        rw [he] at c0
        have hq : (s.toList == s.toList) = true := by simp
        clear he
        go_wp2
        all_goals
          go_ret
          exact ⟨by rw [HR.out]; rfl, rfl⟩
      · have HX : Hid (hasS (xs.take (k + 1)) s = false) := by unfold Hid; rw [HS.out, HN.out]; simp [he]
        have hq : (xs[k].toList == s.toList) = false := by rw [beqS]; exact decide_eq_false he
        clear he HS
        generalize xs[k] = x at *
        go_wp2
        all_goals
          go_roundw
          case rel => exact ⟨k + 1, by omega, by go_num, trivial, HX⟩
          case measure => simp [intOf]; omega
    · have hr : hasS xs s = false := by rw [← HN.out, List.take_of_length_le (by omega)]
      have HR := Lib.hid hr; clear hr
      go_wp2
      go_ret
      exact ⟨by rw [HR.out]; rfl, rfl⟩

set_option maxRecDepth 100000 in
set_option maxHeartbeats 4000000 in
theorem refVars_ (ts : List Tm) (p : Nat → Prop) (v : Value) (w : World) (h : SlT p w v ts) (hlen : (lvsL ts).length ≤ 1000000000) (hsz : ∀ s ∈ lvsL ts, s.size ≤ maxLen) :
    Calls Tryz.prog 74 #[v] w fun e w' => ∃ v', e = .returned v' ∧ Own w' w.heap.size 9 1 v' ((varsL ts).map encS) ∧ Ch [] w w' := by
  obtain ⟨a, c, rfl, hlc, hmx⟩ := h.form
  unfold maxLen at hmx
  have HSZ := Lib.hid hsz; clear hsz
  go_enter Tryz.func74, Tryz.ntmps74
  go_wp2
  go_loopw [3, 4, 5, 6, 9] (fun lv _ _ _ i wr => ∃ k : Nat, k ≤ ts.length ∧ i = .int .i64 k ∧ Ch [] w wr ∧ Own wr w.heap.size 9 1 lv ((varsL (ts.take k)).map encS)) (fun _ _ _ _ i _ => ts.length - (intOf i).toNat)
  case atStart => exact ⟨0, Nat.zero_le _, rfl, Ch.refl _ _, Own.nil _ _ _ _⟩
  case round =>
    obtain ⟨k, hk, rfl, hB, hown⟩ := hrel
    by_cases hlt : k < ts.length
    · obtain ⟨b, o, a', c', rfl, hp, c0, c1, hT⟩ := (h.ch0 hB).at_ hlt
      have HDR := Lib.hid (varsL_snoc ts k hlt)
      have hle := lvsL_le ts k hlt
      have HSX : Hid (∀ s ∈ lvsT ts[k], s.size ≤ maxLen) := fun s hs => HSZ.out s (lvsL_mem hlt hs)
      have hol : (varsL (ts.take k)).length ≤ (lvsL (ts.take k)).length := by have := addV_len (lvsL (ts.take k)) []; simpa [varsL] using this
      generalize ts[k] = x at *
      have hszB := hB.size
      have hcall := refLeaves_ x.dep x (Nat.le_refl _) _ _ _ hT (by omega)
      generalize varsL (ts.take k) = o0 at *
      generalize hLg : lvsT x = L at *
      clear hLg
      go_wp2_with (go_at_call 105; refine hcall.mono ?_; rintro e w1 ⟨vL, rfl, hoL, hc1⟩; clear hcall; obtain ⟨aL, cL, rfl⟩ := hoL.form'; rw [List.length_map] at *)
      have hlt3 : ∀ g, u3.ownBlock = some g → w.heap.size ≤ g ∧ g < wr.heap.size := fun g hg => hown.lt hg
      have hd0 : ∀ b, (Value.slice aL L.length cL).ownBlock = some b → b ∉ u3.ownBlock.toList := fun b hb hm => by
        simp at hm
        have h1 := (hlt3 b hm).2
        have h2 := (hoL.lt hb).1
        omega
      have hown1 := hown.ch0' hc1
      have HW := Lib.hid hlt3
      have hbase1 : w.heap.size ≤ w1.heap.size := by have := hc1.size; omega
      clear hown hlt3 c0 c1 hT hp
      generalize hob : u3.ownBlock = ob at *
      go_loopw [3, 6, 19] (fun lv _ i w2 => ∃ j : Nat, j ≤ L.length ∧ i = .int .i64 j ∧ Ch ob.toList w1 w2 ∧ Own w2 w.heap.size 9 1 lv (((L.take j).foldl addV o0).map encS) ∧ (lv.ownBlock = ob ∨ ∃ g, lv.ownBlock = some g ∧ w1.heap.size ≤ g)) (fun _ _ i _ => L.length - (intOf i).toNat)
      case atStart => exact ⟨0, Nat.zero_le _, rfl, Ch.refl _ _, by simpa using hown1, .inl hob⟩
      case round =>
        obtain ⟨j, hj, rfl, hB2, hown2, hat2⟩ := hrel
        by_cases hjt : j < L.length
        · obtain ⟨bL, oL, rfl, hpL, cL0⟩ := SlS.at_ (hoL.ch hB2 hd0).sl hjt
          have HA0 := Lib.hid (addV_snoc L o0 j hjt)
          have hbl : ((L.take j).foldl addV o0).length ≤ o0.length + j := by have := addV_len (L.take j) o0; rw [List.length_take, Nat.min_eq_left hj] at this; exact this
          have hss : L[j].size ≤ maxLen := HSX.out _ (List.getElem_mem hjt)
          generalize L[j] = s at *
          generalize (L.take j).foldl addV o0 = ol at *
          have hvar := fun wz => ref01Variable s wz hss
          have hcon := fun wz (hz : Ch [] wr wz) => ref01Has_ _ u3 ol s wz ((hown2.ch0' hz).sl)
          have HAD := Lib.hid (show addV ol s = if (varB s && !hasS ol s) = true then ol ++ [s] else ol from rfl)
          generalize varB s = vb at *
          generalize hasS ol s = hb at *
          cases vb <;> cases hb
          all_goals
            go_wp2_with (first
              | (go_at_call 56; refine (hvar _).mono ?_; rintro e w2 ⟨rfl, rfl⟩)
              | (go_at_call 106; refine (hcon _ (Ch.refl _ _)).mono ?_; rintro e w3 ⟨rfl, rfl⟩)
              | (at_builtin; refine wpList_append_sl rfl _ _ _ rfl elS (base := w.heap.size) (v := u3) (css := ol.map encS) rfl (hown2.ch0' ((Ch.refl [] wr).alloc _)) rfl (Sl.one wr 1 _ [.string s] rfl (by simp [Value.oneCell'])) (by simp; omega) (by have := hB2.size; simp; omega) ?_; intro v6 w6 ho6 hc6 hat6 hn6; clear hn6))
          · go_roundw
            case rel => exact ⟨j + 1, by omega, by go_num, hB2, by rw [HA0.out, show addV ol s = ol from HAD.out]; exact hown2, hat2⟩
            case measure => simp [intOf]; omega
          · go_roundw
            case rel => exact ⟨j + 1, by omega, by go_num, hB2, by rw [HA0.out, show addV ol s = ol from HAD.out]; exact hown2, hat2⟩
            case measure => simp [intOf]; omega
          · go_roundw
            case rel =>
              refine ⟨j + 1, by omega, by go_num, (hB2.alloc _).step hc6 (fun y hy => ?_), by rw [HA0.out, show addV ol s = ol ++ [s] from HAD.out]; simpa [encS] using ho6, ?_⟩
              · rcases hat2 with e1 | ⟨g, e1, e2⟩
                · rw [e1] at hy; exact .inl hy
                · rw [e1] at hy; simp at hy; subst hy; exact .inr e2
              · rcases hat6 with e1 | e1
                · rw [e1]; exact hat2
                · exact .inr ⟨_, e1, by have := hB2.size; simp; omega⟩
            case measure => simp [intOf]; omega
          · go_roundw
            case rel => exact ⟨j + 1, by omega, by go_num, hB2, by rw [HA0.out, show addV ol s = ol from HAD.out]; exact hown2, hat2⟩
            case measure => simp [intOf]; omega
        · have hr : (L.take j).foldl addV o0 = varsL (ts.take (k + 1)) := by rw [HDR.out, List.take_of_length_le (by omega)]
          rw [hr] at hown2
          clear hr
          go_wp2
          go_roundw
          case rel => exact ⟨k + 1, by omega, by go_num, (hB.trans hc1).step hB2 (fun y hy => by simp at hy; exact .inr (HW.out y hy).1), hown2⟩
          case measure => simp [intOf]; omega
    · have hr : varsL (ts.take k) = varsL ts := by rw [List.take_of_length_le (by omega)]
      rw [hr] at hown
      clear hr
      go_wp2
      go_ret
      exact ⟨_, rfl, hown, hB⟩
end
end Go.Proofs.YtbongbknciibiaaGreatDoor
