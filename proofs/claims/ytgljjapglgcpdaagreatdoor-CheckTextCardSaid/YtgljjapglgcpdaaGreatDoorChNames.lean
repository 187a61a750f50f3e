
/-
  The contracts of the functions on names: term.in, spelled, Name, Variable, Number; the reference's.
  The contracts of term.Name, Variable, Number and of the reference's.
-/
import Derived.Test.YtgljjapglgcpdaaGreatDoorChPlain
import Derived.Test.YtgljjapglgcpdaaGreatDoorWord
import Derived.Test.YtgljjapglgcpdaaGreatDoorLex
namespace Go.Proofs.YtgljjapglgcpdaaGreatDoor

section
open Go.RowKit

def encP (x : Nat × Nat) : List Value := [.int .u8 x.1, .int .u8 x.2]
def SlSp (p : Nat → Prop) (w : World) (v : Value) (xs : List (Nat × Nat)) : Prop := Sl p w 2 v (xs.map encP)
section
variable {p : Nat → Prop} {w w' : World} {v : Value} {xs : List (Nat × Nat)} {a : Option Addr} {n c i : Nat}
theorem SlSp.form (h : SlSp p w v xs) : ∃ a c, v = .slice a xs.length c ∧ xs.length ≤ c ∧ c ≤ maxLen := by simpa using Sl.form' h
theorem SlSp.at_ (h : SlSp p w (.slice a n c) xs) (hi : i < xs.length) : ∃ b o, a = some ⟨b, o, none⟩ ∧ (p b ∧ b < w.heap.size) ∧
    w.cell? ⟨b, o + i * 2, none⟩ = some (.int .u8 xs[i].1) ∧ w.cell? ⟨b, o + i * 2 + 1, none⟩ = some (.int .u8 xs[i].2) := by
  obtain ⟨b, o, rfl, hp, hc⟩ := Sl.at_ h (i := i) (cs := encP xs[i]) (by simp [hi])
  exact ⟨b, o, rfl, hp, by simpa using hc 0 _ rfl, by simpa [Nat.add_assoc] using hc 1 _ rfl⟩
theorem SlSp.ch0 (h : SlSp p w v xs) (hc : Ch [] w w') : SlSp p w' v xs := Sl.ch0 h hc
end
def spanC (x : Nat × Nat) (c : Nat) : Bool := decide (x.1 ≤ c) && decide (c ≤ x.2)
def inSp (xs : List (Nat × Nat)) (c : Nat) : Bool := xs.any fun x => spanC x c
theorem inSp_snoc (xs : List (Nat × Nat)) (c k : Nat) (h : k < xs.length) : inSp (xs.take (k + 1)) c = (inSp (xs.take k) c || spanC xs[k] c) := by
  simp only [inSp, take_snoc xs k h, List.any_append, List.any_cons, List.any_nil, Bool.or_false]
theorem inSp_at (xs : List (Nat × Nat)) (c k : Nat) (h : k < xs.length) (e : spanC xs[k] c = true) : inSp xs c = true := by
  simp only [inSp, List.any_eq_true]
  exact ⟨xs[k], List.getElem_mem h, e⟩

set_option maxHeartbeats 1000000 in
theorem in_ (p) (v : Value) (xs : List (Nat × Nat)) (c : Nat) (w : World) (h : SlSp p w v xs) :
    Calls Tryz.prog 88 #[.int .u8 c, v] w fun e w' => e = .returned (.bool (inSp xs c)) ∧ Ch [] w w' := by
  obtain ⟨a, cp, rfl, hlc, hm⟩ := h.form
  unfold maxLen at hm
  go_enter Tryz.func88, Tryz.ntmps88
  go_wp2
  go_loopw [9] (fun i wr => ∃ k : Nat, k ≤ xs.length ∧ i = .int .i64 k ∧ Ch [] w wr ∧ Hid (inSp (xs.take k) c = false)) (fun i _ => xs.length - (intOf i).toNat)
  case atStart => exact ⟨0, Nat.zero_le _, rfl, Ch.refl _ _, by simp [Hid, inSp]⟩
  case round =>
    obtain ⟨k, hk, rfl, hB, HN⟩ := hrel
    by_cases hlt : k < xs.length
    · obtain ⟨b, o, rfl, hp, c0, c1⟩ := h.at_ hlt
      have c0 := cell_ch c0 hB (by simp)
      have c1 := cell_ch c1 hB (by simp)
      have HS := Lib.hid (inSp_snoc xs c k hlt)
      have HA := Lib.hid (inSp_at xs c k hlt)
      obtain ⟨x, hx⟩ : ∃ x, xs[k] = x := ⟨_, rfl⟩
      rw [hx] at c0 c1 HS HA
      clear hx
      obtain ⟨lo, hi⟩ := x
      simp only at c0 c1
      have b0 := (Blk.new wr 94 #[.int .u8 lo, .int .u8 hi]).cell 0
      have b1 := (Blk.new wr 94 #[.int .u8 lo, .int .u8 hi]).cell 1
      by_cases h1 : lo ≤ c
      · by_cases h2 : c ≤ hi
        · have HR : Hid (inSp xs c = true) := HA.out (by simp [spanC, h1, h2])
          go_wp2
          go_ret
          exact ⟨by rw [HR.out]; rfl, hB.alloc _⟩
        · have HR : Hid (inSp (xs.take (k + 1)) c = false) := by unfold Hid; rw [HS.out, HN.out]; simp [spanC, h2]
          have h3 : hi < c := by omega
          go_wp2
          go_roundw
          case rel => exact ⟨k + 1, by omega, by go_num, hB.alloc _, HR⟩
          case measure => simp [intOf]; omega
      · have HR : Hid (inSp (xs.take (k + 1)) c = false) := by unfold Hid; rw [HS.out, HN.out]; simp [spanC, h1]
        have h3 : c < lo := by omega
        go_wp2
        go_roundw
        case rel => exact ⟨k + 1, by omega, by go_num, hB.alloc _, HR⟩
        case measure => simp [intOf]; omega
    · have : k = xs.length := by omega
      subst this
      rw [List.take_length] at HN
      go_wp2
      go_ret
      exact ⟨by rw [HN.out]; rfl, hB⟩

theorem sp_box (w : World) (t : TypeId) (x y z : Nat × Nat) : SlSp (fun b => b = w.heap.size) (w.alloc (.cells #[.int .u8 x.1, .int .u8 x.2, .int .u8 y.1, .int .u8 y.2, .int .u8 z.1, .int .u8 z.2] t)) (.slice (some ⟨w.heap.size, 0, none⟩) 3 3) [x, y, z] := by
  refine ⟨some ⟨w.heap.size, 0, none⟩, 3, rfl, Nat.le_refl _, by decide, fun i cs hi => ?_⟩
  have hbk := Blk.new w t #[.int .u8 x.1, .int .u8 x.2, .int .u8 y.1, .int .u8 y.2, .int .u8 z.1, .int .u8 z.2]
  have h2 : ∀ cs ∈ [x, y, z].map encP, cs.length = 2 ∧ ∀ u ∈ cs, u.oneCell' = true := fun cs hcs => by
    obtain ⟨q, _, rfl⟩ := List.mem_map.1 hcs
    exact ⟨rfl, by simp [encP, Value.oneCell']⟩
  have hmem := List.mem_of_getElem? hi
  refine ⟨h2 cs hmem, w.heap.size, 0, rfl, ⟨rfl, by simp⟩, fun j u hu => ?_⟩
  rw [hbk.cell, ← Array.getElem?_toList, Nat.zero_add]
  exact flat_get _ 2 (fun c hc => (h2 c hc).1) i cs j u hi hu

theorem spelt_first {f q : Nat → Bool} {s : ByteArray} (h1 : 1 ≤ s.size) (h2 : s.size ≤ 16) : spelt f q s = (f (byteAt s 0) && allC q s) := by
  unfold spelt
  rw [decide_eq_true h1, decide_eq_true h2]; rfl
set_option maxRecDepth 100000 in
set_option maxHeartbeats 4000000 in
theorem spelled_ (x y z : Nat × Nat) (s : ByteArray) (w : World) (hs : s.size ≤ maxLen) :
    Calls Tryz.prog 56 #[.string s, .agg #[.int .u8 x.1, .int .u8 x.2, .int .u8 y.1, .int .u8 y.2, .int .u8 z.1, .int .u8 z.2]] w fun e w' => e = .returned (.bool (spelt (spanC x) (inSp [x, y, z]) s)) ∧ Ch [] w w' := by
  unfold maxLen at hs
  have h3 := sp_box w 95 x y z
  have hcA : Ch [] w (w.alloc (.cells #[.int .u8 x.1, .int .u8 x.2, .int .u8 y.1, .int .u8 y.2, .int .u8 z.1, .int .u8 z.2] 95)) := (Ch.refl _ _).alloc _
  have h1 : SlSp (fun b => b = w.heap.size) (w.alloc (.cells #[.int .u8 x.1, .int .u8 x.2, .int .u8 y.1, .int .u8 y.2, .int .u8 z.1, .int .u8 z.2] 95)) (.slice (some ⟨w.heap.size, 0, none⟩) 1 3) [x] := Sl.take h3 (m := 1) (by omega)
  by_cases hsz : s.size < 1
  · have HR : Hid (spelt (spanC x) (inSp [x, y, z]) s = false) := by unfold Hid spelt; rw [decide_eq_false (by omega)]; rfl
    have hz : s.size = 0 := by omega
    go_enter Tryz.func56, Tryz.ntmps56
    go_wp2
    refine wp_region_later (by kernel_rfl) (lexB_of (by kernel_rfl)) ?_
    repeat (go_big_quiet_step (fail))
    refine wpQuiet_nil ?_
    intro w3 hw3
    go_wp2
    go_ret
    exact ⟨by rw [HR.out]; rfl, hcA.trans hw3⟩
  · by_cases h16 : 16 < s.size
    · have HR : Hid (spelt (spanC x) (inSp [x, y, z]) s = false) := by unfold Hid spelt; rw [decide_eq_false (p := s.size ≤ 16) (by omega), Bool.false_and, Bool.and_false]
      have e0 : decide (s.size = 0) = false := decide_eq_false (by omega)
      have e1 : decide ((s.size : Int) < 1) = false := decide_eq_false (by omega)
      have e2 : decide ((s.size : Int) ≤ 0) = false := decide_eq_false (by omega)
      have e3 : decide ((16 : Int) < (s.size : Int)) = true := decide_eq_true (by omega)
      go_enter Tryz.func56, Tryz.ntmps56
      go_wp2
      refine wp_region_later (by kernel_rfl) (lexB_of (by kernel_rfl)) ?_
      repeat (go_big_quiet_step (fail))
      refine wpQuiet_nil ?_
      intro w3 hw3
      go_wp2
      go_ret
      exact ⟨by rw [HR.out]; rfl, hcA.trans hw3⟩
    · have hb0 := byteAt_eq (s := s) (i := 0) (by omega)
      have HF := Lib.hid (spelt_first (f := spanC x) (q := inSp [x, y, z]) (s := s) (by omega) (by omega))
      have hpos : 0 < s.size := by omega
      generalize hwA : (w.alloc (.cells #[.int .u8 x.1, .int .u8 x.2, .int .u8 y.1, .int .u8 y.2, .int .u8 z.1, .int .u8 z.2] 95)) = wA at *
      have hcall := fun u : Later wA => later_call (x := u) (in_ _ _ [x] (byteAt s 0) u.w (h1.ch0 u.ch))
      have hin1 : inSp [x] (byteAt s 0) = spanC x (byteAt s 0) := by simp [inSp]
      simp only [hin1] at hcall
      have e0 : decide (s.size = 0) = false := decide_eq_false (by omega)
      have e1 : decide ((s.size : Int) < 1) = false := decide_eq_false (by omega)
      have e2 : decide ((s.size : Int) ≤ 0) = false := decide_eq_false (by omega)
      have e3 : decide ((16 : Int) < (s.size : Int)) = false := decide_eq_false (by omega)
      clear hin1
      cases hf : spanC x (byteAt s 0) with
      | false =>
        rw [hf] at hcall
        have HR : Hid (spelt (spanC x) (inSp [x, y, z]) s = false) := by unfold Hid; rw [HF.out, hf]; rfl
        clear hf
        generalize byteAt s 0 = c0 at *
        go_enter Tryz.func56, Tryz.ntmps56
        go_wp2
        clear hwA
        refine wp_region_later (by kernel_rfl) (lexB_of (by kernel_rfl)) ?_
        repeat (go_big_quiet_step (exact hcall _))
        refine wpQuiet_nil ?_
        intro w3 hw3
        go_wp2
        go_ret
        exact ⟨by rw [HR.out]; rfl, hcA.trans hw3⟩
      | true =>
        rw [hf] at hcall
        have HR : Hid (spelt (spanC x) (inSp [x, y, z]) s = allC (inSp [x, y, z]) s) := by unfold Hid; rw [HF.out, hf]; rfl
        clear hf
        generalize byteAt s 0 = c0 at *
        go_enter Tryz.func56, Tryz.ntmps56
        go_wp2
        clear hwA
        refine wp_region_later (by kernel_rfl) (lexB_of (by kernel_rfl)) ?_
        repeat (go_big_quiet_step (exact hcall _))
        refine wpQuiet_nil ?_
        intro w3 hw3
        have h33 := h3.ch0 hw3
        have hB3 := hcA.trans hw3
        clear hcall hb0
        go_wp2
        go_loopw [5] (fun i wr => ∃ k : Nat, k ≤ s.size ∧ i = .int .i64 k ∧ Ch [] w3 wr ∧ Hid (∀ j, j < k → inSp [x, y, z] (byteAt s j) = true)) (fun i _ => s.size - (intOf i).toNat)
        case atStart => exact ⟨0, Nat.zero_le _, rfl, Ch.refl _ _, by simp [Hid]⟩
        case round =>
          obtain ⟨k, hk, rfl, hB, HN⟩ := hrel
          by_cases hlt : k < s.size
          · have hb := byteAt_eq hlt
            have hcl := fun u : Later wr => later_call (x := u) (in_ _ _ [x, y, z] (byteAt s k) u.w ((h33.ch0 hB).ch0 u.ch))
            cases hq : inSp [x, y, z] (byteAt s k) with
            | false =>
              rw [hq] at hcl
              have HX : Hid (allC (inSp [x, y, z]) s = false) := allC_bad hlt hq
              clear hq
              generalize byteAt s k = c at *
              go_wp2
              refine wp_region_later (by kernel_rfl) (lexB_of (by kernel_rfl)) ?_
              repeat (go_big_quiet_step (exact hcl _))
              refine wpQuiet_nil ?_
              intro w4 hw4
              go_wp2
              go_ret
              exact ⟨by rw [HR.out, HX.out]; rfl, hB3.trans (hB.trans hw4)⟩
            | true =>
              rw [hq] at hcl
              have HX : Hid (∀ j, j < k + 1 → inSp [x, y, z] (byteAt s j) = true) := fun j hj => by
                rcases Nat.lt_succ_iff_lt_or_eq.1 hj with h4 | h4
                · exact HN.out j h4
                · subst h4; exact hq
              clear hq
              generalize byteAt s k = c at *
              go_wp2
              refine wp_region_later (by kernel_rfl) (lexB_of (by kernel_rfl)) ?_
              repeat (go_big_quiet_step (exact hcl _))
              refine wpQuiet_nil ?_
              intro w4 hw4
              go_wp2
              go_roundw
              case rel => exact ⟨k + 1, by omega, by go_num, hB.trans hw4, HX⟩
              case measure => simp [intOf]; omega
          · have HX : Hid (allC (inSp [x, y, z]) s = true) := allC_all fun j hj => HN.out j (by omega)
            go_wp2
            go_ret
            exact ⟨by rw [HR.out, HX.out]; rfl, hB3.trans hB⟩
end

section
open Go.RowKit

theorem nameC_eq : inSp [(97, 122), (48, 57), (45, 45)] = nameC := by
  funext c
  simp only [inSp, List.any_cons, List.any_nil, Bool.or_false, spanC, nameC, lowC, digC]
  congr 2
  rw [Bool.eq_iff_iff]
  simp only [Bool.and_eq_true, decide_eq_true_eq, beq_iff_eq]
  omega
theorem varC_eq : inSp [(65, 90), (97, 122), (48, 57)] = varC := by
  funext c
  simp only [inSp, List.any_cons, List.any_nil, Bool.or_false, spanC, varC, uppC, lowC, digC]
theorem ifC_eq (s : ByteArray) : (s.toList == [105, 102]) = decide (s = sIf) := by
  have : sIf.toList = [105, 102] := by rw [ByteArray.toList_eq]; rfl
  rw [← this, beqS]
theorem andC_eq (s : ByteArray) : (s.toList == [97, 110, 100]) = decide (s = sAnd) := by
  have : sAnd.toList = [97, 110, 100] := by rw [ByteArray.toList_eq]; rfl
  rw [← this, beqS]
theorem notC_eq (s : ByteArray) : (s.toList == [110, 111, 116]) = decide (s = sNot) := by
  have : sNot.toList = [110, 111, 116] := by rw [ByteArray.toList_eq]; rfl
  rw [← this, beqS]

set_option maxRecDepth 100000 in
set_option maxHeartbeats 2000000 in
theorem name_ (s : ByteArray) (w : World) (hs : s.size ≤ maxLen) :
    Calls Tryz.prog 22 #[.string s] w fun e w' => e = .returned (.bool (nameB s)) ∧ Ch [] w w' := by
  have hcall := spelled_ (97, 122) (48, 57) (45, 45) s w hs
  rw [nameC_eq] at hcall
  have HN : Hid (nameB s = (spelt lowC nameC s && (!decide (s = sIf) && (!decide (s = sAnd) && !decide (s = sNot))))) := rfl
  have e1 := ifC_eq s
  have e2 := andC_eq s
  have e3 := notC_eq s
  have hx : spelt (spanC (97, 122)) nameC s = spelt lowC nameC s := rfl
  rw [hx] at hcall
  clear hx
  generalize spelt lowC nameC s = a at *
  generalize decide (s = sIf) = b at *
  generalize decide (s = sAnd) = c at *
  generalize decide (s = sNot) = d at *
  cases a <;> cases b <;> cases c <;> cases d
  all_goals
    go_enter Tryz.func22, Tryz.ntmps22
    go_wp2_with (go_at_call 56; refine hcall.mono ?_; rintro e w1 ⟨rfl, hc1⟩)
    go_ret
    exact ⟨by rw [HN.out]; rfl, hc1⟩

set_option maxRecDepth 100000 in
set_option maxHeartbeats 2000000 in
theorem variableT_ (s : ByteArray) (w : World) (hs : s.size ≤ maxLen) :
    Calls Tryz.prog 54 #[.string s] w fun e w' => e = .returned (.bool (varB s)) ∧ Ch [] w w' := by
  have hcall := spelled_ (65, 90) (97, 122) (48, 57) s w hs
  rw [varC_eq] at hcall
  have hx : spelt (spanC (65, 90)) varC s = varB s := rfl
  rw [hx] at hcall
  clear hx
  go_enter Tryz.func54, Tryz.ntmps54
  go_wp2_with (go_at_call 56; refine hcall.mono ?_; rintro e w1 ⟨rfl, hc1⟩)
  go_ret
  exact ⟨rfl, hc1⟩

theorem numB_no {s : ByteArray} (h : s.size < 1 ∨ 4 < s.size ∨ (byteAt s 0 = 48 ∧ 1 < s.size)) : numB s = false := by
  unfold numB
  rcases h with h | h | ⟨h1, h2⟩
  · rw [decide_eq_false (p := 1 ≤ s.size) (by omega)]; rfl
  · rw [decide_eq_false (p := s.size ≤ 4) (by omega), Bool.false_and, Bool.and_false]
  · rw [decide_eq_true h2, h1]; simp
theorem numB_yes {s : ByteArray} (h1 : 1 ≤ s.size) (h2 : s.size ≤ 4) (h3 : ¬ (byteAt s 0 = 48 ∧ 1 < s.size)) : numB s = allC digC s := by
  unfold numB
  rw [decide_eq_true h1, decide_eq_true h2, Bool.true_and, Bool.true_and]
  have : (byteAt s 0 == 48 && decide (1 < s.size)) = false := by
    rw [Bool.eq_false_iff]
    intro h
    simp only [Bool.and_eq_true, beq_iff_eq, decide_eq_true_eq] at h
    exact h3 h
  rw [this]; rfl

def pw10 : Nat → Nat | 0 => 1 | k + 1 => 10 * pw10 k
theorem pw10_le : ∀ k, k ≤ 4 → pw10 k ≤ 10000
  | 0, _ => by decide
  | 1, _ => by decide
  | 2, _ => by decide
  | 3, _ => by decide
  | 4, _ => by decide
  | k + 5, h => by omega
def valTo (s : ByteArray) : Nat → Nat | 0 => 0 | k + 1 => 10 * valTo s k + (byteAt s k - 48)
theorem valTo_succ (s : ByteArray) (k : Nat) : valTo s (k + 1) = 10 * valTo s k + (byteAt s k - 48) := rfl
/-- the value of a numeral; 0 for what is none -/
def numV (s : ByteArray) : Nat := if numB s = true then valTo s s.size else 0
theorem numV_no {s : ByteArray} (h : numB s = false) : numV s = 0 := by unfold numV; rw [if_neg (by rw [h]; simp)]
theorem numV_yes {s : ByteArray} (h : numB s = true) : numV s = valTo s s.size := by unfold numV; rw [if_pos h]
set_option maxRecDepth 100000 in
set_option maxHeartbeats 4000000 in
theorem number_ (s : ByteArray) (w : World) (hs : s.size ≤ maxLen) :
    Calls Tryz.prog 86 #[.string s] w fun e w' => e = .returned (.tuple #[.int .i64 (numV s), .bool (numB s)]) ∧ Ch [] w w' := by
  unfold maxLen at hs
  have HV0 : numB s = false → numV s = 0 := fun h => numV_no h
  have HV1 : numB s = true → numV s = valTo s s.size := fun h => numV_yes h
  by_cases hz : s.size = 0
  · have HR := Lib.hid (numB_no (s := s) (.inl (by omega)))
    go_enter Tryz.func86, Tryz.ntmps86
    go_wp2
    go_ret2
    exact ⟨by rw [HR.out, (HV0 HR.out)]; rfl, Ch.refl _ _⟩
  · by_cases h4 : 4 < s.size
    · have HR := Lib.hid (numB_no (s := s) (.inr (.inl h4)))
      go_enter Tryz.func86, Tryz.ntmps86
      go_wp2
      all_goals
        go_ret2
        exact ⟨by rw [HR.out, (HV0 HR.out)]; rfl, Ch.refl _ _⟩
    · have hb0 := byteAt_eq (s := s) (i := 0) (by omega)
      by_cases hlead : byteAt s 0 = 48 ∧ 1 < s.size
      · have HR := Lib.hid (numB_no (s := s) (.inr (.inr hlead)))
        obtain ⟨h5, h6⟩ := hlead
        rw [h5] at hb0
        go_enter Tryz.func86, Tryz.ntmps86
        go_wp2
        all_goals
          go_ret2
          exact ⟨by rw [HR.out, (HV0 HR.out)]; rfl, Ch.refl _ _⟩
      · have HR := Lib.hid (numB_yes (s := s) (by omega) (by omega) hlead)
        have e1 : ((byteAt s 0 : Int) == 48 && decide (1 < (s.size : Int))) = false := by
          rw [Bool.eq_false_iff]
          intro h
          simp only [Bool.and_eq_true, beq_iff_eq, decide_eq_true_eq] at h
          omega
        have hP : pw10 s.size ≤ 10000 := pw10_le _ (by omega)
        go_enter Tryz.func86, Tryz.ntmps86
        go_wp2
        all_goals
          go_loopw [4, 5] (fun nv i wr => ∃ (k n : Nat), k ≤ s.size ∧ i = .int .i64 k ∧ nv = .int .i64 n ∧ Ch [] w wr ∧ n + 1 ≤ pw10 k ∧ Hid (n = valTo s k) ∧ Hid (∀ j, j < k → digC (byteAt s j) = true)) (fun _ i _ => s.size - (intOf i).toNat)
          case atStart => exact ⟨0, 0, Nat.zero_le _, rfl, rfl, Ch.refl _ _, Nat.le_refl _, rfl, by simp [Hid]⟩
          case round =>
            obtain ⟨k, n, hk, rfl, rfl, hB, hn, HVN, HN⟩ := hrel
            have hpk : pw10 k ≤ 10000 := pw10_le _ (by omega)
            by_cases hlt : k < s.size
            · have hb := byteAt_eq hlt
              have hdig : digC (byteAt s k) = (decide (48 ≤ byteAt s k) && decide (byteAt s k ≤ 57)) := rfl
              have HAB := Lib.hid (fun h => allC_bad (q := digC) hlt h)
              have hpk1 : pw10 (k + 1) = 10 * pw10 k := rfl
              by_cases hlo : byteAt s k < 48
              · have HX : Hid (allC digC s = false) := HAB.out (by rw [hdig, decide_eq_false (by omega)]; rfl)
                clear hdig
                generalize byteAt s k = c at *
                go_wp2
                all_goals
                  go_ret2
                  exact ⟨by rw [HR.out, HX.out, (HV0 (HR.out.trans HX.out))]; rfl, hB⟩
              · by_cases hhi : 57 < byteAt s k
                · have HX : Hid (allC digC s = false) := HAB.out (by rw [hdig, decide_eq_false (p := byteAt s k ≤ 57) (by omega), Bool.and_false])
                  clear hdig
                  generalize byteAt s k = c at *
                  go_wp2
                  all_goals
                    go_ret2
                    exact ⟨by rw [HR.out, HX.out, (HV0 (HR.out.trans HX.out))]; rfl, hB⟩
                · have HX : Hid (∀ j, j < k + 1 → digC (byteAt s j) = true) := fun j hj => by
                    rcases Nat.lt_succ_iff_lt_or_eq.1 hj with h | h
                    · exact HN.out j h
                    · subst h; rw [hdig, decide_eq_true (by omega), decide_eq_true (by omega)]; rfl
                  obtain ⟨d, hd⟩ : ∃ d, byteAt s k = d + 48 := ⟨byteAt s k - 48, by omega⟩
                  have hd9 : d ≤ 9 := by omega
                  have HVX : Hid (10 * n + d = valTo s (k + 1)) := by unfold Hid; rw [valTo_succ, ← HVN.out, hd]; simp
                  rw [hd] at hb
                  have hw : IntKind.u8.wrap (((d + 48 : Nat) : Int) - 48) = (d : Int) := by simp [IntKind.wrap, IntKind.signed, IntKind.bits]; omega
                  have hw2 : IntKind.u8.wrap ((d : Int) + 48 - 48) = (d : Int) := by simp [IntKind.wrap, IntKind.signed, IntKind.bits]; omega
                  clear hdig hlo hhi hd
                  go_wp2
                  all_goals
                    go_roundw
                    case rel => exact ⟨k + 1, 10 * n + d, by omega, by go_num, by go_num, hB, by omega, HVX, HX⟩
                    case measure => simp [intOf]; omega
            · have hks : k = s.size := by omega
              subst hks
              have HX : Hid (allC digC s = true) := allC_all fun j hj => HN.out j hj
              have hn9 : n ≤ 9999 := by omega
              go_wp2
              go_ret2
              exact ⟨by rw [HR.out, HX.out, (HV1 (HR.out.trans HX.out)), ← HVN.out]; first | done | rfl | (simp; omega), hB⟩
end
end Go.Proofs.YtgljjapglgcpdaaGreatDoor
