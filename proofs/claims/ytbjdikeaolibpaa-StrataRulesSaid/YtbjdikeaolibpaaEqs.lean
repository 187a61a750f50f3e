/-
  Contracts of the functions that compare two lists element by element. PRINTED BY wip/gen/small.py.
-/
import Derived.Test.YtbjdikeaolibpaaFacts
namespace Go.Proofs.Ytbjdikeaolibpaa
open Go.RowKit
attribute [local go_sem ↓] run_eql_ed run_neq_ed run_eql_lv run_neq_lv

set_option maxHeartbeats 400000 in
theorem plainStrings (p q) (v u : Value) (xs ys : List ByteArray) (w : World) (h : SlS p w v xs) (h' : SlS q w u ys) :
    Calls Try.prog 27 #[v, u] w fun e w' => e = .returned (.bool (eqS xs ys)) ∧ Ch [] w w' := by
  obtain ⟨a, c, rfl, hlc, hm⟩ := h.form
  obtain ⟨a', c', rfl, hlc', hm'⟩ := h'.form
  unfold maxLen at hm hm'
  by_cases hl : xs.length = ys.length
  · have HL := Lib.hid hl; clear hl
    have hb : ((xs.length : Int) != (ys.length : Int)) = false := by simp [HL.out]
    go_enter Try.func27, Try.ntmps27
    go_wp2
    go_loopw [13] (fun i wr => ∃ k : Nat, k ≤ xs.length ∧ i = .int .i64 k ∧ Ch [] w wr ∧ Hid (xs.take k = ys.take k)) (fun i _ => xs.length - (intOf i).toNat)
    case atStart => exact ⟨0, Nat.zero_le _, rfl, Ch.refl _ _, rfl⟩
    case round =>
      obtain ⟨k, hk, rfl, hB, HE⟩ := hrel
      by_cases hlt : k < xs.length
      · obtain ⟨b, o, rfl, hp, c0⟩ := h.at_ hlt
        have hlt' : k < ys.length := by have := HL.out; omega
        obtain ⟨b', o', rfl, hp', d0⟩ := h'.at_ hlt'
        have c0 := Later.cell (cell_ch c0 hB (by simp))
        have d0 := Later.cell (cell_ch d0 hB (by simp))
        have hs := Lib.hid (take_eq_step hlt hlt' HE.out)
        have hne := Lib.hid (ne_at (xs := xs) hlt hlt')
        go_wp2
        refine wp_region_later (by kernel_rfl) (by kernel_rfl) ?_
        repeat (go_big_quiet_step (fail))
        refine wpQuiet_nil ?_
        intro w1 hw1
        have hB1 := hB.trans hw1
        go_wp2
        · have ht : (!xs[k].toList == ys[k].toList) = true := by assumption
          go_ret
          have hx : eqS xs ys = false := by simp only [eqS, decide_eq_false_iff_not]; exact hne.out (by rw [beqS] at ht; simpa using ht)
          exact ⟨by rw [hx]; rfl, hB1⟩
        · have ht : (!xs[k].toList == ys[k].toList) = false := by assumption
          go_roundw
          case rel => exact ⟨k + 1, by omega, by go_num, hB1, hs.out (by rw [beqS] at ht; simpa using ht)⟩
          case measure => simp [intOf]; omega
      · have hlt2 := hlt
        have : k = xs.length := by omega
        have hx : eqS xs ys = true := by
          simp only [eqS, decide_eq_true_eq]
          exact eq_of_prefix HL.out (this ▸ HE.out)
        clear this
        go_wp2
        go_ret
        exact ⟨by rw [hx]; rfl, hB⟩
  · have hb : ((xs.length : Int) != (ys.length : Int)) = true := by rw [bne_iff_ne]; omega
    have hx : eqS xs ys = false := by simp only [eqS, decide_eq_false_iff_not]; exact fun h => hl (by rw [h])
    have HX := Lib.hid hx; clear hx
    go_enter Try.func27, Try.ntmps27
    go_wp2
    go_ret
    exact ⟨by rw [HX.out]; rfl, Ch.refl _ _⟩

set_option maxHeartbeats 400000 in
theorem plainInts (p q) (v u : Value) (xs ys : List Int) (w : World) (h : SlI p w v xs) (h' : SlI q w u ys) :
    Calls Try.prog 60 #[v, u] w fun e w' => e = .returned (.bool (eqI xs ys)) ∧ Ch [] w w' := by
  obtain ⟨a, c, rfl, hlc, hm⟩ := h.form
  obtain ⟨a', c', rfl, hlc', hm'⟩ := h'.form
  unfold maxLen at hm hm'
  by_cases hl : xs.length = ys.length
  · have HL := Lib.hid hl; clear hl
    have hb : ((xs.length : Int) != (ys.length : Int)) = false := by simp [HL.out]
    go_enter Try.func60, Try.ntmps60
    go_wp2
    go_loopw [13] (fun i wr => ∃ k : Nat, k ≤ xs.length ∧ i = .int .i64 k ∧ Ch [] w wr ∧ Hid (xs.take k = ys.take k)) (fun i _ => xs.length - (intOf i).toNat)
    case atStart => exact ⟨0, Nat.zero_le _, rfl, Ch.refl _ _, rfl⟩
    case round =>
      obtain ⟨k, hk, rfl, hB, HE⟩ := hrel
      by_cases hlt : k < xs.length
      · obtain ⟨b, o, rfl, hp, c0⟩ := h.at_ hlt
        have hlt' : k < ys.length := by have := HL.out; omega
        obtain ⟨b', o', rfl, hp', d0⟩ := h'.at_ hlt'
        have c0 := Later.cell (cell_ch c0 hB (by simp))
        have d0 := Later.cell (cell_ch d0 hB (by simp))
        have hs := Lib.hid (take_eq_step hlt hlt' HE.out)
        have hne := Lib.hid (ne_at (xs := xs) hlt hlt')
        go_wp2
        refine wp_region_later (by kernel_rfl) (by kernel_rfl) ?_
        repeat (go_big_quiet_step (fail))
        refine wpQuiet_nil ?_
        intro w1 hw1
        have hB1 := hB.trans hw1
        go_wp2
        · have ht : (xs[k] != ys[k]) = true := by assumption
          go_ret
          have hx : eqI xs ys = false := by simp only [eqI, decide_eq_false_iff_not]; exact hne.out (by skip; simpa using ht)
          exact ⟨by rw [hx]; rfl, hB1⟩
        · have ht : (xs[k] != ys[k]) = false := by assumption
          go_roundw
          case rel => exact ⟨k + 1, by omega, by go_num, hB1, hs.out (by skip; simpa using ht)⟩
          case measure => simp [intOf]; omega
      · have hlt2 := hlt
        have : k = xs.length := by omega
        have hx : eqI xs ys = true := by
          simp only [eqI, decide_eq_true_eq]
          exact eq_of_prefix HL.out (this ▸ HE.out)
        clear this
        go_wp2
        go_ret
        exact ⟨by rw [hx]; rfl, hB⟩
  · have hb : ((xs.length : Int) != (ys.length : Int)) = true := by rw [bne_iff_ne]; omega
    have hx : eqI xs ys = false := by simp only [eqI, decide_eq_false_iff_not]; exact fun h => hl (by rw [h])
    have HX := Lib.hid hx; clear hx
    go_enter Try.func60, Try.ntmps60
    go_wp2
    go_ret
    exact ⟨by rw [HX.out]; rfl, Ch.refl _ _⟩

set_option maxHeartbeats 400000 in
theorem law09same (p q) (v u : Value) (xs ys : List Ed) (w : World) (h : SlE p w v xs) (h' : SlE q w u ys) :
    Calls Try.prog 41 #[v, u] w fun e w' => e = .returned (.bool (eqE xs ys)) ∧ Ch [] w w' := by
  obtain ⟨a, c, rfl, hlc, hm⟩ := h.form
  obtain ⟨a', c', rfl, hlc', hm'⟩ := h'.form
  unfold maxLen at hm hm'
  by_cases hl : xs.length = ys.length
  · have HL := Lib.hid hl; clear hl
    have hb : ((xs.length : Int) != (ys.length : Int)) = false := by simp [HL.out]
    go_enter Try.func41, Try.ntmps41
    go_wp2
    go_loopw [5] (fun i wr => ∃ k : Nat, k ≤ xs.length ∧ i = .int .i64 k ∧ Ch [] w wr ∧ Hid (xs.take k = ys.take k)) (fun i _ => xs.length - (intOf i).toNat)
    case atStart => exact ⟨0, Nat.zero_le _, rfl, Ch.refl _ _, rfl⟩
    case round =>
      obtain ⟨k, hk, rfl, hB, HE⟩ := hrel
      by_cases hlt : k < xs.length
      · obtain ⟨b, o, rfl, hp, c0, c1, c2⟩ := h.at_ hlt
        have hlt' : k < ys.length := by have := HL.out; omega
        obtain ⟨b', o', rfl, hp', d0, d1, d2⟩ := h'.at_ hlt'
        have c0 := Later.cell (cell_ch c0 hB (by simp))
        have d0 := Later.cell (cell_ch d0 hB (by simp))
        have c1 := Later.cell (cell_ch c1 hB (by simp))
        have d1 := Later.cell (cell_ch d1 hB (by simp))
        have c2 := Later.cell (cell_ch c2 hB (by simp))
        have d2 := Later.cell (cell_ch d2 hB (by simp))
        have hs := Lib.hid (take_eq_step hlt hlt' HE.out)
        have hne := Lib.hid (ne_at (xs := xs) hlt hlt')
        go_wp2
        refine wp_region_later (by kernel_rfl) (by kernel_rfl) ?_
        repeat (go_big_quiet_step (fail))
        refine wpQuiet_nil ?_
        intro w1 hw1
        have hB1 := hB.trans hw1
        go_wp2
        · have ht : (!edB xs[k].f xs[k].t xs[k].n ys[k].f ys[k].t ys[k].n) = true := by assumption
          go_ret
          have hx : eqE xs ys = false := by simp only [eqE, decide_eq_false_iff_not]; exact hne.out (by rw [edB_eq] at ht; simpa using ht)
          exact ⟨by rw [hx]; rfl, hB1⟩
        · have ht : (!edB xs[k].f xs[k].t xs[k].n ys[k].f ys[k].t ys[k].n) = false := by assumption
          go_roundw
          case rel => exact ⟨k + 1, by omega, by go_num, hB1, hs.out (by rw [edB_eq] at ht; simpa using ht)⟩
          case measure => simp [intOf]; omega
      · have hlt2 := hlt
        have : k = xs.length := by omega
        have hx : eqE xs ys = true := by
          simp only [eqE, decide_eq_true_eq]
          exact eq_of_prefix HL.out (this ▸ HE.out)
        clear this
        go_wp2
        go_ret
        exact ⟨by rw [hx]; rfl, hB⟩
  · have hb : ((xs.length : Int) != (ys.length : Int)) = true := by rw [bne_iff_ne]; omega
    have hx : eqE xs ys = false := by simp only [eqE, decide_eq_false_iff_not]; exact fun h => hl (by rw [h])
    have HX := Lib.hid hx; clear hx
    go_enter Try.func41, Try.ntmps41
    go_wp2
    go_ret
    exact ⟨by rw [HX.out]; rfl, Ch.refl _ _⟩

set_option maxHeartbeats 400000 in
theorem law10same (p q) (v u : Value) (xs ys : List Lv) (w : World) (h : SlL p w v xs) (h' : SlL q w u ys) :
    Calls Try.prog 21 #[v, u] w fun e w' => e = .returned (.bool (eqL xs ys)) ∧ Ch [] w w' := by
  obtain ⟨a, c, rfl, hlc, hm⟩ := h.form
  obtain ⟨a', c', rfl, hlc', hm'⟩ := h'.form
  unfold maxLen at hm hm'
  by_cases hl : xs.length = ys.length
  · have HL := Lib.hid hl; clear hl
    have hb : ((xs.length : Int) != (ys.length : Int)) = false := by simp [HL.out]
    go_enter Try.func21, Try.ntmps21
    go_wp2
    go_loopw [5] (fun i wr => ∃ k : Nat, k ≤ xs.length ∧ i = .int .i64 k ∧ Ch [] w wr ∧ Hid (xs.take k = ys.take k)) (fun i _ => xs.length - (intOf i).toNat)
    case atStart => exact ⟨0, Nat.zero_le _, rfl, Ch.refl _ _, rfl⟩
    case round =>
      obtain ⟨k, hk, rfl, hB, HE⟩ := hrel
      by_cases hlt : k < xs.length
      · obtain ⟨b, o, rfl, hp, c0, c1⟩ := h.at_ hlt
        have hlt' : k < ys.length := by have := HL.out; omega
        obtain ⟨b', o', rfl, hp', d0, d1⟩ := h'.at_ hlt'
        have c0 := Later.cell (cell_ch c0 hB (by simp))
        have d0 := Later.cell (cell_ch d0 hB (by simp))
        have c1 := Later.cell (cell_ch c1 hB (by simp))
        have d1 := Later.cell (cell_ch d1 hB (by simp))
        have hs := Lib.hid (take_eq_step hlt hlt' HE.out)
        have hne := Lib.hid (ne_at (xs := xs) hlt hlt')
        go_wp2
        refine wp_region_later (by kernel_rfl) (by kernel_rfl) ?_
        repeat (go_big_quiet_step (fail))
        refine wpQuiet_nil ?_
        intro w1 hw1
        have hB1 := hB.trans hw1
        go_wp2
        · have ht : (!lvB xs[k].s xs[k].n ys[k].s ys[k].n) = true := by assumption
          go_ret
          have hx : eqL xs ys = false := by simp only [eqL, decide_eq_false_iff_not]; exact hne.out (by rw [lvB_eq] at ht; simpa using ht)
          exact ⟨by rw [hx]; rfl, hB1⟩
        · have ht : (!lvB xs[k].s xs[k].n ys[k].s ys[k].n) = false := by assumption
          go_roundw
          case rel => exact ⟨k + 1, by omega, by go_num, hB1, hs.out (by rw [lvB_eq] at ht; simpa using ht)⟩
          case measure => simp [intOf]; omega
      · have hlt2 := hlt
        have : k = xs.length := by omega
        have hx : eqL xs ys = true := by
          simp only [eqL, decide_eq_true_eq]
          exact eq_of_prefix HL.out (this ▸ HE.out)
        clear this
        go_wp2
        go_ret
        exact ⟨by rw [hx]; rfl, hB⟩
  · have hb : ((xs.length : Int) != (ys.length : Int)) = true := by rw [bne_iff_ne]; omega
    have hx : eqL xs ys = false := by simp only [eqL, decide_eq_false_iff_not]; exact fun h => hl (by rw [h])
    have HX := Lib.hid hx; clear hx
    go_enter Try.func21, Try.ntmps21
    go_wp2
    go_ret
    exact ⟨by rw [HX.out]; rfl, Ch.refl _ _⟩
theorem SlS.mk_ (w : World) (t : TypeId) (cs : Array Value) (n : Nat) (xs : List ByteArray) (hc : cs.toList = xs.map Value.string) (hn : n = xs.length) (hm : n ≤ maxLen) :
    SlS (fun b => b = w.heap.size) (w.alloc (.cells cs t)) (.slice (some ⟨w.heap.size, 0, none⟩) n n) xs := by
  subst hn
  refine ⟨some ⟨w.heap.size, 0, none⟩, xs.length, by rw [List.length_map], by rw [List.length_map]; exact Nat.le_refl _, hm, fun i c hi => ?_⟩
  simp only [List.getElem?_map, Option.map_eq_some_iff] at hi
  obtain ⟨s, hs, rfl⟩ := hi
  refine ⟨⟨rfl, by simp [encS, Value.oneCell']⟩, w.heap.size, 0, rfl, ⟨rfl, by simp⟩, fun j u hu => ?_⟩
  match j, hu with
  | 0, hu =>
    simp only [encS, List.getElem?_cons_zero, Option.some.injEq] at hu
    subst hu
    have h1 : cs[i]? = some (.string s) := by rw [← Array.getElem?_toList, hc]; simp [hs]
    rw [show 0 + (i * 1 + 0) = i from by omega, (Blk.new w t cs).cell i]; exact h1
  | j + 1, hu => simp [encS] at hu
theorem stringsSame (p q) (v u : Value) (xs : List ByteArray) (w : World) (h : SlS p w v xs) (h' : SlS q w u xs) :
    Calls Try.prog 27 #[v, u] w fun e w' => e = .returned (.bool true) ∧ Ch [] w w' := by
  have := plainStrings p q v u xs xs w h h'
  rwa [show eqS xs xs = true from by simp [eqS]] at this
end Go.Proofs.Ytbjdikeaolibpaa
