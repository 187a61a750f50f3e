
/-
  Contracts of the functions that compare two lists element by element. PRINTED BY wip/gen/small.py.
  Contracts of small functions: comparisons of lists, membership, look-ups in lists of levels.
  Contracts of small functions over lists of lists.
-/
import Derived.Test.YtlficnfkekggjaaGreatDoorFacts
namespace Go.Proofs.YtlficnfkekggjaaGreatDoor

section
open Go.RowKit
attribute [local go_sem ↓] run_eql_ed run_neq_ed run_eql_lv run_neq_lv

set_option maxHeartbeats 400000 in
theorem plainInts (p q) (v u : Value) (xs ys : List Int) (w : World) (h : SlI p w v xs) (h' : SlI q w u ys) :
    Calls Tryz.prog 28 #[v, u] w fun e w' => e = .returned (.bool (eqI xs ys)) ∧ Ch [] w w' := by
  obtain ⟨a, c, rfl, hlc, hm⟩ := h.form
  obtain ⟨a', c', rfl, hlc', hm'⟩ := h'.form
  unfold maxLen at hm hm'
  by_cases hl : xs.length = ys.length
  · have HL := Lib.hid hl; clear hl
    have hb : ((xs.length : Int) != (ys.length : Int)) = false := by simp [HL.out]
    go_enter Tryz.func28, Tryz.ntmps28
    go_wp2
    go_loopw [13] (fun i wr => ∃ k : Nat, k ≤ xs.length ∧ i = .int .i64 k ∧ Ch [] w wr ∧ Hid (xs.take k = ys.take k)) (fun i _ => xs.length - (intOf i).toNat)
    case atStart => exact ⟨0, Nat.zero_le _, rfl, Ch.refl _ _, rfl⟩
    case round =>
      obtain ⟨k, hk, rfl, hB, HE⟩ := hrel
      by_cases hlt : k < xs.length
      · obtain ⟨b, o, rfl, hp, c0⟩ := h.at_ hlt
        have hlt' : k < ys.length := by have := HL.out; omega
        obtain ⟨b', o', rfl, hp', d0⟩ := h'.at_ hlt'
        have c0 := Later.cell (cell_ch c0 hB (by simp))
        have d0 := Later.cell (cell_ch d0 hB (by simp))
        have hs := Lib.hid (take_eq_step hlt hlt' HE.out)
        have hne := Lib.hid (ne_at (xs := xs) hlt hlt')
        go_wp2
        refine wp_region_later (by kernel_rfl) (by kernel_rfl) ?_
        repeat (go_big_quiet_step (fail))
        refine wpQuiet_nil ?_
        intro w1 hw1
        have hB1 := hB.trans hw1
        go_wp2
        · have ht : (xs[k] != ys[k]) = true := by assumption
          go_ret
          have hx : eqI xs ys = false := by simp only [eqI, decide_eq_false_iff_not]; exact hne.out (by skip; simpa using ht)
          exact ⟨by rw [hx]; rfl, hB1⟩
        · have ht : (xs[k] != ys[k]) = false := by assumption
          go_roundw
          case rel => exact ⟨k + 1, by omega, by go_num, hB1, hs.out (by skip; simpa using ht)⟩
          case measure => simp [intOf]; omega
      · have hlt2 := hlt
        have : k = xs.length := by omega
        have hx : eqI xs ys = true := by
          simp only [eqI, decide_eq_true_eq]
          exact eq_of_prefix HL.out (this ▸ HE.out)
        clear this
        go_wp2
        go_ret
        exact ⟨by rw [hx]; rfl, hB⟩
  · have hb : ((xs.length : Int) != (ys.length : Int)) = true := by rw [bne_iff_ne]; omega
    have hx : eqI xs ys = false := by simp only [eqI, decide_eq_false_iff_not]; exact fun h => hl (by rw [h])
    have HX := Lib.hid hx; clear hx
    go_enter Tryz.func28, Tryz.ntmps28
    go_wp2
    go_ret
    exact ⟨by rw [HX.out]; rfl, Ch.refl _ _⟩

theorem SlS.mk_ (w : World) (t : TypeId) (cs : Array Value) (n : Nat) (xs : List ByteArray) (hc : cs.toList = xs.map Value.string) (hn : n = xs.length) (hm : n ≤ maxLen) :
    SlS (fun b => b = w.heap.size) (w.alloc (.cells cs t)) (.slice (some ⟨w.heap.size, 0, none⟩) n n) xs := by
  subst hn
  refine ⟨some ⟨w.heap.size, 0, none⟩, xs.length, by rw [List.length_map], by rw [List.length_map]; exact Nat.le_refl _, hm, fun i c hi => ?_⟩
  simp only [List.getElem?_map, Option.map_eq_some_iff] at hi
  obtain ⟨s, hs, rfl⟩ := hi
  refine ⟨⟨rfl, by simp [encS, Value.oneCell']⟩, w.heap.size, 0, rfl, ⟨rfl, by simp⟩, fun j u hu => ?_⟩
  match j, hu with
  | 0, hu =>
    simp only [encS, List.getElem?_cons_zero, Option.some.injEq] at hu
    subst hu
    have h1 : cs[i]? = some (.string s) := by rw [← Array.getElem?_toList, hc]; simp [hs]
    rw [show 0 + (i * 1 + 0) = i from by omega, (Blk.new w t cs).cell i]; exact h1
  | j + 1, hu => simp [encS] at hu
end

section
open Go.RowKit
attribute [local go_sem ↓] run_eql_ed run_neq_ed run_eql_lv run_neq_lv

set_option maxHeartbeats 400000 in
theorem strataStep (e : Ed) (w : World) :
    Calls Tryz.prog 148 #[.agg #[.string e.f, .string e.t, .bool e.n]] w fun r w' => r = .returned (.int .i64 (if e.n then 1 else 0)) ∧ Ch [] w w' := by
  cases hn : e.n
  all_goals
    go_enter Tryz.func148, Tryz.ntmps148
    go_wp2
    go_ret
    exact ⟨rfl, (Ch.refl _ _).alloc _⟩

end

section
open Go.RowKit
attribute [local go_sem ↓] run_eql_ed run_neq_ed run_eql_lv run_neq_lv

end
end Go.Proofs.YtlficnfkekggjaaGreatDoor
