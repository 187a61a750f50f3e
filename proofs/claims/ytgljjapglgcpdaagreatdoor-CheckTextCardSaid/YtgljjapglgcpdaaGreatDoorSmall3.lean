
/-
  Contracts of the functions that compare two lists element by element. PRINTED BY wip/gen/small.py.
  Contracts of small functions: comparisons of lists, membership, look-ups in lists of levels.
  Contracts of small functions over lists of lists.
-/
import Derived.Test.YtgljjapglgcpdaaGreatDoorFacts
namespace Go.Proofs.YtgljjapglgcpdaaGreatDoor

section
open Go.RowKit
attribute [local go_sem ↓] run_eql_ed run_neq_ed run_eql_lv run_neq_lv

theorem SlS.mk_ (w : World) (t : TypeId) (cs : Array Value) (n : Nat) (xs : List ByteArray) (hc : cs.toList = xs.map Value.string) (hn : n = xs.length) (hm : n ≤ maxLen) :
    SlS (fun b => b = w.heap.size) (w.alloc (.cells cs t)) (.slice (some ⟨w.heap.size, 0, none⟩) n n) xs := by
  subst hn
  refine ⟨some ⟨w.heap.size, 0, none⟩, xs.length, by rw [List.length_map], by rw [List.length_map]; exact Nat.le_refl _, hm, fun i c hi => ?_⟩
  simp only [List.getElem?_map, Option.map_eq_some_iff] at hi
  obtain ⟨s, hs, rfl⟩ := hi
  refine ⟨⟨rfl, by simp [encS, Value.oneCell']⟩, w.heap.size, 0, rfl, ⟨rfl, by simp⟩, fun j u hu => ?_⟩
  match j, hu with
  | 0, hu =>
    simp only [encS, List.getElem?_cons_zero, Option.some.injEq] at hu
    subst hu
    have h1 : cs[i]? = some (.string s) := by rw [← Array.getElem?_toList, hc]; simp [hs]
    rw [show 0 + (i * 1 + 0) = i from by omega, (Blk.new w t cs).cell i]; exact h1
  | j + 1, hu => simp [encS] at hu
end

section
open Go.RowKit
attribute [local go_sem ↓] run_eql_ed run_neq_ed run_eql_lv run_neq_lv

set_option maxHeartbeats 400000 in
theorem strataStep (e : Ed) (w : World) :
    Calls Tryz.prog 61 #[.agg #[.string e.f, .string e.t, .bool e.n]] w fun r w' => r = .returned (.int .i64 (if e.n then 1 else 0)) ∧ Ch [] w w' := by
  cases hn : e.n
  all_goals
    go_enter Tryz.func61, Tryz.ntmps61
    go_wp2
    go_ret
    exact ⟨rfl, (Ch.refl _ _).alloc _⟩

end

section
open Go.RowKit
attribute [local go_sem ↓] run_eql_ed run_neq_ed run_eql_lv run_neq_lv

end
end Go.Proofs.YtgljjapglgcpdaaGreatDoor
