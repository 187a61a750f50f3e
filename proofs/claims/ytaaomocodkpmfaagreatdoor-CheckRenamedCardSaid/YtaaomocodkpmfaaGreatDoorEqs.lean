
/-
  Contracts of the functions that compare two lists element by element. PRINTED BY wip/gen/small.py.
-/
import Derived.Test.YtaaomocodkpmfaaGreatDoorFacts
namespace Go.Proofs.YtaaomocodkpmfaaGreatDoor
open Go.RowKit
attribute [local go_sem ↓] run_eql_ed run_neq_ed run_eql_lv run_neq_lv

theorem SlS.mk_ (w : World) (t : TypeId) (cs : Array Value) (n : Nat) (xs : List ByteArray) (hc : cs.toList = xs.map Value.string) (hn : n = xs.length) (hm : n ≤ maxLen) :
    SlS (fun b => b = w.heap.size) (w.alloc (.cells cs t)) (.slice (some ⟨w.heap.size, 0, none⟩) n n) xs := by
  subst hn
  refine ⟨some ⟨w.heap.size, 0, none⟩, xs.length, by rw [List.length_map], by rw [List.length_map]; exact Nat.le_refl _, hm, fun i c hi => ?_⟩
  simp only [List.getElem?_map, Option.map_eq_some_iff] at hi
  obtain ⟨s, hs, rfl⟩ := hi
  refine ⟨⟨rfl, by simp [encS, Value.oneCell']⟩, w.heap.size, 0, rfl, ⟨rfl, by simp⟩, fun j u hu => ?_⟩
  match j, hu with
  | 0, hu =>
    simp only [encS, List.getElem?_cons_zero, Option.some.injEq] at hu
    subst hu
    have h1 : cs[i]? = some (.string s) := by rw [← Array.getElem?_toList, hc]; simp [hs]
    rw [show 0 + (i * 1 + 0) = i from by omega, (Blk.new w t cs).cell i]; exact h1
  | j + 1, hu => simp [encS] at hu
end Go.Proofs.YtaaomocodkpmfaaGreatDoor
