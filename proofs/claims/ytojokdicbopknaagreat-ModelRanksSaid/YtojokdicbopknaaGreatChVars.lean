
/-
  The contracts of term.Depth and of the reference's Depth.
  The contract of term.leaves.
  The contracts of slices.Index, slices.Contains at strings and of term.Vars.
-/
import Derived.Test.YtojokdicbopknaaGreatSmParts
import Derived.Test.YtojokdicbopknaaGreatChPlain
import Derived.Test.YtojokdicbopknaaGreatFacts
import Derived.Test.YtojokdicbopknaaGreatMaps
import Derived.Test.YtojokdicbopknaaGreatChNames
import Derived.Test.YtojokdicbopknaaGreatSmall3
namespace Go.Proofs.YtojokdicbopknaaGreat

section
open Go.RowKit

end

section
open Go.RowKit

theorem lvsT_nil (nm : ByteArray) : lvsT (.mk nm []) = [nm] := by simp [lvsT]
theorem lvsT_cons {nm : ByteArray} {ags : List Tm} (h : ags ≠ []) : lvsT (.mk nm ags) = lvsL ags := by
  cases ags with
  | nil => exact absurd rfl h
  | cons a r => simp [lvsT]
theorem lvsL_snoc (ts : List Tm) (k : Nat) (h : k < ts.length) : lvsL (ts.take (k + 1)) = lvsL (ts.take k) ++ lvsT ts[k] := by
  rw [take_snoc ts k h, lvsL_append]; simp [lvsL]
theorem lvsL_le (ts : List Tm) (k : Nat) (h : k < ts.length) : (lvsL (ts.take k)).length + (lvsT ts[k]).length ≤ (lvsL ts).length := by
  have h1 := lvsL_snoc ts k h
  have h2 : lvsL ts = lvsL (ts.take (k + 1)) ++ lvsL (ts.drop (k + 1)) := by rw [← lvsL_append, List.take_append_drop]
  rw [h2, h1]; simp
theorem SlT.small {p : Nat → Prop} {w : World} {v : Value} {ts : List Tm} (h : SlT p w v ts) : SlT (fun b => p b ∧ b < w.heap.size) w v ts := h.weak fun _ hb hp => ⟨hp, hb⟩

end

section
open Go.RowKit

theorem varsL_snoc (ts : List Tm) (k : Nat) (h : k < ts.length) : varsL (ts.take (k + 1)) = (lvsT ts[k]).foldl addV (varsL (ts.take k)) := by
  unfold varsL; rw [lvsL_snoc ts k h, List.foldl_append]
theorem addV_snoc (L o : List ByteArray) (j : Nat) (h : j < L.length) : (L.take (j + 1)).foldl addV o = addV ((L.take j).foldl addV o) L[j] := by
  rw [take_snoc L j h, List.foldl_append]; rfl
theorem addV_len : ∀ (L o : List ByteArray), (L.foldl addV o).length ≤ o.length + L.length
  | [], o => by simp
  | x :: r, o => by
    simp only [List.foldl_cons, List.length_cons]
    have := addV_len r (addV o x)
    have h2 : (addV o x).length ≤ o.length + 1 := by unfold addV; split <;> simp
    omega
theorem lvsL_mem {ts : List Tm} {k : Nat} (h : k < ts.length) {s : ByteArray} (hs : s ∈ lvsT ts[k]) : s ∈ lvsL ts := by
  have h2 : lvsL ts = lvsL (ts.take (k + 1)) ++ lvsL (ts.drop (k + 1)) := by rw [← lvsL_append, List.take_append_drop]
  rw [h2, lvsL_snoc ts k h]; simp [hs]

end
end Go.Proofs.YtojokdicbopknaaGreat
