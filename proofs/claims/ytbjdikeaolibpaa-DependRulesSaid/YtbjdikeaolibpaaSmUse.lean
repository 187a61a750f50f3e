/-
  plain.SmallRules as the laws use it; two lists of rules appended.
-/
import Derived.Test.YtbjdikeaolibpaaSmRules
import Derived.Test.YtbjdikeaolibpaaDeps
namespace Go.Proofs.Ytbjdikeaolibpaa
open Go.RowKit

theorem fit_of {n : Nat} {l : List Ru} (h : SmallL n l) (hn : n ≤ 150) : Fit l := ⟨by have := h.1; omega, fun r hr => by have := (h.2 r hr).2.1; omega⟩
theorem nm_of {l : List Ru} (h : ∀ r ∈ l, NiceR reachBytes maxLen r) : NmOk l := fun r hr => by
  have hb : reachBytes ≤ maxLen := by decide
  obtain ⟨h1, h2⟩ := h r hr
  refine ⟨?_, fun x hx => ?_⟩
  · obtain ⟨⟨nm, ags⟩, bd⟩ := r
    simp only [Nice, Tm.name] at h1 ⊢
    omega
  · have h3 := h2 x hx
    obtain ⟨nt, ⟨nm, ags⟩⟩ := x
    simp only [Nice, Tm.name] at h3 ⊢
    omega
theorem small2 (n : Nat) (hn : n ≤ 150) (p : Nat → Prop) (v : Value) (l : List Ru) (w : World) (h : SlR p w v l) (hN : ∀ r ∈ l, NiceR reachBytes maxLen r) :
    Calls Try.prog 17 #[v, .int .i64 n] w fun e w' => (e = .returned (.bool false) ∧ Ch [] w w') ∨ (e = .returned (.bool true) ∧ Hid (SmallL n l) ∧ Ch [] w w') :=
  (smallRules reachBytes maxLen (by decide) (by decide) p v l w n h hN hn).mono fun e w' ⟨u, he, ⟨q, hq, hs⟩, hc⟩ => by
    subst hq
    cases q with
    | false => exact .inl ⟨he, hc⟩
    | true => exact .inr ⟨he, hs rfl, hc⟩
/-- rules whose elements stand for themselves -/
def RowR (w : World) (css : List (List Value)) (l : List Ru) : Prop := css.length = l.length ∧ ∀ (i : Nat) (cs : List Value) (x : Ru), css[i]? = some cs → l[i]? = some x → RuR (fun _ => True) w x cs
theorem RowR.ch0 {w w' : World} {css : List (List Value)} {l : List Ru} (h : RowR w css l) (hc : Ch [] w w') : RowR w' css l :=
  ⟨h.1, fun i cs x h1 h2 => RuR.imp hc.size (fun b hb hp => ⟨hp, hc.block b hb (by simp)⟩) (h.2 i cs x h1 h2)⟩
theorem SlR.row {p : Nat → Prop} {w : World} {v : Value} {l : List Ru} (h : SlR p w v l) : ∃ css, Sl p w 3 v css ∧ RowR w css l := by
  obtain ⟨css, h1, h2, h3⟩ := h
  exact ⟨css, h1, h2, fun i cs x h4 h5 => RuR.imp (Nat.le_refl _) (fun b _ _ => ⟨trivial, rfl⟩) (h3 i cs x h4 h5)⟩
theorem RowR.app {w : World} {c1 c2 : List (List Value)} {l m : List Ru} (h1 : RowR w c1 l) (h2 : RowR w c2 m) : RowR w (c1 ++ c2) (l ++ m) := by
  refine ⟨by simp [h1.1, h2.1], fun i cs x h3 h4 => ?_⟩
  have hl := h1.1
  rcases Nat.lt_or_ge i c1.length with hi | hi
  · rw [List.getElem?_append_left hi] at h3
    rw [List.getElem?_append_left (by omega)] at h4
    exact h1.2 i cs x h3 h4
  · rw [List.getElem?_append_right hi] at h3
    rw [List.getElem?_append_right (by omega), ← hl] at h4
    exact h2.2 _ cs x h3 h4
theorem RowR.sl {w : World} {base : Nat} {e : TypeId} {v : Value} {css : List (List Value)} {l : List Ru} (h : RowR w css l) (ho : Own w base e 3 v css) : SlR (fun _ => True) w v l :=
  ⟨css, ho.sl.weak (fun _ _ _ => trivial), h.1, h.2⟩
end Go.Proofs.Ytbjdikeaolibpaa
