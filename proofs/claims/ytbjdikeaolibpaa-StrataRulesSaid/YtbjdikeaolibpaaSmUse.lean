/-
  The contract of plain.SmallRules: it ends; if it answers true the rules are few and small.
  plain.SmallRules as the laws use it; two lists of rules appended.
-/
import Derived.Test.YtbjdikeaolibpaaSmLight
import Derived.Test.YtbjdikeaolibpaaOpenR
import Derived.Test.YtbjdikeaolibpaaDeps
namespace Go.Proofs.Ytbjdikeaolibpaa

section
open Go.RowKit

def SmallR (r : Ru) : Prop := r.head.sz ≤ 20 ∧ r.body.length ≤ 8 ∧ ∀ x ∈ r.body, x.atom.sz ≤ 20
def SmallL (most : Nat) (l : List Ru) : Prop := l.length ≤ most ∧ ∀ r ∈ l, SmallR r
/-- what SmallRules answers -/
def SmR (most : Nat) (l : List Ru) (u : Value) : Prop := ∃ q, u = .bool q ∧ (q = true → SmallL most l)
theorem mem_take_succ {α : Type} {l : List α} {k : Nat} (h : k < l.length) {x : α} (hx : x ∈ l.take (k + 1)) : x ∈ l.take k ∨ x = l[k] := by
  rw [take_snoc l k h] at hx
  rcases List.mem_append.1 hx with h1 | h1
  · exact .inl h1
  · exact .inr (List.mem_singleton.1 h1)

set_option maxRecDepth 100000 in
set_option maxHeartbeats 4000000 in
theorem smallRules (B m : Nat) (hB1 : 5 ≤ B) (hB2 : B ≤ 140737488355328) (p : Nat → Prop) (v : Value) (l : List Ru) (w : World) (most : Nat) (h : SlR p w v l) (hN : ∀ r ∈ l, NiceR B m r) (hmost : most ≤ 150) :
    Calls Try.prog 17 #[v, .int .i64 most] w fun e w' => ∃ u, e = .returned u ∧ SmR most l u ∧ Ch [] w w' := by
  obtain ⟨a, c, rfl, hlc, hm⟩ := h.form
  unfold maxLen at hm
  have HN := Lib.hid hN; clear hN
  by_cases hle : most < l.length
  · go_enter Try.func17, Try.ntmps17
    go_wp2
    go_ret
    exact ⟨_, rfl, ⟨false, rfl, fun h => (nomatch h)⟩, Ch.refl _ _⟩
  · go_enter Try.func17, Try.ntmps17
    go_wp2
    go_loopw [13] (fun i wr => ∃ k : Nat, k ≤ l.length ∧ i = .int .i64 k ∧ Ch [] w wr ∧ Hid (∀ r ∈ l.take k, SmallR r)) (fun i _ => l.length - (intOf i).toNat)
    case atStart => exact ⟨0, Nat.zero_le _, rfl, Ch.refl _ _, by intro r hr; simp at hr⟩
    case round =>
      obtain ⟨k, hk, rfl, hB, HS⟩ := hrel
      obtain ⟨wq, rfl⟩ : ∃ wq : World, wq = wr := ⟨_, rfl⟩
      by_cases hlt : k < l.length
      · obtain ⟨b, o, a3, c3, a4, c4, rfl, hpb, k0, k1, k2, hT, hLi⟩ := (h.ch0 hB).at_ hlt
        have HNK := Lib.hid (HN.out _ (List.getElem_mem hlt))
        have HST : Hid (SmallR l[k] → ∀ r ∈ l.take (k + 1), SmallR r) := fun hs r hr => by
          rcases mem_take_succ hlt hr with h1 | h1
          · exact HS.out r h1
          · rw [h1]; exact hs
        generalize l[k] = r at *
        have hcall := small_ r.head p (.slice a3 r.head.args.length c3) wq 20 hT (by omega)
        by_cases hs1 : pParts 20 r.head 20 ≤ 20
        · rw [decide_eq_true hs1] at hcall
          have HS1 : Hid (r.head.sz ≤ 20) := by have := pParts_small 20 r.head 20 hs1; unfold Hid; omega
          clear hs1
          by_cases hs2 : r.body.length ≤ 8
          · go_wp2_with (go_at_call 53; refine hcall.mono ?_; rintro e w3 ⟨rfl, hc3⟩; clear hcall; have k0' := cell_ch k0 hc3 (by simp); have k1' := cell_ch k1 hc3 (by simp); have k2' := cell_ch k2 hc3 (by simp))
            go_loopw [38] (fun i wz => ∃ j : Nat, j ≤ r.body.length ∧ i = .int .i64 j ∧ Ch [] w3 wz ∧ Hid (∀ x ∈ r.body.take j, x.atom.sz ≤ 20)) (fun i _ => r.body.length - (intOf i).toNat)
            case atStart => exact ⟨0, Nat.zero_le _, rfl, Ch.refl _ _, by intro r hr; simp at hr⟩
            case round =>
              obtain ⟨j, hj, rfl, hcz, HX⟩ := hrel
              obtain ⟨wz, rfl⟩ : ∃ wz : World, wz = wr := ⟨_, rfl⟩
              by_cases hltj : j < r.body.length
              · obtain ⟨b', o', a5, c5, rfl, hpb', j0, j1, j2, hTj⟩ := (hLi.ch0 (hc3.trans hcz)).at_ hltj
                have m2 := cell_ch k2 (hc3.trans hcz) (by simp)
                have HXT : Hid (r.body[j].atom.sz ≤ 20 → ∀ x ∈ r.body.take (j + 1), x.atom.sz ≤ 20) := fun hs x hx => by
                  rcases mem_take_succ hltj hx with h1 | h1
                  · exact HX.out x h1
                  · rw [h1]; exact hs
                generalize r.body[j] = x at *
                have hcall := small_ x.atom p (.slice a5 x.atom.args.length c5) wz 20 hTj (by omega)
                by_cases hs3 : pParts 20 x.atom 20 ≤ 20
                · rw [decide_eq_true hs3] at hcall
                  have HS3 := Lib.hid (HXT.out (by have := pParts_small 20 x.atom 20 hs3; omega)); clear hs3
                  go_wp2_with (go_at_call 53; refine hcall.mono ?_; rintro e w4 ⟨rfl, hc4⟩; clear hcall)
                  go_roundw
                  case rel => exact ⟨j + 1, by omega, by go_num, hcz.trans hc4, HS3⟩
                  case measure => simp [intOf]; omega
                · rw [decide_eq_false hs3] at hcall
                  clear hs3
                  go_wp2_with (go_at_call 53; refine hcall.mono ?_; rintro e w4 ⟨rfl, hc4⟩; clear hcall)
                  go_ret
                  exact ⟨_, rfl, ⟨false, rfl, fun h => (nomatch h)⟩, ((hB.trans hc3).trans hcz).trans hc4⟩
              · have hjl : r.body.take j = r.body := List.take_of_length_le (by omega)
                have HR : Hid (SmallR r) := ⟨HS1.out, hs2, by have h2 := HX.out; rwa [hjl] at h2⟩
                go_wp2
                go_roundw
                case rel => exact ⟨k + 1, by omega, by go_num, (hB.trans hc3).trans hcz, Lib.hid (HST.out HR.out)⟩
                case measure => simp [intOf]; omega
          · go_wp2_with (go_at_call 53; refine hcall.mono ?_; rintro e w3 ⟨rfl, hc3⟩; clear hcall; have k0' := cell_ch k0 hc3 (by simp); have k1' := cell_ch k1 hc3 (by simp); have k2' := cell_ch k2 hc3 (by simp))
            go_ret
            exact ⟨_, rfl, ⟨false, rfl, fun h => (nomatch h)⟩, hB.trans hc3⟩
        · rw [decide_eq_false hs1] at hcall
          clear hs1
          go_wp2_with (go_at_call 53; refine hcall.mono ?_; rintro e w3 ⟨rfl, hc3⟩; clear hcall)
          go_ret
          exact ⟨_, rfl, ⟨false, rfl, fun h => (nomatch h)⟩, hB.trans hc3⟩
      · have hS : ∀ r ∈ l, SmallR r := by
          have h1 := HS.out
          rwa [List.take_of_length_le (by omega)] at h1
        have hL : SmallL most l := ⟨by omega, hS⟩
        have hcall := light_ B hB1 hB2 p (.slice a l.length c) l wq (h.ch0 hB) (by omega) (fun r hr => by
          obtain ⟨h1, h2, h3⟩ := hS r hr
          exact ⟨by omega, h1, nice_of_sz B m 19 _ (HN.out r hr).1 (by omega), fun x hx => by have := h3 x hx; omega⟩)
        have HL := Lib.hid hL; clear hL hS
        go_wp2_with (go_at_call 54; refine hcall.mono ?_; rintro e w3 ⟨u, rfl, ⟨q, rfl⟩, hc3⟩; clear hcall)
        go_ret
        exact ⟨_, rfl, ⟨q, rfl, fun _ => HL.out⟩, hB.trans hc3⟩
end

section
open Go.RowKit

theorem fit_of {n : Nat} {l : List Ru} (h : SmallL n l) (hn : n ≤ 150) : Fit l := ⟨by have := h.1; omega, fun r hr => by have := (h.2 r hr).2.1; omega⟩
theorem nm_of {l : List Ru} (h : ∀ r ∈ l, NiceR reachBytes maxLen r) : NmOk l := fun r hr => by
  have hb : reachBytes ≤ maxLen := by decide
  obtain ⟨h1, h2⟩ := h r hr
  refine ⟨?_, fun x hx => ?_⟩
  · obtain ⟨⟨nm, ags⟩, bd⟩ := r
    simp only [Nice, Tm.name] at h1 ⊢
    omega
  · have h3 := h2 x hx
    obtain ⟨nt, ⟨nm, ags⟩⟩ := x
    simp only [Nice, Tm.name] at h3 ⊢
    omega
theorem small2 (n : Nat) (hn : n ≤ 150) (p : Nat → Prop) (v : Value) (l : List Ru) (w : World) (h : SlR p w v l) (hN : ∀ r ∈ l, NiceR reachBytes maxLen r) :
    Calls Try.prog 17 #[v, .int .i64 n] w fun e w' => (e = .returned (.bool false) ∧ Ch [] w w') ∨ (e = .returned (.bool true) ∧ Hid (SmallL n l) ∧ Ch [] w w') :=
  (smallRules reachBytes maxLen (by decide) (by decide) p v l w n h hN hn).mono fun e w' ⟨u, he, ⟨q, hq, hs⟩, hc⟩ => by
    subst hq
    cases q with
    | false => exact .inl ⟨he, hc⟩
    | true => exact .inr ⟨he, hs rfl, hc⟩
/-- rules whose elements stand for themselves -/
def RowR (w : World) (css : List (List Value)) (l : List Ru) : Prop := css.length = l.length ∧ ∀ (i : Nat) (cs : List Value) (x : Ru), css[i]? = some cs → l[i]? = some x → RuR (fun _ => True) w x cs
theorem RowR.ch0 {w w' : World} {css : List (List Value)} {l : List Ru} (h : RowR w css l) (hc : Ch [] w w') : RowR w' css l :=
  ⟨h.1, fun i cs x h1 h2 => RuR.imp hc.size (fun b hb hp => ⟨hp, hc.block b hb (by simp)⟩) (h.2 i cs x h1 h2)⟩
theorem SlR.row {p : Nat → Prop} {w : World} {v : Value} {l : List Ru} (h : SlR p w v l) : ∃ css, Sl p w 3 v css ∧ RowR w css l := by
  obtain ⟨css, h1, h2, h3⟩ := h
  exact ⟨css, h1, h2, fun i cs x h4 h5 => RuR.imp (Nat.le_refl _) (fun b _ _ => ⟨trivial, rfl⟩) (h3 i cs x h4 h5)⟩
theorem RowR.app {w : World} {c1 c2 : List (List Value)} {l m : List Ru} (h1 : RowR w c1 l) (h2 : RowR w c2 m) : RowR w (c1 ++ c2) (l ++ m) := by
  refine ⟨by simp [h1.1, h2.1], fun i cs x h3 h4 => ?_⟩
  have hl := h1.1
  rcases Nat.lt_or_ge i c1.length with hi | hi
  · rw [List.getElem?_append_left hi] at h3
    rw [List.getElem?_append_left (by omega)] at h4
    exact h1.2 i cs x h3 h4
  · rw [List.getElem?_append_right hi] at h3
    rw [List.getElem?_append_right (by omega), ← hl] at h4
    exact h2.2 _ cs x h3 h4
theorem RowR.sl {w : World} {base : Nat} {e : TypeId} {v : Value} {css : List (List Value)} {l : List Ru} (h : RowR w css l) (ho : Own w base e 3 v css) : SlR (fun _ => True) w v l :=
  ⟨css, ho.sl.weak (fun _ _ _ => trivial), h.1, h.2⟩
end
end Go.Proofs.Ytbjdikeaolibpaa
