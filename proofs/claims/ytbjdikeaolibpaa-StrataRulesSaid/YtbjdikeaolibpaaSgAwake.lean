/-
  The contract of law10's awake.
-/
import Derived.Test.YtbjdikeaolibpaaStrAwk
import Derived.Test.YtbjdikeaolibpaaStrSml
import Derived.Test.YtbjdikeaolibpaaStrCycW
import Derived.Test.YtbjdikeaolibpaaStrOrd
import Derived.Test.YtbjdikeaolibpaaStrVal
import Derived.Test.YtbjdikeaolibpaaStrPlain
import Derived.Test.YtbjdikeaolibpaaRead
namespace Go.Proofs.Ytbjdikeaolibpaa
open Go.RowKit

theorem sg_fit : Fit sgL := by
  refine ⟨by decide, fun r hr => ?_⟩
  simp only [sgL, List.mem_cons, List.not_mem_nil, or_false] at hr
  rcases hr with rfl | rfl <;> decide
theorem sg_nm : NmOk sgL := by
  intro r hr
  simp only [sgL, List.mem_cons, List.not_mem_nil, or_false] at hr
  rcases hr with rfl | rfl <;> refine ⟨by decide, fun x hx => ?_⟩ <;> simp only [List.mem_cons, List.not_mem_nil, or_false] at hx <;> subst hx <;> decide
theorem bd_fit : Fit bdL := by
  refine ⟨by decide, fun r hr => ?_⟩
  simp only [bdL, List.mem_cons, List.not_mem_nil, or_false] at hr
  rcases hr with rfl | rfl <;> decide
theorem bd_nm : NmOk bdL := by
  intro r hr
  simp only [bdL, List.mem_cons, List.not_mem_nil, or_false] at hr
  rcases hr with rfl | rfl <;> refine ⟨by decide, fun x hx => ?_⟩ <;> simp only [List.mem_cons, List.not_mem_nil, or_false] at hx <;> subst hx <;> decide
/-- a literal slice of levels -/
theorem SlL.mk_ (w : World) (t : TypeId) (cs : Array Value) (n : Nat) (xs : List Lv) (hc : cs.toList = (xs.map Lv.enc).flatten) (hn : n = xs.length) (hm : n ≤ maxLen) :
    SlL (fun b => b = w.heap.size) (w.alloc (.cells cs t)) (.slice (some ⟨w.heap.size, 0, none⟩) n n) xs := by
  subst hn
  refine ⟨some ⟨w.heap.size, 0, none⟩, xs.length, by rw [List.length_map], by rw [List.length_map]; exact Nat.le_refl _, hm, fun i c hi => ?_⟩
  have h2 : ∀ cs ∈ xs.map Lv.enc, cs.length = 2 := fun cs hcs => by
    obtain ⟨x, _, rfl⟩ := List.mem_map.1 hcs
    rfl
  have hmem := List.mem_of_getElem? hi
  refine ⟨⟨h2 c hmem, fun u hu => ?_⟩, w.heap.size, 0, rfl, ⟨rfl, by simp⟩, fun j u hu => ?_⟩
  · obtain ⟨x, _, rfl⟩ := List.mem_map.1 hmem
    simp only [Lv.enc, List.mem_cons, List.not_mem_nil, or_false] at hu
    rcases hu with rfl | rfl <;> rfl
  · rw [(Blk.new w t cs).cell, ← Array.getElem?_toList, hc, Nat.zero_add]
    exact flat_get _ 2 h2 i c j u hi hu
theorem lists_lit (w : World) : SlII (fun _ => True) (((w.alloc (.cells #[.int .i64 1] 3)).alloc (.cells #[.int .i64 0] 3)).alloc (.cells #[.slice none 0 0, .slice (some ⟨w.heap.size, 0, none⟩) 1 1, .slice (some ⟨w.heap.size + 1, 0, none⟩) 1 1] 73)) (.slice (some ⟨w.heap.size + 1 + 1, 0, none⟩) 3 3) [[], [1], [0]] := by
  refine ⟨[.slice none 0 0, .slice (some ⟨w.heap.size, 0, none⟩) 1 1, .slice (some ⟨w.heap.size + 1, 0, none⟩) 1 1], rfl, ?_, ?_⟩
  · refine ⟨some ⟨w.heap.size + 1 + 1, 0, none⟩, 3, rfl, Nat.le_refl _, by decide, fun i cs hi => ?_⟩
    have hnew := Blk.new ((w.alloc (.cells #[.int .i64 1] 3)).alloc (.cells #[.int .i64 0] 3)) 73 #[.slice none 0 0, .slice (some ⟨w.heap.size, 0, none⟩) 1 1, .slice (some ⟨w.heap.size + 1, 0, none⟩) 1 1]
    simp only [World.size_alloc] at hnew
    have key : ∀ (u : Value), (#[Value.slice none 0 0, .slice (some ⟨w.heap.size, 0, none⟩) 1 1, .slice (some ⟨w.heap.size + 1, 0, none⟩) 1 1] : Array Value)[i]? = some u → cs = [u] → (cs.length = 1 ∧ ∀ u ∈ cs, u.oneCell' = true) → _ := fun u hu hcs h1 => (⟨h1, w.heap.size + 1 + 1, 0, rfl, ⟨trivial, by simp⟩, fun j v hv => by
      subst hcs
      match j, hv with
      | 0, hv =>
        simp only [List.getElem?_cons_zero, Option.some.injEq] at hv
        subst hv
        rw [hnew.cell, Nat.mul_one, Nat.zero_add, Nat.add_zero]; exact hu
      | j + 1, hv => simp at hv⟩ : (cs.length = 1 ∧ ∀ u ∈ cs, u.oneCell' = true) ∧ ∃ b o, (some (⟨w.heap.size + 1 + 1, 0, none⟩ : Addr)) = some ⟨b, o, none⟩ ∧ (True ∧ b < (((w.alloc (.cells #[.int .i64 1] 3)).alloc (.cells #[.int .i64 0] 3)).alloc (.cells #[.slice none 0 0, .slice (some ⟨w.heap.size, 0, none⟩) 1 1, .slice (some ⟨w.heap.size + 1, 0, none⟩) 1 1] 73)).heap.size) ∧ ∀ j u, cs[j]? = some u → (((w.alloc (.cells #[.int .i64 1] 3)).alloc (.cells #[.int .i64 0] 3)).alloc (.cells #[.slice none 0 0, .slice (some ⟨w.heap.size, 0, none⟩) 1 1, .slice (some ⟨w.heap.size + 1, 0, none⟩) 1 1] 73)).cell? ⟨b, o + (i * 1 + j), none⟩ = some u)
    match i, hi with
    | 0, hi => simp at hi; exact key _ rfl hi.symm (by subst hi; exact ⟨rfl, by simp [Value.oneCell']⟩)
    | 1, hi => simp at hi; exact key _ rfl hi.symm (by subst hi; exact ⟨rfl, by simp [Value.oneCell']⟩)
    | 2, hi => simp at hi; exact key _ rfl hi.symm (by subst hi; exact ⟨rfl, by simp [Value.oneCell']⟩)
    | i + 3, hi => simp at hi
  · intro i u x hu hx
    match i, hu, hx with
    | 0, hu, hx =>
      simp at hu hx; subst hu hx
      exact Sl.nil _ _ _
    | 1, hu, hx =>
      simp at hu hx; subst hu hx
      have h1 : SlI (fun b => b = w.heap.size) (w.alloc (.cells #[.int .i64 1] 3)) (.slice (some ⟨w.heap.size, 0, none⟩) 1 1) [1] := Sl.one w 1 3 [.int .i64 1] rfl (by simp [Value.oneCell'])
      exact (h1.ch0 (((Ch.refl [] _).alloc _).alloc _)).weak (fun _ _ _ => trivial)
    | 2, hu, hx =>
      simp at hu hx; subst hu hx
      have h1 : SlI (fun b => b = w.heap.size + 1) ((w.alloc (.cells #[.int .i64 1] 3)).alloc (.cells #[.int .i64 0] 3)) (.slice (some ⟨w.heap.size + 1, 0, none⟩) 1 1) [0] := Sl.one_at (w.alloc (.cells #[.int .i64 1] 3)) 1 3 [.int .i64 0] rfl (by simp [Value.oneCell']) (w.heap.size + 1) (by simp)
      exact (h1.ch0 ((Ch.refl [] _).alloc _)).weak (fun _ _ _ => trivial)
    | i + 3, hu, hx => simp at hu

set_option maxRecDepth 100000 in
set_option maxHeartbeats 4000000 in
theorem law10awake (w : World) : Calls Try.prog 18 #[] w fun e w' => e = .returned (.bool true) ∧ Ch [] w w' := by
  have hrd := read_ sgS w sg_size
  rw [sg_read] at hrd
  have hrd2 := fun wz => read_ bdS wz bd_size
  rw [bd_read] at hrd2
  have hl1 := fun p v wz hz => strataLevels p v sgL wz hz sg_fit sg_nm
  have ho1 := fun p v wz hz => strataOrder p v sgL wz hz sg_fit sg_nm
  have hv1 := fun p q v u wz hz hy => strataValid p q v u sgL sgV wz hz hy sg_fit sg_nm
  have hl2 := fun p v wz hz => strataLevels p v bdL wz hz bd_fit bd_nm
  have hy1 := fun p v wz hz => strataCycle p v bdL wz hz bd_fit
  rw [sg_edges, sg_rels] at hl1 ho1 hv1
  rw [bd_edges, bd_rels] at hl2
  rw [bd_edges, bd_cyc] at hy1
  have hs1 : eqL sgV sgV = true := by simp [eqL]
  go_enter Try.func18, Try.ntmps18
  go_wp2_with (first
    | (go_at_call 55; refine hrd.mono ?_; rintro e w1 ⟨v1, rfl, h1, hB⟩; clear hrd)
    | (go_at_call 19; refine (hl1 _ _ _ h1).mono ?_; clear hl1; rintro e w2 ⟨v2, n2, o2, rfl, ha, hr, hc⟩; obtain rfl := ha.same sg_ans; clear ha; obtain ⟨h2, rfl⟩ := hr; replace hB := hB.trans hc; replace h1 := h1.ch0 hc; clear hc)
    | (go_at_call 24; refine (ho1 _ _ _ h1).mono ?_; clear ho1; rintro e w3 ⟨v3, n3, o3, rfl, ha, hr, hc⟩; obtain rfl := ha.same sg_ans; clear ha; obtain ⟨h3, rfl⟩ := hr; rw [sg_order] at h3; replace hB := hB.trans hc; replace h1 := h1.ch0 hc; replace h2 := h2.ch0 hc; clear hc)
    | (go_at_call 55; refine (hrd2 _).mono ?_; clear hrd2; rintro e w4 ⟨v4, rfl, h4, hc⟩; replace hB := hB.trans hc; replace h1 := h1.ch0 hc; replace h2 := h2.ch0 hc; replace h3 := h3.ch0 hc; clear hc)
    | (go_at_call 19; refine (hl2 _ _ _ h4).mono ?_; clear hl2; rintro e w5 ⟨v5, n5, o5, rfl, ha, hr, hc⟩; obtain rfl := ha.same bd_ans; clear ha; obtain ⟨rfl, rfl⟩ := hr; replace hB := hB.trans hc; replace h1 := h1.ch0 hc; replace h2 := h2.ch0 hc; replace h3 := h3.ch0 hc; replace h4 := h4.ch0 hc; clear hc)
    | (go_at_call 21; refine (law10same _ _ _ _ _ _ _ (h2.ch0 ((Ch.refl _ _).alloc _)) (SlL.mk_ w5 _ _ 3 sgV rfl rfl (by decide))).mono ?_; rintro e w6 ⟨rfl, hc⟩; replace hB := (hB.alloc _).trans hc; replace h1 := h1.ch0 (((Ch.refl _ _).alloc _).trans hc); replace h2 := h2.ch0 (((Ch.refl _ _).alloc _).trans hc); replace h3 := h3.ch0 (((Ch.refl _ _).alloc _).trans hc); replace h4 := h4.ch0 (((Ch.refl _ _).alloc _).trans hc); clear hc)
    | (go_at_call 26; refine (listsSame _ _ _ _ _ _ (h3.ch0 ((((Ch.refl _ _).alloc _).alloc _).alloc _)) (lists_lit w6)).mono ?_; rintro e w7 ⟨rfl, hc⟩; replace hc := ((((Ch.refl [] w6).alloc _).alloc _).alloc _).trans hc; replace hB := hB.trans hc; replace h1 := h1.ch0 hc; replace h2 := h2.ch0 hc; replace h4 := h4.ch0 hc; clear h3 hc)
    | (go_at_call 28; refine (hy1 _ _ _ h4).mono ?_; clear hy1; rintro e w8 ⟨v8, rfl, h8, hc⟩; replace hB := hB.trans hc; replace h1 := h1.ch0 hc; replace h2 := h2.ch0 hc; clear hc h4)
    | (go_at_call 27; refine (stringsSame _ _ _ _ _ _ (h8.ch0 ((Ch.refl _ _).alloc _)) (SlS.mk_ w8 _ _ 2 [bP, bQ] rfl rfl (by decide))).mono ?_; rintro e w9 ⟨rfl, hc⟩; replace hc := ((Ch.refl [] w8).alloc _).trans hc; replace hB := hB.trans hc; replace h1 := h1.ch0 hc; replace h2 := h2.ch0 hc; clear h8 hc)
    | (go_at_call 30; refine (hv1 _ _ _ _ _ h1 h2).mono ?_; clear hv1; rintro e w10 ⟨⟨b10, rfl, hb⟩, hc⟩; obtain rfl := hb.out.2 sg_valid; replace hB := hB.trans hc; replace h2 := h2.ch0 hc; clear hc h1 hb)
    | (go_at_call_of 22 ({ data := #[113] } : ByteArray); refine (strataOf _ _ sgV bQ _ h2).mono ?_; rintro e w11 ⟨rfl, hc⟩; rw [sg_ofQ]; replace hB := hB.trans hc; replace h2 := h2.ch0 hc; clear hc)
    | (go_at_call_of 22 ({ data := #[120] } : ByteArray); refine (strataOf _ _ sgV ⟨#[120]⟩ _ h2).mono ?_; rintro e w12 ⟨rfl, hc⟩; rw [sg_ofX]; replace hB := hB.trans hc; replace h2 := h2.ch0 hc; clear hc))
  go_ret
  exact ⟨rfl, hB⟩
end Go.Proofs.Ytbjdikeaolibpaa
