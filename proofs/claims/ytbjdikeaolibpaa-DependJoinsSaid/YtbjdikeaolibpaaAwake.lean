/-
  The contract of law09's awake.
-/
import Derived.Test.YtbjdikeaolibpaaRead
import Derived.Test.YtbjdikeaolibpaaGroups
import Derived.Test.YtbjdikeaolibpaaEdSort
import Derived.Test.YtbjdikeaolibpaaSmall3
import Derived.Test.YtbjdikeaolibpaaAwk
namespace Go.Proofs.Ytbjdikeaolibpaa
open Go.RowKit
attribute [local go_sem ↓] run_eql_ed run_neq_ed run_eql_lv run_neq_lv

theorem awk_fit : Fit awkL := by
  refine ⟨by decide, fun r hr => ?_⟩
  simp only [awkL, List.mem_cons, List.not_mem_nil, or_false] at hr
  rcases hr with rfl | rfl | rfl <;> decide
theorem awk_nm : NmOk awkL := by
  intro r hr
  simp only [awkL, List.mem_cons, List.not_mem_nil, or_false] at hr
  rcases hr with rfl | rfl | rfl <;> refine ⟨by decide, fun x hx => ?_⟩ <;> simp only [List.mem_cons, List.not_mem_nil, or_false] at hx
  · rcases hx with rfl | rfl <;> decide
  · subst hx; decide
  · subst hx; decide
theorem awk_ok : EdOk awkE := by
  intro e he
  simp only [awkE, List.mem_cons, List.not_mem_nil, or_false] at he
  rcases he with rfl | rfl | rfl <;> decide

set_option maxRecDepth 100000 in
set_option maxHeartbeats 4000000 in
theorem law09awake (w : World) : Calls Try.prog 36 #[] w fun e w' => e = .returned (.bool true) ∧ Ch [] w w' := by
  have hrd := read_ awkS w awk_size
  rw [awk_read] at hrd
  have hed := fun p v wz hz => depEdges p v awkL wz hz awk_fit
  rw [awk_edges] at hed
  have hrel := fun p v wz hz => depRelations p v awkL wz hz awk_fit awk_nm
  rw [awk_rels] at hrel
  have hhd := fun p v wz hz => depHeads p v awkL wz hz awk_fit awk_nm
  rw [awk_heads] at hhd
  have hrp := fun p v wz hz => depReach p v awkE bP wz hz (by decide) awk_ok
  rw [awk_reachP] at hrp
  have hcq := fun p v wz hz => depRecursive p v awkE bQ wz hz (by decide)
  rw [awk_reachQ] at hcq
  have hcr := fun p v wz hz => depRecursive p v awkE bR wz hz (by decide)
  rw [awk_reachR] at hcr
  have hgr := fun p q v vn wz hz hn => depGroups p q v vn awkE [bP, bQ, bR] wz hz hn (by decide) (by decide)
  rw [awk_groups] at hgr
  have hq1 : hasS [bP, bQ, bR] bQ = true := by kernel_rfl
  have hq2 : hasS ([] : List ByteArray) bR = false := by kernel_rfl
  rw [hq1] at hcq
  rw [hq2] at hcr
  have hE : edB { data := #[112] } { data := #[114] } true { data := #[112] } { data := #[114] } true = true := by kernel_rfl
  go_enter Try.func36, Try.ntmps36
  go_wp2_with (first
    | (go_at_call 55; refine hrd.mono ?_; rintro e w1 ⟨v1, rfl, h1, hB⟩; clear hrd)
    | (go_at_call 42; refine (hed _ _ _ h1).mono ?_; rintro e w2 ⟨v2, rfl, h2, hc⟩; clear hed; replace hB := hB.trans hc; replace h1 := h1.ch0 hc; clear hc; obtain ⟨a2, c2, rfl, hl2, hm2⟩ : ∃ a c, v2 = .slice a 3 c ∧ 3 ≤ c ∧ c ≤ maxLen := h2.form; obtain ⟨b2, o2, rfl, hp2, k0, k1, k2⟩ := h2.at_ (i := 1) (by decide); clear k0 k1 k2 hp2)
    | (go_at_call 47; refine (hgr _ _ _ _ _ (h2.ch0 ((Ch.refl _ _).alloc _)) (SlS.mk_ w2 _ _ 3 [bP, bQ, bR] rfl rfl (by decide))).mono ?_; rintro e w3 ⟨v3, rfl, h3, hc⟩; clear hgr; replace hB := (hB.alloc _).trans hc; replace h1 := h1.ch0 (((Ch.refl _ _).alloc _).trans hc); replace h2 := h2.ch0 (((Ch.refl _ _).alloc _).trans hc); clear hc; obtain ⟨a3, c3, rfl, hl3, hm3⟩ : ∃ a c, v3 = .slice a 2 c ∧ 2 ≤ c ∧ c ≤ maxLen := h3.form; obtain ⟨b3, o3, a4, c4, rfl, hp3, q0, q1⟩ := SlSS.at_ h3 (i := 0) (by decide); clear q0 q1 hp3)
    | (go_at_call 37; refine (hrel _ _ _ h1).mono ?_; rintro e w4 ⟨v4, rfl, h4, hc⟩; clear hrel; replace hB := hB.trans hc; replace h1 := h1.ch0 hc; replace h2 := h2.ch0 hc; replace h3 := h3.ch0 hc; clear hc)
    | (go_at_call 27; refine (stringsSame _ _ _ _ _ _ (h4.ch0 ((Ch.refl _ _).alloc _)) (SlS.mk_ w4 _ _ 3 [bP, bQ, bR] rfl rfl (by decide))).mono ?_; rintro e w5 ⟨rfl, hc⟩; clear h4; replace hB := (hB.alloc _).trans hc; replace h1 := h1.ch0 (((Ch.refl _ _).alloc _).trans hc); replace h2 := h2.ch0 (((Ch.refl _ _).alloc _).trans hc); replace h3 := h3.ch0 (((Ch.refl _ _).alloc _).trans hc); clear hc)
    | (go_at_call 39; refine (hhd _ _ _ h1).mono ?_; rintro e w6 ⟨v6, rfl, h6, hc⟩; clear hhd; replace hB := hB.trans hc; replace h1 := h1.ch0 hc; replace h2 := h2.ch0 hc; replace h3 := h3.ch0 hc; clear hc)
    | (go_at_call 27; refine (stringsSame _ _ _ _ _ _ (h6.ch0 ((Ch.refl _ _).alloc _)) (SlS.mk_ w6 _ _ 2 [bP, bQ] rfl rfl (by decide))).mono ?_; rintro e w7 ⟨rfl, hc⟩; clear h6; replace hB := (hB.alloc _).trans hc; replace h1 := h1.ch0 (((Ch.refl _ _).alloc _).trans hc); replace h2 := h2.ch0 (((Ch.refl _ _).alloc _).trans hc); replace h3 := h3.ch0 (((Ch.refl _ _).alloc _).trans hc); obtain ⟨b2', o2', e2, hp2, k0, k1, k2⟩ := h2.at_ (i := 1) (by decide); injection e2 with e2; injection e2 with e2 e3; subst e2 e3; replace k0 : _ = some (Value.string ⟨#[112]⟩) := k0; replace k1 : _ = some (Value.string ⟨#[114]⟩) := k1; replace k2 : _ = some (Value.bool true) := k2; simp only [Nat.one_mul] at k0 k1 k2; clear hc)
    | (go_at_call 43; refine (hrp _ _ _ h2).mono ?_; rintro e w8 ⟨v8, rfl, h8, hc⟩; clear hrp; replace hB := hB.trans hc; replace h1 := h1.ch0 hc; replace h2 := h2.ch0 hc; replace h3 := h3.ch0 hc; clear hc)
    | (go_at_call 27; refine (stringsSame _ _ _ _ _ _ (h8.ch0 ((Ch.refl _ _).alloc _)) (SlS.mk_ w8 _ _ 3 [bP, bQ, bR] rfl rfl (by decide))).mono ?_; rintro e w9 ⟨rfl, hc⟩; clear h8; replace hB := (hB.alloc _).trans hc; replace h1 := h1.ch0 (((Ch.refl _ _).alloc _).trans hc); replace h2 := h2.ch0 (((Ch.refl _ _).alloc _).trans hc); replace h3 := h3.ch0 (((Ch.refl _ _).alloc _).trans hc); clear hc)
    | (go_at_call_of 45 ({ data := #[113] } : ByteArray); refine (hcq _ _ _ h2).mono ?_; rintro e w10 ⟨rfl, hc⟩; clear hcq; replace hB := hB.trans hc; replace h1 := h1.ch0 hc; replace h2 := h2.ch0 hc; replace h3 := h3.ch0 hc; clear hc)
    | (go_at_call_of 45 ({ data := #[114] } : ByteArray); refine (hcr _ _ _ h2).mono ?_; rintro e w11 ⟨rfl, hc⟩; clear hcr; replace hB := hB.trans hc; replace h1 := h1.ch0 hc; replace h2 := h2.ch0 hc; replace h3 := h3.ch0 hc; obtain ⟨b3', o3', a5, c5, e4, hp5, g0, hg0⟩ := SlSS.at_ h3 (i := 0) (by decide); injection e4 with e4; injection e4 with e4 e5; subst e4 e5; replace g0 : _ = some (Value.slice a5 1 c5) := g0; simp only [Nat.add_zero] at g0; clear hc)
    | (go_at_call 27; refine (stringsSame _ _ _ _ _ _ (hg0.ch0 ((Ch.refl _ _).alloc _)) (SlS.mk_ w11 _ _ 1 [bR] rfl rfl (by decide))).mono ?_; rintro e w12 ⟨rfl, hc⟩; clear hg0; replace hB := (hB.alloc _).trans hc; replace h1 := h1.ch0 (((Ch.refl _ _).alloc _).trans hc); replace h2 := h2.ch0 (((Ch.refl _ _).alloc _).trans hc); replace h3 := h3.ch0 (((Ch.refl _ _).alloc _).trans hc); obtain ⟨b3', o3', a6, c6, e4, hp6, g1, hg1⟩ := SlSS.at_ h3 (i := 1) (by decide); injection e4 with e4; injection e4 with e4 e5; subst e4 e5; replace g1 : _ = some (Value.slice a6 2 c6) := g1; clear hc)
    | (go_at_call 27; refine (stringsSame _ _ _ _ _ _ (hg1.ch0 ((Ch.refl _ _).alloc _)) (SlS.mk_ w12 _ _ 2 [bP, bQ] rfl rfl (by decide))).mono ?_; rintro e w13 ⟨rfl, hc⟩; clear hg1; replace hB := (hB.alloc _).trans hc; replace h1 := h1.ch0 (((Ch.refl _ _).alloc _).trans hc); replace h2 := h2.ch0 (((Ch.refl _ _).alloc _).trans hc); replace h3 := h3.ch0 (((Ch.refl _ _).alloc _).trans hc); clear hc))
  go_ret
  exact ⟨rfl, hB⟩
end Go.Proofs.Ytbjdikeaolibpaa
