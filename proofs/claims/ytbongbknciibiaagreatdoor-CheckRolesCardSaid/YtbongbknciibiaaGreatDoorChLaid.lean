
/-
  The contract of the reference's Keyword (PRINTED BY wip/gen/refkw.py).
  The package's variable check.keywords, as the rows of this chapter list it: what the walks take of it; that a start meets it. And law11.CheckKeywords.
-/
import Derived.Test.YtbongbknciibiaaGreatDoorChFind
import Derived.Test.YtbongbknciibiaaGreatDoorRows
import Derived.Test.YtbongbknciibiaaGreatDoorChAwake
import Derived.Test.YtbongbknciibiaaGreatDoorOpen
import Derived.ProofKit
import Derived.LaidMore
import Derived.OpenShut
import Derived.Stop.Joined
namespace Go.Proofs.YtbongbknciibiaaGreatDoor

section
open Go.RowKit

theorem kwe_role (s : ByteArray) : (s.toList == [114, 111, 108, 101]) = decide (s = ⟨#[114, 111, 108, 101]⟩) := by
  have : (⟨#[114, 111, 108, 101]⟩ : ByteArray).toList = [114, 111, 108, 101] := by rw [ByteArray.toList_eq]
  have h := beqS s ⟨#[114, 111, 108, 101]⟩
  rw [this] at h
  exact h
theorem kwe_init (s : ByteArray) : (s.toList == [105, 110, 105, 116]) = decide (s = ⟨#[105, 110, 105, 116]⟩) := by
  have : (⟨#[105, 110, 105, 116]⟩ : ByteArray).toList = [105, 110, 105, 116] := by rw [ByteArray.toList_eq]
  have h := beqS s ⟨#[105, 110, 105, 116]⟩
  rw [this] at h
  exact h
theorem kwe_true (s : ByteArray) : (s.toList == [116, 114, 117, 101]) = decide (s = ⟨#[116, 114, 117, 101]⟩) := by
  have : (⟨#[116, 114, 117, 101]⟩ : ByteArray).toList = [116, 114, 117, 101] := by rw [ByteArray.toList_eq]
  have h := beqS s ⟨#[116, 114, 117, 101]⟩
  rw [this] at h
  exact h
theorem kwe_does (s : ByteArray) : (s.toList == [100, 111, 101, 115]) = decide (s = ⟨#[100, 111, 101, 115]⟩) := by
  have : (⟨#[100, 111, 101, 115]⟩ : ByteArray).toList = [100, 111, 101, 115] := by rw [ByteArray.toList_eq]
  have h := beqS s ⟨#[100, 111, 101, 115]⟩
  rw [this] at h
  exact h
theorem kwe_legal (s : ByteArray) : (s.toList == [108, 101, 103, 97, 108]) = decide (s = ⟨#[108, 101, 103, 97, 108]⟩) := by
  have : (⟨#[108, 101, 103, 97, 108]⟩ : ByteArray).toList = [108, 101, 103, 97, 108] := by rw [ByteArray.toList_eq]
  have h := beqS s ⟨#[108, 101, 103, 97, 108]⟩
  rw [this] at h
  exact h
theorem kwe_next (s : ByteArray) : (s.toList == [110, 101, 120, 116]) = decide (s = ⟨#[110, 101, 120, 116]⟩) := by
  have : (⟨#[110, 101, 120, 116]⟩ : ByteArray).toList = [110, 101, 120, 116] := by rw [ByteArray.toList_eq]
  have h := beqS s ⟨#[110, 101, 120, 116]⟩
  rw [this] at h
  exact h
theorem kwe_terminal (s : ByteArray) : (s.toList == [116, 101, 114, 109, 105, 110, 97, 108]) = decide (s = ⟨#[116, 101, 114, 109, 105, 110, 97, 108]⟩) := by
  have : (⟨#[116, 101, 114, 109, 105, 110, 97, 108]⟩ : ByteArray).toList = [116, 101, 114, 109, 105, 110, 97, 108] := by rw [ByteArray.toList_eq]
  have h := beqS s ⟨#[116, 101, 114, 109, 105, 110, 97, 108]⟩
  rw [this] at h
  exact h
theorem kwe_goal (s : ByteArray) : (s.toList == [103, 111, 97, 108]) = decide (s = ⟨#[103, 111, 97, 108]⟩) := by
  have : (⟨#[103, 111, 97, 108]⟩ : ByteArray).toList = [103, 111, 97, 108] := by rw [ByteArray.toList_eq]
  have h := beqS s ⟨#[103, 111, 97, 108]⟩
  rw [this] at h
  exact h
theorem kwe_sees (s : ByteArray) : (s.toList == [115, 101, 101, 115]) = decide (s = ⟨#[115, 101, 101, 115]⟩) := by
  have : (⟨#[115, 101, 101, 115]⟩ : ByteArray).toList = [115, 101, 101, 115] := by rw [ByteArray.toList_eq]
  have h := beqS s ⟨#[115, 101, 101, 115]⟩
  rw [this] at h
  exact h
theorem kwe_distinct (s : ByteArray) : (s.toList == [100, 105, 115, 116, 105, 110, 99, 116]) = decide (s = ⟨#[100, 105, 115, 116, 105, 110, 99, 116]⟩) := by
  have : (⟨#[100, 105, 115, 116, 105, 110, 99, 116]⟩ : ByteArray).toList = [100, 105, 115, 116, 105, 110, 99, 116] := by rw [ByteArray.toList_eq]
  have h := beqS s ⟨#[100, 105, 115, 116, 105, 110, 99, 116]⟩
  rw [this] at h
  exact h

set_option maxRecDepth 100000 in
set_option maxHeartbeats 4000000 in
theorem ref11Keyword (s : ByteArray) (w : World) :
    Calls Tryz.prog 10 #[.string s] w fun e w' => e = .returned (.tuple #[.int .i64 (kwA (kwOf s)), .bool (kwOf s).isSome]) ∧ w = w' := by
  have e_terminal := kwe_terminal s
  have e_role := kwe_role s
  have e_init := kwe_init s
  have e_true := kwe_true s
  have e_next := kwe_next s
  have e_does := kwe_does s
  have e_legal := kwe_legal s
  have e_goal := kwe_goal s
  have e_sees := kwe_sees s
  have e_distinct := kwe_distinct s
  by_cases h0 : s = ⟨#[116, 101, 114, 109, 105, 110, 97, 108]⟩
  · have HX : Hid (kwA (kwOf s) = 0 ∧ (kwOf s).isSome = true) := by subst h0; exact ⟨by kernel_rfl, by kernel_rfl⟩
    rw [decide_eq_true h0] at e_terminal
    clear h0
    go_enter Tryz.func10, Tryz.ntmps10
    go_wp2
    go_ret2
    exact ⟨by rw [HX.out.1, HX.out.2]; rfl, rfl⟩
  rw [decide_eq_false h0] at e_terminal
  by_cases h1 : s = ⟨#[114, 111, 108, 101]⟩
  · have HX : Hid (kwA (kwOf s) = 1 ∧ (kwOf s).isSome = true) := by subst h1; exact ⟨by kernel_rfl, by kernel_rfl⟩
    rw [decide_eq_true h1] at e_role
    clear h1
    go_enter Tryz.func10, Tryz.ntmps10
    go_wp2
    go_ret2
    exact ⟨by rw [HX.out.1, HX.out.2]; rfl, rfl⟩
  rw [decide_eq_false h1] at e_role
  by_cases h2 : s = ⟨#[105, 110, 105, 116]⟩
  · have HX : Hid (kwA (kwOf s) = 1 ∧ (kwOf s).isSome = true) := by subst h2; exact ⟨by kernel_rfl, by kernel_rfl⟩
    rw [decide_eq_true h2] at e_init
    clear h2
    go_enter Tryz.func10, Tryz.ntmps10
    go_wp2
    go_ret2
    exact ⟨by rw [HX.out.1, HX.out.2]; rfl, rfl⟩
  rw [decide_eq_false h2] at e_init
  by_cases h3 : s = ⟨#[116, 114, 117, 101]⟩
  · have HX : Hid (kwA (kwOf s) = 1 ∧ (kwOf s).isSome = true) := by subst h3; exact ⟨by kernel_rfl, by kernel_rfl⟩
    rw [decide_eq_true h3] at e_true
    clear h3
    go_enter Tryz.func10, Tryz.ntmps10
    go_wp2
    go_ret2
    exact ⟨by rw [HX.out.1, HX.out.2]; rfl, rfl⟩
  rw [decide_eq_false h3] at e_true
  by_cases h4 : s = ⟨#[110, 101, 120, 116]⟩
  · have HX : Hid (kwA (kwOf s) = 1 ∧ (kwOf s).isSome = true) := by subst h4; exact ⟨by kernel_rfl, by kernel_rfl⟩
    rw [decide_eq_true h4] at e_next
    clear h4
    go_enter Tryz.func10, Tryz.ntmps10
    go_wp2
    go_ret2
    exact ⟨by rw [HX.out.1, HX.out.2]; rfl, rfl⟩
  rw [decide_eq_false h4] at e_next
  by_cases h5 : s = ⟨#[100, 111, 101, 115]⟩
  · have HX : Hid (kwA (kwOf s) = 2 ∧ (kwOf s).isSome = true) := by subst h5; exact ⟨by kernel_rfl, by kernel_rfl⟩
    rw [decide_eq_true h5] at e_does
    clear h5
    go_enter Tryz.func10, Tryz.ntmps10
    go_wp2
    go_ret2
    exact ⟨by rw [HX.out.1, HX.out.2]; rfl, rfl⟩
  rw [decide_eq_false h5] at e_does
  by_cases h6 : s = ⟨#[108, 101, 103, 97, 108]⟩
  · have HX : Hid (kwA (kwOf s) = 2 ∧ (kwOf s).isSome = true) := by subst h6; exact ⟨by kernel_rfl, by kernel_rfl⟩
    rw [decide_eq_true h6] at e_legal
    clear h6
    go_enter Tryz.func10, Tryz.ntmps10
    go_wp2
    go_ret2
    exact ⟨by rw [HX.out.1, HX.out.2]; rfl, rfl⟩
  rw [decide_eq_false h6] at e_legal
  by_cases h7 : s = ⟨#[103, 111, 97, 108]⟩
  · have HX : Hid (kwA (kwOf s) = 2 ∧ (kwOf s).isSome = true) := by subst h7; exact ⟨by kernel_rfl, by kernel_rfl⟩
    rw [decide_eq_true h7] at e_goal
    clear h7
    go_enter Tryz.func10, Tryz.ntmps10
    go_wp2
    go_ret2
    exact ⟨by rw [HX.out.1, HX.out.2]; rfl, rfl⟩
  rw [decide_eq_false h7] at e_goal
  by_cases h8 : s = ⟨#[115, 101, 101, 115]⟩
  · have HX : Hid (kwA (kwOf s) = 2 ∧ (kwOf s).isSome = true) := by subst h8; exact ⟨by kernel_rfl, by kernel_rfl⟩
    rw [decide_eq_true h8] at e_sees
    clear h8
    go_enter Tryz.func10, Tryz.ntmps10
    go_wp2
    go_ret2
    exact ⟨by rw [HX.out.1, HX.out.2]; rfl, rfl⟩
  rw [decide_eq_false h8] at e_sees
  by_cases h9 : s = ⟨#[100, 105, 115, 116, 105, 110, 99, 116]⟩
  · have HX : Hid (kwA (kwOf s) = 2 ∧ (kwOf s).isSome = true) := by subst h9; exact ⟨by kernel_rfl, by kernel_rfl⟩
    rw [decide_eq_true h9] at e_distinct
    clear h9
    go_enter Tryz.func10, Tryz.ntmps10
    go_wp2
    go_ret2
    exact ⟨by rw [HX.out.1, HX.out.2]; rfl, rfl⟩
  rw [decide_eq_false h9] at e_distinct
  have HX : Hid (kwA (kwOf s) = 0 ∧ (kwOf s).isSome = false) := by
    have : kwOf s = none := by
      unfold kwOf
      rw [List.find?_eq_none]
      intro k hk
      simp only [kws, List.mem_cons, List.not_mem_nil, or_false] at hk
      simp only [decide_eq_true_eq]
      rcases hk with rfl | rfl | rfl | rfl | rfl | rfl | rfl | rfl | rfl | rfl
      all_goals (intro e; first | exact h0 e.symm | exact h1 e.symm | exact h2 e.symm | exact h3 e.symm | exact h4 e.symm | exact h5 e.symm | exact h6 e.symm | exact h7 e.symm | exact h8 e.symm | exact h9 e.symm)
    rw [this]; exact ⟨rfl, rfl⟩
  clear h0 h1 h2 h3 h4 h5 h6 h7 h8 h9
  go_enter Tryz.func10, Tryz.ntmps10
  go_wp2
  go_ret2
  exact ⟨by rw [HX.out.1, HX.out.2]; rfl, rfl⟩
end

section
open Go.ChangeShapes Go.WideShapes Go.ChangeAt Go.RowKit

def kwLaid : List (String × DataW Unit) := [("gameplayer/check.keywords", Rows.laid_gameplayer_check_keywords)]
theorem gKw : Tryz.prog.globalNamed "gameplayer/check.keywords" = some 0 := by kernel_rfl
theorem tKw : (Tryz.prog.globals[0]?).map (·.type) = some 79 := by kernel_rfl
theorem cells_kw : Tryz.prog.cellsOf 47 = 4 := by kernel_rfl
theorem cells_s1 : Tryz.prog.cellsOf 9 = 1 := by kernel_rfl
theorem cells_i1 : Tryz.prog.cellsOf 3 = 1 := by kernel_rfl
theorem cells_b1 : Tryz.prog.cellsOf 4 = 1 := by kernel_rfl
def kwD (k : Kw) : DataW Unit := .agg [.lit (.string k.n.data.toList), .lit (.int .i64 k.a), .lit (.bool k.h), .lit (.bool k.b)]
theorem laid_kws : (Rows.laid_gameplayer_check_keywords : DataW Unit) = .agg (kws.map kwD) := rfl

/-- The door's own heap meets the condition. -/
theorem door_met (os : Os) (args : Array Value) : laidMetH Tryz.prog kwLaid ((World.doorLaid Tryz.prog 400 os).forCall (fun _ _ => 0) ⟨#[], args, []⟩).memory :=
  laidMetH_of_parts3 (fuel := 8) (laidMet_of_run' 8 (by kernel_rfl) (by kernel_rfl)) (by kernel_rfl) (by kernel_rfl)

set_option maxRecDepth 100000 in
theorem kw_elem {enc : TypeId × Value → Unit} {W : World} {sp : Nat → Bool} {held : Bool} {n : Nat} {cs : List Value} {x : DataW Unit × List MemPlace} {k : Kw}
    (h : DataW.trod enc Tryz.prog W 0 sp held n 47 cs = some x) (hx : x.1 = kwD k) : cs = encK k := by
  obtain ⟨xs, m, rfl, hy, hl, hxs, hall⟩ := DataW.trod_struct Tryz.underlying47 h
  rw [cells_kw] at hl
  obtain ⟨c0, c1, c2, c3, rfl⟩ : ∃ c0 c1 c2 c3, cs = [c0, c1, c2, c3] := by
    match cs, hl with
    | [c0, c1, c2, c3], _ => exact ⟨_, _, _, _, rfl⟩
  have a0 : DataW.trod enc Tryz.prog W 0 sp held m 9 [c0] = xs[0]? := by have := hall 0 _ rfl; simpa [cells_s1] using this
  have a1 : DataW.trod enc Tryz.prog W 0 sp held m 3 [c1] = xs[1]? := by have := hall 1 _ rfl; simpa [cells_i1] using this
  have a2 : DataW.trod enc Tryz.prog W 0 sp held m 4 [c2] = xs[2]? := by have := hall 2 _ rfl; simpa [cells_b1] using this
  have a3 : DataW.trod enc Tryz.prog W 0 sp held m 4 [c3] = xs[3]? := by have := hall 3 _ rfl; simpa [cells_b1] using this
  have hx4 : xs.length = 4 := hxs
  obtain ⟨x0, x1, x2, x3, rfl⟩ : ∃ x0 x1 x2 x3, xs = [x0, x1, x2, x3] := by
    match xs, hx4 with
    | [x0, x1, x2, x3], _ => exact ⟨_, _, _, _, rfl⟩
  simp only [List.getElem?_cons_zero, List.getElem?_cons_succ] at a0 a1 a2 a3
  obtain ⟨s, e0, f0, _⟩ := DataW.trod_string Tryz.underlying9 a0
  obtain ⟨i, e1, f1, _⟩ := DataW.trod_int Tryz.underlying3 a1
  obtain ⟨b, e2, f2⟩ := DataW.trod_bool Tryz.underlying4 a2
  obtain ⟨d, e3, f3⟩ := DataW.trod_bool Tryz.underlying4 a3
  subst f0 f1 f2 f3
  rw [hy] at hx
  simp only [kwD, List.map_cons, List.map_nil, DataW.agg.injEq, List.cons.injEq, DataW.lit.injEq, Lit.string.injEq, Lit.int.injEq, Lit.bool.injEq, and_true, true_and] at hx
  obtain ⟨q0, q1, q2, q3⟩ := hx
  injection e0 with e0
  injection e1 with e1
  injection e2 with e2
  injection e3 with e3
  subst e0 e1 e2 e3
  have : s = k.n := by
    apply ByteArray.ext
    apply Array.toList_inj.1 q0
  subst this q1 q2 q3
  rfl
set_option maxRecDepth 100000 in
theorem of_laid {W : World} (h : laidMetH Tryz.prog kwLaid W) : KwAt W := by
  rw [MakeChecks.laidMetH_plain _ _ _ (by kernel_rfl)] at h
  obtain ⟨ps, ⟨g0, t0, cs0, f0, p0, q0, hg0, ht0, hv0, hd0, _, _⟩, _⟩ := h
  obtain rfl := Option.some.inj (gKw.symm.trans hg0)
  obtain rfl := Option.some.inj (tKw.symm.trans ht0)
  rw [laid_kws] at hd0
  obtain ⟨xs, m1, rfl, hx1, hlen, hn3, hel⟩ := DataW.trod_array Tryz.underlying79 hd0
  have hk10 : kws.length = 10 := rfl
  simp only [Prod.mk.injEq, DataW.agg.injEq] at hx1
  have hx := hx1.1
  have each : ∀ (i : Nat) (hi : i < kws.length), (cs0.toList.drop (i * 4)).take 4 = encK kws[i] := by
    intro i hi
    have h1 := hel i (by omega)
    rw [cells_kw, List.getElem?_eq_getElem (by omega)] at h1
    refine kw_elem h1 ?_
    have h2 : (kws.map kwD)[i]? = (xs.map (·.1))[i]? := by rw [hx]
    rw [List.getElem?_map, List.getElem?_map, List.getElem?_eq_getElem hi, List.getElem?_eq_getElem (by omega)] at h2
    simp only [Option.map_some, Option.some.injEq] at h2
    exact h2.symm
  have cell : ∀ i, W.cell? ⟨0, i, none⟩ = cs0[i]? := fun i => World.var?_cell hg0 hv0 i
  refine ⟨some ⟨0, 0, none⟩, 10, rfl, by simp [hk10], by decide, fun i cs hi => ?_⟩
  obtain ⟨hi', e⟩ := List.getElem?_eq_some_iff.1 hi
  rw [List.length_map] at hi'
  rw [List.getElem_map] at e
  subst e
  have hc : ∀ (j : Nat) (u : Value), (encK kws[i])[j]? = some u → W.cell? ⟨0, 0 + (i * 4 + j), none⟩ = some u := by
    intro j u hu
    have hj : j < 4 := (List.getElem?_eq_some_iff.1 hu).1
    rw [Nat.zero_add, cell, ← Array.getElem?_toList]
    have h1 := each i hi'
    rw [← h1, List.getElem?_take, if_pos hj, List.getElem?_drop] at hu
    exact hu
  refine ⟨⟨rfl, by simp [encK, Value.oneCell']⟩, 0, 0, rfl, ⟨rfl, ?_⟩, hc⟩
  have := hc 0 (.string kws[i].n) rfl
  exact lt_of_cell this

set_option maxRecDepth 100000 in
set_option maxHeartbeats 2000000 in
theorem lawKeywords_ (s : ByteArray) (w : World) (hK : KwAt w) : Calls Tryz.prog 3 #[.string s] w fun e w' => e = .returned (.bool true) ∧ Ch [] w w' := by
  have hkw := keyword_ s w hK
  have hrf := fun wz => ref11Keyword s wz
  generalize kwA (kwOf s) = r at *
  generalize (kwOf s).isSome = q at *
  go_enter Tryz.func3, Tryz.ntmps3
  go_wp2_with (first
    | (go_at_call 9; refine hkw.mono ?_; rintro e w1 ⟨rfl, hc1⟩; clear hkw)
    | (go_at_call 10; refine (hrf _).mono ?_; rintro e w2 ⟨rfl, rfl⟩; clear hrf)
    | (go_at_call 11; refine (law11awake _ (hK.ch hc1)).mono ?_; rintro e w3 ⟨rfl, hc3⟩))
  all_goals
    go_ret
    exact ⟨rfl, hc1.trans hc3⟩
end
end Go.Proofs.YtbongbknciibiaaGreatDoor
