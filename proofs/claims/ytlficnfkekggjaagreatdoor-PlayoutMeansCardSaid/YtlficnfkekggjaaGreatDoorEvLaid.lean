
/-
  The package's variable check.keywords, as the rows list it: its block; a start meets the list.
-/
import Derived.Test.YtlficnfkekggjaaGreatDoorEvHe
import Derived.Test.YtlficnfkekggjaaGreatDoorRows
import Derived.ProofKit
import Derived.LaidMore
import Derived.OpenShut
import Derived.Stop.Joined
namespace Go.Proofs.YtlficnfkekggjaaGreatDoor
open Go.ChangeShapes Go.WideShapes Go.ChangeAt Go.RowKit Go.Ev
structure KwL where
  n : ByteArray
  a : Nat
  h : Bool
  b : Bool
def kwsL : List KwL := [
  ⟨⟨#[114, 111, 108, 101]⟩, 1, true, true⟩, ⟨⟨#[105, 110, 105, 116]⟩, 1, true, false⟩, ⟨⟨#[116, 114, 117, 101]⟩, 1, false, true⟩,
  ⟨⟨#[100, 111, 101, 115]⟩, 2, false, true⟩, ⟨⟨#[108, 101, 103, 97, 108]⟩, 2, true, false⟩, ⟨⟨#[110, 101, 120, 116]⟩, 1, true, false⟩,
  ⟨⟨#[116, 101, 114, 109, 105, 110, 97, 108]⟩, 0, true, false⟩, ⟨⟨#[103, 111, 97, 108]⟩, 2, true, false⟩, ⟨⟨#[115, 101, 101, 115]⟩, 2, true, false⟩,
  ⟨⟨#[100, 105, 115, 116, 105, 110, 99, 116]⟩, 2, false, true⟩]
def encL (k : KwL) : List Value := [.string k.n, .int .i64 k.a, .bool k.h, .bool k.b]
def allLaid : List (String × DataW Unit) := [("math/bits.deBruijn32tab", Rows.laid_math_bits_deBruijn32tab), ("math/bits.deBruijn64tab", Rows.laid_math_bits_deBruijn64tab), ("internal/strconv.uint64pow10", Rows.laid_internal_strconv_uint64pow10), ("gameplayer/check.keywords", Rows.laid_gameplayer_check_keywords)]
theorem gKw : Tryz.prog.globalNamed "gameplayer/check.keywords" = some 0 := by kernel_rfl
theorem tKw : (Tryz.prog.globals[0]?).map (·.type) = some 339 := by kernel_rfl
theorem cells_kw : Tryz.prog.cellsOf 290 = 4 := by kernel_rfl
theorem cells_s1 : Tryz.prog.cellsOf 9 = 1 := by kernel_rfl
theorem cells_i1 : Tryz.prog.cellsOf 3 = 1 := by kernel_rfl
theorem cells_b1 : Tryz.prog.cellsOf 4 = 1 := by kernel_rfl
def kwD (k : KwL) : DataW Unit := .agg [.lit (.string k.n.data.toList), .lit (.int .i64 k.a), .lit (.bool k.h), .lit (.bool k.b)]
theorem laid_kws : (Rows.laid_gameplayer_check_keywords : DataW Unit) = .agg (kwsL.map kwD) := rfl
/-- The door's own heap meets the condition. -/
theorem door_met (os : Os) (args : Array Value) : laidMetH Tryz.prog allLaid ((World.doorLaid Tryz.prog 400 os).forCall (fun _ _ => 0) ⟨#[], args, []⟩).memory :=
  laidMetH_of_parts3 (fuel := 8) (laidMet_of_run' 8 (by kernel_rfl) (by kernel_rfl)) (by kernel_rfl) (by kernel_rfl)
set_option maxRecDepth 100000 in
theorem kw_elem {enc : TypeId × Value → Unit} {W : World} {sp : Nat → Bool} {held : Bool} {n : Nat} {cs : List Value} {x : DataW Unit × List MemPlace} {k : KwL}
    (h : DataW.trod enc Tryz.prog W 0 sp held n 290 cs = some x) (hx : x.1 = kwD k) : cs = encL k := by
  obtain ⟨xs, m, rfl, hy, hl, hxs, hall⟩ := DataW.trod_struct Tryz.underlying290 h
  rw [cells_kw] at hl
  obtain ⟨c0, c1, c2, c3, rfl⟩ : ∃ c0 c1 c2 c3, cs = [c0, c1, c2, c3] := by
    match cs, hl with
    | [c0, c1, c2, c3], _ => exact ⟨_, _, _, _, rfl⟩
  have a0 : DataW.trod enc Tryz.prog W 0 sp held m 9 [c0] = xs[0]? := by have := hall 0 _ rfl; simpa [cells_s1] using this
  have a1 : DataW.trod enc Tryz.prog W 0 sp held m 3 [c1] = xs[1]? := by have := hall 1 _ rfl; simpa [cells_i1] using this
  have a2 : DataW.trod enc Tryz.prog W 0 sp held m 4 [c2] = xs[2]? := by have := hall 2 _ rfl; simpa [cells_b1] using this
  have a3 : DataW.trod enc Tryz.prog W 0 sp held m 4 [c3] = xs[3]? := by have := hall 3 _ rfl; simpa [cells_b1] using this
  have hx4 : xs.length = 4 := hxs
  obtain ⟨x0, x1, x2, x3, rfl⟩ : ∃ x0 x1 x2 x3, xs = [x0, x1, x2, x3] := by
    match xs, hx4 with
    | [x0, x1, x2, x3], _ => exact ⟨_, _, _, _, rfl⟩
  simp only [List.getElem?_cons_zero, List.getElem?_cons_succ] at a0 a1 a2 a3
  obtain ⟨s, e0, f0, _⟩ := DataW.trod_string Tryz.underlying9 a0
  obtain ⟨i, e1, f1, _⟩ := DataW.trod_int Tryz.underlying3 a1
  obtain ⟨b, e2, f2⟩ := DataW.trod_bool Tryz.underlying4 a2
  obtain ⟨d, e3, f3⟩ := DataW.trod_bool Tryz.underlying4 a3
  subst f0 f1 f2 f3
  rw [hy] at hx
  simp only [kwD, List.map_cons, List.map_nil, DataW.agg.injEq, List.cons.injEq, DataW.lit.injEq, Lit.string.injEq, Lit.int.injEq, Lit.bool.injEq, and_true, true_and] at hx
  obtain ⟨q0, q1, q2, q3⟩ := hx
  injection e0 with e0
  injection e1 with e1
  injection e2 with e2
  injection e3 with e3
  subst e0 e1 e2 e3
  have : s = k.n := by
    apply ByteArray.ext
    apply Array.toList_inj.1 q0
  subst this q1 q2 q3
  rfl
/-- the cells, read as they should -/
theorem kws_VR : ∀ (j : Nat) (k : KwL) (i : Nat) (u : Value), kwsL[j]? = some k → (encL k)[i]? = some u → VR (fun _ => none) ((kwsV[j * 4 + i]?).getD .unk) u ∧ u.oneCell' = true := by
  have str : ∀ (b : ByteArray) (n : Nat) (l : List Nat), b.data.toList.map UInt8.toNat = l → l.length = n → VR (fun _ => none) (.vs n l) (.string b) := fun b n l h1 h2 => ⟨b, rfl, h1, h2⟩
  intro j k i u hj hi
  have hjl : j < 10 := (List.getElem?_eq_some_iff.1 hj).1
  have hil : i < 4 := (List.getElem?_eq_some_iff.1 hi).1
  match j, hjl with
  | 0, _ | 1, _ | 2, _ | 3, _ | 4, _ | 5, _ | 6, _ | 7, _ | 8, _ | 9, _ =>
    injection hj with hj
    subst hj
    match i, hil with
    | 0, _ => injection hi with hi; subst hi; exact ⟨str _ _ _ rfl rfl, rfl⟩
    | 1, _ => injection hi with hi; subst hi; exact ⟨rfl, rfl⟩
    | 2, _ => injection hi with hi; subst hi; exact ⟨rfl, rfl⟩
    | 3, _ => injection hi with hi; subst hi; exact ⟨rfl, rfl⟩
set_option maxRecDepth 100000 in
theorem of_laid {W : World} (h : laidMetH Tryz.prog allLaid W) : KwBlk W := by
  rw [MakeChecks.laidMetH_plain _ _ _ (by kernel_rfl)] at h
  obtain ⟨ps, ⟨_, _, _, _, _, q1, _, _, _, _, ⟨_, _, _, _, _, q2, _, _, _, _, ⟨_, _, _, _, _, q3, _, _, _, _, ⟨g0, t0, cs0, f0, p0, q0, hg0, ht0, hv0, hd0, _, hp4⟩, hp3⟩, hp2⟩, hp1⟩, _, hall⟩ := h
  obtain rfl := Option.some.inj (gKw.symm.trans hg0)
  obtain rfl := Option.some.inj (tKw.symm.trans ht0)
  rw [laid_kws] at hd0
  obtain ⟨xs, m1, rfl, hx1, hlen, hn3, hel⟩ := DataW.trod_array Tryz.underlying339 hd0
  have hk10 : kwsL.length = 10 := rfl
  simp only [Prod.mk.injEq, DataW.agg.injEq] at hx1
  have hx := hx1.1
  have each : ∀ (i : Nat) (hi : i < kwsL.length), (cs0.toList.drop (i * 4)).take 4 = encL kwsL[i] := by
    intro i hi
    have h1 := hel i (by omega)
    rw [cells_kw, List.getElem?_eq_getElem (by omega)] at h1
    refine kw_elem h1 ?_
    have h2 : (kwsL.map kwD)[i]? = (xs.map (·.1))[i]? := by rw [hx]
    rw [List.getElem?_map, List.getElem?_map, List.getElem?_eq_getElem hi, List.getElem?_eq_getElem (by omega)] at h2
    simp only [Option.map_some, Option.some.injEq] at h2
    exact h2.symm
  have hcell : ∀ i, i < 40 → ∃ u, cs0[i]? = some u ∧ VR (fun _ => none) ((kwsV[i]?).getD .unk) u ∧ u.oneCell' = true := fun i hi => by
    have hj : i / 4 < kwsL.length := by omega
    have h1 := each (i / 4) hj
    have h4 : (encL kwsL[i / 4]).length = 4 := rfl
    have h5 : i % 4 < (encL kwsL[i / 4]).length := by omega
    obtain ⟨u, h2⟩ : ∃ u, (encL kwsL[i / 4])[i % 4]? = some u := ⟨_, List.getElem?_eq_getElem h5⟩
    refine ⟨u, ?_, ?_⟩
    · have h3 := h2
      rw [← h1, List.getElem?_take, if_pos (by omega), List.getElem?_drop, Array.getElem?_toList, show i / 4 * 4 + i % 4 = i by omega] at h3
      exact h3
    · have := kws_VR (i / 4) kwsL[i / 4] (i % 4) _ (List.getElem?_eq_getElem hj) h2
      rw [show i / 4 * 4 + i % 4 = i by omega] at this
      exact this
  have hsz : 0 < cs0.size := by
    obtain ⟨u, hu, _⟩ := hcell 0 (by omega)
    exact (Array.getElem?_eq_some_iff.1 hu).1
  have hmem : MemPlace.cell 0 0 ∈ ps := by
    rw [hp1, hp2, hp3, hp4]
    refine List.mem_append.2 (.inr (List.mem_append.2 (.inr (List.mem_append.2 (.inr (List.mem_append.2 (.inl (List.mem_append.2 (.inl ?_)))))))))
    exact List.mem_map.2 ⟨0, by simpa using hsz, rfl⟩
  obtain ⟨⟨c, t, hb⟩, _⟩ := hall 0 0 hmem
  have hcs : c = cs0 := by
    unfold World.var? at hv0
    rw [gKw] at hv0
    simp only [Option.bind_some, hb] at hv0
    injection hv0
  subst hcs
  exact ⟨c, t, hb, hcell⟩
end Go.Proofs.YtlficnfkekggjaaGreatDoor
