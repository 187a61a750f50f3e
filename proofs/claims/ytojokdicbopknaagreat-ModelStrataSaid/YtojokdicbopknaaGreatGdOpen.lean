
/-
  Arguments opened: a ground description reads as a list of terms and a list of ground rules; a slice of ints as a list of numbers.
-/
import Derived.Test.YtojokdicbopknaaGreatOpenL
import Derived.Test.YtojokdicbopknaaGreatGdPl
namespace Go.Proofs.YtojokdicbopknaaGreat
open Go.ChangeShapes Go.WideShapes Go.ChangeAt Go.RowKit

section
variable {H : Type} {enc : TypeId × Value → H} {W : World}
theorem cells_ints : Tryz.prog.cellsOf 28 = 1 := by kernel_rfl
set_option maxRecDepth 100000 in
theorem cells_gr : Tryz.prog.cellsOf 44 = 3 := by kernel_rfl
set_option maxRecDepth 100000 in
theorem cells_gd : Tryz.prog.cellsOf 25 = 2 := by kernel_rfl
theorem cells_grs : Tryz.prog.cellsOf 23 = 1 := by kernel_rfl
/-- a slice of ints, by its cell -/
theorem trod_Is {n : Nat} {v : Value} {y : DataW H × List MemPlace} (h : DataW.trod enc Tryz.prog W 0 (fun _ => true) true n 28 [v] = some y) : ∃ xs : List Int, SlI (fun _ => True) W v xs := by
  obtain ⟨u, css, e, hsl, hall⟩ := open_sl Tryz.underlying28 (k := 1) cells_int (by decide) (fun n cs y hy => by
    obtain ⟨x, rfl, _⟩ := DataW.trod_int Tryz.underlying3 hy
    exact ⟨rfl, by simp [Value.oneCell']⟩) h
  injection e with e
  subst e
  obtain ⟨xs, rfl, _⟩ := list_of encI (P := fun _ => True) (css := css) (fun c hc => by
    obtain ⟨n, y, _, hy⟩ := hall c hc
    obtain ⟨x, rfl, _⟩ := DataW.trod_int Tryz.underlying3 hy
    exact ⟨x, rfl, trivial⟩)
  exact ⟨xs, hsl⟩
set_option maxRecDepth 100000 in
theorem trod_Gr {n : Nat} {cs : List Value} {y : DataW H × List MemPlace} (h : DataW.trod enc Tryz.prog W 0 (fun _ => true) true n 44 cs = some y) : ∃ x : Gr, GrR (fun _ => True) W x cs ∧ cs.length = 3 ∧ ∀ u ∈ cs, u.oneCell' = true := by
  obtain ⟨xs, m, rfl, hy, hl, hxs, hall⟩ := DataW.trod_struct Tryz.underlying44 h
  rw [cells_gr] at hl
  have hl2 : cs.length = 3 := hl
  obtain ⟨c0, c1, c2, rfl⟩ : ∃ c0 c1 c2, cs = [c0, c1, c2] := by
    match cs, hl2 with
    | [c0, c1, c2], _ => exact ⟨_, _, _, rfl⟩
  have a0 : DataW.trod enc Tryz.prog W 0 (fun _ => true) true m 3 [c0] = xs[0]? := by have := hall 0 _ rfl; simpa [cells_int] using this
  have a1 : DataW.trod enc Tryz.prog W 0 (fun _ => true) true m 28 [c1] = xs[1]? := by have := hall 1 _ rfl; simpa [cells_ints] using this
  have a2 : DataW.trod enc Tryz.prog W 0 (fun _ => true) true m 28 [c2] = xs[2]? := by have := hall 2 _ rfl; simpa [cells_ints] using this
  have hx3 : xs.length = 3 := hxs
  rw [List.getElem?_eq_getElem (by omega)] at a0 a1 a2
  obtain ⟨x0, e0, _⟩ := DataW.trod_int Tryz.underlying3 a0
  injection e0 with e0
  subst e0
  obtain ⟨ps, h1⟩ := trod_Is a1
  obtain ⟨ns, h2⟩ := trod_Is a2
  obtain ⟨q1, r1, rfl, _⟩ := h1.form
  obtain ⟨q2, r2, rfl, _⟩ := h2.form
  exact ⟨⟨x0, ps, ns⟩, ⟨_, _, rfl, h1, h2⟩, rfl, by simp [Value.oneCell']⟩
set_option maxRecDepth 100000 in
theorem open_G {base : Nat} {v : Value} {d : DataW H} {ps : List MemPlace} (hval : Value.okWide Tryz.prog W .any base 25 v) (h : DataW.Trod enc Tryz.prog W 0 (fun _ => true) true 25 v d ps) (hw : WOk 25 d) :
    ∃ (A : List Tm) (rs : List Gr) (va vb : Value), v = .agg #[va, vb] ∧ SlT (fun _ => True) W va A ∧ SlGr (fun _ => True) W vb rs ∧ NiceL reachBytes maxLen A := by
  obtain ⟨cs, rfl, hsz⟩ := okWide_struct Tryz.underlying25 hval
  obtain ⟨fuel, hf⟩ := h
  obtain ⟨xs, m, rfl, hy, hl, hxs, hall⟩ := DataW.trod_struct Tryz.underlying25 (show DataW.trod enc Tryz.prog W 0 (fun _ => true) true fuel 25 cs.toList = some (d, ps) from hf)
  rw [cells_gd] at hl
  obtain ⟨l⟩ := cs
  have hl2 : l.length = 2 := hl
  obtain ⟨c0, c1, rfl⟩ : ∃ c0 c1, l = [c0, c1] := by
    match l, hl2 with
    | [c0, c1], _ => exact ⟨_, _, rfl⟩
  have a0 : DataW.trod enc Tryz.prog W 0 (fun _ => true) true m 22 [c0] = xs[0]? := by have := hall 0 _ rfl; simpa [cells_ts] using this
  have a1 : DataW.trod enc Tryz.prog W 0 (fun _ => true) true m 23 [c1] = xs[1]? := by have := hall 1 _ rfl; simpa [cells_grs] using this
  have hx2 : xs.length = 2 := hxs
  have g0 := List.getElem?_eq_getElem (l := xs) (i := 0) (by omega)
  have g1 := List.getElem?_eq_getElem (l := xs) (i := 1) (by omega)
  rw [g0] at a0
  rw [g1] at a1
  have hy' : d = _ := (Prod.mk.inj hy).1
  rw [hy'] at hw
  obtain ⟨A, hA, hN, _⟩ := trod_Ts m (fun n hn cs y hc hwc => trod_T (n + 1) n (by omega) cs y hc hwc) a0 (WOk.field Tryz.underlying25 hw (j := 0) rfl g0)
  obtain ⟨u, css, e, hsl, hall2⟩ := open_sl Tryz.underlying23 (k := 3) cells_gr (by decide) (fun n cs y hy => by obtain ⟨x, _, h1, h2⟩ := trod_Gr hy; exact ⟨h1, h2⟩) a1
  injection e with e
  subst e
  obtain ⟨rs, h5, h6, _⟩ := glist_of (W := W) (R := GrR (fun _ => True)) (Q := fun _ => True) (css := css) (fun c hc => by obtain ⟨n, y, _, hy⟩ := hall2 c hc; obtain ⟨x, h1, _⟩ := trod_Gr hy; exact ⟨x, h1, trivial⟩)
  exact ⟨A, rs, c0, c1, rfl, hA, ⟨css, hsl, h5, h6⟩, hN⟩
set_option maxRecDepth 100000 in
theorem open_I {base : Nat} {v : Value} {d : DataW H} {ps : List MemPlace} (hval : Value.okWide Tryz.prog W .any base 28 v) (h : DataW.Trod enc Tryz.prog W 0 (fun _ => true) true 28 v d ps) :
    ∃ xs : List Int, SlI (fun _ => True) W v xs ∧ True := by
  obtain ⟨a0, len, cap, rfl⟩ := okWide_slice Tryz.underlying28 hval
  obtain ⟨fuel, hf⟩ := h
  obtain ⟨xs, hx⟩ := trod_Is (v := .slice a0 len cap) (show DataW.trod enc Tryz.prog W 0 (fun _ => true) true fuel 28 [.slice a0 len cap] = some (d, ps) from hf)
  exact ⟨xs, hx, trivial⟩
end
end Go.Proofs.YtojokdicbopknaaGreat
