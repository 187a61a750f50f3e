
/-
  An argument that is a slice of levels, opened.
-/
import Derived.Test.YtojokdicbopknaaGreatOpen
import Derived.Test.YtojokdicbopknaaGreatStrOrd
import Derived.Test.YtojokdicbopknaaGreatSmall3
namespace Go.Proofs.YtojokdicbopknaaGreat
open Go.ChangeShapes Go.WideShapes Go.ChangeAt Go.RowKit

section
variable {H : Type} {enc : TypeId × Value → H} {W : World}
set_option maxRecDepth 100000 in
theorem cells_lv : Tryz.prog.cellsOf 93 = 2 := by kernel_rfl
theorem cells_int : Tryz.prog.cellsOf 3 = 1 := by kernel_rfl
set_option maxRecDepth 100000 in
theorem trod_L {n : Nat} {cs : List Value} {y : DataW H × List MemPlace} (h : DataW.trod enc Tryz.prog W 0 (fun _ => true) true n 93 cs = some y) : ∃ e : Lv, cs = e.enc ∧ True := by
  obtain ⟨xs, m, rfl, _, hl, hxs, hall⟩ := DataW.trod_struct Tryz.underlying93 h
  rw [cells_lv] at hl
  have hl2 : cs.length = 2 := hl
  obtain ⟨c0, c1, rfl⟩ : ∃ c0 c1, cs = [c0, c1] := by
    match cs, hl2 with
    | [c0, c1], _ => exact ⟨_, _, rfl⟩
  have a0 : DataW.trod enc Tryz.prog W 0 (fun _ => true) true m 9 [c0] = xs[0]? := by have := hall 0 _ rfl; simpa [cells_s] using this
  have a1 : DataW.trod enc Tryz.prog W 0 (fun _ => true) true m 3 [c1] = xs[1]? := by have := hall 1 _ rfl; simpa [cells_int] using this
  have hx2 : xs.length = 2 := hxs
  rw [List.getElem?_eq_getElem (by omega)] at a0 a1
  obtain ⟨s, e0, _, z0⟩ := DataW.trod_string Tryz.underlying9 a0
  obtain ⟨b, e1, _⟩ := DataW.trod_int Tryz.underlying3 a1
  injection e0 with e0
  injection e1 with e1
  subst e0 e1
  exact ⟨⟨s, b⟩, rfl, trivial⟩
set_option maxRecDepth 100000 in
theorem open_L {base : Nat} {v : Value} {d : DataW H} {ps : List MemPlace} (hval : Value.okWide Tryz.prog W .any base 54 v) (h : DataW.Trod enc Tryz.prog W 0 (fun _ => true) true 54 v d ps) :
    ∃ es : List Lv, SlL (fun _ => True) W v es ∧ ∀ e ∈ es, True := by
  obtain ⟨a0, len, cap, rfl⟩ := okWide_slice Tryz.underlying54 hval
  obtain ⟨fuel, hf⟩ := h
  obtain ⟨u, css, e, hsl, hall⟩ := open_sl Tryz.underlying54 (k := 2) cells_lv (by decide) (fun n cs y hy => by
    obtain ⟨x, rfl, _⟩ := trod_L hy
    exact ⟨rfl, by simp [Lv.enc, Value.oneCell']⟩) hf
  obtain ⟨xs, rfl, hxs⟩ := list_of Lv.enc (P := fun _ => True) (fun c hc => by obtain ⟨n, y, _, hy⟩ := hall c hc; exact trod_L hy)
  have e' : [Value.slice a0 len cap] = [u] := by simpa [Value.cells] using e
  injection e' with e'
  subst e'
  exact ⟨xs, hsl, hxs⟩
end

/-! ### what the laws share -/
theorem LvRes.sl {base : Nat} {w : World} {v : Value} {n : Int} {o : Option (List Lv)} (h : LvRes base w v n o) : SlL (fun b => base ≤ b) w v (o.getD []) ∧ n = (if o.isSome = true then 0 else 10) := by
  cases o with
  | none => obtain ⟨rfl, rfl⟩ := h; exact ⟨Sl.nil _ _ _, rfl⟩
  | some lv => obtain ⟨h1, rfl⟩ := h; exact ⟨h1, rfl⟩
/-- the rows of an order, none if there is none -/
def ordL (l : List Ru) : Option (List Lv) → List (List Int) | none => [] | some lv => orderOf lv l
theorem OrdRes.sl {base : Nat} {w : World} {l : List Ru} {v : Value} {n : Int} {o : Option (List Lv)} (h : OrdRes base w l v n o) : SlII (fun b => base ≤ b) w v (ordL l o) ∧ n = (if o.isSome = true then 0 else 10) := by
  cases o with
  | none => obtain ⟨rfl, rfl⟩ := h; exact ⟨⟨[], rfl, Sl.nil _ _ _, by simp⟩, rfl⟩
  | some lv => obtain ⟨h1, rfl⟩ := h; exact ⟨h1, rfl⟩
end Go.Proofs.YtojokdicbopknaaGreat
