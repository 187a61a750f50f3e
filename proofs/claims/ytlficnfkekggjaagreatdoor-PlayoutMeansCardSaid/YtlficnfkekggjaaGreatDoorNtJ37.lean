
/-
  The law of playout's means with its examples; a slice of ints, opened.
-/
import Derived.Test.YtlficnfkekggjaaGreatDoorNtMe4
import Derived.Test.YtlficnfkekggjaaGreatDoorEvK37
import Derived.Test.YtlficnfkekggjaaGreatDoorEvLaid
import Derived.Test.YtlficnfkekggjaaGreatDoorOpen
namespace Go.Proofs.YtlficnfkekggjaaGreatDoor
open Go.ChangeShapes Go.WideShapes Go.ChangeAt Go.RowKit
theorem awakes37 : Awakes 6 := awake37_
section
variable {H : Type} {enc : TypeId × Value → H} {W : World}
theorem cells_int : Tryz.prog.cellsOf 3 = 1 := by kernel_rfl
theorem wf_in {n : Int} (h : (Lit.int .i64 n).wf = true) : inI64 n := by
  simp only [Lit.wf, IntKind.min, IntKind.max, IntKind.signed, IntKind.bits, Bool.and_eq_true, decide_eq_true_eq] at h
  unfold inI64
  simp at h
  omega
set_option maxRecDepth 100000 in
theorem open_I {base : Nat} {v : Value} {d : DataW H} {ps : List MemPlace} (hval : Value.okWide Tryz.prog W .any base 22 v) (h : DataW.Trod enc Tryz.prog W 0 (fun _ => true) true 22 v d ps) :
    ∃ xs : List Int, SlI (fun _ => True) W v xs ∧ ∀ x ∈ xs, inI64 x := by
  obtain ⟨a0, len, cap, rfl⟩ := okWide_slice Tryz.underlying22 hval
  obtain ⟨fuel, hf⟩ := h
  obtain ⟨u, css, e, hsl, hall⟩ := open_sl Tryz.underlying22 (k := 1) cells_int (by decide) (fun n cs y hy => by
    obtain ⟨x, rfl, _⟩ := DataW.trod_int Tryz.underlying3 hy
    exact ⟨rfl, by simp [Value.oneCell']⟩) (show DataW.trod enc Tryz.prog W 0 (fun _ => true) true fuel 22 [.slice a0 len cap] = some (d, ps) from hf)
  injection e with e
  subst e
  obtain ⟨xs, rfl, hx⟩ := list_of encI (P := inI64) (css := css) (fun c hc => by
    obtain ⟨n, y, _, hy⟩ := hall c hc
    obtain ⟨x, rfl, _, hw⟩ := DataW.trod_int Tryz.underlying3 hy
    exact ⟨x, rfl, wf_in hw⟩)
  exact ⟨xs, hsl, hx⟩
end
end Go.Proofs.YtlficnfkekggjaaGreatDoor
