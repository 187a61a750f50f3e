
/-
  Closed facts on the program's types: elements of slices, equality of structs.
-/
import Derived.Test.YtlficnfkekggjaaGreatDoorSpec
import Derived.Test.YtlficnfkekggjaaGreatDoorChecked
namespace Go.Proofs.YtlficnfkekggjaaGreatDoor
open Go.RowKit

theorem elS : Elem Tryz.prog 154 9 1 16 := Elem.mk' Tryz.underlying154 (by kernel_rfl) (by decide) (by decide)
theorem elI : Elem Tryz.prog 22 3 1 8 := Elem.mk' Tryz.underlying22 (by kernel_rfl) (by decide) (by decide)
theorem elE : Elem Tryz.prog 221 228 3 40 := Elem.mk' Tryz.underlying221 (by kernel_rfl) (by decide) (by decide)
theorem elL : Elem Tryz.prog 160 231 2 24 := Elem.mk' Tryz.underlying160 (by kernel_rfl) (by decide) (by decide)
theorem elII : Elem Tryz.prog 41 22 1 24 := Elem.mk' Tryz.underlying41 (by kernel_rfl) (by decide) (by decide)
theorem elT : Elem Tryz.prog 66 84 2 40 := Elem.mk' Tryz.underlying66 (by kernel_rfl) (by decide) (by decide)
theorem elB : Elem Tryz.prog 85 141 3 48 := Elem.mk' Tryz.underlying85 (by kernel_rfl) (by decide) (by decide)
theorem elR : Elem Tryz.prog 38 87 3 64 := Elem.mk' Tryz.underlying38 (by kernel_rfl) (by decide) (by decide)
/-- two edges are one, as the walk asks it -/
def edB (f t : ByteArray) (n : Bool) (f' t' : ByteArray) (n' : Bool) : Bool := f.toList == f'.toList && (t.toList == t'.toList && n == n')
def lvB (s : ByteArray) (n : Int) (s' : ByteArray) (n' : Int) : Bool := s.toList == s'.toList && n == n'

theorem run_equalIn_ed (d : Nat) (f t : ByteArray) (n : Bool) (f' t' : ByteArray) (n' : Bool) (w : World) :
    (Op.equalIn (d + 2) 228 (.agg #[.string f, .string t, .bool n]) (.agg #[.string f', .string t', .bool n'])).run Tryz.prog w = .ok (edB f t n f' t' n') w := by
  rw [run_equalIn_struct w (d + 1) 228 _ _ (by kernel_rfl) (by kernel_rfl)]
  simp only [Program.fieldsOf, Tryz.underlying228]
  go_simp
  by_cases h1 : f.toList = f'.toList <;> by_cases h2 : t.toList = t'.toList <;> by_cases h3 : n = n' <;> simp [edB, h1, h2, h3]
theorem run_equalIn_lv (d : Nat) (s : ByteArray) (n : Int) (s' : ByteArray) (n' : Int) (w : World) :
    (Op.equalIn (d + 2) 231 (.agg #[.string s, .int .i64 n]) (.agg #[.string s', .int .i64 n'])).run Tryz.prog w = .ok (lvB s n s' n') w := by
  rw [run_equalIn_struct w (d + 1) 231 _ _ (by kernel_rfl) (by kernel_rfl)]
  simp only [Program.fieldsOf, Tryz.underlying231]
  go_simp
  by_cases h1 : s.toList = s'.toList <;> by_cases h3 : n = n' <;> simp [lvB, h1, h3]
theorem run_eql_ed (f t : ByteArray) (n : Bool) (f' t' : ByteArray) (n' : Bool) (w : World) :
    (binOp .eql 228 (.agg #[.string f, .string t, .bool n]) (.agg #[.string f', .string t', .bool n'])).run Tryz.prog w = .ok (.bool (edB f t n f' t' n')) w := by
  simp only [binOp]
  simp [Op.equal, Op.maxDepth, run_equalIn_ed 9998]
theorem run_neq_ed (f t : ByteArray) (n : Bool) (f' t' : ByteArray) (n' : Bool) (w : World) :
    (binOp .neq 228 (.agg #[.string f, .string t, .bool n]) (.agg #[.string f', .string t', .bool n'])).run Tryz.prog w = .ok (.bool (!edB f t n f' t' n')) w := by
  simp only [binOp]
  simp [Op.equal, Op.maxDepth, run_equalIn_ed 9998]
theorem run_eql_lv (s : ByteArray) (n : Int) (s' : ByteArray) (n' : Int) (w : World) :
    (binOp .eql 231 (.agg #[.string s, .int .i64 n]) (.agg #[.string s', .int .i64 n'])).run Tryz.prog w = .ok (.bool (lvB s n s' n')) w := by
  simp only [binOp]
  simp [Op.equal, Op.maxDepth, run_equalIn_lv 9998]
theorem run_neq_lv (s : ByteArray) (n : Int) (s' : ByteArray) (n' : Int) (w : World) :
    (binOp .neq 231 (.agg #[.string s, .int .i64 n]) (.agg #[.string s', .int .i64 n'])).run Tryz.prog w = .ok (.bool (!lvB s n s' n')) w := by
  simp only [binOp]
  simp [Op.equal, Op.maxDepth, run_equalIn_lv 9998]

theorem edB_eq (e e' : Ed) : edB e.f e.t e.n e'.f e'.t e'.n = decide (e = e') := by
  cases e; cases e'
  simp only [edB, beqS, Ed.mk.injEq, Bool.decide_and]
  congr 2
theorem lvB_eq (e e' : Lv) : lvB e.s e.n e'.s e'.n = decide (e = e') := by
  cases e; cases e'
  simp only [lvB, beqS, Lv.mk.injEq, Bool.decide_and]
  congr 1
end Go.Proofs.YtlficnfkekggjaaGreatDoor
