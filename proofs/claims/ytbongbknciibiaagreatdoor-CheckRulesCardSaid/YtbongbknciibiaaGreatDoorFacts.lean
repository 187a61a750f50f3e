
/-
  Closed facts on the program's types: elements of slices, equality of structs.
-/
import Derived.Test.YtbongbknciibiaaGreatDoorSpec
import Derived.Test.YtbongbknciibiaaGreatDoorChecked
namespace Go.Proofs.YtbongbknciibiaaGreatDoor
open Go.RowKit

theorem elS : Elem Tryz.prog 56 9 1 16 := Elem.mk' Tryz.underlying56 (by kernel_rfl) (by decide) (by decide)
theorem elI : Elem Tryz.prog 151 3 1 8 := Elem.mk' Tryz.underlying151 (by kernel_rfl) (by decide) (by decide)
theorem elE : Elem Tryz.prog 62 102 3 40 := Elem.mk' Tryz.underlying62 (by kernel_rfl) (by decide) (by decide)
theorem elL : Elem Tryz.prog 59 105 2 24 := Elem.mk' Tryz.underlying59 (by kernel_rfl) (by decide) (by decide)
theorem elT : Elem Tryz.prog 26 28 2 40 := Elem.mk' Tryz.underlying26 (by kernel_rfl) (by decide) (by decide)
theorem elB : Elem Tryz.prog 29 53 3 48 := Elem.mk' Tryz.underlying29 (by kernel_rfl) (by decide) (by decide)
theorem elR : Elem Tryz.prog 35 31 3 64 := Elem.mk' Tryz.underlying35 (by kernel_rfl) (by decide) (by decide)
/-- two edges are one, as the walk asks it -/
def edB (f t : ByteArray) (n : Bool) (f' t' : ByteArray) (n' : Bool) : Bool := f.toList == f'.toList && (t.toList == t'.toList && n == n')
def lvB (s : ByteArray) (n : Int) (s' : ByteArray) (n' : Int) : Bool := s.toList == s'.toList && n == n'

theorem run_equalIn_ed (d : Nat) (f t : ByteArray) (n : Bool) (f' t' : ByteArray) (n' : Bool) (w : World) :
    (Op.equalIn (d + 2) 102 (.agg #[.string f, .string t, .bool n]) (.agg #[.string f', .string t', .bool n'])).run Tryz.prog w = .ok (edB f t n f' t' n') w := by
  rw [run_equalIn_struct w (d + 1) 102 _ _ (by kernel_rfl) (by kernel_rfl)]
  simp only [Program.fieldsOf, Tryz.underlying102]
  go_simp
  by_cases h1 : f.toList = f'.toList <;> by_cases h2 : t.toList = t'.toList <;> by_cases h3 : n = n' <;> simp [edB, h1, h2, h3]
theorem run_equalIn_lv (d : Nat) (s : ByteArray) (n : Int) (s' : ByteArray) (n' : Int) (w : World) :
    (Op.equalIn (d + 2) 105 (.agg #[.string s, .int .i64 n]) (.agg #[.string s', .int .i64 n'])).run Tryz.prog w = .ok (lvB s n s' n') w := by
  rw [run_equalIn_struct w (d + 1) 105 _ _ (by kernel_rfl) (by kernel_rfl)]
  simp only [Program.fieldsOf, Tryz.underlying105]
  go_simp
  by_cases h1 : s.toList = s'.toList <;> by_cases h3 : n = n' <;> simp [lvB, h1, h3]
theorem run_eql_ed (f t : ByteArray) (n : Bool) (f' t' : ByteArray) (n' : Bool) (w : World) :
    (binOp .eql 102 (.agg #[.string f, .string t, .bool n]) (.agg #[.string f', .string t', .bool n'])).run Tryz.prog w = .ok (.bool (edB f t n f' t' n')) w := by
  simp only [binOp]
  simp [Op.equal, Op.maxDepth, run_equalIn_ed 9998]
theorem run_neq_ed (f t : ByteArray) (n : Bool) (f' t' : ByteArray) (n' : Bool) (w : World) :
    (binOp .neq 102 (.agg #[.string f, .string t, .bool n]) (.agg #[.string f', .string t', .bool n'])).run Tryz.prog w = .ok (.bool (!edB f t n f' t' n')) w := by
  simp only [binOp]
  simp [Op.equal, Op.maxDepth, run_equalIn_ed 9998]
theorem run_eql_lv (s : ByteArray) (n : Int) (s' : ByteArray) (n' : Int) (w : World) :
    (binOp .eql 105 (.agg #[.string s, .int .i64 n]) (.agg #[.string s', .int .i64 n'])).run Tryz.prog w = .ok (.bool (lvB s n s' n')) w := by
  simp only [binOp]
  simp [Op.equal, Op.maxDepth, run_equalIn_lv 9998]
theorem run_neq_lv (s : ByteArray) (n : Int) (s' : ByteArray) (n' : Int) (w : World) :
    (binOp .neq 105 (.agg #[.string s, .int .i64 n]) (.agg #[.string s', .int .i64 n'])).run Tryz.prog w = .ok (.bool (!lvB s n s' n')) w := by
  simp only [binOp]
  simp [Op.equal, Op.maxDepth, run_equalIn_lv 9998]

theorem edB_eq (e e' : Ed) : edB e.f e.t e.n e'.f e'.t e'.n = decide (e = e') := by
  cases e; cases e'
  simp only [edB, beqS, Ed.mk.injEq, Bool.decide_and]
  congr 2
theorem lvB_eq (e e' : Lv) : lvB e.s e.n e'.s e'.n = decide (e = e') := by
  cases e; cases e'
  simp only [lvB, beqS, Lv.mk.injEq, Bool.decide_and]
  congr 1
end Go.Proofs.YtbongbknciibiaaGreatDoor
