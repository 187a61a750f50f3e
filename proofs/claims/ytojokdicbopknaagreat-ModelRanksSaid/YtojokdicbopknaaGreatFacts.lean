
/-
  Closed facts on the program's types: elements of slices, equality of structs.
-/
import Derived.Test.YtojokdicbopknaaGreatSpec
import Derived.Test.YtojokdicbopknaaGreatChecked
namespace Go.Proofs.YtojokdicbopknaaGreat
open Go.RowKit

theorem elS : Elem Tryz.prog 51 9 1 16 := Elem.mk' Tryz.underlying51 (by kernel_rfl) (by decide) (by decide)
theorem elI : Elem Tryz.prog 28 3 1 8 := Elem.mk' Tryz.underlying28 (by kernel_rfl) (by decide) (by decide)
theorem elE : Elem Tryz.prog 50 81 3 40 := Elem.mk' Tryz.underlying50 (by kernel_rfl) (by decide) (by decide)
theorem elL : Elem Tryz.prog 54 93 2 24 := Elem.mk' Tryz.underlying54 (by kernel_rfl) (by decide) (by decide)
theorem elT : Elem Tryz.prog 22 59 2 40 := Elem.mk' Tryz.underlying22 (by kernel_rfl) (by decide) (by decide)
theorem elB : Elem Tryz.prog 85 84 3 48 := Elem.mk' Tryz.underlying85 (by kernel_rfl) (by decide) (by decide)
theorem elR : Elem Tryz.prog 79 87 3 64 := Elem.mk' Tryz.underlying79 (by kernel_rfl) (by decide) (by decide)
/-- two edges are one, as the walk asks it -/
def edB (f t : ByteArray) (n : Bool) (f' t' : ByteArray) (n' : Bool) : Bool := f.toList == f'.toList && (t.toList == t'.toList && n == n')
def lvB (s : ByteArray) (n : Int) (s' : ByteArray) (n' : Int) : Bool := s.toList == s'.toList && n == n'

theorem run_equalIn_ed (d : Nat) (f t : ByteArray) (n : Bool) (f' t' : ByteArray) (n' : Bool) (w : World) :
    (Op.equalIn (d + 2) 81 (.agg #[.string f, .string t, .bool n]) (.agg #[.string f', .string t', .bool n'])).run Tryz.prog w = .ok (edB f t n f' t' n') w := by
  rw [run_equalIn_struct w (d + 1) 81 _ _ (by kernel_rfl) (by kernel_rfl)]
  simp only [Program.fieldsOf, Tryz.underlying81]
  go_simp
  by_cases h1 : f.toList = f'.toList <;> by_cases h2 : t.toList = t'.toList <;> by_cases h3 : n = n' <;> simp [edB, h1, h2, h3]
theorem run_equalIn_lv (d : Nat) (s : ByteArray) (n : Int) (s' : ByteArray) (n' : Int) (w : World) :
    (Op.equalIn (d + 2) 93 (.agg #[.string s, .int .i64 n]) (.agg #[.string s', .int .i64 n'])).run Tryz.prog w = .ok (lvB s n s' n') w := by
  rw [run_equalIn_struct w (d + 1) 93 _ _ (by kernel_rfl) (by kernel_rfl)]
  simp only [Program.fieldsOf, Tryz.underlying93]
  go_simp
  by_cases h1 : s.toList = s'.toList <;> by_cases h3 : n = n' <;> simp [lvB, h1, h3]
theorem run_eql_ed (f t : ByteArray) (n : Bool) (f' t' : ByteArray) (n' : Bool) (w : World) :
    (binOp .eql 81 (.agg #[.string f, .string t, .bool n]) (.agg #[.string f', .string t', .bool n'])).run Tryz.prog w = .ok (.bool (edB f t n f' t' n')) w := by
  simp only [binOp]
  simp [Op.equal, Op.maxDepth, run_equalIn_ed 9998]
theorem run_neq_ed (f t : ByteArray) (n : Bool) (f' t' : ByteArray) (n' : Bool) (w : World) :
    (binOp .neq 81 (.agg #[.string f, .string t, .bool n]) (.agg #[.string f', .string t', .bool n'])).run Tryz.prog w = .ok (.bool (!edB f t n f' t' n')) w := by
  simp only [binOp]
  simp [Op.equal, Op.maxDepth, run_equalIn_ed 9998]
theorem run_eql_lv (s : ByteArray) (n : Int) (s' : ByteArray) (n' : Int) (w : World) :
    (binOp .eql 93 (.agg #[.string s, .int .i64 n]) (.agg #[.string s', .int .i64 n'])).run Tryz.prog w = .ok (.bool (lvB s n s' n')) w := by
  simp only [binOp]
  simp [Op.equal, Op.maxDepth, run_equalIn_lv 9998]
theorem run_neq_lv (s : ByteArray) (n : Int) (s' : ByteArray) (n' : Int) (w : World) :
    (binOp .neq 93 (.agg #[.string s, .int .i64 n]) (.agg #[.string s', .int .i64 n'])).run Tryz.prog w = .ok (.bool (!lvB s n s' n')) w := by
  simp only [binOp]
  simp [Op.equal, Op.maxDepth, run_equalIn_lv 9998]

theorem edB_eq (e e' : Ed) : edB e.f e.t e.n e'.f e'.t e'.n = decide (e = e') := by
  cases e; cases e'
  simp only [edB, beqS, Ed.mk.injEq, Bool.decide_and]
  congr 2
theorem lvB_eq (e e' : Lv) : lvB e.s e.n e'.s e'.n = decide (e = e') := by
  cases e; cases e'
  simp only [lvB, beqS, Lv.mk.injEq, Bool.decide_and]
  congr 1
end Go.Proofs.YtojokdicbopknaaGreat
