/-
  Closed facts on the program's types: elements of slices, equality of structs.
-/
import Derived.Test.YtbjdikeaolibpaaSpec
import Derived.Test.YtbjdikeaolibpaaChecked
namespace Go.Proofs.Ytbjdikeaolibpaa
open Go.RowKit

theorem elS : Elem Try.prog 38 9 1 16 := Elem.mk' Try.underlying38 (by kernel_rfl) (by decide) (by decide)
theorem elI : Elem Try.prog 73 3 1 8 := Elem.mk' Try.underlying73 (by kernel_rfl) (by decide) (by decide)
theorem elE : Elem Try.prog 43 65 3 40 := Elem.mk' Try.underlying43 (by kernel_rfl) (by decide) (by decide)
theorem elL : Elem Try.prog 25 42 2 24 := Elem.mk' Try.underlying25 (by kernel_rfl) (by decide) (by decide)
theorem elSS : Elem Try.prog 61 38 1 24 := Elem.mk' Try.underlying61 (by kernel_rfl) (by decide) (by decide)
theorem elII : Elem Try.prog 32 73 1 24 := Elem.mk' Try.underlying32 (by kernel_rfl) (by decide) (by decide)
theorem elT : Elem Try.prog 50 52 2 40 := Elem.mk' Try.underlying50 (by kernel_rfl) (by decide) (by decide)
theorem elB : Elem Try.prog 53 57 3 48 := Elem.mk' Try.underlying53 (by kernel_rfl) (by decide) (by decide)
theorem elR : Elem Try.prog 22 55 3 64 := Elem.mk' Try.underlying22 (by kernel_rfl) (by decide) (by decide)
theorem elP : Elem Try.prog 115 135 3 56 := Elem.mk' Try.underlying115 (by kernel_rfl) (by decide) (by decide)
theorem elPP : Elem Try.prog 110 115 1 24 := Elem.mk' Try.underlying110 (by kernel_rfl) (by decide) (by decide)

/-- two edges are one, as the walk asks it -/
def edB (f t : ByteArray) (n : Bool) (f' t' : ByteArray) (n' : Bool) : Bool := f.toList == f'.toList && (t.toList == t'.toList && n == n')
def lvB (s : ByteArray) (n : Int) (s' : ByteArray) (n' : Int) : Bool := s.toList == s'.toList && n == n'

theorem run_equalIn_ed (d : Nat) (f t : ByteArray) (n : Bool) (f' t' : ByteArray) (n' : Bool) (w : World) :
    (Op.equalIn (d + 2) 65 (.agg #[.string f, .string t, .bool n]) (.agg #[.string f', .string t', .bool n'])).run Try.prog w = .ok (edB f t n f' t' n') w := by
  rw [run_equalIn_struct w (d + 1) 65 _ _ (by kernel_rfl) (by kernel_rfl)]
  simp only [Program.fieldsOf, Try.underlying65]
  go_simp
  by_cases h1 : f.toList = f'.toList <;> by_cases h2 : t.toList = t'.toList <;> by_cases h3 : n = n' <;> simp [edB, h1, h2, h3]
theorem run_equalIn_lv (d : Nat) (s : ByteArray) (n : Int) (s' : ByteArray) (n' : Int) (w : World) :
    (Op.equalIn (d + 2) 42 (.agg #[.string s, .int .i64 n]) (.agg #[.string s', .int .i64 n'])).run Try.prog w = .ok (lvB s n s' n') w := by
  rw [run_equalIn_struct w (d + 1) 42 _ _ (by kernel_rfl) (by kernel_rfl)]
  simp only [Program.fieldsOf, Try.underlying42]
  go_simp
  by_cases h1 : s.toList = s'.toList <;> by_cases h3 : n = n' <;> simp [lvB, h1, h3]
theorem run_eql_ed (f t : ByteArray) (n : Bool) (f' t' : ByteArray) (n' : Bool) (w : World) :
    (binOp .eql 65 (.agg #[.string f, .string t, .bool n]) (.agg #[.string f', .string t', .bool n'])).run Try.prog w = .ok (.bool (edB f t n f' t' n')) w := by
  simp only [binOp]
  simp [Op.equal, Op.maxDepth, run_equalIn_ed 9998]
theorem run_neq_ed (f t : ByteArray) (n : Bool) (f' t' : ByteArray) (n' : Bool) (w : World) :
    (binOp .neq 65 (.agg #[.string f, .string t, .bool n]) (.agg #[.string f', .string t', .bool n'])).run Try.prog w = .ok (.bool (!edB f t n f' t' n')) w := by
  simp only [binOp]
  simp [Op.equal, Op.maxDepth, run_equalIn_ed 9998]
theorem run_eql_lv (s : ByteArray) (n : Int) (s' : ByteArray) (n' : Int) (w : World) :
    (binOp .eql 42 (.agg #[.string s, .int .i64 n]) (.agg #[.string s', .int .i64 n'])).run Try.prog w = .ok (.bool (lvB s n s' n')) w := by
  simp only [binOp]
  simp [Op.equal, Op.maxDepth, run_equalIn_lv 9998]
theorem run_neq_lv (s : ByteArray) (n : Int) (s' : ByteArray) (n' : Int) (w : World) :
    (binOp .neq 42 (.agg #[.string s, .int .i64 n]) (.agg #[.string s', .int .i64 n'])).run Try.prog w = .ok (.bool (!lvB s n s' n')) w := by
  simp only [binOp]
  simp [Op.equal, Op.maxDepth, run_equalIn_lv 9998]

theorem edB_eq (e e' : Ed) : edB e.f e.t e.n e'.f e'.t e'.n = decide (e = e') := by
  cases e; cases e'
  simp only [edB, beqS, Ed.mk.injEq, Bool.decide_and]
  congr 2
theorem lvB_eq (e e' : Lv) : lvB e.s e.n e'.s e'.n = decide (e = e') := by
  cases e; cases e'
  simp only [lvB, beqS, Lv.mk.injEq, Bool.decide_and]
  congr 1
end Go.Proofs.Ytbjdikeaolibpaa
