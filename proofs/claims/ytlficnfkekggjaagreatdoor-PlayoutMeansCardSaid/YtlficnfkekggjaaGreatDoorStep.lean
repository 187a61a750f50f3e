
/-
  A step of a region that draws its order: an append onto a row of the call's own; the keys of maps whose keys are strings.
-/
import Derived.Test.YtlficnfkekggjaaGreatDoorMaps
import Derived.Test.YtlficnfkekggjaaGreatDoorFacts
namespace Go.Proofs.YtlficnfkekggjaaGreatDoor
open Go.RowKit Go.MapKept

def encB (s : ByteArray) : Value := .string s
theorem kS : Keys Tryz.prog 9 encB := strKeys Tryz.underlying9
theorem mS : Tryz.prog.underlying 203 = some (.map 9 4) := Tryz.underlying203
theorem zB (w : World) : (zeroValue 4).run Tryz.prog w = .ok (.bool false) w := Tryz.zeroValue4 w
theorem step_append_sl {P : Program} {w : World} {ops : Array Oper} {o : Oper} {a : Act} {K : Act → World → Prop} {Q : Exit → Act → World → Prop} {E : Prop} (hgd : o.guard = none) (s x : Operand) (t : TypeId)
    (ho : o.op = .call { callee := .builtin .append, args := #[s, x], argTypes := #[t, t] }) {e : TypeId} {k bytes base : Nat} (El : Elem P t e k bytes)
    {v : Value} {css : List (List Value)} (hs : a.eval s = v) (hown : Own w base e k v css)
    {p : Nat → Prop} {vx : Value} {news : List (List Value)} (hx : a.eval x = vx) (hr : Sl p w k vx news) (hb : (css.length + news.length) * bytes ≤ 140737488355328) (hbase : base ≤ w.heap.size)
    (h : ∀ v' w', Own w' base e k v' (css ++ news) → Ch v.ownBlock.toList w w' → (v'.ownBlock = v.ownBlock ∨ v'.ownBlock = some w.heap.size) → (v' = .slice none 0 0 ↔ css ++ news = [] ∧ v = .slice none 0 0) → K (a.put o.dst v') w') :
    if Region.wanted o (yielded ops a.tmps) = true then Oper.wp P o a w K Q else E := by
  have hw : Region.wanted o (yielded ops a.tmps) = true := by simp [Region.wanted, hgd]
  rw [if_pos hw]
  exact wp_append_sl s x t ho El hs hown hx hr hb hbase h
end Go.Proofs.YtlficnfkekggjaaGreatDoor
