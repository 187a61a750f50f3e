
/-
  An evaluator that the kernel can run: values, trees of sixty-four, the heap and its pages; what each piece answers.
-/
import GoSem.Dispatch
import Derived.KernelRfl
namespace Go.Ev
/-- values with block numbers of their own: numbers (kind, value; .vg: minus value minus one), strings with their length, slices of a known and of an open capacity, .unk: unknown -/
inductive V where
  | vi (k n : Nat)
  | vp (blk off : Nat)
  | vb (x : Bool)
  | vs (n : Nat) (l : List Nat)
  | vg (k n : Nat)
  | pn
  | sl (blk off len cap : Nat)
  | so (blk off len : Nat)
  | sn
  | vm (blk : Nat)
  | mn
  | vf (g : Nat) (cs : List V)
  | fn
  | ni
  | va (cs : List V)
  | vt (vs : List V)
  | unk
  deriving Inhabited

structure Q8 (α : Type) where
  a : α
  b : α
  c : α
  d : α
  e : α
  f : α
  g : α
  h : α
abbrev T64 (α : Type) := Q8 (Q8 α)
structure Ac (α R : Type) where
  get : T64 α → α
  set : T64 α → α → (T64 α → Option R) → Option R
noncomputable def acs (α R : Type) : List (Ac α R) := [
  ⟨fun e => e.a.a, fun e v k => @Q8.rec _ (fun _ => Option R) (fun a b c d e f g h => @Q8.rec _ (fun _ => Option R) (fun _ b' c' d' e' f' g' h' => k ⟨⟨v, b', c', d', e', f', g', h'⟩, b, c, d, e, f, g, h⟩) a) e⟩,
  ⟨fun e => e.a.b, fun e v k => @Q8.rec _ (fun _ => Option R) (fun a b c d e f g h => @Q8.rec _ (fun _ => Option R) (fun a' _ c' d' e' f' g' h' => k ⟨⟨a', v, c', d', e', f', g', h'⟩, b, c, d, e, f, g, h⟩) a) e⟩,
  ⟨fun e => e.a.c, fun e v k => @Q8.rec _ (fun _ => Option R) (fun a b c d e f g h => @Q8.rec _ (fun _ => Option R) (fun a' b' _ d' e' f' g' h' => k ⟨⟨a', b', v, d', e', f', g', h'⟩, b, c, d, e, f, g, h⟩) a) e⟩,
  ⟨fun e => e.a.d, fun e v k => @Q8.rec _ (fun _ => Option R) (fun a b c d e f g h => @Q8.rec _ (fun _ => Option R) (fun a' b' c' _ e' f' g' h' => k ⟨⟨a', b', c', v, e', f', g', h'⟩, b, c, d, e, f, g, h⟩) a) e⟩,
  ⟨fun e => e.a.e, fun e v k => @Q8.rec _ (fun _ => Option R) (fun a b c d e f g h => @Q8.rec _ (fun _ => Option R) (fun a' b' c' d' _ f' g' h' => k ⟨⟨a', b', c', d', v, f', g', h'⟩, b, c, d, e, f, g, h⟩) a) e⟩,
  ⟨fun e => e.a.f, fun e v k => @Q8.rec _ (fun _ => Option R) (fun a b c d e f g h => @Q8.rec _ (fun _ => Option R) (fun a' b' c' d' e' _ g' h' => k ⟨⟨a', b', c', d', e', v, g', h'⟩, b, c, d, e, f, g, h⟩) a) e⟩,
  ⟨fun e => e.a.g, fun e v k => @Q8.rec _ (fun _ => Option R) (fun a b c d e f g h => @Q8.rec _ (fun _ => Option R) (fun a' b' c' d' e' f' _ h' => k ⟨⟨a', b', c', d', e', f', v, h'⟩, b, c, d, e, f, g, h⟩) a) e⟩,
  ⟨fun e => e.a.h, fun e v k => @Q8.rec _ (fun _ => Option R) (fun a b c d e f g h => @Q8.rec _ (fun _ => Option R) (fun a' b' c' d' e' f' g' _ => k ⟨⟨a', b', c', d', e', f', g', v⟩, b, c, d, e, f, g, h⟩) a) e⟩,
  ⟨fun e => e.b.a, fun e v k => @Q8.rec _ (fun _ => Option R) (fun a b c d e f g h => @Q8.rec _ (fun _ => Option R) (fun _ b' c' d' e' f' g' h' => k ⟨a, ⟨v, b', c', d', e', f', g', h'⟩, c, d, e, f, g, h⟩) b) e⟩,
  ⟨fun e => e.b.b, fun e v k => @Q8.rec _ (fun _ => Option R) (fun a b c d e f g h => @Q8.rec _ (fun _ => Option R) (fun a' _ c' d' e' f' g' h' => k ⟨a, ⟨a', v, c', d', e', f', g', h'⟩, c, d, e, f, g, h⟩) b) e⟩,
  ⟨fun e => e.b.c, fun e v k => @Q8.rec _ (fun _ => Option R) (fun a b c d e f g h => @Q8.rec _ (fun _ => Option R) (fun a' b' _ d' e' f' g' h' => k ⟨a, ⟨a', b', v, d', e', f', g', h'⟩, c, d, e, f, g, h⟩) b) e⟩,
  ⟨fun e => e.b.d, fun e v k => @Q8.rec _ (fun _ => Option R) (fun a b c d e f g h => @Q8.rec _ (fun _ => Option R) (fun a' b' c' _ e' f' g' h' => k ⟨a, ⟨a', b', c', v, e', f', g', h'⟩, c, d, e, f, g, h⟩) b) e⟩,
  ⟨fun e => e.b.e, fun e v k => @Q8.rec _ (fun _ => Option R) (fun a b c d e f g h => @Q8.rec _ (fun _ => Option R) (fun a' b' c' d' _ f' g' h' => k ⟨a, ⟨a', b', c', d', v, f', g', h'⟩, c, d, e, f, g, h⟩) b) e⟩,
  ⟨fun e => e.b.f, fun e v k => @Q8.rec _ (fun _ => Option R) (fun a b c d e f g h => @Q8.rec _ (fun _ => Option R) (fun a' b' c' d' e' _ g' h' => k ⟨a, ⟨a', b', c', d', e', v, g', h'⟩, c, d, e, f, g, h⟩) b) e⟩,
  ⟨fun e => e.b.g, fun e v k => @Q8.rec _ (fun _ => Option R) (fun a b c d e f g h => @Q8.rec _ (fun _ => Option R) (fun a' b' c' d' e' f' _ h' => k ⟨a, ⟨a', b', c', d', e', f', v, h'⟩, c, d, e, f, g, h⟩) b) e⟩,
  ⟨fun e => e.b.h, fun e v k => @Q8.rec _ (fun _ => Option R) (fun a b c d e f g h => @Q8.rec _ (fun _ => Option R) (fun a' b' c' d' e' f' g' _ => k ⟨a, ⟨a', b', c', d', e', f', g', v⟩, c, d, e, f, g, h⟩) b) e⟩,
  ⟨fun e => e.c.a, fun e v k => @Q8.rec _ (fun _ => Option R) (fun a b c d e f g h => @Q8.rec _ (fun _ => Option R) (fun _ b' c' d' e' f' g' h' => k ⟨a, b, ⟨v, b', c', d', e', f', g', h'⟩, d, e, f, g, h⟩) c) e⟩,
  ⟨fun e => e.c.b, fun e v k => @Q8.rec _ (fun _ => Option R) (fun a b c d e f g h => @Q8.rec _ (fun _ => Option R) (fun a' _ c' d' e' f' g' h' => k ⟨a, b, ⟨a', v, c', d', e', f', g', h'⟩, d, e, f, g, h⟩) c) e⟩,
  ⟨fun e => e.c.c, fun e v k => @Q8.rec _ (fun _ => Option R) (fun a b c d e f g h => @Q8.rec _ (fun _ => Option R) (fun a' b' _ d' e' f' g' h' => k ⟨a, b, ⟨a', b', v, d', e', f', g', h'⟩, d, e, f, g, h⟩) c) e⟩,
  ⟨fun e => e.c.d, fun e v k => @Q8.rec _ (fun _ => Option R) (fun a b c d e f g h => @Q8.rec _ (fun _ => Option R) (fun a' b' c' _ e' f' g' h' => k ⟨a, b, ⟨a', b', c', v, e', f', g', h'⟩, d, e, f, g, h⟩) c) e⟩,
  ⟨fun e => e.c.e, fun e v k => @Q8.rec _ (fun _ => Option R) (fun a b c d e f g h => @Q8.rec _ (fun _ => Option R) (fun a' b' c' d' _ f' g' h' => k ⟨a, b, ⟨a', b', c', d', v, f', g', h'⟩, d, e, f, g, h⟩) c) e⟩,
  ⟨fun e => e.c.f, fun e v k => @Q8.rec _ (fun _ => Option R) (fun a b c d e f g h => @Q8.rec _ (fun _ => Option R) (fun a' b' c' d' e' _ g' h' => k ⟨a, b, ⟨a', b', c', d', e', v, g', h'⟩, d, e, f, g, h⟩) c) e⟩,
  ⟨fun e => e.c.g, fun e v k => @Q8.rec _ (fun _ => Option R) (fun a b c d e f g h => @Q8.rec _ (fun _ => Option R) (fun a' b' c' d' e' f' _ h' => k ⟨a, b, ⟨a', b', c', d', e', f', v, h'⟩, d, e, f, g, h⟩) c) e⟩,
  ⟨fun e => e.c.h, fun e v k => @Q8.rec _ (fun _ => Option R) (fun a b c d e f g h => @Q8.rec _ (fun _ => Option R) (fun a' b' c' d' e' f' g' _ => k ⟨a, b, ⟨a', b', c', d', e', f', g', v⟩, d, e, f, g, h⟩) c) e⟩,
  ⟨fun e => e.d.a, fun e v k => @Q8.rec _ (fun _ => Option R) (fun a b c d e f g h => @Q8.rec _ (fun _ => Option R) (fun _ b' c' d' e' f' g' h' => k ⟨a, b, c, ⟨v, b', c', d', e', f', g', h'⟩, e, f, g, h⟩) d) e⟩,
  ⟨fun e => e.d.b, fun e v k => @Q8.rec _ (fun _ => Option R) (fun a b c d e f g h => @Q8.rec _ (fun _ => Option R) (fun a' _ c' d' e' f' g' h' => k ⟨a, b, c, ⟨a', v, c', d', e', f', g', h'⟩, e, f, g, h⟩) d) e⟩,
  ⟨fun e => e.d.c, fun e v k => @Q8.rec _ (fun _ => Option R) (fun a b c d e f g h => @Q8.rec _ (fun _ => Option R) (fun a' b' _ d' e' f' g' h' => k ⟨a, b, c, ⟨a', b', v, d', e', f', g', h'⟩, e, f, g, h⟩) d) e⟩,
  ⟨fun e => e.d.d, fun e v k => @Q8.rec _ (fun _ => Option R) (fun a b c d e f g h => @Q8.rec _ (fun _ => Option R) (fun a' b' c' _ e' f' g' h' => k ⟨a, b, c, ⟨a', b', c', v, e', f', g', h'⟩, e, f, g, h⟩) d) e⟩,
  ⟨fun e => e.d.e, fun e v k => @Q8.rec _ (fun _ => Option R) (fun a b c d e f g h => @Q8.rec _ (fun _ => Option R) (fun a' b' c' d' _ f' g' h' => k ⟨a, b, c, ⟨a', b', c', d', v, f', g', h'⟩, e, f, g, h⟩) d) e⟩,
  ⟨fun e => e.d.f, fun e v k => @Q8.rec _ (fun _ => Option R) (fun a b c d e f g h => @Q8.rec _ (fun _ => Option R) (fun a' b' c' d' e' _ g' h' => k ⟨a, b, c, ⟨a', b', c', d', e', v, g', h'⟩, e, f, g, h⟩) d) e⟩,
  ⟨fun e => e.d.g, fun e v k => @Q8.rec _ (fun _ => Option R) (fun a b c d e f g h => @Q8.rec _ (fun _ => Option R) (fun a' b' c' d' e' f' _ h' => k ⟨a, b, c, ⟨a', b', c', d', e', f', v, h'⟩, e, f, g, h⟩) d) e⟩,
  ⟨fun e => e.d.h, fun e v k => @Q8.rec _ (fun _ => Option R) (fun a b c d e f g h => @Q8.rec _ (fun _ => Option R) (fun a' b' c' d' e' f' g' _ => k ⟨a, b, c, ⟨a', b', c', d', e', f', g', v⟩, e, f, g, h⟩) d) e⟩,
  ⟨fun e => e.e.a, fun e v k => @Q8.rec _ (fun _ => Option R) (fun a b c d e f g h => @Q8.rec _ (fun _ => Option R) (fun _ b' c' d' e' f' g' h' => k ⟨a, b, c, d, ⟨v, b', c', d', e', f', g', h'⟩, f, g, h⟩) e) e⟩,
  ⟨fun e => e.e.b, fun e v k => @Q8.rec _ (fun _ => Option R) (fun a b c d e f g h => @Q8.rec _ (fun _ => Option R) (fun a' _ c' d' e' f' g' h' => k ⟨a, b, c, d, ⟨a', v, c', d', e', f', g', h'⟩, f, g, h⟩) e) e⟩,
  ⟨fun e => e.e.c, fun e v k => @Q8.rec _ (fun _ => Option R) (fun a b c d e f g h => @Q8.rec _ (fun _ => Option R) (fun a' b' _ d' e' f' g' h' => k ⟨a, b, c, d, ⟨a', b', v, d', e', f', g', h'⟩, f, g, h⟩) e) e⟩,
  ⟨fun e => e.e.d, fun e v k => @Q8.rec _ (fun _ => Option R) (fun a b c d e f g h => @Q8.rec _ (fun _ => Option R) (fun a' b' c' _ e' f' g' h' => k ⟨a, b, c, d, ⟨a', b', c', v, e', f', g', h'⟩, f, g, h⟩) e) e⟩,
  ⟨fun e => e.e.e, fun e v k => @Q8.rec _ (fun _ => Option R) (fun a b c d e f g h => @Q8.rec _ (fun _ => Option R) (fun a' b' c' d' _ f' g' h' => k ⟨a, b, c, d, ⟨a', b', c', d', v, f', g', h'⟩, f, g, h⟩) e) e⟩,
  ⟨fun e => e.e.f, fun e v k => @Q8.rec _ (fun _ => Option R) (fun a b c d e f g h => @Q8.rec _ (fun _ => Option R) (fun a' b' c' d' e' _ g' h' => k ⟨a, b, c, d, ⟨a', b', c', d', e', v, g', h'⟩, f, g, h⟩) e) e⟩,
  ⟨fun e => e.e.g, fun e v k => @Q8.rec _ (fun _ => Option R) (fun a b c d e f g h => @Q8.rec _ (fun _ => Option R) (fun a' b' c' d' e' f' _ h' => k ⟨a, b, c, d, ⟨a', b', c', d', e', f', v, h'⟩, f, g, h⟩) e) e⟩,
  ⟨fun e => e.e.h, fun e v k => @Q8.rec _ (fun _ => Option R) (fun a b c d e f g h => @Q8.rec _ (fun _ => Option R) (fun a' b' c' d' e' f' g' _ => k ⟨a, b, c, d, ⟨a', b', c', d', e', f', g', v⟩, f, g, h⟩) e) e⟩,
  ⟨fun e => e.f.a, fun e v k => @Q8.rec _ (fun _ => Option R) (fun a b c d e f g h => @Q8.rec _ (fun _ => Option R) (fun _ b' c' d' e' f' g' h' => k ⟨a, b, c, d, e, ⟨v, b', c', d', e', f', g', h'⟩, g, h⟩) f) e⟩,
  ⟨fun e => e.f.b, fun e v k => @Q8.rec _ (fun _ => Option R) (fun a b c d e f g h => @Q8.rec _ (fun _ => Option R) (fun a' _ c' d' e' f' g' h' => k ⟨a, b, c, d, e, ⟨a', v, c', d', e', f', g', h'⟩, g, h⟩) f) e⟩,
  ⟨fun e => e.f.c, fun e v k => @Q8.rec _ (fun _ => Option R) (fun a b c d e f g h => @Q8.rec _ (fun _ => Option R) (fun a' b' _ d' e' f' g' h' => k ⟨a, b, c, d, e, ⟨a', b', v, d', e', f', g', h'⟩, g, h⟩) f) e⟩,
  ⟨fun e => e.f.d, fun e v k => @Q8.rec _ (fun _ => Option R) (fun a b c d e f g h => @Q8.rec _ (fun _ => Option R) (fun a' b' c' _ e' f' g' h' => k ⟨a, b, c, d, e, ⟨a', b', c', v, e', f', g', h'⟩, g, h⟩) f) e⟩,
  ⟨fun e => e.f.e, fun e v k => @Q8.rec _ (fun _ => Option R) (fun a b c d e f g h => @Q8.rec _ (fun _ => Option R) (fun a' b' c' d' _ f' g' h' => k ⟨a, b, c, d, e, ⟨a', b', c', d', v, f', g', h'⟩, g, h⟩) f) e⟩,
  ⟨fun e => e.f.f, fun e v k => @Q8.rec _ (fun _ => Option R) (fun a b c d e f g h => @Q8.rec _ (fun _ => Option R) (fun a' b' c' d' e' _ g' h' => k ⟨a, b, c, d, e, ⟨a', b', c', d', e', v, g', h'⟩, g, h⟩) f) e⟩,
  ⟨fun e => e.f.g, fun e v k => @Q8.rec _ (fun _ => Option R) (fun a b c d e f g h => @Q8.rec _ (fun _ => Option R) (fun a' b' c' d' e' f' _ h' => k ⟨a, b, c, d, e, ⟨a', b', c', d', e', f', v, h'⟩, g, h⟩) f) e⟩,
  ⟨fun e => e.f.h, fun e v k => @Q8.rec _ (fun _ => Option R) (fun a b c d e f g h => @Q8.rec _ (fun _ => Option R) (fun a' b' c' d' e' f' g' _ => k ⟨a, b, c, d, e, ⟨a', b', c', d', e', f', g', v⟩, g, h⟩) f) e⟩,
  ⟨fun e => e.g.a, fun e v k => @Q8.rec _ (fun _ => Option R) (fun a b c d e f g h => @Q8.rec _ (fun _ => Option R) (fun _ b' c' d' e' f' g' h' => k ⟨a, b, c, d, e, f, ⟨v, b', c', d', e', f', g', h'⟩, h⟩) g) e⟩,
  ⟨fun e => e.g.b, fun e v k => @Q8.rec _ (fun _ => Option R) (fun a b c d e f g h => @Q8.rec _ (fun _ => Option R) (fun a' _ c' d' e' f' g' h' => k ⟨a, b, c, d, e, f, ⟨a', v, c', d', e', f', g', h'⟩, h⟩) g) e⟩,
  ⟨fun e => e.g.c, fun e v k => @Q8.rec _ (fun _ => Option R) (fun a b c d e f g h => @Q8.rec _ (fun _ => Option R) (fun a' b' _ d' e' f' g' h' => k ⟨a, b, c, d, e, f, ⟨a', b', v, d', e', f', g', h'⟩, h⟩) g) e⟩,
  ⟨fun e => e.g.d, fun e v k => @Q8.rec _ (fun _ => Option R) (fun a b c d e f g h => @Q8.rec _ (fun _ => Option R) (fun a' b' c' _ e' f' g' h' => k ⟨a, b, c, d, e, f, ⟨a', b', c', v, e', f', g', h'⟩, h⟩) g) e⟩,
  ⟨fun e => e.g.e, fun e v k => @Q8.rec _ (fun _ => Option R) (fun a b c d e f g h => @Q8.rec _ (fun _ => Option R) (fun a' b' c' d' _ f' g' h' => k ⟨a, b, c, d, e, f, ⟨a', b', c', d', v, f', g', h'⟩, h⟩) g) e⟩,
  ⟨fun e => e.g.f, fun e v k => @Q8.rec _ (fun _ => Option R) (fun a b c d e f g h => @Q8.rec _ (fun _ => Option R) (fun a' b' c' d' e' _ g' h' => k ⟨a, b, c, d, e, f, ⟨a', b', c', d', e', v, g', h'⟩, h⟩) g) e⟩,
  ⟨fun e => e.g.g, fun e v k => @Q8.rec _ (fun _ => Option R) (fun a b c d e f g h => @Q8.rec _ (fun _ => Option R) (fun a' b' c' d' e' f' _ h' => k ⟨a, b, c, d, e, f, ⟨a', b', c', d', e', f', v, h'⟩, h⟩) g) e⟩,
  ⟨fun e => e.g.h, fun e v k => @Q8.rec _ (fun _ => Option R) (fun a b c d e f g h => @Q8.rec _ (fun _ => Option R) (fun a' b' c' d' e' f' g' _ => k ⟨a, b, c, d, e, f, ⟨a', b', c', d', e', f', g', v⟩, h⟩) g) e⟩,
  ⟨fun e => e.h.a, fun e v k => @Q8.rec _ (fun _ => Option R) (fun a b c d e f g h => @Q8.rec _ (fun _ => Option R) (fun _ b' c' d' e' f' g' h' => k ⟨a, b, c, d, e, f, g, ⟨v, b', c', d', e', f', g', h'⟩⟩) h) e⟩,
  ⟨fun e => e.h.b, fun e v k => @Q8.rec _ (fun _ => Option R) (fun a b c d e f g h => @Q8.rec _ (fun _ => Option R) (fun a' _ c' d' e' f' g' h' => k ⟨a, b, c, d, e, f, g, ⟨a', v, c', d', e', f', g', h'⟩⟩) h) e⟩,
  ⟨fun e => e.h.c, fun e v k => @Q8.rec _ (fun _ => Option R) (fun a b c d e f g h => @Q8.rec _ (fun _ => Option R) (fun a' b' _ d' e' f' g' h' => k ⟨a, b, c, d, e, f, g, ⟨a', b', v, d', e', f', g', h'⟩⟩) h) e⟩,
  ⟨fun e => e.h.d, fun e v k => @Q8.rec _ (fun _ => Option R) (fun a b c d e f g h => @Q8.rec _ (fun _ => Option R) (fun a' b' c' _ e' f' g' h' => k ⟨a, b, c, d, e, f, g, ⟨a', b', c', v, e', f', g', h'⟩⟩) h) e⟩,
  ⟨fun e => e.h.e, fun e v k => @Q8.rec _ (fun _ => Option R) (fun a b c d e f g h => @Q8.rec _ (fun _ => Option R) (fun a' b' c' d' _ f' g' h' => k ⟨a, b, c, d, e, f, g, ⟨a', b', c', d', v, f', g', h'⟩⟩) h) e⟩,
  ⟨fun e => e.h.f, fun e v k => @Q8.rec _ (fun _ => Option R) (fun a b c d e f g h => @Q8.rec _ (fun _ => Option R) (fun a' b' c' d' e' _ g' h' => k ⟨a, b, c, d, e, f, g, ⟨a', b', c', d', e', v, g', h'⟩⟩) h) e⟩,
  ⟨fun e => e.h.g, fun e v k => @Q8.rec _ (fun _ => Option R) (fun a b c d e f g h => @Q8.rec _ (fun _ => Option R) (fun a' b' c' d' e' f' _ h' => k ⟨a, b, c, d, e, f, g, ⟨a', b', c', d', e', f', v, h'⟩⟩) h) e⟩,
  ⟨fun e => e.h.h, fun e v k => @Q8.rec _ (fun _ => Option R) (fun a b c d e f g h => @Q8.rec _ (fun _ => Option R) (fun a' b' c' d' e' f' g' _ => k ⟨a, b, c, d, e, f, g, ⟨a', b', c', d', e', f', g', v⟩⟩) h) e⟩]
noncomputable def nth {α : Type} (d : α) (l : List α) : Nat → α := @List.rec α (fun _ => Nat → α) (fun _ => d) (fun x _ ih i => @Nat.rec (fun _ => α) x (fun j _ => ih j) i) l
noncomputable def ac (α R : Type) (i : Nat) : Ac α R := nth ⟨fun e => e.a.a, fun _ _ _ => none⟩ (acs α R) i
def q8 {α : Type} (x : α) : Q8 α := ⟨x, x, x, x, x, x, x, x⟩
def t64 {α : Type} (x : α) : T64 α := q8 (q8 x)
section
variable {R : Type}
noncomputable def natF (n : Nat) (k : Nat → Option R) : Option R := @Nat.rec (fun _ => Option R) (k 0) (fun m _ => k (Nat.succ m)) n
noncomputable def natC {α : Type} (n : Nat) (k : Nat → α) : α := @Nat.rec (fun _ => α) (k 0) (fun m _ => k (Nat.succ m)) n
noncomputable def iff (b : Bool) (yes no : Option R) : Option R := @Bool.rec (fun _ => Option R) no yes b
structure E4 where
  a : T64 V
  b : T64 V
  c : T64 V
  d : T64 V
structure EA (R : Type) where
  get : E4 → V
  set : E4 → V → (E4 → Option R) → Option R
noncomputable def ea (R : Type) (i : Nat) : EA R := @Ac.rec V R (fun _ => EA R) (fun get set => match Nat.shiftRight i 6 with
  | 0 => ⟨fun e => get e.a, fun e v k => @E4.rec (fun _ => Option R) (fun a b c d => set a v fun a => k ⟨a, b, c, d⟩) e⟩
  | 1 => ⟨fun e => get e.b, fun e v k => @E4.rec (fun _ => Option R) (fun a b c d => set b v fun b => k ⟨a, b, c, d⟩) e⟩
  | 2 => ⟨fun e => get e.c, fun e v k => @E4.rec (fun _ => Option R) (fun a b c d => set c v fun c => k ⟨a, b, c, d⟩) e⟩
  | 3 => ⟨fun e => get e.d, fun e v k => @E4.rec (fun _ => Option R) (fun a b c d => set d v fun d => k ⟨a, b, c, d⟩) e⟩
  | _ => ⟨fun _ => .unk, fun _ _ _ => none⟩) (ac V R (Nat.land i 63))
/-! heap -/
inductive Blk where
  | gone
  | cel (ty n fz : Nat) (pg : List (T64 V))
  | mp (es : List (V × V × Nat)) (clock : Nat)
abbrev H3 := T64 (T64 (T64 Blk))
structure S where
  h : H3
  n : Nat
  w : List Nat
  base : Nat
noncomputable def getH (h : H3) (id : Nat) (k : Blk → Option R) : Option R :=
  natF (Nat.land id 63) fun d0 => natF (Nat.land (Nat.shiftRight id 6) 63) fun d1 => natF (Nat.shiftRight id 12) fun d2 =>
    iff (Nat.ble d2 63) (k ((ac Blk R d0).get ((ac (T64 Blk) R d1).get ((ac (T64 (T64 Blk)) R d2).get h)))) none
noncomputable def setH (h : H3) (id : Nat) (b : Blk) (k : H3 → Option R) : Option R :=
  natF (Nat.land id 63) fun d0 => natF (Nat.land (Nat.shiftRight id 6) 63) fun d1 => natF (Nat.shiftRight id 12) fun d2 =>
    (ac Blk R d0).set ((ac (T64 Blk) R d1).get ((ac (T64 (T64 Blk)) R d2).get h)) b fun x =>
      (ac (T64 Blk) R d1).set ((ac (T64 (T64 Blk)) R d2).get h) x fun y => (ac (T64 (T64 Blk)) R d2).set h y k
/-! pages of cells -/
abbrev Pg := List (T64 V)
noncomputable def page (pg : Pg) (j : Nat) : T64 V := nth (t64 (.vt [])) pg j
noncomputable def getP (pg : Pg) (i : Nat) (k : V → Option R) : Option R :=
  natF (Nat.land i 63) fun d => k ((ac V R d).get (page pg (Nat.shiftRight i 6)))
/-- page j of a list is replaced; pages are added when lacking -/
noncomputable def setPg (pg : Pg) (q : T64 V) : Nat → Pg := @List.rec _ (fun _ => Nat → Pg) (fun j => @Nat.rec (fun _ => Pg) [q] (fun _ ih => t64 (.vt []) :: ih) j) (fun p r ih j => @Nat.rec (fun _ => Pg) (q :: r) (fun j _ => p :: ih j) j) pg
noncomputable def setP (pg : Pg) (i : Nat) (v : V) (k : Pg → Option R) : Option R :=
  natF (Nat.land i 63) fun d => (ac V R d).set (page pg (Nat.shiftRight i 6)) v fun q =>
    @List.rec _ (fun _ => Option R) none (fun p r _ => k (p :: r)) (setPg pg q (Nat.shiftRight i 6))
noncomputable def getsP (pg : Pg) (n : Nat) : Nat → (List V → Option R) → Option R :=
  @Nat.rec (fun _ => Nat → (List V → Option R) → Option R) (fun _ k => k []) (fun _ ih i k => getP pg i fun v => natF (Nat.succ i) fun i => ih i fun l => k (v :: l)) n
noncomputable def setsP (l : List V) : Pg → Nat → (Pg → Option R) → Option R :=
  @List.rec _ (fun _ => Pg → Nat → (Pg → Option R) → Option R) (fun pg _ k => k pg) (fun v _ ih pg i k => setP pg i v fun pg => natF (Nat.succ i) fun i => ih pg i k) l
noncomputable def lenN {α : Type} (l : List α) : Nat := @List.rec _ (fun _ => Nat) 0 (fun _ _ ih => Nat.succ ih) l
def z8 : Q8 V := q8 (.vt [])
def z64 : T64 V := t64 (.vt [])
noncomputable def hd (l : List V) (i : Nat) : V := nth (.vt []) l i
/-- up to eight cells at once -/
noncomputable def mkP (l : List V) (k : Pg → Option R) : Option R := iff (Nat.ble (lenN l) 8)
  (k [⟨⟨hd l 0, hd l 1, hd l 2, hd l 3, hd l 4, hd l 5, hd l 6, hd l 7⟩, z8, z8, z8, z8, z8, z8, z8⟩]) (setsP l [] 0 k)

/-! ### what they answer -/
theorem natF_eq (n : Nat) (k : Nat → Option R) : natF n k = k n := by cases n <;> rfl
theorem natC_eq {α : Type} (n : Nat) (k : Nat → α) : natC n k = k n := by cases n <;> rfl
theorem iff_true (a b : Option R) : iff true a b = a := rfl
theorem iff_false (a b : Option R) : iff false a b = b := rfl
theorem iff_some {c : Bool} {a : Option R} {r : R} (h : iff c a none = some r) : c = true ∧ a = some r := by
  cases c
  · cases h
  · exact ⟨rfl, h⟩
theorem nth_eq {α : Type} (d : α) : ∀ (l : List α) (i : Nat), nth d l i = (l[i]?).getD d
  | [], i => by simp [nth]
  | x :: l, 0 => rfl
  | x :: l, i + 1 => by have := nth_eq d l i; simp only [nth] at this ⊢; simpa using this
theorem lenN_eq {α : Type} (l : List α) : lenN l = l.length := by
  induction l with
  | nil => rfl
  | cons x l ih => show Nat.succ (lenN l) = _; rw [ih]; rfl
def rd8 {α : Type} (e : Q8 α) : Nat → α
  | 0 => e.a | 1 => e.b | 2 => e.c | 3 => e.d | 4 => e.e | 5 => e.f | 6 => e.g | _ => e.h
def up8 {α : Type} (e : Q8 α) (i : Nat) (v : α) : Q8 α := match i with
  | 0 => { e with a := v } | 1 => { e with b := v } | 2 => { e with c := v } | 3 => { e with d := v } | 4 => { e with e := v } | 5 => { e with f := v } | 6 => { e with g := v } | _ => { e with h := v }
theorem rd8_up8 {α : Type} (e : Q8 α) (v : α) {i j : Nat} (hi : i < 8) (hj : j < 8) : rd8 (up8 e i v) j = if i = j then v else rd8 e j := by
  rcases i with _ | _ | _ | _ | _ | _ | _ | _ | i <;> first | omega | (rcases j with _ | _ | _ | _ | _ | _ | _ | _ | j <;> first | omega | rfl)
def rd {α : Type} (e : T64 α) (i : Nat) : α := rd8 (rd8 e (i / 8)) (i % 8)
def up {α : Type} (e : T64 α) (i : Nat) (v : α) : T64 α := up8 e (i / 8) (up8 (rd8 e (i / 8)) (i % 8) v)
theorem rd_up {α : Type} (e : T64 α) (v : α) {i j : Nat} (hi : i < 64) (hj : j < 64) : rd (up e i v) j = if i = j then v else rd e j := by
  unfold rd up
  rw [rd8_up8 _ _ (by omega) (by omega)]
  by_cases h : i / 8 = j / 8
  · rw [if_pos h, rd8_up8 _ _ (by omega) (by omega)]
    by_cases h2 : i % 8 = j % 8
    · rw [if_pos h2, if_pos (by omega)]
    · rw [if_neg h2, if_neg (by omega), h]
  · rw [if_neg h, if_neg (by omega)]
theorem rd_t64 {α : Type} (x : α) (i : Nat) : rd (t64 x) i = x := by
  have h8 : ∀ {β : Type} (y : β) (j : Nat), rd8 (q8 y) j = y := by intro β y j; rcases j with _ | _ | _ | _ | _ | _ | _ | j <;> rfl
  unfold rd t64
  rw [h8, h8]
/-- an accessor does what it should -/
def AcOk (α R : Type) (i : Nat) : Prop := (∀ e, (ac α R i).get e = rd e i) ∧ ∀ e v k, (ac α R i).set e v k = k (up e i v)
theorem acOk0 (α R : Type) : AcOk α R 0 := ⟨fun _ => rfl, fun _ _ _ => rfl⟩
theorem acOk1 (α R : Type) : AcOk α R 1 := ⟨fun _ => rfl, fun _ _ _ => rfl⟩
theorem acOk2 (α R : Type) : AcOk α R 2 := ⟨fun _ => rfl, fun _ _ _ => rfl⟩
theorem acOk3 (α R : Type) : AcOk α R 3 := ⟨fun _ => rfl, fun _ _ _ => rfl⟩
theorem acOk4 (α R : Type) : AcOk α R 4 := ⟨fun _ => rfl, fun _ _ _ => rfl⟩
theorem acOk5 (α R : Type) : AcOk α R 5 := ⟨fun _ => rfl, fun _ _ _ => rfl⟩
theorem acOk6 (α R : Type) : AcOk α R 6 := ⟨fun _ => rfl, fun _ _ _ => rfl⟩
theorem acOk7 (α R : Type) : AcOk α R 7 := ⟨fun _ => rfl, fun _ _ _ => rfl⟩
theorem acOk8 (α R : Type) : AcOk α R 8 := ⟨fun _ => rfl, fun _ _ _ => rfl⟩
theorem acOk9 (α R : Type) : AcOk α R 9 := ⟨fun _ => rfl, fun _ _ _ => rfl⟩
theorem acOk10 (α R : Type) : AcOk α R 10 := ⟨fun _ => rfl, fun _ _ _ => rfl⟩
theorem acOk11 (α R : Type) : AcOk α R 11 := ⟨fun _ => rfl, fun _ _ _ => rfl⟩
theorem acOk12 (α R : Type) : AcOk α R 12 := ⟨fun _ => rfl, fun _ _ _ => rfl⟩
theorem acOk13 (α R : Type) : AcOk α R 13 := ⟨fun _ => rfl, fun _ _ _ => rfl⟩
theorem acOk14 (α R : Type) : AcOk α R 14 := ⟨fun _ => rfl, fun _ _ _ => rfl⟩
theorem acOk15 (α R : Type) : AcOk α R 15 := ⟨fun _ => rfl, fun _ _ _ => rfl⟩
theorem acOk16 (α R : Type) : AcOk α R 16 := ⟨fun _ => rfl, fun _ _ _ => rfl⟩
theorem acOk17 (α R : Type) : AcOk α R 17 := ⟨fun _ => rfl, fun _ _ _ => rfl⟩
theorem acOk18 (α R : Type) : AcOk α R 18 := ⟨fun _ => rfl, fun _ _ _ => rfl⟩
theorem acOk19 (α R : Type) : AcOk α R 19 := ⟨fun _ => rfl, fun _ _ _ => rfl⟩
theorem acOk20 (α R : Type) : AcOk α R 20 := ⟨fun _ => rfl, fun _ _ _ => rfl⟩
theorem acOk21 (α R : Type) : AcOk α R 21 := ⟨fun _ => rfl, fun _ _ _ => rfl⟩
theorem acOk22 (α R : Type) : AcOk α R 22 := ⟨fun _ => rfl, fun _ _ _ => rfl⟩
theorem acOk23 (α R : Type) : AcOk α R 23 := ⟨fun _ => rfl, fun _ _ _ => rfl⟩
theorem acOk24 (α R : Type) : AcOk α R 24 := ⟨fun _ => rfl, fun _ _ _ => rfl⟩
theorem acOk25 (α R : Type) : AcOk α R 25 := ⟨fun _ => rfl, fun _ _ _ => rfl⟩
theorem acOk26 (α R : Type) : AcOk α R 26 := ⟨fun _ => rfl, fun _ _ _ => rfl⟩
theorem acOk27 (α R : Type) : AcOk α R 27 := ⟨fun _ => rfl, fun _ _ _ => rfl⟩
theorem acOk28 (α R : Type) : AcOk α R 28 := ⟨fun _ => rfl, fun _ _ _ => rfl⟩
theorem acOk29 (α R : Type) : AcOk α R 29 := ⟨fun _ => rfl, fun _ _ _ => rfl⟩
theorem acOk30 (α R : Type) : AcOk α R 30 := ⟨fun _ => rfl, fun _ _ _ => rfl⟩
theorem acOk31 (α R : Type) : AcOk α R 31 := ⟨fun _ => rfl, fun _ _ _ => rfl⟩
theorem acOk32 (α R : Type) : AcOk α R 32 := ⟨fun _ => rfl, fun _ _ _ => rfl⟩
theorem acOk33 (α R : Type) : AcOk α R 33 := ⟨fun _ => rfl, fun _ _ _ => rfl⟩
theorem acOk34 (α R : Type) : AcOk α R 34 := ⟨fun _ => rfl, fun _ _ _ => rfl⟩
theorem acOk35 (α R : Type) : AcOk α R 35 := ⟨fun _ => rfl, fun _ _ _ => rfl⟩
theorem acOk36 (α R : Type) : AcOk α R 36 := ⟨fun _ => rfl, fun _ _ _ => rfl⟩
theorem acOk37 (α R : Type) : AcOk α R 37 := ⟨fun _ => rfl, fun _ _ _ => rfl⟩
theorem acOk38 (α R : Type) : AcOk α R 38 := ⟨fun _ => rfl, fun _ _ _ => rfl⟩
theorem acOk39 (α R : Type) : AcOk α R 39 := ⟨fun _ => rfl, fun _ _ _ => rfl⟩
theorem acOk40 (α R : Type) : AcOk α R 40 := ⟨fun _ => rfl, fun _ _ _ => rfl⟩
theorem acOk41 (α R : Type) : AcOk α R 41 := ⟨fun _ => rfl, fun _ _ _ => rfl⟩
theorem acOk42 (α R : Type) : AcOk α R 42 := ⟨fun _ => rfl, fun _ _ _ => rfl⟩
theorem acOk43 (α R : Type) : AcOk α R 43 := ⟨fun _ => rfl, fun _ _ _ => rfl⟩
theorem acOk44 (α R : Type) : AcOk α R 44 := ⟨fun _ => rfl, fun _ _ _ => rfl⟩
theorem acOk45 (α R : Type) : AcOk α R 45 := ⟨fun _ => rfl, fun _ _ _ => rfl⟩
theorem acOk46 (α R : Type) : AcOk α R 46 := ⟨fun _ => rfl, fun _ _ _ => rfl⟩
theorem acOk47 (α R : Type) : AcOk α R 47 := ⟨fun _ => rfl, fun _ _ _ => rfl⟩
theorem acOk48 (α R : Type) : AcOk α R 48 := ⟨fun _ => rfl, fun _ _ _ => rfl⟩
theorem acOk49 (α R : Type) : AcOk α R 49 := ⟨fun _ => rfl, fun _ _ _ => rfl⟩
theorem acOk50 (α R : Type) : AcOk α R 50 := ⟨fun _ => rfl, fun _ _ _ => rfl⟩
theorem acOk51 (α R : Type) : AcOk α R 51 := ⟨fun _ => rfl, fun _ _ _ => rfl⟩
theorem acOk52 (α R : Type) : AcOk α R 52 := ⟨fun _ => rfl, fun _ _ _ => rfl⟩
theorem acOk53 (α R : Type) : AcOk α R 53 := ⟨fun _ => rfl, fun _ _ _ => rfl⟩
theorem acOk54 (α R : Type) : AcOk α R 54 := ⟨fun _ => rfl, fun _ _ _ => rfl⟩
theorem acOk55 (α R : Type) : AcOk α R 55 := ⟨fun _ => rfl, fun _ _ _ => rfl⟩
theorem acOk56 (α R : Type) : AcOk α R 56 := ⟨fun _ => rfl, fun _ _ _ => rfl⟩
theorem acOk57 (α R : Type) : AcOk α R 57 := ⟨fun _ => rfl, fun _ _ _ => rfl⟩
theorem acOk58 (α R : Type) : AcOk α R 58 := ⟨fun _ => rfl, fun _ _ _ => rfl⟩
theorem acOk59 (α R : Type) : AcOk α R 59 := ⟨fun _ => rfl, fun _ _ _ => rfl⟩
theorem acOk60 (α R : Type) : AcOk α R 60 := ⟨fun _ => rfl, fun _ _ _ => rfl⟩
theorem acOk61 (α R : Type) : AcOk α R 61 := ⟨fun _ => rfl, fun _ _ _ => rfl⟩
theorem acOk62 (α R : Type) : AcOk α R 62 := ⟨fun _ => rfl, fun _ _ _ => rfl⟩
theorem acOk63 (α R : Type) : AcOk α R 63 := ⟨fun _ => rfl, fun _ _ _ => rfl⟩
theorem acOk (α R : Type) : ∀ i, i < 64 → AcOk α R i := by
  intro i hi
  rcases Nat.lt_or_ge i 32 with h | h
  · rcases Nat.lt_or_ge i 16 with h | h
    · rcases Nat.lt_or_ge i 8 with h | h
      · rcases Nat.lt_or_ge i 4 with h | h
        · rcases Nat.lt_or_ge i 2 with h | h
          · rcases Nat.lt_or_ge i 1 with h | h
            · obtain rfl : i = 0 := by omega
              exact acOk0 α R
            · obtain rfl : i = 1 := by omega
              exact acOk1 α R
          · rcases Nat.lt_or_ge i 3 with h | h
            · obtain rfl : i = 2 := by omega
              exact acOk2 α R
            · obtain rfl : i = 3 := by omega
              exact acOk3 α R
        · rcases Nat.lt_or_ge i 6 with h | h
          · rcases Nat.lt_or_ge i 5 with h | h
            · obtain rfl : i = 4 := by omega
              exact acOk4 α R
            · obtain rfl : i = 5 := by omega
              exact acOk5 α R
          · rcases Nat.lt_or_ge i 7 with h | h
            · obtain rfl : i = 6 := by omega
              exact acOk6 α R
            · obtain rfl : i = 7 := by omega
              exact acOk7 α R
      · rcases Nat.lt_or_ge i 12 with h | h
        · rcases Nat.lt_or_ge i 10 with h | h
          · rcases Nat.lt_or_ge i 9 with h | h
            · obtain rfl : i = 8 := by omega
              exact acOk8 α R
            · obtain rfl : i = 9 := by omega
              exact acOk9 α R
          · rcases Nat.lt_or_ge i 11 with h | h
            · obtain rfl : i = 10 := by omega
              exact acOk10 α R
            · obtain rfl : i = 11 := by omega
              exact acOk11 α R
        · rcases Nat.lt_or_ge i 14 with h | h
          · rcases Nat.lt_or_ge i 13 with h | h
            · obtain rfl : i = 12 := by omega
              exact acOk12 α R
            · obtain rfl : i = 13 := by omega
              exact acOk13 α R
          · rcases Nat.lt_or_ge i 15 with h | h
            · obtain rfl : i = 14 := by omega
              exact acOk14 α R
            · obtain rfl : i = 15 := by omega
              exact acOk15 α R
    · rcases Nat.lt_or_ge i 24 with h | h
      · rcases Nat.lt_or_ge i 20 with h | h
        · rcases Nat.lt_or_ge i 18 with h | h
          · rcases Nat.lt_or_ge i 17 with h | h
            · obtain rfl : i = 16 := by omega
              exact acOk16 α R
            · obtain rfl : i = 17 := by omega
              exact acOk17 α R
          · rcases Nat.lt_or_ge i 19 with h | h
            · obtain rfl : i = 18 := by omega
              exact acOk18 α R
            · obtain rfl : i = 19 := by omega
              exact acOk19 α R
        · rcases Nat.lt_or_ge i 22 with h | h
          · rcases Nat.lt_or_ge i 21 with h | h
            · obtain rfl : i = 20 := by omega
              exact acOk20 α R
            · obtain rfl : i = 21 := by omega
              exact acOk21 α R
          · rcases Nat.lt_or_ge i 23 with h | h
            · obtain rfl : i = 22 := by omega
              exact acOk22 α R
            · obtain rfl : i = 23 := by omega
              exact acOk23 α R
      · rcases Nat.lt_or_ge i 28 with h | h
        · rcases Nat.lt_or_ge i 26 with h | h
          · rcases Nat.lt_or_ge i 25 with h | h
            · obtain rfl : i = 24 := by omega
              exact acOk24 α R
            · obtain rfl : i = 25 := by omega
              exact acOk25 α R
          · rcases Nat.lt_or_ge i 27 with h | h
            · obtain rfl : i = 26 := by omega
              exact acOk26 α R
            · obtain rfl : i = 27 := by omega
              exact acOk27 α R
        · rcases Nat.lt_or_ge i 30 with h | h
          · rcases Nat.lt_or_ge i 29 with h | h
            · obtain rfl : i = 28 := by omega
              exact acOk28 α R
            · obtain rfl : i = 29 := by omega
              exact acOk29 α R
          · rcases Nat.lt_or_ge i 31 with h | h
            · obtain rfl : i = 30 := by omega
              exact acOk30 α R
            · obtain rfl : i = 31 := by omega
              exact acOk31 α R
  · rcases Nat.lt_or_ge i 48 with h | h
    · rcases Nat.lt_or_ge i 40 with h | h
      · rcases Nat.lt_or_ge i 36 with h | h
        · rcases Nat.lt_or_ge i 34 with h | h
          · rcases Nat.lt_or_ge i 33 with h | h
            · obtain rfl : i = 32 := by omega
              exact acOk32 α R
            · obtain rfl : i = 33 := by omega
              exact acOk33 α R
          · rcases Nat.lt_or_ge i 35 with h | h
            · obtain rfl : i = 34 := by omega
              exact acOk34 α R
            · obtain rfl : i = 35 := by omega
              exact acOk35 α R
        · rcases Nat.lt_or_ge i 38 with h | h
          · rcases Nat.lt_or_ge i 37 with h | h
            · obtain rfl : i = 36 := by omega
              exact acOk36 α R
            · obtain rfl : i = 37 := by omega
              exact acOk37 α R
          · rcases Nat.lt_or_ge i 39 with h | h
            · obtain rfl : i = 38 := by omega
              exact acOk38 α R
            · obtain rfl : i = 39 := by omega
              exact acOk39 α R
      · rcases Nat.lt_or_ge i 44 with h | h
        · rcases Nat.lt_or_ge i 42 with h | h
          · rcases Nat.lt_or_ge i 41 with h | h
            · obtain rfl : i = 40 := by omega
              exact acOk40 α R
            · obtain rfl : i = 41 := by omega
              exact acOk41 α R
          · rcases Nat.lt_or_ge i 43 with h | h
            · obtain rfl : i = 42 := by omega
              exact acOk42 α R
            · obtain rfl : i = 43 := by omega
              exact acOk43 α R
        · rcases Nat.lt_or_ge i 46 with h | h
          · rcases Nat.lt_or_ge i 45 with h | h
            · obtain rfl : i = 44 := by omega
              exact acOk44 α R
            · obtain rfl : i = 45 := by omega
              exact acOk45 α R
          · rcases Nat.lt_or_ge i 47 with h | h
            · obtain rfl : i = 46 := by omega
              exact acOk46 α R
            · obtain rfl : i = 47 := by omega
              exact acOk47 α R
    · rcases Nat.lt_or_ge i 56 with h | h
      · rcases Nat.lt_or_ge i 52 with h | h
        · rcases Nat.lt_or_ge i 50 with h | h
          · rcases Nat.lt_or_ge i 49 with h | h
            · obtain rfl : i = 48 := by omega
              exact acOk48 α R
            · obtain rfl : i = 49 := by omega
              exact acOk49 α R
          · rcases Nat.lt_or_ge i 51 with h | h
            · obtain rfl : i = 50 := by omega
              exact acOk50 α R
            · obtain rfl : i = 51 := by omega
              exact acOk51 α R
        · rcases Nat.lt_or_ge i 54 with h | h
          · rcases Nat.lt_or_ge i 53 with h | h
            · obtain rfl : i = 52 := by omega
              exact acOk52 α R
            · obtain rfl : i = 53 := by omega
              exact acOk53 α R
          · rcases Nat.lt_or_ge i 55 with h | h
            · obtain rfl : i = 54 := by omega
              exact acOk54 α R
            · obtain rfl : i = 55 := by omega
              exact acOk55 α R
      · rcases Nat.lt_or_ge i 60 with h | h
        · rcases Nat.lt_or_ge i 58 with h | h
          · rcases Nat.lt_or_ge i 57 with h | h
            · obtain rfl : i = 56 := by omega
              exact acOk56 α R
            · obtain rfl : i = 57 := by omega
              exact acOk57 α R
          · rcases Nat.lt_or_ge i 59 with h | h
            · obtain rfl : i = 58 := by omega
              exact acOk58 α R
            · obtain rfl : i = 59 := by omega
              exact acOk59 α R
        · rcases Nat.lt_or_ge i 62 with h | h
          · rcases Nat.lt_or_ge i 61 with h | h
            · obtain rfl : i = 60 := by omega
              exact acOk60 α R
            · obtain rfl : i = 61 := by omega
              exact acOk61 α R
          · rcases Nat.lt_or_ge i 63 with h | h
            · obtain rfl : i = 62 := by omega
              exact acOk62 α R
            · obtain rfl : i = 63 := by omega
              exact acOk63 α R
theorem ac_get {α : Type} (R : Type) {i : Nat} (hi : i < 64) (e : T64 α) : (ac α R i).get e = rd e i := (acOk α R i hi).1 e
theorem ac_set {α R : Type} {i : Nat} (hi : i < 64) (e : T64 α) (v : α) (k : T64 α → Option R) : (ac α R i).set e v k = k (up e i v) := (acOk α R i hi).2 e v k
theorem ac_far {α R : Type} {i : Nat} (hi : 64 ≤ i) (e : T64 α) (v : α) (k : T64 α → Option R) : (ac α R i).set e v k = none := by
  unfold ac
  rw [nth_eq, List.getElem?_eq_none (by show 64 ≤ i; exact hi)]
  rfl

/-! ### frames -/
def rdE (e : E4) (i : Nat) : V := if i < 64 then rd e.a i else if i < 128 then rd e.b (i % 64) else if i < 192 then rd e.c (i % 64) else rd e.d (i % 64)
def upE (e : E4) (i : Nat) (v : V) : E4 := if i < 64 then { e with a := up e.a i v } else if i < 128 then { e with b := up e.b (i % 64) v } else if i < 192 then { e with c := up e.c (i % 64) v } else { e with d := up e.d (i % 64) v }
theorem rdE_upE (e : E4) (v : V) {i j : Nat} (hi : i < 256) (hj : j < 256) : rdE (upE e i v) j = if i = j then v else rdE e j := by
  have key : ∀ t : T64 V, i / 64 = j / 64 → rd (up t (i % 64) v) (j % 64) = if i = j then v else rd t (j % 64) := fun t h => by
    rw [rd_up _ _ (by omega) (by omega)]
    by_cases hh : i % 64 = j % 64
    · rw [if_pos hh, if_pos (by omega)]
    · rw [if_neg hh, if_neg (by omega)]
  have ne : i / 64 ≠ j / 64 → ∀ x y : V, (if i = j then x else y) = y := fun h x y => if_neg (by omega)
  unfold upE rdE
  by_cases hq : i / 64 = j / 64
  · by_cases h1 : i < 64
    · have k1 : j < 64 := by omega
      have := key e.a hq
      rw [show i % 64 = i by omega, show j % 64 = j by omega] at this
      simp only [h1, k1, if_true]; exact this
    · have k1 : ¬ j < 64 := by omega
      by_cases h2 : i < 128
      · have k2 : j < 128 := by omega
        simp only [h1, k1, h2, k2, if_true, if_false]; exact key _ hq
      · have k2 : ¬ j < 128 := by omega
        by_cases h3 : i < 192
        · have k3 : j < 192 := by omega
          simp only [h1, k1, h2, k2, h3, k3, if_true, if_false]; exact key _ hq
        · have k3 : ¬ j < 192 := by omega
          simp only [h1, k1, h2, k2, h3, k3, if_false]; exact key _ hq
  · rw [ne hq]
    by_cases h1 : i < 64 <;> by_cases k1 : j < 64 <;> by_cases h2 : i < 128 <;> by_cases k2 : j < 128 <;> by_cases h3 : i < 192 <;> by_cases k3 : j < 192 <;>
      first
        | omega
        | simp only [h1, k1, h2, k2, h3, k3, if_true, if_false]
theorem land63 (n : Nat) : Nat.land n 63 = n % 64 := Nat.and_two_pow_sub_one_eq_mod n 6
theorem shr6 (n : Nat) : Nat.shiftRight n 6 = n / 64 := Nat.shiftRight_eq_div_pow n 6
theorem shr12 (n : Nat) : Nat.shiftRight n 12 = n / 4096 := Nat.shiftRight_eq_div_pow n 12
theorem ea_get (R : Type) {i : Nat} (hi : i < 256) (e : E4) : (ea R i).get e = rdE e i := by
  have hd : i % 64 < 64 := by omega
  have H := ac_get (α := V) R hd
  unfold ea rdE
  rw [land63, shr6]
  generalize hA : ac V R (i % 64) = A at H
  obtain ⟨g, s⟩ := A
  rcases Nat.lt_or_ge i 64 with h | h
  · rw [show i / 64 = 0 by omega, if_pos h]; have := H e.a; rw [show i % 64 = i by omega] at this; exact this
  rcases Nat.lt_or_ge i 128 with h2 | h2
  · rw [show i / 64 = 1 by omega, if_neg (by omega), if_pos h2]; exact H e.b
  rcases Nat.lt_or_ge i 192 with h3 | h3
  · rw [show i / 64 = 2 by omega, if_neg (by omega), if_neg (by omega), if_pos h3]; exact H e.c
  · rw [show i / 64 = 3 by omega, if_neg (by omega), if_neg (by omega), if_neg (by omega)]; exact H e.d
theorem ea_set {i : Nat} (hi : i < 256) (e : E4) (v : V) (k : E4 → Option R) : (ea R i).set e v k = k (upE e i v) := by
  have hd : i % 64 < 64 := by omega
  have H := fun e v k => ac_set (α := V) (R := R) hd e v k
  unfold ea upE
  rw [land63, shr6]
  generalize hA : ac V R (i % 64) = A at H
  obtain ⟨g, s⟩ := A
  obtain ⟨ea, eb, ec, ed⟩ := e
  rcases Nat.lt_or_ge i 64 with h | h
  · rw [show i / 64 = 0 by omega, if_pos h]; have := H ea v (fun a => k ⟨a, eb, ec, ed⟩); rw [show i % 64 = i by omega] at this; exact this
  rcases Nat.lt_or_ge i 128 with h2 | h2
  · rw [show i / 64 = 1 by omega, if_neg (by omega), if_pos h2]; exact H eb v (fun b => k ⟨ea, b, ec, ed⟩)
  rcases Nat.lt_or_ge i 192 with h3 | h3
  · rw [show i / 64 = 2 by omega, if_neg (by omega), if_neg (by omega), if_pos h3]; exact H ec v (fun c => k ⟨ea, eb, c, ed⟩)
  · rw [show i / 64 = 3 by omega, if_neg (by omega), if_neg (by omega), if_neg (by omega)]; exact H ed v (fun d => k ⟨ea, eb, ec, d⟩)
theorem ea_far {i : Nat} (hi : 256 ≤ i) (e : E4) (v : V) (k : E4 → Option R) : (ea R i).set e v k = none := by
  unfold ea
  rw [shr6]
  generalize ac V R (Nat.land i 63) = A
  obtain ⟨g, s⟩ := A
  obtain ⟨n, hn⟩ : ∃ n, i / 64 = n + 4 := ⟨i / 64 - 4, by omega⟩
  rw [hn]
  rfl

/-! ### the heap -/
def look (h : H3) (b : Nat) : Blk := rd (rd (rd h (b / 4096)) (b / 64 % 64)) (b % 64)
def updH (h : H3) (b : Nat) (x : Blk) : H3 := up h (b / 4096) (up (rd h (b / 4096)) (b / 64 % 64) (up (rd (rd h (b / 4096)) (b / 64 % 64)) (b % 64) x))
theorem look_upd (h : H3) (x : Blk) {b c : Nat} (hb : b < 262144) (hc : c < 262144) : look (updH h b x) c = if b = c then x else look h c := by
  unfold look updH
  rw [rd_up _ _ (by omega) (by omega)]
  by_cases h1 : b / 4096 = c / 4096
  · rw [if_pos h1, rd_up _ _ (by omega) (by omega)]
    by_cases h2 : b / 64 % 64 = c / 64 % 64
    · rw [if_pos h2, rd_up _ _ (by omega) (by omega)]
      by_cases h3 : b % 64 = c % 64
      · rw [if_pos h3, if_pos (by omega)]
      · rw [if_neg h3, if_neg (by omega), h1, h2]
    · rw [if_neg h2, if_neg (by omega), h1]
  · rw [if_neg h1, if_neg (by omega)]
theorem getH_some {b : Nat} {h : H3} {k : Blk → Option R} {r : R} (e : getH h b k = some r) : b < 262144 ∧ k (look h b) = some r := by
  unfold getH at e
  simp only [natF_eq] at e
  obtain ⟨hb, e⟩ := iff_some e
  rw [shr12] at hb
  have hb := Nat.le_of_ble_eq_true hb
  rw [land63, land63, shr6, shr12, ac_get R (by omega), ac_get R (by omega), ac_get R (by omega)] at e
  exact ⟨by omega, e⟩
theorem setH_some {b : Nat} {h : H3} {x : Blk} {k : H3 → Option R} {r : R} (e : setH h b x k = some r) : b < 262144 ∧ k (updH h b x) = some r := by
  unfold setH at e
  simp only [natF_eq] at e
  rw [land63, land63, shr6, shr12, ac_set (by omega), ac_set (by omega)] at e
  rcases Nat.lt_or_ge b 262144 with hb | hb
  · rw [ac_set (by omega), ac_get R (by omega), ac_get R (by omega)] at e
    exact ⟨hb, e⟩
  · rw [ac_far (by omega)] at e
    cases e
/-! ### pages -/
def pageAt (pg : Pg) (j : Nat) : T64 V := (pg[j]?).getD (t64 (.vt []))
def cell (pg : Pg) (i : Nat) : V := rd (pageAt pg (i / 64)) (i % 64)
theorem page_eq (pg : Pg) (j : Nat) : page pg j = pageAt pg j := nth_eq _ _ _
theorem getP_eq (pg : Pg) (i : Nat) (k : V → Option R) : getP pg i k = k (cell pg i) := by
  unfold getP cell
  rw [natF_eq, land63, shr6, page_eq, ac_get R (by omega)]
theorem setPg_at (q : T64 V) : ∀ (pg : Pg) (j i : Nat), pageAt (setPg pg q j) i = if j = i then q else pageAt pg i
  | [], 0, 0 => rfl
  | [], 0, i + 1 => rfl
  | [], j + 1, 0 => rfl
  | [], j + 1, i + 1 => by
    have := setPg_at q [] j i
    show pageAt (setPg [] q j) i = _
    rw [this]
    by_cases h : j = i <;> simp [h, pageAt]
  | p :: r, 0, 0 => rfl
  | p :: r, 0, i + 1 => rfl
  | p :: r, j + 1, 0 => rfl
  | p :: r, j + 1, i + 1 => by
    have := setPg_at q r j i
    show pageAt (setPg r q j) i = _
    rw [this]
    by_cases h : j = i <;> simp [h, pageAt]
theorem setPg_ne (q : T64 V) (pg : Pg) (j : Nat) : ∃ p r, setPg pg q j = p :: r := by
  cases pg <;> cases j <;> exact ⟨_, _, rfl⟩
noncomputable def updP (pg : Pg) (i : Nat) (v : V) : Pg := setPg pg (up (pageAt pg (i / 64)) (i % 64) v) (i / 64)
theorem setP_eq (pg : Pg) (i : Nat) (v : V) (k : Pg → Option R) : setP pg i v k = k (updP pg i v) := by
  unfold setP updP
  rw [natF_eq, land63, shr6, page_eq, ac_set (by omega)]
  obtain ⟨p, r, e⟩ := setPg_ne (up (pageAt pg (i / 64)) (i % 64) v) pg (i / 64)
  rw [e]
theorem cell_upd (pg : Pg) (v : V) (i j : Nat) : cell (updP pg i v) j = if i = j then v else cell pg j := by
  unfold cell updP
  rw [setPg_at]
  by_cases h : i / 64 = j / 64
  · rw [if_pos h, rd_up _ _ (by omega) (by omega)]
    by_cases h2 : i % 64 = j % 64
    · rw [if_pos h2, if_pos (by omega)]
    · rw [if_neg h2, if_neg (by omega), h]
  · rw [if_neg h, if_neg (by omega)]
/-- the cells of a range -/
def cells (pg : Pg) (i : Nat) : Nat → List V
  | 0 => []
  | n + 1 => cell pg i :: cells pg (i + 1) n
theorem cells_len (pg : Pg) : ∀ (n i : Nat), (cells pg i n).length = n
  | 0, _ => rfl
  | n + 1, i => by simp [cells, cells_len pg n]
theorem cells_at (pg : Pg) : ∀ (n i j : Nat), j < n → (cells pg i n)[j]? = some (cell pg (i + j))
  | n + 1, i, 0, _ => rfl
  | n + 1, i, j + 1, h => by
    show (cells pg (i + 1) n)[j]? = _
    rw [cells_at pg n (i + 1) j (by omega)]
    congr 2; omega
theorem getsP_eq (pg : Pg) : ∀ (n i : Nat) (k : List V → Option R), getsP pg n i k = k (cells pg i n)
  | 0, _, _ => rfl
  | n + 1, i, k => by
    show getP pg i (fun v => natF (Nat.succ i) fun i => getsP pg n i fun l => k (v :: l)) = _
    rw [getP_eq, natF_eq, getsP_eq pg n]
    rfl
noncomputable def updsP (pg : Pg) (i : Nat) : List V → Pg
  | [] => pg
  | v :: l => updsP (updP pg i v) (i + 1) l
theorem setsP_eq : ∀ (l : List V) (pg : Pg) (i : Nat) (k : Pg → Option R), setsP l pg i k = k (updsP pg i l)
  | [], _, _, _ => rfl
  | v :: l, pg, i, k => by
    show setP pg i v (fun pg => natF (Nat.succ i) fun i => setsP l pg i k) = _
    rw [setP_eq, natF_eq, setsP_eq l]
    rfl
theorem cell_upds : ∀ (l : List V) (pg : Pg) (i j : Nat), cell (updsP pg i l) j = if i ≤ j ∧ j < i + l.length then (l[j - i]?).getD (.vt []) else cell pg j
  | [], pg, i, j => by
    rw [if_neg (by simp)]; rfl
  | v :: l, pg, i, j => by
    show cell (updsP (updP pg i v) (i + 1) l) j = _
    rw [cell_upds l, cell_upd]
    by_cases h : i + 1 ≤ j ∧ j < i + 1 + l.length
    · rw [if_pos h, if_pos (by simp; omega)]
      obtain ⟨m, hm⟩ : ∃ m, j - i = m + 1 := ⟨j - i - 1, by omega⟩
      rw [hm, show j - (i + 1) = m by omega]; rfl
    · rw [if_neg h]
      by_cases h2 : i = j
      · rw [if_pos h2, if_pos (by simp; omega), h2]; simp
      · rw [if_neg h2, if_neg (by simp; omega)]
/-- what mkP lays -/
theorem mkP_some {l : List V} {k : Pg → Option R} {r : R} (e : mkP l k = some r) : ∃ pg, k pg = some r ∧ ∀ i, i < l.length → l[i]? = some (cell pg i) := by
  unfold mkP at e
  rw [lenN_eq] at e
  rcases Nat.lt_or_ge 8 l.length with h | h
  · rw [show Nat.ble l.length 8 = false by cases hb : Nat.ble l.length 8; rfl; have := Nat.le_of_ble_eq_true hb; omega] at e
    rw [iff_false, setsP_eq] at e
    refine ⟨_, e, fun i hi => ?_⟩
    rw [cell_upds, if_pos (by omega)]
    simp [hi]
  · rw [Nat.ble_eq_true_of_le h, iff_true] at e
    refine ⟨_, e, fun i hi => ?_⟩
    have hh : ∀ i, i < l.length → l[i]? = some (hd l i) := fun i hi => by unfold hd; rw [nth_eq]; simp [hi]
    rw [hh i hi]
    unfold cell pageAt
    rcases i with _ | _ | _ | _ | _ | _ | _ | _ | i <;> first | omega | rfl
end
end Go.Ev
