
/-
  The words on memory that the other texts share: a slice that reads as a list of elements, a block known whole, what a call may have changed, a map of the call's own as a list of entries. No program is in sight here.
-/
import Derived.WalkKit
import Derived.WalkSpells
import Derived.WalkLawsBesides
import Derived.Lib.Hide
import Derived.Deep.QuietTactic
import Derived.BigQuiet
import Derived.Maps.AppendAt
import Derived.Deep.AppendLies
import Derived.Deep.Draws
import Derived.RegionTactic
import Derived.MapKept
namespace Go.Proofs.YtlficnfkekggjaaGreatDoor
open Go.RowKit

/-! ### what has changed -/

/-- from w to w' only the blocks of S may have been written; new blocks may have been laid -/
structure Ch (S : List Nat) (w w' : World) : Prop where
  os : w'.os = w.os
  tape : w'.tape = w.tape
  output : w'.output = w.output
  size : w.heap.size ≤ w'.heap.size
  block : ∀ k, k < w.heap.size → k ∉ S → w'.heap[k]? = w.heap[k]?

theorem Ch.refl (S : List Nat) (w : World) : Ch S w w := ⟨rfl, rfl, rfl, Nat.le_refl _, fun _ _ _ => rfl⟩
theorem Ch.step {S S1 : List Nat} {a b c : World} (h : Ch S a b) (k : Ch S1 b c) (hs : ∀ x ∈ S1, x ∈ S ∨ a.heap.size ≤ x) : Ch S a c :=
  ⟨k.os.trans h.os, k.tape.trans h.tape, k.output.trans h.output, Nat.le_trans h.size k.size, fun i hi hn =>
    (k.block i (Nat.lt_of_lt_of_le hi h.size) (fun hm => by rcases hs i hm with h1 | h1; exact hn h1; omega)).trans (h.block i hi hn)⟩
theorem Ch.trans {S : List Nat} {a b c : World} (h : Ch S a b) (k : Ch S b c) : Ch S a c := h.step k fun _ hx => .inl hx
theorem Ch.mono {S S' : List Nat} {a b : World} (h : Ch S a b) (hs : ∀ x ∈ S, x ∈ S' ∨ a.heap.size ≤ x) : Ch S' a b := (Ch.refl S' a).step h hs
theorem Ch.of_nil {S : List Nat} {a b : World} (h : Ch [] a b) : Ch S a b := h.mono (by simp)
theorem Ch.drew {S : List Nat} {a w : World} (h : Ch S a w) : Ch S a w.drew := ⟨h.os, h.tape, h.output, h.size, h.block⟩
theorem Ch.drewN {S : List Nat} {a w : World} (h : Ch S a w) (n : Nat) : Ch S a (w.drewN n) := ⟨h.os, h.tape, h.output, h.size, h.block⟩
theorem Ch.alloc {S : List Nat} {a w : World} (h : Ch S a w) (o : Obj) : Ch S a (w.alloc o) :=
  h.step (S1 := []) ⟨rfl, rfl, rfl, by simp, fun k hk _ => Below.heap_alloc _ _ _ hk⟩ (by simp)
theorem Ch.set {S : List Nat} {a w : World} (h : Ch S a w) {p : Addr} (hp : p.block ∈ S ∨ a.heap.size ≤ p.block) (u : Value) : Ch S a (w.setCell p u) :=
  h.step (S1 := [p.block]) ⟨rfl, rfl, rfl, by simp [World.setCell], fun k _ hn => Below.heap_setCell _ _ _ _ (by simpa using hn)⟩ (by simpa using hp)
theorem Ch.of_below {w w' : World} (h : Below w.heap.size w w') : Ch [] w w' := ⟨h.os, h.tape, h.output, h.size, fun k hk _ => h.block k hk⟩
theorem Ch.below {w w' : World} (h : Ch [] w w') : Below w.heap.size w w' := ⟨h.os, h.tape, h.output, h.size, fun k hk => h.block k hk (by simp)⟩
theorem Ch.of_grown {w w' : World} {row : Option Nat} (h : w.grownBy w' row) : Ch row.toList w w' :=
  ⟨h.os, h.tape, h.output, h.size, fun k hk hn => h.block k hk (fun e => hn (by rw [← e]; simp))⟩
theorem Ch.grown {S : List Nat} {a w w' : World} {row : Option Nat} (h : Ch S a w) (hg : w.grownBy w' row) (hr : ∀ k, row = some k → k ∈ S ∨ a.heap.size ≤ k) : Ch S a w' :=
  h.step (Ch.of_grown hg) (by cases row <;> simp_all)
theorem Ch.call {S : List Nat} {a w w' : World} (h : Ch S a w) (k : Ch [] w w') : Ch S a w' := h.step k (by simp)

/-! ### a block known whole -/

def Blk (w : World) (g : Nat) (t : TypeId) (cs : Array Value) : Prop := w.heap[g]? = some (.cells cs t (0, 0))

section
variable {w w' : World} {g : Nat} {t : TypeId} {cs : Array Value}
theorem lt_of_heap {w : World} {g : Nat} {o : Obj} (h : w.heap[g]? = some o) : g < w.heap.size := (Array.getElem?_eq_some_iff.1 h).1
theorem Blk.lt (h : Blk w g t cs) : g < w.heap.size := lt_of_heap h
theorem Blk.cell (h : Blk w g t cs) (i : Nat) : w.cell? ⟨g, i, none⟩ = cs[i]? := cell_of_row w g i cs t (0, 0) h
theorem Blk.frozen (h : Blk w g t cs) (i : Nat) : w.frozen? ⟨g, i, none⟩ = false := by
  unfold Blk at h
  simp [World.frozen?, h]
theorem Blk.new (w : World) (t : TypeId) (cs : Array Value) : Blk (w.alloc (.cells cs t)) w.heap.size t cs := heap_alloc_new w _
theorem Blk.drew (h : Blk w g t cs) : Blk w.drew g t cs := h
theorem Blk.drewN (h : Blk w g t cs) (n : Nat) : Blk (w.drewN n) g t cs := h
theorem Blk.alloc (h : Blk w g t cs) (o : Obj) : Blk (w.alloc o) g t cs := (Below.heap_alloc w o g h.lt).trans h
theorem Blk.set_ (h : Blk w g t cs) (i : Nat) (u : Value) : Blk (w.setCell ⟨g, i, none⟩ u) g t (cs.setIfInBounds i u) := by
  unfold Blk at h ⊢
  simp [World.setCell, Array.getElem?_modify, h]
theorem Blk.far (h : Blk w g t cs) {p : Addr} (hp : g ≠ p.block) (u : Value) : Blk (w.setCell p u) g t cs := (Below.heap_setCell w p u g hp).trans h
theorem Blk.ch {S : List Nat} (h : Blk w g t cs) (hc : Ch S w w') (hg : g ∉ S) : Blk w' g t cs := (hc.block g h.lt hg).trans h
theorem Blk.ne_ {g' : Nat} {t' : TypeId} {cs' : Array Value} (h : Blk w g t cs) (h' : Blk w g' t' cs') (hne : t ≠ t') : g ≠ g' := by
  rintro rfl
  unfold Blk at h h'
  rw [h] at h'
  injection h' with h'
  injection h' with _ ht
  exact hne ht
end

/-! ### a slice that reads as a list of elements of k cells each; p: where its cells lie -/

def Sl (p : Nat → Prop) (w : World) (k : Nat) (v : Value) (css : List (List Value)) : Prop :=
  ∃ a c, v = .slice a css.length c ∧ css.length ≤ c ∧ c ≤ maxLen ∧
    ∀ i cs, css[i]? = some cs → (cs.length = k ∧ ∀ u ∈ cs, u.oneCell' = true) ∧ ∃ b o, a = some ⟨b, o, none⟩ ∧ (p b ∧ b < w.heap.size) ∧ ∀ j u, cs[j]? = some u → w.cell? ⟨b, o + (i * k + j), none⟩ = some u

section
variable {p q : Nat → Prop} {w w' : World} {k : Nat} {v : Value} {css : List (List Value)}
theorem lt_of_cell {w : World} {a : Addr} {u : Value} (h : w.cell? a = some u) : a.block < w.heap.size := by
  unfold World.cell? at h
  cases hb : w.heap[a.block]? with
  | none => simp [hb] at h
  | some o => exact lt_of_heap hb
theorem cell_ch {S : List Nat} {a : Addr} {u : Value} (h : w.cell? a = some u) (hc : Ch S w w') (hn : a.block ∉ S) : w'.cell? a = some u := by
  rw [World.cell?_of_block (w := w) (hc.block _ (lt_of_cell h) hn)]; exact h
theorem Sl.nil (p : Nat → Prop) (w : World) (k : Nat) : Sl p w k (.slice none 0 0) [] := ⟨none, 0, rfl, Nat.le_refl _, Nat.zero_le _, by simp⟩
theorem Sl.imp (h : Sl p w k v css) (hs : w.heap.size ≤ w'.heap.size) (hk : ∀ b, b < w.heap.size → p b → q b ∧ w'.heap[b]? = w.heap[b]?) : Sl q w' k v css := by
  obtain ⟨a, c, h1, h2, h3, h4⟩ := h
  refine ⟨a, c, h1, h2, h3, fun i cs hi => ?_⟩
  obtain ⟨hl, b, o, rfl, ⟨hp, hb⟩, hc⟩ := h4 i cs hi
  obtain ⟨h5, h6⟩ := hk b hb hp
  exact ⟨hl, b, o, rfl, ⟨h5, by omega⟩, fun j u hu => (World.cell?_of_block (w := w) h6).trans (hc j u hu)⟩
theorem Sl.weak (h : Sl p w k v css) (hk : ∀ b, b < w.heap.size → p b → q b) : Sl q w k v css := h.imp (Nat.le_refl _) fun b hb hp => ⟨hk b hb hp, rfl⟩
theorem Sl.ch {S : List Nat} (h : Sl p w k v css) (hc : Ch S w w') (hp : ∀ b, b < w.heap.size → p b → b ∉ S) : Sl p w' k v css :=
  h.imp hc.size fun b hb h1 => ⟨h1, hc.block b hb (hp b hb h1)⟩
theorem Sl.ch0 (h : Sl p w k v css) (hc : Ch [] w w') : Sl p w' k v css := h.ch hc (by simp)
theorem Sl.len (h : Sl p w k v css) : css.length ≤ maxLen := by obtain ⟨a, c, _, h2, h3, _⟩ := h; omega
theorem Sl.form (h : Sl p w k v css) : ∃ a c, v = .slice a css.length c := by obtain ⟨a, c, h1, _⟩ := h; exact ⟨a, c, h1⟩
/-- what is cut off in front and behind -/
theorem Sl.row (h : Sl p w k v css) (hne : css ≠ []) : ∃ b o c, v = .slice (some ⟨b, o, none⟩) css.length c ∧ css.length ≤ c ∧ c ≤ maxLen ∧ (p b ∧ b < w.heap.size) ∧
    ∀ i cs, css[i]? = some cs → (cs.length = k ∧ ∀ u ∈ cs, u.oneCell' = true) ∧ ∀ j u, cs[j]? = some u → w.cell? ⟨b, o + (i * k + j), none⟩ = some u := by
  obtain ⟨a, c, h1, h2, h3, h4⟩ := h
  cases css with
  | nil => exact absurd rfl hne
  | cons x r =>
    obtain ⟨_, b, o, rfl, hp, _⟩ := h4 0 x rfl
    refine ⟨b, o, c, h1, h2, h3, hp, fun i cs hi => ?_⟩
    obtain ⟨hl, b', o', e, _, hc⟩ := h4 i cs hi
    injection e with e
    injection e with e1 e2
    subst e1 e2
    exact ⟨hl, hc⟩
end

/-- the cells of elements one behind the other -/
theorem flat_get : ∀ (css : List (List Value)) (k : Nat), (∀ cs ∈ css, cs.length = k) → ∀ i cs j u, css[i]? = some cs → cs[j]? = some u → (css.flatten)[i * k + j]? = some u
  | [], _, _, i, _, _, _, h, _ => by simp at h
  | x :: r, k, hk, 0, cs, j, u, h, hu => by
    simp only [List.getElem?_cons_zero, Option.some.injEq] at h
    subst h
    have hj : j < x.length := (List.getElem?_eq_some_iff.1 hu).1
    simp only [List.flatten_cons, Nat.zero_mul, Nat.zero_add]
    rw [List.getElem?_append_left hj]; exact hu
  | x :: r, k, hk, i + 1, cs, j, u, h, hu => by
    have hx : x.length = k := hk x (by simp)
    have := flat_get r k (fun c hc => hk c (by simp [hc])) i cs j u (by simpa using h) hu
    simp only [List.flatten_cons]
    rw [List.getElem?_append_right (by rw [hx, Nat.add_mul]; omega)]
    rw [← this]; congr 1; rw [hx, Nat.add_mul]; omega
theorem flat_len : ∀ (css : List (List Value)) (k : Nat), (∀ cs ∈ css, cs.length = k) → css.flatten.length = css.length * k
  | [], _, _ => by simp
  | x :: r, k, hk => by
    simp only [List.flatten_cons, List.length_append, List.length_cons, flat_len r k (fun c hc => hk c (by simp [hc])), hk x (by simp), Nat.add_mul]; omega

/-! ### the kinds of elements -/

structure Ed where
  f : ByteArray
  t : ByteArray
  n : Bool
structure Lv where
  s : ByteArray
  n : Int
def encS (s : ByteArray) : List Value := [.string s]
def encI (n : Int) : List Value := [.int .i64 n]
def Ed.enc (e : Ed) : List Value := [.string e.f, .string e.t, .bool e.n]
def Lv.enc (l : Lv) : List Value := [.string l.s, .int .i64 l.n]

def SlS (p : Nat → Prop) (w : World) (v : Value) (xs : List ByteArray) : Prop := Sl p w 1 v (xs.map encS)
def SlI (p : Nat → Prop) (w : World) (v : Value) (xs : List Int) : Prop := Sl p w 1 v (xs.map encI)
def SlE (p : Nat → Prop) (w : World) (v : Value) (xs : List Ed) : Prop := Sl p w 3 v (xs.map Ed.enc)
def SlL (p : Nat → Prop) (w : World) (v : Value) (xs : List Lv) : Prop := Sl p w 2 v (xs.map Lv.enc)

section
variable {p : Nat → Prop} {w : World} {k : Nat} {v : Value} {css : List (List Value)} {a : Option Addr} {n c i : Nat}
theorem Sl.at_ (h : Sl p w k (.slice a n c) css) {cs : List Value} (hi : css[i]? = some cs) : ∃ b o, a = some ⟨b, o, none⟩ ∧ (p b ∧ b < w.heap.size) ∧ ∀ j u, cs[j]? = some u → w.cell? ⟨b, o + (i * k + j), none⟩ = some u := by
  obtain ⟨a', c', h1, _, _, h4⟩ := h
  injection h1 with h1
  subst h1
  exact (h4 i cs hi).2
theorem Sl.form' (h : Sl p w k v css) : ∃ a c, v = .slice a css.length c ∧ css.length ≤ c ∧ c ≤ maxLen := by obtain ⟨a, c, h1, h2, h3, _⟩ := h; exact ⟨a, c, h1, h2, h3⟩
theorem SlS.form {xs : List ByteArray} (h : SlS p w v xs) : ∃ a c, v = .slice a xs.length c ∧ xs.length ≤ c ∧ c ≤ maxLen := by simpa using Sl.form' h
theorem SlI.form {xs : List Int} (h : SlI p w v xs) : ∃ a c, v = .slice a xs.length c ∧ xs.length ≤ c ∧ c ≤ maxLen := by simpa using Sl.form' h
theorem SlE.form {xs : List Ed} (h : SlE p w v xs) : ∃ a c, v = .slice a xs.length c ∧ xs.length ≤ c ∧ c ≤ maxLen := by simpa using Sl.form' h
theorem SlL.form {xs : List Lv} (h : SlL p w v xs) : ∃ a c, v = .slice a xs.length c ∧ xs.length ≤ c ∧ c ≤ maxLen := by simpa using Sl.form' h
theorem SlS.at_ {xs : List ByteArray} (h : SlS p w (.slice a n c) xs) (hi : i < xs.length) : ∃ b o, a = some ⟨b, o, none⟩ ∧ (p b ∧ b < w.heap.size) ∧ w.cell? ⟨b, o + i, none⟩ = some (.string xs[i]) := by
  obtain ⟨b, o, rfl, hp, hc⟩ := Sl.at_ h (i := i) (cs := encS xs[i]) (by simp [hi])
  exact ⟨b, o, rfl, hp, by simpa using hc 0 _ rfl⟩
theorem SlI.at_ {xs : List Int} (h : SlI p w (.slice a n c) xs) (hi : i < xs.length) : ∃ b o, a = some ⟨b, o, none⟩ ∧ (p b ∧ b < w.heap.size) ∧ w.cell? ⟨b, o + i, none⟩ = some (.int .i64 xs[i]) := by
  obtain ⟨b, o, rfl, hp, hc⟩ := Sl.at_ h (i := i) (cs := encI xs[i]) (by simp [hi])
  exact ⟨b, o, rfl, hp, by simpa using hc 0 _ rfl⟩
theorem SlE.at_ {xs : List Ed} (h : SlE p w (.slice a n c) xs) (hi : i < xs.length) : ∃ b o, a = some ⟨b, o, none⟩ ∧ (p b ∧ b < w.heap.size) ∧
    w.cell? ⟨b, o + i * 3, none⟩ = some (.string xs[i].f) ∧ w.cell? ⟨b, o + i * 3 + 1, none⟩ = some (.string xs[i].t) ∧ w.cell? ⟨b, o + i * 3 + 2, none⟩ = some (.bool xs[i].n) := by
  obtain ⟨b, o, rfl, hp, hc⟩ := Sl.at_ h (i := i) (cs := xs[i].enc) (by simp [hi])
  exact ⟨b, o, rfl, hp, by simpa using hc 0 _ rfl, by simpa [Nat.add_assoc] using hc 1 _ rfl, by simpa [Nat.add_assoc] using hc 2 _ rfl⟩
theorem SlL.at_ {xs : List Lv} (h : SlL p w (.slice a n c) xs) (hi : i < xs.length) : ∃ b o, a = some ⟨b, o, none⟩ ∧ (p b ∧ b < w.heap.size) ∧
    w.cell? ⟨b, o + i * 2, none⟩ = some (.string xs[i].s) ∧ w.cell? ⟨b, o + i * 2 + 1, none⟩ = some (.int .i64 xs[i].n) := by
  obtain ⟨b, o, rfl, hp, hc⟩ := Sl.at_ h (i := i) (cs := xs[i].enc) (by simp [hi])
  exact ⟨b, o, rfl, hp, by simpa using hc 0 _ rfl, by simpa [Nat.add_assoc] using hc 1 _ rfl⟩
end
section
variable {p q : Nat → Prop} {w w' : World} {v : Value} {S : List Nat}
theorem SlS.ch {xs : List ByteArray} (h : SlS p w v xs) (hc : Ch S w w') (hp : ∀ b, b < w.heap.size → p b → b ∉ S) : SlS p w' v xs := Sl.ch h hc hp
theorem SlI.ch {xs : List Int} (h : SlI p w v xs) (hc : Ch S w w') (hp : ∀ b, b < w.heap.size → p b → b ∉ S) : SlI p w' v xs := Sl.ch h hc hp
theorem SlE.ch {xs : List Ed} (h : SlE p w v xs) (hc : Ch S w w') (hp : ∀ b, b < w.heap.size → p b → b ∉ S) : SlE p w' v xs := Sl.ch h hc hp
theorem SlL.ch {xs : List Lv} (h : SlL p w v xs) (hc : Ch S w w') (hp : ∀ b, b < w.heap.size → p b → b ∉ S) : SlL p w' v xs := Sl.ch h hc hp
theorem SlS.ch0 {xs : List ByteArray} (h : SlS p w v xs) (hc : Ch [] w w') : SlS p w' v xs := Sl.ch0 h hc
theorem SlI.ch0 {xs : List Int} (h : SlI p w v xs) (hc : Ch [] w w') : SlI p w' v xs := Sl.ch0 h hc
theorem SlE.ch0 {xs : List Ed} (h : SlE p w v xs) (hc : Ch [] w w') : SlE p w' v xs := Sl.ch0 h hc
theorem SlL.ch0 {xs : List Lv} (h : SlL p w v xs) (hc : Ch [] w w') : SlL p w' v xs := Sl.ch0 h hc
theorem SlS.weak {xs : List ByteArray} (h : SlS p w v xs) (hk : ∀ b, b < w.heap.size → p b → q b) : SlS q w v xs := Sl.weak h hk
theorem SlI.weak {xs : List Int} (h : SlI p w v xs) (hk : ∀ b, b < w.heap.size → p b → q b) : SlI q w v xs := Sl.weak h hk
theorem SlE.weak {xs : List Ed} (h : SlE p w v xs) (hk : ∀ b, b < w.heap.size → p b → q b) : SlE q w v xs := Sl.weak h hk
theorem SlL.weak {xs : List Lv} (h : SlL p w v xs) (hk : ∀ b, b < w.heap.size → p b → q b) : SlL q w v xs := Sl.weak h hk
end

/-! ### slices of slices -/

/-- v is a slice of one-cell values, each of which stands to the list's element as R says -/
def SlN {α : Type} (R : World → Value → α → Prop) (p : Nat → Prop) (w : World) (v : Value) (l : List α) : Prop :=
  ∃ us : List Value, us.length = l.length ∧ Sl p w 1 v (us.map fun u => [u]) ∧ ∀ (i : Nat) (u : Value) (x : α), us[i]? = some u → l[i]? = some x → R w u x
def SlII (p : Nat → Prop) (w : World) (v : Value) (l : List (List Int)) : Prop := SlN (fun w => SlI p w) p w v l
def SlSS (p : Nat → Prop) (w : World) (v : Value) (l : List (List ByteArray)) : Prop := SlN (fun w => SlS p w) p w v l
section
variable {α : Type} {R : World → Value → α → Prop} {p q : Nat → Prop} {w w' : World} {v : Value} {l : List α} {a : Option Addr} {n c i : Nat} {S : List Nat}
theorem SlN.form (h : SlN R p w v l) : ∃ a c, v = .slice a l.length c ∧ l.length ≤ c ∧ c ≤ maxLen := by
  obtain ⟨us, hu, h1, _⟩ := h
  have := Sl.form' h1
  simpa [hu] using this
theorem SlN.at_ (h : SlN R p w (.slice a n c) l) (hi : i < l.length) : ∃ b o u, a = some ⟨b, o, none⟩ ∧ (p b ∧ b < w.heap.size) ∧ w.cell? ⟨b, o + i, none⟩ = some u ∧ R w u l[i] := by
  obtain ⟨us, hu, h1, h2⟩ := h
  have hi' : i < us.length := by omega
  obtain ⟨b, o, rfl, hp, hc⟩ := Sl.at_ h1 (i := i) (cs := [us[i]]) (by simp [hi'])
  exact ⟨b, o, us[i], rfl, hp, by simpa using hc 0 _ rfl, h2 i _ _ (List.getElem?_eq_getElem hi') (List.getElem?_eq_getElem hi)⟩
theorem SlN.imp {R' : World → Value → α → Prop} (h : SlN R p w v l) (hs : w.heap.size ≤ w'.heap.size) (hk : ∀ b, b < w.heap.size → p b → q b ∧ w'.heap[b]? = w.heap[b]?) (hR : ∀ u x, x ∈ l → R w u x → R' w' u x) : SlN R' q w' v l := by
  obtain ⟨us, hu, h1, h2⟩ := h
  exact ⟨us, hu, h1.imp hs hk, fun i u x h3 h4 => hR _ _ (List.mem_of_getElem? h4) (h2 i u x h3 h4)⟩
theorem SlII.ch {l : List (List Int)} (h : SlII p w v l) (hc : Ch S w w') (hp : ∀ b, b < w.heap.size → p b → b ∉ S) : SlII p w' v l :=
  SlN.imp h hc.size (fun b hb h1 => ⟨h1, hc.block b hb (hp b hb h1)⟩) (fun _ _ _ h => SlI.ch h hc hp)
theorem SlSS.ch {l : List (List ByteArray)} (h : SlSS p w v l) (hc : Ch S w w') (hp : ∀ b, b < w.heap.size → p b → b ∉ S) : SlSS p w' v l :=
  SlN.imp h hc.size (fun b hb h1 => ⟨h1, hc.block b hb (hp b hb h1)⟩) (fun _ _ _ h => SlS.ch h hc hp)
theorem SlII.ch0 {l : List (List Int)} (h : SlII p w v l) (hc : Ch [] w w') : SlII p w' v l := SlII.ch h hc (by simp)
theorem SlSS.ch0 {l : List (List ByteArray)} (h : SlSS p w v l) (hc : Ch [] w w') : SlSS p w' v l := SlSS.ch h hc (by simp)
theorem SlII.form {l : List (List Int)} (h : SlII p w v l) : ∃ a c, v = .slice a l.length c ∧ l.length ≤ c ∧ c ≤ maxLen := SlN.form h
theorem SlSS.form {l : List (List ByteArray)} (h : SlSS p w v l) : ∃ a c, v = .slice a l.length c ∧ l.length ≤ c ∧ c ≤ maxLen := SlN.form h
theorem SlII.at_ {l : List (List Int)} (h : SlII p w (.slice a n c) l) (hi : i < l.length) : ∃ b o a' c', a = some ⟨b, o, none⟩ ∧ (p b ∧ b < w.heap.size) ∧ w.cell? ⟨b, o + i, none⟩ = some (.slice a' l[i].length c') ∧ SlI p w (.slice a' l[i].length c') l[i] := by
  obtain ⟨b, o, u, h1, h2, h3, h4⟩ := SlN.at_ h hi
  obtain ⟨a', c', rfl, _⟩ := SlI.form h4
  exact ⟨b, o, a', c', h1, h2, h3, h4⟩
theorem SlSS.at_ {l : List (List ByteArray)} (h : SlSS p w (.slice a n c) l) (hi : i < l.length) : ∃ b o a' c', a = some ⟨b, o, none⟩ ∧ (p b ∧ b < w.heap.size) ∧ w.cell? ⟨b, o + i, none⟩ = some (.slice a' l[i].length c') ∧ SlS p w (.slice a' l[i].length c') l[i] := by
  obtain ⟨b, o, u, h1, h2, h3, h4⟩ := SlN.at_ h hi
  obtain ⟨a', c', rfl, _⟩ := SlS.form h4
  exact ⟨b, o, a', c', h1, h2, h3, h4⟩
end

/-! ### what is cut off -/
theorem add_off (b o m : Nat) : (⟨b, o, none⟩ : Addr).add m = ⟨b, o + m, none⟩ := by unfold Addr.add; split <;> simp_all
section
variable {p : Nat → Prop} {w : World} {k : Nat} {css : List (List Value)} {a : Option Addr} {n c m : Nat}
theorem Sl.take (h : Sl p w k (.slice a n c) css) (hm : m ≤ n) : Sl p w k (.slice a m c) (css.take m) := by
  obtain ⟨a', c', h1, h2, h3, h4⟩ := h
  injection h1 with h1 h5 h6
  subst h1 h5 h6
  refine ⟨a, c, by simp [Nat.min_eq_left hm], by simp; omega, h3, fun i cs hi => ?_⟩
  rw [List.getElem?_take] at hi
  split at hi
  · exact h4 i cs hi
  · cases hi
theorem Sl.drop (h : Sl p w k (.slice a n c) css) (hm : m ≤ n) : Sl p w k (.slice (if c = m then a else a.map (·.add (m * k))) (n - m) (c - m)) (css.drop m) := by
  obtain ⟨a', c', h1, h2, h3, h4⟩ := h
  injection h1 with h1 h5 h6
  subst h1 h5 h6
  refine ⟨if c = m then a else a.map (·.add (m * k)), c - m, by simp, by simp; omega, by omega, fun i cs hi => ?_⟩
  rw [List.getElem?_drop] at hi
  have hlt : m + i < css.length := (List.getElem?_eq_some_iff.1 hi).1
  obtain ⟨hl, b, o, rfl, hp, hc⟩ := h4 (m + i) cs hi
  refine ⟨hl, b, o + m * k, ?_, hp, fun j u hu => ?_⟩
  · rw [if_neg (by omega)]
    simp [add_off]
  · have := hc j u hu
    rw [show o + m * k + (i * k + j) = o + ((m + i) * k + j) from by rw [Nat.add_mul]; omega]
    exact this
theorem SlS.take {xs : List ByteArray} (h : SlS p w (.slice a n c) xs) (hm : m ≤ n) : SlS p w (.slice a m c) (xs.take m) := by
  have := Sl.take h hm
  rwa [← List.map_take] at this
theorem SlS.drop {xs : List ByteArray} (h : SlS p w (.slice a n c) xs) (hm : m ≤ n) : SlS p w (.slice (if c = m then a else a.map (·.add m)) (n - m) (c - m)) (xs.drop m) := by
  have := Sl.drop h hm
  rw [← List.map_drop, Nat.mul_one] at this
  exact this
theorem SlE.take {xs : List Ed} (h : SlE p w (.slice a n c) xs) (hm : m ≤ n) : SlE p w (.slice a m c) (xs.take m) := by
  have := Sl.take h hm
  rwa [← List.map_take] at this
theorem SlE.drop {xs : List Ed} (h : SlE p w (.slice a n c) xs) (hm : m ≤ n) : SlE p w (.slice (if c = m then a else a.map (·.add (m * 3))) (n - m) (c - m)) (xs.drop m) := by
  have := Sl.drop h hm
  rwa [← List.map_drop] at this
end

/-! ### a row of the call's own -/

/-- v is a slice of elements of k cells that the call owns (its block, if any, from base on); it reads css -/
def Own (w : World) (base : Nat) (e : TypeId) (k : Nat) (v : Value) (css : List (List Value)) : Prop :=
  w.ownsRow base e k v css.length css.flatten ∧ ∀ cs ∈ css, cs.length = k ∧ ∀ u ∈ cs, u.oneCell' = true
section
variable {w w' : World} {base k : Nat} {e : TypeId} {v : Value} {css : List (List Value)}
theorem Own.nil (w : World) (base : Nat) (e : TypeId) (k : Nat) : Own w base e k (.slice none 0 0) [] := ⟨World.ownsRow_nil w base e k, by simp⟩
theorem Own.lt (h : Own w base e k v css) {b : Nat} (hb : v.ownBlock = some b) : base ≤ b ∧ b < w.heap.size := h.1.lt b hb
theorem Own.ch {S : List Nat} (h : Own w base e k v css) (hc : Ch S w w') (hn : ∀ b, v.ownBlock = some b → b ∉ S) : Own w' base e k v css := by
  refine ⟨?_, h.2⟩
  have h0 := h.1
  refine ⟨h0.1, ?_⟩
  rcases h0.2 with hz | ⟨g, cap, cur, rfl, hb, hg, rest⟩
  · exact .inl hz
  · exact .inr ⟨g, cap, cur, rfl, hb, (hc.block g (lt_of_heap hg) (hn g rfl)).trans hg, rest⟩
theorem Own.base_le {base' : Nat} (h : Own w base e k v css) (hb : base' ≤ base) : Own w base' e k v css := by
  refine ⟨⟨h.1.1, ?_⟩, h.2⟩
  rcases h.1.2 with hz | ⟨g, cap, cur, rfl, hb', r⟩
  · exact .inl hz
  · exact .inr ⟨g, cap, cur, rfl, by omega, r⟩
theorem Own.form (h : Own w base e k v css) : (v = .slice none 0 0 ∧ css = []) ∨ ∃ g c, v = .slice (some ⟨g, 0, none⟩) css.length c ∧ base ≤ g ∧ g < w.heap.size := by
  rcases h.1.2 with ⟨rfl, hz⟩ | ⟨g, cap, cur, rfl, hb, hg, _⟩
  · exact .inl ⟨rfl, List.eq_nil_of_length_eq_zero hz⟩
  · exact .inr ⟨g, cap, rfl, hb, lt_of_heap hg⟩
theorem Own.form' (h : Own w base e k v css) : ∃ a c, v = .slice a css.length c := by
  rcases h.form with ⟨rfl, rfl⟩ | ⟨g, c, rfl, _⟩
  · exact ⟨_, _, rfl⟩
  · exact ⟨_, _, rfl⟩
/-- an owned row, read as elements -/
theorem Own.sl (h : Own w base e k v css) : Sl (fun b => base ≤ b ∧ v.ownBlock = some b) w k v css := by
  obtain ⟨h0, hk⟩ := h
  rcases h0.2 with ⟨rfl, hz⟩ | ⟨g, cap, cur, rfl, hb, hg, hn, hm, hs, ht⟩
  · have : css = [] := List.eq_nil_of_length_eq_zero hz
    subst this
    exact Sl.nil _ w k
  · refine ⟨_, cap, rfl, hn, hm, fun i cs hi => ⟨hk cs (List.mem_of_getElem? hi), g, 0, rfl, ⟨⟨hb, rfl⟩, lt_of_heap hg⟩, fun j u hu => ?_⟩⟩
    have h1 := h0.cells (g := g) rfl (i * k + j) u (flat_get css k (fun c hc => (hk c hc).1) i cs j u hi hu)
    rw [Nat.zero_add]
    have hadd : (⟨g, 0, none⟩ : Addr).add (i * k + j) = ⟨g, i * k + j, none⟩ := by unfold Addr.add; split <;> simp_all
    rw [hadd] at h1; exact h1
end

/-- the new block that buildSlice lays: one element -/
theorem Sl.one (w : World) (k : Nat) (e : TypeId) (cs : List Value) (hk : cs.length = k) (h1 : ∀ u ∈ cs, u.oneCell' = true) :
    Sl (fun b => b = w.heap.size) (w.alloc (.cells cs.toArray e)) k (.slice (some ⟨w.heap.size, 0, none⟩) 1 1) [cs] := by
  refine ⟨_, 1, rfl, by simp, by decide, fun i c hi => ?_⟩
  match i, hi with
  | 0, hi =>
    simp only [List.getElem?_cons_zero, Option.some.injEq] at hi
    subst hi
    refine ⟨⟨hk, h1⟩, w.heap.size, 0, rfl, ⟨rfl, by simp⟩, fun j u hu => ?_⟩
    rw [Nat.zero_mul, Nat.zero_add, Nat.zero_add, (Blk.new w e cs.toArray).cell]
    simpa using hu
  | i + 1, hi => simp at hi

/-- what an element type must be for append -/
structure Elem (P : Program) (t e : TypeId) (k bytes : Nat) : Prop where
  t : P.underlying t = some (.slice e)
  i : ∃ i z, P.info? e = some i ∧ i.zero = some z ∧ i.size = k ∧ i.bytes = bytes ∧ z.cells.size = k
  k : 0 < k
  b : 0 < bytes

theorem Elem.mk' {P : Program} {t e : TypeId} {k bytes : Nat} (ht : P.underlying t = some (.slice e)) (hi : (P.info? e).map (fun i => (i.zero.map (·.cells.size), i.size, i.bytes)) = some (some k, k, bytes)) (hk : 0 < k) (hb : 0 < bytes) : Elem P t e k bytes := by
  refine ⟨ht, ?_, hk, hb⟩
  cases h : P.info? e with
  | none => rw [h] at hi; cases hi
  | some i =>
    rw [h] at hi
    simp only [Option.map_some, Option.some.injEq, Prod.mk.injEq] at hi
    cases hz : i.zero with
    | none => rw [hz] at hi; cases hi.1
    | some z =>
      rw [hz] at hi
      simp only [Option.map_some, Option.some.injEq] at hi
      exact ⟨i, z, rfl, hz, hi.2.1, hi.2.2, hi.1⟩

section
variable {P : Program} {w : World}
theorem run_append_sl {t e : TypeId} {k bytes base : Nat} (E : Elem P t e k bytes) (ty : TypeId) {v : Value} {css : List (List Value)} (hown : Own w base e k v css)
    {p : Nat → Prop} {vx : Value} {news : List (List Value)} (hr : Sl p w k vx news) (hb : (css.length + news.length) * bytes ≤ 140737488355328) (hbase : base ≤ w.heap.size) :
    ∃ v' w', (Builtin.append_ #[t, t] ty #[v, vx]).run P w = .ok v' w' ∧ Own w' base e k v' (css ++ news) ∧ Ch v.ownBlock.toList w w' ∧ (v'.ownBlock = v.ownBlock ∨ v'.ownBlock = some w.heap.size) ∧ (v' = .slice none 0 0 ↔ css ++ news = [] ∧ v = .slice none 0 0) := by
  obtain ⟨i, z, hi, hz, hsize, hby, hzs⟩ := E.i
  have hb1 := E.b
  have h63 : css.length + news.length ≤ maxLen := by
    have : (css.length + news.length) * 1 ≤ (css.length + news.length) * bytes := Nat.mul_le_mul_left _ hb1
    simp only [maxLen]; omega
  cases hn : news with
  | nil =>
    subst hn
    obtain ⟨a, c, rfl, _, _, h4⟩ := hr
    have hlen := hown.1.1
    refine ⟨v, w, ?_, by simpa using hown, ?_, .inl rfl, ?_⟩
    · rcases hown.1.2 with ⟨rfl, hz0⟩ | ⟨g, cap, cur, rfl, _, _, hnc, _⟩
      · cases a <;> simp [Builtin.append_, run_underlying E.t, sizeOf, typeInfo, hi, Builtin.lenOf, Builtin.firstCells, loadCells, loadCellsFrom]
      · cases a <;> simp [Builtin.append_, run_underlying E.t, sizeOf, typeInfo, hi, Builtin.lenOf, Builtin.firstCells, hnc, storeCells, loadCells, loadCellsFrom]
    · exact (Ch.refl _ _)
    · rcases hown.form with ⟨rfl, rfl⟩ | ⟨g, c', rfl, _⟩ <;> simp
  | cons x r =>
    have hne : news ≠ [] := by rw [hn]; simp
    obtain ⟨b, o, c, rfl, _, _, _, hcell⟩ := hr.row hne
    rw [← hn]
    have hk : ∀ cs ∈ news, cs.length = k ∧ ∀ u ∈ cs, u.oneCell' = true := fun cs hcs => by
      obtain ⟨i, hi⟩ := List.mem_iff_getElem?.1 hcs
      exact (hcell i cs hi).1
    have hfl := flat_len news k (fun c hc => (hk c hc).1)
    have hnews : ∀ j u, news.flatten[j]? = some u → w.cell? ((⟨b, o, none⟩ : Addr).add j) = some u := by
      intro j u hu
      have hj : j < news.flatten.length := (List.getElem?_eq_some_iff.1 hu).1
      have hkk := E.k
      have hdiv : j / k < news.length := by
        rw [hfl] at hj
        exact (Nat.div_lt_iff_lt_mul hkk).2 hj
      have hi := List.getElem?_eq_getElem hdiv
      obtain ⟨⟨hl, _⟩, hc⟩ := hcell (j / k) _ hi
      have hmod : j % k < (news[j / k]).length := by rw [hl]; exact Nat.mod_lt _ hkk
      have hj2 := List.getElem?_eq_getElem hmod
      have hfg := flat_get news k (fun c hc => (hk c hc).1) (j / k) _ (j % k) _ hi hj2
      have hjj : j / k * k + j % k = j := by rw [Nat.mul_comm]; exact Nat.div_add_mod j k
      rw [hjj] at hfg
      rw [hfg] at hu
      injection hu with hu
      have := hc (j % k) _ hj2
      rw [hjj] at this
      rw [← hu]
      have hadd : (⟨b, o, none⟩ : Addr).add j = ⟨b, o + j, none⟩ := by unfold Addr.add; split <;> simp_all
      rw [hadd]; exact this
    have h1 : ∀ u ∈ news.flatten, u.oneCell' = true := fun u hu => by
      obtain ⟨cs, hcs, hu⟩ := List.mem_flatten.1 hu
      exact (hk cs hcs).2 u hu
    obtain ⟨v', w', hrun, ho, hg, hnil, hat⟩ := run_append_own_at (P := P) w base t ty e i z k bytes E.t hi hz hsize hby hzs E.k v css.length css.flatten hown.1 ⟨b, o, none⟩ news.length c news.flatten hfl hnews h1 h63 hb hbase
    refine ⟨v', w', hrun, ⟨by simpa using ho, fun cs hcs => ?_⟩, Ch.of_grown hg, hat, ?_⟩
    · rcases List.mem_append.1 hcs with h | h
      · exact hown.2 cs h
      · exact hk cs h
    · rw [hnil]
      constructor
      · rintro ⟨_, h⟩
        exact absurd (List.eq_nil_of_length_eq_zero h) hne
      · rintro ⟨h, _⟩
        exact absurd (List.append_eq_nil_iff.1 h).2 hne

theorem wp_append_sl {o : Oper} {a : Act} {K : Act → World → Prop} {Q : Exit → Act → World → Prop} (s x : Operand) (t : TypeId)
    (ho : o.op = .call { callee := .builtin .append, args := #[s, x], argTypes := #[t, t] }) {e : TypeId} {k bytes base : Nat} (E : Elem P t e k bytes)
    {v : Value} {css : List (List Value)} (hs : a.eval s = v) (hown : Own w base e k v css)
    {p : Nat → Prop} {vx : Value} {news : List (List Value)} (hx : a.eval x = vx) (hr : Sl p w k vx news) (hb : (css.length + news.length) * bytes ≤ 140737488355328) (hbase : base ≤ w.heap.size)
    (h : ∀ v' w', Own w' base e k v' (css ++ news) → Ch v.ownBlock.toList w w' → (v'.ownBlock = v.ownBlock ∨ v'.ownBlock = some w.heap.size) → (v' = .slice none 0 0 ↔ css ++ news = [] ∧ v = .slice none 0 0) → K (a.put o.dst v') w') : o.wp P a w K Q := by
  obtain ⟨v', w', hrun, h2, h3, h4, h5⟩ := run_append_sl (P := P) E o.type hown hr hb hbase
  unfold Oper.wp execOp
  simp only [ho, resolve, invoke, builtin, Sem.run_bind, Sem.run_pure, Result.andThen_ok, List.map_toArray, List.map_cons, List.map_nil, hs, hx, hrun]
  exact h v' w' h2 h3 h4 h5

theorem wpList_append_sl {ops : Array Oper} {rest : List Oper} {o : Oper} {a : Act} {Q : Exit → Act → World → Prop} (hgd : o.guard = none) (s x : Operand) (t : TypeId)
    (ho : o.op = .call { callee := .builtin .append, args := #[s, x], argTypes := #[t, t] }) {e : TypeId} {k bytes base : Nat} (E : Elem P t e k bytes)
    {v : Value} {css : List (List Value)} (hs : a.eval s = v) (hown : Own w base e k v css)
    {p : Nat → Prop} {vx : Value} {news : List (List Value)} (hx : a.eval x = vx) (hr : Sl p w k vx news) (hb : (css.length + news.length) * bytes ≤ 140737488355328) (hbase : base ≤ w.heap.size)
    (h : ∀ v' w', Own w' base e k v' (css ++ news) → Ch v.ownBlock.toList w w' → (v'.ownBlock = v.ownBlock ∨ v'.ownBlock = some w.heap.size) → (v' = .slice none 0 0 ↔ css ++ news = [] ∧ v = .slice none 0 0) → wpList P ops Q rest (a.put o.dst v') w') : wpList P ops Q (o :: rest) a w :=
  wpList_plain hgd fun _ hK => wp_append_sl s x t ho E hs hown hx hr hb hbase fun v' w' h2 h3 h4 h5 => hK _ _ (h v' w' h2 h3 h4 h5)
end

/-! ### a region that draws its order, whose operations read and whose callees may lay new memory -/

/-- a world behind w in which all that w held is as it was -/
def Later (w : World) : Type := { w' : World // Ch [] w w' }
def Later.w {w : World} (x : Later w) : World := x.val
theorem Later.ch {w : World} (x : Later w) : Ch [] w x.w := x.property
def Later.mk {w w' : World} (h : Ch [] w w') : Later w := ⟨w', h⟩
instance later_some (w : World) : Nonempty (Later w) := ⟨Later.mk (Ch.refl [] w)⟩
theorem Later.cell {w : World} {a : Addr} {u : Value} (h : w.cell? a = some u) (x : Later w) : x.w.cell? a = some u := cell_ch h x.ch (by simp)

theorem wp_region_later {P : Program} {id : Nat} {Q : Exit → Act → World → Prop} {a : Act} {w : World} {l : List Oper} (hm : P.follows .mixedOrders = true) (hB : Region.lexB .any l.toArray = true)
    (h : wpQuiet P l.toArray (fun w' => ∃ x : Later w, w' = x.w) (fun a' => ∀ w1, Ch [] w w1 → Q .normal a' w1) l a) : (Code.region id l.toArray true).wp P Q a w := by
  refine wp_region_quiet (C := fun w' => ∃ x : Later w, w' = x.w) hm hB ⟨Later.mk (w' := w.drew) ((Ch.refl [] w).drew), rfl⟩ ?_
  have hmono : ∀ (l' : List Oper) (a : Act), wpQuiet P l.toArray (fun w' => ∃ x : Later w, w' = x.w) (fun a' => ∀ w1, Ch [] w w1 → Q .normal a' w1) l' a →
      wpQuiet P l.toArray (fun w' => ∃ x : Later w, w' = x.w) (fun a' => ∀ w', (∃ x : Later w, w' = x.w) → Q .normal a' w') l' a := by
    intro l'
    induction l' with
    | nil => intro a ha w' ⟨x, hx⟩; subst hx; exact ha _ x.ch
    | cons o r ih =>
      intro a ha
      unfold wpQuiet at ha ⊢
      split
      · rename_i hw
        rw [if_pos hw] at ha
        exact Oper.quiet_mono ih ha
      · rename_i hw
        rw [if_neg hw] at ha
        exact ih _ ha
  exact hmono l a h

/-- a callee's contract, met in a later world -/
theorem later_call {P : Program} {f : FuncId} {args : Array Value} {w : World} {v : Value} {x : Later w}
    (h : Calls P f args x.w fun e w' => e = .returned v ∧ Ch [] x.w w') : Calls P f args x.w fun e w'' => e = .returned v ∧ ∃ y : Later w, w'' = y.w :=
  h.mono fun _ _ ⟨he, hc⟩ => ⟨he, Later.mk (x.ch.trans hc), rfl⟩

end Go.Proofs.YtlficnfkekggjaaGreatDoor
