
/-
  The contracts of strata.Order and of the reference's Order.
-/
import Derived.Test.YtojokdicbopknaaGreatStrPlain
import Derived.Test.YtojokdicbopknaaGreatStrOf
import Derived.Test.YtojokdicbopknaaGreatStrLev
import Derived.Test.YtojokdicbopknaaGreatStrRef
import Derived.Test.YtojokdicbopknaaGreatLex
import Derived.Laws.OwnMore
namespace Go.Proofs.YtojokdicbopknaaGreat
open Go.RowKit

theorem Own.differ2 {w : World} {base base' k k' : Nat} {e e' : TypeId} {v v' : Value} {css css' : List (List Value)} (h : Own w base e k v css) (h' : Own w base' e' k' v' css') (hne : e ≠ e') {g : Nat} (hg : v.ownBlock = some g) : v'.ownBlock ≠ some g := by
  intro hg'
  rcases h.1.2 with ⟨rfl, _⟩ | ⟨g1, cap, cur, rfl, _, h2, _⟩
  · cases hg
  · rcases h'.1.2 with ⟨rfl, _⟩ | ⟨g2, cap2, cur2, rfl, _, h3, _⟩
    · cases hg'
    · simp [Value.ownBlock] at hg hg'
      subst hg hg'
      rw [h2] at h3
      injection h3 with h3
      injection h3 with _ h3
      exact hne h3

/-- a table of rows of numbers, each in a block of its own -/
structure RowsAt (w : World) (base : Nat) (ov : Value) (us : List Value) (rows : List (List Int)) : Prop where
  out : Own w base 28 1 ov (us.map fun u => [u])
  len : us.length = rows.length
  row : ∀ (i : Nat) (u : Value) (r : List Int), us[i]? = some u → rows[i]? = some r → Own w base 3 1 u (r.map encI)
  diff : ∀ (i j : Nat) (u v : Value), i ≠ j → us[i]? = some u → us[j]? = some v → ∀ g, u.ownBlock = some g → v.ownBlock ≠ some g
theorem RowsAt.sl {w : World} {base : Nat} {ov : Value} {us : List Value} {rows : List (List Int)} (h : RowsAt w base ov us rows) : SlII (fun b => base ≤ b) w ov rows :=
  ⟨us, h.len, h.out.sl.weak (fun _b _ hb => hb.1), fun i u x h1 h2 => (show SlI _ _ _ _ from (h.row i u x h1 h2).sl).weak (fun _b _ hb => hb.1)⟩
theorem Own.ch0_ {w w' : World} {base k : Nat} {e : TypeId} {v : Value} {css : List (List Value)} (h : Own w base e k v css) (hc : Ch [] w w') : Own w' base e k v css := h.ch hc (by simp)
theorem SlII.weak_ {p q : Nat → Prop} {w : World} {v : Value} {l : List (List Int)} (h : SlII p w v l) (hk : ∀ b, p b → q b) : SlII q w v l :=
  SlN.imp h (Nat.le_refl _) (fun b _ hp => ⟨hk b hp, rfl⟩) (fun _ _ _ h => h.weak (fun b _ hp => hk b hp))
theorem RowsAt.ch0 {w w' : World} {base : Nat} {ov : Value} {us : List Value} {rows : List (List Int)} (h : RowsAt w base ov us rows) (hc : Ch [] w w') : RowsAt w' base ov us rows :=
  ⟨h.out.ch hc (by simp), h.len, fun i u r h1 h2 => (h.row i u r h1 h2).ch hc (by simp), h.diff⟩
theorem RowsAt.out1 {w wX w1 : World} {base G T c n : Nat} {us : List Value} {rows : List (List Int)} {u : Value} {r : List Int} (h : RowsAt w base (.slice (some ⟨G, 0, none⟩) T c) us rows)
    (hu : us[n]? = some u) (hr : rows[n]? = some r) (hX : Ch [] w wX) (h1 : Ch u.ownBlock.toList wX w1) : Own w1 base 28 1 (.slice (some ⟨G, 0, none⟩) T c) (us.map fun u => [u]) :=
  (h.out.ch hX (by simp)).ch h1 (fun b hb hm => by
    injection hb with hb; subst hb
    have : u.ownBlock = some G := by
      cases hb : u.ownBlock with
      | none => rw [hb] at hm; cases hm
      | some g' => rw [hb] at hm; simp at hm; rw [hm]
    exact (h.row n u r hu hr).differ2 h.out (by decide) this rfl)
theorem RowsAt.step {w wX w1 : World} {base G T c n : Nat} {us : List Value} {rows : List (List Int)} {u v1 : Value} {r : List Int} {x : Int} (h : RowsAt w base (.slice (some ⟨G, 0, none⟩) T c) us rows)
    (hu : us[n]? = some u) (hr : rows[n]? = some r) (hX : Ch [] w wX) (h1 : Ch u.ownBlock.toList wX w1) (ho1 : Own w1 base 3 1 v1 (r.map encI ++ [[.int .i64 x]]))
    (hat : v1.ownBlock = u.ownBlock ∨ v1.ownBlock = some wX.heap.size) : RowsAt (w1.setCell ⟨G, n, none⟩ v1) base (.slice (some ⟨G, 0, none⟩) T c) (us.set n v1) (rows.set n (r ++ [x])) := by
  have hnu : n < us.length := (List.getElem?_eq_some_iff.1 hu).1
  have hnr : n < rows.length := (List.getElem?_eq_some_iff.1 hr).1
  have hrow := h.row n u r hu hr
  have hGu : ∀ g, u.ownBlock = some g → g ≠ G := fun g hg e => by
    subst e
    exact hrow.differ2 h.out (by decide) hg rfl
  have hsX := hX.size
  have hGlt : G < w.heap.size := (h.out.lt (b := G) rfl).2
  have hS : ∀ g, g ∈ u.ownBlock.toList → u.ownBlock = some g := fun g hg => by
    cases hb : u.ownBlock with
    | none => rw [hb] at hg; cases hg
    | some g' => rw [hb] at hg; simp at hg; rw [hg]
  obtain ⟨g1, hg1⟩ : ∃ g, v1.ownBlock = some g := by
    rcases ho1.form with ⟨_, h0⟩ | ⟨g, c, rfl, _⟩
    · simp at h0
    · exact ⟨g, rfl⟩
  have hg1G : g1 ≠ G := by
    rcases hat with e | e
    · exact hGu g1 (e ▸ hg1)
    · rw [e] at hg1; injection hg1 with e; omega
  have hout1 : Own w1 base 28 1 (.slice (some ⟨G, 0, none⟩) T c) (us.map fun u => [u]) :=
    (h.out.ch hX (by simp)).ch h1 (fun b hb hm => by injection hb with hb; subst hb; exact hGu _ (hS _ hm) rfl)
  have hone : v1.oneCell' = true := by
    obtain ⟨a, c, e⟩ := ho1.form'
    rw [e]; rfl
  have hset := hout1.set_ n 0 (cs := [u]) (u := v1) (by simp [hu]) (by omega) hone
  rw [Nat.mul_one, Nat.add_zero] at hset
  have hcS : Ch [G] w1 (w1.setCell ⟨G, n, none⟩ v1) := (Ch.refl _ _).set (by simp) _
  have hmap : (us.map fun u => [u]).set n ([u].set 0 v1) = (us.set n v1).map fun u => [u] := by rw [List.map_set]; rfl
  rw [hmap] at hset
  refine ⟨hset, by simp [h.len], fun i u' r' h2 h3 => ?_, fun i j u' v' hij h2 h3 g hg => ?_⟩
  · rw [List.getElem?_set] at h2 h3
    by_cases hi : n = i
    · subst hi
      rw [if_pos rfl, if_pos hnu] at h2
      rw [if_pos rfl, if_pos hnr] at h3
      injection h2 with h2
      injection h3 with h3
      subst h2 h3
      rw [List.map_append]
      exact ho1.ch hcS (fun b hb hm => by rw [hg1] at hb; injection hb with hb; subst hb; exact hg1G (by simpa using hm))
    · rw [if_neg hi] at h2 h3
      have h4 := h.row i u' r' h2 h3
      refine ((h4.ch hX (by simp)).ch h1 (fun b hb hm => ?_)).ch hcS (fun b hb hm => ?_)
      · exact h.diff n i u u' hi hu h2 b (hS _ hm) hb
      · simp at hm; subst hm
        exact h4.differ2 h.out (by decide) hb rfl
  · rw [List.getElem?_set] at h2 h3
    have hfar : ∀ (k : Nat) (y : Value), k ≠ n → us[k]? = some y → ∀ g, y.ownBlock = some g → v1.ownBlock ≠ some g := fun k y hk hy g hg e => by
      rcases hat with e1 | e1
      · exact h.diff k n y u hk hy hu g hg (e1 ▸ e)
      · rw [e1] at e
        injection e with e
        have hklt : k < rows.length := by rw [← h.len]; exact (List.getElem?_eq_some_iff.1 hy).1
        have := ((h.row k y _ hy (List.getElem?_eq_getElem hklt)).lt hg).2
        omega
    by_cases hi : n = i
    · subst hi
      rw [if_pos rfl, if_pos hnu] at h2
      rw [if_neg hij] at h3
      injection h2 with h2
      subst h2
      intro e
      exact hfar j v' (fun e => hij e.symm) h3 g e hg
    · rw [if_neg hi] at h2
      by_cases hj : n = j
      · subst hj
        rw [if_pos rfl, if_pos hnu] at h3
        injection h3 with h3
        subst h3
        exact hfar i u' (fun e => hi e.symm) h2 g hg
      · rw [if_neg hj] at h3
        exact h.diff i j u' v' hij h2 h3 g hg

/-- what Order hands back -/
def OrdRes (base : Nat) (w : World) (l : List Ru) (v : Value) (n : Int) : Option (List Lv) → Prop
  | none => v = .slice none 0 0 ∧ n = 10
  | some lv => SlII (fun b => base ≤ b) w v (orderOf lv l) ∧ n = 0
theorem LvAns.top {es : List Ed} {N : List ByteArray} {lv : List Lv} (hE : Ends es N) (h : LvAns es N (some lv)) : topOf lv + 1 ≤ N.length ∧ (∀ x ∈ lv, 0 ≤ x.n ∧ x.n < N.length) ∧ lv.length = N.length ∧ ∀ s, ofL lv s = -1 ∨ 0 ≤ ofL lv s := by
  rcases h with ⟨f, h1, h2, h3⟩ | ⟨_, h3⟩
  · injection h3 with h3
    obtain ⟨g, h4, h5⟩ := h1.small hE
    have hlt : ∀ s ∈ N, f s < N.length := fun s hs => Nat.lt_of_le_of_lt (h2 g h4 s) (h5 s hs)
    have hx : ∀ x ∈ lv, 0 ≤ x.n ∧ x.n < N.length := fun x hx => by
      rw [h3] at hx
      obtain ⟨s, hs, rfl⟩ := List.mem_map.1 hx
      have := hlt s hs
      exact ⟨by simp, by simp; omega⟩
    refine ⟨?_, hx, by rw [h3]; simp [lvList], fun s => ?_⟩
    · have := topOf_le lv (-1) ((N.length : Int) - 1) (by omega) (fun x h => by have := hx x h; omega)
      unfold topOf; omega
    · rw [h3, ofL_list]
      split
      · right; omega
      · left; rfl
  · cases h3
theorem topOf_take_le (lv : List Lv) (m : Nat) (h : ∀ x ∈ lv, 0 ≤ x.n ∧ x.n < m) (k : Nat) : -1 ≤ topOf (lv.take k) ∧ topOf (lv.take k) ≤ m :=
  ⟨(topOf_ge (lv.take k) (-1)).1, topOf_le (lv.take k) (-1) m (by omega) fun x hx => by have := h x (List.mem_of_mem_take hx); omega⟩
theorem orderOf_len (lv : List Lv) (l : List Ru) : (orderOf lv l).length = (topOf lv + 1).toNat := by simp [orderOf]
theorem orderOf_get (lv : List Lv) (l : List Ru) (i : Nat) : (orderOf lv l)[i]? = if i < (topOf lv + 1).toNat then some (rowOf lv l i) else none := by
  simp only [orderOf, List.getElem?_map]
  split
  · rename_i h; rw [List.getElem?_range h]; rfl
  · rename_i h; rw [List.getElem?_eq_none (by simpa using h)]; rfl
theorem orderOf_nil (lv : List Lv) (n : Nat) (h : n = (topOf lv + 1).toNat) : orderOf lv [] = List.replicate n [] := by
  subst h
  refine List.ext_getElem? fun i => ?_
  rw [orderOf_get, List.getElem?_replicate]
  rfl
theorem orderOf_snoc (lv : List Lv) (l : List Ru) (k : Nat) (h : k < l.length) (n : Nat) (hn : ofL lv l[k].head.name = n) (hnt : n < (topOf lv + 1).toNat) :
    orderOf lv (l.take (k + 1)) = (orderOf lv (l.take k)).set n (rowOf lv (l.take k) n ++ [(k : Int)]) := by
  refine List.ext_getElem? fun i => ?_
  rw [orderOf_get, List.getElem?_set, orderOf_get, orderOf_len]
  by_cases hi : n = i
  · subst hi
    rw [if_pos rfl, if_pos hnt, if_pos hnt, rowOf_snoc lv l n k h, if_pos hn]
  · rw [if_neg hi]
    split
    · rw [rowOf_snoc lv l i k h, if_neg (by rw [hn]; omega)]
    · rfl
theorem orderOf_skip (lv : List Lv) (l : List Ru) (k : Nat) (h : k < l.length) (hn : ofL lv l[k].head.name < 0) : orderOf lv (l.take (k + 1)) = orderOf lv (l.take k) := by
  refine List.ext_getElem? fun i => ?_
  rw [orderOf_get, orderOf_get]
  split
  · rw [rowOf_snoc lv l i k h, if_neg (by omega)]
  · rfl

end Go.Proofs.YtojokdicbopknaaGreat
