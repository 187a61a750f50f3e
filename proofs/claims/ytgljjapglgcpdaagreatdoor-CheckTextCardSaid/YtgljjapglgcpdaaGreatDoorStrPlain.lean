
/-
  Strata as plain functions: the least levels that satisfy edges, and what a list of levels must be to be a stratification. No program is in sight here.
  The reference's levels and the orders as plain functions; a cell of a row of the call's own is written. No program is in sight here.
  Shortest ways and recursions through a negation, as plain functions. No program is in sight here.
  Where a rule stands in the orders; what the reference's Distance and Cycle compute. No program is in sight here.
  What the laws of strata ask, in plain lists. No program is in sight here.
-/
import Derived.Test.YtgljjapglgcpdaaGreatDoorOrder
namespace Go.Proofs.YtgljjapglgcpdaaGreatDoor

section
abbrev LvF := ByteArray → Nat
def stepN (e : Ed) : Nat := if e.n = true then 1 else 0
/-- levels that satisfy edges -/
def Strat (es : List Ed) (f : LvF) : Prop := ∀ e ∈ es, f e.t + stepN e ≤ f e.f
/-- no higher than any levels that satisfy the edges -/
def Lower (es : List Ed) (f : LvF) : Prop := ∀ g, Strat es g → ∀ s, f s ≤ g s
def raise (f : LvF) (e : Ed) : LvF := fun s => if s = e.f then f e.t + stepN e else f s
theorem Lower.zero (es : List Ed) : Lower es fun _ => 0 := fun _ _ _ => Nat.zero_le _
theorem Lower.raise {es : List Ed} {f : LvF} {e : Ed} (h : Lower es f) (he : e ∈ es) : Lower es (raise f e) := fun g hg s => by
  unfold Proofs.YtgljjapglgcpdaaGreatDoor.raise
  split
  · rename_i hs
    subst hs
    have h1 := h g hg e.t
    have h2 := hg e he
    omega
  · exact h g hg s
theorem strat_unique {es : List Ed} {f g : LvF} (h1 : Strat es f) (h2 : Lower es f) (h3 : Strat es g) (h4 : Lower es g) : f = g :=
  funext fun s => Nat.le_antisymm (h2 g h3 s) (h4 f h1 s)
/-- the ends of edges are names -/
def Ends (es : List Ed) (names : List ByteArray) : Prop := ∀ e ∈ es, e.f ∈ names ∧ e.t ∈ names
theorem ends_of (l : List Ru) : Ends (edgesOf l) (relsOf l) := fun e he => by
  obtain ⟨r, hr, hd, x, hx, hxd, rfl⟩ := (mem_edgesOf l e).1 he
  exact ⟨(mem_relsOf l _).2 ⟨hd, r, hr, .inl rfl⟩, (mem_relsOf l _).2 ⟨hxd, r, hr, .inr ⟨x, hx, rfl⟩⟩⟩

section
variable (names : List ByteArray) (g : LvF)
def att (v : Nat) : Bool := names.any fun s => decide (g s = v)
/-- how many levels below k are taken -/
def cnt (k : Nat) : Nat := ((List.range k).filter (att names g)).length
theorem cnt_succ (k : Nat) : cnt names g (k + 1) = cnt names g k + if att names g k = true then 1 else 0 := by
  simp only [cnt, List.range_succ, List.filter_append, List.length_append, List.filter_cons, List.filter_nil]
  split <;> simp
theorem cnt_mono {k m : Nat} (h : k ≤ m) : cnt names g k ≤ cnt names g m := by
  induction m with
  | zero => have : k = 0 := by omega
            subst this; exact Nat.le_refl _
  | succ m ih =>
    rcases Nat.lt_or_ge m k with hk | hk
    · have : k = m + 1 := by omega
      subst this; exact Nat.le_refl _
    · have := ih hk
      rw [cnt_succ]; omega
theorem att_of {s : ByteArray} (h : s ∈ names) : att names g (g s) = true := by
  simp only [att, List.any_eq_true]; exact ⟨s, h, by simp⟩
theorem cnt_lt {s : ByteArray} (h : s ∈ names) : cnt names g (g s) < names.length := by
  have h1 : ((List.range (g s)).filter (att names g) ++ [g s]).Nodup := by
    rw [List.nodup_append]
    refine ⟨List.nodup_range.sublist List.filter_sublist, by simp, fun x hx y hy e => ?_⟩
    rw [List.mem_singleton] at hy
    subst hy; subst e
    have := List.mem_range.1 (List.mem_filter.1 hx).1
    omega
  have h2 : ∀ x ∈ (List.range (g s)).filter (att names g) ++ [g s], x ∈ names.map g := fun x hx => by
    rcases List.mem_append.1 hx with hx | hx
    · have := (List.mem_filter.1 hx).2
      simp only [att, List.any_eq_true, decide_eq_true_eq] at this
      obtain ⟨y, hy, he⟩ := this
      exact List.mem_map.2 ⟨y, hy, he⟩
    · rw [List.mem_singleton] at hx; subst hx; exact List.mem_map.2 ⟨s, h, rfl⟩
  have := nodup_len h1 h2
  simp only [List.length_append, List.length_cons, List.length_nil, List.length_map] at this
  unfold cnt; omega
end
/-- levels that satisfy edges can be taken below the number of names -/
theorem Strat.small {es : List Ed} {names : List ByteArray} {g : LvF} (hE : Ends es names) (hg : Strat es g) : ∃ g', Strat es g' ∧ ∀ s ∈ names, g' s < names.length := by
  refine ⟨fun s => cnt names g (g s), fun e he => ?_, fun s hs => cnt_lt names g hs⟩
  have h1 := hg e he
  have h2 := hE e he
  simp only
  unfold stepN at h1 ⊢
  split at h1
  · rename_i hn
    rw [if_pos hn]
    have h3 := cnt_succ names g (g e.t)
    rw [if_pos (att_of names g h2.2)] at h3
    rw [← h3]; exact cnt_mono names g h1
  · rename_i hn
    rw [if_neg hn]
    exact cnt_mono names g h1
theorem no_strat {es : List Ed} {names : List ByteArray} {f : LvF} {e : Ed} (hE : Ends es names) (hL : Lower es f) (he : e ∈ es) (hn : names.length ≤ f e.t + stepN e) : ¬ ∃ g, Strat es g := by
  rintro ⟨g, hg⟩
  obtain ⟨g', h1, h2⟩ := hg.small hE
  have h3 := hL g' h1 e.t
  have h4 := h1 e he
  have h5 := h2 e.f (hE e he).1
  omega

/-- the levels as a list -/
def lvList (names : List ByteArray) (f : LvF) : List Lv := names.map fun s => ⟨s, f s⟩
theorem ofL_list (f : LvF) : ∀ (names : List ByteArray) (s : ByteArray), ofL (lvList names f) s = if s ∈ names then (f s : Int) else -1
  | [], s => by simp [lvList, ofL]
  | x :: r, s => by
    have := ofL_list f r s
    simp only [lvList, List.map_cons, ofL] at this ⊢
    rw [this]
    by_cases hx : x = s
    · subst hx; simp
    · have hx' : ¬ s = x := fun e => hx e.symm
      simp [hx, hx']
/-- a list of levels that is a stratification -/
def ValidL (es : List Ed) (names : List ByteArray) (lv : List Lv) : Prop :=
  (∀ (i : Nat) (h : i < lv.length), 0 ≤ lv[i].n ∧ ∀ (h0 : 0 < i), sLt lv[i - 1].s lv[i].s = true) ∧ (∀ s ∈ names, 0 ≤ ofL lv s) ∧ ∀ e ∈ es, ofL lv e.t ≤ ofL lv e.f ∧ (e.n = true → ofL lv e.f ≠ ofL lv e.t)
theorem ValidL.strat {es : List Ed} {names : List ByteArray} {lv : List Lv} (hE : Ends es names) (h : ValidL es names lv) : Strat es fun s => (ofL lv s).toNat := fun e he => by
  obtain ⟨_, h2, h3⟩ := h
  have h4 := h2 e.f (hE e he).1
  have h5 := h2 e.t (hE e he).2
  obtain ⟨h6, h7⟩ := h3 e he
  simp only [stepN]
  split
  · rename_i hn
    have := h7 hn
    omega
  · omega
theorem valid_list {es : List Ed} {names : List ByteArray} {f : LvF} (ha : Asc sLt names) (hE : Ends es names) (h : Strat es f) : ValidL es names (lvList names f) := by
  refine ⟨fun i hi => ?_, fun s hs => ?_, fun e he => ?_⟩
  · simp only [lvList, List.length_map] at hi
    refine ⟨by simp [lvList], fun h0 => ?_⟩
    simp only [lvList, List.getElem_map]
    exact List.pairwise_iff_getElem.1 ha (i - 1) i (by omega) hi (by omega)
  · rw [ofL_list, if_pos hs]; omega
  · have h1 := h e he
    have h2 := hE e he
    rw [ofL_list, ofL_list, if_pos h2.1, if_pos h2.2]
    unfold stepN at h1
    split at h1
    · exact ⟨by omega, fun _ => by omega⟩
    · rename_i hn
      exact ⟨by omega, fun hn2 => absurd hn2 hn⟩

/-- what Levels answers: the least levels, or that there are none -/
def LvAns (es : List Ed) (names : List ByteArray) (o : Option (List Lv)) : Prop :=
  (∃ f, Strat es f ∧ Lower es f ∧ o = some (lvList names f)) ∨ ((¬ ∃ g, Strat es g) ∧ o = none)
theorem LvAns.same {es : List Ed} {names : List ByteArray} {o o' : Option (List Lv)} (h : LvAns es names o) (h' : LvAns es names o') : o = o' := by
  rcases h with ⟨f, h1, h2, rfl⟩ | ⟨h1, rfl⟩ <;> rcases h' with ⟨g, h3, h4, rfl⟩ | ⟨h3, rfl⟩
  · rw [strat_unique h1 h2 h3 h4]
  · exact absurd ⟨f, h1⟩ h3
  · exact absurd ⟨g, h3⟩ h1
  · rfl
/-- a part of a description -/
theorem edges_sub {l m : List Ru} (h : ∀ r ∈ m, r ∈ l) : ∀ e ∈ edgesOf m, e ∈ edgesOf l := fun e he => by
  obtain ⟨r, hr, x⟩ := (mem_edgesOf m e).1 he
  exact (mem_edgesOf l e).2 ⟨r, h r hr, x⟩
theorem rels_sub {l m : List Ru} (h : ∀ r ∈ m, r ∈ l) : ∀ s ∈ relsOf m, s ∈ relsOf l := fun s hs => by
  obtain ⟨h1, r, hr, x⟩ := (mem_relsOf m s).1 hs
  exact (mem_relsOf l s).2 ⟨h1, r, h r hr, x⟩
theorem Strat.sub {es fs : List Ed} {f : LvF} (h : Strat es f) (hs : ∀ e ∈ fs, e ∈ es) : Strat fs f := fun e he => h e (hs e he)
end

section
open Go.RowKit

/-- the level that an edge demands -/
def lift (f : LvF) (e : Ed) : LvF := fun s => if s = e.f ∧ f s < f e.t + stepN e then f e.t + stepN e else f s
theorem lift_raise {f : LvF} {e : Ed} (h : f e.f < f e.t + stepN e) : lift f e = raise f e := by
  funext s
  unfold lift raise
  by_cases hs : s = e.f
  · subst hs; rw [if_pos ⟨rfl, h⟩, if_pos rfl]
  · rw [if_neg (fun x => hs x.1), if_neg hs]
theorem lift_same {f : LvF} {e : Ed} (h : ¬ f e.f < f e.t + stepN e) : lift f e = f := by
  funext s
  unfold lift
  by_cases hs : s = e.f
  · subst hs; rw [if_neg (fun x => h x.2)]
  · rw [if_neg (fun x => hs x.1)]
theorem Lower.lift {es : List Ed} {f : LvF} {e : Ed} (h : Lower es f) (he : e ∈ es) : Lower es (lift f e) := by
  by_cases hx : f e.f < f e.t + stepN e
  · rw [lift_raise hx]; exact h.raise he
  · rw [lift_same hx]; exact h
theorem lift_le (f : LvF) (e : Ed) (m : Nat) (h : ∀ s, f s ≤ m) (hn : f e.t + stepN e ≤ m) : ∀ s, lift f e s ≤ m := fun s => by
  unfold Proofs.YtgljjapglgcpdaaGreatDoor.lift
  split
  · exact hn
  · exact h s
theorem lift_ge (f : LvF) (e : Ed) (s : ByteArray) : f s ≤ lift f e s := by
  unfold Proofs.YtgljjapglgcpdaaGreatDoor.lift
  split
  · rename_i h; omega
  · exact Nat.le_refl _
/-- the list of which the first k elements are lifted -/
def mixL (N : List ByteArray) (f g : LvF) (k : Nat) : List Lv := lvList (N.take k) g ++ lvList (N.drop k) f
theorem mixL_zero (N : List ByteArray) (f g : LvF) : mixL N f g 0 = lvList N f := by simp [mixL, lvList]
theorem mixL_all (N : List ByteArray) (f g : LvF) : mixL N f g N.length = lvList N g := by simp [mixL, lvList]
theorem mixL_len (N : List ByteArray) (f g : LvF) (k : Nat) : (mixL N f g k).length = N.length := by simp [mixL, lvList]; omega
theorem mixL_at (N : List ByteArray) (f g : LvF) (k : Nat) (h : k < N.length) : (mixL N f g k)[k]'(by rw [mixL_len]; exact h) = ⟨N[k], f N[k]⟩ := by
  simp only [mixL, lvList]
  rw [List.getElem_append_right (by simp; omega)]
  simp [Nat.min_eq_left (Nat.le_of_lt h)]
theorem mixL_split (N : List ByteArray) (f g : LvF) (k : Nat) (h : k < N.length) : mixL N f g k = lvList (N.take k) g ++ ⟨N[k], f N[k]⟩ :: lvList (N.drop (k + 1)) f := by
  simp only [mixL, lvList]
  rw [List.drop_eq_getElem_cons h, List.map_cons]
theorem mixL_succ (N : List ByteArray) (f g : LvF) (k : Nat) (h : k < N.length) : mixL N f g (k + 1) = lvList (N.take k) g ++ ⟨N[k], g N[k]⟩ :: lvList (N.drop (k + 1)) f := by
  simp only [mixL, lvList, take_snoc N k h, List.map_append, List.map_cons, List.map_nil, List.append_assoc, List.cons_append, List.nil_append]
theorem mixL_keep (N : List ByteArray) (f g : LvF) (k : Nat) (h : k < N.length) (e : f N[k] = g N[k]) : mixL N f g (k + 1) = mixL N f g k := by
  rw [mixL_succ N f g k h, mixL_split N f g k h, e]
theorem mixL_set (N : List ByteArray) (f g : LvF) (k : Nat) (h : k < N.length) : ((mixL N f g k).map Lv.enc).set k [.string N[k], .int .i64 (g N[k])] = (mixL N f g (k + 1)).map Lv.enc := by
  rw [mixL_succ N f g k h, mixL_split N f g k h, List.map_append, List.map_append, List.map_cons, List.map_cons]
  rw [List.set_append, if_neg (by simp [lvList]; omega)]
  have : k - (List.map Lv.enc (lvList (List.take k N) g)).length = 0 := by simp [lvList]; omega
  rw [this]
  rfl

/-! ### a cell of an owned row is written -/
theorem flat_set : ∀ (css : List (List Value)) (k : Nat), (∀ cs ∈ css, cs.length = k) → ∀ (i : Nat) (cs : List Value) (j : Nat) (u : Value), css[i]? = some cs → j < k → (css.flatten).set (i * k + j) u = (css.set i (cs.set j u)).flatten
  | [], _, _, i, _, _, _, h, _ => by simp at h
  | x :: r, k, hk, 0, cs, j, u, h, hj => by
    simp only [List.getElem?_cons_zero, Option.some.injEq] at h
    subst h
    have hx := hk x (by simp)
    simp only [List.flatten_cons, Nat.zero_mul, Nat.zero_add, List.set_cons_zero]
    rw [List.set_append, if_pos (by omega)]
  | x :: r, k, hk, i + 1, cs, j, u, h, hj => by
    have hx := hk x (by simp)
    have := flat_set r k (fun c hc => hk c (by simp [hc])) i cs j u (by simpa using h) hj
    simp only [List.flatten_cons, List.set_cons_succ]
    rw [List.set_append, if_neg (by rw [hx, Nat.add_mul]; omega), ← this]
    congr 2; rw [hx, Nat.add_mul]; omega
section
variable {w : World} {base k g n c : Nat} {e : TypeId} {css : List (List Value)}
theorem Own.set_ (h : Own w base e k (.slice (some ⟨g, 0, none⟩) n c) css) (i j : Nat) {cs : List Value} (hi : css[i]? = some cs) (hj : j < k) {u : Value} (hu : u.oneCell' = true) :
    Own (w.setCell ⟨g, i * k + j, none⟩ u) base e k (.slice (some ⟨g, 0, none⟩) n c) (css.set i (cs.set j u)) := by
  obtain ⟨h0, hk⟩ := h
  have hn : n = css.length := by
    rcases h0.2 with ⟨h1, _⟩ | ⟨g', cap, cur, h1, _⟩
    · cases h1
    · injection h1
  subst hn
  have hf := flat_set css k (fun c hc => (hk c hc).1) i cs j u hi hj
  refine ⟨?_, fun c' hc => ?_⟩
  · have h2 := (h0.stored (i * k + j) u).1
    rw [hf] at h2
    simpa using h2
  · rcases List.mem_or_eq_of_mem_set hc with h1 | h1
    · exact hk c' h1
    · subst h1
      obtain ⟨h2, h3⟩ := hk cs (List.mem_of_getElem? hi)
      refine ⟨by simpa using h2, fun x hx => ?_⟩
      rcases List.mem_or_eq_of_mem_set hx with h4 | h4
      · exact h3 x h4
      · subst h4; exact hu
theorem Own.len_ {a : Option Addr} (h : Own w base e k (.slice a n c) css) : n = css.length := by
  obtain ⟨a', c', h1⟩ := h.form'
  injection h1
theorem Own.frozen_ (h : Own w base e k (.slice (some ⟨g, 0, none⟩) n c) css) (j : Nat) : w.frozen? ⟨g, j, none⟩ = false := by
  have hn := h.len_
  subst hn
  exact h.1.frozenAt j
theorem Own.cells_ (h : Own w base e k (.slice (some ⟨g, 0, none⟩) n c) css) {i j : Nat} {cs : List Value} {u : Value} (hi : css[i]? = some cs) (hu : cs[j]? = some u) : w.cell? ⟨g, i * k + j, none⟩ = some u := by
  obtain ⟨a, c', h1, _, _, h4⟩ := h.sl
  injection h1 with h1
  subst h1
  obtain ⟨_, b, o, h5, _, h6⟩ := h4 i cs hi
  injection h5 with h5
  injection h5 with h5 h7
  subst h5 h7
  have := h6 j u hu
  rwa [Nat.zero_add] at this
end

/-! ### the sum of the levels of a row -/
def sumL (w : World) : Value → Nat
  | .slice (some a) n _ => ((List.range n).map fun i => (intOf ((w.cell? ⟨a.block, a.off + (i * 2 + 1), none⟩).getD (.int .i64 0))).toNat).sum
  | _ => 0
def sumF (N : List ByteArray) (f : LvF) : Nat := (N.map f).sum
theorem sumL_eq {p : Nat → Prop} {w : World} {v : Value} {N : List ByteArray} {f : LvF} (h : SlL p w v (lvList N f)) : sumL w v = sumF N f := by
  obtain ⟨a, c, rfl, _⟩ := h.form
  have hl : (lvList N f).length = N.length := by simp [lvList]
  cases N with
  | nil => cases a <;> simp [lvList, sumL, sumF]
  | cons x r =>
    obtain ⟨b, o, rfl, _⟩ := h.at_ (i := 0) (by simp [lvList])
    simp only [sumL, sumF]
    rw [hl]
    congr 1
    refine List.ext_getElem (by simp) fun i h1 h2 => ?_
    simp only [List.length_map, List.length_range] at h1
    obtain ⟨b', o', e1, _, _, c1⟩ := h.at_ (i := i) (by rw [hl]; exact h1)
    injection e1 with e1
    injection e1 with e1 e2
    subst e1 e2
    simp only [List.getElem_map, List.getElem_range]
    have : o + (i * 2 + 1) = o + i * 2 + 1 := by omega
    rw [this, c1]
    simp only [Option.getD_some, intOf, lvList, List.getElem_map]
    exact Int.toNat_natCast _
theorem sumF_le (N : List ByteArray) (f : LvF) (m : Nat) (h : ∀ s, f s ≤ m) : sumF N f ≤ N.length * m := by
  induction N with
  | nil => simp [sumF]
  | cons x r ih =>
    have := h x
    simp only [sumF, List.map_cons, List.sum_cons, List.length_cons, Nat.add_mul] at ih ⊢
    omega
theorem sumF_mono (N : List ByteArray) (f g : LvF) (h : ∀ s, f s ≤ g s) : sumF N f ≤ sumF N g := by
  induction N with
  | nil => simp [sumF]
  | cons x r ih =>
    have := h x
    simp only [sumF, List.map_cons, List.sum_cons] at ih ⊢
    omega
theorem sumF_lt (N : List ByteArray) (f g : LvF) (h : ∀ s, f s ≤ g s) (x : ByteArray) (hx : x ∈ N) (hlt : f x < g x) : sumF N f < sumF N g := by
  induction N with
  | nil => cases hx
  | cons y r ih =>
    have h1 := h y
    have h2 := sumF_mono r f g h
    simp only [sumF, List.map_cons, List.sum_cons] at ih h2 ⊢
    rcases List.mem_cons.1 hx with rfl | hx
    · omega
    · have := ih hx; omega

/-! ### orders -/
/-- the highest level, or -1 -/
def topOf (lv : List Lv) : Int := lv.foldl (fun m x => max m x.n) (-1)
theorem topOf_snoc (lv : List Lv) (k : Nat) (h : k < lv.length) : topOf (lv.take (k + 1)) = max (topOf (lv.take k)) lv[k].n := by
  simp only [topOf, take_snoc lv k h, List.foldl_append, List.foldl_cons, List.foldl_nil]
theorem topOf_ge : ∀ (lv : List Lv) (m : Int), m ≤ lv.foldl (fun m x => max m x.n) m ∧ ∀ x ∈ lv, x.n ≤ lv.foldl (fun m x => max m x.n) m
  | [], m => ⟨Int.le_refl _, by simp⟩
  | y :: r, m => by
    obtain ⟨h1, h2⟩ := topOf_ge r (max m y.n)
    simp only [List.foldl_cons]
    refine ⟨by omega, fun x hx => ?_⟩
    rcases List.mem_cons.1 hx with rfl | hx
    · omega
    · exact h2 x hx
theorem topOf_le : ∀ (lv : List Lv) (m b : Int), m ≤ b → (∀ x ∈ lv, x.n ≤ b) → lv.foldl (fun m x => max m x.n) m ≤ b
  | [], m, b, h, _ => h
  | y :: r, m, b, h, hx => by
    simp only [List.foldl_cons]
    exact topOf_le r _ b (by have := hx y (by simp); omega) (fun x h' => hx x (by simp [h']))
theorem ofL_le_top (lv : List Lv) (s : ByteArray) : ofL lv s ≤ topOf lv := by
  have h0 := topOf_ge lv (-1)
  have : ∀ l : List Lv, (∀ x ∈ l, x ∈ lv) → ofL l s ≤ topOf lv := by
    intro l
    induction l with
    | nil => intro _; simp only [ofL, topOf]; exact h0.1
    | cons y r ih =>
      intro hx
      simp only [ofL]
      split
      · exact h0.2 y (hx y (by simp))
      · exact ih fun x h => hx x (by simp [h])
  exact this lv fun x h => h
/-- the rules of a level, as numbers, among the first m -/
def rowOf (lv : List Lv) (l : List Ru) (n : Int) : List Int := ((List.range l.length).filter fun (i : Nat) => decide (ofL lv ((l[i]?.map fun r => r.head.name).getD ⟨#[]⟩) = n)).map fun (i : Nat) => (i : Int)
theorem rowOf_snoc (lv : List Lv) (l : List Ru) (n : Int) (k : Nat) (h : k < l.length) : rowOf lv (l.take (k + 1)) n = if ofL lv l[k].head.name = n then rowOf lv (l.take k) n ++ [(k : Int)] else rowOf lv (l.take k) n := by
  have h1 : (l.take (k + 1)).length = k + 1 := by rw [List.length_take]; omega
  have h2 : (l.take k).length = k := by rw [List.length_take]; omega
  have h3 : ∀ i < k, (l.take (k + 1))[i]? = (l.take k)[i]? := fun i hi => by rw [List.getElem?_take, List.getElem?_take, if_pos (by omega), if_pos hi]
  have h4 : (l.take (k + 1))[k]? = some l[k] := by rw [List.getElem?_take, if_pos (by omega)]; simp
  simp only [rowOf, h1, h2, List.range_succ, List.filter_append, List.map_append, List.filter_cons, List.filter_nil, h4, Option.map_some, Option.getD_some, decide_eq_true_eq]
  have h5 : (List.range k).filter (fun i => decide (ofL lv (((l.take (k + 1))[i]?.map fun r => r.head.name).getD ⟨#[]⟩) = n)) = (List.range k).filter (fun i => decide (ofL lv (((l.take k)[i]?.map fun r => r.head.name).getD ⟨#[]⟩) = n)) := by
    refine List.filter_congr fun i hi => ?_
    rw [h3 i (List.mem_range.1 hi)]
  rw [h5]
  split <;> simp
theorem rowOf_len (lv : List Lv) (l : List Ru) (n : Int) : (rowOf lv l n).length ≤ l.length := by
  simp only [rowOf, List.length_map]
  exact Nat.le_trans (List.length_filter_le _ _) (by simp)
/-- the rules of each level -/
def orderOf (lv : List Lv) (l : List Ru) : List (List Int) := (List.range (topOf lv + 1).toNat).map fun (n : Nat) => rowOf lv l n
/-- what Levels hands back -/
def LvRes (base : Nat) (w : World) (v : Value) (n : Int) : Option (List Lv) → Prop
  | none => v = .slice none 0 0 ∧ n = 10
  | some lv => SlL (fun b => base ≤ b) w v lv ∧ n = 0
theorem lvList_snoc (N : List ByteArray) (f : LvF) (k : Nat) (h : k < N.length) : (lvList (N.take (k + 1)) f).map Lv.enc = (lvList (N.take k) f).map Lv.enc ++ [[.string N[k], .int .i64 (f N[k])]] := by
  simp only [lvList, take_snoc N k h, List.map_append, List.map_cons, List.map_nil]; rfl
def boolN : Value → Nat | .bool true => 1 | _ => 0
/-- a new block of one element, its place in other words -/
theorem Sl.one_at (w : World) (k : Nat) (e : TypeId) (cs : List Value) (hk : cs.length = k) (h1 : ∀ u ∈ cs, u.oneCell' = true) (n : Nat) (hn : w.heap.size = n) :
    Sl (fun b => b = n) (w.alloc (.cells cs.toArray e)) k (.slice (some ⟨n, 0, none⟩) 1 1) [cs] := by subst hn; exact Sl.one w k e cs hk h1
end

section
/-- a way of n edges -/
inductive Pth (es : List Ed) : ByteArray → ByteArray → Nat → Prop where
  | nil (a : ByteArray) : Pth es a a 0
  | cons {a b : ByteArray} {n : Nat} (e : Ed) : e ∈ es → e.f = a → Pth es e.t b n → Pth es a b (n + 1)
section
variable {es : List Ed} {a b c : ByteArray} {n m : Nat}
theorem Pth.zero (h : Pth es a b 0) : a = b := by cases h; rfl
theorem Pth.succ (h : Pth es a b (n + 1)) : ∃ e ∈ es, e.f = a ∧ Pth es e.t b n := by
  cases h with
  | cons e h1 h2 h3 => exact ⟨e, h1, h2, h3⟩
theorem Pth.trans (h : Pth es a b n) (h' : Pth es b c m) : Pth es a c (n + m) := by
  induction h with
  | nil a => rw [Nat.zero_add]; exact h'
  | cons e h1 h2 _ ih => rw [Nat.add_right_comm]; exact .cons e h1 h2 (ih h')
theorem Pth.one {e : Ed} (h : e ∈ es) : Pth es e.f e.t 1 := .cons e h rfl (.nil _)
theorem Pth.succ' (h : Pth es a b (n + 1)) : ∃ e ∈ es, Pth es a e.f n ∧ e.t = b := by
  induction n generalizing a with
  | zero =>
    obtain ⟨e, h1, rfl, h3⟩ := h.succ
    exact ⟨e, h1, .nil _, h3.zero⟩
  | succ n ih =>
    obtain ⟨e, h1, rfl, h3⟩ := h.succ
    obtain ⟨e', h4, h5, h6⟩ := ih h3
    exact ⟨e', h4, .cons e h1 rfl h5, h6⟩
end

theorem least {p : Nat → Prop} (h : ∃ n, p n) : ∃ n, p n ∧ ∀ m, p m → n ≤ m := by
  obtain ⟨n, hn⟩ := h
  induction n using Nat.strongRecOn with
  | _ n ih =>
    by_cases hx : ∃ m, m < n ∧ p m
    · obtain ⟨m, h1, h2⟩ := hx
      exact ih m h1 h2
    · refine ⟨n, hn, fun m hm => ?_⟩
      apply Classical.byContradiction
      intro h1
      exact hx ⟨m, by omega, hm⟩
def IsD (es : List Ed) (a b : ByteArray) (n : Nat) : Prop := Pth es a b n ∧ ∀ m, Pth es a b m → n ≤ m
open Classical in
/-- how many edges a shortest way has -/
noncomputable def dst (es : List Ed) (a b : ByteArray) : Option Nat := if h : ∃ n, IsD es a b n then some h.choose else none
section
variable {es : List Ed} {a b c : ByteArray} {n m : Nat}
theorem dst_some : dst es a b = some n ↔ IsD es a b n := by
  unfold dst
  constructor
  · intro h
    split at h
    · rename_i hx
      injection h with h
      rw [← h]; exact hx.choose_spec
    · cases h
  · intro h
    have hx : ∃ n, IsD es a b n := ⟨n, h⟩
    rw [dif_pos hx]
    have h2 := hx.choose_spec
    exact congrArg some (Nat.le_antisymm (h2.2 _ h.1) (h.2 _ h2.1))
theorem dst_none : dst es a b = none ↔ ∀ n, ¬ Pth es a b n := by
  constructor
  · intro h n hn
    obtain ⟨m, hm⟩ := least ⟨n, hn⟩
    rw [dst_some.2 (show IsD es a b m from hm)] at h
    cases h
  · intro h
    cases hd : dst es a b with
    | none => rfl
    | some n => exact absurd (dst_some.1 hd).1 (h n)
theorem dst_of (h : Pth es a b n) : ∃ m, dst es a b = some m ∧ m ≤ n := by
  obtain ⟨m, hm⟩ := least ⟨n, h⟩
  exact ⟨m, dst_some.2 (show IsD es a b m from hm), hm.2 n h⟩
theorem dst_zero : dst es a b = some 0 ↔ a = b := by
  rw [dst_some]
  constructor
  · intro h; exact h.1.zero
  · rintro rfl; exact ⟨.nil _, fun m _ => Nat.zero_le m⟩
theorem dst_step {e : Ed} (he : e ∈ es) (h : dst es e.t b = some n) : ∃ m, dst es e.f b = some m ∧ m ≤ n + 1 :=
  dst_of (.cons e he rfl (dst_some.1 h).1)
theorem dst_step' {e : Ed} (he : e ∈ es) (h : dst es a e.f = some n) : ∃ m, dst es a e.t = some m ∧ m ≤ n + 1 :=
  dst_of ((dst_some.1 h).1.trans (Pth.one he))
theorem dst_pred (h : dst es a b = some (n + 1)) : ∃ e ∈ es, e.f = a ∧ dst es e.t b = some n := by
  obtain ⟨h1, h2⟩ := dst_some.1 h
  obtain ⟨e, h3, rfl, h4⟩ := h1.succ
  obtain ⟨m, h5, h6⟩ := dst_of h4
  obtain ⟨k, h7, h8⟩ := dst_step h3 h5
  rw [h] at h7
  injection h7 with h7
  refine ⟨e, h3, rfl, ?_⟩
  rw [h5]; congr 1; omega
theorem dst_pred' (h : dst es a b = some (n + 1)) : ∃ e ∈ es, e.t = b ∧ dst es a e.f = some n := by
  obtain ⟨h1, h2⟩ := dst_some.1 h
  obtain ⟨e, h3, h4, rfl⟩ := h1.succ'
  obtain ⟨m, h5, h6⟩ := dst_of h4
  obtain ⟨k, h7, h8⟩ := dst_step' h3 h5
  rw [h] at h7
  injection h7 with h7
  refine ⟨e, h3, rfl, ?_⟩
  rw [h5]; congr 1; omega
/-- where no way of just n + 1 edges is shortest, none is longer -/
theorem dst_gap (h : ∀ a, dst es a b ≠ some (n + 1)) : ∀ (m : Nat) (a : ByteArray), dst es a b = some m → m ≤ n
  | 0, _, _ => Nat.zero_le _
  | m + 1, a, hd => by
    obtain ⟨e, _, _, h3⟩ := dst_pred hd
    have := dst_gap h m e.t h3
    apply Classical.byContradiction
    intro h4
    have : m = n := by omega
    subst this
    exact h a hd
theorem dst_gap' (h : ∀ b, dst es a b ≠ some (n + 1)) : ∀ (m : Nat) (b : ByteArray), dst es a b = some m → m ≤ n
  | 0, _, _ => Nat.zero_le _
  | m + 1, b, hd => by
    obtain ⟨e, _, _, h3⟩ := dst_pred' hd
    have := dst_gap' h m e.f h3
    apply Classical.byContradiction
    intro h4
    have : m = n := by omega
    subst this
    exact h b hd
end

/-- where a shortest way goes on -/
noncomputable def nxt (es : List Ed) (to a : ByteArray) (d : Nat) : ByteArray := ((es.find? fun e => decide (e.f = a ∧ dst es e.t to = some d)).map (·.t)).getD a
noncomputable def walkOf (es : List Ed) (to : ByteArray) : Nat → ByteArray → List ByteArray
  | 0, _ => []
  | d + 1, a => a :: walkOf es to d (nxt es to a d)
noncomputable def better (es : List Ed) (b : Option (Nat × Ed)) (e : Ed) : Option (Nat × Ed) :=
  if e.n = true then
    match dst es e.t e.f with
    | none => b
    | some d => match b with
      | none => some (d + 1, e)
      | some x => if d + 1 < x.1 then some (d + 1, e) else some x
  else b
noncomputable def bestOf (es l : List Ed) : Option (Nat × Ed) := l.foldl (better es) none
noncomputable def wayOf (es : List Ed) : Option (Nat × Ed) → List ByteArray
  | none => []
  | some x => x.2.f :: walkOf es x.2.f (x.1 - 1) x.2.t
/-- a shortest recursion through a negation -/
noncomputable def cycOf (es : List Ed) : List ByteArray := wayOf es (bestOf es es)

section
variable {es : List Ed} {a to : ByteArray} {d : Nat}
theorem nxt_spec (h : dst es a to = some (d + 1)) : ∃ e ∈ es, e.f = a ∧ e.t = nxt es to a d ∧ dst es (nxt es to a d) to = some d := by
  unfold nxt
  cases hf : es.find? fun e => decide (e.f = a ∧ dst es e.t to = some d) with
  | none =>
    obtain ⟨e, h1, h2, h3⟩ := dst_pred h
    have := List.find?_eq_none.1 hf e h1
    simp [h2, h3] at this
  | some e =>
    have h1 := List.find?_some hf
    have h2 := List.mem_of_find?_eq_some hf
    simp only [decide_eq_true_eq] at h1
    exact ⟨e, h2, h1.1, rfl, h1.2⟩
theorem nxt_at {k : Nat} (hk : k < es.length) (h1 : es[k].f = a ∧ dst es es[k].t to = some d) (hn : ∀ (i : Nat) (hi : i < es.length), i < k → ¬ (es[i].f = a ∧ dst es es[i].t to = some d)) : nxt es to a d = es[k].t := by
  unfold nxt
  have : es.find? (fun e => decide (e.f = a ∧ dst es e.t to = some d)) = some es[k] := by
    rw [List.find?_eq_some_iff_getElem]
    exact ⟨by simpa using h1, k, hk, rfl, fun j hj => by rw [Bool.not_eq_true', decide_eq_false_iff_not]; exact hn j (by omega) hj⟩
  rw [this]; rfl
theorem walk_len : ∀ (d : Nat) (a : ByteArray), (walkOf es to d a).length = d
  | 0, _ => rfl
  | d + 1, a => by simp [walkOf, walk_len d]
theorem walk_dst : ∀ (d : Nat) (a : ByteArray), dst es a to = some d → ∀ (i : Nat) (h : i < (walkOf es to d a).length), dst es (walkOf es to d a)[i] to = some (d - i)
  | 0, _, _, _, h => by simp [walkOf] at h
  | d + 1, a, hd, 0, _ => by simpa [walkOf] using hd
  | d + 1, a, hd, i + 1, h => by
    obtain ⟨e, _, _, _, h4⟩ := nxt_spec hd
    have := walk_dst d _ h4 i (by simpa [walkOf] using h)
    simp only [walkOf, List.getElem_cons_succ]
    rw [this]; congr 1; omega
/-- one element leads to the next, the last one to the end -/
theorem walk_edge : ∀ (d : Nat) (a : ByteArray), dst es a to = some d → ∀ (i : Nat) (h : i < (walkOf es to d a).length), ∃ e ∈ es, e.f = (walkOf es to d a)[i] ∧ e.t = ((walkOf es to d a)[i + 1]?).getD to
  | 0, _, _, _, h => by simp [walkOf] at h
  | d + 1, a, hd, 0, _ => by
    obtain ⟨e, h1, h2, h3, h4⟩ := nxt_spec hd
    refine ⟨e, h1, by simpa [walkOf] using h2, ?_⟩
    cases d with
    | zero =>
      have := dst_zero.1 h4
      simp [walkOf, h3, this]
    | succ d => simp [walkOf, h3]
  | d + 1, a, hd, i + 1, h => by
    obtain ⟨e, _, _, _, h4⟩ := nxt_spec hd
    obtain ⟨e', h5, h6, h7⟩ := walk_edge d _ h4 i (by simpa [walkOf] using h)
    refine ⟨e', h5, by simpa [walkOf] using h6, ?_⟩
    rw [h7]
    simp only [walkOf, List.getElem?_cons_succ]
theorem walk_next : ∀ (d : Nat) (a : ByteArray) (i : Nat) (h : i + 1 < (walkOf es to d a).length), (walkOf es to d a)[i + 1] = nxt es to (walkOf es to d a)[i] (d - i - 1)
  | 0, _, _, h => by simp [walkOf] at h
  | d + 1, a, 0, h => by
    cases d with
    | zero => simp [walkOf] at h
    | succ d => simp [walkOf]
  | d + 1, a, i + 1, h => by
    have := walk_next d (nxt es to a d) i (by simpa [walkOf] using h)
    simp only [walkOf, List.getElem_cons_succ]
    rw [this]; congr 1; omega
end

theorem bestOf_snoc (es l : List Ed) (k : Nat) (h : k < l.length) : bestOf es (l.take (k + 1)) = better es (bestOf es (l.take k)) l[k] := by
  simp only [bestOf, take_snoc l k h, List.foldl_append, List.foldl_cons, List.foldl_nil]
/-- what the best one is: a negated edge from the list, with its distance -/
def BestOk (es : List Ed) (l : List Ed) (o : Option (Nat × Ed)) : Prop := match o with
  | none => ∀ e ∈ l, e.n = true → dst es e.t e.f = none
  | some x => x.2 ∈ l ∧ x.2.n = true ∧ 1 ≤ x.1 ∧ dst es x.2.t x.2.f = some (x.1 - 1)
theorem BestOk.snoc {es l : List Ed} {o : Option (Nat × Ed)} (h : BestOk es l o) (e : Ed) : BestOk es (l ++ [e]) (better es o e) := by
  unfold better
  by_cases hn : e.n = true
  · rw [if_pos hn]
    cases hd : dst es e.t e.f with
    | none =>
      cases o with
      | none =>
        intro x hx hxn
        rcases List.mem_append.1 hx with hx | hx
        · exact h x hx hxn
        · rw [List.mem_singleton] at hx; subst hx; exact hd
      | some x =>
        obtain ⟨h1, h2⟩ := h
        exact ⟨List.mem_append.2 (.inl h1), h2⟩
    | some d =>
      have hnew : BestOk es (l ++ [e]) (some (d + 1, e)) := ⟨by simp, hn, by simp, by simpa using hd⟩
      cases o with
      | none => exact hnew
      | some x =>
        obtain ⟨h1, h2⟩ := h
        simp only
        split
        · exact hnew
        · exact ⟨List.mem_append.2 (.inl h1), h2⟩
  · rw [if_neg hn]
    cases o with
    | none =>
      intro x hx hxn
      rcases List.mem_append.1 hx with hx | hx
      · exact h x hx hxn
      · rw [List.mem_singleton] at hx; subst hx; exact absurd hxn hn
    | some x =>
      obtain ⟨h1, h2⟩ := h
      exact ⟨List.mem_append.2 (.inl h1), h2⟩
theorem best_ok (es l : List Ed) : BestOk es l (bestOf es l) := by
  have : ∀ k, k ≤ l.length → BestOk es (l.take k) (bestOf es (l.take k)) := by
    intro k
    induction k with
    | zero => intro _; simp [bestOf, BestOk]
    | succ k ih =>
      intro hk
      rw [bestOf_snoc es l k (by omega), take_snoc l k (by omega)]
      exact (ih (by omega)).snoc _
  have := this l.length (Nat.le_refl _)
  rwa [List.take_length] at this
theorem way_len {es l : List Ed} {x : Nat × Ed} (h : BestOk es l (some x)) : (wayOf es (some x)).length = x.1 := by
  obtain ⟨_, _, h1, _⟩ := h
  simp only [wayOf, List.length_cons, walk_len]; omega

/-! ### what the law asks of it -/
theorem strat_path {es : List Ed} {f : LvF} (h : Strat es f) {a b : ByteArray} {n : Nat} (p : Pth es a b n) : f b ≤ f a := by
  induction p with
  | nil => exact Nat.le_refl _
  | cons e h1 h2 _ ih =>
    have := h e h1
    subst h2
    omega
theorem cyc_none {es : List Ed} (h : ∃ f, Strat es f) : cycOf es = [] := by
  obtain ⟨f, hf⟩ := h
  have hb := best_ok es es
  unfold cycOf
  cases ho : bestOf es es with
  | none => rfl
  | some x =>
    rw [ho] at hb
    obtain ⟨h1, h2, h3, h4⟩ := hb
    have h5 := strat_path hf (dst_some.1 h4).1
    have h6 := hf _ h1
    simp only [stepN, h2, if_true] at h6
    omega
open Classical in
theorem strat_of_none {es : List Ed} (h : ∀ e ∈ es, e.n = true → dst es e.t e.f = none) : ∃ f, Strat es f := by
  refine ⟨fun s => (es.filter fun e => decide (e.n = true ∧ ∃ n, Pth es s e.f n)).length, fun e he => ?_⟩
  have hsub : ∀ x ∈ es, decide (x.n = true ∧ ∃ n, Pth es e.t x.f n) = true → decide (x.n = true ∧ ∃ n, Pth es e.f x.f n) = true := fun x _ hx => by
    simp only [decide_eq_true_eq] at hx ⊢
    obtain ⟨h1, n, h2⟩ := hx
    exact ⟨h1, n + 1, .cons e he rfl h2⟩
  have hle : ∀ (l : List Ed) (p q : Ed → Bool), (∀ x ∈ l, p x = true → q x = true) → (l.filter p).length ≤ (l.filter q).length := by
    intro l p q
    induction l with
    | nil => intro _; simp
    | cons y r ih =>
      intro hpq
      have h1 := ih fun x hx => hpq x (by simp [hx])
      have h2 := hpq y (by simp)
      simp only [List.filter_cons]
      cases hp : p y <;> cases hq : q y
      · simpa using h1
      · simp; omega
      · rw [h2 hp] at hq; cases hq
      · simpa using h1
  have hlt : ∀ (l : List Ed) (p q : Ed → Bool), (∀ x ∈ l, p x = true → q x = true) → ∀ z ∈ l, p z = false → q z = true → (l.filter p).length + 1 ≤ (l.filter q).length := by
    intro l p q
    induction l with
    | nil => intro _ z hz; cases hz
    | cons y r ih =>
      intro hpq z hz hpz hqz
      have h2 := hpq y (by simp)
      have h3 := hle r p q fun x hx => hpq x (by simp [hx])
      simp only [List.filter_cons]
      rcases List.mem_cons.1 hz with rfl | hz
      · rw [hpz, hqz]; simp; omega
      · have h1 := ih (fun x hx => hpq x (by simp [hx])) z hz hpz hqz
        cases hp : p y <;> cases hq : q y
        · simpa using h1
        · simp; omega
        · rw [h2 hp] at hq; cases hq
        · simp; omega
  unfold stepN
  split
  · rename_i hn
    refine hlt es _ _ hsub e he ?_ ?_
    · simp only [decide_eq_false_iff_not]
      rintro ⟨_, n, hp⟩
      exact dst_none.1 (h e he hn) n hp
    · simp only [decide_eq_true_eq]
      exact ⟨hn, 0, .nil _⟩
  · exact hle es _ _ hsub
theorem cyc_some {es : List Ed} (h : ¬ ∃ f, Strat es f) : ∃ x, BestOk es es (some x) ∧ cycOf es = wayOf es (some x) := by
  have hb := best_ok es es
  unfold cycOf
  cases ho : bestOf es es with
  | none => rw [ho] at hb; exact absurd (strat_of_none hb) h
  | some x => rw [ho] at hb; exact ⟨x, hb, rfl⟩
theorem way_get {es l : List Ed} {x : Nat × Ed} (h : BestOk es l (some x)) (i : Nat) (hi : i < (wayOf es (some x)).length) : dst es (wayOf es (some x))[i] x.2.f = some (if i = 0 then 0 else x.1 - i) := by
  obtain ⟨_, _, h3, h4⟩ := h
  cases i with
  | zero => simp [wayOf, dst_zero]
  | succ i =>
    have := walk_dst _ _ h4 i (by simpa [wayOf] using hi)
    simp only [wayOf, List.getElem_cons_succ]
    rw [this]; simp; omega
theorem way_diff {es l : List Ed} {x : Nat × Ed} (h : BestOk es l (some x)) (i : Nat) (hi : i < (wayOf es (some x)).length) : hasS ((wayOf es (some x)).take i) (wayOf es (some x))[i] = false := by
  simp only [hasS, decide_eq_false_iff_not]
  intro hm
  obtain ⟨j, hj, e⟩ := List.mem_iff_getElem.1 hm
  rw [List.length_take] at hj
  rw [List.getElem_take] at e
  have h1 := way_get h i hi
  have h2 := way_get h j (by omega)
  rw [e, h1] at h2
  have hl := way_len h
  injection h2 with h2
  rw [if_neg (by omega)] at h2
  split at h2 <;> omega
theorem way_joined {es l : List Ed} {x : Nat × Ed} (hl : ∀ e ∈ l, e ∈ es) (h : BestOk es l (some x)) (i : Nat) (hi : i < (wayOf es (some x)).length) (hj : (i + 1) % (wayOf es (some x)).length < (wayOf es (some x)).length) :
    joinedB es (wayOf es (some x))[i] (wayOf es (some x))[(i + 1) % (wayOf es (some x)).length] (decide (i = 0)) = true := by
  have hlen := way_len h
  obtain ⟨h1, h2, h3, h4⟩ := h
  have key : ∃ e ∈ es, e.f = (wayOf es (some x))[i] ∧ e.t = (wayOf es (some x))[(i + 1) % (wayOf es (some x)).length] ∧ (i = 0 → e.n = true) := by
    cases i with
    | zero =>
      refine ⟨x.2, hl _ h1, by simp [wayOf], ?_, fun _ => h2⟩
      by_cases hd : x.1 = 1
      · have e0 : x.1 - 1 = 0 := by omega
        rw [e0] at h4
        have : (0 + 1) % (wayOf es (some x)).length = 0 := by rw [hlen, hd]
        simp only [this]
        rw [dst_zero.1 h4]; simp [wayOf]
      · have : (0 + 1) % (wayOf es (some x)).length = 1 := by rw [hlen]; exact Nat.mod_eq_of_lt (by omega)
        simp only [this]
        obtain ⟨d, hd2⟩ : ∃ d, x.1 - 1 = d + 1 := ⟨x.1 - 2, by omega⟩
        simp only [wayOf, hd2, walkOf, List.getElem_cons_succ, List.getElem_cons_zero]
    | succ i =>
      obtain ⟨e, h5, h6, h7⟩ := walk_edge _ _ h4 i (by simpa [wayOf] using hi)
      refine ⟨e, h5, by simpa [wayOf] using h6, ?_, fun h0 => by omega⟩
      rw [h7]
      by_cases h8 : i + 1 < (walkOf es x.2.f (x.1 - 1) x.2.t).length
      · rw [List.getElem?_eq_getElem h8]
        rw [walk_len] at h8
        have : (i + 1 + 1) % (wayOf es (some x)).length = i + 1 + 1 := Nat.mod_eq_of_lt (by rw [hlen]; omega)
        simp only [this]
        simp only [wayOf, List.getElem_cons_succ, Option.getD_some]
      · rw [List.getElem?_eq_none (by omega)]
        rw [walk_len] at h8
        have : (i + 1 + 1) % (wayOf es (some x)).length = 0 := by
          have : i + 1 + 1 = (wayOf es (some x)).length := by rw [hlen] at hi ⊢; omega
          rw [this, Nat.mod_self]
        simp only [this]
        simp [wayOf]
  obtain ⟨e, h5, h6, h7, h8⟩ := key
  simp only [joinedB, List.any_eq_true]
  refine ⟨e, h5, ?_⟩
  simp only [h6, h7, decide_true, Bool.true_and]
  by_cases hi0 : i = 0
  · simp [h8 hi0]
  · simp [hi0]

/-! ### what the reference finds -/
theorem before_irr : ∀ l : List ByteArray, beforeB l l = false
  | [] => rfl
  | x :: r => by simp [beforeB, before_irr r]
/-- of two ways of one length the later edge has the later one -/
theorem way_before {es l : List Ed} {x y : Nat × Ed} (h : edLess x.2 y.2 = true) (hx : BestOk es l (some x)) (hy : BestOk es l (some y)) (hl : x.1 = y.1) : beforeB (wayOf es (some y)) (wayOf es (some x)) = false := by
  obtain ⟨_, a2, a3, a4⟩ := hx
  obtain ⟨_, b2, b3, b4⟩ := hy
  simp only [edLess, a2, b2] at h
  simp only [wayOf, beforeB]
  by_cases hf : x.2.f = y.2.f
  · rw [if_pos hf] at h
    rw [if_pos hf.symm]
    by_cases ht : x.2.t = y.2.t
    · rw [if_pos ht] at h; simp at h
    · rw [if_neg ht] at h
      rw [← hl]
      cases hd : x.1 - 1 with
      | zero =>
        have e1 : y.1 - 1 = 0 := by omega
        rw [hd] at a4; rw [e1] at b4
        exact absurd ((dst_zero.1 a4).trans (hf.trans (dst_zero.1 b4).symm)) ht
      | succ d =>
        simp only [walkOf, beforeB]
        rw [if_neg (fun e => ht e.symm)]
        exact sLt_asymm h
  · rw [if_neg hf] at h
    rw [if_neg (fun e => hf e.symm)]
    exact sLt_asymm h
end

section
/-! ### where a rule stands -/
theorem rowI_none (n i : Int) : ∀ (r : List Int) (a : Int × Nat), n ∉ r → rowI n i a r = a
  | [], _, _ => rfl
  | x :: r, a, h => by
    have h1 : x ≠ n := fun e => h (by simp [e])
    simp only [rowI, List.foldl_cons, if_neg h1]
    exact rowI_none n i r a fun e => h (by simp [e])
theorem rowI_nodup (n i : Int) : ∀ (r : List Int) (a : Int × Nat), r.Nodup → n ∈ r → rowI n i a r = (i, a.2 + 1)
  | [], _, _, h => by cases h
  | x :: r, a, hn, h => by
    obtain ⟨h1, h2⟩ := List.nodup_cons.1 hn
    by_cases hx : x = n
    · subst hx
      simp only [rowI, List.foldl_cons, if_true]
      exact rowI_none x i r _ h1
    · simp only [rowI, List.foldl_cons, if_neg hx]
      exact rowI_nodup n i r a h2 (by rcases List.mem_cons.1 h with h | h; exact absurd h.symm hx; exact h)
theorem rowOf_nodup (lv : List Lv) (l : List Ru) (n : Int) : (rowOf lv l n).Nodup := by
  unfold rowOf
  refine List.Pairwise.map _ (fun a b h e => h (Int.ofNat_inj.1 e)) (List.Pairwise.filter _ List.nodup_range)
theorem mem_rowOf (lv : List Lv) (l : List Ru) (n : Int) (k : Nat) (hk : k < l.length) : (k : Int) ∈ rowOf lv l n ↔ ofL lv l[k].head.name = n := by
  unfold rowOf
  simp only [List.mem_map, List.mem_filter, List.mem_range, decide_eq_true_eq]
  constructor
  · rintro ⟨i, ⟨h1, h2⟩, h3⟩
    have : i = k := Int.ofNat_inj.1 h3
    subst this
    rw [List.getElem?_eq_getElem h1] at h2
    exact h2
  · intro h
    refine ⟨k, ⟨hk, ?_⟩, rfl⟩
    rw [List.getElem?_eq_getElem hk]; exact h
theorem placeI_append (l : List (List Int)) (r : List Int) (n : Int) : placeI (l ++ [r]) n = rowI n l.length (placeI l n) r := by
  simp only [placeI, List.zipIdx_append, List.foldl_append]
  simp
theorem placeI_rows (lv : List Lv) (l : List Ru) (k : Nat) (hk : k < l.length) : ∀ (T : Nat), placeI ((List.range T).map fun (n : Nat) => rowOf lv l n) k = if 0 ≤ ofL lv l[k].head.name ∧ ofL lv l[k].head.name < T then (ofL lv l[k].head.name, 1) else (-1, 0)
  | 0 => by rw [if_neg (by omega)]; rfl
  | T + 1 => by
    have ih := placeI_rows lv l k hk T
    rw [List.range_succ, List.map_append, List.map_cons, List.map_nil, placeI_append, ih]
    simp only [List.length_map, List.length_range]
    by_cases h : ofL lv l[k].head.name = T
    · rw [rowI_nodup _ _ _ _ (rowOf_nodup lv l T) ((mem_rowOf lv l T k hk).2 h), if_neg (by omega), if_pos (by omega), h]
    · rw [rowI_none _ _ _ _ (fun hm => h ((mem_rowOf lv l T k hk).1 hm))]
      by_cases h1 : 0 ≤ ofL lv l[k].head.name ∧ ofL lv l[k].head.name < T
      · rw [if_pos h1, if_pos (by omega)]
      · rw [if_neg h1, if_neg (by omega)]
theorem placeI_order (lv : List Lv) (l : List Ru) (k : Nat) (hk : k < l.length) : placeI (orderOf lv l) k = if 0 ≤ ofL lv l[k].head.name then (ofL lv l[k].head.name, 1) else (-1, 0) := by
  have h1 := ofL_le_top lv l[k].head.name
  unfold orderOf
  rw [placeI_rows lv l k hk]
  by_cases h : 0 ≤ ofL lv l[k].head.name
  · rw [if_pos h, if_pos (by omega)]
  · rw [if_neg h, if_neg (by omega)]

/-! ### the reference's Distance -/
def stepX (met nx : List ByteArray) (e : Ed) : List ByteArray := if (hasS met e.f && !hasS nx e.t) = true then nx ++ [e.t] else nx
theorem stepX_pos {met nx : List ByteArray} {e : Ed} (h1 : e.f ∈ met) (h2 : e.t ∉ nx) : stepX met nx e = nx ++ [e.t] := by simp [stepX, hasS, h1, h2]
theorem stepX_neg {met nx : List ByteArray} {e : Ed} (h : ¬ (e.f ∈ met ∧ e.t ∉ nx)) : stepX met nx e = nx := by
  unfold stepX hasS
  rw [if_neg]
  intro h1
  simp only [Bool.and_eq_true, decide_eq_true_eq, Bool.not_eq_true', decide_eq_false_iff_not] at h1
  exact h h1
def nextOf (es : List Ed) (met : List ByteArray) (nx : List ByteArray) : List ByteArray := es.foldl (stepX met) nx
theorem nextOf_snoc (es : List Ed) (met nx : List ByteArray) (k : Nat) (h : k < es.length) : nextOf (es.take (k + 1)) met nx = if (hasS met es[k].f && !hasS (nextOf (es.take k) met nx) es[k].t) = true then nextOf (es.take k) met nx ++ [es[k].t] else nextOf (es.take k) met nx := by
  simp only [nextOf, take_snoc es k h, List.foldl_append, List.foldl_cons, List.foldl_nil]; rfl
theorem nextOf_len (met : List ByteArray) : ∀ (es : List Ed) (nx : List ByteArray), nx.length ≤ (nextOf es met nx).length ∧ (nextOf es met nx).length ≤ nx.length + es.length
  | [], _ => ⟨Nat.le_refl _, Nat.le_refl _⟩
  | e :: es, nx => by
    have h := nextOf_len met es (stepX met nx e)
    have h2 : nx.length ≤ (stepX met nx e).length ∧ (stepX met nx e).length ≤ nx.length + 1 := by unfold stepX; split <;> simp
    simp only [nextOf, List.foldl_cons, List.length_cons] at h ⊢
    omega
theorem nextOf_same (met : List ByteArray) : ∀ (es : List Ed) (nx : List ByteArray), (nextOf es met nx).length = nx.length → ∀ e ∈ es, e.f ∈ met → e.t ∈ nx
  | [], _, _ => by simp
  | e :: es, nx, h => by
    simp only [nextOf, List.foldl_cons] at h
    by_cases hc : e.f ∈ met ∧ e.t ∉ nx
    · rw [stepX_pos hc.1 hc.2] at h
      have := (nextOf_len met es (nx ++ [e.t])).1
      simp only [nextOf, List.length_append, List.length_cons, List.length_nil] at this
      omega
    · rw [stepX_neg hc] at h
      have ih := nextOf_same met es nx h
      intro x hx hm
      rcases List.mem_cons.1 hx with rfl | hx
      · apply Classical.byContradiction
        intro hn
        exact hc ⟨hm, hn⟩
      · exact ih x hx hm
theorem mem_nextOf (met : List ByteArray) (s : ByteArray) : ∀ (es : List Ed) (nx : List ByteArray), s ∈ nextOf es met nx ↔ s ∈ nx ∨ ∃ e ∈ es, e.f ∈ met ∧ e.t = s
  | [], nx => by simp [nextOf]
  | e :: es, nx => by
    have ih := mem_nextOf met s es (stepX met nx e)
    simp only [nextOf, List.foldl_cons] at ih ⊢
    rw [ih]
    simp only [List.mem_cons, exists_eq_or_imp]
    by_cases hc : e.f ∈ met ∧ e.t ∉ nx
    · rw [stepX_pos hc.1 hc.2, List.mem_append, List.mem_singleton]
      constructor
      · rintro ((h | h) | h)
        · exact .inl h
        · exact .inr (.inl ⟨hc.1, h.symm⟩)
        · exact .inr (.inr h)
      · rintro (h | h | h)
        · exact .inl (.inl h)
        · exact .inl (.inr h.2.symm)
        · exact .inr h
    · rw [stepX_neg hc]
      constructor
      · rintro (h | h)
        · exact .inl h
        · exact .inr (.inr h)
      · rintro (h | h | h)
        · exact .inl h
        · refine .inl ?_
          apply Classical.byContradiction
          intro hn
          exact hc ⟨h.1, fun h2 => hn (h.2 ▸ h2)⟩
        · exact .inr h
theorem nodup_nextOf (met : List ByteArray) : ∀ (es : List Ed) (nx : List ByteArray), nx.Nodup → (nextOf es met nx).Nodup
  | [], _, h => h
  | e :: es, nx, h => by
    have ih := nodup_nextOf met es (stepX met nx e)
    simp only [nextOf, List.foldl_cons] at ih ⊢
    refine ih ?_
    by_cases hc : e.f ∈ met ∧ e.t ∉ nx
    · rw [stepX_pos hc.1 hc.2, List.nodup_append]
      refine ⟨h, by simp, fun a ha b hb e => ?_⟩
      rw [List.mem_singleton] at hb
      subst hb e
      exact hc.2 ha
    · rw [stepX_neg hc]; exact h
/-- who is met within n edges -/
structure MetAt (es : List Ed) (a : ByteArray) (n : Nat) (met : List ByteArray) : Prop where
  nodup : met.Nodup
  mem : ∀ s, s ∈ met ↔ ∃ m, m ≤ n ∧ dst es a s = some m
  ends : ∀ s ∈ met, s = a ∨ ∃ e ∈ es, e.t = s
section
variable {es : List Ed} {a b : ByteArray} {n : Nat} {met : List ByteArray}
theorem MetAt.zero (es : List Ed) (a : ByteArray) : MetAt es a 0 [a] := by
  refine ⟨by simp, fun s => ?_, fun s hs => .inl (by simpa using hs)⟩
  rw [List.mem_singleton]
  constructor
  · rintro rfl; exact ⟨0, Nat.le_refl _, dst_zero.2 rfl⟩
  · rintro ⟨m, h1, h2⟩
    have : m = 0 := by omega
    subst this
    exact (dst_zero.1 h2).symm
theorem MetAt.len (h : MetAt es a n met) : met.length ≤ es.length + 1 := by
  have := nodup_len h.nodup (m := a :: es.map (·.t)) (fun s hs => by
    rcases h.ends s hs with rfl | ⟨e, h1, h2⟩
    · simp
    · exact List.mem_cons_of_mem _ (List.mem_map.2 ⟨e, h1, h2⟩))
  simpa using this
theorem MetAt.next (h : MetAt es a n met) : MetAt es a (n + 1) (nextOf es met met) := by
  refine ⟨nodup_nextOf met es met h.nodup, fun s => ?_, fun s hs => ?_⟩
  · rw [mem_nextOf]
    constructor
    · rintro (h1 | ⟨e, h1, h2, rfl⟩)
      · obtain ⟨m, h3, h4⟩ := (h.mem s).1 h1
        exact ⟨m, by omega, h4⟩
      · obtain ⟨m, h3, h4⟩ := (h.mem e.f).1 h2
        obtain ⟨k, h5, h6⟩ := dst_step' h1 h4
        exact ⟨k, by omega, h5⟩
    · rintro ⟨m, h1, h2⟩
      by_cases hm : m ≤ n
      · exact .inl ((h.mem s).2 ⟨m, hm, h2⟩)
      · have : m = n + 1 := by omega
        subst this
        obtain ⟨e, h3, h4, h5⟩ := dst_pred' h2
        exact .inr ⟨e, h3, (h.mem e.f).2 ⟨n, Nat.le_refl _, h5⟩, h4⟩
  · rcases (mem_nextOf met s es met).1 hs with h1 | ⟨e, h1, _, h2⟩
    · exact h.ends s h1
    · exact .inr ⟨e, h1, h2⟩
theorem MetAt.stop (h : MetAt es a n met) (hl : (nextOf es met met).length = met.length) (hb : b ∉ met) : dst es a b = none := by
  have hs := nextOf_same met es met hl
  have hg : ∀ c, dst es a c ≠ some (n + 1) := fun c hc => by
    obtain ⟨e, h3, h4, h5⟩ := dst_pred' hc
    have h6 := hs e h3 ((h.mem e.f).2 ⟨n, Nat.le_refl _, h5⟩)
    rw [h4] at h6
    obtain ⟨m, h7, h8⟩ := (h.mem c).1 h6
    rw [hc] at h8
    injection h8 with h8
    omega
  cases hd : dst es a b with
  | none => rfl
  | some m => exact absurd ((h.mem b).2 ⟨m, dst_gap' hg m b hd, hd⟩) hb
end
/-- a distance as a number, -1 if there is none -/
noncomputable def distI (es : List Ed) (a b : ByteArray) : Int := match dst es a b with | some n => n | none => -1
theorem distI_some {es : List Ed} {a b : ByteArray} {n : Nat} : distI es a b = n ↔ dst es a b = some n := by
  unfold distI
  cases dst es a b with
  | none => simp only [reduceCtorEq]
  | some m => simp only [Option.some.injEq]; omega
theorem distI_none {es : List Ed} {a b : ByteArray} : distI es a b < 0 ↔ dst es a b = none := by
  unfold distI
  cases dst es a b with
  | none => simp
  | some m => simp
/-- a distance is below the number of edges -/
theorem dst_le {es : List Ed} {a b : ByteArray} {n : Nat} (h : dst es a b = some n) : n ≤ es.length := by
  have : ∀ n, ∃ met, MetAt es a n met ∧ ∀ k ≤ n, (∃ c, dst es a c = some n) → k + 1 ≤ met.length ∨ ∃ j < k, ¬ ∃ c, dst es a c = some j := by
    intro n
    induction n with
    | zero => exact ⟨[a], MetAt.zero es a, fun k hk _ => .inl (by simp; omega)⟩
    | succ n ih =>
      obtain ⟨met, h1, h2⟩ := ih
      refine ⟨_, h1.next, fun k hk hc => ?_⟩
      obtain ⟨c, hc⟩ := hc
      obtain ⟨e, h3, h4, h5⟩ := dst_pred' hc
      have hnew : c ∉ met := fun hm => by
        obtain ⟨m, h6, h7⟩ := (h1.mem c).1 hm
        rw [hc] at h7
        injection h7 with h7
        omega
      have hlen : met.length + 1 ≤ (nextOf es met met).length := by
        have h8 := (nextOf_len met es met).1
        rcases Nat.lt_or_ge met.length (nextOf es met met).length with h9 | h9
        · omega
        · have h10 := nextOf_same met es met (by omega) e h3 ((h1.mem e.f).2 ⟨n, Nat.le_refl _, h5⟩)
          rw [h4] at h10
          exact absurd h10 hnew
      rcases h2 n (Nat.le_refl _) ⟨_, h5⟩ with h11 | ⟨j, h11, h12⟩
      · exact .inl (by omega)
      · exfalso
        have : ∀ m, m ≤ n → ∃ c, dst es a c = some m := by
          intro m hm
          have : ∀ d, d ≤ n → ∃ c, dst es a c = some (n - d) := by
            intro d
            induction d with
            | zero => intro _; exact ⟨_, h5⟩
            | succ d ih =>
              intro hd
              obtain ⟨c', hc'⟩ := ih (by omega)
              obtain ⟨e', _, _, h⟩ := dst_pred' (n := n - (d + 1)) (by rw [hc']; congr 1; omega)
              exact ⟨_, h⟩
          obtain ⟨c', hc'⟩ := this (n - m) (by omega)
          exact ⟨c', by rw [hc']; congr 1; omega⟩
        exact h12 (this j (by omega))
  obtain ⟨met, h1, h2⟩ := this n
  have hl := h1.len
  rcases h2 n (Nat.le_refl _) ⟨b, h⟩ with h3 | ⟨j, h3, h4⟩
  · omega
  · exfalso
    have : ∀ d, d ≤ n → ∃ c, dst es a c = some (n - d) := by
      intro d
      induction d with
      | zero => intro _; exact ⟨_, h⟩
      | succ d ih =>
        intro hd
        obtain ⟨c', hc'⟩ := ih (by omega)
        obtain ⟨e', _, _, h⟩ := dst_pred' (n := n - (d + 1)) (by rw [hc']; congr 1; omega)
        exact ⟨_, h⟩
    obtain ⟨c', hc'⟩ := this (n - j) (by omega)
    exact h4 ⟨c', by rw [hc']; congr 1; omega⟩

/-! ### the reference's Cycle -/
/-- where a shortest way goes on, among the first edges -/
noncomputable def nxtAt (es l : List Ed) (to a : ByteArray) (d : Nat) : Option ByteArray := (l.find? fun e => decide (e.f = a ∧ dst es e.t to = some d)).map (·.t)
theorem nxtAt_snoc (es l : List Ed) (to a : ByteArray) (d k : Nat) (h : k < l.length) : nxtAt es (l.take (k + 1)) to a d = (nxtAt es (l.take k) to a d).or (if l[k].f = a ∧ dst es l[k].t to = some d then some l[k].t else none) := by
  unfold nxtAt
  rw [take_snoc l k h, List.find?_append]
  cases List.find? (fun e => decide (e.f = a ∧ dst es e.t to = some d)) (l.take k) with
  | some e => simp
  | none =>
    simp only [Option.none_or, Option.map_none, List.find?_cons, List.find?_nil]
    split
    · rename_i h1; rw [if_pos (by simpa using h1)]; rfl
    · rename_i h1; rw [if_neg (by simpa using h1)]; rfl
theorem nxtAt_all {es : List Ed} {to a : ByteArray} {d : Nat} (h : dst es a to = some (d + 1)) : nxtAt es es to a d = some (nxt es to a d) := by
  obtain ⟨e, h1, h2, h3, h4⟩ := nxt_spec h
  unfold nxtAt nxt
  cases hf : es.find? fun e => decide (e.f = a ∧ dst es e.t to = some d) with
  | none =>
    have := List.find?_eq_none.1 hf e h1
    rw [← h3] at h4
    simp [h2, h4] at this
  | some x => rfl
/-- among ascending edges no later one leads to a smaller name -/
theorem nxtAt_least {es l : List Ed} (ha : Asc edLess l) {to a y : ByteArray} {d k : Nat} (hk : k < l.length) (hf : nxtAt es (l.take k) to a d = some y) (hx : l[k].f = a) : sLt l[k].t y = false := by
  unfold nxtAt at hf
  cases he : (l.take k).find? (fun e => decide (e.f = a ∧ dst es e.t to = some d)) with
  | none => rw [he] at hf; cases hf
  | some x =>
    rw [he] at hf
    injection hf with hf
    subst hf
    have h1 := List.find?_some he
    have h2 := List.mem_of_find?_eq_some he
    simp only [decide_eq_true_eq] at h1
    obtain ⟨i, hi, e⟩ := List.mem_iff_getElem.1 h2
    rw [List.length_take] at hi
    rw [List.getElem_take] at e
    have h3 : edLess l[i] l[k] = true := List.pairwise_iff_getElem.1 ha i k (by omega) hk (by omega)
    rw [e] at h3
    unfold edLess at h3
    rw [if_pos (h1.1.trans hx.symm)] at h3
    by_cases ht : x.t = l[k].t
    · show sLt l[k].t x.t = false
      rw [ht]; exact sLt_irr _
    · rw [if_neg ht] at h3
      exact sLt_asymm h3
/-- the j-th name of a walk, its end behind the last one -/
noncomputable def atW (es : List Ed) (to : ByteArray) (d : Nat) (a : ByteArray) (j : Nat) : ByteArray := ((walkOf es to d a)[j]?).getD to
theorem atW_zero {es : List Ed} {to a : ByteArray} {d : Nat} (h : dst es a to = some d) : atW es to d a 0 = a := by
  unfold atW
  cases d with
  | zero => have := dst_zero.1 h; subst this; simp [walkOf]
  | succ d => simp [walkOf]
theorem atW_get {es : List Ed} {to a : ByteArray} {d j : Nat} (h : j < d) : atW es to d a j = (walkOf es to d a)[j]'(by rw [walk_len]; exact h) := by
  unfold atW
  rw [List.getElem?_eq_getElem (by rw [walk_len]; exact h)]; rfl
theorem atW_dst {es : List Ed} {to a : ByteArray} {d j : Nat} (h : dst es a to = some d) (hj : j ≤ d) : dst es (atW es to d a j) to = some (d - j) := by
  rcases Nat.lt_or_ge j d with hlt | hge
  · rw [atW_get hlt]
    exact walk_dst d a h j (by rw [walk_len]; exact hlt)
  · have : j = d := by omega
    subst this
    unfold atW
    rw [List.getElem?_eq_none (by rw [walk_len]; exact Nat.le_refl _)]
    rw [Nat.sub_self]
    exact dst_zero.2 rfl
theorem atW_succ {es : List Ed} {to a : ByteArray} {d j : Nat} (h : dst es a to = some d) (hj : j < d) : atW es to d a (j + 1) = nxt es to (atW es to d a j) (d - j - 1) := by
  rcases Nat.lt_or_ge (j + 1) d with hlt | hge
  · rw [atW_get hlt, atW_get hj]
    exact walk_next d a j (by rw [walk_len]; exact hlt)
  · have hd : d = j + 1 := by omega
    have h1 := atW_dst h (Nat.le_of_lt hj)
    have h2 : d - j = 0 + 1 := by omega
    rw [h2] at h1
    obtain ⟨e, _, _, _, h4⟩ := nxt_spec h1
    have h5 : d - j - 1 = 0 := by omega
    rw [h5, dst_zero.1 h4]
    unfold atW
    rw [List.getElem?_eq_none (by rw [walk_len]; omega)]; rfl
theorem walk_take {es : List Ed} {to a : ByteArray} {d j : Nat} (hj : j < d) : (walkOf es to d a).take (j + 1) = (walkOf es to d a).take j ++ [atW es to d a j] := by
  rw [atW_get hj]
  exact take_snoc _ j (by rw [walk_len]; exact hj)
theorem walk_all {es : List Ed} {to a : ByteArray} (d : Nat) : (walkOf es to d a).take d = walkOf es to d a := by
  have := walk_len (es := es) (to := to) d a
  exact List.take_of_length_le (by omega)
end

section
section
variable {es fs : List Ed} {N M : List ByteArray} {lv : List Lv} {o : Option (List Lv)}
theorem LvAns.form (h : LvAns es N (some lv)) : ∃ f, Strat es f ∧ Lower es f ∧ lv = lvList N f := by
  rcases h with ⟨f, h1, h2, h3⟩ | ⟨_, h3⟩
  · injection h3 with h3; exact ⟨f, h1, h2, h3⟩
  · cases h3
theorem LvAns.valid (hE : Ends es N) (ha : Asc sLt N) (h : LvAns es N (some lv)) : ValidL es N lv := by
  obtain ⟨f, h1, _, rfl⟩ := h.form
  exact valid_list ha hE h1
/-- no relation has a lower level in another valid list -/
theorem LvAns.least (hE : Ends es N) (h : LvAns es N o) {other : List Lv} (hv : ValidL es N other) : ∃ lv, o = some lv ∧ ∀ x ∈ lv, x.n ≤ ofL other x.s := by
  have hs := hv.strat hE
  rcases h with ⟨f, h1, h2, rfl⟩ | ⟨h1, rfl⟩
  · refine ⟨_, rfl, fun x hx => ?_⟩
    obtain ⟨s, hs', rfl⟩ := List.mem_map.1 hx
    have h3 := h2 _ hs s
    have h4 := hv.2.1 s hs'
    simp only at h3 ⊢
    omega
  · exact absurd ⟨_, hs⟩ h1
/-- a part of a description has strata which are not higher -/
theorem LvAns.part (h : LvAns es N (some lv)) (h' : LvAns fs M o) (he : ∀ e ∈ fs, e ∈ es) (hn : ∀ s ∈ M, s ∈ N) : ∃ lv', o = some lv' ∧ ∀ x ∈ lv', x.n ≤ ofL lv x.s := by
  obtain ⟨f, h1, _, rfl⟩ := h.form
  have hs := h1.sub he
  rcases h' with ⟨g, h3, h4, rfl⟩ | ⟨h3, rfl⟩
  · refine ⟨_, rfl, fun x hx => ?_⟩
    obtain ⟨s, hs', rfl⟩ := List.mem_map.1 hx
    have h5 := h4 _ hs s
    rw [ofL_list, if_pos (hn s hs')]
    simp only
    omega
  · exact absurd ⟨_, hs⟩ h3
end
section
variable {l : List Ru} {lv : List Lv}
theorem LvAns.head_dis (h : LvAns (edgesOf l) (relsOf l) (some lv)) {k : Nat} (hk : k < l.length) (hd : l[k].head.name = dis) : placeI (orderOf lv l) k = (-1, 0) := by
  obtain ⟨f, _, _, rfl⟩ := h.form
  rw [placeI_order _ _ _ hk, hd, ofL_list, if_neg (fun hm => ((mem_relsOf l dis).1 hm).1 rfl), if_neg (by omega)]
theorem LvAns.head_place (h : LvAns (edgesOf l) (relsOf l) (some lv)) {k : Nat} (hk : k < l.length) (hd : l[k].head.name ≠ dis) : placeI (orderOf lv l) k = (ofL lv l[k].head.name, 1) := by
  obtain ⟨f, _, _, rfl⟩ := h.form
  rw [placeI_order _ _ _ hk, if_pos]
  rw [ofL_list, if_pos ((mem_relsOf l _).2 ⟨hd, l[k], List.getElem_mem hk, .inl rfl⟩)]
  omega
/-- a rule stands after those on whose negation it depends, and not before those on which it depends -/
theorem LvAns.after (h : LvAns (edgesOf l) (relsOf l) (some lv)) {i j k : Nat} (hi : i < l.length) (hj : j < l.length) (hk : k < l[i].body.length) (hd : l[i].head.name ≠ dis) (he : l[j].head.name = l[i].body[k].atom.name) (hdj : l[j].head.name ≠ dis) :
    ofL lv l[j].head.name ≤ ofL lv l[i].head.name ∧ (l[i].body[k].nt = true → ofL lv l[j].head.name ≠ ofL lv l[i].head.name) := by
  obtain ⟨f, h1, _, rfl⟩ := h.form
  have hm := h1 (edOf l[i].head.name l[i].body[k]) ((mem_edgesOf l _).2 ⟨l[i], List.getElem_mem hi, hd, _, List.getElem_mem hk, by rw [← he]; exact hdj, rfl⟩)
  rw [ofL_list, ofL_list, if_pos ((mem_relsOf l _).2 ⟨hdj, l[j], List.getElem_mem hj, .inl rfl⟩), if_pos ((mem_relsOf l _).2 ⟨hd, l[i], List.getElem_mem hi, .inl rfl⟩), he]
  have hm' : f l[i].body[k].atom.name + stepN (edOf l[i].head.name l[i].body[k]) ≤ f l[i].head.name := hm
  have hs : l[i].body[k].nt = true → stepN (edOf l[i].head.name l[i].body[k]) = 1 := fun hn => if_pos hn
  refine ⟨by omega, fun hn => ?_⟩
  have := hs hn
  omega
end
end
end Go.Proofs.YtgljjapglgcpdaaGreatDoor
