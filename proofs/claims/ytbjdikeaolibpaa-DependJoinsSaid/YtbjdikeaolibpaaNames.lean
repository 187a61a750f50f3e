/-
  slices.Compact of an ascending list, slices.BinarySearch in one.
-/
import Derived.Test.YtbjdikeaolibpaaStrSeq
namespace Go.Proofs.Ytbjdikeaolibpaa
open Go.RowKit Go.Shelf Go.Sort

section
open Go.Lib
theorem compact_inv (d : Array (List UInt8)) (hs : ∀ i j, i ≤ j → j < d.size → d[i]! ≤ d[j]!) : ∀ m, m ≤ d.size →
    (compactUpTo d m).Pairwise (fun a b => a < b) ∧ (∀ x, x ∈ compactUpTo d m ↔ ∃ j, j < m ∧ d[j]! = x) := by
  intro m
  induction m with
  | zero => intro _; simp [compactUpTo]
  | succ m ih =>
    intro hm
    obtain ⟨h1, h2⟩ := ih (by omega)
    rw [compactUpTo_succ]
    by_cases hk : keeps d m = true
    · rw [if_pos hk]
      have hlt : ∀ x ∈ compactUpTo d m, x < d[m]! := by
        intro x hx
        obtain ⟨j, hj, rfl⟩ := (h2 x).1 hx
        have hne : d[m]! ≠ d[m - 1]! := by
          simp only [keeps, decide_eq_true_eq] at hk
          rcases hk with h | h
          · omega
          · exact h
        have a1 := hs j (m - 1) (by omega) (by omega)
        have a2 := hs (m - 1) m (by omega) (by omega)
        have a3 : d[m - 1]! < d[m]! := Classical.byContradiction fun h => hne (List.le_antisymm (List.not_lt.1 h) a2)
        exact Classical.byContradiction fun h => hne (List.le_antisymm (List.le_trans (List.not_lt.1 h) a1) a2)
      refine ⟨List.pairwise_append.2 ⟨h1, List.pairwise_singleton _ _, fun a ha b hb => by simp at hb; subst hb; exact hlt a ha⟩, fun x => ?_⟩
      rw [List.mem_append, h2, List.mem_singleton]
      constructor
      · rintro (⟨j, hj, rfl⟩ | rfl)
        · exact ⟨j, by omega, rfl⟩
        · exact ⟨m, by omega, rfl⟩
      · rintro ⟨j, hj, rfl⟩
        by_cases hjm : j = m
        · subst hjm; exact .inr rfl
        · exact .inl ⟨j, by omega, rfl⟩
    · rw [if_neg hk, List.append_nil]
      have he : d[m]! = d[m - 1]! ∧ m ≠ 0 := by
        simp only [keeps, decide_eq_true_eq, not_or, ne_eq, Decidable.not_not] at hk
        exact ⟨hk.2, hk.1⟩
      refine ⟨h1, fun x => ?_⟩
      rw [h2]
      constructor
      · rintro ⟨j, hj, rfl⟩; exact ⟨j, by omega, rfl⟩
      · rintro ⟨j, hj, rfl⟩
        by_cases hjm : j = m
        · subst hjm; exact ⟨j - 1, by omega, he.1.symm⟩
        · exact ⟨j, by omega, rfl⟩
end
theorem compact_sort (xs : List ByteArray) : (Lib.compact ((bytesOf xs).mergeSort fun x y => decide (x ≤ y))).map toBs = insAll xs := by
  have hpw := List.pairwise_mergeSort leB_trans leB_total (bytesOf xs)
  have hmem : ∀ b, b ∈ (bytesOf xs).mergeSort (fun x y => decide (x ≤ y)) ↔ b ∈ bytesOf xs := fun b => (List.mergeSort_perm _ _).mem_iff
  generalize (bytesOf xs).mergeSort (fun x y => decide (x ≤ y)) = zs at hpw hmem
  have hs : ∀ i j, i ≤ j → j < zs.toArray.size → zs.toArray[i]! ≤ zs.toArray[j]! := by
    intro i j hij hj
    simp only [List.size_toArray] at hj
    have hi : i < zs.length := by omega
    have e1 : zs.toArray[i]! = zs[i] := by simp [hi]
    have e2 : zs.toArray[j]! = zs[j] := by simp [hj]
    rw [e1, e2]
    rcases Nat.lt_or_eq_of_le hij with h | h
    · have := List.pairwise_iff_getElem.1 hpw i j hi hj h
      simpa using this
    · subst h; exact List.le_refl _
  obtain ⟨h1, h2⟩ := compact_inv zs.toArray hs zs.length (by simp)
  refine asc_ext sLt_sto ?_ (asc_insAll _) fun x => ?_
  · refine List.pairwise_map.2 (h1.imp fun {a b} h => ?_)
    show Op.bytesLess (toBs a).toList (toBs b).toList = true
    rw [toList_bs, toList_bs, bytesLess_eq]
    show decide (a < b) = true
    rw [decide_eq_true_eq]; exact h
  · rw [mem_insAll, List.mem_map]
    have hz : ∀ y, y ∈ Lib.compact zs ↔ y ∈ zs := by
      intro y
      show y ∈ Lib.compactUpTo _ _ ↔ _
      rw [h2, List.mem_iff_getElem]
      constructor
      · rintro ⟨j, hj, e⟩; exact ⟨j, hj, by rw [← e]; simp [hj]⟩
      · rintro ⟨j, hj, e⟩; exact ⟨j, hj, by rw [← e]; simp [hj]⟩
    constructor
    · rintro ⟨y, hy, rfl⟩
      obtain ⟨k, hk, rfl⟩ := List.mem_map.1 ((hmem y).1 ((hz y).1 hy))
      exact hk
    · intro hx
      exact ⟨x.data.toList, (hz _).2 ((hmem _).2 (List.mem_map.2 ⟨x, hx, rfl⟩)), rfl⟩

/-- slices.Compact(slices.Sorted(..)) -/
theorem compactOwn (base : Nat) (v : Value) (xs : List ByteArray) (W : World) (hm : xs.length ≤ 1000000000) (h : W.ownsRow base 9 1 v xs.length ((sortS xs).map encB)) :
    Calls Try.prog 71 #[v] W fun e w' => ∃ v', e = .returned v' ∧ Ch v.ownBlock.toList W w' ∧ SlS (fun b => base ≤ b) w' v' (insAll xs) := by
  rcases h.2 with ⟨rfl, h0⟩ | ⟨g, cap, cur, rfl, hbase, hb, h1, h2, h3, h4⟩
  · have hx : xs = [] := List.eq_nil_of_length_eq_zero h0
    subst hx
    refine Calls.mono (P := Try.prog) (Any.slices_Compact_string_empty lay_compactS none 0 W) ?_
    rintro e w' ⟨rfl, rfl⟩
    exact ⟨_, rfl, Ch.refl _ _, Sl.nil _ _ _⟩
  · have hg := lt_of_heap hb
    have hcs := compact_sort xs
    have hse : (sortS xs).map encB = ((bytesOf xs).mergeSort fun x y => decide (x ≤ y)).map encStr := (encStr_toBs _).symm
    have hl : ((bytesOf xs).mergeSort fun x y => decide (x ≤ y)).length = xs.length := by simp [bytesOf]
    rw [hse] at h4
    generalize ((bytesOf xs).mergeSort fun x y => decide (x ≤ y)) = zs at hcs h4 hl
    rw [Nat.mul_one, ← hl] at h4
    have hH := holds_of_block hb h4
    have hcon := Any.slices_Compact_string lay_compactS g 0 cap zs W hH (by omega) (by omega)
    rw [hl] at hcon
    refine Calls.mono (P := Try.prog) hcon ?_
    rintro e w' ⟨rfl, q, rfl⟩
    have hle : (Lib.compact zs).length ≤ zs.length := by
      simp only [Lib.compact, Lib.compactUpTo, List.length_map]
      exact Nat.le_trans (List.length_filter_le _ _) (by simp)
    have hsz : (Lib.compact zs ++ List.replicate (zs.length - (Lib.compact zs).length) []).toArray.size = zs.toArray.size := by simp; omega
    have hP := holds_putRow encStr (Sort.ahead W q) g 0 zs.toArray (Lib.compact zs ++ List.replicate (zs.length - (Lib.compact zs).length) []).toArray (holds_ahead _ _ _ _ _ _ hH) hsz
    have hlc : (insAll xs).length = (Lib.compact zs).length := by rw [← hcs, List.length_map]
    rw [hl] at hP
    refine ⟨_, rfl, ⟨rfl, rfl, rfl, by simp, fun k hk hne => ?_⟩, _, cap, by rw [List.length_map, hlc], by rw [List.length_map, hlc]; omega, h2, fun i cs hi => ?_⟩
    · have : g ≠ k := fun e => hne (by rw [e]; simp [Value.ownBlock])
      simp [putRow, mapBlock, Sort.ahead, Array.getElem?_modify, this]
    · rw [List.getElem?_map, Option.map_eq_some_iff] at hi
      obtain ⟨x, hx, rfl⟩ := hi
      have hil : i < (Lib.compact zs).length := by rw [← hlc]; exact (List.getElem?_eq_some_iff.1 hx).1
      refine ⟨⟨rfl, fun u hu => by simp [encS] at hu; subst hu; rfl⟩, g, 0, rfl, ⟨hbase, by simp; exact hg⟩, fun j u hu => ?_⟩
      match j, hu with
      | 0, hu =>
        simp only [encS, List.getElem?_cons_zero, Option.some.injEq] at hu
        subst hu
        have := (hP i (by simp; omega)).1
        rw [Nat.mul_one, Nat.add_zero, this]
        rw [← hcs, List.getElem?_map, List.getElem?_eq_getElem hil] at hx
        simp only [Option.map_some, Option.some.injEq] at hx
        rw [← hx]
        have e : (Lib.compact zs ++ List.replicate (xs.length - (Lib.compact zs).length) []).toArray[i]! = (Lib.compact zs)[i] := by
          rw [getElem!_pos _ _ (by simp; omega)]
          simp [List.getElem_append_left hil]
        rw [e]; rfl
      | j + 1, hu => simp [encS] at hu

/-- slices.BinarySearch in an ascending list -/
theorem binSearch (p) (v : Value) (xs : List ByteArray) (s : ByteArray) (w : World) (h : SlS p w v xs) (ha : Asc sLt xs) (hn : xs.length ≤ 1000000000) :
    Calls Try.prog 74 #[v, .string s] w fun e w' => ∃ i : Int, e = .returned (.tuple #[.int .i64 i, .bool (hasS xs s)]) ∧ Ch [] w w' := by
  obtain ⟨a, c, rfl, _, _⟩ := h.form
  by_cases he : xs = []
  · subst he
    refine Calls.mono (P := Try.prog) (Any2.slices_BinarySearch_string_empty lay_binS a c s w) ?_
    rintro e w' ⟨rfl, rfl⟩
    exact ⟨0, by simp [hasS], Ch.refl _ _⟩
  · have hpos : 0 < xs.length := List.length_pos_iff.2 he
    obtain ⟨b, o, rfl, _, _⟩ := h.at_ hpos
    have hgd : ∀ j (hj : j < xs.length), xs.getD j s = xs[j] := fun j hj => by rw [List.getD_eq_getElem?_getD, List.getElem?_eq_getElem hj]; rfl
    have hgd2 : ∀ j, xs.length ≤ j → xs.getD j s = s := fun j hj => by rw [List.getD_eq_getElem?_getD, List.getElem?_eq_none hj]; rfl
    have hc : ∀ j, j < xs.length → w.cell? ⟨b, o + j, none⟩ = some (.string (xs.getD j s)) := by
      intro j hj
      obtain ⟨b', o', e, _, h1⟩ := h.at_ hj
      injection e with e; injection e with e1 e2; subst e1 e2
      rw [h1, hgd j hj]
    have hk := belowS_le xs s
    have hnot : ∀ t (ht : t < xs.length), belowS xs s ≤ t → sLt xs[t] s = false := by
      intro t ht hkt
      cases hx : sLt xs[t] s with
      | false => rfl
      | true =>
        have hkl : belowS xs s < xs.length := by omega
        have h1 := belowS_at xs s hkl
        rcases Nat.lt_or_eq_of_le hkt with h2 | h2
        · have := List.pairwise_iff_getElem.1 ha _ _ hkl ht h2
          have := sLt_trans this hx
          rw [h1] at this; cases this
        · have e : xs[belowS xs s] = xs[t] := by congr 1
          rw [e, hx] at h1; cases h1
    have hI := Lib.bsGo_spec (fun t => Op.bytesLess (xs.getD t s).toList s.toList) (belowS xs s)
      (fun t ht => by rw [hgd t (by omega)]; exact belowS_lt xs s t (by omega) ht)
      (fun t ht => by
        by_cases htl : t < xs.length
        · rw [hgd t htl]; exact hnot t htl ht
        · rw [hgd2 t (by omega)]; exact bl_irr _) xs.length 0 xs.length (by omega) (Nat.zero_le _) hk
    have hB : decide (belowS xs s < xs.length ∧ xs.getD (belowS xs s) s = s) = hasS xs s := by
      unfold hasS
      congr 1
      refine propext ⟨fun ⟨h1, h2⟩ => ?_, fun hm => ?_⟩
      · rw [hgd _ h1] at h2; rw [← h2]; exact List.getElem_mem h1
      · obtain ⟨j, hj, e⟩ := List.mem_iff_getElem.1 hm
        have hkj : belowS xs s ≤ j := Nat.le_of_not_lt fun hlt => by
          have := belowS_lt xs s j hj hlt
          rw [e, sLt_irr] at this; cases this
        have hkl : belowS xs s < xs.length := by omega
        refine ⟨hkl, ?_⟩
        rw [hgd _ hkl]
        rcases Nat.lt_or_eq_of_le hkj with h2 | h2
        · have h3 := List.pairwise_iff_getElem.1 ha _ _ hkl hj h2
          rw [e] at h3
          have := belowS_at xs s hkl
          rw [h3] at this; cases this
        · have e2 : xs[belowS xs s] = xs[j] := by congr 1
          rw [e2, e]
    have hcon := Any2.slices_BinarySearch_string lay_binS b o xs.length c (fun t => xs.getD t s) s w (by omega) hc
    simp only [hI] at hcon
    rw [hB] at hcon
    refine Calls.mono (P := Try.prog) hcon ?_
    rintro e w' ⟨rfl, q, rfl⟩
    exact ⟨_, rfl, (Ch.refl _ _).drewN q⟩
end Go.Proofs.Ytbjdikeaolibpaa
