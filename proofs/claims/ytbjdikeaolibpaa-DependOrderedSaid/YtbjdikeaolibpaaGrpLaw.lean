/-
  What holds of the groups of names, as DependOrdered asks it. No program is in sight here.
-/
import Derived.Test.YtbjdikeaolibpaaGrp
namespace Go.Proofs.Ytbjdikeaolibpaa

/-- every beginning of the list of groups is closed -/
def AllInv (F : List Ed) (N : List ByteArray) (out : List (List ByteArray)) : Prop := ∀ i, GInv F N (out.take i)
theorem AllInv.start (F : List Ed) (N : List ByteArray) : AllInv F N [] := fun i => by rw [List.take_nil]; exact GInv.start F N
section
variable {F : List Ed} {N : List ByteArray} (hT : ∀ n m, Rch F n m → m ∈ N) (hN : N.Nodup)
include hT hN
theorem stepGo_all : ∀ (k : Nat) (out : List (List ByteArray)), GInv F N out → AllInv F N out → N.length ≤ k + out.length → AllInv F N (stepGo F N k out) ∧ GInv F N (stepGo F N k out) ∧ N.length ≤ (stepGo F N k out).flatten.length
  | 0, out, h, ha, hl => ⟨ha, h, by have := h.len; simp only [stepGo]; omega⟩
  | k + 1, out, h, ha, hl => by
    unfold stepGo
    cases hf : N.find? (readyB F out.flatten) with
    | none =>
      refine ⟨ha, h, ?_⟩
      rcases Nat.lt_or_ge out.flatten.length N.length with hlt | hge
      · obtain ⟨n, hn, hr⟩ := h.some_ready hT hN hlt
        rw [List.find?_eq_none] at hf
        exact absurd hr (by simpa using hf n hn)
      · exact hge
    | some n =>
      have hn := List.mem_of_find?_eq_some hf
      have hr : readyB F out.flatten n = true := by simpa using List.find?_some hf
      have hs := h.step hT hN hn hr
      refine stepGo_all k _ hs (fun i => ?_) (by simp; omega)
      rcases Nat.lt_or_ge out.length i with hi | hi
      · rw [List.take_of_length_le (by simp; omega)]; exact hs
      · rw [List.take_append_of_le_length hi]; exact ha i
end
/-- what the groups of es and names are -/
structure IsG (F : List Ed) (N : List ByteArray) (G : List (List ByteArray)) : Prop where
  all : AllInv F N G
  inv : GInv F N G
  full : ∀ s ∈ N, s ∈ G.flatten
theorem isG_of (es : List Ed) (names : List ByteArray) : IsG (insOf es (insAll names)) (insAll names) (groupsOf es names) := by
  have hT : ∀ n m, Rch (insOf es (insAll names)) n m → m ∈ insAll names := fun n m hm => insOf_target hm
  have hN : (insAll names).Nodup := asc_nodup sLt_sto (asc_insAll names)
  obtain ⟨h1, h2, h3⟩ := stepGo_all hT hN (insAll names).length [] (GInv.start _ _) (AllInv.start _ _) (by simp)
  refine ⟨h1, h2, fun s hs => ?_⟩
  apply Classical.byContradiction
  intro hc
  have : (s :: (groupsOf es names).flatten).Nodup := List.nodup_cons.2 ⟨hc, h2.nd⟩
  have := this.length_le_of_subset (l₂ := insAll names) (fun x hx => by rcases List.mem_cons.1 hx with e | hx; exact e ▸ hs; exact h2.sub x hx)
  have h3 : (insAll names).length ≤ (groupsOf es names).flatten.length := h3
  simp only [List.length_cons] at this; omega

theorem count_one {s : ByteArray} : ∀ {l : List ByteArray}, l.Nodup → s ∈ l → l.count s = 1
  | [], _, h => by cases h
  | x :: l, hn, h => by
    obtain ⟨h1, h2⟩ := List.nodup_cons.1 hn
    rw [List.count_cons]
    rcases List.mem_cons.1 h with rfl | h
    · rw [List.count_eq_zero.2 h1]; simp
    · have : x ≠ s := fun e => h1 (e ▸ h)
      rw [count_one h2 h]; simp [this]
theorem cntRow_eq (s : ByteArray) : ∀ (r : List ByteArray) (a : Nat), cntRow s a r = a + r.count s
  | [], a => by simp [cntRow]
  | x :: r, a => by
    have ih := cntRow_eq s r (if x = s then a + 1 else a)
    simp only [cntRow, List.foldl_cons] at ih ⊢
    rw [ih, List.count_cons]
    by_cases h : x = s
    · simp [h]; omega
    · simp [h]
theorem countS_eq (s : ByteArray) : ∀ (l : List (List ByteArray)) (a : Nat), l.foldl (cntRow s) a = a + l.flatten.count s
  | [], a => by simp
  | r :: l, a => by
    rw [List.foldl_cons, countS_eq s l, cntRow_eq, List.flatten_cons, List.count_append]; omega
section
variable {F : List Ed} {N : List ByteArray} {G : List (List ByteArray)} (h : IsG F N G)
include h
theorem IsG.count {s : ByteArray} (hs : s ∈ N) : countS G s = 1 := by
  unfold countS
  rw [countS_eq, Nat.zero_add]
  exact count_one h.inv.nd (h.full s hs)
theorem IsG.mem {s : ByteArray} : s ∈ G.flatten ↔ s ∈ N := ⟨h.inv.sub s, h.full s⟩
theorem IsG.place_iff {s : ByteArray} : 0 ≤ placeS G s ↔ s ∈ N := by
  rw [← h.mem, List.mem_flatten]
  unfold placeS
  cases hf : G.findIdx? (fun r => hasS r s) with
  | none =>
    rw [List.findIdx?_eq_none_iff] at hf
    simp only [show ¬ (0 : Int) ≤ -1 from by omega, false_iff, not_exists, not_and]
    intro r hr hs
    have := hf r hr
    simp [hasS, hs] at this
  | some i =>
    rw [List.findIdx?_eq_some_iff_getElem] at hf
    obtain ⟨hi, h1, _⟩ := hf
    simp only [hasS, decide_eq_true_eq] at h1
    exact ⟨fun _ => ⟨G[i], List.getElem_mem hi, h1⟩, fun _ => by simp⟩
/-- dependencies come first -/
theorem IsG.order {a b : ByteArray} (hab : Rch F a b) (ha : a ∈ N) : placeS G b ≤ placeS G a := by
  have hpa := (h.place_iff).2 ha
  unfold placeS at hpa ⊢
  cases hf : G.findIdx? (fun r => hasS r a) with
  | none => rw [hf] at hpa; simp at hpa
  | some i =>
    rw [List.findIdx?_eq_some_iff_getElem] at hf
    obtain ⟨hi, h1, _⟩ := hf
    simp only [hasS, decide_eq_true_eq] at h1
    have h2 : a ∈ (G.take (i + 1)).flatten := List.mem_flatten.2 ⟨G[i], by rw [take_snoc G i hi]; exact List.mem_append.2 (.inr (List.mem_singleton.2 rfl)), h1⟩
    obtain ⟨r, hr, hbr⟩ := List.mem_flatten.1 ((h.all (i + 1)).cl a h2 b hab)
    obtain ⟨j, hj, rfl⟩ := List.mem_iff_getElem.1 hr
    rw [List.length_take] at hj
    rw [List.getElem_take] at hbr
    cases hg : G.findIdx? (fun r => hasS r b) with
    | none => simp
    | some j' =>
      rw [List.findIdx?_eq_some_iff_getElem] at hg
      obtain ⟨hj', _, h4⟩ := hg
      have : j' ≤ j := by
        rcases Nat.lt_or_ge j j' with hlt | hge
        · have := h4 j hlt
          simp [hasS, hbr] at this
        · exact hge
      simp only [Int.ofNat_le]; omega
theorem IsG.grp {g : List ByteArray} (hg : g ∈ G) {a b : ByteArray} (ha : a ∈ g) (hb : b ∈ g) (hne : a ≠ b) : Rch F a b := by
  obtain ⟨n, hn, rfl⟩ := h.inv.of g hg
  simp only [grpOf, List.mem_filter, inG_iff] at ha hb
  rcases ha.2 with rfl | ⟨h1, h2⟩
  · rcases hb.2 with rfl | ⟨h3, _⟩
    · exact absurd rfl hne
    · exact h3
  · rcases hb.2 with rfl | ⟨h3, _⟩
    · exact h2
    · exact h2.trans h3
theorem IsG.asc (hA : Asc sLt N) {g : List ByteArray} (hg : g ∈ G) : Asc sLt g := by
  obtain ⟨n, hn, rfl⟩ := h.inv.of g hg
  exact hA.sublist List.filter_sublist
theorem IsG.sub {g : List ByteArray} (hg : g ∈ G) {a : ByteArray} (ha : a ∈ g) : a ∈ N := h.inv.sub a (List.mem_flatten.2 ⟨g, hg, ha⟩)
end
/-- the edges whose ends both have a group -/
theorem IsG.inside {es : List Ed} {N : List ByteArray} {G : List (List ByteArray)} (h : IsG (insOf es N) N G) (l : List Ed) : l.filter (fun e => decide (0 ≤ placeS G e.f) && decide (0 ≤ placeS G e.t)) = insOf l N := by
  unfold insOf
  congr 1
  funext e
  have h1 : decide (0 ≤ placeS G e.f) = hasS N e.f := by rw [hasS, decide_eq_decide]; exact h.place_iff
  have h2 : decide (0 ≤ placeS G e.t) = hasS N e.t := by rw [hasS, decide_eq_decide]; exact h.place_iff
  rw [h1, h2]
end Go.Proofs.Ytbjdikeaolibpaa
