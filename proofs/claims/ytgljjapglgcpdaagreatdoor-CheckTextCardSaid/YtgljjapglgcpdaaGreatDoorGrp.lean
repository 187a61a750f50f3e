
/-
  The groups of names that depend on one another: what the functions answer. No program is in sight here.
-/
import Derived.Test.YtgljjapglgcpdaaGreatDoorOrder
namespace Go.Proofs.YtgljjapglgcpdaaGreatDoor

def insOf (es : List Ed) (N : List ByteArray) : List Ed := es.filter fun e => hasS N e.f && hasS N e.t
noncomputable def rb (F : List Ed) (n m : ByteArray) : Bool := hasS (reachOf F n) m
theorem rb_iff (F : List Ed) (n m : ByteArray) : rb F n m = true ↔ Rch F n m := by simp only [rb, hasS, decide_eq_true_eq, mem_reachOf]
noncomputable def readyB (F : List Ed) (listed : List ByteArray) (n : ByteArray) : Bool := !hasS listed n && (reachOf F n).all fun m => hasS listed m || rb F m n
theorem readyB_iff (F : List Ed) (listed : List ByteArray) (n : ByteArray) : readyB F listed n = true ↔ n ∉ listed ∧ ∀ m, Rch F n m → m ∈ listed ∨ Rch F m n := by
  simp only [readyB, Bool.and_eq_true, Bool.not_eq_true', hasS, decide_eq_false_iff_not, List.all_eq_true, Bool.or_eq_true, decide_eq_true_eq, mem_reachOf, rb_iff]
noncomputable def inG (F : List Ed) (n m : ByteArray) : Bool := decide (m = n) || (rb F n m && rb F m n)
theorem inG_iff (F : List Ed) (n m : ByteArray) : inG F n m = true ↔ m = n ∨ (Rch F n m ∧ Rch F m n) := by simp only [inG, Bool.or_eq_true, decide_eq_true_eq, Bool.and_eq_true, rb_iff]
noncomputable def grpOf (F : List Ed) (N : List ByteArray) (n : ByteArray) : List ByteArray := N.filter (inG F n)
noncomputable def stepGo (F : List Ed) (N : List ByteArray) : Nat → List (List ByteArray) → List (List ByteArray)
  | 0, out => out
  | k + 1, out => match N.find? (readyB F out.flatten) with
    | none => out
    | some n => stepGo F N k (out ++ [grpOf F N n])
noncomputable def groupsOf (es : List Ed) (names : List ByteArray) : List (List ByteArray) := stepGo (insOf es (insAll names)) (insAll names) (insAll names).length []

/-- what holds as the groups are listed -/
structure GInv (F : List Ed) (N : List ByteArray) (out : List (List ByteArray)) : Prop where
  nd : out.flatten.Nodup
  sub : ∀ s ∈ out.flatten, s ∈ N
  len : out.length ≤ out.flatten.length
  cl : ∀ n ∈ out.flatten, ∀ m, Rch F n m → m ∈ out.flatten
  of : ∀ g ∈ out, ∃ n ∈ N, g = grpOf F N n
theorem GInv.start (F : List Ed) (N : List ByteArray) : GInv F N [] := ⟨by simp, by simp, by simp, by simp, by simp⟩
theorem insOf_target {es : List Ed} {N : List ByteArray} {n m : ByteArray} (h : Rch (insOf es N) n m) : m ∈ N := by
  obtain ⟨e, he, rfl⟩ := h.target
  simp only [insOf, List.mem_filter, Bool.and_eq_true, hasS, decide_eq_true_eq] at he
  exact he.2.2
section
variable {F : List Ed} {N : List ByteArray} (hT : ∀ n m, Rch F n m → m ∈ N) (hN : N.Nodup)
include hT hN
theorem GInv.step {out : List (List ByteArray)} {n : ByteArray} (h : GInv F N out) (hn : n ∈ N) (hr : readyB F out.flatten n = true) : GInv F N (out ++ [grpOf F N n]) := by
  obtain ⟨h1, h2⟩ := (readyB_iff F out.flatten n).1 hr
  have hmem : ∀ m, m ∈ grpOf F N n ↔ m ∈ N ∧ (m = n ∨ (Rch F n m ∧ Rch F m n)) := fun m => by rw [grpOf, List.mem_filter, inG_iff]
  have hfl : (out ++ [grpOf F N n]).flatten = out.flatten ++ grpOf F N n := by simp
  have hnn : n ∈ grpOf F N n := (hmem n).2 ⟨hn, .inl rfl⟩
  refine ⟨?_, fun s hs => ?_, ?_, fun a ha m hm => ?_, fun g hg => ?_⟩
  · rw [hfl, List.nodup_append]
    refine ⟨h.nd, hN.sublist List.filter_sublist, fun a ha b hb e => ?_⟩
    subst e
    rcases ((hmem a).1 hb).2 with e | ⟨_, h3⟩
    · exact h1 (e ▸ ha)
    · exact h1 (h.cl a ha n h3)
  · rw [hfl, List.mem_append] at hs
    rcases hs with hs | hs
    · exact h.sub s hs
    · exact ((hmem s).1 hs).1
  · rw [hfl, List.length_append, List.length_append]
    have := List.length_pos_iff.2 (List.ne_nil_of_mem hnn)
    have := h.len
    simp only [List.length_cons, List.length_nil]; omega
  · rw [hfl, List.mem_append] at ha ⊢
    rcases ha with ha | ha
    · exact .inl (h.cl a ha m hm)
    · have hnm : Rch F n m := by
        rcases ((hmem a).1 ha).2 with e | ⟨h3, _⟩
        · exact e ▸ hm
        · exact h3.trans hm
      rcases h2 m hnm with h4 | h4
      · exact .inl h4
      · exact .inr ((hmem m).2 ⟨hT _ _ hnm, .inr ⟨hnm, h4⟩⟩)
  · rcases List.mem_append.1 hg with hg | hg
    · exact h.of g hg
    · simp at hg; exact ⟨n, hn, hg⟩
/-- as long as not all are listed, one is ready -/
theorem GInv.some_ready {out : List (List ByteArray)} (_h : GInv F N out) (hlt : out.flatten.length < N.length) : ∃ n ∈ N, readyB F out.flatten n = true := by
  have hex : ∃ n ∈ N, n ∉ out.flatten := by
    apply Classical.byContradiction
    intro hno
    have hall : ∀ n ∈ N, n ∈ out.flatten := fun n hn => Classical.byContradiction fun hc => hno ⟨n, hn, hc⟩
    have := hN.length_le_of_subset hall
    omega
  have key : ∀ k (n : ByteArray), n ∈ N → n ∉ out.flatten → (N.filter fun m => decide (m = n) || rb F n m).length ≤ k → ∃ n ∈ N, readyB F out.flatten n = true := by
    intro k
    induction k with
    | zero =>
      intro n hn _ hl
      have : n ∈ N.filter fun m => decide (m = n) || rb F n m := List.mem_filter.2 ⟨hn, by simp⟩
      have := List.length_pos_iff.2 (List.ne_nil_of_mem this)
      omega
    | succ k ih =>
      intro n hn hnl hl
      cases hr : readyB F out.flatten n with
      | true => exact ⟨n, hn, hr⟩
      | false =>
        have hno : ¬ (n ∉ out.flatten ∧ ∀ m, Rch F n m → m ∈ out.flatten ∨ Rch F m n) := fun hh => by rw [(readyB_iff _ _ _).2 hh] at hr; cases hr
        have : ∃ m, Rch F n m ∧ m ∉ out.flatten ∧ ¬ Rch F m n := by
          apply Classical.byContradiction
          intro hc
          refine hno ⟨hnl, fun m hm => ?_⟩
          apply Classical.byContradiction
          intro hc2
          exact hc ⟨m, hm, fun h1 => hc2 (.inl h1), fun h1 => hc2 (.inr h1)⟩
        obtain ⟨m, hm, hml, hmn⟩ := this
        refine ih m (hT _ _ hm) hml ?_
        have hlt : (N.filter fun x => decide (x = m) || rb F m x).length < (N.filter fun x => decide (x = n) || rb F n x).length := by
          have hne : n ≠ m := fun e => hmn (e ▸ hm)
          have hsub : ∀ x ∈ n :: N.filter (fun x => decide (x = m) || rb F m x), x ∈ N.filter fun x => decide (x = n) || rb F n x := by
            intro x hx
            rcases List.mem_cons.1 hx with e | hx
            · subst e; exact List.mem_filter.2 ⟨hn, by simp⟩
            · obtain ⟨h1, h2⟩ := List.mem_filter.1 hx
              refine List.mem_filter.2 ⟨h1, ?_⟩
              simp only [Bool.or_eq_true, decide_eq_true_eq, rb_iff] at h2 ⊢
              rcases h2 with e | h2
              · subst e; exact .inr hm
              · exact .inr (hm.trans h2)
          have hnd : (n :: N.filter (fun x => decide (x = m) || rb F m x)).Nodup := by
            refine List.nodup_cons.2 ⟨fun hx => ?_, hN.sublist List.filter_sublist⟩
            have := (List.mem_filter.1 hx).2
            simp only [Bool.or_eq_true, decide_eq_true_eq, rb_iff] at this
            rcases this with e | h2
            · exact hne e
            · exact hmn h2
          have := hnd.length_le_of_subset hsub
          rw [List.length_cons] at this; omega
        omega
  obtain ⟨n, hn, hnl⟩ := hex
  exact key _ n hn hnl (Nat.le_refl _)
theorem GInv.done {out : List (List ByteArray)} (h : GInv F N out) (hlt : ¬ out.flatten.length < N.length) (k : Nat) : stepGo F N k out = out := by
  have _hT' := hT
  have _hN' := hN
  have hall : ∀ n ∈ N, n ∈ out.flatten := by
    intro n hn
    apply Classical.byContradiction
    intro hc
    have : (n :: out.flatten).Nodup := List.nodup_cons.2 ⟨hc, h.nd⟩
    have := this.length_le_of_subset (l₂ := N) (fun x hx => by rcases List.mem_cons.1 hx with e | hx; exact e ▸ hn; exact h.sub x hx)
    simp at this; simp at hlt; omega
  cases k with
  | zero => rfl
  | succ k =>
    unfold stepGo
    have : N.find? (readyB F out.flatten) = none := by
      rw [List.find?_eq_none]
      intro n hn hr
      exact ((readyB_iff _ _ _).1 hr).1 (hall n hn)
    rw [this]
end
theorem find_at {N : List ByteArray} {q : ByteArray → Bool} {i : Nat} (hi : i < N.length) (hq : q N[i] = true) (hn : ∀ j (hj : j < i), q (N[j]'(by omega)) = false) : N.find? q = some N[i] := by
  have h1 : N = N.take i ++ N[i] :: N.drop (i + 1) := by rw [List.getElem_cons_drop, List.take_append_drop]
  have h2 : (N.take i).find? q = none := by
    rw [List.find?_eq_none]
    intro x hx
    obtain ⟨j, hj, rfl⟩ := List.mem_iff_getElem.1 hx
    rw [List.length_take] at hj
    rw [List.getElem_take, hn j (by omega)]; simp
  conv => lhs; rw [h1]
  rw [List.find?_append, h2, List.find?_cons, hq]; rfl
theorem stepGo_at {F : List Ed} {N : List ByteArray} {out : List (List ByteArray)} {n : ByteArray} {k : Nat} (hf : N.find? (readyB F out.flatten) = some n) : stepGo F N (k + 1) out = stepGo F N k (out ++ [grpOf F N n]) := by
  conv => lhs; unfold stepGo
  rw [hf]
end Go.Proofs.YtgljjapglgcpdaaGreatDoor
