
/-
  A cheaper check that a region that draws its order may be walked in the order of the text. No program is in sight here.
-/
import Derived.Test.YtlficnfkekggjaaGreatDoorBase
namespace Go.Proofs.YtlficnfkekggjaaGreatDoor
open Go.RowKit

def lexOk (ops : Array Oper) : Nat → List Oper → Bool
  | _, [] => true
  | k, o :: rest => (o.after.toList.all fun e => !Region.binds .any e || Nat.blt e.on k) && (rest.all fun oj => (oj.after.toList.any fun e => Region.binds .any e && Nat.beq e.on k) || o.apart ops oj) && lexOk ops (k + 1) rest

/-- the first k are listed -/
def Upto (n k : Nat) (listed : Array Bool) : Prop := listed.size = n ∧ ∀ (j : Nat) (h : j < listed.size), listed[j] = decide (j < k)
theorem Upto.getD {n k : Nat} {listed : Array Bool} (h : Upto n k listed) {j : Nat} (hj : j < n) (d : Bool) : listed.getD j d = decide (j < k) := by
  have hj' : j < listed.size := by rw [h.1]; exact hj
  simp only [Array.getD, hj', dif_pos]
  exact h.2 j hj'
theorem Upto.set {n k : Nat} {listed : Array Bool} (h : Upto n k listed) : Upto n (k + 1) (listed.setIfInBounds k true) := by
  refine ⟨by simpa using h.1, fun j hj => ?_⟩
  rw [Array.getElem_setIfInBounds (by simpa using hj)]
  split
  · rename_i e; subst e; simp
  · rename_i e
    rw [h.2 j (by simpa using hj), decide_eq_decide]; omega

theorem lexFrom_of {l : List Oper} : ∀ (rest : List Oper) (k : Nat) (listed : Array Bool), (∀ j, rest[j]? = l[k + j]?) → k + rest.length = l.length → Upto l.length k listed → lexOk l.toArray k rest = true →
    Region.lexFrom .any l.toArray rest.length k listed = true
  | [], k, listed, _, hlen, hU, _ => by
    simp only [List.length_nil, Region.lexFrom, List.isEmpty_iff]
    apply List.eq_nil_iff_forall_not_mem.2
    intro j hj
    obtain ⟨h1, o, h2, _⟩ := mem_ready.1 hj
    have hjl : j < l.length := by simpa using (Array.getElem?_eq_some_iff.1 h2).1
    rw [hU.getD hjl] at h1
    simp at h1 hlen; omega
  | o :: rest, k, listed, hl, hlen, hU, h => by
    simp only [List.length_cons] at hlen
    have hk : k < l.length := by omega
    have h0 : l[k]? = some o := by simpa using (hl 0).symm
    simp only [lexOk, Bool.and_eq_true, List.all_eq_true, Bool.or_eq_true, Bool.not_eq_true'] at h
    obtain ⟨⟨ha, hf⟩, hrest⟩ := h
    simp only [List.length_cons, Region.lexFrom, Bool.and_eq_true]
    refine ⟨⟨?_, ?_⟩, lexFrom_of rest (k + 1) _ (fun j => by have := hl (j + 1); simpa [Nat.add_assoc, Nat.add_comm 1 j] using this) (by omega) hU.set hrest⟩
    · rw [List.contains_iff_mem]
      refine mem_ready.2 ⟨by rw [hU.getD hk]; simp, o, by simpa using h0, fun e he hb => ?_⟩
      have h1 := ha e (by simpa using he)
      rw [hb] at h1
      have h2 : e.on < k := by simpa using h1
      rw [hU.getD (by omega)]; simpa using h2
    · have h0' : l.toArray[k]? = some o := by simpa using h0
      simp only [Region.free, h0', List.all_eq_true, List.mem_range, Bool.or_eq_true, beq_iff_eq]
      intro j hj
      rcases Nat.lt_trichotomy j k with hjk | hjk | hjk
      · exact .inl (.inr (by rw [hU.getD (by simpa using hj)]; simpa using hjk))
      · exact .inl (.inl hjk)
      · right
        have hjl : j < l.length := by simpa using hj
        have hr : rest[j - k - 1]? = some l[j] := by
          have := hl (j - k)
          rw [show k + (j - k) = j from by omega, List.getElem?_eq_getElem hjl, show j - k = (j - k - 1) + 1 from by omega, List.getElem?_cons_succ] at this
          exact this
        have hoj : l.toArray[j]? = some l[j] := by simp [hjl]
        rw [hoj]
        simp only [Bool.or_eq_true]
        have := hf l[j] (List.mem_of_getElem? hr)
        rcases this with h1 | h1
        · left
          rw [List.any_eq_true] at h1
          obtain ⟨e, he, h2⟩ := h1
          rw [Array.any_eq_true']
          exact ⟨e, by simpa using he, by simpa using h2⟩
        · exact .inr h1
theorem lexB_of {l : List Oper} (h : (Region.noSelect l.toArray && lexOk l.toArray 0 l) = true) : Region.lexB .any l.toArray = true := by
  rw [Bool.and_eq_true] at h
  unfold Region.lexB
  rw [Bool.and_eq_true]
  refine ⟨h.1, ?_⟩
  have := lexFrom_of (l := l) l 0 (Array.replicate l.length false) (fun j => by simp) (by simp) ⟨by simp, fun j hj => by simp⟩ h.2
  simpa using this
end Go.Proofs.YtlficnfkekggjaaGreatDoor
