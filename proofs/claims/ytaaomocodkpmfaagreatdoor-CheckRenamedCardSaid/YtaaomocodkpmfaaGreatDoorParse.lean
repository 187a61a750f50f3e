
/-
  What the reader of trusted descriptions answers, as plain functions. No program is in sight here.
-/
import Derived.Test.YtaaomocodkpmfaaGreatDoorTerms
namespace Go.Proofs.YtaaomocodkpmfaaGreatDoor

/-- the byte at a place -/
def byteAt (s : ByteArray) (i : Nat) : Nat := if h : i < s.size then s[i].toNat else 0
theorem byteAt_eq {s : ByteArray} {i : Nat} (h : i < s.size) : s[i].toNat = byteAt s i := by simp [byteAt, h]
def isBlank (c : Nat) : Bool := c == 32 || c == 10
def isWord (c : Nat) : Bool := c == 45 || (decide (48 ≤ c) && decide (c ≤ 57)) || (decide (97 ≤ c) && decide (c ≤ 122)) || (decide (65 ≤ c) && decide (c ≤ 90))
/-- the first place from i on at which q does not hold -/
def runTo (q : Nat → Bool) (s : ByteArray) : Nat → Nat → Nat
  | 0, i => i
  | f + 1, i => if i < s.size ∧ q (byteAt s i) = true then runTo q s f (i + 1) else i
def skipTo (s : ByteArray) (i : Nat) : Nat := runTo isBlank s (s.size - i) i
theorem runTo_le (q : Nat → Bool) (s : ByteArray) : ∀ f i, i ≤ s.size → i ≤ runTo q s f i ∧ runTo q s f i ≤ s.size
  | 0, i, h => ⟨Nat.le_refl _, h⟩
  | f + 1, i, h => by
    unfold runTo
    split
    · rename_i hq
      have := runTo_le q s f (i + 1) (by omega)
      exact ⟨by omega, this.2⟩
    · exact ⟨Nat.le_refl _, h⟩
theorem skipTo_le {s : ByteArray} {i : Nat} (h : i ≤ s.size) : i ≤ skipTo s i ∧ skipTo s i ≤ s.size := runTo_le _ _ _ _ h
def pSign (s : ByteArray) (i c : Nat) : Bool × Nat := if skipTo s i < s.size ∧ byteAt s (skipTo s i) = c then (true, skipTo s i + 1) else (false, skipTo s i)
def wordEnd (s : ByteArray) (j : Nat) : Nat := runTo isWord s (s.size - j) j
def pWord (s : ByteArray) (i : Nat) : ByteArray × Nat := (s.extract (skipTo s i) (wordEnd s (skipTo s i)), wordEnd s (skipTo s i))
theorem wordEnd_le {s : ByteArray} {j : Nat} (h : j ≤ s.size) : j ≤ wordEnd s j ∧ wordEnd s j ≤ s.size := runTo_le _ _ _ _ h
theorem pWord_le {s : ByteArray} {i : Nat} (h : i ≤ s.size) : i ≤ (pWord s i).2 ∧ (pWord s i).2 ≤ s.size := by
  have h1 := skipTo_le h
  have h2 := wordEnd_le h1.2
  exact ⟨Nat.le_trans h1.1 h2.1, h2.2⟩
theorem pWord_adv {s : ByteArray} {i : Nat} (h : i ≤ s.size) (hne : (pWord s i).1 ≠ ⟨#[]⟩) : i < (pWord s i).2 := by
  have h1 := skipTo_le h
  have h2 := wordEnd_le h1.2
  rcases Nat.lt_or_ge i (pWord s i).2 with h3 | h3
  · exact h3
  · exfalso
    apply hne
    have h4 : wordEnd s (skipTo s i) ≤ i := h3
    have h5 : wordEnd s (skipTo s i) = skipTo s i := by omega
    unfold pWord
    simp only [h5]
    apply ByteArray.ext
    apply Array.eq_empty_of_size_eq_zero
    show (s.extract (skipTo s i) (skipTo s i)).size = 0
    rw [ByteArray.size_extract]; omega
theorem pSign_le {s : ByteArray} {i c : Nat} (h : i ≤ s.size) : i ≤ (pSign s i c).2 ∧ (pSign s i c).2 ≤ s.size ∧ ((pSign s i c).1 = true → i < (pSign s i c).2) := by
  have h1 := skipTo_le h
  unfold pSign
  split
  · exact ⟨by simp; omega, by simp; omega, fun _ => by simp; omega⟩
  · exact ⟨h1.1, h1.2, fun h => by cases h⟩
mutual
/-- the rest of a term behind its name, with that much fuel -/
def pTerm (s : ByteArray) : Nat → Nat → ByteArray → Tm × Nat
  | 0, i, nm => (.mk nm [], i)
  | f + 1, i, nm => if (pSign s i 40).1 = true then (.mk nm (pArgs s f (pSign s i 40).2).1, (pSign s (pArgs s f (pSign s i 40).2).2 41).2) else (.mk nm [], (pSign s i 40).2)
def pArgs (s : ByteArray) : Nat → Nat → List Tm × Nat
  | 0, i => ([], i)
  | f + 1, i => if i < s.size then
      (if (pSign s (pTerm s f (pWord s i).2 (pWord s i).1).2 44).1 = true then
        ((pTerm s f (pWord s i).2 (pWord s i).1).1 :: (pArgs s f (pSign s (pTerm s f (pWord s i).2 (pWord s i).1).2 44).2).1, (pArgs s f (pSign s (pTerm s f (pWord s i).2 (pWord s i).1).2 44).2).2)
      else ([(pTerm s f (pWord s i).2 (pWord s i).1).1], (pSign s (pTerm s f (pWord s i).2 (pWord s i).1).2 44).2))
    else ([], i)
end
mutual
theorem pTerm_le (s : ByteArray) : ∀ (f i : Nat) (nm : ByteArray), i ≤ s.size → i ≤ (pTerm s f i nm).2 ∧ (pTerm s f i nm).2 ≤ s.size
  | 0, i, nm, h => by simp [pTerm, h]
  | f + 1, i, nm, h => by
    have h1 := pSign_le (c := 40) h
    unfold pTerm
    split
    · have h2 := pArgs_le s f _ h1.2.1
      have h3 := pSign_le (c := 41) h2.2
      exact ⟨by simp only; omega, h3.2.1⟩
    · exact ⟨h1.1, h1.2.1⟩
theorem pArgs_le (s : ByteArray) : ∀ (f i : Nat), i ≤ s.size → i ≤ (pArgs s f i).2 ∧ (pArgs s f i).2 ≤ s.size
  | 0, i, h => by simp [pArgs, h]
  | f + 1, i, h => by
    have h1 := pWord_le h
    have h2 := pTerm_le s f (pWord s i).2 (pWord s i).1 h1.2
    have h3 := pSign_le (c := 44) h2.2
    have h4 := pArgs_le s f _ h3.2.1
    unfold pArgs
    split
    · split
      · exact ⟨by simp only; omega, h4.2⟩
      · exact ⟨by simp only; omega, h3.2.1⟩
    · exact ⟨Nat.le_refl _, h⟩
end
theorem pTerm_name (s : ByteArray) (f i : Nat) (nm : ByteArray) : (pTerm s f i nm).1 = .mk nm (pTerm s f i nm).1.args := by
  cases f with
  | zero => simp [pTerm, Tm.args]
  | succ f =>
    unfold pTerm
    split <;> rfl
/-- the word not -/
def bNot : ByteArray := ⟨#[110, 111, 116]⟩
/-- the literal that begins behind its first word -/
def pLit (s : ByteArray) (i : Nat) : Bool × ByteArray × Nat :=
  if (pWord s i).1 = bNot then (true, (pWord s (pWord s i).2).1, (pWord s (pWord s i).2).2) else (false, (pWord s i).1, (pWord s i).2)
theorem pLit_le {s : ByteArray} {i : Nat} (h : i ≤ s.size) : i ≤ (pLit s i).2.2 ∧ (pLit s i).2.2 ≤ s.size := by
  have h1 := pWord_le h
  have h2 := pWord_le h1.2
  unfold pLit
  split
  · exact ⟨by simp only; omega, h2.2⟩
  · exact h1
/-- how much fuel is enough for a term from there on -/
def fuel (s : ByteArray) (i : Nat) : Nat := 2 * (s.size - i) + 1
/-- the literals of a body -/
def pBody (s : ByteArray) : Nat → Nat → List Li × Nat
  | 0, i => ([], i)
  | f + 1, i => if i < s.size then
      (if (pSign s i 46).1 = true then ([], (pSign s i 46).2)
      else
        (if (pLit s (pWord s (pSign s i 46).2).2).2.1 = ⟨#[]⟩ then ([], (pLit s (pWord s (pSign s i 46).2).2).2.2)
        else
          (⟨(pLit s (pWord s (pSign s i 46).2).2).1, (pTerm s (fuel s 0) (pLit s (pWord s (pSign s i 46).2).2).2.2 (pLit s (pWord s (pSign s i 46).2).2).2.1).1⟩ :: (pBody s f (pTerm s (fuel s 0) (pLit s (pWord s (pSign s i 46).2).2).2.2 (pLit s (pWord s (pSign s i 46).2).2).2.1).2).1,
            (pBody s f (pTerm s (fuel s 0) (pLit s (pWord s (pSign s i 46).2).2).2.2 (pLit s (pWord s (pSign s i 46).2).2).2.1).2).2)))
    else ([], i)
def pRule (s : ByteArray) (i : Nat) (nm : ByteArray) : Ru × Nat :=
  (⟨(pTerm s (fuel s 0) i nm).1, (pBody s (s.size + 1) (pTerm s (fuel s 0) i nm).2).1⟩, (pBody s (s.size + 1) (pTerm s (fuel s 0) i nm).2).2)
def pRead (s : ByteArray) : Nat → Nat → List Ru
  | 0, _ => []
  | f + 1, i => if (pWord s i).1 = ⟨#[]⟩ then [] else (pRule s (pWord s i).2 (pWord s i).1).1 :: pRead s f (pRule s (pWord s i).2 (pWord s i).1).2
end Go.Proofs.YtaaomocodkpmfaaGreatDoor
