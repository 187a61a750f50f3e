
/-
  What the reader of trusted descriptions answers, as plain functions. No program is in sight here.
  Terms as trees: how large, how deep, how wide; what plain.Small, key, levels, variable, Term, bound and instance answer. No program is in sight here.
-/
import Derived.Test.YtlficnfkekggjaaGreatDoorTerms
namespace Go.Proofs.YtlficnfkekggjaaGreatDoor

section
/-- the byte at a place -/
def byteAt (s : ByteArray) (i : Nat) : Nat := if h : i < s.size then s[i].toNat else 0
theorem byteAt_eq {s : ByteArray} {i : Nat} (h : i < s.size) : s[i].toNat = byteAt s i := by simp [byteAt, h]
def isBlank (c : Nat) : Bool := c == 32 || c == 10
def isWord (c : Nat) : Bool := c == 45 || (decide (48 ≤ c) && decide (c ≤ 57)) || (decide (97 ≤ c) && decide (c ≤ 122)) || (decide (65 ≤ c) && decide (c ≤ 90))
/-- the first place from i on at which q does not hold -/
def runTo (q : Nat → Bool) (s : ByteArray) : Nat → Nat → Nat
  | 0, i => i
  | f + 1, i => if i < s.size ∧ q (byteAt s i) = true then runTo q s f (i + 1) else i
def skipTo (s : ByteArray) (i : Nat) : Nat := runTo isBlank s (s.size - i) i
theorem runTo_le (q : Nat → Bool) (s : ByteArray) : ∀ f i, i ≤ s.size → i ≤ runTo q s f i ∧ runTo q s f i ≤ s.size
  | 0, i, h => ⟨Nat.le_refl _, h⟩
  | f + 1, i, h => by
    unfold runTo
    split
    · rename_i hq
      have := runTo_le q s f (i + 1) (by omega)
      exact ⟨by omega, this.2⟩
    · exact ⟨Nat.le_refl _, h⟩
theorem skipTo_le {s : ByteArray} {i : Nat} (h : i ≤ s.size) : i ≤ skipTo s i ∧ skipTo s i ≤ s.size := runTo_le _ _ _ _ h
def pSign (s : ByteArray) (i c : Nat) : Bool × Nat := if skipTo s i < s.size ∧ byteAt s (skipTo s i) = c then (true, skipTo s i + 1) else (false, skipTo s i)
def wordEnd (s : ByteArray) (j : Nat) : Nat := runTo isWord s (s.size - j) j
def pWord (s : ByteArray) (i : Nat) : ByteArray × Nat := (s.extract (skipTo s i) (wordEnd s (skipTo s i)), wordEnd s (skipTo s i))
theorem wordEnd_le {s : ByteArray} {j : Nat} (h : j ≤ s.size) : j ≤ wordEnd s j ∧ wordEnd s j ≤ s.size := runTo_le _ _ _ _ h
theorem pWord_le {s : ByteArray} {i : Nat} (h : i ≤ s.size) : i ≤ (pWord s i).2 ∧ (pWord s i).2 ≤ s.size := by
  have h1 := skipTo_le h
  have h2 := wordEnd_le h1.2
  exact ⟨Nat.le_trans h1.1 h2.1, h2.2⟩
theorem pWord_adv {s : ByteArray} {i : Nat} (h : i ≤ s.size) (hne : (pWord s i).1 ≠ ⟨#[]⟩) : i < (pWord s i).2 := by
  have h1 := skipTo_le h
  have h2 := wordEnd_le h1.2
  rcases Nat.lt_or_ge i (pWord s i).2 with h3 | h3
  · exact h3
  · exfalso
    apply hne
    have h4 : wordEnd s (skipTo s i) ≤ i := h3
    have h5 : wordEnd s (skipTo s i) = skipTo s i := by omega
    unfold pWord
    simp only [h5]
    apply ByteArray.ext
    apply Array.eq_empty_of_size_eq_zero
    show (s.extract (skipTo s i) (skipTo s i)).size = 0
    rw [ByteArray.size_extract]; omega
theorem pSign_le {s : ByteArray} {i c : Nat} (h : i ≤ s.size) : i ≤ (pSign s i c).2 ∧ (pSign s i c).2 ≤ s.size ∧ ((pSign s i c).1 = true → i < (pSign s i c).2) := by
  have h1 := skipTo_le h
  unfold pSign
  split
  · exact ⟨by simp; omega, by simp; omega, fun _ => by simp; omega⟩
  · exact ⟨h1.1, h1.2, fun h => by cases h⟩
mutual
/-- the rest of a term behind its name, with that much fuel -/
def pTerm (s : ByteArray) : Nat → Nat → ByteArray → Tm × Nat
  | 0, i, nm => (.mk nm [], i)
  | f + 1, i, nm => if (pSign s i 40).1 = true then (.mk nm (pArgs s f (pSign s i 40).2).1, (pSign s (pArgs s f (pSign s i 40).2).2 41).2) else (.mk nm [], (pSign s i 40).2)
def pArgs (s : ByteArray) : Nat → Nat → List Tm × Nat
  | 0, i => ([], i)
  | f + 1, i => if i < s.size then
      (if (pSign s (pTerm s f (pWord s i).2 (pWord s i).1).2 44).1 = true then
        ((pTerm s f (pWord s i).2 (pWord s i).1).1 :: (pArgs s f (pSign s (pTerm s f (pWord s i).2 (pWord s i).1).2 44).2).1, (pArgs s f (pSign s (pTerm s f (pWord s i).2 (pWord s i).1).2 44).2).2)
      else ([(pTerm s f (pWord s i).2 (pWord s i).1).1], (pSign s (pTerm s f (pWord s i).2 (pWord s i).1).2 44).2))
    else ([], i)
end
mutual
theorem pTerm_le (s : ByteArray) : ∀ (f i : Nat) (nm : ByteArray), i ≤ s.size → i ≤ (pTerm s f i nm).2 ∧ (pTerm s f i nm).2 ≤ s.size
  | 0, i, nm, h => by simp [pTerm, h]
  | f + 1, i, nm, h => by
    have h1 := pSign_le (c := 40) h
    unfold pTerm
    split
    · have h2 := pArgs_le s f _ h1.2.1
      have h3 := pSign_le (c := 41) h2.2
      exact ⟨by simp only; omega, h3.2.1⟩
    · exact ⟨h1.1, h1.2.1⟩
theorem pArgs_le (s : ByteArray) : ∀ (f i : Nat), i ≤ s.size → i ≤ (pArgs s f i).2 ∧ (pArgs s f i).2 ≤ s.size
  | 0, i, h => by simp [pArgs, h]
  | f + 1, i, h => by
    have h1 := pWord_le h
    have h2 := pTerm_le s f (pWord s i).2 (pWord s i).1 h1.2
    have h3 := pSign_le (c := 44) h2.2
    have h4 := pArgs_le s f _ h3.2.1
    unfold pArgs
    split
    · split
      · exact ⟨by simp only; omega, h4.2⟩
      · exact ⟨by simp only; omega, h3.2.1⟩
    · exact ⟨Nat.le_refl _, h⟩
end
theorem pTerm_name (s : ByteArray) (f i : Nat) (nm : ByteArray) : (pTerm s f i nm).1 = .mk nm (pTerm s f i nm).1.args := by
  cases f with
  | zero => simp [pTerm, Tm.args]
  | succ f =>
    unfold pTerm
    split <;> rfl
/-- the word not -/
def bNot : ByteArray := ⟨#[110, 111, 116]⟩
/-- the literal that begins behind its first word -/
def pLit (s : ByteArray) (i : Nat) : Bool × ByteArray × Nat :=
  if (pWord s i).1 = bNot then (true, (pWord s (pWord s i).2).1, (pWord s (pWord s i).2).2) else (false, (pWord s i).1, (pWord s i).2)
theorem pLit_le {s : ByteArray} {i : Nat} (h : i ≤ s.size) : i ≤ (pLit s i).2.2 ∧ (pLit s i).2.2 ≤ s.size := by
  have h1 := pWord_le h
  have h2 := pWord_le h1.2
  unfold pLit
  split
  · exact ⟨by simp only; omega, h2.2⟩
  · exact h1
/-- how much fuel is enough for a term from there on -/
def fuel (s : ByteArray) (i : Nat) : Nat := 2 * (s.size - i) + 1
/-- the literals of a body -/
def pBody (s : ByteArray) : Nat → Nat → List Li × Nat
  | 0, i => ([], i)
  | f + 1, i => if i < s.size then
      (if (pSign s i 46).1 = true then ([], (pSign s i 46).2)
      else
        (if (pLit s (pWord s (pSign s i 46).2).2).2.1 = ⟨#[]⟩ then ([], (pLit s (pWord s (pSign s i 46).2).2).2.2)
        else
          (⟨(pLit s (pWord s (pSign s i 46).2).2).1, (pTerm s (fuel s 0) (pLit s (pWord s (pSign s i 46).2).2).2.2 (pLit s (pWord s (pSign s i 46).2).2).2.1).1⟩ :: (pBody s f (pTerm s (fuel s 0) (pLit s (pWord s (pSign s i 46).2).2).2.2 (pLit s (pWord s (pSign s i 46).2).2).2.1).2).1,
            (pBody s f (pTerm s (fuel s 0) (pLit s (pWord s (pSign s i 46).2).2).2.2 (pLit s (pWord s (pSign s i 46).2).2).2.1).2).2)))
    else ([], i)
def pRule (s : ByteArray) (i : Nat) (nm : ByteArray) : Ru × Nat :=
  (⟨(pTerm s (fuel s 0) i nm).1, (pBody s (s.size + 1) (pTerm s (fuel s 0) i nm).2).1⟩, (pBody s (s.size + 1) (pTerm s (fuel s 0) i nm).2).2)
def pRead (s : ByteArray) : Nat → Nat → List Ru
  | 0, _ => []
  | f + 1, i => if (pWord s i).1 = ⟨#[]⟩ then [] else (pRule s (pWord s i).2 (pWord s i).1).1 :: pRead s f (pRule s (pWord s i).2 (pWord s i).1).2
end

section
mutual
def Tm.sz : Tm → Nat | .mk _ as => 1 + szs as
def szs : List Tm → Nat | [] => 0 | t :: ts => t.sz + szs ts
end
mutual
def Tm.dep : Tm → Nat | .mk _ as => deps as + 1
def deps : List Tm → Nat | [] => 0 | t :: ts => max t.dep (deps ts)
end
mutual
/-- the size of a term's key -/
def Tm.ksz : Tm → Nat | .mk n as => n.size + 2 + kszs as
def kszs : List Tm → Nat | [] => 0 | t :: ts => t.ksz + 1 + kszs ts
end
mutual
/-- each name is of at most B bytes, each part has at most b arguments -/
def Nice (B b : Nat) : Tm → Prop | .mk n as => n.size ≤ B ∧ as.length ≤ b ∧ NiceL B b as
def NiceL (B b : Nat) : List Tm → Prop | [] => True | t :: ts => Nice B b t ∧ NiceL B b ts
end
mutual
def pParts (most : Nat) : Tm → Nat → Nat
  | .mk _ as, d => match d with | 0 => most + 1 | d + 1 => pPartsL most as d 1
def pPartsL (most : Nat) : List Tm → Nat → Nat → Nat
  | [], _, n => n
  | t :: ts, d, n => if most < n then n else pPartsL most ts d (n + pParts most t d)
end
mutual
def pKey : Tm → ByteArray | .mk n as => pKeyL as (n ++ ⟨#[40]⟩) ++ ⟨#[41]⟩
def pKeyL : List Tm → ByteArray → ByteArray | [], s => s | t :: ts, s => pKeyL ts (s ++ (pKey t ++ ⟨#[44]⟩))
end
def isVar (t : Tm) : Bool := decide (t.args.length = 0) && (!decide (t.name = ⟨#[]⟩) && (decide (65 ≤ byteAt t.name 0) && decide (byteAt t.name 0 ≤ 90)))
mutual
def tmEq : Tm → Tm → Bool | .mk n as, .mk m bs => decide (n = m) && tmsEq as bs
def tmsEq : List Tm → List Tm → Bool | [], [] => true | a :: as, b :: bs => tmEq a b && tmsEq as bs | [], _ :: _ => false | _ :: _, [] => false
end

theorem deps_snoc (l : List Tm) (k : Nat) (h : k < l.length) : deps (l.take (k + 1)) = max (deps (l.take k)) l[k].dep := by
  induction l generalizing k with
  | nil => simp at h
  | cons x r ih =>
    cases k with
    | zero => simp [deps]
    | succ k => simp only [List.take_succ_cons, deps, ih k (by simpa using h), List.getElem_cons_succ]; omega
theorem deps_mem {l : List Tm} {t : Tm} (h : t ∈ l) : t.dep ≤ deps l := by
  induction l with
  | nil => cases h
  | cons x r ih =>
    rcases List.mem_cons.1 h with rfl | h
    · simp only [deps]; omega
    · have := ih h; simp only [deps]; omega
theorem szs_mem {l : List Tm} {t : Tm} (h : t ∈ l) : t.sz ≤ szs l := by
  induction l with
  | nil => cases h
  | cons x r ih =>
    rcases List.mem_cons.1 h with rfl | h
    · simp only [szs]; omega
    · have := ih h; simp only [szs]; omega
theorem szs_len (l : List Tm) : l.length ≤ szs l := by
  induction l with
  | nil => simp
  | cons x r ih => cases x; simp only [szs, Tm.sz, List.length_cons]; omega
theorem niceL_mem {B b : Nat} {l : List Tm} : NiceL B b l ↔ ∀ t ∈ l, Nice B b t := by
  induction l with
  | nil => simp [NiceL]
  | cons x r ih => simp [NiceL, ih]
/-- the largest tree of that depth -/
def geo (b : Nat) : Nat → Nat | 0 => 0 | d + 1 => 1 + b * geo b d
theorem geo_mono (b : Nat) : ∀ {d e : Nat}, d ≤ e → geo b d ≤ geo b e
  | 0, _, _ => Nat.zero_le _
  | d + 1, e + 1, h => by have := geo_mono b (d := d) (e := e) (by omega); simp only [geo]; have := Nat.mul_le_mul_left b this; omega
mutual
theorem sz_geo (B b : Nat) : ∀ (t : Tm), Nice B b t → t.sz ≤ geo b t.dep
  | .mk n as, h => by
    simp only [Nice] at h
    simp only [Tm.sz, Tm.dep, geo]
    have := szs_geo B b as h.2.2
    have := Nat.mul_le_mul_right (geo b (deps as)) h.2.1
    omega
theorem szs_geo (B b : Nat) : ∀ (l : List Tm), NiceL B b l → szs l ≤ l.length * geo b (deps l)
  | [], _ => by simp [szs]
  | t :: ts, h => by
    simp only [NiceL] at h
    have h1 := sz_geo B b t h.1
    have h2 := szs_geo B b ts h.2
    have h3 := geo_mono b (d := t.dep) (e := max t.dep (deps ts)) (by omega)
    have h4 := geo_mono b (d := deps ts) (e := max t.dep (deps ts)) (by omega)
    have h5 := Nat.mul_le_mul_left ts.length h4
    simp only [szs, deps, List.length_cons, Nat.add_mul]; omega
end
mutual
theorem ksz_le (B b : Nat) : ∀ (t : Tm), Nice B b t → t.ksz + 1 ≤ t.sz * (B + 3)
  | .mk n as, h => by
    simp only [Nice] at h
    have := kszs_le B b as h.2.2
    simp only [Tm.sz, Tm.ksz, Nat.add_mul]; omega
theorem kszs_le (B b : Nat) : ∀ (l : List Tm), NiceL B b l → kszs l ≤ szs l * (B + 3)
  | [], _ => by simp [kszs]
  | t :: ts, h => by
    simp only [NiceL] at h
    have h1 := ksz_le B b t h.1
    have h2 := kszs_le B b ts h.2
    simp only [kszs, szs, Nat.add_mul]; omega
end

/-! ### parts -/
mutual
theorem pParts_bound (most : Nat) : ∀ (t : Tm) (d : Nat), pParts most t d ≤ (d + 1) * (most + 1)
  | .mk n as, 0 => by simp [pParts]
  | .mk n as, d + 1 => by
    have := pPartsL_bound most as d 1 (by have := Nat.mul_le_mul_left (d + 1) (show 1 ≤ most + 1 by omega); omega)
    simp only [pParts, Nat.add_mul] at this ⊢; omega
theorem pPartsL_bound (most : Nat) : ∀ (l : List Tm) (d n : Nat), n ≤ most + (d + 1) * (most + 1) → pPartsL most l d n ≤ most + (d + 1) * (most + 1)
  | [], _, _, h => by simpa [pPartsL] using h
  | t :: ts, d, n, h => by
    unfold pPartsL
    split
    · exact h
    · have h1 := pParts_bound most t d
      exact pPartsL_bound most ts d _ (by omega)
end
mutual
theorem pParts_small (most : Nat) : ∀ (t : Tm) (d : Nat), pParts most t d ≤ most → pParts most t d = t.sz ∧ t.dep ≤ d
  | .mk n as, 0, h => by simp only [pParts] at h; omega
  | .mk n as, d + 1, h => by
    have := pPartsL_small most as d 1 (by simpa [pParts] using h)
    simp only [pParts, Tm.sz, Tm.dep]; omega
theorem pPartsL_small (most : Nat) : ∀ (l : List Tm) (d n : Nat), pPartsL most l d n ≤ most → pPartsL most l d n = n + szs l ∧ deps l ≤ d
  | [], _, _, h => by simp [pPartsL, szs, deps]
  | t :: ts, d, n, h => by
    unfold pPartsL at h ⊢
    split
    · rename_i hn
      rw [if_pos hn] at h; omega
    · rename_i hn
      rw [if_neg hn] at h
      have h1 := pPartsL_small most ts d _ h
      have h2 := pParts_small most t d (by omega)
      simp only [szs, deps]; omega
end
mutual
theorem nice_of_sz (B m b : Nat) : ∀ (t : Tm), Nice B m t → t.sz ≤ b + 1 → Nice B b t
  | .mk n as, h, hs => by
    simp only [Nice, Tm.sz] at h hs ⊢
    have := szs_len as
    exact ⟨h.1, by omega, niceL_of_sz B m b as h.2.2 (by omega)⟩
theorem niceL_of_sz (B m b : Nat) : ∀ (l : List Tm), NiceL B m l → szs l ≤ b + 1 → NiceL B b l
  | [], _, _ => by simp [NiceL]
  | t :: ts, h, hs => by
    simp only [NiceL, szs] at h hs ⊢
    exact ⟨nice_of_sz B m b t h.1 (by omega), niceL_of_sz B m b ts h.2 (by omega)⟩
end

/-! ### keys -/
mutual
theorem pKey_size : ∀ (t : Tm), (pKey t).size = t.ksz
  | .mk n as => by
    have := pKeyL_size as (n ++ ⟨#[40]⟩)
    have h1 : (⟨#[40]⟩ : ByteArray).size = 1 := rfl
    have h2 : (⟨#[41]⟩ : ByteArray).size = 1 := rfl
    simp only [pKey, Tm.ksz, ByteArray.size_append, h1, h2] at this ⊢; omega
theorem pKeyL_size : ∀ (l : List Tm) (s : ByteArray), (pKeyL l s).size = s.size + kszs l
  | [], s => by simp [pKeyL, kszs]
  | t :: ts, s => by
    have h1 := pKey_size t
    have h2 := pKeyL_size ts (s ++ (pKey t ++ ⟨#[44]⟩))
    have h3 : (⟨#[44]⟩ : ByteArray).size = 1 := rfl
    simp only [pKeyL, kszs, ByteArray.size_append, h3] at h2 ⊢; omega
end

/-! ### what a pattern binds -/
abbrev Pr := ByteArray × Tm
mutual
def pBound : Tm → Tm → List Pr → List Pr × Bool
  | .mk n as, t, s =>
    if isVar (.mk n as) = true then
      (match s.find? (fun x => decide (x.1 = n)) with
      | some x => (s, tmEq x.2 t)
      | none => (s ++ [(n, t)], true))
    else if n = t.name ∧ as.length = t.args.length then pBoundL as t.args s true else ([], false)
def pBoundL : List Tm → List Tm → List Pr → Bool → List Pr × Bool
  | [], _, s, ok => (s, ok)
  | _ :: _, [], s, ok => (s, ok)
  | a :: as, b :: bs, s, ok => if ok = true then pBoundL as bs (pBound a b s).1 (pBound a b s).2 else (s, ok)
end
mutual
def pInst : Tm → List Pr → Tm × Bool
  | .mk n as, s =>
    if isVar (.mk n as) = true then
      (match s.find? (fun x => decide (x.1 = n)) with
      | some x => (x.2, true)
      | none => (.mk n as, false))
    else
      (match pInstL as s with
      | some out => (.mk n out, true)
      | none => (.mk n as, false))
def pInstL : List Tm → List Pr → Option (List Tm)
  | [], _ => some []
  | a :: as, s => if (pInst a s).2 = true then (pInstL as s).map ((pInst a s).1 :: ·) else none
end
/-- each pair's term is nice and not deep -/
def GoodP (B b d : Nat) (s : List Pr) : Prop := ∀ x ∈ s, Nice B b x.2 ∧ x.2.dep ≤ d
mutual
theorem pBound_good (B b d : Nat) : ∀ (p t : Tm) (s : List Pr), GoodP B b d s → Nice B b t → t.dep ≤ d → GoodP B b d (pBound p t s).1
  | .mk n as, t, s, hs, ht, hd => by
    unfold pBound
    split
    · split
      · exact hs
      · intro x hx
        rcases List.mem_append.1 hx with h | h
        · exact hs x h
        · rw [List.mem_singleton] at h; subst h; exact ⟨ht, hd⟩
    · split
      · obtain ⟨m, bs⟩ := t
        simp only [Nice] at ht
        simp only [Tm.dep] at hd
        exact pBoundL_good B b d as bs s true hs ht.2.2 (by omega)
      · intro x hx; cases hx
theorem pBoundL_good (B b d : Nat) : ∀ (as bs : List Tm) (s : List Pr) (ok : Bool), GoodP B b d s → NiceL B b bs → deps bs ≤ d → GoodP B b d (pBoundL as bs s ok).1
  | [], _, s, ok, hs, _, _ => by simpa [pBoundL] using hs
  | _ :: _, [], s, ok, hs, _, _ => by simpa [pBoundL] using hs
  | a :: as, c :: bs, s, ok, hs, hb, hd => by
    simp only [NiceL] at hb
    simp only [deps] at hd
    unfold pBoundL
    split
    · exact pBoundL_good B b d as bs _ _ (pBound_good B b d a c s hs hb.1 (by omega)) hb.2 (by omega)
    · exact hs
end
/-- at an atom of that depth the bound terms are less deep -/
theorem pBound_atom (B b d : Nat) (p t : Tm) (s : List Pr) (hs : GoodP B b d s) (ht : Nice B b t) (hd : t.dep ≤ d + 1) (hl : p.args.length = t.args.length) (h1 : 1 ≤ d) : GoodP B b d (pBound p t s).1 := by
  obtain ⟨n, as⟩ := p
  obtain ⟨m, bs⟩ := t
  simp only [Nice] at ht
  simp only [Tm.dep] at hd
  simp only [Tm.args] at hl
  unfold pBound
  split
  · rename_i hv
    have h0 : bs = [] := by
      simp only [isVar, Tm.args, Bool.and_eq_true, decide_eq_true_eq] at hv
      exact List.eq_nil_of_length_eq_zero (by have := of_decide_eq_true hv.1; omega)
    subst h0
    split
    · exact hs
    · intro x hx
      rcases List.mem_append.1 hx with h | h
      · exact hs x h
      · rw [List.mem_singleton] at h; subst h
        exact ⟨by simp only [Nice]; exact ⟨ht.1, by simp, by simp [NiceL]⟩, by simp only [Tm.dep, deps]; omega⟩
  · split
    · exact pBoundL_good B b d as bs s true hs ht.2.2 (by omega)
    · intro x hx; cases hx
mutual
theorem pInst_good (B b d M : Nat) (hM : geo b d ≤ M) (h1 : 1 ≤ M) : ∀ (t : Tm) (s : List Pr), GoodP B b d s → Nice B b t → Nice B b (pInst t s).1 ∧ (pInst t s).1.sz ≤ t.sz * M
  | .mk n as, s, hs, ht => by
    have hself : (Tm.mk n as).sz ≤ (Tm.mk n as).sz * M := Nat.le_mul_of_pos_right _ h1
    unfold pInst
    split
    · cases hf : s.find? (fun x => decide (x.1 = n)) with
      | none => exact ⟨ht, hself⟩
      | some x =>
        obtain ⟨h2, h3⟩ := hs x (List.mem_of_find?_eq_some hf)
        refine ⟨h2, ?_⟩
        have h4 := sz_geo B b x.2 h2
        have h5 := geo_mono b h3
        have h6 : M ≤ (Tm.mk n as).sz * M := Nat.le_mul_of_pos_left _ (by simp only [Tm.sz]; omega)
        exact Nat.le_trans h4 (Nat.le_trans h5 (Nat.le_trans hM h6))
    · cases hi : pInstL as s with
      | none => exact ⟨ht, hself⟩
      | some out =>
        have ht' := ht
        simp only [Nice] at ht'
        obtain ⟨h2, h3, h4⟩ := pInstL_good B b d M hM h1 as s hs ht'.2.2 out hi
        refine ⟨by simp only [Nice]; exact ⟨ht'.1, by rw [h3]; exact ht'.2.1, h2⟩, ?_⟩
        simp only [Tm.sz, Nat.add_mul]; omega
theorem pInstL_good (B b d M : Nat) (hM : geo b d ≤ M) (h1 : 1 ≤ M) : ∀ (l : List Tm) (s : List Pr), GoodP B b d s → NiceL B b l → ∀ out, pInstL l s = some out → NiceL B b out ∧ out.length = l.length ∧ szs out ≤ szs l * M
  | [], s, _, _, out, h => by
    simp only [pInstL, Option.some.injEq] at h
    subst h
    exact ⟨by simp [NiceL], rfl, by simp [szs]⟩
  | a :: as, s, hs, hn, out, h => by
    simp only [NiceL] at hn
    unfold pInstL at h
    split at h
    · rw [Option.map_eq_some_iff] at h
      obtain ⟨r, hr, rfl⟩ := h
      obtain ⟨h2, h3⟩ := pInst_good B b d M hM h1 a s hs hn.1
      obtain ⟨h4, h5, h6⟩ := pInstL_good B b d M hM h1 as s hs hn.2 r hr
      refine ⟨by simp only [NiceL]; exact ⟨h2, h4⟩, by simp [h5], ?_⟩
      simp only [szs, Nat.add_mul]; omega
    · cases h
end
mutual
theorem dep_le_sz : ∀ t : Tm, t.dep ≤ t.sz
  | .mk n as => by have := deps_le_szs as; simp only [Tm.dep, Tm.sz]; omega
theorem deps_le_szs : ∀ l : List Tm, deps l ≤ szs l
  | [] => by simp [deps]
  | t :: ts => by have h1 := dep_le_sz t; have h2 := deps_le_szs ts; simp only [deps, szs]; omega
end
end
end Go.Proofs.YtlficnfkekggjaaGreatDoor
