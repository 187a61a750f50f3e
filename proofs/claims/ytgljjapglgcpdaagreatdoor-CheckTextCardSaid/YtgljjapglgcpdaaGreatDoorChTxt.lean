
/-
  The canonical text of rules, its tokens, and the relation between a text and its tokens. No program is in sight here.
-/
import Derived.Test.YtgljjapglgcpdaaGreatDoorChPlain
namespace Go.Proofs.YtgljjapglgcpdaaGreatDoor

section
abbrev Tok := Int × ByteArray
/-- the bytes of a string -/
def bs (s : ByteArray) : List UInt8 := s.data.toList
theorem bs_app (a b : ByteArray) : bs (a ++ b) = bs a ++ bs b := by unfold bs; rw [ByteArray.data_append, Array.toList_append]
theorem bs_mk (l : List UInt8) : bs ⟨l.toArray⟩ = l := rfl
theorem bs_size (s : ByteArray) : (bs s).length = s.size := by unfold bs; rw [Array.length_toList]; rfl
theorem bs_at {s : ByteArray} {i : Nat} (h : i < s.size) : (bs s)[i]? = some s[i] := by
  have : i < (bs s).length := by rw [bs_size]; exact h
  rw [List.getElem?_eq_getElem this]
  rfl
theorem mk_bs (s : ByteArray) : (⟨(bs s).toArray⟩ : ByteArray) = s := rfl
def blankC (c : Nat) : Bool := c == 32 || (c == 9 || (c == 10 || c == 13))
def runC (c : Nat) : Bool := lowC c || (uppC c || (digC c || c == 45))
def symC (c : Nat) : Bool := c == 40 || (c == 41 || (c == 44 || c == 46))
def wordB (s : ByteArray) : Bool := decide (s = sIf) || (decide (s = sAnd) || decide (s = sNot))
/-- the kind of a run -/
def kindB (s : ByteArray) : Int := if wordB s = true then 5 else if nameB s = true then 1 else if numB s = true then 2 else if varB s = true then 3 else 0
/-- the tokens of a text, if it has no comment and no other byte -/
inductive Lx : List UInt8 → List Tok → Prop
  | nil : Lx [] []
  | blank (c : UInt8) (r : List UInt8) (ts : List Tok) : blankC c.toNat = true → Lx r ts → Lx (c :: r) ts
  | run (t r : List UInt8) (ts : List Tok) : t ≠ [] → (∀ c ∈ t, runC c.toNat = true) → (∀ c, r.head? = some c → runC c.toNat = false) → kindB ⟨t.toArray⟩ ≠ 0 → Lx r ts → Lx (t ++ r) ((kindB ⟨t.toArray⟩, ⟨t.toArray⟩) :: ts)
  | sym (c : UInt8) (r : List UInt8) (ts : List Tok) : symC c.toNat = true → Lx r ts → Lx (c :: r) ((4, ⟨#[c]⟩) :: ts)

/-! ### the text -/
def bL (n : UInt8) : ByteArray := ⟨#[n]⟩
mutual
def txT : Tm → ByteArray
  | .mk nm [] => nm
  | .mk nm (a :: r) => nm ++ (bL 40 ++ (txT a ++ (txC r ++ bL 41)))
/-- the text of the arguments behind the first -/
def txC : List Tm → ByteArray
  | [] => ⟨#[]⟩
  | b :: r => bL 44 ++ (txT b ++ txC r)
end
mutual
def tkT : Tm → List Tok
  | .mk nm [] => [(kindB nm, nm)]
  | .mk nm (a :: r) => (1, nm) :: (4, bL 40) :: (tkT a ++ (tkC r ++ [(4, bL 41)]))
def tkC : List Tm → List Tok
  | [] => []
  | b :: r => (4, bL 44) :: (tkT b ++ tkC r)
end
/-- the words between blanks -/
def sIf_ : ByteArray := ⟨#[32, 105, 102, 32]⟩
def sAnd_ : ByteArray := ⟨#[32, 97, 110, 100, 32]⟩
def sNot_ : ByteArray := ⟨#[110, 111, 116, 32]⟩
def txLi (x : Li) : ByteArray := if x.nt = true then sNot_ ++ txT x.atom else txT x.atom
def tkLi (x : Li) : List Tok := if x.nt = true then (5, sNot) :: tkT x.atom else tkT x.atom
/-- literals behind the first -/
def txB : List Li → ByteArray | [] => ⟨#[]⟩ | x :: r => sAnd_ ++ (txLi x ++ txB r)
def tkB : List Li → List Tok | [] => [] | x :: r => (5, sAnd) :: (tkLi x ++ tkB r)
def txBody : List Li → ByteArray | [] => ⟨#[]⟩ | x :: r => sIf_ ++ (txLi x ++ txB r)
def tkBody : List Li → List Tok | [] => [] | x :: r => (5, sIf) :: (tkLi x ++ tkB r)
def txRu (r : Ru) : ByteArray := txT r.head ++ (txBody r.body ++ bL 46)
def tkRu (r : Ru) : List Tok := tkT r.head ++ (tkBody r.body ++ [(4, bL 46)])
def txRs : List Ru → ByteArray | [] => ⟨#[]⟩ | r :: l => txRu r ++ (bL 10 ++ txRs l)
def tkRs : List Ru → List Tok | [] => [] | r :: l => tkRu r ++ tkRs l

/-! ### names are runs -/
theorem allFrom_mem (q : Nat → Bool) (s : ByteArray) : ∀ (n i : Nat), allFrom q s n i = true → ∀ j, i ≤ j → j < i + n → j < s.size → q (byteAt s j) = true
  | 0, i, _, j, h1, h2, _ => by omega
  | n + 1, i, h, j, h1, h2, h3 => by
    simp only [allFrom, Bool.and_eq_true] at h
    by_cases e : j = i
    · subst e; exact h.1
    · exact allFrom_mem q s n (i + 1) h.2 j (by omega) (by omega) h3
theorem allC_mem {q : Nat → Bool} {s : ByteArray} (h : allC q s = true) : ∀ c ∈ bs s, q c.toNat = true := fun c hc => by
  obtain ⟨j, hj, rfl⟩ := List.getElem_of_mem hc
  rw [bs_size] at hj
  have := allFrom_mem q s s.size 0 h j (Nat.zero_le _) (by omega) hj
  rw [byteAt, dif_pos hj] at this
  exact this
theorem nameC_run {c : Nat} (h : nameC c = true) : runC c = true := by
  simp only [nameC, runC, Bool.or_eq_true] at h ⊢
  rcases h with h | h | h
  · exact .inl h
  · exact .inr (.inr (.inl h))
  · exact .inr (.inr (.inr h))
theorem varC_run {c : Nat} (h : varC c = true) : runC c = true := by
  simp only [varC, runC, Bool.or_eq_true] at h ⊢
  rcases h with h | h | h
  · exact .inr (.inl h)
  · exact .inl h
  · exact .inr (.inr (.inl h))
theorem digC_run {c : Nat} (h : digC c = true) : runC c = true := by
  simp only [runC, Bool.or_eq_true]; exact .inr (.inr (.inl h))
/-- a name of a leaf -/
def leafB (s : ByteArray) : Bool := nameB s || (numB s || varB s)
theorem leaf_run {s : ByteArray} (h : leafB s = true) : 1 ≤ s.size ∧ ∀ c ∈ bs s, runC c.toNat = true := by
  simp only [leafB, Bool.or_eq_true] at h
  rcases h with h | h | h
  · simp only [nameB, spelt, Bool.and_eq_true, decide_eq_true_eq] at h
    exact ⟨h.1.1, fun c hc => nameC_run (allC_mem h.1.2.2.2 c hc)⟩
  · simp only [numB, Bool.and_eq_true, decide_eq_true_eq] at h
    exact ⟨h.1, fun c hc => digC_run (allC_mem h.2.2.2 c hc)⟩
  · simp only [varB, spelt, Bool.and_eq_true, decide_eq_true_eq] at h
    exact ⟨h.1, fun c hc => varC_run (allC_mem h.2.2.2 c hc)⟩
theorem leaf_word {s : ByteArray} (h : leafB s = true) : wordB s = false := by
  cases hw : wordB s with
  | false => rfl
  | true =>
    simp only [wordB, Bool.or_eq_true, decide_eq_true_eq] at hw
    rcases hw with rfl | rfl | rfl <;> (exfalso; revert h; decide)
theorem kind_name {s : ByteArray} (h : nameB s = true) : kindB s = 1 := by
  unfold kindB
  rw [if_neg (by rw [leaf_word (by simp [leafB, h])]; simp), if_pos h]
theorem kind_leaf {s : ByteArray} (h : leafB s = true) : kindB s ≠ 0 ∧ (kindB s = 1 ∨ kindB s = 2 ∨ kindB s = 3) := by
  unfold kindB
  rw [if_neg (by rw [leaf_word h]; simp)]
  simp only [leafB, Bool.or_eq_true] at h
  split
  · exact ⟨by decide, .inl rfl⟩
  · split
    · exact ⟨by decide, .inr (.inl rfl)⟩
    · split
      · exact ⟨by decide, .inr (.inr rfl)⟩
      · rename_i h1 h2 h3
        rcases h with h | h | h
        · exact absurd h h1
        · exact absurd h h2
        · exact absurd h h3

/-! ### the tokens of the text -/
def Stop (r : List UInt8) : Prop := ∀ c, r.head? = some c → runC c.toNat = false
theorem Lx.leaf {s : ByteArray} {r : List UInt8} {ts : List Tok} (h : leafB s = true) (hr : Stop r) (hl : Lx r ts) : Lx (bs s ++ r) ((kindB s, s) :: ts) := by
  obtain ⟨h1, h2⟩ := leaf_run h
  have := Lx.run (bs s) r ts (by intro e; have := bs_size s; rw [e] at this; simp at this; omega) h2 hr (by rw [mk_bs]; exact (kind_leaf h).1) hl
  rw [mk_bs] at this
  exact this
theorem Lx.symb {c : UInt8} {r : List UInt8} {ts : List Tok} (h : symC c.toNat = true) (hl : Lx r ts) : Lx (bs (bL c) ++ r) ((4, bL c) :: ts) := Lx.sym c r ts h hl
theorem stop_sym {c : UInt8} {r : List UInt8} (h : runC c.toNat = false) : Stop (bs (bL c) ++ r) := fun d hd => by
  simp only [bs, bL, List.cons_append, List.nil_append, List.head?_cons, Option.some.injEq] at hd
  subst hd; exact h
mutual
/-- a term whose text can be read -/
def txOk : Tm → Bool
  | .mk nm [] => leafB nm
  | .mk nm (a :: r) => nameB nm && (txOk a && txOkL r)
def txOkL : List Tm → Bool | [] => true | t :: r => txOk t && txOkL r
end
theorem bs_nil : bs ⟨#[]⟩ = [] := rfl
mutual
theorem lx_T : ∀ (t : Tm) (r : List UInt8) (ts : List Tok), txOk t = true → Stop r → Lx r ts → Lx (bs (txT t) ++ r) (tkT t ++ ts)
  | .mk nm [], r, ts, h, hr, hl => by
    simp only [txOk] at h
    simp only [txT, tkT, List.cons_append, List.nil_append]
    exact Lx.leaf h hr hl
  | .mk nm (a :: as), r, ts, h, hr, hl => by
    simp only [txOk, Bool.and_eq_true] at h
    have h1 : Lx (bs (bL 41) ++ r) ((4, bL 41) :: ts) := Lx.symb (by decide) hl
    obtain ⟨h2, h2'⟩ := lx_C as _ _ h.2.2 (stop_sym (r := r) (c := 41) (by decide)) h1
    have h2a := lx_T a _ _ h.2.1 h2' h2
    have h3 : Lx (bs (bL 40) ++ _) ((4, bL 40) :: _) := Lx.symb (by decide) h2a
    have h4 := Lx.leaf (s := nm) (by simp [leafB, h.1]) (stop_sym (c := 40) (by decide)) h3
    rw [kind_name h.1] at h4
    simp only [txT, tkT, bs_app, List.append_assoc, List.cons_append, List.nil_append] at h4 ⊢
    exact h4
theorem lx_C : ∀ (as : List Tm) (r : List UInt8) (ts : List Tok), txOkL as = true → Stop r → Lx r ts → Lx (bs (txC as) ++ r) (tkC as ++ ts) ∧ Stop (bs (txC as) ++ r)
  | [], r, ts, _, hr, hl => by
    simp only [txC, tkC, bs_nil, List.nil_append]
    exact ⟨hl, hr⟩
  | b :: as, r, ts, h, hr, hl => by
    simp only [txOkL, Bool.and_eq_true] at h
    obtain ⟨h1, h1'⟩ := lx_C as r ts h.2 hr hl
    have h2 := lx_T b _ _ h.1 h1' h1
    have h3 : Lx (bs (bL 44) ++ _) ((4, bL 44) :: _) := Lx.symb (by decide) h2
    simp only [txC, tkC, bs_app, List.append_assoc, List.cons_append] at h3 ⊢
    exact ⟨h3, stop_sym (c := 44) (by decide)⟩
end
theorem Lx.sp {r : List UInt8} {ts : List Tok} (hl : Lx r ts) : Lx (32 :: r) ts := Lx.blank 32 r ts (by decide) hl
theorem stop_sp {r : List UInt8} : Stop (32 :: r) := fun d hd => by
  simp only [List.head?_cons, Option.some.injEq] at hd
  subst hd; decide
theorem lx_not {r : List UInt8} {ts : List Tok} (hl : Lx r ts) : Lx (bs sNot_ ++ r) ((5, sNot) :: ts) :=
  Lx.run [110, 111, 116] (32 :: r) ts (by simp) (by decide) stop_sp (by decide) hl.sp
theorem lx_and {r : List UInt8} {ts : List Tok} (hl : Lx r ts) : Lx (bs sAnd_ ++ r) ((5, sAnd) :: ts) :=
  Lx.blank 32 _ _ (by decide) (Lx.run [97, 110, 100] (32 :: r) ts (by simp) (by decide) stop_sp (by decide) hl.sp)
theorem lx_if {r : List UInt8} {ts : List Tok} (hl : Lx r ts) : Lx (bs sIf_ ++ r) ((5, sIf) :: ts) :=
  Lx.blank 32 _ _ (by decide) (Lx.run [105, 102] (32 :: r) ts (by simp) (by decide) stop_sp (by decide) hl.sp)
theorem stop_and {r : List UInt8} : Stop (bs sAnd_ ++ r) := stop_sp (r := [97, 110, 100, 32] ++ r)
theorem stop_if {r : List UInt8} : Stop (bs sIf_ ++ r) := stop_sp (r := [105, 102, 32] ++ r)
theorem lx_Li (x : Li) (r : List UInt8) (ts : List Tok) (h : txOk x.atom = true) (hr : Stop r) (hl : Lx r ts) : Lx (bs (txLi x) ++ r) (tkLi x ++ ts) := by
  unfold txLi tkLi
  split
  · rw [bs_app, List.append_assoc, List.cons_append]
    exact lx_not (lx_T _ _ _ h hr hl)
  · exact lx_T _ _ _ h hr hl
theorem lx_B : ∀ (l : List Li) (r : List UInt8) (ts : List Tok), (∀ x ∈ l, txOk x.atom = true) → Stop r → Lx r ts → Lx (bs (txB l) ++ r) (tkB l ++ ts) ∧ Stop (bs (txB l) ++ r)
  | [], r, ts, _, hr, hl => ⟨hl, hr⟩
  | x :: l, r, ts, h, hr, hl => by
    obtain ⟨h1, h2⟩ := lx_B l r ts (fun y hy => h y (by simp [hy])) hr hl
    have h3 := lx_Li x _ _ (h x (by simp)) h2 h1
    simp only [txB, tkB, bs_app, List.append_assoc, List.cons_append]
    exact ⟨lx_and h3, stop_and⟩
theorem lx_Body (l : List Li) (r : List UInt8) (ts : List Tok) (h : ∀ x ∈ l, txOk x.atom = true) (hr : Stop r) (hl : Lx r ts) : Lx (bs (txBody l) ++ r) (tkBody l ++ ts) ∧ Stop (bs (txBody l) ++ r) := by
  cases l with
  | nil => exact ⟨hl, hr⟩
  | cons x l =>
    obtain ⟨h1, h2⟩ := lx_B l r ts (fun y hy => h y (by simp [hy])) hr hl
    have h3 := lx_Li x _ _ (h x (by simp)) h2 h1
    simp only [txBody, tkBody, bs_app, List.append_assoc, List.cons_append]
    exact ⟨lx_if h3, stop_if⟩
def txOkR (r : Ru) : Bool := txOk r.head && r.body.all fun x => txOk x.atom
theorem lx_Ru (x : Ru) (r : List UInt8) (ts : List Tok) (h : txOkR x = true) (hl : Lx r ts) : Lx (bs (txRu x) ++ r) (tkRu x ++ ts) := by
  simp only [txOkR, Bool.and_eq_true, List.all_eq_true] at h
  have h1 : Lx (bs (bL 46) ++ r) ((4, bL 46) :: ts) := Lx.symb (by decide) hl
  obtain ⟨h2, h3⟩ := lx_Body x.body _ _ h.2 (stop_sym (r := r) (c := 46) (by decide)) h1
  have h4 := lx_T x.head _ _ h.1 h3 h2
  simp only [txRu, tkRu, bs_app, List.append_assoc, List.cons_append, List.nil_append] at h4 ⊢
  exact h4
theorem lx_Rs : ∀ l : List Ru, (∀ r ∈ l, txOkR r = true) → Lx (bs (txRs l)) (tkRs l)
  | [], _ => Lx.nil
  | r :: l, h => by
    have h1 := lx_Rs l (fun y hy => h y (by simp [hy]))
    have h2 : Lx (bs (bL 10) ++ bs (txRs l)) (tkRs l) := Lx.blank 10 _ _ (by decide) h1
    have h3 := lx_Ru r _ _ (h r (by simp)) h2
    simp only [txRs, tkRs, bs_app]
    exact h3

/-! ### what a rule without an error has -/
mutual
theorem txOk_mis : ∀ t : Tm, misT t = false → txOk t = true
  | .mk nm [], h => by
    simp only [misT] at h
    simp only [txOk, leafB]
    cases h1 : nameB nm <;> cases h2 : numB nm <;> cases h3 : varB nm <;> simp_all
  | .mk nm (a :: as), h => by
    simp only [misT, misL, Bool.or_eq_false_iff, Bool.not_eq_false'] at h
    simp only [txOk, Bool.and_eq_true]
    exact ⟨h.1, txOk_mis a h.2.1, txOkL_mis as h.2.2⟩
theorem txOkL_mis : ∀ ts : List Tm, misL ts = false → txOkL ts = true
  | [], _ => rfl
  | t :: ts, h => by
    simp only [misL, Bool.or_eq_false_iff] at h
    simp only [txOkL, Bool.and_eq_true]
    exact ⟨txOk_mis t h.1, txOkL_mis ts h.2⟩
end
end
end Go.Proofs.YtgljjapglgcpdaaGreatDoor
