
/-
  The plain functions that the contracts speak of: lists of names, edges, levels. No program is in sight here.
-/
import Derived.Test.YtlficnfkekggjaaGreatDoorBase
namespace Go.Proofs.YtlficnfkekggjaaGreatDoor

theorem toList_inj {a b : ByteArray} (h : a.toList = b.toList) : a = b := by
  rw [ByteArray.toList_eq, ByteArray.toList_eq] at h
  exact ByteArray.ext (Array.toList_inj.1 h)
theorem beqS (a b : ByteArray) : (a.toList == b.toList) = decide (a = b) := by
  by_cases h : a = b
  · subst h; simp
  · have : a.toList ≠ b.toList := fun e => h (toList_inj e)
    simp [h, this]
theorem toL_iff (a b : ByteArray) : a.toList = b.toList ↔ a = b := ⟨toList_inj, fun h => by rw [h]⟩
instance lawfulBytes : LawfulBEq ByteArray where
  eq_of_beq {a b} h := by rw [beq_toListBytes, beqS] at h; simpa using h
  rfl {a} := by rw [beq_toListBytes]; simp
deriving instance DecidableEq for Ed
deriving instance DecidableEq for Lv

def hasS (xs : List ByteArray) (s : ByteArray) : Bool := decide (s ∈ xs)
def hasE (xs : List Ed) (e : Ed) : Bool := decide (e ∈ xs)
def eqS (xs ys : List ByteArray) : Bool := decide (xs = ys)
def eqI (xs ys : List Int) : Bool := decide (xs = ys)
def eqE (xs ys : List Ed) : Bool := decide (xs = ys)
def eqL (xs ys : List Lv) : Bool := decide (xs = ys)
/-- the level of the first element of that name, or -1 -/
def ofL : List Lv → ByteArray → Int
  | [], _ => -1
  | l :: r, s => if l.s = s then l.n else ofL r s
def sLt (a b : ByteArray) : Bool := Op.bytesLess a.toList b.toList

theorem take_snoc {α : Type} (xs : List α) (k : Nat) (h : k < xs.length) : xs.take (k + 1) = xs.take k ++ [xs[k]] := by
  rw [List.take_succ_eq_append_getElem h]
theorem hasS_snoc (xs : List ByteArray) (s : ByteArray) (k : Nat) (h : k < xs.length) : hasS (xs.take (k + 1)) s = (hasS (xs.take k) s || decide (xs[k] = s)) := by
  simp only [hasS, take_snoc xs k h, List.mem_append, List.mem_singleton, Bool.decide_or, eq_comm (a := s)]
theorem hasE_snoc (xs : List Ed) (s : Ed) (k : Nat) (h : k < xs.length) : hasE (xs.take (k + 1)) s = (hasE (xs.take k) s || decide (xs[k] = s)) := by
  simp only [hasE, take_snoc xs k h, List.mem_append, List.mem_singleton, Bool.decide_or, eq_comm (a := s)]
theorem hasS_at (xs : List ByteArray) (s : ByteArray) (k : Nat) (h : k < xs.length) (e : xs[k] = s) : hasS xs s = true := by
  simp only [hasS, decide_eq_true_eq]; rw [← e]; exact List.getElem_mem h
theorem hasE_at (xs : List Ed) (s : Ed) (k : Nat) (h : k < xs.length) (e : xs[k] = s) : hasE xs s = true := by
  simp only [hasE, decide_eq_true_eq]; rw [← e]; exact List.getElem_mem h
theorem ofL_snoc : ∀ (xs : List Lv) (s : ByteArray) (k : Nat) (h : k < xs.length), (∀ x ∈ xs.take k, x.s ≠ s) → ofL xs s = if xs[k].s = s then xs[k].n else ofL (xs.drop (k + 1)) s
  | [], _, _, h, _ => absurd h (by simp)
  | x :: r, s, 0, _, _ => by simp [ofL]
  | x :: r, s, k + 1, h, hn => by
    have hx : x.s ≠ s := hn x (by simp)
    have := ofL_snoc r s k (by simpa using h) (fun y hy => hn y (by simp [hy]))
    simp [ofL, hx, this]
theorem ofL_none : ∀ (xs : List Lv) (s : ByteArray), (∀ x ∈ xs, x.s ≠ s) → ofL xs s = -1
  | [], _, _ => rfl
  | x :: r, s, hn => by
    have hx : x.s ≠ s := hn x (by simp)
    simp [ofL, hx, ofL_none r s (fun y hy => hn y (by simp [hy]))]
/-- two lists are one if they are as long and agree at each place -/
theorem eq_of_prefix {α : Type} {xs ys : List α} (hl : xs.length = ys.length) (h : xs.take xs.length = ys.take xs.length) : xs = ys := by
  rw [List.take_length, hl, List.take_length] at h; exact h
theorem take_eq_step {α : Type} {xs ys : List α} {k : Nat} (h1 : k < xs.length) (h2 : k < ys.length) (h : xs.take k = ys.take k) (he : xs[k] = ys[k]) : xs.take (k + 1) = ys.take (k + 1) := by
  rw [take_snoc xs k h1, take_snoc ys k h2, h, he]
theorem ne_at {α : Type} {xs ys : List α} {k : Nat} (h1 : k < xs.length) (h2 : k < ys.length) (he : xs[k] ≠ ys[k]) : xs ≠ ys := fun h => he (by subst h; rfl)

/-- an edge between two names, a negated one if 'not' is set -/
def joinedB (es : List Ed) (f t : ByteArray) (nt : Bool) : Bool := es.any fun e => decide (e.f = f) && (decide (e.t = t) && (e.n || !nt))
theorem joinedB_snoc (xs : List Ed) (f t : ByteArray) (nt : Bool) (k : Nat) (h : k < xs.length) : joinedB (xs.take (k + 1)) f t nt = (joinedB (xs.take k) f t nt || (decide (xs[k].f = f) && (decide (xs[k].t = t) && (xs[k].n || !nt)))) := by
  simp only [joinedB, take_snoc xs k h, List.any_append, List.any_cons, List.any_nil, Bool.or_false]
theorem joinedB_at (xs : List Ed) (f t : ByteArray) (nt : Bool) (k : Nat) (h : k < xs.length) (e : (decide (xs[k].f = f) && (decide (xs[k].t = t) && (xs[k].n || !nt))) = true) : joinedB xs f t nt = true := by
  simp only [joinedB, List.any_eq_true]
  exact ⟨xs[k], List.getElem_mem h, e⟩
/-- how often a name occurs in lists of names -/
def cntRow (s : ByteArray) (a : Nat) (r : List ByteArray) : Nat := r.foldl (fun a x => if x = s then a + 1 else a) a
def countS (l : List (List ByteArray)) (s : ByteArray) : Nat := l.foldl (cntRow s) 0
/-- the index of the first list that holds a name, or -1 -/
def placeS (l : List (List ByteArray)) (s : ByteArray) : Int := match l.findIdx? (fun r => hasS r s) with | some i => i | none => -1
/-- the last list that holds a number, and how often it occurs -/
def rowI (n : Int) (i : Int) (a : Int × Nat) (r : List Int) : Int × Nat := r.foldl (fun a x => if x = n then (i, a.2 + 1) else a) a
def placeI (l : List (List Int)) (n : Int) : Int × Nat := l.zipIdx.foldl (fun a x => rowI n x.2 a x.1) (-1, 0)
theorem cntRow_snoc (s : ByteArray) (a : Nat) (r : List ByteArray) (k : Nat) (h : k < r.length) : cntRow s a (r.take (k + 1)) = if r[k] = s then cntRow s a (r.take k) + 1 else cntRow s a (r.take k) := by
  simp only [cntRow, take_snoc r k h, List.foldl_append, List.foldl_cons, List.foldl_nil]
theorem countS_snoc (l : List (List ByteArray)) (s : ByteArray) (k : Nat) (h : k < l.length) : countS (l.take (k + 1)) s = cntRow s (countS (l.take k) s) l[k] := by
  simp only [countS, take_snoc l k h, List.foldl_append, List.foldl_cons, List.foldl_nil]
theorem cntRow_le (s : ByteArray) (r : List ByteArray) : ∀ a, cntRow s a r ≤ a + r.length := by
  induction r with
  | nil => intro a; simp [cntRow]
  | cons x r ih =>
    intro a
    have := ih (if x = s then a + 1 else a)
    simp only [cntRow, List.foldl_cons, List.length_cons] at this ⊢
    split at this <;> split <;> simp_all <;> omega
theorem rowI_snoc (n i : Int) (a : Int × Nat) (r : List Int) (k : Nat) (h : k < r.length) : rowI n i a (r.take (k + 1)) = if r[k] = n then (i, (rowI n i a (r.take k)).2 + 1) else rowI n i a (r.take k) := by
  simp only [rowI, take_snoc r k h, List.foldl_append, List.foldl_cons, List.foldl_nil]
theorem placeI_snoc (l : List (List Int)) (n : Int) (k : Nat) (h : k < l.length) : placeI (l.take (k + 1)) n = rowI n k (placeI (l.take k) n) l[k] := by
  simp only [placeI, take_snoc l k h, List.zipIdx_append, List.foldl_append]
  simp [Nat.min_eq_left (Nat.le_of_lt h)]
theorem placeS_at (l : List (List ByteArray)) (s : ByteArray) (k : Nat) (h : k < l.length) (hn : ∀ i (hi : i < k), hasS (l[i]'(by omega)) s = false) (hk : hasS l[k] s = true) : placeS l s = k := by
  have : l.findIdx? (fun r => hasS r s) = some k := by
    rw [List.findIdx?_eq_some_iff_getElem]
    exact ⟨h, hk, fun j hj => by simpa using hn j hj⟩
  simp [placeS, this]
theorem placeS_none (l : List (List ByteArray)) (s : ByteArray) (hn : ∀ i (hi : i < l.length), hasS l[i] s = false) : placeS l s = -1 := by
  have : l.findIdx? (fun r => hasS r s) = none := by
    rw [List.findIdx?_eq_none_iff]
    intro x hx
    obtain ⟨i, hi, rfl⟩ := List.mem_iff_getElem.1 hx
    simpa using hn i hi
  simp [placeS, this]
/-- the first place at which two lists differ decides -/
def beforeB : List ByteArray → List ByteArray → Bool
  | a :: r, b :: l => if a = b then beforeB r l else sLt a b
  | _, _ => false
def edLess (a b : Ed) : Bool := if a.f = b.f then (if a.t = b.t then !a.n && b.n else sLt a.t b.t) else sLt a.f b.f

/-- an ascending list with one name more, if it is not there -/
def insS : List ByteArray → ByteArray → List ByteArray
  | [], s => [s]
  | x :: r, s => if sLt x s then x :: insS r s else if x = s then x :: r else s :: x :: r
/-- how many names at the head are below s -/
def belowS : List ByteArray → ByteArray → Nat
  | [], _ => 0
  | x :: r, s => if sLt x s then belowS r s + 1 else 0
theorem belowS_le : ∀ (l : List ByteArray) (s : ByteArray), belowS l s ≤ l.length
  | [], _ => Nat.le_refl _
  | x :: r, s => by unfold belowS; split; exact Nat.succ_le_succ (belowS_le r s); exact Nat.zero_le _
theorem belowS_lt : ∀ (l : List ByteArray) (s : ByteArray) (k : Nat) (h : k < l.length), k < belowS l s → sLt l[k] s = true
  | [], _, _, h, _ => absurd h (by simp)
  | x :: r, s, 0, _, hk => by unfold belowS at hk; split at hk; assumption; omega
  | x :: r, s, k + 1, h, hk => by
    unfold belowS at hk; split at hk
    · exact belowS_lt r s k (by simpa using h) (by omega)
    · omega
theorem belowS_at : ∀ (l : List ByteArray) (s : ByteArray) (h : belowS l s < l.length), sLt l[belowS l s] s = false
  | [], _, h => absurd h (by simp [belowS])
  | x :: r, s, h => by
    by_cases hx : sLt x s = true
    · have e : belowS (x :: r) s = belowS r s + 1 := by simp [belowS, hx]
      have h2 : belowS r s < r.length := by rw [e] at h; simpa using h
      have := belowS_at r s h2
      simp only [e, List.getElem_cons_succ]; exact this
    · have e : belowS (x :: r) s = 0 := by simp [belowS, hx]
      simp only [e, List.getElem_cons_zero]; simpa using hx
theorem insS_eq : ∀ (l : List ByteArray) (s : ByteArray), insS l s = if h : belowS l s < l.length then (if l[belowS l s] = s then l else l.take (belowS l s) ++ [s] ++ l.drop (belowS l s)) else l.take (belowS l s) ++ [s] ++ l.drop (belowS l s)
  | [], s => by simp [insS, belowS]
  | x :: r, s => by
    by_cases hx : sLt x s = true
    · have e : belowS (x :: r) s = belowS r s + 1 := by simp [belowS, hx]
      have ih := insS_eq r s
      simp only [insS, hx, if_true, ih, e, List.getElem_cons_succ, List.length_cons, Nat.add_lt_add_iff_right, List.take_succ_cons, List.drop_succ_cons]
      split
      · split <;> simp
      · simp
    · have e : belowS (x :: r) s = 0 := by simp [belowS, hx]
      simp [insS, hx, e]
theorem insS_length (l : List ByteArray) (s : ByteArray) : (insS l s).length ≤ l.length + 1 := by
  induction l with
  | nil => simp [insS]
  | cons x r ih => unfold insS; split; simpa using ih; split <;> simp
end Go.Proofs.YtlficnfkekggjaaGreatDoor
