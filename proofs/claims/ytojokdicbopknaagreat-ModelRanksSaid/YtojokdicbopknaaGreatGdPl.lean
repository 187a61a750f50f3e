
/-
  Ground rules and descriptions, how they lie in memory, and when they are valid, as plain functions. No program is in sight here.
  The edges, strata and ranks of a ground description, as plain functions. No program is in sight here.
  The ranks of a ground description: what they satisfy (given, supported, closed), and that this fixes which atoms hold. No program is in sight here.
  Derivations of ground atoms, as a plain function, and what they satisfy. No program is in sight here.
-/
import Derived.Test.YtojokdicbopknaaGreatChPlain
namespace Go.Proofs.YtojokdicbopknaaGreat

section
/-- a ground rule -/
structure Gr where
  h : Int
  ps : List Int
  ns : List Int
/-- a ground description -/
structure Gd where
  atoms : List Tm
  rules : List Gr
def GrR (p : Nat → Prop) (w : World) (x : Gr) (cs : List Value) : Prop := ∃ va vb, cs = [.int .i64 x.h, va, vb] ∧ SlI p w va x.ps ∧ SlI p w vb x.ns
def SlGr (p : Nat → Prop) (w : World) (v : Value) (xs : List Gr) : Prop := SlG (GrR p) 3 p w v xs
section
variable {p q : Nat → Prop} {w w' : World} {v : Value} {xs : List Gr} {S : List Nat} {a : Option Addr} {n c i : Nat}
theorem GrR.imp (hs : w.heap.size ≤ w'.heap.size) (hk : ∀ b, b < w.heap.size → p b → q b ∧ w'.heap[b]? = w.heap[b]?) {x : Gr} {cs : List Value} (h : GrR p w x cs) : GrR q w' x cs := by
  obtain ⟨va, vb, h1, h2, h3⟩ := h
  exact ⟨va, vb, h1, Sl.imp h2 hs hk, Sl.imp h3 hs hk⟩
theorem SlGr.imp (h : SlGr p w v xs) (hs : w.heap.size ≤ w'.heap.size) (hk : ∀ b, b < w.heap.size → p b → q b ∧ w'.heap[b]? = w.heap[b]?) : SlGr q w' v xs := SlG.imp h hs hk fun _ _ h => GrR.imp hs hk h
theorem SlGr.ch (h : SlGr p w v xs) (hc : Ch S w w') (hp : ∀ b, b < w.heap.size → p b → b ∉ S) : SlGr p w' v xs := h.imp hc.size fun b hb h1 => ⟨h1, hc.block b hb (hp b hb h1)⟩
theorem SlGr.ch0 (h : SlGr p w v xs) (hc : Ch [] w w') : SlGr p w' v xs := h.ch hc (by simp)
theorem SlGr.weak (h : SlGr p w v xs) (hk : ∀ b, b < w.heap.size → p b → q b) : SlGr q w v xs := h.imp (Nat.le_refl _) fun b hb hp => ⟨hk b hb hp, rfl⟩
theorem SlGr.form (h : SlGr p w v xs) : ∃ a c, v = .slice a xs.length c ∧ xs.length ≤ c ∧ c ≤ maxLen := SlG.form h
theorem SlGr.at_ (h : SlGr p w (.slice a n c) xs) (hi : i < xs.length) : ∃ b o a' c' a'' c'', a = some ⟨b, o, none⟩ ∧ (p b ∧ b < w.heap.size) ∧
    w.cell? ⟨b, o + i * 3, none⟩ = some (.int .i64 xs[i].h) ∧ w.cell? ⟨b, o + i * 3 + 1, none⟩ = some (.slice a' xs[i].ps.length c') ∧ w.cell? ⟨b, o + i * 3 + 2, none⟩ = some (.slice a'' xs[i].ns.length c'') ∧
    SlI p w (.slice a' xs[i].ps.length c') xs[i].ps ∧ SlI p w (.slice a'' xs[i].ns.length c'') xs[i].ns := by
  obtain ⟨b, o, cs, rfl, hp, hc, va, vb, e, h1, h2⟩ := SlG.at_ h hi
  obtain ⟨a', c', rfl, _⟩ := h1.form
  obtain ⟨a'', c'', rfl, _⟩ := h2.form
  rw [e] at hc
  exact ⟨b, o, a', c', a'', c'', rfl, hp, by simpa using hc 0 _ rfl, by simpa [Nat.add_assoc] using hc 1 _ rfl, by simpa [Nat.add_assoc] using hc 2 _ rfl, h1, h2⟩
end

/-! ### numbers -/
def numIn (N : Nat) (n : Int) : Bool := decide (0 ≤ n) && decide (n < N)
def numsIn (N : Nat) (l : List Int) : Bool := l.all (numIn N)
/-- each number is greater than the one ahead of it -/
def riseB : List Int → Bool
  | [] => true
  | [_] => true
  | a :: b :: l => decide (a < b) && riseB (b :: l)
theorem riseB_iff : ∀ l : List Int, riseB l = true ↔ ∀ i (h : i + 1 < l.length), l[i] < l[i + 1]
  | [] => by simp [riseB]
  | [x] => by simp [riseB]
  | a :: b :: l => by
    simp only [riseB, Bool.and_eq_true, decide_eq_true_eq, riseB_iff (b :: l)]
    constructor
    · rintro ⟨h1, h2⟩ i hi
      cases i with
      | zero => exact h1
      | succ i => exact h2 i (by simpa using hi)
    · intro h
      exact ⟨h 0 (by simp), fun i hi => h (i + 1) (by simpa using hi)⟩
theorem riseB_bad {l : List Int} {i : Nat} (hi : i < l.length) (h0 : 0 < i) (h : l[i] ≤ l[i - 1]) : riseB l = false := by
  cases hr : riseB l with
  | false => rfl
  | true =>
    have := (riseB_iff l).1 hr (i - 1) (by omega)
    simp only [Nat.sub_add_cancel h0] at this
    omega
theorem riseB_pairwise {l : List Int} (h : riseB l = true) : l.Pairwise (· < ·) := by
  rw [riseB_iff] at h
  rw [List.pairwise_iff_getElem]
  intro i j hi hj hij
  have : ∀ d, i + d + 1 < l.length → l[i]'hi < l[i + d + 1]! := by
    intro d
    induction d with
    | zero => intro hd; rw [getElem!_pos l (i + 0 + 1) hd]; exact h i hd
    | succ d ih =>
      intro hd
      have h1 := ih (by omega)
      have h2 := h (i + d + 1) (by omega)
      rw [getElem!_pos l (i + d + 1) (by omega)] at h1
      rw [getElem!_pos l (i + (d + 1) + 1) hd]
      simp only [← Nat.add_assoc] at h2 ⊢
      omega
  have h3 := this (j - i - 1) (by omega)
  have e : i + (j - i - 1) + 1 = j := by omega
  rw [getElem!_pos l _ (by omega)] at h3
  simp only [e] at h3
  exact h3
def ordI (a b : Int) : Int := if a < b then -1 else if b < a then 1 else 0
theorem ordI_cases (a b : Int) : (a < b ∧ ordI a b = -1) ∨ (a = b ∧ ordI a b = 0) ∨ (b < a ∧ ordI a b = 1) := by
  unfold ordI
  by_cases h : a < b
  · rw [if_pos h]; exact .inl ⟨h, rfl⟩
  · rw [if_neg h]
    by_cases h2 : b < a
    · rw [if_pos h2]; exact .inr (.inr ⟨h2, rfl⟩)
    · rw [if_neg h2]; exact .inr (.inl ⟨by omega, rfl⟩)
theorem ordI_zero {a b : Int} : ordI a b = 0 ↔ a = b := by have := ordI_cases a b; omega
theorem ordI_self (a : Int) : ordI a a = 0 := ordI_zero.2 rfl
/-- the order of two lists of numbers -/
def cmpIs : List Int → List Int → Int
  | [], [] => 0
  | [], _ :: _ => -1
  | _ :: _, [] => 1
  | a :: as, b :: bs => if ordI a b ≠ 0 then ordI a b else cmpIs as bs
/-- the same, as the reference counts: a difference -/
def difIs : List Int → List Int → Int
  | a :: as, b :: bs => if a ≠ b then a - b else difIs as bs
  | as, bs => (as.length : Int) - bs.length
theorem cmpIs_dif : ∀ a b : List Int, (cmpIs a b < 0 ↔ difIs a b < 0) ∧ (cmpIs a b = 0 ↔ difIs a b = 0)
  | [], [] => by simp [cmpIs, difIs]
  | [], y :: ys => by simp only [cmpIs, difIs, List.length_nil, List.length_cons]; constructor <;> constructor <;> intro h <;> omega
  | x :: xs, [] => by simp only [cmpIs, difIs, List.length_nil, List.length_cons]; constructor <;> constructor <;> intro h <;> omega
  | x :: xs, y :: ys => by
    simp only [cmpIs, difIs]
    by_cases h : x = y
    · subst h
      rw [if_neg (fun hn => hn (ordI_self _)), if_neg (fun hn => hn rfl)]
      exact cmpIs_dif xs ys
    · rw [if_pos (fun e => h (ordI_zero.1 e)), if_pos h]
      have := ordI_cases x y
      omega
theorem cmpIs_at : ∀ (xs ys : List Int) (k : Nat) (h1 : k < xs.length) (h2 : k < ys.length), (∀ j (hj : j < k), xs[j]'(by omega) = ys[j]'(by omega)) → xs[k] ≠ ys[k] → cmpIs xs ys = ordI xs[k] ys[k] ∧ difIs xs ys = xs[k] - ys[k]
  | [], _, _, h1, _, _, _ => by simp at h1
  | _ :: _, [], _, _, h2, _, _ => by simp at h2
  | x :: xs, y :: ys, 0, _, _, _, h => by
    simp only [List.getElem_cons_zero] at h ⊢
    simp only [cmpIs, difIs]
    rw [if_pos (fun e => h (ordI_zero.1 e)), if_pos h]; exact ⟨rfl, rfl⟩
  | x :: xs, y :: ys, k + 1, h1, h2, hn, h => by
    have h0 : x = y := hn 0 (by omega)
    subst h0
    simp only [cmpIs, difIs, List.getElem_cons_succ] at h ⊢
    rw [if_neg (fun hn => hn (ordI_self _)), if_neg (fun hn => hn rfl)]
    exact cmpIs_at xs ys k (by simpa using h1) (by simpa using h2) (fun j hj => by simpa using hn (j + 1) (by omega)) h
theorem cmpIs_end : ∀ (xs ys : List Int), (∀ j (h1 : j < xs.length) (h2 : j < ys.length), xs[j] = ys[j]) → cmpIs xs ys = ordI xs.length ys.length ∧ difIs xs ys = (xs.length : Int) - ys.length
  | [], [], _ => by simp [cmpIs, difIs, ordI]
  | [], y :: ys, _ => by
    have := ordI_cases 0 ((ys.length : Int) + 1)
    simp only [cmpIs, difIs, List.length_nil, List.length_cons, Int.natCast_add, Int.natCast_zero, Int.natCast_one]
    refine ⟨by omega, trivial⟩
  | x :: xs, [], _ => by
    have := ordI_cases ((xs.length : Int) + 1) 0
    simp only [cmpIs, difIs, List.length_nil, List.length_cons, Int.natCast_add, Int.natCast_zero, Int.natCast_one]
    refine ⟨by omega, trivial⟩
  | x :: xs, y :: ys, h => by
    have h0 : x = y := h 0 (by simp) (by simp)
    subst h0
    have := cmpIs_end xs ys (fun j h1 h2 => by have := h (j + 1) (by simpa using h1) (by simpa using h2); simpa only [List.getElem_cons_succ] using this)
    have h1 := ordI_cases (xs.length : Nat) (ys.length : Nat)
    have h2 := ordI_cases ((x :: xs).length : Nat) ((x :: ys).length : Nat)
    simp only [List.length_cons] at h2
    simp only [cmpIs, difIs, List.length_cons]
    rw [if_neg (fun hn => hn (ordI_self _)), if_neg (fun hn => hn rfl), this.1, this.2]
    omega
/-- the order of two ground rules -/
def cmpGr (a b : Gr) : Int := if ordI a.h b.h ≠ 0 then ordI a.h b.h else if cmpIs a.ps b.ps ≠ 0 then cmpIs a.ps b.ps else cmpIs a.ns b.ns
def difGr (a b : Gr) : Int := if a.h ≠ b.h then a.h - b.h else if difIs a.ps b.ps ≠ 0 then difIs a.ps b.ps else difIs a.ns b.ns
theorem cmpGr_dif (a b : Gr) : cmpGr a b < 0 ↔ difGr a b < 0 := by
  unfold cmpGr difGr
  have h1 := cmpIs_dif a.ps b.ps
  have h2 := cmpIs_dif a.ns b.ns
  by_cases h : a.h = b.h
  · have h0 : ¬ (ordI a.h b.h ≠ 0) := fun hn => hn (ordI_zero.2 h)
    have h0' : ¬ (a.h ≠ b.h) := fun hn => hn h
    rw [if_neg h0, if_neg h0']
    by_cases h3 : cmpIs a.ps b.ps = 0
    · have h4 : ¬ (cmpIs a.ps b.ps ≠ 0) := fun hn => hn h3
      have h5 : ¬ (difIs a.ps b.ps ≠ 0) := fun hn => hn (h1.2.1 h3)
      rw [if_neg h4, if_neg h5]; exact h2.1
    · rw [if_pos h3, if_pos (fun e => h3 (h1.2.2 e))]; exact h1.1
  · rw [if_pos (fun e => h (ordI_zero.1 e)), if_pos h]
    have := ordI_cases a.h b.h
    omega

/-! ### validity of ground rules -/
def grOk (N : Nat) (x : Gr) : Bool := numIn N x.h && (numsIn N x.ps && (numsIn N x.ns && (riseB x.ps && riseB x.ns)))
/-- all are well formed, in ascending order -/
def grsOk (N : Nat) : List Gr → Bool
  | [] => true
  | [x] => grOk N x
  | x :: y :: l => grOk N x && (decide (cmpGr x y < 0) && grsOk N (y :: l))
theorem grsOk_iff (N : Nat) : ∀ l : List Gr, grsOk N l = true ↔ (∀ i (h : i < l.length), grOk N l[i] = true) ∧ ∀ i (h : i + 1 < l.length), cmpGr l[i] l[i + 1] < 0
  | [] => by simp [grsOk]
  | [x] => by simp [grsOk]
  | x :: y :: l => by
    simp only [grsOk, Bool.and_eq_true, decide_eq_true_eq, grsOk_iff N (y :: l)]
    constructor
    · rintro ⟨h1, h2, h3, h4⟩
      refine ⟨fun i hi => ?_, fun i hi => ?_⟩
      · cases i with
        | zero => exact h1
        | succ i => exact h3 i (by simpa using hi)
      · cases i with
        | zero => exact h2
        | succ i => exact h4 i (by simpa using hi)
    · rintro ⟨h1, h2⟩
      exact ⟨h1 0 (by simp), h2 0 (by simp), fun i hi => h1 (i + 1) (by simpa using hi), fun i hi => h2 (i + 1) (by simpa using hi)⟩
theorem grsOk_bad {N : Nat} {l : List Gr} {i : Nat} (hi : i < l.length) (h : grOk N l[i] = false ∨ (0 < i ∧ ¬ cmpGr (l[i - 1]'(by omega)) l[i] < 0)) : grsOk N l = false := by
  cases hr : grsOk N l with
  | false => rfl
  | true =>
    rw [grsOk_iff] at hr
    rcases h with h | ⟨h0, h⟩
    · rw [hr.1 i hi] at h; cases h
    · have := hr.2 (i - 1) (by omega)
      simp only [Nat.sub_add_cancel h0] at this
      exact absurd this h
end

section
section
/-! ### edges -/
/-- the name of an atom by its number -/
def nmA (A : List Tm) (i : Int) : ByteArray := ((A[i.toNat]?).map Tm.name).getD ⟨#[]⟩
theorem nmA_at {A : List Tm} {k : Nat} (h : k < A.length) : nmA A (k : Int) = A[k].name := by simp [nmA, h]
theorem nmA_of {A : List Tm} {i : Int} (h : numIn A.length i = true) : ∃ k, ∃ hk : k < A.length, i = (k : Int) ∧ nmA A i = A[k].name := by
  simp only [numIn, Bool.and_eq_true, decide_eq_true_eq] at h
  have e : i = ((i.toNat : Nat) : Int) := by omega
  have hk : i.toNat < A.length := by omega
  exact ⟨i.toNat, hk, e, by have := nmA_at hk; rw [← e] at this; exact this⟩
def edsX (A : List Tm) (x : Gr) : List Ed := x.ps.map (fun n => ⟨nmA A x.h, nmA A n, false⟩) ++ x.ns.map (fun n => ⟨nmA A x.h, nmA A n, true⟩)
def addE (o : List Ed) (e : Ed) : List Ed := if e ∈ o then o else o ++ [e]
def gEds (A : List Tm) (rs : List Gr) : List Ed := (rs.flatMap (edsX A)).foldl addE []
theorem mem_addE : ∀ (l o : List Ed) (e : Ed), e ∈ l.foldl addE o ↔ e ∈ o ∨ e ∈ l
  | [], o, e => by simp
  | x :: l, o, e => by
    simp only [List.foldl_cons, mem_addE l, List.mem_cons]
    unfold addE
    split
    · rename_i h
      constructor
      · rintro (h1 | h1)
        · exact .inl h1
        · exact .inr (.inr h1)
      · rintro (h1 | rfl | h1)
        · exact .inl h1
        · exact .inl h
        · exact .inr h1
    · simp only [List.mem_append, List.mem_singleton]
      constructor
      · rintro ((h1 | h1) | h1)
        · exact .inl h1
        · exact .inr (.inl h1)
        · exact .inr (.inr h1)
      · rintro (h1 | h1 | h1)
        · exact .inl (.inl h1)
        · exact .inl (.inr h1)
        · exact .inr h1
theorem nodup_addE : ∀ (l o : List Ed), o.Nodup → (l.foldl addE o).Nodup
  | [], _, h => h
  | x :: l, o, h => by
    simp only [List.foldl_cons]
    refine nodup_addE l _ ?_
    unfold addE
    split
    · exact h
    · rename_i h1
      rw [List.nodup_append]
      exact ⟨h, by simp, fun a ha b hb e => by rw [List.mem_singleton] at hb; subst hb e; exact h1 ha⟩
theorem len_addE : ∀ (l o : List Ed), (l.foldl addE o).length ≤ o.length + l.length
  | [], o => by simp
  | x :: l, o => by
    simp only [List.foldl_cons, List.length_cons]
    have := len_addE l (addE o x)
    have h2 : (addE o x).length ≤ o.length + 1 := by unfold addE; split <;> simp
    omega
theorem mem_gEds {A : List Tm} {rs : List Gr} {e : Ed} : e ∈ gEds A rs ↔ ∃ x ∈ rs, e ∈ edsX A x := by
  unfold gEds; rw [mem_addE, List.mem_flatMap]; simp
theorem edsX_len (A : List Tm) (x : Gr) : (edsX A x).length = x.ps.length + x.ns.length := by simp [edsX]
theorem gEds_len (A : List Tm) (m : Nat) : ∀ rs : List Gr, (∀ x ∈ rs, x.ps.length + x.ns.length ≤ m) → (gEds A rs).length ≤ rs.length * m := by
  intro rs h
  have h1 := len_addE (rs.flatMap (edsX A)) []
  have h2 : ∀ rs : List Gr, (∀ x ∈ rs, x.ps.length + x.ns.length ≤ m) → (rs.flatMap (edsX A)).length ≤ rs.length * m := by
    intro rs
    induction rs with
    | nil => intro _; simp
    | cons x r ih =>
      intro h
      have h3 := h x (by simp)
      have h4 := ih (fun y hy => h y (by simp [hy]))
      simp only [List.flatMap_cons, List.length_append, edsX_len, List.length_cons, Nat.add_mul]
      omega
  have := h2 rs h
  unfold gEds
  simp only [List.length_nil] at h1
  omega
/-- the rule that stands for an edge -/
def ruE (e : Ed) : Ru := ⟨.mk e.f [], [⟨e.n, .mk e.t []⟩]⟩
theorem edgesOf_ruE {es : List Ed} (h : ∀ e ∈ es, e.f ≠ dis ∧ e.t ≠ dis) (e : Ed) : e ∈ edgesOf (es.map ruE) ↔ e ∈ es := by
  rw [mem_edgesOf]
  constructor
  · rintro ⟨r, hr, _, x, hx, _, rfl⟩
    obtain ⟨y, hy, rfl⟩ := List.mem_map.1 hr
    simp only [ruE, List.mem_singleton] at hx
    subst hx
    exact hy
  · intro he
    exact ⟨ruE e, List.mem_map.2 ⟨e, he, rfl⟩, (h e he).1, ⟨e.n, .mk e.t []⟩, by simp [ruE], (h e he).2, rfl⟩
theorem relsOf_ruE {es : List Ed} (h : ∀ e ∈ es, e.f ≠ dis ∧ e.t ≠ dis) (s : ByteArray) : s ∈ relsOf (es.map ruE) ↔ ∃ e ∈ es, s = e.f ∨ s = e.t := by
  rw [mem_relsOf]
  constructor
  · rintro ⟨_, r, hr, hs⟩
    obtain ⟨y, hy, rfl⟩ := List.mem_map.1 hr
    refine ⟨y, hy, ?_⟩
    rcases hs with hs | ⟨x, hx, hs⟩
    · exact .inl hs.symm
    · simp only [ruE, List.mem_singleton] at hx
      subst hx
      exact .inr hs.symm
  · rintro ⟨e, he, hs⟩
    refine ⟨?_, ruE e, List.mem_map.2 ⟨e, he, rfl⟩, ?_⟩
    · rcases hs with rfl | rfl
      · exact (h e he).1
      · exact (h e he).2
    · rcases hs with hs | hs
      · exact .inl hs.symm
      · exact .inr ⟨⟨e.n, .mk e.t []⟩, by simp [ruE], hs.symm⟩

/-! ### strata -/
open Classical in
/-- the least stratification, if there is one -/
noncomputable def leastF (es : List Ed) : Option LvF := if h : ∃ f, Strat es f ∧ Lower es f then some h.choose else none
theorem leastF_some {es : List Ed} {f : LvF} (h1 : Strat es f) (h2 : Lower es f) : leastF es = some f := by
  have h : ∃ f, Strat es f ∧ Lower es f := ⟨f, h1, h2⟩
  unfold leastF
  rw [dif_pos h, strat_unique h.choose_spec.1 h.choose_spec.2 h1 h2]
theorem leastF_none {es : List Ed} (h : ¬ ∃ g, Strat es g) : leastF es = none := by
  unfold leastF
  rw [dif_neg]
  rintro ⟨f, h1, _⟩
  exact h ⟨f, h1⟩
theorem leastF_is {es : List Ed} {f : LvF} (h : leastF es = some f) : Strat es f ∧ Lower es f := by
  unfold leastF at h
  split at h
  · rename_i h1
    injection h with h
    rw [← h]; exact h1.choose_spec
  · cases h
theorem Lower.sub {es fs : List Ed} {f : LvF} (h : Lower es f) (hs : ∀ e ∈ es, e ∈ fs) : Lower fs f := fun g hg s => h g (hg.sub hs) s
/-- the strata of the atoms, if there are any -/
noncomputable def stA (A : List Tm) (rs : List Gr) : Option (List Int) := (leastF (gEds A rs)).map fun f => A.map fun t => (f t.name : Int)
/-- what the levels of some names, which hold the ends of the edges, tell of the strata -/
theorem stA_of {A : List Tm} {rs : List Gr} {es : List Ed} {N : List ByteArray} {o : Option (List Lv)} (hes : ∀ e, e ∈ es ↔ e ∈ gEds A rs) (hE : Ends es N) (ho : LvAns es N o) :
    (o = none ∧ stA A rs = none) ∨ ∃ lv, o = some lv ∧ stA A rs = some (A.map fun t => max (ofL lv t.name) 0) := by
  rcases ho with ⟨f, h1, h2, rfl⟩ | ⟨h1, rfl⟩
  · right
    refine ⟨_, rfl, ?_⟩
    unfold stA
    rw [leastF_some (h1.sub (fun e he => (hes e).2 he)) (h2.sub (fun e he => (hes e).1 he))]
    simp only [Option.map_some, Option.some.injEq]
    apply List.map_congr_left
    intro t _
    rw [ofL_list]
    split
    · omega
    · rename_i hn
      have h3 : Strat es fun s => if s ∈ N then f s else 0 := fun e he => by
        have := hE e he
        simp only [if_pos this.1, if_pos this.2]
        exact h1 e he
      have h4 := h2 _ h3 t.name
      simp only [if_neg hn] at h4
      omega
  · left
    refine ⟨rfl, ?_⟩
    unfold stA
    rw [leastF_none (fun ⟨g, hg⟩ => h1 ⟨g, hg.sub (fun e he => (hes e).1 he)⟩)]
    rfl
theorem stA_len {A : List Tm} {rs : List Gr} {st : List Int} (h : stA A rs = some st) : st.length = A.length := by
  unfold stA at h
  cases hl : leastF (gEds A rs) with
  | none => rw [hl] at h; cases h
  | some f => rw [hl] at h; simp only [Option.map_some, Option.some.injEq] at h; rw [← h]; simp
/-- an entry of a list of numbers -/
def gI (l : List Int) (n : Int) : Int := (l[n.toNat]?).getD 0
theorem gI_at {l : List Int} {k : Nat} (h : k < l.length) : gI l (k : Int) = l[k] := by simp [gI, h]
theorem numIn_nat {N : Nat} {i : Int} (h : numIn N i = true) : ∃ k : Nat, k < N ∧ i = (k : Int) := by
  simp only [numIn, Bool.and_eq_true, decide_eq_true_eq] at h
  exact ⟨i.toNat, by omega, by omega⟩
/-- the strata satisfy the rules -/
theorem stA_ok {A : List Tm} {rs : List Gr} {st : List Int} (h : stA A rs = some st) (hr : ∀ x ∈ rs, grOk A.length x = true) :
    (∀ n ∈ st, 0 ≤ n) ∧ ∀ x ∈ rs, (∀ n ∈ x.ps, gI st n ≤ gI st x.h) ∧ ∀ n ∈ x.ns, gI st n < gI st x.h := by
  unfold stA at h
  cases hl : leastF (gEds A rs) with
  | none => rw [hl] at h; cases h
  | some f =>
    rw [hl] at h
    simp only [Option.map_some, Option.some.injEq] at h
    obtain ⟨h1, _⟩ := leastF_is hl
    have hg : ∀ i, numIn A.length i = true → gI st i = (f (nmA A i) : Int) := by
      intro i hi
      obtain ⟨k, hk, rfl, e⟩ := nmA_of hi
      rw [e, ← h, gI_at (by simpa using hk)]
      simp
    refine ⟨fun n hn => ?_, fun x hx => ?_⟩
    · rw [← h] at hn
      obtain ⟨t, _, rfl⟩ := List.mem_map.1 hn
      exact Int.natCast_nonneg _
    · have ho := hr x hx
      simp only [grOk, numsIn, Bool.and_eq_true, List.all_eq_true] at ho
      refine ⟨fun n hn => ?_, fun n hn => ?_⟩
      · have := h1 ⟨nmA A x.h, nmA A n, false⟩ (mem_gEds.2 ⟨x, hx, by simp only [edsX, List.mem_append, List.mem_map]; exact .inl ⟨n, hn, rfl⟩⟩)
        rw [hg n (ho.2.1 n hn), hg x.h ho.1]
        simp only [stepN] at this
        simp at this
        omega
      · have := h1 ⟨nmA A x.h, nmA A n, true⟩ (mem_gEds.2 ⟨x, hx, by simp only [edsX, List.mem_append, List.mem_map]; exact .inr ⟨n, hn, rfl⟩⟩)
        rw [hg n (ho.2.2.1 n hn), hg x.h ho.1]
        simp only [stepN] at this
        simp at this
        omega
end

section
/-! ### ranks -/
def posOk (st rk : List Int) (lv rd : Int) (n : Int) : Bool := decide (0 ≤ gI rk n) && (decide (gI st n < lv) || decide (gI rk n < rd))
/-- the body of a rule holds before a round of a stratum -/
def fireB (st rk : List Int) (lv rd : Int) (x : Gr) : Bool := x.ps.all (posOk st rk lv rd) && x.ns.all (fun n => decide (gI rk n < 0))
/-- the same, as the reference asks it -/
def posNo (st rk : List Int) (lv rd : Int) (n : Int) : Bool := decide (gI rk n < 0) || (decide (gI st n = lv) && decide (rd ≤ gI rk n))
def firR (st rk : List Int) (rd : Int) (x : Gr) : Bool := x.ps.all (fun n => !posNo st rk (gI st x.h) rd n) && x.ns.all (fun n => decide (gI rk n < 0))
theorem posOk_no {st rk : List Int} {lv rd n : Int} (h : gI st n ≤ lv) : (!posNo st rk lv rd n) = posOk st rk lv rd n := by
  unfold posOk posNo
  rw [Bool.eq_iff_iff]
  simp only [Bool.not_eq_true', Bool.or_eq_false_iff, decide_eq_false_iff_not, Bool.and_eq_true, Bool.or_eq_true, decide_eq_true_eq, Bool.and_eq_false_iff]
  omega
theorem all_congr_ {α : Type} {l : List α} {p q : α → Bool} (h : ∀ x ∈ l, p x = q x) : l.all p = l.all q := by
  induction l with
  | nil => rfl
  | cons a r ih => simp only [List.all_cons]; rw [h a (by simp), ih (fun x hx => h x (by simp [hx]))]
theorem firR_eq {st rk : List Int} {rd : Int} {x : Gr} (h : ∀ n ∈ x.ps, gI st n ≤ gI st x.h) : firR st rk rd x = fireB st rk (gI st x.h) rd x := by
  unfold firR fireB
  rw [all_congr_ (fun n hn => posOk_no (h n hn))]
def stepR (st : List Int) (lv rd : Int) (rk : List Int) (x : Gr) : List Int := if gI st x.h = lv ∧ gI rk x.h < 0 ∧ fireB st rk lv rd x = true then rk.set x.h.toNat rd else rk
/-- a round of a stratum -/
def passR (st : List Int) (lv rd : Int) (rs : List Gr) (rk : List Int) : List Int := rs.foldl (stepR st lv rd) rk
/-- the rounds of a stratum, till nothing changes -/
def loopR (st : List Int) (lv : Int) (rs : List Gr) : Nat → Int → List Int → List Int
  | 0, _, rk => rk
  | f + 1, rd, rk => if passR st lv rd rs rk = rk then rk else loopR st lv rs f (rd + 1) (passR st lv rd rs rk)
/-- how many atoms have no rank -/
def negs (rk : List Int) : Nat := rk.countP fun n => decide (n < 0)
theorem negs_le (rk : List Int) : negs rk ≤ rk.length := List.countP_le_length
theorem negs_set : ∀ (rk : List Int) (k : Nat) (n : Int), 0 ≤ n → k < rk.length → (rk[k]?).getD 0 < 0 → negs (rk.set k n) + 1 = negs rk
  | [], _, _, _, h, _ => by simp at h
  | a :: r, 0, n, hn, _, h => by
    simp only [List.getElem?_cons_zero, Option.getD_some] at h
    unfold negs
    rw [List.set_cons_zero, List.countP_cons_of_neg (by simp; omega), List.countP_cons_of_pos (by simpa using h)]
  | a :: r, k + 1, n, hn, hk, h => by
    have := negs_set r k n hn (by simpa using hk) (by simpa using h)
    unfold negs at this ⊢
    rw [List.set_cons_succ, List.countP_cons, List.countP_cons]
    omega
theorem stepR_len (st : List Int) (lv rd : Int) (rk : List Int) (x : Gr) : (stepR st lv rd rk x).length = rk.length := by unfold stepR; split <;> simp
theorem passR_len (st : List Int) (lv rd : Int) : ∀ (rs : List Gr) (rk : List Int), (passR st lv rd rs rk).length = rk.length
  | [], _ => rfl
  | x :: rs, rk => by
    have := passR_len st lv rd rs (stepR st lv rd rk x)
    rw [stepR_len] at this
    exact this
theorem loopR_len (st : List Int) (lv : Int) (rs : List Gr) : ∀ (f : Nat) (rd : Int) (rk : List Int), (loopR st lv rs f rd rk).length = rk.length
  | 0, _, _ => rfl
  | f + 1, rd, rk => by
    unfold loopR
    split
    · rfl
    · rw [loopR_len st lv rs f, passR_len]
theorem stepR_negs {st : List Int} {lv rd : Int} {rk : List Int} {x : Gr} (hrd : 0 ≤ rd) (hx : numIn rk.length x.h = true) : stepR st lv rd rk x = rk ∨ negs (stepR st lv rd rk x) < negs rk := by
  unfold stepR
  split
  · rename_i h
    right
    obtain ⟨k, hk, e⟩ := numIn_nat hx
    have h2 := h.2.1
    rw [e] at h2 ⊢
    have := negs_set rk k rd hrd hk (by simpa [gI] using h2)
    simp only [Int.toNat_natCast]
    omega
  · exact .inl rfl
theorem passR_negs {st : List Int} {lv rd : Int} (hrd : 0 ≤ rd) : ∀ (rs : List Gr) (rk : List Int), (∀ x ∈ rs, numIn rk.length x.h = true) → passR st lv rd rs rk = rk ∨ negs (passR st lv rd rs rk) < negs rk
  | [], _, _ => .inl rfl
  | x :: rs, rk, h => by
    have h1 := stepR_negs (st := st) (lv := lv) hrd (h x (by simp))
    have h2 := passR_negs (st := st) (lv := lv) hrd rs (stepR st lv rd rk x) (fun y hy => by rw [stepR_len]; exact h y (by simp [hy]))
    show passR st lv rd rs (stepR st lv rd rk x) = rk ∨ negs (passR st lv rd rs (stepR st lv rd rk x)) < negs rk
    rcases h1 with h1 | h1
    · rw [h1] at h2 ⊢; exact h2
    · right
      rcases h2 with h2 | h2
      · rw [h2]; exact h1
      · omega
/-- the fuel doesn't matter, if it suffices -/
theorem loopR_fuel {st : List Int} {lv : Int} {rs : List Gr} : ∀ (f g : Nat) (rd : Int) (rk : List Int), 0 ≤ rd → (∀ x ∈ rs, numIn rk.length x.h = true) → negs rk < f → negs rk < g → loopR st lv rs f rd rk = loopR st lv rs g rd rk
  | 0, _, _, _, _, _, h, _ => by omega
  | _, 0, _, _, _, _, _, h => by omega
  | f + 1, g + 1, rd, rk, hrd, hx, h1, h2 => by
    unfold loopR
    split
    · rfl
    · rename_i hne
      have hn := (passR_negs (st := st) (lv := lv) hrd rs rk hx).resolve_left hne
      exact loopR_fuel f g (rd + 1) _ (by omega) (fun x hx' => by rw [passR_len]; exact hx x hx') (by omega) (by omega)
theorem passR_filter (st : List Int) (lv rd : Int) : ∀ (rs : List Gr) (rk : List Int), passR st lv rd (rs.filter fun x => decide (gI st x.h = lv)) rk = passR st lv rd rs rk
  | [], _ => rfl
  | x :: rs, rk => by
    simp only [List.filter_cons]
    by_cases h : gI st x.h = lv
    · rw [if_pos (by simpa using h)]
      exact passR_filter st lv rd rs (stepR st lv rd rk x)
    · rw [if_neg (by simpa using h)]
      have : stepR st lv rd rk x = rk := by unfold stepR; rw [if_neg (fun h1 => h h1.1)]
      show _ = passR st lv rd rs (stepR st lv rd rk x)
      rw [this]
      exact passR_filter st lv rd rs rk
theorem loopR_filter (st : List Int) (lv : Int) (rs : List Gr) : ∀ (f : Nat) (rd : Int) (rk : List Int), loopR st lv (rs.filter fun x => decide (gI st x.h = lv)) f rd rk = loopR st lv rs f rd rk
  | 0, _, _ => rfl
  | f + 1, rd, rk => by
    unfold loopR
    rw [passR_filter, loopR_filter st lv rs f]
theorem passR_snoc (st : List Int) (lv rd : Int) (rs : List Gr) (rk : List Int) (k : Nat) (h : k < rs.length) : passR st lv rd (rs.take (k + 1)) rk = stepR st lv rd (passR st lv rd (rs.take k) rk) rs[k] := by
  simp only [passR, take_snoc rs k h, List.foldl_append, List.foldl_cons, List.foldl_nil]
/-- the strata below n, one behind the other -/
def levR (st : List Int) (rs : List Gr) (f : Nat) (rk : List Int) : Nat → List Int
  | 0 => rk
  | n + 1 => loopR st (n : Int) rs f 1 (levR st rs f rk n)
theorem levR_len (st : List Int) (rs : List Gr) (f : Nat) (rk : List Int) : ∀ n, (levR st rs f rk n).length = rk.length
  | 0 => rfl
  | n + 1 => by unfold levR; rw [loopR_len, levR_len st rs f rk n]
def topS (st : List Int) : Int := st.foldl max 0
/-- the facts have the rank 0 -/
def rk0 (N : Nat) (facts : List Int) : List Int := facts.foldl (fun r n => r.set n.toNat 0) (List.replicate N (-1))
theorem rk0_len (N : Nat) (facts : List Int) : (rk0 N facts).length = N := by
  unfold rk0
  have : ∀ (l r : List Int), (l.foldl (fun r n => r.set n.toNat 0) r).length = r.length := by
    intro l
    induction l with
    | nil => intro r; rfl
    | cons x l ih => intro r; simp only [List.foldl_cons]; rw [ih]; simp
  rw [this]; simp
theorem rk0_snoc (N : Nat) (facts : List Int) (k : Nat) (h : k < facts.length) : rk0 N (facts.take (k + 1)) = (rk0 N (facts.take k)).set facts[k].toNat 0 := by
  simp only [rk0, take_snoc facts k h, List.foldl_append, List.foldl_cons, List.foldl_nil]
/-- the ranks of the atoms -/
def ranksR (st : List Int) (rs : List Gr) (N : Nat) (facts : List Int) : List Int := levR st rs (N + 1) (rk0 N facts) (topS st + 1).toNat
theorem ranksR_len (st : List Int) (rs : List Gr) (N : Nat) (facts : List Int) : (ranksR st rs N facts).length = N := by unfold ranksR; rw [levR_len, rk0_len]
end
end

section
section
/-- the body of a rule holds -/
def bodyH (rk : List Int) (x : Gr) : Bool := x.ps.all (fun n => decide (0 ≤ gI rk n)) && x.ns.all (fun n => decide (gI rk n < 0))
/-- the rules fit the strata -/
structure RsOk (N : Nat) (st : List Int) (rs : List Gr) : Prop where
  ok : ∀ x ∈ rs, grOk N x = true
  pos : ∀ x ∈ rs, ∀ n ∈ x.ps, gI st n ≤ gI st x.h
  neg : ∀ x ∈ rs, ∀ n ∈ x.ns, gI st n < gI st x.h
section
variable {N : Nat} {st : List Int} {rs : List Gr}
theorem grOk_h {x : Gr} (h : grOk N x = true) : numIn N x.h = true := by simp only [grOk, Bool.and_eq_true] at h; exact h.1
theorem grOk_p {x : Gr} (h : grOk N x = true) : ∀ n ∈ x.ps, numIn N n = true := by
  simp only [grOk, numsIn, Bool.and_eq_true, List.all_eq_true] at h; exact h.2.1
theorem grOk_n {x : Gr} (h : grOk N x = true) : ∀ n ∈ x.ns, numIn N n = true := by
  simp only [grOk, numsIn, Bool.and_eq_true, List.all_eq_true] at h; exact h.2.2.1
theorem bodyH_iff {rk : List Int} {x : Gr} : bodyH rk x = true ↔ (∀ n ∈ x.ps, 0 ≤ gI rk n) ∧ ∀ n ∈ x.ns, gI rk n < 0 := by
  simp [bodyH, List.all_eq_true]
theorem fireB_iff {rk : List Int} {lv rd : Int} {x : Gr} : fireB st rk lv rd x = true ↔ (∀ n ∈ x.ps, 0 ≤ gI rk n ∧ (gI st n < lv ∨ gI rk n < rd)) ∧ ∀ n ∈ x.ns, gI rk n < 0 := by
  simp [fireB, posOk, List.all_eq_true]
theorem fireB_body {rk : List Int} {lv rd : Int} {x : Gr} (h : fireB st rk lv rd x = true) : bodyH rk x = true := by
  rw [fireB_iff] at h; rw [bodyH_iff]; exact ⟨fun n hn => (h.1 n hn).1, h.2⟩
theorem gI_set {l : List Int} {n m v : Int} (hn : numIn N n = true) (hm : numIn N m = true) (hl : l.length = N) : gI (l.set m.toNat v) n = if n = m then v else gI l n := by
  obtain ⟨a, ha, rfl⟩ := numIn_nat hn
  obtain ⟨b, hb, rfl⟩ := numIn_nat hm
  unfold gI
  simp only [Int.toNat_natCast]
  rw [List.getElem?_set]
  by_cases h : b = a
  · subst h
    rw [if_pos rfl, if_pos rfl, if_pos (by omega)]; rfl
  · rw [if_neg h, if_neg (by omega)]
/-- the state of the ranks in a stratum, ahead of a round -/
structure StR (N : Nat) (st : List Int) (rs : List Gr) (F : List Int) (lv rd : Int) (rk : List Int) : Prop where
  len : rk.length = N
  fact : ∀ n, numIn N n = true → (gI rk n = 0 ↔ n ∈ F)
  hi : ∀ n, numIn N n = true → lv < gI st n → gI rk n ≤ 0
  cur : ∀ n, numIn N n = true → gI st n = lv → gI rk n < rd
  sup : ∀ n, numIn N n = true → 0 < gI rk n → ∃ x ∈ rs, x.h = n ∧ fireB st rk (gI st n) (gI rk n) x = true
  clo : ∀ x ∈ rs, gI st x.h < lv → bodyH rk x = true → 0 ≤ gI rk x.h
variable {F : List Int} {lv rd : Int} {rk : List Int}
theorem StR.rise (h : StR N st rs F lv rd rk) : StR N st rs F lv (rd + 1) rk := ⟨h.len, h.fact, h.hi, fun n hn e => by have := h.cur n hn e; omega, h.sup, h.clo⟩
theorem StR.step (hR : RsOk N st rs) (h : StR N st rs F lv (rd + 1) rk) (hrd : 1 ≤ rd) {x : Gr} (hx : x ∈ rs) : StR N st rs F lv (rd + 1) (stepR st lv rd rk x) := by
  unfold stepR
  split
  · rename_i hc
    obtain ⟨h1, h2, h3⟩ := hc
    have hox := hR.ok x hx
    have hg := fun n (hn : numIn N n = true) => gI_set (v := rd) hn (grOk_h hox) h.len
    have hf := fireB_iff.1 h3
    have hlow : ∀ n, numIn N n = true → gI st n < lv → gI (rk.set x.h.toNat rd) n = gI rk n := fun n hn hl => by
      rw [hg n hn, if_neg (fun e => by subst e; omega)]
    have hpos : ∀ n, numIn N n = true → 0 ≤ gI rk n → gI (rk.set x.h.toNat rd) n = gI rk n := fun n hn hl => by
      rw [hg n hn, if_neg (fun e => by subst e; omega)]
    refine ⟨by rw [List.length_set]; exact h.len, fun n hn => ?_, fun n hn hl => ?_, fun n hn he => ?_, fun n hn h0 => ?_, fun y hy hl hb => ?_⟩
    · rw [hg n hn]
      split
      · rename_i e
        subst e
        constructor
        · intro h4; omega
        · intro h4
          have := (h.fact _ hn).2 h4
          omega
      · exact h.fact n hn
    · rw [hg n hn, if_neg (fun e => by subst e; omega)]
      exact h.hi n hn hl
    · rw [hg n hn]
      split
      · omega
      · exact h.cur n hn he
    · by_cases e : n = x.h
      · subst e
        refine ⟨x, hx, rfl, ?_⟩
        have e1 : gI (rk.set x.h.toNat rd) x.h = rd := by rw [hg _ hn, if_pos rfl]
        rw [e1, h1, fireB_iff]
        refine ⟨fun p hp => ?_, fun p hp => ?_⟩
        · have h4 := hf.1 p hp
          rw [hpos p (grOk_p hox p hp) h4.1]; exact h4
        · have h4 := hR.neg x hx p hp
          rw [hlow p (grOk_n hox p hp) (by omega)]; exact hf.2 p hp
      · have e1 : gI (rk.set x.h.toNat rd) n = gI rk n := by rw [hg _ hn, if_neg e]
        rw [e1] at h0 ⊢
        obtain ⟨y, hy, hyn, hfy⟩ := h.sup n hn h0
        have hst : gI st n ≤ lv := Int.not_lt.1 fun h4 => by have := h.hi n hn h4; omega
        refine ⟨y, hy, hyn, ?_⟩
        rw [fireB_iff] at hfy ⊢
        refine ⟨fun p hp => ?_, fun p hp => ?_⟩
        · have h4 := hfy.1 p hp
          rw [hpos p (grOk_p (hR.ok y hy) p hp) h4.1]; exact h4
        · have h4 := hR.neg y hy p hp
          rw [hyn] at h4
          rw [hlow p (grOk_n (hR.ok y hy) p hp) (by omega)]; exact hfy.2 p hp
    · have hoy := hR.ok y hy
      rw [hlow y.h (grOk_h hoy) hl]
      refine h.clo y hy hl ?_
      rw [bodyH_iff] at hb ⊢
      refine ⟨fun p hp => ?_, fun p hp => ?_⟩
      · have h4 := hR.pos y hy p hp
        have h5 := hb.1 p hp
        rw [hlow p (grOk_p hoy p hp) (by omega)] at h5; exact h5
      · have h4 := hR.neg y hy p hp
        have h5 := hb.2 p hp
        rw [hlow p (grOk_n hoy p hp) (by omega)] at h5; exact h5
  · exact h
theorem StR.pass (hR : RsOk N st rs) (hrd : 1 ≤ rd) : ∀ (ys : List Gr) (rk : List Int), (∀ y ∈ ys, y ∈ rs) → StR N st rs F lv (rd + 1) rk → StR N st rs F lv (rd + 1) (passR st lv rd ys rk)
  | [], _, _, h => h
  | y :: ys, rk, hs, h => StR.pass hR hrd ys (stepR st lv rd rk y) (fun z hz => hs z (by simp [hz])) (h.step hR hrd (hs y (by simp)))
/-- a round that changes nothing -/
theorem passR_still (hrd : 1 ≤ rd) : ∀ (ys : List Gr) (rk : List Int), rk.length = N → (∀ y ∈ ys, grOk N y = true) → passR st lv rd ys rk = rk → ∀ y ∈ ys, ¬ (gI st y.h = lv ∧ gI rk y.h < 0 ∧ fireB st rk lv rd y = true)
  | [], _, _, _, _ => by simp
  | y :: ys, rk, hl, ho, h => by
    have hy := grOk_h (ho y (by simp))
    have h1 := stepR_negs (st := st) (lv := lv) (rd := rd) (by omega) (show numIn rk.length y.h = true by rw [hl]; exact hy)
    have h2 := passR_negs (st := st) (lv := lv) (rd := rd) (by omega) ys (stepR st lv rd rk y) (fun z hz => by rw [stepR_len, hl]; exact grOk_h (ho z (by simp [hz])))
    have h3 : passR st lv rd ys (stepR st lv rd rk y) = rk := h
    have h4 : stepR st lv rd rk y = rk := by
      rcases h1 with h1 | h1
      · exact h1
      · exfalso
        rcases h2 with h2 | h2
        · rw [h2] at h3; rw [h3] at h1; omega
        · rw [h3] at h2; omega
    rw [h4] at h3
    have ih := passR_still hrd ys rk hl (fun z hz => ho z (by simp [hz])) h3
    intro z hz
    rcases List.mem_cons.1 hz with rfl | hz
    · intro hc
      unfold stepR at h4
      rw [if_pos hc] at h4
      have h5 := gI_set (v := rd) hy hy hl
      rw [h4, if_pos rfl] at h5
      omega
    · exact ih z hz
theorem StR.loop (hR : RsOk N st rs) : ∀ (f : Nat) (rd : Int) (rk : List Int), 1 ≤ rd → negs rk < f → StR N st rs F lv rd rk → StR N st rs F (lv + 1) 1 (loopR st lv rs f rd rk)
  | 0, _, _, _, h, _ => by omega
  | f + 1, rd, rk, hrd, hf, h => by
    unfold loopR
    split
    · rename_i hp
      have hno := passR_still hrd rs rk h.len hR.ok hp
      refine ⟨h.len, h.fact, fun n hn hl => h.hi n hn (by omega), fun n hn e => by have := h.hi n hn (by omega); omega, h.sup, fun x hx hl hb => ?_⟩
      by_cases e : gI st x.h < lv
      · exact h.clo x hx e hb
      · have e1 : gI st x.h = lv := by omega
        refine Int.not_lt.1 fun h0 => hno x hx ⟨e1, h0, ?_⟩
        rw [bodyH_iff] at hb
        rw [fireB_iff]
        refine ⟨fun p hp => ⟨hb.1 p hp, ?_⟩, hb.2⟩
        have h4 := hR.pos x hx p hp
        by_cases e2 : gI st p < lv
        · exact .inl e2
        · exact .inr (h.cur p (grOk_p (hR.ok x hx) p hp) (by omega))
    · rename_i hp
      have hn := (passR_negs (st := st) (lv := lv) (by omega) rs rk (fun x hx => by rw [h.len]; exact grOk_h (hR.ok x hx))).resolve_left hp
      exact StR.loop hR f (rd + 1) _ (by omega) (by omega) (h.rise.pass hR hrd rs rk (fun _ h => h))
theorem StR.lev (hR : RsOk N st rs) {f : Nat} (hf : N < f) (h : StR N st rs F 0 1 rk) : ∀ n : Nat, StR N st rs F (n : Int) 1 (levR st rs f rk n)
  | 0 => h
  | n + 1 => by
    have ih := StR.lev hR hf h n
    have := StR.loop hR f 1 _ (by omega) (by have := negs_le (levR st rs f rk n); have := ih.len; omega) ih
    unfold levR
    exact this
theorem rk0_get (N : Nat) : ∀ (F : List Int), numsIn N F = true → ∀ n, numIn N n = true → gI (rk0 N F) n = if n ∈ F then 0 else -1 := by
  have key : ∀ (F r : List Int), r.length = N → numsIn N F = true → ∀ n, numIn N n = true → gI (F.foldl (fun r n => r.set n.toNat 0) r) n = if n ∈ F then 0 else gI r n := by
    intro F
    induction F with
    | nil => intro r _ _ n _; simp
    | cons x F ih =>
      intro r hr hF n hn
      simp only [numsIn, List.all_cons, Bool.and_eq_true] at hF
      simp only [List.foldl_cons]
      rw [ih (r.set x.toNat 0) (by rw [List.length_set]; exact hr) hF.2 n hn, gI_set hn hF.1 hr]
      by_cases h1 : n ∈ F
      · rw [if_pos h1, if_pos (by simp [h1])]
      · rw [if_neg h1]
        by_cases h2 : n = x
        · rw [if_pos h2, if_pos (by simp [h2])]
        · rw [if_neg h2, if_neg (by simp [h1, h2])]
  intro F hF n hn
  unfold rk0
  rw [key F _ (by simp) hF n hn]
  obtain ⟨k, hk, rfl⟩ := numIn_nat hn
  have : gI (List.replicate N (-1)) (k : Int) = -1 := by
    rw [gI_at (by simpa using hk)]; simp
  rw [this]
theorem topS_ge (st : List Int) : ∀ n ∈ st, n ≤ topS st := by
  have key : ∀ (l : List Int) (a : Int), a ≤ l.foldl max a ∧ ∀ n ∈ l, n ≤ l.foldl max a := by
    intro l
    induction l with
    | nil => intro a; simp
    | cons x l ih =>
      intro a
      simp only [List.foldl_cons]
      have := ih (max a x)
      refine ⟨by have := this.1; omega, fun n hn => ?_⟩
      rcases List.mem_cons.1 hn with rfl | hn
      · have := this.1; omega
      · exact this.2 n hn
  exact (key st 0).2
theorem topS_0 (st : List Int) : 0 ≤ topS st := by
  have key : ∀ (l : List Int) (a : Int), a ≤ l.foldl max a := by
    intro l
    induction l with
    | nil => intro a; simp
    | cons x l ih => intro a; simp only [List.foldl_cons]; have := ih (max a x); omega
  exact key st 0
/-- what the ranks satisfy -/
structure RkOk (N : Nat) (st : List Int) (rs : List Gr) (F : List Int) (rk : List Int) : Prop where
  len : rk.length = N
  fact : ∀ n, numIn N n = true → (gI rk n = 0 ↔ n ∈ F)
  sup : ∀ n, numIn N n = true → 0 < gI rk n → ∃ x ∈ rs, x.h = n ∧ fireB st rk (gI st n) (gI rk n) x = true
  clo : ∀ x ∈ rs, bodyH rk x = true → 0 ≤ gI rk x.h
theorem ranksR_ok (hR : RsOk N st rs) (hst : st.length = N) (h0 : ∀ n ∈ st, 0 ≤ n) (hF : numsIn N F = true) : RkOk N st rs F (ranksR st rs N F) := by
  have hg : ∀ n, numIn N n = true → gI st n ∈ st := fun n hn => by
    obtain ⟨k, hk, rfl⟩ := numIn_nat hn
    rw [gI_at (by omega)]
    exact List.getElem_mem _
  have h1 : StR N st rs F 0 1 (rk0 N F) := by
    refine ⟨rk0_len N F, fun n hn => ?_, fun n hn _ => ?_, fun n hn _ => ?_, fun n hn h2 => ?_, fun x hx h2 => ?_⟩
    · rw [rk0_get N F hF n hn]; split <;> simp_all
    · rw [rk0_get N F hF n hn]; split <;> omega
    · rw [rk0_get N F hF n hn]; split <;> omega
    · rw [rk0_get N F hF n hn] at h2; split at h2 <;> omega
    · have := h0 _ (hg _ (grOk_h (hR.ok x hx))); omega
  have h2 := h1.lev hR (f := N + 1) (by omega) (topS st + 1).toNat
  have h3 := topS_0 st
  have h4 : (((topS st + 1).toNat : Nat) : Int) = topS st + 1 := by omega
  rw [h4] at h2
  refine ⟨h2.len, h2.fact, h2.sup, fun x hx hb => h2.clo x hx ?_ hb⟩
  have := topS_ge st _ (hg _ (grOk_h (hR.ok x hx)))
  omega
/-- what holds with more facts, if no negation is in the way -/
theorem RkOk.sub {F' rk' : List Int} (hR : RsOk N st rs) (h : RkOk N st rs F rk) (h' : RkOk N st rs F' rk') (hF : ∀ n ∈ F, numIn N n = true → 0 ≤ gI rk' n) (s : Int)
    (hneg : ∀ x ∈ rs, gI st x.h = s → ∀ n ∈ x.ns, gI rk n < 0 → gI rk' n < 0) (hlow : ∀ n, numIn N n = true → gI st n < s → 0 ≤ gI rk n → 0 ≤ gI rk' n) :
    ∀ (r : Nat) (n : Int), numIn N n = true → gI st n = s → gI rk n = (r : Int) → 0 ≤ gI rk' n := by
  intro r
  induction r using Nat.strongRecOn with
  | _ r ih =>
    intro n hn hs hr
    by_cases h0 : r = 0
    · exact hF n ((h.fact n hn).1 (by omega)) hn
    · obtain ⟨x, hx, hxn, hf⟩ := h.sup n hn (by omega)
      rw [fireB_iff] at hf
      subst hxn
      refine h'.clo x hx (bodyH_iff.2 ⟨fun p hp => ?_, fun p hp => hneg x hx hs p hp (hf.2 p hp)⟩)
      have hpn := grOk_p (hR.ok x hx) p hp
      have h1 := hf.1 p hp
      have h2 := hR.pos x hx p hp
      by_cases h3 : gI st p < s
      · exact hlow p hpn h3 h1.1
      · exact ih (gI rk p).toNat (by omega) p hpn (by omega) (by omega)
theorem RkOk.same {F' rk' : List Int} (hR : RsOk N st rs) (h : RkOk N st rs F rk) (h' : RkOk N st rs F' rk') (hF : ∀ n ∈ F, numIn N n = true → 0 ≤ gI rk' n) (hF' : ∀ n ∈ F', numIn N n = true → 0 ≤ gI rk n) (h0 : ∀ n, numIn N n = true → 0 ≤ gI st n) :
    ∀ n, numIn N n = true → (0 ≤ gI rk n ↔ 0 ≤ gI rk' n) := by
  have key : ∀ (s : Nat) (n : Int), numIn N n = true → gI st n = (s : Int) → (0 ≤ gI rk n ↔ 0 ≤ gI rk' n) := by
    intro s
    induction s using Nat.strongRecOn with
    | _ s ih =>
      have hlow : ∀ n, numIn N n = true → gI st n < (s : Int) → (0 ≤ gI rk n ↔ 0 ≤ gI rk' n) := fun n hn hl => by
        have := h0 n hn
        exact ih (gI st n).toNat (by omega) n hn (by omega)
      intro n hn hs
      constructor
      · intro h1
        exact h.sub hR h' hF s (fun x hx hxs m hm h2 => by
          have h3 := hR.neg x hx m hm
          have h4 := hlow m (grOk_n (hR.ok x hx) m hm) (by omega)
          omega) (fun m hm hl => (hlow m hm hl).1) (gI rk n).toNat n hn hs (by omega)
      · intro h1
        exact h'.sub hR h hF' s (fun x hx hxs m hm h2 => by
          have h3 := hR.neg x hx m hm
          have h4 := hlow m (grOk_n (hR.ok x hx) m hm) (by omega)
          omega) (fun m hm hl => (hlow m hm hl).2) (gI rk' n).toNat n hn hs (by omega)
  intro n hn
  have := h0 n hn
  exact key (gI st n).toNat n hn (by omega)
theorem RkOk.more {F' rk' : List Int} (hR : RsOk N st rs) (h : RkOk N st rs F rk) (h' : RkOk N st rs F' rk') (hF : ∀ n ∈ F, n ∈ F') (hp : ∀ x ∈ rs, x.ns = []) (h0 : ∀ n, numIn N n = true → 0 ≤ gI st n) :
    ∀ n, numIn N n = true → 0 ≤ gI rk n → 0 ≤ gI rk' n := by
  have hF1 : ∀ n ∈ F, numIn N n = true → 0 ≤ gI rk' n := fun n hn hi => by have := (h'.fact n hi).2 (hF n hn); omega
  have key : ∀ (s : Nat) (n : Int), numIn N n = true → gI st n = (s : Int) → 0 ≤ gI rk n → 0 ≤ gI rk' n := by
    intro s
    induction s using Nat.strongRecOn with
    | _ s ih =>
      intro n hn hs h1
      exact h.sub hR h' hF1 s (fun x hx _ m hm _ => by rw [hp x hx] at hm; cases hm) (fun m hm hl => by
        have := h0 m hm
        exact ih (gI st m).toNat (by omega) m hm (by omega)) (gI rk n).toNat n hn hs (by omega)
  intro n hn
  have := h0 n hn
  exact key (gI st n).toNat n hn (by omega)
end
end
end

section
section
variable (st rk : List Int) (rs : List Gr)
/-- the first rule that gives an atom its rank -/
def whyI (n : Int) : Option Nat := if 0 < gI rk n then rs.findIdx? (fun x => decide (x.h = n) && fireB st rk (gI st n) (gI rk n) x) else none
def psOf (i : Nat) : List Int := ((rs[i]?).map Gr.ps).getD []
def hdOf (i : Int) : Int := ((rs[i.toNat]?).map Gr.h).getD 0
/-- the rules of a derivation -/
def derO : Nat → Int → List Int → List Int
  | 0, _, out => out
  | f + 1, n, out => match whyI st rk rs n with
    | none => out
    | some i => if (i : Int) ∈ out then out else ((psOf rs i).foldl (fun o p => derO f p o) out) ++ [(i : Int)]
/-- the derivation goes so deep at most -/
def Deep : Nat → Int → Prop
  | 0, n => whyI st rk rs n = none
  | f + 1, n => ∀ i, whyI st rk rs n = some i → ∀ p ∈ psOf rs i, Deep f p
end
section
variable {st rk : List Int} {rs : List Gr} {N : Nat} {F : List Int}
theorem whyI_some {n : Int} {i : Nat} (h : whyI st rk rs n = some i) : 0 < gI rk n ∧ ∃ hi : i < rs.length, rs[i].h = n ∧ fireB st rk (gI st n) (gI rk n) rs[i] = true ∧ psOf rs i = rs[i].ps ∧ hdOf rs (i : Int) = n := by
  unfold whyI at h
  split at h
  · rename_i h0
    refine ⟨h0, ?_⟩
    rw [List.findIdx?_eq_some_iff_getElem] at h
    obtain ⟨hi, h1, _⟩ := h
    simp only [Bool.and_eq_true, decide_eq_true_eq] at h1
    exact ⟨hi, h1.1, h1.2, by simp [psOf, hi], by simp [hdOf, hi, h1.1]⟩
  · cases h
theorem whyI_at {n : Int} {i : Nat} (h0 : 0 < gI rk n) (hi : i < rs.length) (h1 : rs[i].h = n) (h2 : fireB st rk (gI st n) (gI rk n) rs[i] = true)
    (hn : ∀ j (hj : j < i), (decide ((rs[j]'(by omega)).h = n) && fireB st rk (gI st n) (gI rk n) (rs[j]'(by omega))) = false) : whyI st rk rs n = some i := by
  unfold whyI
  rw [if_pos h0, List.findIdx?_eq_some_iff_getElem]
  exact ⟨hi, by rw [h2]; simp [h1], fun j hj => by rw [hn j hj]; simp⟩
theorem whyI_no {n : Int} (hn : ∀ j (hj : j < rs.length), (decide (rs[j].h = n) && fireB st rk (gI st n) (gI rk n) rs[j]) = false) : whyI st rk rs n = none := by
  unfold whyI
  split
  · rw [List.findIdx?_eq_none_iff]
    intro x hx
    obtain ⟨j, hj, rfl⟩ := List.getElem_of_mem hx
    exact hn j hj
  · rfl
theorem whyI_zero {n : Int} (h : gI rk n ≤ 0) : whyI st rk rs n = none := by unfold whyI; rw [if_neg (by omega)]
theorem whyI_pos (h : RkOk N st rs F rk) {n : Int} (hn : numIn N n = true) (h0 : 0 < gI rk n) : ∃ i, whyI st rk rs n = some i := by
  cases hw : whyI st rk rs n with
  | some i => exact ⟨i, rfl⟩
  | none =>
    exfalso
    unfold whyI at hw
    rw [if_pos h0, List.findIdx?_eq_none_iff] at hw
    obtain ⟨x, hx, hxn, hf⟩ := h.sup n hn h0
    have := hw x hx
    rw [hf] at this
    simp [hxn] at this
theorem Deep.succ : ∀ (f : Nat) (n : Int), Deep st rk rs f n → Deep st rk rs (f + 1) n
  | 0, n, h => fun i hi => by
    have h : whyI st rk rs n = none := h
    rw [h] at hi; cases hi
  | f + 1, n, h => fun i hi p hp => Deep.succ f p (h i hi p hp)
theorem Deep.le {f g : Nat} {n : Int} (h : Deep st rk rs f n) (hg : f ≤ g) : Deep st rk rs g n := by
  obtain ⟨d, rfl⟩ := Nat.exists_eq_add_of_le hg
  clear hg
  induction d with
  | zero => exact h
  | succ d ih => exact Deep.succ _ _ ih
theorem Deep.all {l : List Int} (h : ∀ p ∈ l, ∃ f, Deep st rk rs f p) : ∃ f, ∀ p ∈ l, Deep st rk rs f p := by
  induction l with
  | nil => exact ⟨0, by simp⟩
  | cons x l ih =>
    obtain ⟨f, hf⟩ := ih (fun p hp => h p (by simp [hp]))
    obtain ⟨g, hg⟩ := h x (by simp)
    refine ⟨max f g, fun p hp => ?_⟩
    rcases List.mem_cons.1 hp with rfl | hp
    · exact hg.le (by omega)
    · exact (hf p hp).le (by omega)
/-- an atom lies above another one -/
def Above (st rk : List Int) (a b : Int) : Prop := gI st b < gI st a ∨ (gI st b = gI st a ∧ gI rk b < gI rk a)
theorem Above.trans {a b c : Int} (h : Above st rk a b) (k : Above st rk b c) : Above st rk a c := by unfold Above at *; omega
theorem Above.not {a : Int} : ¬ Above st rk a a := by unfold Above; omega
/-- the positive atoms of the rule that gives an atom its rank -/
theorem why_ps (hR : RsOk N st rs) {n : Int} {i : Nat} (h : whyI st rk rs n = some i) : ∀ p ∈ psOf rs i, numIn N p = true ∧ 0 ≤ gI rk p ∧ Above st rk n p := by
  obtain ⟨h0, hi, h1, h2, h3, _⟩ := whyI_some h
  intro p hp
  rw [h3] at hp
  have hx := List.getElem_mem hi
  have h4 := (fireB_iff.1 h2).1 p hp
  have h5 := hR.pos _ hx p hp
  rw [h1] at h5
  refine ⟨grOk_p (hR.ok _ hx) p hp, h4.1, ?_⟩
  unfold Above
  omega
theorem deep_ex (hR : RsOk N st rs) (h0 : ∀ n, numIn N n = true → 0 ≤ gI st n) : ∀ n, numIn N n = true → ∃ f, Deep st rk rs f n := by
  have key : ∀ (s r : Nat) (n : Int), numIn N n = true → gI st n = (s : Int) → gI rk n ≤ (r : Int) → ∃ f, Deep st rk rs f n := by
    intro s
    induction s using Nat.strongRecOn with
    | _ s ihs =>
      intro r
      induction r using Nat.strongRecOn with
      | _ r ihr =>
        intro n hn hs hr
        cases hw : whyI st rk rs n with
        | none => exact ⟨0, hw⟩
        | some i =>
          have hp := why_ps hR hw
          have h1 := (whyI_some hw).1
          obtain ⟨f, hf⟩ := Deep.all (st := st) (rk := rk) (rs := rs) (l := psOf rs i) (fun p hp' => by
            obtain ⟨h2, h3, h4⟩ := hp p hp'
            have h5 := h0 p h2
            rcases h4 with h4 | ⟨h4, h6⟩
            · exact ihs (gI st p).toNat (by omega) (gI rk p).toNat p h2 (by omega) (by omega)
            · exact ihr (gI rk p).toNat (by omega) p h2 (by omega) (by omega))
          refine ⟨f + 1, fun j hj => ?_⟩
          rw [hw] at hj
          injection hj with hj
          subst hj
          exact hf
  intro n hn
  have := h0 n hn
  exact key (gI st n).toNat (gI rk n).toNat n hn (by omega) (by omega)
/-- whether the rule of an atom is in a list -/
def whyIn (st rk : List Int) (rs : List Gr) (n : Int) (out : List Int) : Bool := match whyI st rk rs n with
  | none => false
  | some i => decide ((i : Int) ∈ out)
/-- each rule of the list can be used after those ahead of it -/
def DerOk (rk : List Int) (rs : List Gr) (F : List Int) (out : List Int) : Prop :=
  ∀ j (h : j < out.length), ∃ i : Nat, ∃ hi : i < rs.length, out[j] = (i : Int) ∧ (i : Int) ∉ out.take j ∧ bodyH rk rs[i] = true ∧ ∀ p ∈ rs[i].ps, p ∈ F ∨ ∃ k ∈ out.take j, hdOf rs k = p
theorem derOk_snoc {out : List Int} {i : Nat} (h : DerOk rk rs F out) (hi : i < rs.length) (h1 : (i : Int) ∉ out) (h2 : bodyH rk rs[i] = true) (h3 : ∀ p ∈ rs[i].ps, p ∈ F ∨ ∃ k ∈ out, hdOf rs k = p) : DerOk rk rs F (out ++ [(i : Int)]) := by
  intro j hj
  rw [List.length_append] at hj
  by_cases e : j < out.length
  · obtain ⟨m, hm, h4, h5, h6, h7⟩ := h j e
    refine ⟨m, hm, by rw [List.getElem_append_left e]; exact h4, ?_, h6, ?_⟩
    · rw [List.take_append_of_le_length (by omega)]; exact h5
    · rw [List.take_append_of_le_length (by omega)]; exact h7
  · have e1 : j = out.length := by simp at hj; omega
    subst e1
    refine ⟨i, hi, by simp, ?_, h2, ?_⟩
    · rw [List.take_append_of_le_length (by omega), List.take_length]; exact h1
    · rw [List.take_append_of_le_length (by omega), List.take_length]; exact h3
/-- the atom is given or derived -/
def Have (rs : List Gr) (F out : List Int) (n : Int) : Prop := n ∈ F ∨ ∃ k ∈ out, hdOf rs k = n
theorem Have.mono {out out' : List Int} {n : Int} (h : Have rs F out n) (hs : ∀ k ∈ out, k ∈ out') : Have rs F out' n := h.imp id fun ⟨k, hk, e⟩ => ⟨k, hs k hk, e⟩
/-- the rules of a list each give their head its rank -/
def WhyL (st rk : List Int) (rs : List Gr) (out : List Int) : Prop := ∀ k ∈ out, ∃ i : Nat, k = (i : Int) ∧ whyI st rk rs (hdOf rs k) = some i
theorem derO_ok (hR : RsOk N st rs) (h : RkOk N st rs F rk) : ∀ (f : Nat) (n : Int) (out : List Int), Deep st rk rs f n → numIn N n = true → 0 ≤ gI rk n → DerOk rk rs F out → WhyL st rk rs out → (∀ k ∈ out, ¬ Above st rk (hdOf rs k) n ∨ True) →
    DerOk rk rs F (derO st rk rs f n out) ∧ WhyL st rk rs (derO st rk rs f n out) ∧ (∀ k ∈ out, k ∈ derO st rk rs f n out) ∧ Have rs F (derO st rk rs f n out) n ∧ (∀ k ∈ derO st rk rs f n out, k ∈ out ∨ hdOf rs k = n ∨ Above st rk n (hdOf rs k))
  | 0, n, out, hd, hn, h0, hO, hW, _ => by
    have hw : whyI st rk rs n = none := hd
    refine ⟨hO, hW, fun _ h => h, .inl ?_, fun k hk => .inl hk⟩
    by_cases e : gI rk n = 0
    · exact (h.fact n hn).1 e
    · obtain ⟨i, hi⟩ := whyI_pos h hn (by omega)
      rw [hw] at hi; cases hi
  | f + 1, n, out, hd, hn, h0, hO, hW, _ => by
    unfold derO
    cases hw : whyI st rk rs n with
    | none =>
      refine ⟨hO, hW, fun _ h => h, .inl ?_, fun k hk => .inl hk⟩
      by_cases e : gI rk n = 0
      · exact (h.fact n hn).1 e
      · obtain ⟨i, hi⟩ := whyI_pos h hn (by omega)
        rw [hw] at hi; cases hi
    | some i =>
      obtain ⟨h1, hi, h2, h3, h4, h5⟩ := whyI_some hw
      have hp := why_ps hR hw
      simp only
      split
      · rename_i hm
        exact ⟨hO, hW, fun _ h => h, .inr ⟨_, hm, h5⟩, fun k hk => .inl hk⟩
      · rename_i hm
        have key : ∀ (ps : List Int) (o : List Int), (∀ p ∈ ps, p ∈ psOf rs i) → DerOk rk rs F o → WhyL st rk rs o → (∀ k ∈ out, k ∈ o) → (∀ k ∈ o, k ∈ out ∨ Above st rk n (hdOf rs k)) →
            DerOk rk rs F (ps.foldl (fun o p => derO st rk rs f p o) o) ∧ WhyL st rk rs (ps.foldl (fun o p => derO st rk rs f p o) o) ∧ (∀ k ∈ o, k ∈ ps.foldl (fun o p => derO st rk rs f p o) o) ∧ (∀ p ∈ ps, Have rs F (ps.foldl (fun o p => derO st rk rs f p o) o) p) ∧ (∀ k ∈ ps.foldl (fun o p => derO st rk rs f p o) o, k ∈ out ∨ Above st rk n (hdOf rs k)) := by
          intro ps
          induction ps with
          | nil => intro o _ h6 h7 _ h9; exact ⟨h6, h7, fun _ h => h, by simp, h9⟩
          | cons x ps ih =>
            intro o hs h6 h7 h8 h9
            have hx := hp x (hs x (by simp))
            have hr := derO_ok hR h f x o (hd i hw x (hs x (by simp))) hx.1 hx.2.1 h6 h7 (fun _ _ => .inr trivial)
            obtain ⟨r1, r2, r3, r4, r5⟩ := hr
            have := ih (derO st rk rs f x o) (fun p hp => hs p (by simp [hp])) r1 r2 (fun k hk => r3 k (h8 k hk)) (fun k hk => by
              rcases r5 k hk with h10 | h10 | h10
              · exact h9 k h10
              · rw [h10]; exact .inr hx.2.2
              · exact .inr (hx.2.2.trans h10))
            obtain ⟨q1, q2, q3, q4, q5⟩ := this
            simp only [List.foldl_cons]
            refine ⟨q1, q2, fun k hk => q3 k (r3 k hk), fun p hp' => ?_, q5⟩
            rcases List.mem_cons.1 hp' with rfl | hp'
            · exact r4.mono q3
            · exact q4 p hp'
        obtain ⟨q1, q2, q3, q4, q5⟩ := key (psOf rs i) out (fun _ h => h) hO hW (fun _ h => h) (fun k hk => .inl hk)
        have hni : (i : Int) ∉ (psOf rs i).foldl (fun o p => derO st rk rs f p o) out := fun hm2 => by
          rcases q5 _ hm2 with h6 | h6
          · exact hm h6
          · rw [h5] at h6; exact Above.not h6
        refine ⟨derOk_snoc q1 hi hni (fireB_body h3) (fun p hp' => q4 p (by rw [h4]; exact hp')), fun k hk => ?_, fun k hk => List.mem_append.2 (.inl (q3 k hk)), .inr ⟨i, by simp, h5⟩, fun k hk => ?_⟩
        · rcases List.mem_append.1 hk with hk | hk
          · exact q2 k hk
          · rw [List.mem_singleton] at hk; subst hk
            exact ⟨i, rfl, by rw [h5]; exact hw⟩
        · rcases List.mem_append.1 hk with hk | hk
          · rcases q5 k hk with h6 | h6
            · exact .inl h6
            · exact .inr (.inr h6)
          · rw [List.mem_singleton] at hk; subst hk
            exact .inr (.inl h5)
/-- a derivation ends with the atom -/
theorem derO_last {f : Nat} {n : Int} {out : List Int} (h : derO st rk rs f n out ≠ out) : ∃ (o' : List Int) (i : Nat), derO st rk rs f n out = o' ++ [(i : Int)] ∧ whyI st rk rs n = some i := by
  cases f with
  | zero => exact absurd rfl h
  | succ f =>
    unfold derO at h ⊢
    cases hw : whyI st rk rs n with
    | none => rw [hw] at h; exact absurd rfl h
    | some i =>
      rw [hw] at h
      simp only at h ⊢
      split at h
      · exact absurd rfl h
      · rename_i hm
        rw [if_neg hm]
        exact ⟨_, i, rfl, rfl⟩
end
end
end Go.Proofs.YtojokdicbopknaaGreat
