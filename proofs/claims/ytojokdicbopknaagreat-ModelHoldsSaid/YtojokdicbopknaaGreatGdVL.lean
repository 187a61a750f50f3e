
/-
  When atoms and ground descriptions are valid, and the order of terms as the reference asks it, as plain functions. No program is in sight here.
  The plain law of chapter 14: what the strata, ranks, models and derivations of a ground description satisfy, in the law's own words. No program is in sight here.
-/
import Derived.Test.YtojokdicbopknaaGreatGdPl
import Derived.Test.YtojokdicbopknaaGreatTmCmp
namespace Go.Proofs.YtojokdicbopknaaGreat

section
section
/-! ### lists whose parts are well formed and in order -/
variable {α : Type}
def chainB (ok : α → Bool) (lt : α → α → Bool) : List α → Bool
  | [] => true
  | [x] => ok x
  | x :: y :: l => ok x && (lt x y && chainB ok lt (y :: l))
theorem chainB_iff (ok : α → Bool) (lt : α → α → Bool) : ∀ l : List α, chainB ok lt l = true ↔ (∀ i (h : i < l.length), ok l[i] = true) ∧ ∀ i (h : i + 1 < l.length), lt l[i] l[i + 1] = true
  | [] => by simp [chainB]
  | [x] => by simp [chainB]
  | x :: y :: l => by
    simp only [chainB, Bool.and_eq_true, chainB_iff ok lt (y :: l)]
    constructor
    · rintro ⟨h1, h2, h3, h4⟩
      refine ⟨fun i hi => ?_, fun i hi => ?_⟩
      · cases i with
        | zero => exact h1
        | succ i => exact h3 i (by simpa using hi)
      · cases i with
        | zero => exact h2
        | succ i => exact h4 i (by simpa using hi)
    · rintro ⟨h1, h2⟩
      exact ⟨h1 0 (by simp), h2 0 (by simp), fun i hi => h1 (i + 1) (by simpa using hi), fun i hi => h2 (i + 1) (by simpa using hi)⟩
theorem chainB_bad {ok : α → Bool} {lt : α → α → Bool} {l : List α} {i : Nat} (hi : i < l.length) (h : ok l[i] = false ∨ (0 < i ∧ lt (l[i - 1]'(by omega)) l[i] = false)) : chainB ok lt l = false := by
  cases hr : chainB ok lt l with
  | false => rfl
  | true =>
    rw [chainB_iff] at hr
    rcases h with h | ⟨h0, h⟩
    · rw [hr.1 i hi] at h; cases h
    · have := hr.2 (i - 1) (by omega)
      simp only [Nat.sub_add_cancel h0] at this
      rw [this] at h; cases h
theorem chainB_good {ok : α → Bool} {lt : α → α → Bool} {l : List α} (h1 : ∀ i (h : i < l.length), ok l[i] = true) (h2 : ∀ i (h : i < l.length), 0 < i → lt (l[i - 1]'(by omega)) l[i] = true) : chainB ok lt l = true :=
  (chainB_iff ok lt l).2 ⟨h1, fun i hi => by simpa using h2 (i + 1) hi (by omega)⟩
end

section
/-! ### atoms -/
/-- a term is valid, with so many levels, and has no variable -/
def grdT : Nat → Tm → Bool
  | 0, _ => false
  | l + 1, t => decide (t.args.length ≤ 4) && (if t.args.length = 0 then nameB t.name || numB t.name else t.args.all (grdT l) && nameB t.name)
def atmOk (t : Tm) : Bool := !decide (t.name = dis) && (nameB t.name && grdT 4 t)
def ltT (a b : Tm) : Bool := decide (cmpT a b < 0)
def atmsOk (l : List Tm) : Bool := decide (l.length ≤ 512) && chainB atmOk ltT l
/-- a ground description is valid -/
def gdOk (A : List Tm) (rs : List Gr) : Bool := atmsOk A && (decide (rs.length ≤ 2048) && grsOk A.length rs)
/-- facts are an ascending list of numbers of atoms -/
def factsOk (N : Nat) (F : List Int) : Bool := numsIn N F && riseB F
theorem factsOk_chain (N : Nat) : ∀ F : List Int, factsOk N F = chainB (numIn N) (fun a b => decide (a < b)) F
  | [] => by simp [factsOk, numsIn, riseB, chainB]
  | [x] => by simp [factsOk, numsIn, riseB, chainB]
  | x :: y :: l => by
    have ih := factsOk_chain N (y :: l)
    simp only [factsOk, numsIn, List.all_cons, riseB, chainB] at ih ⊢
    rw [← ih]
    cases numIn N x <;> cases decide (x < y) <;> simp
theorem grsOk_chain (N : Nat) : ∀ l : List Gr, grsOk N l = chainB (grOk N) (fun a b => decide (cmpGr a b < 0)) l
  | [] => rfl
  | [x] => rfl
  | x :: y :: l => by simp only [grsOk, chainB]; rw [grsOk_chain N (y :: l)]
theorem grOk_facts (N : Nat) (x : Gr) : grOk N x = (numIn N x.h && (factsOk N x.ps && factsOk N x.ns)) := by
  unfold grOk factsOk
  cases numIn N x.h <;> cases numsIn N x.ps <;> cases numsIn N x.ns <;> cases riseB x.ps <;> cases riseB x.ns <;> rfl

/-! ### the order of terms, as the reference asks it -/
def clsT (t : Tm) : Nat := if t.args.length ≠ 0 then 3 else if numB t.name = true then 0 else if varB t.name = true then 2 else 1
theorem clsT_mk (k : ByteArray) (zs : List Tm) : clsT (.mk k zs) = if zs.length = 0 then (if numB k = true then 0 else if varB k = true then 2 else 1) else 3 := by
  by_cases h : zs.length = 0
  · rw [if_pos h]
    exact if_neg (fun h2 => h2 h)
  · rw [if_neg h]
    exact if_pos h
theorem kd_cls (t : Tm) : (kdOf t).c = clsT t := by
  unfold kdOf clsT
  split
  · rfl
  · split
    · rfl
    · split <;> rfl
theorem cmpT_ref (t u : Tm) : cmpT t u = if ordN (clsT t) (clsT u) ≠ 0 then ordN (clsT t) (clsT u) else if clsT t = 0 then ordN (numV t.name) (numV u.name) else
    if t.args.length ≠ u.args.length then ordN t.args.length u.args.length else if ordS t.name u.name ≠ 0 then ordS t.name u.name else cmpTL t.args u.args := by
  obtain ⟨n, xs⟩ := t
  obtain ⟨m, ys⟩ := u
  have e : cmpT (.mk n xs) (.mk m ys) = if kdEq (kdOf (.mk n xs)) (kdOf (.mk m ys)) = true then cmpTL xs ys else ordK (kdOf (.mk n xs)) (kdOf (.mk m ys)) := by rw [cmpT]; rfl
  rw [e]
  simp only [Tm.args, Tm.name]
  unfold ordK
  rw [kd_cls, kd_cls]
  have cls0 : ∀ (k : ByteArray) (zs : List Tm), clsT (.mk k zs) = 0 → zs.length = 0 ∧ numB k = true := by
    intro k zs h0
    rw [clsT_mk] at h0
    by_cases h2 : zs.length = 0
    · rw [if_pos h2] at h0
      by_cases h3 : numB k = true
      · exact ⟨by omega, h3⟩
      · rw [if_neg h3] at h0
        split at h0 <;> omega
    · rw [if_neg h2] at h0; omega
  by_cases h1 : clsT (.mk n xs) = clsT (.mk m ys)
  · conv => rhs; rw [if_neg (show ¬ (ordN (clsT (.mk n xs)) (clsT (.mk m ys)) ≠ 0) from fun h => h (ordN_zero.2 h1))]
    rw [if_neg (show ¬ (clsT (.mk n xs) ≠ clsT (.mk m ys)) from fun h => h h1)]
    by_cases h0 : clsT (.mk n xs) = 0
    · conv => rhs; rw [if_pos h0]
      have hx := cls0 n xs h0
      have hy := cls0 m ys (by rw [← h1]; exact h0)
      rw [kd0 hx.1, kd0 hy.1, if_pos hx.2, if_pos hy.2]
      have hx0 := List.eq_nil_of_length_eq_zero hx.1
      have hy0 := List.eq_nil_of_length_eq_zero hy.1
      subst hx0 hy0
      by_cases h2 : numV n = numV m
      · have hk : kdEq ⟨0, numV n, 0, ⟨#[]⟩⟩ ⟨0, numV m, 0, ⟨#[]⟩⟩ = true := kdEq_iff.2 ⟨rfl, h2, rfl, rfl⟩
        rw [if_pos hk, ordN_zero.2 h2]; simp [cmpTL]
      · have hk : ¬ kdEq ⟨0, numV n, 0, ⟨#[]⟩⟩ ⟨0, numV m, 0, ⟨#[]⟩⟩ = true := fun h => h2 (kdEq_iff.1 h).2.1
        rw [if_neg hk]
        exact if_pos h2
    · conv => rhs; rw [if_neg h0]
      have key : ∀ (k : ByteArray) (zs : List Tm), clsT (.mk k zs) ≠ 0 → (kdOf (.mk k zs)).v = 0 ∧ (kdOf (.mk k zs)).a = zs.length ∧ (kdOf (.mk k zs)).n = k := by
        intro k zs hk
        by_cases hz : zs.length = 0
        · rw [kd0 hz]
          rw [clsT_mk, if_pos hz] at hk
          by_cases hn : numB k = true
          · rw [if_pos hn] at hk; exact absurd rfl hk
          · rw [if_neg hn]
            split <;> exact ⟨rfl, hz.symm, rfl⟩
        · rw [kd3 hz]; exact ⟨rfl, rfl, rfl⟩
      obtain ⟨a1, a2, a3⟩ := key n xs h0
      obtain ⟨b1, b2, b3⟩ := key m ys (by rw [← h1]; exact h0)
      have hc := kdEq_iff (x := kdOf (.mk n xs)) (y := kdOf (.mk m ys))
      rw [kd_cls, kd_cls, a1, b1, a2, b2, a3, b3] at hc
      rw [a1, b1, a2, b2, a3, b3, if_neg (show ¬ ((0 : Nat) ≠ 0) from fun h => h rfl)]
      by_cases h2 : xs.length = ys.length
      · rw [if_neg (show ¬ (xs.length ≠ ys.length) from fun h => h h2)]
        refine Eq.trans ?_ (if_neg (show ¬ (xs.length ≠ ys.length) from fun h => h h2)).symm
        by_cases h3 : n = m
        · rw [if_pos (hc.2 ⟨h1, rfl, h2, h3⟩)]
          exact (if_neg (fun h => h (ordS_zero.2 h3))).symm
        · rw [if_neg (fun h => h3 (hc.1 h).2.2.2)]
          exact (if_pos (fun h => h3 (ordS_zero.1 h))).symm
      · rw [if_pos h2, if_neg (fun h => h2 (hc.1 h).2.2.1)]
        exact (if_pos h2).symm
  · conv => rhs; rw [if_pos (show ordN (clsT (.mk n xs)) (clsT (.mk m ys)) ≠ 0 from fun h => h1 (ordN_zero.1 h))]
    rw [if_pos h1, if_neg]
    intro h
    have := (kdEq_iff.1 h).1
    rw [kd_cls, kd_cls] at this
    exact h1 this
end
end

section
section
/-! ### lists of numbers that are chosen -/
/-- the numbers below k that q takes -/
def selI (q : Nat → Bool) (k : Nat) : List Int := ((List.range k).filter q).map fun (i : Nat) => (i : Int)
theorem selI_yes {q : Nat → Bool} {k : Nat} (h : q k = true) : selI q (k + 1) = selI q k ++ [(k : Int)] := by
  unfold selI
  rw [List.range_succ, List.filter_append, List.map_append, List.filter_cons, if_pos h]; rfl
theorem selI_no {q : Nat → Bool} {k : Nat} (h : q k = false) : selI q (k + 1) = selI q k := by
  unfold selI
  rw [List.range_succ, List.filter_append, List.map_append, List.filter_cons, if_neg (by rw [h]; simp)]; simp
theorem selI_len (q : Nat → Bool) (k : Nat) : (selI q k).length ≤ k := by
  unfold selI
  have := List.length_filter_le q (List.range k)
  simpa using this
theorem mem_selI {q : Nat → Bool} {k : Nat} {n : Int} : n ∈ selI q k ↔ ∃ i : Nat, n = (i : Int) ∧ i < k ∧ q i = true := by
  unfold selI
  rw [List.mem_map]
  constructor
  · rintro ⟨i, h, rfl⟩
    rw [List.mem_filter, List.mem_range] at h
    exact ⟨i, rfl, h.1, h.2⟩
  · rintro ⟨i, rfl, h1, h2⟩
    exact ⟨i, List.mem_filter.2 ⟨List.mem_range.2 h1, h2⟩, rfl⟩
theorem rise_selI (q : Nat → Bool) (k : Nat) : riseB (selI q k) = true := by
  rw [riseB_iff]
  have h1 : (selI q k).Pairwise (· < ·) := by
    unfold selI
    rw [List.pairwise_map]
    refine (List.pairwise_lt_range.filter _).imp ?_
    intro a b h
    exact Int.ofNat_lt.2 h
  intro i hi
  rw [List.pairwise_iff_getElem] at h1
  exact h1 i (i + 1) (by omega) hi (by omega)
theorem facts_selI {q : Nat → Bool} {k N : Nat} (h : k ≤ N) : factsOk N (selI q k) = true := by
  unfold factsOk
  rw [Bool.and_eq_true, rise_selI]
  refine ⟨?_, rfl⟩
  unfold numsIn
  rw [List.all_eq_true]
  intro n hn
  obtain ⟨i, rfl, h1, _⟩ := mem_selI.1 hn
  simp only [numIn, Bool.and_eq_true, decide_eq_true_eq]
  omega
/-- the numbers that have a rank, as such a list -/
theorem mem_sel {rk : List Int} {k : Nat} {n : Int} : n ∈ selI (fun i => decide (0 ≤ gI rk (i : Int))) k ↔ numIn k n = true ∧ 0 ≤ gI rk n := by
  rw [mem_selI]
  constructor
  · rintro ⟨i, rfl, h1, h2⟩
    simp only [numIn, Bool.and_eq_true, decide_eq_true_eq]
    exact ⟨by omega, by simpa using h2⟩
  · rintro ⟨h1, h2⟩
    obtain ⟨i, hi, rfl⟩ := numIn_nat h1
    exact ⟨i, rfl, hi, by simpa using h2⟩
theorem selI_congr {q q' : Nat → Bool} {k : Nat} (h : ∀ i, i < k → q i = q' i) : selI q k = selI q' k := by
  unfold selI
  congr 1
  apply List.filter_congr
  intro i hi
  exact h i (List.mem_range.1 hi)

/-! ### bodies -/
/-- the body holds in a set -/
def bodyS (S : List Int) (x : Gr) : Bool := x.ps.all (fun n => decide (n ∈ S)) && x.ns.all (fun n => !decide (n ∈ S))
theorem bodyS_pos {S : List Int} {x : Gr} {k : Nat} (hk : k < x.ps.length) (h : x.ps[k] ∉ S) : bodyS S x = false := by
  unfold bodyS
  have : (x.ps.all fun n => decide (n ∈ S)) = false := by
    rw [List.all_eq_false]
    exact ⟨_, List.getElem_mem hk, by simpa using h⟩
  rw [this]; rfl
theorem bodyS_neg {S : List Int} {x : Gr} (hp : ∀ j (hj : j < x.ps.length), x.ps[j] ∈ S) : bodyS S x = x.ns.all (fun n => !decide (n ∈ S)) := by
  unfold bodyS
  have : (x.ps.all fun n => decide (n ∈ S)) = true := by
    rw [List.all_eq_true]
    intro n hn
    obtain ⟨j, hj, rfl⟩ := List.getElem_of_mem hn
    exact decide_eq_true (hp j hj)
  rw [this]; rfl
theorem bodyS_eq {N : Nat} {S rk : List Int} {x : Gr} (hx : grOk N x = true) (hS : ∀ n, numIn N n = true → (n ∈ S ↔ 0 ≤ gI rk n)) : bodyS S x = bodyH rk x := by
  unfold bodyS bodyH
  have h1 : x.ps.all (fun n => decide (n ∈ S)) = x.ps.all (fun n => decide (0 ≤ gI rk n)) := all_congr_ fun n hn => by
    have := hS n (grOk_p hx n hn)
    exact decide_eq_decide.2 this
  have h2 : x.ns.all (fun n => !decide (n ∈ S)) = x.ns.all (fun n => decide (gI rk n < 0)) := all_congr_ fun n hn => by
    have := hS n (grOk_n hx n hn)
    by_cases h : n ∈ S
    · rw [decide_eq_true h, decide_eq_false (by have := this.1 h; omega)]; rfl
    · rw [decide_eq_false h, decide_eq_true (by have : ¬ 0 ≤ gI rk n := fun h' => h (this.2 h'); omega)]; rfl
  rw [h1, h2]
/-- a rule that supports an atom -/
def supX (st rk S : List Int) (n : Int) (x : Gr) : Bool := decide (x.h = n) && (bodyS S x && x.ps.all (fun p => decide (gI st p < gI st n) || (decide (gI st p = gI st n) && decide (gI rk p < gI rk n))))
def supQ (st rk S : List Int) (rs : List Gr) (n : Int) : Bool := rs.any (supX st rk S n)
theorem supQ_at {st rk S : List Int} {rs : List Gr} {n : Int} {k : Nat} (hk : k < rs.length) (h : supX st rk S n rs[k] = true) : supQ st rk S rs n = true := by
  unfold supQ
  rw [List.any_eq_true]
  exact ⟨_, List.getElem_mem hk, h⟩
theorem supQ_no {st rk S : List Int} {rs : List Gr} {n : Int} (h : ∀ j (hj : j < rs.length), supX st rk S n rs[j] = false) : supQ st rk S rs n = false := by
  unfold supQ
  rw [List.any_eq_false]
  intro x hx
  obtain ⟨j, hj, rfl⟩ := List.getElem_of_mem hx
  rw [h j hj]; simp
theorem sup_ok {N : Nat} {st rk F : List Int} {rs : List Gr} (hR : RsOk N st rs) (hK : RkOk N st rs F rk) {S : List Int} (hS : ∀ n, numIn N n = true → (n ∈ S ↔ 0 ≤ gI rk n)) {n : Int} (hn : numIn N n = true) (h0 : 0 < gI rk n) : supQ st rk S rs n = true := by
  obtain ⟨x, hx, he, hf⟩ := hK.sup n hn h0
  unfold supQ
  rw [List.any_eq_true]
  refine ⟨x, hx, ?_⟩
  unfold supX
  rw [bodyS_eq (hR.ok x hx) hS, fireB_body hf, he]
  simp only [decide_true, Bool.true_and, List.all_eq_true]
  intro p hp
  have h1 := (fireB_iff.1 hf).1 p hp
  have h2 := hR.pos x hx p hp
  rw [he] at h2
  rcases h1.2 with h3 | h3
  · rw [decide_eq_true h3]; rfl
  · by_cases h4 : gI st p < gI st n
    · rw [decide_eq_true h4]; rfl
    · rw [decide_eq_true (show gI st p = gI st n by omega), decide_eq_true h3]; simp
/-- the set is closed -/
theorem clo_ok {N : Nat} {st rk F : List Int} {rs : List Gr} (hR : RsOk N st rs) (hK : RkOk N st rs F rk) {S : List Int} (hS : ∀ n, numIn N n = true → (n ∈ S ↔ 0 ≤ gI rk n)) {x : Gr} (hx : x ∈ rs) (hb : bodyS S x = true) : x.h ∈ S := by
  rw [bodyS_eq (hR.ok x hx) hS] at hb
  exact (hS _ (grOk_h (hR.ok x hx))).2 (hK.clo x hx hb)

/-! ### derivations -/
theorem derO_deep {st rk : List Int} {rs : List Gr} : ∀ (f g : Nat) (n : Int) (out : List Int), Deep st rk rs f n → Deep st rk rs g n → derO st rk rs f n out = derO st rk rs g n out
  | 0, 0, _, _, _, _ => rfl
  | 0, g + 1, n, out, h, _ => by
    have : whyI st rk rs n = none := h
    simp only [derO, this]
  | f + 1, 0, n, out, _, h => by
    have : whyI st rk rs n = none := h
    simp only [derO, this]
  | f + 1, g + 1, n, out, h, h' => by
    simp only [derO]
    cases hw : whyI st rk rs n with
    | none => rfl
    | some i =>
      simp only
      have key : ∀ (ps : List Int) (o : List Int), (∀ p ∈ ps, p ∈ psOf rs i) → ps.foldl (fun o p => derO st rk rs f p o) o = ps.foldl (fun o p => derO st rk rs g p o) o := by
        intro ps
        induction ps with
        | nil => intro o _; rfl
        | cons x ps ih =>
          intro o hs
          simp only [List.foldl_cons]
          rw [derO_deep f g x o (h i hw x (hs x (by simp))) (h' i hw x (hs x (by simp)))]
          exact ih _ (fun p hp => hs p (by simp [hp]))
      rw [key _ _ (fun _ h => h)]
/-- what the law asks of a derivation, in plain words -/
theorem der_law {N : Nat} {st rk F : List Int} {rs : List Gr} (hR : RsOk N st rs) (hK : RkOk N st rs F rk) {f : Nat} {n : Int} (hD : Deep st rk rs f n) (hn : numIn N n = true) (h0 : 0 ≤ gI rk n) :
    DerOk rk rs F (derO st rk rs f n []) ∧ (derO st rk rs f n [] = [] → n ∈ F) ∧ ∀ (h : 0 < (derO st rk rs f n []).length), ∃ i : Nat, ∃ hi : i < rs.length, (derO st rk rs f n [])[(derO st rk rs f n []).length - 1] = (i : Int) ∧ rs[i].h = n := by
  obtain ⟨h1, h2, h3, h4, h5⟩ := derO_ok hR hK f n [] hD hn h0 (fun j hj => absurd hj (by simp)) (fun k hk => by simp at hk) (fun _ hk => by simp at hk)
  refine ⟨h1, fun he => ?_, fun h => ?_⟩
  · rcases h4 with h6 | ⟨k, hk, _⟩
    · exact h6
    · rw [he] at hk; cases hk
  · obtain ⟨o', i, h6, h7⟩ := derO_last (st := st) (rk := rk) (rs := rs) (f := f) (n := n) (out := []) (fun he => by rw [he] at h; exact absurd h (by simp))
    obtain ⟨_, hi, h8, _⟩ := whyI_some h7
    refine ⟨i, hi, ?_, h8⟩
    simp only [h6, List.length_append, List.length_singleton, Nat.add_sub_cancel, List.getElem_append_right (Nat.le_refl _), Nat.sub_self, List.getElem_cons_zero]
end
end
end Go.Proofs.YtojokdicbopknaaGreat
