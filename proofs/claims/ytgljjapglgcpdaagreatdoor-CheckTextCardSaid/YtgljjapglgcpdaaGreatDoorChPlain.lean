
/-
  What the functions of terms and of layer 11 (check) answer, as plain functions. No program is in sight here.
  What check.Rules, Roles, Chance and Hidden answer, as plain functions. No program is in sight here.
  How large a rule is that the walks of layer 11 (check) take. No program is in sight here.
-/
import Derived.Test.YtgljjapglgcpdaaGreatDoorTrees
import Derived.Test.YtgljjapglgcpdaaGreatDoorOrder
import Derived.Test.YtgljjapglgcpdaaGreatDoorStrPlain
namespace Go.Proofs.YtgljjapglgcpdaaGreatDoor

section
/-! ### names -/
def lowC (c : Nat) : Bool := decide (97 ≤ c) && decide (c ≤ 122)
def uppC (c : Nat) : Bool := decide (65 ≤ c) && decide (c ≤ 90)
def digC (c : Nat) : Bool := decide (48 ≤ c) && decide (c ≤ 57)
def nameC (c : Nat) : Bool := lowC c || (digC c || c == 45)
def varC (c : Nat) : Bool := uppC c || (lowC c || digC c)
/-- all bytes from i on -/
def allFrom (q : Nat → Bool) (s : ByteArray) : Nat → Nat → Bool
  | 0, _ => true
  | f + 1, i => q (byteAt s i) && allFrom q s f (i + 1)
def allC (q : Nat → Bool) (s : ByteArray) : Bool := allFrom q s s.size 0
def sIf : ByteArray := ⟨#[105, 102]⟩
def sAnd : ByteArray := ⟨#[97, 110, 100]⟩
def sNot : ByteArray := ⟨#[110, 111, 116]⟩
def spelt (f q : Nat → Bool) (s : ByteArray) : Bool := decide (1 ≤ s.size) && (decide (s.size ≤ 16) && (f (byteAt s 0) && allC q s))
def nameB (s : ByteArray) : Bool := spelt lowC nameC s && (!decide (s = sIf) && (!decide (s = sAnd) && !decide (s = sNot)))
def varB (s : ByteArray) : Bool := spelt uppC varC s
def numB (s : ByteArray) : Bool := decide (1 ≤ s.size) && (decide (s.size ≤ 4) && (!(byteAt s 0 == 48 && decide (1 < s.size)) && allC digC s))
theorem allFrom_iff (q : Nat → Bool) (s : ByteArray) : ∀ f i, allFrom q s f i = true ↔ ∀ j, i ≤ j → j < i + f → q (byteAt s j) = true
  | 0, i => by simp [allFrom]; intro j h1 h2; omega
  | f + 1, i => by
    simp only [allFrom, Bool.and_eq_true, allFrom_iff q s f (i + 1)]
    constructor
    · rintro ⟨h1, h2⟩ j h3 h4
      rcases Nat.eq_or_lt_of_le h3 with rfl | h5
      · exact h1
      · exact h2 j h5 (by omega)
    · intro h
      exact ⟨h i (Nat.le_refl _) (by omega), fun j h1 h2 => h j (by omega) (by omega)⟩
theorem allC_iff (q : Nat → Bool) (s : ByteArray) : allC q s = true ↔ ∀ j, j < s.size → q (byteAt s j) = true := by
  unfold allC
  rw [allFrom_iff]
  exact ⟨fun h j hj => h j (Nat.zero_le _) (by omega), fun h j _ hj => h j (by omega)⟩
theorem allC_bad {q : Nat → Bool} {s : ByteArray} {j : Nat} (hj : j < s.size) (h : q (byteAt s j) = false) : allC q s = false := by
  cases hx : allC q s with
  | false => rfl
  | true => rw [(allC_iff q s).1 hx j hj] at h; cases h
theorem allC_all {q : Nat → Bool} {s : ByteArray} (h : ∀ j, j < s.size → q (byteAt s j) = true) : allC q s = true := (allC_iff q s).2 h

/-! ### terms -/
mutual
/-- a term, or a part of it, has a name that is not permitted -/
def misT : Tm → Bool
  | .mk n [] => !numB n && (!nameB n && !varB n)
  | .mk n (a :: as) => !nameB n || misL (a :: as)
def misL : List Tm → Bool | [] => false | t :: ts => misT t || misL ts
end
mutual
def wideT : Tm → Bool | .mk _ as => decide (4 < as.length) || wideL as
def wideL : List Tm → Bool | [] => false | t :: ts => wideT t || wideL ts
end
mutual
/-- the names of the parts without arguments -/
def lvsT : Tm → List ByteArray
  | .mk n [] => [n]
  | .mk _ (a :: as) => lvsL (a :: as)
def lvsL : List Tm → List ByteArray | [] => [] | t :: ts => lvsT t ++ lvsL ts
end
def addV (o : List ByteArray) (s : ByteArray) : List ByteArray := if (varB s && !hasS o s) = true then o ++ [s] else o
/-- the variables of terms, in the order of their first occurrence -/
def varsL (ts : List Tm) : List ByteArray := (lvsL ts).foldl addV []
theorem lvsL_append : ∀ a b : List Tm, lvsL (a ++ b) = lvsL a ++ lvsL b
  | [], b => by simp [lvsL]
  | t :: ts, b => by simp only [List.cons_append, lvsL, lvsL_append ts b, List.append_assoc]
theorem mem_addV : ∀ (l o : List ByteArray) (s : ByteArray), s ∈ l.foldl addV o ↔ s ∈ o ∨ (s ∈ l ∧ varB s = true)
  | [], o, s => by simp
  | x :: r, o, s => by
    simp only [List.foldl_cons]
    rw [mem_addV r, List.mem_cons]
    unfold addV
    by_cases h : (varB x && !hasS o x) = true
    · rw [if_pos h, List.mem_append, List.mem_singleton]
      simp only [Bool.and_eq_true, Bool.not_eq_true'] at h
      constructor
      · rintro ((h1 | rfl) | h1)
        · exact .inl h1
        · exact .inr ⟨.inl rfl, h.1⟩
        · exact .inr ⟨.inr h1.1, h1.2⟩
      · rintro (h1 | ⟨rfl | h1, h2⟩)
        · exact .inl (.inl h1)
        · exact .inl (.inr rfl)
        · exact .inr ⟨h1, h2⟩
    · rw [if_neg h]
      constructor
      · rintro (h1 | h1)
        · exact .inl h1
        · exact .inr ⟨.inr h1.1, h1.2⟩
      · rintro (h1 | ⟨rfl | h1, h2⟩)
        · exact .inl h1
        · refine .inl ?_
          rw [h2, Bool.true_and, Bool.not_eq_true', Bool.not_eq_false] at h
          simpa [hasS] using h
        · exact .inr ⟨h1, h2⟩
theorem mem_varsL (ts : List Tm) (s : ByteArray) : s ∈ varsL ts ↔ s ∈ lvsL ts ∧ varB s = true := by
  unfold varsL; rw [mem_addV]; simp
theorem nodup_addV : ∀ (l o : List ByteArray), o.Nodup → (l.foldl addV o).Nodup
  | [], _, h => h
  | x :: r, o, h => by
    simp only [List.foldl_cons]
    refine nodup_addV r _ ?_
    unfold addV
    split
    · rename_i h1
      simp only [Bool.and_eq_true, Bool.not_eq_true', hasS, decide_eq_false_iff_not] at h1
      rw [List.nodup_append]
      refine ⟨h, by simp, fun a ha b hb e => ?_⟩
      rw [List.mem_singleton] at hb
      subst hb e
      exact h1.2 ha
    · exact h

/-! ### keywords -/
/-- a keyword: how many arguments; may it be a head; may it be in a body -/
structure Kw where
  n : ByteArray
  a : Nat
  h : Bool
  b : Bool
def kws : List Kw := [
  ⟨⟨#[114, 111, 108, 101]⟩, 1, true, true⟩, ⟨⟨#[105, 110, 105, 116]⟩, 1, true, false⟩, ⟨⟨#[116, 114, 117, 101]⟩, 1, false, true⟩,
  ⟨⟨#[100, 111, 101, 115]⟩, 2, false, true⟩, ⟨⟨#[108, 101, 103, 97, 108]⟩, 2, true, false⟩, ⟨⟨#[110, 101, 120, 116]⟩, 1, true, false⟩,
  ⟨⟨#[116, 101, 114, 109, 105, 110, 97, 108]⟩, 0, true, false⟩, ⟨⟨#[103, 111, 97, 108]⟩, 2, true, false⟩, ⟨⟨#[115, 101, 101, 115]⟩, 2, true, false⟩,
  ⟨⟨#[100, 105, 115, 116, 105, 110, 99, 116]⟩, 2, false, true⟩]
def kwOf (s : ByteArray) : Option Kw := kws.find? fun k => decide (k.n = s)

/-! ### errors -/
/-- the error of the head (hd) or of an atom of the body -/
def atomE (t : Tm) (hd : Bool) : Int :=
  if (!nameB t.name || misT t) = true then 4
  else if (wideT t || match kwOf t.name with | some k => !decide (t.args.length = k.a) | none => false) = true then 5
  else if 4 < t.dep then 3
  else if (match kwOf t.name with | some k => if hd = true then !k.h else !k.b | none => false) = true then 6
  else 0
/-- the first error of atoms -/
def atomsE : Bool → List Tm → Int
  | _, [] => 0
  | hd, t :: ts => if atomE t hd = 0 then atomsE false ts else atomE t hd
def atomsOf (r : Ru) : List Tm := r.head :: r.body.map (·.atom)
/-- a literal that binds its variables -/
def bindsB (x : Li) : Bool := !x.nt && !decide (x.atom.name = dis)
def needOf (r : Ru) : List Tm := r.head :: (r.body.filter fun x => !bindsB x).map (·.atom)
def bindOf (r : Ru) : List Tm := (r.body.filter bindsB).map (·.atom)
def safeB (r : Ru) : Bool := (varsL (needOf r)).all fun s => hasS (varsL (bindOf r)) s
def bRole : ByteArray := ⟨#[114, 111, 108, 101]⟩
/-- a role fact that is not valid -/
def roleBad (r : Ru) : Bool := decide (r.head.name = bRole) && (decide (0 < r.body.length) || match r.head.args with | x :: _ => decide (0 < x.args.length) || !nameB x.name | [] => false)
def ruleE (r : Ru) : Int :=
  if 8 < r.body.length then 2
  else if atomsE true (atomsOf r) ≠ 0 then atomsE true (atomsOf r)
  else if 5 < (varsL (atomsOf r)).length then 11
  else if safeB r = false then 7
  else if roleBad r = true then 8
  else 0
end

section
/-! ### numbers of arguments -/
def confl (P : List Tm) (a : Tm) : Bool := P.any fun t => decide (t.name = a.name) && !decide (t.args.length = a.args.length)
def ruleConf : List Tm → List Tm → Bool
  | _, [] => false
  | P, a :: as => confl P a || ruleConf (P ++ [a]) as
def diffGo : List Tm → Nat → List Ru → Int
  | _, _, [] => -1
  | P, i, r :: l => if ruleConf P (atomsOf r) = true then (i : Int) else diffGo (P ++ atomsOf r) (i + 1) l
/-- the first rule in which a relation has another number of arguments than before, or -1 -/
def diffOf (l : List Ru) : Int := diffGo [] 0 l
theorem diffGo_nonneg : ∀ (l : List Ru) (P : List Tm) (i : Nat), diffGo P i l = -1 ∨ 0 ≤ diffGo P i l
  | [], _, _ => .inl rfl
  | r :: l, P, i => by
    unfold diffGo
    split
    · exact .inr (by omega)
    · exact diffGo_nonneg l _ _
/-- no two atoms of one name differ in the number of their arguments -/
def Agree (L : List Tm) : Prop := ∀ t ∈ L, ∀ u ∈ L, t.name = u.name → t.args.length = u.args.length
theorem confl_false {P : List Tm} {a : Tm} : confl P a = false ↔ ∀ t ∈ P, t.name = a.name → t.args.length = a.args.length := by
  simp only [confl, List.any_eq_false, Bool.and_eq_true, decide_eq_true_eq, Bool.not_eq_true', decide_eq_false_iff_not, not_and, Decidable.not_not]
theorem ruleConf_false : ∀ (as P : List Tm), Agree P → (ruleConf P as = false ↔ Agree (P ++ as))
  | [], P, h => by simp [ruleConf, h]
  | a :: as, P, h => by
    simp only [ruleConf, Bool.or_eq_false_iff, confl_false]
    have e : P ++ a :: as = (P ++ [a]) ++ as := by simp
    constructor
    · rintro ⟨h1, h2⟩
      rw [e]
      refine (ruleConf_false as (P ++ [a]) ?_).1 h2
      intro t ht u hu hn
      rcases List.mem_append.1 ht with h5 | h5 <;> rcases List.mem_append.1 hu with h6 | h6
      · exact h t h5 u h6 hn
      · rw [List.mem_singleton] at h6
        rw [h6] at hn ⊢
        exact h1 t h5 hn
      · rw [List.mem_singleton] at h5
        rw [h5] at hn ⊢
        exact (h1 u h6 hn.symm).symm
      · rw [List.mem_singleton] at h5 h6
        rw [h5, h6]
    · intro h3
      refine ⟨fun t ht hn => h3 t (by simp [ht]) a (by simp) hn, ?_⟩
      refine (ruleConf_false as (P ++ [a]) ?_).2 (by rw [← e]; exact h3)
      intro t ht u hu hn
      exact h3 t (by rw [e]; exact List.mem_append.2 (.inl ht)) u (by rw [e]; exact List.mem_append.2 (.inl hu)) hn
theorem diffGo_none : ∀ (l : List Ru) (P : List Tm) (i : Nat), Agree P → (diffGo P i l = -1 ↔ Agree (P ++ l.flatMap atomsOf))
  | [], P, i, h => by simp [diffGo, h]
  | r :: l, P, i, h => by
    simp only [diffGo, List.flatMap_cons]
    rw [← List.append_assoc]
    cases hc : ruleConf P (atomsOf r) with
    | true =>
      rw [if_pos rfl]
      constructor
      · intro h1; omega
      · intro h1
        have : Agree (P ++ atomsOf r) := fun t ht u hu hn => h1 t (List.mem_append.2 (.inl ht)) u (List.mem_append.2 (.inl hu)) hn
        rw [← ruleConf_false _ _ h, hc] at this
        cases this
    | false =>
      rw [if_neg (by simp)]
      exact diffGo_none l _ _ ((ruleConf_false _ _ h).1 hc)
theorem diffOf_none (l : List Ru) : diffOf l = -1 ↔ Agree (l.flatMap atomsOf) := by
  unfold diffOf
  rw [diffGo_none l [] 0 (fun t ht => by cases ht)]
  simp

/-! ### roles -/
def memT (o : List Tm) (t : Tm) : Bool := o.any fun u => tmEq u t
def stepRole (o : List Tm) (r : Ru) : List Tm :=
  if r.head.name = bRole ∧ r.body.length = 0 then
    match r.head.args with
    | [x] => if memT o x = true then o else o ++ [x]
    | _ => o
  else o
def rolesOf (l : List Ru) : List Tm := l.foldl stepRole []
theorem rolesOf_snoc (l : List Ru) (k : Nat) (h : k < l.length) : rolesOf (l.take (k + 1)) = stepRole (rolesOf (l.take k)) l[k] := by
  simp only [rolesOf, take_snoc l k h, List.foldl_append, List.foldl_cons, List.foldl_nil]
theorem rolesOf_skip {o : List Tm} {r : Ru} (h : r.head.name ≠ bRole) : stepRole o r = o := by
  unfold stepRole; rw [if_neg (fun h1 => h h1.1)]
def bChance : ByteArray := ⟨#[99, 104, 97, 110, 99, 101]⟩
def isChance (t : Tm) : Bool := decide (t.name = bChance) && decide (t.args.length = 0)
def idxOf (q : Tm → Bool) (l : List Tm) : Int := match l.findIdx? q with | some i => (i : Int) | none => -1
def chanceOf (l : List Ru) : Int := idxOf isChance (rolesOf l)
def bSees : ByteArray := ⟨#[115, 101, 101, 115]⟩
def hiddenB (l : List Ru) : Bool := l.any fun r => decide (r.head.name = bSees)

/-! ### dependencies -/
def bInit : ByteArray := ⟨#[105, 110, 105, 116]⟩
def bTrue : ByteArray := ⟨#[116, 114, 117, 101]⟩
def bDoes : ByteArray := ⟨#[100, 111, 101, 115]⟩
def bLegal : ByteArray := ⟨#[108, 101, 103, 97, 108]⟩
def bGoal : ByteArray := ⟨#[103, 111, 97, 108]⟩
def bTerminal : ByteArray := ⟨#[116, 101, 114, 109, 105, 110, 97, 108]⟩
noncomputable def onB (es : List Ed) (f t : ByteArray) : Bool := hasS (reachOf es f) t
noncomputable def depsB (es : List Ed) : Bool := onB es bInit bTrue || (onB es bInit bDoes || (onB es bLegal bDoes || (onB es bGoal bDoes || onB es bTerminal bDoes)))
theorem onB_mono {es fs : List Ed} (h : ∀ e ∈ es, e ∈ fs) {f t : ByteArray} (ho : onB fs f t = false) : onB es f t = false := by
  cases hx : onB es f t with
  | false => rfl
  | true =>
    simp only [onB, hasS, decide_eq_true_eq, decide_eq_false_iff_not, mem_reachOf] at ho hx
    exact absurd (hx.mono h) ho
theorem depsB_mono {es fs : List Ed} (h : ∀ e ∈ es, e ∈ fs) (hd : depsB fs = false) : depsB es = false := by
  simp only [depsB, Bool.or_eq_false_iff] at hd ⊢
  obtain ⟨h1, h2, h3, h4, h5⟩ := hd
  exact ⟨onB_mono h h1, onB_mono h h2, onB_mono h h3, onB_mono h h4, onB_mono h h5⟩

/-! ### descriptions -/
/-- the first rule with an error -/
def eachGo : Nat → List Ru → Option (Nat × Int)
  | _, [] => none
  | i, r :: l => if ruleE r = 0 then eachGo (i + 1) l else some (i, ruleE r)
theorem eachGo_none : ∀ (l : List Ru) (i : Nat), eachGo i l = none ↔ ∀ r ∈ l, ruleE r = 0
  | [], i => by simp [eachGo]
  | r :: l, i => by
    unfold eachGo
    split
    · rename_i h
      rw [eachGo_none l (i + 1)]
      simp [h]
    · rename_i h
      simp [h]
open Classical in
noncomputable def strE (es : List Ed) : Int := if ∃ f, Strat es f then 0 else 10
def rolesBad (l : List Ru) : Bool := decide ((rolesOf l).length = 0) || (decide (4 < (rolesOf l).length) || (decide ((rolesOf l).length = 1) && decide (chanceOf l = 0)))
noncomputable def rulesE (l : List Ru) : Int × Int :=
  if 128 < l.length then (128, 2)
  else match eachGo 0 l with
  | some x => (x.1, x.2)
  | none =>
    if 0 ≤ diffOf l then (diffOf l, 5)
    else if rolesBad l = true then (0, 8)
    else if depsB (edgesOf l) = true then (0, 9)
    else (0, strE (edgesOf l))
theorem strE_ok {es : List Ed} : strE es = 0 ↔ ∃ f, Strat es f := by
  unfold strE
  split
  · rename_i h; simp [h]
  · rename_i h; simp [h]
/-- a valid description -/
theorem rulesE_ok {l : List Ru} (h : (rulesE l).2 = 0) : l.length ≤ 128 ∧ (∀ r ∈ l, ruleE r = 0) ∧ Agree (l.flatMap atomsOf) ∧ rolesBad l = false ∧ depsB (edgesOf l) = false ∧ ∃ f, Strat (edgesOf l) f := by
  unfold rulesE at h
  split at h
  · cases h
  · rename_i h1
    cases he : eachGo 0 l with
    | some x =>
      rw [he] at h
      simp only at h
      exfalso
      have key : ∀ (l : List Ru) (i : Nat) (x : Nat × Int), eachGo i l = some x → x.2 ≠ 0 := by
        intro l
        induction l with
        | nil => intro i x hx; cases hx
        | cons r l ih =>
          intro i x hx
          unfold eachGo at hx
          split at hx
          · exact ih _ _ hx
          · rename_i hr; injection hx with hx; subst hx; exact hr
      exact key l 0 x he h
    | none =>
      rw [he] at h
      simp only at h
      have h2 := (eachGo_none l 0).1 he
      split at h
      · cases h
      · rename_i h3
        split at h
        · cases h
        · rename_i h4
          split at h
          · cases h
          · rename_i h5
            refine ⟨by omega, h2, (diffOf_none l).1 ?_, by simpa using h4, by simpa using h5, strE_ok.1 h⟩
            rcases diffGo_nonneg l [] 0 with h6 | h6
            · exact h6
            · exact absurd h6 h3
theorem rulesE_of {l : List Ru} (h1 : l.length ≤ 128) (h2 : ∀ r ∈ l, ruleE r = 0) (h3 : Agree (l.flatMap atomsOf)) (h4 : rolesBad l = false) (h5 : depsB (edgesOf l) = false) (h6 : ∃ f, Strat (edgesOf l) f) : rulesE l = (0, 0) := by
  unfold rulesE
  rw [if_neg (by omega), (eachGo_none l 0).2 h2]
  simp only
  rw [(diffOf_none l).2 h3, if_neg (by omega), if_neg (by simp [h4]), if_neg (by simp [h5]), strE_ok.2 h6]
/-- a valid description stays valid without a rule that is no role fact -/
theorem rulesE_part {l : List Ru} {i : Nat} (hi : i < l.length) (h : (rulesE l).2 = 0) (hr : l[i].head.name ≠ bRole) : rulesE (l.take i ++ l.drop (i + 1)) = (0, 0) := by
  obtain ⟨h1, h2, h3, h4, h5, f, h6⟩ := rulesE_ok h
  have hsub : ∀ r ∈ l.take i ++ l.drop (i + 1), r ∈ l := fun r hr => by
    rcases List.mem_append.1 hr with h | h
    · exact List.mem_of_mem_take h
    · exact List.mem_of_mem_drop h
  have hroles : rolesOf (l.take i ++ l.drop (i + 1)) = rolesOf l := by
    have e : l = l.take i ++ (l[i] :: l.drop (i + 1)) := by rw [← List.drop_eq_getElem_cons hi, List.take_append_drop]
    conv => rhs; rw [e]
    simp only [rolesOf, List.foldl_append, List.foldl_cons]
    rw [rolesOf_skip hr]
  refine rulesE_of (by simp; omega) (fun r hr => h2 r (hsub r hr)) ?_ ?_ (depsB_mono (edges_sub hsub) h5) ⟨f, h6.sub (edges_sub hsub)⟩
  · intro t ht u hu hn
    rw [List.mem_flatMap] at ht hu
    obtain ⟨r, hr, ht⟩ := ht
    obtain ⟨r', hr', hu⟩ := hu
    exact h3 t (List.mem_flatMap.2 ⟨r, hsub r hr, ht⟩) u (List.mem_flatMap.2 ⟨r', hsub r' hr', hu⟩) hn
  · unfold rolesBad chanceOf at h4 ⊢
    rw [hroles]; exact h4
end

section
mutual
theorem lvsT_sz : ∀ t : Tm, (lvsT t).length ≤ t.sz
  | .mk n [] => by simp [lvsT, Tm.sz]
  | .mk n (a :: as) => by
    have := lvsL_szs (a :: as)
    simp only [lvsT, Tm.sz]; omega
theorem lvsL_szs : ∀ ts : List Tm, (lvsL ts).length ≤ szs ts
  | [] => by simp [lvsL]
  | t :: ts => by
    have h1 := lvsT_sz t
    have h2 := lvsL_szs ts
    simp only [lvsL, szs, List.length_append]; omega
end
mutual
theorem lvsT_nice (B b : Nat) : ∀ t : Tm, Nice B b t → ∀ s ∈ lvsT t, s.size ≤ B
  | .mk n [], h, s, hs => by
    simp only [Nice] at h
    simp only [lvsT, List.mem_singleton] at hs
    subst hs; exact h.1
  | .mk n (a :: as), h, s, hs => by
    simp only [Nice] at h
    simp only [lvsT] at hs
    exact lvsL_nice B b (a :: as) h.2.2 s hs
theorem lvsL_nice (B b : Nat) : ∀ ts : List Tm, NiceL B b ts → ∀ s ∈ lvsL ts, s.size ≤ B
  | [], _, s, hs => by simp [lvsL] at hs
  | t :: ts, h, s, hs => by
    simp only [NiceL] at h
    simp only [lvsL, List.mem_append] at hs
    rcases hs with hs | hs
    · exact lvsT_nice B b t h.1 s hs
    · exact lvsL_nice B b ts h.2 s hs
end
theorem szs_mul (m : Nat) : ∀ ts : List Tm, (∀ t ∈ ts, t.sz ≤ m) → szs ts ≤ ts.length * m
  | [], _ => by simp [szs]
  | t :: ts, h => by
    have h1 := h t (by simp)
    have h2 := szs_mul m ts (fun x hx => h x (by simp [hx]))
    simp only [szs, List.length_cons, Nat.add_mul]; omega
/-- a rule that is small enough -/
structure RuOk (B b : Nat) (r : Ru) : Prop where
  nice : ∀ t ∈ atomsOf r, Nice B b t
  sz : ∀ t ∈ atomsOf r, t.sz ≤ 1000
  len : r.body.length ≤ 100000
  B : B ≤ maxLen
section
variable {B b : Nat} {r : Ru}
theorem atomsOf_len (r : Ru) : (atomsOf r).length = r.body.length + 1 := by simp [atomsOf]
theorem mem_needOf {t : Tm} (h : t ∈ needOf r) : t ∈ atomsOf r := by
  simp only [needOf, atomsOf, List.mem_cons, List.mem_map, List.mem_filter] at h ⊢
  rcases h with h | ⟨x, ⟨hx, _⟩, e⟩
  · exact .inl h
  · exact .inr ⟨x, hx, e⟩
theorem mem_bindOf {t : Tm} (h : t ∈ bindOf r) : t ∈ atomsOf r := by
  simp only [bindOf, atomsOf, List.mem_cons, List.mem_map, List.mem_filter] at h ⊢
  obtain ⟨x, ⟨hx, _⟩, e⟩ := h
  exact .inr ⟨x, hx, e⟩
theorem needOf_len (r : Ru) : (needOf r).length ≤ r.body.length + 1 := by
  have := List.length_filter_le (fun x => !bindsB x) r.body
  simp only [needOf, List.length_cons, List.length_map]; omega
theorem bindOf_len (r : Ru) : (bindOf r).length ≤ r.body.length := by
  have := List.length_filter_le bindsB r.body
  simp only [bindOf, List.length_map]; omega
theorem RuOk.lvs (h : RuOk B b r) {ts : List Tm} (hm : ∀ t ∈ ts, t ∈ atomsOf r) (hl : ts.length ≤ r.body.length + 1) : (lvsL ts).length ≤ 1000000000 ∧ ∀ s ∈ lvsL ts, s.size ≤ maxLen := by
  have h1 := szs_mul 1000 ts (fun t ht => h.sz t (hm t ht))
  have h2 := lvsL_szs ts
  have h3 := h.len
  have h4 := h.B
  refine ⟨by omega, fun s hs => ?_⟩
  have := lvsL_nice B b ts (niceL_mem.2 fun t ht => h.nice t (hm t ht)) s hs
  omega
theorem RuOk.need (h : RuOk B b r) : (lvsL (needOf r)).length ≤ 1000000000 ∧ ∀ s ∈ lvsL (needOf r), s.size ≤ maxLen := h.lvs (fun _ => mem_needOf) (needOf_len r)
theorem RuOk.bind (h : RuOk B b r) : (lvsL (bindOf r)).length ≤ 1000000000 ∧ ∀ s ∈ lvsL (bindOf r), s.size ≤ maxLen := h.lvs (fun _ => mem_bindOf) (by have := bindOf_len r; omega)
theorem RuOk.all (h : RuOk B b r) : (lvsL (atomsOf r)).length ≤ 1000000000 ∧ ∀ s ∈ lvsL (atomsOf r), s.size ≤ maxLen := h.lvs (fun _ h => h) (by rw [atomsOf_len]; exact Nat.le_refl _)
theorem RuOk.dep (h : RuOk B b r) : ∀ t ∈ atomsOf r, t.dep ≤ 1000000000 := fun t ht => by
  have h1 := dep_le_sz t
  have h2 := h.sz t ht
  omega
end
/-- the first error, found at k -/
theorem atomsE_at : ∀ (ts : List Tm) (hd : Bool) (k : Nat) (h : k < ts.length), (∀ j (hj : j < k), atomE (ts[j]'(by omega)) (hd && decide (j = 0)) = 0) → atomE ts[k] (hd && decide (k = 0)) ≠ 0 → atomsE hd ts = atomE ts[k] (hd && decide (k = 0))
  | [], _, k, h, _, _ => by simp at h
  | t :: ts, hd, 0, h, hn, hk => by
    simp only [decide_true, Bool.and_true, List.getElem_cons_zero] at hk ⊢
    unfold atomsE; rw [if_neg hk]
  | t :: ts, hd, k + 1, h, hn, hk => by
    have h0 := hn 0 (by omega)
    simp only [decide_true, Bool.and_true, List.getElem_cons_zero] at h0
    unfold atomsE; rw [if_pos h0]
    have e : (hd && decide (k + 1 = 0)) = (false && decide (k = 0)) := by simp
    simp only [List.getElem_cons_succ] at hk ⊢
    rw [e] at hk ⊢
    refine atomsE_at ts false k (by simpa using h) (fun j hj => ?_) hk
    have := hn (j + 1) (by omega)
    simpa using this
theorem atomsE_none : ∀ (ts : List Tm) (hd : Bool), (∀ j (hj : j < ts.length), atomE ts[j] (hd && decide (j = 0)) = 0) → atomsE hd ts = 0
  | [], _, _ => rfl
  | t :: ts, hd, hn => by
    have h0 := hn 0 (by simp)
    simp only [decide_true, Bool.and_true, List.getElem_cons_zero] at h0
    unfold atomsE; rw [if_pos h0]
    refine atomsE_none ts false (fun j hj => ?_)
    have := hn (j + 1) (by simpa using hj)
    simpa using this
theorem role_kw : kwOf bRole = some ⟨bRole, 1, true, true⟩ := by kernel_rfl
/-- a head without error that is a role has one argument -/
theorem role_args {t : Tm} (h : atomE t true = 0) (hn : t.name = bRole) : ∃ x, t.args = [x] := by
  unfold atomE at h
  rw [hn, role_kw] at h
  simp only at h
  by_cases h1 : (!nameB bRole || misT t) = true
  · rw [if_pos h1] at h; omega
  · rw [if_neg h1] at h
    by_cases h2 : (wideT t || !decide (t.args.length = 1)) = true
    · rw [if_pos h2] at h; omega
    · simp only [Bool.or_eq_true, Bool.not_eq_true', decide_eq_false_iff_not, not_or, Decidable.not_not] at h2
      exact List.length_eq_one_iff.1 h2.2
end
end Go.Proofs.YtgljjapglgcpdaaGreatDoor
