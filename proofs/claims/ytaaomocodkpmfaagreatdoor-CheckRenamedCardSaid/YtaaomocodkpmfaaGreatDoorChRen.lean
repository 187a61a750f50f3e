
/-
  Renaming the variables of a rule by names that differ leaves what check.Rule answers as it is. No program is in sight here.
-/
import Derived.Test.YtaaomocodkpmfaaGreatDoorChPlain
namespace Go.Proofs.YtaaomocodkpmfaaGreatDoor

section
mutual
/-- a term with its variables renamed -/
def subT (f : ByteArray → ByteArray) : Tm → Tm
  | .mk n [] => .mk (if varB n = true then f n else n) []
  | .mk n (a :: as) => .mk n (subL f (a :: as))
def subL (f : ByteArray → ByteArray) : List Tm → List Tm | [] => [] | t :: ts => subT f t :: subL f ts
end
def ren (f : ByteArray → ByteArray) (n : ByteArray) : ByteArray := if varB n = true then f n else n
def subLi (f : ByteArray → ByteArray) (x : Li) : Li := ⟨x.nt, subT f x.atom⟩
def subR (f : ByteArray → ByteArray) (r : Ru) : Ru := ⟨subT f r.head, r.body.map (subLi f)⟩
def OnV (f : ByteArray → ByteArray) (L : List ByteArray) : Prop := ∀ n ∈ L, varB n = true → varB (f n) = true
def InjV (f : ByteArray → ByteArray) (L : List ByteArray) : Prop := ∀ n ∈ L, ∀ m ∈ L, varB n = true → varB m = true → f n = f m → n = m
variable {f : ByteArray → ByteArray}
theorem OnV.sub {L M : List ByteArray} (h : OnV f M) (hs : ∀ n ∈ L, n ∈ M) : OnV f L := fun n hn => h n (hs n hn)
theorem subL_map : ∀ ts : List Tm, subL f ts = ts.map (subT f)
  | [] => by simp [subL]
  | t :: ts => by simp [subL, subL_map ts]
theorem subT_len : ∀ t : Tm, (subT f t).args.length = t.args.length
  | .mk n [] => by simp [subT, Tm.args]
  | .mk n (a :: as) => by simp [subT, Tm.args, subL_map]
theorem subT_args : ∀ t : Tm, (subT f t).args = t.args.map (subT f)
  | .mk n [] => by simp [subT, Tm.args]
  | .mk n (a :: as) => by simp only [subT, Tm.args, subL_map]
theorem nameB_var {n : ByteArray} (h : varB n = true) : nameB n = false := by
  simp only [varB, spelt, Bool.and_eq_true, uppC, decide_eq_true_eq] at h
  simp only [nameB, spelt, lowC]
  rw [decide_eq_false (p := 97 ≤ byteAt n 0) (by omega)]
  simp
mutual
theorem lvsT_sub : ∀ t : Tm, lvsT (subT f t) = (lvsT t).map (ren f)
  | .mk n [] => by simp [subT, lvsT, ren]
  | .mk n (a :: as) => by
    have := lvsL_sub (a :: as)
    simp only [subL] at this
    simp only [subT, subL, lvsT]; exact this
theorem lvsL_sub : ∀ ts : List Tm, lvsL (subL f ts) = (lvsL ts).map (ren f)
  | [] => by simp [subL, lvsL]
  | t :: ts => by simp only [subL, lvsL, List.map_append, lvsT_sub t, lvsL_sub ts]
end
theorem lvsL_map (ts : List Tm) : lvsL (ts.map (subT f)) = (lvsL ts).map (ren f) := by rw [← subL_map, lvsL_sub]
mutual
theorem misT_sub : ∀ t : Tm, OnV f (lvsT t) → misT (subT f t) = misT t
  | .mk n [], h => by
    by_cases hv : varB n = true
    · have := h n (by simp [lvsT]) hv
      simp [subT, misT, hv, this]
    · simp [subT, hv]
  | .mk n (a :: as), h => by
    have := misL_sub (a :: as) (by simpa only [lvsT] using h)
    simp only [subL] at this
    simp only [subT, subL, misT, this]
theorem misL_sub : ∀ ts : List Tm, OnV f (lvsL ts) → misL (subL f ts) = misL ts
  | [], _ => by simp [subL]
  | t :: ts, h => by
    simp only [subL, misL]
    rw [misT_sub t (fun n hn => h n (by simp only [lvsL, List.mem_append]; exact .inl hn)), misL_sub ts (fun n hn => h n (by simp only [lvsL, List.mem_append]; exact .inr hn))]
end
mutual
theorem shape_sub : ∀ t : Tm, wideT (subT f t) = wideT t ∧ (subT f t).dep = t.dep ∧ (subT f t).sz = t.sz
  | .mk n [] => by simp [subT, wideT, Tm.dep, Tm.sz]
  | .mk n (a :: as) => by
    have := shapes_sub (a :: as)
    simp only [subT, wideT, Tm.dep, Tm.sz]
    rw [this.1, this.2.1, this.2.2, subL_map, List.length_map]
    exact ⟨rfl, rfl, rfl⟩
theorem shapes_sub : ∀ ts : List Tm, wideL (subL f ts) = wideL ts ∧ deps (subL f ts) = deps ts ∧ szs (subL f ts) = szs ts
  | [] => by simp [subL]
  | t :: ts => by
    have h1 := shape_sub t
    have h2 := shapes_sub ts
    simp only [subL, wideL, deps, szs]
    rw [h1.1, h1.2.1, h1.2.2, h2.1, h2.2.1, h2.2.2]
    exact ⟨rfl, rfl, rfl⟩
end
mutual
theorem nice_sub {B b : Nat} : ∀ t : Tm, Nice B b t → (∀ n ∈ lvsT t, varB n = true → (f n).size ≤ B) → Nice B b (subT f t)
  | .mk n [], h, hf => by
    simp only [Nice] at h
    simp only [subT, Nice]
    refine ⟨?_, h.2.1, trivial⟩
    split
    · exact hf n (by simp [lvsT]) (by assumption)
    · exact h.1
  | .mk n (a :: as), h, hf => by
    simp only [Nice] at h
    have := niceL_sub (a :: as) h.2.2 (by simpa only [lvsT] using hf)
    simp only [subT, Nice]
    exact ⟨h.1, by rw [subL_map, List.length_map]; exact h.2.1, this⟩
theorem niceL_sub {B b : Nat} : ∀ ts : List Tm, NiceL B b ts → (∀ n ∈ lvsL ts, varB n = true → (f n).size ≤ B) → NiceL B b (subL f ts)
  | [], _, _ => by simp [subL, NiceL]
  | t :: ts, h, hf => by
    simp only [NiceL] at h
    simp only [subL, NiceL]
    exact ⟨nice_sub t h.1 (fun n hn => hf n (by simp only [lvsL, List.mem_append]; exact .inl hn)), niceL_sub ts h.2 (fun n hn => hf n (by simp only [lvsL, List.mem_append]; exact .inr hn))⟩
end
/-- a name that is no variable stands before and behind -/
theorem subT_named : ∀ (t : Tm) (c : ByteArray), OnV f (lvsT t) → varB c = false → ((subT f t).name = c ↔ t.name = c)
  | .mk n [], c, h, hc => by
    simp only [subT, Tm.name]
    by_cases hv : varB n = true
    · have h1 := h n (by simp [lvsT]) hv
      rw [if_pos hv]
      constructor
      · intro e; rw [e, hc] at h1; cases h1
      · intro e; rw [e, hc] at hv; cases hv
    · rw [if_neg hv]
  | .mk n (a :: as), c, _, _ => by simp only [subT, Tm.name]
theorem subT_nameB : ∀ t : Tm, OnV f (lvsT t) → nameB (subT f t).name = nameB t.name
  | .mk n [], h => by
    simp only [subT, Tm.name]
    by_cases hv : varB n = true
    · rw [if_pos hv, nameB_var hv, nameB_var (h n (by simp [lvsT]) hv)]
    · rw [if_neg hv]
  | .mk n (a :: as), _ => by simp only [subT, Tm.name]
theorem subT_name_of : ∀ t : Tm, nameB t.name = true → (subT f t).name = t.name
  | .mk n [], h => by
    simp only [subT, Tm.name] at h ⊢
    rw [if_neg]
    intro hv
    rw [nameB_var hv] at h; cases h
  | .mk n (a :: as), _ => by simp only [subT, Tm.name]
theorem atomE_sub (t : Tm) (hd : Bool) (h : OnV f (lvsT t)) : atomE (subT f t) hd = atomE t hd := by
  unfold atomE
  rw [subT_nameB t h, misT_sub t h, (shape_sub t).1, (shape_sub t).2.1, subT_len]
  cases hb : nameB t.name with
  | false => rfl
  | true => rw [subT_name_of t hb]
theorem atomsE_sub : ∀ (ts : List Tm) (hd : Bool), OnV f (lvsL ts) → atomsE hd (ts.map (subT f)) = atomsE hd ts
  | [], _, _ => rfl
  | t :: ts, hd, h => by
    simp only [List.map_cons, atomsE]
    rw [atomE_sub t hd (fun n hn => h n (by simp only [lvsL, List.mem_append]; exact .inl hn)), atomsE_sub ts false (fun n hn => h n (by simp only [lvsL, List.mem_append]; exact .inr hn))]
theorem atomsOf_sub (r : Ru) : atomsOf (subR f r) = (atomsOf r).map (subT f) := by
  simp [atomsOf, subR, subLi, List.map_map, Function.comp_def]
theorem fold_ren {S : List ByteArray} (h1 : OnV f S) (h2 : InjV f S) : ∀ (l o : List ByteArray), (∀ n ∈ l, n ∈ S) → (∀ n ∈ o, n ∈ S ∧ varB n = true) → (l.map (ren f)).foldl addV (o.map f) = (l.foldl addV o).map f
  | [], o, _, _ => rfl
  | x :: l, o, hl, ho => by
    simp only [List.map_cons, List.foldl_cons]
    have hx := hl x (by simp)
    have he : addV (o.map f) (ren f x) = (addV o x).map f := by
      by_cases hv : varB x = true
      · have hh : hasS (o.map f) (f x) = hasS o x := by
          simp only [hasS]
          rw [decide_eq_decide, List.mem_map]
          constructor
          · rintro ⟨y, hy, e⟩
            rw [← h2 y (ho y hy).1 x hx (ho y hy).2 hv e]; exact hy
          · exact fun h => ⟨x, h, rfl⟩
        unfold addV ren
        rw [if_pos hv, h1 x hx hv, hv, hh]
        split <;> simp
      · have hv' : varB x = false := by simpa using hv
        unfold addV ren
        rw [if_neg hv, hv']
        simp
    rw [he]
    refine fold_ren h1 h2 l (addV o x) (fun n hn => hl n (by simp [hn])) (fun n hn => ?_)
    unfold addV at hn
    split at hn
    · rename_i hc
      simp only [Bool.and_eq_true] at hc
      rcases List.mem_append.1 hn with h | h
      · exact ho n h
      · rw [List.mem_singleton] at h; subst h; exact ⟨hx, hc.1⟩
    · exact ho n hn
theorem varsL_sub {S : List ByteArray} (h1 : OnV f S) (h2 : InjV f S) (ts : List Tm) (hs : ∀ n ∈ lvsL ts, n ∈ S) : varsL (ts.map (subT f)) = (varsL ts).map f := by
  have := fold_ren h1 h2 (lvsL ts) [] hs (by simp)
  simpa only [varsL, lvsL_map, List.map_nil] using this
theorem mem_lvsL_of {ts : List Tm} {t : Tm} {n : ByteArray} (ht : t ∈ ts) (hn : n ∈ lvsT t) : n ∈ lvsL ts := by
  induction ts with
  | nil => cases ht
  | cons x r ih =>
    simp only [lvsL, List.mem_append]
    rcases List.mem_cons.1 ht with rfl | h
    · exact .inl hn
    · exact .inr (ih h)
theorem lvsL_inc {ts us : List Tm} (h : ∀ t ∈ ts, t ∈ us) : ∀ n ∈ lvsL ts, n ∈ lvsL us := by
  induction ts with
  | nil => intro n hn; simp [lvsL] at hn
  | cons x r ih =>
    intro n hn
    simp only [lvsL, List.mem_append] at hn
    rcases hn with hn | hn
    · exact mem_lvsL_of (h x (by simp)) hn
    · exact ih (fun t ht => h t (by simp [ht])) n hn
theorem bindsB_sub (x : Li) (h : OnV f (lvsT x.atom)) : bindsB (subLi f x) = bindsB x := by
  have e : decide ((subLi f x).atom.name = dis) = decide (x.atom.name = dis) := decide_eq_decide.2 (subT_named x.atom dis h (by decide))
  unfold bindsB
  rw [e]
  rfl
theorem filter_sub (q : Li → Bool) (l : List Li) (h : ∀ x ∈ l, q (subLi f x) = q x) : (l.map (subLi f)).filter q = (l.filter q).map (subLi f) := by
  induction l with
  | nil => rfl
  | cons x r ih =>
    simp only [List.map_cons, List.filter_cons]
    rw [h x (by simp), ih (fun y hy => h y (by simp [hy]))]
    split <;> simp
theorem body_on {r : Ru} (h : OnV f (lvsL (atomsOf r))) {x : Li} (hx : x ∈ r.body) : OnV f (lvsT x.atom) :=
  h.sub fun _ hn => mem_lvsL_of (List.mem_cons_of_mem _ (List.mem_map.2 ⟨x, hx, rfl⟩)) hn
theorem needOf_sub (r : Ru) (h : OnV f (lvsL (atomsOf r))) : needOf (subR f r) = (needOf r).map (subT f) := by
  simp only [needOf, subR, List.map_cons]
  rw [filter_sub _ _ (fun x hx => by simp only [bindsB_sub x (body_on h hx)])]
  simp [subLi, List.map_map, Function.comp_def]
theorem bindOf_sub (r : Ru) (h : OnV f (lvsL (atomsOf r))) : bindOf (subR f r) = (bindOf r).map (subT f) := by
  simp only [bindOf, subR]
  rw [filter_sub _ _ (fun x hx => bindsB_sub x (body_on h hx))]
  simp [subLi, List.map_map, Function.comp_def]
theorem safeB_sub (r : Ru) (h1 : OnV f (lvsL (atomsOf r))) (h2 : InjV f (lvsL (atomsOf r))) : safeB (subR f r) = safeB r := by
  unfold safeB
  rw [needOf_sub r h1, bindOf_sub r h1]
  have hn := lvsL_inc (fun t (h : t ∈ needOf r) => mem_needOf h)
  have hb := lvsL_inc (fun t (h : t ∈ bindOf r) => mem_bindOf h)
  rw [varsL_sub h1 h2 _ hn, varsL_sub h1 h2 _ hb]
  rw [Bool.eq_iff_iff, List.all_eq_true, List.all_eq_true]
  constructor
  · intro h s hs
    have h3 := h (f s) (List.mem_map.2 ⟨s, hs, rfl⟩)
    simp only [hasS, decide_eq_true_eq, List.mem_map] at h3 ⊢
    obtain ⟨y, hy, e⟩ := h3
    have hs' := (mem_varsL _ _).1 hs
    have hy' := (mem_varsL _ _).1 hy
    rw [← h2 y (hb _ hy'.1) s (hn _ hs'.1) hy'.2 hs'.2 e]
    exact hy
  · intro h s hs
    obtain ⟨y, hy, rfl⟩ := List.mem_map.1 hs
    have h3 := h y hy
    simp only [hasS, decide_eq_true_eq] at h3 ⊢
    exact List.mem_map.2 ⟨y, h3, rfl⟩
theorem roleBad_sub (r : Ru) (h : OnV f (lvsL (atomsOf r))) : roleBad (subR f r) = roleBad r := by
  have hh : OnV f (lvsT r.head) := h.sub fun _ hn => mem_lvsL_of (by simp [atomsOf]) hn
  have e : decide ((subR f r).head.name = bRole) = decide (r.head.name = bRole) := decide_eq_decide.2 (subT_named r.head bRole hh (by decide))
  have e2 : (subR f r).body.length = r.body.length := by simp [subR]
  have e3 : (subR f r).head.args = r.head.args.map (subT f) := subT_args r.head
  unfold roleBad
  rw [e, e2, e3]
  cases ha : r.head.args with
  | nil => rfl
  | cons x xs =>
    have hx : OnV f (lvsT x) := by
      refine hh.sub fun n hn => ?_
      obtain ⟨⟨nm, ags⟩, body⟩ := r
      simp only [Tm.args] at ha
      subst ha
      simp only [lvsT, lvsL, List.mem_append]
      exact .inl hn
    simp only [List.map_cons]
    rw [subT_len, subT_nameB x hx]
theorem ruleE_sub (r : Ru) (h1 : OnV f (lvsL (atomsOf r))) (h2 : InjV f (lvsL (atomsOf r))) : ruleE (subR f r) = ruleE r := by
  unfold ruleE
  rw [safeB_sub r h1 h2, roleBad_sub r h1, atomsOf_sub, atomsE_sub _ _ h1, varsL_sub h1 h2 _ (fun _ h => h), List.length_map]
  simp only [subR, List.length_map]
theorem ruOk_sub {B b : Nat} {r : Ru} (h : RuOk B b r) (hf : ∀ n ∈ lvsL (atomsOf r), varB n = true → (f n).size ≤ B) : RuOk B b (subR f r) := by
  refine ⟨?_, ?_, by simpa [subR] using h.len, h.B⟩
  · rw [atomsOf_sub]
    intro t ht
    obtain ⟨x, hx, rfl⟩ := List.mem_map.1 ht
    exact nice_sub x (h.nice x hx) (fun n hn => hf n (mem_lvsL_of hx hn))
  · rw [atomsOf_sub]
    intro t ht
    obtain ⟨x, hx, rfl⟩ := List.mem_map.1 ht
    rw [(shape_sub x).2.2]; exact h.sz x hx
end

section
/-! ### the names by which ref07.Rename renames -/
/-- a number in decimal digits -/
def decB (n : Nat) : ByteArray := if n < 10 then ⟨#[(48 + n).toUInt8]⟩ else decB (n / 10) ++ ⟨#[(48 + n % 10).toUInt8]⟩
termination_by n
theorem dig_inj {a b : Nat} (ha : a < 10) (hb : b < 10) (h : (48 + a).toUInt8 = (48 + b).toUInt8) : a = b := by
  have := congrArg UInt8.toNat h
  simp at this
  omega
theorem decB_pos (n : Nat) : 1 ≤ (decB n).size := by
  rw [decB.eq_def n]
  split
  · exact Nat.le_refl _
  · rw [ByteArray.size_append]
    have : (⟨#[(48 + n % 10).toUInt8]⟩ : ByteArray).size = 1 := rfl
    omega
theorem decB_inj : ∀ n m : Nat, decB n = decB m → n = m := by
  intro n
  induction n using Nat.strongRecOn with
  | _ n ih =>
    intro m h
    rw [decB.eq_def n, decB.eq_def m] at h
    have one : ∀ k : Nat, (⟨#[(48 + k).toUInt8]⟩ : ByteArray).size = 1 := fun _ => rfl
    split at h <;> split at h
    · injection h with h
      injection h with h
      injection h with h
      exact dig_inj (by assumption) (by assumption) h
    · exfalso
      have h1 := congrArg ByteArray.size h
      have h2 := decB_pos (m / 10)
      rw [ByteArray.size_append, one, one] at h1
      omega
    · exfalso
      have h1 := congrArg ByteArray.size h
      have h2 := decB_pos (n / 10)
      rw [ByteArray.size_append, one, one] at h1
      omega
    · rename_i h1 h2
      have hd := congrArg ByteArray.data h
      rw [ByteArray.data_append, ByteArray.data_append] at hd
      have hl := congrArg Array.toList hd
      rw [Array.toList_append, Array.toList_append] at hl
      have h3 := List.append_inj' hl rfl
      have h4 : decB (n / 10) = decB (m / 10) := by
        have := h3.1
        cases e1 : decB (n / 10); cases e2 : decB (m / 10)
        rw [e1, e2] at this
        simp only at this
        rw [Array.toList_inj] at this
        rw [this]
      have h5 := ih (n / 10) (by omega) _ h4
      have h6 := h3.2
      simp only [List.cons.injEq, and_true] at h6
      have h7 := dig_inj (Nat.mod_lt _ (by omega)) (Nat.mod_lt _ (by omega)) h6
      omega
def qn (i : Nat) : ByteArray := ⟨#[81]⟩ ++ decB (i + 1)
theorem qn_inj {i j : Nat} (h : qn i = qn j) : i = j := by
  have h1 := congrArg ByteArray.data h
  unfold qn at h1
  rw [ByteArray.data_append, ByteArray.data_append] at h1
  have h2 := Array.append_inj_right h1 rfl
  have h3 : decB (i + 1) = decB (j + 1) := by
    cases e1 : decB (i + 1); cases e2 : decB (j + 1)
    rw [e1, e2] at h2
    simp only at h2
    rw [h2]
  have := decB_inj _ _ h3
  omega
abbrev Bd := ByteArray × ByteArray
def enB (b : Bd) : List Value := [.string b.1, .string b.2, .slice none 0 0]
/-- the bindings of Rename -/
def bnds (L : List ByteArray) : List Bd := L.mapIdx fun i n => (n, qn i)
/-- what Lookup finds -/
def lkO (s : List Bd) (n : ByteArray) : Option ByteArray := (s.find? fun b => decide (b.1 = n)).map (·.2)
def lkF (s : List Bd) (n : ByteArray) : ByteArray := (lkO s n).getD n
theorem lkF_bnds {L : List ByteArray} {n : ByteArray} (hn : n ∈ L) : ∃ j, ∃ h : j < L.length, L[j] = n ∧ lkF (bnds L) n = qn j := by
  unfold lkF lkO
  cases hf : (bnds L).find? fun b => decide (b.1 = n) with
  | none =>
    exfalso
    rw [List.find?_eq_none] at hf
    obtain ⟨j, hj, rfl⟩ := List.getElem_of_mem hn
    have := hf (L[j], qn j) (by unfold bnds; rw [List.mem_mapIdx]; exact ⟨j, hj, rfl⟩)
    simp at this
  | some b =>
    have h1 := List.find?_some hf
    have h2 := List.mem_of_find?_eq_some hf
    unfold bnds at h2
    rw [List.mem_mapIdx] at h2
    obtain ⟨j, hj, rfl⟩ := h2
    exact ⟨j, hj, by simpa using h1, rfl⟩
theorem lkF_on {L S : List ByteArray} (hS : ∀ n ∈ S, varB n = true → n ∈ L) (hq : ∀ i, i < L.length → varB (qn i) = true) : OnV (lkF (bnds L)) S := fun n hn hv => by
  obtain ⟨j, hj, _, e⟩ := lkF_bnds (hS n hn hv)
  rw [e]; exact hq j hj
theorem lkF_inj {L S : List ByteArray} (hS : ∀ n ∈ S, varB n = true → n ∈ L) : InjV (lkF (bnds L)) S := fun n hn m hm hv hv' e => by
  obtain ⟨j, hj, e1, e2⟩ := lkF_bnds (hS n hn hv)
  obtain ⟨k, hk, e3, e4⟩ := lkF_bnds (hS m hm hv')
  rw [e2, e4] at e
  have := qn_inj e
  subst this
  rw [← e1, ← e3]
theorem varB_size {n : ByteArray} (h : varB n = true) : n.size ≤ 16 := by
  simp only [varB, spelt, Bool.and_eq_true, decide_eq_true_eq] at h
  exact h.2.1
/-- the rule that Rename hands back -/
def renR (r : Ru) : Ru := subR (lkF (bnds (varsL (atomsOf r)))) r
theorem ruleE_ren (r : Ru) (hq : ∀ i, i < (varsL (atomsOf r)).length → varB (qn i) = true) : ruleE (renR r) = ruleE r :=
  ruleE_sub r (lkF_on (fun _ hn hv => (mem_varsL _ _).2 ⟨hn, hv⟩) hq) (lkF_inj (fun _ hn hv => (mem_varsL _ _).2 ⟨hn, hv⟩))
theorem ruOk_ren {B b : Nat} {r : Ru} (h : RuOk B b r) (hB : 16 ≤ B) (hq : ∀ i, i < (varsL (atomsOf r)).length → varB (qn i) = true) : RuOk B b (renR r) :=
  ruOk_sub h fun n hn hv => by
    have := lkF_on (L := varsL (atomsOf r)) (S := lvsL (atomsOf r)) (fun _ hn hv => (mem_varsL _ _).2 ⟨hn, hv⟩) hq n hn hv
    have := varB_size this
    omega
end
end Go.Proofs.YtaaomocodkpmfaaGreatDoor
