
/-
  Names are ordered by their bytes; ascending lists without repetition are told by their members. No program is in sight here.
-/
import Derived.Test.YtlficnfkekggjaaGreatDoorTerms
namespace Go.Proofs.YtlficnfkekggjaaGreatDoor

theorem bl_irr : ∀ a : List UInt8, Op.bytesLess a a = false
  | [] => rfl
  | x :: r => by simp [Op.bytesLess, bl_irr r]
theorem bl_trans : ∀ a b c : List UInt8, Op.bytesLess a b = true → Op.bytesLess b c = true → Op.bytesLess a c = true
  | _, [], _, h, _ => by cases ‹List UInt8› <;> simp [Op.bytesLess] at h
  | _, _ :: _, [], _, h => by simp [Op.bytesLess] at h
  | [], _ :: _, _ :: _, _, _ => rfl
  | x :: a, y :: b, z :: c, h1, h2 => by
    simp only [Op.bytesLess, Bool.or_eq_true, decide_eq_true_eq, Bool.and_eq_true, beq_iff_eq, UInt8.lt_iff_toNat_lt] at h1 h2 ⊢
    rcases h1 with h1 | ⟨rfl, h1⟩ <;> rcases h2 with h2 | ⟨rfl, h2⟩
    · left; omega
    · left; exact h1
    · left; exact h2
    · right; exact ⟨rfl, bl_trans a b c h1 h2⟩
theorem bl_total : ∀ a b : List UInt8, Op.bytesLess a b = false → Op.bytesLess b a = false → a = b
  | [], [], _, _ => rfl
  | [], _ :: _, h, _ => by simp [Op.bytesLess] at h
  | _ :: _, [], _, h => by simp [Op.bytesLess] at h
  | x :: a, y :: b, h1, h2 => by
    simp only [Op.bytesLess, Bool.or_eq_false_iff, decide_eq_false_iff_not, Bool.and_eq_false_iff, beq_eq_false_iff_ne, UInt8.lt_iff_toNat_lt] at h1 h2
    have hxy : x = y := UInt8.toNat_inj.1 (by omega)
    subst hxy
    obtain ⟨_, h1 | h1⟩ := h1
    · exact absurd rfl h1
    · obtain ⟨_, h2 | h2⟩ := h2
      · exact absurd rfl h2
      · rw [bl_total a b h1 h2]

theorem sLt_irr (a : ByteArray) : sLt a a = false := bl_irr _
theorem sLt_trans {a b c : ByteArray} (h1 : sLt a b = true) (h2 : sLt b c = true) : sLt a c = true := bl_trans _ _ _ h1 h2
theorem sLt_total {a b : ByteArray} (h1 : sLt a b = false) (h2 : sLt b a = false) : a = b := toList_inj (bl_total _ _ h1 h2)
theorem sLt_asymm {a b : ByteArray} (h1 : sLt a b = true) : sLt b a = false := by
  cases h : sLt b a with
  | false => rfl
  | true => have := sLt_trans h1 h; rw [sLt_irr] at this; cases this
theorem sLt_ne {a b : ByteArray} (h1 : sLt a b = true) : a ≠ b := fun e => by subst e; rw [sLt_irr] at h1; cases h1

/-- a strict total order -/
structure STO {α : Type} (lt : α → α → Bool) : Prop where
  irr : ∀ a, lt a a = false
  trans : ∀ a b c, lt a b = true → lt b c = true → lt a c = true
  total : ∀ a b, lt a b = false → lt b a = false → a = b
theorem sLt_sto : STO sLt := ⟨sLt_irr, fun _ _ _ => sLt_trans, fun _ _ => sLt_total⟩
theorem edLess_sto : STO edLess where
  irr a := by simp [edLess]
  trans a b c h1 h2 := by
    unfold edLess at h1 h2 ⊢
    by_cases e1 : a.f = b.f
    · by_cases e2 : b.f = c.f
      · rw [if_pos e1] at h1; rw [if_pos e2] at h2; rw [if_pos (e1.trans e2)]
        by_cases e3 : a.t = b.t
        · by_cases e4 : b.t = c.t
          · rw [if_pos e3] at h1; rw [if_pos e4] at h2; rw [if_pos (e3.trans e4)]
            cases ha : a.n <;> cases hb : b.n <;> cases hc : c.n <;> simp_all
          · rw [if_neg e4] at h2; rw [if_neg (by rw [e3]; exact e4), e3]; exact h2
        · rw [if_neg e3] at h1
          by_cases e4 : b.t = c.t
          · rw [if_neg (by rw [← e4]; exact e3), ← e4]; exact h1
          · rw [if_neg e4] at h2
            have := sLt_trans h1 h2
            rw [if_neg (sLt_ne this)]; exact this
      · rw [if_neg e2] at h2; rw [if_neg (by rw [e1]; exact e2), e1]; exact h2
    · rw [if_neg e1] at h1
      by_cases e2 : b.f = c.f
      · rw [if_neg (by rw [← e2]; exact e1), ← e2]; exact h1
      · rw [if_neg e2] at h2
        have := sLt_trans h1 h2
        rw [if_neg (sLt_ne this)]; exact this
  total a b h1 h2 := by
    unfold edLess at h1 h2
    by_cases e1 : a.f = b.f
    · rw [if_pos e1] at h1; rw [if_pos e1.symm] at h2
      by_cases e2 : a.t = b.t
      · rw [if_pos e2] at h1; rw [if_pos e2.symm] at h2
        cases a; cases b
        rename_i n _ _ n'
        cases n <;> cases n' <;> simp_all
      · rw [if_neg e2] at h1; rw [if_neg (fun e => e2 e.symm)] at h2; exact absurd (sLt_total h1 h2) e2
    · rw [if_neg e1] at h1; rw [if_neg (fun e => e1 e.symm)] at h2; exact absurd (sLt_total h1 h2) e1

/-- ascending, without repetition -/
def Asc {α : Type} (lt : α → α → Bool) (l : List α) : Prop := l.Pairwise fun a b => lt a b = true
theorem asc_ext {α : Type} {lt : α → α → Bool} (O : STO lt) : ∀ {l m : List α}, Asc lt l → Asc lt m → (∀ x, x ∈ l ↔ x ∈ m) → l = m
  | [], [], _, _, _ => rfl
  | [], y :: m, _, _, h => by have := (h y).2 (by simp); cases this
  | x :: l, [], _, _, h => by have := (h x).1 (by simp); cases this
  | x :: l, y :: m, h1, h2, h => by
    obtain ⟨h1x, h1l⟩ := List.pairwise_cons.1 h1
    obtain ⟨h2y, h2m⟩ := List.pairwise_cons.1 h2
    have hxy : x = y := by
      have hx : x ∈ y :: m := (h x).1 (by simp)
      have hy : y ∈ x :: l := (h y).2 (by simp)
      rcases List.mem_cons.1 hx with e | hx
      · exact e
      · rcases List.mem_cons.1 hy with e | hy
        · exact e.symm
        · have a1 := h2y x hx
          have a2 := h1x y hy
          have := O.trans _ _ _ a1 a2
          rw [O.irr] at this; cases this
    subst hxy
    congr 1
    refine asc_ext O h1l h2m fun z => ?_
    have nl : ∀ z ∈ l, z ≠ x := fun z hz e => by have := h1x z hz; rw [e, O.irr] at this; cases this
    have nm : ∀ z ∈ m, z ≠ x := fun z hz e => by have := h2y z hz; rw [e, O.irr] at this; cases this
    constructor
    · intro hz
      rcases List.mem_cons.1 ((h z).1 (by simp [hz])) with e | h'
      · exact absurd e (nl z hz)
      · exact h'
    · intro hz
      rcases List.mem_cons.1 ((h z).2 (by simp [hz])) with e | h'
      · exact absurd e (nm z hz)
      · exact h'
theorem asc_nodup {α : Type} {lt : α → α → Bool} (O : STO lt) {l : List α} (h : Asc lt l) : l.Nodup :=
  List.Pairwise.imp (fun {a b} h e => by subst e; rw [O.irr] at h; cases h) h

theorem mem_insS (l : List ByteArray) (s x : ByteArray) : x ∈ insS l s ↔ x = s ∨ x ∈ l := by
  induction l with
  | nil => simp [insS]
  | cons y r ih =>
    unfold insS
    split
    · rw [List.mem_cons, ih, List.mem_cons]; grind
    · split
      · rename_i e; subst e; simp
      · simp
theorem asc_insS : ∀ (l : List ByteArray) (s : ByteArray), Asc sLt l → Asc sLt (insS l s)
  | [], s, _ => by simp [insS, Asc]
  | y :: r, s, h => by
    obtain ⟨h1, h2⟩ := List.pairwise_cons.1 h
    unfold insS
    split
    · rename_i hy
      refine List.pairwise_cons.2 ⟨fun z hz => ?_, asc_insS r s h2⟩
      rcases (mem_insS r s z).1 hz with e | hz
      · subst e; exact hy
      · exact h1 z hz
    · split
      · exact h
      · rename_i hy hne
        have hlt : sLt s y = true := by
          cases hs : sLt s y with
          | true => rfl
          | false => exact absurd (sLt_total (by simpa using hy) hs) hne
        refine List.pairwise_cons.2 ⟨fun z hz => ?_, h⟩
        rcases List.mem_cons.1 hz with e | hz
        · subst e; exact hlt
        · exact sLt_trans hlt (h1 z hz)

/-! ### what the functions of layer 9 answer -/
/-- the relation 'distinct' -/
def dis : ByteArray := ⟨#[100, 105, 115, 116, 105, 110, 99, 116]⟩

def headsOf (l : List Ru) : List ByteArray := l.foldl (fun o r => if r.head.name = dis then o else insS o r.head.name) []
def bodyOf (o : List ByteArray) (b : List Li) : List ByteArray := b.foldl (fun o x => if x.atom.name = dis then o else insS o x.atom.name) o
def relsOf (l : List Ru) : List ByteArray := l.foldl (fun o r => bodyOf o r.body) (headsOf l)
theorem headsOf_snoc (l : List Ru) (k : Nat) (h : k < l.length) : headsOf (l.take (k + 1)) = if l[k].head.name = dis then headsOf (l.take k) else insS (headsOf (l.take k)) l[k].head.name := by
  simp only [headsOf, take_snoc l k h, List.foldl_append, List.foldl_cons, List.foldl_nil]
theorem bodyOf_snoc (o : List ByteArray) (l : List Li) (k : Nat) (h : k < l.length) : bodyOf o (l.take (k + 1)) = if l[k].atom.name = dis then bodyOf o (l.take k) else insS (bodyOf o (l.take k)) l[k].atom.name := by
  simp only [bodyOf, take_snoc l k h, List.foldl_append, List.foldl_cons, List.foldl_nil]
theorem rels_snoc (o : List ByteArray) (l : List Ru) (k : Nat) (h : k < l.length) : (l.take (k + 1)).foldl (fun o r => bodyOf o r.body) o = bodyOf ((l.take k).foldl (fun o r => bodyOf o r.body) o) l[k].body := by
  simp only [take_snoc l k h, List.foldl_append, List.foldl_cons, List.foldl_nil]
theorem headsOf_len : ∀ (l : List Ru) (o : List ByteArray), (l.foldl (fun o r => if r.head.name = dis then o else insS o r.head.name) o).length ≤ o.length + l.length
  | [], o => Nat.le_refl _
  | r :: l, o => by
    simp only [List.foldl_cons, List.length_cons]
    split
    · have := headsOf_len l o; omega
    · have := headsOf_len l (insS o r.head.name); have := insS_length o r.head.name; omega
theorem bodyOf_len : ∀ (l : List Li) (o : List ByteArray), (bodyOf o l).length ≤ o.length + l.length
  | [], o => Nat.le_refl _
  | r :: l, o => by
    simp only [bodyOf, List.foldl_cons, List.length_cons]
    split
    · have := bodyOf_len l o; unfold bodyOf at this; omega
    · have := bodyOf_len l (insS o r.atom.name); have := insS_length o r.atom.name; unfold bodyOf at *; omega
/-- small enough for all that the functions make -/
def Fit (l : List Ru) : Prop := l.length ≤ 1000 ∧ ∀ r ∈ l, r.body.length ≤ 100
theorem rels_len : ∀ (l : List Ru) (o : List ByteArray), (∀ r ∈ l, r.body.length ≤ 100) → (l.foldl (fun o r => bodyOf o r.body) o).length ≤ o.length + l.length * 100
  | [], o, _ => by simp
  | r :: l, o, h => by
    simp only [List.foldl_cons, List.length_cons]
    have h1 := rels_len l (bodyOf o r.body) (fun x hx => h x (by simp [hx]))
    have h2 := bodyOf_len r.body o
    have h3 := h r (by simp)
    omega
theorem Fit.take {l : List Ru} (h : Fit l) (k : Nat) : Fit (l.take k) := ⟨by have := h.1; simp; omega, fun r hr => h.2 r (List.mem_of_mem_take hr)⟩
theorem Fit.heads {l : List Ru} (h : Fit l) (k : Nat) : (headsOf (l.take k)).length ≤ 1000 := by
  have := headsOf_len (l.take k) []
  have := h.1
  unfold headsOf
  simp at *
  omega
theorem asc_heads : ∀ (l : List Ru) (o : List ByteArray), Asc sLt o → Asc sLt (l.foldl (fun o r => if r.head.name = dis then o else insS o r.head.name) o)
  | [], _, h => h
  | r :: l, o, h => by
    simp only [List.foldl_cons]
    exact asc_heads l _ (by split; exact h; exact asc_insS _ _ h)
theorem asc_body : ∀ (l : List Li) (o : List ByteArray), Asc sLt o → Asc sLt (bodyOf o l)
  | [], _, h => h
  | r :: l, o, h => by
    simp only [bodyOf, List.foldl_cons]
    exact asc_body l _ (by split; exact h; exact asc_insS _ _ h)
theorem asc_rels : ∀ (l : List Ru) (o : List ByteArray), Asc sLt o → Asc sLt (l.foldl (fun o r => bodyOf o r.body) o)
  | [], _, h => h
  | _ :: l, _, h => asc_rels l _ (asc_body _ _ h)
theorem mem_heads : ∀ (l : List Ru) (o : List ByteArray) (s : ByteArray), s ∈ l.foldl (fun o r => if r.head.name = dis then o else insS o r.head.name) o ↔ s ∈ o ∨ (s ≠ dis ∧ ∃ r ∈ l, r.head.name = s)
  | [], o, s => by simp
  | r :: l, o, s => by
    simp only [List.foldl_cons]
    rw [mem_heads l _ s]
    split
    · rename_i h
      constructor
      · rintro (h1 | ⟨h1, r', h2, h3⟩)
        · exact .inl h1
        · exact .inr ⟨h1, r', by simp [h2], h3⟩
      · rintro (h1 | ⟨h1, r', h2, h3⟩)
        · exact .inl h1
        · rcases List.mem_cons.1 h2 with e | h2
          · subst e; exact absurd (h3.symm.trans h) h1
          · exact .inr ⟨h1, r', h2, h3⟩
    · rename_i h
      rw [mem_insS]
      constructor
      · rintro ((h1 | h1) | ⟨h1, r', h2, h3⟩)
        · subst h1; exact .inr ⟨h, r, by simp, rfl⟩
        · exact .inl h1
        · exact .inr ⟨h1, r', by simp [h2], h3⟩
      · rintro (h1 | ⟨h1, r', h2, h3⟩)
        · exact .inl (.inr h1)
        · rcases List.mem_cons.1 h2 with e | h2
          · subst e; exact .inl (.inl h3.symm)
          · exact .inr ⟨h1, r', h2, h3⟩
theorem mem_body : ∀ (l : List Li) (o : List ByteArray) (s : ByteArray), s ∈ bodyOf o l ↔ s ∈ o ∨ (s ≠ dis ∧ ∃ x ∈ l, x.atom.name = s)
  | [], o, s => by simp [bodyOf]
  | r :: l, o, s => by
    simp only [bodyOf, List.foldl_cons]
    have := mem_body l (if r.atom.name = dis then o else insS o r.atom.name) s
    unfold bodyOf at this
    rw [this]
    split
    · rename_i h
      constructor
      · rintro (h1 | ⟨h1, r', h2, h3⟩)
        · exact .inl h1
        · exact .inr ⟨h1, r', by simp [h2], h3⟩
      · rintro (h1 | ⟨h1, r', h2, h3⟩)
        · exact .inl h1
        · rcases List.mem_cons.1 h2 with e | h2
          · subst e; exact absurd (h3.symm.trans h) h1
          · exact .inr ⟨h1, r', h2, h3⟩
    · rename_i h
      rw [mem_insS]
      constructor
      · rintro ((h1 | h1) | ⟨h1, r', h2, h3⟩)
        · subst h1; exact .inr ⟨h, r, by simp, rfl⟩
        · exact .inl h1
        · exact .inr ⟨h1, r', by simp [h2], h3⟩
      · rintro (h1 | ⟨h1, r', h2, h3⟩)
        · exact .inl (.inr h1)
        · rcases List.mem_cons.1 h2 with e | h2
          · subst e; exact .inl (.inl h3.symm)
          · exact .inr ⟨h1, r', h2, h3⟩
theorem mem_rels' : ∀ (l : List Ru) (o : List ByteArray) (s : ByteArray), s ∈ l.foldl (fun o r => bodyOf o r.body) o ↔ s ∈ o ∨ (s ≠ dis ∧ ∃ r ∈ l, ∃ x ∈ r.body, x.atom.name = s)
  | [], o, s => by simp
  | r :: l, o, s => by
    simp only [List.foldl_cons]
    rw [mem_rels' l _ s, mem_body]
    constructor
    · rintro ((h | ⟨h1, x, h2, h3⟩) | ⟨h1, r', h2, h3⟩)
      · exact .inl h
      · exact .inr ⟨h1, r, by simp, x, h2, h3⟩
      · exact .inr ⟨h1, r', by simp [h2], h3⟩
    · rintro (h | ⟨h1, r', h2, h3⟩)
      · exact .inl (.inl h)
      · rcases List.mem_cons.1 h2 with e | h2
        · subst e; exact .inl (.inr ⟨h1, h3⟩)
        · exact .inr ⟨h1, r', h2, h3⟩
theorem mem_headsOf (l : List Ru) (s : ByteArray) : s ∈ headsOf l ↔ s ≠ dis ∧ ∃ r ∈ l, r.head.name = s := by
  unfold headsOf; rw [mem_heads]; simp
theorem mem_relsOf (l : List Ru) (s : ByteArray) : s ∈ relsOf l ↔ s ≠ dis ∧ ∃ r ∈ l, r.head.name = s ∨ ∃ x ∈ r.body, x.atom.name = s := by
  unfold relsOf; rw [mem_rels', mem_headsOf]
  constructor
  · rintro (⟨h1, r, h2, h3⟩ | ⟨h1, r, h2, h3⟩)
    · exact ⟨h1, r, h2, .inl h3⟩
    · exact ⟨h1, r, h2, .inr h3⟩
  · rintro ⟨h1, r, h2, h3 | h3⟩
    · exact .inl ⟨h1, r, h2, h3⟩
    · exact .inr ⟨h1, r, h2, h3⟩
theorem asc_headsOf (l : List Ru) : Asc sLt (headsOf l) := asc_heads l [] List.Pairwise.nil
theorem asc_relsOf (l : List Ru) : Asc sLt (relsOf l) := asc_rels l _ (asc_headsOf l)
theorem relsOf_len {l : List Ru} (h : Fit l) : (relsOf l).length ≤ 101000 := by
  have h1 := rels_len l (headsOf l) h.2
  have h2 := h.heads l.length
  rw [List.take_length] at h2
  have h3 := h.1
  unfold relsOf
  omega

theorem dis_eq (s : ByteArray) : (s.toList == [100, 105, 115, 116, 105, 110, 99, 116]) = decide (s = dis) := by
  have : dis.toList = [100, 105, 115, 116, 105, 110, 99, 116] := by rw [ByteArray.toList_eq]; rfl
  rw [← this, beqS]

/-- what is reached from a by one or more edges -/
inductive Rch (es : List Ed) (a : ByteArray) : ByteArray → Prop where
  | one {e : Ed} : e ∈ es → e.f = a → Rch es a e.t
  | step {b : ByteArray} {e : Ed} : Rch es a b → e ∈ es → e.f = b → Rch es a e.t
theorem Rch.target {es : List Ed} {a s : ByteArray} (h : Rch es a s) : ∃ e ∈ es, e.t = s := by
  cases h with
  | one h1 _ => exact ⟨_, h1, rfl⟩
  | step _ h1 _ => exact ⟨_, h1, rfl⟩
theorem Rch.trans {es : List Ed} {a b c : ByteArray} (h1 : Rch es a b) (h2 : Rch es b c) : Rch es a c := by
  induction h2 with
  | one h3 h4 => exact .step h1 h3 h4
  | step _ h3 h4 ih => exact .step ih h3 h4
theorem Rch.mono {es fs : List Ed} {a b : ByteArray} (hs : ∀ e ∈ es, e ∈ fs) (h : Rch es a b) : Rch fs a b := by
  induction h with
  | one h3 h4 => exact .one (hs _ h3) h4
  | step _ h3 h4 ih => exact .step ih (hs _ h3) h4
def insAll (l : List ByteArray) : List ByteArray := l.foldl insS []
theorem insAll_mem' : ∀ (l o : List ByteArray) (s : ByteArray), s ∈ l.foldl insS o ↔ s ∈ o ∨ s ∈ l
  | [], o, s => by simp
  | x :: l, o, s => by simp only [List.foldl_cons]; rw [insAll_mem' l, mem_insS, List.mem_cons]; grind
theorem insAll_asc' : ∀ (l o : List ByteArray), Asc sLt o → Asc sLt (l.foldl insS o)
  | [], _, h => h
  | _ :: l, _, h => insAll_asc' l _ (asc_insS _ _ h)
theorem mem_insAll (l : List ByteArray) (s : ByteArray) : s ∈ insAll l ↔ s ∈ l := by unfold insAll; rw [insAll_mem']; simp
theorem asc_insAll (l : List ByteArray) : Asc sLt (insAll l) := insAll_asc' l [] List.Pairwise.nil
open Classical in
noncomputable def reachOf (es : List Ed) (a : ByteArray) : List ByteArray := (insAll (es.map (·.t))).filter fun s => decide (Rch es a s)
theorem mem_reachOf (es : List Ed) (a s : ByteArray) : s ∈ reachOf es a ↔ Rch es a s := by
  unfold reachOf
  rw [List.mem_filter, mem_insAll, List.mem_map]
  constructor
  · rintro ⟨_, h⟩; simpa using h
  · intro h; obtain ⟨e, h1, h2⟩ := h.target; exact ⟨⟨e, h1, h2⟩, by simpa using h⟩
theorem asc_reachOf (es : List Ed) (a : ByteArray) : Asc sLt (reachOf es a) := (asc_insAll _).sublist List.filter_sublist
theorem reachOf_eq {es : List Ed} {a : ByteArray} {o : List ByteArray} (h1 : Asc sLt o) (h2 : ∀ s ∈ o, Rch es a s) (h3 : ∀ e ∈ es, e.f = a ∨ e.f ∈ o → e.t ∈ o) : o = reachOf es a := by
  refine asc_ext sLt_sto h1 (asc_reachOf es a) fun s => ?_
  rw [mem_reachOf]
  refine ⟨h2 s, fun h => ?_⟩
  induction h with
  | one h4 h5 => exact h3 _ h4 (.inl h5)
  | step _ h4 h5 ih => exact h3 _ h4 (.inr (by rw [h5]; exact ih))
theorem nodup_len {α : Type} [DecidableEq α] : ∀ {l m : List α}, l.Nodup → (∀ x ∈ l, x ∈ m) → l.length ≤ m.length
  | [], _, _, _ => Nat.zero_le _
  | x :: l, m, h, hs => by
    obtain ⟨h1, h2⟩ := List.nodup_cons.1 h
    have hx : x ∈ m := hs x (by simp)
    have := nodup_len (m := m.erase x) h2 (fun y hy => (List.mem_erase_of_ne (fun e => by subst e; exact h1 hy)).2 (hs y (by simp [hy])))
    rw [List.length_erase_of_mem hx] at this
    have : 0 < m.length := List.length_pos_of_mem hx
    simp only [List.length_cons]; omega
theorem reach_len {es : List Ed} {o : List ByteArray} (h1 : Asc sLt o) (h2 : ∀ s ∈ o, ∃ e ∈ es, e.t = s) : o.length ≤ es.length := by
  have := nodup_len (m := es.map (·.t)) (asc_nodup sLt_sto h1) (fun s hs => by obtain ⟨e, h3, h4⟩ := h2 s hs; exact List.mem_map.2 ⟨e, h3, h4⟩)
  simpa using this
theorem reachOf_len (es : List Ed) (a : ByteArray) : (reachOf es a).length ≤ es.length := reach_len (asc_reachOf es a) fun s hs => ((mem_reachOf es a s).1 hs).target
theorem insS_new {l : List ByteArray} {s : ByteArray} (h : s ∉ l) : (insS l s).length = l.length + 1 := by
  induction l with
  | nil => rfl
  | cons x r ih =>
    have h1 : s ≠ x := fun e => h (by simp [e])
    have h2 : s ∉ r := fun e => h (by simp [e])
    unfold insS
    split
    · simp [ih h2]
    · rw [if_neg (fun e => h1 e.symm)]; simp
/-- the length in a slice's value -/
def lenV : Value → Nat | .slice _ n _ => n | _ => 0

/-! ### inserting into an ascending list, for any order -/
section
variable {α : Type} [DecidableEq α] {lt : α → α → Bool}
def insG (lt : α → α → Bool) : List α → α → List α
  | [], s => [s]
  | x :: r, s => if lt x s then x :: insG lt r s else if x = s then x :: r else s :: x :: r
def belowG (lt : α → α → Bool) : List α → α → Nat
  | [], _ => 0
  | x :: r, s => if lt x s then belowG lt r s + 1 else 0
omit [DecidableEq α] in
theorem belowG_le : ∀ (l : List α) (s : α), belowG lt l s ≤ l.length
  | [], _ => Nat.le_refl _
  | x :: r, s => by unfold belowG; split; exact Nat.succ_le_succ (belowG_le r s); exact Nat.zero_le _
omit [DecidableEq α] in
theorem belowG_lt : ∀ (l : List α) (s : α) (k : Nat) (h : k < l.length), k < belowG lt l s → lt l[k] s = true
  | [], _, _, h, _ => absurd h (by simp)
  | x :: r, s, 0, _, hk => by unfold belowG at hk; split at hk; assumption; omega
  | x :: r, s, k + 1, h, hk => by
    unfold belowG at hk; split at hk
    · exact belowG_lt r s k (by simpa using h) (by omega)
    · omega
omit [DecidableEq α] in
theorem belowG_at : ∀ (l : List α) (s : α) (h : belowG lt l s < l.length), lt l[belowG lt l s] s = false
  | [], _, h => absurd h (by simp [belowG])
  | x :: r, s, h => by
    by_cases hx : lt x s = true
    · have e : belowG lt (x :: r) s = belowG lt r s + 1 := by simp [belowG, hx]
      have h2 : belowG lt r s < r.length := by rw [e] at h; simpa using h
      have := belowG_at r s h2
      simp only [e, List.getElem_cons_succ]; exact this
    · have e : belowG lt (x :: r) s = 0 := by simp [belowG, hx]
      simp only [e, List.getElem_cons_zero]; simpa using hx
theorem insG_eq : ∀ (l : List α) (s : α), insG lt l s = if h : belowG lt l s < l.length then (if l[belowG lt l s] = s then l else l.take (belowG lt l s) ++ [s] ++ l.drop (belowG lt l s)) else l.take (belowG lt l s) ++ [s] ++ l.drop (belowG lt l s)
  | [], s => by simp [insG, belowG]
  | x :: r, s => by
    by_cases hx : lt x s = true
    · have e : belowG lt (x :: r) s = belowG lt r s + 1 := by simp [belowG, hx]
      have ih := insG_eq r s
      simp only [insG, hx, if_true, ih, e, List.getElem_cons_succ, List.length_cons, Nat.add_lt_add_iff_right, List.take_succ_cons, List.drop_succ_cons]
      split
      · split <;> simp
      · simp
    · have e : belowG lt (x :: r) s = 0 := by simp [belowG, hx]
      simp [insG, hx, e]
theorem insG_length (l : List α) (s : α) : (insG lt l s).length ≤ l.length + 1 := by
  induction l with
  | nil => simp [insG]
  | cons x r ih => unfold insG; split; simpa using ih; split <;> simp
theorem mem_insG (l : List α) (s x : α) : x ∈ insG lt l s ↔ x = s ∨ x ∈ l := by
  induction l with
  | nil => simp [insG]
  | cons y r ih =>
    unfold insG
    split
    · rw [List.mem_cons, ih, List.mem_cons]; grind
    · split
      · rename_i e; subst e; simp
      · simp
theorem asc_insG (O : STO lt) : ∀ (l : List α) (s : α), Asc lt l → Asc lt (insG lt l s)
  | [], s, _ => by simp [insG, Asc]
  | y :: r, s, h => by
    obtain ⟨h1, h2⟩ := List.pairwise_cons.1 h
    unfold insG
    split
    · rename_i hy
      refine List.pairwise_cons.2 ⟨fun z hz => ?_, asc_insG O r s h2⟩
      rcases (mem_insG r s z).1 hz with e | hz
      · subst e; exact hy
      · exact h1 z hz
    · split
      · exact h
      · rename_i hy hne
        have hlt : lt s y = true := by
          cases hs : lt s y with
          | true => rfl
          | false => exact absurd (O.total _ _ (by simpa using hy) hs) hne
        refine List.pairwise_cons.2 ⟨fun z hz => ?_, h⟩
        rcases List.mem_cons.1 hz with e | hz
        · subst e; exact hlt
        · exact O.trans _ _ _ hlt (h1 z hz)
end

/-! ### the edges of a description -/
def edOf (h : ByteArray) (x : Li) : Ed := ⟨h, x.atom.name, x.nt⟩
def edRow (h : ByteArray) (o : List Ed) (b : List Li) : List Ed := b.foldl (fun o x => if x.atom.name = dis then o else insG edLess o (edOf h x)) o
def edStep (o : List Ed) (r : Ru) : List Ed := if r.head.name = dis then o else edRow r.head.name o r.body
def edgesOf (l : List Ru) : List Ed := l.foldl edStep []
theorem edRow_snoc (h : ByteArray) (o : List Ed) (l : List Li) (k : Nat) (hk : k < l.length) : edRow h o (l.take (k + 1)) = if l[k].atom.name = dis then edRow h o (l.take k) else insG edLess (edRow h o (l.take k)) (edOf h l[k]) := by
  simp only [edRow, take_snoc l k hk, List.foldl_append, List.foldl_cons, List.foldl_nil]
theorem edgesOf_snoc (l : List Ru) (k : Nat) (hk : k < l.length) : edgesOf (l.take (k + 1)) = edStep (edgesOf (l.take k)) l[k] := by
  simp only [edgesOf, take_snoc l k hk, List.foldl_append, List.foldl_cons, List.foldl_nil]
theorem edRow_len (h : ByteArray) : ∀ (l : List Li) (o : List Ed), (edRow h o l).length ≤ o.length + l.length
  | [], o => Nat.le_refl _
  | r :: l, o => by
    simp only [edRow, List.foldl_cons, List.length_cons]
    split
    · have := edRow_len h l o; unfold edRow at this; omega
    · have := edRow_len h l (insG edLess o (edOf h r)); have := insG_length (lt := edLess) o (edOf h r); unfold edRow at *; omega
theorem edges_len : ∀ (l : List Ru) (o : List Ed), (∀ r ∈ l, r.body.length ≤ 100) → (l.foldl edStep o).length ≤ o.length + l.length * 100
  | [], o, _ => by simp
  | r :: l, o, h => by
    simp only [List.foldl_cons, List.length_cons]
    have h1 := edges_len l (edStep o r) (fun x hx => h x (by simp [hx]))
    have h2 := edRow_len r.head.name r.body o
    have h3 := h r (by simp)
    have h4 : (edStep o r).length ≤ o.length + r.body.length := by unfold edStep; split; omega; exact h2
    omega
theorem edgesOf_len {l : List Ru} (h : Fit l) (k : Nat) : (edgesOf (l.take k)).length ≤ 100000 := by
  have := edges_len (l.take k) [] (h.take k).2
  have := (h.take k).1
  unfold edgesOf
  simp at *
  omega
theorem asc_edRow (h : ByteArray) : ∀ (l : List Li) (o : List Ed), Asc edLess o → Asc edLess (edRow h o l)
  | [], _, h1 => h1
  | r :: l, o, h1 => by
    simp only [edRow, List.foldl_cons]
    exact asc_edRow h l _ (by split; exact h1; exact asc_insG edLess_sto _ _ h1)
theorem asc_edges : ∀ (l : List Ru) (o : List Ed), Asc edLess o → Asc edLess (l.foldl edStep o)
  | [], _, h1 => h1
  | r :: l, o, h1 => asc_edges l _ (by unfold edStep; split; exact h1; exact asc_edRow _ _ _ h1)
theorem asc_edgesOf (l : List Ru) : Asc edLess (edgesOf l) := asc_edges l [] List.Pairwise.nil
theorem mem_edRow (h : ByteArray) : ∀ (l : List Li) (o : List Ed) (e : Ed), e ∈ edRow h o l ↔ e ∈ o ∨ ∃ x ∈ l, x.atom.name ≠ dis ∧ e = edOf h x
  | [], o, e => by simp [edRow]
  | r :: l, o, e => by
    have := mem_edRow h l (if r.atom.name = dis then o else insG edLess o (edOf h r)) e
    simp only [edRow, List.foldl_cons] at this ⊢
    rw [this]
    split
    · rename_i hd; simp [hd]
    · rename_i hd
      rw [mem_insG]
      simp only [List.mem_cons, exists_eq_or_imp, hd, ne_eq, not_false_eq_true, true_and]
      grind
theorem mem_edges : ∀ (l : List Ru) (o : List Ed) (e : Ed), e ∈ l.foldl edStep o ↔ e ∈ o ∨ ∃ r ∈ l, r.head.name ≠ dis ∧ ∃ x ∈ r.body, x.atom.name ≠ dis ∧ e = edOf r.head.name x
  | [], o, e => by simp
  | r :: l, o, e => by
    simp only [List.foldl_cons]
    rw [mem_edges l _ e]
    unfold edStep
    split
    · rename_i hd; simp [hd]
    · rename_i hd
      rw [mem_edRow]
      simp only [List.mem_cons, exists_eq_or_imp, hd, ne_eq, not_false_eq_true, true_and]
      grind
theorem mem_edgesOf (l : List Ru) (e : Ed) : e ∈ edgesOf l ↔ ∃ r ∈ l, r.head.name ≠ dis ∧ ∃ x ∈ r.body, x.atom.name ≠ dis ∧ e = edOf r.head.name x := by
  unfold edgesOf; rw [mem_edges]; simp
end Go.Proofs.YtlficnfkekggjaaGreatDoor
