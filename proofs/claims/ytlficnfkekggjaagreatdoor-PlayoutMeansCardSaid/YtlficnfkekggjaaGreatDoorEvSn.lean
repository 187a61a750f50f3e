
/-
  Snapshots: a call that was run once, from the blocks that it may look at to the blocks that it leaves, answers the same call again, its new blocks under other numbers.
-/
import Derived.Test.YtlficnfkekggjaaGreatDoorEvZ
namespace Go.Ev
section
variable {R : Type} {P : Program}
/-! ### values of one cell -/
def sEq : V → V → Bool
  | .vi k a, .vi l b => Nat.beq k l && Nat.beq a b
  | .vs n l, .vs m r => Nat.beq n m && leqL' l r
  | .sl a o l c, .sl b q m d => Nat.beq a b && Nat.beq o q && Nat.beq l m && Nat.beq c d
  | .so a o l, .so b q m => Nat.beq a b && Nat.beq o q && Nat.beq l m
  | .sn, .sn => true
  | .vb a, .vb b => a == b
  | .vp a o, .vp b q => Nat.beq a b && Nat.beq o q
  | .vm a, .vm b => Nat.beq a b
  | .vg k a, .vg l b => Nat.beq k l && Nat.beq a b
  | .pn, .pn => true
  | .mn, .mn => true
  | .fn, .fn => true
  | .ni, .ni => true
  | .vt [], .vt [] => true
  | _, _ => false
  where leqL' : List Nat → List Nat → Bool
  | [], [] => true
  | a :: x, b :: y => Nat.beq a b && leqL' x y
  | _, _ => false
theorem leqL'_eq : ∀ {a b : List Nat}, sEq.leqL' a b = true → a = b
  | [], [], _ => rfl
  | x :: a, y :: b, h => by
    unfold sEq.leqL' at h
    rw [Bool.and_eq_true] at h
    rw [beq_of h.1, leqL'_eq h.2]
  | [], _ :: _, h => by simp [sEq.leqL'] at h
  | _ :: _, [], h => by simp [sEq.leqL'] at h
theorem sEq_eq {a b : V} (h : sEq a b = true) : a = b := by
  have nb : ∀ {a b : Nat}, Nat.beq a b = true → a = b := beq_of
  unfold sEq at h
  split at h
  · simp only [Bool.and_eq_true] at h; rw [nb h.1, nb h.2]
  · simp only [Bool.and_eq_true] at h; rw [nb h.1, leqL'_eq h.2]
  · simp only [Bool.and_eq_true] at h; rw [nb h.1.1.1, nb h.1.1.2, nb h.1.2, nb h.2]
  · simp only [Bool.and_eq_true] at h; rw [nb h.1.1, nb h.1.2, nb h.2]
  · rfl
  · simp only [beq_iff_eq] at h; rw [h]
  · simp only [Bool.and_eq_true] at h; rw [nb h.1, nb h.2]
  · rw [nb h]
  · simp only [Bool.and_eq_true] at h; rw [nb h.1, nb h.2]
  · rfl
  · rfl
  · rfl
  · rfl
  · rfl
  · cases h
noncomputable def sEqL (a : List V) : List V → Bool := @List.rec _ (fun _ => List V → Bool) (fun b => @List.rec _ (fun _ => Bool) true (fun _ _ _ => false) b) (fun x _ ih b => @List.rec _ (fun _ => Bool) false (fun y r _ => andB (sEq x y) (ih r)) b) a
theorem sEqL_eq : ∀ {a b : List V}, sEqL a b = true → a = b := by
  intro a
  induction a with
  | nil => intro b h; cases b with | nil => rfl | cons _ _ => cases h
  | cons x a ih =>
    intro b h
    cases b with
    | nil => cases h
    | cons y b =>
      have h : andB (sEq x y) (sEqL a b) = true := h
      rw [andB_eq] at h
      rw [sEq_eq h.1, ih h.2]
/-- of one cell, or a struct of such -/
noncomputable def aEq (x y : V) : Bool := match x with
  | .va a => (match y with | .va b => sEqL a b | _ => false)
  | x => sEq x y
theorem aEq_eq {a b : V} (h : aEq a b = true) : a = b := by
  unfold aEq at h
  split at h
  · split at h
    · rw [sEqL_eq h]
    · cases h
  · exact sEq_eq h
noncomputable def aEqL (a : List V) : List V → Bool := @List.rec _ (fun _ => List V → Bool) (fun b => @List.rec _ (fun _ => Bool) true (fun _ _ _ => false) b) (fun x _ ih b => @List.rec _ (fun _ => Bool) false (fun y r _ => andB (aEq x y) (ih r)) b) a
theorem aEqL_eq : ∀ {a b : List V}, aEqL a b = true → a = b := by
  intro a
  induction a with
  | nil => intro b h; cases b with | nil => rfl | cons _ _ => cases h
  | cons x a ih =>
    intro b h
    cases b with
    | nil => cases h
    | cons y b =>
      have h : andB (aEq x y) (aEqL a b) = true := h
      rw [andB_eq] at h
      rw [aEq_eq h.1, ih h.2]
/-- a result: one such, or a tuple -/
noncomputable def vEq (x y : V) : Bool := match x with
  | .vt a => (match y with | .vt b => aEqL a b | _ => false)
  | x => aEq x y
theorem vEq_eq {a b : V} (h : vEq a b = true) : a = b := by
  unfold vEq at h
  split at h
  · split at h
    · rw [aEqL_eq h]
    · cases h
  · exact aEq_eq h
/-! ### other numbers -/
/-- the numbers from n0 on go up by d -/
def shN (n0 d b : Nat) : Nat := if Nat.ble n0 b = true then b + d else b
noncomputable def shS (n0 d : Nat) (v : V) : V := match v with
  | .vp b o => @Bool.rec (fun _ => V) (.vp b o) (natC (Nat.add b d) fun b => .vp b o) (Nat.ble n0 b)
  | .sl b o n c => @Bool.rec (fun _ => V) (.sl b o n c) (natC (Nat.add b d) fun b => .sl b o n c) (Nat.ble n0 b)
  | .so b o n => @Bool.rec (fun _ => V) (.so b o n) (natC (Nat.add b d) fun b => .so b o n) (Nat.ble n0 b)
  | .vm b => @Bool.rec (fun _ => V) (.vm b) (natC (Nat.add b d) fun b => .vm b) (Nat.ble n0 b)
  | v => v
/-- of one cell, and its number is old or among these -/
noncomputable def okS1 (n0 : Nat) (ids : List Nat) (v : V) : Bool := match v with
  | .vp b _ => orB (Nat.blt b n0) (memB b ids)
  | .sl b _ _ _ => orB (Nat.blt b n0) (memB b ids)
  | .so b _ _ => orB (Nat.blt b n0) (memB b ids)
  | .vm b => orB (Nat.blt b n0) (memB b ids)
  | .vf _ _ | .va _ | .unk => false
  | .vt l => isNil l
  | _ => true
theorem okS1_VR {n0 d : Nat} {ids : List Nat} {v : V} {φ ψ : Phi} {u : Value} (h : okS1 n0 ids v = true) (h1 : ∀ b x, b < n0 → φ b = some x → ψ b = some x) (h2 : ∀ b x, n0 ≤ b → b ∈ ids → φ b = some x → ψ (b + d) = some x) (hv : VR φ v u) : VR ψ (shS n0 d v) u := by
  have go : ∀ (b : Nat) (x : Nat × Nat × Nat), orB (Nat.blt b n0) (memB b ids) = true → φ b = some x → (Nat.ble n0 b = false ∧ ψ b = some x) ∨ (Nat.ble n0 b = true ∧ ψ (b + d) = some x) := fun b x hb hx => by
    rw [orB_eq] at hb
    cases hn : Nat.ble n0 b with
    | true =>
      have hn := ble_of hn
      rcases hb with hb | hb
      · have := blt_of hb; omega
      · exact .inr ⟨rfl, h2 b x hn ((memB_eq _ _).1 hb) hx⟩
    | false =>
      refine .inl ⟨rfl, h1 b x ?_ hx⟩
      rcases Nat.lt_or_ge b n0 with h | h
      · exact h
      · rw [Nat.ble_eq_true_of_le h] at hn; cases hn
  cases v with
  | vp b o =>
    obtain ⟨x, hx, hu⟩ := hv
    unfold shS
    rcases go _ x h hx with ⟨e, k⟩ | ⟨e, k⟩
    · simp only [e]; exact ⟨x, k, hu⟩
    · simp only [e, natC_eq]; exact ⟨x, k, hu⟩
  | sl b o n c =>
    obtain ⟨x, hx, hu⟩ := hv
    unfold shS
    rcases go _ x h hx with ⟨e, k⟩ | ⟨e, k⟩
    · simp only [e]; exact ⟨x, k, hu⟩
    · simp only [e, natC_eq]; exact ⟨x, k, hu⟩
  | so b o n =>
    obtain ⟨x, c, hx, hu⟩ := hv
    unfold shS
    rcases go _ x h hx with ⟨e, k⟩ | ⟨e, k⟩
    · simp only [e]; exact ⟨x, c, k, hu⟩
    · simp only [e, natC_eq]; exact ⟨x, c, k, hu⟩
  | vm b =>
    obtain ⟨x, hx, hu⟩ := hv
    unfold shS
    rcases go _ x h hx with ⟨e, k⟩ | ⟨e, k⟩
    · simp only [e]; exact ⟨x, k, hu⟩
    · simp only [e, natC_eq]; exact ⟨x, k, hu⟩
  | vt l =>
    have h : isNil l = true := h
    rw [isNil_eq.1 h] at hv ⊢
    exact hv
  | vf _ _ => cases h
  | va _ => cases h
  | unk => cases h
  | _ => exact hv
noncomputable def allS (f : V → Bool) (l : List V) : Bool := @List.rec _ (fun _ => Bool) true (fun x _ ih => andB (f x) ih) l
theorem allS_eq {f : V → Bool} {l : List V} : allS f l = true ↔ ∀ x ∈ l, f x = true := by
  induction l with
  | nil => simp [allS]
  | cons x l ih =>
    show andB (f x) (allS f l) = true ↔ _
    rw [andB_eq, ih]; simp
noncomputable def shA (n0 d : Nat) (v : V) : V := match v with
  | .va l => .va (l.map (shS n0 d))
  | v => shS n0 d v
noncomputable def okA (n0 : Nat) (ids : List Nat) (v : V) : Bool := match v with
  | .va l => allS (okS1 n0 ids) l
  | v => okS1 n0 ids v
noncomputable def shV (n0 d : Nat) (v : V) : V := match v with
  | .vt l => .vt (l.map (shA n0 d))
  | v => shA n0 d v
noncomputable def okV (n0 : Nat) (ids : List Nat) (v : V) : Bool := match v with
  | .vt l => allS (okA n0 ids) l
  | v => okA n0 ids v
theorem VRs.map_ {φ ψ : Phi} {f : V → V} {ok : V → Bool} (hf : ∀ v u, ok v = true → VR φ v u → VR ψ (f v) u) : ∀ {l : List V} {us : List Value}, (∀ x ∈ l, ok x = true) → VRs φ l us → VRs ψ (l.map f) us
  | [], us, _, h => by rw [show us = [] from h]; rfl
  | v :: l, us, ho, ⟨u, t, e, hu, ht⟩ => ⟨u, t, e, hf v u (ho v List.mem_cons_self) hu, VRs.map_ hf (fun x hx => ho x (List.mem_cons_of_mem _ hx)) ht⟩
section
variable {n0 d : Nat} {ids : List Nat} {φ ψ : Phi} (h1 : ∀ b x, b < n0 → φ b = some x → ψ b = some x) (h2 : ∀ b x, n0 ≤ b → b ∈ ids → φ b = some x → ψ (b + d) = some x)
include h1 h2
theorem okA_VR {v : V} {u : Value} (h : okA n0 ids v = true) (hv : VR φ v u) : VR ψ (shA n0 d v) u := by
  unfold okA at h
  unfold shA
  split at h
  · obtain ⟨us, e, hu, ho⟩ := hv
    exact ⟨us, e, hu.map_ (fun v u h hv => okS1_VR h h1 h2 hv) (allS_eq.1 h), ho⟩
  · exact okS1_VR h h1 h2 hv
theorem okV_VR {v : V} {u : Value} (h : okV n0 ids v = true) (hv : VR φ v u) : VR ψ (shV n0 d v) u := by
  unfold okV at h
  unfold shV
  split at h
  · obtain ⟨us, e, hu⟩ := hv
    exact ⟨us, e, hu.map_ (fun v u h hv => okA_VR h1 h2 h hv) (allS_eq.1 h)⟩
  · exact okA_VR h1 h2 h hv
end
/-! ### blocks, written out -/
inductive LB where
  | c (ty fz : Nat) (cs : List V)
  | m (es : List (V × V × Nat)) (clock : Nat)
/-- the block that is meant -/
def LBIs : LB → Blk → Prop
  | .c ty fz cs, bl => ∃ pg, bl = .cel ty cs.length fz pg ∧ ∀ i, i < cs.length → cs[i]? = some (cell pg i)
  | .m es clock, bl => bl = .mp es clock
/-- a block that says so much at least -/
def LBHas : LB → Blk → Prop
  | .c ty fz cs, bl => ∃ n pg, bl = .cel ty n fz pg ∧ cs.length ≤ n ∧ ∀ i, i < cs.length → cs[i]? = some (cell pg i)
  | .m es clock, bl => bl = .mp es clock
theorem LBHas.live {lb : LB} {bl : Blk} (h : LBHas lb bl) : bl ≠ .gone := by
  cases lb with
  | c ty fz cs => obtain ⟨n, pg, rfl, _⟩ := h; simp
  | m es clock => rw [show bl = _ from h]; simp
theorem LBHas.br {φ : Phi} {es N : Nat} {lb : LB} {bl bl' : Blk} {o : Option Obj} (h : LBHas lb bl) (k : LBIs lb bl') (hB : BR P φ es N bl o) : BR P φ es N bl' o := by
  cases lb with
  | c ty fz cs =>
    obtain ⟨n, pg, rfl, hn, hc⟩ := h
    obtain ⟨pg', rfl, hc'⟩ := k
    obtain ⟨arr, lo, hi, h1, h2, h3, h4, h5, h6⟩ := hB
    refine ⟨arr, lo, hi, h1, h2, h3, by omega, h5, fun i hi => ?_⟩
    obtain ⟨u, a, b, c⟩ := h6 i (by omega)
    have := (hc i hi).symm.trans (hc' i hi)
    injection this with this
    exact ⟨u, a, by rw [← this]; exact b, c⟩
  | m es' clock =>
    rw [show bl = _ from h] at hB
    rw [show bl' = _ from k]
    exact hB
noncomputable def mapK {α β : Type} (f : α → β) (l : List α) (k : List β → Option R) : Option R := @List.rec _ (fun _ => (List β → Option R) → Option R) (fun k => k []) (fun x _ ih k => ih fun r => k (f x :: r)) l k
theorem mapK_eq {α β : Type} (f : α → β) : ∀ (l : List α) (k : List β → Option R), mapK f l k = k (l.map f)
  | [], k => rfl
  | x :: l, k => by
    show mapK f l (fun r => k (f x :: r)) = _
    rw [mapK_eq f l]; rfl
noncomputable def lay1B (lb : LB) (k : Blk → Option R) : Option R := match lb with
  | .c ty fz cs => mkP cs fun pg => natF (lenN cs) fun n => k (.cel ty n fz pg)
  | .m es clock => k (.mp es clock)
theorem lay1B_some {lb : LB} {k : Blk → Option R} {r : R} (h : lay1B lb k = some r) : ∃ bl, LBIs lb bl ∧ k bl = some r := by
  cases lb with
  | c ty fz cs =>
    obtain ⟨pg, h, hp⟩ := mkP_some h
    rw [natF_eq, lenN_eq] at h
    exact ⟨_, ⟨pg, rfl, hp⟩, h⟩
  | m es clock => exact ⟨_, rfl, h⟩
/-- blocks laid into a heap, those at the front last -/
noncomputable def layE (E : List (Nat × LB)) (h : H3) (k : H3 → Option R) : Option R :=
  @List.rec _ (fun _ => (H3 → Option R) → Option R) (fun k => k h) (fun x _ ih k => ih fun h => lay1B x.2 fun bl => setH h x.1 bl k) E k
/-- the same, under other numbers -/
noncomputable def layS (n0 d : Nat) (E : List (Nat × LB)) (h : H3) (k : H3 → Option R) : Option R :=
  @List.rec _ (fun _ => (H3 → Option R) → Option R) (fun k => k h) (fun x _ ih k => ih fun h => (match x.2 with
    | .c ty fz cs => mapK (shS n0 d) cs fun cs => lay1B (.c ty fz cs) fun bl => natF (Nat.add x.1 d) fun b => setH h b bl k
    | .m es clock => mapK (fun e => (shS n0 d e.1, shS n0 d e.2.1, e.2.2)) es fun es => natF (Nat.add x.1 d) fun b => setH h b (.mp es clock) k)) E k
/-- ascending -/
noncomputable def ascN (E : List (Nat × LB)) : Bool := @List.rec _ (fun _ => Bool) true (fun x r ih => @List.rec _ (fun _ => Bool) true (fun y _ _ => andB (Nat.blt x.1 y.1) ih) r) E
theorem ascN_lt : ∀ {E : List (Nat × LB)} {x : Nat × LB}, ascN (x :: E) = true → ascN E = true ∧ ∀ y ∈ E, x.1 < y.1
  | [], x, _ => ⟨rfl, fun y hy => by cases hy⟩
  | z :: E, x, h => by
    have h : andB (Nat.blt x.1 z.1) (ascN (z :: E)) = true := h
    rw [andB_eq] at h
    have hx := blt_of h.1
    refine ⟨h.2, fun y hy => ?_⟩
    rcases List.mem_cons.1 hy with rfl | hy
    · exact hx
    · exact Nat.lt_trans hx ((ascN_lt h.2).2 y hy)
theorem layE_some : ∀ {E : List (Nat × LB)} {h : H3} {k : H3 → Option R} {r : R}, ascN E = true → layE E h k = some r →
    ∃ h', k h' = some r ∧ (∀ x ∈ E, x.1 < 262144 ∧ LBIs x.2 (look h' x.1)) ∧ ∀ b, b < 262144 → (∀ x ∈ E, x.1 ≠ b) → look h' b = look h b
  | [], h, k, r, _, e => ⟨h, e, fun x hx => (by cases hx), fun _ _ _ => rfl⟩
  | x :: E, h, k, r, ha, e => by
    have e : layE E h (fun h => lay1B x.2 fun bl => setH h x.1 bl k) = some r := e
    obtain ⟨ha', hlt⟩ := ascN_lt ha
    obtain ⟨h', e, h1, h2⟩ := layE_some ha' e
    obtain ⟨bl, hbl, e⟩ := lay1B_some e
    obtain ⟨hx, e⟩ := setH_some e
    refine ⟨_, e, fun y hy => ?_, fun b hb hne => ?_⟩
    · rcases List.mem_cons.1 hy with rfl | hy
      · exact ⟨hx, by rw [look_upd _ _ hx hx, if_pos rfl]; exact hbl⟩
      · have := hlt y hy
        exact ⟨(h1 y hy).1, by rw [look_upd _ _ hx (h1 y hy).1, if_neg (by omega)]; exact (h1 y hy).2⟩
    · rw [look_upd _ _ hx hb, if_neg (hne x List.mem_cons_self)]
      exact h2 b hb fun y hy => hne y (List.mem_cons_of_mem _ hy)
noncomputable def shLB (n0 d : Nat) : LB → LB
  | .c ty fz cs => .c ty fz (cs.map (shS n0 d))
  | .m es clock => .m (es.map fun e => (shS n0 d e.1, shS n0 d e.2.1, e.2.2)) clock
theorem layS_some {n0 d : Nat} : ∀ {E : List (Nat × LB)} {h : H3} {k : H3 → Option R} {r : R}, ascN E = true → layS n0 d E h k = some r →
    ∃ h', k h' = some r ∧ (∀ x ∈ E, x.1 + d < 262144 ∧ LBIs (shLB n0 d x.2) (look h' (x.1 + d))) ∧ ∀ b, b < 262144 → (∀ x ∈ E, x.1 + d ≠ b) → look h' b = look h b
  | [], h, k, r, _, e => ⟨h, e, fun x hx => (by cases hx), fun _ _ _ => rfl⟩
  | x :: E, h, k, r, ha, e => by
    have e : layS n0 d E h (fun h => (match x.2 with
      | .c ty fz cs => mapK (shS n0 d) cs fun cs => lay1B (.c ty fz cs) fun bl => natF (Nat.add x.1 d) fun b => setH h b bl k
      | .m es clock => mapK (fun e => (shS n0 d e.1, shS n0 d e.2.1, e.2.2)) es fun es => natF (Nat.add x.1 d) fun b => setH h b (.mp es clock) k)) = some r := e
    obtain ⟨ha', hlt⟩ := ascN_lt ha
    obtain ⟨h', e, h1, h2⟩ := layS_some ha' e
    have fin : ∀ bl, LBIs (shLB n0 d x.2) bl → setH h' (x.1 + d) bl k = some r → ∃ h', k h' = some r ∧ (∀ y ∈ x :: E, y.1 + d < 262144 ∧ LBIs (shLB n0 d y.2) (look h' (y.1 + d))) ∧ ∀ b, b < 262144 → (∀ y ∈ x :: E, y.1 + d ≠ b) → look h' b = look h b := fun bl hbl e => by
      obtain ⟨hx, e⟩ := setH_some e
      refine ⟨_, e, fun y hy => ?_, fun b hb hne => ?_⟩
      · rcases List.mem_cons.1 hy with rfl | hy
        · exact ⟨hx, by rw [look_upd _ _ hx hx, if_pos rfl]; exact hbl⟩
        · have := hlt y hy
          exact ⟨(h1 y hy).1, by rw [look_upd _ _ hx (h1 y hy).1, if_neg (by omega)]; exact (h1 y hy).2⟩
      · rw [look_upd _ _ hx hb, if_neg (hne x List.mem_cons_self)]
        exact h2 b hb fun y hy => hne y (List.mem_cons_of_mem _ hy)
    split at e
    · rename_i ty fz cs hl
      rw [mapK_eq] at e
      obtain ⟨bl, hbl, e⟩ := lay1B_some e
      rw [natF_eq] at e
      exact fin bl (by rw [hl]; exact hbl) e
    · rename_i es clock hl
      rw [mapK_eq, natF_eq] at e
      exact fin _ (by rw [hl]; rfl) e
/-- a heap that says so much -/
noncomputable def entE (a b : List (V × V × Nat)) : Bool := @List.rec _ (fun _ => List (V × V × Nat) → Bool) (fun b => @List.rec _ (fun _ => Bool) true (fun _ _ _ => false) b) (fun x _ ih b => @List.rec _ (fun _ => Bool) false (fun y r _ => andB (sEq x.1 y.1) (andB (sEq x.2.1 y.2.1) (andB (Nat.beq x.2.2 y.2.2) (ih r)))) b) a b
theorem entE_eq : ∀ {a b : List (V × V × Nat)}, entE a b = true → a = b := by
  intro a
  induction a with
  | nil => intro b h; cases b with | nil => rfl | cons _ _ => cases h
  | cons x a ih =>
    intro b h
    cases b with
    | nil => cases h
    | cons y b =>
      have h : andB (sEq x.1 y.1) (andB (sEq x.2.1 y.2.1) (andB (Nat.beq x.2.2 y.2.2) (entE a b))) = true := h
      simp only [andB_eq] at h
      obtain ⟨h1, h2, h3, h4⟩ := h
      obtain ⟨x1, x2, x3⟩ := x
      obtain ⟨y1, y2, y3⟩ := y
      rw [ih h4, show x1 = y1 from sEq_eq h1, show x2 = y2 from sEq_eq h2, show x3 = y3 from beq_of h3]
noncomputable def chkE (E : List (Nat × LB)) (h : H3) (k : Option R) : Option R :=
  @List.rec _ (fun _ => Option R) k (fun x _ ih => getH h x.1 fun bl => match x.2 with
    | .c ty fz cs => onC bl fun ty' n fz' pg => iff (andB (Nat.beq ty' ty) (andB (Nat.beq fz' fz) (Nat.ble (lenN cs) n))) (getsP pg (lenN cs) 0 fun l => iff (sEqL cs l) ih none) none
    | .m es clock => onM bl fun es' clock' => iff (andB (Nat.beq clock' clock) (entE es es')) ih none) E
theorem chkE_some {h : H3} {k : Option R} {r : R} : ∀ {E : List (Nat × LB)}, chkE E h k = some r → k = some r ∧ ∀ x ∈ E, x.1 < 262144 ∧ LBHas x.2 (look h x.1)
  | [], e => ⟨e, fun x hx => by cases hx⟩
  | x :: E, e => by
    have e : (getH h x.1 fun bl => match x.2 with
      | .c ty fz cs => onC bl fun ty' n fz' pg => iff (andB (Nat.beq ty' ty) (andB (Nat.beq fz' fz) (Nat.ble (lenN cs) n))) (getsP pg (lenN cs) 0 fun l => iff (sEqL cs l) (chkE E h k) none) none
      | .m es clock => onM bl fun es' clock' => iff (andB (Nat.beq clock' clock) (entE es es')) (chkE E h k) none) = some r := e
    obtain ⟨hx, e⟩ := getH_some e
    have fin : LBHas x.2 (look h x.1) → chkE E h k = some r → k = some r ∧ ∀ y ∈ x :: E, y.1 < 262144 ∧ LBHas y.2 (look h y.1) := fun hl e => by
      obtain ⟨h1, h2⟩ := chkE_some e
      exact ⟨h1, fun y hy => (List.mem_cons.1 hy).elim (fun e => by subst e; exact ⟨hx, hl⟩) (h2 y)⟩
    split at e
    · rename_i ty fz cs hl
      obtain ⟨ty', n, fz', pg, hlk, e⟩ := onC_some e
      obtain ⟨hc, e⟩ := iff_some e
      simp only [andB_eq, lenN_eq] at hc
      rw [getsP_eq, lenN_eq] at e
      obtain ⟨hs, e⟩ := iff_some e
      refine fin ?_ e
      have hs := sEqL_eq hs
      rw [hl, hlk, show ty' = ty from beq_of hc.1, show fz' = fz from beq_of hc.2.1]
      refine ⟨n, pg, rfl, ble_of hc.2.2, fun i hi => ?_⟩
      have := cells_at pg cs.length 0 i hi
      rw [← hs, Nat.zero_add] at this
      exact this
    · rename_i es clock hl
      cases hlk : look h x.1 with
      | gone => rw [hlk] at e; cases e
      | cel _ _ _ _ => rw [hlk] at e; cases e
      | mp es' clock' =>
        rw [hlk] at e
        obtain ⟨hc, e⟩ := iff_some (show iff (andB (Nat.beq clock' clock) (entE es es')) (chkE E h k) none = some r from e)
        rw [andB_eq] at hc
        refine fin ?_ e
        rw [hl, hlk, show clock' = clock from beq_of hc.1, ← entE_eq hc.2]
        rfl
end
end Go.Ev
