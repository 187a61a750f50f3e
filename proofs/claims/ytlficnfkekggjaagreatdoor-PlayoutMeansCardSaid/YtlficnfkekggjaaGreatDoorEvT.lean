
/-
  Frames; regions whose operations run in their order.
  Code, functions and calls: the evaluator, and that it is sound.
-/
import Derived.Test.YtlficnfkekggjaaGreatDoorEvN
import Derived.LoopN
namespace Go.Ev
section
variable {R : Type} {P : Program}
/-- the frame reads as e -/
structure ER (φ : Phi) (nt : Nat) (e : E4) (a : Act) : Prop where
  size : a.tmps.size = nt
  defers : a.defers = []
  at_ : ∀ i, i < 256 → VR φ (rdE e i) (a.tmps.getD i undef)
theorem ER.mono {φ ψ : Phi} (h : φ.le ψ) {nt : Nat} {e : E4} {a : Act} (k : ER φ nt e a) : ER ψ nt e a := ⟨k.size, k.defers, fun i hi => (k.at_ i hi).mono h _ _⟩
theorem ea_get_far {i : Nat} (hi : 256 ≤ i) (e : E4) : (ea R i).get e = .unk := by
  unfold ea
  rw [shr6]
  generalize ac V R (Nat.land i 63) = A
  cases A with
  | mk get set =>
    obtain ⟨m, hm⟩ : ∃ m, i / 64 = m + 4 := ⟨i / 64 - 4, by omega⟩
    rw [hm]
    rfl
theorem opd_tmp (t : Nat) (e : E4) : (opd (.tmp t)).get e = (ea Unit t).get e := by
  show (@EA.rec Unit (fun _ => OpdC) (fun get _ => ⟨get⟩) (ea Unit t)).get e = _
  cases ea Unit t
  rfl
theorem opd_const (v : Value) (e : E4) : (opd (.const v)).get e = ofV v := by
  unfold opd
  cases h : ofV v with
  | vb b => cases b <;> simp [h]
  | _ => simp only [h] <;> simp only [natC_eq]
theorem ER.tmp {φ : Phi} {nt : Nat} {e : E4} {a : Act} (h : ER φ nt e a) (t : Nat) : VR φ ((ea R t).get e) (a.tmps.getD t undef) := by
  rcases Nat.lt_or_ge t 256 with ht | ht
  · rw [ea_get R ht]; exact h.at_ t ht
  · rw [ea_get_far ht]; exact trivial
theorem ER.or {φ : Phi} {nt : Nat} {e : E4} {a : Act} (h : ER φ nt e a) (hg : Glob φ) (x : Operand) : OR φ e a x := by
  unfold OR
  cases x with
  | tmp t => rw [opd_tmp]; exact h.tmp t
  | const v => rw [opd_const]; exact ofV_VR φ v
  | global g =>
    unfold opd
    cases g with
    | zero => obtain ⟨x, h1, h2⟩ := hg; exact ⟨x, h1, by rw [h2]; rfl⟩
    | succ g => exact trivial
  | func f => exact ⟨[], rfl, rfl⟩
theorem ER.put {φ : Phi} {nt : Nat} {e : E4} {a : Act} (h : ER φ nt e a) {d : Nat} (hd : d < nt) (h2 : d < 256) {v : V} {u : Value} (hv : VR φ v u) : ER φ nt (upE e d v) (a.put (some d) u) where
  size := by simp [Act.put, h.size]
  defers := h.defers
  at_ := fun i hi => by
    rw [rdE_upE e v h2 hi]
    unfold Act.put
    simp only [Array.getD_eq_getD_getElem?]
    by_cases hdi : d = i
    · subst hdi
      rw [if_pos rfl, Array.getElem?_setIfInBounds]
      rw [if_pos rfl, if_pos (by rw [h.size]; exact hd)]
      exact hv
    · rw [if_neg hdi, Array.getElem?_setIfInBounds, if_neg hdi]
      have := h.at_ i hi
      rw [Array.getD_eq_getD_getElem?] at this
      exact this
/-- what a slot that is written leaves -/
theorem dst_some {nt : Nat} {d : Option Nat} {e : E4} {v : V} {k : E4 → Option R} {r : R} (h : (dst R nt d).set e v k = some r) :
    ∃ e', k e' = some r ∧ ∀ φ a u, ER φ nt e a → VR φ v u → ER φ nt e' (a.put d u) := by
  cases d with
  | none => exact ⟨e, h, fun φ a u he _ => he⟩
  | some d =>
    have h : (@Bool.rec (fun _ => DC R) ⟨fun _ _ _ => none⟩ (@EA.rec R (fun _ => DC R) (fun _ set => ⟨set⟩) (ea R d)) (Nat.blt d nt)).set e v k = some r := h
    cases hb : Nat.blt d nt with
    | false => rw [hb] at h; cases h
    | true =>
      rw [hb] at h
      have hd := blt_of hb
      have h : (ea R d).set e v k = some r := by
        revert h
        cases ea R d
        exact id
      rcases Nat.lt_or_ge d 256 with h2 | h2
      · rw [ea_set h2] at h
        exact ⟨_, h, fun φ a u he hv => he.put hd h2 hv⟩
      · rw [ea_far h2] at h; cases h
theorem undef_VR (φ : Phi) : VR φ (.vt []) undef := ⟨[], rfl, rfl⟩
theorem onG_some {v : V} {want : Bool} {yes no : Option R} {r : R} (h : onG v want yes no = some r) : (yes = some r ∧ v = .vb want) ∨ (no = some r ∧ v ≠ .vb want ∧ v ≠ .unk) := by
  cases v with
  | vb b => cases b <;> cases want <;> first | exact .inl ⟨h, rfl⟩ | exact .inr ⟨h, by simp, by simp⟩
  | unk => cases h
  | _ => exact .inr ⟨h, by simp, by simp⟩
theorem VR_bool {φ : Phi} {v : V} {b : Bool} (h : VR φ v (.bool b)) : v = .vb b ∨ v = .unk := by
  cases v with
  | vb x => injection (show Value.bool b = .bool x from h) with h; exact .inl (by rw [h])
  | unk => exact .inr rfl
  | vi _ _ => cases h
  | vg _ _ => cases h
  | vp _ _ => obtain ⟨_, _, h⟩ := h; cases h
  | pn => cases h
  | sn => cases h
  | mn => cases h
  | fn => cases h
  | ni => cases h
  | vs _ _ => obtain ⟨_, h, _⟩ := h; cases h
  | sl _ _ _ _ => obtain ⟨_, _, h⟩ := h; cases h
  | so _ _ _ => obtain ⟨_, _, _, _, _, h⟩ := h; cases h
  | vm _ => obtain ⟨_, _, h⟩ := h; cases h
  | vf _ _ => obtain ⟨_, h, _⟩ := h; cases h
  | va _ => obtain ⟨_, h, _⟩ := h; cases h
  | vt _ => obtain ⟨_, h, _⟩ := h; cases h
/-- an operation of a region -/
theorem rop_some {nt : Nat} {ops : Array Oper} {o : Oper} {rec : Rec R} (hrec : RecSd P rec) {e : E4} {s : S} {k : E4 → S → Option R} {r : R} (hb : s.base ≤ s.n) (h : (cOp P nt ops.toList o).run rec e s k = some r) :
    ∃ e' s', Abs s s' ∧ k e' s' = some r ∧ ∀ φ a w K Q, (∀ b, s.n ≤ b → φ b = none) → Glob φ → ER φ nt e a → HR P φ s.h w →
      (∀ φ' a' w', Step P φ φ' s s' w w' → ER φ' nt e' a' → K a' w') → if Region.wanted o (yielded ops a.tmps) then o.wp P a w K Q else K (a.put o.dst undef) w := by
  have hsd := sd_all (R := R) (P := P) o.op
  unfold cOp at h
  cases hB : (cOp0 P o.op : BOp R) with
  | mk run =>
  rw [hB] at h hsd
  cases hD : dst R nt o.dst with
  | mk st =>
  rw [hD] at h
  have hst : ∀ {e v k r}, st e v k = some r → ∃ e', k e' = some r ∧ ∀ φ a u, ER φ nt e a → VR φ v u → ER φ nt e' (a.put o.dst u) := fun {e v k r} h => dst_some (R := R) (nt := nt) (d := o.dst) (by rw [hD]; exact h)
  have yes : run rec e s (fun v s => st e v fun e => k e s) = some r → ∃ e' s', Abs s s' ∧ k e' s' = some r ∧ ∀ φ a w K Q, (∀ b, s.n ≤ b → φ b = none) → Glob φ → ER φ nt e a → HR P φ s.h w →
      (∀ φ' a' w', Step P φ φ' s s' w w' → ER φ' nt e' a' → K a' w') → o.wp P a w K Q := fun h => by
    obtain ⟨v, s', h1, ha, h⟩ := hsd rec hrec e s _ r hb h
    obtain ⟨e', h, H⟩ := hst h
    refine ⟨e', s', ha, h, fun φ a w K Q hf hg he HH hK => ?_⟩
    exact h1 o rfl φ a w K Q hf hg (fun x _ => he.or hg x) HH fun φ' u w' hs hv => hK φ' _ w' hs (H φ' a u (he.mono hs.ext) hv)
  cases hgd : o.guard with
  | none =>
    rw [hgd] at h
    obtain ⟨e', s', ha, hk, H⟩ := yes h
    refine ⟨e', s', ha, hk, fun φ a w K Q hf hg he HH hK => ?_⟩
    rw [if_pos (by simp [Region.wanted, hgd])]
    exact H φ a w K Q hf hg he HH hK
  | some q =>
    obtain ⟨j, want⟩ := q
    rw [hgd] at h
    simp only [Array.getElem?_toList] at h
    cases hd : (ops[j]?).bind (·.dst) with
    | none => rw [hd] at h; cases h
    | some d =>
      rw [hd] at h
      have h : onG ((ea R d).get e) want (run rec e s fun v s => st e v fun e => k e s) (st e (.vt []) fun e => k e s) = some r := by
        have h : (@EA.rec R (fun _ => ROp R) (fun get _ => ⟨fun rec e s k => onG (get e) want (run rec e s fun v s => st e v fun e => k e s) (st e (.vt []) fun e => k e s)⟩) (ea R d)).run rec e s k = some r := h
        revert h
        cases ea R d
        exact id
      rcases onG_some h with ⟨h, hv⟩ | ⟨h, hv, hu⟩
      · obtain ⟨e', s', ha, hk, H⟩ := yes h
        refine ⟨e', s', ha, hk, fun φ a w K Q hf hg he HH hK => ?_⟩
        have ht := he.tmp (R := R) d
        rw [hv] at ht
        have ht : a.tmps.getD d undef = .bool want := ht
        rw [if_pos]
        · exact H φ a w K Q hf hg he HH hK
        · rw [Array.getD_eq_getD_getElem?] at ht
          cases hx : a.tmps[d]? with
          | none => rw [hx] at ht; cases ht
          | some y =>
            rw [hx] at ht
            have ht : y = .bool want := ht
            subst ht
            simp [Region.wanted, hgd, yielded, hd, hx]
      · obtain ⟨e', hk, H⟩ := hst h
        refine ⟨e', s, Abs.refl s, hk, fun φ a w K Q hf hg he HH hK => ?_⟩
        have ht := he.tmp (R := R) d
        rw [if_neg]
        · exact hK φ _ w (Step.refl HH) (H φ a _ he (undef_VR φ))
        · intro hw
          simp only [Region.wanted, hgd, yielded, hd, Option.bind_some] at hw
          rw [Array.getD_eq_getD_getElem?] at ht
          cases hx : a.tmps[d]? with
          | none => simp [hx] at hw
          | some y =>
            rw [hx] at ht hw
            have ht : VR φ ((ea R d).get e) y := ht
            cases y <;> simp at hw
            subst hw
            rcases VR_bool ht with h | h
            · exact hv h
            · exact hu h
/-- a region in its order -/
theorem runOps_some {nt : Nat} {ops : Array Oper} {rec : Rec R} (hrec : RecSd P rec) {k : E4 → S → Option R} {r : R} : ∀ (l : List Oper) (e : E4) (s : S), s.base ≤ s.n → runOps rec k (cOps P nt ops.toList l) e s = some r →
    ∃ e' s', Abs s s' ∧ k e' s' = some r ∧ ∀ φ a w Q, (∀ b, s.n ≤ b → φ b = none) → Glob φ → ER φ nt e a → HR P φ s.h w →
      (∀ φ' a' w', Step P φ φ' s s' w w' → ER φ' nt e' a' → Q .normal a' w') → wpList P ops Q l a w
  | [], e, s, hb, h => ⟨e, s, Abs.refl s, h, fun φ a w Q _ _ he HH hQ => hQ φ a w (Step.refl HH) he⟩
  | o :: l, e, s, hb, h => by
    obtain ⟨e1, s1, ha1, h1, H1⟩ := rop_some hrec hb (show (cOp P nt ops.toList o).run rec e s (runOps rec k (cOps P nt ops.toList l)) = some r from h)
    have hb1 : s1.base ≤ s1.n := by have := ha1.base; have := ha1.n; omega
    obtain ⟨e2, s2, ha2, h2, H2⟩ := runOps_some hrec l e1 s1 hb1 h1
    refine ⟨e2, s2, ha1.trans hb ha2, h2, fun φ a w Q hf hg he HH hQ => wpList_step fun K hK => ?_⟩
    refine H1 φ a w K Q hf hg he HH fun φ' a' w' hs he' => hK _ _ ?_
    refine H2 φ' a' w' Q (hs.none ha1 hf) (hg.mono hs.ext) he' hs.hr fun φ'' a'' w'' hs' he'' => hQ φ'' a'' w'' (Step.trans ha1 ha2 hs hs') he''
end
end Go.Ev
namespace Go.Ev
section
variable {R : Type}
/-- how a piece of code ends -/
inductive Ex where
  | normal
  | exit (id : Nat)
  | ret
def Ex.to : Ex → Exit | .normal => .normal | .exit id => .exit id | .ret => .ret
abbrev K3 (R : Type) := Ex → E4 → S → Option R
abbrev RecC (R : Type) := Nat → Code → E4 → S → K3 R → Option R
structure RsC (R : Type) where
  run : E4 → S → (List V → Option R) → Option R
noncomputable def resC (P : Program) : List ResultVar → RsC R
  | [] => ⟨fun _ _ k => k []⟩
  | .tmp t :: r => @EA.rec Unit (fun _ => RsC R) (fun get _ => @RsC.rec R (fun _ => RsC R) (fun run => ⟨fun e s k => run e s fun l => k (get e :: l)⟩) (resC P r)) (ea Unit t)
  | .cell a t :: r => @EA.rec Unit (fun _ => RsC R) (fun get _ => @LdC.rec R (fun _ => RsC R) (fun ld => @RsC.rec R (fun _ => RsC R) (fun run => ⟨fun e s k => onP (get e) fun b o => ld s b o fun v => run e s fun l => k (v :: l)⟩) (resC P r)) (loadC P t)) (ea Unit a)
noncomputable def oneV (l : List V) (k : V → Option R) : Option R := @List.rec _ (fun _ => Option R) (k (.vt [])) (fun v r _ => @List.rec _ (fun _ => Option R) (k v) (fun _ _ _ => k (.vt (v :: r))) r) l
structure HK (R : Type) where
  run : List V → S → (V → S → Option R) → Option R
structure FC (R : Type) where
  run : RecC R → List V → S → (V → S → Option R) → Option R
noncomputable def mkE (nt : Nat) (l : List V) (k : E4 → Option R) : Option R := iff (Nat.ble (lenN l) 8) (iff (Nat.ble (lenN l) nt)
  (k ⟨⟨⟨hd l 0, hd l 1, hd l 2, hd l 3, hd l 4, hd l 5, hd l 6, hd l 7⟩, z8, z8, z8, z8, z8, z8, z8⟩, z64, z64, z64⟩) none) none
/-- a function: its results, its frame -/
noncomputable def fnC (P : Program) (hk : Nat → Option (HK R)) (g : Nat) : FC R :=
  match hk g with
  | some h => ⟨fun _ args s k => h.run args s k⟩
  | none => match P.funcs[g]? with
    | some F => match F.body with
      | some c => @RsC.rec R (fun _ => FC R) (fun res => natC F.ntmps fun nt => ⟨fun ih args s k => mkE nt args fun e => ih nt c e s fun x e s => @Ex.rec (fun _ => Option R) (res e s fun l => oneV l fun v => k v s) (fun _ => none) (res e s fun l => oneV l fun v => k v s) x⟩) (resC P F.results.toList)
      | none => ⟨fun _ _ _ _ => none⟩
    | none => ⟨fun _ _ _ _ => none⟩
structure RC (R : Type) where
  l : List (ROp R)
noncomputable def cReg (P : Program) (nt : Nat) (ops : Array Oper) : RC R := ⟨cOps P nt ops.toList ops.toList⟩
/-- a region in drawn order -/
structure DR (R : Type) where
  run : Rec R → (E4 → S → Option R) → E4 → S → Option R
noncomputable def step (P : Program) (D : Nat → Array Oper → DR R) (hk : Nat → Option (HK R)) (ih : RecC R) : RecC R := fun nt c e s k =>
  @Code.rec (fun _ => Option R) (k .normal e s)
    (fun _ ops draw => @Bool.rec (fun _ => Option R) (runOps (fun g args s k => (fnC P hk g).run ih args s k) (k .normal) (cReg P nt ops).l e s) ((D nt ops).run (fun g args s k => (fnC P hk g).run ih args s k) (k .normal) e s) draw)
    (fun a b _ _ => ih nt a e s fun x e s => @Ex.rec (fun _ => Option R) (ih nt b e s k) (fun id => k (.exit id) e s) (k .ret e s) x)
    (fun c a b _ _ => onB ((opd c).get e) fun c => iff c (ih nt a e s k) (ih nt b e s k))
    (fun id b _ => ih nt b e s fun x e s => @Ex.rec (fun _ => Option R) (k .normal e s) (fun j => iff (Nat.beq j id) (k .normal e s) (k (.exit j) e s)) (k .ret e s) x)
    (fun b _ => ih nt b e s fun x e s => @Ex.rec (fun _ => Option R) (ih nt (.loop b) e s k) (fun id => k (.exit id) e s) (k .ret e s) x)
    (fun _ _ _ _ _ _ => none)
    (fun id => k (.exit id) e s)
    (fun _ _ => none)
    (fun _ => k .normal e s)
    (fun _ => none)
    (k .ret e s)
    (fun _ => none) c
noncomputable def ev (P : Program) (D : Nat → Array Oper → DR R) (hk : Nat → Option (HK R)) (f : Nat) : RecC R := @Nat.rec (fun _ => RecC R) (fun _ _ _ _ _ => none) (fun _ ih => step P D hk ih) f
noncomputable def callG (P : Program) (D : Nat → Array Oper → DR R) (hk : Nat → Option (HK R)) (f : Nat) (g : Nat) (args : List V) (s : S) (k : V → S → Option R) : Option R := (fnC P hk g).run (ev P D hk f) args s k
end
section
variable {R : Type} {P : Program}
/-- the rule of a piece of code; of a loop: so many rounds -/
def WP (P : Program) (n : Nat) (c : Code) (Q : Exit → Act → World → Prop) (a : Act) (w : World) : Prop := match c with
  | .loop b => Code.rounds P b Q n a w
  | c => c.wp P Q a w
theorem WP.wp {n : Nat} {c : Code} {Q : Exit → Act → World → Prop} {a : Act} {w : World} (h : WP P n c Q a w) : c.wp P Q a w := by
  cases c with
  | loop b => exact wp_loop_rounds n h
  | _ => exact h
def CodeSd (P : Program) (nt : Nat) (c : Code) (e : E4) (s : S) (x : Ex) (e' : E4) (s' : S) : Prop :=
  ∃ n, ∀ φ a w Q, (∀ b, s.n ≤ b → φ b = none) → Glob φ → ER φ nt e a → HR P φ s.h w → (∀ φ' a' w', Step P φ φ' s s' w w' → ER φ' nt e' a' → Q x.to a' w') → WP P n c Q a w
def RecCSd (P : Program) (rec : RecC R) : Prop := ∀ nt c e s k r, s.base ≤ s.n → rec nt c e s k = some r → ∃ x e' s', CodeSd P nt c e s x e' s' ∧ Abs s s' ∧ k x e' s' = some r
def DSpec (P : Program) (D : Nat → Array Oper → DR R) : Prop := ∀ nt ops rec, RecSd P rec → ∀ e s k r, s.base ≤ s.n → (D nt ops).run rec k e s = some r → ∃ e' s', Abs s s' ∧ k e' s' = some r ∧
  ∀ id φ a w Q, (∀ b, s.n ≤ b → φ b = none) → Glob φ → ER φ nt e a → HR P φ s.h w → (∀ φ' a' w', Step P φ φ' s s' w w' → ER φ' nt e' a' → Q .normal a' w') → (Code.region id ops true).wp P Q a w
def HkSd (P : Program) (hk : Nat → Option (HK R)) : Prop := ∀ g h, hk g = some h → ∀ args s k r, s.base ≤ s.n → h.run args s k = some r → ∃ v s', CallSd P g args s v s' ∧ Abs s s' ∧ k v s' = some r
def resF (a : Act) : ResultVar → Sem Value
  | .tmp t => pure (a.tmps.getD t undef)
  | .cell x t => do loadVar t (← asAddr (a.tmps.getD x undef))
theorem results_eq (fn : Func) (a : Act) : results fn a.tmps = (do let vs ← fn.results.mapM (resF a); pure (if h : vs.size = 1 then vs[0] else .tuple vs)) := by
  unfold results
  congr 2
theorem resC_some : ∀ {rs : List ResultVar} {e : E4} {s : S} {k : List V → Option R} {r : R}, (resC P rs).run e s k = some r → ∃ l, k l = some r ∧ ∀ φ nt a w, ER φ nt e a → HR P φ s.h w →
    ∃ us, (rs.mapM (resF a)).run P w = .ok us w ∧ VRs φ l us
  | [], e, s, k, r, h => ⟨[], h, fun φ nt a w _ _ => ⟨[], rfl, rfl⟩⟩
  | .tmp t :: rs, e, s, k, r, h => by
    have h : (resC P rs).run e s (fun l => k ((ea Unit t).get e :: l)) = some r := by
      have h : (@EA.rec Unit (fun _ => RsC R) (fun get _ => @RsC.rec R (fun _ => RsC R) (fun run => ⟨fun e s k => run e s fun l => k (get e :: l)⟩) (resC P rs)) (ea Unit t)).run e s k = some r := h
      revert h
      cases ea Unit t
      cases resC P rs
      exact id
    obtain ⟨l, h1, H⟩ := resC_some h
    refine ⟨_, h1, fun φ nt a w he HH => ?_⟩
    obtain ⟨us, g1, g2⟩ := H φ nt a w he HH
    refine ⟨a.tmps.getD t undef :: us, ?_, _, _, rfl, he.tmp (R := Unit) t, g2⟩
    simp only [List.mapM_cons, resF, Sem.run_bind, Sem.run_pure, Result.andThen_ok, g1]
  | .cell x t :: rs, e, s, k, r, h => by
    have h : onP ((ea Unit x).get e) (fun b o => (loadC P t).run s b o fun v => (resC P rs).run e s fun l => k (v :: l)) = some r := by
      have h : (@EA.rec Unit (fun _ => RsC R) (fun get _ => @LdC.rec R (fun _ => RsC R) (fun ld => @RsC.rec R (fun _ => RsC R) (fun run => ⟨fun e s k => onP (get e) fun b o => ld s b o fun v => run e s fun l => k (v :: l)⟩) (resC P rs)) (loadC P t)) (ea Unit x)).run e s k = some r := h
      revert h
      cases ea Unit x
      cases (loadC P t : LdC R)
      cases (resC P rs : RsC R)
      exact id
    obtain ⟨b, o, hx, h⟩ := onP_some h
    obtain ⟨v, h, H1⟩ := loadC_some h
    obtain ⟨l, h1, H⟩ := resC_some h
    refine ⟨_, h1, fun φ nt a w he HH => ?_⟩
    obtain ⟨us, g1, g2⟩ := H φ nt a w he HH
    have ht := he.tmp (R := Unit) x
    rw [hx] at ht
    obtain ⟨y, hy, hu⟩ := ht
    obtain ⟨u, q1, q2⟩ := H1 φ w y HH hy
    refine ⟨u :: us, ?_, _, _, rfl, q2, g2⟩
    have q3 : (loadVar t ⟨y.1, o, none⟩).run P w = .ok u w := by
      simpa [Instr.loadAt, Instr.sureAddr] using q1
    simp only [List.mapM_cons, resF, Sem.run_bind, hu, asAddr, Sem.run_pure, Result.andThen_ok, q3, g1]
theorem oneV_some {l : List V} {k : V → Option R} {r : R} (h : oneV l k = some r) : ∃ v, k v = some r ∧ ∀ φ us, VRs φ l us → VR φ v (if h : us.toArray.size = 1 then us.toArray[0] else .tuple us.toArray) := by
  match l with
  | [] => exact ⟨_, h, fun φ us hu => by rw [show us = [] from hu]; exact ⟨[], rfl, rfl⟩⟩
  | [v] => exact ⟨v, h, fun φ us ⟨u, t, e, hv, ht⟩ => by rw [show t = [] from ht] at e; subst e; exact hv⟩
  | v :: x :: l =>
    refine ⟨_, h, fun φ us hu => ?_⟩
    have hl := hu.len
    rw [dif_neg (by simp at hl ⊢; omega)]
    exact ⟨us, rfl, hu⟩
theorem rdE_mk (l : List V) (i : Nat) (hi : i < 256) (hl : l.length ≤ 8) :
    rdE ⟨⟨⟨hd l 0, hd l 1, hd l 2, hd l 3, hd l 4, hd l 5, hd l 6, hd l 7⟩, z8, z8, z8, z8, z8, z8, z8⟩, z64, z64, z64⟩ i = (l[i]?).getD (.vt []) := by
  have hq : ∀ {β : Type} (y : β) (j : Nat), rd8 (q8 y) j = y := by intro β y j; rcases j with _ | _ | _ | _ | _ | _ | _ | j <;> rfl
  rcases Nat.lt_or_ge i 8 with h8 | h8
  · match i, h8 with
    | 0, _ => exact nth_eq _ l 0
    | 1, _ => exact nth_eq _ l 1
    | 2, _ => exact nth_eq _ l 2
    | 3, _ => exact nth_eq _ l 3
    | 4, _ => exact nth_eq _ l 4
    | 5, _ => exact nth_eq _ l 5
    | 6, _ => exact nth_eq _ l 6
    | 7, _ => exact nth_eq _ l 7
  · rw [List.getElem?_eq_none (by omega)]
    unfold rdE
    by_cases h64 : i < 64
    · rw [if_pos h64]
      unfold rd
      obtain ⟨q, hq1, hq2⟩ : ∃ q, i / 8 = q + 1 ∧ q < 7 := ⟨i / 8 - 1, by omega, by omega⟩
      rw [hq1]
      match q, hq2 with
      | 0, _ => exact hq _ _
      | 1, _ => exact hq _ _
      | 2, _ => exact hq _ _
      | 3, _ => exact hq _ _
      | 4, _ => exact hq _ _
      | 5, _ => exact hq _ _
      | 6, _ => exact hq _ _
    · rw [if_neg h64]
      split
      · exact rd_t64 _ _
      · split <;> exact rd_t64 _ _
theorem mkE_some {nt : Nat} {l : List V} {k : E4 → Option R} {r : R} (h : mkE nt l k = some r) : ∃ e, k e = some r ∧ ∀ φ us, VRs φ l us → ER φ nt e { tmps := us.toArray ++ Array.replicate (nt - us.toArray.size) undef, defers := [] } := by
  unfold mkE at h
  obtain ⟨h1, h⟩ := iff_some h
  obtain ⟨h2, h⟩ := iff_some h
  rw [lenN_eq] at h1 h2
  have h1 := ble_of h1
  have h2 := ble_of h2
  refine ⟨_, h, fun φ us hu => ⟨?_, rfl, fun i hi => ?_⟩⟩
  · have := hu.len
    simp; omega
  · rw [rdE_mk l i hi h1]
    have hlen := hu.len
    simp only [Array.getD_eq_getD_getElem?, Array.getElem?_append]
    by_cases hil : i < l.length
    · rw [if_pos (by simpa [hlen] using hil)]
      obtain ⟨u, a1, a2⟩ := hu.at_ (List.getElem?_eq_getElem hil)
      rw [List.getElem?_toArray, a1, List.getElem?_eq_getElem hil]
      exact a2
    · rw [if_neg (by simpa [hlen] using hil), List.getElem?_eq_none (by omega)]
      have : ((Array.replicate (nt - us.toArray.size) undef)[i - us.toArray.size]?).getD undef = undef := by
        rw [Array.getElem?_replicate]; split <;> rfl
      rw [this]
      exact undef_VR φ
/-! ### the rules -/
theorem run_enter {g : Nat} {F : Func} {c : Code} (hF : P.funcs[g]? = some F) (hc : F.body = some c) (hN : (F.name == "runtime.NumGoroutine") = false) (us : Array Value) (w : World) : (callFunc g us).run P w = .ok (.enter g us) w := by
  have h1 : ¬ F.name = "runtime.NumGoroutine" := by simpa using hN
  simp [callFunc, hF, hc, h1]
variable {D : Nat → Array Oper → DR R} {hk : Nat → Option (HK R)}
/-- no function is the one that counts -/
def NoNG (P : Program) : Prop := ∀ (g : Nat) (F : Func), P.funcs[g]? = some F → (F.name == "runtime.NumGoroutine") = false
theorem fnC_some (hN : NoNG P) (hH : HkSd P hk) {ih : RecC R} (hi : RecCSd P ih) : RecSd P (fun g args s k => (fnC P hk g).run ih args s k) := by
  intro g args s k r hb h
  simp only [] at h
  unfold fnC at h
  cases hg : hk g with
  | some hh => rw [hg] at h; exact hH g hh hg args s k r hb h
  | none =>
    rw [hg] at h
    simp only [] at h
    cases hF : P.funcs[g]? with
    | none => rw [hF] at h; cases h
    | some F =>
      rw [hF] at h
      simp only [] at h
      cases hc : F.body with
      | none => rw [hc] at h; cases h
      | some c =>
        rw [hc] at h
        simp only [natC_eq] at h
        cases hR : (resC P F.results.toList : RsC R) with
        | mk res =>
          rw [hR] at h
          have h : mkE F.ntmps args (fun e => ih F.ntmps c e s fun x e s => @Ex.rec (fun _ => Option R) (res e s fun l => oneV l fun v => k v s) (fun _ => none) (res e s fun l => oneV l fun v => k v s) x) = some r := h
          obtain ⟨e, h, He⟩ := mkE_some h
          obtain ⟨x, e', s', ⟨n, hsd⟩, ha, h⟩ := hi F.ntmps c e s _ r hb h
          have fin : res e' s' (fun l => oneV l fun v => k v s') = some r → (x = .normal ∨ x = .ret) → ∃ v s', CallSd P g args s v s' ∧ Abs s s' ∧ k v s' = some r := fun h hx => by
            obtain ⟨l, h, Hl⟩ := resC_some (P := P) (rs := F.results.toList) (by rw [hR]; exact h)
            obtain ⟨v, h, Hv⟩ := oneV_some h
            refine ⟨v, s', fun φ us w K hf hgl hv HH hK => ?_, ha, h⟩
            unfold CallW
            rw [run_enter hF hc (hN g F hF)]
            refine calls_of_wp hF hc (WP.wp (hsd φ _ w _ hf hgl (He φ us hv) HH fun φ' a' w' hs he' => ?_))
            obtain ⟨us', q1, q2⟩ := Hl φ' F.ntmps a' w' he' hs.hr
            have hres : (results F a'.tmps).run P w' = .ok (if h : us'.toArray.size = 1 then us'.toArray[0] else .tuple us'.toArray) w' := by
              rw [results_eq, Array.mapM_eq_mapM_toList, map_eq_pure_bind]
              simp only [Sem.run_bind, q1, Result.andThen_ok, Sem.run_pure]
            rcases hx with rfl | rfl
            · exact ⟨he'.defers, _, hres, hK φ' _ w' hs (Hv φ' us' q2)⟩
            · exact ⟨he'.defers, _, hres, hK φ' _ w' hs (Hv φ' us' q2)⟩
          cases x with
          | normal => exact fin h (.inl rfl)
          | ret => exact fin h (.inr rfl)
          | exit id => cases h
theorem step_some (hN : NoNG P) (hH : HkSd P hk) (hD : DSpec P D) {ih : RecC R} (hi : RecCSd P ih) : RecCSd P (step P D hk ih) := by
  have hrec := fnC_some hN hH hi
  intro nt c e s k r hb h
  -- one piece after another
  have two : ∀ {c1 c2 : Code} {k1 k2 : K3 R}, ih nt c1 e s (fun x e s => @Ex.rec (fun _ => Option R) (ih nt c2 e s k1) (fun id => k2 (.exit id) e s) (k2 .ret e s) x) = some r →
      ∃ x1 e1 s1, CodeSd P nt c1 e s x1 e1 s1 ∧ Abs s s1 ∧ ((x1 ≠ .normal ∧ k2 x1 e1 s1 = some r) ∨ (x1 = .normal ∧ ∃ x2 e2 s2, CodeSd P nt c2 e1 s1 x2 e2 s2 ∧ Abs s1 s2 ∧ Abs s s2 ∧ k1 x2 e2 s2 = some r)) := fun {c1 c2 k1 k2} h => by
    obtain ⟨x1, e1, s1, h1, ha, g⟩ := hi nt c1 e s _ r hb h
    refine ⟨x1, e1, s1, h1, ha, ?_⟩
    cases x1 with
    | normal =>
      obtain ⟨x2, e2, s2, h2, ha2, g2⟩ := hi nt c2 e1 s1 _ r (by have := ha.base; have := ha.n; omega) g
      exact .inr ⟨rfl, x2, e2, s2, h2, ha2, ha.trans hb ha2, g2⟩
    | exit id => exact .inl ⟨by simp, g⟩
    | ret => exact .inl ⟨by simp, g⟩
  cases c with
  | skip => exact ⟨.normal, e, s, ⟨0, fun φ a w Q _ _ he HH hQ => wp_skip (hQ φ a w (Step.refl HH) he)⟩, Abs.refl s, h⟩
  | label l => exact ⟨.normal, e, s, ⟨0, fun φ a w Q _ _ he HH hQ => wp_label (hQ φ a w (Step.refl HH) he)⟩, Abs.refl s, h⟩
  | exit id => exact ⟨.exit id, e, s, ⟨0, fun φ a w Q _ _ he HH hQ => wp_exit (hQ φ a w (Step.refl HH) he)⟩, Abs.refl s, h⟩
  | ret => exact ⟨.ret, e, s, ⟨0, fun φ a w Q _ _ he HH hQ => wp_ret (hQ φ a w (Step.refl HH) he)⟩, Abs.refl s, h⟩
  | region id ops draw =>
    cases draw with
    | false =>
      obtain ⟨e', s', ha, g, H⟩ := runOps_some hrec ops.toList e s hb h
      exact ⟨.normal, e', s', ⟨0, fun φ a w Q hf hg he HH hQ => wp_region_list (H φ a w Q hf hg he HH hQ)⟩, ha, g⟩
    | true =>
      obtain ⟨e', s', ha, g, H⟩ := hD nt ops _ hrec e s (k .normal) r hb h
      exact ⟨.normal, e', s', ⟨0, fun φ a w Q hf hg he HH hQ => H id φ a w Q hf hg he HH hQ⟩, ha, g⟩
  | seq c1 c2 =>
    obtain ⟨x1, e1, s1, ⟨n1, h1⟩, ha1, g⟩ := two (show ih nt c1 e s (fun x e s => @Ex.rec (fun _ => Option R) (ih nt c2 e s k) (fun id => k (.exit id) e s) (k .ret e s) x) = some r from h)
    rcases g with ⟨hx, g⟩ | ⟨rfl, x2, e2, s2, ⟨n2, h2⟩, ha2, ha, g⟩
    · refine ⟨x1, e1, s1, ⟨0, fun φ a w Q hf hg he HH hQ => wp_seq (WP.wp (h1 φ a w _ hf hg he HH fun φ' a' w' hs he' => ?_))⟩, ha1, g⟩
      have := hQ φ' a' w' hs he'
      cases x1 with
      | normal => exact absurd rfl hx
      | exit id => exact this
      | ret => exact this
    · refine ⟨x2, e2, s2, ⟨0, fun φ a w Q hf hg he HH hQ => wp_seq (WP.wp (h1 φ a w _ hf hg he HH fun φ' a' w' hs he' => ?_))⟩, ha, g⟩
      exact WP.wp (h2 φ' a' w' Q (hs.none ha1 hf) (hg.mono hs.ext) he' hs.hr fun φ'' a'' w'' hs' he'' => hQ φ'' a'' w'' (Step.trans ha1 ha2 hs hs') he'')
  | cond c a b =>
    obtain ⟨bv, hbv, g⟩ := onB_some (show onB ((opd c).get e) (fun c => iff c (ih nt a e s k) (ih nt b e s k)) = some r from h)
    have hcv : ∀ {φ : Phi} {x : Act}, Glob φ → ER φ nt e x → x.eval c = .bool bv := fun hg he => by
      have := he.or hg c; unfold OR at this; rw [hbv] at this; exact this
    cases bv with
    | true =>
      obtain ⟨x1, e1, s1, ⟨n1, h1⟩, ha1, g⟩ := hi nt a e s k r hb g
      exact ⟨x1, e1, s1, ⟨0, fun φ x w Q hf hg he HH hQ => wp_cond_true (hcv hg he) (WP.wp (h1 φ x w Q hf hg he HH hQ))⟩, ha1, g⟩
    | false =>
      obtain ⟨x1, e1, s1, ⟨n1, h1⟩, ha1, g⟩ := hi nt b e s k r hb g
      exact ⟨x1, e1, s1, ⟨0, fun φ x w Q hf hg he HH hQ => wp_cond_false (hcv hg he) (WP.wp (h1 φ x w Q hf hg he HH hQ))⟩, ha1, g⟩
  | block id b =>
    obtain ⟨x1, e1, s1, ⟨n1, h1⟩, ha1, g⟩ := hi nt b e s _ r hb (show ih nt b e s (fun x e s => @Ex.rec (fun _ => Option R) (k .normal e s) (fun j => iff (Nat.beq j id) (k .normal e s) (k (.exit j) e s)) (k .ret e s) x) = some r from h)
    cases x1 with
    | normal => exact ⟨.normal, e1, s1, ⟨0, fun φ a w Q hf hg he HH hQ => wp_block (WP.wp (h1 φ a w _ hf hg he HH fun φ' a' w' hs he' => hQ φ' a' w' hs he'))⟩, ha1, g⟩
    | ret => exact ⟨.ret, e1, s1, ⟨0, fun φ a w Q hf hg he HH hQ => wp_block (WP.wp (h1 φ a w _ hf hg he HH fun φ' a' w' hs he' => hQ φ' a' w' hs he'))⟩, ha1, g⟩
    | exit j =>
      rcases iff2 g with ⟨hj, g⟩ | ⟨hj, g⟩
      · have hj := beq_of hj
        refine ⟨.normal, e1, s1, ⟨0, fun φ a w Q hf hg he HH hQ => wp_block (WP.wp (h1 φ a w _ hf hg he HH fun φ' a' w' hs he' => ?_))⟩, ha1, g⟩
        show if j = id then Q .normal a' w' else Q (.exit j) a' w'
        rw [if_pos hj]
        exact hQ φ' a' w' hs he'
      · refine ⟨.exit j, e1, s1, ⟨0, fun φ a w Q hf hg he HH hQ => wp_block (WP.wp (h1 φ a w _ hf hg he HH fun φ' a' w' hs he' => ?_))⟩, ha1, g⟩
        show if j = id then Q .normal a' w' else Q (.exit j) a' w'
        rw [if_neg (fun e => by subst e; rw [natbeq] at hj; simp at hj)]
        exact hQ φ' a' w' hs he'
  | loop b =>
    obtain ⟨x1, e1, s1, ⟨n1, h1⟩, ha1, g⟩ := two (show ih nt b e s (fun x e s => @Ex.rec (fun _ => Option R) (ih nt (.loop b) e s k) (fun id => k (.exit id) e s) (k .ret e s) x) = some r from h)
    rcases g with ⟨hx, g⟩ | ⟨rfl, x2, e2, s2, ⟨n2, h2⟩, ha2, ha, g⟩
    · refine ⟨x1, e1, s1, ⟨1, fun φ a w Q hf hg he HH hQ => ?_⟩, ha1, g⟩
      show b.wp P (Exit.then (Code.rounds P b Q 0) Q) a w
      refine WP.wp (h1 φ a w _ hf hg he HH fun φ' a' w' hs he' => ?_)
      have := hQ φ' a' w' hs he'
      cases x1 with
      | normal => exact absurd rfl hx
      | exit id => exact this
      | ret => exact this
    · refine ⟨x2, e2, s2, ⟨n2 + 1, fun φ a w Q hf hg he HH hQ => ?_⟩, ha, g⟩
      show b.wp P (Exit.then (Code.rounds P b Q n2) Q) a w
      refine WP.wp (h1 φ a w _ hf hg he HH fun φ' a' w' hs he' => ?_)
      exact h2 φ' a' w' Q (hs.none ha1 hf) (hg.mono hs.ext) he' hs.hr fun φ'' a'' w'' hs' he'' => hQ φ'' a'' w'' (Step.trans ha1 ha2 hs hs') he''
  | rangeFunc _ _ _ _ => cases h
  | scope _ => cases h
  | goto _ => cases h
  | refuse _ => cases h
theorem ev_some (hN : NoNG P) (hH : HkSd P hk) (hD : DSpec P D) : ∀ f, RecCSd P (ev P D hk f)
  | 0 => fun _ _ _ _ _ _ _ h => by cases h
  | f + 1 => step_some hN hH hD (ev_some hN hH hD f)
/-- A CALL THAT THE EVALUATOR RAN -/
theorem callG_some (hN : NoNG P) (hH : HkSd P hk) (hD : DSpec P D) {f g : Nat} {args : List V} {s : S} {k : V → S → Option R} {r : R} (hb : s.base ≤ s.n) (h : callG P D hk f g args s k = some r) :
    ∃ v s', CallSd P g args s v s' ∧ Abs s s' ∧ k v s' = some r := fnC_some hN hH (ev_some hN hH hD f) g args s k r hb h
end
end Go.Ev
