
/-
  Regions that draw their order: the evaluator runs them in their text's order, each operation over what it may look at alone, and checks that no other order can tell a difference.
  Regions that draw their order: what one operation does, told by the slots that it looks at.
  Regions that draw their order: what a run over their text's order tells.
  Regions that draw their order: the run over their text's order, as facts on each operation; versions of slots and blocks.
-/
import Derived.Test.YtlficnfkekggjaaGreatDoorEvT
import Derived.Orders
namespace Go.Ev
section
variable {R : Type}
/-! ### what stands fast -/
/-- which operations stand before one: as bits; none: an edge leads ahead -/
def bitsOf (as : List Nat) : List Edge → Option Nat
  | [] => some 0
  | e :: r => if Region.binds .any e = true then (match as[e.on]?, bitsOf as r with
      | some m, some x => some (Nat.lor (Nat.lor (2 ^ e.on) m) x)
      | _, _ => none) else bitsOf as r
def masksG : List Oper → List Nat → Option (List Nat)
  | [], as => some as
  | o :: r, as => match bitsOf as o.after.toList with
    | some m => masksG r (as ++ [m])
    | none => none
def apRow (ops : Array Oper) (x : Oper) (A : Nat) : List Oper → Nat → Bool
  | [], _ => true
  | y :: r, i => (A.testBit i || y.apart ops x) && apRow ops x A r (i + 1)
def apAll (ops : Array Oper) : List Oper → List Oper → List Nat → Bool
  | _, [], _ => true
  | pre, o :: r, A :: as => apRow ops o A pre 0 && apAll ops (pre ++ [o]) r as
  | _, _ :: _, [] => false
/-! ### footprints -/
noncomputable def idsV (v : V) : List Nat :=
  @V.rec (fun _ => List Nat) (fun _ => List Nat) (fun _ _ => []) (fun b _ => [b]) (fun _ => []) (fun _ _ => []) (fun _ _ => []) [] (fun b _ _ _ => [b]) (fun b _ _ => [b]) [] (fun b => [b]) [] (fun _ _ _ => []) [] [] (fun _ _ => []) (fun _ _ => []) [] [] (fun _ _ _ _ => []) v
noncomputable def catN (a b : List Nat) : List Nat := @List.rec _ (fun _ => List Nat) b (fun x _ ih => x :: ih) a
structure FpC where
  get : E4 → List Nat
noncomputable def fp1 (x : Operand) : FpC := @OpdC.rec (fun _ => FpC) (fun g => ⟨fun e => idsV (g e)⟩) (opd x)
noncomputable def fpL : List Operand → FpC
  | [] => ⟨fun _ => []⟩
  | x :: r => @FpC.rec (fun _ => FpC) (fun g => @FpC.rec (fun _ => FpC) (fun h => ⟨fun e => catN (g e) (h e)⟩) (fpL r)) (fp1 x)
noncomputable def fpC (o : Op) : FpC := match o with
  | .load _ a => fp1 a
  | .store _ a _ => fp1 a
  | .lookup _ x _ _ => fp1 x
  | .mapUpdate _ m _ _ => fp1 m
  | .insert _ m _ _ => fp1 m
  | .slice _ x _ _ _ => fp1 x
  | .call c => fpL c.args.toList
  | _ => ⟨fun _ => []⟩
def isCall (o : Op) : Bool := match o with
  | .call c => (match c.callee with | .builtin _ => false | _ => true)
  | _ => false
/-- the heap without blocks -/
def h0 : H3 := t64 (t64 (t64 .gone))
/-- the heap of these blocks alone -/
noncomputable def restr (h : H3) (l : List Nat) (k : H3 → Option R) : Option R :=
  @List.rec _ (fun _ => (H3 → Option R) → Option R) (fun k => k h0) (fun b _ ih k => ih fun g => getH h b fun bl => setH g b bl k) l k
/-- these blocks out of g, all others out of h -/
noncomputable def copyL (g : H3) (l : List Nat) (h : H3) (k : H3 → Option R) : Option R :=
  @List.rec _ (fun _ => (H3 → Option R) → Option R) (fun k => k h) (fun b _ ih k => ih fun h => getH g b fun bl => setH h b bl k) l k
noncomputable def newL (m : Nat) : Nat → List Nat := @Nat.rec (fun _ => Nat → List Nat) (fun _ => []) (fun _ ih n => n :: ih (Nat.succ n)) m
noncomputable def isNil {α : Type} (l : List α) : Bool := @List.rec _ (fun _ => Bool) true (fun _ _ _ => false) l
/-- equal, of one cell, and no block from n on -/
def veq (n : Nat) : V → V → Bool
  | .vi k a, .vi l b => Nat.beq k l && Nat.beq a b
  | .vb a, .vb b => a == b
  | .pn, .pn => true
  | .sn, .sn => true
  | .mn, .mn => true
  | .vp a o, .vp b q => Nat.beq a b && Nat.beq o q && Nat.blt a n
  | .sl a o l c, .sl b q m d => Nat.beq a b && Nat.beq o q && Nat.beq l m && Nat.beq c d && Nat.blt a n
  | .so a o l, .so b q m => Nat.beq a b && Nat.beq o q && Nat.beq l m && Nat.blt a n
  | .vm a, .vm b => Nat.beq a b && Nat.blt a n
  | _, _ => false
/-! ### the run -/
/-- what an operation did: its place, the numbers of its new blocks, whether it may look at all, what it may look at, what it wrote; does it answer the same behind another's write -/
structure Dc where
  i : Nat
  n : Nat
  n' : Nat
  all : Bool
  F : List Nat
  W : List Nat
  ck : H3 → Nat → Bool
noncomputable def andB (a b : Bool) : Bool := @Bool.rec (fun _ => Bool) false b a
noncomputable def orB (a b : Bool) : Bool := @Bool.rec (fun _ => Bool) b true a
noncomputable def disjB (a b : List Nat) : Bool := @List.rec _ (fun _ => Bool) true (fun x _ ih => @Bool.rec (fun _ => Bool) ih false (memB x b)) a
noncomputable def p1 (d : Dc) (all : Bool) (F : List Nat) : Bool := @Bool.rec (fun _ => Bool) (disjB d.W F) (isNil d.W) all
def lone (l : List Nat) : Bool := match l with | [_] => true | _ => false
noncomputable def p2b (d : Dc) (h : H3) (n : Nat) (b : Nat) : Bool := @Bool.rec (fun _ => Bool)
  (andB (orB (Nat.blt b d.n) (Nat.ble d.n' b)) (@Bool.rec (fun _ => Bool) (@Bool.rec (fun _ => Bool) true (andB (lone d.F) (andB (isNil d.W) (andB (Nat.beq d.n d.n') (d.ck h n)))) (memB b d.F)) false (memB b d.W)))
  (Nat.ble d.n' b) d.all
noncomputable def p2 (d : Dc) (h : H3) (n : Nat) (W : List Nat) : Bool := @List.rec _ (fun _ => Bool) true (fun b _ ih => andB (p2b d h n b) ih) W
noncomputable def pairs (A : Nat) (f : Dc → Bool) (l : List Dc) : Bool := @List.rec _ (fun _ => Bool) true (fun d _ ih => andB (orB (A.testBit d.i) (f d)) ih) l
noncomputable def wrAll (base : Nat) (l w : List Nat) : List Nat := @List.rec _ (fun _ => List Nat) w (fun b _ ih => wr base b ih) l
structure CkC where
  run : E4 → E4 → Nat → H3 → Nat → Bool
structure DOp (R : Type) where
  run : Rec R → Nat → List Dc → List Dc → E4 → S → (Nat → List Dc → List Dc → E4 → S → Option R) → Option R
/-- a load, run anew -/
noncomputable def ckC (P : Program) (nt : Nat) (ops : List Oper) (o : Oper) : CkC := match o.op, o.dst with
  | .load .., some d => @ROp.rec Bool (fun _ => CkC) (fun run => @FpC.rec (fun _ => CkC) (fun fp => @EA.rec Unit (fun _ => CkC) (fun get _ =>
      ⟨fun e e' n h m => match restr h (fp e) fun g => run (fun _ _ _ _ => none) e ⟨g, m, [], m⟩ fun e'' s'' => iff (isNil s''.w) (iff (Nat.beq s''.n m) (some (veq n (get e') (get e''))) none) none with
        | some b => b
        | none => false⟩) (ea Unit d)) (fpC o.op)) (cOp P nt ops o)
  | _, _ => ⟨fun _ _ _ _ _ => false⟩
noncomputable def finD (A i : Nat) (all : Bool) (F : List Nat) (ck : H3 → Nat → Bool) (recs wrs : List Dc) (s : S) (e' : E4) (h' : H3) (n' : Nat) (W : List Nat) (k : Nat → List Dc → List Dc → E4 → S → Option R) : Option R :=
  @Bool.rec (fun _ => Option R)
    (iff (pairs A (fun d => andB (p1 d all F) (p2 d h' n' W)) recs) (natF (Nat.succ i) fun j => k j (⟨i, s.n, n', all, F, W, ck⟩ :: recs) (⟨i, s.n, n', all, F, W, ck⟩ :: wrs) e' ⟨h', n', wrAll s.base W s.w, s.base⟩) none)
    (iff (pairs A (fun d => p1 d all F) wrs) (natF (Nat.succ i) fun j => k j (⟨i, s.n, n', all, F, W, ck⟩ :: recs) wrs e' ⟨h', n', s.w, s.base⟩) none)
    (isNil W)
noncomputable def cD1 (P : Program) (nt : Nat) (ops : List Oper) (o : Oper) (A : Nat) : DOp R :=
  @ROp.rec R (fun _ => DOp R) (fun run => @FpC.rec (fun _ => DOp R) (fun fp => @CkC.rec (fun _ => DOp R) (fun ck => @Bool.rec (fun _ => DOp R)
    ⟨fun rec i recs wrs e s k => restr s.h (fp e) fun g => run rec e ⟨g, s.n, [], s.n⟩ fun e' s' =>
      @Bool.rec (fun _ => Option R) (copyL s'.h (catN s'.w (newL (Nat.sub s'.n s.n) s.n)) s.h fun h' => finD A i false (fp e) (ck e e' s.n) recs wrs s e' h' s'.n s'.w k)
        (finD A i false (fp e) (ck e e' s.n) recs wrs s e' s.h s'.n s'.w k) (andB (Nat.beq s'.n s.n) (isNil s'.w))⟩
    ⟨fun rec i recs wrs e s k => run rec e ⟨s.h, s.n, [], s.n⟩ fun e' s' => finD A i true [] (fun _ _ => false) recs wrs s e' s'.h s'.n s'.w k⟩
    (isCall o.op)) (ckC P nt ops o)) (fpC o.op)) (cOp P nt ops o)
noncomputable def cD (P : Program) (nt : Nat) (ops : List Oper) : List Oper → List Nat → List (DOp R)
  | o :: r, A :: as => (natC A fun A => cD1 P nt ops o A) :: cD P nt ops r as
  | _, _ => []
noncomputable def runD (rec : Rec R) (k : E4 → S → Option R) (l : List (DOp R)) : Nat → List Dc → List Dc → E4 → S → Option R :=
  @List.rec _ (fun _ => Nat → List Dc → List Dc → E4 → S → Option R) (fun _ _ _ => k) (fun o _ ih i recs wrs e s => o.run rec i recs wrs e s ih) l
noncomputable def cRegD (P : Program) (nt : Nat) (ops : Array Oper) : Option (List (DOp R)) := match masksG ops.toList [] with
  | some as => @Bool.rec (fun _ => Option (List (DOp R))) none (some (cD P nt ops.toList ops.toList as)) (apAll ops [] ops.toList as)
  | none => none
/-- a region that draws its order -/
noncomputable def drawn (P : Program) (nt : Nat) (ops : Array Oper) : DR R := @Option.rec (List (DOp R)) (fun _ => DR R) ⟨fun _ _ _ _ => none⟩ (fun l => ⟨fun rec k e s => runD rec k l 0 [] [] e s⟩) (cRegD P nt ops)
end
end Go.Ev
namespace Go.Ev
section
variable {R : Type} {P : Program}
/-- what becomes of the frame -/
def SlotFr (nt : Nat) (dst : Option Nat) (e e' : E4) : Prop := match dst with
  | none => e' = e
  | some d => d < nt ∧ d < 256 ∧ ∀ t, t < 256 → t ≠ d → rdE e' t = rdE e t
theorem dst_loc {nt : Nat} {d : Option Nat} {e : E4} {v : V} {k : E4 → Option R} {r : R} (h : (dst R nt d).set e v k = some r) :
    ∃ e', k e' = some r ∧ SlotFr nt d e e' ∧ ∀ t, d = some t → rdE e' t = v := by
  cases d with
  | none => exact ⟨e, h, rfl, fun t ht => by cases ht⟩
  | some d =>
    have h : (@Bool.rec (fun _ => DC R) ⟨fun _ _ _ => none⟩ (@EA.rec R (fun _ => DC R) (fun _ set => ⟨set⟩) (ea R d)) (Nat.blt d nt)).set e v k = some r := h
    cases hb : Nat.blt d nt with
    | false => rw [hb] at h; cases h
    | true =>
      rw [hb] at h
      have hd := blt_of hb
      have h : (ea R d).set e v k = some r := by
        revert h
        cases ea R d
        exact id
      rcases Nat.lt_or_ge d 256 with h2 | h2
      · rw [ea_set h2] at h
        exact ⟨_, h, ⟨hd, h2, fun t ht hne => by rw [rdE_upE e v h2 ht, if_neg (Ne.symm hne)]⟩, fun t ht => by injection ht with ht; subst ht; rw [rdE_upE e v h2 h2, if_pos rfl]⟩
      · rw [ea_far h2] at h; cases h
/-- an operation from (e, s) to (e', s') -/
def SpecO (P : Program) (nt : Nat) (ops : Array Oper) (o : Oper) (e : E4) (s : S) (e' : E4) (s' : S) : Prop :=
  ∀ φ a w K Q, (∀ b, s.n ≤ b → φ b = none) → Glob φ → a.tmps.size = nt → (∀ t, t ∈ o.looksAt ops → t < 256 → VR φ (rdE e t) (a.tmps.getD t undef)) → HR P φ s.h w →
    (∀ φ' u w', Step P φ φ' s s' w w' → (∀ d, o.dst = some d → VR φ' (rdE e' d) u) → K (a.put o.dst u) w') → if Region.wanted o (yielded ops a.tmps) then o.wp P a w K Q else K (a.put o.dst undef) w
theorem slot_VR {φ : Phi} {e : E4} {a : Act} {t : Nat} (h : t < 256 → VR φ (rdE e t) (a.tmps.getD t undef)) : VR φ ((ea R t).get e) (a.tmps.getD t undef) := by
  rcases Nat.lt_or_ge t 256 with ht | ht
  · rw [ea_get R ht]; exact h ht
  · rw [ea_get_far ht]; exact trivial
theorem look_or {φ : Phi} {ops : Array Oper} {o : Oper} {e : E4} {a : Act} (hg : Glob φ) (h : ∀ t, t ∈ o.looksAt ops → t < 256 → VR φ (rdE e t) (a.tmps.getD t undef)) (x : Operand) (hx : x ∈ o.op.operands) : OR φ e a x := by
  unfold OR
  cases x with
  | tmp t =>
    rw [opd_tmp]
    refine slot_VR (h t ?_)
    unfold Oper.looksAt
    exact List.mem_append.2 (.inl (List.mem_filterMap.2 ⟨.tmp t, by simpa using hx, rfl⟩))
  | const v => rw [opd_const]; exact ofV_VR φ v
  | global g =>
    unfold opd
    cases g with
    | zero => obtain ⟨x, h1, h2⟩ := hg; exact ⟨x, h1, by rw [h2]; rfl⟩
    | succ g => exact trivial
  | func f => exact ⟨[], rfl, rfl⟩
theorem rop_loc {nt : Nat} {ops : Array Oper} {o : Oper} {rec : Rec R} (hrec : RecSd P rec) {e : E4} {s : S} {k : E4 → S → Option R} {r : R} (hb : s.base ≤ s.n) (h : (cOp P nt ops.toList o).run rec e s k = some r) :
    ∃ e' s', Abs s s' ∧ k e' s' = some r ∧ SlotFr nt o.dst e e' ∧ SpecO P nt ops o e s e' s' := by
  have hsd := sd_all (R := R) (P := P) o.op
  unfold cOp at h
  cases hB : (cOp0 P o.op : BOp R) with
  | mk run =>
  rw [hB] at h hsd
  cases hD : dst R nt o.dst with
  | mk st =>
  rw [hD] at h
  have hst : ∀ {e v k r}, st e v k = some r → ∃ e', k e' = some r ∧ SlotFr nt o.dst e e' ∧ ∀ t, o.dst = some t → rdE e' t = v := fun {e v k r} h => dst_loc (R := R) (nt := nt) (d := o.dst) (by rw [hD]; exact h)
  have yes : run rec e s (fun v s => st e v fun e => k e s) = some r → ∃ e' s', Abs s s' ∧ k e' s' = some r ∧ SlotFr nt o.dst e e' ∧ ∀ φ a w K Q, (∀ b, s.n ≤ b → φ b = none) → Glob φ → (∀ t, t ∈ o.looksAt ops → t < 256 → VR φ (rdE e t) (a.tmps.getD t undef)) → HR P φ s.h w →
      (∀ φ' u w', Step P φ φ' s s' w w' → (∀ d, o.dst = some d → VR φ' (rdE e' d) u) → K (a.put o.dst u) w') → o.wp P a w K Q := fun h => by
    obtain ⟨v, s', h1, ha, h⟩ := hsd rec hrec e s _ r hb h
    obtain ⟨e', h, hf, H⟩ := hst h
    refine ⟨e', s', ha, h, hf, fun φ a w K Q hf hg he HH hK => ?_⟩
    exact h1 o rfl φ a w K Q hf hg (look_or hg he) HH fun φ' u w' hs hv => hK φ' u w' hs fun d hd => by rw [H d hd]; exact hv
  cases hgd : o.guard with
  | none =>
    rw [hgd] at h
    obtain ⟨e', s', ha, hk, hfr, H⟩ := yes h
    refine ⟨e', s', ha, hk, hfr, fun φ a w K Q hf hg _ he HH hK => ?_⟩
    rw [if_pos (by simp [Region.wanted, hgd])]
    exact H φ a w K Q hf hg he HH hK
  | some q =>
    obtain ⟨j, want⟩ := q
    rw [hgd] at h
    simp only [Array.getElem?_toList] at h
    cases hd : (ops[j]?).bind (·.dst) with
    | none => rw [hd] at h; cases h
    | some d =>
      rw [hd] at h
      have h : onG ((ea R d).get e) want (run rec e s fun v s => st e v fun e => k e s) (st e (.vt []) fun e => k e s) = some r := by
        have h : (@EA.rec R (fun _ => ROp R) (fun get _ => ⟨fun rec e s k => onG (get e) want (run rec e s fun v s => st e v fun e => k e s) (st e (.vt []) fun e => k e s)⟩) (ea R d)).run rec e s k = some r := h
        revert h
        cases ea R d
        exact id
      have hdl : d ∈ o.looksAt ops := by
        unfold Oper.looksAt
        refine List.mem_append.2 (.inr ?_)
        rw [hgd]
        simp [hd]
      rcases onG_some h with ⟨h, hv⟩ | ⟨h, hv, hu⟩
      · obtain ⟨e', s', ha, hk, hfr, H⟩ := yes h
        refine ⟨e', s', ha, hk, hfr, fun φ a w K Q hf hg _ he HH hK => ?_⟩
        have ht := slot_VR (R := R) (he d hdl)
        rw [hv] at ht
        have ht : a.tmps.getD d undef = .bool want := ht
        rw [if_pos]
        · exact H φ a w K Q hf hg he HH hK
        · rw [Array.getD_eq_getD_getElem?] at ht
          cases hx : a.tmps[d]? with
          | none => rw [hx] at ht; cases ht
          | some y =>
            rw [hx] at ht
            have ht : y = .bool want := ht
            subst ht
            simp [Region.wanted, hgd, yielded, hd, hx]
      · obtain ⟨e', hk, hfr, H⟩ := hst h
        refine ⟨e', s, Abs.refl s, hk, hfr, fun φ a w K Q hf hg _ he HH hK => ?_⟩
        have ht := slot_VR (R := R) (he d hdl)
        rw [if_neg]
        · exact hK φ _ w (Step.refl HH) fun t hdt => by rw [H t hdt]; exact undef_VR φ
        · intro hw
          simp only [Region.wanted, hgd, yielded, hd, Option.bind_some] at hw
          rw [Array.getD_eq_getD_getElem?] at ht
          cases hx : a.tmps[d]? with
          | none => simp [hx] at hw
          | some y =>
            rw [hx] at ht hw
            have ht : VR φ ((ea R d).get e) y := ht
            cases y <;> simp at hw
            subst hw
            rcases VR_bool ht with h | h
            · exact hv h
            · exact hu h
/-! ### the masks -/
theorem bitsOf_some {as : List Nat} : ∀ {l : List Edge} {m : Nat}, bitsOf as l = some m → ∀ e ∈ l, Region.binds .any e = true → e.on < as.length
  | [], _, _, _, h, _ => by cases h
  | e :: r, m, h, x, hx, hb => by
    unfold bitsOf at h
    split at h
    · split at h
      · rename_i m1 m2 h1 h2
        rcases List.mem_cons.1 hx with rfl | hx
        · exact (List.getElem?_eq_some_iff.1 h1).1
        · exact bitsOf_some h2 x hx hb
      · cases h
    · rename_i hn
      rcases List.mem_cons.1 hx with rfl | hx
      · exact absurd hb hn
      · exact bitsOf_some h x hx hb
theorem bitsOf_bit {as : List Nat} : ∀ {l : List Edge} {m : Nat}, bitsOf as l = some m → ∀ k, m.testBit k = true → ∃ e ∈ l, Region.binds .any e = true ∧ (e.on = k ∨ ∃ m', as[e.on]? = some m' ∧ m'.testBit k = true)
  | [], m, h, k, hk => by injection h with h; subst h; simp at hk
  | e :: r, m, h, k, hk => by
    unfold bitsOf at h
    split at h
    · rename_i hb
      split at h
      · rename_i m1 m2 h1 h2
        injection h with h
        subst h
        have hk : (((2 ^ e.on ||| m1) ||| m2).testBit k) = true := hk
        rw [Nat.testBit_or, Nat.testBit_or, Nat.testBit_two_pow] at hk
        simp only [Bool.or_eq_true, decide_eq_true_eq] at hk
        rcases hk with (hk | hk) | hk
        · exact ⟨e, by simp, hb, .inl hk⟩
        · exact ⟨e, by simp, hb, .inr ⟨m1, h1, hk⟩⟩
        · obtain ⟨x, hx, h3⟩ := bitsOf_bit h2 k hk
          exact ⟨x, by simp [hx], h3⟩
      · cases h
    · obtain ⟨x, hx, h3⟩ := bitsOf_bit h k hk
      exact ⟨x, by simp [hx], h3⟩
/-- what the masks say -/
structure Masks (ops : List Oper) (as : List Nat) : Prop where
  len : as.length = ops.length
  lt : ∀ (j : Nat) (o : Oper), ops[j]? = some o → ∀ e ∈ o.after.toList, Region.binds .any e = true → e.on < j
  bit : ∀ (j : Nat) (o : Oper) (m : Nat), ops[j]? = some o → as[j]? = some m → ∀ k, m.testBit k = true → ∃ e ∈ o.after.toList, Region.binds .any e = true ∧ (e.on = k ∨ ∃ m', as[e.on]? = some m' ∧ m'.testBit k = true)
theorem masksG_some : ∀ {l : List Oper} {pre : List Oper} {as bs : List Nat}, Masks pre as → masksG l as = some bs → Masks (pre ++ l) bs
  | [], pre, as, bs, h, e => by injection e with e; subst e; rw [List.append_nil]; exact h
  | o :: l, pre, as, bs, h, e => by
    unfold masksG at e
    split at e
    · rename_i m hm
      have : Masks (pre ++ [o]) (as ++ [m]) := {
        len := by simp [h.len]
        lt := fun j x hx ed hed hb => by
          rcases Nat.lt_or_ge j pre.length with hj | hj
          · rw [List.getElem?_append_left hj] at hx; exact h.lt j x hx ed hed hb
          · rw [List.getElem?_append_right hj] at hx
            have hj0 : j - pre.length = 0 := by have := (List.getElem?_eq_some_iff.1 hx).1; simp at this; omega
            rw [hj0] at hx
            have hx : o = x := by simpa using hx
            subst hx
            have := bitsOf_some hm ed hed hb
            rw [h.len] at this
            omega
        bit := fun j x m' hx hm' k hk => by
          have up : ∀ (i : Nat) (y : Nat), as[i]? = some y → (as ++ [m])[i]? = some y := fun i y hy => by rw [List.getElem?_append_left (List.getElem?_eq_some_iff.1 hy).1]; exact hy
          rcases Nat.lt_or_ge j pre.length with hj | hj
          · rw [List.getElem?_append_left hj] at hx
            rw [List.getElem?_append_left (by rw [h.len]; exact hj)] at hm'
            obtain ⟨ed, h1, h2, h3⟩ := h.bit j x m' hx hm' k hk
            exact ⟨ed, h1, h2, h3.imp id fun ⟨y, h4, h5⟩ => ⟨y, up _ _ h4, h5⟩⟩
          · rw [List.getElem?_append_right hj] at hx
            rw [List.getElem?_append_right (by rw [h.len]; exact hj)] at hm'
            have hj0 : j - pre.length = 0 := by have := (List.getElem?_eq_some_iff.1 hx).1; simp at this; omega
            rw [hj0] at hx
            rw [h.len, hj0] at hm'
            have hx : o = x := by simpa using hx
            have hm' : m = m' := by simpa using hm'
            subst hx; subst hm'
            obtain ⟨ed, h1, h2, h3⟩ := bitsOf_bit hm k hk
            exact ⟨ed, h1, h2, h3.imp id fun ⟨y, h4, h5⟩ => ⟨y, up _ _ h4, h5⟩⟩ }
      have := masksG_some this e
      rwa [List.append_assoc] at this
    · cases e
theorem masks_some {l : List Oper} {as : List Nat} (h : masksG l [] = some as) : Masks l as := by
  have := masksG_some (pre := []) ⟨rfl, fun j o h => by simp at h, fun j o m h => by simp at h⟩ h
  simpa using this
theorem apRow_some {ops : Array Oper} {x : Oper} {A : Nat} (l : List Oper) : ∀ (i : Nat), apRow ops x A l i = true → ∀ (j : Nat) (y : Oper), l[j]? = some y → A.testBit (i + j) = false → y.apart ops x = true := by
  induction l with
  | nil => intro i h j y hy; simp at hy
  | cons z l ih =>
    intro i h j y hy hb
    rw [apRow, Bool.and_eq_true, Bool.or_eq_true] at h
    cases j with
    | zero =>
      rw [List.getElem?_cons_zero] at hy
      injection hy with hy
      subst hy
      rcases h.1 with h | h
      · rw [Nat.add_zero, h] at hb; cases hb
      · exact h
    | succ j =>
      rw [List.getElem?_cons_succ] at hy
      exact ih (i + 1) h.2 j y hy (by rw [show i + 1 + j = i + (j + 1) by omega]; exact hb)
theorem apAll_some {ops : Array Oper} (l : List Oper) : ∀ (pre : List Oper) (as : List Nat), apAll ops pre l as = true → ∀ (i j : Nat) (x y : Oper) (A : Nat), i < pre.length + j → (pre ++ l)[i]? = some x → l[j]? = some y → as[j]? = some A → A.testBit i = false → x.apart ops y = true := by
  induction l with
  | nil => intro pre as h i j x y A hi hx hy; simp at hy
  | cons z l ih =>
    intro pre as h i j x y A hi hx hy hA hb
    cases as with
    | nil => simp at hA
    | cons B as =>
      rw [apAll, Bool.and_eq_true] at h
      cases j with
      | zero =>
        rw [List.getElem?_cons_zero] at hy hA
        injection hy with hy
        injection hA with hA
        subst hy; subst hA
        rw [List.getElem?_append_left (by omega)] at hx
        exact apRow_some pre 0 h.1 i x hx (by rw [Nat.zero_add]; exact hb)
      | succ j =>
        rw [List.getElem?_cons_succ] at hy hA
        refine ih (pre ++ [z]) as h.2 i j x y A (by rw [List.length_append]; simp; omega) ?_ hy hA hb
        rw [List.append_assoc]; exact hx
end
end Go.Ev
namespace Go.Ev
section
variable {R : Type} {P : Program}
theorem look_h0 (b : Nat) : look h0 b = .gone := by unfold look h0; rw [rd_t64, rd_t64, rd_t64]
theorem restr_some {h : H3} : ∀ {l : List Nat} {k : H3 → Option R} {r : R}, restr h l k = some r → ∃ g, k g = some r ∧ (∀ b, b < 262144 → look g b = if b ∈ l then look h b else .gone)
  | [], k, r, e => ⟨h0, e, fun b _ => by rw [look_h0]; simp⟩
  | c :: l, k, r, e => by
    have e : restr h l (fun g => getH h c fun bl => setH g c bl k) = some r := e
    obtain ⟨g, e, hg⟩ := restr_some e
    obtain ⟨hc, e⟩ := getH_some e
    obtain ⟨_, e⟩ := setH_some e
    refine ⟨_, e, fun b hb => ?_⟩
    rw [look_upd _ _ hc hb, hg b hb]
    by_cases hcb : c = b
    · subst hcb; simp
    · rw [if_neg hcb]; simp only [List.mem_cons, Ne.symm hcb, false_or]
theorem copyL_some {g : H3} : ∀ {l : List Nat} {h : H3} {k : H3 → Option R} {r : R}, copyL g l h k = some r → ∃ h', k h' = some r ∧ (∀ b, b < 262144 → look h' b = if b ∈ l then look g b else look h b)
  | [], h, k, r, e => ⟨h, e, fun b _ => by simp⟩
  | c :: l, h, k, r, e => by
    have e : copyL g l h (fun h => getH g c fun bl => setH h c bl k) = some r := e
    obtain ⟨h', e, hg⟩ := copyL_some e
    obtain ⟨hc, e⟩ := getH_some e
    obtain ⟨_, e⟩ := setH_some e
    refine ⟨_, e, fun b hb => ?_⟩
    rw [look_upd _ _ hc hb, hg b hb]
    by_cases hcb : c = b
    · subst hcb; simp
    · rw [if_neg hcb]; simp only [List.mem_cons, Ne.symm hcb, false_or]
theorem mem_newL (m : Nat) : ∀ (n b : Nat), b ∈ newL m n ↔ n ≤ b ∧ b < n + m := by
  induction m with
  | zero => intro n b; show b ∈ [] ↔ _; simp; try omega
  | succ m ih =>
    intro n b
    show b ∈ n :: newL m (n + 1) ↔ _
    rw [List.mem_cons, ih]
    omega
theorem catN_eq (a b : List Nat) : catN a b = a ++ b := by
  induction a with
  | nil => rfl
  | cons x a ih => show x :: catN a b = _; rw [ih]; rfl
theorem isNil_eq {α : Type} {l : List α} : isNil l = true ↔ l = [] := by cases l <;> simp [isNil]
theorem andB_eq {a b : Bool} : andB a b = true ↔ a = true ∧ b = true := by cases a <;> simp [andB]
theorem orB_eq {a b : Bool} : orB a b = true ↔ a = true ∨ b = true := by cases a <;> simp [orB]
theorem disjB_eq {a b : List Nat} : disjB a b = true ↔ ∀ x ∈ a, x ∉ b := by
  induction a with
  | nil => simp [disjB]
  | cons x a ih =>
    have : disjB (x :: a) b = @Bool.rec (fun _ => Bool) (disjB a b) false (memB x b) := rfl
    rw [this]
    cases hm : memB x b with
    | true => have := (memB_eq x b).1 hm; simp; intro h; exact absurd this h
    | false => have : x ∉ b := fun h => by rw [(memB_eq x b).2 h] at hm; cases hm
               simp only [List.mem_cons, forall_eq_or_imp]; rw [ih]; exact ⟨fun h => ⟨this, h⟩, fun h => h.2⟩
theorem pairs_eq {A : Nat} {f : Dc → Bool} {l : List Dc} : pairs A f l = true ↔ ∀ d ∈ l, A.testBit d.i = false → f d = true := by
  induction l with
  | nil => simp [pairs]
  | cons d l ih =>
    have : pairs A f (d :: l) = andB (orB (A.testBit d.i) (f d)) (pairs A f l) := rfl
    rw [this, andB_eq, orB_eq, ih]
    simp only [List.mem_cons, forall_eq_or_imp]
    constructor
    · rintro ⟨h1, h2⟩
      exact ⟨fun h => by rw [h] at h1; exact h1.resolve_left (by simp), h2⟩
    · rintro ⟨h1, h2⟩
      refine ⟨?_, h2⟩
      cases hb : A.testBit d.i with
      | true => exact .inl rfl
      | false => exact .inr (h1 hb)
theorem mem_wrAll (base : Nat) (l w : List Nat) (b : Nat) : b ∈ wrAll base l w ↔ b ∈ w ∨ (b ∈ l ∧ b < base) := by
  induction l with
  | nil => show b ∈ w ↔ _; simp
  | cons c l ih =>
    show b ∈ wr base c (wrAll base l w) ↔ _
    rw [wr_mem, ih, List.mem_cons]
    constructor
    · rintro ((h | h) | ⟨rfl, h⟩)
      · exact .inl h
      · exact .inr ⟨.inr h.1, h.2⟩
      · exact .inr ⟨.inl rfl, h⟩
    · rintro (h | ⟨rfl | h, h2⟩)
      · exact .inl (.inl h)
      · exact .inr ⟨rfl, h2⟩
      · exact .inl (.inr ⟨h, h2⟩)
/-- φ below a number -/
def Phi.cut (φ : Phi) (n : Nat) : Phi := fun b => if b < n then φ b else none
theorem Phi.cut_le (φ : Phi) (n : Nat) : (φ.cut n).le φ := fun b x h => by
  unfold Phi.cut at h
  split at h
  · exact h
  · cases h
theorem Phi.cut_some {φ : Phi} {n b : Nat} {x : Nat × Nat × Nat} : φ.cut n b = some x ↔ b < n ∧ φ b = some x := by
  unfold Phi.cut
  split
  · rename_i h; exact ⟨fun e => ⟨h, e⟩, fun e => e.2⟩
  · rename_i h; exact ⟨fun e => (by cases e), fun e => absurd e.1 h⟩
theorem Phi.cut_mono {φ ψ : Phi} {n m : Nat} (h : n ≤ m) (k : φ.le ψ) : (φ.cut n).le (ψ.cut m) := fun b x e => by
  rw [Phi.cut_some] at e ⊢
  exact ⟨by omega, k b x e.2⟩
def Low (n : Nat) (v : V) : Prop := ∀ φ u, VR φ v u → VR (Phi.cut φ n) v u
theorem veq_some {n : Nat} {v v' : V} (h : veq n v v' = true) : v' = v ∧ Low n v := by
  have nb : ∀ {a b : Nat}, Nat.beq a b = true → a = b := beq_of
  unfold veq at h
  split at h
  · simp only [Bool.and_eq_true] at h
    exact ⟨by rw [nb h.1, nb h.2], fun φ u e => e⟩
  · simp only [beq_iff_eq] at h
    exact ⟨by rw [h], fun φ u e => e⟩
  · exact ⟨rfl, fun φ u e => e⟩
  · exact ⟨rfl, fun φ u e => e⟩
  · exact ⟨rfl, fun φ u e => e⟩
  · simp only [Bool.and_eq_true] at h
    obtain ⟨⟨h1, h2⟩, h3⟩ := h
    exact ⟨by rw [nb h1, nb h2], fun φ u ⟨x, e, k⟩ => ⟨x, Phi.cut_some.2 ⟨blt_of h3, e⟩, k⟩⟩
  · simp only [Bool.and_eq_true] at h
    obtain ⟨⟨⟨⟨h1, h2⟩, h3⟩, h4⟩, h5⟩ := h
    exact ⟨by rw [nb h1, nb h2, nb h3, nb h4], fun φ u ⟨x, e, k⟩ => ⟨x, Phi.cut_some.2 ⟨blt_of h5, e⟩, k⟩⟩
  · simp only [Bool.and_eq_true] at h
    obtain ⟨⟨⟨h1, h2⟩, h3⟩, h5⟩ := h
    exact ⟨by rw [nb h1, nb h2, nb h3], fun φ u ⟨x, c, e, k⟩ => ⟨x, c, Phi.cut_some.2 ⟨blt_of h5, e⟩, k⟩⟩
  · simp only [Bool.and_eq_true] at h
    exact ⟨by rw [nb h.1], fun φ u ⟨x, e, k⟩ => ⟨x, Phi.cut_some.2 ⟨blt_of h.2, e⟩, k⟩⟩
  · cases h
/-! ### what one operation leaves -/
/-- what an operation may look at -/
def Dc.vis (d : Dc) (b : Nat) : Prop := d.all = true ∨ b ∈ d.F
structure Fact (P : Program) (nt : Nat) (ops : Array Oper) (o : Oper) (e : E4) (s : S) (d : Dc) (e' : E4) (s' : S) : Prop where
  n : d.n = s.n
  n' : d.n' = s'.n
  le : s.n ≤ s'.n
  same : ∀ b, b < 262144 → b < s.n → b ∉ d.W → look s'.h b = look s.h b
  W : ∀ b, b ∈ d.W → b < s.n ∧ b < 262144 ∧ look s.h b ≠ .gone ∧ d.vis b
  fr : SlotFr nt o.dst e e'
  spec : ∃ g g', (∀ b, b < 262144 → b < s.n → d.vis b → look g b = look s.h b) ∧ (∀ b, b < 262144 → b < s.n → ¬ d.vis b → look g b = .gone) ∧
    (∀ b, b < 262144 → (b ∈ d.W ∨ (s.n ≤ b ∧ b < s'.n)) → look s'.h b = look g' b) ∧ SpecO P nt ops o e ⟨g, s.n, [], s.n⟩ e' ⟨g', s'.n, d.W, s.n⟩
  alt : ∀ h m, d.ck h m = true → (∀ t, o.dst = some t → Low s.n (rdE e' t)) ∧ ∃ g g', (∀ b, b < 262144 → look g b = if b ∈ d.F then look h b else .gone) ∧ SpecO P nt ops o e ⟨g, m, [], m⟩ e' ⟨g', m, [], m⟩
structure PairP (c d : Dc) (h : H3) (n : Nat) : Prop where
  p1 : ∀ b, b ∈ c.W → ¬ d.vis b
  all : c.all = true → ∀ b, b ∈ d.W → c.n' ≤ b
  some : c.all = false → ∀ b, b ∈ d.W → (b < c.n ∨ c.n' ≤ b) ∧ b ∉ c.W ∧ (b ∈ c.F → c.F = [b] ∧ c.W = [] ∧ c.n = c.n' ∧ c.ck h n = true)
theorem p1_some {c : Dc} {all : Bool} {F : List Nat} (h : p1 c all F = true) : ∀ b, b ∈ c.W → all = false ∧ b ∉ F := by
  intro b hb
  cases all with
  | true =>
    have h : isNil c.W = true := h
    rw [isNil_eq.1 h] at hb
    cases hb
  | false =>
    have h : disjB c.W F = true := h
    exact ⟨rfl, disjB_eq.1 h b hb⟩
theorem p2_some {c : Dc} {h : H3} {n : Nat} : ∀ {W : List Nat}, p2 c h n W = true → ∀ b, b ∈ W → (c.all = true → c.n' ≤ b) ∧ (c.all = false → (b < c.n ∨ c.n' ≤ b) ∧ b ∉ c.W ∧ (b ∈ c.F → c.F = [b] ∧ c.W = [] ∧ c.n = c.n' ∧ c.ck h n = true))
  | x :: W, e, b, hb => by
    have e : andB (p2b c h n x) (p2 c h n W) = true := e
    rw [andB_eq] at e
    rcases List.mem_cons.1 hb with rfl | hb
    · have e := e.1
      unfold p2b at e
      cases ha : c.all with
      | true => rw [ha] at e; exact ⟨fun _ => ble_of e, fun h => (by cases h)⟩
      | false =>
        rw [ha] at e
        simp only [andB_eq, orB_eq] at e
        obtain ⟨e1, e2⟩ := e
        refine ⟨fun h => (by cases h), fun _ => ⟨e1.imp blt_of ble_of, ?_, fun hF => ?_⟩⟩
        · intro hw
          rw [(memB_eq b c.W).2 hw] at e2
          cases e2
        · cases hw : memB b c.W with
          | true => rw [hw] at e2; cases e2
          | false =>
            rw [hw, (memB_eq b c.F).2 hF] at e2
            simp only [andB_eq] at e2
            obtain ⟨q1, q2, q3, q4⟩ := e2
            refine ⟨?_, isNil_eq.1 q2, beq_of q3, q4⟩
            unfold lone at q1
            split at q1
            · rename_i x hx
              rw [hx] at hF ⊢
              simp at hF
              rw [hF]
            · cases q1
    · exact p2_some e.2 b hb
theorem finD_some {A i : Nat} {all : Bool} {F : List Nat} {ck : H3 → Nat → Bool} {recs wrs : List Dc} {s : S} {e' : E4} {h' : H3} {n' : Nat} {W : List Nat} {k : Nat → List Dc → List Dc → E4 → S → Option R} {r : R}
    (hw : ∀ c ∈ recs, c.W ≠ [] → c ∈ wrs) (h : finD A i all F ck recs wrs s e' h' n' W k = some r) :
    ∃ wrs' w', (∀ c ∈ (⟨i, s.n, n', all, F, W, ck⟩ :: recs : List Dc), c.W ≠ [] → c ∈ wrs') ∧ (∀ b, b ∈ w' ↔ b ∈ s.w ∨ (b ∈ W ∧ b < s.base)) ∧
      (∀ c ∈ recs, A.testBit c.i = false → PairP c ⟨i, s.n, n', all, F, W, ck⟩ h' n') ∧ k (i + 1) (⟨i, s.n, n', all, F, W, ck⟩ :: recs) wrs' e' ⟨h', n', w', s.base⟩ = some r := by
  unfold finD at h
  cases hn : isNil W with
  | true =>
    rw [hn] at h
    obtain ⟨h1, h⟩ := iff_some h
    rw [natF_eq] at h
    have hW := isNil_eq.1 hn
    subst hW
    refine ⟨wrs, s.w, fun c hc hne => ?_, fun b => by simp, fun c hc hb => ?_, h⟩
    · rcases List.mem_cons.1 hc with rfl | hc
      · exact absurd rfl hne
      · exact hw c hc hne
    · have hp : ∀ b, b ∈ c.W → all = false ∧ b ∉ F := fun b hb' => by
        have := pairs_eq.1 h1 c (hw c hc (fun e => by rw [e] at hb'; cases hb')) hb
        exact p1_some this b hb'
      exact ⟨fun b hb' hv => hv.elim (fun hv => absurd (hv.symm.trans (hp b hb').1) (by simp)) (hp b hb').2, fun _ b hb' => (by cases hb'), fun _ b hb' => (by cases hb')⟩
  | false =>
    rw [hn] at h
    obtain ⟨h1, h⟩ := iff_some h
    rw [natF_eq] at h
    refine ⟨_, _, fun c hc hne => ?_, fun b => mem_wrAll _ _ _ _, fun c hc hb => ?_, h⟩
    · rcases List.mem_cons.1 hc with rfl | hc
      · exact List.mem_cons_self
      · exact List.mem_cons_of_mem _ (hw c hc hne)
    · have h2 := pairs_eq.1 h1 c hc hb
      rw [andB_eq] at h2
      have hp := p1_some h2.1
      have hq := p2_some h2.2
      exact ⟨fun b hb' hv => hv.elim (fun hv => absurd (hv.symm.trans (hp b hb').1) (by simp)) (hp b hb').2, fun ha b hb' => (hq b hb').1 ha, fun ha b hb' => (hq b hb').2 ha⟩
theorem fail_sd : RecSd P (fun _ _ _ _ => none : Rec R) := fun g args s k r _ h => by cases h
theorem ck_some {nt : Nat} {ops : Array Oper} {o : Oper} {e e' : E4} {n : Nat} {h : H3} {m : Nat} (hfr : SlotFr nt o.dst e e') (hk : (ckC P nt ops.toList o).run e e' n h m = true) :
    (∀ t, o.dst = some t → Low n (rdE e' t)) ∧ ∃ g g', (∀ b, b < 262144 → look g b = if b ∈ (fpC o.op).get e then look h b else .gone) ∧ SpecO P nt ops o e ⟨g, m, [], m⟩ e' ⟨g', m, [], m⟩ := by
  unfold ckC at hk
  split at hk
  · rename_i t a d ho hd
    cases hR : (cOp P nt ops.toList o : ROp Bool) with
    | mk run =>
    cases hF : fpC o.op with
    | mk fp =>
    rw [hR, hF] at hk
    cases hE : ea Unit d with
    | mk get set =>
    rw [hE] at hk
    simp only at hk
    split at hk
    · rename_i b hb
      subst hk
      obtain ⟨g, hb, hg⟩ := restr_some hb
      obtain ⟨e'', s'', ha, hb, hfr', H⟩ := rop_loc (P := P) (nt := nt) (ops := ops) (o := o) fail_sd (s := ⟨g, m, [], m⟩) (Nat.le_refl _) (by rw [hR]; exact hb)
      obtain ⟨h1, hb⟩ := iff_some hb
      obtain ⟨h2, hb⟩ := iff_some hb
      injection hb with hb
      have hd2 : d < 256 := by
        rw [hd] at hfr
        exact hfr.2.1
      have hget : ∀ x, get x = rdE x d := fun x => by have := ea_get Unit hd2 x; rw [hE] at this; exact this
      rw [hget, hget] at hb
      obtain ⟨hv, hl⟩ := veq_some hb
      obtain ⟨h'', n'', w'', base''⟩ := s''
      have q1 : w'' = [] := isNil_eq.1 h1
      have q2 : n'' = m := beq_of h2
      have q3 : base'' = m := ha.base
      subst q1; subst q2; subst q3
      refine ⟨fun t' ht' => ?_, g, h'', hg, ?_⟩
      · rw [hd] at ht'; injection ht' with ht'; subst ht'; exact hl
      · intro φ a w K Q a1 a2 a3 a4 a5 a6
        exact H φ a w K Q a1 a2 a3 a4 a5 fun φ' u w' b1 b2 => a6 φ' u w' b1 fun t' ht' => by
          have := b2 t' ht'
          rw [hd] at ht'; injection ht' with ht'; subst ht'
          rw [hv] at this
          exact this
    · cases hk
  · cases hk
theorem cD1_some {nt : Nat} {ops : Array Oper} {o : Oper} {rec : Rec R} (hrec : RecSd P rec) {A i : Nat} {recs wrs : List Dc} {e : E4} {s : S} {k : Nat → List Dc → List Dc → E4 → S → Option R} {r : R} (hb : s.base ≤ s.n)
    (hw : ∀ c ∈ recs, c.W ≠ [] → c ∈ wrs) (h : (cD1 P nt ops.toList o A).run rec i recs wrs e s k = some r) :
    ∃ d e' s' wrs', d.i = i ∧ Fact P nt ops o e s d e' s' ∧ Abs s s' ∧ (∀ b, b ∈ s'.w ↔ b ∈ s.w ∨ (b ∈ d.W ∧ b < s.base)) ∧ (∀ c ∈ recs, A.testBit c.i = false → PairP c d s'.h s'.n) ∧ (∀ c ∈ d :: recs, c.W ≠ [] → c ∈ wrs') ∧ k (i + 1) (d :: recs) wrs' e' s' = some r := by
  have abs : ∀ {d : Dc} {e' : E4} {s' : S}, Fact P nt ops o e s d e' s' → s'.base = s.base → (∀ b, b ∈ s'.w ↔ b ∈ s.w ∨ (b ∈ d.W ∧ b < s.base)) → Abs s s' := fun {d e' s'} hf hbase hw => {
    n := hf.le
    base := hbase
    w := fun b h => (hw b).2 (.inl h)
    live := fun b h1 h2 h3 => by
      by_cases hW : b ∈ d.W
      · exact (hf.W b hW).2.2.1
      · rw [hf.same b h2 h1 hW] at h3; exact h3
    wlive := fun b h1 h2 => by
      have := ((hw b).1 h1).resolve_left h2
      have h3 := hf.W b this.1
      exact ⟨this.2, h3.2.1, h3.2.2.1⟩
    same := fun b h1 h2 h3 => hf.same b h2 (by omega) fun h4 => h3 ((hw b).2 (.inr ⟨h4, h1⟩)) }
  have ckf := fun (e' : E4) (h : H3) (m : Nat) => ck_some (P := P) (nt := nt) (ops := ops) (o := o) (e := e) (e' := e') (n := s.n) (h := h) (m := m)
  unfold cD1 at h
  cases hR : (cOp P nt ops.toList o : ROp R) with
  | mk run =>
  cases hF : fpC o.op with
  | mk fp =>
  cases hK : ckC P nt ops.toList o with
  | mk ck =>
  rw [hR, hF, hK] at h
  rw [hF, hK] at ckf
  simp only at h
  cases hc : isCall o.op with
  | true =>
    rw [hc] at h
    obtain ⟨e', s', ha, h, hfr, H⟩ := rop_loc (P := P) (nt := nt) (ops := ops) (o := o) hrec (s := ⟨s.h, s.n, [], s.n⟩) (Nat.le_refl _) (by rw [hR]; exact h)
    obtain ⟨wrs', w', g1, g2, g3, h⟩ := finD_some hw h
    obtain ⟨h', n', W, base'⟩ := s'
    have q3 : base' = s.n := ha.base
    subst q3
    have hf : Fact P nt ops o e s ⟨i, s.n, n', true, [], W, fun _ _ => false⟩ e' ⟨h', n', w', s.base⟩ := {
      n := rfl
      n' := rfl
      le := ha.n
      same := fun b h1 h2 h3 => ha.same b h2 h1 h3
      W := fun b h1 => by have := ha.wlive b h1 (by simp); exact ⟨this.1, this.2.1, this.2.2, .inl rfl⟩
      fr := hfr
      spec := ⟨s.h, h', fun _ _ _ _ => rfl, fun b _ _ hv => absurd (.inl rfl) hv, fun _ _ _ => rfl, H⟩
      alt := fun h m hk => by cases hk }
    exact ⟨_, e', ⟨h', n', w', s.base⟩, wrs', rfl, hf, abs hf rfl g2, g2, g3, g1, h⟩
  | false =>
    rw [hc] at h
    obtain ⟨g, h, hg⟩ := restr_some h
    obtain ⟨e', s', ha, h, hfr, H⟩ := rop_loc (P := P) (nt := nt) (ops := ops) (o := o) hrec (s := ⟨g, s.n, [], s.n⟩) (Nat.le_refl _) (by rw [hR]; exact h)
    obtain ⟨g', n', W, base'⟩ := s'
    have q3 : base' = s.n := ha.base
    subst q3
    have hWl : ∀ b, b ∈ W → b < s.n ∧ b < 262144 ∧ look s.h b ≠ .gone ∧ b ∈ fp e := fun b hb' => by
      have := ha.wlive b hb' (by simp)
      have h3 := this.2.2
      simp only at h3
      rw [hg b this.2.1] at h3
      split at h3
      · rename_i hm; exact ⟨this.1, this.2.1, h3, hm⟩
      · exact absurd rfl h3
    -- the state behind it
    have main : ∀ h', (∀ b, b < 262144 → look h' b = if b ∈ W ∨ (s.n ≤ b ∧ b < n') then look g' b else look s.h b) → finD A i false (fp e) (ck e e' s.n) recs wrs s e' h' n' W k = some r →
        ∃ d e' s' wrs', d.i = i ∧ Fact P nt ops o e s d e' s' ∧ Abs s s' ∧ (∀ b, b ∈ s'.w ↔ b ∈ s.w ∨ (b ∈ d.W ∧ b < s.base)) ∧ (∀ c ∈ recs, A.testBit c.i = false → PairP c d s'.h s'.n) ∧ (∀ c ∈ d :: recs, c.W ≠ [] → c ∈ wrs') ∧ k (i + 1) (d :: recs) wrs' e' s' = some r := fun h' hh' h => by
      obtain ⟨wrs', w', g1, g2, g3, h⟩ := finD_some hw h
      have hf : Fact P nt ops o e s ⟨i, s.n, n', false, fp e, W, ck e e' s.n⟩ e' ⟨h', n', w', s.base⟩ := {
        n := rfl
        n' := rfl
        le := ha.n
        same := fun b h1 h2 h3 => by rw [hh' b h1, if_neg (fun h => h.elim h3 (fun h => by omega))]
        W := fun b h1 => by have := hWl b h1; exact ⟨this.1, this.2.1, this.2.2.1, .inr this.2.2.2⟩
        fr := hfr
        spec := ⟨g, g', fun b h1 _ hv => by rw [hg b h1, if_pos (hv.resolve_left (by simp))], fun b h1 _ hv => by rw [hg b h1, if_neg (fun h => hv (.inr h))], fun b h1 h2 => by rw [hh' b h1, if_pos h2], H⟩
        alt := fun h m hk => ckf e' h m hfr hk }
      exact ⟨_, e', ⟨h', n', w', s.base⟩, wrs', rfl, hf, abs hf rfl g2, g2, g3, g1, h⟩
    cases hsm : andB (Nat.beq n' s.n) (isNil W) with
    | true =>
      simp only [] at h
      rw [hsm] at h
      rw [andB_eq] at hsm
      have q1 := beq_of hsm.1
      have q2 := isNil_eq.1 hsm.2
      exact main s.h (fun b _ => by rw [if_neg (fun h => h.elim (fun h => by rw [q2] at h; cases h) (fun h => by omega))]) h
    | false =>
      simp only [] at h
      rw [hsm] at h
      obtain ⟨h', h, hh⟩ := copyL_some h
      refine main h' (fun b hb' => ?_) h
      rw [hh b hb']
      have : b ∈ catN W (newL (Nat.sub n' s.n) s.n) ↔ b ∈ W ∨ (s.n ≤ b ∧ b < n') := by
        rw [catN_eq, List.mem_append, mem_newL]
        have h1 : s.n ≤ n' := ha.n
        have h2 : Nat.sub n' s.n = n' - s.n := rfl
        rw [h2]
        constructor <;> rintro (h | h) <;> first | exact .inl h | exact .inr (by omega)
      simp only [this]
end
end Go.Ev
namespace Go.Ev
section
variable {R : Type} {P : Program}
theorem runD_some {nt : Nat} {ops : Array Oper} {rec : Rec R} (hrec : RecSd P rec) {k : E4 → S → Option R} {r : R} : ∀ (l : List Oper) (bs : List Nat) (i : Nat) (recs wrs : List Dc) (e : E4) (s : S), bs.length = l.length → s.base ≤ s.n →
    (∀ c ∈ recs, c.W ≠ [] → c ∈ wrs) → runD rec k (cD P nt ops.toList l bs) i recs wrs e s = some r →
    ∃ (E : Nat → E4) (T : Nat → S) (d : Nat → Dc), E i = e ∧ T i = s ∧ Abs s (T (i + l.length)) ∧ k (E (i + l.length)) (T (i + l.length)) = some r ∧
      (∀ j o, l[j]? = some o → (d (i + j)).i = i + j ∧ Fact P nt ops o (E (i + j)) (T (i + j)) (d (i + j)) (E (i + j + 1)) (T (i + j + 1)) ∧ (∀ b, b ∈ (T (i + j + 1)).w ↔ b ∈ (T (i + j)).w ∨ (b ∈ (d (i + j)).W ∧ b < s.base))) ∧
      (∀ j m, bs[j]? = some m → ∀ c, (c ∈ recs ∨ ∃ q, q < j ∧ c = d (i + q)) → m.testBit c.i = false → PairP c (d (i + j)) (T (i + j + 1)).h (T (i + j + 1)).n)
  | [], bs, i, recs, wrs, e, s, hl, hb, hw, h => by
    cases bs with
    | cons _ _ => simp at hl
    | nil => exact ⟨fun _ => e, fun _ => s, fun _ => ⟨0, 0, 0, true, [], [], fun _ _ => false⟩, rfl, rfl, Abs.refl s, h, fun j o hj => by simp at hj, fun j m hj => by simp at hj⟩
  | o :: l, [], i, recs, wrs, e, s, hl, hb, hw, h => by simp at hl
  | o :: l, A :: bs, i, recs, wrs, e, s, hl, hb, hw, h => by
    have h : (natC A fun A => cD1 P nt ops.toList o A).run rec i recs wrs e s (runD rec k (cD P nt ops.toList l bs)) = some r := h
    rw [natC_eq] at h
    obtain ⟨d0, e1, s1, wrs1, q1, q2, q3, q4, q5, q6, h⟩ := cD1_some hrec hb hw h
    obtain ⟨E, T, d, g1, g2, g3, g4, g5, g6⟩ := runD_some hrec l bs (i + 1) (d0 :: recs) wrs1 e1 s1 (by simpa using hl) (by have := q3.base; have := q3.n; omega) q6 h
    have hlen : i + 1 + l.length = i + (o :: l).length := by simp; omega
    have ne : ∀ j, ¬ (i + (j + 1) ≤ i) := fun j => by omega
    refine ⟨fun q => if q ≤ i then e else E q, fun q => if q ≤ i then s else T q, fun q => if q ≤ i then d0 else d q, if_pos (Nat.le_refl _), if_pos (Nat.le_refl _), ?_, ?_, ?_, ?_⟩
    · simp only []
      rw [if_neg (by simp), ← hlen]
      exact q3.trans hb g3
    · simp only []
      rw [if_neg (by simp), if_neg (by simp), ← hlen]
      exact g4
    · intro j x hx
      cases j with
      | zero =>
        have hx : o = x := by simpa using hx
        subst hx
        simp only [Nat.add_zero, Nat.le_refl, if_true, show ¬ (i + 1 ≤ i) by omega, if_false]
        rw [g1, g2]
        exact ⟨q1, q2, q4⟩
      | succ j =>
        simp only [ne, show ¬ (i + (j + 1) + 1 ≤ i) by omega, if_false]
        have := g5 j x (by simpa using hx)
        rw [show i + 1 + j = i + (j + 1) by omega] at this
        obtain ⟨u1, u2, u3⟩ := this
        refine ⟨u1, u2, ?_⟩
        rw [q3.base] at u3
        exact u3
    · intro j m hm c hc hbit
      cases j with
      | zero =>
        have hm : A = m := by simpa using hm
        subst hm
        simp only [Nat.add_zero, Nat.le_refl, if_true, show ¬ (i + 1 ≤ i) by omega, if_false]
        rw [g2]
        rcases hc with hc | ⟨q, hq, _⟩
        · exact q5 c hc hbit
        · omega
      | succ j =>
        simp only [ne, show ¬ (i + (j + 1) + 1 ≤ i) by omega, if_false]
        have := g6 j m (by simpa using hm) c ?_ hbit
        · rw [show i + 1 + j = i + (j + 1) by omega] at this
          exact this
        · rcases hc with hc | ⟨q, hq, hc⟩
          · exact .inl (List.mem_cons_of_mem _ hc)
          · cases q with
            | zero =>
              simp only [Nat.add_zero, Nat.le_refl, if_true] at hc
              exact .inl (by rw [hc]; exact List.mem_cons_self)
            | succ q =>
              simp only [ne, if_false] at hc
              exact .inr ⟨q, by omega, by rw [hc, show i + 1 + q = i + (q + 1) by omega]⟩
/-- the whole of what the run tells -/
structure Cx (P : Program) (nt : Nat) (ops : Array Oper) (as : List Nat) (E : Nat → E4) (T : Nat → S) (d : Nat → Dc) : Prop where
  fact : ∀ (j : Nat) (o : Oper), ops[j]? = some o → Fact P nt ops o (E j) (T j) (d j) (E (j + 1)) (T (j + 1))
  w : ∀ j, j < ops.size → ∀ b, b ∈ (T (j + 1)).w ↔ b ∈ (T j).w ∨ (b ∈ (d j).W ∧ b < (T 0).base)
  pair : ∀ (i k m : Nat), i < k → as[k]? = some m → m.testBit i = false → PairP (d i) (d k) (T (k + 1)).h (T (k + 1)).n
  masks : Masks ops.toList as
  apart : ∀ (i j : Nat) (x y : Oper) (A : Nat), i < j → ops[i]? = some x → ops[j]? = some y → as[j]? = some A → A.testBit i = false → x.apart ops y = true
/-- block b is written or made by operation i -/
def TB (d : Nat → Dc) (T : Nat → S) (b i : Nat) : Prop := b ∈ (d i).W ∨ ((T i).n ≤ b ∧ b < (T (i + 1)).n)
/-- slot t is written by operation i -/
def TS (ops : Array Oper) (t i : Nat) : Prop := ∃ o, ops[i]? = some o ∧ o.dst = some t
/-- the version that stands: behind the last of the operations that touched it -/
def Ver (L X : Nat → Prop) (v : Nat) : Prop := (v = 0 ∧ ∀ i, L i → ¬ X i) ∨ ∃ i, v = i + 1 ∧ L i ∧ X i ∧ ∀ i', L i' → X i' → i' ≤ i
theorem Ver.uniq {L X : Nat → Prop} {v v' : Nat} (h : Ver L X v) (k : Ver L X v') : v = v' := by
  rcases h with ⟨rfl, h⟩ | ⟨i, rfl, h1, h2, h3⟩ <;> rcases k with ⟨rfl, k⟩ | ⟨j, rfl, k1, k2, k3⟩
  · rfl
  · exact absurd k2 (h j k1)
  · exact absurd h2 (k i h1)
  · have := h3 j k1 k2
    have := k3 i h1 h2
    omega
/-- one more operation, that does not touch it -/
theorem Ver.keep {L L' X : Nat → Prop} {v j : Nat} (hL : ∀ i, L' i ↔ L i ∨ i = j) (hj : ¬ X j) : Ver L' X v ↔ Ver L X v := by
  unfold Ver
  have h1 : (∀ i, L' i → ¬ X i) ↔ ∀ i, L i → ¬ X i := ⟨fun h i hi => h i ((hL i).2 (.inl hi)), fun h i hi hx => ((hL i).1 hi).elim (fun hi => h i hi hx) (fun e => hj (e ▸ hx))⟩
  have h2 : ∀ i, (L' i ∧ X i ∧ ∀ i', L' i' → X i' → i' ≤ i) ↔ (L i ∧ X i ∧ ∀ i', L i' → X i' → i' ≤ i) := fun i =>
    ⟨fun ⟨a, b, c⟩ => ⟨((hL i).1 a).resolve_right (fun e => hj (e ▸ b)), b, fun i' hi' hx => c i' ((hL i').2 (.inl hi')) hx⟩,
     fun ⟨a, b, c⟩ => ⟨(hL i).2 (.inl a), b, fun i' hi' hx => ((hL i').1 hi').elim (fun hi => c i' hi hx) (fun e => absurd (e ▸ hx) hj)⟩⟩
  rw [h1]
  simp only [h2]
/-- one more operation, that touches it last -/
theorem Ver.next {L L' X : Nat → Prop} {j : Nat} (hL : ∀ i, L' i ↔ L i ∨ i = j) (hj : X j) (h : ∀ i, L i → X i → i ≤ j) : Ver L' X (j + 1) :=
  .inr ⟨j, rfl, (hL j).2 (.inr rfl), hj, fun i hi hx => ((hL i).1 hi).elim (fun hi => h i hi hx) (fun e => by omega)⟩
section
variable {nt : Nat} {ops : Array Oper} {as : List Nat} {E : Nat → E4} {T : Nat → S} {d : Nat → Dc} (C : Cx P nt ops as E T d)
include C
theorem Cx.mono {i : Nat} : ∀ {j : Nat}, i ≤ j → j ≤ ops.size → (T i).n ≤ (T j).n := by
  intro j
  induction j with
  | zero => intro h _; rw [Nat.le_zero.1 h]; exact Nat.le_refl _
  | succ j ih =>
    intro h hj
    rcases Nat.lt_or_ge i (j + 1) with h' | h'
    · have h1 := ih (by omega) (by omega)
      have h2 := (C.fact j _ (Array.getElem?_eq_getElem (by omega))).le
      omega
    · rw [show i = j + 1 by omega]; exact Nat.le_refl _
theorem Cx.same {i b : Nat} (hb : b < 262144) (hn : b < (T i).n) : ∀ {j : Nat}, i ≤ j → j ≤ ops.size → (∀ q, i ≤ q → q < j → ¬ TB d T b q) → look (T j).h b = look (T i).h b := by
  intro j
  induction j with
  | zero => intro h _ _; rw [Nat.le_zero.1 h]
  | succ j ih =>
    intro h hj hq
    rcases Nat.lt_or_ge i (j + 1) with h' | h'
    · have h1 := ih (by omega) (by omega) fun q h1 h2 => hq q h1 (by omega)
      rw [← h1]
      refine (C.fact j _ (Array.getElem?_eq_getElem (by omega))).same b hb (by have := C.mono (i := i) (j := j) (by omega) (by omega); omega) fun hW => hq j (by omega) (by omega) (.inl hW)
    · rw [show i = j + 1 by omega]
theorem Cx.sameE {i t : Nat} (ht : t < 256) : ∀ {j : Nat}, i ≤ j → j ≤ ops.size → (∀ q, i ≤ q → q < j → ¬ TS ops t q) → rdE (E j) t = rdE (E i) t := by
  intro j
  induction j with
  | zero => intro h _ _; rw [Nat.le_zero.1 h]
  | succ j ih =>
    intro h hj hq
    rcases Nat.lt_or_ge i (j + 1) with h' | h'
    · have h1 := ih (by omega) (by omega) fun q h1 h2 => hq q h1 (by omega)
      rw [← h1]
      have ho := Array.getElem?_eq_getElem (xs := ops) (i := j) (by omega)
      have := (C.fact j _ ho).fr
      unfold SlotFr at this
      split at this
      · rw [this]
      · rename_i d' hd
        exact this.2.2 t ht fun e => hq j (by omega) (by omega) ⟨_, ho, by rw [hd, e]⟩
    · rw [show i = j + 1 by omega]
theorem Cx.wmono {i b : Nat} (hb : b ∈ (T i).w) : ∀ {j : Nat}, i ≤ j → j ≤ ops.size → b ∈ (T j).w := by
  intro j
  induction j with
  | zero => intro h _; rw [← Nat.le_zero.1 h]; exact hb
  | succ j ih =>
    intro h hj
    rcases Nat.lt_or_ge i (j + 1) with h' | h'
    · exact (C.w j (by omega) b).2 (.inl (ih (by omega) (by omega)))
    · rw [← show i = j + 1 by omega]; exact hb
end
end
end Go.Ev
