
/-
  Snapshots: what a run of one says, and that it answers other calls.
-/
import Derived.Test.YtlficnfkekggjaaGreatDoorEvSn
namespace Go.Ev
section
variable {R : Type} {P : Program}
/-- a call: its arguments, the next number, the blocks that it may look at; its result, the next number, the new blocks that matter -/
structure Sn where
  A : List V
  n0 : Nat
  E : List (Nat × LB)
  v : V
  n1 : Nat
  B : List (Nat × LB)
noncomputable def idsB (B : List (Nat × LB)) : List Nat := @List.rec _ (fun _ => List Nat) [] (fun x _ ih => x.1 :: ih) B
theorem idsB_eq (B : List (Nat × LB)) : idsB B = B.map (·.1) := by
  induction B with
  | nil => rfl
  | cons x B ih => show x.1 :: idsB B = _; rw [ih]; rfl
noncomputable def allE {α : Type} (f : α → Bool) (l : List α) : Bool := @List.rec _ (fun _ => Bool) true (fun x _ ih => andB (f x) ih) l
theorem allE_eq {α : Type} {f : α → Bool} {l : List α} : allE f l = true ↔ ∀ x ∈ l, f x = true := by
  induction l with
  | nil => simp [allE]
  | cons x l ih =>
    show andB (f x) (allE f l) = true ↔ _
    rw [andB_eq, ih]; simp
noncomputable def okLB (n0 : Nat) (ids : List Nat) (lb : LB) : Bool := match lb with
  | .c _ _ cs => allS (okS1 n0 ids) cs
  | .m es _ => allE (fun e => andB (okS1 n0 ids e.1) (okS1 n0 ids e.2.1)) es
noncomputable def okSn (σ : Sn) : Bool :=
  andB (Nat.blt 0 σ.n0) (andB (Nat.ble σ.n0 σ.n1) (andB (ascN σ.E) (andB (ascN σ.B) (andB (allE (fun x => Nat.blt x.1 σ.n0) σ.E) (andB (allE (fun x => andB (Nat.ble σ.n0 x.1) (Nat.blt x.1 σ.n1)) σ.B)
    (andB (okV σ.n0 (idsB σ.B) σ.v) (andB (allE (fun x => okLB σ.n0 (idsB σ.B) x.2) σ.B) (andB (allS (okA σ.n0 []) σ.A) (allE (fun x => okLB σ.n0 [] x.2) σ.E)))))))))
noncomputable def snRun (call : List V → S → (V → S → Option Bool) → Option Bool) (σ : Sn) : Option Bool :=
  iff (okSn σ) (layE σ.E h0 fun h => call σ.A ⟨h, σ.n0, [], σ.n0⟩ fun v s' => iff (vEq σ.v v) (iff (isNil s'.w) (iff (Nat.beq s'.n σ.n1) (chkE σ.B s'.h (some true)) none) none) none) none
def SnOk (P : Program) (g : Nat) (σ : Sn) : Prop := okSn σ = true ∧ ∃ hE h1, (∀ x ∈ σ.E, x.1 < 262144 ∧ LBIs x.2 (look hE x.1)) ∧ (∀ b, b < 262144 → (∀ x ∈ σ.E, x.1 ≠ b) → look hE b = .gone) ∧
  CallSd P g σ.A ⟨hE, σ.n0, [], σ.n0⟩ σ.v ⟨h1, σ.n1, [], σ.n0⟩ ∧ ∀ x ∈ σ.B, x.1 < 262144 ∧ LBHas x.2 (look h1 x.1)
theorem snRun_ok {D : Nat → Array Oper → DR Bool} {hk : Nat → Option (HK Bool)} (hN : NoNG P) (hH : HkSd P hk) (hD : DSpec P D) {f g : Nat} {σ : Sn} (h : snRun (callG P D hk f g) σ = some true) : SnOk P g σ := by
  unfold snRun at h
  obtain ⟨hok, h⟩ := iff_some h
  have hok' := hok
  unfold okSn at hok
  simp only [andB_eq] at hok
  obtain ⟨_, _, hasc, _⟩ := hok
  obtain ⟨hE, h, l1, l2⟩ := layE_some hasc h
  obtain ⟨v, s', hsd, ha, h⟩ := callG_some hN hH hD (Nat.le_refl _) h
  obtain ⟨hv, h⟩ := iff_some h
  obtain ⟨hw, h⟩ := iff_some h
  obtain ⟨hn, h⟩ := iff_some h
  obtain ⟨_, hB⟩ := chkE_some h
  have hb := ha.base
  obtain ⟨h1, n1, w1, b1⟩ := s'
  rw [show w1 = [] from isNil_eq.1 hw, show n1 = σ.n1 from beq_of hn, show b1 = σ.n0 from hb, ← vEq_eq hv] at hsd
  exact ⟨hok', hE, h1, l1, fun b hb' hne => by rw [l2 b hb' hne, look_h0], hsd, hB⟩
theorem shS_low {n0 d : Nat} {v : V} (h : okS1 n0 [] v = true) : shS n0 d v = v := by
  have nb : ∀ b, orB (Nat.blt b n0) (memB b []) = true → Nat.ble n0 b = false := fun b hb => by
    rw [orB_eq] at hb
    have hb : b < n0 := hb.elim blt_of fun h => by cases h
    cases hn : Nat.ble n0 b with
    | true => have := ble_of hn; omega
    | false => rfl
  cases v with
  | vp b o => unfold shS; simp only [nb b h]
  | sl b o n c => unfold shS; simp only [nb b h]
  | so b o n => unfold shS; simp only [nb b h]
  | vm b => unfold shS; simp only [nb b h]
  | _ => rfl
theorem shA_low {n0 d : Nat} {v : V} (h : okA n0 [] v = true) : shA n0 d v = v := by
  unfold okA at h
  unfold shA
  split at h
  · rename_i l
    have : l.map (shS n0 d) = l := by
      rw [List.map_congr_left fun x hx => shS_low (allS_eq.1 h x hx), List.map_id']
    rw [this]
  · exact shS_low h
theorem args_cut {φ : Phi} {n0 : Nat} : ∀ {A : List V} {us : List Value}, (∀ a ∈ A, okA n0 [] a = true) → VRs φ A us → VRs (φ.cut n0) A us
  | [], us, _, h => h
  | a :: A, us, ho, ⟨u, t, e, hu, ht⟩ => by
    refine ⟨u, t, e, ?_, args_cut (fun x hx => ho x (List.mem_cons_of_mem _ hx)) ht⟩
    have := okA_VR (n0 := n0) (d := 0) (ids := []) (ψ := φ.cut n0) (fun b x hb hx => Phi.cut_some.2 ⟨hb, hx⟩) (fun b x _ hm => by cases hm) (ho a List.mem_cons_self) hu
    rwa [shA_low (ho a List.mem_cons_self)] at this
/-- a block under other numbers -/
theorem LBHas.sh {φ ψ : Phi} {es N n0 d : Nat} {ids : List Nat} {lb : LB} {bl bl' : Blk} {o : Option Obj} (h : LBHas lb bl) (hok : okLB n0 ids lb = true) (h1 : ∀ b x, b < n0 → φ b = some x → ψ b = some x) (h2 : ∀ b x, n0 ≤ b → b ∈ ids → φ b = some x → ψ (b + d) = some x)
    (k : LBIs (shLB n0 d lb) bl') (hB : BR P φ es N bl o) : BR P ψ es N bl' o := by
  cases lb with
  | c ty fz cs =>
    obtain ⟨n, pg, rfl, hn, hc⟩ := h
    obtain ⟨pg', rfl, hc'⟩ := k
    obtain ⟨arr, lo, hi, g1, g2, g3, g4, g5, g6⟩ := hB
    rw [List.length_map] at hc'
    refine ⟨arr, lo, hi, g1, g2, g3, by rw [List.length_map]; omega, g5, fun i hi => ?_⟩
    rw [List.length_map] at hi
    obtain ⟨u, a, b, c⟩ := g6 i (by omega)
    have e1 := hc i hi
    have e2 := hc' i hi
    rw [List.getElem?_map, e1, Option.map_some] at e2
    injection e2 with e2
    have hm : cell pg i ∈ cs := List.mem_of_getElem? e1
    exact ⟨u, a, by rw [← e2]; exact okS1_VR (allS_eq.1 hok _ hm) h1 h2 b, c⟩
  | m es' clock =>
    rw [show bl = _ from h] at hB
    rw [show bl' = _ from k]
    obtain ⟨l, g1, g2, g3⟩ := hB
    refine ⟨l, g1, by rw [List.length_map]; exact g2, fun i x y hx hy => ?_⟩
    rw [List.getElem?_map, Option.map_eq_some_iff] at hx
    obtain ⟨z, hz, rfl⟩ := hx
    obtain ⟨a, b, c⟩ := g3 i z y hz hy
    have ho := allE_eq.1 hok z (List.mem_of_getElem? hz)
    rw [andB_eq] at ho
    exact ⟨okS1_VR ho.1 h1 h2 a, okS1_VR ho.2 h1 h2 b, c⟩
theorem shLB_low {n0 d : Nat} {lb : LB} (h : okLB n0 [] lb = true) : shLB n0 d lb = lb := by
  cases lb with
  | c ty fz cs =>
    have : cs.map (shS n0 d) = cs := by rw [List.map_congr_left fun x hx => shS_low (allS_eq.1 h x hx), List.map_id']
    show LB.c ty fz (cs.map (shS n0 d)) = _
    rw [this]
  | m es clock =>
    have : es.map (fun e => (shS n0 d e.1, shS n0 d e.2.1, e.2.2)) = es := by
      rw [List.map_congr_left (g := id) fun x hx => ?_, List.map_id]
      have := allE_eq.1 h x hx
      rw [andB_eq] at this
      rw [shS_low this.1, shS_low this.2]
      rfl
    show LB.m (es.map (fun e => (shS n0 d e.1, shS n0 d e.2.1, e.2.2))) clock = _
    rw [this]
noncomputable def restSn (σ : Sn) (s : S) (k : V → S → Option R) : Option R :=
  natF (Nat.sub s.n σ.n0) fun d => layS σ.n0 d σ.B s.h fun h => natF (Nat.add σ.n1 d) fun n' => k (shV σ.n0 d σ.v) ⟨h, n', s.w, s.base⟩
noncomputable def oneSn (σ : Sn) (s : S) (k : V → S → Option R) : Option R := iff (Nat.ble σ.n0 s.n) (chkE σ.E s.h (restSn σ s k)) none
noncomputable def hkSnap (l : List Sn) : HK R := ⟨fun args s k => @List.rec _ (fun _ => Option R) none (fun σ _ ih => iff (aEqL σ.A args) (oneSn σ s k) ih) l⟩
/-- block 0 may be looked at, whatever its type -/
noncomputable def oneSnK (kws : List V) (σ : Sn) (s : S) (k : V → S → Option R) : Option R :=
  iff (Nat.ble σ.n0 s.n) (getH s.h 0 fun bl => onC bl fun _ n fz pg => iff (andB (Nat.beq fz 0) (Nat.ble (lenN kws) n)) (getsP pg (lenN kws) 0 fun l => iff (sEqL kws l) (chkE σ.E s.h (restSn σ s k)) none) none) none
noncomputable def hkSnapK (kws : List V) (l : List Sn) : HK R := ⟨fun args s k => @List.rec _ (fun _ => Option R) none (fun σ _ ih => iff (aEqL σ.A args) (oneSnK kws σ s k) ih) l⟩
def Sn.kw (σ : Sn) (kws : List V) (ty : Nat) : Sn := ⟨σ.A, σ.n0, (0, .c ty 0 kws) :: σ.E, σ.v, σ.n1, σ.B⟩
theorem pickSn {f : Sn → Option R} {args : List V} {r : R} : ∀ {l : List Sn}, (@List.rec _ (fun _ => Option R) none (fun σ _ ih => iff (aEqL σ.A args) (f σ) ih) l) = some r → ∃ σ ∈ l, σ.A = args ∧ f σ = some r := by
  intro l
  induction l with
  | nil => intro h; cases h
  | cons σ l ih =>
    intro h
    rcases iff2 h with ⟨h1, h⟩ | ⟨_, h⟩
    · exact ⟨σ, List.mem_cons_self, aEqL_eq h1, h⟩
    · obtain ⟨τ, h1, h2⟩ := ih h
      exact ⟨τ, List.mem_cons_of_mem _ h1, h2⟩
theorem snap_core {g : Nat} {σ : Sn} {s : S} {k : V → S → Option R} {r : R} (hσ : SnOk P g σ) (hb : s.base ≤ s.n) (hn : σ.n0 ≤ s.n) (hEs : ∀ x ∈ σ.E, x.1 < 262144 ∧ LBHas x.2 (look s.h x.1)) (hone : restSn σ s k = some r) :
    ∃ v s', CallSd P g σ.A s v s' ∧ Abs s s' ∧ k v s' = some r := by
  obtain ⟨hok, hE, h1, l1, l2, hsd, hBh⟩ := hσ
  unfold okSn at hok
  simp only [andB_eq, allE_eq] at hok
  obtain ⟨k1, k2, k3, k4, k5, k6, k7, k8, k9, k10⟩ := hok
  have k1 := blt_of k1
  have k2 := ble_of k2
  have k5 : ∀ x ∈ σ.E, x.1 < σ.n0 := fun x hx => blt_of (k5 x hx)
  have k6 : ∀ x ∈ σ.B, σ.n0 ≤ x.1 ∧ x.1 < σ.n1 := fun x hx => ⟨ble_of (k6 x hx).1, blt_of (k6 x hx).2⟩
  unfold restSn at hone
  rw [natF_eq] at hone
  obtain ⟨h2, hone, m1, m2⟩ := layS_some k4 hone
  rw [natF_eq] at hone
  generalize hd : Nat.sub s.n σ.n0 = d at *
  have hd : s.n = σ.n0 + d := by have : s.n - σ.n0 = d := hd; omega
  have hN : Nat.add σ.n1 d = σ.n1 + d := rfl
  rw [hN] at hone
  -- old blocks stay
  have hold : ∀ b, b < 262144 → b < s.n → look h2 b = look s.h b := fun b h3 h4 => m2 b h3 fun x hx => by have := (k6 x hx).1; omega
  refine ⟨shV σ.n0 d σ.v, ⟨h2, σ.n1 + d, s.w, s.base⟩, fun φ us w K hf hg hv HH hK => ?_, ⟨by show s.n ≤ σ.n1 + d; omega, rfl, fun _ h => h, fun b h3 h4 h5 => by rw [← hold b h4 h3]; exact h5, fun b h3 h4 => absurd h3 h4, fun b h3 h4 _ => hold b h4 (by omega)⟩, hone⟩
  have hlow : ∀ b x, φ b = some x → b < s.n := fun b x h => by
    rcases Nat.lt_or_ge b s.n with h' | h'
    · exact h'
    · rw [hf b h'] at h; cases h
  refine hsd (φ.cut σ.n0) us w K (fun b hb' => by unfold Phi.cut; rw [if_neg (by have : σ.n0 ≤ b := hb'; omega)]) ?_ (args_cut (allS_eq.1 k9) hv) ⟨fun b x e => HH.lt b x (Phi.cut_some.1 e).2, fun b x e => ?_, fun b c x y e1 e2 e3 e4 e5 => ?_⟩ fun φ1 u w' hs hu => ?_
  · obtain ⟨x, hx, hx1⟩ := hg
    exact ⟨x, Phi.cut_some.2 ⟨k1, hx⟩, hx1⟩
  · obtain ⟨e1, e2⟩ := Phi.cut_some.1 e
    have hlt := (HH.lt b x e2).1
    show BR P _ _ _ (look hE b) _
    by_cases hm : ∃ y ∈ σ.E, y.1 = b
    · obtain ⟨y, hy, rfl⟩ := hm
      refine (hEs y hy).2.sh (d := 0) (ids := []) (k10 y hy) (fun b x hb hx => Phi.cut_some.2 ⟨hb, hx⟩) (fun b x _ hm => by cases hm) ?_ (HH.at_ y.1 x e2)
      rw [shLB_low (k10 y hy)]
      exact (l1 y hy).2
    · rw [l2 b hlt fun y hy he => hm ⟨y, hy, he⟩]
      exact trivial
  · obtain ⟨a1, a2⟩ := Phi.cut_some.1 e1
    obtain ⟨b1, b2⟩ := Phi.cut_some.1 e2
    have live : ∀ b x, φ b = some x → look hE b ≠ .gone → look s.h b ≠ .gone := fun b x e hl => by
      by_cases hm : ∃ y ∈ σ.E, y.1 = b
      · obtain ⟨y, hy, rfl⟩ := hm
        exact (hEs y hy).2.live
      · exact absurd (l2 b (HH.lt b x e).1 fun y hy he => hm ⟨y, hy, he⟩) hl
    exact HH.inj b c x y a2 b2 e3 (live b x a2 e4) (live c y b2 e5)
  · -- all old blocks are as they were
    have hfr : ∀ β, β < w.heap.size → w'.heap[β]? = w.heap[β]? := fun β hβ => hs.frame β hβ fun b x e _ => ⟨(Phi.cut_some.1 e).1, by simp⟩
    have hφ1 : ∀ b x, b < σ.n0 → φ1 b = some x → φ b = some x := fun b x hb' hx => by
      cases hc : φ.cut σ.n0 b with
      | none => have := (hs.new b x hx hc).1; simp only at this; omega
      | some y =>
        have := hs.ext b y hc
        rw [hx] at this; injection this with this; subst this
        exact (Phi.cut_some.1 hc).2
    have hnewsz : ∀ b x, σ.n0 ≤ b → φ1 b = some x → w.heap.size ≤ x.1 := fun b x hb' hx => by
      have hc : φ.cut σ.n0 b = none := by unfold Phi.cut; rw [if_neg (by omega)]
      rcases Nat.lt_or_ge x.1 w.heap.size with hlt | hge
      · obtain ⟨c, y, q1, _, q3⟩ := hs.old b x hx hc hlt
        have q4 := (Phi.cut_some.1 q1).1
        rcases q3 with q3 | q3
        · simp only at q3; omega
        · cases q3
      · exact hge
    let φ2 : Phi := fun b => if s.n ≤ b ∧ (b - d) ∈ idsB σ.B then φ1 (b - d) else φ b
    have e2o : ∀ b, b < s.n → φ2 b = φ b := fun b h => if_neg (by omega)
    have e2n : ∀ b, b ∈ idsB σ.B → φ2 (b + d) = φ1 b := fun b hm => by
      have hb' : σ.n0 ≤ b := by rw [idsB_eq] at hm; obtain ⟨x, hx, rfl⟩ := List.mem_map.1 hm; exact (k6 x hx).1
      show (if s.n ≤ b + d ∧ (b + d - d) ∈ idsB σ.B then φ1 (b + d - d) else φ (b + d)) = _
      rw [if_pos ⟨by omega, by rw [Nat.add_sub_cancel]; exact hm⟩, Nat.add_sub_cancel]
    have e2s : ∀ b x, φ2 b = some x → (b < s.n ∧ φ b = some x) ∨ ∃ y ∈ σ.B, b = y.1 + d ∧ φ1 y.1 = some x := fun b x hx => by
      have hx : (if s.n ≤ b ∧ (b - d) ∈ idsB σ.B then φ1 (b - d) else φ b) = some x := hx
      split at hx
      · rename_i hc
        have hm := hc.2
        rw [idsB_eq] at hm
        obtain ⟨y, hy, hyb⟩ := List.mem_map.1 hm
        exact .inr ⟨y, hy, by omega, by rw [hyb]; exact hx⟩
      · exact .inl ⟨hlow b x hx, hx⟩
    have hle : φ.le φ2 := fun b x hx => by rw [e2o b (hlow b x hx)]; exact hx
    have t1 : ∀ b x, b < σ.n0 → φ1 b = some x → φ2 b = some x := fun b x hb' hx => hle b x (hφ1 b x hb' hx)
    have t2 : ∀ b x, σ.n0 ≤ b → b ∈ idsB σ.B → φ1 b = some x → φ2 (b + d) = some x := fun b x _ hm hx => by rw [e2n b hm]; exact hx
    refine hK φ2 u w' ?_ (okV_VR t1 t2 k7 hu)
    exact {
      ext := hle
      new := fun b x hx hn' => by
        rcases e2s b x hx with ⟨_, h⟩ | ⟨y, hy, rfl, _⟩
        · rw [hn'] at h; cases h
        · have := k6 y hy
          exact ⟨by omega, by show y.1 + d < σ.n1 + d; omega⟩
      hr := {
        lt := fun b x hx => by
          rcases e2s b x hx with ⟨_, h⟩ | ⟨y, hy, rfl, h⟩
          · exact ⟨(HH.lt b x h).1, Nat.lt_of_lt_of_le (HH.lt b x h).2 hs.size⟩
          · exact ⟨(m1 y hy).1, (hs.hr.lt y.1 x h).2⟩
        at_ := fun b x hx => by
          rcases e2s b x hx with ⟨hb', h⟩ | ⟨y, hy, rfl, h⟩
          · have hlt := HH.lt b x h
            show BR P _ _ _ (look h2 b) _
            rw [hold b hlt.1 hb', hfr _ hlt.2]
            exact (HH.at_ b x h).mono hle
          · exact (hBh y hy).2.sh (k8 y hy) t1 t2 (m1 y hy).2 (hs.hr.at_ y.1 x h)
        inj := fun b c x y hx hy hxy lb lc => by
          rcases e2s b x hx with ⟨hb', g⟩ | ⟨p, hp, rfl, g⟩
          · rcases e2s c y hy with ⟨hc', g'⟩ | ⟨q, hq, rfl, g'⟩
            · exact HH.inj b c x y g g' hxy (by rw [← hold b (HH.lt b x g).1 hb']; exact lb) (by rw [← hold c (HH.lt c y g').1 hc']; exact lc)
            · have := hnewsz q.1 y (k6 q hq).1 g'
              have := (HH.lt b x g).2
              omega
          · rcases e2s c y hy with ⟨hc', g'⟩ | ⟨q, hq, rfl, g'⟩
            · have := hnewsz p.1 x (k6 p hp).1 g
              have := (HH.lt c y g').2
              omega
            · have := hs.hr.inj p.1 q.1 x y g g' hxy (hBh p hp).2.live (hBh q hq).2.live
              rw [this] }
      size := hs.size
      os := hs.os
      tape := hs.tape
      output := hs.output
      frame := fun β hβ _ => hfr β hβ
      old := fun b x hx hn' hlt => by
        rcases e2s b x hx with ⟨_, h⟩ | ⟨y, hy, rfl, h⟩
        · rw [hn'] at h; cases h
        · have := hnewsz y.1 x (k6 y hy).1 h
          omega }
theorem hkSnap_sd {g : Nat} {l : List Sn} (hl : ∀ σ ∈ l, SnOk P g σ) : ∀ args s k r, s.base ≤ s.n → (hkSnap l : HK R).run args s k = some r → ∃ v s', CallSd P g args s v s' ∧ Abs s s' ∧ k v s' = some r := by
  intro args s k r hb h
  obtain ⟨σ, hσ, rfl, hone⟩ := pickSn (f := fun σ => oneSn σ s k) h
  obtain ⟨hn, hone⟩ := iff_some (show iff (Nat.ble σ.n0 s.n) (chkE σ.E s.h (restSn σ s k)) none = some r from hone)
  obtain ⟨hone, hEs⟩ := chkE_some hone
  exact snap_core (hl σ hσ) hb (ble_of hn) hEs hone
theorem hkSnapK_sd {g : Nat} {kws : List V} {l : List Sn} (hl : ∀ σ ∈ l, ∀ ty, SnOk P g (σ.kw kws ty)) : ∀ args s k r, s.base ≤ s.n → (hkSnapK kws l : HK R).run args s k = some r → ∃ v s', CallSd P g args s v s' ∧ Abs s s' ∧ k v s' = some r := by
  intro args s k r hb h
  obtain ⟨σ, hσ, rfl, hone⟩ := pickSn (f := fun σ => oneSnK kws σ s k) h
  obtain ⟨hn, e⟩ := iff_some (show iff (Nat.ble σ.n0 s.n) (getH s.h 0 fun bl => onC bl fun _ n fz pg => iff (andB (Nat.beq fz 0) (Nat.ble (lenN kws) n)) (getsP pg (lenN kws) 0 fun l => iff (sEqL kws l) (chkE σ.E s.h (restSn σ s k)) none) none) none = some r from hone)
  obtain ⟨hx, e⟩ := getH_some e
  obtain ⟨ty, n, fz, pg, hlk, e⟩ := onC_some e
  obtain ⟨hc, e⟩ := iff_some e
  simp only [andB_eq, lenN_eq] at hc
  rw [getsP_eq, lenN_eq] at e
  obtain ⟨hs, e⟩ := iff_some e
  have hs := sEqL_eq hs
  obtain ⟨e, hEs⟩ := chkE_some e
  refine snap_core (σ := σ.kw kws ty) (hl σ hσ ty) hb (ble_of hn) (fun x hx' => ?_) e
  rcases List.mem_cons.1 (show x ∈ (0, LB.c ty 0 kws) :: σ.E from hx') with rfl | hx'
  · refine ⟨hx, ?_⟩
    show LBHas (.c ty 0 kws) (look s.h 0)
    rw [hlk, show fz = 0 from beq_of hc.1]
    refine ⟨n, pg, rfl, ble_of hc.2, fun i hi => ?_⟩
    have := cells_at pg kws.length 0 i hi
    rw [← hs, Nat.zero_add] at this
    exact this
  · exact hEs x hx'
end
end Go.Ev
