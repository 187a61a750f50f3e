
/-
  Each operation is sound: conversions, fields, indexes, slices.
  Each operation is sound: what reads the heap.
  Each operation is sound: look-ups, lengths and what else only reads.
-/
import Derived.Test.YtlficnfkekggjaaGreatDoorEvC
namespace Go.Ev
section
variable {R : Type} {P : Program}
theorem run_conv_int {src dst : Nat} {k kd : IntKind} (hs : P.underlying src = some (.int k)) (hd : P.underlying dst = some (.int kd)) (k' : IntKind) (n : Int) (w : World) :
    (convert src dst (.int k' n)).run P w = .ok (.int kd (kd.wrap n)) w := by
  unfold convert
  simp only [Sem.run_bind, run_underlying hs, run_underlying hd, Result.andThen_ok]
  rfl
theorem sd_convert (src dst : Nat) (x : Operand) : BSpec P (.convert src dst x) (cOp0 P (.convert src dst x) : BOp R) := by
  refine BSpec.val fun rec e s k r h => ?_
  have h : (convC P src dst : CvC R).run ((opd x).get e) (fun v => k v s) = some r := by
    simp only [cOp0, wO_run] at h
    generalize (convC P src dst : CvC R) = C at h ⊢
    cases C
    exact h
  have ex : ∀ {o : Oper} {a : Act} {w : World} {u : Value}, o.op = .convert src dst x → (convert src dst (a.eval x)).run P w = .ok u w → (execOp a.eval o).run P w = .ok (.value u) w := fun ho hu => by
    unfold execOp
    rw [ho]
    simp only [Sem.run_bind, hu, Result.andThen_ok, Sem.run_pure]
  unfold convC at h
  split at h
  · rename_i k1 kd hs hd
    simp only [natC_eq] at h
    rcases onIG_some h with ⟨kk, n, hv, g⟩ | ⟨kk, n, hv, g⟩
    · rcases iff2 g with ⟨hm, g⟩ | ⟨_, g⟩
      · refine ⟨_, g, fun o ho φ a w _ HO _ => ?_⟩
        have := HO x (by simp [Op.operands]); unfold OR at this; rw [hv] at this
        refine ⟨_, ex ho (by rw [show a.eval x = _ from this]; exact run_conv_int hs hd _ _ w), ?_⟩
        rw [wrap_id kd n (ble_of hm)]
        show _ = _
        rw [kindK_kindN]
      · obtain ⟨v, e1, g⟩ := outV_some g
        injection e1 with e1; subst e1
        refine ⟨_, g, fun o ho φ a w _ HO _ => ?_⟩
        have := HO x (by simp [Op.operands]); unfold OR at this; rw [hv] at this
        exact ⟨_, ex ho (by rw [show a.eval x = _ from this]; exact run_conv_int hs hd _ _ w), ofI_VR φ kd _⟩
    · obtain ⟨v, e1, g⟩ := outV_some g
      injection e1 with e1; subst e1
      refine ⟨_, g, fun o ho φ a w _ HO _ => ?_⟩
      have := HO x (by simp [Op.operands]); unfold OR at this; rw [hv] at this
      exact ⟨_, ex ho (by rw [show a.eval x = _ from this]; exact run_conv_int hs hd _ _ w), ofI_VR φ kd _⟩
  · cases h
/-! ### places -/
theorem cellsOf_some {t : Nat} {i : TypeInfo} (h : P.info? t = some i) : P.cellsOf t = i.size := by unfold Program.cellsOf; rw [h]; rfl
theorem run_sizeOf {t : Nat} (h : (P.info? t).isSome = true) (w : World) : (sizeOf t).run P w = .ok (P.cellsOf t) w := by
  obtain ⟨i, hi⟩ := Option.isSome_iff_exists.1 h
  simp [sizeOf, typeInfo, hi, Program.cellsOf]
theorem info_of_cells {t : Nat} (h : P.cellsOf t ≠ 0) : (P.info? t).isSome = true := by
  unfold Program.cellsOf at h
  cases hi : P.info? t with
  | none => rw [hi] at h; simp at h
  | some i => rfl
theorem sd_fieldAddr (st : Nat) (x : Operand) (j : Nat) : BSpec P (.fieldAddr st x j) (cOp0 P (.fieldAddr st x j) : BOp R) := by
  refine BSpec.val fun rec e s k r h => ?_
  simp only [cOp0] at h
  cases hf : fieldAt P st j with
  | none => rw [hf] at h; cases h
  | some q =>
    obtain ⟨off, sz⟩ := q
    rw [hf] at h
    simp only [natC_eq, wO_run] at h
    cases hz : Nat.beq sz 0 with
    | true => rw [hz] at h; cases h
    | false =>
      rw [hz] at h
      simp only [] at h
      obtain ⟨b, of, hv, g⟩ := onP_some h
      simp only [natF_eq] at g
      refine ⟨_, g, fun o ho φ a w _ HO _ => ?_⟩
      have := HO x (by simp [Op.operands]); unfold OR at this; rw [hv] at this
      obtain ⟨z, hz1, hu⟩ := this
      refine ⟨_, ?_, z, hz1, rfl⟩
      unfold fieldAt at hf
      split at hf
      · rename_i fs hst
        split at hf
        · rename_i f hfj
          injection hf with hf
          have e1 : f.offset = off := congrArg Prod.fst hf
          have e2 : P.cellsOf f.type = sz := congrArg Prod.snd hf
          have hne : P.cellsOf f.type ≠ 0 := fun e0 => by rw [← e2, e0] at hz; cases hz
          unfold execOp
          rw [ho]
          simp only [hu, Instr.fieldAt, Instr.sureAddr, Sem.run_bind, run_underlying hst, Result.andThen_ok, hfj, fieldPlace, run_sizeOf (info_of_cells hne), Sem.run_pure]
          rw [if_neg hne]
          simp only [Sem.run_pure, Result.andThen_ok, Addr.add_mid, e1]
          rfl
        · cases hf
      · cases hf
theorem run_indexSlice {t el : Nat} (ht : P.underlying t = some (.slice el)) (hz : P.cellsOf el ≠ 0) {β o n c i : Nat} (hi : i < n) (k : IntKind) (w : World) :
    (Instr.indexAt t (.slice (some ⟨β, o, none⟩) n c) (.int k (Int.ofNat i))).run P w = .ok (.pointer (some ⟨β, o + i * P.cellsOf el, none⟩)) w := by
  unfold Instr.indexAt
  simp only [asIntOf, Sem.run_bind, Sem.run_pure, run_underlying ht, Result.andThen_ok]
  rw [if_pos (by constructor <;> simp; exact hi)]
  simp only [Sem.run_bind, run_sizeOf (info_of_cells hz), Result.andThen_ok, Sem.run_pure, Addr.add_mid]
  rfl
theorem run_indexArray {t el m : Nat} (ht : P.underlying t = some (.array m el)) (hz : P.cellsOf el ≠ 0) {β o i : Nat} (hi : i < m) (k : IntKind) (w : World) :
    (Instr.indexAt t (.pointer (some ⟨β, o, none⟩)) (.int k (Int.ofNat i))).run P w = .ok (.pointer (some ⟨β, o + i * P.cellsOf el, none⟩)) w := by
  unfold Instr.indexAt
  simp only [asIntOf, Sem.run_bind, Sem.run_pure, run_underlying ht, Result.andThen_ok, Instr.sureAddr]
  rw [if_pos (by constructor <;> simp; exact hi)]
  simp only [Sem.run_bind, run_sizeOf (info_of_cells hz), Result.andThen_ok, Sem.run_pure, Addr.add_mid]
  rfl
theorem idxC_some {b o i n es : Nat} {k : V → Option R} {r : R} (h : idxC b o i n es k = some r) : i < n ∧ k (.vp b (o + i * es)) = some r := by
  unfold idxC at h
  obtain ⟨h1, g⟩ := iff_some h
  rw [natF_eq] at g
  exact ⟨blt_of h1, g⟩
theorem ne_of_nbeq {a : Nat} (h : Nat.beq a 0 = false) : a ≠ 0 := fun e => by rw [e] at h; cases h
theorem sd_indexAddr (t : Nat) (x ix : Operand) : BSpec P (.indexAddr t x ix) (cOp0 P (.indexAddr t x ix) : BOp R) := by
  refine BSpec.val fun rec e s k r h => ?_
  simp only [cOp0] at h
  have ex : ∀ {o : Oper} {a : Act} {w : World} {u : Value}, o.op = .indexAddr t x ix → (Instr.indexAt t (a.eval x) (a.eval ix)).run P w = .ok u w → (execOp a.eval o).run P w = .ok (.value u) w := fun ho hu => by
    unfold execOp
    rw [ho]
    simp only [Sem.run_bind, hu, Result.andThen_ok, Sem.run_pure]
  split at h
  · rename_i el ht
    simp only [natC_eq, wO_run] at h
    cases hz : Nat.beq (P.cellsOf el) 0 with
    | true => rw [hz] at h; cases h
    | false =>
      rw [hz] at h
      simp only [] at h
      obtain ⟨ki, i, hiv, g⟩ := onI_some h
      rcases onL_some g with ⟨b, o', n, c, hv, g⟩ | ⟨b, o', n, hv, g⟩ | ⟨_, g⟩
      · obtain ⟨hlt, g⟩ := idxC_some g
        refine ⟨_, g, fun o ho φ a w _ HO _ => ?_⟩
        have h1 := HO x (by simp [Op.operands]); unfold OR at h1; rw [hv] at h1
        have h2 := HO ix (by simp [Op.operands]); unfold OR at h2; rw [hiv] at h2
        obtain ⟨z, hz1, hu⟩ := h1
        exact ⟨_, ex ho (by rw [hu, show a.eval ix = _ from h2]; exact run_indexSlice ht (ne_of_nbeq hz) hlt _ w), z, hz1, rfl⟩
      · obtain ⟨hlt, g⟩ := idxC_some g
        refine ⟨_, g, fun o ho φ a w _ HO _ => ?_⟩
        have h1 := HO x (by simp [Op.operands]); unfold OR at h1; rw [hv] at h1
        have h2 := HO ix (by simp [Op.operands]); unfold OR at h2; rw [hiv] at h2
        obtain ⟨z, c, hz1, _, _, hu⟩ := h1
        exact ⟨_, ex ho (by rw [hu, show a.eval ix = _ from h2]; exact run_indexSlice ht (ne_of_nbeq hz) hlt _ w), z, hz1, rfl⟩
      · cases g
  · rename_i m el ht
    simp only [natC_eq, wO_run] at h
    cases hz : Nat.beq (P.cellsOf el) 0 with
    | true => rw [hz] at h; cases h
    | false =>
      rw [hz] at h
      simp only [] at h
      obtain ⟨ki, i, hiv, g⟩ := onI_some h
      obtain ⟨b, o', hv, g⟩ := onP_some g
      obtain ⟨hlt, g⟩ := idxC_some g
      refine ⟨_, g, fun o ho φ a w _ HO _ => ?_⟩
      have h1 := HO x (by simp [Op.operands]); unfold OR at h1; rw [hv] at h1
      have h2 := HO ix (by simp [Op.operands]); unfold OR at h2; rw [hiv] at h2
      obtain ⟨z, hz1, hu⟩ := h1
      exact ⟨_, ex ho (by rw [hu, show a.eval ix = _ from h2]; exact run_indexArray ht (ne_of_nbeq hz) hlt _ w), z, hz1, rfl⟩
  · cases h
theorem atL_some : ∀ {l : List Nat} {i : Nat} {k : Nat → Option R} {r : R}, atL l i k = some r → ∃ c, l[i]? = some c ∧ k c = some r
  | [], i, k, r, h => by cases h
  | x :: l, 0, k, r, h => ⟨x, rfl, h⟩
  | x :: l, i + 1, k, r, h => by obtain ⟨c, h1, h2⟩ := atL_some (l := l) (i := i) h; exact ⟨c, by simpa using h1, h2⟩
theorem sd_index (t : Nat) (x ix : Operand) : BSpec P (.index t x ix) (cOp0 P (.index t x ix) : BOp R) := by
  refine BSpec.val fun rec e s k r h => ?_
  simp only [cOp0] at h
  split at h
  · rename_i ht
    simp only [wO_run] at h
    obtain ⟨ki, i, hiv, g⟩ := onI_some h
    obtain ⟨n, l, hv, g⟩ := onS_some g
    obtain ⟨c, hc, g⟩ := atL_some g
    refine ⟨_, g, fun o ho φ a w _ HO _ => ?_⟩
    have h1 := HO x (by simp [Op.operands]); unfold OR at h1; rw [hv] at h1
    have h2 := HO ix (by simp [Op.operands]); unfold OR at h2; rw [hiv] at h2
    obtain ⟨bs, hu, hl, _⟩ := h1
    rw [← hl, List.getElem?_map, Option.map_eq_some_iff] at hc
    obtain ⟨y, hy, rfl⟩ := hc
    refine ⟨.int .u8 (Int.ofNat y.toNat), ?_, rfl⟩
    unfold execOp
    rw [ho]
    have hb : bs[(Int.ofNat i).toNat]? = some y := by
      show bs[i]? = some y
      obtain ⟨hlt, he⟩ := List.getElem?_eq_some_iff.1 hy
      have hlt' : i < bs.size := by simpa using hlt
      rw [getElem?_pos bs i hlt', ← he]
      rfl
    simp only [hu, show a.eval ix = _ from h2, Instr.index, asIntOf, Sem.run_bind, Sem.run_pure, run_underlying ht, Result.andThen_ok]
    rw [if_pos (by simp), hb]
    rfl
  · cases h
theorem onC_some {b : Blk} {k : Nat → Nat → Nat → Pg → Option R} {r : R} (h : onC b k = some r) : ∃ ty n fz pg, b = .cel ty n fz pg ∧ k ty n fz pg = some r := by
  cases b <;> first | exact ⟨_, _, _, _, rfl, h⟩ | cases h
theorem onM_some {b : Blk} {k : List (V × V × Nat) → Nat → Option R} {r : R} (h : onM b k = some r) : ∃ es c, b = .mp es c ∧ k es c = some r := by
  cases b <;> first | exact ⟨_, _, rfl, h⟩ | cases h
/-! ### slices -/
/-- an optional operand is a number, or its default -/
def ONe (e : E4) (o : Option Operand) (d n : Nat) : Prop := (o = none ∧ n = d) ∨ ∃ x k, o = some x ∧ (opd x).get e = .vi k n
def ON (a : Act) (o : Option Operand) (d n : Nat) : Prop := (o = none ∧ n = d) ∨ ∃ x k, o = some x ∧ a.eval x = .int k (Int.ofNat n)
theorem optI_some {e : E4} {o : Option Operand} {d : Nat} {f : Nat → Option R} {r : R} (h : optI e o (f d) f = some r) : ∃ n, ONe e o d n ∧ f n = some r := by
  cases o with
  | none => exact ⟨d, .inl ⟨rfl, rfl⟩, h⟩
  | some x => obtain ⟨k, n, hv, g⟩ := onI_some h; exact ⟨n, .inr ⟨x, k, rfl, hv⟩, g⟩
theorem ONe.on {φ : Phi} {e : E4} {a : Act} {o : Option Operand} {d n : Nat} (h : ONe e o d n) (H : ∀ x, o = some x → OR φ e a x) : ON a o d n := by
  rcases h with h | ⟨x, k, ho, hv⟩
  · exact .inl h
  · have := H x ho; unfold OR at this; rw [hv] at this
    exact .inr ⟨x, kindK k, ho, this⟩
theorem run_bound {k : IntKind} {n y : Nat} (h : n ≤ y) (code : BoundsCode) (w : World) : (Instr.sliceBound (.int k (Int.ofNat n)) y code).run P w = .ok n w := by
  unfold Instr.sliceBound
  simp only [asIntOf, Sem.run_bind, Sem.run_pure, Result.andThen_ok]
  rw [if_pos (by constructor <;> simp; exact h)]
  rfl
theorem run_bounds {a : Act} {lo hi mx : Option Operand} {isS : Bool} {len cap l h m : Nat} (hl : ON a lo 0 l) (hh : ON a hi len h) (hm : ON a mx cap m) (hno : ¬ (hi = none ∧ ∃ x, mx = some x))
    (h1 : l ≤ h) (h2 : hi ≠ none → h ≤ m) (h3 : m ≤ cap) (w : World) : (Instr.sliceBounds isS len cap (lo.map a.eval) (hi.map a.eval) (mx.map a.eval)).run P w = .ok (l, h, m) w := by
  unfold Instr.sliceBounds
  rcases hm with ⟨rfl, rfl⟩ | ⟨xm, km, rfl, em⟩
  · rcases hh with ⟨rfl, rfl⟩ | ⟨xh, kh, rfl, eh⟩
    · rcases hl with ⟨rfl, rfl⟩ | ⟨xl, kl, rfl, el⟩
      · rfl
      · simp only [Option.map_some, Option.map_none, el, Sem.run_bind, Sem.run_pure, Result.andThen_ok, run_bound h1]
    · have h2 := h2 (by simp)
      rcases hl with ⟨rfl, rfl⟩ | ⟨xl, kl, rfl, el⟩
      · simp only [Option.map_some, Option.map_none, eh, Sem.run_bind, Sem.run_pure, Result.andThen_ok, run_bound h2]
      · simp only [Option.map_some, Option.map_none, eh, el, Sem.run_bind, Sem.run_pure, Result.andThen_ok, run_bound h2, run_bound h1]
  · rcases hh with ⟨rfl, rfl⟩ | ⟨xh, kh, rfl, eh⟩
    · exact absurd ⟨rfl, xm, rfl⟩ hno
    · have h2 := h2 (by simp)
      rcases hl with ⟨rfl, rfl⟩ | ⟨xl, kl, rfl, el⟩
      · simp only [Option.map_some, Option.map_none, em, eh, Sem.run_bind, Sem.run_pure, Result.andThen_ok, run_bound h3, run_bound h2]
      · simp only [Option.map_some, em, eh, el, Sem.run_bind, Sem.run_pure, Result.andThen_ok, run_bound h3, run_bound h2, run_bound h1]
theorem cutC_some {es b o l h m c : Nat} {k : V → Option R} {r : R} (e : cutC es b o l h m c k = some r) : l ≤ h ∧ h ≤ m ∧ m ≤ c ∧ k (.sl b (if m = l then o else o + l * es) (h - l) (m - l)) = some r := by
  unfold cutC at e
  obtain ⟨h1, e⟩ := iff_some e
  obtain ⟨h2, e⟩ := iff_some e
  obtain ⟨h3, e⟩ := iff_some e
  simp only [natF_eq] at e
  have h1 := ble_of h1; have h2 := ble_of h2; have h3 := ble_of h3
  refine ⟨h1, h2, h3, ?_⟩
  rcases iff2 e with ⟨hz, e⟩ | ⟨hz, e⟩
  · have : m - l = 0 := beq_of hz
    rw [if_pos (by omega)]; exact e
  · have : m - l ≠ 0 := ne_of_nbeq hz
    rw [if_neg (by omega)]; exact e
theorem cutS_some {l h n : Nat} {s : List Nat} {k : V → Option R} {r : R} (e : cutS l h n s k = some r) : l ≤ h ∧ h ≤ n ∧ k (.vs (h - l) (subL s l h)) = some r := by
  unfold cutS at e
  obtain ⟨h1, e⟩ := iff_some e
  obtain ⟨h2, e⟩ := iff_some e
  simp only [natF_eq] at e
  exact ⟨ble_of h1, ble_of h2, e⟩
theorem cutO_some {s : S} {es b o l h n : Nat} {k : V → Option R} {r : R} (e : cutO P s es b o l h n k = some r) : l ≤ h ∧ h ≤ n ∧ ((l = 0 ∧ k (.so b o h) = some r) ∨
    (l < n ∧ (∃ ty m fz pg, look s.h b = .cel ty m fz pg ∧ P.cellsOf ty = es) ∧ k (.so b (o + l * es) (h - l)) = some r) ∨ k .unk = some r) := by
  unfold cutO at e
  obtain ⟨h1, e⟩ := iff_some e
  obtain ⟨h2, e⟩ := iff_some e
  refine ⟨ble_of h1, ble_of h2, ?_⟩
  rcases iff2 e with ⟨hz, e⟩ | ⟨_, e⟩
  · exact .inl ⟨beq_of hz, e⟩
  · rcases iff2 e with ⟨hz, e⟩ | ⟨_, e⟩
    · obtain ⟨_, e⟩ := getH_some e
      obtain ⟨ty, m, fz, pg, hl, e⟩ := onC_some e
      obtain ⟨h3, e⟩ := iff_some e
      simp only [natF_eq] at e
      exact .inr (.inl ⟨blt_of hz, ⟨ty, m, fz, pg, hl, beq_of h3⟩, e⟩)
    · exact .inr (.inr e)
theorem ite_addr (β o x : Nat) (c : Prop) [Decidable c] : (if c then (⟨β, o, none⟩ : Addr) else (⟨β, o, none⟩ : Addr).add x) = ⟨β, if c then o else o + x, none⟩ := by
  split
  · rfl
  · rw [Addr.add_mid]
theorem run_cutSlice {t el : Nat} (ht : P.underlying t = some (.slice el)) (hz : P.cellsOf el ≠ 0) {a : Act} {lo hi mx : Option Operand} {β o n c l h m : Nat}
    (hb : ∀ w, (Instr.sliceBounds true n c (lo.map a.eval) (hi.map a.eval) (mx.map a.eval)).run P w = .ok (l, h, m) w) (w : World) :
    (Instr.sliceAt t (.slice (some ⟨β, o, none⟩) n c) (lo.map a.eval) (hi.map a.eval) (mx.map a.eval)).run P w = .ok (.slice (some ⟨β, if m = l then o else o + l * P.cellsOf el, none⟩) (h - l) (m - l)) w := by
  unfold Instr.sliceAt Instr.slice
  simp only [Sem.run_bind, run_underlying ht, Result.andThen_ok, hb, run_sizeOf (info_of_cells hz), Sem.run_pure]
  congr 2
  rw [← ite_addr]
  split <;> rfl
theorem run_cutNil {t el : Nat} (ht : P.underlying t = some (.slice el)) (hz : P.cellsOf el ≠ 0) {a : Act} {lo hi mx : Option Operand}
    (hb : ∀ w, (Instr.sliceBounds true 0 0 (lo.map a.eval) (hi.map a.eval) (mx.map a.eval)).run P w = .ok (0, 0, 0) w) (w : World) :
    (Instr.sliceAt t (.slice none 0 0) (lo.map a.eval) (hi.map a.eval) (mx.map a.eval)).run P w = .ok (.slice none 0 0) w := by
  unfold Instr.sliceAt Instr.slice
  simp only [Sem.run_bind, run_underlying ht, Result.andThen_ok, hb, run_sizeOf (info_of_cells hz), Sem.run_pure]
  rfl
theorem run_cutArray {t el N : Nat} (ht : P.underlying t = some (.array N el)) (hz : P.cellsOf el ≠ 0) {a : Act} {lo hi mx : Option Operand} {β o l h m : Nat}
    (hb : ∀ w, (Instr.sliceBounds false N N (lo.map a.eval) (hi.map a.eval) (mx.map a.eval)).run P w = .ok (l, h, m) w) (w : World) :
    (Instr.sliceAt t (.pointer (some ⟨β, o, none⟩)) (lo.map a.eval) (hi.map a.eval) (mx.map a.eval)).run P w = .ok (.slice (some ⟨β, if m = l then o else o + l * P.cellsOf el, none⟩) (h - l) (m - l)) w := by
  unfold Instr.sliceAt
  simp only [Sem.run_bind, run_underlying ht, Result.andThen_ok, Instr.sureAddr, Sem.run_pure, hb, run_sizeOf (info_of_cells hz), ite_addr]
theorem run_cutString {t : Nat} (ht : P.underlying t = some .string) {a : Act} {lo hi : Option Operand} {s : ByteArray} {l h : Nat}
    (hb : ∀ w, ∃ m, (Instr.sliceBounds false s.size s.size (lo.map a.eval) (hi.map a.eval) none).run P w = .ok (l, h, m) w) (w : World) :
    (Instr.sliceAt t (.string s) (lo.map a.eval) (hi.map a.eval) none).run P w = .ok (.string (s.extract l h)) w := by
  obtain ⟨m, hm⟩ := hb w
  unfold Instr.sliceAt Instr.slice
  simp only [Sem.run_bind, run_underlying ht, Result.andThen_ok, hm, Option.isSome_none, Bool.false_eq_true, if_false, Sem.run_pure]
theorem sd_slice (t : Nat) (x : Operand) (lo hi mx : Option Operand) : BSpec P (.slice t x lo hi mx) (cOp0 P (.slice t x lo hi mx) : BOp R) := by
  refine BSpec.val fun rec e s k r h => ?_
  simp only [cOp0, wO_run] at h
  have hno : ¬ (hi = none ∧ ∃ x, mx = some x) := fun ⟨h1, y, h2⟩ => by subst h1; subst h2; cases h
  have h' : optI e lo (sliceFrom P t hi mx s e ((opd x).get e) (fun v => k v s) 0) (fun l => sliceFrom P t hi mx s e ((opd x).get e) (fun v => k v s) l) = some r := by
    cases hi <;> cases mx <;> first | exact h | cases h
  obtain ⟨l, hl, g⟩ := optI_some h'
  have ex : ∀ {o : Oper} {a : Act} {w : World} {u : Value}, o.op = .slice t x lo hi mx → (Instr.sliceAt t (a.eval x) (lo.map a.eval) (hi.map a.eval) (mx.map a.eval)).run P w = .ok u w → (execOp a.eval o).run P w = .ok (.value u) w := fun ho hu => by
    unfold execOp
    rw [ho]
    simp only [Sem.run_bind, hu, Result.andThen_ok, Sem.run_pure]
  have mem : ∀ {φ : Phi} {a : Act}, (∀ y, y ∈ (Op.slice t x lo hi mx).operands → OR φ e a y) → OR φ e a x ∧ (∀ y, lo = some y → OR φ e a y) ∧ (∀ y, hi = some y → OR φ e a y) ∧ ∀ y, mx = some y → OR φ e a y := fun H =>
    ⟨H x (by simp [Op.operands]), fun y hy => H y (by simp [Op.operands, hy]), fun y hy => H y (by simp [Op.operands, hy]), fun y hy => H y (by simp [Op.operands, hy])⟩
  unfold sliceFrom at g
  split at g
  · rename_i ht
    cases mx with
    | some y => cases g
    | none =>
      simp only [] at g
      obtain ⟨n, cs, hv, g⟩ := onS_some g
      obtain ⟨hh, hhe, g⟩ := optI_some (f := fun h => cutS l h n cs fun v => k v s) g
      obtain ⟨h1, h2, g⟩ := cutS_some g
      refine ⟨_, g, fun o ho φ a w _ HO _ => ?_⟩
      obtain ⟨hx, hlo, hhi, _⟩ := mem HO
      unfold OR at hx; rw [hv] at hx
      obtain ⟨bs, hu, hbs, hn⟩ := hx
      have hsz : bs.size = n := by rw [← hn, ← hbs]; simp
      refine ⟨_, ex ho (by rw [hu]; exact run_cutString ht (l := l) (h := hh) (fun w => ⟨bs.size, run_bounds (hl.on hlo) (by rw [hsz]; exact hhe.on hhi) (.inl ⟨rfl, rfl⟩) (by simp) h1 (fun _ => by omega) (Nat.le_refl _) w⟩) w), bs.extract l hh, rfl, ?_, ?_⟩
      · rw [← hbs, ByteArray.data_extract, Array.toList_extract]
        simp only [subL, List.extract, List.map_take, List.map_drop, List.drop_take]
      · have : cs.length = n := hn
        simp only [subL, List.length_drop, List.length_take]
        omega
  · rename_i el ht
    obtain ⟨hz, g⟩ := iff_some g
    have hz : P.cellsOf el ≠ 0 := fun e => by rw [e] at hz; cases hz
    rcases onL_some g with ⟨b, o', n, c, hv, g⟩ | ⟨b, o', n, hv, g⟩ | ⟨hv, g⟩
    · obtain ⟨hh, hhe, g⟩ := optI_some (f := fun h => sliceTo P e mx (fun v => k v s) el b o' l c h) g
      obtain ⟨m, hme, g⟩ := optI_some (f := fun m => cutC (P.cellsOf el) b o' l hh m c fun v => k v s) g
      obtain ⟨h1, h2, h3, g⟩ := cutC_some g
      refine ⟨_, g, fun o ho φ a w _ HO _ => ?_⟩
      obtain ⟨hx, hlo, hhi, hmx⟩ := mem HO
      unfold OR at hx; rw [hv] at hx
      obtain ⟨z, hz1, hu⟩ := hx
      exact ⟨_, ex ho (by rw [hu]; exact run_cutSlice ht hz (fun w => run_bounds (hl.on hlo) (hhe.on hhi) (hme.on hmx) hno h1 (fun _ => h2) h3 w) w), z, hz1, rfl⟩
    · obtain ⟨hh, hhe, g⟩ := optI_some (f := fun h => sliceOpen P s e mx (fun v => k v s) el b o' l n h) g
      unfold sliceOpen at g
      cases mx with
      | none =>
        simp only [] at g
        obtain ⟨h1, h2, g⟩ := cutO_some g
        have key : ∀ {φ : Phi} {a : Act} {o : Oper} {w : World}, o.op = .slice t x lo hi none → (∀ y, y ∈ (Op.slice t x lo hi none).operands → OR φ e a y) → ∃ z c, φ b = some z ∧ n ≤ c ∧ (o' + c * z.2.1 = z.2.2 ∧ c ≤ maxLen) ∧
            (execOp a.eval o).run P w = .ok (.value (.slice (some ⟨z.1, if c = l then o' else o' + l * P.cellsOf el, none⟩) (hh - l) (c - l))) w := fun {φ a o w} ho HO => by
          obtain ⟨hx, hlo, hhi, _⟩ := mem HO
          unfold OR at hx; rw [hv] at hx
          obtain ⟨z, c, hz1, hc1, hc2, hu⟩ := hx
          exact ⟨z, c, hz1, hc1, hc2, ex ho (by rw [hu]; exact run_cutSlice ht hz (fun w => run_bounds (hl.on hlo) (hhe.on hhi) (.inl ⟨rfl, rfl⟩) (by simp) h1 (fun _ => by omega) (Nat.le_refl _) w) w)⟩
        rcases g with ⟨e0, g⟩ | ⟨hlt, ⟨ty, mm, fz, pg, hlk, hty⟩, g⟩ | g
        · refine ⟨_, g, fun o ho φ a w _ HO _ => ?_⟩
          obtain ⟨z, c, hz1, hc1, hc2, hr⟩ := key (w := w) ho HO
          subst e0
          refine ⟨_, hr, z, c, hz1, by omega, hc2, ?_⟩
          simp
        · refine ⟨_, g, fun o ho φ a w _ HO HH => ?_⟩
          obtain ⟨z, c, hz1, hc1, hc2, hr⟩ := key (w := w) ho HO
          refine ⟨_, hr, z, c - l, hz1, by omega, ?_, by rw [if_neg (by omega)]⟩
          have := HH.at_ b z hz1
          rw [hlk] at this
          obtain ⟨_, _, _, _, _, he, _⟩ := this
          rw [hty] at he
          exact ⟨by rw [he, Nat.add_assoc, ← Nat.add_mul, show l + (c - l) = c by omega]; exact hc2.1, Nat.le_trans (Nat.sub_le _ _) hc2.2⟩
        · refine ⟨_, g, fun o ho φ a w _ HO _ => ?_⟩
          obtain ⟨z, c, hz1, hc1, hc2, hr⟩ := key (w := w) ho HO
          exact ⟨_, hr, trivial⟩
      | some y =>
        simp only [] at g
        obtain ⟨ky, m, hmv, g⟩ := onI_some g
        obtain ⟨h1, h2, h3, g⟩ := cutC_some g
        refine ⟨_, g, fun o ho φ a w _ HO _ => ?_⟩
        obtain ⟨hx, hlo, hhi, hmx⟩ := mem HO
        unfold OR at hx; rw [hv] at hx
        obtain ⟨z, c, hz1, hc1, hc2, hu⟩ := hx
        have hme : ON a (some y) c m := ONe.on (.inr ⟨y, ky, rfl, hmv⟩) hmx
        exact ⟨_, ex ho (by rw [hu]; exact run_cutSlice ht hz (fun w => run_bounds (hl.on hlo) (hhe.on hhi) hme hno h1 (fun _ => h2) (by omega) w) w), z, hz1, rfl⟩
    · obtain ⟨hh, hhe, g⟩ := optI_some (f := fun h => sliceNil e mx (fun v => k v s) l h) g
      unfold sliceNil at g
      obtain ⟨e1, g⟩ := iff_some g
      obtain ⟨e2, g⟩ := iff_some g
      have e1 : l = 0 := beq_of e1
      have e2 : hh = 0 := beq_of e2
      subst e1; subst e2
      have hm : ∃ m, ONe e mx 0 m ∧ m = 0 ∧ k .sn s = some r := by
        cases mx with
        | none => exact ⟨0, .inl ⟨rfl, rfl⟩, rfl, g⟩
        | some y =>
          obtain ⟨ky, m, hmv, g⟩ := onI_some g
          obtain ⟨e3, g⟩ := iff_some g
          exact ⟨m, .inr ⟨y, ky, rfl, hmv⟩, beq_of e3, g⟩
      obtain ⟨m, hme, rfl, g⟩ := hm
      refine ⟨_, g, fun o ho φ a w _ HO _ => ?_⟩
      obtain ⟨hx, hlo, hhi, hmx⟩ := mem HO
      unfold OR at hx; rw [hv] at hx
      exact ⟨_, ex ho (by rw [show a.eval x = _ from hx]; exact run_cutNil ht hz (fun w => run_bounds (hl.on hlo) (hhe.on hhi) (hme.on hmx) hno (Nat.le_refl _) (fun _ => Nat.le_refl _) (Nat.le_refl _) w) w), rfl⟩
  · rename_i N el ht
    obtain ⟨hz, g⟩ := iff_some g
    have hz : P.cellsOf el ≠ 0 := fun e => by rw [e] at hz; cases hz
    obtain ⟨b, o', hv, g⟩ := onP_some g
    obtain ⟨hh, hhe, g⟩ := optI_some (f := fun h => sliceTo P e mx (fun v => k v s) el b o' l N h) g
    obtain ⟨m, hme, g⟩ := optI_some (f := fun m => cutC (P.cellsOf el) b o' l hh m N fun v => k v s) g
    obtain ⟨h1, h2, h3, g⟩ := cutC_some g
    refine ⟨_, g, fun o ho φ a w _ HO _ => ?_⟩
    obtain ⟨hx, hlo, hhi, hmx⟩ := mem HO
    unfold OR at hx; rw [hv] at hx
    obtain ⟨z, hz1, hu⟩ := hx
    exact ⟨_, ex ho (by rw [hu]; exact run_cutArray ht hz (fun w => run_bounds (hl.on hlo) (hhe.on hhi) (hme.on hmx) hno h1 (fun _ => h2) h3 w) w), z, hz1, rfl⟩
  · cases g
end
end Go.Ev
namespace Go.Ev
section
variable {R : Type} {P : Program}
/-! ### loads -/
theorem cell_row {w : World} {β : Nat} {arr : Array Value} {ty : TypeId} {fr : Nat × Nat} (h : w.heap[β]? = some (.cells arr ty fr)) (o : Nat) : w.cell? ⟨β, o, none⟩ = arr[o]? := by
  unfold World.cell?
  simp only [h]
  rfl
theorem loadC_some {t : Nat} {s : S} {b o : Nat} {k : V → Option R} {r : R} (h : (loadC P t).run s b o k = some r) :
    ∃ v, k v = some r ∧ ∀ φ w x, HR P φ s.h w → φ b = some x → ∃ u, (Instr.loadAt t (.pointer (some ⟨x.1, o, none⟩))).run P w = .ok u w ∧ VR φ v u := by
  unfold loadC at h
  split at h
  · rename_i ha
    simp only [natC_eq] at h
    cases hz : Nat.beq (P.cellsOf t) 0 with
    | true => rw [hz] at h; cases h
    | false =>
      rw [hz] at h
      simp only [] at h
      obtain ⟨hb, h⟩ := getH_some h
      obtain ⟨ty, n, fz, pg, hl, h⟩ := onC_some h
      obtain ⟨hn, h⟩ := iff_some h
      rw [getsP_eq] at h
      have hn : o + P.cellsOf t ≤ n := ble_of hn
      refine ⟨_, h, fun φ w x HH hx => ?_⟩
      have := HH.at_ b x hx
      rw [hl] at this
      obtain ⟨arr, lo, hi, ho, hsz, _, hN, _, hc⟩ := this
      have hcs : ∀ i, i < P.cellsOf t → ∃ u, arr[o + i]? = some u ∧ VR φ (cell pg (o + i)) u ∧ u.oneCell' = true := fun i hi => hc (o + i) (by omega)
      let us : List Value := (List.range (P.cellsOf t)).map fun i => (arr[o + i]?).getD undef
      have hlen : us.length = P.cellsOf t := by simp [us]
      have hat : ∀ i u, us[i]? = some u → arr[o + i]? = some u ∧ VR φ (cell pg (o + i)) u ∧ u.oneCell' = true := fun i u hu => by
        have hi : i < P.cellsOf t := by have := (List.getElem?_eq_some_iff.1 hu).1; omega
        obtain ⟨u', h1, h2, h3⟩ := hcs i hi
        have : us[i]? = some u' := by simp [us, hi, h1]
        rw [this] at hu; injection hu with hu; subst hu
        exact ⟨h1, h2, h3⟩
      obtain ⟨d, hd, hda⟩ : ∃ d, P.underlying t = some d ∧ isAggD d = true := by
        unfold aggT at ha
        cases hu : P.underlying t with
        | none => rw [hu] at ha; cases ha
        | some d => rw [hu] at ha; injection ha with ha; exact ⟨d, rfl, ha⟩
      refine ⟨.agg us.toArray, ?_, us, rfl, ?_, ?_⟩
      · refine run_loadAt_mid w x.1 o t us d (fun j v hv => ?_) hd (by cases d <;> first | rfl | cases hda) ?_
        · rw [cell_row ho]
          exact (hat j v hv).1
        · have := info_of_cells (ne_of_nbeq hz)
          obtain ⟨i, hi⟩ := Option.isSome_iff_exists.1 this
          rw [hi, hlen, cellsOf_some hi]; rfl
      · refine VRs.mk (by rw [hlen, cells_len]) fun i v u h1 h2 => ?_
        obtain ⟨_, h3, _⟩ := hat i u h2
        have hi : i < P.cellsOf t := by have := (List.getElem?_eq_some_iff.1 h2).1; omega
        rw [cells_at pg _ o i hi] at h1
        injection h1 with h1; subst h1
        exact h3
      · intro u hu
        obtain ⟨i, hi⟩ := List.getElem?_of_mem hu
        exact (hat i u hi).2.2
  · rename_i ha
    obtain ⟨hb, h⟩ := getH_some h
    obtain ⟨ty, n, fz, pg, hl, h⟩ := onC_some h
    obtain ⟨hn, h⟩ := iff_some h
    rw [getP_eq] at h
    refine ⟨_, h, fun φ w x HH hx => ?_⟩
    have := HH.at_ b x hx
    rw [hl] at this
    obtain ⟨arr, lo, hi, ho, hsz, _, hN, _, hc⟩ := this
    obtain ⟨u, h1, h2, _⟩ := hc o (blt_of hn)
    refine ⟨u, ?_, h2⟩
    obtain ⟨d, hd, hda⟩ : ∃ d, P.underlying t = some d ∧ isAggD d = false := by
      unfold aggT at ha
      cases hu : P.underlying t with
      | none => rw [hu] at ha; cases ha
      | some d => rw [hu] at ha; injection ha with ha; exact ⟨d, rfl, ha⟩
    have hagg : (isAgg t).run P w = .ok false w := by
      unfold isAgg
      rw [Sem.run_bind, run_underlying hd w]
      cases d <;> first | rfl | cases hda
    simp only [Instr.loadAt, Instr.sureAddr, loadVar, Sem.run_bind, Sem.run_pure, Result.andThen_ok, hagg]
    have : w.cell? ⟨x.1, o, none⟩ = some u := by rw [cell_row ho]; exact h1
    simp [load, Sem.run, this]
  · cases h
theorem sd_load (t : Nat) (x : Operand) : BSpec P (.load t x) (cOp0 P (.load t x) : BOp R) := by
  refine BSpec.val fun rec e s k r h => ?_
  have h : onP ((opd x).get e) (fun b of => (loadC P t : LdC R).run s b of fun v => k v s) = some r := by
    simp only [cOp0, wO_run] at h
    generalize (loadC P t : LdC R) = C at h ⊢
    cases C
    exact h
  obtain ⟨b, o', hv, g⟩ := onP_some h
  obtain ⟨v, g, H⟩ := loadC_some g
  refine ⟨v, g, fun o ho φ a w _ HO HH => ?_⟩
  have h1 := HO x (by simp [Op.operands]); unfold OR at h1; rw [hv] at h1
  obtain ⟨z, hz, hu⟩ := h1
  obtain ⟨u, hr, hvr⟩ := H φ w z HH hz
  refine ⟨u, ?_, hvr⟩
  unfold execOp
  rw [ho]
  simp only [hu, Sem.run_bind, hr, Result.andThen_ok, Sem.run_pure]
/-! ### maps -/
theorem getObj_map {w : World} {β : Nat} {es : List MapEntry} {c : Nat} (h : w.heap[β]? = some (.map es.toArray c)) : (getObj β).run P w = .ok (.map es.toArray c) w := by
  simp [getObj, Sem.run, h]
def eqKB (K : KK) (x y : V) : Option Bool := match K, x, y with
  | .str, .vs n a, .vs m b => some (eqsB.eqS' n a m b)
  | .int, .vi kd a, .vi kd' b => if kd = kd' then some (decide (a = b)) else none
  | .flat ks, .va xs, .va ys => eqsB ks xs ys
  | _, _, _ => none
theorem eqKey_eq (K : KK) (x y : V) (k : Bool → Option R) : eqKey K x y k = match eqKB K x y with | some b => k b | none => none := by
  cases K <;> cases x <;> cases y <;> try rfl
  · rename_i kd a kd' b
    simp only [eqKey, eqKB, natbeq]
    by_cases h : kd = kd' <;> simp [h, iff_true, iff_false]
  · simp only [eqKey, eqKB, eqS_eq']
  · simp only [eqKey, eqKB, eqs_eq]; rfl
/-- where a key stands -/
def findB (K : KK) (x : V) : List (V × V × Nat) → Nat → Option (Option (Nat × V × Nat))
  | [], _ => some none
  | e :: r, i => match eqKB K x e.1 with
    | some true => some (some (i, e.2.1, e.2.2))
    | some false => findB K x r (i + 1)
    | none => none
theorem findB_cons (K : KK) (x : V) (e : V × V × Nat) (r : List (V × V × Nat)) (i : Nat) : findB K x (e :: r) i = match eqKB K x e.1 with
    | some true => some (some (i, e.2.1, e.2.2))
    | some false => findB K x r (i + 1)
    | none => none := rfl
theorem findC_eq (K : KK) (x : V) (es : List (V × V × Nat)) (no : Option R) (yes : Nat → V → Nat → Option R) :
    findC K x es no yes = match findB K x es 0 with | some none => no | some (some (i, v, b)) => yes i v b | none => none := by
  have key : ∀ (es : List (V × V × Nat)) (i : Nat), @List.rec _ (fun _ => Nat → Option R) (fun _ => no) (fun e _ ih i => eqKey K x e.1 fun b => iff b (yes i e.2.1 e.2.2) (ih (Nat.succ i))) es i = match findB K x es i with | some none => no | some (some (i, v, b)) => yes i v b | none => none := by
    intro es
    induction es with
    | nil => intro i; rfl
    | cons e r ih =>
      intro i
      show eqKey K x e.1 (fun b => iff b (yes i e.2.1 e.2.2) (@List.rec _ (fun _ => Nat → Option R) (fun _ => no) (fun e _ ih i => eqKey K x e.1 fun b => iff b (yes i e.2.1 e.2.2) (ih (Nat.succ i))) r (i + 1))) = _
      rw [eqKey_eq, ih (i + 1), findB_cons]
      cases hb : eqKB K x e.1 with
      | none => rfl
      | some b => cases b <;> rfl
  exact key es 0
/-- the key's kind and its type -/
inductive KT (P : Program) (kt : Nat) : KK → Prop
  | int (k : IntKind) (h : P.underlying kt = some (.int k)) : KT P kt .int
  | str (h : P.underlying kt = some .string) : KT P kt .str
  | flat (ks : List FK) (h : flatT P kt = some ks) : KT P kt (.flat ks)
theorem keyT_some {t : Nat} {K : KK} (h : keyT P t = some K) : ∃ kt el, P.underlying t = some (.map kt el) ∧ KT P kt K := by
  unfold keyT at h
  split at h
  · rename_i kt el hu
    refine ⟨kt, el, hu, ?_⟩
    split at h
    · injection h with h; subst h; exact .int _ ‹_›
    · injection h with h; subst h; exact .str ‹_›
    · split at h
      · injection h with h; subst h; exact .flat _ ‹_›
      · cases h
    · cases h
  · cases h
/-- a key that fits -/
def KeyOk (K : KK) (x : V) : Prop := match K, x with
  | .str, .vs .. => True
  | .int, .vi .. => True
  | .flat ks, .va xs => ks.length = xs.length
  | _, _ => False
theorem onKey_some {K : KK} {x : V} {k : Option R} {r : R} (h : onKey K x k = some r) : KeyOk K x ∧ k = some r := by
  cases K <;> cases x <;> try (cases h; done)
  · exact ⟨trivial, h⟩
  · exact ⟨trivial, h⟩
  · obtain ⟨h1, h⟩ := iff_some h
    rw [lenN_eq, lenN_eq] at h1
    exact ⟨beq_of h1, h⟩
/-- one comparison, as findKey makes it -/
theorem key_asks {φ : Phi} {kt : Nat} {K : KK} (hK : KT P kt K) {x y : V} {u v : Value} (hx : VR φ x u) (hy : VR φ y v) {b : Bool} (h : eqKB K x y = some b) (w : World) :
    (Op.equal kt u v).run P w = .ok b w := by
  cases hK with
  | int k hu =>
    cases x <;> cases y <;> simp only [eqKB, reduceCtorEq] at h
    rename_i ka a kb c
    split at h
    · rename_i e; subst e
      injection h with h; subst h
      rw [show u = _ from hx, show v = _ from hy]
      show (Op.equalIn (9999 + 1) kt _ _).run P w = _
      rw [run_equalIn_int w 9999 kt _ k _ _ hu]
      congr 1
      rw [Bool.eq_iff_iff]; simp; omega
    · cases h
  | str hu =>
    cases x <;> cases y <;> simp only [eqKB, reduceCtorEq] at h
    rename_i n a m c
    injection h with h; subst h
    obtain ⟨s1, s2, rfl, rfl, _, _, _, _, e, _⟩ := str_eq hx hy
    show (Op.equalIn (9999 + 1) kt _ _).run P w = _
    rw [run_equalIn_string w 9999 kt s1 s2 hu, ← e, eqS_eq']
  | flat ks hu =>
    cases x <;> cases y <;> simp only [eqKB, reduceCtorEq] at h
    obtain ⟨us, rfl, hus, _⟩ := hx
    obtain ⟨vs, rfl, hvs, _⟩ := hy
    exact flat_run hu hus hvs w h
/-- what is found, counted from i on -/
def FndR (φ : Phi) (es' : List MapEntry) (i : Nat) (res : Option (Nat × V × Nat)) (res' : Option (Nat × Value)) : Prop := match res, res' with
  | none, none => True
  | some (j, v, b), some (j', v') => j = j' ∧ VR φ v v' ∧ i ≤ j ∧ ∃ y, es'[j - i]? = some y ∧ y.val = v' ∧ y.born = b
  | _, _ => False
theorem FndR.cons {φ : Phi} {e' : MapEntry} {r' : List MapEntry} {i : Nat} {res : Option (Nat × V × Nat)} {res' : Option (Nat × Value)} (h : FndR φ r' (i + 1) res res') : FndR φ (e' :: r') i res res' := by
  cases res with
  | none => cases res' <;> exact h
  | some q => cases res' with
    | none => exact h
    | some q' =>
      obtain ⟨a1, a2, a3, y, a4, a5, a6⟩ := h
      refine ⟨a1, a2, by omega, y, ?_, a5, a6⟩
      rw [show q.1 - i = (q.1 - (i + 1)) + 1 by omega]
      simpa using a4
theorem asks_run {φ : Phi} {kt : Nat} {K : KK} (hK : KT P kt K) {x : V} {u : Value} (hx : VR φ x u) : ∀ (es : List (V × V × Nat)) (es' : List MapEntry) (i : Nat) (res : Option (Nat × V × Nat)) (w : World),
    es'.length = es.length → (∀ (i : Nat) (x : V × V × Nat) (y : MapEntry), es[i]? = some x → es'[i]? = some y → VR φ x.1 y.key ∧ VR φ x.2.1 y.val ∧ y.born = x.2.2) → findB K x es i = some res →
    ∃ res', (Instr.findAsking kt u es' i).run P w = .ok res' w ∧ FndR φ es' i res res' := by
  intro es
  induction es with
  | nil =>
    intro es' i res w hl _ h
    obtain rfl := List.eq_nil_of_length_eq_zero hl
    injection h with h; subst h
    exact ⟨none, rfl, trivial⟩
  | cons e r ih =>
    intro es' i res w hl hr h
    cases es' with
    | nil => simp at hl
    | cons e' r' =>
      obtain ⟨h1, h2, h3⟩ := hr 0 e e' rfl rfl
      unfold findB at h
      cases hb : eqKB K x e.1 with
      | none => rw [hb] at h; cases h
      | some b =>
        rw [hb] at h
        have hq := key_asks (P := P) hK hx h1 hb w
        unfold Instr.findAsking
        simp only [Sem.run_bind, hq, Result.andThen_ok]
        cases b with
        | true =>
          injection h with h; subst h
          exact ⟨some (i, e'.val), rfl, rfl, h2, Nat.le_refl _, e', by simp, rfl, h3⟩
        | false =>
          obtain ⟨res', g1, g2⟩ := ih r' (i + 1) res w (by simpa using hl) (fun j x y hx hy => hr (j + 1) x y (by simpa using hx) (by simpa using hy)) h
          exact ⟨res', by simpa using g1, g2.cons⟩
/-- scalars: found at once -/
theorem now_run {φ : Phi} {K : KK} {d : TypeDesc} (hd : (K = .int ∧ ∃ k, d = .int k) ∨ (K = .str ∧ d = .string)) {x : V} {u : Value} (hx : VR φ x u) : ∀ (es : List (V × V × Nat)) (es' : List MapEntry) (i : Nat) (res : Option (Nat × V × Nat)),
    es'.length = es.length → (∀ (i : Nat) (x : V × V × Nat) (y : MapEntry), es[i]? = some x → es'[i]? = some y → VR φ x.1 y.key ∧ VR φ x.2.1 y.val ∧ y.born = x.2.2) → findB K x es i = some res →
    ∃ res', Instr.findNow d u es' i = some res' ∧ FndR φ es' i res res' := by
  intro es
  induction es with
  | nil =>
    intro es' i res hl _ h
    obtain rfl := List.eq_nil_of_length_eq_zero hl
    injection h with h; subst h
    exact ⟨none, rfl, trivial⟩
  | cons e r ih =>
    intro es' i res hl hr h
    cases es' with
    | nil => simp at hl
    | cons e' r' =>
      obtain ⟨h1, h2, h3⟩ := hr 0 e e' rfl rfl
      unfold findB at h
      cases hb : eqKB K x e.1 with
      | none => rw [hb] at h; cases h
      | some b =>
        rw [hb] at h
        have hq : Instr.sameNow d u e'.key = some b := by
          rcases hd with ⟨rfl, k, rfl⟩ | ⟨rfl, rfl⟩
          · obtain ⟨ex, ev⟩ := e
            cases x <;> cases ex <;> simp only [eqKB, reduceCtorEq] at hb
            rename_i ka a kb c
            split at hb
            · rename_i e0; subst e0
              injection hb with hb; subst hb
              rw [show u = _ from hx, show e'.key = _ from h1]
              simp only [Instr.sameNow, if_true]
              congr 1
              rw [Bool.eq_iff_iff]; simp; omega
            · cases hb
          · obtain ⟨ex, ev⟩ := e
            cases x <;> cases ex <;> simp only [eqKB, reduceCtorEq] at hb
            injection hb with hb; subst hb
            obtain ⟨s1, s2, e1, e2, _, _, _, _, e0, _⟩ := str_eq hx h1
            rw [e1, e2]
            simp only [Instr.sameNow]
            congr 1
            rw [beq_toListBytes, ← e0, eqS_eq']
        unfold Instr.findNow
        rw [hq]
        cases b with
        | true =>
          injection h with h; subst h
          exact ⟨some (i, e'.val), rfl, rfl, h2, Nat.le_refl _, e', by simp, rfl, h3⟩
        | false =>
          obtain ⟨res', g1, g2⟩ := ih r' (i + 1) res (by simpa using hl) (fun j x y hx hy => hr (j + 1) x y (by simpa using hx) (by simpa using hy)) h
          exact ⟨res', g1, g2.cons⟩
theorem findKey_run {φ : Phi} {kt : Nat} {K : KK} (hK : KT P kt K) {x : V} {u : Value} (hx : VR φ x u) (es : List (V × V × Nat)) (es' : List MapEntry) (res : Option (Nat × V × Nat)) (w : World)
    (hl : es'.length = es.length) (hr : ∀ (i : Nat) (x : V × V × Nat) (y : MapEntry), es[i]? = some x → es'[i]? = some y → VR φ x.1 y.key ∧ VR φ x.2.1 y.val ∧ y.born = x.2.2) (h : findB K x es 0 = some res) :
    ∃ res', (Instr.findKey kt u es').run P w = .ok res' w ∧ FndR φ es' 0 res res' := by
  unfold Instr.findKey
  have now : ∀ d, P.underlying kt = some d → ((K = .int ∧ ∃ k, d = .int k) ∨ (K = .str ∧ d = .string)) → ∃ res', (do match Instr.findNow (← underlying kt) u es' 0 with | some r => pure r | none => Instr.findAsking kt u es' : Sem (Option (Nat × Value))).run P w = .ok res' w ∧ FndR φ es' 0 res res' := fun d hu hd => by
    obtain ⟨res', g1, g2⟩ := now_run hd hx es es' 0 res hl hr h
    refine ⟨res', ?_, g2⟩
    simp only [Sem.run_bind, run_underlying hu, Result.andThen_ok, g1]
    rfl
  cases hK with
  | int k hu => exact now _ hu (.inl ⟨rfl, k, rfl⟩)
  | str hu => exact now _ hu (.inr ⟨rfl, rfl⟩)
  | flat ks hu =>
    obtain ⟨fs, hu', _⟩ := flatT_some hu
    obtain ⟨res', g1, g2⟩ := asks_run (.flat ks hu) hx es es' 0 res w hl hr h
    simp only [Sem.run_bind, run_underlying hu', Result.andThen_ok]
    cases es' with
    | nil =>
      obtain rfl := List.eq_nil_of_length_eq_zero hl.symm
      refine ⟨none, rfl, ?_⟩
      injection h with h; subst h
      trivial
    | cons e r =>
      refine ⟨res', ?_, g2⟩
      have : Instr.findNow (.struct fs) u (e :: r) 0 = none := by
        unfold Instr.findNow Instr.sameNow
        rfl
      rw [this]
      exact g1
end
end Go.Ev
namespace Go.Ev
section
variable {R : Type} {P : Program}
theorem run_checkScalar {kt : Nat} {d : TypeDesc} (hd : P.underlying kt = some d) (h : (∃ k, d = .int k) ∨ d = .string ∨ d = .bool) (em : Bool) (n : Nat) (u : Value) (w : World) : (Instr.checkKey em (n + 1) kt u).run P w = .ok () w := by
  unfold Instr.checkKey
  simp only [Sem.run_bind, run_underlying hd, Result.andThen_ok]
  rcases h with ⟨k, rfl⟩ | rfl | rfl <;> rfl
theorem FKt.desc {t : Nat} {z : FK} (h : FKt P t z) : ∃ d, P.underlying t = some d ∧ ((∃ k, d = .int k) ∨ d = .string ∨ d = .bool) := by
  cases z
  · obtain ⟨k, h⟩ := h; exact ⟨_, h, .inl ⟨k, rfl⟩⟩
  · exact ⟨_, h, .inr (.inl rfl)⟩
  · exact ⟨_, h, .inr (.inr rfl)⟩
theorem checkKey_run {φ : Phi} {kt : Nat} {K : KK} (hK : KT P kt K) {x : V} {u : Value} (hx : VR φ x u) (hk : KeyOk K x) (em : Bool) (w : World) : (Instr.checkKey em 10000 kt u).run P w = .ok () w := by
  cases hK with
  | int k hu => exact run_checkScalar hu (.inl ⟨k, rfl⟩) em 9999 u w
  | str hu => exact run_checkScalar hu (.inr (.inl rfl)) em 9999 u w
  | flat ks hu =>
    cases x <;> simp only [KeyOk] at hk
    obtain ⟨us, rfl, hus, _⟩ := hx
    obtain ⟨fs, hu', _, hf, _⟩ := flatT_some hu
    have hlen : ∀ (fs : List Field) (i : Nat) (ks : List FK), flatF P fs i = some ks → ks.length = fs.length := by
      intro fs
      induction fs with
      | nil => intro i ks h; injection h with h; subst h; rfl
      | cons f fs ih => intro i ks h; obtain ⟨_, _, z, zs, rfl, _, h'⟩ := flatF_cons h; simp [ih _ _ h']
    have h1 := hlen _ _ _ hf
    have h2 := hus.len
    show (Instr.checkKey em (9998 + 1 + 1) kt _).run P w = _
    unfold Instr.checkKey
    simp only [Sem.run_bind, run_underlying hu', Result.andThen_ok]
    rw [← Array.forIn_toList]
    have h3 : 0 + fs.toList.length ≤ us.toArray.size := by simp at h1 ⊢; omega
    clear hus hk h1 h2 hu hu' hlen
    generalize us.toArray = cs at *
    generalize fs.toList = l at *
    generalize 0 = i at hf h3
    induction l generalizing i ks with
    | nil => rfl
    | cons f l ih =>
      obtain ⟨ho, hn, z, zs, rfl, hz, hf'⟩ := flatF_cons hf
      simp only [List.length_cons] at h3
      obtain ⟨d, hd, hda⟩ := hz.scalar
      obtain ⟨d', hd', hda'⟩ := hz.desc
      have hp := run_part_flat (P := P) hd hda (cs := cs) (o := f.offset) (v := cs[i]'(by omega)) (by rw [ho]; exact Array.getElem?_eq_getElem (by omega)) w
      have hc := run_checkScalar (P := P) hd' hda' em 9998 (cs[i]'(by omega)) w
      rw [List.forIn_cons]
      simp only [if_pos hn, Sem.run_bind, hp, Result.andThen_ok, hc, Sem.run_pure]
      exact ih zs (i + 1) hf' (by omega)
theorem scal_one {φ : Phi} {v : V} {u : Value} (h : scal v = true) (hv : VR φ v u) : u.oneCell' = true := by
  cases v <;> simp only [scal, Bool.false_eq_true] at h
  case vi => rw [show u = _ from hv]; rfl
  case vg => rw [show u = _ from hv]; rfl
  case vb => rw [show u = _ from hv]; rfl
  case vs => obtain ⟨_, rfl, _⟩ := hv; rfl
  case vp => obtain ⟨_, _, rfl⟩ := hv; rfl
  case pn => rw [show u = _ from hv]; rfl
  case sl => obtain ⟨_, _, rfl⟩ := hv; rfl
  case so => obtain ⟨_, _, _, _, _, rfl⟩ := hv; rfl
  case sn => rw [show u = _ from hv]; rfl
  case vm => obtain ⟨_, _, rfl⟩ := hv; rfl
  case mn => rw [show u = _ from hv]; rfl
  case vf => obtain ⟨_, rfl, _⟩ := hv; rfl
  case fn => rw [show u = _ from hv]; rfl
  case ni => rw [show u = _ from hv]; rfl
theorem VRs.one {φ : Phi} : ∀ {vs : List V} {us : List Value}, vs.all scal = true → VRs φ vs us → ∀ u ∈ us, u.oneCell' = true
  | [], us, _, h, u, hu => by rw [show us = [] from h] at hu; cases hu
  | v :: r, us, hs, ⟨a, t, e, h, l⟩, u, hu => by
    simp only [List.all_cons, Bool.and_eq_true] at hs
    rw [e] at hu
    rcases List.mem_cons.1 hu with rfl | hu
    · exact scal_one hs.1 h
    · exact VRs.one hs.2 l u hu
/-! ### constants -/
mutual
theorem ofV_VR (φ : Phi) : ∀ v : Value, VR φ (ofV v) v
  | .bool _ => rfl
  | .int k (.ofNat n) => by show _ = _; rw [kindK_kindN]
  | .int k (.negSucc n) => by show _ = _; rw [kindK_kindN]
  | .float .. => trivial
  | .complex .. => trivial
  | .string bs => ⟨bs, rfl, rfl, by simp⟩
  | .pointer none => rfl
  | .pointer (some _) => trivial
  | .slice none 0 0 => rfl
  | .slice none (_ + 1) _ => trivial
  | .slice none 0 (_ + 1) => trivial
  | .slice (some _) _ _ => trivial
  | .map none => rfl
  | .map (some _) => trivial
  | .chan _ => trivial
  | .func .. => trivial
  | .nilFunc => rfl
  | .iface .. => trivial
  | .nilIface => rfl
  | .agg ⟨cs⟩ => by
    have h := ofVs_VR φ cs
    unfold ofV
    split
    · rename_i hc
      exact ⟨cs, rfl, h, h.one hc⟩
    · trivial
  | .tuple ⟨cs⟩ => ⟨cs, rfl, ofVs_VR φ cs⟩
theorem ofVs_VR (φ : Phi) : ∀ vs : List Value, VRs φ (ofVs vs) vs
  | [] => rfl
  | v :: r => ⟨v, r, rfl, ofV_VR φ v, ofVs_VR φ r⟩
end
theorem zeroV_some {t : Nat} {z : V} (h : zeroV P t = some z) : ∃ u, (∀ w, (zeroValue t).run P w = .ok u w) ∧ ∀ φ, VR φ z u := by
  unfold zeroV at h
  cases hi : P.info? t with
  | none => rw [hi] at h; cases h
  | some i =>
    rw [hi] at h
    cases hz : i.zero with
    | none => simp [hz] at h
    | some u =>
      simp [hz] at h
      subst h
      exact ⟨u, fun w => by simp [zeroValue, typeInfo, hi, hz], fun φ => ofV_VR φ u⟩
theorem sd_lookup (t : Nat) (x key : Operand) (ok : Bool) : BSpec P (.lookup t x key ok) (cOp0 P (.lookup t x key ok) : BOp R) := by
  refine BSpec.val fun rec e s k r h => ?_
  simp only [cOp0] at h
  split at h
  · rename_i kt el K ht hk
    obtain ⟨kt', el', ht', hK⟩ := keyT_some hk
    rw [ht] at ht'
    injection ht' with ht'
    injection ht' with e1 e2
    subst e1; subst e2
    split at h
    · rename_i z hz
      obtain ⟨zu, hzr, hzv⟩ := zeroV_some hz
      simp only [wO_run] at h
      cases hv : (opd x).get e <;> rw [hv] at h <;> try (cases h; done)
      rename_i b
      obtain ⟨hb, h⟩ := getH_some h
      obtain ⟨es, c, hl, h⟩ := onM_some h
      obtain ⟨hko, h⟩ := onKey_some h
      rw [findC_eq] at h
      have main : ∀ (res : Option (Nat × V × Nat)), findB K ((opd key).get e) es 0 = some res → ∀ (o : Oper), o.op = .lookup t x key ok → ∀ φ a w, (∀ y, y ∈ (Op.lookup t x key ok).operands → OR φ e a y) → HR P φ s.h w →
          ∃ u, (execOp a.eval o).run P w = .ok (.value u) w ∧ VR φ (match res with | none => @Bool.rec (fun _ => V) z (.vt [z, .vb false]) ok | some q => @Bool.rec (fun _ => V) q.2.1 (.vt [q.2.1, .vb true]) ok) u := fun res hres o ho φ a w HO HH => by
        have h1 := HO x (by simp [Op.operands]); unfold OR at h1; rw [hv] at h1
        have h2 := HO key (by simp [Op.operands]); unfold OR at h2
        obtain ⟨y, hy, hu⟩ := h1
        have := HH.at_ b y hy
        rw [hl] at this
        obtain ⟨es', ho', hlen, hrel⟩ := this
        obtain ⟨res', g1, g2⟩ := findKey_run hK h2 es es' res w hlen hrel hres
        have hck := checkKey_run (P := P) hK h2 hko es'.toArray.isEmpty w
        unfold execOp
        rw [ho]
        simp only [hu, Instr.lookup, Sem.run_bind, run_underlying ht, Result.andThen_ok, getObj_map ho', Sem.run_pure, hck, g1]
        cases res with
        | none =>
          cases res' with
          | none =>
            simp only [Sem.run_bind, hzr, Result.andThen_ok, Sem.run_pure]
            cases ok
            · exact ⟨zu, rfl, hzv φ⟩
            · exact ⟨_, rfl, [zu, .bool false], rfl, zu, [.bool false], rfl, hzv φ, .bool false, [], rfl, rfl, rfl⟩
          | some q' => exact g2.elim
        | some q =>
          cases res' with
          | none => exact g2.elim
          | some q' =>
            simp only [Sem.run_bind, Result.andThen_ok, Sem.run_pure]
            obtain ⟨_, hvr, _⟩ := g2
            cases ok
            · exact ⟨q'.2, rfl, hvr⟩
            · exact ⟨_, rfl, [q'.2, .bool true], rfl, q'.2, [.bool true], rfl, hvr, .bool true, [], rfl, rfl, rfl⟩
      cases hf : findB K ((opd key).get e) es 0 with
      | none => rw [hf] at h; cases h
      | some res =>
        rw [hf] at h
        cases res with
        | none => exact ⟨_, h, fun o ho φ a w _ HO HH => main none hf o ho φ a w HO HH⟩
        | some q =>
          obtain ⟨i, v, bn⟩ := q
          exact ⟨_, h, fun o ho φ a w _ HO HH => main (some (i, v, bn)) hf o ho φ a w HO HH⟩
    · cases h
  · cases h
end
end Go.Ev
