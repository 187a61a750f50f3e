
/-
  A range over a map that the loop does not write, in the words of Maps. No program is in sight here.
-/
import Derived.Test.YtlficnfkekggjaaGreatDoorMaps
import Derived.Sort.MapsRangeIn
import Derived.RangeFuncNested
namespace Go.Proofs.YtlficnfkekggjaaGreatDoor
open Go.RowKit Go.MapKept
open Go.ChangeMaps (setBlock heap_setBlock_same heap_setBlock_other)

/-- block b is the map kv, block r an iterator over it; 'left': the entries that are still to come -/
def ItAt {α : Type} (w : World) (enc : α → Value) (b r : Nat) (kv left : List (α × Value)) : Prop :=
  ∃ es clock since seen c0, w.heap[b]? = some (.map es clock) ∧ es.toList.map (·.key) = kv.map (fun x => enc x.1) ∧ es.toList.map (·.val) = kv.map (·.2) ∧ (kv.map (·.1)).Nodup ∧ (∀ x ∈ es.toList, x.born < clock) ∧ (es.toList.map (·.born)).Nodup ∧
    w.heap[r]? = some (.mapIter (some b) since seen c0) ∧ (∀ x ∈ es.toList, x.born < since) ∧ since ≤ c0 ∧ since ≤ clock ∧ left = ((es.toList.zip kv).filter fun p => !seen.contains p.1.born).map (·.2)

section
variable {α : Type} {P : Program} {w w' : World} {enc : α → Value} {b r : Nat} {kv left : List (α × Value)} {t kt et : TypeId}
theorem ItAt.map (h : ItAt w enc b r kv left) : MapAt w enc b kv := by
  obtain ⟨es, clock, since, seen, c0, h1, h2, h3, h4, h5, h6, _⟩ := h
  exact ⟨es, clock, h1, h2, h3, h4, h5, h6⟩
theorem ItAt.ne (h : ItAt w enc b r kv left) : r ≠ b := by
  obtain ⟨es, clock, since, seen, c0, h1, h2, h3, h4, h5, h6, h7, _⟩ := h
  intro e; rw [e, h1] at h7; cases h7
theorem ItAt.lt (h : ItAt w enc b r kv left) : r < w.heap.size := by
  obtain ⟨es, clock, since, seen, c0, h1, h2, h3, h4, h5, h6, h7, _⟩ := h
  exact lt_of_heap h7
theorem ItAt.iter_walk (h : ItAt w enc b r kv left) : ∃ o : Obj, w.heap[r]? = some o ∧ o.isWalk = true := by
  obtain ⟨es, clock, since, seen, c0, h1, h2, h3, h4, h5, h6, h7, _⟩ := h
  exact ⟨_, h7, rfl⟩
theorem ItAt.imp (h : ItAt w enc b r kv left) (hb : w'.heap[b]? = w.heap[b]?) (hr : w'.heap[r]? = w.heap[r]?) : ItAt w' enc b r kv left := by
  obtain ⟨es, clock, since, seen, c0, h1, h2, h3, h4, h5, h6, h7, h8⟩ := h
  exact ⟨es, clock, since, seen, c0, hb.trans h1, h2, h3, h4, h5, h6, hr.trans h7, h8⟩
theorem ItAt.ch {S : List Nat} (h : ItAt w enc b r kv left) (hc : Ch S w w') (hb : b ∉ S) (hr : r ∉ S) : ItAt w' enc b r kv left :=
  h.imp (hc.block b h.map.lt hb) (hc.block r h.lt hr)
theorem ItAt.alloc (h : ItAt w enc b r kv left) (o : Obj) : ItAt (w.alloc o) enc b r kv left := h.ch ((Ch.refl [] w).alloc o) (by simp) (by simp)
theorem ItAt.of_walks (h : ItAt w enc b r kv left) (hk : KeepsWalks w w') : ItAt w' enc b r kv left := by
  obtain ⟨es, clock, since, seen, c0, h1, h2, h3, h4, h5, h6, h7, h8⟩ := h
  exact ⟨es, clock, since, seen, c0, hk.same b _ h1 rfl, h2, h3, h4, h5, h6, hk.same r _ h7 rfl, h8⟩
theorem zip_len {es : Array MapEntry} (hk : es.toList.map (·.key) = kv.map (fun x => enc x.1)) : es.toList.length = kv.length := by simpa using congrArg List.length hk
theorem zip_fst {β γ : Type} : ∀ (l : List β) (m : List γ), l.length = m.length → (l.zip m).map (·.1) = l
  | [], [], _ => rfl
  | x :: l, y :: m, h => by simp only [List.zip_cons_cons, List.map_cons]; rw [zip_fst l m (by simpa using h)]
  | [], _ :: _, h => by simp at h
  | _ :: _, [], h => by simp at h
theorem zip_snd {β γ : Type} : ∀ (l : List β) (m : List γ), l.length = m.length → (l.zip m).map (·.2) = m
  | [], [], _ => rfl
  | x :: l, y :: m, h => by simp only [List.zip_cons_cons, List.map_cons]; rw [zip_snd l m (by simpa using h)]
  | [], _ :: _, h => by simp at h
  | _ :: _, [], h => by simp at h
theorem MapAt.range (h : MapAt w enc b kv) (ht : P.underlying t = some (.map kt et)) :
    ∃ w', (Instr.range t (.map (some b))).run P w = .ok (.pointer (some ⟨w.heap.size, 0, none⟩)) w' ∧ ItAt w' enc b w.heap.size kv kv ∧ Ch [] w w' ∧ w.grownBy w' none ∧ w'.heap.size = w.heap.size + 1 := by
  obtain ⟨es, clock, hb, hk, hv, hn, hbo, hbn⟩ := h
  have hlt := lt_of_heap hb
  refine ⟨_, run_range_map w t kt et b es clock ht hb, ⟨es, clock, clock, #[], clock, (Below.heap_alloc _ _ b hlt).trans hb, hk, hv, hn, hbo, hbn, (MapKept.heap_alloc w _).1, hbo, Nat.le_refl _, Nat.le_refl _, ?_⟩, (Ch.refl [] w).alloc _, World.grownBy_alloc w _ none, by simp⟩
  have : ((es.toList.zip kv).filter fun p => !(#[] : Array Nat).contains p.1.born) = es.toList.zip kv := List.filter_eq_self.2 (by simp)
  rw [this, zip_snd _ _ (zip_len hk)]
theorem filter_one_perm {β : Type} (f : β → Nat) (p : β → Bool) : ∀ (l : List β), (l.map f).Nodup → ∀ e ∈ l, p e = true → (l.filter p).Perm (e :: l.filter fun y => p y && !(f y == f e))
  | x :: l, hn, e, he, hp => by
    simp only [List.map_cons, List.nodup_cons] at hn
    rcases List.mem_cons.1 he with rfl | he'
    · have : (l.filter fun y => p y && !(f y == f e)) = l.filter p := List.filter_congr fun y hy => by
        have : f y ≠ f e := fun h => hn.1 (by rw [← h]; exact List.mem_map.2 ⟨y, hy, rfl⟩)
        simp [this]
      simp [hp, this]
    · have ih := filter_one_perm f p l hn.2 e he' hp
      have hne : f x ≠ f e := fun h => hn.1 (by rw [h]; exact List.mem_map.2 ⟨e, he', rfl⟩)
      by_cases hx : p x = true
      · simp only [List.filter_cons, hx, if_true, Bool.true_and, hne, Bool.not_eq_true', beq_eq_false_iff_ne, ne_eq, not_false_eq_true]
        exact (ih.cons x).trans (List.Perm.swap e x _)
      · simp only [List.filter_cons, hx, Bool.false_and]
        simpa using ih
/-- the step -/
theorem ItAt.next (h : ItAt w enc b r kv left) (ty : TypeId) :
    (left = [] ∧ (Instr.next (.pointer (some ⟨r, 0, none⟩)) false ty).run P w = .ok (.tuple #[.bool false]) w) ∨
    ∃ x left' w', left.Perm (x :: left') ∧ x ∈ kv ∧ (Instr.next (.pointer (some ⟨r, 0, none⟩)) false ty).run P w = .ok (.tuple #[.bool true, enc x.1, x.2]) w' ∧ ItAt w' enc b r kv left' ∧ Ch [r] w w' ∧ w.grownBy w' (some r) ∧ w'.heap.size = w.heap.size ∧
      (Instr.entry (.pointer (some ⟨r, 0, none⟩))).run P w' = .ok (.tuple #[enc x.1, x.2]) w' := by
  have hne := h.ne
  obtain ⟨es, clock, since, seen, c0, hb, hk, hv, hn, hbo, hbn, hr, hold, hsc, hsk, rfl⟩ := h
  have hzl := zip_len hk
  rcases run_next_at (P := P) w ty r b since c0 seen es clock hr hb hold hsc with ⟨h0, hrun⟩ | ⟨e, he, w1, hal, hrun⟩
  · refine .inl ⟨?_, hrun⟩
    have hall := all_seen es seen h0
    rw [List.map_eq_nil_iff, List.filter_eq_nil_iff]
    intro p hp
    rw [hall p.1 (List.of_mem_zip hp).1]; simp
  · obtain ⟨hem, hes⟩ := mem_left he
    obtain ⟨j, hj⟩ := List.mem_iff_getElem?.1 hem
    obtain ⟨x, hx, hek⟩ := ent_of hk hj
    have hev : e.val = x.2 := by
      have h1 : (es.toList.map (·.val))[j]? = some e.val := by rw [List.getElem?_map, hj]; rfl
      rw [hv, List.getElem?_map, hx] at h1
      exact (Option.some.inj h1).symm
    have hzip : (es.toList.zip kv)[j]? = some (e, x) := by rw [List.getElem?_zip_eq_some]; exact ⟨hj, hx⟩
    have hr1 : w1.heap[r]? = some (.mapIter (some b) since seen c0) := by rcases hal with rfl | rfl <;> exact hr
    have hb1 : w1.heap[b]? = some (.map es clock) := by rcases hal with rfl | rfl <;> exact hb
    have hset := heap_set (o' := .mapIter (some b) since (seen.push e.born) clock) hr1
    have hb' : (setBlock w1 r (.mapIter (some b) since (seen.push e.born) clock)).heap[b]? = some (.map es clock) := (hset.2 b (fun e1 => hne e1.symm)).trans hb1
    have hgr : w.grownBy (setBlock w1 r (.mapIter (some b) since (seen.push e.born) clock)) (some r) := by
      rcases hal with rfl | rfl <;> exact ⟨rfl, rfl, rfl, by simp [setBlock], fun i _ hi => hset.2 i (fun e1 => hi (by rw [e1]))⟩
    have hperm := filter_one_perm (fun p : MapEntry × (α × Value) => p.1.born) (fun p => !seen.contains p.1.born) (es.toList.zip kv) (by
      have : (es.toList.zip kv).map (fun p => p.1.born) = es.toList.map (·.born) := by
        have h1 : (es.toList.zip kv).map (fun p => p.1.born) = ((es.toList.zip kv).map (·.1)).map (·.born) := by rw [List.map_map]; rfl
        rw [h1, zip_fst es.toList kv hzl]
      rw [this]; exact hbn) (e, x) (List.mem_of_getElem? hzip) (by simp only [hes, Bool.not_false])
    have hrun2 := run_entry_at (P := P) _ r b since seen es clock e hset.1 hb' hem hbn
    rw [hek, hev] at hrun hrun2
    refine .inr ⟨x, _, _, (hperm.map (·.2)), List.mem_of_getElem? hx, hrun, ⟨es, clock, since, seen.push e.born, clock, hb', hk, hv, hn, hbo, hbn, hset.1, hold, hsk, hsk, ?_⟩, Ch.of_grown hgr, hgr, ?_, hrun2⟩
    · congr 1
      refine List.filter_congr fun p _ => ?_
      rw [contains_push, Bool.not_or]
    · rcases hal with rfl | rfl <;> simp [setBlock]
open Classical in
/-- how many are still to come, read off the world -/
noncomputable def itLeft (_enc : α → Value) (b r : Nat) (w : World) : Nat :=
  match w.heap[b]?, w.heap[r]? with
  | some (.map es _), some (.mapIter _ _ seen _) => (leftOf es seen).size
  | _, _ => 0
theorem filter_zip_len {β γ : Type} (p : β → Bool) : ∀ (l : List β) (m : List γ), l.length = m.length → ((l.zip m).filter fun q => p q.1).length = (l.filter p).length
  | [], [], _ => rfl
  | x :: l, y :: m, h => by
    have ih := filter_zip_len p l m (by simpa using h)
    by_cases hx : p x = true
    · simp [hx, ih]
    · simp [hx, ih]
  | [], _ :: _, h => by simp at h
  | _ :: _, [], h => by simp at h
theorem ItAt.left_eq (h : ItAt w enc b r kv left) : itLeft enc b r w = left.length := by
  obtain ⟨es, clock, since, seen, c0, hb, hk, hv, hn, hbo, hbn, hr, hold, hsc, hsk, rfl⟩ := h
  simp only [itLeft, hb, hr, List.length_map]
  rw [filter_zip_len (fun e : MapEntry => !seen.contains e.born) es.toList kv (zip_len hk)]
  unfold leftOf
  rw [← Array.length_toList, Array.toList_filter]

variable {ops : Array Oper} {rest : List Oper} {o : Oper} {a : Act} {Q : Exit → Act → World → Prop} {F : Fence} {n : Nat}
theorem wpl_range (hg : o.guard = none) (m : Operand) (t : TypeId) (hop : o.op = Op.range t m) (ht : P.underlying t = some (.map kt et)) (hm : a.eval m = .map (some b)) (h : MapAt w enc b kv)
    (hK : ∀ w', ItAt w' enc b w.heap.size kv kv → Ch [] w w' → w.grownBy w' none → w'.heap.size = w.heap.size + 1 → wpList P ops Q rest (a.put o.dst (.pointer (some ⟨w.heap.size, 0, none⟩))) w') : wpList P ops Q (o :: rest) a w := by
  refine wpList_plain hg fun K' hK' => ?_
  obtain ⟨w', hrun, r1, r2, r3, r4⟩ := h.range ht
  unfold Oper.wp
  simp [execOp, hop, hm, hrun, Result.andThen]
  exact hK' _ _ (hK w' r1 r2 r3 r4)
theorem wpl_next (hg : o.guard = none) (it : Operand) (hop : o.op = Op.next it false) (hit : a.eval it = .pointer (some ⟨r, 0, none⟩)) (h : ItAt w enc b r kv left)
    (hDone : left = [] → wpList P ops Q rest (a.put o.dst (.tuple #[.bool false])) w)
    (hMore : ∀ x left' w', left.Perm (x :: left') → x ∈ kv → ItAt w' enc b r kv left' → Ch [r] w w' → w.grownBy w' (some r) → w'.heap.size = w.heap.size → (Instr.entry (.pointer (some ⟨r, 0, none⟩))).run P w' = .ok (.tuple #[enc x.1, x.2]) w' → wpList P ops Q rest (a.put o.dst (.tuple #[.bool true, enc x.1, x.2])) w') :
    wpList P ops Q (o :: rest) a w := by
  refine wpList_plain hg fun K' hK' => ?_
  unfold Oper.wp
  rcases h.next (P := P) o.type with ⟨h0, hrun⟩ | ⟨x, left', w', h1, hx, hrun, h2, h3, h4, h5, h6⟩
  · simp [execOp, hop, hit, hrun, Result.andThen]
    exact hK' _ _ (hDone h0)
  · simp [execOp, hop, hit, hrun, Result.andThen]
    exact hK' _ _ (hMore x left' w' h1 hx h2 h3 h4 h5 h6)
theorem wplIn_range (hg : o.guard = none) (m : Operand) (t : TypeId) (hop : o.op = Op.range t m) (ht : P.underlying t = some (.map kt et)) (hm : a.eval m = .map (some b)) (h : MapAt w enc b kv)
    (hK : ∀ w', ItAt w' enc b w.heap.size kv kv → Ch [] w w' → w.grownBy w' none → w'.heap.size = w.heap.size + 1 → wpListIn F n P ops Q rest (a.put o.dst (.pointer (some ⟨w.heap.size, 0, none⟩))) w') : wpListIn F n P ops Q (o :: rest) a w := by
  refine wpListIn_plain hg fun K' hK' => ?_
  obtain ⟨w', hrun, r1, r2, r3, r4⟩ := h.range ht
  unfold Oper.wpIn
  refine ⟨by simp [Oper.about, hop], ?_⟩
  rw [Oper.semAt_plain F _ _ (by rw [hop]; intro c hc'; cases hc')]
  simp [execOp, hop, hm, hrun, Result.andThen]
  exact hK' _ _ (hK w' r1 r2 r3 r4)
theorem wplIn_next (hg : o.guard = none) (it : Operand) (hop : o.op = Op.next it false) (hit : a.eval it = .pointer (some ⟨r, 0, none⟩)) (h : ItAt w enc b r kv left)
    (hDone : left = [] → wpListIn F n P ops Q rest (a.put o.dst (.tuple #[.bool false])) w)
    (hMore : ∀ x left' w', left.Perm (x :: left') → x ∈ kv → ItAt w' enc b r kv left' → Ch [r] w w' → w.grownBy w' (some r) → w'.heap.size = w.heap.size → (Instr.entry (.pointer (some ⟨r, 0, none⟩))).run P w' = .ok (.tuple #[enc x.1, x.2]) w' → wpListIn F n P ops Q rest (a.put o.dst (.tuple #[.bool true, enc x.1, x.2])) w') :
    wpListIn F n P ops Q (o :: rest) a w := by
  refine wpListIn_plain hg fun K' hK' => ?_
  unfold Oper.wpIn
  refine ⟨by simp [Oper.about, hop], ?_⟩
  rw [Oper.semAt_plain F _ _ (by rw [hop]; intro c hc'; cases hc')]
  rcases h.next (P := P) o.type with ⟨h0, hrun⟩ | ⟨x, left', w', h1, hx, hrun, h2, h3, h4, h5, h6⟩
  · simp [execOp, hop, hit, hrun, Result.andThen]
    exact hK' _ _ (hDone h0)
  · simp [execOp, hop, hit, hrun, Result.andThen]
    exact hK' _ _ (hMore x left' w' h1 hx h2 h3 h4 h5 h6)
end
end Go.Proofs.YtlficnfkekggjaaGreatDoor
