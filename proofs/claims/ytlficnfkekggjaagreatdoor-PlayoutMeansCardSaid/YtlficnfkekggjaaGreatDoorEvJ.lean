
/-
  New blocks and writes: what becomes of the relation.
  Each operation is sound: new variables, new slices and maps, stores.
  Each operation is sound: structs and slices built of parts, new slices.
  Each operation is sound: maps that are written.
-/
import Derived.Test.YtlficnfkekggjaaGreatDoorEvG
import Derived.Great.BuildSlice
import Derived.Laws.MakeOwn
namespace Go.Ev
section
variable {R : Type} {P : Program}
def addPhi (φ : Phi) (b : Nat) (x : Nat × Nat × Nat) : Phi := fun c => if c = b then some x else φ c
theorem addPhi_le {φ : Phi} {b : Nat} {x : Nat × Nat × Nat} (h : φ b = none) : φ.le (addPhi φ b x) := fun c y e => by
  unfold addPhi
  rw [if_neg (fun hc => by rw [hc, h] at e; cases e)]
  exact e
theorem addPhi_at (φ : Phi) (b : Nat) (x : Nat × Nat × Nat) : addPhi φ b x b = some x := if_pos rfl
/-- s behind a new block -/
def newS (s : S) (bl : Blk) : S := ⟨updH s.h s.n bl, s.n + 1, s.w, s.base⟩
theorem fresh_some {s : S} {bl : Blk} {k : Nat → S → Option R} {r : R} (h : fresh s bl k = some r) : s.n < 262144 ∧ k s.n (newS s bl) = some r := by
  unfold fresh at h
  obtain ⟨h1, h⟩ := setH_some h
  rw [natF_eq] at h
  exact ⟨h1, h⟩
theorem newS_abs {s : S} {bl : Blk} (hb : s.base ≤ s.n) (hn : s.n < 262144) : Abs s (newS s bl) where
  n := Nat.le_succ _
  base := rfl
  w := fun _ h => h
  live := fun b hb hm h => by
    unfold newS at h
    simp only [look_upd _ _ hn hm] at h
    rw [if_neg (by omega)] at h
    exact h
  wlive := fun b h k => absurd h k
  same := fun b hb hm _ => by
    unfold newS
    simp only [look_upd _ _ hn hm]
    rw [if_neg (by omega)]
theorem newS_step {s : S} {bl : Blk} {φ : Phi} {w : World} {es N : Nat} {o : Obj} (hn : s.n < 262144) (hφ : φ s.n = none) (H : HR P φ s.h w) (hB : BR P φ es N bl (some o)) :
    Step P φ (addPhi φ s.n (w.heap.size, es, N)) s (newS s bl) w { w with heap := w.heap.push o } where
  ext := addPhi_le hφ
  new := fun b x h k => by
    unfold addPhi at h
    split at h
    · rename_i e; subst e; exact ⟨Nat.le_refl _, Nat.lt_succ_self _⟩
    · rw [k] at h; cases h
  hr := {
    lt := fun b x h => by
      unfold addPhi at h
      split at h
      · rename_i e; subst e; injection h with h; subst h; exact ⟨hn, by simp⟩
      · have := H.lt b x h; exact ⟨this.1, by simp; omega⟩
    at_ := fun b x h => by
      unfold addPhi at h
      split at h
      · rename_i e; subst e; injection h with h; subst h
        unfold newS
        simp only [look_upd _ _ hn hn, if_true]
        simp only [Array.getElem?_push_size]
        exact hB.mono (addPhi_le hφ)
      · rename_i e
        have h1 := H.lt b x h
        unfold newS
        simp only [look_upd _ _ hn h1.1]
        rw [if_neg (fun e' => e e'.symm)]
        have h2 := H.at_ b x h
        have : (w.heap.push o)[x.1]? = w.heap[x.1]? := by rw [Array.getElem?_push]; rw [if_neg (by omega)]
        rw [this]
        exact h2.mono (addPhi_le hφ)
    inj := fun b c x y hb hc hxy lb lc => by
      unfold addPhi at hb hc
      by_cases eb : b = s.n
      · by_cases ec : c = s.n
        · rw [eb, ec]
        · rw [if_pos eb] at hb; rw [if_neg ec] at hc
          injection hb with hb; subst hb
          have := H.lt c y hc
          simp only [] at hxy
          omega
      · rw [if_neg eb] at hb
        have h1 := H.lt b x hb
        by_cases ec : c = s.n
        · rw [if_pos ec] at hc
          injection hc with hc; subst hc
          simp only [] at hxy
          omega
        · rw [if_neg ec] at hc
          have h2 := H.lt c y hc
          unfold newS at lb lc
          simp only [look_upd _ _ hn h1.1, look_upd _ _ hn h2.1] at lb lc
          rw [if_neg (fun e => eb e.symm)] at lb
          rw [if_neg (fun e => ec e.symm)] at lc
          exact H.inj b c x y hb hc hxy lb lc }
  size := by simp
  os := rfl
  tape := rfl
  output := rfl
  frame := fun β hβ _ => by rw [Array.getElem?_push]; rw [if_neg (by omega)]
  old := fun b x h k hlt => by
    unfold addPhi at h
    split at h
    · injection h with h; subst h; simp at hlt
    · rw [k] at h; cases h
/-- s behind a write of block b -/
noncomputable def wrS (s : S) (b : Nat) (bl : Blk) : S := ⟨updH s.h b bl, s.n, wr s.base b s.w, s.base⟩
theorem wrote_some {s : S} {b : Nat} {bl : Blk} {k : S → Option R} {r : R} (h : wrote s b bl k = some r) : b < 262144 ∧ k (wrS s b bl) = some r := setH_some h
theorem memB_eq (b : Nat) : ∀ w : List Nat, memB b w = true ↔ b ∈ w
  | [] => by simp [memB]
  | x :: w => by
    show @Bool.rec (fun _ => Bool) (memB b w) true (Nat.beq x b) = true ↔ _
    rw [natbeq]
    by_cases h : x = b
    · simp [h]
    · rw [decide_eq_false h]
      show memB b w = true ↔ _
      rw [memB_eq b w]
      simp [Ne.symm h]
theorem wr_mem (base b : Nat) (w : List Nat) (c : Nat) : c ∈ wr base b w ↔ c ∈ w ∨ (c = b ∧ b < base) := by
  unfold wr
  cases h : Nat.ble base b with
  | true =>
    have := ble_of h
    simp only []
    exact ⟨.inl, fun h => h.elim id fun h => by omega⟩
  | false =>
    have hlt : b < base := by
      rcases Nat.lt_or_ge b base with h' | h'
      · exact h'
      · rw [Nat.ble_eq_true_of_le h'] at h; cases h
    simp only []
    cases hm : memB b w with
    | true =>
      have := (memB_eq b w).1 hm
      simp only []
      exact ⟨.inl, fun h => h.elim id fun h => h.1 ▸ this⟩
    | false =>
      simp only [List.mem_cons]
      exact ⟨fun h => h.elim (fun h => .inr ⟨h, hlt⟩) .inl, fun h => h.elim .inr fun h => .inl h.1⟩
theorem wrS_abs {s : S} {b : Nat} {bl : Blk} (hb : b < 262144) (hl : look s.h b ≠ .gone) : Abs s (wrS s b bl) where
  n := Nat.le_refl _
  base := rfl
  w := fun c h => (wr_mem _ _ _ _).2 (.inl h)
  live := fun c hc hm h => by
    unfold wrS at h
    simp only [look_upd _ _ hb hm] at h
    split at h
    · rename_i e; subst e; exact hl
    · exact h
  wlive := fun c h k => by
    rcases (wr_mem _ _ _ _).1 h with h | ⟨rfl, h⟩
    · exact absurd h k
    · exact ⟨h, hb, hl⟩
  same := fun c hc hm hn => by
    unfold wrS
    simp only [look_upd _ _ hb hm]
    rw [if_neg (fun (e : b = c) => hn ((wr_mem _ _ _ _).2 (.inr ⟨e.symm, by rw [e]; exact hc⟩)))]
theorem wrS_step {s : S} {b : Nat} {bl : Blk} {φ : Phi} {w w' : World} {x : Nat × Nat × Nat} (hb : φ b = some x) (hl : look s.h b ≠ .gone) (H : HR P φ s.h w)
    (hs : w'.heap.size = w.heap.size) (hos : w'.os = w.os) (ht : w'.tape = w.tape) (hout : w'.output = w.output) (hfar : ∀ β, β ≠ x.1 → w'.heap[β]? = w.heap[β]?) (hB : BR P φ x.2.1 x.2.2 bl w'.heap[x.1]?) :
    Step P φ φ s (wrS s b bl) w w' where
  ext := φ.le_refl
  new := fun c y h k => by rw [h] at k; cases k
  hr := {
    lt := fun c y h => by rw [hs]; exact H.lt c y h
    at_ := fun c y h => by
      have h1 := H.lt c y h
      have h0 := H.lt b x hb
      unfold wrS
      simp only [look_upd _ _ h0.1 h1.1]
      split
      · rename_i e; subst e
        rw [hb] at h; injection h with h; subst h
        exact hB
      · rename_i e
        by_cases hy : y.1 = x.1
        · cases hlk : look s.h c with
          | gone => trivial
          | _ => exact absurd (H.inj b c x y hb h hy.symm hl (by rw [hlk]; simp)) e
        · rw [hfar y.1 hy]
          exact H.at_ c y h
    inj := fun c d y z hc hd hyz lc ld => by
      have h0 := H.lt b x hb
      have h1 := H.lt c y hc
      have h2 := H.lt d z hd
      unfold wrS at lc ld
      simp only [look_upd _ _ h0.1 h1.1, look_upd _ _ h0.1 h2.1] at lc ld
      refine H.inj c d y z hc hd hyz ?_ ?_
      · split at lc
        · rename_i e; subst e; exact hl
        · exact lc
      · split at ld
        · rename_i e; subst e; exact hl
        · exact ld }
  size := by omega
  os := hos
  tape := ht
  output := hout
  frame := fun β hβ hall => by
    by_cases e : β = x.1
    · have := hall b x hb e.symm
      exact absurd ((wr_mem _ _ _ _).2 (.inr ⟨rfl, this.1⟩)) this.2
    · exact hfar β e
  old := fun c y h k _ => by rw [h] at k; cases k
/-! ### cells laid one after another -/
def setL (arr : Array Value) (o : Nat) : List Value → Array Value
  | [] => arr
  | v :: r => setL (arr.setIfInBounds o v) (o + 1) r
theorem setL_size : ∀ (l : List Value) (arr : Array Value) (o : Nat), (setL arr o l).size = arr.size
  | [], _, _ => rfl
  | v :: r, arr, o => by unfold setL; rw [setL_size r]; simp
theorem setL_at : ∀ (l : List Value) (arr : Array Value) (o i : Nat), o + l.length ≤ arr.size → (setL arr o l)[i]? = if o ≤ i ∧ i < o + l.length then l[i - o]? else arr[i]?
  | [], arr, o, i, _ => by rw [if_neg (by simp)]; rfl
  | v :: r, arr, o, i, h => by
    simp only [List.length_cons] at h
    unfold setL
    rw [setL_at r _ (o + 1) i (by simp; omega)]
    by_cases h1 : o + 1 ≤ i ∧ i < o + 1 + r.length
    · rw [if_pos h1, if_pos (by simp; omega)]
      obtain ⟨m, hm⟩ : ∃ m, i - o = m + 1 := ⟨i - o - 1, by omega⟩
      rw [hm, show i - (o + 1) = m by omega]; rfl
    · rw [if_neg h1]
      by_cases h2 : o = i
      · subst h2
        rw [if_pos (by simp)]
        simp [show o < arr.size by omega]
      · rw [if_neg (by simp; omega)]
        simp [h2]
theorem heap_setCells : ∀ (l : List Value) (w : World) (β o : Nat) (arr : Array Value) (ty : TypeId) (fr : Nat × Nat), w.heap[β]? = some (.cells arr ty fr) →
    (w.setCells β o l).heap[β]? = some (.cells (setL arr o l) ty fr) ∧ (∀ γ, γ ≠ β → (w.setCells β o l).heap[γ]? = w.heap[γ]?) ∧ (w.setCells β o l).heap.size = w.heap.size ∧
      (w.setCells β o l).os = w.os ∧ (w.setCells β o l).tape = w.tape ∧ (w.setCells β o l).output = w.output
  | [], w, β, o, arr, ty, fr, h => ⟨h, fun _ _ => rfl, rfl, rfl, rfl, rfl⟩
  | v :: r, w, β, o, arr, ty, fr, h => by
    have h1 : (w.setCell ⟨β, o, none⟩ v).heap[β]? = some (.cells (arr.setIfInBounds o v) ty fr) := by
      unfold World.setCell
      simp only [Array.getElem?_modify, if_true, h, Option.map_some]
      rfl
    obtain ⟨a1, a2, a3, a4, a5, a6⟩ := heap_setCells r (w.setCell ⟨β, o, none⟩ v) β (o + 1) _ ty fr h1
    refine ⟨a1, fun γ hγ => ?_, ?_, a4, a5, a6⟩
    · show ((w.setCell ⟨β, o, none⟩ v).setCells β (o + 1) r).heap[γ]? = _
      rw [a2 γ hγ]
      unfold World.setCell
      simp only [Array.getElem?_modify]
      rw [if_neg (fun e => hγ e.symm)]
    · show ((w.setCell ⟨β, o, none⟩ v).setCells β (o + 1) r).heap.size = _
      rw [a3]
      unfold World.setCell
      simp
theorem frozen_row {w : World} {β : Nat} {arr : Array Value} {ty : TypeId} {lo hi : Nat} (h : w.heap[β]? = some (.cells arr ty (lo, hi))) {fz o : Nat} (hf : (lo = 0 ∧ hi = 0) ∨ (0 < fz ∧ hi ≤ fz)) (ho : fz ≤ o) : w.frozen? ⟨β, o, none⟩ = false := by
  unfold World.frozen?
  simp only [h]
  rcases hf with ⟨rfl, rfl⟩ | ⟨_, hf⟩
  · simp
  · simp; omega
/-- storing values that fill one cell each -/
theorem storeC_some {s : S} {b o : Nat} {vs : List V} {k : S → Option R} {r : R} (h : storeC s b o vs k = some r) :
    ∃ bl, Abs s (wrS s b bl) ∧ k (wrS s b bl) = some r ∧ ∀ φ w x us, HR P φ s.h w → φ b = some x → VRs φ vs us → (∀ u ∈ us, u.oneCell' = true) →
      w.there x.1 o us.length ∧ Step P φ φ s (wrS s b bl) w (w.setCells x.1 o us) := by
  unfold storeC at h
  obtain ⟨hb, h⟩ := getH_some h
  obtain ⟨ty, n, fz, pg, hl, h⟩ := onC_some h
  obtain ⟨h1, h⟩ := iff_some h
  obtain ⟨h2, h⟩ := iff_some h
  rw [setsP_eq] at h
  obtain ⟨_, h⟩ := wrote_some h
  have h1 := ble_of h1
  have h2 := ble_of h2
  rw [lenN_eq] at h1
  have hlive : look s.h b ≠ .gone := by rw [hl]; simp
  refine ⟨_, wrS_abs hb hlive, h, fun φ w x us HH hx hv hone => ?_⟩
  have hlen := hv.len
  have := HH.at_ b x hx
  rw [hl] at this
  obtain ⟨arr, lo, hi, ho, hsz, hes, hN, hfz, hc⟩ := this
  obtain ⟨a1, a2, a3, a4, a5, a6⟩ := heap_setCells us w x.1 o arr ty (lo, hi) ho
  have h1' : o + vs.length ≤ n := h1
  constructor
  · intro j hj
    constructor
    · rw [cell_row ho, Array.getElem?_eq_getElem (by omega)]; rfl
    · exact frozen_row ho hfz (by omega)
  · refine wrS_step hx hlive HH a3 a4 a5 a6 a2 ?_
    rw [a1]
    refine ⟨setL arr o us, lo, hi, rfl, by rw [setL_size]; exact hsz, hes, hN, hfz, fun i hi' => ?_⟩
    rw [setL_at us arr o i (by omega), cell_upds]
    by_cases hr : o ≤ i ∧ i < o + vs.length
    · rw [if_pos (by omega), if_pos hr]
      obtain ⟨v, hv1⟩ : ∃ v, vs[i - o]? = some v := ⟨_, List.getElem?_eq_getElem (by omega)⟩
      obtain ⟨u, hu1, hu2⟩ := hv.at_ hv1
      exact ⟨u, hu1, by rw [hv1]; exact hu2, hone u (List.mem_of_getElem? hu1)⟩
    · rw [if_neg (by omega), if_neg hr]
      exact hc i hi'
end
end Go.Ev
namespace Go.Ev
section
variable {R : Type} {P : Program}
/-- OpSd of an operation whose run yields a value -/
theorem OpSd.run {op : Op} {e : E4} {s s' : S} {v : V}
    (h : ∀ (o : Oper), o.op = op → ∀ φ a w, (∀ b, s.n ≤ b → φ b = none) → Glob φ → (∀ x, x ∈ op.operands → OR φ e a x) → HR P φ s.h w →
      ∃ u w' φ', (execOp a.eval o).run P w = .ok (.value u) w' ∧ VR φ' v u ∧ Step P φ φ' s s' w w') : OpSd P op e s v s' := by
  intro o ho φ a w K Q hf hg hx hr hK
  obtain ⟨u, w', φ', h1, h2, h3⟩ := h o ho φ a w hf hg hx hr
  unfold Oper.wp
  rw [h1]
  exact hK φ' u w' h3 h2
/-- a row of cells: a new block -/
theorem row_some {s : S} {ty n : Nat} {cs : List V} {k : Nat → S → Option R} {r : R} (hb : s.base ≤ s.n) (hn : n = cs.length) (h : row s ty n cs k = some r) :
    ∃ bl, Abs s (newS s bl) ∧ k s.n (newS s bl) = some r ∧ ∀ φ w us, φ s.n = none → HR P φ s.h w → VRs φ cs us → (∀ u ∈ us, u.oneCell' = true) →
      Step P φ (addPhi φ s.n (w.heap.size, P.cellsOf ty, us.length)) s (newS s bl) w { w with heap := w.heap.push (.cells us.toArray ty) } := by
  unfold row at h
  obtain ⟨pg, h, hp⟩ := mkP_some h
  obtain ⟨hlt, h⟩ := fresh_some h
  refine ⟨_, newS_abs hb hlt, h, fun φ w us hφ HH hv hone => newS_step hlt hφ HH ⟨us.toArray, 0, 0, rfl, by simp, rfl, ?_, .inl ⟨rfl, rfl⟩, fun i hi => ?_⟩⟩
  · rw [hn, hv.len]; exact Nat.le_refl _
  · rw [hn] at hi
    obtain ⟨u, h1, h2⟩ := hv.at_ (hp i hi)
    exact ⟨u, by simpa using h1, h2, hone u (List.mem_of_getElem? h1)⟩
/-- a row that is longer than what is known of it -/
theorem row_some' {s : S} {ty n : Nat} {cs : List V} {k : Nat → S → Option R} {r : R} (hb : s.base ≤ s.n) (hn : n = cs.length) (h : row s ty n cs k = some r) :
    ∃ bl, Abs s (newS s bl) ∧ k s.n (newS s bl) = some r ∧ ∀ φ w us (rest : List Value), φ s.n = none → HR P φ s.h w → VRs φ cs us → (∀ u ∈ us, u.oneCell' = true) →
      Step P φ (addPhi φ s.n (w.heap.size, P.cellsOf ty, us.length + rest.length)) s (newS s bl) w { w with heap := w.heap.push (.cells (us ++ rest).toArray ty) } := by
  unfold row at h
  obtain ⟨pg, h, hp⟩ := mkP_some h
  obtain ⟨hlt, h⟩ := fresh_some h
  refine ⟨_, newS_abs hb hlt, h, fun φ w us rest hφ HH hv hone => newS_step hlt hφ HH ⟨(us ++ rest).toArray, 0, 0, rfl, by simp, rfl, ?_, .inl ⟨rfl, rfl⟩, fun i hi => ?_⟩⟩
  · rw [hn, ← hv.len]; omega
  · rw [hn] at hi
    obtain ⟨u, h1, h2⟩ := hv.at_ (hp i hi)
    have hi' : i < us.length := by have := hv.len; omega
    exact ⟨u, by simp [List.getElem?_append_left hi', h1], h2, hone u (List.mem_of_getElem? h1)⟩
/-- the cells of what can be stored -/
theorem onCs_some {v : V} {k : List V → Option R} {r : R} (h : onCs v k = some r) : ∃ cs, k cs = some r ∧ ∀ φ u, VR φ v u → VRs φ cs u.cells.toList ∧ ∀ x ∈ u.cells.toList, x.oneCell' = true := by
  have one : ∀ {v : V}, scal v = true → ∀ φ u, VR φ v u → VRs φ [v] u.cells.toList ∧ ∀ x ∈ u.cells.toList, x.oneCell' = true := fun {v} hs φ u hv => by
    have h1 := scal_one hs hv
    have : u.cells = #[u] := by cases u <;> first | rfl | cases h1
    rw [this]
    exact ⟨⟨u, [], rfl, hv, rfl⟩, fun x hx => by simp at hx; rw [hx]; exact h1⟩
  cases v with
  | va cs => exact ⟨cs, h, fun φ u ⟨us, e, hus, ho⟩ => by rw [e]; exact ⟨by simpa [Value.cells] using hus, by simpa [Value.cells] using ho⟩⟩
  | vt _ => cases h
  | unk => cases h
  | _ => exact ⟨_, h, one rfl⟩
theorem zeroL_info {t : Nat} {z : List V} (h : zeroL P t = some z) : ∃ i u, P.info? t = some i ∧ i.zero = some u ∧ ∀ φ, VRs φ z u.cells.toList ∧ ∀ x ∈ u.cells.toList, x.oneCell' = true := by
  unfold zeroL at h
  cases hi : P.info? t with
  | none => rw [hi] at h; cases h
  | some i =>
    rw [hi] at h
    cases hz : i.zero with
    | none => simp [hz] at h
    | some u =>
      simp only [Option.bind_some, hz] at h
      refine ⟨i, u, rfl, hz, fun φ => ?_⟩
      have hv := ofV_VR φ u
      have one : ∀ {v : V}, scal v = true → VR φ v u → VRs φ [v] u.cells.toList ∧ ∀ x ∈ u.cells.toList, x.oneCell' = true := fun {v} hs hv => by
        have h1 := scal_one hs hv
        have : u.cells = #[u] := by cases u <;> first | rfl | cases h1
        rw [this]
        exact ⟨⟨u, [], rfl, hv, rfl⟩, fun x hx => by simp at hx; rw [hx]; exact h1⟩
      split at h
      · rename_i cs he
        injection h with h; subst h
        rw [he] at hv
        obtain ⟨us, e, hus, ho⟩ := hv
        rw [e]
        exact ⟨by simpa [Value.cells] using hus, by simpa [Value.cells] using ho⟩
      · split at h
        · rename_i hs
          injection h with h; subst h
          exact one hs hv
        · cases h
theorem zeroL_some {t : Nat} {z : List V} (h : zeroL P t = some z) : ∃ u, (∀ w, (zeroValue t).run P w = .ok u w) ∧ ∀ φ, VRs φ z u.cells.toList ∧ ∀ x ∈ u.cells.toList, x.oneCell' = true := by
  obtain ⟨i, u, hi, hz, H⟩ := zeroL_info h
  exact ⟨u, fun w => by simp [zeroValue, typeInfo, hi, hz], H⟩
theorem push_alloc (w : World) (o : Obj) : ({ w with heap := w.heap.push o } : World) = w.alloc o := rfl
theorem sd_alloc (t : Nat) : BSpec P (.alloc t) (cOp0 P (.alloc t) : BOp R) := by
  intro rec hrec e s k r hb h
  simp only [cOp0] at h
  split at h
  · rename_i z hz
    simp only [natC_eq, lenN_eq] at h
    obtain ⟨u, hzr, hzv⟩ := zeroL_some hz
    obtain ⟨bl, ha, h, H⟩ := row_some (P := P) hb rfl h
    refine ⟨_, _, OpSd.run fun o ho φ a w hf hg _ HH => ?_, ha, h⟩
    have hs := H φ w _ (hf s.n (Nat.le_refl _)) HH (hzv φ).1 (hzv φ).2
    refine ⟨_, _, _, ?_, ⟨_, addPhi_at _ _ _, rfl⟩, hs⟩
    unfold execOp
    rw [ho]
    simp only [Instr.alloc, Sem.run_bind, hzr, Result.andThen_ok, newVar, newRow, newObj]
    simp [Sem.run]
  · cases h
theorem sd_box (t : Nat) (x : Operand) : BSpec P (.box t x) (cOp0 P (.box t x) : BOp R) := by
  intro rec hrec e s k r hb h
  simp only [cOp0, wO_run] at h
  obtain ⟨cs, h, hcs⟩ := onCs_some h
  rw [natF_eq, lenN_eq] at h
  obtain ⟨bl, ha, h, H⟩ := row_some (P := P) hb rfl h
  refine ⟨_, _, OpSd.run fun o ho φ a w hf hg HO HH => ?_, ha, h⟩
  obtain ⟨h1, h2⟩ := hcs φ _ (HO x (by simp [Op.operands]))
  have hs := H φ w _ (hf s.n (Nat.le_refl _)) HH h1 h2
  refine ⟨_, _, _, ?_, ⟨_, addPhi_at _ _ _, rfl⟩, hs⟩
  unfold execOp
  rw [ho]
  simp only [Instr.box, newVar, newRow, newObj]
  simp [Sem.run]
theorem sd_makeMap (t : Nat) : BSpec P (.makeMap t none) (cOp0 P (.makeMap t none) : BOp R) := by
  intro rec hrec e s k r hb h
  simp only [cOp0] at h
  obtain ⟨hlt, h⟩ := fresh_some h
  refine ⟨_, _, OpSd.run fun o ho φ a w hf hg HO HH => ?_, newS_abs hb hlt, h⟩
  have hs := newS_step (P := P) (es := 0) (N := 0) (o := .map #[] 0) (bl := .mp [] 0) hlt (hf s.n (Nat.le_refl _)) HH ⟨[], rfl, rfl, fun i x y hx => by simp at hx⟩
  refine ⟨_, _, _, ?_, ⟨_, addPhi_at _ _ _, rfl⟩, hs⟩
  unfold execOp
  rw [ho]
  simp only [Option.map_none, Instr.makeMap, newObj]
  simp [Sem.run]
/-! ### stores -/
theorem cellsOf_info {t n : Nat} (h : P.cellsOf t = n) (hn : n ≠ 0) : (P.info? t).map (·.size) = some n := by
  have := info_of_cells (P := P) (t := t) (by omega)
  obtain ⟨i, hi⟩ := Option.isSome_iff_exists.1 this
  rw [hi, ← h, cellsOf_some hi]; rfl
theorem run_storeAny {t β o : Nat} {u : Value} {w : World} (ht : w.there β o u.cells.toList.length) (hi : (P.info? t).map (·.size) = some u.cells.toList.length) (h1 : ∀ x ∈ u.cells.toList, x.oneCell' = true) :
    (Instr.storeAt t (.pointer (some ⟨β, o, none⟩)) u).run P w = .ok () (w.setCells β o u.cells.toList) := by
  have := run_storeCells_cells (P := P) β o u.cells.toList 0 w (fun j hj => by simpa using (ht j hj).1) (fun j hj => by simpa using (ht j hj).2) h1
  cases hq : P.info? t with
  | none => simp [hq] at hi
  | some i =>
    have hs : u.cells.size = i.size := by simp [hq] at hi; omega
    simp only [Nat.add_zero] at this
    simp [Instr.storeAt, Instr.sureAddr, storeVar, sizeOf, typeInfo, hq, hs, this]
theorem OpSd.skip {op : Op} {e : E4} {s s' : S}
    (h : ∀ (o : Oper), o.op = op → ∀ φ a w, (∀ b, s.n ≤ b → φ b = none) → Glob φ → (∀ x, x ∈ op.operands → OR φ e a x) → HR P φ s.h w →
      ∃ w' φ', (execOp a.eval o).run P w = .ok .skip w' ∧ Step P φ φ' s s' w w') : OpSd P op e s (.vt []) s' := by
  intro o ho φ a w K Q hf hg hx hr hK
  obtain ⟨w', φ', h1, h3⟩ := h o ho φ a w hf hg hx hr
  unfold Oper.wp
  rw [h1]
  exact hK φ' undef w' h3 ⟨[], rfl, rfl⟩
theorem sd_store (t : Nat) (x y : Operand) : BSpec P (.store t x y) (cOp0 P (.store t x y) : BOp R) := by
  intro rec hrec e s k r hb h
  simp only [cOp0, wO_run, natC_eq] at h
  cases hz : Nat.beq (P.cellsOf t) 0 with
  | true => rw [hz] at h; cases h
  | false =>
    rw [hz] at h
    simp only [] at h
    obtain ⟨b, o', hv, h⟩ := onP_some h
    obtain ⟨cs, h, hcs⟩ := onCs_some h
    obtain ⟨hl, h⟩ := iff_some h
    rw [lenN_eq] at hl
    have hl := beq_of hl
    obtain ⟨bl, ha, h, H⟩ := storeC_some (P := P) h
    refine ⟨_, _, OpSd.skip fun o ho φ a w hf hg HO HH => ?_, ha, h⟩
    have h1 := HO x (by simp [Op.operands]); unfold OR at h1; rw [hv] at h1
    obtain ⟨z, hz1, hu⟩ := h1
    obtain ⟨h2, h3⟩ := hcs φ _ (HO y (by simp [Op.operands]))
    obtain ⟨g1, g2⟩ := H φ w z _ HH hz1 h2 h3
    refine ⟨_, _, ?_, g2⟩
    have hlen := h2.len
    unfold execOp
    rw [ho]
    simp only [hu, Sem.run_bind]
    rw [run_storeAny g1 (by rw [hlen, hl]; exact cellsOf_info rfl (ne_of_nbeq hz)) h3]
    rfl
end
end Go.Ev
namespace Go.Ev
section
variable {R : Type} {P : Program}
theorem foldl_setL (off : Nat) : ∀ (l : List Value) (n : Nat) (arr : Array Value), (l.zipIdx n).foldl (fun cs x => cs.setIfInBounds (off + x.2) x.1) arr = setL arr (off + n) l
  | [], _, _ => rfl
  | v :: r, n, arr => by
    simp only [List.zipIdx_cons, List.foldl_cons]
    rw [foldl_setL off r (n + 1)]
    rfl
theorem splice_VR {φ : Phi} {c : List V} {cells : Array Value} {off : Nat} {vs : List V} {us : List Value} (hc : VRs φ c cells.toList) (hv : VRs φ vs us) (h : off + vs.length ≤ c.length) :
    VRs φ (spliceL c off vs) (setL cells off us).toList := by
  have h1 := hc.len
  have h2 := hv.len
  have h3 : cells.size = c.length := by simpa using h1
  refine VRs.mk ?_ fun i v u hi hu => ?_
  · simp only [Array.length_toList, setL_size, spliceL, List.length_append, List.length_take, List.length_drop]
    omega
  · rw [Array.getElem?_toList, setL_at us cells off i (by omega)] at hu
    unfold spliceL at hi
    by_cases hr : off ≤ i ∧ i < off + us.length
    · rw [if_pos hr] at hu
      rw [List.append_assoc, List.getElem?_append_right (by simp; omega)] at hi
      rw [List.getElem?_append_left (by simp; omega)] at hi
      simp only [List.length_take] at hi
      rw [show i - min off c.length = i - off by omega] at hi
      obtain ⟨u', a1, a2⟩ := hv.at_ hi
      rw [hu] at a1; injection a1 with a1; subst a1
      exact a2
    · rw [if_neg hr] at hu
      have hci : c[i]? = some v := by
        by_cases hlt : i < off
        · rw [List.append_assoc, List.getElem?_append_left (by simp; omega)] at hi
          rw [List.getElem?_take] at hi
          rw [if_pos hlt] at hi
          exact hi
        · rw [List.getElem?_append_right (by simp; omega)] at hi
          simp only [List.length_append, List.length_take, List.getElem?_drop] at hi
          rw [show off + vs.length + (i - (min off c.length + vs.length)) = i by omega] at hi
          exact hi
      obtain ⟨u', a1, a2⟩ := hc.at_ hci
      rw [Array.getElem?_toList, hu] at a1; injection a1 with a1; subst a1
      exact a2
theorem setL_one : ∀ (us : List Value) (cells : Array Value) (off : Nat), (∀ x ∈ cells.toList, x.oneCell' = true) → (∀ x ∈ us, x.oneCell' = true) → ∀ x ∈ (setL cells off us).toList, x.oneCell' = true
  | [], _, _, h, _ => h
  | v :: r, cells, off, h, k => by
    unfold setL
    refine setL_one r _ (off + 1) (fun x hx => ?_) fun x hx => k x (by simp [hx])
    simp only [Array.toList_setIfInBounds] at hx
    rcases List.mem_or_eq_of_mem_set hx with h1 | h1
    · exact h x h1
    · rw [h1]; exact k v (by simp)
theorem fillL_some {pl : Nat → Option (Nat × Nat)} {e : E4} : ∀ (parts : List (Nat × Operand)) (c : List V) (k : List V → Option R) (r : R), fillL pl e parts c k = some r →
    ∃ c', k c' = some r ∧ c'.length = c.length ∧ ∀ φ a cells, (∀ p ∈ parts, OR φ e a p.2) → VRs φ c cells.toList → (∀ x ∈ cells.toList, x.oneCell' = true) →
      ∃ cells', Instr.fill pl cells (parts.map fun p => (p.1, a.eval p.2)) = some cells' ∧ VRs φ c' cells'.toList ∧ ∀ x ∈ cells'.toList, x.oneCell' = true
  | [], c, k, r, h => ⟨c, h, rfl, fun φ a cells _ hc ho => ⟨cells, rfl, hc, ho⟩⟩
  | (i, x) :: rest, c, k, r, h => by
    unfold fillL at h
    cases hp : pl i with
    | none => rw [hp] at h; cases h
    | some q =>
      obtain ⟨off, size⟩ := q
      rw [hp] at h
      simp only [] at h
      obtain ⟨vs, h, hvs⟩ := onCs_some h
      obtain ⟨h1, h⟩ := iff_some h
      obtain ⟨h2, h⟩ := iff_some h
      rw [lenN_eq] at h1 h2
      have h1 := beq_of h1
      have h2 := ble_of h2
      obtain ⟨c', g1, g2, g3⟩ := fillL_some rest _ k r h
      refine ⟨c', g1, ?_, fun φ a cells HO hc ho => ?_⟩
      · rw [g2]; simp only [spliceL, List.length_append, List.length_take, List.length_drop]; omega
      · obtain ⟨w1, w2⟩ := hvs φ _ (HO (i, x) (by simp))
        have hl := w1.len
        have hcl := hc.len
        have hsz : (a.eval x).cells.size = size := by simpa [h1] using hl
        have hcs : cells.size = c.length := by simpa using hcl
        obtain ⟨cells', f1, f2, f3⟩ := g3 φ a (setL cells off (a.eval x).cells.toList) (fun p hp => HO p (by simp [hp])) (splice_VR hc w1 (by omega)) (setL_one _ _ _ ho w2)
        refine ⟨cells', ?_, f2, f3⟩
        simp only [List.map_cons, Instr.fill, hp]
        rw [if_neg (by simp [hsz]; omega)]
        rw [← f1]
        congr 1
        rw [← Array.foldl_toList]
        have := foldl_setL off (a.eval x).cells.toList 0 cells
        simp only [Nat.add_zero] at this
        rw [← this]
        simp
theorem sd_build (t : Nat) (parts : Array (Nat × Operand)) : BSpec P (.build t parts) (cOp0 P (.build t parts) : BOp R) := by
  refine BSpec.val fun rec e s k r h => ?_
  simp only [cOp0] at h
  split at h
  · rename_i z pl hz hpl
    obtain ⟨it, zu, hi, hzu, hzv⟩ := zeroL_info hz
    obtain ⟨c', g1, _, g3⟩ := fillL_some parts.toList z _ r h
    refine ⟨_, g1, fun o ho φ a w _ HO _ => ?_⟩
    obtain ⟨cells', f1, f2, f3⟩ := g3 φ a zu.cells (fun p hp => HO p.2 (by simp [Op.operands]; exact ⟨p.1, by simpa using hp⟩)) (hzv φ).1 (hzv φ).2
    refine ⟨.agg cells', ?_, cells'.toList, by simp, f2, f3⟩
    unfold execOp
    rw [ho]
    have hb : P.built t (parts.map fun x => (x.1, a.eval x.2)).toList = some cells' := by
      unfold placesOf at hpl
      unfold Program.built
      split at hpl
      · rename_i fs hu
        split at hpl
        · rename_i places hp
          injection hpl with hpl; subst hpl
          simp only [hi, hu, hzu, hp]
          rw [← f1]; simp
        · cases hpl
      · rename_i m el hu
        split at hpl
        · rename_i ie hie
          injection hpl with hpl; subst hpl
          simp only [hi, hu, hzu, hie]
          rw [← f1]; simp
        · cases hpl
      · cases hpl
    simp only [Sem.run_bind, run_build w t _ cells' hb, Result.andThen_ok, Sem.run_pure]
  · cases h
theorem repL_len (z : List V) : ∀ n, (repL z n).length = n * z.length
  | 0 => by simp [repL]
  | n + 1 => by simp [repL, repL_len z n, Nat.add_mul]; omega
theorem repL_at (z : List V) : ∀ (n i : Nat), i < n * z.length → (repL z n)[i]? = z[i % z.length]?
  | 0, i, h => by omega
  | n + 1, i, h => by
    unfold repL
    by_cases hi : i < z.length
    · rw [List.getElem?_append_left hi, Nat.mod_eq_of_lt hi]
    · rw [List.getElem?_append_right (by omega), repL_at z n (i - z.length) (by rw [Nat.add_mul] at h; omega)]
      rw [Nat.mod_eq_sub_mod (by omega : i ≥ z.length)]
/-- a zero value many times -/
theorem rep_VR {φ : Phi} {z : List V} {zu : Value} (h : VRs φ z zu.cells.toList) (h1 : ∀ x ∈ zu.cells.toList, x.oneCell' = true) (n m : Nat) (hm : m = n * zu.cells.size) (h0 : 0 < zu.cells.size) :
    VRs φ (repL z n) ((Array.range m).map (zu.cells[· % zu.cells.size]!)).toList ∧ ∀ x ∈ ((Array.range m).map (zu.cells[· % zu.cells.size]!)).toList, x.oneCell' = true := by
  have hl : zu.cells.size = z.length := by simpa using h.len
  have at_ : ∀ i u, ((Array.range m).map (zu.cells[· % zu.cells.size]!)).toList[i]? = some u → i < m ∧ zu.cells.toList[i % z.length]? = some u := fun i u hu => by
    have hi : i < m := by have := (List.getElem?_eq_some_iff.1 hu).1; simpa using this
    refine ⟨hi, ?_⟩
    have hlt : i % zu.cells.size < zu.cells.size := Nat.mod_lt _ h0
    rw [Array.getElem?_toList] at hu ⊢
    simp only [Array.getElem?_map, Array.getElem?_range, hi, if_true, Option.map_some, Option.some.injEq] at hu
    rw [← hl, Array.getElem?_eq_getElem hlt, ← hu]
    simp [hlt]
  refine ⟨VRs.mk (by simp [repL_len, hm, hl]) fun i v u hv hu => ?_, fun x hx => ?_⟩
  · obtain ⟨hi, hu⟩ := at_ i u hu
    rw [repL_at z n i (by rw [← hl, ← hm]; exact hi)] at hv
    obtain ⟨u', a1, a2⟩ := h.at_ hv
    rw [hu] at a1; injection a1 with a1; subst a1
    exact a2
  · obtain ⟨i, hi⟩ := List.getElem?_of_mem hx
    exact h1 x (List.mem_of_getElem? (at_ i x hi).2)
theorem sd_buildSlice (t len : Nat) (parts : Array (Nat × Operand)) : BSpec P (.buildSlice t len parts) (cOp0 P (.buildSlice t len parts) : BOp R) := by
  intro rec hrec e s k r hb h
  simp only [cOp0] at h
  split at h
  · rename_i el hu
    split at h
    · rename_i hem
      split at h
      · rename_i it hi
        have h : row s el 0 [] (fun b s => k (.sl b 0 0 0) s) = some r := h
        have hlp : len = 0 ∧ parts = #[] := by
          obtain ⟨l⟩ := parts
          simp only [] at hem
          unfold emptyB at hem
          split at hem
          · exact ⟨rfl, rfl⟩
          · cases hem
        obtain ⟨rfl, rfl⟩ := hlp
        obtain ⟨bl, ha, g1, H⟩ := row_some (P := P) hb rfl h
        refine ⟨_, _, OpSd.run fun o ho φ a w hf hg HO HH => ?_, ha, g1⟩
        have hs := H φ w [] (hf s.n (Nat.le_refl _)) HH rfl (fun _ h => by cases h)
        refine ⟨_, _, _, ?_, ⟨_, addPhi_at _ _ _, rfl⟩, hs⟩
        unfold execOp
        rw [ho]
        simp [Instr.buildSlice, run_underlying hu, sizeOf, typeInfo, hi, Instr.fill, newRow]
        have he : Array.map (fun _ : Nat => (default : Value)) (Array.range 0) = #[] := by apply Array.eq_empty_of_size_eq_zero; simp
        exact congrArg (fun c => w.alloc (Obj.cells c el)) he
      · cases h
    · split at h
      · rename_i z hz
        simp only [natC_eq, lenN_eq] at h
        cases hc : and (Nat.ble (Nat.mul len z.length) 65536) (and (Nat.ble 1 (Nat.mul len z.length)) (Nat.beq z.length (P.cellsOf el))) with
        | false => rw [hc] at h; cases h
        | true =>
          rw [hc] at h
          simp only [Bool.and_eq_true] at hc
          obtain ⟨c1, c2, c3⟩ := hc
          have c1 : len * z.length ≤ 65536 := ble_of c1
          have c2 : 1 ≤ len * z.length := ble_of c2
          have c3 : z.length = P.cellsOf el := beq_of c3
          obtain ⟨it, zu, hi, hzu, hzv⟩ := zeroL_info hz
          have hzs : zu.cells.size = z.length := by have := (hzv fun _ => none).1.len; simpa using this
          have his : it.size = z.length := by rw [c3, cellsOf_some hi]
          have hpos : 0 < zu.cells.size := by
            rw [hzs]
            rcases Nat.eq_zero_or_pos z.length with h0 | h0
            · rw [h0] at c2; omega
            · exact h0
          obtain ⟨c', g1, g2, g3⟩ := fillL_some parts.toList (repL z len) _ r h
          obtain ⟨bl, ha, g1, H⟩ := row_some (P := P) hb (by rw [g2, repL_len]; rfl) g1
          refine ⟨_, _, OpSd.run fun o ho φ a w hf hg HO HH => ?_, ha, g1⟩
          obtain ⟨r1, r2⟩ := rep_VR (hzv φ).1 (hzv φ).2 len (len * it.size) (by rw [his, hzs]) hpos
          obtain ⟨cells', f1, f2, f3⟩ := g3 φ a _ (fun p hp => HO p.2 (by simp [Op.operands]; exact ⟨p.1, by simpa using hp⟩)) r1 r2
          have hs := H φ w cells'.toList (hf s.n (Nat.le_refl _)) HH f2 f3
          refine ⟨_, _, _, ?_, ⟨_, addPhi_at _ _ _, rfl⟩, hs⟩
          unfold execOp
          rw [ho]
          have hf2 : Instr.fill (fun i => some (i * it.size, it.size)) ((Array.range (len * it.size)).map (zu.cells[· % zu.cells.size]!)) (parts.map fun x => (x.1, a.eval x.2)).toList = some cells' := by
            rw [← f1, his]
            simp
          simp only [Sem.run_bind, run_buildSlice w t el len _ cells' it zu hu hi hzu (by rw [his]; omega) (by rw [his]; omega) hf2, Result.andThen_ok, Sem.run_pure]
          rw [Array.toArray_toList]
          rfl
      · cases h
  · cases h
/-! ### new slices -/
theorem elemT_some {t e es : Nat} (h : elemT P t = some (e, es)) : P.underlying t = some (.slice e) ∧ es = P.cellsOf e ∧ P.bytesOf e ≤ 1048576 ∧ 0 < P.bytesOf e := by
  unfold elemT at h
  split at h
  · rename_i e' hu
    split at h
    · rename_i hc
      injection h with h
      injection h with h1 h2
      subst h1
      exact ⟨hu, h2.symm, hc.1, hc.2⟩
    · cases h
  · cases h
theorem bytes_info {e : Nat} (h : 0 < P.bytesOf e) : ∃ i, P.info? e = some i ∧ i.bytes = P.bytesOf e := by
  unfold Program.bytesOf at h ⊢
  cases hi : P.info? e with
  | none => rw [hi] at h; simp at h
  | some i => exact ⟨i, rfl, by simp⟩
theorem sd_makeSlice (t : Nat) (l c : Operand) : BSpec P (.makeSlice t l c) (cOp0 P (.makeSlice t l c) : BOp R) := by
  intro rec hrec e s k r hb h
  simp only [cOp0] at h
  split at h
  · rename_i el hu
    split at h
    · rename_i z q hz hq
      obtain ⟨e', es⟩ := q
      obtain ⟨hu', _, hby, hby0⟩ := elemT_some hq
      rw [hu] at hu'; injection hu' with hu'; injection hu' with hu'; subst hu'
      obtain ⟨it', hi', hby'⟩ := bytes_info hby0
      simp only [natC_eq, lenN_eq, wO_run] at h
      obtain ⟨kl, ln, hlv, h⟩ := onI_some h
      obtain ⟨kc, cn, hcv, h⟩ := onI_some h
      obtain ⟨c1, h⟩ := iff_some h
      obtain ⟨c2, h⟩ := iff_some h
      obtain ⟨c3, h⟩ := iff_some h
      obtain ⟨c4, h⟩ := iff_some h
      rw [natF_eq] at h
      have c1 := ble_of c1
      have c2 := ble_of c2
      have c3 := ble_of c3
      have c4 := beq_of c4
      obtain ⟨it, zu, hi, hzu, hzv⟩ := zeroL_info hz
      have hzs : zu.cells.size = z.length := by have := (hzv fun _ => none).1.len; simpa using this
      have his : it.size = z.length := by rw [c4, cellsOf_some hi]
      obtain ⟨bl, ha, g1, H⟩ := row_some (P := P) hb (by rw [repL_len]; rfl) h
      refine ⟨_, _, OpSd.run fun o ho φ a w hf hg HO HH => ?_, ha, g1⟩
      have h1 := HO l (by simp [Op.operands]); unfold OR at h1; rw [hlv] at h1
      have h2 := HO c (by simp [Op.operands]); unfold OR at h2; rw [hcv] at h2
      rw [hi'] at hi; injection hi with hi; subst hi
      have hrun := run_make (P := P) w t el it' zu hu hi' hzu (kindK kl) (kindK kc) (Int.ofNat ln) (Int.ofNat cn) (by simp) (by simp; omega) (by
        have := Nat.mul_le_mul (Nat.le_trans (Nat.le_of_eq hby') hby) c2
        show ((it'.bytes : Int) * (cn : Int)) ≤ _
        omega) (by simp; omega)
      have hpos : 0 < zu.cells.size := by omega
      obtain ⟨r1, r2⟩ := rep_VR (hzv φ).1 (hzv φ).2 cn (cn * it'.size) (by rw [his, hzs]) hpos
      have hs := H φ w _ (hf s.n (Nat.le_refl _)) HH r1 r2
      refine ⟨_, _, _, ?_, ⟨_, addPhi_at _ _ _, rfl⟩, hs⟩
      unfold execOp
      rw [ho]
      simp only [show a.eval l = _ from h1, show a.eval c = _ from h2, Sem.run_bind, hrun, Result.andThen_ok, Sem.run_pure]
      rw [Array.toArray_toList]
      rfl
    · cases h
  · cases h
end
end Go.Ev
namespace Go.Ev
section
variable {R : Type} {P : Program}
theorem bits_all {φ : Phi} (n : Nat) : ∀ (ks : List FK) (xs ys : List V) (us vs : List Value), eqsB ks xs ys = some true → VRs φ xs us → VRs φ ys vs →
    us.length = vs.length ∧ (vs.zip us).all (fun x => Instr.sameBits n x.1 x.2) = true := by
  intro ks
  induction ks with
  | nil =>
    intro xs ys us vs h hx hy
    cases xs <;> cases ys <;> simp only [eqsB, reduceCtorEq] at h
    rw [show us = [] from hx, show vs = [] from hy]
    exact ⟨rfl, rfl⟩
  | cons z zs ih =>
    intro xs ys us vs h hx hy
    cases xs with
    | nil => cases z <;> cases h
    | cons x xs => cases ys with
      | nil => cases z <;> cases x <;> cases h
      | cons y ys =>
        obtain ⟨u, us', rfl, hu, hus⟩ := hx
        obtain ⟨v, vs', rfl, hv, hvs⟩ := hy
        have fin : eqsB zs xs ys = some true → Instr.sameBits n v u = true → (u :: us').length = (v :: vs').length ∧ ((v :: vs').zip (u :: us')).all (fun x => Instr.sameBits n x.1 x.2) = true := fun g hb => by
          obtain ⟨h1, h2⟩ := ih xs ys us' vs' g hus hvs
          refine ⟨by simp [h1], ?_⟩
          simp only [List.zip_cons_cons, List.all_cons, hb, Bool.true_and]
          exact h2
        cases z <;> cases x <;> cases y <;> simp only [eqsB, reduceCtorEq] at h
        · split at h
          · rename_i e1
            split at h
            · rename_i e2
              refine fin h ?_
              rw [show u = _ from hu, show v = _ from hv, e1, e2]
              simp [Instr.sameBits]
            · cases h
          · cases h
        · split at h
          · rename_i e1
            refine fin h ?_
            obtain ⟨s1, s2, rfl, rfl, _, _, _, _, e, _⟩ := str_eq hu hv
            rw [← eqS_eq', e] at e1
            have e1' := (eq_of_beq e1).symm
            simp [Instr.sameBits, beq_toListBytes, e1']
          · cases h
        · split at h
          · rename_i e1
            refine fin h ?_
            rw [show u = _ from hu, show v = _ from hv, eq_of_beq e1]
            simp [Instr.sameBits]
          · cases h
theorem same_bits {φ : Phi} {K : KK} {x y : V} {u v : Value} (h : eqKB K x y = some true) (hx : VR φ x u) (hy : VR φ y v) : Instr.sameBits 10000 v u = true := by
  cases K <;> cases x <;> cases y <;> simp only [eqKB, reduceCtorEq] at h
  · split at h
    · rename_i e1
      injection h with h
      rw [show u = _ from hx, show v = _ from hy, e1, of_decide_eq_true h]
      simp [Instr.sameBits]
    · cases h
  · injection h with h
    obtain ⟨s1, s2, rfl, rfl, _, _, _, _, e, _⟩ := str_eq hx hy
    rw [← eqS_eq', e] at h
    have h' := (eq_of_beq h).symm
    simp [Instr.sameBits, beq_toListBytes, h']
  · obtain ⟨us, rfl, hus, _⟩ := hx
    obtain ⟨vs, rfl, hvs, _⟩ := hy
    obtain ⟨h1, h2⟩ := bits_all 9999 _ _ _ _ _ h hus hvs
    show Instr.sameBits (9999 + 1) _ _ = true
    unfold Instr.sameBits
    simp only [Bool.and_eq_true]
    exact ⟨by simp [h1], h2⟩
/-- the entry that was found is one that equals -/
theorem findB_at {K : KK} {x : V} : ∀ {es : List (V × V × Nat)} {i j : Nat} {v : V} {b : Nat}, findB K x es i = some (some (j, v, b)) → i ≤ j ∧ ∃ e, es[j - i]? = some e ∧ eqKB K x e.1 = some true ∧ e.2 = (v, b)
  | [], i, j, v, b, h => by cases h
  | e :: r, i, j, v, b, h => by
    rw [findB_cons] at h
    cases hb : eqKB K x e.1 with
    | none => rw [hb] at h; cases h
    | some c =>
      rw [hb] at h
      cases c with
      | true =>
        injection h with h; injection h with h
        have e1 : i = j := congrArg (·.1) h
        have e2 : e.2.1 = v := congrArg (·.2.1) h
        have e3 : e.2.2 = b := congrArg (·.2.2) h
        subst e1
        exact ⟨Nat.le_refl _, e, by simp, hb, by rw [← e2, ← e3]⟩
      | false =>
        obtain ⟨h1, e', h2, h3⟩ := findB_at h
        refine ⟨by omega, e', ?_, h3⟩
        rw [show j - i = (j - (i + 1)) + 1 by omega]
        simpa using h2
/-- the world behind a map that is written -/
def putMap (w : World) (β : Nat) (o : Obj) : World := { w with heap := w.heap.setIfInBounds β o }
theorem run_setObj {w : World} {β : Nat} {es : Array MapEntry} {c : Nat} (h : w.heap[β]? = some (.map es c)) (o : Obj) : (setObj β o).run P w = .ok () (putMap w β o) := by
  simp [setObj, Sem.run, h, putMap]
theorem putMap_step {s : S} {b : Nat} {bl : Blk} {φ : Phi} {w : World} {x : Nat × Nat × Nat} {o : Obj} (hb : φ b = some x) (hl : look s.h b ≠ .gone) (H : HR P φ s.h w) (hB : BR P φ x.2.1 x.2.2 bl (some o)) :
    Step P φ φ s (wrS s b bl) w (putMap w x.1 o) := by
  have hlt := (H.lt b x hb).2
  refine wrS_step hb hl H (by simp [putMap]) rfl rfl rfl (fun β hβ => ?_) ?_
  · simp only [putMap]
    rw [Array.getElem?_setIfInBounds]
    rw [if_neg (fun e => hβ e.symm)]
  · simp only [putMap]
    rw [Array.getElem?_setIfInBounds]
    rw [if_pos rfl, if_pos hlt]
    exact hB
theorem updC_some {K : KK} {kt el t : Nat} (ht : P.underlying t = some (.map kt el)) (hK : KT P kt K) {s : S} {m key x : V} {k : S → Option R} {r : R} (h : updC K s m key x k = some r) :
    ∃ s', Abs s s' ∧ k s' = some r ∧ s'.n = s.n ∧ ∀ φ w um uk ux, VR φ m um → VR φ key uk → VR φ x ux → HR P φ s.h w → ∃ w', (Instr.mapUpdate t um uk ux).run P w = .ok () w' ∧ Step P φ φ s s' w w' := by
  cases m <;> simp only [updC, reduceCtorEq] at h
  rename_i b
  obtain ⟨hb, h⟩ := getH_some h
  obtain ⟨es, c, hl, h⟩ := onM_some h
  obtain ⟨hko, h⟩ := onKey_some h
  rw [findC_eq] at h
  have hlive : look s.h b ≠ .gone := by rw [hl]; simp
  have pre : ∀ (res : Option (Nat × V × Nat)), findB K key es 0 = some res → ∀ φ w um uk ux, VR φ (.vm b) um → VR φ key uk → HR P φ s.h w →
      ∃ z, ∃ es' : List MapEntry, ∃ res', φ b = some z ∧ w.heap[z.1]? = some (.map (List.toArray es') c) ∧ es'.length = es.length ∧ (∀ (i : Nat) (x : V × V × Nat) (y : MapEntry), es[i]? = some x → es'[i]? = some y → VR φ x.1 y.key ∧ VR φ x.2.1 y.val ∧ y.born = x.2.2) ∧
        FndR φ es' 0 res res' ∧ (Instr.mapUpdate t um uk ux).run P w = (match res' with
          | some (i, _) => (do let key ← Instr.keyThatStays (((es'.toArray[i]?).map fun y : MapEntry => y.key).getD uk) uk; setObj z.1 (.map (es'.toArray.modify i fun e : MapEntry => { e with key := key, val := ux }) c) : Sem Unit)
          | none => setObj z.1 (.map (es'.toArray.push { key := uk, val := ux, born := c }) (c + 1))).run P w := fun res hres φ w um uk ux hm hk HH => by
    obtain ⟨z, hz, rfl⟩ := hm
    have := HH.at_ b z hz
    rw [hl] at this
    obtain ⟨es', ho, hlen, hrel⟩ := this
    obtain ⟨res', g1, g2⟩ := findKey_run hK hk es es' res w hlen hrel hres
    refine ⟨z, es', res', hz, ho, hlen, hrel, g2, ?_⟩
    have hck := checkKey_run (P := P) hK hk hko false w
    unfold Instr.mapUpdate
    simp only [Sem.run_bind, run_underlying ht, Result.andThen_ok, getObj_map ho, hck, g1]
    cases res' <;> rfl
  cases hf : findB K key es 0 with
  | none => rw [hf] at h; cases h
  | some res =>
    rw [hf] at h
    cases res with
    | none =>
      simp only [natF_eq] at h
      obtain ⟨_, h⟩ := wrote_some h
      refine ⟨_, wrS_abs hb hlive, h, rfl, fun φ w um uk ux hm hk hx HH => ?_⟩
      obtain ⟨z, es', res', hz, ho, hlen, hrel, g2, hrun⟩ := pre none hf φ w um uk ux hm hk HH
      cases res' with
      | some _ => exact g2.elim
      | none =>
        rw [hrun]
        simp only []
        rw [run_setObj ho]
        refine ⟨_, rfl, putMap_step hz hlive HH ⟨es' ++ [⟨uk, ux, c⟩], by simp, by simp [hlen], fun i a y ha hy => ?_⟩⟩
        by_cases hi : i < es.length
        · rw [List.getElem?_append_left hi] at ha
          rw [List.getElem?_append_left (by omega)] at hy
          exact hrel i a y ha hy
        · have hi' : i = es.length := by
            have := (List.getElem?_eq_some_iff.1 ha).1
            simp at this; omega
          subst hi'
          rw [List.getElem?_append_right (Nat.le_refl _)] at ha
          rw [List.getElem?_append_right (by omega), hlen] at hy
          simp at ha hy
          subst ha; subst hy
          exact ⟨hk, hx, rfl⟩
    | some q =>
      obtain ⟨i, v, bn⟩ := q
      simp only [] at h
      obtain ⟨_, h⟩ := wrote_some h
      refine ⟨_, wrS_abs hb hlive, h, rfl, fun φ w um uk ux hm hk hx HH => ?_⟩
      obtain ⟨z, es', res', hz, ho, hlen, hrel, g2, hrun⟩ := pre (some (i, v, bn)) hf φ w um uk ux hm hk HH
      cases res' with
      | none => exact g2.elim
      | some q' =>
        obtain ⟨i', v'⟩ := q'
        obtain ⟨e1, _, _, y, hy, hyv, hyb⟩ := g2
        subst e1
        try simp only [Nat.sub_zero] at hy
        obtain ⟨_, e, he, heq, _⟩ := findB_at hf
        simp only [Nat.sub_zero] at he
        have hbits := same_bits heq hk (hrel i e y he hy).1
        rw [hrun]
        simp only [Sem.run_bind]
        have hks : (Instr.keyThatStays (((es'.toArray[i]?).map fun y : MapEntry => y.key).getD uk) uk).run P w = .ok uk w := by
          have : ((es'.toArray[i]?).map fun y : MapEntry => y.key).getD uk = y.key := by simp [hy]
          rw [this]
          unfold Instr.keyThatStays
          rw [if_pos hbits]
          rfl
        rw [hks]
        simp only [Result.andThen_ok]
        rw [run_setObj ho]
        refine ⟨_, rfl, putMap_step hz hlive HH ⟨es'.set i { y with key := uk, val := ux }, ?_, by simp [hlen], fun j a y' ha hy' => ?_⟩⟩
        · have : es'.toArray.modify i (fun e : MapEntry => { e with key := uk, val := ux }) = (es'.set i { y with key := uk, val := ux }).toArray := by
            apply Array.ext'
            apply List.ext_getElem?
            intro j
            simp only [Array.toList_modify, List.getElem?_modify, List.getElem?_set]
            by_cases hj : i = j
            · subst hj
              obtain ⟨hlt, hyy⟩ := List.getElem?_eq_some_iff.1 hy
              simp [hlt, hyy]
            · simp [hj]
          rw [this]
        · rw [List.getElem?_set] at ha hy'
          by_cases hj : i = j
          · subst hj
            rw [if_pos rfl, if_pos (by have := (List.getElem?_eq_some_iff.1 he).1; omega)] at ha
            rw [if_pos rfl, if_pos (by have := (List.getElem?_eq_some_iff.1 hy).1; omega)] at hy'
            injection ha with ha; injection hy' with hy'
            subst ha; subst hy'
            exact ⟨hk, hx, hyb⟩
          · rw [if_neg hj] at ha hy'
            exact hrel j a y' ha hy'
theorem sd_mapUpdate (t : Nat) (m key x : Operand) : BSpec P (.mapUpdate t m key x) (cOp0 P (.mapUpdate t m key x) : BOp R) := by
  intro rec hrec e s k r hb h
  simp only [cOp0] at h
  split at h
  · rename_i K hk
    obtain ⟨kt, el, ht, hK⟩ := keyT_some hk
    simp only [wO_run] at h
    obtain ⟨s', ha, h, hn, H⟩ := updC_some ht hK h
    refine ⟨_, s', OpSd.skip fun o ho φ a w hf hg HO HH => ?_, ha, h⟩
    obtain ⟨w', g1, g2⟩ := H φ w _ _ _ (HO m (by simp [Op.operands])) (HO key (by simp [Op.operands])) (HO x (by simp [Op.operands])) HH
    refine ⟨w', φ, ?_, g2⟩
    unfold execOp
    rw [ho]
    simp only [Sem.run_bind, g1, Result.andThen_ok, Sem.run_pure]
  · cases h
theorem sd_insert (t : Nat) (m key x : Operand) : BSpec P (.insert t m key x) (cOp0 P (.insert t m key x) : BOp R) := by
  intro rec hrec e s k r hb h
  simp only [cOp0] at h
  split at h
  · rename_i K hk
    obtain ⟨kt, el, ht, hK⟩ := keyT_some hk
    simp only [wO_run] at h
    obtain ⟨s', ha, h, hn, H⟩ := updC_some ht hK h
    refine ⟨_, s', OpSd.skip fun o ho φ a w hf hg HO HH => ?_, ha, h⟩
    obtain ⟨w', g1, g2⟩ := H φ w _ _ _ (HO m (by simp [Op.operands])) (HO key (by simp [Op.operands])) (HO x (by simp [Op.operands])) HH
    refine ⟨w', φ, ?_, g2⟩
    unfold execOp
    rw [ho]
    simp only [Sem.run_bind, g1, Result.andThen_ok, Sem.run_pure]
  · cases h
end
end Go.Ev
