
/-
  slices.Insert of one element into a row of the call's own (elements of k cells).
  slices.Insert at rows of terms and of ground rules: one element, whose row may be longer.
-/
import Derived.Test.YtlficnfkekggjaaGreatDoorMaps
import Derived.Test.YtlficnfkekggjaaGreatDoorFacts
import Derived.Laws.CopyRow
import Derived.Laws.Externs
import Derived.Laws.NewBlocks
import Derived.Lib.Overlaps
import Derived.Lib.AppendZerosOnto
import Derived.Deep.RegionLawGrows
namespace Go.Proofs.YtlficnfkekggjaaGreatDoor
open Go.RowKit

/-! ### copy, rows of k cells an element -/
theorem run_copy_k {P : Program} {dT sT ty e : TypeId} {k bytes : Nat} (El : Elem P dT e k bytes) {w : World} {g o dLen dCap sLen sCap : Nat} {a : Addr} {cur : Array Value} {t : TypeId} (hB : Blk w g t cur) (m : Nat) (cs : List Value) (hm : Nat.min sLen dLen = m) (hn : cs.length = m * k)
    (hsrc : ∀ (j : Nat) (v : Value), cs[j]? = some v → w.cell? (a.add j) = some v) (hfit : o + cs.length ≤ cur.size) (h1 : ∀ v ∈ cs, v.oneCell' = true) :
    (Builtin.copy_ #[dT, sT] ty #[.slice (some ⟨g, o, none⟩) dLen dCap, .slice (some a) sLen sCap]).run P w = .ok (goInt m) (w.setRow g (cur.toList.take o ++ cs ++ cur.toList.drop (o + cs.length)).toArray) := by
  obtain ⟨i, z, hi, hz, hsize, hby, hzs⟩ := El.i
  have hl := run_loadCells_list (P := P) w a cs hsrc
  have hst := run_storeCells_at P g o t cs 0 cur w hB (by simpa using hfit) h1
  simp [Builtin.copy_, run_underlying El.t, Builtin.lenOf, Builtin.firstCells, sizeOf, typeInfo, hi, hsize, hm, ← hn, hl, hst]
section
variable {P : Program} {ops : Array Oper} {o : Oper} {a : Act} {Q : Exit → Act → World → Prop}
theorem wp_copy_r (w : World) {K : Act → World → Prop} (d s : Operand) (t t' : TypeId) (ho : o.op = .call { callee := .builtin .copy, args := #[d, s], argTypes := #[t, t'] }) {v u : Value} (hd : a.eval d = v) (hs : a.eval s = u) {v' : Value} {w' : World}
    (hr : (Builtin.copy_ #[t, t'] o.type #[v, u]).run P w = .ok v' w') (h : K (a.put o.dst v') w') : o.wp P a w K Q := by
  unfold Oper.wp execOp
  simp only [ho, resolve, invoke, builtin, Sem.run_bind, Sem.run_pure, Result.andThen_ok, List.map_toArray, List.map_cons, List.map_nil, hd, hs, hr]
  exact h
theorem wpList_copy_r {w : World} {rest : List Oper} (hgd : o.guard = none) (d s : Operand) (t t' : TypeId) (ho : o.op = .call { callee := .builtin .copy, args := #[d, s], argTypes := #[t, t'] }) {v u : Value} (hd : a.eval d = v) (hs : a.eval s = u) {v' : Value} {w' : World}
    (hr : (Builtin.copy_ #[t, t'] o.type #[v, u]).run P w = .ok v' w') (h : wpList P ops Q rest (a.put o.dst v') w') : wpList P ops Q (o :: rest) a w :=
  wpList_plain hgd fun _ hK => wp_copy_r w d s t t' ho hd hs hr (hK _ _ h)
theorem step_copy_r {w : World} {K : Act → World → Prop} {E : Prop} (hgd : o.guard = none) (d s : Operand) (t t' : TypeId) (ho : o.op = .call { callee := .builtin .copy, args := #[d, s], argTypes := #[t, t'] }) {v u : Value} (hd : a.eval d = v) (hs : a.eval s = u) {v' : Value} {w' : World}
    (hr : (Builtin.copy_ #[t, t'] o.type #[v, u]).run P w = .ok v' w') (h : K (a.put o.dst v') w') : if Region.wanted o (yielded ops a.tmps) = true then Oper.wp P o a w K Q else E := by
  rw [if_pos (by simp [Region.wanted, hgd])]
  exact wp_copy_r w d s t t' ho hd hs hr h
end

/-! ### the rows, as lists -/
section
variable {α : Type} {L F cy D : List α} {p q k : Nat}
/-- in place: what stands from p on is moved by k, then cy is laid at p -/
def shf (L D : List α) (p k : Nat) : List α := L.take (p + k) ++ D ++ L.drop (p + k + D.length)
def lay1 (L cy : List α) (p : Nat) : List α := L.take p ++ cy ++ L.drop (p + cy.length)
theorem shf_len (h : p + k + D.length ≤ L.length) : (shf L D p k).length = L.length := by simp only [shf, List.length_append, List.length_take, List.length_drop]; omega
theorem lay1_len (h : p + cy.length ≤ L.length) : (lay1 L cy p).length = L.length := by simp only [lay1, List.length_append, List.length_take, List.length_drop]; omega
theorem ins_place (hF : L.take q = F) (hD : D = F.drop p) (hp : p ≤ q) (hc : cy.length = k) (hL : q + k ≤ L.length) : (lay1 (shf L D p k) cy p).take (q + k) = F.take p ++ cy ++ D := by
  have hFl : F.length = q := by rw [← hF, List.length_take]; omega
  have hDl : D.length = q - p := by rw [hD, List.length_drop, hFl]
  have e1 : (shf L D p k).take p = F.take p := by
    unfold shf
    rw [List.append_assoc, List.take_append_of_le_length (by rw [List.length_take]; omega), List.take_take, ← hF, List.take_take]
    congr 1; omega
  have e2 : (shf L D p k).drop (p + cy.length) = D ++ L.drop (p + k + D.length) := by
    unfold shf
    rw [List.append_assoc, hc, List.drop_append_of_le_length (by rw [List.length_take]; omega), List.drop_of_length_le (by rw [List.length_take]; omega), List.nil_append]
  unfold lay1
  rw [e1, e2, ← List.append_assoc, List.take_append_of_le_length (by simp only [List.length_append, List.length_take]; omega)]
  exact List.take_of_length_le (by simp only [List.length_append, List.length_take]; omega)
theorem ins_new (hR : L.take p = F.take p) (hFl : F.length = q) (hD : D = F.drop p) (hp : p ≤ q) (hc : cy.length = k) (_hL : q + k ≤ L.length) : (lay1 (lay1 L cy p) D (p + k)).take (q + k) = F.take p ++ cy ++ D := by
  have hDl : D.length = q - p := by rw [hD, List.length_drop, hFl]
  have e1 : (lay1 L cy p).take (p + k) = F.take p ++ cy := by
    unfold lay1
    rw [hR, List.take_append_of_le_length (by simp only [List.length_append, List.length_take]; omega)]
    exact List.take_of_length_le (by simp only [List.length_append, List.length_take]; omega)
  have e2 : lay1 (lay1 L cy p) D (p + k) = F.take p ++ cy ++ D ++ (lay1 L cy p).drop (p + k + D.length) := by rw [← e1]; rfl
  rw [e2, List.take_append_of_le_length (by simp only [List.length_append, List.length_take]; omega)]
  exact List.take_of_length_le (by simp only [List.length_append, List.length_take]; omega)
end
theorem flat_take (css : List (List Value)) (k : Nat) (h : ∀ cs ∈ css, cs.length = k) : ∀ i, (css.take i).flatten = css.flatten.take (i * k) := by
  induction css with
  | nil => intro i; simp
  | cons c r ih =>
    intro i
    cases i with
    | zero => simp
    | succ i =>
      have hc := h c (by simp)
      have e1 : c.take ((i + 1) * k) = c := List.take_of_length_le (by rw [hc, Nat.add_mul]; omega)
      have e2 : (i + 1) * k - k = i * k := by rw [Nat.add_mul]; omega
      rw [List.take_succ_cons, List.flatten_cons, List.flatten_cons, ih (fun x hx => h x (by simp [hx])) i, List.take_append, hc, e1, e2]
theorem flat_drop (css : List (List Value)) (k : Nat) (h : ∀ cs ∈ css, cs.length = k) : ∀ i, (css.drop i).flatten = css.flatten.drop (i * k) := by
  induction css with
  | nil => intro i; simp
  | cons c r ih =>
    intro i
    cases i with
    | zero => simp
    | succ i =>
      have hc := h c (by simp)
      have e1 : c.drop ((i + 1) * k) = [] := List.drop_of_length_le (by rw [hc, Nat.add_mul]; omega)
      have e2 : (i + 1) * k - k = i * k := by rw [Nat.add_mul]; omega
      rw [List.drop_succ_cons, List.flatten_cons, ih (fun x hx => h x (by simp [hx])) i, List.drop_append, hc, e1, e2, List.nil_append]
/-- the row behind an insertion owns what it should -/
theorem own_ins {w' : World} {base g c k i : Nat} {e : TypeId} {css : List (List Value)} {cy : List Value} {cur : Array Value} (hk : ∀ cs ∈ css, cs.length = k ∧ ∀ u ∈ cs, u.oneCell' = true) (hy : cy.length = k ∧ ∀ u ∈ cy, u.oneCell' = true) (hi : i ≤ css.length)
    (hb : base ≤ g) (hB : Blk w' g e cur) (hc : css.length + 1 ≤ c) (hm : c ≤ maxLen) (hs : cur.size = c * k) (ht : cur.toList.take (css.length * k + k) = css.flatten.take (i * k) ++ cy ++ css.flatten.drop (i * k)) :
    Own w' base e k (.slice (some ⟨g, 0, none⟩) (css.length + 1) c) (css.take i ++ cy :: css.drop i) := by
  have hl : (css.take i ++ cy :: css.drop i).length = css.length + 1 := by simp; omega
  have hall : ∀ cs ∈ css.take i ++ cy :: css.drop i, cs.length = k ∧ ∀ u ∈ cs, u.oneCell' = true := fun cs hcs => by
    rcases List.mem_append.1 hcs with h | h
    · exact hk cs (List.mem_of_mem_take h)
    · rcases List.mem_cons.1 h with rfl | h
      · exact hy
      · exact hk cs (List.mem_of_mem_drop h)
  refine ⟨?_, hall⟩
  rw [hl]
  refine ⟨by rw [flat_len _ k (fun cs hcs => (hall cs hcs).1), hl], .inr ⟨g, c, cur, rfl, hb, hB, hc, hm, hs, ?_⟩⟩
  rw [Nat.add_mul, Nat.one_mul, ht, List.flatten_append, List.flatten_cons, flat_take css k (fun cs hcs => (hk cs hcs).1), flat_drop css k (fun cs hcs => (hk cs hcs).1), List.append_assoc]
theorem sl_blk1 {w : World} {vb k : Nat} {e : TypeId} {cy : List Value} (h : Blk w vb e cy.toArray) (hy : cy.length = k ∧ ∀ u ∈ cy, u.oneCell' = true) : Sl (fun b => b = vb) w k (.slice (some ⟨vb, 0, none⟩) 1 1) [cy] := by
  refine ⟨_, 1, rfl, Nat.le_refl _, by unfold maxLen; omega, fun i cs hi => ?_⟩
  cases i with
  | zero =>
    simp at hi
    subst hi
    refine ⟨hy, vb, 0, rfl, ⟨rfl, h.lt⟩, fun j u hu => ?_⟩
    rw [Nat.zero_mul, Nat.zero_add, Nat.zero_add, h.cell, List.getElem?_toArray]
    exact hu
  | succ i => simp at hi
theorem blk_shape {w : World} {g : Nat} {t : TypeId} {cy : List Value} (h : Blk w g t cy.toArray) : w.shape? g = some (t, cy.length) := by
  unfold Blk at h
  simp [World.shape?, h]
theorem lay_setRow {w : World} {g o : Nat} {L cs : List Value} {t : TypeId} (hB : Blk w g t L.toArray) : Blk (w.setRow g (L.toArray.toList.take o ++ cs ++ L.toArray.toList.drop (o + cs.length)).toArray) g t (lay1 L cs o).toArray ∧ Ch [g] w (w.setRow g (L.toArray.toList.take o ++ cs ++ L.toArray.toList.drop (o + cs.length)).toArray) :=
  ⟨setRow_heap w g _ _ t _ hB, rfl, rfl, rfl, by simp [World.setRow], fun k _ hn => setRow_other w g k _ (by simpa using hn)⟩
section
variable {P : Program} {ops : Array Oper} {o : Oper} {a : Act} {Q : Exit → Act → World → Prop}
theorem wpList_copy_k {w : World} {rest : List Oper} (hgd : o.guard = none) (d s : Operand) (dT sT : TypeId) (ho : o.op = .call { callee := .builtin .copy, args := #[d, s], argTypes := #[dT, sT] }) {e : TypeId} {k bytes : Nat} (El : Elem P dT e k bytes)
    {g off dLen dCap sLen sCap : Nat} {ad : Addr} {L : List Value} {t : TypeId} (hB : Blk w g t L.toArray) (m : Nat) (cs : List Value) (hd : a.eval d = .slice (some ⟨g, off, none⟩) dLen dCap) (hs : a.eval s = .slice (some ad) sLen sCap) (hm : Nat.min sLen dLen = m) (hn : cs.length = m * k)
    (hsrc : ∀ (j : Nat) (v : Value), cs[j]? = some v → w.cell? (ad.add j) = some v) (hfit : off + cs.length ≤ L.length) (h1 : ∀ v ∈ cs, v.oneCell' = true)
    (h : ∀ w', Blk w' g t (lay1 L cs off).toArray → Ch [g] w w' → wpList P ops Q rest (a.put o.dst (goInt m)) w') : wpList P ops Q (o :: rest) a w :=
  wpList_copy_r hgd d s dT sT ho hd hs (run_copy_k El hB m cs hm hn hsrc (by simpa using hfit) h1) (h _ (lay_setRow hB).1 (lay_setRow hB).2)
theorem step_copy_k {w : World} {K : Act → World → Prop} {E : Prop} (hgd : o.guard = none) (d s : Operand) (dT sT : TypeId) (ho : o.op = .call { callee := .builtin .copy, args := #[d, s], argTypes := #[dT, sT] }) {e : TypeId} {k bytes : Nat} (El : Elem P dT e k bytes)
    {g off dLen dCap sLen sCap : Nat} {ad : Addr} {L : List Value} {t : TypeId} (hB : Blk w g t L.toArray) (m : Nat) (cs : List Value) (hd : a.eval d = .slice (some ⟨g, off, none⟩) dLen dCap) (hs : a.eval s = .slice (some ad) sLen sCap) (hm : Nat.min sLen dLen = m) (hn : cs.length = m * k)
    (hsrc : ∀ (j : Nat) (v : Value), cs[j]? = some v → w.cell? (ad.add j) = some v) (hfit : off + cs.length ≤ L.length) (h1 : ∀ v ∈ cs, v.oneCell' = true)
    (h : ∀ w', Blk w' g t (lay1 L cs off).toArray → Ch [g] w w' → K (a.put o.dst (goInt m)) w') : if Region.wanted o (yielded ops a.tmps) = true then Oper.wp P o a w K Q else E :=
  step_copy_r hgd d s dT sT ho hd hs (run_copy_k El hB m cs hm hn hsrc (by simpa using hfit) h1) (h _ (lay_setRow hB).1 (lay_setRow hB).2)
end
end Go.Proofs.YtlficnfkekggjaaGreatDoor
namespace Go.Proofs.YtlficnfkekggjaaGreatDoor
open Go.RowKit
theorem sl_blk2 {w : World} {vb k : Nat} {e : TypeId} {cy ry : List Value} (h : Blk w vb e (cy ++ ry).toArray) (hy : cy.length = k ∧ ∀ u ∈ cy, u.oneCell' = true) : Sl (fun b => b = vb) w k (.slice (some ⟨vb, 0, none⟩) 1 1) [cy] := by
  refine ⟨_, 1, rfl, Nat.le_refl _, by unfold maxLen; omega, fun i cs hi => ?_⟩
  cases i with
  | zero =>
    simp at hi
    subst hi
    refine ⟨hy, vb, 0, rfl, ⟨rfl, h.lt⟩, fun j u hu => ?_⟩
    rw [Nat.zero_mul, Nat.zero_add, Nat.zero_add, h.cell, List.getElem?_toArray, List.getElem?_append_left (List.getElem?_eq_some_iff.1 hu).1]
    exact hu
  | succ i => simp at hi
theorem elGr : Elem Tryz.prog 126 242 3 56 := Elem.mk' Tryz.underlying126 (by kernel_rfl) (by decide) (by decide)

set_option maxRecDepth 100000 in
set_option maxHeartbeats 1000000 in
theorem insT_ (base : Nat) (v : Value) (css : List (List Value)) (cy ry : List Value) (i vb : Nat) (w : World) (h : Own w base 84 2 v css) (hB : Blk w vb 84 (cy ++ ry).toArray) (hy : cy.length = 2 ∧ ∀ u ∈ cy, u.oneCell' = true) (hvb : v.ownBlock ≠ some vb)
    (hi : i ≤ css.length) (hbig : (css.length + 1) * 40 ≤ 140737488355328) (hbase : base ≤ w.heap.size) :
    Calls Tryz.prog 216 #[v, .int .i64 i, .slice (some ⟨vb, 0, none⟩) 1 1] w fun e w' => ∃ v', e = .returned v' ∧ Own w' base 84 2 v' (css.take i ++ cy :: css.drop i) ∧ Ch v.ownBlock.toList w w' ∧ (v'.ownBlock = v.ownBlock ∨ v'.ownBlock = some w.heap.size) := by
  have hvl := hB.lt
  have hSy := sl_blk2 hB hy
  rcases Nat.lt_or_ge i css.length with hlt | hge
  · obtain ⟨g, c, cur, rfl, hb, hg, hnc, hm, hs, ht⟩ : ∃ g c cur, v = .slice (some ⟨g, 0, none⟩) css.length c ∧ base ≤ g ∧ Blk w g 84 cur ∧ css.length ≤ c ∧ c ≤ maxLen ∧ cur.size = c * 2 ∧ cur.toList.take (css.length * 2) = css.flatten := by
      rcases h.1.2 with ⟨_, hz⟩ | h
      · omega
      · exact h
    have hgl := Blk.lt hg
    have hne : vb ≠ g := fun e => hvb (by rw [e]; rfl)
    have hkk := h.2
    have hFl := flat_len css 2 (fun cs hcs => (hkk cs hcs).1)
    have hF1 : ∀ u ∈ css.flatten, u.oneCell' = true := fun u hu => by
      obtain ⟨cs, h1, h2⟩ := List.mem_flatten.1 hu
      exact (hkk cs h1).2 u h2
    obtain ⟨D, hD⟩ : ∃ D, D = css.flatten.drop (i * 2) := ⟨_, rfl⟩
    have hDl : D.length = (css.length - i) * 2 := by rw [hD, List.length_drop, hFl]; omega
    have hD1 : ∀ u ∈ D, u.oneCell' = true := fun u hu => hF1 u (by rw [hD] at hu; exact List.mem_of_mem_drop hu)
    have hDs : ∀ (j : Nat) (u : Value), D[j]? = some u → w.cell? ⟨g, i * 2 + j, none⟩ = some u := fun j u hu => by
      have hj := (List.getElem?_eq_some_iff.1 hu).1
      rw [Blk.cell hg, ← Array.getElem?_toList]
      rw [hD, List.getElem?_drop, ← ht, List.getElem?_take] at hu
      rwa [if_pos (by omega)] at hu
    have hys : ∀ (j : Nat) (u : Value), cy[j]? = some u → w.cell? ⟨vb, j, none⟩ = some u := fun j u hu => by rw [hB.cell, List.getElem?_toArray, List.getElem?_append_left (List.getElem?_eq_some_iff.1 hu).1]; exact hu
    have hw1 : IntKind.i64.wrap ((i : Int) + 1) = (i : Int) + 1 := by rw [IntKind.wrap_i64]; unfold maxLen at hm; omega
    have hwn : IntKind.i64.wrap ((css.length : Int) + 1) = (css.length : Int) + 1 := by rw [IntKind.wrap_i64]; unfold maxLen at hm; omega
    have hb0 : (0 : Int) ≤ (i : Int) + 1 := by omega
    have hb1 : (i : Int) ≤ (css.length : Int) := by omega
    have hb2 : ¬ (i : Int) = (css.length : Int) := by omega
    have hb3 : (i : Int) + 1 ≤ (css.length : Int) + 1 := by omega
    have hb4 : (i : Int) ≤ (css.length : Int) + 1 := by omega
    have htn : ((i : Int) + 1).toNat = i + 1 := by omega
    have hci : ¬ c = i := by omega
    have HCH : Hid (∀ w', w'.os = w.os → w'.tape = w.tape → w'.output = w.output → w.heap.size ≤ w'.heap.size → (∀ k, k < w.heap.size → k ≠ g → w'.heap[k]? = w.heap[k]?) → Ch (Value.slice (some ⟨g, 0, none⟩) css.length c).ownBlock.toList w w') := fun w' h1 h2 h3 h4 h5 => ⟨h1, h2, h3, h4, fun k hk hn => h5 k hk (by simpa [Value.ownBlock] using hn)⟩
    unfold maxLen at hm
    obtain ⟨L, rfl⟩ : ∃ L : List Value, cur = L.toArray := ⟨cur.toList, by simp⟩
    have hLl : L.length = c * 2 := by simpa using hs
    have htL : L.take (css.length * 2) = css.flatten := by simpa using ht
    have hmin1 : Nat.min 1 (css.length + 1 - i) = 1 := by show min _ _ = _; omega
    by_cases hroom : css.length + 1 ≤ c
    · have hov : ∀ lb cb, (callFunc 266 #[.slice (some ⟨vb, 0, none⟩) 1 1, .slice (some ⟨g, (i + 1) * 2, none⟩) lb cb]).run Tryz.prog w = .ok (.value (.bool false)) w := fun lb cb => by
        rw [run_callFunc_extern Tryz.func266 (by kernel_rfl) (by kernel_rfl) (by kernel_rfl) (e := Extern.SlicesOverlaps.overlaps #[66, 66] #[4]) (by kernel_rfl),
          Lib.run_overlaps_apart w 66 4 84 Tryz.underlying66 2 (fun w => by obtain ⟨i0, z0, e1, _, e2, _⟩ := (elT).i; simp [Go.sizeOf, typeInfo, e1, e2]) ⟨vb, 0, none⟩ ⟨g, (i + 1) * 2, none⟩ 1 1 lb cb hne 84 84 (cy ++ ry).length L.length (blk_shape hB) (blk_shape hg) (by omega) (hB.frozen 0) (hB.frozen _)]
        rfl
      have hr1 : ¬ (c : Int) < (css.length : Int) + 1 := by omega
      have hc2 : ¬ c = i + 1 := by omega
      have hg0 : Blk w.drew g 84 L.toArray := hg
      have hmin2 : Nat.min (css.length + 1 - i) (css.length - i) = css.length - i := by show min _ _ = _; omega
      have HF0 : ∀ w1 w2 (h1 : Ch [g] w.drew w1) (h2 : Ch [g] w1 w2) (hb2 : Blk w2 g 84 (lay1 (lay1 L D ((i + 1) * 2)) cy (i * 2)).toArray), Own w2 base 84 2 (.slice (some ⟨g, 0, none⟩) (css.length + 1) c) (css.take i ++ cy :: css.drop i) ∧ Ch (Value.slice (some ⟨g, 0, none⟩) css.length c).ownBlock.toList w w2 := by
        intro w1 w2 h1 h2 hb2
        rw [show (i + 1) * 2 = i * 2 + 2 by rw [Nat.add_mul, Nat.one_mul]] at hb2
        have hlD : (lay1 L D (i * 2 + 2)).length = L.length := lay1_len (by omega)
        have hly : (lay1 (lay1 L D (i * 2 + 2)) cy (i * 2)).length = L.length := by rw [lay1_len (by have := hy.1; omega), hlD]
        refine ⟨own_ins hkk hy hi hb hb2 hroom (by unfold maxLen; omega) (by simpa [hly] using hLl) ?_, (((Ch.refl [g] w).drew.trans h1).trans h2)⟩
        have := ins_place (L := L) (F := css.flatten) (cy := cy) (D := D) (p := i * 2) (q := css.length * 2) (k := 2) htL hD (by omega) hy.1 (by omega)
        rw [← hD]
        exact this
      have HF := Lib.hid HF0; clear HF0
      have hsD : ∀ (j : Nat) (u : Value), D[j]? = some u → w.drew.cell? ((⟨g, i * 2, none⟩ : Addr).add j) = some u := fun j u hu => by rw [Addr.add_lit]; exact hDs j u hu
      have hsy : ∀ w1, Ch [g] w.drew w1 → ∀ (j : Nat) (u : Value), cy[j]? = some u → w1.cell? ((⟨vb, 0, none⟩ : Addr).add j) = some u := fun w1 h1 j u hu => by
        rw [Addr.add_lit, Nat.zero_add]
        exact cell_ch (w := w.drew) (hys j u hu) h1 (by simp; omega)
      have hfD : (i + 1) * 2 + D.length ≤ L.length := by omega
      have hly1 : i * 2 + cy.length ≤ (lay1 L D ((i + 1) * 2)).length := by rw [lay1_len hfD]; have := hy.1; omega
      have hDl2 : D.length = (css.length - i) * 2 := hDl
      have hyy := hy.2
      have hyl : cy.length = 1 * 2 := by have := hy.1; omega
      clear h hg hB hSy hs ht hDs hys hD hkk hF1 HCH hFl htL hDl hLl
      go_enter Tryz.func216, Tryz.ntmps216
      go_wp2_with (simp only [hov])
      go_region_law (refine step_copy_k (off := (i + 1) * 2) (dLen := css.length - i) (dCap := c - (i + 1)) (sLen := css.length + 1 - i) (sCap := c - i) (ad := ⟨g, i * 2, none⟩) rfl _ _ _ _ rfl elT hg0 (css.length - i) D (by simp [Act.eval, Act.put]) (by simp [Act.eval, Act.put]) hmin2 hDl2 hsD hfD hD1 ?_; intro w1 hB1 hC1)
      go_wp2_with (refine wpList_copy_k rfl _ _ _ _ rfl elT hB1 1 cy rfl rfl hmin1 hyl (hsy _ hC1) hly1 hyy ?_; intro w2 hB2 hC2)
      go_ret
      obtain ⟨r1, r2⟩ := HF.out _ _ hC1 hC2 hB2
      exact ⟨_, rfl, r1, r2, .inl rfl⟩
    · have hr1 : (c : Int) < (css.length : Int) + 1 := by omega
      obtain ⟨i0, z0, hi0, hz0, hsize0, hby0, hzs0⟩ := (elT).i
      have hold : (Builtin.firstCells i0.size i (.slice (some ⟨g, 0, none⟩) i c)).run Tryz.prog w.drew = .ok (css.take i).flatten.toArray w.drew := by
        rw [hsize0]
        refine run_firstCells_some w.drew 2 i ⟨g, 0, none⟩ i c (css.take i).flatten (by rw [flat_take css 2 (fun cs hcs => (hkk cs hcs).1), List.length_take, hFl]; omega) (fun j u hu => ?_)
        rw [Addr.add_lit, Nat.zero_add]
        show w.cell? _ = _
        rw [Blk.cell hg, List.getElem?_toArray]
        rw [flat_take css 2 (fun cs hcs => (hkk cs hcs).1), ← htL, List.take_take, List.getElem?_take] at hu
        split at hu
        · exact hu
        · cases hu
      have hik : i + (css.length + 1 - i) = css.length + 1 := by omega
      have hkI : (css.length : Int) + 1 - (i : Int) = ((css.length + 1 - i : Nat) : Int) := by omega
      obtain ⟨G, hG⟩ : ∃ G, G = grownCap w (css.length + 1) c 84 := ⟨_, rfl⟩
      have hGn : css.length + 1 ≤ G := by rw [hG]; exact grownCap_ge w _ _ _
      have hGm : G ≤ maxLen := by rw [hG]; exact grownCap_le_maxLen w _ _ _ (by unfold maxLen; omega)
      obtain ⟨R, hR⟩ : ∃ R : List Value, R = ((css.take i).flatten.toArray ++ Builtin.zeroCells z0.cells (css.length + 1 - i) ++ Builtin.zeroCells z0.cells (G - (css.length + 1))).toList := ⟨_, rfl⟩
      have hFi : (css.take i).flatten = css.flatten.take (i * 2) := flat_take css 2 (fun cs hcs => (hkk cs hcs).1) i
      have hFil : (css.flatten.take (i * 2)).length = i * 2 := by rw [List.length_take, hFl]; omega
      have hRl : R.length = G * 2 := by
        rw [hR, hFi]
        simp [Builtin.zeroCells, hzs0, hFl]
        omega
      have hRt : R.take (i * 2) = css.flatten.take (i * 2) := by
        rw [hR, hFi, Array.toList_append, Array.toList_append, List.append_assoc]
        show List.take _ (css.flatten.take (i * 2) ++ _) = _
        rw [List.take_append_of_le_length (by omega)]
        exact List.take_of_length_le (by omega)
      obtain ⟨w1, hw⟩ : ∃ w1, w1 = w.drew.alloc (.cells R.toArray 84) := ⟨_, rfl⟩
      have hrz : ∀ ty, (Builtin.append_ #[66, 3] ty #[.slice (some ⟨g, 0, none⟩) i c, .int .i64 ((css.length : Int) + 1 - (i : Int))]).run Tryz.prog w = .ok (.slice (some ⟨w.heap.size, 0, none⟩) (css.length + 1) G) w1 := fun ty => by
        have h9 := Lib.run_append_grow_zeros (P := Tryz.prog) w 66 3 ty 84 i0 z0 .i64 .i64 Tryz.underlying66 Tryz.underlying3 hi0 hz0 (some ⟨g, 0, none⟩) i c _ hold (css.length + 1 - i) (by omega) (by omega) (by omega) (by omega) (by rw [hby0]; omega) (by rw [hby0, hik]; exact growslice_fits (by omega) hbig)
        rw [hik, ← hG] at h9
        rw [hkI, h9, hw, hR, Array.toArray_toList]
      have hB1 : Blk w1 w.heap.size 84 R.toArray := by rw [hw]; exact Blk.new w.drew _ _
      have hC1 : Ch [] w w1 := by rw [hw]; exact ((Ch.refl [] w).drew).alloc _
      have hgN : g ∉ [w.heap.size] := by simp; omega
      have hsz1 : w.heap.size ≤ w1.heap.size := hC1.size
      have hvN : vb ∉ [w.heap.size] := by simp; omega
      have HF0 : ∀ w2 w3 (h1 : Ch [w.heap.size] w1 w2) (h2 : Ch [w.heap.size] w2 w3) (hb3 : Blk w3 w.heap.size 84 (lay1 (lay1 R cy (i * 2)) D ((i + 1) * 2)).toArray), Own w3 base 84 2 (.slice (some ⟨w.heap.size, 0, none⟩) (css.length + 1) G) (css.take i ++ cy :: css.drop i) ∧ Ch (Value.slice (some ⟨g, 0, none⟩) css.length c).ownBlock.toList w w3 := by
        intro w2 w3 h1 h2 hb3
        rw [show (i + 1) * 2 = i * 2 + 2 by rw [Nat.add_mul, Nat.one_mul]] at hb3
        have hl1 : (lay1 R cy (i * 2)).length = R.length := lay1_len (by have := hy.1; omega)
        have hl2 : (lay1 (lay1 R cy (i * 2)) D (i * 2 + 2)).length = R.length := by rw [lay1_len (by omega), hl1]
        refine ⟨own_ins hkk hy hi hbase hb3 hGn hGm (by simpa [hl2] using hRl) ?_, ((hC1.step h1 (by simp)).step h2 (by simp)).mono (by simp)⟩
        have := ins_new (L := R) (F := css.flatten) (cy := cy) (D := D) (p := i * 2) (q := css.length * 2) (k := 2) hRt hFl hD (by omega) hy.1 (by omega)
        rw [← hD]
        exact this
      have HF := Lib.hid HF0; clear HF0
      have hsD : ∀ w2, Ch [w.heap.size] w1 w2 → ∀ (j : Nat) (u : Value), D[j]? = some u → w2.cell? ((⟨g, i * 2, none⟩ : Addr).add j) = some u := fun w2 h1 j u hu => by
        rw [Addr.add_lit]
        exact cell_ch (cell_ch (hDs j u hu) hC1 (by simp)) h1 hgN
      have hsy : ∀ (j : Nat) (u : Value), cy[j]? = some u → w1.cell? ((⟨vb, 0, none⟩ : Addr).add j) = some u := fun j u hu => by
        rw [Addr.add_lit, Nat.zero_add]
        exact cell_ch (hys j u hu) hC1 (by simp)
      have hfy : i * 2 + cy.length ≤ R.length := by have := hy.1; omega
      have hfD : (i + 1) * 2 + D.length ≤ (lay1 R cy (i * 2)).length := by rw [lay1_len hfy]; omega
      have hmin2 : Nat.min (css.length - i) (css.length - i) = css.length - i := by show min _ _ = _; omega
      have hyy := hy.2
      have hyl : cy.length = 1 * 2 := by have := hy.1; omega
      have hDl2 : D.length = (css.length - i) * 2 := hDl
      have hGi : ¬ G = i := by omega
      have hGi1 : ¬ G = i + 1 := by omega
      have hG63 : G ≤ 9223372036854775807 := hGm
      have hws : IntKind.i64.wrap ((css.length : Int) + 1 - (i : Int)) = (css.length : Int) + 1 - (i : Int) := by rw [IntKind.wrap_i64]; omega
      clear h hg hB hSy hs ht hDs hys hD hkk hF1 HCH hFl htL hDl hLl hw hR hold hFi hFil hRl hRt hkI hik hG
      go_enter Tryz.func216, Tryz.ntmps216
      go_wp2_with (first
        | (at_builtin; refine Lib.wpList_append_run _ rfl _ _ _ _ rfl _ _ rfl rfl _ _ (hrz _) ?_)
        | (refine wpList_copy_k rfl _ _ _ _ rfl elT hB1 1 cy rfl rfl hmin1 hyl hsy hfy hyy ?_; intro w2 hB2 hC2))
      go_region_law (refine step_copy_k (w := w2.drew) (off := (i + 1) * 2) (dLen := css.length - i) (dCap := G - (i + 1)) (sLen := css.length - i) (sCap := c - i) (ad := ⟨g, i * 2, none⟩) rfl _ _ _ _ rfl elT (Blk.drew hB2) (css.length - i) D (by simp [Act.eval, Act.put]) (by simp [Act.eval, Act.put]) hmin2 hDl2 (hsD _ hC2.drew) hfD hD1 ?_; intro w3 hB3 hC3)
      go_wp2
      go_ret
      obtain ⟨r1, r2⟩ := HF.out _ _ (hC2.drew) hC3 hB3
      exact ⟨_, rfl, r1, r2, .inr rfl⟩
  · have hie : i = css.length := by omega
    subst hie
    clear hi
    rcases h.form with ⟨rfl, rfl⟩ | ⟨g, c, rfl, hbg, hgl⟩
    · go_enter Tryz.func216, Tryz.ntmps216
      go_wp2_with (at_builtin; refine wpList_append_sl rfl _ _ _ rfl elT (base := base) rfl h rfl hSy (by simp) hbase ?_; intro v1 w1 ho1 hc1 hat1 hn1; clear hn1)
      go_ret
      exact ⟨_, rfl, by simpa using ho1, hc1, hat1⟩
    · obtain ⟨_, h8⟩ : ∃ c', css.length ≤ c := by obtain ⟨a, c', e, h1, _⟩ := h.sl; injection e with _ _ e; exact ⟨0, e ▸ h1⟩
      obtain ⟨_, h9⟩ : ∃ c' : Nat, c ≤ maxLen := by obtain ⟨a, c', e, _, h1, _⟩ := h.sl; injection e with _ _ e; exact ⟨0, e ▸ h1⟩
      unfold maxLen at h9
      by_cases hcc : c = css.length
      all_goals
        go_enter Tryz.func216, Tryz.ntmps216
        go_wp2_with (at_builtin; refine wpList_append_sl rfl _ _ _ rfl elT (base := base) rfl h rfl hSy (by simpa using hbig) hbase ?_; intro v1 w1 ho1 hc1 hat1 hn1; clear hn1)
        go_ret
        exact ⟨_, rfl, by simpa using ho1, hc1, hat1⟩

set_option maxRecDepth 100000 in
set_option maxHeartbeats 1000000 in
theorem insG_ (base : Nat) (v : Value) (css : List (List Value)) (cy ry : List Value) (i vb : Nat) (w : World) (h : Own w base 242 3 v css) (hB : Blk w vb 242 (cy ++ ry).toArray) (hy : cy.length = 3 ∧ ∀ u ∈ cy, u.oneCell' = true) (hvb : v.ownBlock ≠ some vb)
    (hi : i ≤ css.length) (hbig : (css.length + 1) * 56 ≤ 140737488355328) (hbase : base ≤ w.heap.size) :
    Calls Tryz.prog 162 #[v, .int .i64 i, .slice (some ⟨vb, 0, none⟩) 1 1] w fun e w' => ∃ v', e = .returned v' ∧ Own w' base 242 3 v' (css.take i ++ cy :: css.drop i) ∧ Ch v.ownBlock.toList w w' ∧ (v'.ownBlock = v.ownBlock ∨ v'.ownBlock = some w.heap.size) := by
  have hvl := hB.lt
  have hSy := sl_blk2 hB hy
  rcases Nat.lt_or_ge i css.length with hlt | hge
  · obtain ⟨g, c, cur, rfl, hb, hg, hnc, hm, hs, ht⟩ : ∃ g c cur, v = .slice (some ⟨g, 0, none⟩) css.length c ∧ base ≤ g ∧ Blk w g 242 cur ∧ css.length ≤ c ∧ c ≤ maxLen ∧ cur.size = c * 3 ∧ cur.toList.take (css.length * 3) = css.flatten := by
      rcases h.1.2 with ⟨_, hz⟩ | h
      · omega
      · exact h
    have hgl := Blk.lt hg
    have hne : vb ≠ g := fun e => hvb (by rw [e]; rfl)
    have hkk := h.2
    have hFl := flat_len css 3 (fun cs hcs => (hkk cs hcs).1)
    have hF1 : ∀ u ∈ css.flatten, u.oneCell' = true := fun u hu => by
      obtain ⟨cs, h1, h2⟩ := List.mem_flatten.1 hu
      exact (hkk cs h1).2 u h2
    obtain ⟨D, hD⟩ : ∃ D, D = css.flatten.drop (i * 3) := ⟨_, rfl⟩
    have hDl : D.length = (css.length - i) * 3 := by rw [hD, List.length_drop, hFl]; omega
    have hD1 : ∀ u ∈ D, u.oneCell' = true := fun u hu => hF1 u (by rw [hD] at hu; exact List.mem_of_mem_drop hu)
    have hDs : ∀ (j : Nat) (u : Value), D[j]? = some u → w.cell? ⟨g, i * 3 + j, none⟩ = some u := fun j u hu => by
      have hj := (List.getElem?_eq_some_iff.1 hu).1
      rw [Blk.cell hg, ← Array.getElem?_toList]
      rw [hD, List.getElem?_drop, ← ht, List.getElem?_take] at hu
      rwa [if_pos (by omega)] at hu
    have hys : ∀ (j : Nat) (u : Value), cy[j]? = some u → w.cell? ⟨vb, j, none⟩ = some u := fun j u hu => by rw [hB.cell, List.getElem?_toArray, List.getElem?_append_left (List.getElem?_eq_some_iff.1 hu).1]; exact hu
    have hw1 : IntKind.i64.wrap ((i : Int) + 1) = (i : Int) + 1 := by rw [IntKind.wrap_i64]; unfold maxLen at hm; omega
    have hwn : IntKind.i64.wrap ((css.length : Int) + 1) = (css.length : Int) + 1 := by rw [IntKind.wrap_i64]; unfold maxLen at hm; omega
    have hb0 : (0 : Int) ≤ (i : Int) + 1 := by omega
    have hb1 : (i : Int) ≤ (css.length : Int) := by omega
    have hb2 : ¬ (i : Int) = (css.length : Int) := by omega
    have hb3 : (i : Int) + 1 ≤ (css.length : Int) + 1 := by omega
    have hb4 : (i : Int) ≤ (css.length : Int) + 1 := by omega
    have htn : ((i : Int) + 1).toNat = i + 1 := by omega
    have hci : ¬ c = i := by omega
    have HCH : Hid (∀ w', w'.os = w.os → w'.tape = w.tape → w'.output = w.output → w.heap.size ≤ w'.heap.size → (∀ k, k < w.heap.size → k ≠ g → w'.heap[k]? = w.heap[k]?) → Ch (Value.slice (some ⟨g, 0, none⟩) css.length c).ownBlock.toList w w') := fun w' h1 h2 h3 h4 h5 => ⟨h1, h2, h3, h4, fun k hk hn => h5 k hk (by simpa [Value.ownBlock] using hn)⟩
    unfold maxLen at hm
    obtain ⟨L, rfl⟩ : ∃ L : List Value, cur = L.toArray := ⟨cur.toList, by simp⟩
    have hLl : L.length = c * 3 := by simpa using hs
    have htL : L.take (css.length * 3) = css.flatten := by simpa using ht
    have hmin1 : Nat.min 1 (css.length + 1 - i) = 1 := by show min _ _ = _; omega
    by_cases hroom : css.length + 1 ≤ c
    · have hov : ∀ lb cb, (callFunc 227 #[.slice (some ⟨vb, 0, none⟩) 1 1, .slice (some ⟨g, (i + 1) * 3, none⟩) lb cb]).run Tryz.prog w = .ok (.value (.bool false)) w := fun lb cb => by
        rw [run_callFunc_extern Tryz.func227 (by kernel_rfl) (by kernel_rfl) (by kernel_rfl) (e := Extern.SlicesOverlaps.overlaps #[126, 126] #[4]) (by kernel_rfl),
          Lib.run_overlaps_apart w 126 4 242 Tryz.underlying126 3 (fun w => by obtain ⟨i0, z0, e1, _, e2, _⟩ := (elGr).i; simp [Go.sizeOf, typeInfo, e1, e2]) ⟨vb, 0, none⟩ ⟨g, (i + 1) * 3, none⟩ 1 1 lb cb hne 242 242 (cy ++ ry).length L.length (blk_shape hB) (blk_shape hg) (by omega) (hB.frozen 0) (hB.frozen _)]
        rfl
      have hr1 : ¬ (c : Int) < (css.length : Int) + 1 := by omega
      have hc2 : ¬ c = i + 1 := by omega
      have hg0 : Blk w.drew g 242 L.toArray := hg
      have hmin2 : Nat.min (css.length + 1 - i) (css.length - i) = css.length - i := by show min _ _ = _; omega
      have HF0 : ∀ w1 w2 (h1 : Ch [g] w.drew w1) (h2 : Ch [g] w1 w2) (hb2 : Blk w2 g 242 (lay1 (lay1 L D ((i + 1) * 3)) cy (i * 3)).toArray), Own w2 base 242 3 (.slice (some ⟨g, 0, none⟩) (css.length + 1) c) (css.take i ++ cy :: css.drop i) ∧ Ch (Value.slice (some ⟨g, 0, none⟩) css.length c).ownBlock.toList w w2 := by
        intro w1 w2 h1 h2 hb2
        rw [show (i + 1) * 3 = i * 3 + 3 by rw [Nat.add_mul, Nat.one_mul]] at hb2
        have hlD : (lay1 L D (i * 3 + 3)).length = L.length := lay1_len (by omega)
        have hly : (lay1 (lay1 L D (i * 3 + 3)) cy (i * 3)).length = L.length := by rw [lay1_len (by have := hy.1; omega), hlD]
        refine ⟨own_ins hkk hy hi hb hb2 hroom (by unfold maxLen; omega) (by simpa [hly] using hLl) ?_, (((Ch.refl [g] w).drew.trans h1).trans h2)⟩
        have := ins_place (L := L) (F := css.flatten) (cy := cy) (D := D) (p := i * 3) (q := css.length * 3) (k := 3) htL hD (by omega) hy.1 (by omega)
        rw [← hD]
        exact this
      have HF := Lib.hid HF0; clear HF0
      have hsD : ∀ (j : Nat) (u : Value), D[j]? = some u → w.drew.cell? ((⟨g, i * 3, none⟩ : Addr).add j) = some u := fun j u hu => by rw [Addr.add_lit]; exact hDs j u hu
      have hsy : ∀ w1, Ch [g] w.drew w1 → ∀ (j : Nat) (u : Value), cy[j]? = some u → w1.cell? ((⟨vb, 0, none⟩ : Addr).add j) = some u := fun w1 h1 j u hu => by
        rw [Addr.add_lit, Nat.zero_add]
        exact cell_ch (w := w.drew) (hys j u hu) h1 (by simp; omega)
      have hfD : (i + 1) * 3 + D.length ≤ L.length := by omega
      have hly1 : i * 3 + cy.length ≤ (lay1 L D ((i + 1) * 3)).length := by rw [lay1_len hfD]; have := hy.1; omega
      have hDl2 : D.length = (css.length - i) * 3 := hDl
      have hyy := hy.2
      have hyl : cy.length = 1 * 3 := by have := hy.1; omega
      clear h hg hB hSy hs ht hDs hys hD hkk hF1 HCH hFl htL hDl hLl
      go_enter Tryz.func162, Tryz.ntmps162
      go_wp2_with (simp only [hov])
      go_region_law (refine step_copy_k (off := (i + 1) * 3) (dLen := css.length - i) (dCap := c - (i + 1)) (sLen := css.length + 1 - i) (sCap := c - i) (ad := ⟨g, i * 3, none⟩) rfl _ _ _ _ rfl elGr hg0 (css.length - i) D (by simp [Act.eval, Act.put]) (by simp [Act.eval, Act.put]) hmin2 hDl2 hsD hfD hD1 ?_; intro w1 hB1 hC1)
      go_wp2_with (refine wpList_copy_k rfl _ _ _ _ rfl elGr hB1 1 cy rfl rfl hmin1 hyl (hsy _ hC1) hly1 hyy ?_; intro w2 hB2 hC2)
      go_ret
      obtain ⟨r1, r2⟩ := HF.out _ _ hC1 hC2 hB2
      exact ⟨_, rfl, r1, r2, .inl rfl⟩
    · have hr1 : (c : Int) < (css.length : Int) + 1 := by omega
      obtain ⟨i0, z0, hi0, hz0, hsize0, hby0, hzs0⟩ := (elGr).i
      have hold : (Builtin.firstCells i0.size i (.slice (some ⟨g, 0, none⟩) i c)).run Tryz.prog w.drew = .ok (css.take i).flatten.toArray w.drew := by
        rw [hsize0]
        refine run_firstCells_some w.drew 3 i ⟨g, 0, none⟩ i c (css.take i).flatten (by rw [flat_take css 3 (fun cs hcs => (hkk cs hcs).1), List.length_take, hFl]; omega) (fun j u hu => ?_)
        rw [Addr.add_lit, Nat.zero_add]
        show w.cell? _ = _
        rw [Blk.cell hg, List.getElem?_toArray]
        rw [flat_take css 3 (fun cs hcs => (hkk cs hcs).1), ← htL, List.take_take, List.getElem?_take] at hu
        split at hu
        · exact hu
        · cases hu
      have hik : i + (css.length + 1 - i) = css.length + 1 := by omega
      have hkI : (css.length : Int) + 1 - (i : Int) = ((css.length + 1 - i : Nat) : Int) := by omega
      obtain ⟨G, hG⟩ : ∃ G, G = grownCap w (css.length + 1) c 242 := ⟨_, rfl⟩
      have hGn : css.length + 1 ≤ G := by rw [hG]; exact grownCap_ge w _ _ _
      have hGm : G ≤ maxLen := by rw [hG]; exact grownCap_le_maxLen w _ _ _ (by unfold maxLen; omega)
      obtain ⟨R, hR⟩ : ∃ R : List Value, R = ((css.take i).flatten.toArray ++ Builtin.zeroCells z0.cells (css.length + 1 - i) ++ Builtin.zeroCells z0.cells (G - (css.length + 1))).toList := ⟨_, rfl⟩
      have hFi : (css.take i).flatten = css.flatten.take (i * 3) := flat_take css 3 (fun cs hcs => (hkk cs hcs).1) i
      have hFil : (css.flatten.take (i * 3)).length = i * 3 := by rw [List.length_take, hFl]; omega
      have hRl : R.length = G * 3 := by
        rw [hR, hFi]
        simp [Builtin.zeroCells, hzs0, hFl]
        omega
      have hRt : R.take (i * 3) = css.flatten.take (i * 3) := by
        rw [hR, hFi, Array.toList_append, Array.toList_append, List.append_assoc]
        show List.take _ (css.flatten.take (i * 3) ++ _) = _
        rw [List.take_append_of_le_length (by omega)]
        exact List.take_of_length_le (by omega)
      obtain ⟨w1, hw⟩ : ∃ w1, w1 = w.drew.alloc (.cells R.toArray 242) := ⟨_, rfl⟩
      have hrz : ∀ ty, (Builtin.append_ #[126, 3] ty #[.slice (some ⟨g, 0, none⟩) i c, .int .i64 ((css.length : Int) + 1 - (i : Int))]).run Tryz.prog w = .ok (.slice (some ⟨w.heap.size, 0, none⟩) (css.length + 1) G) w1 := fun ty => by
        have h9 := Lib.run_append_grow_zeros (P := Tryz.prog) w 126 3 ty 242 i0 z0 .i64 .i64 Tryz.underlying126 Tryz.underlying3 hi0 hz0 (some ⟨g, 0, none⟩) i c _ hold (css.length + 1 - i) (by omega) (by omega) (by omega) (by omega) (by rw [hby0]; omega) (by rw [hby0, hik]; exact growslice_fits (by omega) hbig)
        rw [hik, ← hG] at h9
        rw [hkI, h9, hw, hR, Array.toArray_toList]
      have hB1 : Blk w1 w.heap.size 242 R.toArray := by rw [hw]; exact Blk.new w.drew _ _
      have hC1 : Ch [] w w1 := by rw [hw]; exact ((Ch.refl [] w).drew).alloc _
      have hgN : g ∉ [w.heap.size] := by simp; omega
      have hsz1 : w.heap.size ≤ w1.heap.size := hC1.size
      have hvN : vb ∉ [w.heap.size] := by simp; omega
      have HF0 : ∀ w2 w3 (h1 : Ch [w.heap.size] w1 w2) (h2 : Ch [w.heap.size] w2 w3) (hb3 : Blk w3 w.heap.size 242 (lay1 (lay1 R cy (i * 3)) D ((i + 1) * 3)).toArray), Own w3 base 242 3 (.slice (some ⟨w.heap.size, 0, none⟩) (css.length + 1) G) (css.take i ++ cy :: css.drop i) ∧ Ch (Value.slice (some ⟨g, 0, none⟩) css.length c).ownBlock.toList w w3 := by
        intro w2 w3 h1 h2 hb3
        rw [show (i + 1) * 3 = i * 3 + 3 by rw [Nat.add_mul, Nat.one_mul]] at hb3
        have hl1 : (lay1 R cy (i * 3)).length = R.length := lay1_len (by have := hy.1; omega)
        have hl2 : (lay1 (lay1 R cy (i * 3)) D (i * 3 + 3)).length = R.length := by rw [lay1_len (by omega), hl1]
        refine ⟨own_ins hkk hy hi hbase hb3 hGn hGm (by simpa [hl2] using hRl) ?_, ((hC1.step h1 (by simp)).step h2 (by simp)).mono (by simp)⟩
        have := ins_new (L := R) (F := css.flatten) (cy := cy) (D := D) (p := i * 3) (q := css.length * 3) (k := 3) hRt hFl hD (by omega) hy.1 (by omega)
        rw [← hD]
        exact this
      have HF := Lib.hid HF0; clear HF0
      have hsD : ∀ w2, Ch [w.heap.size] w1 w2 → ∀ (j : Nat) (u : Value), D[j]? = some u → w2.cell? ((⟨g, i * 3, none⟩ : Addr).add j) = some u := fun w2 h1 j u hu => by
        rw [Addr.add_lit]
        exact cell_ch (cell_ch (hDs j u hu) hC1 (by simp)) h1 hgN
      have hsy : ∀ (j : Nat) (u : Value), cy[j]? = some u → w1.cell? ((⟨vb, 0, none⟩ : Addr).add j) = some u := fun j u hu => by
        rw [Addr.add_lit, Nat.zero_add]
        exact cell_ch (hys j u hu) hC1 (by simp)
      have hfy : i * 3 + cy.length ≤ R.length := by have := hy.1; omega
      have hfD : (i + 1) * 3 + D.length ≤ (lay1 R cy (i * 3)).length := by rw [lay1_len hfy]; omega
      have hmin2 : Nat.min (css.length - i) (css.length - i) = css.length - i := by show min _ _ = _; omega
      have hyy := hy.2
      have hyl : cy.length = 1 * 3 := by have := hy.1; omega
      have hDl2 : D.length = (css.length - i) * 3 := hDl
      have hGi : ¬ G = i := by omega
      have hGi1 : ¬ G = i + 1 := by omega
      have hG63 : G ≤ 9223372036854775807 := hGm
      have hws : IntKind.i64.wrap ((css.length : Int) + 1 - (i : Int)) = (css.length : Int) + 1 - (i : Int) := by rw [IntKind.wrap_i64]; omega
      clear h hg hB hSy hs ht hDs hys hD hkk hF1 HCH hFl htL hDl hLl hw hR hold hFi hFil hRl hRt hkI hik hG
      go_enter Tryz.func162, Tryz.ntmps162
      go_wp2_with (first
        | (at_builtin; refine Lib.wpList_append_run _ rfl _ _ _ _ rfl _ _ rfl rfl _ _ (hrz _) ?_)
        | (refine wpList_copy_k rfl _ _ _ _ rfl elGr hB1 1 cy rfl rfl hmin1 hyl hsy hfy hyy ?_; intro w2 hB2 hC2))
      go_region_law (refine step_copy_k (w := w2.drew) (off := (i + 1) * 3) (dLen := css.length - i) (dCap := G - (i + 1)) (sLen := css.length - i) (sCap := c - i) (ad := ⟨g, i * 3, none⟩) rfl _ _ _ _ rfl elGr (Blk.drew hB2) (css.length - i) D (by simp [Act.eval, Act.put]) (by simp [Act.eval, Act.put]) hmin2 hDl2 (hsD _ hC2.drew) hfD hD1 ?_; intro w3 hB3 hC3)
      go_wp2
      go_ret
      obtain ⟨r1, r2⟩ := HF.out _ _ (hC2.drew) hC3 hB3
      exact ⟨_, rfl, r1, r2, .inr rfl⟩
  · have hie : i = css.length := by omega
    subst hie
    clear hi
    rcases h.form with ⟨rfl, rfl⟩ | ⟨g, c, rfl, hbg, hgl⟩
    · go_enter Tryz.func162, Tryz.ntmps162
      go_wp2_with (at_builtin; refine wpList_append_sl rfl _ _ _ rfl elGr (base := base) rfl h rfl hSy (by simp) hbase ?_; intro v1 w1 ho1 hc1 hat1 hn1; clear hn1)
      go_ret
      exact ⟨_, rfl, by simpa using ho1, hc1, hat1⟩
    · obtain ⟨_, h8⟩ : ∃ c', css.length ≤ c := by obtain ⟨a, c', e, h1, _⟩ := h.sl; injection e with _ _ e; exact ⟨0, e ▸ h1⟩
      obtain ⟨_, h9⟩ : ∃ c' : Nat, c ≤ maxLen := by obtain ⟨a, c', e, _, h1, _⟩ := h.sl; injection e with _ _ e; exact ⟨0, e ▸ h1⟩
      unfold maxLen at h9
      by_cases hcc : c = css.length
      all_goals
        go_enter Tryz.func162, Tryz.ntmps162
        go_wp2_with (at_builtin; refine wpList_append_sl rfl _ _ _ rfl elGr (base := base) rfl h rfl hSy (by simpa using hbig) hbase ?_; intro v1 w1 ho1 hc1 hat1 hn1; clear hn1)
        go_ret
        exact ⟨_, rfl, by simpa using ho1, hc1, hat1⟩

end Go.Proofs.YtlficnfkekggjaaGreatDoor
