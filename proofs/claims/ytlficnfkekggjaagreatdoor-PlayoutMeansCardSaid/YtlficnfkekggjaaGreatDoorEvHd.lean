
/-
  Functions that are answered by a proved contract, not run: slices.Sorted and slices.SortedFunc over a map's keys.
-/
import Derived.Test.YtlficnfkekggjaaGreatDoorEvHc
import Derived.Test.YtlficnfkekggjaaGreatDoorEdSort
namespace Go.Ev
section
variable {R : Type}
/-- keys in order -/
noncomputable def insK (lt : V → V → Bool) (x : V) (l : List V) (k : List V → Option R) : Option R :=
  @List.rec _ (fun _ => (List V → Option R) → Option R) (fun k => k [x]) (fun y r ih k => iff (lt x y) (k (x :: y :: r)) (ih fun l => k (y :: l))) l k
noncomputable def sortK (lt : V → V → Bool) (l : List (V × V × Nat)) (k : List V → Option R) : Option R :=
  @List.rec _ (fun _ => (List V → Option R) → Option R) (fun k => k []) (fun x _ ih k => ih fun l => insK lt x.1 l k) l k
noncomputable def allB {α : Type} (f : α → Bool) (l : List α) : Bool := @List.rec _ (fun _ => Bool) true (fun x _ ih => andB (f x) ih) l
noncomputable def pwB {α : Type} (f : α → α → Bool) (l : List α) : Bool := @List.rec _ (fun _ => Bool) true (fun x r ih => andB (allB (f x) r) ih) l
def cellsV : V → List V | .va cs => cs | v => [v]
noncomputable def flatC (l : List V) : List V := @List.rec _ (fun _ => List V) [] (fun x _ ih => cellsV x ++ ih) l
noncomputable def onVm (v : V) (k : Nat → Option R) : Option R := match v with | .vm b => k b | _ => none
noncomputable def onVf1 (v : V) (g : Nat) (k : Nat → Option R) : Option R := match v with
  | .vf g' [.vp q o] => iff (andB (Nat.beq g' g) (Nat.beq o 0)) (k q) none
  | _ => none
/-- the rest of the arguments: none, or the function that compares -/
def cmpB : Option Nat → List V → Bool
  | none, [_] => true
  | some c, [_, .vf c' []] => Nat.beq c' c
  | _, _ => false
noncomputable def hkSort (g : Nat) (cmp : Option Nat) (lt : V → V → Bool) (ok : V → Bool) (nilOk : Bool) (es ty : Nat) : HK R := ⟨fun args s k => iff (cmpB cmp args) (onVf1 (hd args 0) g fun q => getH s.h q fun bl => onC bl fun _ m _ pg => iff (Nat.blt 0 m) (getP pg 0 fun v => onVm v fun b => getH s.h b fun bl => onM bl fun l clock =>
  iff (andB (pwB (fun x y => not (Nat.beq x.2.2 y.2.2)) l) (andB (allB (fun x => Nat.blt x.2.2 clock) l) (Nat.ble (lenN l) 1000000))) (sortK lt l fun ks =>
    iff (andB (pwB lt ks) (allB ok ks)) (iff (isNil ks) (iff nilOk (k .sn s) none) (natF (lenN ks) fun n => natF (Nat.mul n es) fun sz => row s ty sz (flatC ks) fun b s => k (.so b 0 n) s)) none) none) none) none⟩
noncomputable def ltS : V → V → Bool | .vs _ a, .vs _ b => lltL a b | _, _ => false
def okS : V → Bool | .vs n _ => Nat.ble n 1000000 | _ => false
noncomputable def ltE : V → V → Bool
  | .va [.vs n a, .vs m b, .vb x], .va [.vs n' c, .vs m' d, .vb y] => @Bool.rec (fun _ => Bool) (lltL a c) (@Bool.rec (fun _ => Bool) (lltL b d) (andB (not x) y) (eqS m b m' d)) (eqS n a n' c)
  | _, _ => false
def okE : V → Bool | .va [.vs _ _, .vs _ _, .vb _] => true | _ => false
theorem insK_some {lt : V → V → Bool} {x : V} : ∀ {l : List V} {k : List V → Option R} {r : R}, insK lt x l k = some r → ∃ m, k m = some r ∧ m.Perm (x :: l)
  | [], k, r, h => ⟨_, h, List.Perm.refl _⟩
  | y :: l, k, r, h => by
    have h : iff (lt x y) (k (x :: y :: l)) (insK lt x l fun l => k (y :: l)) = some r := h
    rcases iff2 h with ⟨_, h⟩ | ⟨_, h⟩
    · exact ⟨_, h, List.Perm.refl _⟩
    · obtain ⟨m, hm, hp⟩ := insK_some h
      exact ⟨_, hm, (hp.cons y).trans (List.Perm.swap x y l)⟩
theorem sortK_some {lt : V → V → Bool} : ∀ {l : List (V × V × Nat)} {k : List V → Option R} {r : R}, sortK lt l k = some r → ∃ m, k m = some r ∧ m.Perm (l.map (·.1))
  | [], k, r, h => ⟨_, h, List.Perm.refl _⟩
  | x :: l, k, r, h => by
    have h : sortK lt l (fun l => insK lt x.1 l k) = some r := h
    obtain ⟨m, hm, hp⟩ := sortK_some h
    obtain ⟨m', hm', hp'⟩ := insK_some hm
    exact ⟨m', hm', hp'.trans (hp.cons _)⟩
theorem allB_eq {α : Type} {f : α → Bool} {l : List α} : allB f l = true ↔ ∀ x ∈ l, f x = true := by
  induction l with
  | nil => simp [allB]
  | cons x l ih =>
    show andB (f x) (allB f l) = true ↔ _
    rw [andB_eq, ih]; simp
theorem pwB_eq {α : Type} {f : α → α → Bool} {l : List α} : pwB f l = true ↔ l.Pairwise fun x y => f x y = true := by
  induction l with
  | nil => simp [pwB]
  | cons x l ih =>
    show andB (allB (f x) l) (pwB f l) = true ↔ _
    rw [andB_eq, ih, allB_eq, List.pairwise_cons]
end
end Go.Ev
namespace Go.Proofs.YtlficnfkekggjaaGreatDoor
open Go.RowKit Go.Ev Go.Shelf Go.Sort
/-! ### the contracts, over a closure whose variable lies anywhere -/
section
theorem sortedK_ {H : Type} (Bm b nn : Nat) (D0 : DataW H) (R : Value → Option (DataW H × List MemPlace)) (w : World) (hBm : Bm < w.heap.size) (hm : w.cell? ⟨Bm, 0, none⟩ = some (.map (some b))) (hown : w.ownsMap Tryz.prog 9 R b nn D0) (hmax : Maps.size D0 ≤ maxLen) (hbytes : Maps.size D0 * 16 ≤ 140737488355328) :
    Calls Tryz.prog 263 #[.func (.func 296) #[] #[.pointer (some ⟨Bm, 0, none⟩)]] w fun e w' => ∃ (v : Value) (ss : List (List UInt8)), e = .returned v ∧ ss.Perm (Go.strKeys D0) ∧
      w'.ownsRow w.heap.size 9 1 v ss.length ((ss.mergeSort (fun x y => decide (x ≤ y))).map encStr) ∧ (v = .slice none 0 0 ↔ ss = []) ∧ Below w.heap.size w w' := by
  have hseq : SeqGives Fence.wide 2 Tryz.prog 296 #[.pointer (some ⟨Bm, 0, none⟩)] encStr (fun ss => ss.Perm (Go.strKeys D0)) (Maps.size D0) w :=
    AnyZ.keys_gives (ρ := lay_keysS_ren) { lay_keysS with } Fence.wide _ trivial rfl (by omega) Bm b nn D0 _ hBm hm hown
  exact callsIn_wide.1 (AnyZ.sorted_in lay_sortedS Fence.wide 5 trivial trivial trivial trivial rfl (by omega) (sorts_ _) (enters_of Tryz.func295 (by kernel_rfl) rfl) 296 #[.pointer (some ⟨Bm, 0, none⟩)] trivial (enters_of Tryz.func296 (by kernel_rfl) rfl) _ _ hmax hbytes _ hseq)
attribute [local go_sem] Oper.semAt_some
set_option maxHeartbeats 1000000 in
theorem collectK_ (Bm b : Nat) (kv : List (Ed × Value)) (w : World) (hBm : Bm < w.heap.size) (hm : w.cell? ⟨Bm, 0, none⟩ = some (.map (some b))) (h : MapAt w encE b kv) (hn : kv.length ≤ 1000000000) :
    Calls Tryz.prog 259 #[.func (.func 261) #[] #[.pointer (some ⟨Bm, 0, none⟩)]] w fun e w' =>
      ∃ v xs, e = .returned v ∧ xs.Perm (kv.map (·.1)) ∧ w'.ownsRow w.heap.size 228 3 v xs.length (flatE xs) ∧ Below w.heap.size w w' := by
  have hk := keysE_stops 2 (by omega) Bm b kv w hBm hm h
  have eg : ∀ args w, (callFunc 261 args).run Tryz.prog w = .ok (.enter 261 args) w := enters_of Tryz.func261 (by kernel_rfl) rfl
  have hcon := callsIn_wide.1 (appendSeqE 3 (by omega) _ _ eg _ _ _ hn _ hk)
  clear hk eg
  go_enter Tryz.func259, Tryz.ntmps259
  go_wp2_with (go_at_call 291; refine hcon.mono ?_; rintro e w' ⟨v, xs, rfl, hp, hrow, hB⟩)
  go_ret
  exact ⟨v, xs, rfl, hp, hrow, hB⟩
theorem sorted_row {W : World} {base g cap n m : Nat} {os : Array Obj} {xs ys : List Ed} (hl : ys.length = xs.length) (h : W.ownsRow base 228 3 (.slice (some ⟨g, 0, none⟩) m cap) xs.length (flatE xs)) :
    (sortWorldK Ed.enc 3 W g 0 n ys.toArray os).ownsRow base 228 3 (.slice (some ⟨g, 0, none⟩) xs.length cap) xs.length (flatE ys) := by
  have hfl : (flatE ys).length = xs.length * 3 := by
    rw [← hl]; unfold flatE; exact (flat_len (ys.map Ed.enc) 3 (fun c hc => by obtain ⟨x, _, rfl⟩ := List.mem_map.1 hc; rfl)).trans (by rw [List.length_map])
  have hS := sorted_sl (n := n) (os := os) hl h
  rcases h.2 with ⟨h0, _⟩ | ⟨g', c', cur, e, hb, hbk, h1, h2, h3, h4⟩
  · cases h0
  · injection e with e1 e2 e3
    injection e1 with e1
    injection e1 with e1
    subst e1; subst e2; subst e3
    have hg := lt_of_heap hbk
    have hblk : ∃ cur', (sortWorldK Ed.enc 3 W g 0 n ys.toArray os).heap[g]? = some (.cells cur' 228 (0, 0)) ∧ cur'.size = cur.size := by
      unfold sortWorldK putRowK
      rw [heap_grow_old _ _ (by simpa [putRow, mapBlock, Sort.ahead] using hg)]
      simp only [putRow, mapBlock, Sort.ahead, Array.getElem?_modify, if_true, hbk, Option.map_some, onCells]
      exact ⟨_, rfl, by simp [putCells]⟩
    obtain ⟨cur', hb', hsz⟩ := hblk
    refine ⟨hfl, .inr ⟨g, cap, cur', rfl, hb, hb', h1, h2, by rw [hsz]; exact h3, ?_⟩⟩
    apply List.ext_getElem?
    intro j
    rw [List.getElem?_take]
    by_cases hj : j < xs.length * 3
    · rw [if_pos hj, Array.getElem?_toList]
      have hjy : j < ys.length * 3 := by rw [hl]; exact hj
      rw [flatE_at ys j hjy]
      -- the cell, by what the slice reads
      obtain ⟨a, c, hv, _, _, hcells⟩ := hS
      injection hv with hv1 hv2 hv3
      have hd : j / 3 < ys.length := by omega
      obtain ⟨_, b', o', ha, _, hu⟩ := hcells (j / 3) (Ed.enc ys[j / 3]) (by rw [List.getElem?_map, List.getElem?_eq_getElem hd]; rfl)
      rw [← hv1] at ha
      injection ha with ha
      injection ha with ha1 ha2
      subst ha1; subst ha2
      have hx : ys.toArray[j / 3]! = ys[j / 3] := by simp [hd]
      rw [hx]
      have := hu (j % 3) ((Ed.enc ys[j / 3])[j % 3]!) (by rw [List.getElem?_eq_getElem (by rw [enc_len]; omega), getElem!_pos _ _ (by rw [enc_len]; omega)])
      rw [show 0 + (j / 3 * 3 + j % 3) = j by omega, cell_row hb'] at this
      exact this
    · rw [if_neg hj, List.getElem?_eq_none (by omega)]
theorem sortK_ (base : Nat) (v : Value) (xs : List Ed) (W : World) (hm : xs.length ≤ 1000000000) (h : W.ownsRow base 228 3 v xs.length (flatE xs)) :
    Calls Tryz.prog 260 #[v, .func (.func 210) #[] #[]] W fun e w' => e = .returned (.tuple #[]) ∧ Ch v.ownBlock.toList W w' ∧ w'.ownsRow base 228 3 v xs.length (flatE (sortEd xs)) := by
  rcases h.2 with ⟨rfl, h0⟩ | ⟨g, cap, cur, rfl, _⟩
  · have hx : xs = [] := List.eq_nil_of_length_eq_zero h0
    subst hx
    have := AnyF.slices_SortFunc_none (P := Tryz.prog) { lay_sortFuncE with } none 0 (.func (.func 210) #[] #[]) W
    refine Calls.mono (P := Tryz.prog) this ?_
    rintro e w' ⟨rfl, rfl⟩
    exact ⟨rfl, Ch.refl _ _, by rw [show sortEd [] = [] from by simp [sortEd]]; exact h⟩
  · have hg : g < W.heap.size := (h.lt g rfl).2
    have eg : ∀ args w, (callFunc 210 args).run Tryz.prog w = .ok (.enter 210 args) w := enters_of Tryz.func210 (by kernel_rfl) rfl
    have hcmp : CmpLays Tryz.prog 210 #[] Ed.enc 3 edCmp g 0 xs.toArray.size W := fun _ _ _ _ x y => compareEdges_ x y _
    have hcon := AnyQ.slices_SortFunc_total lay_sortFuncE 3 Tryz.isAgg228 Tryz.sizeOf228 Ed.enc enc_len enc_one edCmp swoEd 210 #[] g 0 cap xs.toArray W eg hcmp (holds_row h) hg (by simp; omega) totEd
    change Calls Tryz.prog 260 _ _ _ at hcon
    rw [List.size_toArray] at hcon
    refine hcon.mono ?_
    rintro e w' ⟨rfl, n, os, rfl⟩
    exact ⟨rfl, sort_ch _, sorted_row (sortEd_len xs) h⟩
set_option maxHeartbeats 1000000 in
theorem sortedFuncK_ (Bm b : Nat) (kv : List (Ed × Value)) (w : World) (hBm : Bm < w.heap.size) (hm : w.cell? ⟨Bm, 0, none⟩ = some (.map (some b))) (h : MapAt w encE b kv) (hn : kv.length ≤ 1000000000) :
    Calls Tryz.prog 208 #[.func (.func 261) #[] #[.pointer (some ⟨Bm, 0, none⟩)], .func (.func 210) #[] #[]] w fun e w' =>
      ∃ v es, e = .returned v ∧ w'.ownsRow w.heap.size 228 3 v es.length (flatE es) ∧ Below w.heap.size w w' ∧ Asc edLess es ∧ ∀ x, x ∈ es ↔ x ∈ kv.map (·.1) := by
  have hnd := Lib.hid h.nodup
  have hcol := collectK_ Bm b kv w hBm hm h hn
  clear h hm hBm
  go_enter Tryz.func208, Tryz.ntmps208
  go_wp2_with (first
    | (go_at_call 259; refine hcol.mono ?_; rintro e w1 ⟨v1, xs, rfl, hp, hrow, hB⟩)
    | (go_at_call 260; refine (sortK_ w.heap.size v1 xs w1 (by have := hp.length_eq; rw [List.length_map] at this; omega) hrow).mono ?_; rintro e w2 ⟨rfl, hc, hsl⟩))
  go_ret
  obtain ⟨h1, h2⟩ := sortEd_eq hp hnd.out
  refine ⟨_, _, rfl, by rw [sortEd_len]; exact hsl, ⟨hc.os.trans hB.os, hc.tape.trans hB.tape, hc.output.trans hB.output, Nat.le_trans hB.size hc.size, fun k hk => ?_⟩, h1, h2⟩
  rw [hc.block k (Nat.lt_of_lt_of_le hk hB.size) (fun hx => ?_)]
  · exact hB.block k hk
  · cases ho : v1.ownBlock with
    | none => rw [ho] at hx; cases hx
    | some g =>
      rw [ho] at hx
      have := (hrow.lt g ho).1
      simp at hx; omega
end
/-! ### the hooks -/
section
variable {R : Type}
theorem entries_ {α : Type} {φ : Phi} {enc : α → Value} {dE : V → α} {ok : V → Bool} (hok : ∀ φ x u, ok x = true → VR φ x u → u = enc (dE x)) : ∀ (l : List (V × V × Nat)) (es : List MapEntry), es.length = l.length →
    (∀ (i : Nat) (x : V × V × Nat) (y : MapEntry), l[i]? = some x → es[i]? = some y → VR φ x.1 y.key ∧ VR φ x.2.1 y.val ∧ y.born = x.2.2) → (∀ x ∈ l, ok x.1 = true) →
    ∃ kv : List (α × Value), es.map (·.key) = kv.map (fun x => enc x.1) ∧ es.map (·.val) = kv.map (·.2) ∧ kv.map (·.1) = l.map (fun x => dE x.1) ∧ es.map (·.born) = l.map (·.2.2) ∧ ∀ x ∈ l, VR φ x.1 (enc (dE x.1))
  | [], es, hl, _, _ => by
    rw [List.eq_nil_of_length_eq_zero hl]
    exact ⟨[], rfl, rfl, rfl, rfl, fun x hx => by cases hx⟩
  | x :: l, [], hl, _, _ => by simp at hl
  | x :: l, y :: es, hl, hr, ho => by
    obtain ⟨kv, h1, h2, h3, h4, h5⟩ := entries_ hok l es (by simpa using hl) (fun i a b ha hb => hr (i + 1) a b (by simpa using ha) (by simpa using hb)) (fun a ha => ho a (List.mem_cons_of_mem _ ha))
    obtain ⟨r1, r2, r3⟩ := hr 0 x y rfl rfl
    have he := hok φ x.1 y.key (ho x List.mem_cons_self) r1
    refine ⟨(dE x.1, y.val) :: kv, by simp [h1, he], by simp [h2], by simp [h3], by simp [h4, r3], fun a ha => ?_⟩
    rcases List.mem_cons.1 ha with rfl | ha
    · rw [← he]; exact r1
    · exact h5 a ha
/-- a new row that the call owns -/
theorem row_BR {φ : Phi} {w' : World} {base ty es n : Nat} {v : Value} {xs : List Value} {cs : List V} {pg : Pg} (h : w'.ownsRow base ty es v n xs) (hn : n ≠ 0) (hes : Tryz.prog.cellsOf ty = es) (hv : VRs φ cs xs) (h1 : ∀ u ∈ xs, u.oneCell' = true) (hp : ∀ j, j < cs.length → cs[j]? = some (cell pg j)) :
    ∃ g c N, v = .slice (some ⟨g, 0, none⟩) n c ∧ base ≤ g ∧ g < w'.heap.size ∧ BR Tryz.prog φ es N (.cel ty (n * es) 0 pg) w'.heap[g]? ∧ n ≤ c ∧ 0 + c * es = N ∧ c ≤ maxLen := by
  obtain ⟨hl, h⟩ := h
  rcases h with ⟨_, h⟩ | ⟨g, c, cur, rfl, hb, hbk, h2, h3, h4, h5⟩
  · exact absurd h hn
  · have hfit : n * es ≤ cur.size := by rw [h4]; exact Nat.mul_le_mul_right es h2
    have hcl : cs.length = n * es := by rw [← hl]; exact hv.len.symm
    refine ⟨g, c, cur.size, rfl, hb, lt_of_heap hbk, ⟨cur, 0, 0, hbk, rfl, hes, hfit, .inl ⟨rfl, rfl⟩, fun j hj => ?_⟩, h2, by omega, h3⟩
    obtain ⟨u, q1, q2⟩ := hv.at_ (hp j (by omega))
    have q3 := q1
    rw [← h5, List.getElem?_take, if_pos hj, Array.getElem?_toList] at q3
    exact ⟨u, q3, q2, h1 u (List.mem_of_getElem? q1)⟩
theorem flatC_VR {α : Type} {φ : Phi} {enc : α → Value} {dE : V → α} {cells : α → List Value} {ok : V → Bool} (hc : ∀ y, ok y = true → VR φ y (enc (dE y)) → VRs φ (cellsV y) (cells (dE y))) : ∀ ks : List V, (∀ y ∈ ks, ok y = true ∧ VR φ y (enc (dE y))) → VRs φ (flatC ks) ((ks.map dE).map cells).flatten
  | [], _ => rfl
  | y :: ks, h => (hc y (h y List.mem_cons_self).1 (h y List.mem_cons_self).2).append (flatC_VR hc ks fun a ha => h a (List.mem_cons_of_mem _ ha))
set_option maxRecDepth 100000 in
/-- what a sorting hook asks and gives -/
theorem hkSort_sd {α : Type} {enc : α → Value} {dE : V → α} {cells : α → List Value} {ok : V → Bool} {lt : V → V → Bool} {less : α → α → Bool} {g f es ty : Nat} {nilOk : Bool} {cmp : Option Nat} (rest : List Value) (hok : ∀ φ x u, ok x = true → VR φ x u → u = enc (dE x))
    (hlt : ∀ φ x y, ok x = true → ok y = true → VR φ x (enc (dE x)) → VR φ y (enc (dE y)) → lt x y = true → less (dE x) (dE y) = true) (O : STO less) (hcells : ∀ φ x, ok x = true → VR φ x (enc (dE x)) → VRs φ (cellsV x) (cells (dE x)) ∧ (cells (dE x)).length = es) (hone : ∀ x, ∀ u ∈ cells x, u.oneCell' = true)
    (hcmp : ∀ φ a us, cmpB cmp a = true → VRs φ a us → us = us.take 1 ++ rest) (hty : Tryz.prog.cellsOf ty = es) (eg : ∀ args w, (callFunc f args).run Tryz.prog w = .ok (.enter f args) w)
    (hC : ∀ (Bm b : Nat) (kv : List (α × Value)) (w : World), Bm < w.heap.size → w.cell? ⟨Bm, 0, none⟩ = some (.map (some b)) → MapAt w enc b kv → kv.length ≤ 1000000 → (∀ x ∈ kv, ∃ φ y, ok y = true ∧ VR φ y (enc x.1)) →
      Calls Tryz.prog f (.func (.func g) #[] #[.pointer (some ⟨Bm, 0, none⟩)] :: rest).toArray w fun e w' => ∃ v ls, e = .returned v ∧ w'.ownsRow w.heap.size ty es v ls.length (ls.map cells).flatten ∧ Below w.heap.size w w' ∧ Asc less ls ∧ (∀ x, x ∈ ls ↔ x ∈ kv.map (·.1)) ∧ (nilOk = true → ls = [] → v = .slice none 0 0)) :
    ∀ args s k r, s.base ≤ s.n → (hkSort g cmp lt ok nilOk es ty : HK R).run args s k = some r → ∃ v s', CallSd Tryz.prog f args s v s' ∧ Abs s s' ∧ k v s' = some r := by
  intro args s k r hb h
  unfold hkSort at h
  simp only [] at h
  obtain ⟨hcb, h⟩ := iff_some h
  unfold onVf1 at h
  split at h
  · rename_i g' q o hd0
    obtain ⟨hgo, h⟩ := iff_some h
    rw [andB_eq] at hgo
    rw [show g' = g from beq_of hgo.1, show o = 0 from beq_of hgo.2] at hd0
    obtain ⟨hql, h⟩ := getH_some h
    obtain ⟨ty1, m, fz, pg, hlk, h⟩ := onC_some h
    obtain ⟨hm, h⟩ := iff_some h
    have hm := blt_of hm
    rw [getP_eq] at h
    unfold onVm at h
    split at h
    · rename_i b hvm
      obtain ⟨hbl, h⟩ := getH_some h
      obtain ⟨l, clock, hlkm, h⟩ : ∃ l clock, Go.Ev.look s.h b = .mp l clock ∧ _ := by
        cases hlk2 : Go.Ev.look s.h b with
        | gone => rw [hlk2] at h; cases h
        | cel _ _ _ _ => rw [hlk2] at h; cases h
        | mp l clock => rw [hlk2] at h; exact ⟨l, clock, rfl, h⟩
      obtain ⟨hck, h⟩ := iff_some h
      simp only [andB_eq, pwB_eq, allB_eq] at hck
      obtain ⟨k1, k2, k3⟩ := hck
      rw [lenN_eq] at k3
      have k3 := ble_of k3
      obtain ⟨ks, h, hperm⟩ := sortK_some h
      obtain ⟨hck2, h⟩ := iff_some h
      simp only [andB_eq, pwB_eq, allB_eq] at hck2
      obtain ⟨j1, j2⟩ := hck2
      -- what it gives, the slice told
      have main : ∀ φ us w (K : Value → World → Prop), (∀ b, s.n ≤ b → φ b = none) → VRs φ args us → HR Tryz.prog φ s.h w →
          (∀ v w', w'.ownsRow w.heap.size ty es v ks.length ((ks.map dE).map cells).flatten → Below w.heap.size w w' → (nilOk = true → ks = [] → v = .slice none 0 0) → VRs φ (flatC ks) ((ks.map dE).map cells).flatten → (∀ u ∈ ((ks.map dE).map cells).flatten, u.oneCell' = true) → K v w') → CallW Tryz.prog f us w K := fun φ us w K hf hv HH hK => by
          have hus : ∃ x : Nat × Nat × Nat, φ q = some x ∧ us = .func (.func g) #[] #[.pointer (some ⟨x.1, 0, none⟩)] :: rest := by
            cases args with
            | nil => cases hd0
            | cons p args =>
              have hd0 : p = .vf g [.vp q 0] := hd0
              have hr := hcmp φ _ us hcb hv
              obtain ⟨u, t, rfl, hu, _⟩ := hv
              rw [hd0] at hu
              obtain ⟨cs, rfl, u', t', rfl, ⟨x, hx, rfl⟩, ht'⟩ := hu
              rw [show t' = [] from ht'] at hr ⊢
              exact ⟨x, hx, by simpa using hr⟩
          obtain ⟨x, hx, rfl⟩ := hus
          have hBq := HH.at_ q x hx
          rw [hlk] at hBq
          obtain ⟨arr, lo, hi, a1, _, _, _, _, a6⟩ := hBq
          obtain ⟨u, u1, u2, _⟩ := a6 0 hm
          rw [hvm] at u2
          obtain ⟨z, hz, rfl⟩ := u2
          have hBm := HH.at_ b z hz
          rw [hlkm] at hBm
          obtain ⟨ents, b1, b2, b3⟩ := hBm
          have hokl : ∀ y ∈ l, ok y.1 = true := fun y hy => j2 y.1 (hperm.mem_iff.2 (List.mem_map.2 ⟨y, hy, rfl⟩))
          obtain ⟨kv, c1, c2, c3, c4, c5⟩ := entries_ hok l ents b2 b3 hokl
          have hvk : ∀ y ∈ ks, ok y = true ∧ VR φ y (enc (dE y)) := fun y hy => by
            refine ⟨j2 y hy, ?_⟩
            obtain ⟨e, he, rfl⟩ := List.mem_map.1 (hperm.mem_iff.1 hy)
            exact c5 e he
          have hasc : Asc less (ks.map dE) := List.pairwise_map.2 (j1.imp_of_mem fun {a b} ha hb' hab => hlt φ a b (hvk a ha).1 (hvk b hb').1 (hvk a ha).2 (hvk b hb').2 hab)
          have hndk : (ks.map dE).Nodup := hasc.imp fun {a b} hab e => by rw [e, O.irr b] at hab; cases hab
          have hpk : (ks.map dE).Perm (kv.map (·.1)) := by rw [c3]; have := hperm.map dE; rwa [List.map_map] at this
          have hM : MapAt w enc z.1 kv := ⟨ents.toArray, clock, b1, by simpa using c1, by simpa using c2, hpk.nodup_iff.1 hndk, fun e he => by
              have he : e ∈ ents := by simpa using he
              obtain ⟨y, hy, hyb⟩ : ∃ y ∈ l, y.2.2 = e.born := by
                have : e.born ∈ l.map (·.2.2) := by rw [← c4]; exact List.mem_map.2 ⟨e, he, rfl⟩
                obtain ⟨y, hy, hyb⟩ := List.mem_map.1 this
                exact ⟨y, hy, hyb⟩
              rw [← hyb]; exact blt_of (k2 y hy), by
              rw [show (ents.toArray.toList.map fun x => x.born) = l.map (·.2.2) from by simpa using c4]
              exact List.pairwise_map.2 (k1.imp fun {a b} hab e => by
                have : (not (Nat.beq a.2.2 b.2.2)) = true := hab
                rw [e, natbeq] at this; simp at this)⟩
          have hlen : kv.length = l.length := by have := congrArg List.length c3; simpa using this
          refine CallW.of eg ((hC x.1 z.1 kv w (HH.lt q x hx).2 (by rw [cell_row a1]; exact u1) hM (by omega) (fun y hy => ?_)).mono ?_)
          · have : y.1 ∈ l.map (fun x => dE x.1) := by rw [← c3]; exact List.mem_map.2 ⟨y, hy, rfl⟩
            obtain ⟨e, he, hey⟩ := List.mem_map.1 this
            exact ⟨φ, e.1, hokl e he, by rw [← hey]; exact c5 e he⟩
          rintro e w' ⟨v, ls, rfl, hrow, hB, hA, hmem, hnil⟩
          have hls : ls = ks.map dE := asc_ext O hA hasc fun y => by rw [hmem, hpk.mem_iff]
          subst hls
          have hvr : VRs φ (flatC ks) ((ks.map dE).map cells).flatten ∧ (∀ u ∈ ((ks.map dE).map cells).flatten, u.oneCell' = true) := by
            refine ⟨?_, fun u hu => by
              obtain ⟨c, hc, huc⟩ := List.mem_flatten.1 hu
              obtain ⟨y, _, rfl⟩ := List.mem_map.1 hc
              exact hone y u huc⟩
            exact flatC_VR (fun y h1 h2 => (hcells φ y h1 h2).1) ks hvk
          rw [List.length_map] at hrow
          exact ⟨_, rfl, hK v w' hrow hB (fun h1 h2 => hnil h1 (by rw [h2]; rfl)) hvr.1 hvr.2⟩
      rcases iff2 h with ⟨hn, h⟩ | ⟨hn, h⟩
      · obtain ⟨hno, h⟩ := iff_some h
        have hks := isNil_eq.1 hn
        refine ⟨_, s, fun φ us w K hf hg hv HH hK => main φ us w K hf hv HH fun v w' _ hB hz _ _ => ?_, Abs.refl s, h⟩
        rw [hz hno hks]
        exact hK φ _ w' (Step.keep HH hB.size hB.os hB.tape hB.output fun β h1 => hB.block β h1) rfl
      · rw [natF_eq, natF_eq, lenN_eq] at h
        obtain ⟨pgn, hsn, h, hp⟩ := row_bl h
        have hnn : ks.length ≠ 0 := fun e => by rw [List.eq_nil_of_length_eq_zero e] at hn; simp [isNil] at hn
        refine ⟨_, _, fun φ us w K hf hg hv HH hK => main φ us w K hf hv HH fun v w' hrow hB _ v1 v2 => ?_, newS_abs hb hsn, h⟩
        obtain ⟨g1, c, N, rfl, n1, n2, n3, n4, n5, n6⟩ := row_BR hrow hnn hty v1 v2 hp
        have hst := Step.fresh (bl := .cel ty (ks.length * es) 0 pgn) (es := es) (N := N) hsn (hf s.n (Nat.le_refl _)) HH hB.size hB.os hB.tape hB.output (fun β h1 => hB.block β h1) n1 n2 n3
        exact hK _ _ _ hst ⟨_, c, addPhi_at _ _ _, n4, ⟨n5, n6⟩, rfl⟩
    · cases h
  · cases h
/-! ### names -/
def bs8 (l : List Nat) : ByteArray := ⟨(l.map UInt8.ofNat).toArray⟩
def dS : V → ByteArray | .vs _ l => bs8 l | _ => ⟨#[]⟩
theorem bs8_eq (b : ByteArray) : bs8 (b.data.toList.map UInt8.toNat) = b := by
  unfold bs8
  rw [List.map_map]
  have : (UInt8.ofNat ∘ UInt8.toNat) = id := by funext x; exact UInt8.ofNat_toNat
  rw [this, List.map_id]
set_option maxRecDepth 100000 in
theorem VR_str {φ : Phi} {n : Nat} {l : List Nat} {u : Value} (h : VR φ (.vs n l) u) : u = .string (bs8 l) ∧ (bs8 l).data.toList.map UInt8.toNat = l ∧ (bs8 l).size = n ∧ l.length = n := by
  obtain ⟨b, h1, h2, h3⟩ := h
  subst h2
  rw [bs8_eq]
  exact ⟨h1, rfl, by rw [← h3, List.length_map, Array.length_toList]; rfl, h3⟩
theorem lltL_bs {φ : Phi} {n m : Nat} {a b : List Nat} {u v : Value} (ha : VR φ (.vs n a) u) (hb : VR φ (.vs m b) v) : lltL a b = sLt (bs8 a) (bs8 b) := by
  have h1 := (VR_str ha).2.1
  have h2 := (VR_str hb).2.1
  unfold sLt
  rw [toList_bs, toList_bs, ← lltL_eq, h1, h2]
theorem eqS_bs {φ : Phi} {n m : Nat} {a b : List Nat} {u v : Value} (ha : VR φ (.vs n a) u) (hb : VR φ (.vs m b) v) : Go.Ev.eqS n a m b = decide (bs8 a = bs8 b) := by
  have h1 := VR_str ha
  have h2 := VR_str hb
  rw [← h1.2.2.2, ← h2.2.2.2, eqS_eq]
  by_cases h : a = b
  · subst h; simp
  · rw [decide_eq_false h, decide_eq_false (fun e => h (by rw [← h1.2.1, ← h2.2.1, e]))]
set_option maxRecDepth 100000 in
theorem hkSorted_sd : ∀ args s k r, s.base ≤ s.n → (hkSort 296 none ltS okS true 1 9 : HK R).run args s k = some r → ∃ v s', CallSd Tryz.prog 263 args s v s' ∧ Abs s s' ∧ k v s' = some r := by
  refine hkSort_sd (enc := encB) (dE := dS) (cells := encS) (less := sLt) [] ?_ ?_ sLt_sto ?_ ?_ ?_ (by kernel_rfl) (enters_of Tryz.func263 (by kernel_rfl) rfl) ?_
  · intro φ x u hx hv
    cases x <;> simp [okS] at hx
    exact (VR_str hv).1
  · intro φ x y hx hy vx vy hl
    cases x <;> simp [okS] at hx
    cases y <;> simp [okS] at hy
    have hl : lltL _ _ = true := hl
    rw [lltL_bs vx vy] at hl
    exact hl
  · intro φ x hx vx
    cases x <;> simp [okS] at hx
    exact ⟨⟨_, [], rfl, vx, rfl⟩, rfl⟩
  · intro x u hu
    simp [encS] at hu
    subst hu
    rfl
  · intro φ a us ha hv
    match a, ha with
    | [_], _ =>
      obtain ⟨u, t, rfl, _, ht⟩ := hv
      rw [show t = [] from ht]
      rfl
  · intro Bm b kv w h1 h2 h3 h4 h5
    have hs : ∀ x ∈ kv, x.1.size ≤ 1000000 := fun x hx => by
      obtain ⟨φ, y, hy, hv⟩ := h5 x hx
      cases y <;> simp [okS] at hy
      rename_i n l
      have h6 := VR_str hv
      have : x.1 = bs8 l := by have := h6.1; simp only [encB] at this; injection this
      rw [this, h6.2.2.1]
      exact hy
    obtain ⟨D, hown, hperm, hsize⟩ := owns_of h3 (fun x hx => by have := hs x hx; unfold maxLen; omega) (by unfold maxLen; omega)
    refine (sortedK_ Bm b kv.length D _ w h1 h2 hown (by rw [hsize]; unfold maxLen; omega) (by rw [hsize]; omega)).mono ?_
    rintro e w' ⟨v, ss, rfl, hp, hrow, hz, hB⟩
    have hp2 : ss.Perm ((kv.map (·.1)).map fun x => x.data.toList) := by rw [List.map_map]; exact hp.trans hperm
    have he := sorted_eq hp2 h3.nodup
    refine ⟨v, insAll (kv.map (·.1)), rfl, ?_, hB, asc_insAll _, fun x => mem_insAll _ _, fun _ hl => hz.2 ?_⟩
    rotate_left
    · have h1 := congrArg List.length he
      rw [hl, List.length_map, (List.mergeSort_perm ss _).length_eq] at h1
      exact List.eq_nil_of_length_eq_zero h1
    rw [← he, flat_S, List.map_map, List.length_map, (List.mergeSort_perm ss _).length_eq]
    exact hrow
/-! ### edges -/
def dEd : V → Ed | .va [.vs _ a, .vs _ b, .vb n] => ⟨bs8 a, bs8 b, n⟩ | _ => ⟨⟨#[]⟩, ⟨#[]⟩, false⟩
theorem okE_shape {x : V} (h : okE x = true) : ∃ n a m b t, x = .va [.vs n a, .vs m b, .vb t] := by
  unfold okE at h
  split at h
  · exact ⟨_, _, _, _, _, rfl⟩
  · cases h
theorem VR_ed {φ : Phi} {n m : Nat} {a b : List Nat} {t : Bool} {u : Value} (h : VR φ (.va [.vs n a, .vs m b, .vb t]) u) : u = encE ⟨bs8 a, bs8 b, t⟩ ∧ VR φ (.vs n a) (.string (bs8 a)) ∧ VR φ (.vs m b) (.string (bs8 b)) := by
  obtain ⟨us, rfl, ⟨u1, r1, rfl, h1, u2, r2, rfl, h2, u3, r3, rfl, h3, h4⟩, _⟩ := h
  have e1 := (VR_str h1).1
  have e2 := (VR_str h2).1
  subst e1; subst e2
  rw [show u3 = .bool t from h3, show r3 = [] from h4]
  exact ⟨rfl, h1, h2⟩
set_option maxRecDepth 100000 in
theorem hkSortedFunc_sd : ∀ args s k r, s.base ≤ s.n → (hkSort 261 (some 210) ltE okE false 3 228 : HK R).run args s k = some r → ∃ v s', CallSd Tryz.prog 208 args s v s' ∧ Abs s s' ∧ k v s' = some r := by
  refine hkSort_sd (enc := encE) (dE := dEd) (cells := Ed.enc) (less := edLess) [.func (.func 210) #[] #[]] ?_ ?_ edLess_sto ?_ enc_one ?_ (by kernel_rfl) (enters_of Tryz.func208 (by kernel_rfl) rfl) ?_
  · intro φ x u hx hv
    obtain ⟨n, a, m, b, t, rfl⟩ := okE_shape hx
    exact (VR_ed hv).1
  · intro φ x y hx hy vx vy hl
    obtain ⟨n, a, m, b, t, rfl⟩ := okE_shape hx
    obtain ⟨n', a', m', b', t', rfl⟩ := okE_shape hy
    obtain ⟨_, x1, x2⟩ := VR_ed vx
    obtain ⟨_, y1, y2⟩ := VR_ed vy
    have hl : @Bool.rec (fun _ => Bool) (lltL a a') (@Bool.rec (fun _ => Bool) (lltL b b') (andB (not t) t') (Go.Ev.eqS m b m' b')) (Go.Ev.eqS n a n' a') = true := hl
    show edLess ⟨bs8 a, bs8 b, t⟩ ⟨bs8 a', bs8 b', t'⟩ = true
    unfold edLess
    simp only
    rw [eqS_bs x1 y1, eqS_bs x2 y2, lltL_bs x1 y1, lltL_bs x2 y2] at hl
    by_cases e1 : bs8 a = bs8 a'
    · rw [if_pos e1]
      rw [decide_eq_true e1] at hl
      by_cases e2 : bs8 b = bs8 b'
      · rw [if_pos e2]
        rw [decide_eq_true e2] at hl
        have := andB_eq.1 hl
        simp [this.1, this.2]
      · rw [if_neg e2]
        rw [decide_eq_false e2] at hl
        exact hl
    · rw [if_neg e1]
      rw [decide_eq_false e1] at hl
      exact hl
  · intro φ x hx vx
    obtain ⟨n, a, m, b, t, rfl⟩ := okE_shape hx
    obtain ⟨_, x1, x2⟩ := VR_ed vx
    exact ⟨⟨_, _, rfl, x1, _, _, rfl, x2, _, _, rfl, rfl, rfl⟩, rfl⟩
  · intro φ a us ha hv
    match a, ha with
    | [_, .vf c []], ha =>
      obtain ⟨u, t, rfl, _, u2, t2, rfl, h2, ht⟩ := hv
      obtain ⟨cs, rfl, hcs⟩ := h2
      have ha : Nat.beq c 210 = true := ha
      rw [show t2 = [] from ht, show cs = [] from hcs, beq_of ha]
      rfl
  · intro Bm b kv w h1 h2 h3 h4 h5
    exact (sortedFuncK_ Bm b kv w h1 h2 h3 (by omega)).mono fun e w' ⟨v, es, a1, a2, a3, a4, a5⟩ => ⟨v, es, a1, a2, a3, a4, a5, fun h => by cases h⟩
end
end Go.Proofs.YtlficnfkekggjaaGreatDoor
