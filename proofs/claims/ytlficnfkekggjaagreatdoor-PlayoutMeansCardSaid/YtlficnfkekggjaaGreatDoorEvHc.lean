
/-
  Functions that are answered by a proved contract, not run: the order of strings, strings.Builder's copyCheck.
  Functions that are answered by a proved contract, not run: slices.Insert.
-/
import Derived.Test.YtlficnfkekggjaaGreatDoorEvZ
import Derived.Test.YtlficnfkekggjaaGreatDoorFacts
import Derived.Lib.Bytealg
import Derived.Lib.Builder
import Derived.Laws.Externs
import Derived.Shelf.Abstract
import Derived.Test.YtlficnfkekggjaaGreatDoorEvIns
namespace Go.Proofs.YtlficnfkekggjaaGreatDoor
open Go.RowKit Go.Ev Go.Shelf
/-! ### strings -/
theorem cmpBytes (x : List UInt8) : ∀ y : List UInt8, Lib.compareBytes x y = if Op.bytesLess x y = true then -1 else if x = y then 0 else 1 := by
  induction x with
  | nil => intro y; cases y <;> simp [Lib.compareBytes, Op.bytesLess]
  | cons a xs ih =>
    intro y
    cases y with
    | nil => simp [Lib.compareBytes, Op.bytesLess]
    | cons b ys =>
      simp only [Lib.compareBytes, Op.bytesLess, ih ys]
      by_cases h1 : a < b
      · simp [h1]
      · by_cases h2 : b < a
        · have h3 : ¬ a = b := fun e => by subst e; exact h1 h2
          simp [h1, h2, h3]
        · have h3 : a = b := UInt8.le_antisymm (UInt8.not_lt.1 h2) (UInt8.not_lt.1 h1)
          subst h3
          simp [h1]
section
variable {R : Type}
theorem u8_inj {a b : List UInt8} (h : a.map UInt8.toNat = b.map UInt8.toNat) : a = b := (List.map_inj_right (fun _x _y => UInt8.toNat_inj.1)).1 h
set_option maxRecDepth 100000 in
theorem hkCmp_sd : ∀ args s k r, s.base ≤ s.n → (hkCmp : HK R).run args s k = some r → ∃ v s', CallSd Tryz.prog 279 args s v s' ∧ Abs s s' ∧ k v s' = some r := by
  intro args s k r hb h
  unfold hkCmp at h
  simp only [] at h
  obtain ⟨n, a, hx, h⟩ := onS_some h
  obtain ⟨m, b, hy, h⟩ := onS_some h
  obtain ⟨hl, h⟩ := iff_some h
  have hl := beq_of hl
  rw [lenN_eq] at hl
  have main : ∀ φ us w, VRs φ args us → HR Tryz.prog φ s.h w → ∃ x y : ByteArray, us = [.string x, .string y] ∧ x.data.toList.map UInt8.toNat = a ∧ a.length = n ∧ y.data.toList.map UInt8.toNat = b ∧ b.length = m := fun φ us w hv HH => by
    match args, hl with
    | [p, q], _ =>
      obtain ⟨u, t, rfl, hu, u2, t2, rfl, hu2, ht⟩ := hv
      have hx : p = .vs n a := hx
      have hy : q = .vs m b := hy
      rw [hx] at hu; rw [hy] at hu2
      obtain ⟨x, rfl, h1, h2⟩ := hu
      obtain ⟨y, rfl, h3, h4⟩ := hu2
      rw [show t2 = [] from ht]
      exact ⟨x, y, rfl, h1, h2, h3, h4⟩
  have fin : ∀ v, (∀ φ (x y : ByteArray), x.data.toList.map UInt8.toNat = a → a.length = n → y.data.toList.map UInt8.toNat = b → b.length = m → VR φ v (.int .i64 (Lib.compareBytes x.data.toList y.data.toList))) → k v s = some r → ∃ v s', CallSd Tryz.prog 279 args s v s' ∧ Abs s s' ∧ k v s' = some r := fun v hv hk => by
    refine ⟨v, s, fun φ us w K hf hg hvs HH hK => ?_, Abs.refl s, hk⟩
    obtain ⟨x, y, rfl, h1, h2, h3, h4⟩ := main φ us w hvs HH
    unfold CallW
    rw [show [Value.string x, Value.string y].toArray = #[Value.string x, Value.string y] from rfl,
      run_callFunc_extern Tryz.func279 (by kernel_rfl) (by kernel_rfl) (by kernel_rfl) (e := Extern.BytealgCompare.compare) (by kernel_rfl), Lib.run_compareString]
    exact hK φ _ w (Step.refl HH) (hv φ x y h1 h2 h3 h4)
  rcases iff2 h with ⟨h1, h⟩ | ⟨h1, h⟩
  · refine fin _ (fun φ x y e1 _ e3 _ => ?_) h
    rw [← e1, ← e3, lltL_eq] at h1
    rw [cmpBytes, if_pos h1]
    rfl
  · rcases iff2 h with ⟨h2, h⟩ | ⟨h2, h⟩
    · refine fin _ (fun φ x y e1 e2 e3 e4 => ?_) h
      rw [← e2, ← e4, eqS_eq] at h2
      have he := u8_inj ((e1.trans (of_decide_eq_true h2)).trans e3.symm)
      rw [← e1, ← e3, lltL_eq] at h1
      rw [cmpBytes, if_neg (by simp [h1]), if_pos he]
      rfl
    · refine fin _ (fun φ x y e1 e2 e3 e4 => ?_) h
      rw [← e2, ← e4, eqS_eq] at h2
      have hne := of_decide_eq_false h2
      rw [← e1, ← e3, lltL_eq] at h1
      rw [cmpBytes, if_neg (by simp [h1]), if_neg (fun e => hne (by rw [← e1, ← e3, e]))]
      rfl
/-! ### strings.Builder's copyCheck -/
theorem depthP : ∃ d, Tryz.prog.depth = d + 2 := ⟨Tryz.prog.depth - 2, by kernel_rfl⟩
theorem lies_ (c : Nat) (hc : 1 ≤ c) : liesAt Tryz.prog Tryz.prog.depth 274 c 0 274 1 = true := by
  obtain ⟨d, hd⟩ := depthP
  rw [hd]
  unfold liesAt
  rw [hd]
  unfold rowAt sameLayout
  have hs : Tryz.prog.cellsOf 274 = 2 := by kernel_rfl
  simp [hs, hc]
theorem sizeB : (Tryz.prog.info? 274).map (·.size) = some 2 := by kernel_rfl
set_option maxRecDepth 100000 in
theorem checkFresh_ (b N : Nat) (w : World) (h0 : w.cell? ⟨b, 0, none⟩ = some (.pointer none)) (hsh : w.shape? b = some (274, N)) (hN : 2 ≤ N) (hfz : w.frozen? ⟨b, 0, none⟩ = false) :
    Calls Tryz.prog 242 #[.pointer (some ⟨b, 0, none⟩)] w fun e w' => e = .returned (.tuple #[]) ∧ w' = w.setCell ⟨b, 0, none⟩ (.pointer (some ⟨b, 0, none⟩)) := by
  obtain ⟨j, hj, hjs⟩ := Option.map_eq_some_iff.1 sizeB
  have hl : liesAt Tryz.prog Tryz.prog.depth 274 (N / Tryz.prog.cellsOf 274) 0 274 1 = true := lies_ _ (by rw [show Tryz.prog.cellsOf 274 = 2 by kernel_rfl]; omega)
  go_enter Tryz.func242, Tryz.ntmps242
  go_wp2
  rw [Lib.run_to_unsafe w ⟨b, 0, none⟩ Tryz.underlying271 Tryz.underlying361 hj (by rw [hjs]; decide) hsh (by show 0 < N; omega)]
  simp only [Result.andThen]
  rw [Oper.upon_value]
  go_wp2
  rw [run_callFunc_extern Tryz.func281 (by kernel_rfl) (by kernel_rfl) (by kernel_rfl) (e := Extern.AbiNoEscape.same) (by kernel_rfl)]
  rw [Lib.run_noEscape]
  simp only [Result.andThen]
  rw [Oper.upon_value]
  go_wp2
  rw [Lib.run_from_unsafe w ⟨b, 0, none⟩ Tryz.underlying361 Tryz.underlying271 hj hsh hl]
  simp only [Result.andThen]
  rw [Oper.upon_value]
  go_wp2
  go_end0
  exact ⟨rfl, rfl⟩
set_option maxRecDepth 100000 in
theorem checkUsed_ (b : Nat) (w : World) (h0 : w.cell? ⟨b, 0, none⟩ = some (.pointer (some ⟨b, 0, none⟩))) :
    Calls Tryz.prog 242 #[.pointer (some ⟨b, 0, none⟩)] w fun e w' => e = .returned (.tuple #[]) ∧ w' = w := by
  obtain ⟨j, hj, _⟩ := Option.map_eq_some_iff.1 sizeB
  go_enter Tryz.func242, Tryz.ntmps242
  go_wp2
  rw [Lib.run_neq_ptr_same w _ Tryz.underlying271 hj]
  go_wp2
  go_end0
  exact ⟨rfl, rfl⟩
set_option maxRecDepth 100000 in
theorem hkCheck_sd : ∀ args s k r, s.base ≤ s.n → (hkCheck 274 : HK R).run args s k = some r → ∃ v s', CallSd Tryz.prog 242 args s v s' ∧ Abs s s' ∧ k v s' = some r := by
  intro args s k r hb h
  unfold hkCheck at h
  simp only [] at h
  obtain ⟨b, o, hx, h⟩ := onP_some h
  obtain ⟨hl, h⟩ := iff_some h
  obtain ⟨ho, h⟩ := iff_some h
  have ho := beq_of ho
  subst ho
  have hl := beq_of hl
  rw [lenN_eq] at hl
  obtain ⟨hbl, h⟩ := getH_some h
  obtain ⟨ty, n, fz, pg, hlk, h⟩ := onC_some h
  obtain ⟨g1, h⟩ := iff_some h
  obtain ⟨g2, h⟩ := iff_some h
  obtain ⟨g3, h⟩ := iff_some h
  rw [getP_eq] at h
  obtain ⟨c0, hc0⟩ : ∃ c0, c0 = cell pg 0 := ⟨_, rfl⟩
  rw [← hc0] at h
  have e1 : ty = 274 := beq_of g1
  have e2 : fz = 0 := beq_of g3
  rw [e1] at hlk
  have g2 : 1 < n := blt_of g2
  have eg : ∀ args w, (callFunc 242 args).run Tryz.prog w = .ok (.enter 242 args) w := enters_of Tryz.func242 (by kernel_rfl) rfl
  have main : ∀ φ us w, VRs φ args us → HR Tryz.prog φ s.h w → ∃ x : Nat × Nat × Nat, φ b = some x ∧ us = [.pointer (some ⟨x.1, 0, none⟩)] ∧ (∃ u, w.cell? ⟨x.1, 0, none⟩ = some u ∧ VR φ (cell pg 0) u) ∧ (∃ N, w.shape? x.1 = some (274, N) ∧ 2 ≤ N) ∧ w.frozen? ⟨x.1, 0, none⟩ = false := fun φ us w hv HH => by
    match args, hl with
    | [p], _ =>
      obtain ⟨u, t, rfl, hu, ht⟩ := hv
      have hx : p = .vp b 0 := hx
      rw [hx] at hu
      obtain ⟨x, h1, rfl⟩ := hu
      rw [show t = [] from ht]
      have hB := HH.at_ b x h1
      rw [hlk] at hB
      obtain ⟨arr, lo, hi, hoA, hsz, hes, hN, hfz, hc⟩ := hB
      obtain ⟨u, q1, q2, _⟩ := hc 0 (by omega)
      exact ⟨x, h1, rfl, ⟨u, by rw [cell_row hoA]; exact q1, q2⟩, ⟨arr.size, by unfold World.shape?; rw [hoA], by omega⟩, frozen_row hoA hfz (by omega)⟩
  revert h
  cases c0 <;> intro hh <;> try (cases hh; done)
  case pn =>
    have hpn := hc0.symm
    have h : storeC s b 0 [.vp b 0] (fun s => k (.vt []) s) = some r := hh
    obtain ⟨bl, ha, h, H⟩ := storeC_some (P := Tryz.prog) h
    refine ⟨_, _, fun φ us w K hf hg hv HH hK => ?_, ha, h⟩
    obtain ⟨x, h1, rfl, ⟨u, h2, h3⟩, ⟨N, h4, h5⟩, h6⟩ := main φ us w hv HH
    rw [hpn] at h3
    rw [show u = _ from h3] at h2
    obtain ⟨_, q2⟩ := H φ w x [.pointer (some ⟨x.1, 0, none⟩)] HH h1 ⟨_, [], rfl, ⟨x, h1, rfl⟩, rfl⟩ (fun u hu => by simp at hu; subst hu; rfl)
    refine CallW.of eg ((checkFresh_ x.1 N w h2 h4 h5 h6).mono ?_)
    rintro e w' ⟨rfl, rfl⟩
    exact ⟨_, rfl, hK φ _ _ q2 ⟨[], rfl, rfl⟩⟩
  case vp b' o' =>
    have hvp := hc0.symm
    have h : iff (Nat.beq b' b) (iff (Nat.beq o' 0) (k (.vt []) s) none) none = some r := hh
    obtain ⟨g4, h⟩ := iff_some h
    obtain ⟨g5, hk⟩ := iff_some h
    have g4 := beq_of g4
    have g5 := beq_of g5
    subst g4; subst g5
    refine ⟨_, s, fun φ us w K hf hg hv HH hK => ?_, Abs.refl s, hk⟩
    obtain ⟨x, h1, rfl, ⟨u, h2, h3⟩, _, _⟩ := main φ us w hv HH
    rw [hvp] at h3
    obtain ⟨y, h4, rfl⟩ := h3
    rw [h1] at h4; injection h4 with h4; subst h4
    refine CallW.of eg ((checkUsed_ x.1 w h2).mono ?_)
    rintro e w' ⟨rfl, rfl⟩
    exact ⟨_, rfl, hK φ _ _ (Step.refl HH) ⟨[], rfl, rfl⟩⟩
end
end Go.Proofs.YtlficnfkekggjaaGreatDoor
namespace Go.Ev
section
variable {R : Type} {P : Program}
/-- a slice whose block goes on under another number, or is left for a new one -/
theorem Step.leave {s : S} {b : Nat} {bl : Blk} {φ : Phi} {w w' : World} {x y : Nat × Nat × Nat} (hb : φ b = some x) (hl : look s.h b ≠ .gone) (hn : s.n < 262144) (hφ : φ s.n = Option.none) (H : HR P φ s.h w)
    (hs : w.heap.size ≤ w'.heap.size) (hos : w'.os = w.os) (ht : w'.tape = w.tape) (hout : w'.output = w.output) (hfar : ∀ β, β < w.heap.size → β ≠ x.1 → w'.heap[β]? = w.heap[β]?)
    (hy : y.1 = x.1 ∨ w.heap.size ≤ y.1) (hy2 : y.1 < w'.heap.size) (hB : BR P φ y.2.1 y.2.2 bl w'.heap[y.1]?) :
    Step P φ (addPhi φ s.n y) s (newS (wrS s b .gone) bl) w w' := by
  have h0 := H.lt b x hb
  have hne : b ≠ s.n := fun e => by rw [e, hφ] at hb; cases hb
  have lk : ∀ c, c < 262144 → look (newS (wrS s b .gone) bl).h c = if s.n = c then bl else if b = c then .gone else look s.h c := fun c hc => by
    show look (updH (updH s.h b .gone) s.n bl) c = _
    rw [look_upd _ _ hn hc, look_upd _ _ h0.1 hc]
  -- an old number of the new block is b
  have lone : ∀ d z, φ d = some z → z.1 = y.1 → look s.h d ≠ .gone → d = b := fun d z hd hz hld => by
    rcases hy with hy | hy
    · exact H.inj d b z x hd hb (hz.trans hy) hld hl
    · have := H.lt d z hd; omega
  refine {
    ext := addPhi_le hφ
    new := fun c z h k => ?_
    hr := { lt := fun c z h => ?_, at_ := fun c z h => ?_, inj := fun c d u z hc hd hyz lc ld => ?_ }
    size := hs
    os := hos
    tape := ht
    output := hout
    frame := fun β hβ hall => ?_
    old := fun c z h k hlt => ?_ }
  · unfold addPhi at h
    split at h
    · rename_i e; subst e; exact ⟨Nat.le_refl _, Nat.lt_succ_self _⟩
    · rw [k] at h; cases h
  · unfold addPhi at h
    split at h
    · rename_i e; subst e; injection h with h; subst h; exact ⟨hn, hy2⟩
    · exact ⟨(H.lt c z h).1, Nat.lt_of_lt_of_le (H.lt c z h).2 hs⟩
  · unfold addPhi at h
    split at h
    · rename_i e; subst e; injection h with h; subst h
      rw [lk _ hn, if_pos rfl]
      exact hB.mono (addPhi_le hφ)
    · rename_i e
      have h1 := H.lt c z h
      rw [lk _ h1.1, if_neg (fun e' => e e'.symm)]
      split
      · trivial
      · rename_i e2
        by_cases hz : z.1 = x.1
        · cases hlk : look s.h c with
          | gone => trivial
          | _ => exact absurd (H.inj b c x z hb h hz.symm hl (by rw [hlk]; simp)) e2
        · rw [hfar z.1 h1.2 hz]
          exact (H.at_ c z h).mono (addPhi_le hφ)
  · unfold addPhi at hc hd
    by_cases ec : c = s.n
    · by_cases ed : d = s.n
      · rw [ec, ed]
      · rw [if_pos ec] at hc; rw [if_neg ed] at hd
        injection hc with hc; subst hc
        have h1 := H.lt d z hd
        rw [lk _ h1.1, if_neg (fun e' => ed e'.symm)] at ld
        split at ld
        · exact absurd rfl ld
        · rename_i e2; exact absurd (lone d z hd hyz.symm ld).symm e2
    · rw [if_neg ec] at hc
      have h1 := H.lt c u hc
      rw [lk _ h1.1, if_neg (fun e' => ec e'.symm)] at lc
      by_cases ed : d = s.n
      · rw [if_pos ed] at hd
        injection hd with hd; subst hd
        split at lc
        · exact absurd rfl lc
        · rename_i e2; exact absurd (lone c u hc hyz lc).symm e2
      · rw [if_neg ed] at hd
        have h2 := H.lt d z hd
        rw [lk _ h2.1, if_neg (fun e' => ed e'.symm)] at ld
        split at lc
        · exact absurd rfl lc
        · split at ld
          · exact absurd rfl ld
          · exact H.inj c d u z hc hd hyz lc ld
  · by_cases e : β = x.1
    · have := hall b x hb e.symm
      exact absurd ((wr_mem _ _ _ _).2 (.inr ⟨rfl, this.1⟩)) this.2
    · exact hfar β hβ e
  · unfold addPhi at h
    split at h
    · injection h with h; subst h
      refine ⟨b, x, hb, (hy.resolve_right (by omega)).symm, ?_⟩
      by_cases hbb : b < s.base
      · exact .inr ((wr_mem _ _ _ _).2 (.inr ⟨rfl, hbb⟩))
      · exact .inl (by omega)
    · rw [k] at h; cases h
theorem row_bl {s : S} {ty n : Nat} {cs : List V} {k : Nat → S → Option R} {r : R} (h : row s ty n cs k = some r) : ∃ pg, s.n < 262144 ∧ k s.n (newS s (.cel ty n 0 pg)) = some r ∧ ∀ i, i < cs.length → cs[i]? = some (cell pg i) := by
  unfold row at h
  obtain ⟨pg, h, hp⟩ := mkP_some h
  obtain ⟨hlt, h⟩ := fresh_some h
  exact ⟨pg, hlt, h, hp⟩
theorem VRs.take_ {φ : Phi} : ∀ {vs : List V} {us : List Value} (n : Nat), VRs φ vs us → VRs φ (vs.take n) (us.take n)
  | [], us, n, h => by rw [show us = [] from h]; simp [VRs]
  | v :: r, us, 0, ⟨u, t, e, h, l⟩ => by simp [VRs]
  | v :: r, us, n + 1, ⟨u, t, e, h, l⟩ => by subst e; exact ⟨u, t.take n, rfl, h, VRs.take_ n l⟩
theorem VRs.drop_ {φ : Phi} : ∀ {vs : List V} {us : List Value} (n : Nat), VRs φ vs us → VRs φ (vs.drop n) (us.drop n)
  | [], us, n, h => by rw [show us = [] from h]; simp [VRs]
  | v :: r, us, 0, h => h
  | v :: r, us, n + 1, ⟨u, t, e, h, l⟩ => by subst e; exact VRs.drop_ n l
/-- the first cells of a block -/
theorem first_cells {φ : Phi} {es N ty n fz : Nat} {pg : Pg} {o : Option Obj} (h : BR P φ es N (.cel ty n fz pg) o) {m : Nat} (hm : m ≤ n) : ∃ (arr : Array Value) (lo hi : Nat), o = some (.cells arr ty (lo, hi)) ∧ arr.size = N ∧ P.cellsOf ty = es ∧ n ≤ N ∧ (fz = 0 → lo = 0 ∧ hi = 0) ∧
    VRs φ (cells pg 0 m) (arr.toList.take m) ∧ ∀ u ∈ arr.toList.take m, u.oneCell' = true := by
  obtain ⟨arr, lo, hi, h1, h2, h3, h4, h5, h6⟩ := h
  have hl : (arr.toList.take m).length = m := by rw [List.length_take, Array.length_toList]; omega
  refine ⟨arr, lo, hi, h1, h2, h3, h4, fun e => h5.resolve_right (by omega), VRs.mk (by rw [hl, cells_len]) fun i v u e1 e2 => ?_, fun u hu => ?_⟩
  · have hi : i < m := by have := (List.getElem?_eq_some_iff.1 e2).1; omega
    rw [cells_at pg m 0 i hi, Nat.zero_add] at e1
    injection e1 with e1; subst e1
    rw [List.getElem?_take, if_pos hi, Array.getElem?_toList] at e2
    obtain ⟨u', a1, a2, _⟩ := h6 i (by omega)
    rw [e2] at a1; injection a1 with a1; subst a1
    exact a2
  · obtain ⟨i, hi⟩ := List.getElem?_of_mem hu
    have him : i < m := by have := (List.getElem?_eq_some_iff.1 hi).1; omega
    rw [List.getElem?_take, if_pos him, Array.getElem?_toList] at hi
    obtain ⟨u', a1, _, a3⟩ := h6 i (by omega)
    rw [hi] at a1; injection a1 with a1; subst a1
    exact a3
end
end Go.Ev
namespace Go.Proofs.YtlficnfkekggjaaGreatDoor
open Go.RowKit Go.Ev Go.Shelf
section
variable {R : Type}
/-- what slices.Insert says at a type -/
def InsC (g ty es by_ : Nat) : Prop := ∀ (base : Nat) (v : Value) (css : List (List Value)) (cy ry : List Value) (i vb : Nat) (w : World), Own w base ty es v css → Blk w vb ty (cy ++ ry).toArray → (cy.length = es ∧ ∀ u ∈ cy, u.oneCell' = true) → v.ownBlock ≠ some vb →
    i ≤ css.length → (css.length + 1) * by_ ≤ 140737488355328 → base ≤ w.heap.size →
    Calls Tryz.prog g #[v, .int .i64 i, .slice (some ⟨vb, 0, none⟩) 1 1] w fun e w' => ∃ v', e = .returned v' ∧ Own w' base ty es v' (css.take i ++ cy :: css.drop i) ∧ Ch v.ownBlock.toList w w' ∧ (v'.ownBlock = v.ownBlock ∨ v'.ownBlock = some w.heap.size)
/-- a list in pieces -/
def chunks {α : Type} (k : Nat) : Nat → List α → List (List α)
  | 0, _ => []
  | n + 1, l => l.take k :: chunks k n (l.drop k)
theorem chunks_len {α : Type} (k : Nat) : ∀ (n : Nat) (l : List α), (chunks k n l).length = n
  | 0, _ => rfl
  | n + 1, l => by rw [chunks, List.length_cons, chunks_len k n]
theorem chunks_flat {α : Type} (k : Nat) : ∀ (n : Nat) (l : List α), (chunks k n l).flatten = l.take (n * k)
  | 0, l => by simp [chunks]
  | n + 1, l => by rw [chunks, List.flatten_cons, chunks_flat k n, Nat.add_mul, Nat.one_mul, Nat.add_comm, List.take_add]
theorem chunks_mem {α : Type} (k : Nat) : ∀ (n : Nat) (l : List α), n * k ≤ l.length → ∀ c ∈ chunks k n l, c.length = k ∧ ∀ u ∈ c, u ∈ l.take (n * k)
  | 0, l, _, c, h => by cases h
  | n + 1, l, hl, c, h => by
    rw [Nat.add_mul, Nat.one_mul] at hl
    have hs : ∀ u, u ∈ l.take k ∨ u ∈ (l.drop k).take (n * k) → u ∈ l.take ((n + 1) * k) := fun u hu => by
      rw [Nat.add_mul, Nat.one_mul, Nat.add_comm, List.take_add]
      exact List.mem_append.2 hu
    rcases List.mem_cons.1 h with rfl | h
    · exact ⟨by rw [List.length_take]; omega, fun u hu => hs u (.inl hu)⟩
    · obtain ⟨h1, h2⟩ := chunks_mem k n (l.drop k) (by rw [List.length_drop]; omega) c h
      exact ⟨h1, fun u hu => hs u (.inr (h2 u hu))⟩
/-- the new row -/
theorem ins_BR {φ : Phi} {ty es n i : Nat} {pg : Pg} {cs old new : List V} {F cy : List Value} {css : List (List Value)} {w' : World} {g c : Nat} {v' : Value} (hes : Tryz.prog.cellsOf ty = es) (hv : v' = .slice (some ⟨g, 0, none⟩) (n + 1) c) (hcl : css.length = n) (hF : css.flatten = F) (hk : ∀ x ∈ css, x.length = es)
    (ho : VRs φ old F) (hn : VRs φ new cy) (hi : i ≤ n) (hcs : cs = old.take (i * es) ++ new ++ old.drop (i * es)) (_hcy : cy.length = es) (hp : ∀ j, j < cs.length → cs[j]? = some (cell pg j)) (hO : Own w' 0 ty es v' (css.take i ++ cy :: css.drop i)) :
    ∃ N, g < w'.heap.size ∧ BR Tryz.prog φ es N (.cel ty ((n + 1) * es) 0 pg) w'.heap[g]? ∧ n + 1 ≤ c ∧ 0 + c * es = N ∧ c ≤ maxLen := by
  have hlen : (css.take i ++ cy :: css.drop i).length = n + 1 := by simp; omega
  obtain ⟨⟨_, h1⟩, h2⟩ := hO
  rw [hlen] at h1
  rcases h1 with ⟨_, h1⟩ | ⟨g', c', cur, h3, _, h4, h5, h6, h7, h8⟩
  · omega
  · rw [hv] at h3
    injection h3 with h3a h3b h3c
    injection h3a with h3a
    injection h3a with h3a
    subst h3a; subst h3c
    have hflat : (css.take i ++ cy :: css.drop i).flatten = F.take (i * es) ++ cy ++ F.drop (i * es) := by
      rw [List.flatten_append, List.flatten_cons, flat_take css es hk, flat_drop css es hk, hF, List.append_assoc]
    have hvr : VRs φ cs (cur.toList.take ((n + 1) * es)) := by
      rw [h8, hflat, hcs]
      exact ((ho.take_ _).append hn).append (ho.drop_ _)
    have hone : ∀ u ∈ cur.toList.take ((n + 1) * es), u.oneCell' = true := fun u hu => by
      rw [h8] at hu
      obtain ⟨x, hx, hux⟩ := List.mem_flatten.1 hu
      exact (h2 x hx).2 u hux
    have hfit : (n + 1) * es ≤ cur.size := by rw [h7]; exact Nat.mul_le_mul_right es h5
    have hcsl : cs.length = (n + 1) * es := by
      have := hvr.len
      rw [List.length_take, Array.length_toList] at this
      omega
    refine ⟨cur.size, lt_of_heap h4, ⟨cur, 0, 0, h4, rfl, hes, hfit, .inl ⟨rfl, rfl⟩, fun j hj => ?_⟩, h5, by omega, h6⟩
    obtain ⟨u, q1, q2⟩ := hvr.at_ (hp j (by omega))
    have q3 := q1
    rw [List.getElem?_take, if_pos hj, Array.getElem?_toList] at q3
    exact ⟨u, q3, q2, hone u (List.mem_of_getElem? q1)⟩
set_option maxRecDepth 100000 in
theorem hkIns_sd {g ty es by_ : Nat} (hC : InsC g ty es by_) (eg : ∀ args w, (callFunc g args).run Tryz.prog w = .ok (.enter g args) w) (hes : Tryz.prog.cellsOf ty = es) (hby : by_ ≤ 100) :
    ∀ args s k r, s.base ≤ s.n → (hkIns es ty : HK R).run args s k = some r → ∃ v s', CallSd Tryz.prog g args s v s' ∧ Abs s s' ∧ k v s' = some r := by
  intro args s k r hb h
  unfold hkIns at h
  simp only [] at h
  obtain ⟨kd, i, hx1, h⟩ := onI_some h
  obtain ⟨hl, h⟩ := iff_some h
  rw [andB_eq] at hl
  obtain ⟨hkd, hl⟩ := hl
  have hkd := beq_of hkd
  have hl := beq_of hl
  rw [lenN_eq] at hl
  match args, hl, hx1, h with
  | [p0, p1, p2], _, hx1, h =>
  have hx1 : p1 = .vi kd i := hx1
  rw [hkd] at hx1
  subst hx1
  rcases onL_some h with ⟨vb, o2, n2, c2', hx2, h⟩ | ⟨_, _, _, _, h⟩ | ⟨_, h⟩ <;> try (cases h; done)
  have hx2 : p2 = .sl vb o2 n2 c2' := hx2
  obtain ⟨hc, h⟩ := iff_some h
  simp only [andB_eq] at hc
  rw [show o2 = 0 from beq_of hc.1, show n2 = 1 from beq_of hc.2.1, show c2' = 1 from beq_of hc.2.2] at hx2
  subst hx2
  rcases onL_some h with ⟨_, _, _, _, _, h⟩ | ⟨b, o, n, hx0, h⟩ | ⟨hx0, h⟩
  · cases h
  · have hx0 : p0 = .so b o n := hx0
    obtain ⟨hc, h⟩ := iff_some h
    rw [show o = 0 from beq_of hc] at hx0
    subst hx0
    unfold insSo at h
    rcases iff2 h with ⟨_, h⟩ | ⟨hbv, h⟩
    · cases h
    obtain ⟨hbl, h⟩ := getH_some h
    obtain ⟨ty', m, fz, pg, hlk, h⟩ := onC_some h
    obtain ⟨hvl, h⟩ := getH_some h
    obtain ⟨ty2, m2, fz2, pg2, hlk2, h⟩ := onC_some h
    obtain ⟨hc, h⟩ := iff_some h
    simp only [andB_eq] at hc
    obtain ⟨c1, c2, c3, c4, c5, c6⟩ := hc
    rw [show ty' = ty from beq_of c1, show fz = 0 from beq_of c3] at hlk
    rw [show ty2 = ty from beq_of c2, show fz2 = 0 from beq_of c4] at hlk2
    have c5 := ble_of c5
    have c6 := ble_of c6
    rw [natF_eq] at h
    obtain ⟨hc, h⟩ := iff_some h
    simp only [andB_eq] at hc
    have d1 : n * es ≤ m := ble_of hc.1
    have d2 : es ≤ m2 := ble_of hc.2
    rw [getsP_eq, getsP_eq, natF_eq, natF_eq, natF_eq] at h
    obtain ⟨_, h⟩ := wrote_some h
    obtain ⟨pgn, hsn, h, hp⟩ := row_bl h
    have hsn : s.n < 262144 := hsn
    have hlive : Go.Ev.look s.h b ≠ Go.Ev.Blk.gone := by rw [hlk]; simp
    refine ⟨_, _, fun φ us w K hf hg hv HH hK => ?_, (Abs.trans hb (wrS_abs hbl hlive) (newS_abs (s := wrS s b .gone) hb hsn)), h⟩
    obtain ⟨u0, t0, rfl, ⟨x, c, hφb, hnc, ⟨hcN, hcm⟩, rfl⟩, u1, t1, rfl, hu1, u2, t2, rfl, ⟨y, hφv, rfl⟩, ht⟩ := hv
    rw [show t2 = [] from ht, show u1 = .int .i64 (i : Int) from hu1]
    have hB := HH.at_ b x hφb
    rw [hlk] at hB
    obtain ⟨arr, lo, hi, e1, e2, e3, e4, e5, e6, e7⟩ := first_cells hB d1
    obtain ⟨rfl, rfl⟩ := e5 rfl
    have hB2 := HH.at_ vb y hφv
    rw [hlk2] at hB2
    obtain ⟨arr2, lo2, hi2, f1, f2, f3, f4, f5, f6, f7⟩ := first_cells hB2 d2
    obtain ⟨rfl, rfl⟩ := f5 rfl
    have hxe : x.2.1 = es := by rw [← e3, hes]
    rw [hxe, Nat.zero_add] at hcN
    have hFl : (arr.toList.take (n * es)).length = n * es := by rw [List.length_take, Array.length_toList]; omega
    have hmem := chunks_mem es n arr.toList (by rw [Array.length_toList]; omega)
    have hO : Own w 0 ty es (.slice (some ⟨x.1, 0, none⟩) n c) (chunks es n arr.toList) := by
      refine ⟨⟨by rw [chunks_flat, chunks_len, hFl], ?_⟩, fun cs hcs => ⟨(hmem cs hcs).1, fun u hu => e7 u ((hmem cs hcs).2 u hu)⟩⟩
      rw [chunks_len, chunks_flat]
      exact .inr ⟨x.1, c, arr, rfl, Nat.zero_le _, e1, hnc, hcm, by omega, rfl⟩
    have hne : x.1 ≠ y.1 := fun e => by
      have := HH.inj b vb x y hφb hφv e hlive (by rw [hlk2]; simp)
      rw [this, natbeq] at hbv
      simp at hbv
    have hcyl : (arr2.toList.take es).length = es := by rw [List.length_take, Array.length_toList]; omega
    refine CallW.of eg ((hC 0 _ _ (arr2.toList.take es) (arr2.toList.drop es) i y.1 w hO (by rw [List.take_append_drop]; exact f1) ⟨hcyl, f7⟩ (by simp [Value.ownBlock, hne]) (by rw [chunks_len]; exact c5) (by rw [chunks_len]; have := Nat.mul_le_mul (show n + 1 ≤ 1000001 by omega) hby; omega) (Nat.zero_le _)).mono ?_)
    rintro e w' ⟨v', rfl, hO', hCh, hor⟩
    have hv' : ∃ g' c', v' = .slice (some ⟨g', 0, none⟩) (n + 1) c' := by
      have hlen : (List.take i (chunks es n arr.toList) ++ arr2.toList.take es :: List.drop i (chunks es n arr.toList)).length = n + 1 := by simp [chunks_len]; omega
      have h1 := hO'.1.2
      rw [hlen] at h1
      rcases h1 with ⟨_, h1⟩ | ⟨g', c', cur, h3, _⟩
      · omega
      · exact ⟨g', c', h3⟩
    obtain ⟨g', c', rfl⟩ := hv'
    obtain ⟨N', n1, n2, n3, n4, n5⟩ := ins_BR (φ := φ) (pg := pgn) hes rfl (chunks_len es n _) (chunks_flat es n _) (fun x hx => (hmem x hx).1) e6 f6 c5 rfl hcyl hp hO'
    refine ⟨_, rfl, ?_⟩
    have hst := Step.leave (bl := .cel ty ((n + 1) * es) 0 pgn) (y := (g', es, N')) hφb hlive hsn (hf s.n (Nat.le_refl _)) HH hCh.size hCh.os hCh.tape hCh.output (fun β h1 h2 => hCh.block β h1 (by simpa [Value.ownBlock] using h2)) (by
      rcases hor with hor | hor
      · injection hor with hor; exact .inl hor
      · injection hor with hor; exact .inr (Nat.le_of_eq hor.symm)) n1 n2
    have hsz : Nat.add (n * es) es = (n + 1) * es := by rw [Nat.add_mul, Nat.one_mul]; rfl
    rw [← hsz] at hst
    exact hK _ _ _ hst ⟨_, c', addPhi_at _ _ _, n3, ⟨n4, n5⟩, rfl⟩
  · have hx0 : p0 = .sn := hx0
    subst hx0
    unfold insSn at h
    obtain ⟨hvl, h⟩ := getH_some h
    obtain ⟨ty2, m2, fz2, pg2, hlk2, h⟩ := onC_some h
    obtain ⟨hc, h⟩ := iff_some h
    simp only [andB_eq] at hc
    obtain ⟨c2, c4, c5, c6⟩ := hc
    rw [show ty2 = ty from beq_of c2, show fz2 = 0 from beq_of c4] at hlk2
    have c5 : i = 0 := beq_of c5
    have d2 : es ≤ m2 := ble_of c6
    rw [getsP_eq] at h
    obtain ⟨pgn, hsn, h, hp⟩ := row_bl h
    refine ⟨_, _, fun φ us w K hf hg hv HH hK => ?_, newS_abs hb hsn, h⟩
    obtain ⟨u0, t0, rfl, hu0, u1, t1, rfl, hu1, u2, t2, rfl, ⟨y, hφv, rfl⟩, ht⟩ := hv
    rw [show t2 = [] from ht, show u1 = .int .i64 ((0 : Nat) : Int) from by rw [← c5]; exact hu1, show u0 = .slice none 0 0 from hu0]
    have hB2 := HH.at_ vb y hφv
    rw [hlk2] at hB2
    obtain ⟨arr2, lo2, hi2, f1, f2, f3, f4, f5, f6, f7⟩ := first_cells hB2 d2
    obtain ⟨rfl, rfl⟩ := f5 rfl
    have hcyl : (arr2.toList.take es).length = es := by rw [List.length_take, Array.length_toList]; omega
    refine CallW.of eg ((hC 0 _ [] (arr2.toList.take es) (arr2.toList.drop es) 0 y.1 w (Own.nil w 0 ty es) (by rw [List.take_append_drop]; exact f1) ⟨hcyl, f7⟩ (by simp [Value.ownBlock]) (Nat.le_refl _) (by simp; omega) (Nat.zero_le _)).mono ?_)
    rintro e w' ⟨v', rfl, hO', hCh, hor⟩
    have hv' : ∃ g' c', v' = .slice (some ⟨g', 0, none⟩) (0 + 1) c' := by
      rcases hO'.1.2 with ⟨_, h1⟩ | ⟨g', c', cur, h3, _⟩
      · simp at h1
      · exact ⟨g', c', h3⟩
    obtain ⟨g', c', rfl⟩ := hv'
    obtain ⟨N', n1, n2, n3, n4, n5⟩ := ins_BR (φ := φ) (pg := pgn) (css := []) (old := []) (F := []) (cs := cells pg2 0 es) hes rfl rfl rfl (fun x hx => by cases hx) rfl f6 (Nat.le_refl _) (by simp) hcyl hp hO'
    have hg' : g' = w.heap.size := by
      rcases hor with hor | hor
      · cases hor
      · injection hor with hor
    subst hg'
    have hst := Step.fresh (bl := .cel ty ((0 + 1) * es) 0 pgn) (es := es) (N := N') hsn (hf s.n (Nat.le_refl _)) HH hCh.size hCh.os hCh.tape hCh.output (fun β h1 => hCh.block β h1 (by simp [Value.ownBlock])) (Nat.le_refl _) n1 n2
    rw [show (0 + 1) * es = es by omega] at hst
    exact ⟨_, rfl, hK _ _ _ hst ⟨_, c', addPhi_at _ _ _, n3, ⟨n4, n5⟩, rfl⟩⟩
theorem insC_T : InsC 216 84 2 40 := fun base v css cy ry i vb w h1 h2 h3 h4 h5 h6 h7 => insT_ base v css cy ry i vb w h1 h2 h3 h4 h5 h6 h7
theorem insC_G : InsC 162 242 3 56 := fun base v css cy ry i vb w h1 h2 h3 h4 h5 h6 h7 => insG_ base v css cy ry i vb w h1 h2 h3 h4 h5 h6 h7
end
end Go.Proofs.YtlficnfkekggjaaGreatDoor
