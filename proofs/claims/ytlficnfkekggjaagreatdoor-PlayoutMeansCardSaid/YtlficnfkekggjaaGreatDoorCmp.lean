
/-
  The contracts of cmp.Compare[string], cmp.Or[int] and depend.compareEdges.
-/
import Derived.Test.YtlficnfkekggjaaGreatDoorSmall3
import Derived.Test.YtlficnfkekggjaaGreatDoorOrder
import Derived.Shelf.SlSortCmp.NoneTotal
import Derived.StillTailTactics
namespace Go.Proofs.YtlficnfkekggjaaGreatDoor
open Go.RowKit Go.Sort Go.Shelf

def cmpS (a b : ByteArray) : Int := if sLt a b then -1 else if sLt b a then 1 else 0
theorem bl_other {a b : List UInt8} (h1 : Op.bytesLess a b = false) (h2 : ¬ a = b) : Op.bytesLess b a = true := by
  cases h : Op.bytesLess b a with
  | true => rfl
  | false => exact absurd (bl_total _ _ h1 h) h2
theorem isNaN_ (x : ByteArray) (w : World) : Calls Tryz.prog 293 #[.string x] w fun e w' => e = .returned (.bool false) ∧ w = w' := by
  go_enter Tryz.func293, Tryz.ntmps293
  go_wp2
  go_ret
  exact ⟨by simp, rfl⟩
set_option maxHeartbeats 1000000 in
theorem cmpCompare (x y : ByteArray) (w : World) : Calls Tryz.prog 262 #[.string x, .string y] w fun e w' => e = .returned (.int .i64 (cmpS x y)) ∧ w = w' := by
  go_enter Tryz.func262, Tryz.ntmps262
  go_wp2_with (go_at_call 293; refine (isNaN_ _ _).mono ?_; rintro e w' ⟨rfl, rfl⟩)
  all_goals go_ret
  all_goals refine ⟨?_, rfl⟩
  · have h1 : Op.bytesLess x.toList y.toList = true := by assumption
    simp [cmpS, sLt, h1]
  · have h1 : Op.bytesLess x.toList y.toList = false := by assumption
    have h2 : (!x.toList == y.toList) = true := by assumption
    have h2 : ¬ x.toList = y.toList := by simpa using h2
    simp [cmpS, sLt, h1, bl_other h1 h2]
  · have h2 : (!x.toList == y.toList) = false := by assumption
    have h2 : x.toList = y.toList := by simpa using h2
    simp [cmpS, sLt, h2, bl_irr]
def orI : List Int → Int
  | [] => 0
  | x :: r => if x ≠ 0 then x else orI r
theorem orI_at : ∀ (l : List Int) (k : Nat) (h : k < l.length), (∀ i (hi : i < k), l[i] = 0) → l[k] ≠ 0 → orI l = l[k]
  | x :: r, 0, _, _, hx => by simp only [List.getElem_cons_zero] at hx ⊢; simp [orI, hx]
  | x :: r, k + 1, h, hn, hx => by
    have h0 : x = 0 := hn 0 (by omega)
    have := orI_at r k (by simpa using h) (fun i hi => hn (i + 1) (by omega)) (by simpa using hx)
    simp [orI, h0, this]
theorem orI_none : ∀ (l : List Int), (∀ i (hi : i < l.length), l[i] = 0) → orI l = 0
  | [], _ => rfl
  | x :: r, hn => by
    have h0 : x = 0 := hn 0 (by simp)
    simp [orI, h0, orI_none r (fun i hi => hn (i + 1) (by simpa using hi))]
set_option maxHeartbeats 1000000 in
theorem cmpOr (p) (v : Value) (xs : List Int) (w : World) (h : SlI p w v xs) : Calls Tryz.prog 224 #[v] w fun e w' => e = .returned (.int .i64 (orI xs)) ∧ w = w' := by
  obtain ⟨a, c, rfl, hlc, hm⟩ := h.form
  unfold maxLen at hm
  go_enter Tryz.func224, Tryz.ntmps224
  go_wp2
  go_loop [8] (fun i => ∃ k : Nat, k ≤ xs.length ∧ i = .int .i64 k ∧ Hid (∀ i (hi : i < xs.length), i < k → xs[i] = 0)) (fun i => xs.length - (intOf i).toNat)
  case atStart => exact ⟨0, Nat.zero_le _, rfl, by intro i _ h; omega⟩
  case round =>
    obtain ⟨k, hk, rfl, HN⟩ := hrel
    by_cases hlt : k < xs.length
    · obtain ⟨b, o, rfl, hp, c0⟩ := h.at_ hlt
      have hat := Lib.hid (orI_at xs k hlt (fun i hi => HN.out i (by omega) hi))
      go_wp2
      · have hx : (xs[k] != 0) = true := by assumption
        have hx : ¬ xs[k] = 0 := by simpa using hx
        go_ret
        exact ⟨by rw [hat.out hx]; rfl, rfl⟩
      · have hx : (xs[k] != 0) = false := by assumption
        have hx : xs[k] = 0 := by simpa using hx
        go_round
        case rel => exact ⟨k + 1, by omega, by go_num, fun i hi hik => by rcases Nat.lt_succ_iff_lt_or_eq.1 hik with h1 | h1; exact HN.out i hi h1; subst h1; exact hx⟩
        case measure => simp [intOf]; omega
    · have hx := Lib.hid (orI_none xs (fun i hi => HN.out i hi (by omega)))
      go_wp2
      go_ret
      exact ⟨by rw [hx.out]; rfl, rfl⟩

def edCmp (x y : Ed) : Int :=
  let c := orI [cmpS x.f y.f, cmpS x.t y.t]
  if c ≠ 0 ∨ x.n = y.n then c else if y.n then -1 else 1

theorem sl_two (w : World) (a b : Int) : SlI (fun b => b = w.heap.size) (w.alloc (.cells #[.int .i64 a, .int .i64 b] 3)) (.slice (some ⟨w.heap.size, 0, none⟩) 2 2) [a, b] := by
  refine ⟨_, 2, rfl, by simp, by decide, fun i cs hi => ?_⟩
  match i, hi with
  | 0, hi =>
    simp [encI] at hi; subst hi
    refine ⟨⟨rfl, by simp [Value.oneCell']⟩, w.heap.size, 0, rfl, ⟨rfl, by simp⟩, fun j u hu => ?_⟩
    rw [(Blk.new w 3 _).cell]
    match j, hu with
    | 0, hu => simpa using hu
    | j + 1, hu => simp at hu
  | 1, hi =>
    simp [encI] at hi; subst hi
    refine ⟨⟨rfl, by simp [Value.oneCell']⟩, w.heap.size, 0, rfl, ⟨rfl, by simp⟩, fun j u hu => ?_⟩
    rw [(Blk.new w 3 _).cell]
    match j, hu with
    | 0, hu => simpa using hu
    | j + 1, hu => simp at hu
  | i + 2, hi => simp at hi

set_option maxRecDepth 100000 in
set_option maxHeartbeats 1000000 in
theorem compareEdges_ (x y : Ed) (w : World) : Calls Tryz.prog 210 #[.agg #[.string x.f, .string x.t, .bool x.n], .agg #[.string y.f, .string y.t, .bool y.n]] w fun e w' => e = .returned (.int .i64 (edCmp x y)) ∧ ∃ q os', w' = grow (w.drewN q) os' := by
  have hx0 := (Blk.new w 228 #[.string x.f, .string x.t, .bool x.n]).alloc (.cells #[.string y.f, .string y.t, .bool y.n] 228)
  have hy0 := Blk.new (w.alloc (.cells #[.string x.f, .string x.t, .bool x.n] 228)) 228 #[.string y.f, .string y.t, .bool y.n]
  rw [World.size_alloc] at hy0
  obtain ⟨w1, hw1⟩ : ∃ w1, w1 = (w.alloc (.cells #[.string x.f, .string x.t, .bool x.n] 228)).alloc (.cells #[.string y.f, .string y.t, .bool y.n] 228) := ⟨_, rfl⟩
  rw [← hw1] at hx0 hy0
  obtain ⟨w2, hw2⟩ : ∃ w2, w2 = ({ w1 with drawn := w1.drawn + 1 } : World) := ⟨_, rfl⟩
  have hx2 : Blk w2 w.heap.size 228 #[.string x.f, .string x.t, .bool x.n] := by rw [hw2]; exact hx0
  have hy2 : Blk w2 (w.heap.size + 1) 228 #[.string y.f, .string y.t, .bool y.n] := by rw [hw2]; exact hy0
  have a0 := hx2.cell 0
  have a1 := hx2.cell 1
  have b0 := hy2.cell 0
  have b1 := hy2.cell 1
  have a2 := (hx2.alloc (.cells #[.int .i64 (cmpS x.f y.f), .int .i64 (cmpS x.t y.t)] 3)).cell 2
  have b2 := (hy2.alloc (.cells #[.int .i64 (cmpS x.f y.f), .int .i64 (cmpS x.t y.t)] 3)).cell 2
  have HE : Hid (w2 = grow (w.drewN 1) #[.cells #[.string x.f, .string x.t, .bool x.n] 228, .cells #[.string y.f, .string y.t, .bool y.n] 228]) := Lib.hid (by
    rw [hw2, hw1, alloc_eq_grow, alloc_eq_grow, grow_grow]; rfl)
  have hor := cmpOr _ _ _ _ (sl_two w2 (cmpS x.f y.f) (cmpS x.t y.t))
  go_enter Tryz.func210, Tryz.ntmps210
  go_wp2
  rw [← hw1]
  refine wp_region_still_tail 10 (by kernel_rfl) (by kernel_rfl) ?_
  rw [← hw2]
  clear hw1 hw2 hx0 hy0 hx2 hy2
  simp only [List.take_succ_cons, List.take_zero, List.drop_succ_cons, List.drop_zero]
  repeat (first | still_step | still_call ((cmpCompare _ _ _).mono (fun _ _ h => ⟨h.1, h.2.symm⟩)))
  refine wpStill_nil ?_
  have fin : ∃ q os', w2.alloc (.cells #[.int .i64 (cmpS x.f y.f), .int .i64 (cmpS x.t y.t)] 3) = grow (w.drewN q) os' := by
    rw [alloc_eq_grow, HE.out, grow_grow]; exact ⟨_, _, rfl⟩
  have FIN := Lib.hid fin; clear fin
  have ED : Hid (edCmp x y = if orI [cmpS x.f y.f, cmpS x.t y.t] ≠ 0 ∨ x.n = y.n then orI [cmpS x.f y.f, cmpS x.t y.t] else if y.n then -1 else 1) := Lib.hid rfl
  generalize orI [cmpS x.f y.f, cmpS x.t y.t] = c at *
  generalize x.n = xn at *
  generalize y.n = yn at *
  go_wp2_with (go_at_call 224; refine hor.mono ?_; rintro e w' ⟨rfl, rfl⟩)
  all_goals go_ret
  all_goals refine ⟨?_, FIN.out⟩
  all_goals rw [ED.out]
  · have h1 : c = 0 := by assumption
    have h2 : (xn == yn) = true := by assumption
    rw [h1]; simp at h2; simp [h2]
  · have h1 : c = 0 := by assumption
    have h2 : (xn == yn) = false := by assumption
    have h3 : yn = true := by assumption
    subst h3; simp at h2; simp [h1, h2]
  · have h1 : c = 0 := by assumption
    have h2 : (xn == yn) = false := by assumption
    have h3 : yn = false := by assumption
    subst h3; simp at h2; simp [h1, h2]
  · have h1 : ¬ c = 0 := by assumption
    simp [h1]

theorem lt_edCmp (x y : Ed) : ltOf edCmp x y = edLess x y := by
  have key : ∀ a b : ByteArray, cmpS a b = if a = b then 0 else if sLt a b then -1 else 1 := by
    intro a b
    unfold cmpS
    by_cases hab : a = b
    · subst hab; simp [sLt_irr]
    · cases h1 : sLt a b with
      | true => simp [hab]
      | false =>
        cases h2 : sLt b a with
        | true => simp [hab]
        | false => exact absurd (sLt_total h1 h2) hab
  unfold ltOf edCmp edLess
  simp only [key, orI]
  by_cases h1 : x.f = y.f
  · by_cases h2 : x.t = y.t
    · cases hx : x.n <;> cases hy : y.n <;> simp [h1, h2]
    · cases h3 : sLt x.t y.t <;> simp [h1, h2]
  · cases h3 : sLt x.f y.f <;> simp [h1]
theorem swoEd : SWO (ltOf edCmp) where
  irrefl x := by rw [lt_edCmp]; exact edLess_sto.irr x
  trans x y z h1 h2 := by rw [lt_edCmp] at *; exact edLess_sto.trans x y z h1 h2
  ntrans x y z h1 h2 := by
    rw [lt_edCmp] at *
    cases h3 : edLess x z with
    | false => rfl
    | true =>
      cases h4 : edLess y x with
      | true => exact absurd (edLess_sto.trans y x z h4 h3) (by rw [h2]; simp)
      | false =>
        have := edLess_sto.total x y h1 h4
        subst this; rw [h2] at h3; exact absurd h3 (by simp)
theorem totEd (x y : Ed) (h1 : ltOf edCmp x y = false) (h2 : ltOf edCmp y x = false) : x = y := by
  rw [lt_edCmp] at *; exact edLess_sto.total x y h1 h2
end Go.Proofs.YtlficnfkekggjaaGreatDoor
