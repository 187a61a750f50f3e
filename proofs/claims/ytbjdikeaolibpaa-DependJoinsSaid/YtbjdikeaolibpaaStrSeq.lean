/-
  slices.Sorted(slices.Values(..)) and slices.Compact, slices.BinarySearch at lists of names.
-/
import Derived.Test.YtbjdikeaolibpaaAscend
import Derived.Test.YtbjdikeaolibpaaFacts
import Derived.RangeFuncNested
import Derived.RangeFuncBound
import Derived.RangeFuncCalls
import Derived.RangeFuncLeaves
import Derived.Shelf.Abstract
import Derived.Shelf.AbstractIn
import Derived.OwnWalkIn
import Derived.TacticsInMore
import Derived.RegionIn
import Derived.LoopNIn
import Derived.LoopIn
import Derived.Maps.AppendAt
namespace Go.Proofs.Ytbjdikeaolibpaa
open Go.RowKit Go.Shelf Go.Sort
attribute [local go_sem] Oper.semAt_some

theorem SlS.below {p : Nat → Prop} {w w' : World} {n : Nat} {v : Value} {xs : List ByteArray} (h : SlS p w v xs) (hb : Below n w w') (hp : ∀ b, b < w.heap.size → p b → b < n) : SlS p w' v xs :=
  Sl.imp h hb.size fun b hlt hb' => ⟨hb', hb.block b (hp b hlt hb')⟩

set_option maxRecDepth 100000 in
set_option maxHeartbeats 1000000 in
theorem values1 (n : Nat) (hn : 1 ≤ n) (l Bm n₀ : Nat) (p) (v : Value) (xs : List ByteArray) (J Jx : List ByteArray → World → Prop)
    (hY : ∀ pre x W, J pre W → pre.length < xs.length → YieldAt Fence.wide (n - 1) Try.prog l #[encB x] W fun e W' => (e = .returned (.bool true) ∧ J (pre ++ [x]) W' ∧ Below n₀ W W') ∨ (e = .returned (.bool false) ∧ Jx (pre ++ [x]) W'))
    (W : World) (hm : W.cell? ⟨Bm, 0, none⟩ = some v) (h : SlS p W v xs) (hp : ∀ b, p b → b < n₀) (h0 : J [] W) :
    CallsIn Fence.wide n Try.prog 92 #[.func (.yield l) #[] #[], .pointer (some ⟨Bm, 0, none⟩)] W fun e W' => (∃ v, e = .returned v) ∧
      ((∃ ys : List ByteArray, ys = xs ∧ J ys W') ∨ ∃ pre, True ∧ Jx pre W') := by
  obtain ⟨a, c, rfl, hlc, hmx⟩ := h.form
  unfold maxLen at hmx
  refine callsIn_of_wp Try.func92 rfl trivial ?_ rfl
  simp only [Try.ntmps92, List.size_toArray, List.length_cons, List.length_nil, Nat.reduceAdd, Nat.reduceSub, Array.replicate_succ, Array.replicate_zero, List.push_toArray, List.append_toArray, List.nil_append, List.cons_append]
  gi_wp2
  gi_loopw [7] (fun i wr => ∃ k : Nat, k ≤ xs.length ∧ i = .int .i64 k ∧ SlS p wr (.slice a xs.length c) xs ∧ J (xs.take k) wr) (fun i _ => xs.length - (intOf i).toNat)
  case atStart => exact ⟨0, Nat.zero_le _, rfl, h, h0⟩
  case round =>
    obtain ⟨k, hk, rfl, hs, hJ⟩ := hrel
    by_cases hlt : k < xs.length
    · obtain ⟨b, o, rfl, hpb, c0⟩ := hs.at_ hlt
      obtain ⟨fn, tmps, assign, body, hy, hR⟩ := hY (xs.take k) xs[k] wr hJ (by rw [List.length_take]; omega)
      have HT := Lib.hid (take_snoc xs k hlt)
      simp only [encB] at hy
      gi_wp2
      refine hR.mono ?_
      rintro e W3 (⟨rfl, hJ3, hk3⟩ | ⟨rfl, hJx3⟩)
      · have hs3 := hs.below hk3 (fun b _ h => hp b h)
        gi_wp2
        go_roundw
        case rel => exact ⟨k + 1, by omega, by go_num, hs3, by rw [HT.out]; exact hJ3⟩
        case measure => simp [intOf]; omega
      · gi_wp2
        refine bodyPost_ret (results_none rfl _ _ _) rfl ?_
        exact ⟨⟨_, rfl⟩, .inr ⟨_, trivial, hJx3⟩⟩
    · have : k = xs.length := by omega
      subst this
      rw [List.take_length] at hJ
      gi_wp2
      go_end0
      exact ⟨⟨_, rfl⟩, .inl ⟨xs, rfl, hJ⟩⟩

theorem values_ (v : Value) (w : World) (hv : ∃ a n c, v = .slice a n c) : Calls Try.prog 73 #[v] w fun e w' => e = .returned (.func (.func 92) #[] #[.pointer (some ⟨w.heap.size, 0, none⟩)]) ∧ w' = w.alloc (.cells #[v] 38) := by
  obtain ⟨a, n, c, rfl⟩ := hv
  go_enter Try.func73, Try.ntmps73
  go_wp2
  go_ret
  exact ⟨rfl, rfl⟩

theorem values_stops (n : Nat) (hn : 1 ≤ n) (Bm n₀ : Nat) (p) (v : Value) (xs : List ByteArray) (w : World) (hBm : Bm < w.heap.size) (_hn₀ : n₀ ≤ w.heap.size) (hm : w.cell? ⟨Bm, 0, none⟩ = some v) (h : SlS p w v xs) (hp : ∀ b, p b → b < n₀) :
    SeqStopsK Fence.wide n Try.prog 92 #[.pointer (some ⟨Bm, 0, none⟩)] (fun x : ByteArray => #[encB x]) (Below n₀) (fun ys => ys = xs) (fun _ => True) xs.length w :=
  fun l J Jx W hW _ _ hY h0 => values1 n hn l Bm n₀ p v xs J Jx hY W ((hW.cell (p := ⟨Bm, 0, none⟩) hBm).trans hm) (h.below hW (fun b _ hb => by have := hp b hb; omega)) hp h0

theorem infoS : (Try.prog.info? 9).map (fun i => (i.zero, i.size, i.bytes)) = some (some (.string ⟨#[]⟩), 1, 16) := by kernel_rfl

set_option maxRecDepth 100000 in
set_option maxHeartbeats 2000000 in
theorem appendSeqS (n : Nat) (hn : 3 ≤ n) (g : Nat) (lb : Array Value) (eg : ∀ args w, (callFunc g args).run Try.prog w = .ok (.enter g args) w) (n₀ : Nat) (S Sp : List ByteArray → Prop) (N : Nat) (hN : N ≤ 1000000000) (w : World) (hn₀ : n₀ ≤ w.heap.size)
    (hseq : SeqStopsK Fence.wide (n - 1) Try.prog g lb (fun x : ByteArray => #[encB x]) (Below n₀) S Sp N w) :
    CallsIn Fence.wide n Try.prog 105 #[.slice none 0 0, .func (.func g) #[] lb] w fun e W' => ∃ (v : Value) (xs : List ByteArray), e = .returned v ∧ S xs ∧ W'.ownsRow w.heap.size 9 1 v xs.length (xs.map encB) ∧ Below w.heap.size w W' := by
  have h1 : 1 ≤ n := by omega
  obtain ⟨i0, hi, hz0, hz1, hz2⟩ := info_parts infoS
  refine callsIn_of_wp_marks Try.func105 rfl trivial ?_ rfl
  simp only [Try.ntmps105, List.size_toArray, List.length_cons, List.length_nil, Nat.reduceAdd, Nat.reduceSub, Array.replicate_succ, Array.replicate_zero, List.push_toArray, List.append_toArray, List.nil_append, List.cons_append]
  gi_wp2
  have bS := Boxed.new w 38 (.slice none 0 0)
  have hB0 : Below w.heap.size w (w.alloc (.cells #[.slice none 0 0] 38)) := (Below.refl _ w).alloc (Nat.le_refl _) _
  refine wpIn_rangeFunc_ownG rfl h1 (gf := g) (lb := lb) rfl trivial eg hseq belowK_t (belowK_b (by simp; omega)) hB0 (fun _ => rfl)
    (fun pre W => (∃ v, Boxed W w.heap.size 38 v ∧ W.ownsRow w.heap.size 9 1 v pre.length (pre.map encB) ∧ True) ∧ Below w.heap.size w W)
    (fun _ _ _ => False)
    (OwnFrom.and (Go.Own.from (holdsRow_own w.heap.size w.heap.size 38 9 1 (fun pre : List ByteArray => pre.length) (fun pre => pre.map encB) (fun _ _ => True)) _) (ownFrom_below (Nat.le_refl _) (by simp)))
    (fun _ _ _ _ _ hs _ _ => hs)
    ⟨⟨_, bS, World.ownsRow_nil _ _ _ _, trivial⟩, hB0⟩
    (fun x => { tmps := #[.slice none 0 0, .func (.func g) #[] lb, .pointer (some ⟨w.heap.size, 0, none⟩), undef, .slice none 0 0, encB x, .func (.func g) #[] lb, encB x, undef, undef, undef, undef, undef], defers := [] }) ?assign ?body ?done ?stop
  case assign =>
    intro l x W K hK
    gi_wp2
    exact hK
  case body =>
    rintro l pre x W ⟨⟨v, hv, hrow, _⟩, hB⟩ hlt
    have hc := hv.cell
    unfold encB
    gi_wp2_with (gi_at_builtin; refine wpListIn_append_own _ rfl _ _ 38 rfl w.heap.size 9 i0 _ 1 16 Try.underlying38 hi hz0 hz1 hz2 rfl (by decide) _ _ _ rfl (hrow.alloc _) ⟨W.heap.size, 0, none⟩ 1 1 [.string x] rfl rfl (cell_one_new _ _ _) (by simp [Value.oneCell']) (by unfold maxLen; omega) (by omega) (by have := hB.size; simp; omega) ?_; intro v' w1 hown' hgrow _; obtain ⟨g', cap', rfl⟩ := ownsRow_succ hown'; obtain ⟨hv1, hv2, hr2, hk2, hb2⟩ := hv.appended (by decide) hrow hB.size (Nat.le_refl _) hown' hgrow; have hc1 := hv1.cell; have hf1 := hv1.frozen)
    exact ⟨hk2.from _, hb2.mono hn₀, ⟨_, hv2, by rw [List.map_append, List.length_append]; exact hr2, trivial⟩, hB.trans hb2⟩
  case done =>
    rintro D ys W hD hS ⟨⟨v, hv, hrow, _⟩, hB⟩ hK
    have hc := hv.cell
    gi_wp2
    refine ⟨by simp, .inl ⟨_, _, rfl, run_takeDeferred hK, ?_⟩⟩
    exact ⟨_, results_tmp rfl _ _ _, v, ys, rfl, hS, ownsRow_putObj hrow _ hK rfl, hB.trans (belowK_b (w := w) (Nat.le_refl _) W D _ _ (by simp at hD; omega) hK rfl rfl)⟩
  case stop =>
    rintro D c pre W _ _ h _
    exact h.elim

set_option maxHeartbeats 1000000 in
theorem collectS (p) (v : Value) (xs : List ByteArray) (w : World) (h : SlS p w v xs) (hn : xs.length ≤ 1000000000) :
    Calls Try.prog 90 #[.func (.func 92) #[] #[.pointer (some ⟨w.heap.size, 0, none⟩)]] (w.alloc (.cells #[v] 38)) fun e w' =>
      ∃ v, e = .returned v ∧ w'.ownsRow (w.heap.size + 1) 9 1 v xs.length (xs.map encB) ∧ Ch [] w w' := by
  have hsl : SlS (fun b => p b ∧ b < w.heap.size) w v xs := h.imp (Nat.le_refl _) fun b hb hp => ⟨⟨hp, hb⟩, rfl⟩
  have hk := values_stops 2 (by omega) w.heap.size w.heap.size _ v xs (w.alloc (.cells #[v] 38)) (by simp) (by simp) ((Blk.new w 38 #[v]).cell 0) (hsl.ch0 ((Ch.refl [] w).alloc _)) (fun b hb => hb.2)
  have eg : ∀ args w, (callFunc 92 args).run Try.prog w = .ok (.enter 92 args) w := enters_of Try.func92 (by kernel_rfl) rfl
  have hcon := callsIn_wide.1 (appendSeqS 3 (by omega) _ _ eg w.heap.size _ _ _ hn _ (by simp) hk)
  rw [World.size_alloc] at hcon
  have hB0 : Ch [] w (w.alloc (.cells #[v] 38)) := (Ch.refl [] w).alloc _
  clear hk eg hsl h
  go_enter Try.func90, Try.ntmps90
  go_wp2_with (go_at_call 105; refine hcon.mono ?_; rintro e w' ⟨v1, ys, rfl, rfl, hrow, hB⟩)
  go_ret
  exact ⟨_, rfl, hrow, hB0.trans ⟨hB.os, hB.tape, hB.output, by have := hB.size; simpa using this, fun k hk _ => hB.block k (by simpa using hk)⟩⟩

/-- names as bytes, and back -/
def bytesOf (xs : List ByteArray) : List (List UInt8) := xs.map fun x => x.data.toList
theorem bytesOf_enc (xs : List ByteArray) : (bytesOf xs).map encStr = xs.map encB := by
  rw [bytesOf, List.map_map]; rfl
theorem toBs_bytesOf (xs : List ByteArray) : (bytesOf xs).map toBs = xs := by
  rw [bytesOf, List.map_map]
  conv => rhs; rw [← List.map_id xs]
  rfl
theorem encStr_toBs (ss : List (List UInt8)) : ss.map encStr = (ss.map toBs).map encB := by rw [List.map_map]; rfl
theorem leB_trans : ∀ a b c : List UInt8, decide (a ≤ b) = true → decide (b ≤ c) = true → decide (a ≤ c) = true := fun a b c h1 h2 => by simp only [decide_eq_true_eq] at *; exact List.le_trans h1 h2
theorem leB_total : ∀ a b : List UInt8, (decide (a ≤ b) || decide (b ≤ a)) = true := fun a b => by simp only [Bool.or_eq_true, decide_eq_true_eq]; exact List.le_total a b
/-- the list of names, ascending, with repetitions -/
def sortS (xs : List ByteArray) : List ByteArray := ((bytesOf xs).mergeSort fun x y => decide (x ≤ y)).map toBs
theorem sortS_len (xs : List ByteArray) : (sortS xs).length = xs.length := by simp [sortS, bytesOf]
theorem sortS_perm (xs : List ByteArray) : (sortS xs).Perm xs := by
  have := (List.mergeSort_perm (bytesOf xs) fun x y => decide (x ≤ y)).map toBs
  rw [toBs_bytesOf] at this; exact this
theorem sortS_asc (xs : List ByteArray) : (sortS xs).Pairwise fun a b => sLt b a = false := by
  refine List.pairwise_map.2 ((List.pairwise_mergeSort leB_trans leB_total (bytesOf xs)).imp fun {a b} h => ?_)
  show Op.bytesLess (toBs b).toList (toBs a).toList = false
  rw [toList_bs, toList_bs, bytesLess_eq]
  simp only [decide_eq_true_eq] at h
  show decide (b < a) = false
  rw [decide_eq_false_iff_not]
  exact List.not_lt.2 h

theorem sortAnyS (base : Nat) (v : Value) (xs : List ByteArray) (W : World) (hm : xs.length ≤ 1000000000) (h : W.ownsRow base 9 1 v xs.length (xs.map encB)) :
    Calls Try.prog 91 #[v] W fun e w' => e = .returned (.tuple #[]) ∧ Ch v.ownBlock.toList W w' ∧ w'.ownsRow base 9 1 v xs.length ((sortS xs).map encB) := by
  rcases h.2 with ⟨rfl, h0⟩ | ⟨g, cap, cur, rfl, hbase, hb, h1, h2, h3, h4⟩
  · have hx : xs = [] := List.eq_nil_of_length_eq_zero h0
    subst hx
    refine Calls.mono (P := Try.prog) (AnyM.slices_Sort_string_none lay_sortS none 0 W) ?_
    rintro e w' ⟨rfl, rfl⟩
    exact ⟨rfl, Ch.refl _ _, by rw [show sortS [] = [] from by simp [sortS, bytesOf]]; exact h⟩
  · have hg := lt_of_heap hb
    have hl : (bytesOf xs).length = xs.length := by simp [bytesOf]
    rw [← bytesOf_enc, Nat.mul_one, ← hl] at h4
    rw [← hl] at h1
    have hcon := AnyM.slices_Sort_string lay_sortS g 0 cap (bytesOf xs) W (holds_of_block hb h4) hg (by omega)
    rw [hl] at hcon
    refine Calls.mono (P := Try.prog) hcon ?_
    rintro e w' ⟨rfl, n, os, rfl⟩
    refine ⟨rfl, Ch.of_grown (grownBy_sorted _), ?_⟩
    have := ownsRow_sorted (base := base) (n := n) (os := os) (ss := bytesOf xs) (ts := (bytesOf xs).mergeSort fun x y => decide (x ≤ y)) (by simp) hbase hb h1 h2 h3
    rw [hl] at this
    rw [encStr_toBs] at this
    exact this

set_option maxHeartbeats 1000000 in
theorem sortedValues (p) (v : Value) (xs : List ByteArray) (w : World) (h : SlS p w v xs) (hn : xs.length ≤ 1000000000) :
    Calls Try.prog 72 #[.func (.func 92) #[] #[.pointer (some ⟨w.heap.size, 0, none⟩)]] (w.alloc (.cells #[v] 38)) fun e w' =>
      ∃ v, e = .returned v ∧ w'.ownsRow (w.heap.size + 1) 9 1 v xs.length ((sortS xs).map encB) ∧ Ch [] w w' := by
  have hcol := collectS p v xs w h hn
  clear h
  go_enter Try.func72, Try.ntmps72
  go_wp2_with (first
    | (go_at_call 90; refine hcol.mono ?_; rintro e w1 ⟨v1, rfl, hrow, hB⟩)
    | (go_at_call 91; refine (sortAnyS (w.heap.size + 1) v1 xs w1 hn hrow).mono ?_; rintro e w2 ⟨rfl, hc, hrow2⟩))
  go_ret
  refine ⟨_, rfl, hrow2, hB.step hc ?_⟩
  intro x hx
  right
  cases ho : v1.ownBlock with
  | none => rw [ho] at hx; cases hx
  | some g =>
    rw [ho] at hx
    have := (hrow.lt g ho).1
    simp at hx; omega
end Go.Proofs.Ytbjdikeaolibpaa
