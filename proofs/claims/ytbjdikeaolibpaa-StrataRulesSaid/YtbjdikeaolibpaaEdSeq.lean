/-
  maps.Keys, slices.Collect and slices.SortedFunc at sets of edges.
-/
import Derived.Test.YtbjdikeaolibpaaEdKeys
import Derived.Test.YtbjdikeaolibpaaLays
import Derived.Test.YtbjdikeaolibpaaCmp
import Derived.RangeFuncNested
import Derived.RangeFuncBound
import Derived.RangeFuncCalls
import Derived.RangeFuncLeaves
import Derived.Shelf.Abstract
import Derived.Shelf.AbstractIn
import Derived.OwnWalkIn
import Derived.TacticsInMore
import Derived.RegionIn
import Derived.LoopNIn
import Derived.LoopIn
import Derived.Maps.AppendAt
namespace Go.Proofs.Ytbjdikeaolibpaa
open Go.RowKit Go.Shelf
attribute [local go_sem] Oper.semAt_some

theorem mE : Try.prog.underlying 87 = some (.map 65 4) := Try.underlying87

set_option maxRecDepth 100000 in
set_option maxHeartbeats 1000000 in
theorem keysE1 (n : Nat) (hn : 1 ≤ n) (l Bm b : Nat) (kv : List (Ed × Value)) (J Jx : List Ed → World → Prop)
    (hY : ∀ pre x W, J pre W → pre.length < kv.length → YieldAt Fence.wide (n - 1) Try.prog l #[encE x] W fun e W' => (e = .returned (.bool true) ∧ J (pre ++ [x]) W' ∧ KeepsWalks W W') ∨ (e = .returned (.bool false) ∧ Jx (pre ++ [x]) W'))
    (W : World) (hJ : AbidesFrom W.heap.size J) (hm : W.cell? ⟨Bm, 0, none⟩ = some (.map (some b))) (hown : MapAt W encE b kv) (h0 : J [] W) :
    CallsIn Fence.wide n Try.prog 86 #[.func (.yield l) #[] #[], .pointer (some ⟨Bm, 0, none⟩)] W fun e W' => (∃ v, e = .returned v) ∧
      ((∃ xs : List Ed, xs.Perm (kv.map (·.1)) ∧ J xs W') ∨ ∃ pre, True ∧ Jx pre W') := by
  refine callsIn_of_wp Try.func86 rfl trivial ?_ rfl
  simp only [Try.ntmps86, List.size_toArray, List.length_cons, List.length_nil, Nat.reduceAdd, Nat.reduceSub, Array.replicate_succ, Array.replicate_zero, List.push_toArray, List.append_toArray, List.nil_append, List.cons_append]
  gi_wp2_with (first
    | (gi_at_range; refine wplIn_range rfl _ _ rfl mE rfl hown ?_; intro w0 hit0 hc0 hg0 hs0)
    | gi_in)
  go_frame
  gi_loopw [3] (fun _ wr => ∃ (left : List (Ed × Value)) (xs : List Ed), ItAt wr encE b W.heap.size kv left ∧ (xs ++ left.map (·.1)).Perm (kv.map (·.1)) ∧ J xs wr)
    (fun _ wr => itLeft encE b W.heap.size wr)
  case atStart => exact ⟨kv, [], hit0, List.Perm.refl _, hJ [] W w0 none h0 hg0 (fun r e => by cases e)⟩
  case round =>
    obtain ⟨left, xs, hit, hp, hJs⟩ := hrel
    gi_wp2_with (first
      | (gi_at_next; refine wplIn_next rfl _ rfl rfl hit ?_ ?_)
      | gi_in)
    · intro hl
      gi_wp2
      go_end0
      exact ⟨⟨_, rfl⟩, .inl ⟨xs, by simpa [hl] using hp, hJs⟩⟩
    · intro x c left' w2 hperm hx hit2 hc2 hg2 hs2 hen
      have hlen : xs.length < kv.length := by
        have h1 := hp.length_eq
        have h2 := hperm.length_eq
        simp at h1 h2; omega
      have hp2 : ((xs ++ [x]) ++ left'.map (·.1)).Perm (kv.map (·.1)) := by
        refine List.Perm.trans ?_ hp
        rw [List.append_assoc]
        exact List.Perm.append_left xs (by simpa using (hperm.map (·.1)).symm)
      have hJ2 : J xs w2 := hJ xs wr w2 (some W.heap.size) hJs hg2 (fun r e => by cases e; exact ⟨Nat.le_refl _, hit.iter_walk⟩)
      have hJ3 : J xs (w2.alloc (.cells #[.string x.f, .string x.t, .bool x.n] 65)) := hJ xs w2 _ none hJ2 (World.grownBy_alloc _ _ _) (fun r e => by cases e)
      obtain ⟨fn, tmps, assign, body, hy, hR⟩ := hY xs x _ hJ3 hlen
      have hlt : left'.length < left.length := by have := hperm.length_eq; simp at this; omega
      have hL : itLeft encE b W.heap.size wr = left.length := hit.left_eq
      simp only [encE, Ed.enc] at hen hy
      clear hs2
      gi_wp2
      refine hR.mono ?_
      rintro e W3 (⟨rfl, hJ4, hk⟩ | ⟨rfl, hJx⟩)
      · gi_wp2
        have hit3 := (hit2.alloc (.cells #[.string x.f, .string x.t, .bool x.n] 65)).of_walks hk
        go_roundw
        case rel => exact ⟨left', xs ++ [x], hit3, hp2, hJ4⟩
        case measure => rw [hit3.left_eq, hL]; exact hlt
      · gi_wp2
        refine bodyPost_ret (results_none rfl _ _ _) rfl ?_
        exact ⟨⟨_, rfl⟩, .inr ⟨_, trivial, hJx⟩⟩

theorem keysE_stops (n : Nat) (hn : 1 ≤ n) (Bm b : Nat) (kv : List (Ed × Value)) (w : World) (hBm : Bm < w.heap.size) (hm : w.cell? ⟨Bm, 0, none⟩ = some (.map (some b))) (hown : MapAt w encE b kv) :
    SeqStopsK Fence.wide n Try.prog 86 #[.pointer (some ⟨Bm, 0, none⟩)] (fun x : Ed => #[encE x]) KeepsWalks (fun xs => xs.Perm (kv.map (·.1))) (fun _ => True) kv.length w :=
  fun l J Jx W hW hJ _ hY h0 => keysE1 n hn l Bm b kv J Jx hY W hJ ((hW.cell (p := ⟨Bm, 0, none⟩) hBm).trans hm) (hown.ch (S := []) ⟨hW.os, hW.tape, hW.output, hW.size, fun k hk _ => hW.block k hk⟩ (by simp)) h0

theorem infoEd : (Try.prog.info? 65).map (fun i => (i.zero, i.size, i.bytes)) = some (some (.agg #[.string ⟨#[]⟩, .string ⟨#[]⟩, .bool false]), 3, 40) := by kernel_rfl
def flatE (xs : List Ed) : List Value := (xs.map Ed.enc).flatten

set_option maxRecDepth 100000 in
set_option maxHeartbeats 2000000 in
theorem appendSeqE (n : Nat) (hn : 3 ≤ n) (g : Nat) (lb : Array Value) (eg : ∀ args w, (callFunc g args).run Try.prog w = .ok (.enter g args) w) (S Sp : List Ed → Prop) (N : Nat) (hN : N ≤ 1000000000) (w : World)
    (hseq : SeqStopsK Fence.wide (n - 1) Try.prog g lb (fun x : Ed => #[encE x]) KeepsWalks S Sp N w) :
    CallsIn Fence.wide n Try.prog 101 #[.slice none 0 0, .func (.func g) #[] lb] w fun e W' => ∃ (v : Value) (xs : List Ed), e = .returned v ∧ S xs ∧ W'.ownsRow w.heap.size 65 3 v xs.length (flatE xs) ∧ Below w.heap.size w W' := by
  have h1 : 1 ≤ n := by omega
  obtain ⟨i0, hi, hz0, hz1, hz2⟩ := info_parts infoEd
  refine callsIn_of_wp_marks Try.func101 rfl trivial ?_ rfl
  simp only [Try.ntmps101, List.size_toArray, List.length_cons, List.length_nil, Nat.reduceAdd, Nat.reduceSub, Array.replicate_succ, Array.replicate_zero, List.push_toArray, List.append_toArray, List.nil_append, List.cons_append]
  gi_wp2
  have bS := Boxed.new w 43 (.slice none 0 0)
  have hB0 : Below w.heap.size w (w.alloc (.cells #[.slice none 0 0] 43)) := (Below.refl _ w).alloc (Nat.le_refl _) _
  refine wpIn_rangeFunc_ownH rfl h1 (gf := g) (lb := lb) rfl trivial eg hseq walksK_t walksK_b hB0 (fun _ => rfl)
    (fun pre W => (∃ v, Boxed W w.heap.size 43 v ∧ W.ownsRow w.heap.size 65 3 v pre.length (flatE pre) ∧ True) ∧ Below w.heap.size w W)
    (fun _ _ _ => False)
    (OwnFrom.and (Go.Own.from (holdsRow_own w.heap.size w.heap.size 43 65 3 (fun pre : List Ed => pre.length) flatE (fun _ _ => True)) _) (ownFrom_below (Nat.le_refl _) (by simp)))
    (fun _ _ _ _ _ hs _ _ => hs)
    ⟨⟨_, bS, World.ownsRow_nil _ _ _ _, trivial⟩, hB0⟩
    (fun x a' W => ∃ Bx, w.heap.size < Bx ∧ Blk W Bx 65 #[.string x.f, .string x.t, .bool x.n] ∧ a' = { tmps := #[.slice none 0 0, .func (.func g) #[] lb, .pointer (some ⟨w.heap.size, 0, none⟩), undef, .slice none 0 0, .pointer (some ⟨Bx, 0, none⟩), .func (.func g) #[] lb, encE x, undef, undef, undef, undef, undef], defers := [] })
    (fun x a' _ X Y row hs hg hr => by
      obtain ⟨Bx, h1, h2, h3⟩ := hs
      refine ⟨Bx, h1, (hg.block Bx h2.lt (fun e => ?_)).trans h2, h3⟩
      obtain ⟨_, o, ho, hc⟩ := hr Bx e.symm
      rw [show X.heap[Bx]? = _ from h2] at ho; cases ho; cases hc) ?assign ?body ?done ?stop
  case assign =>
    rintro l pre x W K ⟨⟨v, hv, hrow, _⟩, hB⟩ hK
    simp only [encE, Ed.enc]
    gi_wp2
    exact hK _ _ ((KeepsOthers.alloc _ _).from _) (KeepsWalks.alloc _ _) ⟨⟨v, hv.alloc _, hrow.alloc _, trivial⟩, hB.alloc hB.size _⟩ ⟨W.heap.size, hv.lt, Blk.new _ _ _, rfl⟩
  case body =>
    rintro l pre x a' W hl ⟨r, hr⟩ ⟨⟨v, hv, hrow, _⟩, hB⟩ ⟨Bx, hBx, hbx, rfl⟩ hlt
    have hc := hv.cell
    have c0 := hbx.cell 0
    have c1 := hbx.cell 1
    have c2 := hbx.cell 2
    have hcell : ∀ j u, [Value.string x.f, .string x.t, .bool x.n][j]? = some u → (W.alloc (.cells #[.string x.f, .string x.t, .bool x.n] 65)).cell? ((⟨W.heap.size, 0, none⟩ : Addr).add j) = some u := by
      intro j u hu
      rw [add_off, Nat.zero_add, (Blk.new W 65 _).cell]
      simpa using hu
    gi_wp2_with (gi_at_builtin; refine wpListIn_append_own _ rfl _ _ 43 rfl w.heap.size 65 i0 _ 3 40 Try.underlying43 hi hz0 hz1 hz2 rfl (by decide) _ _ _ rfl (hrow.alloc _) ⟨W.heap.size, 0, none⟩ 1 1 [.string x.f, .string x.t, .bool x.n] rfl rfl hcell (by simp [Value.oneCell']) (by unfold maxLen; omega) (by omega) (by have := hB.size; simp; omega) ?_; intro v' w1 hown' hgrow _; obtain ⟨g', cap', rfl⟩ := ownsRow_succ hown'; obtain ⟨hv1, hv2, hr2, hk2, hb2⟩ := hv.appended (by decide) hrow hB.size (Nat.le_refl _) hown' hgrow; have hc1 := hv1.cell; have hf1 := hv1.frozen)
    have hfl : flatE (pre ++ [x]) = flatE pre ++ [.string x.f, .string x.t, .bool x.n] := by simp [flatE, Ed.enc]
    exact ⟨hk2.from _, ⟨hk2.size, fun k o hk ho => hk2.same k o hk (Obj.not_cells_of_walk ho)⟩, ⟨_, hv2, by rw [hfl]; simpa using hr2, trivial⟩, hB.trans hb2⟩
  case done =>
    rintro D ys W hD hS ⟨⟨v, hv, hrow, _⟩, hB⟩ hK
    have hc := hv.cell
    gi_wp2
    refine ⟨by simp, .inl ⟨_, _, rfl, run_takeDeferred hK, ?_⟩⟩
    exact ⟨_, results_tmp rfl _ _ _, v, ys, rfl, hS, ownsRow_putObj hrow _ hK rfl, hB.trans (belowK_b (w := w) (Nat.le_refl _) W D _ _ (by simp at hD; omega) hK rfl rfl)⟩
  case stop =>
    rintro D c pre W _ _ h _
    exact h.elim
end Go.Proofs.Ytbjdikeaolibpaa
