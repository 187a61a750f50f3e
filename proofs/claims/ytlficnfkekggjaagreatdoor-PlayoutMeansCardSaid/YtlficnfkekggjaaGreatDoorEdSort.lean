
/-
  Edges as keys of a map.
  maps.Keys, slices.Collect and slices.SortedFunc at sets of edges.
  slices.SortedFunc at sets of edges, and depend.Edges.
-/
import Derived.Test.YtlficnfkekggjaaGreatDoorIter
import Derived.Test.YtlficnfkekggjaaGreatDoorFacts
import Derived.Test.YtlficnfkekggjaaGreatDoorLays
import Derived.Test.YtlficnfkekggjaaGreatDoorCmp
import Derived.RangeFuncNested
import Derived.RangeFuncBound
import Derived.RangeFuncCalls
import Derived.RangeFuncLeaves
import Derived.Shelf.Abstract
import Derived.Shelf.AbstractIn
import Derived.OwnWalkIn
import Derived.TacticsInMore
import Derived.RegionIn
import Derived.LoopNIn
import Derived.LoopIn
import Derived.Maps.AppendAt
import Derived.Test.YtlficnfkekggjaaGreatDoorDeps
namespace Go.Proofs.YtlficnfkekggjaaGreatDoor

section
open Go.RowKit

def encE (e : Ed) : Value := .agg e.enc.toArray
theorem run_equal_ed (a b : Ed) (w : World) : (Op.equal 228 (encE a) (encE b)).run Tryz.prog w = .ok (decide (a = b)) w := by
  rw [← edB_eq]
  simp [Op.equal, Op.maxDepth, encE, Ed.enc, run_equalIn_ed 9998]
theorem find_ed : ∀ (es : List MapEntry) (a : Ed) (w : World) (i : Nat), (∀ e ∈ es, ∃ b, e.key = encE b) →
    (∀ e ∈ es, e.key ≠ encE a) ∧ (Instr.findAsking 228 (encE a) es i).run Tryz.prog w = .ok none w ∨
    ∃ j e, es[j]? = some e ∧ e.key = encE a ∧ (Instr.findAsking 228 (encE a) es i).run Tryz.prog w = .ok (some (i + j, e.val)) w
  | [], a, w, i, _ => .inl ⟨by simp, by simp [Instr.findAsking]⟩
  | e :: es, a, w, i, h => by
    obtain ⟨b, hb⟩ := h e (by simp)
    have hinj : ∀ x y : Ed, encE x = encE y → x = y := by
      intro x y hxy
      cases x; cases y
      simp [encE, Ed.enc] at hxy
      simp [hxy]
    by_cases hab : a = b
    · refine .inr ⟨0, e, rfl, by rw [hb, hab], ?_⟩
      simp [Instr.findAsking, hb, run_equal_ed, hab, Result.andThen]
    · have hrun : (Instr.findAsking 228 (encE a) (e :: es) i).run Tryz.prog w = (Instr.findAsking 228 (encE a) es (i + 1)).run Tryz.prog w := by
        simp [Instr.findAsking, hb, run_equal_ed, hab, Result.andThen]
      rcases find_ed es a w (i + 1) (fun x hx => h x (by simp [hx])) with ⟨h1, h2⟩ | ⟨j, e', h1, h2, h3⟩
      · refine .inl ⟨fun x hx => ?_, by rw [hrun, h2]⟩
        rcases List.mem_cons.1 hx with rfl | hx
        · rw [hb]; exact fun e1 => hab (hinj _ _ e1).symm
        · exact h1 x hx
      · exact .inr ⟨j + 1, e', by simpa using h1, h2, by rw [hrun, h3, show i + 1 + j = i + (j + 1) from by omega]⟩
theorem check_s (em : Bool) (n : Nat) (s : ByteArray) (w : World) : (Instr.checkKey em (n + 1) 9 (.string s)).run Tryz.prog w = .ok () w := MapKept.run_checkKey (k := .string s) Tryz.underlying9 trivial em n
theorem check_b (em : Bool) (n : Nat) (s : Bool) (w : World) : (Instr.checkKey em (n + 1) 4 (.bool s)).run Tryz.prog w = .ok () w := MapKept.run_checkKey (k := .bool s) Tryz.underlying4 trivial em n
theorem check_ed (em : Bool) (n : Nat) (a : Ed) (w : World) : (Instr.checkKey em (n + 2) 228 (encE a)).run Tryz.prog w = .ok () w := by
  rw [show n + 2 = (n + 1) + 1 from rfl, Instr.checkKey]
  simp only [Sem.run_bind, run_underlying Tryz.underlying228, Result.andThen_ok, encE, Ed.enc]
  rw [← Array.forIn_toList]
  have h1 := check_s em n
  have h2 := check_b em n
  have p0 : ∀ w, (part 9 #[Value.string a.f, Value.string a.t, Value.bool a.n] 0).run Tryz.prog w = .ok (.string a.f) w := fun w => by go_simp
  have p1 : ∀ w, (part 9 #[Value.string a.f, Value.string a.t, Value.bool a.n] 1).run Tryz.prog w = .ok (.string a.t) w := fun w => by go_simp
  have p2 : ∀ w, (part 4 #[Value.string a.f, Value.string a.t, Value.bool a.n] 2).run Tryz.prog w = .ok (.bool a.n) w := fun w => by go_simp
  simp [Sem.run_bind, h1, h2, p0, p1, p2, Result.andThen]
theorem run_findKey_ed (es : List MapEntry) (a : Ed) (w : World) : (Instr.findKey 228 (encE a) es).run Tryz.prog w = (Instr.findAsking 228 (encE a) es 0).run Tryz.prog w := by
  cases es with
  | nil => simp [Instr.findKey, run_underlying Tryz.underlying228, Instr.findNow, Instr.findAsking, Result.andThen]
  | cons e es => simp [Instr.findKey, run_underlying Tryz.underlying228, Instr.findNow, Instr.sameNow, Result.andThen]
theorem edKeys : Keys Tryz.prog 228 encE where
  inj x y hxy := by
    cases x; cases y
    simp [encE, Ed.enc] at hxy
    simp [hxy]
  check em a w := check_ed em 9998 a w
  none es a w hes := by
    rw [run_findKey_ed]
    rcases find_ed es a w 0 (fun e he => by obtain ⟨b, hb, _⟩ := hes e he; exact ⟨b, hb⟩) with ⟨_, h⟩ | ⟨j, e, h1, h2, _⟩
    · exact h
    · obtain ⟨b, hb, hne⟩ := hes e (List.mem_of_getElem? h1)
      refine absurd ?_ hne
      rw [hb] at h2
      cases a; cases b
      simp [encE, Ed.enc] at h2
      simp [h2]
  some es a j e w hes hj he hfirst := by
    rw [run_findKey_ed]
    rcases find_ed es a w 0 hes with ⟨h, _⟩ | ⟨j', e', h1, h2, h3⟩
    · exact absurd he (h e (List.mem_of_getElem? hj))
    · have hjj : j' = j := hfirst j' e' h1 h2
      subst hjj
      rw [h1] at hj
      injection hj with hj
      subst hj
      rw [h3]; simp
  stays a w := by
    have : Instr.sameBits 10000 (encE a) (encE a) = true := by
      show Instr.sameBits (9999 + 1) (.agg a.enc.toArray) (.agg a.enc.toArray) = true
      have hs : ∀ (s : ByteArray), (s == s) = true := fun s => by rw [beq_toListBytes]; simp
      simp [Instr.sameBits, Ed.enc]
    simp [Instr.keyThatStays, this]
end

section
open Go.RowKit Go.Shelf
attribute [local go_sem] Oper.semAt_some

theorem mE : Tryz.prog.underlying 298 = some (.map 228 4) := Tryz.underlying298

set_option maxRecDepth 100000 in
set_option maxHeartbeats 1000000 in
theorem keysE1 (n : Nat) (hn : 1 ≤ n) (l Bm b : Nat) (kv : List (Ed × Value)) (J Jx : List Ed → World → Prop)
    (hY : ∀ pre x W, J pre W → pre.length < kv.length → YieldAt Fence.wide (n - 1) Tryz.prog l #[encE x] W fun e W' => (e = .returned (.bool true) ∧ J (pre ++ [x]) W' ∧ KeepsWalks W W') ∨ (e = .returned (.bool false) ∧ Jx (pre ++ [x]) W'))
    (W : World) (hJ : AbidesFrom W.heap.size J) (hm : W.cell? ⟨Bm, 0, none⟩ = some (.map (some b))) (hown : MapAt W encE b kv) (h0 : J [] W) :
    CallsIn Fence.wide n Tryz.prog 261 #[.func (.yield l) #[] #[], .pointer (some ⟨Bm, 0, none⟩)] W fun e W' => (∃ v, e = .returned v) ∧
      ((∃ xs : List Ed, xs.Perm (kv.map (·.1)) ∧ J xs W') ∨ ∃ pre, True ∧ Jx pre W') := by
  refine callsIn_of_wp Tryz.func261 rfl trivial ?_ rfl
  simp only [Tryz.ntmps261, List.size_toArray, List.length_cons, List.length_nil, Nat.reduceAdd, Nat.reduceSub, Array.replicate_succ, Array.replicate_zero, List.push_toArray, List.append_toArray, List.nil_append, List.cons_append]
  gi_wp2_with (first
    | (gi_at_range; refine wplIn_range rfl _ _ rfl mE rfl hown ?_; intro w0 hit0 hc0 hg0 hs0)
    | gi_in)
  go_frame
  gi_loopw [3] (fun _ wr => ∃ (left : List (Ed × Value)) (xs : List Ed), ItAt wr encE b W.heap.size kv left ∧ (xs ++ left.map (·.1)).Perm (kv.map (·.1)) ∧ J xs wr)
    (fun _ wr => itLeft encE b W.heap.size wr)
  case atStart => exact ⟨kv, [], hit0, List.Perm.refl _, hJ [] W w0 none h0 hg0 (fun r e => by cases e)⟩
  case round =>
    obtain ⟨left, xs, hit, hp, hJs⟩ := hrel
    gi_wp2_with (first
      | (gi_at_next; refine wplIn_next rfl _ rfl rfl hit ?_ ?_)
      | gi_in)
    · intro hl
      gi_wp2
      go_end0
      exact ⟨⟨_, rfl⟩, .inl ⟨xs, by simpa [hl] using hp, hJs⟩⟩
    · intro x c left' w2 hperm hx hit2 hc2 hg2 hs2 hen
      have hlen : xs.length < kv.length := by
        have h1 := hp.length_eq
        have h2 := hperm.length_eq
        simp at h1 h2; omega
      have hp2 : ((xs ++ [x]) ++ left'.map (·.1)).Perm (kv.map (·.1)) := by
        refine List.Perm.trans ?_ hp
        rw [List.append_assoc]
        exact List.Perm.append_left xs (by simpa using (hperm.map (·.1)).symm)
      have hJ2 : J xs w2 := hJ xs wr w2 (some W.heap.size) hJs hg2 (fun r e => by cases e; exact ⟨Nat.le_refl _, hit.iter_walk⟩)
      have hJ3 : J xs (w2.alloc (.cells #[.string x.f, .string x.t, .bool x.n] 228)) := hJ xs w2 _ none hJ2 (World.grownBy_alloc _ _ _) (fun r e => by cases e)
      obtain ⟨fn, tmps, assign, body, hy, hR⟩ := hY xs x _ hJ3 hlen
      have hlt : left'.length < left.length := by have := hperm.length_eq; simp at this; omega
      have hL : itLeft encE b W.heap.size wr = left.length := hit.left_eq
      simp only [encE, Ed.enc] at hen hy
      clear hs2
      gi_wp2
      refine hR.mono ?_
      rintro e W3 (⟨rfl, hJ4, hk⟩ | ⟨rfl, hJx⟩)
      · gi_wp2
        have hit3 := (hit2.alloc (.cells #[.string x.f, .string x.t, .bool x.n] 228)).of_walks hk
        go_roundw
        case rel => exact ⟨left', xs ++ [x], hit3, hp2, hJ4⟩
        case measure => rw [hit3.left_eq, hL]; exact hlt
      · gi_wp2
        refine bodyPost_ret (results_none rfl _ _ _) rfl ?_
        exact ⟨⟨_, rfl⟩, .inr ⟨_, trivial, hJx⟩⟩

theorem keysE_stops (n : Nat) (hn : 1 ≤ n) (Bm b : Nat) (kv : List (Ed × Value)) (w : World) (hBm : Bm < w.heap.size) (hm : w.cell? ⟨Bm, 0, none⟩ = some (.map (some b))) (hown : MapAt w encE b kv) :
    SeqStopsK Fence.wide n Tryz.prog 261 #[.pointer (some ⟨Bm, 0, none⟩)] (fun x : Ed => #[encE x]) KeepsWalks (fun xs => xs.Perm (kv.map (·.1))) (fun _ => True) kv.length w :=
  fun l J Jx W hW hJ _ hY h0 => keysE1 n hn l Bm b kv J Jx hY W hJ ((hW.cell (p := ⟨Bm, 0, none⟩) hBm).trans hm) (hown.ch (S := []) ⟨hW.os, hW.tape, hW.output, hW.size, fun k hk _ => hW.block k hk⟩ (by simp)) h0

theorem infoEd : (Tryz.prog.info? 228).map (fun i => (i.zero, i.size, i.bytes)) = some (some (.agg #[.string ⟨#[]⟩, .string ⟨#[]⟩, .bool false]), 3, 40) := by kernel_rfl
def flatE (xs : List Ed) : List Value := (xs.map Ed.enc).flatten

set_option maxRecDepth 100000 in
set_option maxHeartbeats 2000000 in
theorem appendSeqE (n : Nat) (hn : 3 ≤ n) (g : Nat) (lb : Array Value) (eg : ∀ args w, (callFunc g args).run Tryz.prog w = .ok (.enter g args) w) (S Sp : List Ed → Prop) (N : Nat) (hN : N ≤ 1000000000) (w : World)
    (hseq : SeqStopsK Fence.wide (n - 1) Tryz.prog g lb (fun x : Ed => #[encE x]) KeepsWalks S Sp N w) :
    CallsIn Fence.wide n Tryz.prog 291 #[.slice none 0 0, .func (.func g) #[] lb] w fun e W' => ∃ (v : Value) (xs : List Ed), e = .returned v ∧ S xs ∧ W'.ownsRow w.heap.size 228 3 v xs.length (flatE xs) ∧ Below w.heap.size w W' := by
  have h1 : 1 ≤ n := by omega
  obtain ⟨i0, hi, hz0, hz1, hz2⟩ := info_parts infoEd
  refine callsIn_of_wp_marks Tryz.func291 rfl trivial ?_ rfl
  simp only [Tryz.ntmps291, List.size_toArray, List.length_cons, List.length_nil, Nat.reduceAdd, Nat.reduceSub, Array.replicate_succ, Array.replicate_zero, List.push_toArray, List.append_toArray, List.nil_append, List.cons_append]
  gi_wp2
  have bS := Boxed.new w 221 (.slice none 0 0)
  have hB0 : Below w.heap.size w (w.alloc (.cells #[.slice none 0 0] 221)) := (Below.refl _ w).alloc (Nat.le_refl _) _
  refine wpIn_rangeFunc_ownH rfl h1 (gf := g) (lb := lb) rfl trivial eg hseq walksK_t walksK_b hB0 (fun _ => rfl)
    (fun pre W => (∃ v, Boxed W w.heap.size 221 v ∧ W.ownsRow w.heap.size 228 3 v pre.length (flatE pre) ∧ True) ∧ Below w.heap.size w W)
    (fun _ _ _ => False)
    (OwnFrom.and (Go.Own.from (holdsRow_own w.heap.size w.heap.size 221 228 3 (fun pre : List Ed => pre.length) flatE (fun _ _ => True)) _) (ownFrom_below (Nat.le_refl _) (by simp)))
    (fun _ _ _ _ _ hs _ _ => hs)
    ⟨⟨_, bS, World.ownsRow_nil _ _ _ _, trivial⟩, hB0⟩
    (fun x a' W => ∃ Bx, w.heap.size < Bx ∧ Blk W Bx 228 #[.string x.f, .string x.t, .bool x.n] ∧ a' = { tmps := #[.slice none 0 0, .func (.func g) #[] lb, .pointer (some ⟨w.heap.size, 0, none⟩), undef, .slice none 0 0, .pointer (some ⟨Bx, 0, none⟩), .func (.func g) #[] lb, encE x, undef, undef, undef, undef, undef], defers := [] })
    (fun x a' _ X Y row hs hg hr => by
      obtain ⟨Bx, h1, h2, h3⟩ := hs
      refine ⟨Bx, h1, (hg.block Bx h2.lt (fun e => ?_)).trans h2, h3⟩
      obtain ⟨_, o, ho, hc⟩ := hr Bx e.symm
      rw [show X.heap[Bx]? = _ from h2] at ho; cases ho; cases hc) ?assign ?body ?done ?stop
  case assign =>
    rintro l pre x W K ⟨⟨v, hv, hrow, _⟩, hB⟩ hK
    simp only [encE, Ed.enc]
    gi_wp2
    exact hK _ _ ((KeepsOthers.alloc _ _).from _) (KeepsWalks.alloc _ _) ⟨⟨v, hv.alloc _, hrow.alloc _, trivial⟩, hB.alloc hB.size _⟩ ⟨W.heap.size, hv.lt, Blk.new _ _ _, rfl⟩
  case body =>
    rintro l pre x a' W hl ⟨r, hr⟩ ⟨⟨v, hv, hrow, _⟩, hB⟩ ⟨Bx, hBx, hbx, rfl⟩ hlt
    have hc := hv.cell
    have c0 := hbx.cell 0
    have c1 := hbx.cell 1
    have c2 := hbx.cell 2
    have hcell : ∀ j u, [Value.string x.f, .string x.t, .bool x.n][j]? = some u → (W.alloc (.cells #[.string x.f, .string x.t, .bool x.n] 228)).cell? ((⟨W.heap.size, 0, none⟩ : Addr).add j) = some u := by
      intro j u hu
      rw [add_off, Nat.zero_add, (Blk.new W 228 _).cell]
      simpa using hu
    gi_wp2_with (gi_at_builtin; refine wpListIn_append_own _ rfl _ _ 221 rfl w.heap.size 228 i0 _ 3 40 Tryz.underlying221 hi hz0 hz1 hz2 rfl (by decide) _ _ _ rfl (hrow.alloc _) ⟨W.heap.size, 0, none⟩ 1 1 [.string x.f, .string x.t, .bool x.n] rfl rfl hcell (by simp [Value.oneCell']) (by unfold maxLen; omega) (by omega) (by have := hB.size; simp; omega) ?_; intro v' w1 hown' hgrow _; obtain ⟨g', cap', rfl⟩ := ownsRow_succ hown'; obtain ⟨hv1, hv2, hr2, hk2, hb2⟩ := hv.appended (by decide) hrow hB.size (Nat.le_refl _) hown' hgrow; have hc1 := hv1.cell; have hf1 := hv1.frozen)
    have hfl : flatE (pre ++ [x]) = flatE pre ++ [.string x.f, .string x.t, .bool x.n] := by simp [flatE, Ed.enc]
    exact ⟨hk2.from _, ⟨hk2.size, fun k o hk ho => hk2.same k o hk (Obj.not_cells_of_walk ho)⟩, ⟨_, hv2, by rw [hfl]; simpa using hr2, trivial⟩, hB.trans hb2⟩
  case done =>
    rintro D ys W hD hS ⟨⟨v, hv, hrow, _⟩, hB⟩ hK
    have hc := hv.cell
    gi_wp2
    refine ⟨by simp, .inl ⟨_, _, rfl, run_takeDeferred hK, ?_⟩⟩
    exact ⟨_, results_tmp rfl _ _ _, v, ys, rfl, hS, ownsRow_putObj hrow _ hK rfl, hB.trans (belowK_b (w := w) (Nat.le_refl _) W D _ _ (by simp at hD; omega) hK rfl rfl)⟩
  case stop =>
    rintro D c pre W _ _ h _
    exact h.elim
end

section
open Go.RowKit Go.Shelf Go.Sort
attribute [local go_sem] Oper.semAt_some

deriving instance Inhabited for Ed
theorem enc_len (x : Ed) : x.enc.length = 3 := rfl
theorem enc_one (x : Ed) : ∀ v ∈ x.enc, v.oneCell' = true := fun v hv => by simp [Ed.enc] at hv; rcases hv with rfl | rfl | rfl <;> rfl
theorem flatE_at (xs : List Ed) (j : Nat) (hj : j < xs.length * 3) : (flatE xs)[j]? = some ((Ed.enc xs.toArray[j / 3]!)[j % 3]!) := by
  have hd : j / 3 < xs.length := by omega
  have hm : j % 3 < 3 := Nat.mod_lt _ (by decide)
  have h1 : (xs.map Ed.enc)[j / 3]? = some (Ed.enc xs[j / 3]) := by rw [List.getElem?_map, List.getElem?_eq_getElem hd]; rfl
  have h2 : (Ed.enc xs[j / 3])[j % 3]? = some ((Ed.enc xs[j / 3])[j % 3]'(by rw [enc_len]; exact hm)) := List.getElem?_eq_getElem _
  have := flat_get (xs.map Ed.enc) 3 (fun c hc => by obtain ⟨x, _, rfl⟩ := List.mem_map.1 hc; rfl) (j / 3) _ (j % 3) _ h1 h2
  rw [show j / 3 * 3 + j % 3 = j from by omega] at this
  unfold flatE
  rw [this]
  have hx : xs.toArray[j / 3]! = xs[j / 3] := by simp [hd]
  rw [hx, getElem!_pos _ _ (by rw [enc_len]; exact hm)]
theorem holds_row {W : World} {base g cap n : Nat} {xs : List Ed} (h : W.ownsRow base 228 3 (.slice (some ⟨g, 0, none⟩) n cap) xs.length (flatE xs)) : HoldsK Ed.enc 3 W g 0 xs.toArray := by
  intro j hj
  have hj' : j < xs.length * 3 := by simpa using hj
  have hg : ∃ cs, W.heap[g]? = some (.cells cs 228 (0, 0)) := by
    rcases h.2 with ⟨h0, _⟩ | ⟨g', c', cur, e, _, hb, _⟩
    · cases h0
    · cases e; exact ⟨_, hb⟩
  obtain ⟨cs, hb⟩ := hg
  refine ⟨?_, by simp [World.frozen?, hb]⟩
  have h1 := h.cells (g := g) rfl j _ (flatE_at xs j hj')
  rw [add_off] at h1
  rw [get_flatK _ _ _ _ (by simpa using hj')]
  exact h1
theorem sort_ch {W : World} {g n : Nat} {os : Array Obj} (d : Array Ed) : Ch [g] W (sortWorldK Ed.enc 3 W g 0 n d os) := by
  refine ⟨rfl, rfl, rfl, by simp [sortWorldK, putRowK], fun k hk hne => ?_⟩
  unfold sortWorldK putRowK
  rw [heap_grow_old _ _ (by simpa using hk)]
  have : g ≠ k := fun e => hne (by rw [e]; simp)
  simp [putRow, mapBlock, Sort.ahead, Array.getElem?_modify, this]
theorem sorted_sl {W : World} {base g cap n m : Nat} {os : Array Obj} {xs ys : List Ed} (hl : ys.length = xs.length) (h : W.ownsRow base 228 3 (.slice (some ⟨g, 0, none⟩) m cap) xs.length (flatE xs)) :
    SlE (fun b => base ≤ b) (sortWorldK Ed.enc 3 W g 0 n ys.toArray os) (.slice (some ⟨g, 0, none⟩) xs.length cap) ys := by
  have hH := holds_row h
  obtain ⟨hbase, hlen, hcap, hg⟩ : base ≤ g ∧ xs.length ≤ cap ∧ cap ≤ maxLen ∧ g < W.heap.size := by
    rcases h.2 with ⟨h0, _⟩ | ⟨g', c', cur, e, hb, hbk, h1, h2, _⟩
    · cases h0
    · cases e; exact ⟨hb, h1, h2, lt_of_heap hbk⟩
  have hP := holds_putRow id (Sort.ahead W n) g 0 (flatK Ed.enc 3 xs.toArray) (flatK Ed.enc 3 ys.toArray) (holds_ahead _ _ _ _ _ _ hH) (by simp [hl])
  refine ⟨_, cap, by rw [List.length_map, hl], by rw [List.length_map, hl]; exact hlen, hcap, fun i cs hi => ?_⟩
  rw [List.getElem?_map, Option.map_eq_some_iff] at hi
  obtain ⟨y, hy, rfl⟩ := hi
  obtain ⟨hilt, hy'⟩ := List.getElem?_eq_some_iff.1 hy
  refine ⟨⟨rfl, enc_one y⟩, g, 0, rfl, ⟨hbase, ?_⟩, fun j u hu => ?_⟩
  · have := (sort_ch (W := W) (g := g) (n := n) (os := os) ys.toArray).size
    omega
  · have hj : j < 3 := by have := (List.getElem?_eq_some_iff.1 hu).1; rw [enc_len] at this; exact this
    have hjj : i * 3 + j < (flatK Ed.enc 3 ys.toArray).size := by simp; omega
    unfold sortWorldK
    rw [cell?_grow _ _ _ (by simpa [putRowK] using hg)]
    have := (hP (i * 3 + j) hjj).1
    unfold putRowK
    rw [this, get_flatK _ _ _ _ (by simpa using hjj)]
    rw [show (i * 3 + j) / 3 = i from by omega, show (i * 3 + j) % 3 = j from by omega]
    have hx : ys.toArray[i]! = y := by simp [hilt, hy']
    rw [hx]
    obtain ⟨h3, h4⟩ := List.getElem?_eq_some_iff.1 hu
    show some (y.enc[j]!) = some u
    rw [getElem!_pos y.enc j h3, h4]

def sortEd (xs : List Ed) : List Ed := xs.mergeSort fun x y => !(ltOf edCmp) y x
theorem sortEd_len (xs : List Ed) : (sortEd xs).length = xs.length := by simp [sortEd]

theorem sortFuncE (base g cap m : Nat) (xs : List Ed) (W : World) (hm : xs.length ≤ 1000000000) (h : W.ownsRow base 228 3 (.slice (some ⟨g, 0, none⟩) m cap) xs.length (flatE xs)) :
    Calls Tryz.prog 260 #[.slice (some ⟨g, 0, none⟩) xs.length cap, .func (.func 210) #[] #[]] W fun e w' => e = .returned (.tuple #[]) ∧ Ch [g] W w' ∧ SlE (fun b => base ≤ b) w' (.slice (some ⟨g, 0, none⟩) xs.length cap) (sortEd xs) := by
  have hg : g < W.heap.size := (h.lt g rfl).2
  have eg : ∀ args w, (callFunc 210 args).run Tryz.prog w = .ok (.enter 210 args) w := enters_of Tryz.func210 (by kernel_rfl) rfl
  have hcmp : CmpLays Tryz.prog 210 #[] Ed.enc 3 edCmp g 0 xs.toArray.size W := fun _ _ _ _ x y => compareEdges_ x y _
  have hcon := AnyQ.slices_SortFunc_total lay_sortFuncE 3 Tryz.isAgg228 Tryz.sizeOf228 Ed.enc enc_len enc_one edCmp swoEd 210 #[] g 0 cap xs.toArray W eg hcmp (holds_row h) hg (by simp; omega) totEd
  change Calls Tryz.prog 260 _ _ _ at hcon
  rw [List.size_toArray] at hcon
  refine hcon.mono ?_
  rintro e w' ⟨rfl, n, os, rfl⟩
  exact ⟨rfl, sort_ch _, sorted_sl (sortEd_len xs) h⟩

theorem sortEd_eq {ks xs : List Ed} (hp : xs.Perm ks) (hn : ks.Nodup) : Asc edLess (sortEd xs) ∧ ∀ e, e ∈ sortEd xs ↔ e ∈ ks := by
  have hperm : (sortEd xs).Perm ks := (List.mergeSort_perm xs _).trans hp
  have tr : ∀ a b c : Ed, (!(ltOf edCmp) b a) = true → (!(ltOf edCmp) c b) = true → (!(ltOf edCmp) c a) = true := by
    intro a b c h1 h2
    simp only [Bool.not_eq_true', lt_edCmp] at *
    cases h3 : edLess c a with
    | false => rfl
    | true =>
      cases h4 : edLess a b with
      | true => exact absurd (edLess_sto.trans c a b h3 h4) (by rw [h2]; simp)
      | false =>
        have := edLess_sto.total a b h4 h1
        subst this; rw [h2] at h3; cases h3
  have to : ∀ a b : Ed, ((!(ltOf edCmp) b a) || (!(ltOf edCmp) a b)) = true := by
    intro a b
    simp only [lt_edCmp]
    cases h3 : edLess b a with
    | false => rfl
    | true =>
      cases h4 : edLess a b with
      | false => rfl
      | true => exact absurd (edLess_sto.trans a b a h4 h3) (by rw [edLess_sto.irr]; simp)
  have hpw := List.pairwise_mergeSort tr to xs
  have hnd : (sortEd xs).Nodup := hperm.nodup_iff.2 hn
  refine ⟨(hpw.and hnd).imp fun {a b} hab => ?_, fun e => hperm.mem_iff⟩
  obtain ⟨h1, h2⟩ := hab
  simp only [Bool.not_eq_true', lt_edCmp] at h1
  cases h3 : edLess a b with
  | true => rfl
  | false => exact absurd (edLess_sto.total a b h3 h1) h2

theorem keysE_ (mb : Option Nat) (w : World) : Calls Tryz.prog 209 #[.map mb] w fun e w' => e = .returned (.func (.func 261) #[] #[.pointer (some ⟨w.heap.size, 0, none⟩)]) ∧ w' = w.alloc (.cells #[.map mb] 298) := by
  go_enter Tryz.func209, Tryz.ntmps209
  go_wp2
  go_ret
  exact ⟨rfl, rfl⟩

set_option maxHeartbeats 1000000 in
theorem collectE (b : Nat) (kv : List (Ed × Value)) (w : World) (h : MapAt w encE b kv) (hn : kv.length ≤ 1000000000) :
    Calls Tryz.prog 259 #[.func (.func 261) #[] #[.pointer (some ⟨w.heap.size, 0, none⟩)]] (w.alloc (.cells #[.map (some b)] 298)) fun e w' =>
      ∃ v xs, e = .returned v ∧ xs.Perm (kv.map (·.1)) ∧ w'.ownsRow (w.heap.size + 1) 228 3 v xs.length (flatE xs) ∧ Ch [] w w' := by
  have hk := keysE_stops 2 (by omega) w.heap.size b kv (w.alloc (.cells #[.map (some b)] 298)) (by simp) ((Blk.new w 298 #[.map (some b)]).cell 0) (h.alloc _)
  have eg : ∀ args w, (callFunc 261 args).run Tryz.prog w = .ok (.enter 261 args) w := enters_of Tryz.func261 (by kernel_rfl) rfl
  have hcon := callsIn_wide.1 (appendSeqE 3 (by omega) _ _ eg _ _ _ hn _ hk)
  rw [World.size_alloc] at hcon
  have hB0 : Ch [] w (w.alloc (.cells #[.map (some b)] 298)) := (Ch.refl [] w).alloc _
  clear hk eg
  go_enter Tryz.func259, Tryz.ntmps259
  go_wp2_with (go_at_call 291; refine hcon.mono ?_; rintro e w' ⟨v, xs, rfl, hp, hrow, hB⟩)
  go_ret
  exact ⟨v, xs, rfl, hp, hrow, hB0.trans ⟨hB.os, hB.tape, hB.output, by have := hB.size; simpa using this, fun k hk _ => hB.block k (by simpa using hk)⟩⟩

theorem sortAnyE (base : Nat) (v : Value) (xs : List Ed) (W : World) (hm : xs.length ≤ 1000000000) (h : W.ownsRow base 228 3 v xs.length (flatE xs)) :
    Calls Tryz.prog 260 #[v, .func (.func 210) #[] #[]] W fun e w' => e = .returned (.tuple #[]) ∧ Ch v.ownBlock.toList W w' ∧ SlE (fun b => base ≤ b) w' v (sortEd xs) := by
  rcases h.2 with ⟨rfl, h0⟩ | ⟨g, cap, cur, rfl, _⟩
  · have hx : xs = [] := List.eq_nil_of_length_eq_zero h0
    subst hx
    have := AnyF.slices_SortFunc_none (P := Tryz.prog) { lay_sortFuncE with } none 0 (.func (.func 210) #[] #[]) W
    refine Calls.mono (P := Tryz.prog) this ?_
    rintro e w' ⟨rfl, rfl⟩
    exact ⟨rfl, Ch.refl _ _, by rw [show sortEd [] = [] from by simp [sortEd]]; exact Sl.nil _ _ _⟩
  · exact sortFuncE base g cap _ xs W hm h

set_option maxHeartbeats 1000000 in
theorem sortedFuncE (b : Nat) (kv : List (Ed × Value)) (w : World) (h : MapAt w encE b kv) (hn : kv.length ≤ 1000000000) :
    Calls Tryz.prog 208 #[.func (.func 261) #[] #[.pointer (some ⟨w.heap.size, 0, none⟩)], .func (.func 210) #[] #[]] (w.alloc (.cells #[.map (some b)] 298)) fun e w' =>
      ∃ v es, e = .returned v ∧ SlE (fun b => w.heap.size ≤ b) w' v es ∧ Ch [] w w' ∧ Asc edLess es ∧ ∀ x, x ∈ es ↔ x ∈ kv.map (·.1) := by
  have hnd := Lib.hid h.nodup
  have hcol := collectE b kv w h hn
  clear h
  go_enter Tryz.func208, Tryz.ntmps208
  go_wp2_with (first
    | (go_at_call 259; refine hcol.mono ?_; rintro e w1 ⟨v1, xs, rfl, hp, hrow, hB⟩)
    | (go_at_call 260; refine (sortAnyE (w.heap.size + 1) v1 xs w1 (by have := hp.length_eq; rw [List.length_map] at this; omega) hrow).mono ?_; rintro e w2 ⟨rfl, hc, hsl⟩))
  go_ret
  obtain ⟨h1, h2⟩ := sortEd_eq hp hnd.out
  refine ⟨_, _, rfl, hsl.weak (fun b _ hb => by omega), hB.step hc ?_, h1, h2⟩
  intro x hx
  right
  cases ho : v1.ownBlock with
  | none => rw [ho] at hx; cases hx
  | some g =>
    rw [ho] at hx
    have := (hrow.lt g ho).1
    simp at hx; omega

/-- an edge of a rule -/
def RuE (r : Ru) (e : Ed) : Prop := r.head.name ≠ dis ∧ ∃ x ∈ r.body, x.atom.name ≠ dis ∧ e = edOf r.head.name x
theorem set_edges {l : List Ru} {kv : List (Ed × Value)} (h : SetOf (fun e => ∃ r ∈ l, RuE r e) kv) {es : List Ed} (h1 : Asc edLess es) (h2 : ∀ x, x ∈ es ↔ x ∈ kv.map (·.1)) : es = edgesOf l :=
  asc_ext edLess_sto h1 (asc_edgesOf _) fun e => by rw [h2, h.2, mem_edgesOf]; rfl

set_option maxRecDepth 100000 in
set_option maxHeartbeats 2000000 in
theorem depEdges_ (p) (v : Value) (l : List Ru) (w : World) (h : SlR p w v l) (hf : (edgesOf l).length ≤ 100000) :
    Calls Tryz.prog 143 #[v] w fun r w' => ∃ v', r = .returned v' ∧ SlE (fun b => w.heap.size ≤ b) w' v' (edgesOf l) ∧ Ch [] w w' := by
  obtain ⟨a, c, rfl, hlc, hm⟩ := h.form
  unfold maxLen at hm
  have HF := Lib.hid hf; clear hf
  have hmm := @run_makeMap Tryz.prog
  go_enter Tryz.func143, Tryz.ntmps143
  go_wp2
  go_loopw [11] (fun i wr => ∃ (k : Nat) (kv : List (Ed × Value)), k ≤ l.length ∧ i = .int .i64 k ∧ Ch [] w wr ∧ MapAt wr encE w.heap.size kv ∧ Hid (SetOf (fun e => ∃ r ∈ l.take k, RuE r e) kv)) (fun i _ => l.length - (intOf i).toNat)
  case atStart => exact ⟨0, [], Nat.zero_le _, rfl, (Ch.refl _ _).alloc _, MapAt.new _ _, SetOf.empty (by simp)⟩
  case round =>
    obtain ⟨k, kv, hk, rfl, hB, hM, HS⟩ := hrel
    by_cases hlt : k < l.length
    · obtain ⟨b, o, a', c', a'', c'', rfl, hp, c0, c1, c2, hT, hL⟩ := h.at_ hlt
      have c0 := cell_ch c0 hB (by simp)
      have c1 := cell_ch c1 hB (by simp)
      have c2 := cell_ch c2 hB (by simp)
      have hml := hM.lt
      have HT := Lib.hid (fun e => take_ex (k := k) hlt (P := fun r : Ru => RuE r e))
      have hbox := Blk.new wr 87 #[.string l[k].head.name, .slice a' l[k].head.args.length c', .slice a'' l[k].body.length c'']
      have d2 := hbox.cell 2
      obtain ⟨wo, rfl⟩ : ∃ wo : World, wo = wr := ⟨_, rfl⟩
      obtain ⟨a3, c3, e3, _, hm3⟩ := hL.form
      injection e3 with e31 _ e32
      subst e31 e32
      unfold maxLen at hm3
      go_wp2
      · have hd : (l[k].head.name.toList == [100, 105, 115, 116, 105, 110, 99, 116]) = true := by assumption
        rw [dis_eq, decide_eq_true_eq] at hd
        go_roundw
        case rel => exact ⟨k + 1, kv, by omega, by go_num, hB.alloc _, hM.alloc _, HS.out.iff (fun e => by rw [HT.out e]; exact ⟨fun h => h.elim (fun h1 => absurd hd h1.1) id, .inr⟩)⟩
        case measure => simp [intOf]; omega
      · have hd : (l[k].head.name.toList == [100, 105, 115, 116, 105, 110, 99, 116]) = false := by assumption
        rw [dis_eq, decide_eq_false_iff_not] at hd
        go_loopw [22] (fun i wq => ∃ (m : Nat) (kv : List (Ed × Value)), m ≤ l[k].body.length ∧ i = .int .i64 m ∧ Ch [] w wq ∧ Blk wq wo.heap.size 87 #[.string l[k].head.name, .slice a' l[k].head.args.length c', .slice a'' l[k].body.length c''] ∧ MapAt wq encE w.heap.size kv ∧
            Hid (SetOf (fun e => (∃ r ∈ l.take k, RuE r e) ∨ ∃ x ∈ l[k].body.take m, x.atom.name ≠ dis ∧ e = edOf l[k].head.name x) kv)) (fun i _ => l[k].body.length - (intOf i).toNat)
        case atStart => exact ⟨0, kv, Nat.zero_le _, rfl, hB.alloc _, hbox, hM.alloc _, HS.out.iff (fun e => by simp)⟩
        case round =>
          obtain ⟨m, kv', hmk, rfl, hB2, hbox2, hM2, HS3⟩ := hrel
          by_cases hlt2 : m < l[k].body.length
          · obtain ⟨b2, o2, a2, c2', rfl, hp2, e0, e1, e2, hT2⟩ := hL.at_ hlt2
            have e0 := cell_ch e0 hB2 (by simp)
            have e1 := cell_ch e1 hB2 (by simp)
            have e2 := cell_ch e2 hB2 (by simp)
            have f0 := (hbox2.alloc (.cells #[.bool l[k].body[m].nt, .string l[k].body[m].atom.name, .slice a2 l[k].body[m].atom.args.length c2'] 141)).cell 0
            have HT2 := Lib.hid (fun e => take_ex (k := m) hlt2 (P := fun x : Li => x.atom.name ≠ dis ∧ e = edOf l[k].head.name x))
            go_wp2_with (first | (at_mapUpdate; refine wpl_upd rfl _ _ _ _ rfl edKeys mE rfl (b := w.heap.size) (kv := kv') (hM2.alloc _) (edOf l[k].head.name l[k].body[m]) rfl rfl ?_; intro w2 hm2 hc2 hs2))
            · have hd2 : (!l[k].body[m].atom.name.toList == [100, 105, 115, 116, 105, 110, 99, 116]) = true := by assumption
              rw [dis_eq] at hd2
              have hd2 : l[k].body[m].atom.name ≠ dis := by simpa using hd2
              go_roundw
              case rel => exact ⟨m + 1, _, by omega, by go_num, (hB2.alloc _).step hc2 (by simp), (hbox2.alloc _).ch hc2 (by simp; omega), hm2, HS3.out.add _ _ (fun e => by rw [HT2.out e]; grind)⟩
              case measure => simp [intOf]; omega
            · have hd2 : (!l[k].body[m].atom.name.toList == [100, 105, 115, 116, 105, 110, 99, 116]) = false := by assumption
              rw [dis_eq] at hd2
              have hd2 : l[k].body[m].atom.name = dis := by simpa using hd2
              go_roundw
              case rel => exact ⟨m + 1, kv', by omega, by go_num, hB2.alloc _, hbox2.alloc _, hM2.alloc _, HS3.out.iff (fun e => by rw [HT2.out e]; grind)⟩
              case measure => simp [intOf]; omega
          · have : m = l[k].body.length := by omega
            subst this
            rw [List.take_length] at HS3
            go_wp2
            go_roundw
            case rel => exact ⟨k + 1, kv', by omega, by go_num, hB2, hM2, HS3.out.iff (fun e => by rw [HT.out e]; exact ⟨fun h => h.elim (fun h1 => .inr h1.2) .inl, fun h => h.elim .inr (fun h1 => .inl ⟨hd, h1⟩)⟩)⟩
            case measure => simp [intOf]; omega
    · have : k = l.length := by omega
      subst this
      rw [List.take_length] at HS
      have hn : kv.length ≤ 1000000000 := by
        have h1 := hM.nodup
        have h2 : (kv.map (·.1)).length ≤ (edgesOf l).length := List.Nodup.length_le_of_subset h1 fun e he => by rw [mem_edgesOf]; exact (HS.out.2 e).1 he
        have h3 := HF.out
        rw [List.length_map] at h2
        omega
      have hsorted := sortedFuncE w.heap.size kv wr hM hn
      have HX := Lib.hid (fun es h1 h2 => set_edges (es := es) HS.out h1 h2)
      go_wp2_with (first
        | (go_at_call 209; refine (keysE_ _ _).mono ?_; rintro e w1 ⟨rfl, rfl⟩)
        | (go_at_call 208; refine hsorted.mono ?_; rintro e w2 ⟨v2, es, rfl, hv2, hc2, h1, h2⟩))
      go_ret
      have hs := hB.size
      exact ⟨_, rfl, by rw [← HX.out es h1 h2]; exact hv2.weak (fun b _ hb => by omega), hB.trans hc2⟩
theorem depEdges (p) (v : Value) (l : List Ru) (w : World) (h : SlR p w v l) (hf : Fit l) :
    Calls Tryz.prog 143 #[v] w fun r w' => ∃ v', r = .returned v' ∧ SlE (fun b => w.heap.size ≤ b) w' v' (edgesOf l) ∧ Ch [] w w' := depEdges_ p v l w h (by have := edgesOf_len hf l.length; rwa [List.take_length] at this)
end
end Go.Proofs.YtlficnfkekggjaaGreatDoor
