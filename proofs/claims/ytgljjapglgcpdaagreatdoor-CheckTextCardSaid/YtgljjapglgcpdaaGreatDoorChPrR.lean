
/-
  The contracts of printer.must, printer.Rules.
-/
import Derived.Test.YtgljjapglgcpdaaGreatDoorChWrt
import Derived.Test.YtgljjapglgcpdaaGreatDoorChPrV
import Derived.Defers
import Derived.Recover
import Derived.Laws.Pointers
namespace Go.Proofs.YtgljjapglgcpdaaGreatDoor

section
open Go.RowKit

theorem must_ok (x : Value) (w : World) : Calls Tryz.prog 27 #[.bool true, x] w fun e w' => e = .returned (.tuple #[]) ∧ w' = w := by
  go_enter Tryz.func27, Tryz.ntmps27
  go_wp2
  go_end0
  exact ⟨rfl, rfl⟩
theorem must_no (x : Int) (w : World) : Calls Tryz.prog 27 #[.bool false, .int .i64 x] w fun e w' => e = .panicked [{ v := .iface 32 (.int .i64 x), recovered := false }] ∧ w' = w := by
  go_enter Tryz.func27, Tryz.ntmps27
  go_wp2
  exact ⟨rfl, rfl, rfl⟩

theorem assert_no (W : World) : (Instr.typeAssert .nilIface 20 32 true).run Tryz.prog W = .ok (.tuple #[.int .i64 0, .bool false]) W := by kernel_rfl
theorem assert_yes (W : World) (v : Value) : (Instr.typeAssert (.iface 32 v) 20 32 true).run Tryz.prog W = .ok (.tuple #[v, .bool true]) W := by kernel_rfl
set_option maxRecDepth 100000 in
theorem door_idle (a b : Addr) (w : World) :
    CallsD Tryz.prog 26 #[.pointer (some a), .pointer (some b)] .returning w fun e u' w' => e = .returned (.tuple #[]) ∧ u' = .returning ∧ w' = w := by
  have hta := assert_no w
  refine callsD_of_wpS Tryz.func26 rfl fun c₀ cs hu => ?_
  simp only [Tryz.ntmps26, List.size_toArray, List.length_cons, List.length_nil, Nat.reduceAdd, Nat.reduceSub, Array.replicate_succ, Array.replicate_zero, List.push_toArray, List.append_toArray, List.nil_append, List.cons_append]
  apply wpS_seq
  apply wpS_region
  simp [wpOpsS, go_sem, recoverD, hu, Exit.thenS, hta]
  apply wpS_seq
  apply wpS_region
  simp [wpOpsS, go_sem, Exit.thenS]
  refine wpS_cond (t := false) (by simp [Act.eval]) ?_
  simp only [Bool.false_eq_true, if_false]
  refine wpS_of_wp (wp_skip ?_)
  cases c₀
  simp_all [bodyPostS, results]
set_option maxRecDepth 100000 in
theorem door_caught (a b : Addr) (x : Int) (u0 v0 : Value) (w : World) (ha : w.cell? a = some u0) (hb : (w.setCell a (.string ⟨#[]⟩)).cell? b = some v0) (hfa : w.frozen? a = false) (hfb : (w.setCell a (.string ⟨#[]⟩)).frozen? b = false) :
    CallsD Tryz.prog 26 #[.pointer (some a), .pointer (some b)] (.panicking [{ v := .iface 32 (.int .i64 x), recovered := false }]) w fun e u' w' =>
      e = .returned (.tuple #[]) ∧ u' = .panicking [{ v := .iface 32 (.int .i64 x), recovered := true }] ∧ w' = (w.setCell a (.string ⟨#[]⟩)).setCell b (.int .i64 x) := by
  have hta := assert_yes w (.int .i64 x)
  refine callsD_of_wpS Tryz.func26 rfl fun c₀ cs hu => ?_
  simp only [Tryz.ntmps26, List.size_toArray, List.length_cons, List.length_nil, Nat.reduceAdd, Nat.reduceSub, Array.replicate_succ, Array.replicate_zero, List.push_toArray, List.append_toArray, List.nil_append, List.cons_append]
  apply wpS_seq
  apply wpS_region
  simp [wpOpsS, go_sem, recoverD, hu, Exit.thenS, hta]
  apply wpS_seq
  apply wpS_region
  simp [wpOpsS, go_sem, Exit.thenS]
  refine wpS_cond (t := true) (by simp [Act.eval]) ?_
  simp only [if_true]
  apply wpS_region
  simp [wpOpsS, go_sem, ha, hb, hfa, hfb, bodyPostS, results]

section
variable {B b : Nat} {l : List UInt8} {a w w' : World}
theorem IsB.ch (h : IsB B b (Lib.byteCells l) w) (hc : Ch [] w w') : IsB B b (Lib.byteCells l) w' := by
  have hb := hc.below
  have key : ∀ p, BAt B b p (Lib.byteCells l) w → BAt B b p (Lib.byteCells l) w' := fun p h => by
    have hlt := h.lt
    obtain ⟨hB, v, hv, hown, hne⟩ := h
    exact ⟨hB, v, (hb.block b hlt).trans hv, hown.kept (row := none) ⟨hb.os, hb.tape, hb.output, hb.size, fun k hk _ => hb.block k hk⟩ (Classical.em _), hne⟩
  exact h.elim (fun x => .inl (key _ x)) (fun x => .inr (key _ x))
theorem Wr.call (h : Wr B b l a w) (hc : Ch [] w w') : Wr B b l a w' :=
  ⟨IsB.ch h.is hc, h.below.trans (hc.below.mono h.size), h.kept.trans fun k o hk _ _ => (hc.block k (lt_of_heap hk) (by simp)).trans hk, h.le⟩
end
theorem Blk.below {B : Nat} {w w' : World} {g : Nat} {t : TypeId} {cs : Array Value} (h : Blk w g t cs) (k : Below B w w') (hg : g < B) : Blk w' g t cs := (k.block g hg).trans h
theorem Ch.trans' {B b : Nat} {l : List UInt8} {a w w' : World} (h : Ch [] a w) (k : Wr B b l w w') (hB : a.heap.size ≤ B) : Ch [] a w' := Ch.of_below ((h.below).trans (k.below.mono hB))
theorem txRs_app : ∀ (l m : List Ru), txRs (l ++ m) = txRs l ++ txRs m
  | [], m => by simp only [List.nil_append, txRs]; exact (ByteArray.empty_append).symm
  | r :: l, m => by simp only [List.cons_append, txRs, txRs_app l m, ByteArray.append_assoc]
theorem txRs_snoc (l : List Ru) (r : Ru) : bs (txRs (l ++ [r])) = (bs (txRs l) ++ bs (txRu r)) ++ [10] := by
  rw [txRs_app, bs_app]
  simp only [txRs, bs_app, bs_nil, List.append_nil, List.append_assoc]
  rfl
theorem txRs_le (l : List Ru) (k : Nat) : (txRs (l.take k)).size ≤ (txRs l).size := by
  have : txRs l = txRs (l.take k) ++ txRs (l.drop k) := by rw [← txRs_app, List.take_append_drop]
  rw [this, ByteArray.size_append]; omega

set_option maxRecDepth 100000 in
set_option maxHeartbeats 8000000 in
theorem prRules_ (p : Nat → Prop) (v : Value) (l : List Ru) (w : World) (B b : Nat) (h : SlR p w v l) (hO : ∀ r ∈ l, RuOk B b r) (hV : ∀ r ∈ l, ruV r = true) (hlen : l.length ≤ 128) (hsz : (txRs l).size ≤ 1000000000)
    (hr : ∀ r ∈ l, (txRu r).size ≤ 1000000000 ∧ (∀ x ∈ r.body, (txLi x).size ≤ 1000000000) ∧ r.body.length ≤ 1000) :
    Calls Tryz.prog 9 #[v] w fun e w' => (((txRs l).size ≤ 16384 ∧ e = .returned (.tuple #[.string (txRs l), .int .i64 0])) ∨ (16384 < (txRs l).size ∧ e = .returned (.tuple #[.string ⟨#[]⟩, .int .i64 2]))) ∧ Ch [] w w' := by
  obtain ⟨av, c, rfl, hlc, hmx⟩ := h.form
  have hmf : ∀ (fn : Fn) (first cap : Array Value) (w : World), (Instr.makeFunc fn first cap).run Tryz.prog w = .ok (.func fn first cap) w := fun _ _ _ _ => rfl
  have HALL := Lib.hid (show ∀ r ∈ l, RuOk B b r ∧ ruV r = true ∧ (txRu r).size ≤ 1000000000 ∧ (∀ x ∈ r.body, (txLi x).size ≤ 1000000000) ∧ r.body.length ≤ 1000 from fun r hm => ⟨hO r hm, hV r hm, hr r hm⟩)
  clear hO hV hr
  have j0 : decide ((l.length : Int) ≤ 128) = true := decide_eq_true (by omega)
  have hs := Blk.new w 9 #[.string ⟨#[]⟩]
  have hc1 : Ch [] w (w.alloc (.cells #[.string ⟨#[]⟩] 9)) := (Ch.refl _ _).alloc _
  have he := Blk.new (w.alloc (.cells #[.string ⟨#[]⟩] 9)) 32 #[.int .i64 0]
  have hs2 := hs.alloc (.cells #[.int .i64 0] 32)
  have hc2 := hc1.alloc (.cells #[.int .i64 0] 32)
  have hsA : ((w.alloc (.cells #[.string ⟨#[]⟩] 9)).alloc (.cells #[.int .i64 0] 32)).heap.size = w.heap.size + 2 := by simp
  generalize hwA : ((w.alloc (.cells #[.string ⟨#[]⟩] 9)).alloc (.cells #[.int .i64 0] 32)) = wA at *
  have hW0 := Wr.of (isB_new wA) (by simp)
  rw [hsA] at hW0
  have hcB := hc2.alloc (.cells #[.pointer none, .slice none 0 0] 62)
  have hsB := hs2.alloc (.cells #[.pointer none, .slice none 0 0] 62)
  rw [show (w.alloc (.cells #[.string ⟨#[]⟩] 9)).heap.size = w.heap.size + 1 by simp] at he
  have heB := he.alloc (.cells #[.pointer none, .slice none 0 0] 62)
  generalize hwB : wA.alloc (.cells #[.pointer none, .slice none 0 0] 62) = wB at *
  go_enter_defers Tryz.func9, Tryz.ntmps9
  go_wp2_with (go_at_call 27; refine (must_ok (.int .i64 2) _).mono ?_; rintro e w1 ⟨rfl, rfl⟩)
  have HB0 := hcB
  have hwz : Ch [] w wB := hcB
  go_loopw [6, 14] (fun _ i wr => ∃ k : Nat, k ≤ l.length ∧ i = .int .i64 k ∧ Wr (w.heap.size + 2) (w.heap.size + 2) (bs (txRs (l.take k))) wB wr) (fun _ i _ => l.length - (intOf i).toNat)
  case atStart => exact ⟨0, Nat.zero_le _, rfl, by simpa [txRs, bs_nil] using hW0⟩
  case round =>
    obtain ⟨k, hk, rfl, hR⟩ := hrel
    have hcr : Ch [] w wr := hwz.trans' hR (by omega)
    by_cases hlt : k < l.length
    · obtain ⟨bk, o, a', c', a'', c'', rfl, hp, c0, c1, c2, hTh, hTb⟩ := (h.ch0 hcr).at_ hlt
      obtain ⟨hO, hV, hz1, hz2, hz3⟩ := HALL.out _ (List.getElem_mem hlt)
      have j1 : decide (k < l.length) = true := decide_eq_true hlt
      have HTS := Lib.hid (take_snoc l k hlt)
      have HP := Lib.hid (txRs_le l (k + 1))
      generalize l[k] = x at *
      have hRN := hR.alloc (.cells #[.string x.head.name, .slice a' x.head.args.length c', .slice a'' x.body.length c''] 31)
      have hbn := Blk.new wr 31 #[.string x.head.name, .slice a' x.head.args.length c', .slice a'' x.body.length c'']
      have hcN : Ch [] wr (wr.alloc (.cells #[.string x.head.name, .slice a' x.head.args.length c', .slice a'' x.body.length c''] 31)) := (Ch.refl _ _).alloc _
      have b0 := hbn.cell 0
      have b1 := hbn.cell 1
      have b2 := hbn.cell 2
      have hval := prValid_ x B b hO p _ _ _ (hTh.ch0 hcN) (hTb.ch0 hcN)
      rw [hV] at hval
      have hrule := fun wz (hz : Ch [] wr wz) => prRule_ x p _ _ wz (hTh.ch0 hz) (hTb.ch0 hz) hz1 hz2 hz3
      clear hO hV hTh hTb hz2 hz3
      have hlen5 : Hid ((bs (txRs (l.take k))).length + ((txRu x).size + 1) ≤ 1000000000) := by
        have h1 := HP.out
        rw [HTS.out, ← bs_size, txRs_snoc] at h1
        simp only [List.length_append, List.length_cons, List.length_nil, bs_size] at h1
        unfold Hid; rw [bs_size]; omega
      clear hz1
      go_wp2_with (first
        | (go_at_call 28; refine hval.mono ?_; rintro e w3 ⟨rfl, hc3⟩; clear hval; have hbn3 := hbn.ch hc3 (by simp); have d0 := hbn3.cell 0; have d1 := hbn3.cell 1; have d2 := hbn3.cell 2; have hrule3 := hrule w3 (hcN.trans hc3); clear hrule)
        | (go_at_call 27; refine (must_ok _ _).mono ?_; rintro e w4 ⟨rfl, rfl⟩)
        | (go_at_call 30; refine hrule3.mono ?_; rintro e w5 ⟨rfl, hc5⟩; have hR5 := (hRN.call hc3).call hc5; have hws := wrStr (txRu x) hR5.is (by have := hlen5.out; omega) hR5.size)
        | (go_at_call 29; refine hws.mono ?_; rintro e w6 ⟨rfl, hw6⟩; have hwb := wrByte 10 hw6.is (by have := hlen5.out; simp only [List.length_append, bs_size] at *; omega) hw6.size)
        | (go_at_call 31; refine hwb.mono ?_; rintro e w7 ⟨rfl, hw7⟩))
      go_roundw
      case rel =>
        refine ⟨k + 1, by omega, by go_num, ?_⟩
        rw [HTS.out, txRs_snoc]
        exact (hR5.trans hw6).trans hw7
      case measure => simp [intOf]; omega
    · have j1 : decide (k < l.length) = false := decide_eq_false hlt
      rw [List.take_of_length_le (by omega)] at hR
      have hL : Calls Tryz.prog 32 #[.pointer (some ⟨w.heap.size + 2, 0, none⟩)] wr fun e w' => e = .returned (.int .i64 (txRs l).size) ∧ w' = wr := by
        have := bLen _ _ _ _ hR.is
        rw [Lib.byteCells_length, bs_size] at this
        exact this
      have hcr : Ch [] w wr := hwz.trans' hR (by omega)
      have hsr := hsB.below hR.below (by omega)
      have her := heB.below hR.below (by omega)
      have hstr := bString _ _ (bs (txRs l)) wr hR.is hR.size
      rw [mk_bs] at hstr
      clear HALL h hR HB0 hcB hwz hW0 hsB heB hs2 he hs hc1 hc2 hwA hwB
      generalize hT : txRs l = T at hL hstr hsz
      have HT := Lib.hid hT; clear hT
      by_cases hbig : T.size ≤ 16384
      · have j2 : decide ((T.size : Int) ≤ 16384) = true := decide_eq_true (by omega)
        go_wp2_with (first
          | (go_at_call 32; refine hL.mono ?_; rintro e w3 ⟨rfl, rfl⟩)
          | (go_at_call 27; refine (must_ok _ _).mono ?_; rintro e w4 ⟨rfl, rfl⟩)
          | (go_at_call 33; refine hstr.mono ?_; rintro e w5 ⟨rfl, _, hb5, _⟩; have hs5 := hsr.below hb5 (by omega); have he5 := (her.below hb5 (by omega)).far (p := ⟨w.heap.size, 0, none⟩) (by simp) (.string T); have q0 := hs5.cell 0; have q1 := he5.cell 0; have f0 := hs5.frozen 0; have f1 := he5.frozen 0))
        have q2 := (he5.set_ 0 (.int .i64 0)).cell 0
        have q3 := ((hs5.set_ 0 (.string T)).far (p := ⟨w.heap.size + 1, 0, none⟩) (by simp) (.int .i64 0)).cell 0
        have hfin : Ch [] w ((w5.setCell ⟨w.heap.size, 0, none⟩ (.string T)).setCell ⟨w.heap.size + 1, 0, none⟩ (.int .i64 0)) := ((hcr.below.trans (hb5.mono (by omega)) |> Ch.of_below).set (.inr (Nat.le_refl _)) _).set (.inr (by simp)) _
        refine leaves_cons (f := 26) (args := #[.pointer (some ⟨w.heap.size, 0, none⟩), .pointer (some ⟨w.heap.size + 1, 0, none⟩)]) (by simp) (by simp [go_sem]) ?_
        refine (door_idle _ _ _).mono ?_
        rintro e u' w'' ⟨rfl, rfl, rfl⟩
        simp [Leaves, settle, results, Tryz.results9, go_sem, q2, q3]
        exact ⟨⟨by rw [HT.out]; exact hbig, HT.out.symm⟩, hfin⟩
      · have j2 : decide ((T.size : Int) ≤ 16384) = false := decide_eq_false (by omega)
        go_wp2_with (first
          | (go_at_call 32; refine hL.mono ?_; rintro e w3 ⟨rfl, rfl⟩)
          | (go_at_call 27; refine (must_no _ _).mono ?_; rintro e w4 ⟨rfl, rfl⟩))
        have q0 := hsr.cell 0
        have q1 := (her.far (p := ⟨w.heap.size, 0, none⟩) (by simp) (.string ⟨#[]⟩)).cell 0
        have f0 := hsr.frozen 0
        have f1 := (her.far (p := ⟨w.heap.size, 0, none⟩) (by simp) (.string ⟨#[]⟩)).frozen 0
        have q2 := ((her.far (p := ⟨w.heap.size, 0, none⟩) (by simp) (.string ⟨#[]⟩)).set_ 0 (.int .i64 2)).cell 0
        have q3 := ((hsr.set_ 0 (.string ⟨#[]⟩)).far (p := ⟨w.heap.size + 1, 0, none⟩) (by simp) (.int .i64 2)).cell 0
        have hfin := (hcr.set (p := ⟨w.heap.size, 0, none⟩) (.inr (Nat.le_refl _)) (.string ⟨#[]⟩)).set (p := ⟨w.heap.size + 1, 0, none⟩) (.inr (by simp)) (.int .i64 2)
        refine leaves_cons (f := 26) (args := #[.pointer (some ⟨w.heap.size, 0, none⟩), .pointer (some ⟨w.heap.size + 1, 0, none⟩)]) (by simp) (by simp [go_sem]) ?_
        refine (door_caught _ _ 2 _ _ _ q0 q1 f0 f1).mono ?_
        rintro e u' w'' ⟨rfl, rfl, rfl⟩
        simp [Leaves, settle, results, Tryz.results9, go_sem, q2, q3]
        exact ⟨by rw [HT.out]; omega, hfin⟩
end
end Go.Proofs.YtgljjapglgcpdaaGreatDoor
