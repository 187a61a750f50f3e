
/-
  The contracts of check.Hidden, depends.
  The contract of check.Rules (PRINTED BY wip/gen/chrls.py).
-/
import Derived.Test.YtgljjapglgcpdaaGreatDoorChRoles
import Derived.Test.YtgljjapglgcpdaaGreatDoorReach
import Derived.Test.YtgljjapglgcpdaaGreatDoorEdSort
import Derived.Test.YtgljjapglgcpdaaGreatDoorChDiff
import Derived.Test.YtgljjapglgcpdaaGreatDoorStrLev
namespace Go.Proofs.YtgljjapglgcpdaaGreatDoor

section
open Go.RowKit

theorem sees_eq (s : ByteArray) : (s.toList == [115, 101, 101, 115]) = decide (s = bSees) := by
  have : bSees.toList = [115, 101, 101, 115] := by rw [ByteArray.toList_eq]; rfl
  rw [← this, beqS]
def idxRu (f : Ru → Bool) (l : List Ru) : Int := match l.findIdx? f with | some i => (i : Int) | none => -1
theorem idxRu_at (f : Ru → Bool) (l : List Ru) (k : Nat) (h : k < l.length) (hn : ∀ i (hi : i < k), f (l[i]'(by omega)) = false) (hk : f l[k] = true) : idxRu f l = k := by
  have : l.findIdx? f = some k := by
    rw [List.findIdx?_eq_some_iff_getElem]
    exact ⟨h, hk, fun j hj => by rw [hn j hj]; simp⟩
  unfold idxRu; rw [this]
theorem idxRu_none (f : Ru → Bool) (l : List Ru) (hn : ∀ i (hi : i < l.length), f l[i] = false) : idxRu f l = -1 := by
  have : l.findIdx? f = none := by
    rw [List.findIdx?_eq_none_iff]
    intro x hx
    obtain ⟨i, hi, rfl⟩ := List.getElem_of_mem hx
    exact hn i hi
  unfold idxRu; rw [this]
theorem idxRu_any (f : Ru → Bool) (l : List Ru) : decide (0 ≤ idxRu f l) = l.any f := by
  cases h : l.findIdx? f with
  | none =>
    have h1 : idxRu f l = -1 := by unfold idxRu; rw [h]
    rw [h1]
    rw [List.findIdx?_eq_none_iff] at h
    symm
    rw [show decide ((0 : Int) ≤ -1) = false from rfl, List.any_eq_false]
    intro x hx; rw [h x hx]; simp
  | some k =>
    have h1 : idxRu f l = k := by unfold idxRu; rw [h]
    rw [h1]
    rw [List.findIdx?_eq_some_iff_getElem] at h
    obtain ⟨h2, h3, _⟩ := h
    symm
    rw [decide_eq_true (by omega), List.any_eq_true]
    exact ⟨_, List.getElem_mem h2, h3⟩

set_option maxHeartbeats 400000 in
theorem hidden1_ (nm : ByteArray) (vh vb : Value) (w : World) (a : Option Addr) (n c : Nat) (hv : vh = .slice a n c) (a' : Option Addr) (n' c' : Nat) (hv' : vb = .slice a' n' c') :
    Calls Tryz.prog 47 #[.agg #[.string nm, vh, vb]] w fun e w' => e = .returned (.bool (decide (nm = bSees))) ∧ Ch [] w w' := by
  subst hv hv'
  have hbx := Blk.new w 31 #[.string nm, .slice a n c, .slice a' n' c']
  have hcA : Ch [] w (w.alloc (.cells #[.string nm, .slice a n c, .slice a' n' c'] 31)) := (Ch.refl _ _).alloc _
  have b0 := hbx.cell 0
  have e0 := sees_eq nm
  generalize decide (nm = bSees) = q at *
  go_enter Tryz.func47, Tryz.ntmps47
  go_wp2
  go_ret
  exact ⟨by rfl, hcA⟩

set_option maxRecDepth 100000 in
set_option maxHeartbeats 2000000 in
theorem idx_hidden1 (p : Nat → Prop) (v : Value) (l : List Ru) (w : World) (h : SlR p w v l) :
    Calls Tryz.prog 82 #[v, .func (.func 47) #[] #[]] w fun e w' => e = .returned (.int .i64 (idxRu (fun r => decide (r.head.name = bSees)) l)) ∧ Ch [] w w' := by
  obtain ⟨a, c, rfl, hlc, hm⟩ := h.form
  unfold maxLen at hm
  have HK : Hid (∀ k : Nat, (∀ j (hj : j < l.length), j < k → decide (l[j].head.name = bSees) = false) → (hk : k < l.length) → decide (l[k].head.name = bSees) = true → idxRu (fun r => decide (r.head.name = bSees)) l = k) := fun k hn hk ht => idxRu_at _ l k hk (fun i hi => hn i (by omega) hi) ht
  have HKN : Hid ((∀ j (hj : j < l.length), decide (l[j].head.name = bSees) = false) → idxRu (fun r => decide (r.head.name = bSees)) l = -1) := fun hn => idxRu_none _ l hn
  generalize idxRu (fun r => decide (r.head.name = bSees)) l = R at *
  go_enter Tryz.func82, Tryz.ntmps82
  go_wp2
  go_loopw [5, 8] (fun _ i wr => ∃ k : Nat, k ≤ l.length ∧ i = .int .i64 k ∧ Ch [] w wr ∧ Hid (∀ j (hj : j < l.length), j < k → decide (l[j].head.name = bSees) = false)) (fun _ i _ => l.length - (intOf i).toNat)
  case atStart => exact ⟨0, Nat.zero_le _, rfl, Ch.refl _ _, fun j _ h => absurd h (Nat.not_lt_zero _)⟩
  case round =>
    obtain ⟨k, hk, rfl, hB, HN⟩ := hrel
    by_cases hlt : k < l.length
    · obtain ⟨b, o, a', c', a'', c'', rfl, hp, c0, c1, c2, hT, hL⟩ := (h.ch0 hB).at_ hlt
      have hcall := fun wz => hidden1_ l[k].head.name (.slice a' l[k].head.args.length c') (.slice a'' l[k].body.length c'') wz _ _ _ rfl _ _ _ rfl
      cases hq : decide (l[k].head.name = bSees) with
      | true =>
        rw [hq] at hcall
        have HR := Lib.hid (HK.out k HN.out hlt hq)
        clear hq hT hL HN
        generalize l[k] = x at *
        go_wp2_with (go_at_call 47; refine (hcall _).mono ?_; rintro e w1 ⟨rfl, hc1⟩; clear hcall)
        go_ret
        exact ⟨by rw [HR.out]; rfl, hB.trans hc1⟩
      | false =>
        rw [hq] at hcall
        have HX : Hid (∀ j (hj : j < l.length), j < k + 1 → decide (l[j].head.name = bSees) = false) := fun j hj h1 => by
          rcases Nat.lt_succ_iff_lt_or_eq.1 h1 with h2 | h2
          · exact HN.out j hj h2
          · subst h2; exact hq
        clear hq hT hL HN
        generalize l[k] = x at *
        go_wp2_with (go_at_call 47; refine (hcall _).mono ?_; rintro e w1 ⟨rfl, hc1⟩; clear hcall)
        go_roundw
        case rel => exact ⟨k + 1, by omega, by go_num, hB.trans hc1, HX⟩
        case measure => simp [intOf]; omega
    · have HR := Lib.hid (HKN.out (fun j hj => HN.out j hj (by omega)))
      go_wp2
      go_ret
      exact ⟨by rw [HR.out]; rfl, hB⟩

set_option maxRecDepth 100000 in
set_option maxHeartbeats 2000000 in
theorem hidden_ (p : Nat → Prop) (v : Value) (l : List Ru) (w : World) (h : SlR p w v l) :
    Calls Tryz.prog 16 #[v] w fun e w' => e = .returned (.bool (hiddenB l)) ∧ Ch [] w w' := by
  have hi := idx_hidden1 p v l w h
  have HA : Hid (decide (0 ≤ idxRu (fun r => decide (r.head.name = bSees)) l) = hiddenB l) := idxRu_any _ l
  generalize idxRu (fun r => decide (r.head.name = bSees)) l = r at *
  generalize hiddenB l = hb at *
  obtain ⟨a, c, rfl, hlc, hm⟩ := h.form
  have hany : Calls Tryz.prog 46 #[.slice a l.length c, .func (.func 47) #[] #[]] w fun e w' => e = .returned (.bool hb) ∧ Ch [] w w' := by
    go_enter Tryz.func46, Tryz.ntmps46
    go_wp2_with (go_at_call 82; refine hi.mono ?_; rintro e w1 ⟨rfl, hc1⟩; clear hi)
    go_ret
    exact ⟨by rw [← HA.out]; rfl, hc1⟩
  clear hi HA
  go_enter Tryz.func16, Tryz.ntmps16
  go_wp2_with (go_at_call 46; refine hany.mono ?_; rintro e w1 ⟨rfl, hc1⟩; clear hany)
  go_ret
  exact ⟨rfl, hc1⟩

set_option maxRecDepth 100000 in
set_option maxHeartbeats 2000000 in
theorem depends1_ (es : List Ed) (f t : ByteArray) (B : Nat) (p : Nat → Prop) (v : Value) (w : World) (h : SlE p w v es) (hb : Blk w B 97 #[v]) (hl : es.length ≤ 1000000) (hok : EdOk es) :
    Calls Tryz.prog 58 #[.string f, .string t, .pointer (some ⟨B, 0, none⟩)] w fun e w' => e = .returned (.bool (onB es f t)) ∧ Ch [] w w' := by
  have hr := depReach p v es f w h hl hok
  have HO := Lib.hid (show onB es f t = hasS (reachOf es f) t from rfl)
  obtain ⟨a, c, rfl, _, _⟩ := h.form
  have b0 := hb.cell 0
  generalize onB es f t = q at *
  generalize reachOf es f = N at *
  go_enter Tryz.func58, Tryz.ntmps58
  go_wp2_with (first
    | (go_at_call 59; refine hr.mono ?_; rintro e w1 ⟨v1, rfl, h1, hc1⟩; clear hr; have hcon := containsS_ _ v1 N t w1 h1)
    | (go_at_call 55; refine hcon.mono ?_; rintro e w2 ⟨rfl, rfl⟩))
  go_ret
  exact ⟨by rw [HO.out]; rfl, hc1⟩
theorem edOk_of {l : List Ru} (hnm : NmOk l) : EdOk (edgesOf l) := fun e he => by
  obtain ⟨h1, h2⟩ := ends_of l e he
  obtain ⟨_, r, hr, h | ⟨x, hx, h⟩⟩ := (mem_relsOf l e.t).1 h2
  · rw [← h]; exact (hnm r hr).1
  · rw [← h]; exact (hnm r hr).2 x hx

set_option maxRecDepth 100000 in
set_option maxHeartbeats 4000000 in
theorem depends_ (p : Nat → Prop) (v : Value) (l : List Ru) (w : World) (h : SlR p w v l) (hf : Fit l) (hnm : NmOk l) :
    Calls Tryz.prog 24 #[v] w fun e w' => e = .returned (.bool (depsB (edgesOf l))) ∧ Ch [] w w' := by
  have hE := fun wz (hz : SlR p wz v l) => depEdges p v l wz hz hf
  have hel : (edgesOf l).length ≤ 1000000 := by have := edgesOf_len hf l.length; rw [List.take_length] at this; omega
  have hok := edOk_of hnm
  have HD := Lib.hid (show depsB (edgesOf l) = (onB (edgesOf l) bInit bTrue || (onB (edgesOf l) bInit bDoes || (onB (edgesOf l) bLegal bDoes || (onB (edgesOf l) bGoal bDoes || onB (edgesOf l) bTerminal bDoes)))) from rfl)
  generalize depsB (edgesOf l) = D at *
  generalize edgesOf l = es at *
  obtain ⟨a, c, rfl, _, _⟩ := h.form
  have HON := Lib.hid (fun (f t : ByteArray) (v1 : Value) (B : Nat) (wz w1 : World) (hs : SlE (fun b => w.heap.size ≤ b) w1 v1 es) (hz : Ch [] w1 wz) (hb : Blk wz B 97 #[v1]) => depends1_ es f t B _ v1 wz (hs.ch0 hz) hb hel hok)
  clear hel hok hf hnm
  obtain ⟨q1, hq1⟩ : ∃ q, onB es bInit bTrue = q := ⟨_, rfl⟩
  have HQ1 := Lib.hid hq1
  obtain ⟨q2, hq2⟩ : ∃ q, onB es bInit bDoes = q := ⟨_, rfl⟩
  have HQ2 := Lib.hid hq2
  obtain ⟨q3, hq3⟩ : ∃ q, onB es bLegal bDoes = q := ⟨_, rfl⟩
  have HQ3 := Lib.hid hq3
  obtain ⟨q4, hq4⟩ : ∃ q, onB es bGoal bDoes = q := ⟨_, rfl⟩
  have HQ4 := Lib.hid hq4
  obtain ⟨q5, hq5⟩ : ∃ q, onB es bTerminal bDoes = q := ⟨_, rfl⟩
  have HQ5 := Lib.hid hq5
  rw [hq1, hq2, hq3, hq4, hq5] at HD
  clear hq1 hq2 hq3 hq4 hq5
  cases q1 with
  | true =>
    go_enter Tryz.func24, Tryz.ntmps24
    go_wp2_with (first
      | (go_at_call 57; refine (hE _ h).mono ?_; rintro e w1 ⟨v1, rfl, h1, hc1⟩; clear hE; obtain ⟨a1, c1, rfl, _, _⟩ := h1.form; have H1 := HON.out bInit bTrue _ w1.heap.size (w1.alloc (.cells #[.slice a1 es.length c1] 97)) w1 h1 ((Ch.refl _ _).alloc _) (Blk.new _ _ _); rw [HQ1.out] at H1; have z1 : Ch [] w1 (w1.alloc (.cells #[.slice a1 es.length c1] 97)) := (Ch.refl _ _).alloc _; have y1 : Blk (w1.alloc (.cells #[.slice a1 es.length c1] 97)) w1.heap.size 97 #[.slice a1 es.length c1] := Blk.new _ _ _)
      | (go_at_call 58; refine H1.mono ?_; rintro e w2 ⟨rfl, hc2⟩; clear H1; have z2 := z1.trans hc2; have y2 := y1.ch hc2 (by simp); have H2 := HON.out bInit bDoes _ w1.heap.size w2 w1 h1 z2 y2; rw [HQ2.out] at H2))
    go_ret
    exact ⟨by rw [HD.out]; rfl, hc1.trans z2⟩
  | false =>
    cases q2 with
    | true =>
      go_enter Tryz.func24, Tryz.ntmps24
      go_wp2_with (first
        | (go_at_call 57; refine (hE _ h).mono ?_; rintro e w1 ⟨v1, rfl, h1, hc1⟩; clear hE; obtain ⟨a1, c1, rfl, _, _⟩ := h1.form; have H1 := HON.out bInit bTrue _ w1.heap.size (w1.alloc (.cells #[.slice a1 es.length c1] 97)) w1 h1 ((Ch.refl _ _).alloc _) (Blk.new _ _ _); rw [HQ1.out] at H1; have z1 : Ch [] w1 (w1.alloc (.cells #[.slice a1 es.length c1] 97)) := (Ch.refl _ _).alloc _; have y1 : Blk (w1.alloc (.cells #[.slice a1 es.length c1] 97)) w1.heap.size 97 #[.slice a1 es.length c1] := Blk.new _ _ _)
        | (go_at_call 58; refine H1.mono ?_; rintro e w2 ⟨rfl, hc2⟩; clear H1; have z2 := z1.trans hc2; have y2 := y1.ch hc2 (by simp); have H2 := HON.out bInit bDoes _ w1.heap.size w2 w1 h1 z2 y2; rw [HQ2.out] at H2)
        | (go_at_call 58; refine H2.mono ?_; rintro e w3 ⟨rfl, hc3⟩; clear H2; have z3 := z2.trans hc3; have y3 := y2.ch hc3 (by simp); have H3 := HON.out bLegal bDoes _ w1.heap.size w3 w1 h1 z3 y3; rw [HQ3.out] at H3))
      go_ret
      exact ⟨by rw [HD.out]; rfl, hc1.trans z3⟩
    | false =>
      cases q3 with
      | true =>
        go_enter Tryz.func24, Tryz.ntmps24
        go_wp2_with (first
          | (go_at_call 57; refine (hE _ h).mono ?_; rintro e w1 ⟨v1, rfl, h1, hc1⟩; clear hE; obtain ⟨a1, c1, rfl, _, _⟩ := h1.form; have H1 := HON.out bInit bTrue _ w1.heap.size (w1.alloc (.cells #[.slice a1 es.length c1] 97)) w1 h1 ((Ch.refl _ _).alloc _) (Blk.new _ _ _); rw [HQ1.out] at H1; have z1 : Ch [] w1 (w1.alloc (.cells #[.slice a1 es.length c1] 97)) := (Ch.refl _ _).alloc _; have y1 : Blk (w1.alloc (.cells #[.slice a1 es.length c1] 97)) w1.heap.size 97 #[.slice a1 es.length c1] := Blk.new _ _ _)
          | (go_at_call 58; refine H1.mono ?_; rintro e w2 ⟨rfl, hc2⟩; clear H1; have z2 := z1.trans hc2; have y2 := y1.ch hc2 (by simp); have H2 := HON.out bInit bDoes _ w1.heap.size w2 w1 h1 z2 y2; rw [HQ2.out] at H2)
          | (go_at_call 58; refine H2.mono ?_; rintro e w3 ⟨rfl, hc3⟩; clear H2; have z3 := z2.trans hc3; have y3 := y2.ch hc3 (by simp); have H3 := HON.out bLegal bDoes _ w1.heap.size w3 w1 h1 z3 y3; rw [HQ3.out] at H3)
          | (go_at_call 58; refine H3.mono ?_; rintro e w4 ⟨rfl, hc4⟩; clear H3; have z4 := z3.trans hc4; have y4 := y3.ch hc4 (by simp); have H4 := HON.out bGoal bDoes _ w1.heap.size w4 w1 h1 z4 y4; rw [HQ4.out] at H4))
        go_ret
        exact ⟨by rw [HD.out]; rfl, hc1.trans z4⟩
      | false =>
        cases q4 with
        | true =>
          go_enter Tryz.func24, Tryz.ntmps24
          go_wp2_with (first
            | (go_at_call 57; refine (hE _ h).mono ?_; rintro e w1 ⟨v1, rfl, h1, hc1⟩; clear hE; obtain ⟨a1, c1, rfl, _, _⟩ := h1.form; have H1 := HON.out bInit bTrue _ w1.heap.size (w1.alloc (.cells #[.slice a1 es.length c1] 97)) w1 h1 ((Ch.refl _ _).alloc _) (Blk.new _ _ _); rw [HQ1.out] at H1; have z1 : Ch [] w1 (w1.alloc (.cells #[.slice a1 es.length c1] 97)) := (Ch.refl _ _).alloc _; have y1 : Blk (w1.alloc (.cells #[.slice a1 es.length c1] 97)) w1.heap.size 97 #[.slice a1 es.length c1] := Blk.new _ _ _)
            | (go_at_call 58; refine H1.mono ?_; rintro e w2 ⟨rfl, hc2⟩; clear H1; have z2 := z1.trans hc2; have y2 := y1.ch hc2 (by simp); have H2 := HON.out bInit bDoes _ w1.heap.size w2 w1 h1 z2 y2; rw [HQ2.out] at H2)
            | (go_at_call 58; refine H2.mono ?_; rintro e w3 ⟨rfl, hc3⟩; clear H2; have z3 := z2.trans hc3; have y3 := y2.ch hc3 (by simp); have H3 := HON.out bLegal bDoes _ w1.heap.size w3 w1 h1 z3 y3; rw [HQ3.out] at H3)
            | (go_at_call 58; refine H3.mono ?_; rintro e w4 ⟨rfl, hc4⟩; clear H3; have z4 := z3.trans hc4; have y4 := y3.ch hc4 (by simp); have H4 := HON.out bGoal bDoes _ w1.heap.size w4 w1 h1 z4 y4; rw [HQ4.out] at H4)
            | (go_at_call 58; refine H4.mono ?_; rintro e w5 ⟨rfl, hc5⟩; clear H4; have z5 := z4.trans hc5; have y5 := y4.ch hc5 (by simp); have H5 := HON.out bTerminal bDoes _ w1.heap.size w5 w1 h1 z5 y5; rw [HQ5.out] at H5))
          go_ret
          exact ⟨by rw [HD.out]; rfl, hc1.trans z5⟩
        | false =>
          cases q5 with
          | true =>
            go_enter Tryz.func24, Tryz.ntmps24
            go_wp2_with (first
              | (go_at_call 57; refine (hE _ h).mono ?_; rintro e w1 ⟨v1, rfl, h1, hc1⟩; clear hE; obtain ⟨a1, c1, rfl, _, _⟩ := h1.form; have H1 := HON.out bInit bTrue _ w1.heap.size (w1.alloc (.cells #[.slice a1 es.length c1] 97)) w1 h1 ((Ch.refl _ _).alloc _) (Blk.new _ _ _); rw [HQ1.out] at H1; have z1 : Ch [] w1 (w1.alloc (.cells #[.slice a1 es.length c1] 97)) := (Ch.refl _ _).alloc _; have y1 : Blk (w1.alloc (.cells #[.slice a1 es.length c1] 97)) w1.heap.size 97 #[.slice a1 es.length c1] := Blk.new _ _ _)
              | (go_at_call 58; refine H1.mono ?_; rintro e w2 ⟨rfl, hc2⟩; clear H1; have z2 := z1.trans hc2; have y2 := y1.ch hc2 (by simp); have H2 := HON.out bInit bDoes _ w1.heap.size w2 w1 h1 z2 y2; rw [HQ2.out] at H2)
              | (go_at_call 58; refine H2.mono ?_; rintro e w3 ⟨rfl, hc3⟩; clear H2; have z3 := z2.trans hc3; have y3 := y2.ch hc3 (by simp); have H3 := HON.out bLegal bDoes _ w1.heap.size w3 w1 h1 z3 y3; rw [HQ3.out] at H3)
              | (go_at_call 58; refine H3.mono ?_; rintro e w4 ⟨rfl, hc4⟩; clear H3; have z4 := z3.trans hc4; have y4 := y3.ch hc4 (by simp); have H4 := HON.out bGoal bDoes _ w1.heap.size w4 w1 h1 z4 y4; rw [HQ4.out] at H4)
              | (go_at_call 58; refine H4.mono ?_; rintro e w5 ⟨rfl, hc5⟩; clear H4; have z5 := z4.trans hc5; have y5 := y4.ch hc5 (by simp); have H5 := HON.out bTerminal bDoes _ w1.heap.size w5 w1 h1 z5 y5; rw [HQ5.out] at H5)
              | (go_at_call 58; refine H5.mono ?_; rintro e w6 ⟨rfl, hc6⟩; clear H5; have z6 := z5.trans hc6; have y6 := y5.ch hc6 (by simp)))
            go_ret
            exact ⟨by rw [HD.out]; rfl, hc1.trans z6⟩
          | false =>
            go_enter Tryz.func24, Tryz.ntmps24
            go_wp2_with (first
              | (go_at_call 57; refine (hE _ h).mono ?_; rintro e w1 ⟨v1, rfl, h1, hc1⟩; clear hE; obtain ⟨a1, c1, rfl, _, _⟩ := h1.form; have H1 := HON.out bInit bTrue _ w1.heap.size (w1.alloc (.cells #[.slice a1 es.length c1] 97)) w1 h1 ((Ch.refl _ _).alloc _) (Blk.new _ _ _); rw [HQ1.out] at H1; have z1 : Ch [] w1 (w1.alloc (.cells #[.slice a1 es.length c1] 97)) := (Ch.refl _ _).alloc _; have y1 : Blk (w1.alloc (.cells #[.slice a1 es.length c1] 97)) w1.heap.size 97 #[.slice a1 es.length c1] := Blk.new _ _ _)
              | (go_at_call 58; refine H1.mono ?_; rintro e w2 ⟨rfl, hc2⟩; clear H1; have z2 := z1.trans hc2; have y2 := y1.ch hc2 (by simp); have H2 := HON.out bInit bDoes _ w1.heap.size w2 w1 h1 z2 y2; rw [HQ2.out] at H2)
              | (go_at_call 58; refine H2.mono ?_; rintro e w3 ⟨rfl, hc3⟩; clear H2; have z3 := z2.trans hc3; have y3 := y2.ch hc3 (by simp); have H3 := HON.out bLegal bDoes _ w1.heap.size w3 w1 h1 z3 y3; rw [HQ3.out] at H3)
              | (go_at_call 58; refine H3.mono ?_; rintro e w4 ⟨rfl, hc4⟩; clear H3; have z4 := z3.trans hc4; have y4 := y3.ch hc4 (by simp); have H4 := HON.out bGoal bDoes _ w1.heap.size w4 w1 h1 z4 y4; rw [HQ4.out] at H4)
              | (go_at_call 58; refine H4.mono ?_; rintro e w5 ⟨rfl, hc5⟩; clear H4; have z5 := z4.trans hc5; have y5 := y4.ch hc5 (by simp); have H5 := HON.out bTerminal bDoes _ w1.heap.size w5 w1 h1 z5 y5; rw [HQ5.out] at H5)
              | (go_at_call 58; refine H5.mono ?_; rintro e w6 ⟨rfl, hc6⟩; clear H5; have z6 := z5.trans hc6; have y6 := y5.ch hc6 (by simp)))
            go_ret
            exact ⟨by rw [HD.out]; rfl, hc1.trans z6⟩
end

section
open Go.RowKit

theorem eachGo_at : ∀ (l : List Ru) (i k : Nat) (h : k < l.length), (∀ j (hj : j < k), ruleE (l[j]'(by omega)) = 0) → ruleE l[k] ≠ 0 → eachGo i l = some (i + k, ruleE l[k])
  | [], _, k, h, _, _ => by simp at h
  | r :: l, i, 0, h, _, hk => by
    simp only [List.getElem_cons_zero] at hk ⊢
    unfold eachGo; rw [if_neg hk]; rfl
  | r :: l, i, k + 1, h, hn, hk => by
    have h0 := hn 0 (by omega)
    simp only [List.getElem_cons_zero, List.getElem_cons_succ] at h0 hk ⊢
    unfold eachGo; rw [if_pos h0]
    rw [eachGo_at l (i + 1) k (by simpa using h) (fun j hj => by have := hn (j + 1) (by omega); simpa using this) hk]
    congr 2; omega
theorem ruleE_body {r : Ru} (h : ruleE r = 0) : r.body.length ≤ 8 := by
  unfold ruleE at h
  by_cases h8 : 8 < r.body.length
  · rw [if_pos h8] at h; omega
  · omega
theorem strE_res {es : List Ed} {N : List ByteArray} {o : Option (List Lv)} {base : Nat} {w : World} {v : Value} {n : Int} (h : LvAns es N o) (hr : LvRes base w v n o) : strE es = n := by
  unfold strE
  rcases h with ⟨f, h1, _, rfl⟩ | ⟨h1, rfl⟩
  · rw [if_pos ⟨f, h1⟩]; exact hr.2.symm
  · rw [if_neg h1]; exact hr.2.symm
theorem RuOk.nm {B b : Nat} {l : List Ru} (h : ∀ r ∈ l, RuOk B b r) : NmOk l := fun r hr => by
  have hO := h r hr
  have hB := hO.B
  refine ⟨?_, fun x hx => ?_⟩
  · have := hO.nice r.head (by simp [atomsOf])
    cases hh : r.head with
    | mk n ags => rw [hh] at this; simp only [Nice] at this; have := this.1; simp only [Tm.name]; omega
  · have := hO.nice x.atom (by simp only [atomsOf, List.mem_cons, List.mem_map]; exact .inr ⟨x, hx, rfl⟩)
    cases hh : x.atom with
    | mk n ags => rw [hh] at this; simp only [Nice] at this; have := this.1; simp only [Tm.name]; omega

set_option maxRecDepth 100000 in
set_option maxHeartbeats 8000000 in
theorem chRules_ (p : Nat → Prop) (v : Value) (l : List Ru) (w : World) (B b : Nat) (hK : KwAt w) (h : SlR p w v l) (hO : ∀ r ∈ l, RuOk B b r) (hlen : l.length ≤ 1000000) :
    Calls Tryz.prog 8 #[v] w fun e w' => e = .returned (.tuple #[.int .i64 (rulesE l).1, .int .i64 (rulesE l).2]) ∧ Ch [] w w' := by
  have HE : Hid (rulesE l = if 128 < l.length then (128, 2) else match eachGo 0 l with
    | some x => (((x.1 : Nat) : Int), x.2)
    | none => if 0 ≤ diffOf l then (diffOf l, 5) else if rolesBad l = true then (0, 8) else if depsB (edgesOf l) = true then (0, 9) else (0, strE (edgesOf l))) := rfl
  have hdf := fun wz (hz : Ch [] w wz) => differing_ p v l wz B b (h.ch0 hz) hO
  have hro := fun wz (hz : Ch [] w wz) => roles_ p v l wz B b (h.ch0 hz) hO hlen
  have hch := fun wz (hz : Ch [] w wz) => chance_ p v l wz B b (h.ch0 hz) hO hlen
  have HNM := Lib.hid (RuOk.nm hO)
  have hdp := fun wz (hz : Ch [] w wz) (hf : Fit l) => depends_ p v l wz (h.ch0 hz) hf (RuOk.nm hO)
  have hst := fun wz (hz : Ch [] w wz) (hf : Fit l) => strataLevels p v l wz (h.ch0 hz) hf (RuOk.nm hO)
  have HO := Lib.hid hO; clear hO
  obtain ⟨a, c, rfl, hlc, hm⟩ := h.form
  unfold maxLen at hm
  by_cases hbig : 128 < l.length
  · have d1 : decide ((128 : Int) < (l.length : Int)) = true := decide_eq_true (by omega)
    have HX : Hid (rulesE l = (128, 2)) := by unfold Hid; rw [HE.out, if_pos hbig]
    clear hbig HE hdf hro hch hdp hst
    go_enter Tryz.func8, Tryz.ntmps8
    go_wp2
    go_ret2
    exact ⟨by rw [HX.out]; rfl, Ch.refl _ _⟩
  · have d1 : decide ((128 : Int) < (l.length : Int)) = false := decide_eq_false (by omega)
    have HE2 : Hid (rulesE l = match eachGo 0 l with
      | some x => (((x.1 : Nat) : Int), x.2)
      | none => if 0 ≤ diffOf l then (diffOf l, 5) else if rolesBad l = true then (0, 8) else if depsB (edgesOf l) = true then (0, 9) else (0, strE (edgesOf l))) := by unfold Hid; rw [HE.out, if_neg hbig]
    have hl128 : l.length ≤ 128 := by omega
    clear hbig HE
    go_enter Tryz.func8, Tryz.ntmps8
    go_wp2
    go_loopw [4, 5, 6, 16] (fun _ _ _ i wr => ∃ k : Nat, k ≤ l.length ∧ i = .int .i64 k ∧ Ch [] w wr ∧ Hid (∀ j (hj : j < l.length), j < k → ruleE l[j] = 0)) (fun _ _ _ i _ => l.length - (intOf i).toNat)
    case atStart => exact ⟨0, Nat.zero_le _, rfl, Ch.refl _ _, fun j _ h => absurd h (Nat.not_lt_zero _)⟩
    case round =>
      obtain ⟨k, hk, rfl, hB, HN⟩ := hrel
      by_cases hlt : k < l.length
      · clear hdf hro hch hdp hst
        obtain ⟨bb, o, a', c', a'', c'', rfl, hp, c0, c1, c2, hT, hL⟩ := (h.ch0 hB).at_ hlt
        have hOk := HO.out _ (List.getElem_mem hlt)
        have HG0 := Lib.hid (show ruleE l[k] = 0 → ∀ j (hj : j < l.length), j < k + 1 → ruleE l[j] = 0 from fun h0 j hj h1 => by
          rcases Nat.lt_succ_iff_lt_or_eq.1 h1 with h2 | h2
          · exact HN.out j hj h2
          · subst h2; exact h0)
        have HG1 := Lib.hid (show ∀ q, ruleE l[k] = q → q ≠ 0 → rulesE l = ((k : Int), q) from fun q hq h0 => by
          have := eachGo_at l 0 k hlt (fun j hj => HN.out j _ hj) (by rw [hq]; exact h0)
          rw [HE2.out, this, hq]
          simp)
        generalize l[k] = r at *
        obtain ⟨wN, hwN⟩ : ∃ wN, wr.alloc (.cells #[.string r.head.name, .slice a' r.head.args.length c', .slice a'' r.body.length c''] 31) = wN := ⟨_, rfl⟩
        have hbn : Blk wN wr.heap.size 31 #[.string r.head.name, .slice a' r.head.args.length c', .slice a'' r.body.length c''] := by rw [← hwN]; exact Blk.new _ _ _
        have hcN : Ch [] wr wN := by rw [← hwN]; exact (Ch.refl _ _).alloc _
        have hcall := chRule_ r _ _ _ wN B b (hK.ch (hB.trans hcN)) (hT.ch0 hcN) (hL.ch0 hcN) hOk
        have n0 := hbn.cell 0
        have n1 := hbn.cell 1
        have n2 := hbn.cell 2
        clear hT hL hOk
        generalize ruleE r = q at *
        by_cases hz : q = 0
        · subst hz
          have HX := Lib.hid (HG0.out rfl)
          go_wp2_with (go_at_call 7; refine hcall.mono ?_; rintro e w2 ⟨rfl, hc2⟩; clear hcall)
          go_roundw
          case rel => exact ⟨k + 1, by omega, by go_num, (hB.trans hcN).trans hc2, HX⟩
          case measure => simp [intOf]; omega
        · have e1 : (q != 0) = true := by simpa using hz
          have HX := Lib.hid (HG1.out q rfl hz)
          clear hz
          go_wp2_with (go_at_call 7; refine hcall.mono ?_; rintro e w2 ⟨rfl, hc2⟩; clear hcall)
          go_ret2
          exact ⟨by rw [HX.out]; rfl, (hB.trans hcN).trans hc2⟩
      · have hall : ∀ r ∈ l, ruleE r = 0 := fun r hr => by
          obtain ⟨j, hj, rfl⟩ := List.getElem_of_mem hr
          exact HN.out j hj (by omega)
        have hfit : Fit l := ⟨by omega, fun r hr => by have := ruleE_body (hall r hr); omega⟩
        have hdp := fun wz hz => hdp wz hz hfit
        have hst := fun wz hz => hst wz hz hfit
        have HE3 : Hid (rulesE l = if 0 ≤ diffOf l then (diffOf l, 5) else if rolesBad l = true then (0, 8) else if depsB (edgesOf l) = true then (0, 9) else (0, strE (edgesOf l))) := by
          unfold Hid; rw [HE2.out, (eachGo_none l 0).2 hall]
        clear hall hfit HE2 HN h hK
        by_cases hd0 : 0 ≤ diffOf l
        · have d2 : decide (0 ≤ diffOf l) = true := decide_eq_true hd0
          have HX : Hid (rulesE l = (diffOf l, 5)) := by unfold Hid; rw [HE3.out, if_pos hd0]
          clear hd0 HE3 hro hch hdp hst
          generalize diffOf l = q at *
          go_wp2_with (first
            | (go_at_call 23; refine (hdf _ hB).mono ?_; rintro e w2 ⟨rfl, hc2⟩; clear hdf; have z2 := hB.trans hc2))
          go_ret2
          exact ⟨by rw [HX.out]; rfl, z2⟩
        · have d2 : decide (0 ≤ diffOf l) = false := decide_eq_false hd0
          have HE4 : Hid (rulesE l = if rolesBad l = true then (0, 8) else if depsB (edgesOf l) = true then (0, 9) else (0, strE (edgesOf l))) := by unfold Hid; rw [HE3.out, if_neg hd0]
          have HRB : Hid (rolesBad l = (decide ((rolesOf l).length = 0) || (decide (4 < (rolesOf l).length) || (decide ((rolesOf l).length = 1) && decide (chanceOf l = 0))))) := rfl
          clear hd0 HE3
          generalize diffOf l = dq at *
          generalize hrl : (rolesOf l) = RL at *
          generalize chanceOf l = cq at *
          generalize hRLn : RL.length = rl at *
          by_cases h0 : rl = 0
          · subst h0
            have HX : Hid (rulesE l = (0, 8)) := by unfold Hid; rw [HE4.out, if_pos (by rw [HRB.out]; simp)]
            clear HE4 HRB hch hdp hst
            go_wp2_with (first
              | (go_at_call 23; refine (hdf _ hB).mono ?_; rintro e w2 ⟨rfl, hc2⟩; clear hdf; have z2 := hB.trans hc2)
              | (go_at_call 14; refine (hro _ z2).mono ?_; rintro e w3 ⟨v3, rfl, ho3, hc3⟩; clear hro; have z3 := z2.trans hc3; obtain ⟨a3, c3, rfl, _, _⟩ := ho3.slt.form; rw [hRLn] at *; clear ho3))
            go_ret2
            exact ⟨by rw [HX.out]; rfl, z3⟩
          · have e0 : ((rl : Int) == 0) = false := by rw [beq_eq_false_iff_ne]; omega
            by_cases h4 : 4 < rl
            · have HX : Hid (rulesE l = (0, 8)) := by unfold Hid; rw [HE4.out, if_pos (by rw [HRB.out]; simp [h4])]
              have d4 : decide ((4 : Int) < (rl : Int)) = true := decide_eq_true (by omega)
              clear HE4 HRB hch hdp hst h0 h4
              go_wp2_with (first
                | (go_at_call 23; refine (hdf _ hB).mono ?_; rintro e w2 ⟨rfl, hc2⟩; clear hdf; have z2 := hB.trans hc2)
                | (go_at_call 14; refine (hro _ z2).mono ?_; rintro e w3 ⟨v3, rfl, ho3, hc3⟩; clear hro; have z3 := z2.trans hc3; obtain ⟨a3, c3, rfl, _, _⟩ := ho3.slt.form; rw [hRLn] at *; clear ho3))
              go_ret2
              exact ⟨by rw [HX.out]; rfl, z3⟩
            · have d4 : decide ((4 : Int) < (rl : Int)) = false := decide_eq_false (by omega)
              by_cases h1 : rl = 1
              · subst h1
                by_cases hc0 : cq = 0
                · subst hc0
                  have HX : Hid (rulesE l = (0, 8)) := by unfold Hid; rw [HE4.out, if_pos (by rw [HRB.out]; simp)]
                  clear HE4 HRB hdp hst h0 h4
                  go_wp2_with (first
                    | (go_at_call 23; refine (hdf _ hB).mono ?_; rintro e w2 ⟨rfl, hc2⟩; clear hdf; have z2 := hB.trans hc2)
                    | (go_at_call 14; refine (hro _ z2).mono ?_; rintro e w3 ⟨v3, rfl, ho3, hc3⟩; clear hro; have z3 := z2.trans hc3; obtain ⟨a3, c3, rfl, _, _⟩ := ho3.slt.form; rw [hRLn] at *; clear ho3)
                    | (go_at_call 15; refine (hch _ z3).mono ?_; rintro e w4 ⟨rfl, hc4⟩; clear hch; have z4 := z3.trans hc4))
                  go_ret2
                  exact ⟨by rw [HX.out]; rfl, z4⟩
                · have HE5 : Hid (rulesE l = if depsB (edgesOf l) = true then (0, 9) else (0, strE (edgesOf l))) := by unfold Hid; rw [HE4.out, if_neg (by rw [HRB.out]; simp [hc0])]
                  have e2 : (cq == 0) = false := by simpa using hc0
                  clear HE4 HRB h0 h4 hc0
                  cases hq : depsB (edgesOf l) with
                  | true =>
                    rw [hq] at hdp
                    have HX : Hid (rulesE l = (0, 9)) := by unfold Hid; rw [HE5.out, if_pos hq]
                    clear hq HE5
                    go_wp2_with (first
                      | (go_at_call 23; refine (hdf _ hB).mono ?_; rintro e w2 ⟨rfl, hc2⟩; clear hdf; have z2 := hB.trans hc2)
                      | (go_at_call 14; refine (hro _ z2).mono ?_; rintro e w3 ⟨v3, rfl, ho3, hc3⟩; clear hro; have z3 := z2.trans hc3; obtain ⟨a3, c3, rfl, _, _⟩ := ho3.slt.form; rw [hRLn] at *; clear ho3)
                      | (go_at_call 15; refine (hch _ z3).mono ?_; rintro e w4 ⟨rfl, hc4⟩; clear hch; have z4 := z3.trans hc4)
                      | (go_at_call 24; refine (hdp _ z4).mono ?_; rintro e w5 ⟨rfl, hc5⟩; clear hdp; have z5 := z4.trans hc5))
                    go_ret2
                    exact ⟨by rw [HX.out]; rfl, z5⟩
                  | false =>
                    rw [hq] at hdp
                    have HX : Hid (rulesE l = (0, strE (edgesOf l))) := by unfold Hid; rw [HE5.out, if_neg (by simp [hq])]
                    clear hq HE5
                    go_wp2_with (first
                      | (go_at_call 23; refine (hdf _ hB).mono ?_; rintro e w2 ⟨rfl, hc2⟩; clear hdf; have z2 := hB.trans hc2)
                      | (go_at_call 14; refine (hro _ z2).mono ?_; rintro e w3 ⟨v3, rfl, ho3, hc3⟩; clear hro; have z3 := z2.trans hc3; obtain ⟨a3, c3, rfl, _, _⟩ := ho3.slt.form; rw [hRLn] at *; clear ho3)
                      | (go_at_call 15; refine (hch _ z3).mono ?_; rintro e w4 ⟨rfl, hc4⟩; clear hch; have z4 := z3.trans hc4)
                      | (go_at_call 24; refine (hdp _ z4).mono ?_; rintro e w5 ⟨rfl, hc5⟩; clear hdp; have z5 := z4.trans hc5)
                      | (go_at_call 25; refine (hst _ z5).mono ?_; rintro e w6 ⟨v6, n6, o6, rfl, ha6, hr6, hc6⟩; clear hst; have z6 := z5.trans hc6))
                    go_ret2
                    exact ⟨by rw [HX.out, strE_res ha6 hr6]; rfl, z6⟩
              · have e2 : ((rl : Int) == 1) = false := by rw [beq_eq_false_iff_ne]; omega
                have HE5 : Hid (rulesE l = if depsB (edgesOf l) = true then (0, 9) else (0, strE (edgesOf l))) := by unfold Hid; rw [HE4.out, if_neg (by rw [HRB.out]; simp [h0, h4, h1])]
                clear HE4 HRB h0 h4 h1 hch
                cases hq : depsB (edgesOf l) with
                | true =>
                  rw [hq] at hdp
                  have HX : Hid (rulesE l = (0, 9)) := by unfold Hid; rw [HE5.out, if_pos hq]
                  clear hq HE5
                  go_wp2_with (first
                    | (go_at_call 23; refine (hdf _ hB).mono ?_; rintro e w2 ⟨rfl, hc2⟩; clear hdf; have z2 := hB.trans hc2)
                    | (go_at_call 14; refine (hro _ z2).mono ?_; rintro e w3 ⟨v3, rfl, ho3, hc3⟩; clear hro; have z3 := z2.trans hc3; obtain ⟨a3, c3, rfl, _, _⟩ := ho3.slt.form; rw [hRLn] at *; clear ho3)
                    | (go_at_call 24; refine (hdp _ z3).mono ?_; rintro e w5 ⟨rfl, hc5⟩; clear hdp; have z5 := z3.trans hc5))
                  go_ret2
                  exact ⟨by rw [HX.out]; rfl, z5⟩
                | false =>
                  rw [hq] at hdp
                  have HX : Hid (rulesE l = (0, strE (edgesOf l))) := by unfold Hid; rw [HE5.out, if_neg (by simp [hq])]
                  clear hq HE5
                  go_wp2_with (first
                    | (go_at_call 23; refine (hdf _ hB).mono ?_; rintro e w2 ⟨rfl, hc2⟩; clear hdf; have z2 := hB.trans hc2)
                    | (go_at_call 14; refine (hro _ z2).mono ?_; rintro e w3 ⟨v3, rfl, ho3, hc3⟩; clear hro; have z3 := z2.trans hc3; obtain ⟨a3, c3, rfl, _, _⟩ := ho3.slt.form; rw [hRLn] at *; clear ho3)
                    | (go_at_call 24; refine (hdp _ z3).mono ?_; rintro e w5 ⟨rfl, hc5⟩; clear hdp; have z5 := z3.trans hc5)
                    | (go_at_call 25; refine (hst _ z5).mono ?_; rintro e w6 ⟨v6, n6, o6, rfl, ha6, hr6, hc6⟩; clear hst; have z6 := z5.trans hc6))
                  go_ret2
                  exact ⟨by rw [HX.out, strE_res ha6 hr6]; rfl, z6⟩
end
end Go.Proofs.YtgljjapglgcpdaaGreatDoor
