
/-
  The contracts of term.Depth and of the reference's Depth.
  The contract of term.leaves.
  The contracts of slices.Index, slices.Contains at strings and of term.Vars.
-/
import Derived.Test.YtgljjapglgcpdaaGreatDoorSmParts
import Derived.Test.YtgljjapglgcpdaaGreatDoorChPlain
import Derived.Test.YtgljjapglgcpdaaGreatDoorFacts
import Derived.Test.YtgljjapglgcpdaaGreatDoorMaps
import Derived.Test.YtgljjapglgcpdaaGreatDoorChNames
import Derived.Test.YtgljjapglgcpdaaGreatDoorSmall3
namespace Go.Proofs.YtgljjapglgcpdaaGreatDoor

section
open Go.RowKit

set_option maxRecDepth 100000 in
set_option maxHeartbeats 2000000 in
theorem depth_ : ∀ (n : Nat) (t : Tm), t.dep ≤ n → ∀ (p : Nat → Prop) (v : Value) (w : World), SlT p w v t.args → t.dep ≤ 1000000000 →
    Calls Tryz.prog 52 #[.agg #[.string t.name, v]] w fun e w' => e = .returned (.int .i64 t.dep) ∧ Ch [] w w' := by
  intro n
  induction n with
  | zero => intro t ht; cases t; simp [Tm.dep] at ht
  | succ n ih =>
    intro t ht p v w h hdm
    obtain ⟨nm, ags⟩ := t
    obtain ⟨a, c, rfl, hlc, hmx⟩ := h.form
    simp only [Tm.args, Tm.name, Tm.dep] at h hlc ht hdm ⊢
    unfold maxLen at hmx
    have HIH := Lib.hid ih; clear ih
    have hbx := Blk.new w 28 #[.string nm, .slice a ags.length c]
    have hcA : Ch [] w (w.alloc (.cells #[.string nm, .slice a ags.length c] 28)) := (Ch.refl _ _).alloc _
    have b1 := hbx.cell 1
    go_enter Tryz.func52, Tryz.ntmps52
    go_wp2
    generalize (w.alloc (.cells #[.string nm, .slice a ags.length c] 28)) = wA at *
    go_loopw [3, 5, 9] (fun n _ i wr => ∃ (k m : Nat), k ≤ ags.length ∧ i = .int .i64 k ∧ n = .int .i64 m ∧ Ch [] wA wr ∧ m ≤ 1000000000 ∧ Hid (m = deps (ags.take k))) (fun _ _ i _ => ags.length - (intOf i).toNat)
    case atStart => exact ⟨0, 0, Nat.zero_le _, rfl, rfl, Ch.refl _ _, by omega, by simp [Hid, deps]⟩
    case round =>
      obtain ⟨k, m, hk, rfl, rfl, hB, hmb, HX⟩ := hrel
      clear b1
      by_cases hlt : k < ags.length
      · obtain ⟨b, o, a', c', rfl, hp, c0, c1, hT⟩ := (h.ch0 (hcA.trans hB)).at_ hlt
        have HDR := Lib.hid (deps_snoc ags k hlt)
        have hxd := deps_mem (List.getElem_mem hlt)
        generalize ags[k] = x at *
        have hbn := Blk.new wr 28 #[.string x.name, .slice a' x.args.length c']
        have b10 := hbn.cell 0
        have b11 := hbn.cell 1
        have hcN : Ch [] wr (wr.alloc (.cells #[.string x.name, .slice a' x.args.length c'] 28)) := (Ch.refl _ _).alloc _
        have hcall := HIH.out x (by omega) _ _ _ (hT.ch0 hcN) (by omega)
        generalize x.dep = xd at *
        go_wp2_with (go_at_call 52; refine hcall.mono ?_; rintro e w1 ⟨rfl, hc1⟩; clear hcall)
        go_roundw
        case rel => exact ⟨k + 1, max m xd, by omega, by go_num, by congr 1; omega, hB.trans (hcN.trans hc1), by omega, by unfold Hid; rw [HDR.out, HX.out]⟩
        case measure => simp [intOf]; omega
      · have hr : deps ags = m := by rw [HX.out, List.take_of_length_le (by omega)]
        have HR := Lib.hid hr; clear hr
        go_wp2
        go_ret
        exact ⟨by rw [HR.out]; simp, hcA.trans hB⟩

end

section
open Go.RowKit

theorem lvsT_nil (nm : ByteArray) : lvsT (.mk nm []) = [nm] := by simp [lvsT]
theorem lvsT_cons {nm : ByteArray} {ags : List Tm} (h : ags ≠ []) : lvsT (.mk nm ags) = lvsL ags := by
  cases ags with
  | nil => exact absurd rfl h
  | cons a r => simp [lvsT]
theorem lvsL_snoc (ts : List Tm) (k : Nat) (h : k < ts.length) : lvsL (ts.take (k + 1)) = lvsL (ts.take k) ++ lvsT ts[k] := by
  rw [take_snoc ts k h, lvsL_append]; simp [lvsL]
theorem lvsL_le (ts : List Tm) (k : Nat) (h : k < ts.length) : (lvsL (ts.take k)).length + (lvsT ts[k]).length ≤ (lvsL ts).length := by
  have h1 := lvsL_snoc ts k h
  have h2 : lvsL ts = lvsL (ts.take (k + 1)) ++ lvsL (ts.drop (k + 1)) := by rw [← lvsL_append, List.take_append_drop]
  rw [h2, h1]; simp
theorem SlT.small {p : Nat → Prop} {w : World} {v : Value} {ts : List Tm} (h : SlT p w v ts) : SlT (fun b => p b ∧ b < w.heap.size) w v ts := h.weak fun _ hb hp => ⟨hp, hb⟩

set_option maxRecDepth 100000 in
set_option maxHeartbeats 4000000 in
theorem leaves_ : ∀ (n : Nat) (t : Tm), t.dep ≤ n → ∀ (p : Nat → Prop) (v : Value) (w : World) (base : Nat) (vl : Value) (ls : List ByteArray), SlT p w v t.args →
    Own w base 9 1 vl (ls.map encS) → (∀ b, p b → b < w.heap.size → vl.ownBlock ≠ some b) → base ≤ w.heap.size → ls.length + (lvsT t).length ≤ 1000000000 →
    Calls Tryz.prog 53 #[vl, .agg #[.string t.name, v]] w fun e w' => ∃ v', e = .returned v' ∧ Own w' base 9 1 v' ((ls ++ lvsT t).map encS) ∧ Ch vl.ownBlock.toList w w' ∧ (v'.ownBlock = vl.ownBlock ∨ ∃ g, v'.ownBlock = some g ∧ w.heap.size ≤ g) := by
  intro n
  induction n with
  | zero => intro t ht; cases t; simp [Tm.dep] at ht
  | succ n ih =>
    intro t ht p v w base vl ls h ho hsep hbase hlen
    obtain ⟨nm, ags⟩ := t
    obtain ⟨a, c, rfl, hlc, hmx⟩ := h.form
    have hfm := ho.form'
    rw [List.length_map] at hfm
    obtain ⟨al, cl, rfl⟩ := hfm
    simp only [Tm.args, Tm.name, Tm.dep] at h hlc ht ⊢
    unfold maxLen at hmx
    have HIH := Lib.hid ih; clear ih
    have hbx := Blk.new w 28 #[.string nm, .slice a ags.length c]
    have hcA : Ch [] w (w.alloc (.cells #[.string nm, .slice a ags.length c] 28)) := (Ch.refl _ _).alloc _
    have b0 := hbx.cell 0
    have b1 := hbx.cell 1
    by_cases hz : ags.length = 0
    · have hnil : ags = [] := List.eq_nil_of_length_eq_zero hz
      subst hnil
      rw [lvsT_nil] at hlen ⊢
      have hsz := hcA.size
      simp only [List.length_nil] at hcA b0 b1 hsz
      generalize hwA : (w.alloc (.cells #[.string nm, .slice a 0 c] 28)) = wA at *
      go_enter Tryz.func53, Tryz.ntmps53
      go_wp2_with (first | (at_builtin; (refine wpList_append_sl rfl _ _ _ rfl elS (base := base) (v := .slice al ls.length cl) (css := ls.map encS) rfl ((ho.ch hcA (by simp)).ch ((Ch.refl [] _).alloc _) (by simp)) rfl (Sl.one wA 1 _ [.string nm] rfl (by simp [Value.oneCell'])) (by simp at hlen ⊢; omega) (by simp at hsz ⊢; omega) ?_); intro v6 w6 ho6 hc6 hat6 hn6; clear hn6))
      go_ret
      refine ⟨_, rfl, by simpa [encS] using ho6, (hcA.alloc _).of_nil.trans hc6, ?_⟩
      rcases hat6 with e1 | e1
      · exact .inl e1
      · exact .inr ⟨_, e1, by simp; omega⟩
    · have hne : ags ≠ [] := fun e => hz (by rw [e]; rfl)
      rw [lvsT_cons hne] at hlen ⊢
      have e1 : ((ags.length : Int) == 0) = false := by rw [beq_eq_false_iff_ne]; omega
      go_enter Tryz.func53, Tryz.ntmps53
      go_wp2
      generalize hwA : (w.alloc (.cells #[.string nm, .slice a ags.length c] 28)) = wA at *
      clear hwA b0 b1 e1
      have hsz := hcA.size
      go_loopw [0, 6, 19] (fun lv _ i wr => ∃ k : Nat, k ≤ ags.length ∧ i = .int .i64 k ∧ Ch (Value.slice al ls.length cl).ownBlock.toList wA wr ∧ Own wr base 9 1 lv ((ls ++ lvsL (ags.take k)).map encS) ∧ (lv.ownBlock = (Value.slice al ls.length cl).ownBlock ∨ ∃ g, lv.ownBlock = some g ∧ wA.heap.size ≤ g)) (fun _ _ i _ => ags.length - (intOf i).toNat)
      case atStart => exact ⟨0, Nat.zero_le _, rfl, Ch.refl _ _, by simpa [lvsL] using ho.ch0' hcA, .inl rfl⟩
      case round =>
        obtain ⟨k, hk, rfl, hB, hown, hat⟩ := hrel
        by_cases hlt : k < ags.length
        · have hT0 : SlT (fun b => p b ∧ b < w.heap.size) wr (.slice a ags.length c) ags := (h.small.ch0 hcA).ch hB (fun b hb hpb hm => by
            have := hsep b hpb.1 hpb.2
            simp at hm
            exact this hm)
          obtain ⟨b, o, a', c', rfl, hp, c0, c1, hT⟩ := hT0.at_ hlt
          have HDR := Lib.hid (lvsL_snoc ags k hlt)
          have hle := lvsL_le ags k hlt
          have hxd := deps_mem (List.getElem_mem hlt)
          generalize ags[k] = x at *
          have hbn := Blk.new wr 28 #[.string x.name, .slice a' x.args.length c']
          have b10 := hbn.cell 0
          have b11 := hbn.cell 1
          have hcN : Ch [] wr (wr.alloc (.cells #[.string x.name, .slice a' x.args.length c'] 28)) := (Ch.refl _ _).alloc _
          have hszB := hB.size
          have hszN := hcN.size
          have hcall := HIH.out x (by omega) _ _ _ base u0 (ls ++ lvsL (ags.take k)) (hT.ch0 hcN) (hown.ch0' hcN) (fun b hpb hb e => by
            rcases hat with e1 | ⟨g, e1, e2⟩
            · rw [e1] at e; exact hsep b hpb.1 hpb.2 e
            · rw [e1] at e; injection e with e; have := hpb.2; omega) (by omega) (by simp; omega)
          go_wp2_with (go_at_call 53; refine hcall.mono ?_; rintro e w1 ⟨v1, rfl, ho1, hc1, hat1⟩; clear hcall)
          go_roundw
          case rel =>
            refine ⟨k + 1, by omega, by go_num, (hB.trans hcN.of_nil).step hc1 (fun y hy => ?_), by rw [HDR.out, ← List.append_assoc]; exact ho1, ?_⟩
            · rcases hat with e1 | ⟨g, e1, e2⟩
              · rw [e1] at hy; exact .inl hy
              · rw [e1] at hy; simp at hy; subst hy; exact .inr e2
            · rcases hat1 with e3 | ⟨g, e3, e4⟩
              · rw [e3]; exact hat
              · exact .inr ⟨g, e3, by omega⟩
          case measure => simp [intOf]; omega
        · have hr : lvsL (ags.take k) = lvsL ags := by rw [List.take_of_length_le (by omega)]
          rw [hr] at hown
          clear hr
          go_wp2
          go_ret
          exact ⟨_, rfl, hown, hcA.of_nil.trans hB, hat.imp id fun ⟨g, e1, e2⟩ => ⟨g, e1, by omega⟩⟩
end

section
open Go.RowKit

set_option maxRecDepth 100000 in
set_option maxHeartbeats 2000000 in
theorem indexS_ (p : Nat → Prop) (v : Value) (xs : List ByteArray) (s : ByteArray) (w : World) (h : SlS p w v xs) :
    Calls Tryz.prog 87 #[v, .string s] w fun e w' => ∃ i : Int, e = .returned (.int .i64 i) ∧ decide (0 ≤ i) = hasS xs s ∧ w = w' := by
  obtain ⟨a, c, rfl, hlc, hm⟩ := h.form
  unfold maxLen at hm
  go_enter Tryz.func87, Tryz.ntmps87
  go_wp2
  go_loopw [5, 8] (fun _ i wr => ∃ k : Nat, k ≤ xs.length ∧ i = .int .i64 k ∧ wr = w ∧ Hid (hasS (xs.take k) s = false)) (fun _ i _ => xs.length - (intOf i).toNat)
  case atStart => exact ⟨0, Nat.zero_le _, rfl, rfl, by simp [Hid, hasS]⟩
  case round =>
    obtain ⟨k, hk, rfl, rfl, HN⟩ := hrel
    by_cases hlt : k < xs.length
    · obtain ⟨b, o, rfl, hp, c0⟩ := h.at_ hlt
      have HS := Lib.hid (hasS_snoc xs s k hlt)
      by_cases he : xs[k] = s
      · have HR := Lib.hid (hasS_at xs s k hlt he)
        rw [he] at c0
        have hq : (s.toList == s.toList) = true := by simp
        clear he
        go_wp2
        all_goals
          go_ret
          exact ⟨k, rfl, by rw [HR.out]; exact decide_eq_true (by omega), rfl⟩
      · have HX : Hid (hasS (xs.take (k + 1)) s = false) := by unfold Hid; rw [HS.out, HN.out]; simp [he]
        have hq : (s.toList == xs[k].toList) = false := by rw [beqS]; exact decide_eq_false (fun e => he e.symm)
        clear he HS
        generalize xs[k] = x at *
        go_wp2
        all_goals
          go_roundw
          case rel => exact ⟨k + 1, by omega, by go_num, trivial, HX⟩
          case measure => simp [intOf]; omega
    · have hr : hasS xs s = false := by rw [← HN.out, List.take_of_length_le (by omega)]
      have HR := Lib.hid hr; clear hr
      go_wp2
      go_ret
      exact ⟨-1, rfl, by rw [HR.out]; rfl, rfl⟩

set_option maxRecDepth 100000 in
set_option maxHeartbeats 2000000 in
theorem containsS_ (p : Nat → Prop) (v : Value) (xs : List ByteArray) (s : ByteArray) (w : World) (h : SlS p w v xs) :
    Calls Tryz.prog 55 #[v, .string s] w fun e w' => e = .returned (.bool (hasS xs s)) ∧ w = w' := by
  have hcall := fun wz (h : SlS p wz v xs) => indexS_ p v xs s wz h
  obtain ⟨a, c, rfl, hlc, hm⟩ := h.form
  go_enter Tryz.func55, Tryz.ntmps55
  go_wp2_with (go_at_call 87; refine (hcall _ h).mono ?_; rintro e w1 ⟨i, rfl, hi, rfl⟩; have HI := Lib.hid hi; clear hi)
  go_ret
  exact ⟨by rw [← HI.out]; rfl, rfl⟩
theorem varsL_snoc (ts : List Tm) (k : Nat) (h : k < ts.length) : varsL (ts.take (k + 1)) = (lvsT ts[k]).foldl addV (varsL (ts.take k)) := by
  unfold varsL; rw [lvsL_snoc ts k h, List.foldl_append]
theorem addV_snoc (L o : List ByteArray) (j : Nat) (h : j < L.length) : (L.take (j + 1)).foldl addV o = addV ((L.take j).foldl addV o) L[j] := by
  rw [take_snoc L j h, List.foldl_append]; rfl
theorem addV_len : ∀ (L o : List ByteArray), (L.foldl addV o).length ≤ o.length + L.length
  | [], o => by simp
  | x :: r, o => by
    simp only [List.foldl_cons, List.length_cons]
    have := addV_len r (addV o x)
    have h2 : (addV o x).length ≤ o.length + 1 := by unfold addV; split <;> simp
    omega
theorem lvsL_mem {ts : List Tm} {k : Nat} (h : k < ts.length) {s : ByteArray} (hs : s ∈ lvsT ts[k]) : s ∈ lvsL ts := by
  have h2 : lvsL ts = lvsL (ts.take (k + 1)) ++ lvsL (ts.drop (k + 1)) := by rw [← lvsL_append, List.take_append_drop]
  rw [h2, lvsL_snoc ts k h]; simp [hs]

set_option maxRecDepth 100000 in
set_option maxHeartbeats 4000000 in
theorem vars_ (ts : List Tm) (p : Nat → Prop) (v : Value) (w : World) (h : SlT p w v ts) (hlen : (lvsL ts).length ≤ 1000000000) (hsz : ∀ s ∈ lvsL ts, s.size ≤ maxLen) :
    Calls Tryz.prog 20 #[v] w fun e w' => ∃ v', e = .returned v' ∧ Own w' w.heap.size 9 1 v' ((varsL ts).map encS) ∧ Ch [] w w' := by
  obtain ⟨a, c, rfl, hlc, hmx⟩ := h.form
  unfold maxLen at hmx
  have HSZ := Lib.hid hsz; clear hsz
  go_enter Tryz.func20, Tryz.ntmps20
  go_wp2
  go_loopw [3, 5, 7, 10] (fun lv _ _ i wr => ∃ k : Nat, k ≤ ts.length ∧ i = .int .i64 k ∧ Ch [] w wr ∧ Own wr w.heap.size 9 1 lv ((varsL (ts.take k)).map encS)) (fun _ _ _ i _ => ts.length - (intOf i).toNat)
  case atStart => exact ⟨0, Nat.zero_le _, rfl, Ch.refl _ _, Own.nil _ _ _ _⟩
  case round =>
    obtain ⟨k, hk, rfl, hB, hown⟩ := hrel
    by_cases hlt : k < ts.length
    · obtain ⟨b, o, a', c', rfl, hp, c0, c1, hT⟩ := (h.ch0 hB).at_ hlt
      have HDR := Lib.hid (varsL_snoc ts k hlt)
      have hle := lvsL_le ts k hlt
      have HSX : Hid (∀ s ∈ lvsT ts[k], s.size ≤ maxLen) := fun s hs => HSZ.out s (lvsL_mem hlt hs)
      have hol : (varsL (ts.take k)).length ≤ (lvsL (ts.take k)).length := by have := addV_len (lvsL (ts.take k)) []; simpa [varsL] using this
      generalize ts[k] = x at *
      have hbn := Blk.new wr 28 #[.string x.name, .slice a' x.args.length c']
      have b10 := hbn.cell 0
      have b11 := hbn.cell 1
      have hcN : Ch [] wr (wr.alloc (.cells #[.string x.name, .slice a' x.args.length c'] 28)) := (Ch.refl _ _).alloc _
      have hszB := hB.size
      have hszN := hcN.size
      have hcall := leaves_ x.dep x (Nat.le_refl _) _ _ _ w.heap.size (.slice none 0 0) [] (hT.ch0 hcN) (Own.nil _ _ _ _) (fun b _ _ e => by simp [Value.ownBlock] at e) (by omega) (by simp; omega)
      generalize varsL (ts.take k) = o0 at *
      generalize hLg : lvsT x = L at *
      clear hLg
      go_wp2_with (go_at_call 53; refine hcall.mono ?_; rintro e w1 ⟨vL, rfl, hoL, hc1, hatL⟩; clear hcall; rw [List.nil_append] at hoL; obtain ⟨aL, cL, rfl⟩ := hoL.form'; rw [List.length_map] at *)
      have hC1 : Ch [] wr w1 := hcN.trans (hc1.mono (by simp [Value.ownBlock]))
      have hlt3 : ∀ g, u3.ownBlock = some g → w.heap.size ≤ g ∧ g < wr.heap.size := fun g hg => hown.lt hg
      have hd0 : ∀ b, (Value.slice aL L.length cL).ownBlock = some b → b ∉ u3.ownBlock.toList := fun b hb hm => by
        simp at hm
        have h1 := (hlt3 b hm).2
        rcases hatL with e1 | ⟨g, e1, e2⟩
        · rw [e1] at hb; simp [Value.ownBlock] at hb
        · rw [e1] at hb; injection hb with hb; omega
      have hown1 := hown.ch0' hC1
      have HW := Lib.hid hlt3
      have hbase1 : w.heap.size ≤ w1.heap.size := by have := hC1.size; omega
      clear hown hc1 hcN hbn b10 b11 hszN hatL hlt3 c0 c1 hT hp
      generalize hob : u3.ownBlock = ob at *
      go_loopw [3, 7, 17] (fun lv _ i w2 => ∃ j : Nat, j ≤ L.length ∧ i = .int .i64 j ∧ Ch ob.toList w1 w2 ∧ Own w2 w.heap.size 9 1 lv (((L.take j).foldl addV o0).map encS) ∧ (lv.ownBlock = ob ∨ ∃ g, lv.ownBlock = some g ∧ w1.heap.size ≤ g)) (fun _ _ i _ => L.length - (intOf i).toNat)
      case atStart => exact ⟨0, Nat.zero_le _, rfl, Ch.refl _ _, by simpa using hown1, .inl hob⟩
      case round =>
        obtain ⟨j, hj, rfl, hB2, hown2, hat2⟩ := hrel
        by_cases hjt : j < L.length
        · obtain ⟨bL, oL, rfl, hpL, cL0⟩ := SlS.at_ (hoL.ch hB2 hd0).sl hjt
          have HA0 := Lib.hid (addV_snoc L o0 j hjt)
          have hbl : ((L.take j).foldl addV o0).length ≤ o0.length + j := by have := addV_len (L.take j) o0; rw [List.length_take, Nat.min_eq_left hj] at this; exact this
          have hss : L[j].size ≤ maxLen := HSX.out _ (List.getElem_mem hjt)
          generalize L[j] = s at *
          generalize (L.take j).foldl addV o0 = ol at *
          have hvar := fun wz => variableT_ s wz hss
          have hcon := fun wz (hz : Ch [] wr wz) => containsS_ _ u3 ol s wz ((hown2.ch0' hz).sl)
          have HAD := Lib.hid (show addV ol s = if (varB s && !hasS ol s) = true then ol ++ [s] else ol from rfl)
          generalize varB s = vb at *
          generalize hasS ol s = hb at *
          cases vb <;> cases hb
          all_goals
            go_wp2_with (first
              | (go_at_call 54; refine (hvar _).mono ?_; rintro e w2 ⟨rfl, hc2⟩)
              | (go_at_call 55; refine (hcon _ hc2).mono ?_; rintro e w3 ⟨rfl, rfl⟩)
              | (at_builtin; refine wpList_append_sl rfl _ _ _ rfl elS (base := w.heap.size) (v := u3) (css := ol.map encS) rfl ((hown2.ch0' hc2).ch0' ((Ch.refl [] w2).alloc _)) rfl (Sl.one w2 1 _ [.string s] rfl (by simp [Value.oneCell'])) (by simp; omega) (by have := hB2.size; have := hc2.size; simp; omega) ?_; intro v6 w6 ho6 hc6 hat6 hn6; clear hn6))
          · go_roundw
            case rel => exact ⟨j + 1, by omega, by go_num, hB2.trans hc2.of_nil, by rw [HA0.out, show addV ol s = ol from HAD.out]; exact hown2.ch0' hc2, hat2⟩
            case measure => simp [intOf]; omega
          · go_roundw
            case rel => exact ⟨j + 1, by omega, by go_num, hB2.trans hc2.of_nil, by rw [HA0.out, show addV ol s = ol from HAD.out]; exact hown2.ch0' hc2, hat2⟩
            case measure => simp [intOf]; omega
          · go_roundw
            case rel =>
              refine ⟨j + 1, by omega, by go_num, (hB2.trans (hc2.alloc _).of_nil).step hc6 (fun y hy => ?_), by rw [HA0.out, show addV ol s = ol ++ [s] from HAD.out]; simpa [encS] using ho6, ?_⟩
              · rcases hat2 with e1 | ⟨g, e1, e2⟩
                · rw [e1] at hy; exact .inl hy
                · rw [e1] at hy; simp at hy; subst hy; exact .inr e2
              · rcases hat6 with e1 | e1
                · rw [e1]; exact hat2
                · exact .inr ⟨_, e1, by have := hB2.size; have := hc2.size; simp; omega⟩
            case measure => simp [intOf]; omega
          · go_roundw
            case rel => exact ⟨j + 1, by omega, by go_num, hB2.trans hc2.of_nil, by rw [HA0.out, show addV ol s = ol from HAD.out]; exact hown2.ch0' hc2, hat2⟩
            case measure => simp [intOf]; omega
        · have hr : (L.take j).foldl addV o0 = varsL (ts.take (k + 1)) := by rw [HDR.out, List.take_of_length_le (by omega)]
          rw [hr] at hown2
          clear hr
          go_wp2
          go_roundw
          case rel => exact ⟨k + 1, by omega, by go_num, (hB.trans hC1).step hB2 (fun y hy => by simp at hy; exact .inr (HW.out y hy).1), hown2⟩
          case measure => simp [intOf]; omega
    · have hr : varsL (ts.take k) = varsL ts := by rw [List.take_of_length_le (by omega)]
      rw [hr] at hown
      clear hr
      go_wp2
      go_ret
      exact ⟨_, rfl, hown, hB⟩
end
end Go.Proofs.YtgljjapglgcpdaaGreatDoor
