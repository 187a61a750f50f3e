/-
  The contract of plain's bound.
-/
import Derived.Test.YtbjdikeaolibpaaSmEq
import Derived.Deep.RegionHeld3
namespace Go.Proofs.Ytbjdikeaolibpaa
open Go.RowKit

/-- a pair in memory -/
def PrR (p : Nat → Prop) (w : World) (x : Pr) (cs : List Value) : Prop := ∃ v, cs = [.string x.1, .string x.2.name, v] ∧ SlT p w v x.2.args
def SlPr (p : Nat → Prop) (w : World) (v : Value) (xs : List Pr) : Prop := SlG (PrR p) 3 p w v xs
theorem imp_pr : Imp PrR := fun _ _ _ _ _ _ hs hk h => by
  obtain ⟨v, h1, h2⟩ := h
  exact ⟨v, h1, h2.imp hs hk⟩
abbrev Any : Nat → Prop := fun _ => True
theorem SlPr.ch0 {p : Nat → Prop} {w w' : World} {v : Value} {xs : List Pr} (h : SlPr p w v xs) (hc : Ch [] w w') : SlPr p w' v xs :=
  SlG.imp h hc.size (fun b hb h1 => ⟨h1, hc.block b hb (by simp)⟩) fun x cs hx => imp_pr _ _ _ _ _ _ hc.size (fun b hb h1 => ⟨h1, hc.block b hb (by simp)⟩) hx
theorem SlPr.any {p : Nat → Prop} {w : World} {v : Value} {xs : List Pr} (h : SlPr p w v xs) : SlPr Any w v xs :=
  SlG.imp h (Nat.le_refl _) (fun _b _hb _h1 => ⟨trivial, rfl⟩) fun _x _cs hx => imp_pr _ _ _ _ _ _ (Nat.le_refl _) (fun _b _hb _h1 => ⟨trivial, rfl⟩) hx
theorem SlPr.weak {p q : Nat → Prop} {w : World} {v : Value} {xs : List Pr} (h : SlPr p w v xs) (hk : ∀ b, b < w.heap.size → p b → q b) : SlPr q w v xs :=
  SlG.imp h (Nat.le_refl _) (fun b hb h1 => ⟨hk b hb h1, rfl⟩) fun _x _cs hx => imp_pr _ _ _ _ _ _ (Nat.le_refl _) (fun b hb h1 => ⟨hk b hb h1, rfl⟩) hx
theorem SlT.any {p : Nat → Prop} {w : World} {v : Value} {ts : List Tm} (h : SlT p w v ts) : SlT Any w v ts := h.weak (fun _ _ _ => trivial)
theorem SlPr.form {p : Nat → Prop} {w : World} {v : Value} {xs : List Pr} (h : SlPr p w v xs) : ∃ a c, v = .slice a xs.length c ∧ xs.length ≤ c ∧ c ≤ maxLen := SlG.form h
theorem SlPr.nil (p : Nat → Prop) (w : World) : SlPr p w (.slice none 0 0) [] := ⟨[], Sl.nil _ _ _, rfl, by simp⟩
theorem SlPr.at_ {p : Nat → Prop} {w : World} {a : Option Addr} {n c i : Nat} {xs : List Pr} (h : SlPr p w (.slice a n c) xs) (hi : i < xs.length) : ∃ b o a' c', a = some ⟨b, o, none⟩ ∧ (p b ∧ b < w.heap.size) ∧
    w.cell? ⟨b, o + i * 3, none⟩ = some (.string xs[i].1) ∧ w.cell? ⟨b, o + i * 3 + 1, none⟩ = some (.string xs[i].2.name) ∧ w.cell? ⟨b, o + i * 3 + 2, none⟩ = some (.slice a' xs[i].2.args.length c') ∧ SlT p w (.slice a' xs[i].2.args.length c') xs[i].2.args := by
  obtain ⟨b, o, cs, rfl, hp, hc, v, e, hT⟩ := SlG.at_ h hi
  obtain ⟨a', c', rfl, _⟩ := hT.form
  rw [e] at hc
  exact ⟨b, o, a', c', rfl, hp, by simpa using hc 0 _ rfl, by simpa [Nat.add_assoc] using hc 1 _ rfl, by simpa [Nat.add_assoc] using hc 2 _ rfl, hT⟩
mutual
theorem pBound_len : ∀ (p t : Tm) (s : List Pr), (pBound p t s).1.length ≤ s.length + p.sz
  | .mk n ags, t, s => by
    unfold pBound
    split
    · split
      · simp
      · simp only [List.length_append, List.length_singleton, Tm.sz]; omega
    · split
      · have := pBoundL_len ags t.args s true
        simp only [Tm.sz]; omega
      · simp
theorem pBoundL_len : ∀ (ts us : List Tm) (s : List Pr) (ok : Bool), (pBoundL ts us s ok).1.length ≤ s.length + szs ts
  | [], _, s, ok => by simp [pBoundL]
  | _ :: _, [], s, ok => by simp [pBoundL]
  | a :: ts, b :: us, s, ok => by
    unfold pBoundL
    split
    · have h1 := pBound_len a b s
      have h2 := pBoundL_len ts us (pBound a b s).1 (pBound a b s).2
      simp only [szs]; omega
    · simp
end
theorem find_at' {s : List Pr} {n : ByteArray} {k : Nat} (hk : k < s.length) (hn : ∀ i (hi : i < s.length), i < k → s[i].1 ≠ n) (he : s[k].1 = n) : s.find? (fun x => decide (x.1 = n)) = some s[k] := by
  have h1 : s = s.take k ++ s[k] :: s.drop (k + 1) := by rw [List.getElem_cons_drop, List.take_append_drop]
  have h2 : (s.take k).find? (fun x => decide (x.1 = n)) = none := by
    rw [List.find?_eq_none]
    intro x hx
    obtain ⟨j, hj, rfl⟩ := List.mem_iff_getElem.1 hx
    rw [List.length_take] at hj
    rw [List.getElem_take]
    simpa using hn j (by omega) (by omega)
  conv => lhs; rw [h1]
  rw [List.find?_append, h2, List.find?_cons]
  simp [he]
theorem find_none' {s : List Pr} {n : ByteArray} (hn : ∀ i (hi : i < s.length), s[i].1 ≠ n) : s.find? (fun x => decide (x.1 = n)) = none := by
  rw [List.find?_eq_none]
  intro x hx
  obtain ⟨j, hj, rfl⟩ := List.mem_iff_getElem.1 hx
  simpa using hn j hj

theorem Own.empty_ (w : World) (base : Nat) (e : TypeId) (k : Nat) (hb : base ≤ w.heap.size) : Own (w.alloc (.cells #[] e)) base e k (.slice (some ⟨w.heap.size, 0, none⟩) 0 0) [] :=
  ⟨⟨by simp, .inr ⟨w.heap.size, 0, #[], rfl, hb, heap_alloc_new w _, Nat.le_refl _, Nat.zero_le _, by simp, by simp⟩⟩, by simp⟩
theorem pBound_some {n : ByteArray} {ts : List Tm} {t : Tm} {s : List Pr} {x : Pr} (hv : isVar (.mk n ts) = true) (hf : s.find? (fun x => decide (x.1 = n)) = some x) : pBound (.mk n ts) t s = (s, tmEq x.2 t) := by
  rw [pBound, if_pos hv, hf]
theorem pBound_none {n : ByteArray} {ts : List Tm} {t : Tm} {s : List Pr} (hv : isVar (.mk n ts) = true) (hf : s.find? (fun x => decide (x.1 = n)) = none) : pBound (.mk n ts) t s = (s ++ [(n, t)], true) := by
  rw [pBound, if_pos hv, hf]

theorem pBoundL_false (ts us : List Tm) (s : List Pr) : pBoundL ts us s false = (s, false) := by
  match ts, us with
  | [], _ => rw [pBoundL]
  | _ :: _, [] => rw [pBoundL]
  | _ :: _, _ :: _ => rw [pBoundL, if_neg (by simp)]
theorem pBound_no {n : ByteArray} {ts : List Tm} {t : Tm} {s : List Pr} (hv : isVar (.mk n ts) = false) (hf : ¬ (n = t.name ∧ ts.length = t.args.length)) : pBound (.mk n ts) t s = ([], false) := by
  rw [pBound, if_neg (by rw [hv]; simp), if_neg hf]
theorem pBound_yes {n : ByteArray} {ts : List Tm} {t : Tm} {s : List Pr} (hv : isVar (.mk n ts) = false) (hf : n = t.name ∧ ts.length = t.args.length) : pBound (.mk n ts) t s = pBoundL ts t.args s true := by
  rw [pBound, if_neg (by rw [hv]; simp), if_pos hf]
def BoundC (n : Nat) : Prop := ∀ (pt t : Tm) (s : List Pr), pt.sz ≤ n → s.length + pt.sz ≤ 1000000 → ∀ (p : Nat → Prop) (v v' u : Value) (w : World), SlT p w v pt.args → SlT p w v' t.args → SlPr p w u s →
  Calls Try.prog 95 #[.agg #[.string pt.name, v], .agg #[.string t.name, v'], u] w fun e w' => ∃ u', e = .returned (.tuple #[u', .bool (pBound pt t s).2]) ∧ SlPr (fun b => p b ∨ w.heap.size ≤ b) w' u' (pBound pt t s).1 ∧ Ch [] w w'

set_option maxRecDepth 100000 in
set_option maxHeartbeats 4000000 in
theorem bound_step (n : Nat) (IH : BoundC n) : BoundC (n + 1) := by
  intro pt t s hsz hlen p v v' u w h h' hs
  obtain ⟨nm, ags⟩ := pt
  obtain ⟨nu, bgs⟩ := t
  obtain ⟨a, c, rfl, hlc, hmx⟩ := h.form
  obtain ⟨a', c', rfl, hlc', hmx'⟩ := h'.form
  obtain ⟨a2, c2, rfl, hl2, hm2⟩ := hs.form
  simp only [Tm.args, Tm.name, Tm.sz] at h h' hlc hlc' hsz hlen ⊢
  unfold maxLen at hmx hmx' hm2
  have HIH := Lib.hid IH; clear IH
  have hbx := (Blk.new w 52 #[.string nm, .slice a ags.length c]).alloc (.cells #[.string nu, .slice a' bgs.length c'] 52)
  have hby : Blk ((w.alloc (.cells #[.string nm, .slice a ags.length c] 52)).alloc (.cells #[.string nu, .slice a' bgs.length c'] 52)) (w.heap.size + 1) 52 #[.string nu, .slice a' bgs.length c'] := by
    have := Blk.new (w.alloc (.cells #[.string nm, .slice a ags.length c] 52)) 52 #[.string nu, .slice a' bgs.length c']
    simpa using this
  have hcA : Ch [] w ((w.alloc (.cells #[.string nm, .slice a ags.length c] 52)).alloc (.cells #[.string nu, .slice a' bgs.length c'] 52)) := ((Ch.refl _ _).alloc _).alloc _
  obtain ⟨wA, hwA⟩ : ∃ wA, wA = ((w.alloc (.cells #[.string nm, .slice a ags.length c] 52)).alloc (.cells #[.string nu, .slice a' bgs.length c'] 52)) := ⟨_, rfl⟩
  rw [← hwA] at hbx hby hcA
  have hv := variable_ (.mk nm ags) p (.slice a ags.length c) wA (h.ch0 hcA)
  have b0 := hbx.cell 0
  have b1 := hbx.cell 1
  simp only [Tm.name] at hv
  cases hiv : isVar (.mk nm ags) with
  | true =>
    rw [hiv] at hv
    have HIV := Lib.hid hiv
    clear hiv
    go_enter Try.func95, Try.ntmps95
    go_wp2_with (rw [← hwA]; go_at_call 96; refine hv.mono ?_; rintro e w1 ⟨rfl, hc1⟩; clear hv)
    have hbx1 := hbx.ch hc1 (by simp)
    have hby1 := hby.ch hc1 (by simp)
    have hs1 := hs.ch0 (hcA.trans hc1)
    have h1' := h'.ch0 (hcA.trans hc1)
    have hB1 := hcA.trans hc1
    clear b0 b1 hbx hby hcA hc1 hwA hs h h'
    go_loopw [15] (fun i wr => ∃ k : Nat, k ≤ s.length ∧ i = .int .i64 k ∧ Ch [] w1 wr ∧ Hid (∀ i (hi : i < s.length), i < k → s[i].1 ≠ nm)) (fun i _ => s.length - (intOf i).toNat)
    case atStart => exact ⟨0, Nat.zero_le _, rfl, Ch.refl _ _, fun i _ h => by omega⟩
    case round =>
      obtain ⟨k, hk, rfl, hB, HN⟩ := hrel
      have hbx2 := hbx1.ch hB (by simp)
      have hby2 := hby1.ch hB (by simp)
      have b0 := hbx2.cell 0
      have e0 := hby2.cell 0
      have e1 := hby2.cell 1
      by_cases hlt : k < s.length
      · obtain ⟨b, o, a3, c3, rfl, hp, k0, k1, k2, hT⟩ := (hs1.ch0 hB).at_ hlt
        have HFA := Lib.hid (fun he => find_at' (n := nm) hlt HN.out he)
        have hst : s[k].1 ≠ nm → ∀ i (hi : i < s.length), i < k + 1 → s[i].1 ≠ nm := fun hf i hi hij => by
          rcases Nat.lt_succ_iff_lt_or_eq.1 hij with h1 | h1
          · exact HN.out i hi h1
          · subst h1; exact hf
        have HST := Lib.hid hst; clear hst
        generalize s[k] = x at *
        obtain ⟨xn, xt⟩ := x
        have L0 := Later.cell k0
        have L1 := Later.cell k1
        have L2 := Later.cell k2
        have LB := Later.cell b0
        have LE0 := Later.cell e0
        have LE1 := Later.cell e1
        simp only at L0 L1 L2 HFA HST hT
        by_cases hxn : xn = nm
        · have hq : (xn.toList == nm.toList) = true := by rw [beqS]; simpa using hxn
          have HF := Lib.hid (HFA.out hxn)
          have HR : Hid (pBound (.mk nm ags) (.mk nu bgs) s = (s, tmEq xt (.mk nu bgs))) := pBound_some HIV.out HF.out
          have hcall : ∀ wz, Ch [] wr wz → Calls Try.prog 107 #[.agg #[.string xt.name, .slice a3 xt.args.length c3], .agg #[.string nu, .slice a' bgs.length c']] wz fun e w' => e = .returned (.bool (tmEq xt (.mk nu bgs))) ∧ Ch [] wz w' := fun wz hz => plainTerm xt (.mk nu bgs) p p _ _ wz (hT.ch0 hz) ((h1'.ch0 hB).ch0 hz)
          generalize tmEq xt (.mk nu bgs) = q at *
          clear hxn HFA HST
          go_wp2
          refine wp_region_later (by kernel_rfl) (lexB_of (by kernel_rfl)) ?_
          repeat (go_big_quiet_step (fail))
          refine wpQuiet_nil ?_
          intro w3 hw3
          have M1 := Later.cell (cell_ch k1 hw3 (by simp))
          have M2 := Later.cell (cell_ch k2 hw3 (by simp))
          have ME0 := Later.cell (cell_ch e0 hw3 (by simp))
          have ME1 := Later.cell (cell_ch e1 hw3 (by simp))
          clear L0 L1 L2 LB LE0 LE1
          go_wp2
          refine wp_region_later (by kernel_rfl) (lexB_of (by kernel_rfl)) ?_
          repeat (go_big_quiet_step ((go_at_call 107; exact later_call (hcall _ (hw3.trans (Later.ch _))))))
          refine wpQuiet_nil ?_
          intro w4 hw4
          go_wp2
          go_ret2
          rw [HR.out]
          exact ⟨_, rfl, (hs1.ch0 ((hB.trans hw3).trans hw4)).weak (fun b _ hb => .inl hb), ((hB1.trans hB).trans hw3).trans hw4⟩
        · have hq : (xn.toList == nm.toList) = false := by rw [beqS]; simpa using hxn
          have HST2 := Lib.hid (HST.out hxn)
          clear hxn HFA HST
          go_wp2
          refine wp_region_later (by kernel_rfl) (lexB_of (by kernel_rfl)) ?_
          repeat (go_big_quiet_step (fail))
          refine wpQuiet_nil ?_
          intro w3 hw3
          go_wp2
          go_roundw
          case rel => exact ⟨k + 1, by omega, by go_num, hB.trans hw3, HST2.out⟩
          case measure => simp [intOf]; omega
      · have HR : Hid (pBound (.mk nm ags) (.mk nu bgs) s = (s ++ [(nm, .mk nu bgs)], true)) := pBound_none HIV.out (find_none' (fun i hi => HN.out i hi (by omega)))
        have hs2 := hs1.ch0 hB
        go_wp2
        obtain ⟨css, hsl, hcl, hpr⟩ := hs2
        have hSL : ∀ wz, Ch [] wr wz → Sl p wz 3 (.slice a2 s.length c2) css := fun wz hz => hsl.ch0 hz
        have HCL := Lib.hid hcl; clear hcl
        have HPR := Lib.hid hpr; clear hpr
        have g0 := hbx2.cell 0
        have honeI : Sl (fun b => b = wr.heap.size + 1) ((wr.alloc (.cells #[] 135)).alloc (.cells #[.string nm, .string nu, .slice a' bgs.length c'] 135)) 3 (.slice (some ⟨wr.heap.size + 1, 0, none⟩) 1 1) [[.string nm, .string nu, .slice a' bgs.length c']] := by
          have := Sl.one (wr.alloc (.cells #[] 135)) 3 135 [.string nm, .string nu, .slice a' bgs.length c'] rfl (by simp [Value.oneCell'])
          simpa using this
        have honeJ : Sl (fun b => b = wr.heap.size) ((wr.alloc (.cells #[.string nm, .string nu, .slice a' bgs.length c'] 135)).alloc (.cells #[] 135)) 3 (.slice (some ⟨wr.heap.size, 0, none⟩) 1 1) [[.string nm, .string nu, .slice a' bgs.length c']] := (Sl.one wr 3 135 [.string nm, .string nu, .slice a' bgs.length c'] rfl (by simp [Value.oneCell'])).ch0 ((Ch.refl [] _).alloc _)
        have hownJ : Own ((wr.alloc (.cells #[.string nm, .string nu, .slice a' bgs.length c'] 135)).alloc (.cells #[] 135)) wr.heap.size 135 3 (.slice (some ⟨wr.heap.size + 1, 0, none⟩) 0 0) [] := by
          have := Own.empty_ (wr.alloc (.cells #[.string nm, .string nu, .slice a' bgs.length c'] 135)) wr.heap.size 135 3 (by simp)
          simpa using this
        go_region_held3 (fun w' => w'.cell? ⟨w.heap.size, 0, none⟩ = some (.string nm) ∧ w'.cell? ⟨w.heap.size + 1, 0, none⟩ = some (.string nu) ∧ w'.cell? ⟨w.heap.size + 1, 1, none⟩ = some (.slice a' bgs.length c')) (go_keep) (first
          | (refine step_append_sl rfl _ _ _ rfl elP (base := wr.heap.size) (v := .slice (some ⟨wr.heap.size, 0, none⟩) 0 0) (css := []) rfl ((Own.empty_ wr wr.heap.size _ _ (Nat.le_refl _)).ch ((Ch.refl [] _).drew) (by simp)) rfl (hSL _ (((Ch.refl [] wr).alloc (.cells #[] 135)).drew)) (by have := HCL.out; simp; omega) (by simp <;> omega) ?_; intro v5 w5 ho5 hc5 hat5 hn5; clear hn5; have z5 : Ch [] wr w5 := (((Ch.refl [] wr).alloc (.cells #[] 135)).drew).step hc5 (by simp [Value.ownBlock]); have z0 := cell_ch g0 z5 (by simp); have z1 := cell_ch e0 z5 (by simp); have z2 := cell_ch e1 z5 (by simp))
          | (refine step_append_sl rfl _ _ _ rfl elP (base := wr.heap.size) (v := .slice (some ⟨wr.heap.size, 0, none⟩) 0 0) (css := []) rfl ((Own.empty_ wr wr.heap.size _ _ (Nat.le_refl _)).ch (((Ch.refl [] _).alloc (.cells #[.string nm, .string nu, .slice a' bgs.length c'] 135)).drew) (by simp)) rfl (hSL _ ((((Ch.refl [] wr).alloc (.cells #[] 135)).alloc (.cells #[.string nm, .string nu, .slice a' bgs.length c'] 135)).drew)) (by have := HCL.out; simp; omega) (by simp <;> omega) ?_; intro v5 w5 ho5 hc5 hat5 hn5; clear hn5; have z5 : Ch [] wr w5 := ((((Ch.refl [] wr).alloc (.cells #[] 135)).alloc (.cells #[.string nm, .string nu, .slice a' bgs.length c'] 135)).drew).step hc5 (by simp [Value.ownBlock]); have hq5 := (honeI.ch0 ((Ch.refl [] _).drew)).ch hc5 (by intro b _ hb; simp [Value.ownBlock]; omega); have z0 := cell_ch g0 z5 (by simp); have z1 := cell_ch e0 z5 (by simp); have z2 := cell_ch e1 z5 (by simp))
          | (refine step_append_sl rfl _ _ _ rfl elP (base := wr.heap.size) (v := .slice (some ⟨wr.heap.size + 1, 0, none⟩) 0 0) (css := []) rfl (hownJ.ch ((Ch.refl [] _).drew) (by simp)) rfl (hSL _ ((((Ch.refl [] wr).alloc (.cells #[.string nm, .string nu, .slice a' bgs.length c'] 135)).alloc (.cells #[] 135)).drew)) (by have := HCL.out; simp; omega) (by simp <;> omega) ?_; intro v5 w5 ho5 hc5 hat5 hn5; clear hn5; have z5 : Ch [] wr w5 := ((((Ch.refl [] wr).alloc (.cells #[.string nm, .string nu, .slice a' bgs.length c'] 135)).alloc (.cells #[] 135)).drew).step hc5 (by simp [Value.ownBlock]); have hq5 := (honeJ.ch0 ((Ch.refl [] _).drew)).ch hc5 (by intro b _ hb; simp [Value.ownBlock]; omega); have z0 := cell_ch g0 z5 (by simp); have z1 := cell_ch e0 z5 (by simp); have z2 := cell_ch e1 z5 (by simp))
          | (refine step_append_sl rfl _ _ _ rfl elP (base := wr.heap.size) (v := v5) (css := [] ++ css) rfl (ho5.ch ((Ch.refl [] w5).alloc (.cells #[.string nm, .string nu, .slice a' bgs.length c'] 135)) (by simp)) rfl (Sl.one w5 3 135 [.string nm, .string nu, .slice a' bgs.length c'] rfl (by simp [Value.oneCell'])) (by have := HCL.out; simp; omega) (by have := z5.size; simp; omega) ?_; intro v7 w7 ho7 hc7 hat7 hn7; clear hn7; have z7 : Ch [] wr w7 := (z5.alloc (.cells #[.string nm, .string nu, .slice a' bgs.length c'] 135)).step hc7 (by intro zz hz; right; cases hvo : v5.ownBlock with | none => rw [hvo] at hz; cases hz | some g6 => rw [hvo] at hz; simp at hz; subst hz; exact (ho5.lt hvo).1); have y0 := cell_ch g0 z7 (by simp); have y1 := cell_ch e0 z7 (by simp); have y2 := cell_ch e1 z7 (by simp))
          | (refine step_append_sl rfl _ _ _ rfl elP (base := wr.heap.size) (v := v5) (css := [] ++ css) rfl ho5 rfl hq5 (by have := HCL.out; simp; omega) (by have := z5.size; omega) ?_; intro v7 w7 ho7 hc7 hat7 hn7; clear hn7; have z7 : Ch [] wr w7 := z5.step hc7 (by intro zz hz; right; cases hvo : v5.ownBlock with | none => rw [hvo] at hz; cases hz | some g6 => rw [hvo] at hz; simp at hz; subst hz; exact (ho5.lt hvo).1); have y0 := cell_ch g0 z7 (by simp); have y1 := cell_ch e0 z7 (by simp); have y2 := cell_ch e1 z7 (by simp)))
        all_goals
          go_wp2
          go_ret2
          rw [HR.out]
          have hlv : ∀ b, v7.ownBlock = some b → wr.heap.size ≤ b := fun b hb => (ho7.lt hb).1
          refine ⟨_, rfl, ?_, hB1.trans (hB.trans z7)⟩
          refine ⟨_, ho7.sl.weak (fun b _ hb => .inr (by have := hb.1; have := (hB1.trans hB).size; omega)), by have := HCL.out; simp; omega, fun i cs x h4 h5 => ?_⟩
          rw [List.nil_append] at h4
          rcases Nat.lt_or_ge i css.length with hi | hi
          · rw [List.getElem?_append_left hi] at h4
            rw [List.getElem?_append_left (by have := HCL.out; omega)] at h5
            exact imp_pr _ _ _ _ _ _ z7.size (fun b hb hp => ⟨.inl hp, z7.block b hb (by simp)⟩) (HPR.out i cs x h4 h5)
          · rw [List.getElem?_append_right hi] at h4
            rw [List.getElem?_append_right (by have := HCL.out; omega), ← HCL.out] at h5
            cases hd : i - css.length with
            | zero =>
              rw [hd] at h4 h5
              simp at h4 h5
              subst h4 h5
              exact ⟨_, rfl, (h1'.ch0 (hB.trans z7)).weak (fun b _ hb => .inl hb)⟩
            | succ m => rw [hd] at h4; simp at h4
  | false =>
    rw [hiv] at hv
    have HIV := Lib.hid hiv
    clear hiv
    clear b0 b1
    by_cases hmt : nm = nu ∧ ags.length = bgs.length
    · have HR : Hid (pBound (.mk nm ags) (.mk nu bgs) s = pBoundL ags bgs s true) := pBound_yes HIV.out hmt
      have hq1 : (nm.toList == nu.toList) = true := by rw [beqS]; simpa using hmt.1
      have hq2 : ((ags.length : Int) != (bgs.length : Int)) = false := by simp [hmt.2]
      have HLE := Lib.hid hmt.2
      clear hmt
      go_enter Try.func95, Try.ntmps95
      go_wp2_with (rw [← hwA]; go_at_call 96; refine hv.mono ?_; rintro e w1 ⟨rfl, hc1⟩; clear hv; have hbx1 := hbx.ch hc1 (by simp); have hby1 := hby.ch hc1 (by simp); have b0 := hbx1.cell 0; have b1 := hbx1.cell 1; have e0 := hby1.cell 0; have e1 := hby1.cell 1)
      have hs1 := hs.ch0 (hcA.trans hc1)
      have h1 := h.ch0 (hcA.trans hc1)
      have h1' := h'.ch0 (hcA.trans hc1)
      have hB1 := hcA.trans hc1
      clear b0 b1 e0 e1 hbx hby hcA hc1 hwA hs h h'
      go_loopw [2, 9, 10] (fun sv okv i wr => ∃ (k : Nat) (s' : List Pr) (ok : Bool), k ≤ ags.length ∧ i = .int .i64 k ∧ okv = .bool ok ∧ SlPr (fun b => p b ∨ w.heap.size ≤ b) wr sv s' ∧ Ch [] w1 wr ∧ Hid (pBoundL ags bgs s true = pBoundL (ags.drop k) (bgs.drop k) s' ok) ∧ s'.length + szs (ags.drop k) ≤ 1000000) (fun _ _ i _ => ags.length - (intOf i).toNat)
      case atStart => exact ⟨0, s, true, Nat.zero_le _, rfl, rfl, hs1.weak (fun b _ hb => .inl hb), Ch.refl _ _, rfl, by rw [List.drop_zero]; omega⟩
      case round =>
        obtain ⟨k, s', ok, hk, rfl, rfl, hsv, hB, HX, hln⟩ := hrel
        have hbx2 := hbx1.ch hB (by simp)
        have hby2 := hby1.ch hB (by simp)
        have b1 := hbx2.cell 1
        have e1 := hby2.cell 1
        by_cases hlt : k < ags.length
        · cases ok with
          | true =>
            have hlu : k < bgs.length := by have := HLE.out; omega
            obtain ⟨b, o, a3, c3, rfl, hp, k0, k1, hT1⟩ := (h1.ch0 hB).at_ hlt
            obtain ⟨b', o', a4, c4, rfl, hp', m0, m1, hT2⟩ := (h1'.ch0 hB).at_ hlu
            have hszx := szs_mem (List.getElem_mem hlt)
            have hr : pBoundL ags bgs s true = pBoundL (ags.drop (k + 1)) (bgs.drop (k + 1)) (pBound ags[k] bgs[k] s').1 (pBound ags[k] bgs[k] s').2 := by
              rw [HX.out, List.drop_eq_getElem_cons hlt, List.drop_eq_getElem_cons hlu, pBoundL, if_pos rfl]
            rw [List.drop_eq_getElem_cons hlt] at hln
            simp only [szs] at hln
            have hbl := pBound_len ags[k] bgs[k] s'
            have HRR := Lib.hid hr; clear hr
            generalize ags[k] = x at *
            generalize bgs[k] = y at *
            obtain ⟨au, cu, rfl, hlu2, hmu⟩ := hsv.form
            have hcall := HIH.out x y s' (by omega) (by omega) (fun b => p b ∨ w.heap.size ≤ b) (.slice a3 x.args.length c3) (.slice a4 y.args.length c4) (.slice au s'.length cu) wr.drew ((hT1.ch0 ((Ch.refl [] wr).drew)).weak (fun b _ hb => .inl hb)) ((hT2.ch0 ((Ch.refl [] wr).drew)).weak (fun b _ hb => .inl hb)) (hsv.ch0 ((Ch.refl [] wr).drew))
            obtain ⟨s2, q2, hpe⟩ : ∃ s2 q2, pBound x y s' = (s2, q2) := ⟨_, _, rfl⟩
            rw [hpe] at hcall hbl HRR
            simp only at hcall hbl HRR
            clear hpe
            go_wp2
            go_region_held3 (fun w' => w'.cell? ⟨w.heap.size, 1, none⟩ = some (.slice (some ⟨b, o, none⟩) ags.length c) ∧ w'.cell? ⟨w.heap.size + 1, 1, none⟩ = some (.slice (some ⟨b', o', none⟩) bgs.length c') ∧ w'.cell? ⟨b, o + k * 2, none⟩ = some (.string x.name) ∧ w'.cell? ⟨b, o + k * 2 + 1, none⟩ = some (.slice a3 x.args.length c3) ∧ w'.cell? ⟨b', o' + k * 2, none⟩ = some (.string y.name) ∧ w'.cell? ⟨b', o' + k * 2 + 1, none⟩ = some (.slice a4 y.args.length c4)) (go_keep) (first
              | (go_at_call 95; refine hcall.mono ?_; rintro e w3 ⟨u3, rfl, hu3, hc3⟩; clear hcall; replace hc3 := ((Ch.refl [] wr).drew).trans hc3; have z0 := cell_ch b1 hc3 (by simp); have z1 := cell_ch e1 hc3 (by simp); have z2 := cell_ch k0 hc3 (by simp); have z3 := cell_ch k1 hc3 (by simp); have z4 := cell_ch m0 hc3 (by simp); have z5 := cell_ch m1 hc3 (by simp)))
            go_wp2
            go_roundw
            case rel => exact ⟨k + 1, s2, q2, by omega, by go_num, rfl, hu3.weak (fun b _ hb => by
              rcases hb with hb | hb
              · exact hb
              · have h2 := (hB1.trans hB).size; have h3 : wr.heap.size ≤ b := hb; exact .inr (by omega)), hB.trans hc3, HRR, by omega⟩
            case measure => simp [intOf]; omega
          | false =>
            have hr : pBoundL ags bgs s true = (s', false) := by rw [HX.out, pBoundL_false]
            have HRR := Lib.hid hr; clear hr
            go_wp2
            go_ret2
            rw [HR.out, HRR.out]
            exact ⟨_, rfl, hsv, hB1.trans hB⟩
        · have hr : pBoundL ags bgs s true = (s', ok) := by rw [HX.out, List.drop_eq_nil_of_le (by omega), pBoundL]
          have HRR := Lib.hid hr; clear hr
          go_wp2
          go_ret2
          rw [HR.out, HRR.out]
          exact ⟨_, rfl, hsv, hB1.trans hB⟩
    · have HR : Hid (pBound (.mk nm ags) (.mk nu bgs) s = ([], false)) := pBound_no HIV.out hmt
      by_cases hnn : nm = nu
      · have hq1 : (nm.toList == nu.toList) = true := by rw [beqS]; simpa using hnn
        have hq2 : ((ags.length : Int) != (bgs.length : Int)) = true := by simp; intro e; exact hmt ⟨hnn, by omega⟩
        clear hmt hnn
        go_enter Try.func95, Try.ntmps95
        go_wp2_with (rw [← hwA]; go_at_call 96; refine hv.mono ?_; rintro e w1 ⟨rfl, hc1⟩; clear hv; have hbx1 := hbx.ch hc1 (by simp); have hby1 := hby.ch hc1 (by simp); have b0 := hbx1.cell 0; have b1 := hbx1.cell 1; have e0 := hby1.cell 0; have e1 := hby1.cell 1)
        go_ret2
        rw [HR.out]
        exact ⟨_, rfl, SlPr.nil _ _, hcA.trans hc1⟩
      · have hq1 : (nm.toList == nu.toList) = false := by rw [beqS]; simpa using hnn
        clear hmt hnn
        go_enter Try.func95, Try.ntmps95
        go_wp2_with (rw [← hwA]; go_at_call 96; refine hv.mono ?_; rintro e w1 ⟨rfl, hc1⟩; clear hv; have hbx1 := hbx.ch hc1 (by simp); have hby1 := hby.ch hc1 (by simp); have b0 := hbx1.cell 0; have b1 := hbx1.cell 1; have e0 := hby1.cell 0; have e1 := hby1.cell 1)
        go_ret2
        rw [HR.out]
        exact ⟨_, rfl, SlPr.nil _ _, hcA.trans hc1⟩
theorem boundC_all : ∀ n, BoundC n
  | 0 => fun pt _ _ h => by cases pt; simp [Tm.sz] at h
  | n + 1 => bound_step n (boundC_all n)
end Go.Proofs.Ytbjdikeaolibpaa
