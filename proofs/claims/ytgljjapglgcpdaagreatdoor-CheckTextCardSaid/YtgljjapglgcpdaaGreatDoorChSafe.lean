
/-
  The contract of check.atoms.
  The contract of check.safe.
-/
import Derived.Test.YtgljjapglgcpdaaGreatDoorChAtom
namespace Go.Proofs.YtgljjapglgcpdaaGreatDoor

section
open Go.RowKit

/-- a new row of terms whose arguments lie in the memory of w -/
def RowT (p : Nat → Prop) (w w' : World) (v : Value) (ts : List Tm) : Prop := ∃ css, Own w' w.heap.size 28 2 v css ∧ TmsR p w ts css
theorem TmR.of {p : Nat → Prop} {w : World} {t : Tm} {v : Value} (h : SlT p w v t.args) : TmR p w t [.string t.name, v] := by
  obtain ⟨n, ags⟩ := t
  obtain ⟨css, h1, h2⟩ := h
  simp only [TmR]
  exact ⟨v, css, rfl, h1, h2⟩

set_option maxRecDepth 100000 in
set_option maxHeartbeats 4000000 in
theorem atoms_ (r : Ru) (p : Nat → Prop) (vh vb : Value) (w : World) (hh : SlT p w vh r.head.args) (hb : SlLi p w vb r.body) (hlen : r.body.length ≤ 1000000) :
    Calls Tryz.prog 18 #[.agg #[.string r.head.name, vh, vb]] w fun e w' => ∃ v', e = .returned v' ∧ RowT p w w' v' (atomsOf r) ∧ Ch [] w w' := by
  obtain ⟨hd, body⟩ := r
  simp only at hh hb hlen ⊢
  obtain ⟨ah, ch, rfl, _, _⟩ := hh.form
  obtain ⟨a, c, rfl, hlc, hmx⟩ := hb.form
  unfold maxLen at hmx
  have hRh := TmR.of hh
  generalize hd.args.length = hL at *
  have hbx := Blk.new w 31 #[.string hd.name, .slice ah hL ch, .slice a body.length c]
  have hcA : Ch [] w (w.alloc (.cells #[.string hd.name, .slice ah hL ch, .slice a body.length c] 31)) := (Ch.refl _ _).alloc _
  have hsA : (w.alloc (.cells #[.string hd.name, .slice ah hL ch, .slice a body.length c] 31)).heap.size = w.heap.size + 1 := by simp
  generalize hwA : (w.alloc (.cells #[.string hd.name, .slice ah hL ch, .slice a body.length c] 31)) = wA at *
  have b0 := hbx.cell 0
  have b1 := hbx.cell 1
  have hbx2 := hbx.alloc (.cells #[.string hd.name, .slice ah hL ch] 28)
  have d2 := hbx2.cell 2
  have hone := Own.one_ wA w.heap.size 28 2 [.string hd.name, .slice ah hL ch] (by omega) rfl (by simp [Value.oneCell'])
  rw [hsA] at hone
  have hcB := hcA.alloc (.cells #[.string hd.name, .slice ah hL ch] 28)
  go_enter Tryz.func18, Tryz.ntmps18
  go_wp2
  clear b0 b1 d2 hbx hbx2
  generalize hwB : wA.alloc (.cells #[.string hd.name, .slice ah hL ch] 28) = wB at *
  have hone' : Own wB w.heap.size 28 2 (.slice (some ⟨w.heap.size + 1, 0, none⟩) 1 1) [[.string hd.name, .slice ah hL ch]] := hone
  clear hone hwB hwA hcA hsA
  go_loopw [3, 5, 12] (fun av _ i wr => ∃ (k : Nat) (css : List (List Value)), k ≤ body.length ∧ i = .int .i64 k ∧ Ch [] w wr ∧ Own wr w.heap.size 28 2 av css ∧ TmsR p w (hd :: (body.take k).map (·.atom)) css) (fun _ _ i _ => body.length - (intOf i).toNat)
  case atStart => exact ⟨0, _, Nat.zero_le _, rfl, hcB, hone', by simp only [List.take_zero, List.map_nil, TmsR]; exact ⟨_, [], rfl, hRh, rfl⟩⟩
  case round =>
    obtain ⟨k, css, hk, rfl, hB, hown, htm⟩ := hrel
    by_cases hlt : k < body.length
    · obtain ⟨b, o, a', c', rfl, hp, c0, c1, c2, hT⟩ := hb.at_ hlt
      have hRx := TmR.of hT
      have HTS := Lib.hid (take_snoc body k hlt)
      have hcl : css.length = k + 1 := by rw [TmsR.len htm]; simp [Nat.min_eq_left hk]
      have HCL := Lib.hid hcl
      have c0 := cell_ch c0 hB (by simp)
      have c1 := cell_ch c1 hB (by simp)
      have c2 := cell_ch c2 hB (by simp)
      generalize body[k] = x at *
      obtain ⟨xn, xa⟩ := x
      simp only at hRx c0 c1 c2 HTS
      clear hT hcl
      generalize xa.args.length = xl at *
      have hbl := Blk.new wr 48 #[.bool xn, .string xa.name, .slice a' xl c']
      have l0 := hbl.cell 0
      have l1 := hbl.cell 1
      have l2 := hbl.cell 2
      have hcL : Ch [] wr (wr.alloc (.cells #[.bool xn, .string xa.name, .slice a' xl c'] 48)) := (Ch.refl _ _).alloc _
      have hszL := hcL.size
      have hszB := hB.size
      generalize hwL : wr.alloc (.cells #[.bool xn, .string xa.name, .slice a' xl c'] 48) = wL at *
      go_wp2_with (at_builtin; refine wpList_append_sl rfl _ _ _ rfl elT (base := w.heap.size) (v := u3) (css := css) rfl ((hown.ch0' hcL).ch0' ((Ch.refl [] wL).alloc _)) rfl (Sl.one wL 2 _ [.string xa.name, .slice a' xl c'] rfl (by simp [Value.oneCell'])) (by have := HCL.out; simp; omega) (by simp; omega) ?_; intro v6 w6 ho6 hc6 hat6 hn6; clear hn6)
      go_roundw
      case rel =>
        refine ⟨k + 1, _, by omega, by go_num, ((hB.trans hcL).alloc _).step hc6 (fun y hy => ?_), ho6, ?_⟩
        · simp at hy; exact .inr (hown.lt hy).1
        · rw [HTS.out, List.map_append, ← List.cons_append]; exact TmsR.snoc htm hRx
      case measure => simp [intOf]; omega
    · rw [List.take_of_length_le (by omega)] at htm
      go_wp2
      go_ret
      exact ⟨_, rfl, ⟨css, hown, htm⟩, hB⟩
end

section
open Go.RowKit

set_option maxRecDepth 100000 in
set_option maxHeartbeats 8000000 in
theorem safe_ (r : Ru) (p : Nat → Prop) (vh vb : Value) (w : World) (hh : SlT p w vh r.head.args) (hb : SlLi p w vb r.body) (hlen : r.body.length ≤ 1000000)
    (hl1 : (lvsL (needOf r)).length ≤ 1000000000) (hl2 : (lvsL (bindOf r)).length ≤ 1000000000) (hs1 : ∀ s ∈ lvsL (needOf r), s.size ≤ maxLen) (hs2 : ∀ s ∈ lvsL (bindOf r), s.size ≤ maxLen) :
    Calls Tryz.prog 21 #[.agg #[.string r.head.name, vh, vb]] w fun e w' => e = .returned (.bool (safeB r)) ∧ Ch [] w w' := by
  have HS := Lib.hid (show safeB r = (varsL (needOf r)).all (fun s => hasS (varsL (bindOf r)) s) from rfl)
  obtain ⟨hd, body⟩ := r
  have HND := Lib.hid (show needOf ⟨hd, body⟩ = hd :: (body.filter fun x => !bindsB x).map (·.atom) from rfl)
  have HBD := Lib.hid (show bindOf ⟨hd, body⟩ = (body.filter bindsB).map (·.atom) from rfl)
  generalize hNE : needOf ⟨hd, body⟩ = ND at *
  generalize hBE : bindOf ⟨hd, body⟩ = BD at *
  clear hNE hBE
  generalize safeB ⟨hd, body⟩ = SB at *
  simp only at hh hb hlen ⊢
  obtain ⟨ah, ch, rfl, _, _⟩ := hh.form
  obtain ⟨a, c, rfl, hlc, hmx⟩ := hb.form
  unfold maxLen at hmx
  have hRh := TmR.of hh
  generalize hd.args.length = hL at *
  have hbx := Blk.new w 31 #[.string hd.name, .slice ah hL ch, .slice a body.length c]
  have hcA : Ch [] w (w.alloc (.cells #[.string hd.name, .slice ah hL ch, .slice a body.length c] 31)) := (Ch.refl _ _).alloc _
  have hsA : (w.alloc (.cells #[.string hd.name, .slice ah hL ch, .slice a body.length c] 31)).heap.size = w.heap.size + 1 := by simp
  generalize hwA : (w.alloc (.cells #[.string hd.name, .slice ah hL ch, .slice a body.length c] 31)) = wA at *
  have b0 := hbx.cell 0
  have b1 := hbx.cell 1
  have hbx2 := hbx.alloc (.cells #[.string hd.name, .slice ah hL ch] 28)
  have d2 := hbx2.cell 2
  have hone := Own.one_ wA w.heap.size 28 2 [.string hd.name, .slice ah hL ch] (by omega) rfl (by simp [Value.oneCell'])
  rw [hsA] at hone
  have hcB := hcA.alloc (.cells #[.string hd.name, .slice ah hL ch] 28)
  go_enter Tryz.func21, Tryz.ntmps21
  go_wp2
  clear b0 b1 d2 hbx hbx2
  generalize hwB : wA.alloc (.cells #[.string hd.name, .slice ah hL ch] 28) = wB at *
  have hone' : Own wB w.heap.size 28 2 (.slice (some ⟨w.heap.size + 1, 0, none⟩) 1 1) [[.string hd.name, .slice ah hL ch]] := hone
  clear hone hwB hwA hcA hsA
  go_loopw [3, 4, 6, 16] (fun av bv _ i wr => ∃ (k : Nat) (cs1 cs2 : List (List Value)), k ≤ body.length ∧ i = .int .i64 k ∧ Ch [] w wr ∧ Own wr w.heap.size 28 2 av cs1 ∧ Own wr w.heap.size 28 2 bv cs2 ∧
    TmsR p w (hd :: ((body.take k).filter fun x => !bindsB x).map (·.atom)) cs1 ∧ TmsR p w (((body.take k).filter bindsB).map (·.atom)) cs2 ∧ (∀ g, av.ownBlock = some g → bv.ownBlock ≠ some g)) (fun _ _ _ i _ => body.length - (intOf i).toNat)
  case atStart => exact ⟨0, _, [], Nat.zero_le _, rfl, hcB, hone', Own.nil _ _ _ _, by simp only [List.take_zero, List.filter_nil, List.map_nil, TmsR]; exact ⟨_, [], rfl, hRh, rfl⟩, by simp [TmsR], fun g _ e => by simp [Value.ownBlock] at e⟩
  case round =>
    obtain ⟨k, cs1, cs2, hk, rfl, hB, ho1, ho2, ht1, ht2, hdf⟩ := hrel
    by_cases hlt : k < body.length
    · obtain ⟨b, o, a', c', rfl, hp, c0, c1, c2, hT⟩ := hb.at_ hlt
      have hRx := TmR.of hT
      have HTS := Lib.hid (take_snoc body k hlt)
      have hcl : cs1.length ≤ k + 1 ∧ cs2.length ≤ k := by
        rw [TmsR.len ht1, TmsR.len ht2]
        have h1 := List.length_filter_le (fun x => !bindsB x) (body.take k)
        have h2 := List.length_filter_le bindsB (body.take k)
        simp only [List.length_cons, List.length_map, List.length_take] at h1 h2 ⊢
        omega
      have HCL := Lib.hid hcl
      have c0 := cell_ch c0 hB (by simp)
      have c1 := cell_ch c1 hB (by simp)
      have c2 := cell_ch c2 hB (by simp)
      generalize body[k] = x at *
      obtain ⟨xn, xa⟩ := x
      simp only at hRx c0 c1 c2 HTS
      clear hT hcl
      generalize xa.args.length = xl at *
      have hbl := Blk.new wr 48 #[.bool xn, .string xa.name, .slice a' xl c']
      have l0 := hbl.cell 0
      have l1 := hbl.cell 1
      have l2 := hbl.cell 2
      have hcL : Ch [] wr (wr.alloc (.cells #[.bool xn, .string xa.name, .slice a' xl c'] 48)) := (Ch.refl _ _).alloc _
      have hszL := hcL.size
      have hszB := hB.size
      have hg1 : ∀ g, u3.ownBlock = some g → w.heap.size ≤ g ∧ g < wr.heap.size := fun g hg => ho1.lt hg
      have hg2 : ∀ g, u4.ownBlock = some g → w.heap.size ≤ g ∧ g < wr.heap.size := fun g hg => ho2.lt hg
      generalize hwL : wr.alloc (.cells #[.bool xn, .string xa.name, .slice a' xl c'] 48) = wL at *
      have ed := dis_eq xa.name
      have HBB := Lib.hid (show bindsB ⟨xn, xa⟩ = (!xn && !decide (xa.name = dis)) from rfl)
      generalize decide (xa.name = dis) = dq at *
      cases xn <;> cases dq
      all_goals
        go_wp2_with (first | (at_builtin; refine wpList_append_sl rfl _ _ _ rfl elT (base := w.heap.size) (v := u3) (css := cs1) rfl ((ho1.ch0' hcL).ch0' ((Ch.refl [] wL).alloc _)) rfl (Sl.one wL 2 _ [.string xa.name, .slice a' xl c'] rfl (by simp [Value.oneCell'])) (by have := HCL.out; simp; omega) (by simp; omega) ?_; intro v6 w6 ho6 hc6 hat6 hn6; clear hn6) | (at_builtin; refine wpList_append_sl rfl _ _ _ rfl elT (base := w.heap.size) (v := u4) (css := cs2) rfl ((ho2.ch0' hcL).ch0' ((Ch.refl [] wL).alloc _)) rfl (Sl.one wL 2 _ [.string xa.name, .slice a' xl c'] rfl (by simp [Value.oneCell'])) (by have := HCL.out; simp; omega) (by simp; omega) ?_; intro v6 w6 ho6 hc6 hat6 hn6; clear hn6))
      · go_roundw
        case rel =>
          refine ⟨k + 1, cs1, _, by omega, by go_num, ((hB.trans hcL).alloc _).step hc6 (fun y hy => by simp at hy; exact .inr (hg2 y hy).1), ((ho1.ch0' hcL).ch0' ((Ch.refl [] wL).alloc _)).ch hc6 (fun g hg hm => by simp at hm; exact hdf g hg hm), ho6, ?_, ?_, ?_⟩
          · rw [HTS.out, List.filter_append]
            simpa [List.filter_cons, HBB.out] using ht1
          · rw [HTS.out, List.filter_append, List.map_append]
            simp only [List.filter_cons, List.filter_nil, HBB.out]
            exact TmsR.snoc ht2 hRx
          · intro g e1 e2
            rcases hat6 with e3 | e3
            · rw [e3] at e2; exact hdf g e1 e2
            · rw [e3] at e2; injection e2 with e2; have := (hg1 g e1).2; simp at e2; omega
        case measure => simp [intOf]; omega
      · go_roundw
        case rel =>
          refine ⟨k + 1, _, cs2, by omega, by go_num, ((hB.trans hcL).alloc _).step hc6 (fun y hy => by simp at hy; exact .inr (hg1 y hy).1), ho6, ((ho2.ch0' hcL).ch0' ((Ch.refl [] wL).alloc _)).ch hc6 (fun g hg hm => by simp at hm; exact hdf g hm hg), ?_, ?_, ?_⟩
          · rw [HTS.out, List.filter_append, List.map_append, ← List.cons_append]
            simp only [List.filter_cons, List.filter_nil, HBB.out]
            exact TmsR.snoc ht1 hRx
          · rw [HTS.out, List.filter_append]
            simpa [List.filter_cons, HBB.out] using ht2
          · intro g e1 e2
            rcases hat6 with e3 | e3
            · rw [e3] at e1; exact hdf g e1 e2
            · rw [e3] at e1; injection e1 with e1; have := (hg2 g e2).2; simp at e1; omega
        case measure => simp [intOf]; omega
      · go_roundw
        case rel =>
          refine ⟨k + 1, _, cs2, by omega, by go_num, ((hB.trans hcL).alloc _).step hc6 (fun y hy => by simp at hy; exact .inr (hg1 y hy).1), ho6, ((ho2.ch0' hcL).ch0' ((Ch.refl [] wL).alloc _)).ch hc6 (fun g hg hm => by simp at hm; exact hdf g hm hg), ?_, ?_, ?_⟩
          · rw [HTS.out, List.filter_append, List.map_append, ← List.cons_append]
            simp only [List.filter_cons, List.filter_nil, HBB.out]
            exact TmsR.snoc ht1 hRx
          · rw [HTS.out, List.filter_append]
            simpa [List.filter_cons, HBB.out] using ht2
          · intro g e1 e2
            rcases hat6 with e3 | e3
            · rw [e3] at e1; exact hdf g e1 e2
            · rw [e3] at e1; injection e1 with e1; have := (hg2 g e2).2; simp at e1; omega
        case measure => simp [intOf]; omega
      · go_roundw
        case rel =>
          refine ⟨k + 1, _, cs2, by omega, by go_num, ((hB.trans hcL).alloc _).step hc6 (fun y hy => by simp at hy; exact .inr (hg1 y hy).1), ho6, ((ho2.ch0' hcL).ch0' ((Ch.refl [] wL).alloc _)).ch hc6 (fun g hg hm => by simp at hm; exact hdf g hm hg), ?_, ?_, ?_⟩
          · rw [HTS.out, List.filter_append, List.map_append, ← List.cons_append]
            simp only [List.filter_cons, List.filter_nil, HBB.out]
            exact TmsR.snoc ht1 hRx
          · rw [HTS.out, List.filter_append]
            simpa [List.filter_cons, HBB.out] using ht2
          · intro g e1 e2
            rcases hat6 with e3 | e3
            · rw [e3] at e1; exact hdf g e1 e2
            · rw [e3] at e1; injection e1 with e1; have := (hg2 g e2).2; simp at e1; omega
        case measure => simp [intOf]; omega
    · rw [List.take_of_length_le (by omega)] at ht1 ht2
      rw [← HND.out] at ht1
      rw [← HBD.out] at ht2
      have hS1 : SlT (fun _ => True) wr u3 ND := ⟨cs1, ho1.sl.weak (fun _ _ _ => trivial), ht1.imp hB.size (fun b hb hp => ⟨trivial, hB.block b hb (by simp)⟩)⟩
      have hS2 : SlT (fun _ => True) wr u4 BD := ⟨cs2, ho2.sl.weak (fun _ _ _ => trivial), ht2.imp hB.size (fun b hb hp => ⟨trivial, hB.block b hb (by simp)⟩)⟩
      have hv2 := vars_ BD _ u4 wr hS2 hl2 hs2
      have hv1 := fun wz (hz : Ch [] wr wz) => vars_ ND _ u3 wz (hS1.ch0 hz) hl1 hs1
      clear hS2 hS1 ht1 ht2 hdf HND HBD hl1 hl2 hs1 hs2 ho1 ho2
      generalize varsL ND = VN at *
      generalize varsL BD = VB at *
      go_wp2_with (first
        | (go_at_call 20; refine hv2.mono ?_; rintro e w5 ⟨v5, rfl, ho5, hc5⟩; clear hv2)
        | (go_at_call 20; refine (hv1 _ hc5).mono ?_; rintro e w6 ⟨v6, rfl, ho6, hc6⟩; clear hv1; obtain ⟨a6, c6, e6⟩ := ho6.form'; rw [List.length_map] at e6; subst e6))
      have hcon := fun s => containsS_ _ v5 VB s w6 ((ho5.ch0' hc6).sl)
      have hvl : VN.length ≤ maxLen := by have := (SlS.form (p := _) (xs := VN) ho6.sl); obtain ⟨_, _, _, h1, h2⟩ := this; omega
      unfold maxLen at hvl
      have hB6 := (hB.trans hc5).trans hc6
      go_loopw [9, 44] (fun _ i wx => ∃ k : Nat, k ≤ VN.length ∧ i = .int .i64 k ∧ wx = w6 ∧ Hid (∀ j (hj : j < VN.length), j < k → hasS VB VN[j] = true)) (fun _ i _ => VN.length - (intOf i).toNat)
      case atStart => exact ⟨0, Nat.zero_le _, rfl, rfl, fun j _ h => absurd h (Nat.not_lt_zero _)⟩
      case round =>
        obtain ⟨k, hk, rfl, rfl, HN⟩ := hrel
        by_cases hlt : k < VN.length
        · obtain ⟨b6, o6, rfl, hp6, c60⟩ := SlS.at_ ho6.sl hlt
          have hc := hcon VN[k]
          cases hq : hasS VB VN[k] with
          | true =>
            rw [hq] at hc
            have HX : Hid (∀ j (hj : j < VN.length), j < k + 1 → hasS VB VN[j] = true) := fun j hj h1 => by
              rcases Nat.lt_succ_iff_lt_or_eq.1 h1 with h2 | h2
              · exact HN.out j hj h2
              · subst h2; exact hq
            clear hq hcon
            generalize VN[k] = s at *
            go_wp2_with (go_at_call 55; refine hc.mono ?_; rintro e w7 ⟨rfl, rfl⟩)
            go_roundw
            case rel => exact ⟨k + 1, by omega, by go_num, trivial, HX⟩
            case measure => simp [intOf]; omega
          | false =>
            rw [hq] at hc
            have HX : Hid (SB = false) := by
              unfold Hid
              rw [HS.out, List.all_eq_false]
              exact ⟨_, List.getElem_mem hlt, by rw [hq]; simp⟩
            clear hq hcon
            generalize VN[k] = s at *
            go_wp2_with (go_at_call 55; refine hc.mono ?_; rintro e w7 ⟨rfl, rfl⟩)
            go_ret
            exact ⟨by rw [HX.out]; rfl, hB6⟩
        · have HX : Hid (SB = true) := by
            unfold Hid
            rw [HS.out, List.all_eq_true]
            intro s hs
            obtain ⟨j, hj, rfl⟩ := List.getElem_of_mem hs
            exact HN.out j hj (by omega)
          clear hcon
          go_wp2
          go_ret
          exact ⟨by rw [HX.out]; rfl, hB6⟩
end
end Go.Proofs.YtgljjapglgcpdaaGreatDoor
