
/-
  The contract of the reference's Edges.
-/
import Derived.Test.YtbongbknciibiaaGreatDoorSmall3
import Derived.Test.YtbongbknciibiaaGreatDoorOrder
import Derived.Deep.RegionHeld3
namespace Go.Proofs.YtbongbknciibiaaGreatDoor
open Go.RowKit
attribute [local go_sem ↓] run_eql_ed run_neq_ed run_eql_lv run_neq_lv

set_option maxRecDepth 100000 in
set_option maxHeartbeats 1600000 in
theorem ref09Edges (p) (v : Value) (l : List Ru) (w : World) (h : SlR p w v l) (hf : Fit l) :
    Calls Tryz.prog 43 #[v] w fun r w' => ∃ v', r = .returned v' ∧ SlE (fun b => w.heap.size ≤ b) w' v' (edgesOf l) ∧ Ch [] w w' := by
  obtain ⟨a, c, rfl, hlc, hm⟩ := h.form
  unfold maxLen at hm
  have HF := Lib.hid hf; clear hf
  have hll := (HF.out).1
  go_enter Tryz.func43, Tryz.ntmps43
  go_wp2
  go_loopw [3, 4] (fun o i wr => ∃ k : Nat, k ≤ l.length ∧ i = .int .i64 k ∧ Ch [] w wr ∧ SlE (fun b => w.heap.size ≤ b) wr o (edgesOf (l.take k))) (fun _ i _ => l.length - (intOf i).toNat)
  case atStart => exact ⟨0, Nat.zero_le _, rfl, Ch.refl _ _, Sl.nil _ _ _⟩
  case round =>
    obtain ⟨k, hk, rfl, hB, ho⟩ := hrel
    by_cases hlt : k < l.length
    · obtain ⟨b, o, a', c', a'', c'', rfl, hp, c0, c1, c2, hT, hL⟩ := h.at_ hlt
      have HS := Lib.hid (edgesOf_snoc l k hlt)
      have hlen := edgesOf_len HF.out k
      have hbl := HF.out.2 _ (List.getElem_mem hlt)
      generalize edgesOf (l.take k) = o0 at *
      by_cases hd : l[k].head.name = dis
      · have hd' : (l[k].head.name.toList == [100, 105, 115, 116, 105, 110, 99, 116]) = true := by rw [dis_eq]; simpa using hd
        have HS' : Hid (edgesOf (l.take (k + 1)) = o0) := by unfold Hid; rw [HS.out, edStep, if_pos hd]
        have c0 := cell_ch c0 hB (by simp)
        have c2 := cell_ch c2 hB (by simp)
        clear hd
        go_wp2
        go_loopw [3, 5, 6, 7, 8] (fun o i _ _ _ wq => i = .int .i64 0 ∧ Ch [] w wq ∧ SlE (fun b => w.heap.size ≤ b) wq o o0) (fun _ _ _ _ _ _ => 0)
        case atStart => exact ⟨rfl, hB, ho⟩
        case round =>
          obtain ⟨rfl, hB2, ho2⟩ := hrel
          have c0 := cell_ch ‹w.cell? ⟨b, o + k * 3, none⟩ = _› hB2 (by simp)
          have c2 := cell_ch ‹w.cell? ⟨b, o + k * 3 + 2, none⟩ = _› hB2 (by simp)
          by_cases hz : 0 < l[k].body.length
          all_goals
            go_wp2
            go_roundw
            case rel => exact ⟨k + 1, by omega, by go_num, hB2, by rw [HS'.out]; exact ho2⟩
            case measure => simp [intOf]; omega
      · have hd' : (l[k].head.name.toList == [100, 105, 115, 116, 105, 110, 99, 116]) = false := by rw [dis_eq]; simpa using hd
        have hd'' : (l[k].head.name.toList != [100, 105, 115, 116, 105, 110, 99, 116]) = true := by rw [bne, hd']; rfl
        have HS' : Hid (edgesOf (l.take (k + 1)) = edRow l[k].head.name o0 l[k].body) := by unfold Hid; rw [HS.out, edStep, if_neg hd]
        clear hd
        go_wp2
        go_loopw [3, 5, 6, 7, 8] (fun o i _ _ _ wq => ∃ m : Nat, m ≤ l[k].body.length ∧ i = .int .i64 m ∧ Ch [] w wq ∧ SlE (fun b => w.heap.size ≤ b) wq o (edRow l[k].head.name o0 (l[k].body.take m))) (fun _ i _ _ _ _ => l[k].body.length - (intOf i).toNat)
        case atStart => exact ⟨0, Nat.zero_le _, rfl, hB, ho⟩
        case round =>
          obtain ⟨m, hm, rfl, hB2, ho2⟩ := hrel
          have f0 := cell_ch c0 hB2 (by simp)
          have f2 := cell_ch c2 hB2 (by simp)
          by_cases hlt2 : m < l[k].body.length
          · obtain ⟨b2, o2, a2, c2', rfl, hp2, d0, d1, d2, hT2⟩ := hL.at_ hlt2
            have g0 := cell_ch d0 hB2 (by simp)
            have g1 := cell_ch d1 hB2 (by simp)
            have HS2 := Lib.hid (edRow_snoc l[k].head.name o0 l[k].body m hlt2)
            have hlen2 := edRow_len l[k].head.name (l[k].body.take m) o0
            rw [List.length_take] at hlen2
            generalize edRow l[k].head.name o0 (l[k].body.take m) = o1 at *
            go_wp2
            go_region_held3 (fun w' => w'.cell? ⟨b, o + k * 3, none⟩ = some (.string l[k].head.name) ∧ w'.cell? ⟨b, o + k * 3 + 2, none⟩ = some (.slice (some ⟨b2, o2, none⟩) l[k].body.length c'') ∧
                w'.cell? ⟨b2, o2 + m * 3, none⟩ = some (.bool l[k].body[m].nt) ∧ w'.cell? ⟨b2, o2 + m * 3 + 1, none⟩ = some (.string l[k].body[m].atom.name)) (go_keep) (first | fail)
            obtain ⟨x, HX⟩ : ∃ x : Ed, Hid (x = edOf l[k].head.name l[k].body[m]) := ⟨edOf l[k].head.name l[k].body[m], rfl⟩
            have hbX : Blk (wr.alloc (Obj.cells #[.string l[k].head.name, .string l[k].body[m].atom.name, .bool l[k].body[m].nt] 102)).drew wr.heap.size 102 #[.string x.f, .string x.t, .bool x.n] := by rw [HX.out]; exact (Blk.new _ _ _).drew
            have hcX : Ch [] wr (wr.alloc (Obj.cells #[.string l[k].head.name, .string l[k].body[m].atom.name, .bool l[k].body[m].nt] 102)).drew := ((Ch.refl [] wr).alloc _).drew
            generalize (wr.alloc (Obj.cells #[.string l[k].head.name, .string l[k].body[m].atom.name, .bool l[k].body[m].nt] 102)).drew = wx at *
            have hBX := hB2.trans hcX
            have hoX := ho2.ch0 hcX
            have x1 := hbX.cell 1
            by_cases hxd : x.t = dis
            · have hxd' : (x.t.toList == [100, 105, 115, 116, 105, 110, 99, 116]) = true := by rw [dis_eq]; simpa using hxd
              have HS3 : Hid (edRow l[k].head.name o0 (l[k].body.take (m + 1)) = o1) := by
                unfold Hid; rw [HS2.out, if_pos (by rw [HX.out] at hxd; exact hxd)]
              clear hxd
              go_wp2
              go_roundw
              case rel => exact ⟨m + 1, by omega, by go_num, hBX, by rw [HS3.out]; exact hoX⟩
              case measure => simp [intOf]; omega
            · have hxd' : (x.t.toList == [100, 105, 115, 116, 105, 110, 99, 116]) = false := by rw [dis_eq]; simpa using hxd
              have HS4 : Hid (edRow l[k].head.name o0 (l[k].body.take (m + 1)) = insG edLess o1 x) := by
                unfold Hid; rw [HS2.out, if_neg (by rw [HX.out] at hxd; exact hxd), HX.out]
              clear hxd
              obtain ⟨a3, c3, rfl, hlc3, hm3⟩ := hoX.form
              unfold maxLen at hm3
              have hle := belowG_le (lt := edLess) o1 x
              have HI := Lib.hid (insG_eq (lt := edLess) o1 x)
              have HL := Lib.hid (belowG_lt (lt := edLess) o1 x)
              have HA := Lib.hid (belowG_at (lt := edLess) o1 x)
              generalize belowG edLess o1 x = B at *
              obtain ⟨wo, rfl⟩ : ∃ wo : World, wo = wr := ⟨_, rfl⟩
              go_wp2
              go_loopw [7] (fun i wq => ∃ q : Nat, q ≤ B ∧ i = .int .i64 q ∧ Ch [] wx wq) (fun i _ => o1.length - (intOf i).toNat)
              case atStart => exact ⟨0, Nat.zero_le _, rfl, Ch.refl _ _⟩
              case round =>
                obtain ⟨wq, rfl⟩ : ∃ wq : World, wq = wr := ⟨_, rfl⟩
                obtain ⟨q, hq, rfl, hB3⟩ := hrel
                have hB4 := hBX.trans hB3
                have ho4 := hoX.ch0 hB3
                have hb4 := hbX.ch hB3 (by simp)
                have b0 := hb4.cell 0
                have b1 := hb4.cell 1
                have b2' := hb4.cell 2
                by_cases hlt3 : q < o1.length
                · obtain ⟨b3, o3, rfl, hp3, k0, k1, k2⟩ := ho4.at_ hlt3
                  have hc3 : c3 ≠ q := by omega
                  have K0L := Later.cell k0
                  have K1L := Later.cell k1
                  have K2L := Later.cell k2
                  have B0L := Later.cell b0
                  have B1L := Later.cell b1
                  have B2L := Later.cell b2'
                  have HNQ : Hid (q = B → edLess o1[q] x = false) := fun e => by subst e; exact HA.out hlt3
                  have HLQ : Hid (q < B → edLess o1[q] x = true) := fun e => HL.out q hlt3 e
                  go_wp2
                  refine wp_region_later (by kernel_rfl) (by kernel_rfl) ?_
                  repeat (go_big_quiet_step ((go_at_call 84; exact later_call (ref09less o1[q] x _))))
                  refine wpQuiet_nil ?_
                  intro w5 hw5
                  go_wp2
                  · have ht : edLess o1[q] x = true := by assumption
                    have hqB : q ≠ B := fun e => by rw [HNQ.out e] at ht; cases ht
                    go_roundw
                    case rel => exact ⟨q + 1, by omega, by go_num, hB3.trans hw5⟩
                    case measure => simp [intOf]; omega
                  · have ht : edLess o1[q] x = false := by assumption
                    have hqB : q = B := by
                      rcases Nat.lt_or_ge q B with h1 | h1
                      · rw [HLQ.out h1] at ht; cases ht
                      · omega
                    subst hqB
                    clear ht HNQ HLQ
                    clear K0L K1L K2L B0L B1L B2L
                    have K0M := Later.cell (cell_ch k0 hw5 (by simp))
                    have K1M := Later.cell (cell_ch k1 hw5 (by simp))
                    have K2M := Later.cell (cell_ch k2 hw5 (by simp))
                    have B0M := Later.cell (cell_ch b0 hw5 (by simp))
                    have B1M := Later.cell (cell_ch b1 hw5 (by simp))
                    have B2M := Later.cell (cell_ch b2' hw5 (by simp))
                    by_cases heq : o1[q] = x
                    · have he : edB o1[q].f o1[q].t o1[q].n x.f x.t x.n = true := by rw [edB_eq]; simpa using heq
                      have HS3 : Hid (edRow l[k].head.name o0 (l[k].body.take (m + 1)) = o1) := by
                        unfold Hid; rw [HS4.out]; have := HI.out; rw [dif_pos hlt3, if_pos heq] at this; exact this
                      clear heq
                      refine wp_region_later (by kernel_rfl) (by kernel_rfl) ?_
                      repeat (go_big_quiet_step (fail))
                      refine wpQuiet_nil ?_
                      intro w6 hw6
                      have hw56 := hw5.trans hw6
                      go_wp2
                      go_roundw
                      case rel => exact ⟨m + 1, by omega, by go_num, hB4.trans hw56, by rw [HS3.out]; exact ho4.ch0 hw56⟩
                      case measure => simp [intOf]; omega
                    · have he : edB o1[q].f o1[q].t o1[q].n x.f x.t x.n = false := by rw [edB_eq]; simpa using heq
                      have HS3 : Hid (edRow l[k].head.name o0 (l[k].body.take (m + 1)) = o1.take q ++ [x] ++ o1.drop q) := by
                        unfold Hid; rw [HS4.out]; have := HI.out; rw [dif_pos hlt3, if_neg heq] at this; exact this
                      clear heq
                      refine wp_region_later (by kernel_rfl) (by kernel_rfl) ?_
                      repeat (go_big_quiet_step (fail))
                      refine wpQuiet_nil ?_
                      intro w6 hw6
                      have hw56 := hw5.trans hw6
                      have ho6 := ho4.ch0 hw56
                      have hb6 := hb4.ch hw56 (by simp)
                      have hB6 := hB4.trans hw56
                      have h1 := SlE.take ho6 (m := q) (by omega)
                      have h2 := SlE.drop ho6 (m := q) (by omega)
                      have hd2 : ∀ (v1 : Value) (w1 w2 : World), Ch [] w6 w1 → (v1.ownBlock = none ∨ v1.ownBlock = some w6.heap.size) → Ch v1.ownBlock.toList (w1.alloc (.cells #[.string x.f, .string x.t, .bool x.n] 102)) w2 → SlE (fun b => w.heap.size ≤ b) w2 (.slice (if c3 = q then some ⟨b3, o3, none⟩ else (some (⟨b3, o3, none⟩ : Addr)).map (·.add (q * 3))) (o1.length - q) (c3 - q)) (o1.drop q) := by
                        intro v1 w1 w2 hc1 hat1 hc2
                        refine Sl.ch0 h2 ((hc1.alloc _).step hc2 ?_)
                        rcases hat1 with e | e <;> rw [e] <;> simp
                      have fin : ∀ (v1 v2 : Value) (w1 w2 w3 : World), Ch [] w6 w1 → (v1.ownBlock = none ∨ v1.ownBlock = some w6.heap.size) → Ch v1.ownBlock.toList (w1.alloc (.cells #[.string x.f, .string x.t, .bool x.n] 102)) w2 →
                          (v2.ownBlock = v1.ownBlock ∨ v2.ownBlock = some (w1.alloc (.cells #[.string x.f, .string x.t, .bool x.n] 102)).heap.size) → Ch v2.ownBlock.toList w2 w3 → Ch [] w6 w3 := by
                        intro v1 v2 w1 w2 w3 hc1 hat1 hc2 hat2 hc3
                        have hs1 := hc1.size
                        refine ((hc1.alloc _).step hc2 ?_).step hc3 ?_
                        · rcases hat1 with e | e <;> rw [e] <;> simp
                        · rcases hat2 with e | e <;> rw [e]
                          · rcases hat1 with e | e <;> rw [e] <;> simp
                          · simp; omega
                      have hbox : ∀ w1, Ch [] w6 w1 → Blk w1 wo.heap.size 102 #[.string x.f, .string x.t, .bool x.n] := fun w1 hc => hb6.ch hc (by simp)
                      rw [if_neg hc3] at hd2
                      simp only [Option.map_some, add_off] at hd2
                      go_wp2_with (first
                        | (at_builtin; refine wpList_append_sl rfl (.tmp 89) (.tmp 92) _ rfl elE (base := w.heap.size) (v := .slice none 0 0) (css := []) rfl (Own.nil _ _ _ _) rfl h1 (by simp; omega) (by have := hB6.size; omega) ?_; intro v1 w1 ho1 hc1 hat1 hn1; clear hn1; have e1 := hbox w1 (hc1.mono (by simp [Value.ownBlock])); have e10 := e1.cell 0; have e11 := e1.cell 1; have e12 := e1.cell 2)
                        | (at_builtin; refine wpList_append_sl rfl (.tmp 94) (.tmp 96) _ rfl elE (base := w.heap.size) (v := v1) rfl (ho1.ch ((Ch.refl [] w1).alloc _) (by simp)) rfl (Sl.one w1 3 _ [.string x.f, .string x.t, .bool x.n] rfl (by simp [Value.oneCell'])) (by simp; omega) (by have := hc1.size; have := hB6.size; simp; omega) ?_; intro v2 w2 ho2 hc2 hat2 hn2; clear hn2)
                        | (at_builtin; refine wpList_append_sl rfl (.tmp 98) (.tmp 101) _ rfl elE (base := w.heap.size) (v := v2) rfl ho2 rfl (hd2 v1 w1 w2 hc1 hat1 hc2) (by simp; omega) (by have e1 := hc1.size; have e2 := hc2.size; have e3 := hB6.size; simp at e2; omega) ?_; intro v3 w3 ho3 hc3 hat3 hn3; clear hn3))
                      all_goals go_roundw
                      case rel =>
                        refine ⟨m + 1, by omega, by go_num, hB6.trans (fin v1 v2 w1 w2 w3 hc1 hat1 hc2 hat2 hc3), ?_⟩
                        rw [HS3.out]
                        have := ho3.sl
                        refine Sl.weak (p := fun b => w.heap.size ≤ b ∧ v3.ownBlock = some b) ?_ (fun _ _ hp => hp.1)
                        simpa [Ed.enc] using this
                      case measure => simp [intOf]; omega
                · have hc3 : q = B := by omega
                  have HS3 : Hid (edRow l[k].head.name o0 (l[k].body.take (m + 1)) = o1.take q ++ [x] ++ o1.drop q) := by
                    unfold Hid; rw [HS4.out]; have := HI.out; rw [dif_neg (by omega)] at this; subst hc3; exact this
                  subst hc3
                  by_cases hcq : c3 = q
                  · obtain rfl : q = c3 := hcq.symm
                    go_wp2
                    refine wp_region_later (by kernel_rfl) (by kernel_rfl) ?_
                    repeat (go_big_quiet_step (fail))
                    refine wpQuiet_nil ?_
                    intro w5 hw5
                    go_wp2
                    refine wp_region_later (by kernel_rfl) (by kernel_rfl) ?_
                    repeat (go_big_quiet_step (fail))
                    refine wpQuiet_nil ?_
                    intro w6 hw6
                    have hw56 := hw5.trans hw6
                    have ho6 := ho4.ch0 hw56
                    have hb6 := hb4.ch hw56 (by simp)
                    have hB6 := hB4.trans hw56
                    have h1 := SlE.take ho6 (m := q) (by omega)
                    have h2 := SlE.drop ho6 (m := q) (by omega)
                    have hd2 : ∀ (v1 : Value) (w1 w2 : World), Ch [] w6 w1 → (v1.ownBlock = none ∨ v1.ownBlock = some w6.heap.size) → Ch v1.ownBlock.toList (w1.alloc (.cells #[.string x.f, .string x.t, .bool x.n] 102)) w2 → SlE (fun b => w.heap.size ≤ b) w2 (.slice (if q = q then a3 else a3.map (·.add (q * 3))) (o1.length - q) (q - q)) (o1.drop q) := by
                      intro v1 w1 w2 hc1 hat1 hc2
                      refine Sl.ch0 h2 ((hc1.alloc _).step hc2 ?_)
                      rcases hat1 with e | e <;> rw [e] <;> simp
                    have fin : ∀ (v1 v2 : Value) (w1 w2 w3 : World), Ch [] w6 w1 → (v1.ownBlock = none ∨ v1.ownBlock = some w6.heap.size) → Ch v1.ownBlock.toList (w1.alloc (.cells #[.string x.f, .string x.t, .bool x.n] 102)) w2 →
                        (v2.ownBlock = v1.ownBlock ∨ v2.ownBlock = some (w1.alloc (.cells #[.string x.f, .string x.t, .bool x.n] 102)).heap.size) → Ch v2.ownBlock.toList w2 w3 → Ch [] w6 w3 := by
                      intro v1 v2 w1 w2 w3 hc1 hat1 hc2 hat2 hq
                      have hs1 := hc1.size
                      refine ((hc1.alloc _).step hc2 ?_).step hq ?_
                      · rcases hat1 with e | e <;> rw [e] <;> simp
                      · rcases hat2 with e | e <;> rw [e]
                        · rcases hat1 with e | e <;> rw [e] <;> simp
                        · simp; omega
                    have hbox : ∀ w1, Ch [] w6 w1 → Blk w1 wo.heap.size 102 #[.string x.f, .string x.t, .bool x.n] := fun w1 hc => hb6.ch hc (by simp)
                    rw [if_pos rfl] at hd2
                    simp only [Nat.sub_self, show o1.length - q = 0 from by omega] at hd2
                    go_wp2_with (first
                      | (at_builtin; refine wpList_append_sl rfl (.tmp 89) (.tmp 92) _ rfl elE (base := w.heap.size) (v := .slice none 0 0) (css := []) rfl (Own.nil _ _ _ _) rfl h1 (by simp; omega) (by have := hB6.size; omega) ?_; intro v1 w1 ho1 hc1 hat1 hn1; clear hn1; have e1 := hbox w1 (hc1.mono (by simp [Value.ownBlock])); have e10 := e1.cell 0; have e11 := e1.cell 1; have e12 := e1.cell 2)
                      | (at_builtin; refine wpList_append_sl rfl (.tmp 94) (.tmp 96) _ rfl elE (base := w.heap.size) (v := v1) rfl (ho1.ch ((Ch.refl [] w1).alloc _) (by simp)) rfl (Sl.one w1 3 _ [.string x.f, .string x.t, .bool x.n] rfl (by simp [Value.oneCell'])) (by simp; omega) (by have := hc1.size; have := hB6.size; simp; omega) ?_; intro v2 w2 ho2 hc2 hat2 hn2; clear hn2)
                      | (at_builtin; refine wpList_append_sl rfl (.tmp 98) (.tmp 101) _ rfl elE (base := w.heap.size) (v := v2) rfl ho2 rfl (hd2 v1 w1 w2 hc1 hat1 hc2) (by simp; omega) (by have e1 := hc1.size; have e2 := hc2.size; have e3 := hB6.size; simp at e2; omega) ?_; intro v3 w3 ho3 hc3 hat3 hn3; clear hn3))
                    all_goals go_roundw
                    case rel =>
                      refine ⟨m + 1, by omega, by go_num, hB6.trans (fin v1 v2 w1 w2 w3 hc1 hat1 hc2 hat2 hc3), ?_⟩
                      rw [HS3.out]
                      have := ho3.sl
                      refine Sl.weak (p := fun b => w.heap.size ≤ b ∧ v3.ownBlock = some b) ?_ (fun _ _ hp => hp.1)
                      simpa [Ed.enc] using this
                    case measure => simp [intOf]; omega
                  · go_wp2
                    refine wp_region_later (by kernel_rfl) (by kernel_rfl) ?_
                    repeat (go_big_quiet_step (fail))
                    refine wpQuiet_nil ?_
                    intro w5 hw5
                    go_wp2
                    refine wp_region_later (by kernel_rfl) (by kernel_rfl) ?_
                    repeat (go_big_quiet_step (fail))
                    refine wpQuiet_nil ?_
                    intro w6 hw6
                    have hw56 := hw5.trans hw6
                    have ho6 := ho4.ch0 hw56
                    have hb6 := hb4.ch hw56 (by simp)
                    have hB6 := hB4.trans hw56
                    have h1 := SlE.take ho6 (m := q) (by omega)
                    have h2 := SlE.drop ho6 (m := q) (by omega)
                    have hd2 : ∀ (v1 : Value) (w1 w2 : World), Ch [] w6 w1 → (v1.ownBlock = none ∨ v1.ownBlock = some w6.heap.size) → Ch v1.ownBlock.toList (w1.alloc (.cells #[.string x.f, .string x.t, .bool x.n] 102)) w2 → SlE (fun b => w.heap.size ≤ b) w2 (.slice (if c3 = q then a3 else a3.map (·.add (q * 3))) (o1.length - q) (c3 - q)) (o1.drop q) := by
                      intro v1 w1 w2 hc1 hat1 hc2
                      refine Sl.ch0 h2 ((hc1.alloc _).step hc2 ?_)
                      rcases hat1 with e | e <;> rw [e] <;> simp
                    have fin : ∀ (v1 v2 : Value) (w1 w2 w3 : World), Ch [] w6 w1 → (v1.ownBlock = none ∨ v1.ownBlock = some w6.heap.size) → Ch v1.ownBlock.toList (w1.alloc (.cells #[.string x.f, .string x.t, .bool x.n] 102)) w2 →
                        (v2.ownBlock = v1.ownBlock ∨ v2.ownBlock = some (w1.alloc (.cells #[.string x.f, .string x.t, .bool x.n] 102)).heap.size) → Ch v2.ownBlock.toList w2 w3 → Ch [] w6 w3 := by
                      intro v1 v2 w1 w2 w3 hc1 hat1 hc2 hat2 hc3
                      have hs1 := hc1.size
                      refine ((hc1.alloc _).step hc2 ?_).step hc3 ?_
                      · rcases hat1 with e | e <;> rw [e] <;> simp
                      · rcases hat2 with e | e <;> rw [e]
                        · rcases hat1 with e | e <;> rw [e] <;> simp
                        · simp; omega
                    have hbox : ∀ w1, Ch [] w6 w1 → Blk w1 wo.heap.size 102 #[.string x.f, .string x.t, .bool x.n] := fun w1 hc => hb6.ch hc (by simp)
                    rw [if_neg hcq] at hd2
                    go_wp2_with (first
                      | (at_builtin; refine wpList_append_sl rfl (.tmp 89) (.tmp 92) _ rfl elE (base := w.heap.size) (v := .slice none 0 0) (css := []) rfl (Own.nil _ _ _ _) rfl h1 (by simp; omega) (by have := hB6.size; omega) ?_; intro v1 w1 ho1 hc1 hat1 hn1; clear hn1; have e1 := hbox w1 (hc1.mono (by simp [Value.ownBlock])); have e10 := e1.cell 0; have e11 := e1.cell 1; have e12 := e1.cell 2)
                      | (at_builtin; refine wpList_append_sl rfl (.tmp 94) (.tmp 96) _ rfl elE (base := w.heap.size) (v := v1) rfl (ho1.ch ((Ch.refl [] w1).alloc _) (by simp)) rfl (Sl.one w1 3 _ [.string x.f, .string x.t, .bool x.n] rfl (by simp [Value.oneCell'])) (by simp; omega) (by have := hc1.size; have := hB6.size; simp; omega) ?_; intro v2 w2 ho2 hc2 hat2 hn2; clear hn2)
                      | (at_builtin; refine wpList_append_sl rfl (.tmp 98) (.tmp 101) _ rfl elE (base := w.heap.size) (v := v2) rfl ho2 rfl (hd2 v1 w1 w2 hc1 hat1 hc2) (by simp; omega) (by have e1 := hc1.size; have e2 := hc2.size; have e3 := hB6.size; simp at e2; omega) ?_; intro v3 w3 ho3 hc3 hat3 hn3; clear hn3))
                    all_goals go_roundw
                    case rel =>
                      refine ⟨m + 1, by omega, by go_num, hB6.trans (fin v1 v2 w1 w2 w3 hc1 hat1 hc2 hat2 hc3), ?_⟩
                      rw [HS3.out]
                      have := ho3.sl
                      refine Sl.weak (p := fun b => w.heap.size ≤ b ∧ v3.ownBlock = some b) ?_ (fun _ _ hp => hp.1)
                      simpa [Ed.enc] using this
                    case measure => simp [intOf]; omega
          · have : m = l[k].body.length := by omega
            subst this
            rw [List.take_length] at ho2
            go_wp2
            all_goals
              go_roundw
              case rel => exact ⟨k + 1, by omega, by go_num, hB2, by rw [HS'.out]; exact ho2⟩
              case measure => simp [intOf]; omega
    · have : k = l.length := by omega
      subst this
      rw [List.take_length] at ho
      go_wp2
      go_ret
      exact ⟨_, rfl, ho, hB⟩
end Go.Proofs.YtbongbknciibiaaGreatDoor
