
/-
  The contract of model.ranksOf.
  The contracts of model.evaluated, model.Ranks and model.Strata.
  The contracts of model.Model and model.Holds.
-/
import Derived.Test.YtojokdicbopknaaGreatGdRows
import Derived.Test.YtojokdicbopknaaGreatGdCmp
namespace Go.Proofs.YtojokdicbopknaaGreat

section
open Go.RowKit

theorem RowsG.start {w : World} {base G c T : Nat} (st : List Int) (h : Own w base 23 1 (.slice (some ⟨G, 0, none⟩) T c) ((List.replicate T (Value.slice none 0 0)).map fun u => [u])) : RowsG w base (.slice (some ⟨G, 0, none⟩) T c) (List.replicate T (.slice none 0 0)) (rowsT st T []) := by
  rw [rowsT_nil]
  refine ⟨h, by simp, fun i u r h1 h2 => ?_, fun i j u v _ h1 _ g hg => ?_⟩
  · have e1 := List.eq_of_mem_replicate (List.mem_of_getElem? h1)
    have e2 := List.eq_of_mem_replicate (List.mem_of_getElem? h2)
    subst e1 e2
    exact Own.nil _ _ _ _
  · have e1 := List.eq_of_mem_replicate (List.mem_of_getElem? h1)
    subst e1
    cases hg

set_option maxRecDepth 100000 in
set_option maxHeartbeats 8000000 in
theorem ranksOf_ (N : Nat) (rs : List Gr) (st facts : List Int) (p : Nat → Prop) (va vr vs vf : Value) (w : World) (aA : Option Addr) (cA : Nat) (hva : va = .slice aA N cA) (hN : N ≤ 100000) (hR : SlGr p w vr rs) (hS : SlI p w vs st) (hF : SlI p w vf facts)
    (hst : st.length = N) (hs0 : ∀ n ∈ st, 0 ≤ n) (hsN : ∀ n ∈ st, n ≤ (N : Int)) (ho : ∀ x ∈ rs, grOk N x = true) (hfo : numsIn N facts = true) (hrl : rs.length ≤ 1000000) :
    Calls Tryz.prog 58 #[.agg #[va, vr], vs, vf] w fun e w' => ∃ v, e = .returned v ∧ SlI (fun b => w.heap.size ≤ b) w' v (ranksR st rs N facts) ∧ Ch [] w w' := by
  subst hva
  have hR0 : SlGr (fun b => b < w.heap.size) w vr rs := hR.weak (fun b hb _ => hb)
  have hS0 : SlI (fun b => b < w.heap.size) w vs st := hS.weak (fun b hb _ => hb)
  have hF0 : SlI (fun b => b < w.heap.size) w vf facts := hF.weak (fun b hb _ => hb)
  clear hR hS hF
  obtain ⟨ys, hys, hye, hy⟩ := hR0.pairs
  have HSY := Lib.hid hys
  have HYS := Lib.hid hye
  have HY := Lib.hid hy
  clear hys hye hy
  have HST := Lib.hid hst
  have HS0 := Lib.hid hs0
  have HSN := Lib.hid hsN
  have HO := Lib.hid ho
  have HFO := Lib.hid (show ∀ n ∈ facts, numIn N n = true by simpa [numsIn] using hfo)
  clear hst hs0 hsN ho hfo
  obtain ⟨aR, cR, rfl, _, hmR⟩ := hR0.form
  obtain ⟨aS, cS, rfl, _, hmS⟩ := hS0.form
  obtain ⟨aF, cF, rfl, _, hmF⟩ := hF0.form
  unfold maxLen at hmR hmS hmF
  have hb0 := Blk.new w 25 #[.slice aA N cA, .slice aR rs.length cR]
  have hc0 : Ch [] w (w.alloc (.cells #[.slice aA N cA, .slice aR rs.length cR] 25)) := (Ch.refl _ _).alloc _
  obtain ⟨w1, hmk, ho1, hc1, hsz1⟩ := makeInts (w.alloc (.cells #[.slice aA N cA, .slice aR rs.length cR] 25)) N (by omega)
  have hb1 := hb0.ch hc1 (by simp)
  have hq1 := hc0.trans hc1
  have m0 := hb0.cell 0
  have hfl : ∀ k ≤ N, (fillI (List.replicate N (-1)) k).length = N := fun k hk => by rw [fillI_len (by simpa using hk)]; simp
  have HFL := Lib.hid hfl
  have HFS := Lib.hid (show ∀ k, k < N → (fillI (List.replicate N (-1)) k).set k (-1) = fillI (List.replicate N (-1)) (k + 1) from fun k hk => by
    have := fillI_set (st := List.replicate N (-1)) (k := k) (by simpa using hk)
    simpa using this)
  have HF0 := Lib.hid (show fillI (List.replicate N (-1)) 0 = List.replicate N (0 : Int) by rw [fillI_none]; simp)
  have HF1 := Lib.hid (show fillI (List.replicate N (-1)) N = List.replicate N (-1 : Int) by have := fillI_full (List.replicate N (-1)); rwa [List.length_replicate] at this)
  clear hfl
  have hsA : (w.alloc (.cells #[.slice aA N cA, .slice aR rs.length cR] 25)).heap.size = w.heap.size + 1 := by simp
  rw [← HF0.out] at ho1
  go_enter Tryz.func58, Tryz.ntmps58
  go_wp2
  clear m0 hmk
  rw [hsA] at ho1 hsz1
  obtain ⟨B1, hB1⟩ : ∃ B1, B1 = w.heap.size + 1 := ⟨_, rfl⟩
  rw [← hB1] at ho1 hsz1 ⊢
  obtain ⟨B0, hB0⟩ : ∃ B0, B0 = w.heap.size := ⟨_, rfl⟩
  rw [← hB0] at hb1 ⊢
  have HBN : Hid (B0 ≠ B1 ∧ w.heap.size ≤ B0 ∧ w.heap.size ≤ B1) := by unfold Hid; omega
  clear hB1 hB0 hb0 hsA hc0 hc1
  go_loopw [8, 29] (fun _ i wr => ∃ k : Nat, k ≤ N ∧ i = .int .i64 k ∧ Ch [] w wr ∧ Blk wr B0 25 #[.slice aA N cA, .slice aR rs.length cR] ∧ Own wr B1 3 1 (.slice (some ⟨B1, 0, none⟩) N N) ((fillI (List.replicate N (-1)) k).map encI)) (fun _ i _ => N - (intOf i).toNat)
  case atStart => exact ⟨0, Nat.zero_le _, rfl, hq1, hb1, ho1⟩
  case round =>
    obtain ⟨k, hk, rfl, hq, hb, ho⟩ := hrel
    by_cases hlt : k < N
    · have j1 : decide (k < N) = true := decide_eq_true hlt
      obtain ⟨x0, y0, _, hBl⟩ := ho.atI (HFL.out k hk) (i := k) (by have := HFL.out k hk; omega)
      go_wp2
      have ho2 := ho.setI (HFL.out k hk) k (-1)
      rw [HFS.out k hlt] at ho2
      clear x0 y0
      go_roundw
      case rel => exact ⟨k + 1, by omega, by go_num, hq.set (.inr HBN.out.2.2) _, hb.ch ((Ch.refl _ _).set (.inl (List.mem_singleton.2 rfl)) _) (by have := HBN.out.1; simpa using this), ho2⟩
      case measure => simp [intOf]; omega
    · have hkN : k = N := by omega
      subst hkN
      have j1 : decide (k < k) = false := decide_eq_false hlt
      rw [HF1.out] at ho
      go_wp2
      have ho0 : Own wr B1 3 1 (.slice (some ⟨B1, 0, none⟩) k k) ((rk0 k (facts.take 0)).map encI) := ho
      clear ho hlt hk HFL HFS HF0 HF1
      go_loopw [10, 38] (fun _ i wr => ∃ m : Nat, m ≤ facts.length ∧ i = .int .i64 m ∧ Ch [] w wr ∧ Blk wr B0 25 #[.slice aA k cA, .slice aR rs.length cR] ∧ Own wr B1 3 1 (.slice (some ⟨B1, 0, none⟩) k k) ((rk0 k (facts.take m)).map encI)) (fun _ i _ => facts.length - (intOf i).toNat)
      case atStart => exact ⟨0, Nat.zero_le _, rfl, hq, hb, ho0⟩
      case round =>
        clear hq hb ho0
        obtain ⟨m, hm, rfl, hq, hb, ho⟩ := hrel
        by_cases hlt : m < facts.length
        · have j2 : decide (m < facts.length) = true := decide_eq_true hlt
          obtain ⟨bF, oF, rfl, _, d0⟩ := (hF0.ch0 hq).at_ hlt
          have HSN2 := Lib.hid (rk0_snoc k facts m hlt)
          obtain ⟨n, hn, e⟩ := numIn_nat (HFO.out _ (List.getElem_mem hlt))
          rw [e] at d0
          have HE := Lib.hid e
          clear e
          have HL := Lib.hid (rk0_len k (facts.take m))
          obtain ⟨x0, y0, _, _⟩ := ho.atI HL.out (i := n) (by rw [HL.out]; exact hn)
          have i1 : (n : Int) < (k : Int) := by omega
          have i2 : (0 : Int) ≤ (n : Int) := by omega
          go_wp2
          have ho2 := ho.setI HL.out n 0
          have e2 := HSN2.out
          rw [HE.out, Int.toNat_natCast] at e2
          rw [← e2] at ho2
          clear x0 y0 d0 i1 i2 e2 HSN2 HE
          go_roundw
          case rel => exact ⟨m + 1, by omega, by go_num, hq.set (.inr HBN.out.2.2) _, hb.ch ((Ch.refl _ _).set (.inl (List.mem_singleton.2 rfl)) _) (by have := HBN.out.1; simpa using this), ho2⟩
          case measure => simp [intOf]; omega
        · have hml : m = facts.length := by omega
          have j2 : decide (m < facts.length) = false := decide_eq_false hlt
          have HOW := Lib.hid (show Own wr B1 3 1 (.slice (some ⟨B1, 0, none⟩) k k) ((rk0 k facts).map encI) by rwa [hml, List.take_length] at ho)
          clear ho hml hm hlt
          go_wp2
          go_loopw [13, 48, 11] (fun _ i x wq => ∃ j : Nat, j ≤ st.length ∧ i = .int .i64 j ∧ x = .int .i64 (topS (st.take j)) ∧ Ch [] w wq ∧ Blk wq B0 25 #[.slice aA k cA, .slice aR rs.length cR] ∧ Hid (Own wq B1 3 1 (.slice (some ⟨B1, 0, none⟩) k k) ((rk0 k facts).map encI))) (fun _ i _ _ => st.length - (intOf i).toNat)
          case atStart => exact ⟨0, Nat.zero_le _, rfl, rfl, hq, hb, HOW⟩
          case round =>
            clear hq hb HOW
            obtain ⟨j, hj, rfl, rfl, hq, hb, HOW⟩ := hrel
            by_cases hlt : j < st.length
            · have j3 : decide (j < st.length) = true := decide_eq_true hlt
              obtain ⟨bS, oS, rfl, _, d0⟩ := (hS0.ch0 hq).at_ hlt
              have HTS := Lib.hid (topS_snoc st j hlt)
              generalize topS (st.take j) = tj at *
              generalize st[j] = n at *
              go_wp2
              go_roundw
              case rel => exact ⟨j + 1, by omega, by go_num, by rw [HTS.out], hq, hb, HOW⟩
              case measure => simp [intOf]; omega
            · have hjl : j = st.length := by omega
              have j3 : decide (j < st.length) = false := decide_eq_false hlt
              have HTT := Lib.hid (show topS (st.take j) = topS st by rw [hjl, List.take_length])
              obtain ⟨n, hn⟩ : ∃ n : Nat, topS st = (n : Int) := ⟨(topS st).toNat, by have := topS_0 st; omega⟩
              have hnk : n ≤ k := by have := topQ_le (Int.natCast_nonneg k) HSN.out; omega
              have HTN := Lib.hid hn
              rw [HTT.out, hn]
              clear hn HTT hjl hj hlt
              obtain ⟨w4, hmk, ho4, hc4⟩ := makeRowsG wr (n + 1) (by omega)
              have HRG4 := Lib.hid (RowsG.start st ho4)
              have hb4 := hb.ch hc4 (by simp)
              have g1 := hb4.cell 1
              have HOW4 := Lib.hid (HOW.out.ch hc4 (by simp))
              have hq4 := hq.trans hc4
              push_cast at hmk
              have hs4 : w.heap.size ≤ wr.heap.size := hq.size
              have hB1lt : B1 < wr.heap.size := (HOW.out.lt (b := B1) rfl).2
              have hB0lt : B0 < wr.heap.size := hb.lt
              go_wp2
              obtain ⟨B2, hB2⟩ : ∃ B2, B2 = wr.heap.size := ⟨_, rfl⟩
              rw [← hB2] at HRG4 hs4 hB1lt hB0lt ⊢
              clear hB2 ho4 hmk g1 hc4 HOW hb hq
              have HRS := Lib.hid (show RowsG w4 B2 (.slice (some ⟨B2, 0, none⟩) (n + 1) (n + 1)) (List.replicate (n + 1) (.slice none 0 0)) (rowsT st (n + 1) (ys.take 0)) from HRG4.out)
              clear HRG4
              go_loopw [16, 62] (fun _ i wr => ∃ (m : Nat) (us : List Value), m ≤ rs.length ∧ i = .int .i64 m ∧ Ch [] w wr ∧ Blk wr B0 25 #[.slice aA k cA, .slice aR rs.length cR] ∧ Hid (Own wr B1 3 1 (.slice (some ⟨B1, 0, none⟩) k k) ((rk0 k facts).map encI)) ∧ Hid (RowsG wr B2 (.slice (some ⟨B2, 0, none⟩) (n + 1) (n + 1)) us (rowsT st (n + 1) (ys.take m)))) (fun _ i _ => rs.length - (intOf i).toNat)
              case atStart => exact ⟨0, _, Nat.zero_le _, rfl, hq4, hb4, HOW4, HRS⟩
              case round =>
                clear hq4 hb4 HOW4 HRS
                obtain ⟨m, us, hm, rfl, hq, hb, HOW, HRG⟩ := hrel
                by_cases hlt : m < rs.length
                · have j4 : decide (m < rs.length) = true := decide_eq_true hlt
                  have hmy : m < ys.length := by have := congrArg List.length HYS.out; rw [List.length_map] at this; omega
                  obtain ⟨va, vb, e, h2, h3⟩ := HY.out ys[m] (List.getElem_mem hmy)
                  obtain ⟨a1, c1, rfl, _, _⟩ := h2.form
                  obtain ⟨a2, c2, rfl, _, _⟩ := h3.form
                  obtain ⟨bR, oR, eR, _, hcell⟩ := Sl.at_ HSY.out (i := m) (cs := ys[m].1) (by simp [hmy])
                  subst eR
                  have hx : grOk k ys[m].2 = true := HO.out _ (by rw [← HYS.out]; exact List.mem_map.2 ⟨_, List.getElem_mem hmy, rfl⟩)
                  obtain ⟨h, hh, eh⟩ := numIn_nat (grOk_h hx)
                  have hsl : h < st.length := by rw [HST.out]; exact hh
                  obtain ⟨bS, oS, eS, hpS, dS⟩ := hS0.at_ hsl
                  subst eS
                  obtain ⟨s, es⟩ : ∃ s : Nat, st[h] = (s : Int) := ⟨st[h].toNat, by have := HS0.out _ (List.getElem_mem hsl); omega⟩
                  have hsn : s ≤ n := by have := topS_ge st _ (List.getElem_mem hsl); have := HTN.out; omega
                  have HG := Lib.hid (show gI st ys[m].2.h = (s : Int) by rw [eh, gI_at hsl, es])
                  rw [es] at dS
                  have dS := cell_ch (S := []) dS hq (by simp)
                  rw [eh] at e
                  rw [e] at hcell
                  have d0 := cell_ch (S := []) (show w.cell? ⟨bR, oR + m * 3, none⟩ = some (.int .i64 (h : Int)) by simpa using hcell 0 _ rfl) hq (by simp)
                  have d1 := cell_ch (S := []) (show w.cell? ⟨bR, oR + m * 3 + 1, none⟩ = some (.slice a1 ys[m].2.ps.length c1) by simpa [Nat.add_assoc] using hcell 1 _ rfl) hq (by simp)
                  have d2 := cell_ch (S := []) (show w.cell? ⟨bR, oR + m * 3 + 2, none⟩ = some (.slice a2 ys[m].2.ns.length c2) by simpa [Nat.add_assoc] using hcell 2 _ rfl) hq (by simp)
                  have HE := Lib.hid e
                  clear e hcell h2 h3 es eh hx
                  generalize ys[m].2.ps.length = n1 at *
                  generalize ys[m].2.ns.length = n2 at *
                  have hlu : us.length = n + 1 := by rw [HRG.out.len, rowsT_len]
                  obtain ⟨u, hu⟩ : ∃ u, us[s]? = some u := ⟨_, List.getElem?_eq_getElem (by omega)⟩
                  have hrow := HRG.out.row s u _ hu (rowsT_at (by omega))
                  have hout := HRG.out.out
                  have hu0 := hout.cells_ (i := s) (j := 0) (cs := [u]) (u := u) (by rw [List.getElem?_map, hu]; rfl) rfl
                  rw [Nat.mul_one, Nat.add_zero] at hu0
                  have hB2lt : B2 < wr.heap.size := (hout.lt (b := B2) rfl).2
                  have HUS := Lib.hid hu
                  clear hu hlu
                  have hbn := Blk.new wr 44 #[.int .i64 (h : Int), .slice a1 n1 c1, .slice a2 n2 c2]
                  have hcA : Ch [] wr (wr.alloc (.cells #[.int .i64 (h : Int), .slice a1 n1 c1, .slice a2 n2 c2] 44)) := (Ch.refl _ _).alloc _
                  go_wp2
                  have hB16lt := hbn.lt
                  have hszA := hcA.size
                  generalize hwA : (wr.alloc (.cells #[.int .i64 (h : Int), .slice a1 n1 c1, .slice a2 n2 c2] 44)) = wA at *
                  obtain ⟨B16, hB16⟩ : ∃ B, B = wr.heap.size := ⟨_, rfl⟩
                  rw [← hB16] at hbn hB16lt hszA hB2lt ⊢
                  have m0 := hbn.cell 0
                  have m1 := hbn.cell 1
                  have m2 := hbn.cell 2
                  have m3 := cell_ch (S := []) dS hcA (by simp)
                  have m4 := cell_ch (S := []) hu0 hcA (by simp)
                  have hcZ : Ch [] wA (wA.alloc (.cells #[.int .i64 (h : Int), .slice a1 n1 c1, .slice a2 n2 c2] 44)).drew := ((Ch.refl _ _).alloc _).drew
                  have HBK := Lib.hid (hbn.ch hcZ (by simp))
                  have z0 := (hbn.ch ((Ch.refl [] wA).alloc (.cells #[.int .i64 (h : Int), .slice a1 n1 c1, .slice a2 n2 c2] 44)) (by simp)).cell 0
                  have z1 := (hbn.ch ((Ch.refl [] wA).alloc (.cells #[.int .i64 (h : Int), .slice a1 n1 c1, .slice a2 n2 c2] 44)) (by simp)).cell 1
                  have z2 := (hbn.ch ((Ch.refl [] wA).alloc (.cells #[.int .i64 (h : Int), .slice a1 n1 c1, .slice a2 n2 c2] 44)) (by simp)).cell 2
                  have z3 := cell_ch (S := []) dS (hcA.alloc (.cells #[.int .i64 (h : Int), .slice a1 n1 c1, .slice a2 n2 c2] 44)) (by simp)
                  have z4 := cell_ch (S := []) hu0 (hcA.alloc (.cells #[.int .i64 (h : Int), .slice a1 n1 c1, .slice a2 n2 c2] 44)) (by simp)
                  have HUO := Lib.hid ((hrow.ch0' hcA).ch0' hcZ)
                  have HONE := Lib.hid (Sl.one wA 3 44 [.int .i64 (h : Int), .slice a1 n1 c1, .slice a2 n2 c2] rfl (by simp [Value.oneCell']))
                  have HBZ : Hid (B2 ≤ (wA.alloc (.cells #[.int .i64 (h : Int), .slice a1 n1 c1, .slice a2 n2 c2] 44)).drew.heap.size) := by have h1 := hcZ.size; unfold Hid; omega
                  have HLE : Hid ((rowY st (ys.take m) (s : Int)).length ≤ 1000000) := by
                    have h1 : (rowY st (ys.take m) (s : Int)).length ≤ (ys.take m).length := List.length_filter_le _ _
                    have h2 : (ys.take m).length ≤ m := List.length_take_le _ _
                    unfold Hid; omega
                  have HNO : Hid (∀ b, (b < B2 ∨ b = B2 ∨ b = B16) → b ∉ u.ownBlock.toList) := fun b hb hm => by
                    cases hv : u.ownBlock with
                    | none => rw [hv] at hm; cases hm
                    | some g =>
                      rw [hv] at hm; simp at hm; subst hm
                      have h1 := hrow.lt hv
                      rcases hb with h2 | h2 | h2
                      · omega
                      · subst h2; exact hrow.differ2 hout (by decide) hv rfl
                      · omega
                  have HUB : Hid (∀ b, b ∈ u.ownBlock.toList → B2 ≤ b) := fun b hm => by
                    cases hv : u.ownBlock with
                    | none => rw [hv] at hm; cases hm
                    | some g => rw [hv] at hm; simp at hm; subst hm; exact (hrow.lt hv).1
                  have HBS : Hid (bS < B2) := by have := hpS.2; unfold Hid; omega
                  have HSZ := Lib.hid (show (wA.alloc (.cells #[.int .i64 (h : Int), .slice a1 n1 c1, .slice a2 n2 c2] 44)).drew.cell? ⟨bS, oS + h, none⟩ = some (.int .i64 (s : Int)) from z3)
                  have HTZ := Lib.hid (show (wA.alloc (.cells #[.int .i64 (h : Int), .slice a1 n1 c1, .slice a2 n2 c2] 44)).drew.cell? ⟨B2, s, none⟩ = some u from z4)
                  have HFZ : Hid (∀ w6, Ch u.ownBlock.toList (wA.alloc (.cells #[.int .i64 (h : Int), .slice a1 n1 c1, .slice a2 n2 c2] 44)).drew w6 → w6.frozen? ⟨B2, s, none⟩ = false) := fun w6 hc6 =>
                    (((hout.ch0' hcA).ch0' hcZ).ch hc6 (fun b hb hm => HNO.out b (.inr (.inl (by injection hb with hb; exact hb.symm))) hm)).frozen_ s
                  have n0 : ¬ B2 = B16 := by omega
                  have n1' : ¬ B2 = bS := by have := HBS.out; omega
                  have i1 : (h : Int) < (st.length : Int) := by omega
                  have i2 : (0 : Int) ≤ (h : Int) := by omega
                  have i3 : (s : Int) < ((n + 1 : Nat) : Int) := by omega
                  have i4 : (0 : Int) ≤ (s : Int) := by omega
                  have i5 : (s : Int) < (n : Int) + 1 := by omega
                  have HCA := Lib.hid hcA
                  have HCZ := Lib.hid hcZ
                  clear d0 d1 d2 dS hu0 hcA hcZ hrow hout hB16
                  refine wp_region_held_drew (S := (fun w' => w'.cell? ⟨B16, 0, none⟩ = some (.int .i64 (h : Int)) ∧ w'.cell? ⟨B16, 1, none⟩ = some (.slice a1 n1 c1) ∧ w'.cell? ⟨B16, 2, none⟩ = some (.slice a2 n2 c2) ∧ w'.cell? ⟨bS, oS + h, none⟩ = some (.int .i64 (s : Int)))) (by kernel_rfl) ?_ (fun hHeld => ?_)
                  focus ((try dsimp only); go_keep)
                  refine wpAnyH_take (i := 0) (oi := ⟨some 66, _, _, _, _, _⟩) (v := ?_) rfl (by kernel_rfl) (by kernel_rfl) (by kernel_rfl) (fun _ _ _ h => h) (Or.inl ⟨by rfl, ?_⟩) (by assumption) ?_
                  rotate_left
                  focus (intro wq hSw; (try dsimp only at hSw); go_simp; (try with_reducible rfl); done)
                  (try simp only [Act.put, List.setIfInBounds_toArray, List.set_cons_zero, List.set_cons_succ])
                  refine wpAnyH_take (i := 1) (oi := ⟨some 67, _, _, _, _, _⟩) (v := ?_) rfl (by kernel_rfl) (by kernel_rfl) (by kernel_rfl) (fun _ _ _ h => h) (Or.inl ⟨by rfl, ?_⟩) (by assumption) ?_
                  rotate_left
                  focus (intro wq hSw; (try dsimp only at hSw); go_simp; (try with_reducible rfl); done)
                  (try simp only [Act.put, List.setIfInBounds_toArray, List.set_cons_zero, List.set_cons_succ])
                  refine wpAnyH_take (i := 2) (oi := ⟨some 68, _, _, _, _, _⟩) (v := ?_) rfl (by kernel_rfl) (by kernel_rfl) (by kernel_rfl) (fun _ _ _ h => h) (Or.inl ⟨by rfl, ?_⟩) (by assumption) ?_
                  rotate_left
                  focus (intro wq hSw; (try dsimp only at hSw); go_simp; (try with_reducible rfl); done)
                  (try simp only [Act.put, List.setIfInBounds_toArray, List.set_cons_zero, List.set_cons_succ])
                  refine wpAnyH_take (i := 3) (oi := ⟨some 69, _, _, _, _, _⟩) (v := ?_) rfl (by kernel_rfl) (by kernel_rfl) (by kernel_rfl) (fun _ _ _ h => h) (Or.inl ⟨by rfl, ?_⟩) (by assumption) ?_
                  rotate_left
                  focus (intro wq hSw; (try dsimp only at hSw); go_simp; (try with_reducible rfl); done)
                  (try simp only [Act.put, List.setIfInBounds_toArray, List.set_cons_zero, List.set_cons_succ])
                  refine wpAnyH_take (i := 4) (oi := ⟨some 70, _, _, _, _, _⟩) (v := ?_) rfl (by kernel_rfl) (by kernel_rfl) (by kernel_rfl) (fun _ _ _ h => h) (Or.inl ⟨by rfl, ?_⟩) (by assumption) ?_
                  rotate_left
                  focus (intro wq hSw; (try dsimp only at hSw); go_simp; (try with_reducible rfl); done)
                  (try simp only [Act.put, List.setIfInBounds_toArray, List.set_cons_zero, List.set_cons_succ])
                  refine wpAnyH_take (i := 5) (oi := ⟨some 71, _, _, _, _, _⟩) (v := ?_) rfl (by kernel_rfl) (by kernel_rfl) (by kernel_rfl) (fun _ _ _ h => h) (Or.inl ⟨by rfl, ?_⟩) (by assumption) ?_
                  rotate_left
                  focus (intro wq hSw; (try dsimp only at hSw); go_simp; (try with_reducible rfl); done)
                  (try simp only [Act.put, List.setIfInBounds_toArray, List.set_cons_zero, List.set_cons_succ])
                  refine wpAnyH_take (i := 6) (oi := ⟨some 72, _, _, _, _, _⟩) (v := ?_) rfl (by kernel_rfl) (by kernel_rfl) (by kernel_rfl) (fun _ _ _ h => h) (Or.inl ⟨by rfl, ?_⟩) (by assumption) ?_
                  rotate_left
                  focus (intro wq hSw; (try dsimp only at hSw); go_simp; (try with_reducible rfl); done)
                  (try simp only [Act.put, List.setIfInBounds_toArray, List.set_cons_zero, List.set_cons_succ])
                  refine wpAnyH_take (i := 7) (oi := ⟨some 73, _, _, _, _, _⟩) (v := ?_) rfl (by kernel_rfl) (by kernel_rfl) (by kernel_rfl) (fun _ _ _ h => h) (Or.inl ⟨by rfl, ?_⟩) (by assumption) ?_
                  rotate_left
                  focus (intro wq hSw; (try dsimp only at hSw); go_simp; (try with_reducible rfl); done)
                  (try simp only [Act.put, List.setIfInBounds_toArray, List.set_cons_zero, List.set_cons_succ])
                  refine wpAnyH_take (i := 8) (oi := ⟨some 74, _, _, _, _, _⟩) (v := ?_) rfl (by kernel_rfl) (by kernel_rfl) (by kernel_rfl) (fun _ _ _ h => h) (Or.inl ⟨by rfl, ?_⟩) (by assumption) ?_
                  rotate_left
                  focus (intro wq hSw; (try dsimp only at hSw); go_simp; (try with_reducible rfl); done)
                  (try simp only [Act.put, List.setIfInBounds_toArray, List.set_cons_zero, List.set_cons_succ])
                  refine wpAnyH_take (i := 9) (oi := ⟨some 75, _, _, _, _, _⟩) (v := ?_) rfl (by kernel_rfl) (by kernel_rfl) (by kernel_rfl) (fun _ _ _ h => h) (Or.inl ⟨by rfl, ?_⟩) (by assumption) ?_
                  rotate_left
                  focus (intro wq hSw; (try dsimp only at hSw); go_simp; (try with_reducible rfl); done)
                  (try simp only [Act.put, List.setIfInBounds_toArray, List.set_cons_zero, List.set_cons_succ])
                  refine wpAnyH_take (i := 10) (oi := ⟨some 76, _, _, _, _, _⟩) (v := ?_) rfl (by kernel_rfl) (by kernel_rfl) (by kernel_rfl) (fun _ _ _ h => h) (Or.inl ⟨by rfl, ?_⟩) (by assumption) ?_
                  rotate_left
                  focus (intro wq hSw; (try dsimp only at hSw); go_simp; (try with_reducible rfl); done)
                  (try simp only [Act.put, List.setIfInBounds_toArray, List.set_cons_zero, List.set_cons_succ])
                  refine wpAnyH_take (i := 11) (oi := ⟨some 77, _, _, _, _, _⟩) (v := ?_) rfl (by kernel_rfl) (by kernel_rfl) (by kernel_rfl) (fun _ _ _ h => h) (Or.inl ⟨by rfl, ?_⟩) (by assumption) ?_
                  rotate_left
                  focus (intro wq hSw; (try dsimp only at hSw); go_simp; (try with_reducible rfl); done)
                  (try simp only [Act.put, List.setIfInBounds_toArray, List.set_cons_zero, List.set_cons_succ])
                  refine wpAnyH_take (i := 12) (oi := ⟨some 78, _, _, _, _, _⟩) (v := ?_) rfl (by kernel_rfl) (by kernel_rfl) (by kernel_rfl) (fun _ _ _ h => h) (Or.inl ⟨by rfl, ?_⟩) (by assumption) ?_
                  rotate_left
                  focus (intro wq hSw; (try dsimp only at hSw); go_simp; (try with_reducible rfl); done)
                  (try simp only [Act.put, List.setIfInBounds_toArray, List.set_cons_zero, List.set_cons_succ])
                  refine wpAnyH_take (i := 14) (oi := ⟨some 80, _, _, _, _, _⟩) (v := ?_) rfl (by kernel_rfl) (by kernel_rfl) (by kernel_rfl) (fun _ _ _ h => h) (Or.inl ⟨by rfl, ?_⟩) (by assumption) ?_
                  rotate_left
                  focus (intro wq hSw; (try dsimp only at hSw); go_simp; (try with_reducible rfl); done)
                  (try simp only [Act.put, List.setIfInBounds_toArray, List.set_cons_zero, List.set_cons_succ])
                  refine wpAnyH_ready (rs := [13, 15]) (by kernel_rfl) (by simp) ?_
                  refine AllReadyH.cons (o := ⟨some 79, _, _, _, _, _⟩) rfl (fun K hK => ?_) ?_
                  go_simp
                  refine hK.out _ _ ?_ (fun hHeld => ?_)
                  focus ((try dsimp only); go_keep)
                  clear hK K
                  (try simp only [Act.put, List.setIfInBounds_toArray, List.set_cons_zero, List.set_cons_succ])
                  refine wpAnyH_ready (rs := [15]) (by kernel_rfl) (by simp) ?_
                  refine AllReadyH.cons (o := ⟨some 81, _, _, _, _, _⟩) rfl (fun K hK => ?_) ?_
                  go_simp
                  refine hK.out _ _ ?_ (fun hHeld => ?_)
                  focus ((try dsimp only); go_keep)
                  clear hK K
                  (try simp only [Act.put, List.setIfInBounds_toArray, List.set_cons_zero, List.set_cons_succ])
                  refine wpAnyH_ready (rs := [16]) (by kernel_rfl) (by simp) ?_
                  refine AllReadyH.cons (o := ⟨some 82, _, _, _, _, _⟩) rfl (fun K hK => ?_) ?_
                  (refine step_append_sl rfl _ _ _ rfl elGr (base := B2) (v := u) rfl (HUO.out) rfl HONE.out (show (((rowY st (ys.take m) (s : Int)).map (·.1)).length + 1) * 56 ≤ 140737488355328 by have := HLE.out; rw [List.length_map]; omega) HBZ.out ?_; intro v6 w6 ho6 hc6 hat6 hn6; clear hn6; obtain ⟨a7, c7, rfl⟩ := ho6.form'; have hb6 := HBK.out.ch hc6 (HNO.out _ (.inr (.inr rfl))); have t0 := hb6.cell 0; have t1 := hb6.cell 1; have t2 := hb6.cell 2; have t3 := cell_ch HSZ.out hc6 (HNO.out _ (.inl HBS.out)); have x6 := cell_ch HTZ.out hc6 (HNO.out _ (.inr (.inl rfl))); have y6 := HFZ.out _ hc6)
                  refine hK.out _ _ ?_ (fun hHeld => ?_)
                  focus ((try dsimp only); go_keep)
                  clear hK K
                  (try simp only [Act.put, List.setIfInBounds_toArray, List.set_cons_zero, List.set_cons_succ])
                  refine wpAnyH_take (i := 17) (oi := ⟨some 83, _, _, _, _, _⟩) (v := ?_) rfl (by kernel_rfl) (by kernel_rfl) (by kernel_rfl) (fun _ _ _ h => h) (Or.inl ⟨by rfl, ?_⟩) (by assumption) ?_
                  rotate_left
                  focus (intro wq hSw; (try dsimp only at hSw); go_simp; (try with_reducible rfl); done)
                  (try simp only [Act.put, List.setIfInBounds_toArray, List.set_cons_zero, List.set_cons_succ])
                  refine wpAnyH_ready (rs := [18]) (by kernel_rfl) (by simp) ?_
                  refine AllReadyH.cons (o := ⟨none, _, _, _, _, _⟩) rfl (fun K hK => ?_) ?_
                  go_simp
                  refine hK.out _ _ ?_ (fun hHeld => ?_)
                  focus ((try dsimp only); go_keep)
                  clear hK K
                  (try simp only [Act.put, List.setIfInBounds_toArray, List.set_cons_zero, List.set_cons_succ])
                  refine wpAnyH_done (by kernel_rfl) ?_ _
                  rotate_left
                  exact AllReadyH.nil
                  exact AllReadyH.nil
                  exact AllReadyH.nil
                  refine AllReadyH.cons (o := ⟨some 81, _, _, _, _, _⟩) rfl (fun K hK => ?_) ?_
                  go_simp
                  refine hK.out _ _ ?_ (fun hHeld => ?_)
                  focus ((try dsimp only); go_keep)
                  clear hK K
                  (try simp only [Act.put, List.setIfInBounds_toArray, List.set_cons_zero, List.set_cons_succ])
                  refine wpAnyH_ready (rs := [13]) (by kernel_rfl) (by simp) ?_
                  refine AllReadyH.cons (o := ⟨some 79, _, _, _, _, _⟩) rfl (fun K hK => ?_) ?_
                  go_simp
                  refine hK.out _ _ ?_ (fun hHeld => ?_)
                  focus ((try dsimp only); go_keep)
                  clear hK K
                  (try simp only [Act.put, List.setIfInBounds_toArray, List.set_cons_zero, List.set_cons_succ])
                  refine wpAnyH_ready (rs := [16]) (by kernel_rfl) (by simp) ?_
                  refine AllReadyH.cons (o := ⟨some 82, _, _, _, _, _⟩) rfl (fun K hK => ?_) ?_
                  (refine step_append_sl rfl _ _ _ rfl elGr (base := B2) (v := u) rfl (HUO.out) rfl HONE.out (show (((rowY st (ys.take m) (s : Int)).map (·.1)).length + 1) * 56 ≤ 140737488355328 by have := HLE.out; rw [List.length_map]; omega) HBZ.out ?_; intro v6 w6 ho6 hc6 hat6 hn6; clear hn6; obtain ⟨a7, c7, rfl⟩ := ho6.form'; have hb6 := HBK.out.ch hc6 (HNO.out _ (.inr (.inr rfl))); have t0 := hb6.cell 0; have t1 := hb6.cell 1; have t2 := hb6.cell 2; have t3 := cell_ch HSZ.out hc6 (HNO.out _ (.inl HBS.out)); have x6 := cell_ch HTZ.out hc6 (HNO.out _ (.inr (.inl rfl))); have y6 := HFZ.out _ hc6)
                  refine hK.out _ _ ?_ (fun hHeld => ?_)
                  focus ((try dsimp only); go_keep)
                  clear hK K
                  (try simp only [Act.put, List.setIfInBounds_toArray, List.set_cons_zero, List.set_cons_succ])
                  refine wpAnyH_take (i := 17) (oi := ⟨some 83, _, _, _, _, _⟩) (v := ?_) rfl (by kernel_rfl) (by kernel_rfl) (by kernel_rfl) (fun _ _ _ h => h) (Or.inl ⟨by rfl, ?_⟩) (by assumption) ?_
                  rotate_left
                  focus (intro wq hSw; (try dsimp only at hSw); go_simp; (try with_reducible rfl); done)
                  (try simp only [Act.put, List.setIfInBounds_toArray, List.set_cons_zero, List.set_cons_succ])
                  refine wpAnyH_ready (rs := [18]) (by kernel_rfl) (by simp) ?_
                  refine AllReadyH.cons (o := ⟨none, _, _, _, _, _⟩) rfl (fun K hK => ?_) ?_
                  go_simp
                  refine hK.out _ _ ?_ (fun hHeld => ?_)
                  focus ((try dsimp only); go_keep)
                  clear hK K
                  (try simp only [Act.put, List.setIfInBounds_toArray, List.set_cons_zero, List.set_cons_succ])
                  refine wpAnyH_done (by kernel_rfl) ?_ _
                  rotate_left
                  exact AllReadyH.nil
                  exact AllReadyH.nil
                  exact AllReadyH.nil
                  exact AllReadyH.nil
                  all_goals
                    clear t0 t1 t2 t3 x6 y6 z0 z1 z2 z3 z4 m0 m1 m2 m3 m4
                    have hRG := HRG.out.step HUS.out (rowsT_at (by omega)) (HCA.out.trans HCZ.out) hc6 ho6 hat6
                    have hsn := rowsT_snoc st (n + 1) ys m hmy s HG.out
                    rw [HE.out] at hsn
                    rw [← hsn] at hRG
                    simp only [List.length_append, List.length_map, List.length_cons, List.length_nil, Nat.zero_add] at hRG
                    have HRN := Lib.hid hRG
                    have hcS := fun v : Value => (Ch.refl [B2] w6).set (p := ⟨B2, s, none⟩) (.inl (List.mem_singleton.2 rfl)) v
                    have hqN : ∀ v, Ch [] w (w6.setCell ⟨B2, s, none⟩ v) := fun v => ((hq.trans (HCA.out.trans HCZ.out)).step hc6 (fun b hb => .inr (by have := HUB.out b hb; omega))).step (hcS v) (fun b hb => .inr (by simp at hb; omega))
                    have hbN := fun v => (((hb.ch HCA.out (by simp)).ch HCZ.out (by simp)).ch hc6 (HNO.out _ (.inl hB0lt))).ch (hcS v) (by simp; omega)
                    have HWN := fun v => Lib.hid ((((HOW.out.ch0' HCA.out).ch0' HCZ.out).ch hc6 (fun b hb hm => HNO.out b (.inl (by injection hb with hb; subst hb; exact hB1lt)) hm)).ch (hcS v) (fun b hb hm => by injection hb with hb; subst hb; exact absurd (List.mem_singleton.1 hm) (Nat.ne_of_lt hB1lt)))
                    clear hsn hRG HRG HUO HONE ho6 hc6 hat6 hcS
                    go_wp2
                    go_roundw
                    case rel => exact ⟨m + 1, _, by omega, by go_num, hqN _, hbN _, HWN _, HRN⟩
                    case measure => simp [intOf]; omega
                · have hml : m = rs.length := by omega
                  have j4 : decide (m < rs.length) = false := decide_eq_false hlt
                  have hyl : ys.length = rs.length := by have := congrArg List.length HYS.out; rwa [List.length_map] at this
                  have hqs := hq.size
                  have HTB : Hid (TblR wr B2 B1 st rs (n + 1)) := by
                    have h1 := HRG.out
                    rw [hml, List.take_of_length_le (by omega)] at h1
                    have h2 := h1.tbl (q := fun b => b < w.heap.size) (fun y hy => GrR.imp hq.size (fun b hb h => ⟨h, hq.block b hb (by simp)⟩) (HY.out y hy)) (B1 := B1) hB1lt (fun b _ hb => by have := HBN.out.2.2; omega)
                    rwa [HYS.out] at h2
                  have hB12 : B2 ≠ B1 := by omega
                  clear HRG hml hlt hm hyl hb HSY HYS HY
                  go_wp2
                  have HOL := Lib.hid (show Own wr B1 3 1 (.slice (some ⟨B1, 0, none⟩) k k) ((levR st rs (k + 1) (rk0 k facts) 0).map encI) from HOW.out)
                  clear HOW
                  go_loopw [17, 18, 19, 20, 22, 87] (fun _ _ _ _ _ i wr => ∃ L : Nat, L ≤ n + 1 ∧ i = .int .i64 L ∧ Ch [] w wr ∧ Hid (Own wr B1 3 1 (.slice (some ⟨B1, 0, none⟩) k k) ((levR st rs (k + 1) (rk0 k facts) L).map encI)) ∧ Hid (TblR wr B2 B1 st rs (n + 1))) (fun _ _ _ _ _ i _ => n + 1 - (intOf i).toNat)
                  case atStart => exact ⟨0, Nat.zero_le _, rfl, hq, HOL, HTB⟩
                  case round =>
                    clear hq HOL HTB hqs
                    obtain ⟨L, hL, rfl, hq, HOW, HTB⟩ := hrel
                    by_cases hlt : L < n + 1
                    · have j5 : decide (L < n + 1) = true := decide_eq_true hlt
                      have j6 : decide ((L : Int) < (n : Int) + 1) = true := decide_eq_true (by omega)
                      obtain ⟨R, hRe⟩ : ∃ R, R = rs.filter fun x => decide (gI st x.h = (L : Int)) := ⟨_, rfl⟩
                      have HRE := Lib.hid hRe
                      have HLN := Lib.hid (levR_next st rs k (rk0 k facts) L)
                      have HLL : Hid ((levR st rs (k + 1) (rk0 k facts) L).length = k) := by unfold Hid; rw [levR_len, rk0_len]
                      have HR1 := Lib.hid (RndAt.start st (L : Int) R (levR st rs (k + 1) (rk0 k facts) L) k HLL.out)
                      rw [hRe, ← HLN.out, ← hRe] at HR1
                      clear hRe
                      have HLT := Lib.hid hlt
                      go_wp2
                      go_loopw [18, 19, 20, 22] (fun rd ch _ _ wr => ∃ (r : Int) (b : Bool) (cur : List Int), rd = .int .i64 r ∧ ch = .bool b ∧ Ch [] w wr ∧ Hid (cur.length = k) ∧ Hid (RndAt st (L : Int) R (levR st rs (k + 1) (rk0 k facts) (L + 1)) cur k r b) ∧ Hid (Own wr B1 3 1 (.slice (some ⟨B1, 0, none⟩) k k) (cur.map encI)) ∧ Hid (TblR wr B2 B1 st rs (n + 1))) (fun rd _ _ _ _ => k + 3 - (intOf rd).toNat)
                      case atStart => exact ⟨1, true, _, rfl, rfl, hq, HLL, HR1, HOW, HTB⟩
                      case round =>
                        clear hq HLL HR1 HOW HTB
                        obtain ⟨r, b, cur, rfl, rfl, hq, HLC, HRN, HOW, HTB⟩ := hrel
                        cases b with
                        | false =>
                          have HRX := Lib.hid (HRN.out.done)
                          go_wp2
                          go_roundw
                          case rel => exact ⟨L + 1, by omega, by go_num, hq, by have := HOW.out; rw [HRX.out] at this; exact this, HTB⟩
                          case measure => simp [intOf]; omega
                        | true =>
                          obtain ⟨hr1, hr2⟩ := HRN.out.bound
                          have hB1w : B1 < wr.heap.size := (HOW.out.lt (b := B1) rfl).2
                          obtain ⟨aL, cL, hcell, hsl⟩ := HTB.out L HLT.out
                          rw [← HRE.out] at hcell hsl
                          obtain ⟨_, _, eL, _, hmL⟩ := hsl.form
                          injection eL with eL1 _ eL2
                          subst eL1 eL2
                          unfold maxLen at hmL
                          have hcall := fires_ aS (some ⟨B1, 0, none⟩) st.length cS k k (L : Int) r wr
                          have i3 : (L : Int) < ((n + 1 : Nat) : Int) := by have := HLT.out; omega
                          have i4 : (0 : Int) ≤ (L : Int) := by omega
                          have i5 : (L : Int) < (n : Int) + 1 := by have := HLT.out; omega
                          have HSL := Lib.hid hsl
                          clear hsl
                          go_wp2_with (go_at_call 59; ((with_reducible refine hcall.mono ?_); rintro e w5 ⟨B4, B5, B6, B7, B9, rfl, hge, hFr, hc5⟩; clear hcall; have g5 := cell_ch (S := []) hcell hc5 (by simp)))
                          have HFR : Hid (∀ wz, Ch [B1] w5 wz → FrAt wz B4 B5 B6 B7 B9 (.slice aS st.length cS) (.slice (some ⟨B1, 0, none⟩) k k) (L : Int) r) := fun wz hz => hFr.ch hz (by simp; omega) (by simp; omega) (by simp; omega) (by simp; omega) (by simp; omega)
                          have HSL5 := Lib.hid (HSL.out.ch0 hc5)
                          have HTB5 := Lib.hid (HTB.out.ch (hc5.of_nil) hB12)
                          have HOW5 := Lib.hid (HOW.out.ch0' hc5)
                          have hq5 := hq.trans hc5
                          clear hFr hge hc5 hcell g5 HSL HTB HOW i3 i4 i5 hq
                          go_loopw [19, 22, 103] (fun ch _ i wq => ∃ (m : Nat) (b : Bool) (cur2 : List Int), m ≤ R.length ∧ i = .int .i64 m ∧ ch = .bool b ∧ Ch [] w wq ∧ Ch [B1] w5 wq ∧ Hid (PassAt st (L : Int) r R cur cur2 m b) ∧ Hid (Own wq B1 3 1 (.slice (some ⟨B1, 0, none⟩) k k) (cur2.map encI))) (fun _ _ i _ => R.length - (intOf i).toNat)
                          case atStart => exact ⟨0, false, cur, Nat.zero_le _, rfl, rfl, hq5, Ch.refl _ _, PassAt.zero _ _ _ _ _, HOW5⟩
                          case round =>
                            clear hq5 HOW5
                            obtain ⟨m, b, cur2, hm, rfl, rfl, hq, hc, HP, HOW⟩ := hrel
                            have HL2 := Lib.hid (HP.out.len.trans HLC.out)
                            by_cases hlm : m < R.length
                            · have j7 : decide (m < R.length) = true := decide_eq_true hlm
                              have hB1q : B1 < wr.heap.size := (HOW.out.lt (b := B1) rfl).2
                              obtain ⟨bk, o, a1, c1, a2, c2, eK, hp, d0, d1, d2, h2, h3⟩ := (HSL5.out.ch hc (fun b _ hb => by simpa using hb)).at_ hlm
                              subst eK
                              have hxm : R[m] ∈ rs.filter fun x => decide (gI st x.h = (L : Int)) := by rw [← HRE.out]; exact List.getElem_mem hlm
                              have hgo : grOk k R[m] = true := HO.out _ (List.mem_filter.1 hxm).1
                              have HGL := Lib.hid (show gI st R[m].h = (L : Int) from of_decide_eq_true (List.mem_filter.1 hxm).2)
                              clear hxm
                              obtain ⟨h, hh, eh⟩ := numIn_nat (grOk_h hgo)
                              have HK : Hid (stepR st (L : Int) r cur2 R[m] = cur2 → PassAt st (L : Int) r R cur cur2 (m + 1) b) := fun hs => HP.out.keep hlm hs
                              have HW : Hid (∀ hj : h < cur2.length, cur2[h] < 0 → stepR st (L : Int) r cur2 R[m] = cur2.set h r → PassAt st (L : Int) r R cur (cur2.set h r) (m + 1) true) := fun hj h0 hs => HP.out.set hlm (by omega) hj h0 hs
                              have HX := Lib.hid eh
                              rw [eh] at d0
                              have HGO := Lib.hid hgo
                              generalize R[m] = x at *
                              clear eh hgo
                              have hj : h < cur2.length := by rw [HL2.out]; exact hh
                              have HJ := Lib.hid hj
                              have hbn := Blk.new wr 44 #[.int .i64 (h : Int), .slice a1 x.ps.length c1, .slice a2 x.ns.length c2]
                              have hcA : Ch [] wr (wr.alloc (.cells #[.int .i64 (h : Int), .slice a1 x.ps.length c1, .slice a2 x.ns.length c2] 44)) := (Ch.refl _ _).alloc _
                              have m0 := hbn.cell 0
                              have m1 := hbn.cell 1
                              have m2 := hbn.cell 2
                              have hoA := HOW.out.ch0' hcA
                              obtain ⟨x0, y0, _, _⟩ := hoA.atI HL2.out hj
                              have i6 : (h : Int) < (k : Int) := by omega
                              have i7 : (0 : Int) ≤ (h : Int) := by omega
                              have hcall := fires2_ x k st cur2 HST.out HL2.out HGO.out (L : Int) r _ _ _ (.slice a1 x.ps.length c1) (.slice a2 x.ns.length c2) (.slice aS st.length cS) (.slice (some ⟨B1, 0, none⟩) k k) _ B4 B5 B6 B7 B9 (HFR.out _ (hc.trans (hcA.of_nil))) (hS0.ch0 (hq.trans hcA)) (show SlI _ _ _ cur2 from hoA.sl) (h2.ch0 hcA) (h3.ch0 hcA)
                              have HSE : Hid (∀ hj : h < cur2.length, cur2[h] < 0 → fireB st cur2 (L : Int) r x = true → stepR st (L : Int) r cur2 x = cur2.set h r) := fun hj h0 hf => stepR_set HGL.out HX.out hj h0 hf
                              have HSK : Hid (∀ hj : h < cur2.length, (0 ≤ cur2[h] ∨ fireB st cur2 (L : Int) r x = false) → stepR st (L : Int) r cur2 x = cur2) := fun hj h0 => stepR_keep HX.out hj h0
                              rw [HX.out] at hcall
                              clear h2 h3
                              by_cases t0 : cur2[h] < 0
                              · have HT0 := Lib.hid t0
                                cases hf : fireB st cur2 (L : Int) r x with
                                | true =>
                                  have HPN := Lib.hid (HW.out hj t0 (HSE.out hj t0 hf))
                                  rw [hf] at hcall
                                  clear hf HK HW HSE HSK t0
                                  have j8 : decide (cur2[h] < 0) = true := decide_eq_true HT0.out
                                  generalize cur2[h] = qh at *
                                  generalize x.ps.length = n1 at *
                                  generalize x.ns.length = n2 at *
                                  go_wp2_with (go_at_call 82; ((with_reducible refine hcall.mono ?_); rintro e w6 ⟨rfl, hc6⟩; clear hcall; have p0 := (hbn.ch hc6 (by simp)).cell 0; obtain ⟨x6, y6, _, _⟩ := (hoA.ch0' hc6).atI HL2.out HJ.out))
                                  have HON := Lib.hid ((hoA.ch0' hc6).setI HL2.out h r)
                                  go_roundw
                                  case rel => exact ⟨m + 1, true, cur2.set h r, by omega, by go_num, rfl, (hq.trans (hcA.trans hc6)).set (.inr HBN.out.2.2) _, (hc.trans ((hcA.trans hc6).of_nil)).set (.inl (List.mem_singleton.2 rfl)) _, HPN, HON⟩
                                  case measure => simp [intOf]; omega
                                | false =>
                                  have HPN := Lib.hid (HK.out (HSK.out hj (.inr hf)))
                                  rw [hf] at hcall
                                  clear hf HK HW HSE HSK t0
                                  have j8 : decide (cur2[h] < 0) = true := decide_eq_true HT0.out
                                  generalize cur2[h] = qh at *
                                  generalize x.ps.length = n1 at *
                                  generalize x.ns.length = n2 at *
                                  go_wp2_with (go_at_call 82; ((with_reducible refine hcall.mono ?_); rintro e w6 ⟨rfl, hc6⟩; clear hcall))
                                  go_roundw
                                  case rel => exact ⟨m + 1, b, cur2, by omega, by go_num, rfl, hq.trans (hcA.trans hc6), hc.trans ((hcA.trans hc6).of_nil), HPN, hoA.ch0' hc6⟩
                                  case measure => simp [intOf]; omega
                              · have HPN := Lib.hid (HK.out (HSK.out hj (.inl (by omega))))
                                have j8 : decide (cur2[h] < 0) = false := decide_eq_false t0
                                clear HK HW HSE HSK hcall
                                generalize cur2[h] = qh at *
                                generalize x.ps.length = n1 at *
                                generalize x.ns.length = n2 at *
                                go_wp2
                                go_roundw
                                case rel => exact ⟨m + 1, b, cur2, by omega, by go_num, rfl, hq.trans hcA, hc.trans (hcA.of_nil), HPN, hoA⟩
                                case measure => simp [intOf]; omega
                            · have j7 : decide (m < R.length) = false := decide_eq_false hlm
                              have hfin := HP.out.full (by omega) HRN.out
                              have HTN := Lib.hid (HTB5.out.ch hc hB12)
                              have HFN := Lib.hid hfin.1
                              clear hfin HP HRN
                              go_wp2
                              go_roundw
                              case rel => exact ⟨r + 1, b, cur2, rfl, rfl, hq, HL2, HFN, HOW, HTN⟩
                              case measure => simp [intOf]; omega
                    · have hLn : L = n + 1 := by omega
                      have j5 : decide (L < n + 1) = false := decide_eq_false hlt
                      have j6 : decide ((L : Int) < (n : Int) + 1) = false := decide_eq_false (by omega)
                      have HRK : Hid (levR st rs (k + 1) (rk0 k facts) L = ranksR st rs k facts) := by unfold Hid ranksR; rw [hLn, HTN.out]; rfl
                      have HOU : Hid (SlI (fun b => w.heap.size ≤ b) wr (.slice (some ⟨B1, 0, none⟩) k k) (ranksR st rs k facts)) := by
                        rw [← HRK.out]
                        have h1 := (show SlI _ wr _ _ from HOW.out.sl).weak (q := fun b => w.heap.size ≤ b) (fun b _ hb => by have := hb.2; injection this with h2; subst h2; exact HBN.out.2.2)
                        exact h1
                      clear hLn HRK HOW
                      go_wp2
                      go_ret
                      exact ⟨_, rfl, HOU.out, hq⟩
end

section
open Go.RowKit

/-- the bounds of a ground description, with those of its terms -/
structure GdBnd (A : List Tm) (rs : List Gr) : Prop where
  fit : GdFit A rs
  dep : ∀ t ∈ A, t.dep ≤ 1000000
  nice : ∃ B b, (∀ t ∈ A, Nice B b t) ∧ B ≤ maxLen
theorem gdOk_rules {A : List Tm} {rs : List Gr} (h : gdOk A rs = true) : (∀ x ∈ rs, grOk A.length x = true) ∧ ∀ t ∈ A, t.name ≠ dis := by
  simp only [gdOk, atmsOk, Bool.and_eq_true, grsOk_chain, chainB_iff] at h
  refine ⟨fun x hx => ?_, fun t ht => ?_⟩
  · obtain ⟨i, hi, rfl⟩ := List.getElem_of_mem hx
    exact h.2.2.1 i hi
  · obtain ⟨i, hi, rfl⟩ := List.getElem_of_mem ht
    have := h.1.2.1 i hi
    simp only [atmOk, Bool.and_eq_true, Bool.not_eq_true', decide_eq_false_iff_not] at this
    exact this.1
/-- the verdict, the strata and the ranks -/
noncomputable def evA (A : List Tm) (rs : List Gr) (F : List Int) : Int × List Int × List Int :=
  if (gdOk A rs && factsOk A.length F) = true then (match stA A rs with | none => (10, [], []) | some st => (0, st, ranksR st rs A.length F)) else (13, [], [])
theorem evA_bad {A : List Tm} {rs : List Gr} {F : List Int} (h : (gdOk A rs && factsOk A.length F) = false) : evA A rs F = (13, [], []) := by unfold evA; rw [h]; rfl
theorem evA_none {A : List Tm} {rs : List Gr} {F : List Int} (h : gdOk A rs = true) (h1 : factsOk A.length F = true) (h2 : stA A rs = none) : evA A rs F = (10, [], []) := by unfold evA; rw [h, h1, h2]; rfl
theorem evA_some {A : List Tm} {rs : List Gr} {F st : List Int} (h : gdOk A rs = true) (h1 : factsOk A.length F = true) (h2 : stA A rs = some st) : evA A rs F = (0, st, ranksR st rs A.length F) := by unfold evA; rw [h, h1, h2]; rfl
theorem SlI.nilZ (p : Nat → Prop) (w : World) : SlI p w (.slice none 0 0) [] := Sl.nil _ _ _

set_option maxRecDepth 100000 in
set_option maxHeartbeats 4000000 in
theorem evaluated_ (A : List Tm) (rs : List Gr) (F : List Int) (p : Nat → Prop) (va vr vf : Value) (w : World) (hA : SlT p w va A) (hR : SlGr p w vr rs) (hF : SlI p w vf F) (hb : GdBnd A rs) (hFl : F.length ≤ 1000000) :
    Calls Tryz.prog 36 #[.agg #[va, vr], vf] w fun e w' => ∃ v1 v2, e = .returned (.tuple #[v1, v2, .int .i64 (evA A rs F).1]) ∧ SlI (fun b => w.heap.size ≤ b) w' v1 (evA A rs F).2.1 ∧ SlI (fun b => w.heap.size ≤ b) w' v2 (evA A rs F).2.2 ∧ Ch [] w w' := by
  have hA0 : SlT (fun _ => True) w va A := hA.weak (fun _ _ _ => trivial)
  have hR0 : SlGr (fun _ => True) w vr rs := hR.weak (fun _ _ _ => trivial)
  have hF0 : SlI (fun _ => True) w vf F := hF.weak (fun _ _ _ => trivial)
  clear hA hR hF
  obtain ⟨hfit, hd, B, bb, hN, hBm⟩ := hb
  have ha := hfit.a
  have hr := hfit.r
  obtain ⟨aA, cA, rfl, _, _⟩ := hA0.form
  obtain ⟨aR, cR, rfl, _, _⟩ := hR0.form
  obtain ⟨aF, cF, rfl, _, _⟩ := hF0.form
  have hbn := Blk.new w 25 #[.slice aA A.length cA, .slice aR rs.length cR]
  have hcA : Ch [] w (w.alloc (.cells #[.slice aA A.length cA, .slice aR rs.length cR] 25)) := (Ch.refl _ _).alloc _
  have hval := fun wz (hz : Ch [] w wz) => validG_ A rs B bb hN hBm _ _ _ wz (hA0.ch0 hz) (hR0.ch0 hz) hd (by omega) (by omega) (fun x hx => by have := hfit.x x hx; omega)
  have hgiv := fun wz (hz : Ch [] w wz) => given_ A.length aA cA (.slice aR rs.length cR) _ _ F wz (hF0.ch0 hz) hFl (by omega) rfl
  have x0 := hbn.cell 0
  have x1 := hbn.cell 1
  generalize hwA : (w.alloc (.cells #[.slice aA A.length cA, .slice aR rs.length cR] 25)) = wA at *
  have HV := Lib.hid (hval wA hcA)
  clear hval
  cases hg : gdOk A rs with
  | false =>
    have HE := Lib.hid (evA_bad (A := A) (rs := rs) (F := F) (by rw [hg]; rfl))
    rw [hg] at HV
    clear hg
    have hv := HV.out
    go_enter Tryz.func36, Tryz.ntmps36
    go_wp2_with (go_at_call 30; ((with_reducible refine hv.mono ?_); rintro e w1 ⟨rfl, hc1⟩; clear hv))
    go_ret3
    rw [HE.out]
    exact ⟨_, _, rfl, SlI.nilZ _ _, SlI.nilZ _ _, hcA.trans hc1⟩
  | true =>
    have HOK := Lib.hid (gdOk_rules hg)
    have HG := Lib.hid hg
    rw [hg] at HV
    clear hg
    have hv := HV.out
    cases hf : factsOk A.length F with
    | false =>
      have HE := Lib.hid (evA_bad (A := A) (rs := rs) (F := F) (by rw [hf, HG.out]; rfl))
      have hgv := fun wz (hz : Ch [] w wz) => hf ▸ hgiv wz hz
      clear hf hgiv
      go_enter Tryz.func36, Tryz.ntmps36
      go_wp2_with (first
        | (go_at_call 30; ((with_reducible refine hv.mono ?_); rintro e w1 ⟨rfl, hc1⟩; clear hv; have y0 := (hbn.ch hc1 (by simp)).cell 0; have y1 := (hbn.ch hc1 (by simp)).cell 1))
        | (go_at_call 57; ((with_reducible refine (hgv _ (hcA.trans hc1)).mono ?_); rintro e w2 ⟨rfl, hc2⟩)))
      go_ret3
      rw [HE.out]
      exact ⟨_, _, rfl, SlI.nilZ _ _, SlI.nilZ _ _, (hcA.trans hc1).trans hc2⟩
    | true =>
      have hgv := fun wz (hz : Ch [] w wz) => hf ▸ hgiv wz hz
      have HF := Lib.hid hf
      clear hf hgiv
      have HST := Lib.hid (fun wz (hz : Ch [] w wz) => strataG_ A rs _ _ _ wz (hA0.ch0 hz) (hR0.ch0 hz) hfit HOK.out.1 HOK.out.2)
      go_enter Tryz.func36, Tryz.ntmps36
      go_wp2_with (first
        | (go_at_call 30; ((with_reducible refine hv.mono ?_); rintro e w1 ⟨rfl, hc1⟩; clear hv; have y0 := (hbn.ch hc1 (by simp)).cell 0; have y1 := (hbn.ch hc1 (by simp)).cell 1))
        | (go_at_call 57; ((with_reducible refine (hgv _ (hcA.trans hc1)).mono ?_); rintro e w2 ⟨rfl, hc2⟩; have z0 := (hbn.ch (hc1.trans hc2) (by simp)).cell 0; have z1 := (hbn.ch (hc1.trans hc2) (by simp)).cell 1)))
      have hc02 := (hcA.trans hc1).trans hc2
      ((with_reducible refine (HST.out _ hc02).mono ?_); intro e w3 hpost)
      obtain ⟨v3, n3, rfl, hres, hc3⟩ := hpost
      have hc03 := hc02.trans hc3
      have u0 := (hbn.ch ((hc1.trans hc2).trans hc3) (by simp)).cell 0
      have u1 := (hbn.ch ((hc1.trans hc2).trans hc3) (by simp)).cell 1
      cases hs : stA A rs with
      | none =>
        have HE := Lib.hid (evA_none HG.out HF.out hs)
        rw [hs] at hres
        obtain ⟨rfl, rfl⟩ := hres
        clear hs HST
        go_wp2
        go_ret3
        rw [HE.out]
        exact ⟨_, _, rfl, SlI.nilZ _ _, SlI.nilZ _ _, hc03⟩
      | some st =>
        have HE := Lib.hid (evA_some HG.out HF.out hs)
        rw [hs] at hres
        obtain ⟨hsl, rfl⟩ := hres
        have HS := Lib.hid hs
        clear hs HST
        have hsz := hc02.size
        have hsl2 : SlI (fun b => w.heap.size ≤ b) w3 v3 st := hsl.weak (fun b _ hb => by omega)
        obtain ⟨a3, c3, rfl, _, _⟩ := hsl2.form
        have hst0 := stA_ok HS.out HOK.out.1
        have hrk := ranksOf_ A.length rs st F (fun _ => True) (.slice aA A.length cA) (.slice aR rs.length cR) (.slice a3 st.length c3) (.slice aF F.length cF) w3 aA cA rfl (by omega) (hR0.ch0 hc03) (hsl2.weak (fun _ _ _ => trivial)) (hF0.ch0 hc03) (stA_len HS.out) hst0.1 (stA_le HS.out HOK.out.1) HOK.out.1 (by have := HF.out; simp only [factsOk, Bool.and_eq_true] at this; exact this.1) (by omega)
        have HSL := Lib.hid hsl2
        have hsz3 := hc03.size
        clear hst0 hsl hsl2
        go_wp2_with (go_at_call 58; ((with_reducible refine hrk.mono ?_); rintro e w4 ⟨v4, rfl, h4, hc4⟩; clear hrk))
        go_ret3
        rw [HE.out]
        exact ⟨_, _, rfl, HSL.out.ch0 hc4, h4.weak (fun b _ hb => by omega), hc03.trans hc4⟩

set_option maxRecDepth 100000 in
set_option maxHeartbeats 4000000 in
theorem ranks_ (A : List Tm) (rs : List Gr) (F : List Int) (p : Nat → Prop) (va vr vf : Value) (w : World) (hA : SlT p w va A) (hR : SlGr p w vr rs) (hF : SlI p w vf F) (hb : GdBnd A rs) (hFl : F.length ≤ 1000000) :
    Calls Tryz.prog 14 #[.agg #[va, vr], vf] w fun e w' => ∃ v2, e = .returned (.tuple #[v2, .int .i64 (evA A rs F).1]) ∧ SlI (fun b => w.heap.size ≤ b) w' v2 (evA A rs F).2.2 ∧ Ch [] w w' := by
  have HEV := Lib.hid (fun wz (hz : Ch [] w wz) => evaluated_ A rs F _ _ _ _ wz (hA.ch0 hz) (hR.ch0 hz) (hF.ch0 hz) hb hFl)
  obtain ⟨aA, cA, rfl, _, _⟩ := hA.form
  obtain ⟨aR, cR, rfl, _, _⟩ := hR.form
  have hbn := Blk.new w 25 #[.slice aA A.length cA, .slice aR rs.length cR]
  have hcA : Ch [] w (w.alloc (.cells #[.slice aA A.length cA, .slice aR rs.length cR] 25)) := (Ch.refl _ _).alloc _
  have x0 := hbn.cell 0
  have x1 := hbn.cell 1
  have hcall := HEV.out _ hcA
  clear hA hR hF hb HEV
  generalize evA A rs F = R at *
  obtain ⟨n, s, r⟩ := R
  have hsz := hcA.size
  generalize hwA : (w.alloc (.cells #[.slice aA A.length cA, .slice aR rs.length cR] 25)) = wA at *
  go_enter Tryz.func14, Tryz.ntmps14
  go_wp2_with (go_at_call 36; ((with_reducible refine hcall.mono ?_); rintro e w1 ⟨v1, v2, rfl, h1, h2, hc1⟩; clear hcall))
  go_ret2
  exact ⟨_, rfl, h2.weak (fun b _ hb => by omega), hcA.trans hc1⟩

/-- the verdict of the strata alone -/
noncomputable def stV (A : List Tm) (rs : List Gr) : Int × List Int := if gdOk A rs = true then (match stA A rs with | none => (10, []) | some st => (0, st)) else (13, [])
set_option maxRecDepth 100000 in
set_option maxHeartbeats 4000000 in
theorem strataV_ (A : List Tm) (rs : List Gr) (p : Nat → Prop) (va vr : Value) (w : World) (hA : SlT p w va A) (hR : SlGr p w vr rs) (hb : GdBnd A rs) :
    Calls Tryz.prog 11 #[.agg #[va, vr]] w fun e w' => ∃ v1, e = .returned (.tuple #[v1, .int .i64 (stV A rs).1]) ∧ SlI (fun b => w.heap.size ≤ b) w' v1 (stV A rs).2 ∧ Ch [] w w' := by
  have hA0 : SlT (fun _ => True) w va A := hA.weak (fun _ _ _ => trivial)
  have hR0 : SlGr (fun _ => True) w vr rs := hR.weak (fun _ _ _ => trivial)
  clear hA hR
  obtain ⟨hfit, hd, B, bb, hN, hBm⟩ := hb
  have ha := hfit.a
  have hr := hfit.r
  obtain ⟨aA, cA, rfl, _, _⟩ := hA0.form
  obtain ⟨aR, cR, rfl, _, _⟩ := hR0.form
  have hbn := Blk.new w 25 #[.slice aA A.length cA, .slice aR rs.length cR]
  have hcA : Ch [] w (w.alloc (.cells #[.slice aA A.length cA, .slice aR rs.length cR] 25)) := (Ch.refl _ _).alloc _
  have hval := fun wz (hz : Ch [] w wz) => validG_ A rs B bb hN hBm _ _ _ wz (hA0.ch0 hz) (hR0.ch0 hz) hd (by omega) (by omega) (fun x hx => by have := hfit.x x hx; omega)
  have x0 := hbn.cell 0
  have x1 := hbn.cell 1
  generalize hwA : (w.alloc (.cells #[.slice aA A.length cA, .slice aR rs.length cR] 25)) = wA at *
  have HV := Lib.hid (hval wA hcA)
  clear hval
  cases hg : gdOk A rs with
  | false =>
    have HE : Hid (stV A rs = (13, [])) := by unfold Hid stV; rw [hg]; rfl
    rw [hg] at HV
    clear hg
    have hv := HV.out
    go_enter Tryz.func11, Tryz.ntmps11
    go_wp2_with (go_at_call 30; ((with_reducible refine hv.mono ?_); rintro e w1 ⟨rfl, hc1⟩; clear hv))
    go_ret2
    rw [HE.out]
    exact ⟨_, rfl, SlI.nilZ _ _, hcA.trans hc1⟩
  | true =>
    have HOK := Lib.hid (gdOk_rules hg)
    have HG : Hid (stV A rs = match stA A rs with | none => (10, []) | some st => (0, st)) := by unfold Hid stV; rw [hg]; rfl
    rw [hg] at HV
    clear hg
    have hv := HV.out
    have HST := Lib.hid (fun wz (hz : Ch [] w wz) => strataG_ A rs _ _ _ wz (hA0.ch0 hz) (hR0.ch0 hz) hfit HOK.out.1 HOK.out.2)
    go_enter Tryz.func11, Tryz.ntmps11
    go_wp2_with (go_at_call 30; ((with_reducible refine hv.mono ?_); rintro e w1 ⟨rfl, hc1⟩; clear hv; have y0 := (hbn.ch hc1 (by simp)).cell 0; have y1 := (hbn.ch hc1 (by simp)).cell 1))
    have hc02 := hcA.trans hc1
    have hsz := hc02.size
    ((with_reducible refine (HST.out _ hc02).mono ?_); intro e w3 hpost)
    obtain ⟨v3, n3, rfl, hres, hc3⟩ := hpost
    have hc03 := hc02.trans hc3
    cases hs : stA A rs with
    | none =>
      have HE := Lib.hid (show stV A rs = (10, []) by rw [HG.out, hs])
      rw [hs] at hres
      obtain ⟨rfl, rfl⟩ := hres
      clear hs HST
      go_wp2
      go_ret2
      rw [HE.out]
      exact ⟨_, rfl, SlI.nilZ _ _, hc03⟩
    | some st =>
      have HE := Lib.hid (show stV A rs = (0, st) by rw [HG.out, hs])
      rw [hs] at hres
      obtain ⟨hsl, rfl⟩ := hres
      have HSL := Lib.hid hsl
      clear hs HST hsl
      go_wp2
      go_ret2
      rw [HE.out]
      exact ⟨_, rfl, HSL.out.weak (fun b _ hb => by omega), hc03⟩
end

section
open Go.RowKit

/-- the numbers below k that have a rank -/
def mdR (rk : List Int) (k : Nat) : List Int := ((List.range k).filter fun (i : Nat) => decide (0 ≤ gI rk (i : Int))).map fun (i : Nat) => (i : Int)
theorem mdR_yes {rk : List Int} {k : Nat} (h : 0 ≤ gI rk (k : Int)) : mdR rk (k + 1) = mdR rk k ++ [(k : Int)] := by
  unfold mdR
  rw [List.range_succ, List.filter_append, List.map_append, List.filter_cons, if_pos (decide_eq_true h)]; rfl
theorem mdR_no {rk : List Int} {k : Nat} (h : ¬ 0 ≤ gI rk (k : Int)) : mdR rk (k + 1) = mdR rk k := by
  unfold mdR
  rw [List.range_succ, List.filter_append, List.map_append, List.filter_cons, if_neg (by simpa using h)]; simp
theorem mdR_len (rk : List Int) (k : Nat) : (mdR rk k).length ≤ k := by
  unfold mdR
  have := List.length_filter_le (fun i : Nat => decide (0 ≤ gI rk (i : Int))) (List.range k)
  simpa using this
theorem evA_len {A : List Tm} {rs : List Gr} {F : List Int} : (evA A rs F).2.1.length ≤ A.length ∧ (evA A rs F).2.2.length ≤ A.length := by
  unfold evA
  split
  · cases h : stA A rs with
    | none => simp
    | some st => simp [stA_len h, ranksR_len]
  · simp

set_option maxRecDepth 100000 in
set_option maxHeartbeats 4000000 in
theorem model_ (A : List Tm) (rs : List Gr) (F : List Int) (p : Nat → Prop) (va vr vf : Value) (w : World) (hA : SlT p w va A) (hR : SlGr p w vr rs) (hF : SlI p w vf F) (hb : GdBnd A rs) (hFl : F.length ≤ 1000000) :
    Calls Tryz.prog 16 #[.agg #[va, vr], vf] w fun e w' => ∃ v2, e = .returned (.tuple #[v2, .int .i64 (evA A rs F).1]) ∧ SlI (fun b => w.heap.size ≤ b) w' v2 (mdR (evA A rs F).2.2 (evA A rs F).2.2.length) ∧ Ch [] w w' := by
  have HEV := Lib.hid (fun wz (hz : Ch [] w wz) => evaluated_ A rs F _ _ _ _ wz (hA.ch0 hz) (hR.ch0 hz) (hF.ch0 hz) hb hFl)
  have hEL := (evA_len (A := A) (rs := rs) (F := F)).2
  have hAl := hb.fit.a
  obtain ⟨aA, cA, rfl, _, _⟩ := hA.form
  obtain ⟨aR, cR, rfl, _, _⟩ := hR.form
  have hbn := Blk.new w 25 #[.slice aA A.length cA, .slice aR rs.length cR]
  have hcA : Ch [] w (w.alloc (.cells #[.slice aA A.length cA, .slice aR rs.length cR] 25)) := (Ch.refl _ _).alloc _
  have x0 := hbn.cell 0
  have x1 := hbn.cell 1
  have hcall := HEV.out _ hcA
  clear hA hR hF hb HEV
  generalize evA A rs F = R at *
  obtain ⟨nR, sR, rk⟩ := R
  have hrl : rk.length ≤ 1000 := by simp only at hEL; omega
  have hsz := hcA.size
  generalize hwA : (w.alloc (.cells #[.slice aA A.length cA, .slice aR rs.length cR] 25)) = wA at *
  clear hEL hAl
  go_enter Tryz.func16, Tryz.ntmps16
  go_wp2_with (go_at_call 36; ((with_reducible refine hcall.mono ?_); rintro e w1 ⟨v1, v2, rfl, h1, h2, hc1⟩; clear hcall; obtain ⟨a2, c2, rfl, _, _⟩ := h2.form))
  have hc01 := hcA.trans hc1
  have hs1 := hc1.size
  have HK := Lib.hid h2
  clear h1 h2 x0 x1 hwA
  go_loopw [9, 10, 11, 21] (fun o _ _ i wr => ∃ (k : Nat) (a : Option Addr) (c : Nat), k ≤ rk.length ∧ i = .int .i64 k ∧ o = .slice a (mdR rk k).length c ∧ Ch [] w wr ∧ Ch [] w1 wr ∧ Own wr w1.heap.size 3 1 (.slice a (mdR rk k).length c) ((mdR rk k).map encI)) (fun _ _ _ i _ => rk.length - (intOf i).toNat)
  case atStart => exact ⟨0, none, 0, Nat.zero_le _, rfl, rfl, hc01, Ch.refl _ _, Own.nil _ _ _ _⟩
  case round =>
    obtain ⟨k, a1, c1, hk, rfl, rfl, hq, hc, ho⟩ := hrel
    by_cases hlt : k < rk.length
    · have j1 : decide (k < rk.length) = true := decide_eq_true hlt
      obtain ⟨bK, oK, rfl, _, d0⟩ := (HK.out.ch0 hc).at_ hlt
      have hml := mdR_len rk k
      have HG := Lib.hid (gI_at hlt)
      by_cases t0 : 0 ≤ rk[k]
      · have j2 : decide (0 ≤ rk[k]) = true := decide_eq_true t0
        have HS := Lib.hid (mdR_yes (rk := rk) (k := k) (by rw [HG.out]; exact t0))
        have hsz2 := hc.size
        clear HG
        generalize rk[k] = q at *
        generalize mdR rk k = M at *
        go_wp2_with (at_builtin; refine wpList_append_sl rfl _ _ _ rfl elIn (base := w1.heap.size) (v := .slice a1 M.length c1) (css := M.map encI) rfl (ho.ch0' ((Ch.refl [] wr).alloc _)) rfl (Sl.one wr 1 _ [.int .i64 (k : Int)] rfl (by simp [Value.oneCell'])) (by simp; omega) (by simp; omega) ?_; intro v6 w6 ho6 hc6 hat6 hn6; clear hn6; obtain ⟨a7, c7, rfl⟩ := ho6.form')
        have hcB : Ch [] w1 w6 := (hc.alloc _).step hc6 (fun b hb => .inr (by
          cases hv : (Value.slice a1 M.length c1).ownBlock with
          | none => rw [hv] at hb; cases hb
          | some g => rw [hv] at hb; simp at hb; subst hb; exact (ho.lt hv).1))
        have ho7 : Own w6 w1.heap.size 3 1 (.slice a7 (M ++ [(k : Int)]).length c7) ((M ++ [(k : Int)]).map encI) := by
          have e : M.map encI ++ [[Value.int .i64 (k : Int)]] = (M ++ [(k : Int)]).map encI := by rw [List.map_append]; rfl
          rw [e] at ho6
          simpa only [List.length_map] using ho6
        rw [← HS.out] at ho7
        go_roundw
        case rel => exact ⟨k + 1, a7, c7, by omega, by go_num, by rw [HS.out]; simp, hc01.trans hcB, hcB, ho7⟩
        case measure => simp [intOf]; omega
      · have j2 : decide (0 ≤ rk[k]) = false := decide_eq_false t0
        have HS := Lib.hid (mdR_no (rk := rk) (k := k) (by rw [HG.out]; exact t0))
        clear HG
        generalize rk[k] = q at *
        go_wp2
        go_roundw
        case rel => exact ⟨k + 1, a1, c1, by omega, by go_num, by rw [HS.out], hq, hc, by rw [HS.out]; exact ho⟩
        case measure => simp [intOf]; omega
    · have hkl : k = rk.length := by omega
      subst hkl
      have j1 : decide (rk.length < rk.length) = false := decide_eq_false hlt
      have HO := Lib.hid ho
      go_wp2
      go_ret2
      exact ⟨_, rfl, (show SlI _ _ _ _ from HO.out.sl).weak (fun b _ hb => by have := hb.1; omega), hq⟩

theorem evA_cases (A : List Tm) (rs : List Gr) (F : List Int) : evA A rs F = (13, [], []) ∨ evA A rs F = (10, [], []) ∨ ∃ st, gdOk A rs = true ∧ factsOk A.length F = true ∧ stA A rs = some st ∧ evA A rs F = (0, st, ranksR st rs A.length F) := by
  cases hc : (gdOk A rs && factsOk A.length F) with
  | false => exact .inl (evA_bad hc)
  | true =>
    rw [Bool.and_eq_true] at hc
    cases hs : stA A rs with
    | none => exact .inr (.inl (evA_none hc.1 hc.2 hs))
    | some st => exact .inr (.inr ⟨st, hc.1, hc.2, rfl, evA_some hc.1 hc.2 hs⟩)
/-- what Holds answers -/
noncomputable def hoA (A : List Tm) (rs : List Gr) (F : List Int) (n : Int) : Bool × Int :=
  if (evA A rs F).1 = 13 then (false, 13) else if numIn A.length n = true then (decide ((evA A rs F).1 = 0) && decide (0 ≤ gI (evA A rs F).2.2 n), (evA A rs F).1) else (false, 12)
set_option maxRecDepth 100000 in
set_option maxHeartbeats 4000000 in
theorem holds_ (A : List Tm) (rs : List Gr) (F : List Int) (n : Int) (p : Nat → Prop) (va vr vf : Value) (w : World) (hA : SlT p w va A) (hR : SlGr p w vr rs) (hF : SlI p w vf F) (hb : GdBnd A rs) (hFl : F.length ≤ 1000000) :
    Calls Tryz.prog 18 #[.agg #[va, vr], vf, .int .i64 n] w fun e w' => e = .returned (.tuple #[.bool (hoA A rs F n).1, .int .i64 (hoA A rs F n).2]) ∧ Ch [] w w' := by
  have HEV := Lib.hid (fun wz (hz : Ch [] w wz) => evaluated_ A rs F _ _ _ _ wz (hA.ch0 hz) (hR.ch0 hz) (hF.ch0 hz) hb hFl)
  have hAl := hb.fit.a
  obtain ⟨aA, cA, rfl, _, _⟩ := hA.form
  obtain ⟨aR, cR, rfl, _, _⟩ := hR.form
  have hbn := Blk.new w 25 #[.slice aA A.length cA, .slice aR rs.length cR]
  have hcA : Ch [] w (w.alloc (.cells #[.slice aA A.length cA, .slice aR rs.length cR] 25)) := (Ch.refl _ _).alloc _
  have x0 := hbn.cell 0
  have x1 := hbn.cell 1
  have hcall := HEV.out _ hcA
  clear hA hR hF hb HEV
  generalize hwA : (w.alloc (.cells #[.slice aA A.length cA, .slice aR rs.length cR] 25)) = wA at *
  have hHO : hoA A rs F n = if (evA A rs F).1 = 13 then (false, 13) else if numIn A.length n = true then (decide ((evA A rs F).1 = 0) && decide (0 ≤ gI (evA A rs F).2.2 n), (evA A rs F).1) else (false, 12) := rfl
  rcases evA_cases A rs F with he | he | ⟨st, _, _, _, he⟩
  all_goals
    rw [he] at hcall hHO
  · rw [if_pos rfl] at hHO
    generalize hoA A rs F n = O at *
    have HO := Lib.hid hHO
    clear hHO he
    go_enter Tryz.func18, Tryz.ntmps18
    go_wp2_with (go_at_call 36; ((with_reducible refine hcall.mono ?_); rintro e w1 ⟨v1, v2, rfl, h1, h2, hc1⟩; clear hcall; have g0 := (hbn.ch hc1 (by simp)).cell 0))
    go_ret2
    rw [HO.out]
    exact ⟨rfl, hcA.trans hc1⟩
  · rw [if_neg (fun h => by cases h)] at hHO
    by_cases t0 : n < 0
    · rw [if_neg (by simp [numIn]; omega)] at hHO
      generalize hoA A rs F n = O at *
      have HO := Lib.hid hHO
      clear hHO he
      have j0 : decide (n < 0) = true := decide_eq_true t0
      go_enter Tryz.func18, Tryz.ntmps18
      go_wp2_with (go_at_call 36; ((with_reducible refine hcall.mono ?_); rintro e w1 ⟨v1, v2, rfl, h1, h2, hc1⟩; clear hcall; have g0 := (hbn.ch hc1 (by simp)).cell 0))
      go_ret2
      rw [HO.out]
      exact ⟨rfl, hcA.trans hc1⟩
    · by_cases t1 : (A.length : Int) ≤ n
      · rw [if_neg (by simp [numIn]; omega)] at hHO
        generalize hoA A rs F n = O at *
        have HO := Lib.hid hHO
        clear hHO he
        have j0 : decide (n < 0) = false := decide_eq_false t0
        have j1 : decide ((A.length : Int) ≤ n) = true := decide_eq_true t1
        go_enter Tryz.func18, Tryz.ntmps18
        go_wp2_with (go_at_call 36; ((with_reducible refine hcall.mono ?_); rintro e w1 ⟨v1, v2, rfl, h1, h2, hc1⟩; clear hcall; have g0 := (hbn.ch hc1 (by simp)).cell 0))
        go_ret2
        rw [HO.out]
        exact ⟨rfl, hcA.trans hc1⟩
      · rw [if_pos (by simp [numIn]; omega)] at hHO
        generalize hoA A rs F n = O at *
        have HO := Lib.hid hHO
        clear hHO he
        have j0 : decide (n < 0) = false := decide_eq_false t0
        have j1 : decide ((A.length : Int) ≤ n) = false := decide_eq_false t1
        go_enter Tryz.func18, Tryz.ntmps18
        go_wp2_with (go_at_call 36; ((with_reducible refine hcall.mono ?_); rintro e w1 ⟨v1, v2, rfl, h1, h2, hc1⟩; clear hcall; have g0 := (hbn.ch hc1 (by simp)).cell 0))
        go_ret2
        rw [HO.out]
        exact ⟨rfl, hcA.trans hc1⟩
  · rw [if_neg (fun h => by cases h)] at hHO
    by_cases t0 : n < 0
    · rw [if_neg (by simp [numIn]; omega)] at hHO
      generalize hoA A rs F n = O at *
      have HO := Lib.hid hHO
      clear hHO he
      have j0 : decide (n < 0) = true := decide_eq_true t0
      go_enter Tryz.func18, Tryz.ntmps18
      go_wp2_with (go_at_call 36; ((with_reducible refine hcall.mono ?_); rintro e w1 ⟨v1, v2, rfl, h1, h2, hc1⟩; clear hcall; have g0 := (hbn.ch hc1 (by simp)).cell 0))
      go_ret2
      rw [HO.out]
      exact ⟨rfl, hcA.trans hc1⟩
    · by_cases t1 : (A.length : Int) ≤ n
      · rw [if_neg (by simp [numIn]; omega)] at hHO
        generalize hoA A rs F n = O at *
        have HO := Lib.hid hHO
        clear hHO he
        have j0 : decide (n < 0) = false := decide_eq_false t0
        have j1 : decide ((A.length : Int) ≤ n) = true := decide_eq_true t1
        go_enter Tryz.func18, Tryz.ntmps18
        go_wp2_with (go_at_call 36; ((with_reducible refine hcall.mono ?_); rintro e w1 ⟨v1, v2, rfl, h1, h2, hc1⟩; clear hcall; have g0 := (hbn.ch hc1 (by simp)).cell 0))
        go_ret2
        rw [HO.out]
        exact ⟨rfl, hcA.trans hc1⟩
      · rw [if_pos (by simp [numIn]; omega)] at hHO
        have hl := ranksR_len st rs A.length F
        generalize ranksR st rs A.length F = rk at *
        have hlt : n.toNat < rk.length := by omega
        obtain ⟨m, hm⟩ : ∃ m : Nat, n = (m : Int) := ⟨n.toNat, by omega⟩
        subst hm
        rw [Int.toNat_natCast] at hlt
        rw [gI_at hlt] at hHO
        by_cases t2 : 0 ≤ rk[m]
        · rw [decide_eq_true t2] at hHO
          generalize hoA A rs F (m : Int) = O at *
          have HO := Lib.hid hHO
          clear hHO he
          have j0 : decide ((m : Int) < 0) = false := decide_eq_false t0
          have j1 : decide ((A.length : Int) ≤ (m : Int)) = false := decide_eq_false t1
          have i1 : (m : Int) < (rk.length : Int) := by omega
          have i2 : (0 : Int) ≤ (m : Int) := by omega
          clear hl
          have j2 : decide (0 ≤ rk[m]) = true := decide_eq_true t2
          go_enter Tryz.func18, Tryz.ntmps18
          go_wp2_with (go_at_call 36; ((with_reducible refine hcall.mono ?_); rintro e w1 ⟨v1, v2, rfl, h1, h2, hc1⟩; clear hcall; have g0 := (hbn.ch hc1 (by simp)).cell 0; obtain ⟨a2, c2, rfl, _, _⟩ := h2.form; obtain ⟨b2, o2, rfl, _, d2⟩ := h2.at_ hlt))
          go_ret2
          rw [HO.out]
          exact ⟨rfl, hcA.trans hc1⟩
        · rw [decide_eq_false t2] at hHO
          generalize hoA A rs F (m : Int) = O at *
          have HO := Lib.hid hHO
          clear hHO he
          have j0 : decide ((m : Int) < 0) = false := decide_eq_false t0
          have j1 : decide ((A.length : Int) ≤ (m : Int)) = false := decide_eq_false t1
          have i1 : (m : Int) < (rk.length : Int) := by omega
          have i2 : (0 : Int) ≤ (m : Int) := by omega
          clear hl
          have j2 : decide (0 ≤ rk[m]) = false := decide_eq_false t2
          go_enter Tryz.func18, Tryz.ntmps18
          go_wp2_with (go_at_call 36; ((with_reducible refine hcall.mono ?_); rintro e w1 ⟨v1, v2, rfl, h1, h2, hc1⟩; clear hcall; have g0 := (hbn.ch hc1 (by simp)).cell 0; obtain ⟨a2, c2, rfl, _, _⟩ := h2.form; obtain ⟨b2, o2, rfl, _, d2⟩ := h2.at_ hlt))
          go_ret2
          rw [HO.out]
          exact ⟨rfl, hcA.trans hc1⟩
end
end Go.Proofs.YtojokdicbopknaaGreat
