
/-
  The contract of ref14.edges.
  The contract of ref14.Strata.
-/
import Derived.Test.YtojokdicbopknaaGreatGdRf1
import Derived.Test.YtojokdicbopknaaGreatStrRef
namespace Go.Proofs.YtojokdicbopknaaGreat

section
open Go.RowKit
attribute [local go_sem ↓] run_eql_ed run_neq_ed run_eql_lv run_neq_lv

/-- the relations of some atoms, in order -/
def nmsG (l : List Tm) : List ByteArray := l.foldl (fun o t => insS o t.name) []
theorem nmsG_snoc (l : List Tm) (k : Nat) (h : k < l.length) : nmsG (l.take (k + 1)) = insS (nmsG (l.take k)) l[k].name := by
  unfold nmsG
  rw [take_snoc l k h, List.foldl_append]; rfl
theorem nmsG_map (l : List Tm) : nmsG l = (l.map Tm.name).foldl insS [] := by unfold nmsG; rw [List.foldl_map]
theorem nmsG_asc (l : List Tm) : Asc sLt (nmsG l) := by rw [nmsG_map]; exact insAll_asc' _ _ (by simp [Asc])
theorem mem_nmsG (l : List Tm) (s : ByteArray) : s ∈ nmsG l ↔ ∃ t ∈ l, s = t.name := by
  rw [nmsG_map, insAll_mem']
  simp [eq_comm]
theorem nmsG_len (l : List Tm) : (nmsG l).length ≤ l.length := by
  have := nodup_len (asc_nodup sLt_sto (nmsG_asc l)) (m := l.map Tm.name) (fun s hs => by
    obtain ⟨t, ht, rfl⟩ := (mem_nmsG l s).1 hs
    exact List.mem_map.2 ⟨t, ht, rfl⟩)
  simpa using this
theorem nmsG_ends {A : List Tm} {rs : List Gr} (ho : ∀ x ∈ rs, grOk A.length x = true) : Ends (gEds A rs) (nmsG A) := fun e he => by
  obtain ⟨⟨t, ht, e1⟩, ⟨u, hu, e2⟩⟩ := gEds_ends ho e he
  exact ⟨(mem_nmsG A _).2 ⟨t, ht, e1⟩, (mem_nmsG A _).2 ⟨u, hu, e2⟩⟩
/-- the edges so far, within a rule -/
def edJ (A : List Tm) (x : Gr) (es : List Ed) (j : Nat) : List Ed := ((edsX A x).take j).foldl addE es
theorem edJ_pos {A : List Tm} {x : Gr} {es : List Ed} {j : Nat} (h : j < x.ps.length) : edJ A x es (j + 1) = addE (edJ A x es j) ⟨nmA A x.h, nmA A x.ps[j], false⟩ := by
  have hl : j < (edsX A x).length := by rw [edsX_len]; omega
  unfold edJ
  rw [take_snoc _ j hl, List.foldl_append]
  simp only [List.foldl_cons, List.foldl_nil]
  congr 1
  simp only [edsX]
  rw [List.getElem_append_left (by simpa using h), List.getElem_map]
theorem edJ_neg {A : List Tm} {x : Gr} {es : List Ed} {j : Nat} (h : x.ps.length ≤ j) (h2 : j - x.ps.length < x.ns.length) : edJ A x es (j + 1) = addE (edJ A x es j) ⟨nmA A x.h, nmA A x.ns[j - x.ps.length], true⟩ := by
  have hl : j < (edsX A x).length := by rw [edsX_len]; omega
  unfold edJ
  rw [take_snoc _ j hl, List.foldl_append]
  simp only [List.foldl_cons, List.foldl_nil]
  congr 1
  simp only [edsX]
  rw [List.getElem_append_right (by simpa using h), List.getElem_map]
  simp only [List.length_map]
theorem edJ_full {A : List Tm} {rs : List Gr} {k : Nat} (hk : k < rs.length) : edJ A rs[k] (gEds A (rs.take k)) (rs[k].ps.length + rs[k].ns.length) = gEds A (rs.take (k + 1)) := by
  unfold edJ gEds
  rw [← edsX_len A rs[k], List.take_length, take_snoc rs k hk, List.flatMap_append, List.foldl_append]
  simp
theorem edJ_len (A : List Tm) (x : Gr) (es : List Ed) (j : Nat) : (edJ A x es j).length ≤ es.length + (x.ps.length + x.ns.length) := by
  unfold edJ
  have h1 := len_addE ((edsX A x).take j) es
  have h2 : ((edsX A x).take j).length ≤ (edsX A x).length := by rw [List.length_take]; omega
  rw [edsX_len] at h2
  omega

set_option maxRecDepth 100000 in
set_option maxHeartbeats 8000000 in
theorem refEdges14_ (A : List Tm) (rs : List Gr) (p : Nat → Prop) (va vr : Value) (w : World) (hA : SlT p w va A) (hR : SlGr p w vr rs) (hf : GdFit A rs) (ho : ∀ x ∈ rs, grOk A.length x = true) :
    Calls Tryz.prog 33 #[.agg #[va, vr]] w fun e w' => ∃ v1 v2, e = .returned (.tuple #[v1, v2]) ∧ SlE (fun b => w.heap.size ≤ b) w' v1 (gEds A rs) ∧ SlS (fun b => w.heap.size ≤ b) w' v2 (nmsG A) ∧ Ch [] w w' := by
  have HFL := Lib.hid (gEds_fit hf)
  have HX := Lib.hid hf.x
  have HOK := Lib.hid ho
  have hal := hf.a
  have hrl := hf.r
  clear ho hf
  obtain ⟨aA, cA, rfl, _, hmA⟩ := hA.form
  obtain ⟨aR, cR, rfl, _, hmR⟩ := hR.form
  unfold maxLen at hmA hmR
  have hb0 := Blk.new w 25 #[.slice aA A.length cA, .slice aR rs.length cR]
  have hc0 : Ch [] w (w.alloc (.cells #[.slice aA A.length cA, .slice aR rs.length cR] 25)) := (Ch.refl _ _).alloc _
  have hs0 : (w.alloc (.cells #[.slice aA A.length cA, .slice aR rs.length cR] 25)).heap.size = w.heap.size + 1 := by simp
  go_enter Tryz.func33, Tryz.ntmps33
  go_wp2
  generalize (w.alloc (.cells #[.slice aA A.length cA, .slice aR rs.length cR] 25)) = wA at *
  obtain ⟨B1, hB1⟩ : ∃ B1, B1 = w.heap.size := ⟨_, rfl⟩
  rw [← hB1] at hb0 ⊢
  have hs0' : B1 < wA.heap.size := by omega
  have HB1 : Hid (B1 = w.heap.size) := hB1
  clear hB1
  go_loopw [4, 5] (fun o i wr => ∃ (k : Nat) (v : Value), k ≤ A.length ∧ i = .int .i64 k ∧ v = o ∧ Ch [] w wr ∧ B1 < wr.heap.size ∧ Blk wr B1 25 #[.slice aA A.length cA, .slice aR rs.length cR] ∧ SlS (fun b => w.heap.size ≤ b) wr v (nmsG (A.take k))) (fun _ i _ => A.length - (intOf i).toNat)
  case atStart => exact ⟨0, _, Nat.zero_le _, rfl, rfl, hc0, hs0', hb0, Sl.nil _ _ _⟩
  case round =>
    obtain ⟨k, vN, hk, rfl, rfl, hq, hsq, hb, ho⟩ := hrel
    obtain ⟨aN, cN, rfl, _, hmN⟩ := ho.form
    have x0 := hb.cell 0
    have x1 := hb.cell 1
    by_cases hlt : k < A.length
    · have j1 : decide (k < A.length) = true := decide_eq_true hlt
      obtain ⟨bA, oA, rfl, dn⟩ := (hA.ch0 hq).nameAt hlt
      have HS := Lib.hid (nmsG_snoc A k hlt)
      rw [← nmA_at hlt] at HS
      have hln := nmsG_len (A.take k)
      rw [List.length_take] at hln
      have hcall := ref09Insert _ _ _ (nmA A (k : Int)) wr ho (by omega)
      have hsz := hq.size
      generalize nmA A (k : Int) = nm at *
      generalize nmsG (A.take k) = M at *
      go_wp2_with (go_at_call 56; ((with_reducible refine hcall.mono ?_); rintro e w1 ⟨v1, rfl, h1, hc1⟩; clear hcall))
      have hs1 := hc1.size
      go_roundw
      case rel => exact ⟨k + 1, _, by omega, by go_num, rfl, hq.trans hc1, by omega, hb.ch hc1 (by simp), by rw [HS.out]; exact h1.weak (fun b _ hb => by omega)⟩
      case measure => simp [intOf]; omega
    · have hkl : k = A.length := by omega
      have j1 : decide (k < A.length) = false := decide_eq_false hlt
      have HNM : Hid (SlS (fun b => w.heap.size ≤ b) wr (.slice aN (nmsG (A.take k)).length cN) (nmsG A)) := by rw [hkl, List.take_length] at ho ⊢; exact ho
      clear ho hkl hk hlt
      have HQN := Lib.hid hq
      clear hq
      go_wp2
      generalize (Value.slice aN (nmsG (A.take k)).length cN) = vNM at *
      obtain ⟨wN, hwN⟩ : ∃ wN, wN = wr := ⟨_, rfl⟩
      rw [← hwN] at HNM hb HQN hsq x0 x1 ⊢
      clear hwN
      go_loopw [6, 7] (fun o i wr => ∃ (k : Nat) (v : Value), k ≤ rs.length ∧ i = .int .i64 k ∧ v = o ∧ Ch [] wN wr ∧ Blk wr B1 25 #[.slice aA A.length cA, .slice aR rs.length cR] ∧ Own wr wN.heap.size 81 3 v ((gEds A (rs.take k)).map Ed.enc)) (fun _ i _ => rs.length - (intOf i).toNat)
      case atStart => exact ⟨0, _, Nat.zero_le _, rfl, rfl, Ch.refl _ _, hb, Own.nil _ _ _ _⟩
      case round =>
        clear x0 x1 hb
        obtain ⟨k, vO, hk, rfl, rfl, hN, hb, ho⟩ := hrel
        have x0 := hb.cell 0
        have x1 := hb.cell 1
        have hq := HQN.out.trans hN
        by_cases hlt : k < rs.length
        · have j2 : decide (k < rs.length) = true := decide_eq_true hlt
          obtain ⟨bk, oR, a1, c1, a2, c2, rfl, hp, d0, d1, d2, hP, hG⟩ := hR.at_ hlt
          have HFU := Lib.hid (edJ_full (A := A) hlt)
          have hxl := HX.out _ (List.getElem_mem hlt)
          have hok := HOK.out _ (List.getElem_mem hlt)
          have hel := HFL.out k
          generalize gEds A (rs.take k) = es0 at *
          generalize rs[k] = x at *
          obtain ⟨h, hh, eh⟩ := numIn_nat (grOk_h hok)
          have HXP := Lib.hid (grOk_p hok)
          have HXN := Lib.hid (grOk_n hok)
          have HH := Lib.hid eh
          rw [eh] at d0
          have d0 := cell_ch (S := []) d0 hq (by simp)
          have d1 := cell_ch (S := []) d1 hq (by simp)
          have d2 := cell_ch (S := []) d2 hq (by simp)
          clear eh hok
          have hbn := Blk.new wr 44 #[.int .i64 (h : Int), .slice a1 x.ps.length c1, .slice a2 x.ns.length c2]
          have hcN : Ch [] wr (wr.alloc (.cells #[.int .i64 (h : Int), .slice a1 x.ps.length c1, .slice a2 x.ns.length c2] 44)) := (Ch.refl _ _).alloc _
          have hoN := ho.ch0' hcN
          have hb1N := hb.ch hcN (by simp)
          have hown0 : ∀ b, vO.ownBlock = some b → b < wr.heap.size := fun b hb => (ho.lt hb).2
          have HV0 : Hid (vO.ownBlock ≠ some wr.heap.size) := fun h => by have := hown0 _ h; omega
          have hqN := hN.trans hcN
          have HP := Lib.hid hP
          have HGN := Lib.hid hG
          obtain ⟨_, _, eP, _, hmP⟩ := hP.form
          injection eP with eP1 _ eP2
          subst eP1 eP2
          obtain ⟨_, _, eG, _, hmG⟩ := hG.form
          injection eG with eG1 _ eG2
          subst eG1 eG2
          unfold maxLen at hmP hmG
          clear hown0 hP hG ho hb hN
          go_wp2
          have hszW : wr.heap.size < (wr.alloc (.cells #[.int .i64 (h : Int), .slice a1 x.ps.length c1, .slice a2 x.ns.length c2] 44)).heap.size := hbn.lt
          generalize (wr.alloc (.cells #[.int .i64 (h : Int), .slice a1 x.ps.length c1, .slice a2 x.ns.length c2] 44)) = wM at *
          obtain ⟨B8, hB8⟩ : ∃ B8, B8 = wr.heap.size := ⟨_, rfl⟩
          rw [← hB8] at hbn HV0 hszW ⊢
          clear hB8 x0 x1 d0 d1 d2 hcN
          go_loopw [6, 9, 10, 11, 12] (fun o i _ _ _ wq => ∃ (j : Nat) (v : Value), j ≤ x.ps.length + x.ns.length ∧ i = .int .i64 j ∧ v = o ∧ Ch [] wN wq ∧ Blk wq B1 25 #[.slice aA A.length cA, .slice (some ⟨bk, oR, none⟩) rs.length cR] ∧ Blk wq B8 44 #[.int .i64 (h : Int), .slice a1 x.ps.length c1, .slice a2 x.ns.length c2] ∧ Own wq wN.heap.size 81 3 v ((edJ A x es0 j).map Ed.enc) ∧ Hid (v.ownBlock ≠ some B8)) (fun _ i _ _ _ _ => x.ps.length + x.ns.length - (intOf i).toNat)
          case atStart => exact ⟨0, vO, Nat.zero_le _, rfl, rfl, hqN, hb1N, hbn, hoN, HV0⟩
          case round =>
            clear hqN hb1N hbn hoN HV0
            obtain ⟨j, v, hj, rfl, rfl, hq2, hb1, hb8, ho, HNB⟩ := hrel
            have x0 := hb1.cell 0
            have y0 := hb8.cell 0
            have y1 := hb8.cell 1
            have y2 := hb8.cell 2
            by_cases hlj : j < x.ps.length + x.ns.length
            · have jj : decide (j < x.ps.length + x.ns.length) = true := decide_eq_true hlj
              have jj' : decide ((j : Int) < (x.ps.length : Int) + (x.ns.length : Int)) = true := decide_eq_true (by omega)
              have hqW := HQN.out.trans hq2
              obtain ⟨bA, oA, eA, dh⟩ := (hA.ch0 hqW).nameAt hh
              subst eA
              have hel2 := edJ_len A x es0 j
              have hsq2 := hq2.size
              have HLQ := Lib.hid (show wN.heap.size ≤ wr.heap.size from hsq2)
              by_cases hlp : j < x.ps.length
              · have HS := Lib.hid (edJ_pos (A := A) (es := es0) hlp)
                have jp : decide (x.ps.length ≤ j) = false := decide_eq_false (by omega)
                have jp' : decide ((x.ps.length : Int) ≤ (j : Int)) = false := decide_eq_false (by omega)
                obtain ⟨m, hm, em⟩ := numIn_nat (HXP.out _ (List.getElem_mem hlp))
                obtain ⟨bP, oP, eP, _, dp⟩ := (HP.out.ch0 hqW).at_ hlp
                subst eP
                rw [em] at dp HS
                obtain ⟨bZ, oZ, eZ, dm⟩ := (hA.ch0 hqW).nameAt hm
                injection eZ with eZ
                injection eZ with eZ1 eZ2
                subst eZ1 eZ2
                rw [HH.out] at HS
                clear em
                have i1 : (h : Int) < (A.length : Int) := by omega
                have i2 : (0 : Int) ≤ (h : Int) := by omega
                have i3 : (m : Int) < (A.length : Int) := by omega
                have i4 : (0 : Int) ≤ (m : Int) := by omega
                generalize nmA A (h : Int) = nh at *
                generalize nmA A (m : Int) = nm at *
                generalize edJ A x es0 j = E0 at *
                obtain ⟨a0, c0, rfl⟩ := ho.form'
                rw [List.length_map] at ho HNB ⊢
                have HO := Lib.hid ho
                clear ho
                go_wp2
                go_region_held3 (fun w' => w'.cell? ⟨B1, 0, none⟩ = some (.slice (some ⟨bA, oA, none⟩) A.length cA) ∧ w'.cell? ⟨B8, 0, none⟩ = some (.int .i64 (h : Int)) ∧ w'.cell? ⟨B8, 1, none⟩ = some (.slice (some ⟨bP, oP, none⟩) x.ps.length c1) ∧ w'.cell? ⟨bA, oA + h * 2, none⟩ = some (.string nh)) (go_keep) (first | fail)
                have hbX0 : Blk (wr.alloc (.cells #[.string nh, .string ⟨#[]⟩, .bool false] 81)).drew wr.heap.size 81 #[.string nh, .string ⟨#[]⟩, .bool false] := (Blk.new _ _ _).drew
                have hcX0 : Ch [] wr (wr.alloc (.cells #[.string nh, .string ⟨#[]⟩, .bool false] 81)).drew := ((Ch.refl _ _).alloc _).drew
                have hb1lt := hb1.lt
                have hb8lt := hb8.lt
                have hAlt : bA < wr.heap.size := lt_of_cell dm
                have hPlt : bP < wr.heap.size := lt_of_cell dp
                generalize (wr.alloc (.cells #[.string nh, .string ⟨#[]⟩, .bool false] 81)).drew = wX0 at *
                have hb1Y := hb1.ch hcX0 (by simp)
                have hb8Y := hb8.ch hcX0 (by simp)
                have HOY := Lib.hid (HO.out.ch0' hcX0)
                have hqY := hq2.trans hcX0
                have dmY := cell_ch (S := []) dm hcX0 (by simp)
                have dpY := cell_ch (S := []) dp hcX0 (by simp)
                have hown10 : (Value.slice a0 E0.length c0).ownBlock ≠ some wr.heap.size := fun e => by have := (HO.out.lt e).2; omega
                have HN10 := Lib.hid hown10
                obtain ⟨B10, hB10⟩ : ∃ B, B = wr.heap.size := ⟨_, rfl⟩
                have HLQ2 := HLQ.out
                rw [← hB10] at hbX0 hb1lt hb8lt hAlt hPlt HN10 HLQ2 ⊢
                clear hB10 x0 y0 y1 y2 dh dm dp hb1 hb8 HO hcX0 hq2 hown10 HLQ
                have x0 := hb1Y.cell 0
                have y1 := hb8Y.cell 1
                have y2 := hb8Y.cell 2
                have z2 := hbX0.cell 2
                have z1 := hbX0.cell 1
                have f1 := hbX0.frozen 1
                have n1 : B1 ≠ B10 := by omega
                have n2 : B8 ≠ B10 := by omega
                have n3 : bA ≠ B10 := by omega
                have n4 : bP ≠ B10 := by omega
                have HCH : Hid (Ch [B10] wX0 (wX0.setCell ⟨B10, 1, none⟩ (.string nm)).drew) := Ch.drew ((Ch.refl [B10] wX0).set (p := ⟨B10, 1, none⟩) (.inl (List.mem_singleton.2 rfl)) (.string nm))
                have hbX : Blk (wX0.setCell ⟨B10, 1, none⟩ (.string nm)).drew B10 81 #[.string nh, .string nm, .bool false] := by simpa using (hbX0.set_ 1 (.string nm)).drew
                have s0 : (wX0.setCell ⟨B10, 1, none⟩ (.string nm)).drew.cell? ⟨B1, 0, none⟩ = some (.slice (some ⟨bA, oA, none⟩) A.length cA) := cell_ch (S := [B10]) x0 HCH.out (by simpa using n1)
                have s1 : (wX0.setCell ⟨B10, 1, none⟩ (.string nm)).drew.cell? ⟨B8, 1, none⟩ = some (.slice (some ⟨bP, oP, none⟩) x.ps.length c1) := cell_ch (S := [B10]) y1 HCH.out (by simpa using n2)
                have s2 : (wX0.setCell ⟨B10, 1, none⟩ (.string nm)).drew.cell? ⟨B8, 2, none⟩ = some (.slice a2 x.ns.length c2) := cell_ch (S := [B10]) y2 HCH.out (by simpa using n2)
                have s3 := cell_ch (S := [B10]) dpY HCH.out (by simpa using n4)
                have s4 := cell_ch (S := [B10]) dmY HCH.out (by simpa using n3)
                clear hb1lt hb8lt hAlt hPlt
                go_wp2
                go_region_held3 (fun w' => w'.cell? ⟨B1, 0, none⟩ = some (.slice (some ⟨bA, oA, none⟩) A.length cA) ∧ w'.cell? ⟨B8, 1, none⟩ = some (.slice (some ⟨bP, oP, none⟩) x.ps.length c1) ∧ w'.cell? ⟨B8, 2, none⟩ = some (.slice a2 x.ns.length c2) ∧ w'.cell? ⟨bP, oP + j, none⟩ = some (.int .i64 (m : Int)) ∧ w'.cell? ⟨bA, oA + m * 2, none⟩ = some (.string nm)) (first | exact ⟨s0, s1, s2, s3, s4⟩ | go_keep) (first | fail)
                have hcX : Ch [] wN (wX0.setCell ⟨B10, 1, none⟩ (.string nm)).drew := hqY.step HCH.out (fun b hb => .inr (by rw [List.mem_singleton] at hb; subst hb; exact HLQ2))
                have HOX := Lib.hid (HOY.out.ch HCH.out (fun b hb hm => HN10.out (by rw [List.mem_singleton] at hm; rw [← hm]; exact hb)))
                have hb1X := hb1Y.ch HCH.out (by simpa using n1)
                have hb8X := hb8Y.ch HCH.out (by simpa using n2)
                clear s0 s1 s2 s3 s4 HOY hb1Y hb8Y HCH hqY x0 y1 y2 z1 z2 f1 n1 n2 n3 n4 dmY dpY hbX0 HN10
                generalize (wX0.setCell ⟨B10, 1, none⟩ (.string nm)).drew = wX at *
                obtain ⟨e, he⟩ : ∃ e : Ed, e = ⟨nh, nm, false⟩ := ⟨_, rfl⟩
                rw [← he] at HS
                replace hbX : Blk wX B10 81 #[.string e.f, .string e.t, .bool e.n] := by rw [he]; exact hbX
                have HEE := Lib.hid he
                clear he
                go_wp2
                have hsX := hcX.size
                go_loopw [11, 12] (fun b i wy => ∃ m : Nat, m ≤ E0.length ∧ i = .int .i64 m ∧ b = .bool (hasE (E0.take m) e) ∧ Ch [] wX wy) (fun _ i _ => E0.length - (intOf i).toNat)
                case atStart => exact ⟨0, Nat.zero_le _, rfl, by simp [hasE], Ch.refl _ _⟩
                case round =>
                  obtain ⟨m, hm, rfl, rfl, hy⟩ := hrel
                  have hoy := HOX.out.ch0' hy
                  have hby := hbX.ch hy (by simp)
                  have b0 := hby.cell 0
                  have b1 := hby.cell 1
                  have b2 := hby.cell 2
                  by_cases hlm : m < E0.length
                  · have jm : decide (m < E0.length) = true := decide_eq_true hlm
                    have HSN := Lib.hid (hasE_snoc E0 e m hlm)
                    cases hv : hasE (E0.take m) e with
                    | true =>
                      rw [hv] at HSN
                      clear hv
                      have HT : Hid (hasE (E0.take (m + 1)) e = true) := by unfold Hid; rw [HSN.out]; rfl
                      clear HSN
                      go_wp2
                      refine wp_region_later (by kernel_rfl) (lexB_of (by kernel_rfl)) ?_
                      repeat (go_big_quiet_step (fail))
                      refine wpQuiet_nil ?_
                      intro w6 hw6
                      clear b0 b1 b2
                      go_wp2
                      go_roundw
                      case rel => exact ⟨m + 1, by omega, by go_num, by rw [HT.out], hy.trans hw6⟩
                      case measure => simp [intOf]; omega
                    | false =>
                      rw [hv] at HSN
                      clear hv
                      obtain ⟨b3, o3, e3, hp3, k0, k1, k2⟩ := (show SlE _ _ _ E0 from hoy.sl).at_ hlm
                      subst e3
                      have K0L := Later.cell k0
                      have K1L := Later.cell k1
                      have K2L := Later.cell k2
                      have B0L := Later.cell b0
                      have B1L := Later.cell b1
                      have B2L := Later.cell b2
                      by_cases heq : E0[m] = e
                      · have he : edB E0[m].f E0[m].t E0[m].n e.f e.t e.n = true := by rw [edB_eq]; simpa using heq
                        have HT : Hid (hasE (E0.take (m + 1)) e = true) := by unfold Hid; rw [HSN.out, decide_eq_true heq]; rfl
                        clear HSN heq
                        generalize E0[m] = y at *
                        go_wp2
                        refine wp_region_later (by kernel_rfl) (lexB_of (by kernel_rfl)) ?_
                        repeat (go_big_quiet_step (fail))
                        refine wpQuiet_nil ?_
                        intro w6 hw6
                        clear K0L K1L K2L B0L B1L B2L k0 k1 k2 b0 b1 b2 he
                        go_wp2
                        go_roundw
                        case rel => exact ⟨m + 1, by omega, by go_num, by rw [HT.out], hy.trans hw6⟩
                        case measure => simp [intOf]; omega
                      · have he : edB E0[m].f E0[m].t E0[m].n e.f e.t e.n = false := by rw [edB_eq]; simpa using heq
                        have HT : Hid (hasE (E0.take (m + 1)) e = false) := by unfold Hid; rw [HSN.out, decide_eq_false heq]; rfl
                        clear HSN heq
                        generalize E0[m] = y at *
                        go_wp2
                        refine wp_region_later (by kernel_rfl) (lexB_of (by kernel_rfl)) ?_
                        repeat (go_big_quiet_step (fail))
                        refine wpQuiet_nil ?_
                        intro w6 hw6
                        clear K0L K1L K2L B0L B1L B2L k0 k1 k2 b0 b1 b2 he
                        go_wp2
                        go_roundw
                        case rel => exact ⟨m + 1, by omega, by go_num, by rw [HT.out], hy.trans hw6⟩
                        case measure => simp [intOf]; omega
                  · have hml : m = E0.length := by omega
                    have jm : decide (m < E0.length) = false := decide_eq_false hlm
                    have hqy := hcX.trans hy
                    have hB1y := hb1X.ch hy (by simp)
                    have hB8y := hb8X.ch hy (by simp)
                    have hsy := hqy.size
                    have HE : Hid (hasE (E0.take m) e = decide (e ∈ E0)) := by unfold Hid; rw [hml, List.take_length]; rfl
                    clear hml
                    cases hv : hasE (E0.take m) e with
                    | true =>
                      have HA : Hid (addE E0 e = E0) := by
                        have h1 := HE.out
                        rw [hv] at h1
                        unfold Hid addE
                        rw [if_pos (of_decide_eq_true h1.symm)]
                      clear hv HE
                      go_wp2
                      go_roundw
                      case rel => exact ⟨j + 1, _, by omega, by go_num, rfl, hqy, hB1y, hB8y, by rw [HS.out, HA.out]; exact hoy, HNB⟩
                      case measure => simp [intOf]; omega
                    | false =>
                      have HA : Hid (addE E0 e = E0 ++ [e]) := by
                        have h1 := HE.out
                        rw [hv] at h1
                        unfold Hid addE
                        rw [if_neg (of_decide_eq_false h1.symm)]
                      clear hv HE
                      go_wp2_with (at_builtin; refine wpList_append_sl rfl _ _ _ rfl elE (base := wN.heap.size) (v := .slice a0 E0.length c0) (css := E0.map Ed.enc) rfl (hoy.ch0' ((Ch.refl [] wr).alloc _)) rfl (Sl.one wr 3 _ [.string e.f, .string e.t, .bool e.n] rfl (by simp [Value.oneCell'])) (by simp; omega) (by simp; omega) ?_; intro v6 w6 ho6 hc6 hat6 hn6; clear hn6)
                      have hst : ∀ b ∈ (Value.slice a0 E0.length c0).ownBlock.toList, wN.heap.size ≤ b ∧ b ≠ B8 := fun b hb => by
                        cases hv : (Value.slice a0 E0.length c0).ownBlock with
                        | none => rw [hv] at hb; cases hb
                        | some g =>
                          rw [hv] at hb; simp at hb; subst hb
                          exact ⟨(hoy.lt hv).1, fun e => HNB.out (by rw [hv, e])⟩
                      have hq6 : Ch [] wN w6 := (hqy.alloc _).step hc6 (fun b hb => .inr (hst b hb).1)
                      have hB16 := (hB1y.alloc (.cells #[.string e.f, .string e.t, .bool e.n] 81)).ch hc6 (fun hb => by have := (hst _ hb).1; omega)
                      have hB86 := (hB8y.alloc (.cells #[.string e.f, .string e.t, .bool e.n] 81)).ch hc6 (fun hb => (hst _ hb).2 rfl)
                      have ho7 : Own w6 wN.heap.size 81 3 v6 ((edJ A x es0 (j + 1)).map Ed.enc) := by
                        have e1 : E0.map Ed.enc ++ [[Value.string e.f, Value.string e.t, Value.bool e.n]] = (edJ A x es0 (j + 1)).map Ed.enc := by rw [HS.out, HA.out, List.map_append]; rfl
                        rw [e1] at ho6
                        exact ho6
                      have hB8l := hB8y.lt
                      have HNB6 : Hid (v6.ownBlock ≠ some B8) := fun h => by
                        rcases hat6 with h1 | h1
                        · exact HNB.out (h1 ▸ h)
                        · rw [h1] at h; injection h with h; simp at h; omega
                      clear hst hc6 hat6 ho6
                      go_roundw
                      case rel => exact ⟨j + 1, v6, by omega, by go_num, rfl, hq6, hB16, hB86, ho7, HNB6⟩
                      case measure => simp [intOf]; omega
              · obtain ⟨d, hd⟩ : ∃ d : Nat, d = j - x.ps.length := ⟨_, rfl⟩
                have hdn : d < x.ns.length := by omega
                have hw1 : IntKind.i64.wrap ((j : Int) - (x.ps.length : Int)) = (d : Int) := by rw [show (j : Int) - (x.ps.length : Int) = (d : Int) by omega]; exact (wrap_sub1 d (by omega)).2.2
                have hw3 : IntKind.i64.wrap (d : Int) = (d : Int) := (wrap_sub1 d (by omega)).2.2
                have i5 : (d : Int) < (x.ns.length : Int) := by omega
                have i6 : (0 : Int) ≤ (d : Int) := by omega
                have hw2 : (j : Int) - (x.ps.length : Int) = (d : Int) := by omega
                have HS := Lib.hid (edJ_neg (A := A) (es := es0) (show x.ps.length ≤ j by omega) (by omega))
                have hdx : x.ns[j - x.ps.length] = x.ns[d] := by subst hd; rfl
                rw [hdx] at HS
                clear hd hdx
                have jp : decide (x.ps.length ≤ j) = true := decide_eq_true (by omega)
                have jp' : decide ((x.ps.length : Int) ≤ (j : Int)) = true := decide_eq_true (by omega)
                obtain ⟨m, hm, em⟩ := numIn_nat (HXN.out _ (List.getElem_mem hdn))
                obtain ⟨bP, oP, eP, _, dp⟩ := (HGN.out.ch0 hqW).at_ hdn
                subst eP
                rw [em] at dp HS
                obtain ⟨bZ, oZ, eZ, dm⟩ := (hA.ch0 hqW).nameAt hm
                injection eZ with eZ
                injection eZ with eZ1 eZ2
                subst eZ1 eZ2
                rw [HH.out] at HS
                clear em
                have i1 : (h : Int) < (A.length : Int) := by omega
                have i2 : (0 : Int) ≤ (h : Int) := by omega
                have i3 : (m : Int) < (A.length : Int) := by omega
                have i4 : (0 : Int) ≤ (m : Int) := by omega
                generalize nmA A (h : Int) = nh at *
                generalize nmA A (m : Int) = nm at *
                generalize edJ A x es0 j = E0 at *
                obtain ⟨a0, c0, rfl⟩ := ho.form'
                rw [List.length_map] at ho HNB ⊢
                have HO := Lib.hid ho
                clear ho
                go_wp2
                go_region_held3 (fun w' => w'.cell? ⟨B1, 0, none⟩ = some (.slice (some ⟨bA, oA, none⟩) A.length cA) ∧ w'.cell? ⟨B8, 0, none⟩ = some (.int .i64 (h : Int)) ∧ w'.cell? ⟨B8, 1, none⟩ = some (.slice a1 x.ps.length c1) ∧ w'.cell? ⟨bA, oA + h * 2, none⟩ = some (.string nh)) (go_keep) (first | fail)
                have hbX0 : Blk (wr.alloc (.cells #[.string nh, .string ⟨#[]⟩, .bool true] 81)).drew wr.heap.size 81 #[.string nh, .string ⟨#[]⟩, .bool true] := (Blk.new _ _ _).drew
                have hcX0 : Ch [] wr (wr.alloc (.cells #[.string nh, .string ⟨#[]⟩, .bool true] 81)).drew := ((Ch.refl _ _).alloc _).drew
                have hb1lt := hb1.lt
                have hb8lt := hb8.lt
                have hAlt : bA < wr.heap.size := lt_of_cell dm
                have hPlt : bP < wr.heap.size := lt_of_cell dp
                generalize (wr.alloc (.cells #[.string nh, .string ⟨#[]⟩, .bool true] 81)).drew = wX0 at *
                have hb1Y := hb1.ch hcX0 (by simp)
                have hb8Y := hb8.ch hcX0 (by simp)
                have HOY := Lib.hid (HO.out.ch0' hcX0)
                have hqY := hq2.trans hcX0
                have dmY := cell_ch (S := []) dm hcX0 (by simp)
                have dpY := cell_ch (S := []) dp hcX0 (by simp)
                have hown10 : (Value.slice a0 E0.length c0).ownBlock ≠ some wr.heap.size := fun e => by have := (HO.out.lt e).2; omega
                have HN10 := Lib.hid hown10
                obtain ⟨B10, hB10⟩ : ∃ B, B = wr.heap.size := ⟨_, rfl⟩
                have HLQ2 := HLQ.out
                rw [← hB10] at hbX0 hb1lt hb8lt hAlt hPlt HN10 HLQ2 ⊢
                clear hB10 x0 y0 y1 y2 dh dm dp hb1 hb8 HO hcX0 hq2 hown10 HLQ
                have x0 := hb1Y.cell 0
                have y1 := hb8Y.cell 1
                have y2 := hb8Y.cell 2
                have z2 := hbX0.cell 2
                have z1 := hbX0.cell 1
                have f1 := hbX0.frozen 1
                have n1 : B1 ≠ B10 := by omega
                have n2 : B8 ≠ B10 := by omega
                have n3 : bA ≠ B10 := by omega
                have n4 : bP ≠ B10 := by omega
                have HCH : Hid (Ch [B10] wX0 (wX0.setCell ⟨B10, 1, none⟩ (.string nm)).drew) := Ch.drew ((Ch.refl [B10] wX0).set (p := ⟨B10, 1, none⟩) (.inl (List.mem_singleton.2 rfl)) (.string nm))
                have hbX : Blk (wX0.setCell ⟨B10, 1, none⟩ (.string nm)).drew B10 81 #[.string nh, .string nm, .bool true] := by simpa using (hbX0.set_ 1 (.string nm)).drew
                have s0 : (wX0.setCell ⟨B10, 1, none⟩ (.string nm)).drew.cell? ⟨B1, 0, none⟩ = some (.slice (some ⟨bA, oA, none⟩) A.length cA) := cell_ch (S := [B10]) x0 HCH.out (by simpa using n1)
                have s1 : (wX0.setCell ⟨B10, 1, none⟩ (.string nm)).drew.cell? ⟨B8, 1, none⟩ = some (.slice a1 x.ps.length c1) := cell_ch (S := [B10]) y1 HCH.out (by simpa using n2)
                have s2 : (wX0.setCell ⟨B10, 1, none⟩ (.string nm)).drew.cell? ⟨B8, 2, none⟩ = some (.slice (some ⟨bP, oP, none⟩) x.ns.length c2) := cell_ch (S := [B10]) y2 HCH.out (by simpa using n2)
                have s3 := cell_ch (S := [B10]) dpY HCH.out (by simpa using n4)
                have s4 := cell_ch (S := [B10]) dmY HCH.out (by simpa using n3)
                clear hb1lt hb8lt hAlt hPlt
                go_wp2
                go_region_held3 (fun w' => w'.cell? ⟨B1, 0, none⟩ = some (.slice (some ⟨bA, oA, none⟩) A.length cA) ∧ w'.cell? ⟨B8, 1, none⟩ = some (.slice a1 x.ps.length c1) ∧ w'.cell? ⟨B8, 2, none⟩ = some (.slice (some ⟨bP, oP, none⟩) x.ns.length c2) ∧ w'.cell? ⟨bP, oP + d, none⟩ = some (.int .i64 (m : Int)) ∧ w'.cell? ⟨bA, oA + m * 2, none⟩ = some (.string nm)) (first | exact ⟨s0, s1, s2, s3, s4⟩ | go_keep) (first | fail)
                have hcX : Ch [] wN (wX0.setCell ⟨B10, 1, none⟩ (.string nm)).drew := hqY.step HCH.out (fun b hb => .inr (by rw [List.mem_singleton] at hb; subst hb; exact HLQ2))
                have HOX := Lib.hid (HOY.out.ch HCH.out (fun b hb hm => HN10.out (by rw [List.mem_singleton] at hm; rw [← hm]; exact hb)))
                have hb1X := hb1Y.ch HCH.out (by simpa using n1)
                have hb8X := hb8Y.ch HCH.out (by simpa using n2)
                clear s0 s1 s2 s3 s4 HOY hb1Y hb8Y HCH hqY x0 y1 y2 z1 z2 f1 n1 n2 n3 n4 dmY dpY hbX0 HN10
                generalize (wX0.setCell ⟨B10, 1, none⟩ (.string nm)).drew = wX at *
                obtain ⟨e, he⟩ : ∃ e : Ed, e = ⟨nh, nm, true⟩ := ⟨_, rfl⟩
                rw [← he] at HS
                replace hbX : Blk wX B10 81 #[.string e.f, .string e.t, .bool e.n] := by rw [he]; exact hbX
                have HEE := Lib.hid he
                clear he
                go_wp2
                have hsX := hcX.size
                go_loopw [11, 12] (fun b i wy => ∃ m : Nat, m ≤ E0.length ∧ i = .int .i64 m ∧ b = .bool (hasE (E0.take m) e) ∧ Ch [] wX wy) (fun _ i _ => E0.length - (intOf i).toNat)
                case atStart => exact ⟨0, Nat.zero_le _, rfl, by simp [hasE], Ch.refl _ _⟩
                case round =>
                  obtain ⟨m, hm, rfl, rfl, hy⟩ := hrel
                  have hoy := HOX.out.ch0' hy
                  have hby := hbX.ch hy (by simp)
                  have b0 := hby.cell 0
                  have b1 := hby.cell 1
                  have b2 := hby.cell 2
                  by_cases hlm : m < E0.length
                  · have jm : decide (m < E0.length) = true := decide_eq_true hlm
                    have HSN := Lib.hid (hasE_snoc E0 e m hlm)
                    cases hv : hasE (E0.take m) e with
                    | true =>
                      rw [hv] at HSN
                      clear hv
                      have HT : Hid (hasE (E0.take (m + 1)) e = true) := by unfold Hid; rw [HSN.out]; rfl
                      clear HSN
                      go_wp2
                      refine wp_region_later (by kernel_rfl) (lexB_of (by kernel_rfl)) ?_
                      repeat (go_big_quiet_step (fail))
                      refine wpQuiet_nil ?_
                      intro w6 hw6
                      clear b0 b1 b2
                      go_wp2
                      go_roundw
                      case rel => exact ⟨m + 1, by omega, by go_num, by rw [HT.out], hy.trans hw6⟩
                      case measure => simp [intOf]; omega
                    | false =>
                      rw [hv] at HSN
                      clear hv
                      obtain ⟨b3, o3, e3, hp3, k0, k1, k2⟩ := (show SlE _ _ _ E0 from hoy.sl).at_ hlm
                      subst e3
                      have K0L := Later.cell k0
                      have K1L := Later.cell k1
                      have K2L := Later.cell k2
                      have B0L := Later.cell b0
                      have B1L := Later.cell b1
                      have B2L := Later.cell b2
                      by_cases heq : E0[m] = e
                      · have he : edB E0[m].f E0[m].t E0[m].n e.f e.t e.n = true := by rw [edB_eq]; simpa using heq
                        have HT : Hid (hasE (E0.take (m + 1)) e = true) := by unfold Hid; rw [HSN.out, decide_eq_true heq]; rfl
                        clear HSN heq
                        generalize E0[m] = y at *
                        go_wp2
                        refine wp_region_later (by kernel_rfl) (lexB_of (by kernel_rfl)) ?_
                        repeat (go_big_quiet_step (fail))
                        refine wpQuiet_nil ?_
                        intro w6 hw6
                        clear K0L K1L K2L B0L B1L B2L k0 k1 k2 b0 b1 b2 he
                        go_wp2
                        go_roundw
                        case rel => exact ⟨m + 1, by omega, by go_num, by rw [HT.out], hy.trans hw6⟩
                        case measure => simp [intOf]; omega
                      · have he : edB E0[m].f E0[m].t E0[m].n e.f e.t e.n = false := by rw [edB_eq]; simpa using heq
                        have HT : Hid (hasE (E0.take (m + 1)) e = false) := by unfold Hid; rw [HSN.out, decide_eq_false heq]; rfl
                        clear HSN heq
                        generalize E0[m] = y at *
                        go_wp2
                        refine wp_region_later (by kernel_rfl) (lexB_of (by kernel_rfl)) ?_
                        repeat (go_big_quiet_step (fail))
                        refine wpQuiet_nil ?_
                        intro w6 hw6
                        clear K0L K1L K2L B0L B1L B2L k0 k1 k2 b0 b1 b2 he
                        go_wp2
                        go_roundw
                        case rel => exact ⟨m + 1, by omega, by go_num, by rw [HT.out], hy.trans hw6⟩
                        case measure => simp [intOf]; omega
                  · have hml : m = E0.length := by omega
                    have jm : decide (m < E0.length) = false := decide_eq_false hlm
                    have hqy := hcX.trans hy
                    have hB1y := hb1X.ch hy (by simp)
                    have hB8y := hb8X.ch hy (by simp)
                    have hsy := hqy.size
                    have HE : Hid (hasE (E0.take m) e = decide (e ∈ E0)) := by unfold Hid; rw [hml, List.take_length]; rfl
                    clear hml
                    cases hv : hasE (E0.take m) e with
                    | true =>
                      have HA : Hid (addE E0 e = E0) := by
                        have h1 := HE.out
                        rw [hv] at h1
                        unfold Hid addE
                        rw [if_pos (of_decide_eq_true h1.symm)]
                      clear hv HE
                      go_wp2
                      go_roundw
                      case rel => exact ⟨j + 1, _, by omega, by go_num, rfl, hqy, hB1y, hB8y, by rw [HS.out, HA.out]; exact hoy, HNB⟩
                      case measure => simp [intOf]; omega
                    | false =>
                      have HA : Hid (addE E0 e = E0 ++ [e]) := by
                        have h1 := HE.out
                        rw [hv] at h1
                        unfold Hid addE
                        rw [if_neg (of_decide_eq_false h1.symm)]
                      clear hv HE
                      go_wp2_with (at_builtin; refine wpList_append_sl rfl _ _ _ rfl elE (base := wN.heap.size) (v := .slice a0 E0.length c0) (css := E0.map Ed.enc) rfl (hoy.ch0' ((Ch.refl [] wr).alloc _)) rfl (Sl.one wr 3 _ [.string e.f, .string e.t, .bool e.n] rfl (by simp [Value.oneCell'])) (by simp; omega) (by simp; omega) ?_; intro v6 w6 ho6 hc6 hat6 hn6; clear hn6)
                      have hst : ∀ b ∈ (Value.slice a0 E0.length c0).ownBlock.toList, wN.heap.size ≤ b ∧ b ≠ B8 := fun b hb => by
                        cases hv : (Value.slice a0 E0.length c0).ownBlock with
                        | none => rw [hv] at hb; cases hb
                        | some g =>
                          rw [hv] at hb; simp at hb; subst hb
                          exact ⟨(hoy.lt hv).1, fun e => HNB.out (by rw [hv, e])⟩
                      have hq6 : Ch [] wN w6 := (hqy.alloc _).step hc6 (fun b hb => .inr (hst b hb).1)
                      have hB16 := (hB1y.alloc (.cells #[.string e.f, .string e.t, .bool e.n] 81)).ch hc6 (fun hb => by have := (hst _ hb).1; omega)
                      have hB86 := (hB8y.alloc (.cells #[.string e.f, .string e.t, .bool e.n] 81)).ch hc6 (fun hb => (hst _ hb).2 rfl)
                      have ho7 : Own w6 wN.heap.size 81 3 v6 ((edJ A x es0 (j + 1)).map Ed.enc) := by
                        have e1 : E0.map Ed.enc ++ [[Value.string e.f, Value.string e.t, Value.bool e.n]] = (edJ A x es0 (j + 1)).map Ed.enc := by rw [HS.out, HA.out, List.map_append]; rfl
                        rw [e1] at ho6
                        exact ho6
                      have hB8l := hB8y.lt
                      have HNB6 : Hid (v6.ownBlock ≠ some B8) := fun h => by
                        rcases hat6 with h1 | h1
                        · exact HNB.out (h1 ▸ h)
                        · rw [h1] at h; injection h with h; simp at h; omega
                      clear hst hc6 hat6 ho6
                      go_roundw
                      case rel => exact ⟨j + 1, v6, by omega, by go_num, rfl, hq6, hB16, hB86, ho7, HNB6⟩
                      case measure => simp [intOf]; omega
            · have hjl : j = x.ps.length + x.ns.length := by omega
              have jj : decide (j < x.ps.length + x.ns.length) = false := decide_eq_false hlj
              have jj' : decide ((j : Int) < (x.ps.length : Int) + (x.ns.length : Int)) = false := decide_eq_false (by omega)
              have ho9 : Own wr wN.heap.size 81 3 v ((gEds A (rs.take (k + 1))).map Ed.enc) := by rw [← HFU.out, ← hjl]; exact ho
              clear hjl
              go_wp2
              go_roundw
              case rel => exact ⟨k + 1, v, by omega, by go_num, rfl, hq2, hb1, ho9⟩
              case measure => simp [intOf]; omega
        · have hkr : k = rs.length := by omega
          have j2 : decide (k < rs.length) = false := decide_eq_false hlt
          have ho9 : Own wr wN.heap.size 81 3 vO ((gEds A rs).map Ed.enc) := by rw [hkr, List.take_length] at ho; exact ho
          have HO9 := Lib.hid ho9
          clear hkr ho ho9
          go_wp2
          go_ret2
          exact ⟨_, _, rfl, (show SlE _ _ _ (gEds A rs) from HO9.out.sl).weak (fun b _ hb => by have h1 := hb.1; have h2 := HQN.out.size; omega), HNM.out.ch0 hN, hq⟩
end

section
open Go.RowKit

theorem stA_take {A : List Tm} {k : Nat} (lv : List Lv) (h : k < A.length) : ((A.take (k + 1)).map fun t => max (ofL lv t.name) 0) = ((A.take k).map fun t => max (ofL lv t.name) 0) ++ [max (ofL lv A[k].name) 0] := by
  rw [take_snoc A k h, List.map_append]; rfl
/-- every atom's name has a level -/
theorem lv_nn {A : List Tm} {es : List Ed} {lv : List Lv} (h : LvAns es (nmsG A) (some lv)) : ∀ t ∈ A, 0 ≤ ofL lv t.name := by
  intro t ht
  rcases h with ⟨f, _, _, e⟩ | ⟨_, e⟩
  · injection e with e
    subst e
    rw [ofL_list, if_pos ((mem_nmsG A _).2 ⟨t, ht, rfl⟩)]
    exact Int.natCast_nonneg _
  · cases e

set_option maxRecDepth 100000 in
set_option maxHeartbeats 8000000 in
theorem refStrata14_ (A : List Tm) (rs : List Gr) (p : Nat → Prop) (va vr : Value) (w : World) (hA : SlT p w va A) (hR : SlGr p w vr rs) (hb : GdBnd A rs) :
    Calls Tryz.prog 12 #[.agg #[va, vr]] w fun e w' => ∃ v1, e = .returned (.tuple #[v1, .int .i64 (stV A rs).1]) ∧ SlI (fun b => w.heap.size ≤ b) w' v1 (stV A rs).2 ∧ Ch [] w w' := by
  have hA0 : SlT (fun _ => True) w va A := hA.weak (fun _ _ _ => trivial)
  have hR0 : SlGr (fun _ => True) w vr rs := hR.weak (fun _ _ _ => trivial)
  clear hA hR
  obtain ⟨hfit, hd, B, bb, hN, hBm⟩ := hb
  have ha := hfit.a
  have hr := hfit.r
  obtain ⟨aA, cA, rfl, _, hmA⟩ := hA0.form
  obtain ⟨aR, cR, rfl, _, _⟩ := hR0.form
  have hbn := Blk.new w 25 #[.slice aA A.length cA, .slice aR rs.length cR]
  have hcA : Ch [] w (w.alloc (.cells #[.slice aA A.length cA, .slice aR rs.length cR] 25)) := (Ch.refl _ _).alloc _
  have hval := fun wz (hz : Ch [] w wz) => refValidG_ A rs B bb hN hBm _ _ _ wz (hA0.ch0 hz) (hR0.ch0 hz) hd (by omega) (by omega) (fun x hx => by have := hfit.x x hx; omega)
  have x0 := hbn.cell 0
  have x1 := hbn.cell 1
  have hszA : w.heap.size ≤ (w.alloc (.cells #[.slice aA A.length cA, .slice aR rs.length cR] 25)).heap.size := hcA.size
  generalize hwA : (w.alloc (.cells #[.slice aA A.length cA, .slice aR rs.length cR] 25)) = wA at *
  have HV := Lib.hid (hval wA hcA)
  clear hval
  cases hg : gdOk A rs with
  | false =>
    have HE : Hid (stV A rs = (13, [])) := by unfold Hid stV; rw [hg]; rfl
    rw [hg] at HV
    clear hg
    have hv := HV.out
    go_enter Tryz.func12, Tryz.ntmps12
    go_wp2_with (go_at_call 32; ((with_reducible refine hv.mono ?_); rintro e w1 ⟨rfl, hc1⟩; clear hv))
    go_ret2
    rw [HE.out]
    exact ⟨_, rfl, SlI.nilZ _ _, hcA.trans hc1⟩
  | true =>
    have HOK := Lib.hid (gdOk_rules hg)
    have HG : Hid (stV A rs = match stA A rs with | none => (10, []) | some st => (0, st)) := by unfold Hid stV; rw [hg]; rfl
    rw [hg] at HV
    clear hg
    have hv := HV.out
    have HED := Lib.hid (fun wz (hz : Ch [] w wz) => refEdges14_ A rs _ _ _ wz (hA0.ch0 hz) (hR0.ch0 hz) hfit HOK.out.1)
    have HEN := Lib.hid (nmsG_ends (A := A) HOK.out.1)
    have HND := Lib.hid (asc_nodup sLt_sto (nmsG_asc A))
    have hnl := nmsG_len A
    have hel := gEds_fit hfit rs.length
    rw [List.take_length] at hel
    have HST := Lib.hid (fun (o : Option (List Lv)) (ho : LvAns (gEds A rs) (nmsG A) o) => stA_of (A := A) (rs := rs) (fun e => Iff.rfl) HEN.out ho)
    generalize gEds A rs = es at *
    generalize hnm : nmsG A = nms at *
    go_enter Tryz.func12, Tryz.ntmps12
    go_wp2_with (go_at_call 32; ((with_reducible refine hv.mono ?_); rintro e w1 ⟨rfl, hc1⟩; clear hv; have y0 := (hbn.ch hc1 (by simp)).cell 0; have y1 := (hbn.ch hc1 (by simp)).cell 1))
    have hc01 := hcA.trans hc1
    ((with_reducible refine (HED.out _ hc01).mono ?_); rintro e w2 ⟨v2, v3, rfl, h2, h3, hc2⟩)
    have hc02 := hc01.trans hc2
    have hs1 := hc01.size
    have hs2 := hc2.size
    have hle := ref10Least _ _ v2 v3 es nms w2 h2 h3 HND.out HEN.out (by omega) (by omega)
    go_wp2_with fail
    ((with_reducible refine hle.mono ?_); rintro e w3 ⟨v4, ok, o, rfl, hans, hres, hc3⟩)
    have hc03 := hc02.trans hc3
    have hst := HST.out o hans
    have hb3 := hbn.ch ((hc1.trans hc2).trans hc3) (by simp)
    have g0 := hb3.cell 0
    have g1 := hb3.cell 1
    clear hle h2 h3
    rcases hst with ⟨rfl, hs⟩ | ⟨lv, rfl, hs⟩
    · obtain ⟨rfl, rfl⟩ := hres
      have HE := Lib.hid (show stV A rs = (10, []) by rw [HG.out, hs])
      clear hs
      go_wp2
      go_ret2
      rw [HE.out]
      exact ⟨_, rfl, SlI.nilZ _ _, hc03⟩
    · obtain ⟨hlv, rfl⟩ := hres
      have HE := Lib.hid (show stV A rs = (0, A.map fun t => max (ofL lv t.name) 0) by rw [HG.out, hs])
      have HNN : Hid (∀ t ∈ A, 0 ≤ ofL lv t.name) := by rw [← hnm] at hans; exact lv_nn hans
      have HLV := Lib.hid hlv
      have hs3 := hc3.size
      have hs0 : w.heap.size ≤ w3.heap.size := hc03.size
      clear hs hans hlv hnm
      go_wp2
      have HB3 := Lib.hid hb3
      clear g0 g1 hb3
      go_loopw [8, 9] (fun o i wr => ∃ k : Nat, k ≤ A.length ∧ i = .int .i64 k ∧ Ch [] w3 wr ∧ Own wr w3.heap.size 3 1 o (((A.take k).map fun t => max (ofL lv t.name) 0).map encI)) (fun _ i _ => A.length - (intOf i).toNat)
      case atStart => exact ⟨0, Nat.zero_le _, rfl, Ch.refl _ _, Own.nil _ _ _ _⟩
      case round =>
        obtain ⟨k, hk, rfl, hq3, ho⟩ := hrel
        have hq := hc03.trans hq3
        have hsq := hq3.size
        have hb := HB3.out.ch hq3 (by simp)
        have g0 := hb.cell 0
        have g1 := hb.cell 1
        by_cases hlt : k < A.length
        · have j1 : decide (k < A.length) = true := decide_eq_true hlt
          obtain ⟨bA, oA, rfl, dn⟩ := (hA0.ch0 hq).nameAt hlt
          have HS := Lib.hid (stA_take lv hlt)
          have hnn := HNN.out _ (List.getElem_mem hlt)
          rw [← nmA_at hlt] at HS hnn
          have hlk : ((A.take k).map fun t => max (ofL lv t.name) 0).length = k := by simp; omega
          have HLK := Lib.hid hlk
          have hcall := ref10Of _ _ lv (nmA A (k : Int)) wr (HLV.out.ch0 hq3)
          generalize nmA A (k : Int) = nm at *
          generalize hM : ((A.take k).map fun t => max (ofL lv t.name) 0) = M at *
          have HM : Hid (max (ofL lv nm) 0 = ofL lv nm) := by unfold Hid; omega
          rw [HM.out] at HS
          generalize ofL lv nm = q at *
          obtain ⟨a0, c0, rfl⟩ := ho.form'
          rw [List.length_map] at ho ⊢
          clear hM hlk
          go_wp2_with (first
            | (go_at_call 35; ((with_reducible refine hcall.mono ?_); rintro e w6 ⟨rfl, rfl⟩; clear hcall))
            | (at_builtin; refine wpList_append_sl rfl _ _ _ rfl elIn (base := w3.heap.size) (v := .slice a0 M.length c0) (css := M.map encI) rfl (ho.ch0' ((Ch.refl [] wr).alloc _)) rfl (Sl.one wr 1 _ [.int .i64 q] rfl (by simp [Value.oneCell'])) (by have := HLK.out; simp; omega) (by simp; omega) ?_; intro v6 w6 ho6 hc6 hat6 hn6; clear hn6))
          have hcB : Ch [] w3 w6 := (hq3.alloc _).step hc6 (fun b hb => .inr (by
            cases hv : (Value.slice a0 M.length c0).ownBlock with
            | none => rw [hv] at hb; cases hb
            | some g => rw [hv] at hb; simp at hb; subst hb; exact (ho.lt hv).1))
          have ho7 : Own w6 w3.heap.size 3 1 v6 ((M ++ [q]).map encI) := by
            have e : M.map encI ++ [[Value.int .i64 q]] = (M ++ [q]).map encI := by rw [List.map_append]; rfl
            rw [e] at ho6
            exact ho6
          go_roundw
          case rel => exact ⟨k + 1, by omega, by go_num, hcB, by rw [HS.out]; exact ho7⟩
          case measure => simp [intOf]; omega
        · have hkl : k = A.length := by omega
          have j1 : decide (k < A.length) = false := decide_eq_false hlt
          have HO := Lib.hid ho
          go_wp2
          go_ret2
          rw [HE.out]
          refine ⟨_, rfl, ?_, hq⟩
          have h1 := HO.out.sl
          rw [hkl, List.take_length] at h1
          exact (show SlI _ _ _ _ from h1).weak (fun b _ hb => by have := hb.1; omega)
end
end Go.Proofs.YtojokdicbopknaaGreat
