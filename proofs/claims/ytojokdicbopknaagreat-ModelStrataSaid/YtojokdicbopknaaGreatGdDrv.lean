
/-
  The contracts of model.reason, of its closure and of the search over the rules.
  The contract of model.Why.
  What the recursive closure of model.Derivation needs besides: the done atoms and the rules that are in the list. No program is in sight here.
  The contract of the recursive closure of model.Derivation.
-/
import Derived.Test.YtojokdicbopknaaGreatGdRnk
import Derived.Test.YtojokdicbopknaaGreatGdPl
import Derived.Deep.RegionHeld3
import Derived.Test.YtojokdicbopknaaGreatGdNum
namespace Go.Proofs.YtojokdicbopknaaGreat

section
open Go.RowKit

set_option maxRecDepth 100000 in
set_option maxHeartbeats 4000000 in
theorem reason1_ (x : Gr) (N : Nat) (st rk : List Int) (hs : st.length = N) (hr : rk.length = N) (hx : grOk N x = true) (n lv rd : Int) (p q r : Nat → Prop) (va vb vs vr : Value) (w : World) (Bn Bf B4 B5 B6 B7 B9 : Nat) (hn : Blk w Bn 3 #[.int .i64 n])
    (hf : Blk w Bf 95 #[.func (.func 82) #[] #[.pointer (some ⟨B9, 0, none⟩), .pointer (some ⟨B5, 0, none⟩)]]) (h : FrAt w B4 B5 B6 B7 B9 vs vr lv rd) (h1 : SlI p w vs st) (h2 : SlI q w vr rk) (h3 : SlI r w va x.ps) (h4 : SlI r w vb x.ns) :
    Calls Tryz.prog 61 #[.agg #[.int .i64 x.h, va, vb], .pointer (some ⟨Bn, 0, none⟩), .pointer (some ⟨Bf, 0, none⟩)] w fun e w' => e = .returned (.bool (decide (x.h = n) && fireB st rk lv rd x)) ∧ Ch [] w w' := by
  have hcall := fun wz (hz : Ch [] w wz) => fires2_ x N st rk hs hr hx lv rd p q r va vb vs vr wz B4 B5 B6 B7 B9 (h.ch0 hz) (h1.ch0 hz) (h2.ch0 hz) (h3.ch0 hz) (h4.ch0 hz)
  obtain ⟨a1, c1, rfl, _, _⟩ := h3.form
  obtain ⟨a2, c2, rfl, _, _⟩ := h4.form
  clear h h1 h2 h3 h4 hx hs hr
  generalize fireB st rk lv rd x = R at *
  generalize x.ps.length = n1 at *
  generalize x.ns.length = n2 at *
  generalize x.h = xh at *
  have hbx := Blk.new w 44 #[.int .i64 xh, .slice a1 n1 c1, .slice a2 n2 c2]
  have hcA : Ch [] w (w.alloc (.cells #[.int .i64 xh, .slice a1 n1 c1, .slice a2 n2 c2] 44)) := (Ch.refl _ _).alloc _
  generalize hwA : (w.alloc (.cells #[.int .i64 xh, .slice a1 n1 c1, .slice a2 n2 c2] 44)) = wA at *
  have b0 := hbx.cell 0
  have b1 := hbx.cell 1
  have b2 := hbx.cell 2
  have d0 := (hn.ch hcA (by simp)).cell 0
  have d1 := (hf.ch hcA (by simp)).cell 0
  have hc := hcall _ hcA
  by_cases t0 : xh = n
  · have j0 : decide (xh = n) = true := decide_eq_true t0
    have HR : Hid ((decide (xh = n) && R) = R) := by unfold Hid; rw [j0]; rfl
    have j1 : (xh == n) = true := by simpa using t0
    clear t0
    go_enter Tryz.func61, Tryz.ntmps61
    go_wp2_with (go_at_call 82; ((with_reducible refine hc.mono ?_); rintro e w1 ⟨rfl, hc1⟩; clear hc))
    go_ret
    exact ⟨by rw [HR.out]; rfl, hcA.trans hc1⟩
  · have j0 : decide (xh = n) = false := decide_eq_false t0
    have HR : Hid ((decide (xh = n) && R) = false) := by unfold Hid; rw [j0]; rfl
    have j1 : (xh == n) = false := by simpa using t0
    clear t0
    go_enter Tryz.func61, Tryz.ntmps61
    go_wp2
    go_ret
    exact ⟨by rw [HR.out]; rfl, hcA⟩

set_option maxRecDepth 100000 in
set_option maxHeartbeats 2000000 in
theorem idxR_ (f : Gr → Bool) (k1 k2 : Value) (p : Nat → Prop) (v : Value) (xs : List Gr) (w : World) (h : SlGr p w v xs)
    (hF : ∀ x ∈ xs, ∀ wz va vb, Ch [] w wz → SlI p wz va x.ps → SlI p wz vb x.ns → Calls Tryz.prog 61 #[.agg #[.int .i64 x.h, va, vb], k1, k2] wz fun e w' => e = .returned (.bool (f x)) ∧ Ch [] wz w') :
    Calls Tryz.prog 60 #[v, .func (.func 61) #[] #[k1, k2]] w fun e w' => e = .returned (.int .i64 (idxG f xs)) ∧ Ch [] w w' := by
  obtain ⟨a, c, rfl, hlc, hm⟩ := h.form
  unfold maxLen at hm
  have HF := Lib.hid hF; clear hF
  go_enter Tryz.func60, Tryz.ntmps60
  go_wp2
  go_loopw [5, 8] (fun _ i wr => ∃ k : Nat, k ≤ xs.length ∧ i = .int .i64 k ∧ Ch [] w wr ∧ Hid (∀ j (hj : j < xs.length), j < k → f xs[j] = false)) (fun _ i _ => xs.length - (intOf i).toNat)
  case atStart => exact ⟨0, Nat.zero_le _, rfl, Ch.refl _ _, fun j _ h => absurd h (Nat.not_lt_zero _)⟩
  case round =>
    obtain ⟨k, hk, rfl, hB, HN⟩ := hrel
    by_cases hlt : k < xs.length
    · obtain ⟨b, o, a1, c1, a2, c2, rfl, hp, d0, d1, d2, h2, h3⟩ := (h.ch0 hB).at_ hlt
      have hcall := HF.out xs[k] (List.getElem_mem hlt) wr _ _ hB h2 h3
      cases hq : f xs[k] with
      | true =>
        rw [hq] at hcall
        have HR := Lib.hid (idxG_at f xs k hlt (fun j hj => HN.out j _ hj) hq)
        clear hq h2 h3
        generalize xs[k] = x at *
        go_wp2_with (go_at_call 61; refine hcall.mono ?_; rintro e w1 ⟨rfl, hc1⟩; clear hcall)
        go_ret
        exact ⟨by rw [HR.out]; rfl, hB.trans hc1⟩
      | false =>
        rw [hq] at hcall
        have HX : Hid (∀ j (hj : j < xs.length), j < k + 1 → f xs[j] = false) := fun j hj h1 => by
          rcases Nat.lt_succ_iff_lt_or_eq.1 h1 with h2 | h2
          · exact HN.out j hj h2
          · subst h2; exact hq
        clear hq h2 h3
        generalize xs[k] = x at *
        go_wp2_with (go_at_call 61; refine hcall.mono ?_; rintro e w1 ⟨rfl, hc1⟩; clear hcall)
        go_roundw
        case rel => exact ⟨k + 1, by omega, by go_num, hB.trans hc1, HX⟩
        case measure => simp [intOf]; omega
    · have HR := Lib.hid (idxG_none f xs (fun j hj => HN.out j hj (by omega)))
      go_wp2
      go_ret
      exact ⟨by rw [HR.out]; rfl, hB⟩

attribute [local go_sem] run_store_func
set_option maxRecDepth 100000 in
set_option maxHeartbeats 4000000 in
theorem reason_ (rs : List Gr) (N m : Nat) (st rk : List Int) (hs : st.length = N) (hr : rk.length = N) (hx : ∀ x ∈ rs, grOk N x = true) (hm : m < N) (p q r : Nat → Prop) (aA : Option Addr) (nA cA : Nat) (vr vs vk : Value) (w : World) (hR : SlGr p w vr rs) (hS : SlI q w vs st) (hK : SlI r w vk rk) :
    Calls Tryz.prog 38 #[.agg #[.slice aA nA cA, vr], vs, vk, .int .i64 (m : Int)] w fun e w' => e = .returned (.int .i64 (idxG (fun x => decide (x.h = (m : Int)) && fireB st rk (gI st (m : Int)) (gI rk (m : Int)) x) rs)) ∧ Ch [] w w' := by
  have hsm : m < st.length := by omega
  have hkm : m < rk.length := by omega
  have hG1 := gI_at hsm
  have hG2 := gI_at hkm
  obtain ⟨aR, cR, rfl, _, _⟩ := hR.form
  obtain ⟨aS, cS, rfl, _, _⟩ := hS.form
  obtain ⟨aK, cK, rfl, _, _⟩ := hK.form
  obtain ⟨bS, oS, eS, hpS, dS⟩ := hS.at_ hsm
  obtain ⟨bK, oK, eK, hpK, dK⟩ := hK.at_ hkm
  subst eS eK
  rw [hG1, hG2]
  have HRR := Lib.hid hR
  have HSS := Lib.hid hS
  have HKK := Lib.hid hK
  have HS := Lib.hid hs
  have HRL := Lib.hid hr
  have HX := Lib.hid hx
  clear hR hS hK hs hr hx hG1 hG2
  generalize st[m] = lv at *
  generalize rk[m] = rd at *
  have hb4 := (Blk.new w 25 #[.slice aA nA cA, .slice aR rs.length cR]).alloc (.cells #[.int .i64 (m : Int)] 3)
  have hb7 := Blk.new (w.alloc (.cells #[.slice aA nA cA, .slice aR rs.length cR] 25)) 3 #[.int .i64 (m : Int)]
  have hcA : Ch [] w ((w.alloc (.cells #[.slice aA nA cA, .slice aR rs.length cR] 25)).alloc (.cells #[.int .i64 (m : Int)] 3)) := ((Ch.refl _ _).alloc _).alloc _
  rw [show (w.alloc (.cells #[.slice aA nA cA, .slice aR rs.length cR] 25)).heap.size = w.heap.size + 1 by simp] at hb7
  generalize hwA : ((w.alloc (.cells #[.slice aA nA cA, .slice aR rs.length cR] 25)).alloc (.cells #[.int .i64 (m : Int)] 3)) = wA at *
  have d0 := hb7.cell 0
  have dS1 := cell_ch (S := []) dS hcA (by simp)
  have dK1 := cell_ch (S := []) dK hcA (by simp)
  have i1 : (m : Int) < (st.length : Int) := by omega
  have i2 : (m : Int) < (rk.length : Int) := by omega
  have i3 : (0 : Int) ≤ (m : Int) := by omega
  have z0 := World.new_ne wA _ d0
  have z1 := World.new_ne wA _ dS1
  have z2 := World.new_ne wA _ dK1
  have hfi := fun wz => fires_ (some ⟨bS, oS, none⟩) (some ⟨bK, oK, none⟩) st.length cS rk.length cK lv rd wz
  have HFIN := Lib.hid (fun wF Bf B4 B5 B6 B7 B9 (hc : Ch [] wA wF) (hbf : Blk wF Bf 95 #[(.func (.func 82) #[] #[.pointer (some ⟨B9, 0, none⟩), .pointer (some ⟨B5, 0, none⟩)])]) (hf : FrAt wF B4 B5 B6 B7 B9 (.slice (some ⟨bS, oS, none⟩) st.length cS) (.slice (some ⟨bK, oK, none⟩) rk.length cK) lv rd) =>
    idxR_ (fun x => decide (x.h = (m : Int)) && fireB st rk lv rd x) (.pointer (some ⟨w.heap.size + 1, 0, none⟩)) (.pointer (some ⟨Bf, 0, none⟩)) _ _ rs wF (HRR.out.ch0 (hcA.trans hc)) (fun x hx wz va vb hz h3 h4 =>
      reason1_ x N st rk HS.out HRL.out (HX.out x hx) (m : Int) lv rd _ _ _ va vb _ _ wz (w.heap.size + 1) Bf B4 B5 B6 B7 B9 (hb7.ch (hc.trans hz) (by simp)) (hbf.ch hz (by simp)) (hf.ch0 hz) (HSS.out.ch0 ((hcA.trans hc).trans hz)) (HKK.out.ch0 ((hcA.trans hc).trans hz)) h3 h4))
  go_enter Tryz.func38, Tryz.ntmps38
  go_wp2
  go_region_held3 (fun w' => w'.cell? ⟨w.heap.size + 1, 0, none⟩ = some (.int .i64 (m : Int)) ∧ w'.cell? ⟨bS, oS + m, none⟩ = some (.int .i64 lv) ∧ w'.cell? ⟨bK, oK + m, none⟩ = some (.int .i64 rd)) (go_keep) (first
    | (with_reducible refine (hfi _).mono ?_; rintro e w1 ⟨B4, B5, B6, B7, B9, rfl, hge, hFr, hc1⟩; have hz : Ch [] wA w1 := ((Ch.refl [] wA).drew).trans hc1; have e0 := (hb7.ch hz (by simp)).cell 0; have e1 := cell_ch (S := []) dS1 hz (by simp); have e2 := cell_ch (S := []) dK1 hz (by simp); have f1 := (Blk.new w1 95 #[.nilFunc]).cell 0; have f2 := (Blk.new w1 95 #[.nilFunc]).frozen 0)
    | (with_reducible refine (hfi _).mono ?_; rintro e w1 ⟨B4, B5, B6, B7, B9, rfl, hge, hFr, hc1⟩; have hz : Ch [] wA w1 := (((Ch.refl [] wA).alloc (.cells #[.nilFunc] 95)).drew).trans hc1; have e0 := (hb7.ch hz (by simp)).cell 0; have e1 := cell_ch (S := []) dS1 hz (by simp); have e2 := cell_ch (S := []) dK1 hz (by simp); have hbf := (Blk.new wA 95 #[.nilFunc]).drew.ch hc1 (by simp); have f1 := hbf.cell 0; have f2 := hbf.frozen 0))
  all_goals
    clear f1 f2 e0 e1 e2 d0 dS1 dK1 z0 z1 z2
  · have hc : Ch [] wA (w1.alloc (.cells #[(.func (.func 82) #[] #[.pointer (some ⟨B9, 0, none⟩), .pointer (some ⟨B5, 0, none⟩)])] 95)) := hz.alloc _
    have hbf : Blk (w1.alloc (.cells #[(.func (.func 82) #[] #[.pointer (some ⟨B9, 0, none⟩), .pointer (some ⟨B5, 0, none⟩)])] 95)) w1.heap.size 95 #[(.func (.func 82) #[] #[.pointer (some ⟨B9, 0, none⟩), .pointer (some ⟨B5, 0, none⟩)])] := Blk.new w1 95 #[(.func (.func 82) #[] #[.pointer (some ⟨B9, 0, none⟩), .pointer (some ⟨B5, 0, none⟩)])]
    have hF2 := hFr.ch0 ((Ch.refl [] w1).alloc (.cells #[(.func (.func 82) #[] #[.pointer (some ⟨B9, 0, none⟩), .pointer (some ⟨B5, 0, none⟩)])] 95))
    have hcall := HFIN.out _ _ _ _ _ _ _ hc hbf hF2
    have g1 := (hb4.ch hc (by simp)).cell 1
    clear hFr hF2 hbf hge hc1 HFIN
    go_wp2_with (go_at_call 60; refine hcall.mono ?_; rintro e w2 ⟨rfl, hc2⟩; clear hcall)
    go_ret
    exact ⟨rfl, (hcA.trans hc).trans hc2⟩
  · have hc : Ch [] wA (w1.setCell ⟨wA.heap.size, 0, none⟩ (.func (.func 82) #[] #[.pointer (some ⟨B9, 0, none⟩), .pointer (some ⟨B5, 0, none⟩)])) := hz.set (.inr (Nat.le_refl _)) _
    have hbg : Blk (w1.setCell ⟨wA.heap.size, 0, none⟩ (.func (.func 82) #[] #[.pointer (some ⟨B9, 0, none⟩), .pointer (some ⟨B5, 0, none⟩)])) wA.heap.size 95 #[(.func (.func 82) #[] #[.pointer (some ⟨B9, 0, none⟩), .pointer (some ⟨B5, 0, none⟩)])] := hbf.set_ 0 _
    have hge2 : wA.heap.size + 1 ≤ B4 ∧ wA.heap.size + 1 ≤ B5 ∧ wA.heap.size + 1 ≤ B6 ∧ wA.heap.size + 1 ≤ B7 ∧ wA.heap.size + 1 ≤ B9 := by simpa using hge
    have hF2 := hFr.ch (S := [wA.heap.size]) ((Ch.refl _ _).set (p := ⟨wA.heap.size, 0, none⟩) (.inl (by simp)) (.func (.func 82) #[] #[.pointer (some ⟨B9, 0, none⟩), .pointer (some ⟨B5, 0, none⟩)])) (by simp; omega) (by simp; omega) (by simp; omega) (by simp; omega) (by simp; omega)
    have hcall := HFIN.out _ _ _ _ _ _ _ hc hbg hF2
    have g1 := (hb4.ch hc (by simp)).cell 1
    clear hFr hF2 hbf hbg hge hge2 hc1 HFIN
    go_wp2_with (go_at_call 60; refine hcall.mono ?_; rintro e w2 ⟨rfl, hc2⟩; clear hcall)
    go_ret
    exact ⟨rfl, (hcA.trans hc).trans hc2⟩
end

section
open Go.RowKit

/-- what Why answers -/
noncomputable def whA (A : List Tm) (rs : List Gr) (F : List Int) (n : Int) : Int × Bool :=
  if (evA A rs F).1 = 0 ∧ numIn A.length n = true ∧ 1 ≤ gI (evA A rs F).2.2 n then (idxG (fun x => decide (x.h = n) && fireB (evA A rs F).2.1 (evA A rs F).2.2 (gI (evA A rs F).2.1 n) (gI (evA A rs F).2.2 n) x) rs, true) else (0, false)
set_option maxRecDepth 100000 in
set_option maxHeartbeats 4000000 in
theorem why_ (A : List Tm) (rs : List Gr) (F : List Int) (n : Int) (p : Nat → Prop) (va vr vf : Value) (w : World) (hA : SlT p w va A) (hR : SlGr p w vr rs) (hF : SlI p w vf F) (hb : GdBnd A rs) (hFl : F.length ≤ 1000000) :
    Calls Tryz.prog 20 #[.agg #[va, vr], vf, .int .i64 n] w fun e w' => e = .returned (.tuple #[.int .i64 (whA A rs F n).1, .bool (whA A rs F n).2]) ∧ Ch [] w w' := by
  have HEV := Lib.hid (fun wz (hz : Ch [] w wz) => evaluated_ A rs F _ _ _ _ wz (hA.ch0 hz) (hR.ch0 hz) (hF.ch0 hz) hb hFl)
  have hAl := hb.fit.a
  obtain ⟨aA, cA, rfl, _, _⟩ := hA.form
  obtain ⟨aR, cR, rfl, _, _⟩ := hR.form
  have hbn := Blk.new w 25 #[.slice aA A.length cA, .slice aR rs.length cR]
  have hcA : Ch [] w (w.alloc (.cells #[.slice aA A.length cA, .slice aR rs.length cR] 25)) := (Ch.refl _ _).alloc _
  have x0 := hbn.cell 0
  have x1 := hbn.cell 1
  have hcall := HEV.out _ hcA
  have HRR := Lib.hid (hR.weak (q := fun _ => True) (fun _ _ _ => trivial))
  clear hA hR hF hb HEV
  generalize hwA : (w.alloc (.cells #[.slice aA A.length cA, .slice aR rs.length cR] 25)) = wA at *
  have hHO : whA A rs F n = if (evA A rs F).1 = 0 ∧ numIn A.length n = true ∧ 1 ≤ gI (evA A rs F).2.2 n then (idxG (fun x => decide (x.h = n) && fireB (evA A rs F).2.1 (evA A rs F).2.2 (gI (evA A rs F).2.1 n) (gI (evA A rs F).2.2 n) x) rs, true) else (0, false) := rfl
  rcases evA_cases A rs F with he | he | ⟨st, hgd, _, hst, he⟩
  all_goals
    rw [he] at hcall hHO
  · rw [if_neg (fun h => by cases h.1)] at hHO
    generalize whA A rs F n = O at *
    have HO := Lib.hid hHO
    clear hHO he
    go_enter Tryz.func20, Tryz.ntmps20
    go_wp2_with (first | (go_at_call 36; ((with_reducible refine hcall.mono ?_); rintro e w1 ⟨v1, v2, rfl, h1, h2, hc1⟩; clear hcall; have g0 := (hbn.ch hc1 (by simp)).cell 0; have g1 := (hbn.ch hc1 (by simp)).cell 1)))
    go_ret2
    rw [HO.out]
    exact ⟨rfl, hcA.trans hc1⟩
  · rw [if_neg (fun h => by cases h.1)] at hHO
    generalize whA A rs F n = O at *
    have HO := Lib.hid hHO
    clear hHO he
    go_enter Tryz.func20, Tryz.ntmps20
    go_wp2_with (first | (go_at_call 36; ((with_reducible refine hcall.mono ?_); rintro e w1 ⟨v1, v2, rfl, h1, h2, hc1⟩; clear hcall; have g0 := (hbn.ch hc1 (by simp)).cell 0; have g1 := (hbn.ch hc1 (by simp)).cell 1)))
    go_ret2
    rw [HO.out]
    exact ⟨rfl, hcA.trans hc1⟩
  · have hl := ranksR_len st rs A.length F
    have hl2 := stA_len hst
    have HOK := Lib.hid (gdOk_rules hgd).1
    have HL := Lib.hid hl
    have HL2 := Lib.hid hl2
    clear hgd hst
    simp only at hHO hcall
    generalize ranksR st rs A.length F = rk at *
    by_cases t0 : n < 0
    · rw [if_neg (fun h => by have := h.2.1; simp [numIn] at this; omega)] at hHO
      generalize whA A rs F n = O at *
      have HO := Lib.hid hHO
      clear hHO he
      clear hl hl2
      have j0 : decide (n < 0) = true := decide_eq_true t0
      go_enter Tryz.func20, Tryz.ntmps20
      go_wp2_with (first | (go_at_call 36; ((with_reducible refine hcall.mono ?_); rintro e w1 ⟨v1, v2, rfl, h1, h2, hc1⟩; clear hcall; have g0 := (hbn.ch hc1 (by simp)).cell 0; have g1 := (hbn.ch hc1 (by simp)).cell 1)))
      go_ret2
      rw [HO.out]
      exact ⟨rfl, hcA.trans hc1⟩
    · by_cases t1 : (A.length : Int) ≤ n
      · rw [if_neg (fun h => by have := h.2.1; simp [numIn] at this; omega)] at hHO
        generalize whA A rs F n = O at *
        have HO := Lib.hid hHO
        clear hHO he
        have j0 : decide (n < 0) = false := decide_eq_false t0
        have j1 : decide ((rk.length : Int) ≤ n) = true := decide_eq_true (by omega)
        clear hl hl2
        go_enter Tryz.func20, Tryz.ntmps20
        go_wp2_with (first | (go_at_call 36; ((with_reducible refine hcall.mono ?_); rintro e w1 ⟨v1, v2, rfl, h1, h2, hc1⟩; clear hcall; have g0 := (hbn.ch hc1 (by simp)).cell 0; have g1 := (hbn.ch hc1 (by simp)).cell 1; obtain ⟨a2, c2, rfl, _, _⟩ := h2.form)))
        go_ret2
        rw [HO.out]
        exact ⟨rfl, hcA.trans hc1⟩
      · have hlt : n.toNat < rk.length := by omega
        obtain ⟨m, hm⟩ : ∃ m : Nat, n = (m : Int) := ⟨n.toNat, by omega⟩
        subst hm
        rw [Int.toNat_natCast] at hlt
        have j0 : decide ((m : Int) < 0) = false := decide_eq_false t0
        have j1 : decide ((rk.length : Int) ≤ (m : Int)) = false := decide_eq_false (by omega)
        have hG := gI_at hlt
        have i1 : (m : Int) < (rk.length : Int) := by omega
        have i2 : (0 : Int) ≤ (m : Int) := by omega
        have hmA : m < A.length := by omega
        clear hl hl2
        by_cases t2 : rk[m] < 1
        · rw [if_neg (fun h => by have := h.2.2; rw [hG] at this; omega)] at hHO
          generalize whA A rs F (m : Int) = O at *
          have HO := Lib.hid hHO
          clear hHO he
          have j2 : decide (rk[m] < 1) = true := decide_eq_true t2
          clear hG
          go_enter Tryz.func20, Tryz.ntmps20
          go_wp2_with (first | (go_at_call 36; ((with_reducible refine hcall.mono ?_); rintro e w1 ⟨v1, v2, rfl, h1, h2, hc1⟩; clear hcall; have g0 := (hbn.ch hc1 (by simp)).cell 0; have g1 := (hbn.ch hc1 (by simp)).cell 1; obtain ⟨a2, c2, rfl, _, _⟩ := h2.form; obtain ⟨b2, o2, rfl, _, d2⟩ := h2.at_ hlt)))
          go_ret2
          rw [HO.out]
          exact ⟨rfl, hcA.trans hc1⟩
        · rw [if_pos ⟨trivial, by simp [numIn]; omega, by rw [hG]; omega⟩] at hHO
          generalize whA A rs F (m : Int) = O at *
          have HO := Lib.hid hHO
          clear hHO he
          have j2 : decide (rk[m] < 1) = false := decide_eq_false t2
          clear hG
          go_enter Tryz.func20, Tryz.ntmps20
          go_wp2_with (first | (go_at_call 36; ((with_reducible refine hcall.mono ?_); rintro e w1 ⟨v1, v2, rfl, h1, h2, hc1⟩; clear hcall; have g0 := (hbn.ch hc1 (by simp)).cell 0; have g1 := (hbn.ch hc1 (by simp)).cell 1; have hrs := reason_ rs A.length m st rk HL2.out HL.out HOK.out hmA _ _ _ aA A.length cA _ v1 v2 w1 (HRR.out.ch0 (hcA.trans hc1)) h1 h2; obtain ⟨a2, c2, rfl, _, _⟩ := h2.form; obtain ⟨b2, o2, rfl, _, d2⟩ := h2.at_ hlt; obtain ⟨a1, c1, rfl, _, _⟩ := h1.form)) | (go_at_call 38; ((with_reducible refine hrs.mono ?_); rintro e w2 ⟨rfl, hc2⟩; clear hrs)))
          go_ret2
          rw [HO.out]
          exact ⟨rfl, (hcA.trans hc1).trans hc2⟩
end

section
section
variable {st rk : List Int} {rs : List Gr} {N : Nat} {F : List Int}
/-- how many atoms are not done -/
def nfB (D : List Bool) : Nat := D.countP fun b => !b
theorem nfB_set : ∀ (D : List Bool) (n : Nat) (h : n < D.length), D[n] = false → nfB (D.set n true) + 1 = nfB D
  | [], _, h, _ => by simp at h
  | a :: D, 0, _, h => by
    simp only [List.getElem_cons_zero] at h
    subst h
    simp [nfB]
  | a :: D, n + 1, h, h1 => by
    have := nfB_set D n (by simpa using h) (by simpa using h1)
    unfold nfB at this ⊢
    rw [List.set_cons_succ, List.countP_cons, List.countP_cons]
    omega
theorem derO_sub : ∀ (f : Nat) (n : Int) (out : List Int), ∀ k ∈ out, k ∈ derO st rk rs f n out
  | 0, _, _, k, hk => hk
  | f + 1, n, out, k, hk => by
    unfold derO
    cases hw : whyI st rk rs n with
    | none => exact hk
    | some i =>
      simp only
      split
      · exact hk
      · refine List.mem_append.2 (.inl ?_)
        have key : ∀ (ps o : List Int), k ∈ o → k ∈ ps.foldl (fun o p => derO st rk rs f p o) o := by
          intro ps
          induction ps with
          | nil => intro o h; exact h
          | cons x ps ih => intro o h; exact ih _ (derO_sub f x o k h)
        exact key _ _ hk
theorem whyIn_mono {n : Int} {out out' : List Int} (h : ∀ k ∈ out, k ∈ out') (hw : whyIn st rk rs n out = true) : whyIn st rk rs n out' = true := by
  unfold whyIn at hw ⊢
  cases hi : whyI st rk rs n with
  | none => rw [hi] at hw; cases hw
  | some i => rw [hi] at hw; simp only [decide_eq_true_eq] at hw ⊢; exact h _ hw
/-- what the closure finds at an atom: the done atoms have their rule in the list, or lie above the atom (they are under way) -/
structure DvPre (st rk : List Int) (rs : List Gr) (N : Nat) (D : List Bool) (out : List Int) (n : Int) : Prop where
  len : D.length = N
  a : ∀ k (h : k < D.length), whyIn st rk rs (k : Int) out = true → D[k] = true
  b : ∀ k (h : k < D.length), D[k] = true → whyIn st rk rs (k : Int) out = true ∨ Above st rk (k : Int) n
/-- what it leaves -/
def DvPost (st rk : List Int) (rs : List Gr) (D D' : List Bool) (out' : List Int) : Prop := D'.length = D.length ∧ ∀ k (h : k < D.length) (h' : k < D'.length), D'[k] = (D[k] || whyIn st rk rs (k : Int) out')
theorem DvPost.refl {D : List Bool} {out : List Int} {n : Int} (h : DvPre st rk rs N D out n) : DvPost st rk rs D D out := by
  refine ⟨rfl, fun k hk _ => ?_⟩
  cases hd : D[k] with
  | true => rfl
  | false =>
    cases hw : whyIn st rk rs (k : Int) out with
    | false => rfl
    | true => rw [h.a k hk hw] at hd; cases hd
theorem DvPre.done {D : List Bool} {out : List Int} {k f : Nat} (h : DvPre st rk rs N D out (k : Int)) (hk : k < D.length) (hd : D[k] = true) : derO st rk rs f (k : Int) out = out := by
  rcases h.b k hk hd with h1 | h1
  · cases f with
    | zero => rfl
    | succ f =>
      unfold whyIn at h1
      unfold derO
      cases hi : whyI st rk rs (k : Int) with
      | none => rfl
      | some i =>
        rw [hi] at h1
        simp only [decide_eq_true_eq] at h1
        simp only
        rw [if_pos h1]
  · exact absurd h1 Above.not
theorem derO_zero {out : List Int} {n : Int} {f : Nat} (h : gI rk n ≤ 0) : derO st rk rs f n out = out := by
  cases f with
  | zero => rfl
  | succ f => unfold derO; rw [whyI_zero h]
theorem idxG_why {n : Int} {i : Nat} (h : whyI st rk rs n = some i) : idxG (fun x => decide (x.h = n) && fireB st rk (gI st n) (gI rk n) x) rs = (i : Int) := by
  unfold whyI at h
  split at h
  · unfold idxG; rw [h]
  · cases h
/-- the fold over the first atoms of the rule -/
def derF (st rk : List Int) (rs : List Gr) (f : Nat) (ps out : List Int) : List Int := ps.foldl (fun o p => derO st rk rs f p o) out
theorem derF_snoc (f : Nat) (ps out : List Int) (k : Nat) (h : k < ps.length) : derF st rk rs f (ps.take (k + 1)) out = derO st rk rs f ps[k] (derF st rk rs f (ps.take k) out) := by
  simp only [derF, take_snoc ps k h, List.foldl_append, List.foldl_cons, List.foldl_nil]
theorem DvPre.rule (hK : RkOk N st rs F rk) {D : List Bool} {out : List Int} {k f : Nat} (h : DvPre st rk rs N D out (k : Int)) (hk : k < D.length) (hd : D[k] = false) (h0 : 0 < gI rk (k : Int)) (hD : Deep st rk rs f (k : Int)) :
    ∃ (g i : Nat) (hi : i < rs.length), f = g + 1 ∧ whyI st rk rs (k : Int) = some i ∧ psOf rs i = rs[i].ps ∧ (∀ p ∈ rs[i].ps, Deep st rk rs g p) ∧ (i : Int) ∉ out ∧ derO st rk rs f (k : Int) out = derF st rk rs g rs[i].ps out ++ [(i : Int)] := by
  have hn : numIn N (k : Int) = true := by simp [numIn]; have := h.len; omega
  obtain ⟨i, hw⟩ := whyI_pos hK hn h0
  obtain ⟨_, hi, _, _, h4, _⟩ := whyI_some hw
  cases f with
  | zero => have hD : whyI st rk rs (k : Int) = none := hD; rw [hw] at hD; cases hD
  | succ g =>
    have hno : (i : Int) ∉ out := fun hm => by
      have : whyIn st rk rs (k : Int) out = true := by unfold whyIn; rw [hw]; simpa using hm
      rw [h.a k hk this] at hd; cases hd
    refine ⟨g, i, hi, rfl, hw, h4, fun p hp => hD i hw p (by rw [h4]; exact hp), hno, ?_⟩
    unfold derO
    rw [hw]
    simp only
    rw [if_neg hno, h4]; rfl
/-- on the way through the rule: what stands when the next atom is asked -/
theorem DvPre.next (hR : RsOk N st rs) {D Dj : List Bool} {out oj : List Int} {k i : Nat} (h : DvPre st rk rs N D out (k : Int)) (_hk : k < D.length) (hw : whyI st rk rs (k : Int) = some i) (hj : DvPost st rk rs (D.set k true) Dj oj) (hs : ∀ x ∈ out, x ∈ oj) {p : Int} (hp : p ∈ psOf rs i) : DvPre st rk rs N Dj oj p := by
  obtain ⟨_, _, h3⟩ := why_ps hR hw p hp
  obtain ⟨h1, h2⟩ := hj
  rw [List.length_set] at h1
  refine ⟨by rw [h1]; exact h.len, fun m hm hwm => ?_, fun m hm hdm => ?_⟩
  · rw [h2 m (by simp; omega) hm, hwm]; simp
  · rw [h2 m (by simp; omega) hm, Bool.or_eq_true] at hdm
    rcases hdm with hdm | hdm
    · rw [List.getElem_set] at hdm
      by_cases e : k = m
      · subst e; exact .inr h3
      · rw [if_neg e] at hdm
        rcases h.b m (by omega) hdm with h5 | h5
        · exact .inl (whyIn_mono hs h5)
        · exact .inr (h5.trans h3)
    · exact .inl hdm
theorem DvPost.step {D Dj Dk : List Bool} {oj ok : List Int} (hj : DvPost st rk rs D Dj oj) (hk : DvPost st rk rs Dj Dk ok) (hs : ∀ x ∈ oj, x ∈ ok) : DvPost st rk rs D Dk ok := by
  refine ⟨hk.1.trans hj.1, fun m hm hm' => ?_⟩
  have h1 := hj.1
  rw [hk.2 m (by omega) hm', hj.2 m hm (by omega)]
  cases D[m] with
  | true => rfl
  | false =>
    cases hw : whyIn st rk rs (m : Int) oj with
    | false => rfl
    | true => rw [whyIn_mono hs hw]; rfl
theorem DvPost.last {D Dj : List Bool} {oj : List Int} {k i : Nat} (_hk : k < D.length) (hw : whyI st rk rs (k : Int) = some i) (hj : DvPost st rk rs (D.set k true) Dj oj) : DvPost st rk rs D Dj (oj ++ [(i : Int)]) := by
  obtain ⟨h1, h2⟩ := hj
  rw [List.length_set] at h1
  refine ⟨h1, fun m hm hm' => ?_⟩
  rw [h2 m (by simpa using hm) hm', List.getElem_set]
  by_cases e : k = m
  · subst e
    rw [if_pos rfl]
    have : whyIn st rk rs (k : Int) (oj ++ [(i : Int)]) = true := by unfold whyIn; rw [hw]; simp
    rw [this]; simp
  · rw [if_neg e]
    congr 1
    unfold whyIn
    cases hm2 : whyI st rk rs (m : Int) with
    | none => rfl
    | some j =>
      simp only
      have hne : j ≠ i := fun e2 => by
        subst e2
        have a1 := (whyI_some hw).2.2.2.2.2
        have a2 := (whyI_some hm2).2.2.2.2.2
        rw [a1] at a2
        omega
      have : ((j : Int) ∈ oj ++ [(i : Int)]) ↔ (j : Int) ∈ oj := by
        rw [List.mem_append, List.mem_singleton]
        constructor
        · rintro (h | h)
          · exact h
          · omega
        · exact .inl
      simp only [this]
theorem DvPost.zero (st rk : List Int) (rs : List Gr) {D : List Bool} {out : List Int} {k : Nat} (h : DvPre st rk rs N D out (k : Int)) : DvPost st rk rs (D.set k true) (D.set k true) out := by
  refine ⟨rfl, fun m hm _ => ?_⟩
  rw [List.length_set] at hm
  rw [List.getElem_set]
  by_cases e : k = m
  · rw [if_pos e]; rfl
  · rw [if_neg e]
    exact (DvPost.refl h).2 m hm hm
end
end

section
open Go.RowKit

def encQ (b : Bool) : List Value := [.bool b]
theorem makeBools (w : World) (n : Nat) (hn : n ≤ 1000000) : ∃ w', (Instr.makeSlice 64 (.int .i64 (n : Int)) (.int .i64 (n : Int))).run Tryz.prog w = .ok (.slice (some ⟨w.heap.size, 0, none⟩) n n) w' ∧
    Own w' w.heap.size 4 1 (.slice (some ⟨w.heap.size, 0, none⟩) n n) ((List.replicate n false).map encQ) ∧ Ch [] w w' := by
  obtain ⟨i, z, h1, h2, h3, h4, _⟩ := elBo.i
  have hz : (Tryz.prog.info? 4).bind (·.zero) = some (.bool false) := by kernel_rfl
  rw [h1] at hz
  simp only [Option.bind_some, h2, Option.some.injEq] at hz
  subst hz
  obtain ⟨w', h5, h6, h7⟩ := run_make_full (P := Tryz.prog) w w.heap.size 64 4 i _ 1 elBo.t h1 h2 h3 .i64 .i64 n (by rw [h4]; omega) (by unfold maxLen; omega) (Nat.le_refl _)
  refine ⟨w', h5, ⟨?_, ?_⟩, by simpa using Ch.of_grown h7⟩
  · have e1 : (madeCells (Value.bool false).cells (n * 1)).toList = List.replicate n (Value.bool false) := by
      have : (Value.bool false).cells = #[Value.bool false] := rfl
      rw [this, Nat.mul_one, toList_madeCells_one]
    rw [e1] at h6
    have e2 : ((List.replicate n false).map encQ).flatten = List.replicate n (Value.bool false) := by
      have := flat_one (fun x : Bool => Value.bool x) (List.replicate n false)
      rw [show ((List.replicate n false).map encQ) = ((List.replicate n false).map fun x => [Value.bool x]) from rfl, this]; simp
    rw [e2]
    simpa using h6
  · intro cs hcs
    obtain ⟨u, _, rfl⟩ := List.mem_map.1 hcs
    exact ⟨rfl, by simp [encQ, Value.oneCell']⟩
theorem Own.setQ {w : World} {base : Nat} {e : TypeId} {g c n : Nat} {xs : List Bool} (h : Own w base e 1 (.slice (some ⟨g, 0, none⟩) n c) (xs.map encQ)) (hn : xs.length = n) (i : Nat) (x : Bool) :
    Own (w.setCell ⟨g, i, none⟩ (.bool x)) base e 1 (.slice (some ⟨g, 0, none⟩) n c) ((xs.set i x).map encQ) := by
  subst hn
  have h0 := h.1
  rw [List.length_map] at h0
  have h1 := (h0.stored i (.bool x)).1
  have e1 : ((xs.map encQ).flatten).set i (.bool x) = ((xs.set i x).map encQ).flatten := by
    have f1 := flat_one (fun x : Bool => Value.bool x) xs
    have f2 := flat_one (fun x : Bool => Value.bool x) (xs.set i x)
    show ((xs.map fun x => [Value.bool x]).flatten).set i _ = ((xs.set i x).map fun x => [Value.bool x]).flatten
    rw [f1, f2, List.map_set]
  rw [e1] at h1
  refine ⟨by simpa using h1, fun cs hcs => ?_⟩
  obtain ⟨u, _, rfl⟩ := List.mem_map.1 hcs
  exact ⟨rfl, by simp [encQ, Value.oneCell']⟩
theorem Own.atQ {w : World} {base : Nat} {e : TypeId} {g c n : Nat} {xs : List Bool} (h : Own w base e 1 (.slice (some ⟨g, 0, none⟩) n c) (xs.map encQ)) {i : Nat} (hi : i < xs.length) :
    w.cell? ⟨g, i, none⟩ = some (.bool xs[i]) ∧ w.frozen? ⟨g, i, none⟩ = false ∧ g < w.heap.size := by
  have h2 := h.cells_ (i := i) (j := 0) (cs := encQ xs[i]) (u := .bool xs[i]) (by simp [hi]) rfl
  rw [Nat.mul_one, Nat.add_zero] at h2
  exact ⟨h2, h.frozen_ i, (h.lt (b := g) rfl).2⟩

/-- the blocks of the closure's variables -/
structure DvB (Bd Bk Bg Bs Bv Bo BD : Nat) : Prop where
  k : Bk < BD
  g : Bg < BD
  s : Bs < BD
  d : BD < Bd
  o : Bd < Bo
  v : Bo < Bv
/-- what the closure of model.Derivation keeps -/
structure DvAt (w : World) (Bd Bk Bg Bs Bv Bo BD N : Nat) (va vr vs vk vo : Value) (st rk : List Int) (rs : List Gr) (D : List Bool) (out : List Int) : Prop where
  d : Blk w Bd 64 #[.slice (some ⟨BD, 0, none⟩) N N]
  k : Blk w Bk 28 #[vk]
  g : Blk w Bg 25 #[va, vr]
  s : Blk w Bs 28 #[vs]
  v : Blk w Bv 65 #[.func (.func 40) #[] #[.pointer (some ⟨Bd, 0, none⟩), .pointer (some ⟨Bk, 0, none⟩), .pointer (some ⟨Bg, 0, none⟩), .pointer (some ⟨Bs, 0, none⟩), .pointer (some ⟨Bv, 0, none⟩), .pointer (some ⟨Bo, 0, none⟩)]]
  o : Blk w Bo 28 #[vo]
  row : Own w BD 4 1 (.slice (some ⟨BD, 0, none⟩) N N) (D.map encQ)
  out : Own w (Bv + 1) 3 1 vo (out.map encI)
  hr : SlGr (fun b => b < BD) w vr rs
  hs : SlI (fun b => b < BD) w vs st
  hk : SlI (fun b => b < BD) w vk rk
theorem DvAt.ch0 {w w' : World} {Bd Bk Bg Bs Bv Bo BD N : Nat} {va vr vs vk vo : Value} {st rk : List Int} {rs : List Gr} {D : List Bool} {out : List Int} (h : DvAt w Bd Bk Bg Bs Bv Bo BD N va vr vs vk vo st rk rs D out) (hc : Ch [] w w') : DvAt w' Bd Bk Bg Bs Bv Bo BD N va vr vs vk vo st rk rs D out :=
  ⟨h.d.ch hc (by simp), h.k.ch hc (by simp), h.g.ch hc (by simp), h.s.ch hc (by simp), h.v.ch hc (by simp), h.o.ch hc (by simp), h.row.ch0' hc, h.out.ch0' hc, h.hr.ch0 hc, h.hs.ch0 hc, h.hk.ch0 hc⟩
/-- an atom is marked as done -/
theorem DvAt.mark {w : World} {Bd Bk Bg Bs Bv Bo BD N : Nat} {va vr vs vk vo : Value} {st rk : List Int} {rs : List Gr} {D : List Bool} {out : List Int} (hB : DvB Bd Bk Bg Bs Bv Bo BD) (h : DvAt w Bd Bk Bg Bs Bv Bo BD N va vr vs vk vo st rk rs D out) (hD : D.length = N) (i : Nat) (b : Bool) : DvAt (w.setCell ⟨BD, i, none⟩ (.bool b)) Bd Bk Bg Bs Bv Bo BD N va vr vs vk vo st rk rs (D.set i b) out := by
  have hc : Ch [BD] w (w.setCell ⟨BD, i, none⟩ (.bool b)) := (Ch.refl [BD] w).set (p := ⟨BD, i, none⟩) (.inl (List.mem_singleton.2 rfl)) _
  obtain ⟨h1, h2, h3, h4, h5, h6⟩ := hB
  refine ⟨h.d.ch hc (by simp; omega), h.k.ch hc (by simp; omega), h.g.ch hc (by simp; omega), h.s.ch hc (by simp; omega), h.v.ch hc (by simp; omega), h.o.ch hc (by simp; omega), h.row.setQ hD i b, h.out.ch hc (fun g hg hm => ?_), h.hr.ch hc (fun g _ hg => by simp; omega), h.hs.ch hc (fun g _ hg => by simp; omega), h.hk.ch hc (fun g _ hg => by simp; omega)⟩
  have := (h.out.lt hg).1
  simp at hm
  omega
/-- a rule is appended -/
theorem DvAt.push {w wZ w6 : World} {Bd Bk Bg Bs Bv Bo BD N : Nat} {va vr vs vk vo v6 : Value} {st rk : List Int} {rs : List Gr} {D : List Bool} {out : List Int} {x : Int} (hB : DvB Bd Bk Bg Bs Bv Bo BD) (h : DvAt w Bd Bk Bg Bs Bv Bo BD N va vr vs vk vo st rk rs D out) (hZ : Ch [] w wZ) (hc6 : Ch vo.ownBlock.toList wZ w6)
    (ho6 : Own w6 (Bv + 1) 3 1 v6 ((out ++ [x]).map encI)) : DvAt (w6.setCell ⟨Bo, 0, none⟩ v6) Bd Bk Bg Bs Bv Bo BD N va vr vs vk v6 st rk rs D (out ++ [x]) := by
  have h0 := h.ch0 hZ
  have hc : Ch [Bo] w6 (w6.setCell ⟨Bo, 0, none⟩ v6) := (Ch.refl [Bo] w6).set (p := ⟨Bo, 0, none⟩) (.inl (List.mem_singleton.2 rfl)) _
  have hno : ∀ b, b ≤ Bv → b ∉ vo.ownBlock.toList := fun b hb => own_not h0.out (by omega)
  obtain ⟨h1, h2, h3, h4, h5, h6⟩ := hB
  have hS : ∀ g, g < BD → g ∉ [Bo] := fun g hg => by simp; omega
  refine ⟨(h0.d.ch hc6 (hno _ (by omega))).ch hc (by simp; omega), (h0.k.ch hc6 (hno _ (by omega))).ch hc (by simp; omega), (h0.g.ch hc6 (hno _ (by omega))).ch hc (by simp; omega), (h0.s.ch hc6 (hno _ (by omega))).ch hc (by simp; omega), (h0.v.ch hc6 (hno _ (by omega))).ch hc (by simp; omega), (h0.o.ch hc6 (hno _ (by omega))).set_ 0 _, ?_, ?_, ?_, ?_, ?_⟩
  · exact (h0.row.ch hc6 (fun g hg => by injection hg with hg; subst hg; exact hno _ (by show BD ≤ Bv; omega))).ch hc (fun g hg hm => by injection hg with hg; subst hg; have := List.mem_singleton.1 hm; have h7 : BD = Bo := this; omega)
  · exact ho6.ch hc (fun g hg hm => by have := (ho6.lt hg).1; simp at hm; omega)
  · exact (h0.hr.ch hc6 (fun g _ hg => hno _ (by omega))).ch hc (fun g _ hg => hS g hg)
  · exact (h0.hs.ch hc6 (fun g _ hg => hno _ (by omega))).ch hc (fun g _ hg => hS g hg)
  · exact (h0.hk.ch hc6 (fun g _ hg => hno _ (by omega))).ch hc (fun g _ hg => hS g hg)
/-- what the closure does -/
def DvEnd (Bd Bk Bg Bs Bv Bo BD N : Nat) (va vr vs vk vo : Value) (st rk : List Int) (rs : List Gr) (D : List Bool) (out out' : List Int) (w : World) (e : Ending) (w' : World) : Prop :=
  e = .returned (.tuple #[]) ∧ ∃ D' vo', DvAt w' Bd Bk Bg Bs Bv Bo BD N va vr vs vk vo' st rk rs D' out' ∧ DvPost st rk rs D D' out' ∧ out'.length + nfB D' ≤ out.length + nfB D ∧ Ch (BD :: Bo :: vo.ownBlock.toList) w w' ∧ (vo'.ownBlock = vo.ownBlock ∨ ∃ g, vo'.ownBlock = some g ∧ w.heap.size ≤ g)

set_option maxRecDepth 100000 in
set_option maxHeartbeats 8000000 in
theorem deriv1_ (N : Nat) (st rk F : List Int) (rs : List Gr) (hst : st.length = N) (hRs : RsOk N st rs) (hRk : RkOk N st rs F rk) (_hN : N ≤ 100000) (hpl : ∀ x ∈ rs, x.ps.length ≤ 1000000) (Bd Bk Bg Bs Bv Bo BD : Nat) (hB : DvB Bd Bk Bg Bs Bv Bo BD) (aA : Option Addr) (nA cA : Nat) (vr vs vk : Value) :
    ∀ (f n : Nat) (vo : Value) (D : List Bool) (out : List Int) (w : World), n < N → 0 ≤ gI rk (n : Int) → Deep st rk rs f (n : Int) → DvAt w Bd Bk Bg Bs Bv Bo BD N (.slice aA nA cA) vr vs vk vo st rk rs D out → DvPre st rk rs N D out (n : Int) → out.length + nfB D ≤ 200000 →
    Calls Tryz.prog 40 #[.int .i64 (n : Int), .pointer (some ⟨Bd, 0, none⟩), .pointer (some ⟨Bk, 0, none⟩), .pointer (some ⟨Bg, 0, none⟩), .pointer (some ⟨Bs, 0, none⟩), .pointer (some ⟨Bv, 0, none⟩), .pointer (some ⟨Bo, 0, none⟩)] w
      (DvEnd Bd Bk Bg Bs Bv Bo BD N (.slice aA nA cA) vr vs vk vo st rk rs D out (derO st rk rs f (n : Int) out) w) := by
  have HST := Lib.hid hst
  clear hst
  intro f
  induction f using Nat.strongRecOn with
  | _ f ih =>
  intro n vo D out w hn h0 hdp hA hP hsum
  obtain ⟨aR, cR, rfl, _, hmR⟩ := hA.hr.form
  obtain ⟨aS, cS, rfl, _, _⟩ := hA.hs.form
  obtain ⟨aK, cK, rfl, _, _⟩ := hA.hk.form
  unfold maxLen at hmR
  have hnD : n < D.length := by rw [hP.len]; exact hn
  have hnk : n < rk.length := by rw [hRk.len]; exact hn
  obtain ⟨x0, y0, hBDl⟩ := hA.row.atQ hnD
  obtain ⟨bK, oK, eK, _, dK⟩ := hA.hk.at_ hnk
  subst eK
  have hG := gI_at hnk
  have c1 := hA.d.cell 0
  have c2 := hA.k.cell 0
  have i1 : (n : Int) < (N : Int) := by omega
  have i2 : (0 : Int) ≤ (n : Int) := by omega
  have i3 : (n : Int) < (rk.length : Int) := by omega
  have HB := Lib.hid hB
  have HA := Lib.hid hA
  have HP := Lib.hid hP
  clear hB hA hP
  cases hd : D[n] with
  | true =>
    rw [hd] at x0
    have HO := Lib.hid (HP.out.done (f := f) hnD hd)
    clear hd ih hdp hG h0
    have hz : Ch [] w w := Ch.refl _ _
    go_enter Tryz.func40, Tryz.ntmps40
    go_wp2
    go_end0
    rw [HO.out]
    exact ⟨rfl, D, vo, HA.out, DvPost.refl HP.out, Nat.le_refl _, hz.of_nil, .inl rfl⟩
  | false =>
    rw [hd] at x0
    by_cases t0 : rk[n] = 0
    · have HO := Lib.hid (derO_zero (st := st) (rs := rs) (out := out) (f := f) (n := (n : Int)) (rk := rk) (by rw [hG, t0]; exact Int.le_refl _))
      rw [t0] at dK
      clear hd ih hdp hG h0 t0
      have hz : Ch [] w w := Ch.refl _ _
      go_enter Tryz.func40, Tryz.ntmps40
      go_wp2
      go_end0
      rw [HO.out]
      exact ⟨rfl, D, vo, HA.out, DvPost.refl HP.out, Nat.le_refl _, hz.of_nil, .inl rfl⟩
    · have j0 : decide (rk[n] = 0) = false := decide_eq_false t0
      have j1 : (rk[n] == 0) = false := by simpa using t0
      obtain ⟨g, i, hi, hfg, hw, hps, hdps, hno, hOut⟩ := HP.out.rule hRk hnD hd (by omega) hdp
      have hix := idxG_why hw
      have hnf := nfB_set D n hnD hd
      have HO := Lib.hid hOut
      have HW := Lib.hid hw
      have HDP := Lib.hid hdps
      have HPS := Lib.hid hps
      have ih2 := ih g (by omega)
      have HZ := Lib.hid (DvPost.zero st rk rs HP.out)
      clear hOut hw hdps hps hno hd ih hdp hfg
      generalize rk[n] = qk at *
      have hA2 := HA.out.mark HB.out HP.out.len n true
      have hc2 : Ch [BD] w (w.setCell ⟨BD, n, none⟩ (.bool true)) := (Ch.refl [BD] w).set (p := ⟨BD, n, none⟩) (.inl (List.mem_singleton.2 rfl)) _
      have hrs := reason_ rs N n st rk HST.out hRk.len hRs.ok hn _ _ _ aA nA cA _ _ _ _ hA2.hr hA2.hs hA2.hk
      rw [hix] at hrs
      clear hix hG h0
      have g0 := hA2.g.cell 0
      have g1 := hA2.g.cell 1
      have s0 := hA2.s.cell 0
      have k0 := hA2.k.cell 0
      have HA2 := Lib.hid hA2
      clear hA2
      have HI := Lib.hid hi
      go_enter Tryz.func40, Tryz.ntmps40
      go_wp2_with (go_at_call 38; ((with_reducible refine hrs.mono ?_); rintro e w3 ⟨rfl, hc3⟩; clear hrs; have hA3 := HA2.out.ch0 hc3; have g3 := hA3.g.cell 1; obtain ⟨bR, oR, a1, c1', a2, c2', eR, _, d0, d1, d2, h2, h3⟩ := hA3.hr.at_ HI.out; subst eR; have i5 : (i : Int) < (rs.length : Int) := Int.ofNat_lt.2 HI.out; have i6 : (0 : Int) ≤ (i : Int) := Int.natCast_nonneg i))
      have HPL := Lib.hid (hpl _ (List.getElem_mem HI.out))
      have HGO := Lib.hid (hRs.ok _ (List.getElem_mem HI.out))
      generalize (rs[i]'hi).ns.length = nn at *
      clear h3
      obtain ⟨ps, hpe⟩ : ∃ ps, ps = (rs[i]'hi).ps := ⟨_, rfl⟩
      have HPE := Lib.hid (show psOf rs i = ps by rw [HPS.out, hpe])
      have HDQ := Lib.hid (show ∀ p ∈ ps, Deep st rk rs g p by rw [hpe]; exact HDP.out)
      have HOQ := Lib.hid (show derO st rk rs f (n : Int) out = derF st rk rs g ps out ++ [(i : Int)] by rw [hpe]; exact HO.out)
      have HNI := Lib.hid (show ∀ p ∈ ps, numIn N p = true by rw [hpe]; exact grOk_p HGO.out)
      have HPLq := Lib.hid (show ps.length ≤ 1000000 by rw [hpe]; exact HPL.out)
      rw [← hpe] at h2 ⊢
      clear hpe HPS HDP HO HGO HPL
      have HA3 := Lib.hid hA3
      have HNS : Hid (∀ b, b < BD → b ∉ BD :: Bo :: vo.ownBlock.toList) := fun b hb hm => by
        have q1 := HB.out.d
        have q2 := HB.out.o
        have q3 := HB.out.v
        rcases List.mem_cons.1 hm with h | h
        · omega
        · rcases List.mem_cons.1 h with h | h
          · omega
          · exact own_not HA.out.out (b := b) (by omega) h
      have HS3 := Lib.hid h2
      have hcw : Ch (BD :: Bo :: vo.ownBlock.toList) w w3 := (hc2.mono (by simp)).step hc3 (by simp)
      have hcq : Ch (BD :: Bo :: vo.ownBlock.toList) w w3 := hcw
      have hs3 : w.heap.size ≤ w3.heap.size := hcw.size
      have hpb := HPLq.out
      clear h2 g3 d0 d1 d2 hA3 hcw hc2 hc3 g0 g1 s0 k0 x0 y0 dK c1 c2
      go_loopw [10, 37] (fun _ j wr => ∃ (m : Nat) (D' : List Bool) (vo' : Value), m ≤ ps.length ∧ j = .int .i64 m ∧ Hid (DvAt wr Bd Bk Bg Bs Bv Bo BD N (.slice aA nA cA) (.slice (some ⟨bR, oR, none⟩) rs.length cR) (.slice aS st.length cS) (.slice (some ⟨bK, oK, none⟩) rk.length cK) vo' st rk rs D' (derF st rk rs g (ps.take m) out)) ∧ Hid (DvPost st rk rs (D.set n true) D' (derF st rk rs g (ps.take m) out)) ∧ Hid ((derF st rk rs g (ps.take m) out).length + nfB D' ≤ out.length + nfB (D.set n true)) ∧ Hid (∀ k ∈ out, k ∈ derF st rk rs g (ps.take m) out) ∧ Ch (BD :: Bo :: vo.ownBlock.toList) w wr ∧ Hid (SlI (fun b => b < BD) wr (.slice a1 ps.length c1') ps) ∧ Hid (vo'.ownBlock = vo.ownBlock ∨ ∃ g, vo'.ownBlock = some g ∧ w.heap.size ≤ g)) (fun _ j _ => ps.length - (intOf j).toNat)
      case atStart => exact ⟨0, _, vo, Nat.zero_le _, rfl, HA3, HZ, Nat.le_refl _, fun _ h => h, hcq, HS3, .inl rfl⟩
      case round =>
        obtain ⟨m, D', vo', hm, rfl, HAr, HPr, HSr, HMr, hcr, HSP, HVr⟩ := hrel
        have v0 := HAr.out.v.cell 0
        have hsr := hcr.size
        by_cases hlt : m < ps.length
        · have j2 : decide (m < ps.length) = true := decide_eq_true hlt
          obtain ⟨b1, o1, eb, _, dm⟩ := HSP.out.at_ hlt
          subst eb
          have hpm : ps[m] ∈ psOf rs i := by rw [HPE.out]; exact List.getElem_mem hlt
          have hpp := why_ps hRs HW.out _ hpm
          have hdm := HDQ.out _ (List.getElem_mem hlt)
          have HNX := Lib.hid (DvPre.next hRs HP.out hnD HW.out HPr.out HMr.out hpm)
          have HSN := Lib.hid (derF_snoc (st := st) (rk := rk) (rs := rs) g ps out m hlt)
          obtain ⟨q, hq, hqe⟩ := numIn_nat hpp.1
          rw [hqe] at hpp hdm dm
          have HQE := Lib.hid hqe
          clear hqe hpm
          have hcall := ih2 q vo' D' _ wr hq hpp.2.1 hdm HAr.out (by have := HNX.out; rwa [HQE.out] at this) (by have := HSr.out; omega)
          have HCL := Lib.hid hcall
          clear hcall hpp hdm
          go_wp2_with (go_at_call 40; ((with_reducible refine HCL.out.mono ?_); rintro e w4 ⟨rfl, D4, v4, hA4, hP4, hS4, hc4, hv4⟩))
          have e2 : derF st rk rs g (ps.take (m + 1)) out = derO st rk rs g (q : Int) (derF st rk rs g (ps.take m) out) := by rw [HSN.out, HQE.out]
          have HE2 := Lib.hid e2
          clear e2 dm v0 HCL
          have hnr : ∀ b, b < BD → b ∉ BD :: Bo :: vo'.ownBlock.toList := fun b hb hm => by
            have q1 := HB.out.d
            have q2 := HB.out.o
            have q3 := HB.out.v
            rcases List.mem_cons.1 hm with h | h
            · omega
            · rcases List.mem_cons.1 h with h | h
              · omega
              · exact own_not HAr.out.out (b := b) (by omega) h
          have hown : ∀ y ∈ BD :: Bo :: vo'.ownBlock.toList, y ∈ BD :: Bo :: vo.ownBlock.toList ∨ w.heap.size ≤ y := fun y hy => by
            rcases List.mem_cons.1 hy with h | h
            · subst h; exact .inl (by simp)
            · rcases List.mem_cons.1 h with h | h
              · subst h; exact .inl (by simp)
              · rcases HVr.out with h1 | ⟨g1, h1, h2⟩
                · rw [h1] at h; exact .inl (by simp [h])
                · rw [h1] at h; simp at h; subst h; exact .inr h2
          have hc5 := hcr.step hc4 hown
          have HSP4 := Lib.hid (HSP.out.ch hc4 (fun b _ hb => hnr b hb))
          have HV4 : Hid (v4.ownBlock = vo.ownBlock ∨ ∃ g, v4.ownBlock = some g ∧ w.heap.size ≤ g) := by
            rcases hv4 with h1 | ⟨g1, h1, h2⟩
            · rw [h1]; exact HVr.out
            · exact .inr ⟨g1, h1, Nat.le_trans hsr h2⟩
          have HA4 := Lib.hid hA4
          have HP4 := Lib.hid hP4
          have HS4 := Lib.hid hS4
          clear hA4 hP4 hS4 hc4 hv4 hown hnr
          go_roundw
          case rel => exact ⟨m + 1, D4, v4, by omega, by go_num, by rw [HE2.out]; exact HA4.out, by rw [HE2.out]; exact HPr.out.step HP4.out (fun k hk => derO_sub _ _ _ k hk), by rw [HE2.out]; exact Nat.le_trans HS4.out HSr.out, by rw [HE2.out]; exact fun k hk => derO_sub _ _ _ k (HMr.out k hk), hc5, HSP4, HV4⟩
          case measure => simp [intOf]; omega
        · have hml : m = ps.length := by omega
          have j2 : decide (m < ps.length) = false := decide_eq_false hlt
          rw [hml, List.take_length] at HAr HPr HSr HMr
          clear hml
          have HAx := Lib.hid HAr.out
          have HNF := Lib.hid hnf
          clear hnf
          generalize hL : derF st rk rs g ps out = L at *
          clear hL
          have hLl : L.length ≤ 200000 := by have := HSr.out; have := HNF.out; omega
          have l0 := HAx.out.o.cell 0
          have l1 := (HAx.out.o.alloc (.cells #[.int .i64 (i : Int)] 3)).cell 0
          have hcZ : Ch [] wr (wr.alloc (.cells #[.int .i64 (i : Int)] 3)) := (Ch.refl _ _).alloc _
          have hno : ∀ b, b ≤ Bv → b ∉ vo'.ownBlock.toList := fun b hb => own_not HAx.out.out (by omega)
          have hbo : Bo ∉ vo'.ownBlock.toList := hno _ (by have := HB.out.v; omega)
          have hbv : Bv + 1 ≤ (wr.alloc (.cells #[.int .i64 (i : Int)] 3)).heap.size := by have := HAx.out.v.lt; simp; omega
          have HOU := Lib.hid (HAx.out.out.ch0' hcZ)
          go_wp2_with (at_builtin; refine wpList_append_sl rfl _ _ _ rfl elIn (base := Bv + 1) (v := vo') (css := L.map encI) rfl HOU.out rfl (Sl.one wr 1 _ [.int .i64 (i : Int)] rfl (by simp [Value.oneCell'])) (by simp; omega) hbv ?_; intro v6 w6 ho6 hc6 hat6 hn6; clear hn6; obtain ⟨a7, c7, rfl⟩ := ho6.form'; have hb6 := ((HAx.out.o.ch hcZ (by simp)).ch hc6 hbo); have x6 := hb6.cell 0; have y6 := hb6.frozen 0)
          have ho7 : Own w6 (Bv + 1) 3 1 (.slice a7 (L.map encI ++ [[Value.int .i64 (i : Int)]]).length c7) ((L ++ [(i : Int)]).map encI) := by rw [List.map_append]; exact ho6
          have hpush := HAx.out.push HB.out hcZ hc6 ho7
          simp only [List.length_append, List.length_map, List.length_cons, List.length_nil, Nat.zero_add] at hpush hat6
          have hlast := DvPost.last hnD HW.out HPr.out
          have hown : ∀ y ∈ vo'.ownBlock.toList, y ∈ BD :: Bo :: vo.ownBlock.toList ∨ w.heap.size ≤ y := fun y h => by
            rcases HVr.out with h1 | ⟨g1, h1, h2⟩
            · rw [h1] at h; exact .inl (by simp [h])
            · rw [h1] at h; simp at h; subst h; exact .inr h2
          have hc7 := (hcr.trans (hcZ.of_nil)).step hc6 hown
          have hfin := fun v : Value => hc7.set (p := ⟨Bo, 0, none⟩) (.inl (List.mem_cons.2 (.inr (List.mem_cons.2 (.inl rfl))))) v
          have hsz6 := hcZ.size
          have hv6 : ∀ v : Value, (v.ownBlock = vo'.ownBlock ∨ v.ownBlock = some (wr.alloc (.cells #[.int .i64 (i : Int)] 3)).heap.size) → (v.ownBlock = vo.ownBlock ∨ ∃ g, v.ownBlock = some g ∧ w.heap.size ≤ g) := fun v hv => by
            rcases hv with h1 | h1
            · rw [h1]; exact HVr.out
            · exact .inr ⟨_, h1, by omega⟩
          have hsm : (L ++ [(i : Int)]).length + nfB D' ≤ out.length + nfB D := by have := HSr.out; have := HNF.out; simp; omega
          clear x6 y6 l0 l1
          go_wp2
          go_end0
          rw [HOQ.out]
          exact ⟨rfl, D', _, hpush, hlast, hsm, hfin _, hv6 _ hat6⟩
end
end Go.Proofs.YtojokdicbopknaaGreat
