
/-
  law11.CheckText: for every description that can be read.
  The package variables check.keywords and lexer.words, as the rows of this chapter list them: what the walks take of them; that a start meets them.
-/
import Derived.Test.YtgljjapglgcpdaaGreatDoorChFew
import Derived.Test.YtgljjapglgcpdaaGreatDoorChPa
import Derived.LaidSub
namespace Go.Proofs.YtgljjapglgcpdaaGreatDoor

section
open Go.RowKit

/-! ### how long a text is -/
theorem leafB_size {nm : ByteArray} (h : leafB nm = true) : nm.size ≤ 16 := by
  simp only [leafB, nameB, numB, varB, spelt, Bool.or_eq_true, Bool.and_eq_true, decide_eq_true_eq] at h
  omega
theorem nameB_size {nm : ByteArray} (h : nameB nm = true) : nm.size ≤ 16 := leafB_size (by unfold leafB; rw [h]; rfl)
theorem bL_size (n : UInt8) : (bL n).size = 1 := rfl
mutual
theorem txT_le9 : ∀ t : Tm, txOk t = true → (txT t).size + 1 ≤ 19 * t.sz
  | .mk nm [], h => by
    simp only [txOk] at h
    have := leafB_size h
    simp only [txT, Tm.sz, szs]; omega
  | .mk nm (a :: r), h => by
    simp only [txOk, Bool.and_eq_true] at h
    have h0 := nameB_size h.1
    have h1 := txT_le9 a h.2.1
    have h2 := txC_le9 r h.2.2
    simp only [txT, Tm.sz, szs, ByteArray.size_append, bL_size]; omega
theorem txC_le9 : ∀ ts : List Tm, txOkL ts = true → (txC ts).size ≤ 19 * szs ts
  | [], _ => Nat.zero_le _
  | t :: ts, h => by
    simp only [txOkL, Bool.and_eq_true] at h
    have h1 := txT_le9 t h.1
    have h2 := txC_le9 ts h.2
    simp only [txC, szs, ByteArray.size_append, bL_size]; omega
end
theorem txLi_le9 {x : Li} (h : txOk x.atom = true) (hs : x.atom.sz ≤ 1000) : (txLi x).size ≤ 19005 := by
  have := txT_le9 x.atom h
  unfold txLi
  split
  · rw [ByteArray.size_append]; have : sNot_.size = 4 := rfl; omega
  · omega
theorem txB_le9 : ∀ l : List Li, (∀ x ∈ l, txOk x.atom = true ∧ x.atom.sz ≤ 1000) → (txB l).size ≤ 19010 * l.length
  | [], _ => Nat.zero_le _
  | x :: r, h => by
    have h1 := txLi_le9 (h x (by simp)).1 (h x (by simp)).2
    have h2 := txB_le9 r (fun y hy => h y (by simp [hy]))
    have h3 : sAnd_.size = 5 := rfl
    simp only [txB, List.length_cons, ByteArray.size_append]; omega
theorem txBody_le9 (l : List Li) (h : ∀ x ∈ l, txOk x.atom = true ∧ x.atom.sz ≤ 1000) : (txBody l).size ≤ 19010 * l.length := by
  cases l with
  | nil => exact Nat.zero_le _
  | cons x r =>
    have h1 := txLi_le9 (h x (by simp)).1 (h x (by simp)).2
    have h2 := txB_le9 r (fun y hy => h y (by simp [hy]))
    have h3 : sIf_.size = 4 := rfl
    simp only [txBody, List.length_cons, ByteArray.size_append]; omega
theorem rut_atoms {B b : Nat} {r : Ru} (h : RuT r) (hO : RuOk B b r) : ∀ x ∈ r.body, txOk x.atom = true ∧ x.atom.sz ≤ 1000 := fun x hx => by
  have hm : x.atom ∈ atomsOf r := by simp only [atomsOf, List.mem_cons, List.mem_map]; exact .inr ⟨x, hx, rfl⟩
  exact ⟨txOk_mis _ (h.atm _ hm).2.1, hO.sz _ hm⟩
theorem txRu_le9 {B b : Nat} {r : Ru} (h : RuT r) (hO : RuOk B b r) : (txRu r).size ≤ 200000 := by
  have h1 := txBody_le9 r.body (rut_atoms h hO)
  have h2 := txT_le9 r.head (txOk_mis _ (h.atm _ (by simp [atomsOf])).2.1)
  have h3 := hO.sz r.head (by simp [atomsOf])
  have h4 := h.len
  simp only [txRu, ByteArray.size_append, bL_size]; omega
theorem txRs_le9 {B b : Nat} : ∀ l : List Ru, (∀ r ∈ l, RuT r ∧ RuOk B b r) → (txRs l).size ≤ 200001 * l.length
  | [], _ => Nat.zero_le _
  | x :: r, h => by
    have h1 := txRu_le9 (h x (by simp)).1 (h x (by simp)).2
    have h2 := txRs_le9 r (fun y hy => h y (by simp [hy]))
    simp only [txRs, List.length_cons, ByteArray.size_append, bL_size]; omega
theorem rulesE_zero {l : List Ru} (h : (rulesE l).2 = 0) : rulesE l = (0, 0) := by
  obtain ⟨h1, h2, h3, h4, h5, h6⟩ := rulesE_ok h
  exact rulesE_of h1 h2 h3 h4 h5 h6

set_option maxRecDepth 100000 in
set_option maxHeartbeats 4000000 in
theorem lawText_ (l : List Ru) (p : Nat → Prop) (v : Value) (w : World) (hK : KwAt w) (hW : LwAt w) (h : SlR p w v l) (hN : ∀ r ∈ l, NiceR reachBytes maxLen r) :
    Calls Tryz.prog 3 #[v] w fun e w' => e = .returned (.bool true) ∧ Ch [] w w' := by
  have hfew : ∀ wz, Ch [] w wz → Calls Tryz.prog 4 #[v, .int .i64 (60 : Nat)] wz fun e w' => e = .returned (.bool (decide (l.length ≤ 60) && l.all fewB)) ∧ Ch [] wz w' := fun wz hz => fewRules_ p v l 60 wz (h.ch0 hz)
  have haw := fun wz (hz : Ch [] w wz) => law11awake wz (hK.ch hz)
  have HOK := Lib.hid (show (decide (l.length ≤ 60) && l.all fewB) = true → (∀ r ∈ l, RuOk reachBytes maxLen r) ∧ l.length ≤ 60 from fun hq => by
    rw [Bool.and_eq_true, decide_eq_true_eq, List.all_eq_true] at hq
    exact ⟨fun r hr => few_ok (hq.2 r hr) (hN r hr), hq.1⟩)
  clear hN
  have hru := Lib.hid (fun (hO : ∀ r ∈ l, RuOk reachBytes maxLen r) (hl : l.length ≤ 60) p v wz (hz : Ch [] w wz) (hs : SlR p wz v l) => chRules_ p v l wz reachBytes maxLen (hK.ch hz) hs hO (by omega))
  obtain ⟨a, c, rfl, hlc, hm⟩ := h.form
  unfold maxLen at hm
  have HK := Lib.hid hK
  have HW := Lib.hid hW
  clear hK hW
  cases hf : (decide (l.length ≤ 60) && l.all fewB) with
  | false =>
    rw [hf] at hfew
    clear hf HOK hru
    go_enter Tryz.func3, Tryz.ntmps3
    go_wp2_with (first
      | (go_at_call 4; refine (hfew _ (Ch.refl _ _)).mono ?_; rintro e w1 ⟨rfl, hd1⟩; clear hfew)
      | (go_at_call 5; refine (haw _ hd1).mono ?_; rintro e w2 ⟨rfl, hd2⟩))
    go_ret
    exact ⟨rfl, hd1.trans hd2⟩
  | true =>
    rw [hf] at hfew
    obtain ⟨hO, hl60⟩ := HOK.out hf
    have hru1 := hru.out hO hl60
    clear hf HOK hru
    have HO := Lib.hid hO
    have HP := Lib.hid (show (rulesE l).2 = 0 → rulesE l = (0, 0) ∧ (∀ r ∈ l, RuT r) from fun hz => ⟨rulesE_zero hz, fun r hr => ruT_of ((rulesE_ok hz).2.1 r hr)⟩)
    have HE := Lib.hid (show ((rulesE l).1, (rulesE l).2) = rulesE l from rfl)
    generalize (rulesE l).1 = E0 at *
    generalize (rulesE l).2 = E at *
    clear hO
    go_enter Tryz.func3, Tryz.ntmps3
    go_wp2_with (go_at_call 4; refine (hfew _ (Ch.refl _ _)).mono ?_; rintro e w1 ⟨rfl, hd1⟩; clear hfew)
    go_loopw [3] (fun i wr => ∃ k : Nat, k ≤ l.length ∧ i = .int .i64 k ∧ Ch [] w wr) (fun i _ => l.length - (intOf i).toNat)
    case atStart => exact ⟨0, Nat.zero_le _, rfl, hd1⟩
    case round =>
      obtain ⟨k, hk, rfl, hB⟩ := hrel
      by_cases hlt : k < l.length
      · obtain ⟨bb, oo, a', c', a'', c'', rfl, hp, c0, c1, c2, hT, hL⟩ := (h.ch0 hB).at_ hlt
        have hO := HO.out _ (List.getElem_mem hlt)
        have hval := rfValid_ l[k] reachBytes maxLen hO _ _ _ wr hT hL
        have hcall := fun wz (hz : Ch [] wr wz) => chRule_ l[k] _ _ _ wz reachBytes maxLen (HK.out.ch (hB.trans hz)) (hT.ch0 hz) (hL.ch0 hz) hO
        have HNO := Lib.hid (show ruV l[k] = false → ruleE l[k] ≠ 0 from fun hh => ruV_no hh)
        have j1 : decide (k < l.length) = true := decide_eq_true hlt
        clear hT hL hO
        generalize l[k] = x at *
        generalize ruV x = q at *
        generalize ruleE x = y at *
        cases q with
        | true =>
          clear HNO hcall
          go_wp2_with (go_at_call 6; refine hval.mono ?_; rintro e w3 ⟨rfl, hc3⟩; clear hval)
          go_roundw
          case rel => exact ⟨k + 1, hlt, by go_num, hB.trans hc3⟩
          case measure => simp [intOf]; omega
        | false =>
          have j2 : (y == 0) = false := by simpa using HNO.out rfl
          clear HNO
          go_wp2_with (first
            | (go_at_call 6; refine hval.mono ?_; rintro e w3 ⟨rfl, hc3⟩; clear hval; have d0 := cell_ch c0 hc3 (by simp); have d1 := cell_ch c1 hc3 (by simp); have d2 := cell_ch c2 hc3 (by simp))
            | (go_at_call 7; refine (hcall _ hc3).mono ?_; rintro e w4 ⟨rfl, hc4⟩; clear hcall))
          go_roundw
          case rel => exact ⟨k + 1, hlt, by go_num, (hB.trans hc3).trans hc4⟩
          case measure => simp [intOf]; omega
      · have j1 : decide (k < l.length) = false := decide_eq_false hlt
        have hr1 := hru1 _ _ wr hB (h.ch0 hB)
        by_cases hz : E = 0
        · subst hz
          obtain ⟨hE, hT⟩ := HP.out rfl
          have hV : ∀ r ∈ l, ruV r = true := fun r hr => (hT r hr).ruV
          have hTO : ∀ r ∈ l, RuT r ∧ RuOk reachBytes maxLen r := fun r hr => ⟨hT r hr, HO.out r hr⟩
          have hsz := txRs_le9 l hTO
          have hpr := fun wz (hz : Ch [] w wz) => prRules_ _ _ l wz reachBytes maxLen (h.ch0 hz) HO.out hV (by omega) (by omega) (fun r hr => ⟨by have := txRu_le9 (hTO r hr).1 (hTO r hr).2; omega, fun x hx => by have := rut_atoms (hTO r hr).1 (hTO r hr).2 x hx; have := txLi_le9 this.1 this.2; omega, by have := (hT r hr).len; omega⟩)
          have hps := fun wz (hz : Ch [] w wz) => paParse_ l hV (by omega) (txRs l) wz (HW.out.ch hz) (lx_Rs l (fun r hr => (hT r hr).txOk))
          have HE0 : Hid (E0 = 0) := by have := HE.out; rw [hE] at this; unfold Hid; injection this
          clear HP HE hE hT hV hTO hsz
          generalize txRs l = T at *
          by_cases hbig : T.size ≤ 16384
          · have hpr2 : ∀ wz, Ch [] w wz → Calls Tryz.prog 9 #[.slice a l.length c] wz fun e w' => e = .returned (.tuple #[.string T, .int .i64 0]) ∧ Ch [] wz w' := fun wz hz => (hpr wz hz).mono fun e w' hh => ⟨by rcases hh.1 with h1 | h1; exact h1.2; exact absurd hbig (by omega), hh.2⟩
            have HBIG := Lib.hid hbig
            clear hpr hbig
            go_wp2_with (first
              | (go_at_call 8; ((with_reducible refine hr1.mono ?_); rintro e w2 ⟨rfl, hc2⟩; clear hr1; have hB2 := hB.trans hc2))
              | (go_at_call 9; refine (hpr2 _ hB2).mono ?_; rintro e w3 ⟨rfl, hc3⟩; clear hpr2; have hB3 := hB2.trans hc3)
              | (go_at_call 10; refine (hps _ hB3 HBIG.out).mono ?_; rintro e w4 ⟨⟨v4, rfl, hv4⟩, hc4⟩; clear hps; have hB4 := hB3.trans hc4; have hr2 := hru1 _ _ w4 hB4 hv4; rw [HE0.out] at hr2)
              | (go_at_call 8; refine hr2.mono ?_; rintro e w5 ⟨rfl, hc5⟩; clear hr2; have hB5 := hB4.trans hc5)
              | (go_at_call 5; refine (haw _ hB5).mono ?_; rintro e w6 ⟨rfl, hc6⟩))
            go_ret
            exact ⟨rfl, hB5.trans hc6⟩
          · have hpr2 : ∀ wz, Ch [] w wz → Calls Tryz.prog 9 #[.slice a l.length c] wz fun e w' => e = .returned (.tuple #[.string ⟨#[]⟩, .int .i64 2]) ∧ Ch [] wz w' := fun wz hz => (hpr wz hz).mono fun e w' hh => ⟨by rcases hh.1 with h1 | h1; exact absurd h1.1 hbig; exact h1.2, hh.2⟩
            clear hpr hps hbig
            go_wp2_with (first
              | (go_at_call 8; refine hr1.mono ?_; rintro e w2 ⟨rfl, hc2⟩; clear hr1; have hB2 := hB.trans hc2)
              | (go_at_call 9; refine (hpr2 _ hB2).mono ?_; rintro e w3 ⟨rfl, hc3⟩; clear hpr2; have hB3 := hB2.trans hc3)
              | (go_at_call 5; refine (haw _ hB3).mono ?_; rintro e w6 ⟨rfl, hc6⟩))
            go_ret
            exact ⟨rfl, hB3.trans hc6⟩
        · have j2 : (E == 0) = false := by simpa using hz
          clear HP HE hz
          go_wp2_with (first
            | (go_at_call 8; refine hr1.mono ?_; rintro e w2 ⟨rfl, hc2⟩; clear hr1; have hB2 := hB.trans hc2)
            | (go_at_call 5; refine (haw _ hB2).mono ?_; rintro e w6 ⟨rfl, hc6⟩))
          go_ret
          exact ⟨rfl, hB2.trans hc6⟩
end

section
open Go.ChangeShapes Go.WideShapes Go.ChangeAt Go.RowKit

def txLaid : List (String × DataW Unit) := [("gameplayer/check.keywords", Rows.laid_gameplayer_check_keywords), ("gameplayer/lexer.words", Rows.laid_gameplayer_lexer_words)]
/-- The door's own heap meets the condition. -/
theorem door_met2 (os : Os) (args : Array Value) : laidMetH Tryz.prog txLaid ((World.doorLaid Tryz.prog 400 os).forCall (fun _ _ => 0) ⟨#[], args, []⟩).memory :=
  laidMetH_of_parts3 (fuel := 8) (laidMet_of_run' 8 (by kernel_rfl) (by kernel_rfl)) (by kernel_rfl) (by kernel_rfl)
theorem kw_of_tx {W : World} (h : laidMetH Tryz.prog txLaid W) : laidMetH Tryz.prog kwLaid W := by
  rw [MakeChecks.laidMetH_plain _ _ _ (by kernel_rfl)] at h ⊢
  obtain ⟨ps, h1, h2, h3⟩ := h
  obtain ⟨ps', h4, h5⟩ := h1.filter (fun x => x.1 == "gameplayer/check.keywords")
  exact ⟨ps', h4, h2.sublist h5, fun b off hm => h3 b off (h5.subset hm)⟩
def lwLaid : List (String × DataW Unit) := [("gameplayer/lexer.words", Rows.laid_gameplayer_lexer_words)]
theorem lw_of_tx {W : World} (h : laidMetH Tryz.prog txLaid W) : laidMetH Tryz.prog lwLaid W := by
  rw [MakeChecks.laidMetH_plain _ _ _ (by kernel_rfl)] at h ⊢
  obtain ⟨ps, h1, h2, h3⟩ := h
  obtain ⟨ps', h4, h5⟩ := h1.filter (fun x => x.1 == "gameplayer/lexer.words")
  exact ⟨ps', h4, h2.sublist h5, fun b off hm => h3 b off (h5.subset hm)⟩
theorem gLw : Tryz.prog.globalNamed "gameplayer/lexer.words" = some 2 := by kernel_rfl
theorem tLw : (Tryz.prog.globals[2]?).map (·.type) = some 181 := by kernel_rfl
theorem laid_lws : (Rows.laid_gameplayer_lexer_words : DataW Unit) = .agg ([sIf, sAnd, sNot].map fun s => .lit (.string s.data.toList)) := rfl
set_option maxRecDepth 100000 in
theorem lw_of_laid {W : World} (h : laidMetH Tryz.prog lwLaid W) : LwAt W := by
  rw [MakeChecks.laidMetH_plain _ _ _ (by kernel_rfl)] at h
  obtain ⟨ps, ⟨g0, t0, cs0, f0, p0, q0, hg0, ht0, hv0, hd0, _, _⟩, _⟩ := h
  obtain rfl := Option.some.inj (gLw.symm.trans hg0)
  obtain rfl := Option.some.inj (tLw.symm.trans ht0)
  rw [laid_lws] at hd0
  obtain ⟨xs, m1, rfl, hx1, hlen, hn3, hel⟩ := DataW.trod_array Tryz.underlying181 hd0
  simp only [Prod.mk.injEq, DataW.agg.injEq] at hx1
  have hx := hx1.1
  have each : ∀ (i : Nat) (s : ByteArray), [sIf, sAnd, sNot][i]? = some s → cs0[i]? = some (.string s) := by
    intro i s hs
    have hi : i < 3 := (List.getElem?_eq_some_iff.1 hs).1
    have h1 := hel i (by omega)
    rw [cells_s1, List.getElem?_eq_getElem (by omega)] at h1
    obtain ⟨s', e0, f0, _⟩ := DataW.trod_string Tryz.underlying9 h1
    have h2 : ([sIf, sAnd, sNot].map fun s => (DataW.lit (.string s.data.toList) : DataW Unit))[i]? = (xs.map (·.1))[i]? := by rw [hx]
    rw [List.getElem?_map, hs, List.getElem?_map, List.getElem?_eq_getElem (by omega), f0] at h2
    simp only [Option.map_some, Option.some.injEq, DataW.lit.injEq, Lit.string.injEq] at h2
    obtain rfl : s = s' := ByteArray.ext (Array.toList_inj.1 h2)
    have h3 : ((cs0.toList.drop (i * 1)).take 1)[0]? = some (.string s) := by rw [e0]; rfl
    rw [List.getElem?_take, if_pos (by omega), List.getElem?_drop, Nat.mul_one, Nat.add_zero, Array.getElem?_toList] at h3
    exact h3
  have cell : ∀ i, W.cell? ⟨2, i, none⟩ = cs0[i]? := fun i => World.var?_cell hg0 hv0 i
  refine ⟨some ⟨2, 0, none⟩, 3, rfl, by simp, by decide, fun i cs hi => ?_⟩
  obtain ⟨s, hs, rfl⟩ : ∃ s, [sIf, sAnd, sNot][i]? = some s ∧ encS s = cs := by
    rw [List.getElem?_map, Option.map_eq_some_iff] at hi
    exact hi
  have hc := each i s hs
  rw [← cell] at hc
  refine ⟨⟨rfl, by simp [encS, Value.oneCell']⟩, 2, 0, rfl, ⟨rfl, lt_of_cell hc⟩, fun j u hu => ?_⟩
  obtain rfl : j = 0 := by
    have := (List.getElem?_eq_some_iff.1 hu).1
    simp [encS] at this
    exact this
  have hu' : Value.string s = u := by simpa [encS] using hu
  rw [← hu', Nat.mul_one, Nat.add_zero, Nat.zero_add]
  exact hc
end
end Go.Proofs.YtgljjapglgcpdaaGreatDoor
