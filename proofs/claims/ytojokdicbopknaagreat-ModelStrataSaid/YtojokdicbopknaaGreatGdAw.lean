
/-
  The worked example of chapter 14, as plain values. No program is in sight here.
  The contract of plain.Atoms.
  The contract of law14's awake.
-/
import Derived.Test.YtojokdicbopknaaGreatGdVL
import Derived.Test.YtojokdicbopknaaGreatAwk
import Derived.Test.YtojokdicbopknaaGreatGdRf1
import Derived.Test.YtojokdicbopknaaGreatGdRf4
import Derived.Test.YtojokdicbopknaaGreatSmall3
namespace Go.Proofs.YtojokdicbopknaaGreat

section
section
def gC : ByteArray := ⟨#[99]⟩
def gD : ByteArray := ⟨#[100]⟩
/-- "a, b, c, d" -/
def gdS : ByteArray := ⟨#[97, 44, 32, 98, 44, 32, 99, 44, 32, 100]⟩
def gdA : List Tm := [.mk bA [], .mk bB [], .mk gC [], .mk gD []]
def gdR : List Gr := [⟨1, [0], []⟩, ⟨2, [1], []⟩, ⟨3, [2], [0]⟩]
theorem gd_ok : gdOk gdA gdR = true := by kernel_rfl
theorem gd_eds : gEds gdA gdR = [⟨bB, bA, false⟩, ⟨gC, bB, false⟩, ⟨gD, gC, false⟩, ⟨gD, bA, true⟩] := by kernel_rfl
theorem gdBD : bB ≠ gD := neB (by kernel_rfl)
theorem gdAD : bA ≠ gD := neB (by kernel_rfl)
theorem gdCD : gC ≠ gD := neB (by kernel_rfl)
def gdF : LvF := fun s => if s = gD then 1 else 0
theorem gd_strat : Strat (gEds gdA gdR) gdF := by
  rw [gd_eds]
  intro e he
  simp only [List.mem_cons, List.not_mem_nil, or_false] at he
  rcases he with rfl | rfl | rfl | rfl <;> simp [gdF, stepN, gdBD, gdAD, gdCD]
theorem gd_lower : Lower (gEds gdA gdR) gdF := by
  rw [gd_eds]
  intro g hg s
  have h1 := hg ⟨gD, bA, true⟩ (by simp)
  simp only [stepN, if_true] at h1
  unfold gdF
  split
  · rename_i h; subst h; omega
  · omega
theorem gd_st : stA gdA gdR = some [0, 0, 0, 1] := by
  unfold stA
  rw [leastF_some gd_strat gd_lower]
  simp [gdA, gdF, gdBD, gdAD, gdCD, Tm.name]
theorem gd_f0 : factsOk gdA.length [0] = true := by kernel_rfl
theorem gd_f1 : factsOk gdA.length [1] = true := by kernel_rfl
theorem gd_f4 : factsOk gdA.length [4] = false := by kernel_rfl
theorem gd_ev0 : evA gdA gdR [0] = (0, [0, 0, 0, 1], [0, 1, 2, -1]) := by
  rw [evA_some gd_ok gd_f0 gd_st, show ranksR [0, 0, 0, 1] gdR gdA.length [0] = [0, 1, 2, -1] by kernel_rfl]
theorem gd_ev1 : evA gdA gdR [1] = (0, [0, 0, 0, 1], [-1, 0, 1, 1]) := by
  rw [evA_some gd_ok gd_f1 gd_st, show ranksR [0, 0, 0, 1] gdR gdA.length [1] = [-1, 0, 1, 1] by kernel_rfl]
theorem gd_ev4 : evA gdA gdR [4] = (13, [], []) := evA_bad (by rw [gd_f4, gd_ok]; rfl)
theorem gd_sv : stV gdA gdR = (0, [0, 0, 0, 1]) := by unfold stV; rw [if_pos gd_ok, gd_st]
theorem gd_md : mdR [-1, 0, 1, 1] 4 = [1, 2, 3] := by kernel_rfl
theorem gd_ho : hoA gdA gdR [0] 3 = (false, 0) := by unfold hoA; rw [gd_ev0]; kernel_rfl
theorem gd_wh : whA gdA gdR [1] 3 = (2, true) := by unfold whA; rw [gd_ev1]; kernel_rfl
theorem gd_w3 : whyI [0, 0, 0, 1] [-1, 0, 1, 1] gdR 3 = some 2 := by kernel_rfl
theorem gd_w2 : whyI [0, 0, 0, 1] [-1, 0, 1, 1] gdR 2 = some 1 := by kernel_rfl
theorem gd_w1 : whyI [0, 0, 0, 1] [-1, 0, 1, 1] gdR 1 = none := by kernel_rfl
theorem gd_deep : Deep [0, 0, 0, 1] [-1, 0, 1, 1] gdR 2 3 := by
  intro i h p hp
  rw [gd_w3] at h
  injection h with h
  subst h
  have : psOf gdR 2 = [2] := by kernel_rfl
  rw [this, List.mem_singleton] at hp
  subst hp
  intro i h p hp
  rw [gd_w2] at h
  injection h with h
  subst h
  have : psOf gdR 1 = [1] := by kernel_rfl
  rw [this, List.mem_singleton] at hp
  subst hp
  exact gd_w1
theorem gd_de {out : List Int} {ok : Bool} (h : DeAns gdA gdR [1] 3 out ok) : out = [1, 2] ∧ ok = true := by
  unfold DeAns at h
  rw [gd_ev1] at h
  simp only at h
  rcases h with ⟨_, _, _, rfl, f, hf, rfl⟩ | ⟨h, _⟩
  · rw [derO_deep f 2 3 [] hf gd_deep]
    exact ⟨by kernel_rfl, rfl⟩
  · exact absurd ⟨trivial, by kernel_rfl, by decide⟩ h
theorem gd_fit : GdBnd gdA gdR := by
  refine ⟨⟨by decide, by decide, by decide, ?_⟩, ?_, 1000, 4, ?_, by decide⟩
  · intro t ht
    simp only [gdA, List.mem_cons, List.not_mem_nil, or_false] at ht
    rcases ht with rfl | rfl | rfl | rfl <;> exact of_decide_eq_true (by kernel_rfl)
  · intro t ht
    simp only [gdA, List.mem_cons, List.not_mem_nil, or_false] at ht
    rcases ht with rfl | rfl | rfl | rfl <;> exact of_decide_eq_true (by kernel_rfl)
  · intro t ht
    simp only [gdA, List.mem_cons, List.not_mem_nil, or_false] at ht
    rcases ht with rfl | rfl | rfl | rfl <;> exact ⟨of_decide_eq_true (by kernel_rfl), by simp, by simp [NiceL]⟩
end
end

section
open Go.RowKit

/-- terms that are separated by commas -/
def pAtoms (s : ByteArray) : Nat → Nat → List Tm
  | 0, _ => []
  | f + 1, i => if i < s.size then
      (if (pSign s (pTerm s (fuel s 0) (pWord s i).2 (pWord s i).1).2 44).1 = true then (pTerm s (fuel s 0) (pWord s i).2 (pWord s i).1).1 :: pAtoms s f (pSign s (pTerm s (fuel s 0) (pWord s i).2 (pWord s i).1).2 44).2
      else [(pTerm s (fuel s 0) (pWord s i).2 (pWord s i).1).1])
    else []
theorem gd_atoms : pAtoms gdS (gdS.size + 1) 0 = gdA := by kernel_rfl

set_option maxRecDepth 100000 in
set_option maxHeartbeats 4000000 in
theorem atoms_ (s : ByteArray) (w : World) (hs : s.size ≤ 1000000000) :
    Calls Tryz.prog 29 #[.string s] w fun e w' => ∃ v, e = .returned v ∧ SlT (fun b => w.heap.size ≤ b) w' v (pAtoms s (s.size + 1) 0) ∧ Ch [] w w' := by
  go_enter Tryz.func29, Tryz.ntmps29
  go_wp2
  have hRA : Rdr (w.alloc (.cells #[.string s, .int .i64 0] 70)) w.heap.size s 0 := Blk.new _ _ _
  have hcA : Ch [] w (w.alloc (.cells #[.string s, .int .i64 0] 70)) := (Ch.refl _ _).alloc _
  have hsA : (w.alloc (.cells #[.string s, .int .i64 0] 70)).heap.size = w.heap.size + 1 := by simp
  generalize (w.alloc (.cells #[.string s, .int .i64 0] 70)) = wA at *
  go_loopw [4] (fun v wr => ∃ (k g : Nat) (acc : List Tm), k ≤ s.size ∧ (s.size - k) + 1 ≤ g ∧ Rdr wr w.heap.size s k ∧ Ch [] w wr ∧ OwnT wr (w.heap.size + 1) v acc ∧ acc.length ≤ k ∧ Hid (pAtoms s (s.size + 1) 0 = acc ++ pAtoms s g k))
    (fun _ wr => s.size - (match wr.cell? ⟨w.heap.size, 1, none⟩ with | some v => (intOf v).toNat | none => 0))
  case atStart => exact ⟨0, s.size + 1, [], Nat.zero_le _, by omega, hRA, hcA, OwnT.nil _ _, Nat.zero_le _, rfl⟩
  case round =>
    obtain ⟨k, g, acc, hk, hg, hR, hB, ho, hacc, HX⟩ := hrel
    obtain ⟨g, rfl⟩ : ∃ g', g = g' + 1 := ⟨g - 1, by omega⟩
    have e0 := hR.cell 0
    have e1 := hR.cell 1
    have l0 := Later.cell e0
    have l1 := Later.cell e1
    have HS : Hid (pAtoms s (g + 1) k = if k < s.size then
      (if (pSign s (pTerm s (fuel s 0) (pWord s k).2 (pWord s k).1).2 44).1 = true then (pTerm s (fuel s 0) (pWord s k).2 (pWord s k).1).1 :: pAtoms s g (pSign s (pTerm s (fuel s 0) (pWord s k).2 (pWord s k).1).2 44).2
      else [(pTerm s (fuel s 0) (pWord s k).2 (pWord s k).1).1]) else []) := rfl
    by_cases hlt : k < s.size
    · have j1 : decide (k < s.size) = true := decide_eq_true hlt
      have j1' : decide ((k : Int) < (s.size : Int)) = true := decide_eq_true (by omega)
      go_wp2
      refine wp_region_later (by kernel_rfl) (lexB_of (by kernel_rfl)) ?_
      repeat (go_big_quiet_step (fail))
      refine wpQuiet_nil ?_
      intro w2 hw2
      have E1 := Lib.hid e1
      clear e0 e1 l0 l1
      have hR2 := hR.ch hw2 (by simp)
      have hwd := word_ w.heap.size s k w2 hR2 hs hk
      have hk1 := pWord_le hk
      obtain ⟨wd, k1, hwe⟩ : ∃ a b, pWord s k = (a, b) := ⟨_, _, rfl⟩
      rw [hwe] at hwd hk1 HS
      simp only at hwd hk1 HS
      clear hwe
      have htr := fun wz hz => term_ (fuel s 0) w.heap.size k1 s wd wz hz hs hk1.2 (by unfold fuel; omega)
      have hk2 := pTerm_le s (fuel s 0) k1 wd hk1.2
      have hnm := pTerm_name s (fuel s 0) k1 wd
      obtain ⟨tm, k2, hte⟩ : ∃ a b, pTerm s (fuel s 0) k1 wd = (a, b) := ⟨_, _, rfl⟩
      rw [hte] at htr hk2 HS hnm
      simp only at htr hk2 HS hnm
      have HNM := Lib.hid hnm
      clear hte hnm
      have hsg := fun wz hz => sign_ w.heap.size s k2 44 wz hz hs hk2.2
      have hk3 := pSign_le (c := 44) hk2.2
      obtain ⟨q3, k3, hse⟩ : ∃ a b, pSign s k2 44 = (a, b) := ⟨_, _, rfl⟩
      rw [hse] at hsg hk3 HS
      simp only at hsg hk3 HS
      clear hse
      rw [if_pos hlt] at HS
      obtain ⟨css, hown, htms⟩ := ho
      have HCL := Lib.hid htms.len
      obtain ⟨a0, c0, rfl⟩ := hown.form'
      have HLV : Hid (∀ b, (Value.slice a0 css.length c0).ownBlock = some b → w.heap.size + 1 ≤ b ∧ b < wr.heap.size) := fun b hb => hown.lt hb
      have hRl := hR.lt
      have hsz2 := hw2.size
      go_wp2_with (first
        | (go_at_call 44; refine hwd.mono ?_; rintro e w3 ⟨rfl, hR3, hc3⟩; clear hwd)
        | (go_at_call 43; refine (htr _ hR3).mono ?_; rintro e w4 ⟨va, rfl, hva, hR4, hc4⟩; clear htr; obtain ⟨a2, c2, rfl, hl2, hm2⟩ := hva.form; have hc24 := (hw2.of_nil (S := [w.heap.size])).trans (hc3.trans hc4))
        | (at_builtin; refine wpList_append_sl rfl _ _ _ rfl elT (base := w.heap.size + 1) (v := .slice a0 css.length c0) rfl ((hown.ch hc24 (by intro b hb hm; have := (HLV.out b hb).1; simp at hm; omega)).ch ((Ch.refl [] w4).alloc _) (by simp)) rfl (Sl.one w4 2 59 [.string wd, .slice a2 tm.args.length c2] rfl (by simp [Value.oneCell'])) (by have := HCL.out; simp; omega) (by have := hc24.size; simp; omega) ?_; intro v6 w6 ho6 hc6 hat6 hn6; clear hn6))
      have hcA4 : Ch [w.heap.size] wr (w4.alloc (.cells #[.string wd, .slice a2 tm.args.length c2] 59)) := hc24.alloc _
      have hownA : Own (w4.alloc (.cells #[.string wd, .slice a2 tm.args.length c2] 59)) (w.heap.size + 1) 59 2 (.slice a0 css.length c0) css := hown.ch hcA4 (by intro b hb hm; have := (HLV.out b hb).1; simp at hm; omega)
      have hsz4 : w3.heap.size ≤ w4.heap.size := hc4.size
      have hsz3 : w2.heap.size ≤ w3.heap.size := hc3.size
      have htmsA := TmsR.imp (q := fun b => w.heap.size + 1 ≤ b ∧ (Value.slice a0 css.length c0).ownBlock ≠ some b) hcA4.size (fun b hb hp => ⟨hp, hcA4.block b hb (by intro hm; have := hp.1; simp at hm; omega)⟩) htms
      have hvaA : SlT (fun b => w.heap.size + 1 ≤ b ∧ (Value.slice a0 css.length c0).ownBlock ≠ some b) (w4.alloc (.cells #[.string wd, .slice a2 tm.args.length c2] 59)) (.slice a2 tm.args.length c2) tm.args :=
        (hva.ch0 ((Ch.refl _ _).alloc _)).weak fun b _ hb => ⟨by have : w3.heap.size ≤ b := hb; omega, fun e => by have := (HLV.out b e).2; have : w3.heap.size ≤ b := hb; omega⟩
      have hoT := OwnT.add hownA htmsA hvaA hc6 hat6 ho6
      rw [← HNM.out] at hoT
      have hlv6 : ∀ b, b ∈ (Value.slice a0 css.length c0).ownBlock.toList → w.heap.size + 1 ≤ b := by
        intro b hb
        cases hvo : (Value.slice a0 css.length c0).ownBlock with
        | none => rw [hvo] at hb; cases hb
        | some g6 => rw [hvo] at hb; simp at hb; subst hb; exact (HLV.out b hvo).1
      have hR6 : Rdr w6 w.heap.size s k2 := (Blk.alloc hR4 _).ch hc6 (fun hm => by have := hlv6 _ hm; omega)
      have hB6 : Ch [] w w6 := (hB.step hcA4 (by simp)).step hc6 (fun x hx => .inr (by have := hlv6 _ hx; omega))
      have hs6 := hsg w6 hR6
      clear hsg hownA htmsA hvaA hcA4 hat6 ho6 hva htms hown hR4 hR3 hc3 hc4 hc24 hc6 hR2 hR6
      cases q3 with
      | true =>
        have HPA : Hid (pAtoms s (s.size + 1) 0 = (acc ++ [tm]) ++ pAtoms s g k3) := by unfold Hid; rw [HX.out, HS.out, if_pos rfl]; simp
        have hadv := hk3.2.2 rfl
        go_wp2_with (go_at_call 45; refine hs6.mono ?_; rintro e w8 ⟨rfl, hR8, hc8⟩; clear hs6)
        have e2 := hR8.cell 1
        have e1 := E1.out
        go_roundw
        case rel => exact ⟨k3, g, acc ++ [tm], hk3.2.1, by omega, hR8, hB6.step hc8 (by simp), hoT.ch hc8 (by intro x hx; simp at hx; omega), by simp; omega, HPA⟩
        case measure =>
          rw [e1, e2]
          show s.size - ((k3 : Int)).toNat < s.size - ((k : Int)).toNat
          omega
      | false =>
        have HPA : Hid (pAtoms s (s.size + 1) 0 = acc ++ [tm]) := by unfold Hid; rw [HX.out, HS.out, if_neg (by simp)]
        go_wp2_with (go_at_call 45; refine hs6.mono ?_; rintro e w8 ⟨rfl, hR8, hc8⟩; clear hs6)
        go_ret
        rw [HPA.out]
        exact ⟨_, rfl, ((hoT.ch hc8 (by intro x hx; simp at hx; omega)).slt).weak (fun b _ hb => by omega), hB6.step hc8 (by simp)⟩
    · have j1 : decide (k < s.size) = false := decide_eq_false hlt
      have j1' : decide ((k : Int) < (s.size : Int)) = false := decide_eq_false (by omega)
      rw [if_neg hlt] at HS
      have HPA : Hid (pAtoms s (s.size + 1) 0 = acc) := by unfold Hid; rw [HX.out, HS.out]; simp
      go_wp2
      refine wp_region_later (by kernel_rfl) (lexB_of (by kernel_rfl)) ?_
      repeat (go_big_quiet_step (fail))
      refine wpQuiet_nil ?_
      intro w2 hw2
      clear e0 e1 l0 l1
      go_wp2
      go_ret
      rw [HPA.out]
      exact ⟨_, rfl, ((ho.ch hw2 (by simp)).slt).weak (fun b _ hb => by omega), hB.trans hw2⟩
end

section
open Go.RowKit

theorem intsEq (p q) (v u : Value) (xs : List Int) (w : World) (h : SlI p w v xs) (h' : SlI q w u xs) :
    Calls Tryz.prog 13 #[v, u] w fun e w' => e = .returned (.bool true) ∧ Ch [] w w' := by
  have := plainInts p q v u xs xs w h h'
  rwa [show eqI xs xs = true from by simp [eqI]] at this
/-- a literal slice -/
theorem Sl.lit {w : World} {g : Nat} {t : TypeId} {cs : Array Value} {k : Nat} {css : List (List Value)} (hb : Blk w g t cs) (hc : cs.toList = css.flatten) (h2 : ∀ c ∈ css, c.length = k) (h1 : ∀ c ∈ css, ∀ u ∈ c, u.oneCell' = true) (hm : css.length ≤ maxLen) :
    Sl (fun _ => True) w k (.slice (some ⟨g, 0, none⟩) css.length css.length) css := by
  refine ⟨some ⟨g, 0, none⟩, css.length, rfl, Nat.le_refl _, hm, fun i c hi => ?_⟩
  have hmem := List.mem_of_getElem? hi
  refine ⟨⟨h2 c hmem, h1 c hmem⟩, g, 0, rfl, ⟨trivial, hb.lt⟩, fun j u hu => ?_⟩
  rw [hb.cell, ← Array.getElem?_toList, hc, Nat.zero_add]
  exact flat_get _ k h2 i c j u hi hu
theorem SlI.lit {w : World} {g : Nat} {t : TypeId} {cs : Array Value} {n : Nat} {xs : List Int} (hb : Blk w g t cs) (hc : cs.toList = (xs.map encI).flatten) (hn : n = xs.length) (hm : n ≤ maxLen) : SlI (fun _ => True) w (.slice (some ⟨g, 0, none⟩) n n) xs := by
  subst hn
  have := Sl.lit (k := 1) hb hc (fun c h => by obtain ⟨x, _, rfl⟩ := List.mem_map.1 h; rfl) (fun c h u hu => by obtain ⟨x, _, rfl⟩ := List.mem_map.1 h; simp only [encI, List.mem_singleton] at hu; subst hu; rfl) (by simpa using hm)
  rw [List.length_map] at this
  exact this
theorem gd_lit {w : World} {g0 g1 g2 g3 g4 : Nat} (h0 : Blk w g0 3 #[.int .i64 0]) (h1 : Blk w g1 3 #[.int .i64 1]) (h2 : Blk w g2 3 #[.int .i64 2]) (h3 : Blk w g3 3 #[.int .i64 0])
    (h4 : Blk w g4 44 #[.int .i64 1, .slice (some ⟨g0, 0, none⟩) 1 1, .slice none 0 0, .int .i64 2, .slice (some ⟨g1, 0, none⟩) 1 1, .slice none 0 0, .int .i64 3, .slice (some ⟨g2, 0, none⟩) 1 1, .slice (some ⟨g3, 0, none⟩) 1 1]) :
    SlGr (fun _ => True) w (.slice (some ⟨g4, 0, none⟩) 3 3) gdR := by
  have s0 : SlI (fun _ => True) w (.slice (some ⟨g0, 0, none⟩) 1 1) [0] := SlI.lit h0 rfl rfl (by decide)
  have s1 : SlI (fun _ => True) w (.slice (some ⟨g1, 0, none⟩) 1 1) [1] := SlI.lit h1 rfl rfl (by decide)
  have s2 : SlI (fun _ => True) w (.slice (some ⟨g2, 0, none⟩) 1 1) [2] := SlI.lit h2 rfl rfl (by decide)
  have s3 : SlI (fun _ => True) w (.slice (some ⟨g3, 0, none⟩) 1 1) [0] := SlI.lit h3 rfl rfl (by decide)
  have hS := Sl.lit (k := 3) (css := [[.int .i64 1, .slice (some ⟨g0, 0, none⟩) 1 1, .slice none 0 0], [.int .i64 2, .slice (some ⟨g1, 0, none⟩) 1 1, .slice none 0 0], [.int .i64 3, .slice (some ⟨g2, 0, none⟩) 1 1, .slice (some ⟨g3, 0, none⟩) 1 1]]) h4 rfl (by simp) (by simp [Value.oneCell']) (show 3 ≤ maxLen by decide)
  refine ⟨_, hS, rfl, ?_⟩
  · intro i cs x hc hx
    rcases i with _ | _ | _ | i
    · injection hc with hc; injection hx with hx; subst hc hx
      exact ⟨_, _, rfl, s0, SlI.nilZ _ _⟩
    · injection hc with hc; injection hx with hx; subst hc hx
      exact ⟨_, _, rfl, s1, SlI.nilZ _ _⟩
    · injection hc with hc; injection hx with hx; subst hc hx
      exact ⟨_, _, rfl, s2, s3⟩
    · simp [gdR] at hx

set_option maxRecDepth 100000 in
set_option maxHeartbeats 4000000 in
theorem law14awake (w : World) : Calls Tryz.prog 10 #[] w fun e w' => e = .returned (.bool true) ∧ Ch [] w w' := by
  have hat := fun wz => atoms_ gdS wz (by decide)
  rw [gd_atoms] at hat
  go_enter Tryz.func10, Tryz.ntmps10
  go_wp2_with (go_at_call 29; refine (hat _).mono ?_; rintro e w1 ⟨v1, rfl, h1, hc1⟩; clear hat; obtain ⟨a1, c1, e1, _, _⟩ := h1.form; replace e1 : v1 = .slice a1 4 c1 := e1; subst e1)
  have b0 : Blk (((((((w1.alloc (.cells #[.int .i64 0] 3)).alloc (.cells #[.int .i64 1] 3)).alloc (.cells #[.int .i64 2] 3)).alloc (.cells #[.int .i64 0] 3)).alloc (.cells #[.int .i64 1, .slice (some ⟨w1.heap.size, 0, none⟩) 1 1, .slice none 0 0, .int .i64 2, .slice (some ⟨w1.heap.size + 1, 0, none⟩) 1 1, .slice none 0 0, .int .i64 3, .slice (some ⟨w1.heap.size + 1 + 1, 0, none⟩) 1 1, .slice (some ⟨w1.heap.size + 1 + 1 + 1, 0, none⟩) 1 1] 44)).alloc (.cells #[.slice a1 4 c1, .slice (some ⟨w1.heap.size + 1 + 1 + 1 + 1, 0, none⟩) 3 3] 25))) (w1.heap.size) 3 _ := (((((Blk.new' _ _ _ _ (by simp)).alloc _).alloc _).alloc _).alloc _).alloc _
  have b1 : Blk (((((((w1.alloc (.cells #[.int .i64 0] 3)).alloc (.cells #[.int .i64 1] 3)).alloc (.cells #[.int .i64 2] 3)).alloc (.cells #[.int .i64 0] 3)).alloc (.cells #[.int .i64 1, .slice (some ⟨w1.heap.size, 0, none⟩) 1 1, .slice none 0 0, .int .i64 2, .slice (some ⟨w1.heap.size + 1, 0, none⟩) 1 1, .slice none 0 0, .int .i64 3, .slice (some ⟨w1.heap.size + 1 + 1, 0, none⟩) 1 1, .slice (some ⟨w1.heap.size + 1 + 1 + 1, 0, none⟩) 1 1] 44)).alloc (.cells #[.slice a1 4 c1, .slice (some ⟨w1.heap.size + 1 + 1 + 1 + 1, 0, none⟩) 3 3] 25))) (w1.heap.size + 1) 3 _ := ((((Blk.new' _ _ _ _ (by simp)).alloc _).alloc _).alloc _).alloc _
  have b2 : Blk (((((((w1.alloc (.cells #[.int .i64 0] 3)).alloc (.cells #[.int .i64 1] 3)).alloc (.cells #[.int .i64 2] 3)).alloc (.cells #[.int .i64 0] 3)).alloc (.cells #[.int .i64 1, .slice (some ⟨w1.heap.size, 0, none⟩) 1 1, .slice none 0 0, .int .i64 2, .slice (some ⟨w1.heap.size + 1, 0, none⟩) 1 1, .slice none 0 0, .int .i64 3, .slice (some ⟨w1.heap.size + 1 + 1, 0, none⟩) 1 1, .slice (some ⟨w1.heap.size + 1 + 1 + 1, 0, none⟩) 1 1] 44)).alloc (.cells #[.slice a1 4 c1, .slice (some ⟨w1.heap.size + 1 + 1 + 1 + 1, 0, none⟩) 3 3] 25))) (w1.heap.size + 1 + 1) 3 _ := (((Blk.new' _ _ _ _ (by simp)).alloc _).alloc _).alloc _
  have b3 : Blk (((((((w1.alloc (.cells #[.int .i64 0] 3)).alloc (.cells #[.int .i64 1] 3)).alloc (.cells #[.int .i64 2] 3)).alloc (.cells #[.int .i64 0] 3)).alloc (.cells #[.int .i64 1, .slice (some ⟨w1.heap.size, 0, none⟩) 1 1, .slice none 0 0, .int .i64 2, .slice (some ⟨w1.heap.size + 1, 0, none⟩) 1 1, .slice none 0 0, .int .i64 3, .slice (some ⟨w1.heap.size + 1 + 1, 0, none⟩) 1 1, .slice (some ⟨w1.heap.size + 1 + 1 + 1, 0, none⟩) 1 1] 44)).alloc (.cells #[.slice a1 4 c1, .slice (some ⟨w1.heap.size + 1 + 1 + 1 + 1, 0, none⟩) 3 3] 25))) (w1.heap.size + 1 + 1 + 1) 3 _ := ((Blk.new' _ _ _ _ (by simp)).alloc _).alloc _
  have b4 : Blk (((((((w1.alloc (.cells #[.int .i64 0] 3)).alloc (.cells #[.int .i64 1] 3)).alloc (.cells #[.int .i64 2] 3)).alloc (.cells #[.int .i64 0] 3)).alloc (.cells #[.int .i64 1, .slice (some ⟨w1.heap.size, 0, none⟩) 1 1, .slice none 0 0, .int .i64 2, .slice (some ⟨w1.heap.size + 1, 0, none⟩) 1 1, .slice none 0 0, .int .i64 3, .slice (some ⟨w1.heap.size + 1 + 1, 0, none⟩) 1 1, .slice (some ⟨w1.heap.size + 1 + 1 + 1, 0, none⟩) 1 1] 44)).alloc (.cells #[.slice a1 4 c1, .slice (some ⟨w1.heap.size + 1 + 1 + 1 + 1, 0, none⟩) 3 3] 25))) (w1.heap.size + 1 + 1 + 1 + 1) 44 _ := (Blk.new' _ _ _ _ (by simp)).alloc _
  have b5 : Blk (((((((w1.alloc (.cells #[.int .i64 0] 3)).alloc (.cells #[.int .i64 1] 3)).alloc (.cells #[.int .i64 2] 3)).alloc (.cells #[.int .i64 0] 3)).alloc (.cells #[.int .i64 1, .slice (some ⟨w1.heap.size, 0, none⟩) 1 1, .slice none 0 0, .int .i64 2, .slice (some ⟨w1.heap.size + 1, 0, none⟩) 1 1, .slice none 0 0, .int .i64 3, .slice (some ⟨w1.heap.size + 1 + 1, 0, none⟩) 1 1, .slice (some ⟨w1.heap.size + 1 + 1 + 1, 0, none⟩) 1 1] 44)).alloc (.cells #[.slice a1 4 c1, .slice (some ⟨w1.heap.size + 1 + 1 + 1 + 1, 0, none⟩) 3 3] 25))) (w1.heap.size + 1 + 1 + 1 + 1 + 1) 25 _ := Blk.new' _ _ _ _ (by simp)
  have hcG : Ch [] w1 ((((((w1.alloc (.cells #[.int .i64 0] 3)).alloc (.cells #[.int .i64 1] 3)).alloc (.cells #[.int .i64 2] 3)).alloc (.cells #[.int .i64 0] 3)).alloc (.cells #[.int .i64 1, .slice (some ⟨w1.heap.size, 0, none⟩) 1 1, .slice none 0 0, .int .i64 2, .slice (some ⟨w1.heap.size + 1, 0, none⟩) 1 1, .slice none 0 0, .int .i64 3, .slice (some ⟨w1.heap.size + 1 + 1, 0, none⟩) 1 1, .slice (some ⟨w1.heap.size + 1 + 1 + 1, 0, none⟩) 1 1] 44)).alloc (.cells #[.slice a1 4 c1, .slice (some ⟨w1.heap.size + 1 + 1 + 1 + 1, 0, none⟩) 3 3] 25)) := ((((((Ch.refl _ _).alloc _).alloc _).alloc _).alloc _).alloc _).alloc _
  have hgr := gd_lit b0 b1 b2 b3 b4
  have hat1 := (h1.ch0 hcG).weak (q := fun _ => True) (fun _ _ _ => trivial)
  have hcW := hc1.trans hcG
  generalize hwG : ((((((w1.alloc (.cells #[.int .i64 0] 3)).alloc (.cells #[.int .i64 1] 3)).alloc (.cells #[.int .i64 2] 3)).alloc (.cells #[.int .i64 0] 3)).alloc (.cells #[.int .i64 1, .slice (some ⟨w1.heap.size, 0, none⟩) 1 1, .slice none 0 0, .int .i64 2, .slice (some ⟨w1.heap.size + 1, 0, none⟩) 1 1, .slice none 0 0, .int .i64 3, .slice (some ⟨w1.heap.size + 1 + 1, 0, none⟩) 1 1, .slice (some ⟨w1.heap.size + 1 + 1 + 1, 0, none⟩) 1 1] 44)).alloc (.cells #[.slice a1 4 c1, .slice (some ⟨w1.heap.size + 1 + 1 + 1 + 1, 0, none⟩) 3 3] 25)) = wG at *
  clear b0 b1 b2 b3 b4 h1 hcG
  obtain ⟨B5, hB5⟩ : ∃ B, B = w1.heap.size + 1 + 1 + 1 + 1 + 1 := ⟨_, rfl⟩
  obtain ⟨B4, hB4⟩ : ∃ B, B = w1.heap.size + 1 + 1 + 1 + 1 := ⟨_, rfl⟩
  rw [← hB5] at b5 ⊢
  rw [← hB4] at b5 hgr ⊢
  clear hB5 hB4 hwG
  have HA := Lib.hid hat1
  have HR := Lib.hid hgr
  have HB := Lib.hid b5
  clear hat1 hgr b5 hc1
  have hSt : ∀ wz, Ch [] wG wz → Calls Tryz.prog 11 #[.agg #[.slice a1 4 c1, .slice (some ⟨B4, 0, none⟩) 3 3]] wz fun e w' => ∃ v, e = .returned (.tuple #[v, .int .i64 0]) ∧ SlI (fun _ => True) w' v [0, 0, 0, 1] ∧ Ch [] wz w' := fun wz hz => by
    have h := strataV_ gdA gdR _ _ _ wz (HA.out.ch0 hz) (HR.out.ch0 hz) gd_fit
    rw [gd_sv] at h
    exact h.mono fun e w' ⟨v, h1, h2, h3⟩ => ⟨v, h1, h2.weak (fun _ _ _ => trivial), h3⟩
  have hRk : ∀ wz vf, SlI (fun _ => True) wz vf [0] → Ch [] wG wz → Calls Tryz.prog 14 #[.agg #[.slice a1 4 c1, .slice (some ⟨B4, 0, none⟩) 3 3], vf] wz fun e w' => ∃ v, e = .returned (.tuple #[v, .int .i64 0]) ∧ SlI (fun _ => True) w' v [0, 1, 2, -1] ∧ Ch [] wz w' := fun wz vf hf hz => by
    have h := ranks_ gdA gdR [0] _ _ _ vf wz (HA.out.ch0 hz) (HR.out.ch0 hz) hf gd_fit (by decide)
    rw [gd_ev0] at h
    exact h.mono fun e w' ⟨v, h1, h2, h3⟩ => ⟨v, h1, h2.weak (fun _ _ _ => trivial), h3⟩
  have hMd : ∀ wz vf, SlI (fun _ => True) wz vf [1] → Ch [] wG wz → Calls Tryz.prog 16 #[.agg #[.slice a1 4 c1, .slice (some ⟨B4, 0, none⟩) 3 3], vf] wz fun e w' => ∃ v, e = .returned (.tuple #[v, .int .i64 0]) ∧ SlI (fun _ => True) w' v [1, 2, 3] ∧ Ch [] wz w' := fun wz vf hf hz => by
    have h := model_ gdA gdR [1] _ _ _ vf wz (HA.out.ch0 hz) (HR.out.ch0 hz) hf gd_fit (by decide)
    rw [gd_ev1, show mdR ((0 : Int), [(0 : Int), 0, 0, 1], [(-1 : Int), 0, 1, 1]).2.2 ((0 : Int), [(0 : Int), 0, 0, 1], [(-1 : Int), 0, 1, 1]).2.2.length = [1, 2, 3] from gd_md] at h
    exact h.mono fun e w' ⟨v, h1, h2, h3⟩ => ⟨v, h1, h2.weak (fun _ _ _ => trivial), h3⟩
  have hMb : ∀ wz vf, SlI (fun _ => True) wz vf [4] → Ch [] wG wz → Calls Tryz.prog 16 #[.agg #[.slice a1 4 c1, .slice (some ⟨B4, 0, none⟩) 3 3], vf] wz fun e w' => ∃ v, e = .returned (.tuple #[v, .int .i64 13]) ∧ SlI (fun _ => True) w' v [] ∧ Ch [] wz w' := fun wz vf hf hz => by
    have h := model_ gdA gdR [4] _ _ _ vf wz (HA.out.ch0 hz) (HR.out.ch0 hz) hf gd_fit (by decide)
    rw [gd_ev4] at h
    exact h.mono fun e w' ⟨v, h1, h2, h3⟩ => ⟨v, h1, h2.weak (fun _ _ _ => trivial), h3⟩
  have hWy : ∀ wz vf, SlI (fun _ => True) wz vf [1] → Ch [] wG wz → Calls Tryz.prog 20 #[.agg #[.slice a1 4 c1, .slice (some ⟨B4, 0, none⟩) 3 3], vf, .int .i64 3] wz fun e w' => e = .returned (.tuple #[.int .i64 2, .bool true]) ∧ Ch [] wz w' := fun wz vf hf hz => by
    have h := why_ gdA gdR [1] 3 _ _ _ vf wz (HA.out.ch0 hz) (HR.out.ch0 hz) hf gd_fit (by decide)
    rw [gd_wh] at h
    exact h
  have hDe : ∀ wz vf, SlI (fun _ => True) wz vf [1] → Ch [] wG wz → Calls Tryz.prog 22 #[.agg #[.slice a1 4 c1, .slice (some ⟨B4, 0, none⟩) 3 3], vf, .int .i64 3] wz fun e w' => ∃ v, e = .returned (.tuple #[v, .bool true]) ∧ SlI (fun _ => True) w' v [1, 2] ∧ Ch [] wz w' := fun wz vf hf hz => by
    have h := derivation_ gdA gdR [1] 3 _ _ _ vf wz (HA.out.ch0 hz) (HR.out.ch0 hz) hf gd_fit (by decide)
    refine h.mono fun e w' ⟨v, out, ok, h1, h2, h3, h4⟩ => ?_
    obtain ⟨rfl, rfl⟩ := gd_de h3
    exact ⟨v, h1, h2.weak (fun _ _ _ => trivial), h4⟩
  have hHo : ∀ wz vf, SlI (fun _ => True) wz vf [0] → Ch [] wG wz → Calls Tryz.prog 18 #[.agg #[.slice a1 4 c1, .slice (some ⟨B4, 0, none⟩) 3 3], vf, .int .i64 3] wz fun e w' => e = .returned (.tuple #[.bool false, .int .i64 0]) ∧ Ch [] wz w' := fun wz vf hf hz => by
    have h := holds_ gdA gdR [0] 3 _ _ _ vf wz (HA.out.ch0 hz) (HR.out.ch0 hz) hf gd_fit (by decide)
    rw [gd_ho] at h
    exact h
  refine (hSt _ (Ch.refl _ _)).mono ?_
  clear hSt
  rintro e w2 ⟨v2, rfl, h2, hq⟩
  obtain ⟨a2, c2, e2, _, _⟩ := h2.form; replace e2 : v2 = .slice a2 4 c2 := e2; subst e2
  have y0 := (HB.out.ch hq (by simp)).cell 0; have y1 := (HB.out.ch hq (by simp)).cell 1
  go_wp2_with (first
    | (go_at_call 14; refine (hRk _ _ (SlI.lit (Blk.new _ _ _) rfl rfl (by decide)) (hq.alloc _)).mono ?_; clear hRk y0 y1; rintro e w3 ⟨v3, rfl, h3, hc⟩; replace hc : Ch [] w2 w3 := ((Ch.refl [] _).alloc _).trans hc; replace hq := hq.trans hc; replace h2 := h2.ch0 hc; clear hc; obtain ⟨a3, c3, e3, _, _⟩ := h3.form; replace e3 : v3 = .slice a3 4 c3 := e3; subst e3; have y0 := (HB.out.ch hq (by simp)).cell 0; have y1 := (HB.out.ch hq (by simp)).cell 1)
    | (go_at_call 16; refine (hMd _ _ (SlI.lit (Blk.new _ _ _) rfl rfl (by decide)) (hq.alloc _)).mono ?_; clear hMd y0 y1; rintro e w4 ⟨v4, rfl, h4, hc⟩; replace hc : Ch [] w3 w4 := ((Ch.refl [] _).alloc _).trans hc; replace hq := hq.trans hc; replace h2 := h2.ch0 hc; replace h3 := h3.ch0 hc; clear hc; obtain ⟨a4, c4, e4, _, _⟩ := h4.form; replace e4 : v4 = .slice a4 3 c4 := e4; subst e4; have y0 := (HB.out.ch hq (by simp)).cell 0; have y1 := (HB.out.ch hq (by simp)).cell 1)
    | (go_at_call 20; refine (hWy _ _ (SlI.lit (Blk.new _ _ _) rfl rfl (by decide)) (hq.alloc _)).mono ?_; clear hWy y0 y1; rintro e w5 ⟨rfl, hc⟩; replace hc : Ch [] w4 w5 := ((Ch.refl [] _).alloc _).trans hc; replace hq := hq.trans hc; replace h2 := h2.ch0 hc; replace h3 := h3.ch0 hc; replace h4 := h4.ch0 hc; clear hc; have y0 := (HB.out.ch hq (by simp)).cell 0; have y1 := (HB.out.ch hq (by simp)).cell 1)
    | (go_at_call 22; refine (hDe _ _ (SlI.lit (Blk.new _ _ _) rfl rfl (by decide)) (hq.alloc _)).mono ?_; clear hDe y0 y1; rintro e w6 ⟨v6, rfl, h6, hc⟩; replace hc : Ch [] w5 w6 := ((Ch.refl [] _).alloc _).trans hc; replace hq := hq.trans hc; replace h2 := h2.ch0 hc; replace h3 := h3.ch0 hc; replace h4 := h4.ch0 hc; clear hc; obtain ⟨a6, c6, e6, _, _⟩ := h6.form; replace e6 : v6 = .slice a6 2 c6 := e6; subst e6; have y0 := (HB.out.ch hq (by simp)).cell 0; have y1 := (HB.out.ch hq (by simp)).cell 1)
    | (go_at_call 18; refine (hHo _ _ (SlI.lit (Blk.new _ _ _) rfl rfl (by decide)) (hq.alloc _)).mono ?_; clear hHo y0 y1; rintro e w7 ⟨rfl, hc⟩; replace hc : Ch [] w6 w7 := ((Ch.refl [] _).alloc _).trans hc; replace hq := hq.trans hc; replace h2 := h2.ch0 hc; replace h3 := h3.ch0 hc; replace h4 := h4.ch0 hc; replace h6 := h6.ch0 hc; clear hc; have y0 := (HB.out.ch hq (by simp)).cell 0; have y1 := (HB.out.ch hq (by simp)).cell 1)
    | (go_at_call 16; refine (hMb _ _ (SlI.lit (Blk.new _ _ _) rfl rfl (by decide)) (hq.alloc _)).mono ?_; clear hMb y0 y1; rintro e w8 ⟨v8, rfl, h8, hc⟩; replace hc : Ch [] w7 w8 := ((Ch.refl [] _).alloc _).trans hc; replace hq := hq.trans hc; replace h2 := h2.ch0 hc; replace h3 := h3.ch0 hc; replace h4 := h4.ch0 hc; replace h6 := h6.ch0 hc; clear hc; obtain ⟨a8, c8, e8, _, _⟩ := h8.form; replace e8 : v8 = .slice a8 0 c8 := e8; subst e8; have y0 := (HB.out.ch hq (by simp)).cell 0; have y1 := (HB.out.ch hq (by simp)).cell 1)
    | (go_at_call 13; refine (intsEq _ _ _ _ [0, 0, 0, 1] _ (h2.ch0 ((Ch.refl [] _).alloc _)) (SlI.lit (Blk.new _ _ _) rfl rfl (by decide))).mono ?_; clear h2; rintro e w9 ⟨rfl, hc⟩; replace hc : Ch [] w8 w9 := ((Ch.refl [] _).alloc _).trans hc; replace hq := hq.trans hc; replace h3 := h3.ch0 hc; replace h4 := h4.ch0 hc; replace h6 := h6.ch0 hc; clear hc)
    | (go_at_call 13; refine (intsEq _ _ _ _ [0, 1, 2, -1] _ (h3.ch0 ((Ch.refl [] _).alloc _)) (SlI.lit (Blk.new _ _ _) rfl rfl (by decide))).mono ?_; clear h3; rintro e w10 ⟨rfl, hc⟩; replace hc : Ch [] w9 w10 := ((Ch.refl [] _).alloc _).trans hc; replace hq := hq.trans hc; replace h4 := h4.ch0 hc; replace h6 := h6.ch0 hc; clear hc)
    | (go_at_call 13; refine (intsEq _ _ _ _ [1, 2, 3] _ (h4.ch0 ((Ch.refl [] _).alloc _)) (SlI.lit (Blk.new _ _ _) rfl rfl (by decide))).mono ?_; clear h4; rintro e w11 ⟨rfl, hc⟩; replace hc : Ch [] w10 w11 := ((Ch.refl [] _).alloc _).trans hc; replace hq := hq.trans hc; replace h6 := h6.ch0 hc; clear hc)
    | (go_at_call 13; refine (intsEq _ _ _ _ [1, 2] _ (h6.ch0 ((Ch.refl [] _).alloc _)) (SlI.lit (Blk.new _ _ _) rfl rfl (by decide))).mono ?_; clear h6; rintro e w12 ⟨rfl, hc⟩; replace hc : Ch [] w11 w12 := ((Ch.refl [] _).alloc _).trans hc; replace hq := hq.trans hc; clear hc))
  go_ret
  exact ⟨rfl, hcW.trans hq⟩
end
end Go.Proofs.YtojokdicbopknaaGreat
