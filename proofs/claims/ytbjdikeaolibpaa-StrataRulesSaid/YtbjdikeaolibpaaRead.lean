/-
  The contract of plain.Read.
-/
import Derived.Test.YtbjdikeaolibpaaRule
namespace Go.Proofs.Ytbjdikeaolibpaa
open Go.RowKit

theorem pTerm_nm (s : ByteArray) (f i : Nat) (nm : ByteArray) : (pTerm s f i nm).1.name = nm := by rw [pTerm_name]; rfl
theorem pBody_le (s : ByteArray) : ∀ (f i : Nat), i ≤ s.size → i ≤ (pBody s f i).2 ∧ (pBody s f i).2 ≤ s.size
  | 0, i, h => by simp [pBody, h]
  | f + 1, i, h => by
    have h1 := pSign_le (c := 46) h
    have hE := pBody_le s f
    unfold pBody
    generalize pSign s i 46 = A at *
    have h2 := pWord_le h1.2.1
    generalize pWord s A.2 = B at *
    have h3 := pLit_le h2.2
    generalize pLit s B.2 = C at *
    have h4 := pTerm_le s (fuel s 0) C.2.2 C.2.1 h3.2
    generalize pTerm s (fuel s 0) C.2.2 C.2.1 = D at *
    have h5 := hE D.2 h4.2
    generalize pBody s f D.2 = E at *
    split
    · split
      · exact ⟨h1.1, h1.2.1⟩
      · split
        · exact ⟨by simp only; omega, h3.2⟩
        · exact ⟨by simp only; omega, h5.2⟩
    · exact ⟨Nat.le_refl _, h⟩
theorem pRule_le (s : ByteArray) (i : Nat) (nm : ByteArray) (h : i ≤ s.size) : i ≤ (pRule s i nm).2 ∧ (pRule s i nm).2 ≤ s.size := by
  have h1 := pTerm_le s (fuel s 0) i nm h
  have h2 := pBody_le s (s.size + 1) _ h1.2
  unfold pRule
  exact ⟨Nat.le_trans h1.1 h2.1, h2.2⟩
theorem pRule_nm (s : ByteArray) (i : Nat) (nm : ByteArray) : (pRule s i nm).1.head.name = nm := pTerm_nm _ _ _ _

set_option maxRecDepth 100000 in
set_option maxHeartbeats 4000000 in
theorem read_ (s : ByteArray) (w : World) (hs : s.size ≤ 1000000000) :
    Calls Try.prog 55 #[.string s] w fun e w' => ∃ v, e = .returned v ∧ SlR (fun b => w.heap.size ≤ b) w' v (pRead s (s.size + 1) 0) ∧ Ch [] w w' := by
  go_enter Try.func55, Try.ntmps55
  go_wp2
  have hRA : Rdr (w.alloc (.cells #[.string s, .int .i64 0] 118)) w.heap.size s 0 := Blk.new _ _ _
  have hcA : Ch [] w (w.alloc (.cells #[.string s, .int .i64 0] 118)) := (Ch.refl _ _).alloc _
  have hsA : (w.alloc (.cells #[.string s, .int .i64 0] 118)).heap.size = w.heap.size + 1 := by simp
  generalize (w.alloc (.cells #[.string s, .int .i64 0] 118)) = wA at *
  go_loopw [4, 5] (fun v _ wr => ∃ (k g : Nat) (acc : List Ru), k ≤ s.size ∧ (s.size - k) + 1 ≤ g ∧ Rdr wr w.heap.size s k ∧ Ch [] w wr ∧ OwnG RuR 55 3 wr (w.heap.size + 1) v acc ∧ acc.length ≤ k ∧ Hid (pRead s (s.size + 1) 0 = acc ++ pRead s g k))
    (fun _ _ wr => s.size - (match wr.cell? ⟨w.heap.size, 1, none⟩ with | some v => (intOf v).toNat | none => 0))
  case atStart => exact ⟨0, s.size + 1, [], Nat.zero_le _, by omega, hRA, hcA, OwnG.nil _ _, Nat.zero_le _, rfl⟩
  case round =>
    obtain ⟨k, g, acc, hk, hg, hR, hB, ho, hacc, HX⟩ := hrel
    obtain ⟨g, rfl⟩ : ∃ g', g = g' + 1 := ⟨g - 1, by omega⟩
    have hwd := word_ w.heap.size s k wr hR hs hk
    have hk1 := pWord_le hk
    have hadv := pWord_adv hk
    have HS : Hid (pRead s (g + 1) k = if (pWord s k).1 = ⟨#[]⟩ then [] else (pRule s (pWord s k).2 (pWord s k).1).1 :: pRead s g (pRule s (pWord s k).2 (pWord s k).1).2) := rfl
    obtain ⟨wd, k1, hwe⟩ : ∃ a b, pWord s k = (a, b) := ⟨_, _, rfl⟩
    rw [hwe] at hwd hk1 hadv HS
    simp only at hwd hk1 hadv HS
    clear hwe
    have e1 := hR.cell 1
    by_cases hemp : wd = ⟨#[]⟩
    · have e0 : (wd.toList == []) = true := by rw [emp_eq]; simpa using hemp
      have HPA : Hid (pRead s (s.size + 1) 0 = acc) := by unfold Hid; rw [HX.out, HS.out, if_pos hemp]; simp
      clear hemp hadv
      go_wp2_with (go_at_call 81; refine hwd.mono ?_; rintro e w1 ⟨rfl, hR1, hc1⟩; clear hwd)
      go_ret
      rw [HPA.out]
      have ho1 := OwnG.ch imp_ru ho hc1 (by simp)
      exact ⟨_, rfl, SlR.weak (OwnG.slg imp_ru ho1) (fun b _ hb => by omega), hB.step hc1 (by simp)⟩
    · have e0 : (wd.toList == []) = false := by rw [emp_eq]; simpa using hemp
      have hlt := hadv hemp
      have hrc := fun wz hz => rule_ w.heap.size k1 s wd wz hz hs hk1.2
      have hk2 := pRule_le s k1 wd hk1.2
      have hnm := pRule_nm s k1 wd
      have HPA : Hid (pRead s (s.size + 1) 0 = (acc ++ [(pRule s k1 wd).1]) ++ pRead s g (pRule s k1 wd).2) := by unfold Hid; rw [HX.out, HS.out, if_neg hemp]; simp
      obtain ⟨ru, k2, hre⟩ : ∃ a b, pRule s k1 wd = (a, b) := ⟨_, _, rfl⟩
      rw [hre] at hrc hk2 hnm HPA
      simp only at hrc hk2 hnm HPA
      have HNM := Lib.hid hnm
      clear hemp hadv hre hnm
      obtain ⟨css, hown, hcl, hli⟩ := ho
      have HCL := Lib.hid hcl; clear hcl
      obtain ⟨a0, c0, rfl⟩ := hown.form'
      have hlv : ∀ b, (Value.slice a0 css.length c0).ownBlock = some b → w.heap.size + 1 ≤ b ∧ b < wr.heap.size := fun b hb => hown.lt hb
      have HLV := Lib.hid hlv; clear hlv
      have hRl := hR.lt
      go_wp2_with (first
        | (go_at_call 81; refine hwd.mono ?_; rintro e w1 ⟨rfl, hR1, hc1⟩; clear hwd)
        | (go_at_call 82; refine (hrc _ hR1).mono ?_; rintro e w2 ⟨va, vb, rfl, hva, hvb, hR2, hc2⟩; clear hrc; obtain ⟨a2, c2, rfl, hl2, hm2⟩ := hva.form; obtain ⟨a3, c3, rfl, hl3, hm3⟩ := hvb.form; have hc12 := hc1.trans hc2)
        | (at_builtin; refine wpList_append_sl rfl _ _ _ rfl elR (base := w.heap.size + 1) (v := .slice a0 css.length c0) rfl ((hown.ch hc12 (by intro b hb hm; have := (HLV.out b hb).1; simp at hm; omega)).ch ((Ch.refl [] w2).alloc _) (by simp)) rfl (Sl.one w2 3 55 [.string wd, .slice a2 ru.head.args.length c2, .slice a3 ru.body.length c3] rfl (by simp [Value.oneCell'])) (by have := HCL.out; simp; omega) (by have := hc12.size; simp; omega) ?_; intro v4 w4 ho4 hc4 hat4 hn4; clear hn4))
      have hsz := hc12.size
      have hcA2 : Ch [w.heap.size] wr (w2.alloc (.cells #[.string wd, .slice a2 ru.head.args.length c2, .slice a3 ru.body.length c3] 55)) := hc12.alloc _
      have hlv6 : ∀ b, b ∈ (Value.slice a0 css.length c0).ownBlock.toList → w.heap.size + 1 ≤ b := by
        intro b hb
        cases hvo : (Value.slice a0 css.length c0).ownBlock with
        | none => rw [hvo] at hb; cases hb
        | some g6 => rw [hvo] at hb; simp at hb; subst hb; exact (HLV.out b hvo).1
      have key : ∀ b, wr.heap.size ≤ b → w.heap.size + 1 ≤ b ∧ (Value.slice a0 css.length c0).ownBlock ≠ some b := fun b hb => ⟨by omega, fun e => by have := (HLV.out b e).2; omega⟩
      have hz1 : wr.heap.size ≤ w1.heap.size := hc1.size
      have hliA : ∀ (i : Nat) (cs : List Value) (x : Ru), css[i]? = some cs → acc[i]? = some x → RuR (fun b => w.heap.size + 1 ≤ b ∧ (Value.slice a0 css.length c0).ownBlock ≠ some b) (w2.alloc (.cells #[.string wd, .slice a2 ru.head.args.length c2, .slice a3 ru.body.length c3] 55)) x cs :=
        fun i cs x h4 h5 => imp_ru _ _ _ _ _ _ hcA2.size (fun b hb hp => ⟨hp, hcA2.block b hb (by intro hm; have := hp.1; simp at hm; omega)⟩) (hli i cs x h4 h5)
      have hvaA := (hva.ch0 ((Ch.refl _ _).alloc (.cells #[.string wd, .slice a2 ru.head.args.length c2, .slice a3 ru.body.length c3] 55))).weak fun b _ hb => key b (by omega)
      have hvbA := (hvb.ch0 ((Ch.refl _ _).alloc (.cells #[.string wd, .slice a2 ru.head.args.length c2, .slice a3 ru.body.length c3] 55))).weak fun b _ hb => key b (by omega)
      have hoT := OwnG.add (y := ru) imp_ru HCL.out hliA ⟨_, _, by rw [HNM.out], hvaA, hvbA⟩ hc4 hat4 ho4
      have hR4 : Rdr w4 w.heap.size s k2 := (Blk.alloc hR2 _).ch hc4 (fun hm => by have := hlv6 _ hm; omega)
      have hB4 : Ch [] w w4 := (hB.step hcA2 (by simp)).step hc4 (fun x hx => .inr (by have := hlv6 _ hx; omega))
      have e2 := hR4.cell 1
      go_roundw
      case rel => exact ⟨k2, g, acc ++ [ru], hk2.2, by omega, hR4, hB4, hoT, by simp; omega, HPA⟩
      case measure =>
        rw [e1, e2]
        show s.size - ((k2 : Int)).toNat < s.size - ((k : Int)).toNat
        omega
end Go.Proofs.Ytbjdikeaolibpaa
