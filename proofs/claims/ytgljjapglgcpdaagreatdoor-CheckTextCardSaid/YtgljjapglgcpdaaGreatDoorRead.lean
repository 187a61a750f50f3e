
/-
  The contract of the reader's term.
  The contract of the reader's rule.
  The contract of plain.Read.
-/
import Derived.Test.YtgljjapglgcpdaaGreatDoorWord
import Derived.Test.YtgljjapglgcpdaaGreatDoorStep
import Derived.Deep.RegionHeld3
import Derived.Deep.RegionLaw
import Derived.StillTailTactics
namespace Go.Proofs.YtgljjapglgcpdaaGreatDoor

section
open Go.RowKit

/-- a row of terms that the call owns -/
def OwnT (w : World) (base : Nat) (v : Value) (ts : List Tm) : Prop := ∃ css, Own w base 28 2 v css ∧ TmsR (fun b => base ≤ b ∧ v.ownBlock ≠ some b) w ts css
theorem OwnT.nil (w : World) (base : Nat) : OwnT w base (.slice none 0 0) [] := ⟨[], Own.nil _ _ _ _, by simp [TmsR]⟩
theorem OwnT.ch {S : List Nat} {w w' : World} {base : Nat} {v : Value} {ts : List Tm} (h : OwnT w base v ts) (hc : Ch S w w') (hS : ∀ x ∈ S, x < base ∨ w.heap.size ≤ x) : OwnT w' base v ts := by
  obtain ⟨css, h2, h3⟩ := h
  refine ⟨css, h2.ch hc (fun b hb hm => ?_), TmsR.imp hc.size (fun b hb hp => ⟨hp, hc.block b hb (fun hm => ?_)⟩) h3⟩
  · have := h2.lt hb; rcases hS b hm with h | h <;> omega
  · rcases hS b hm with h | h <;> omega
theorem OwnT.slt {w : World} {base : Nat} {v : Value} {ts : List Tm} (h : OwnT w base v ts) : SlT (fun b => base ≤ b) w v ts := by
  obtain ⟨css, h2, h3⟩ := h
  exact ⟨css, h2.sl.weak (fun b _ hb => hb.1), TmsR.imp (Nat.le_refl _) (fun b _ hp => ⟨hp.1, rfl⟩) h3⟩
theorem OwnT.len {w : World} {base : Nat} {v : Value} {ts : List Tm} (h : OwnT w base v ts) : ∃ css, Own w base 28 2 v css ∧ css.length = ts.length := by
  obtain ⟨css, h2, h3⟩ := h
  exact ⟨css, h2, h3.len⟩
theorem TmsR.snoc {p : Nat → Prop} {w : World} : ∀ {ts : List Tm} {css : List (List Value)} {t : Tm} {c : List Value}, TmsR p w ts css → TmR p w t c → TmsR p w (ts ++ [t]) (css ++ [c])
  | [], css, t, c, h, hc => by
    simp only [TmsR] at h
    subst h
    simp only [List.nil_append, TmsR]
    exact ⟨c, [], rfl, hc, rfl⟩
  | x :: ts, css, t, c, h, hc => by
    simp only [TmsR] at h
    obtain ⟨d, r, rfl, hd, hr⟩ := h
    simp only [List.cons_append, TmsR]
    exact ⟨d, r ++ [c], rfl, hd, hr.snoc hc⟩
/-- one term more: h: the row ahead, in w; the new term, in w1 behind it; the append, from w1 to w2 -/
theorem OwnT.add {w1 w2 : World} {base : Nat} {v v' va : Value} {ts : List Tm} {css : List (List Value)} {nm : ByteArray} {ags : List Tm} (_h1 : Own w1 base 28 2 v css) (h2 : TmsR (fun b => base ≤ b ∧ v.ownBlock ≠ some b) w1 ts css)
    (hg : SlT (fun b => base ≤ b ∧ v.ownBlock ≠ some b) w1 va ags) (hc : Ch v.ownBlock.toList w1 w2) (hat : v'.ownBlock = v.ownBlock ∨ v'.ownBlock = some w1.heap.size) (ho : Own w2 base 28 2 v' (css ++ [[.string nm, va]])) : OwnT w2 base v' (ts ++ [.mk nm ags]) := by
  have key : ∀ b, b < w1.heap.size → (base ≤ b ∧ v.ownBlock ≠ some b) → (base ≤ b ∧ v'.ownBlock ≠ some b) ∧ w2.heap[b]? = w1.heap[b]? := by
    intro b hb hp
    refine ⟨⟨hp.1, fun e => ?_⟩, hc.block b hb (fun hm => ?_)⟩
    · rcases hat with h | h
      · exact hp.2 (h ▸ e)
      · rw [h] at e; injection e with e; omega
    · cases hv : v.ownBlock with
      | none => rw [hv] at hm; cases hm
      | some g' => rw [hv] at hm; simp at hm; subst hm; exact hp.2 hv
  refine ⟨_, ho, TmsR.snoc (TmsR.imp hc.size key h2) ?_⟩
  obtain ⟨c2, a1, a2⟩ := hg
  simp only [TmR]
  exact ⟨va, c2, rfl, a1.imp hc.size key, TmsR.imp hc.size key a2⟩

set_option maxRecDepth 100000 in
set_option maxHeartbeats 4000000 in
theorem term_ : ∀ (f R i : Nat) (s nm : ByteArray) (w : World), Rdr w R s i → s.size ≤ 1000000000 → i ≤ s.size → fuel s i ≤ f →
    Calls Tryz.prog 74 #[.pointer (some ⟨R, 0, none⟩), .string nm] w fun e w' => ∃ v, e = .returned (.agg #[.string nm, v]) ∧ SlT (fun b => w.heap.size ≤ b) w' v (pTerm s f i nm).1.args ∧ Rdr w' R s (pTerm s f i nm).2 ∧ Ch [R] w w' := by
  intro f
  induction f using Nat.strongRecOn with
  | ind f IH =>
    intro R i s nm w h hs hi hfu
    obtain ⟨f, rfl⟩ : ∃ g, f = g + 1 := ⟨f - 1, by unfold fuel at hfu; omega⟩
    have hfu : 2 * (s.size - i) ≤ f := by unfold fuel at hfu; omega
    have HP : Hid (pTerm s (f + 1) i nm = if (pSign s i 40).1 = true then (.mk nm (pArgs s f (pSign s i 40).2).1, (pSign s (pArgs s f (pSign s i 40).2).2 41).2) else (.mk nm [], (pSign s i 40).2)) := by
      unfold Hid; conv => lhs; unfold pTerm
    have hq := pSign_le (c := 40) hi
    have hRlt := h.lt
    obtain ⟨wA, hwA⟩ : ∃ wA, wA = (w.alloc (Obj.cells #[Value.string { data := #[] }, Value.slice none 0 0] 28)).alloc (Obj.cells #[Value.string nm, Value.slice none 0 0] 28) := ⟨_, rfl⟩
    have hRA : Rdr wA R s i := by rw [hwA]; exact (Blk.alloc h _).alloc _
    have hb4 : Blk wA w.heap.size 28 #[.string ⟨#[]⟩, .slice none 0 0] := by rw [hwA]; exact (Blk.new _ _ _).alloc _
    have hb5 : Blk wA (w.heap.size + 1) 28 #[.string nm, .slice none 0 0] := by rw [hwA]; have := Blk.new (w.alloc (Obj.cells #[Value.string { data := #[] }, Value.slice none 0 0] 28)) 28 #[Value.string nm, Value.slice none 0 0]; simpa using this
    have hcA : Ch [] w wA := by rw [hwA]; exact ((Ch.refl _ _).alloc _).alloc _
    have hszA : wA.heap.size = w.heap.size + 2 := by rw [hwA]; simp
    have hsn := sign_ R s i 40 wA hRA hs hi
    obtain ⟨q, i1, hsg⟩ : ∃ q i1, pSign s i 40 = (q, i1) := ⟨_, _, rfl⟩
    rw [hsg] at HP hq hsn
    simp only at HP hq hsn
    clear hsg
    have HIH := Lib.hid IH; clear IH
    go_enter Tryz.func74, Tryz.ntmps74
    cases q with
    | false =>
      go_wp2_with (rw [← hwA]; go_at_call 75; refine hsn.mono ?_; rintro e w1 ⟨rfl, hR1, hc1⟩; clear hsn; have hb41 := hb4.ch hc1 (by simp; omega); have hb51 := hb5.ch hc1 (by simp; omega); have a0 := hb51.cell 0; have a1 := hb51.cell 1; have b0 := hb41.cell 0; have b1 := hb41.cell 1; have f0 := hb41.frozen 0; have f1 := hb41.frozen 1)
      have hbF : Blk ((w1.setCell ⟨w.heap.size, 0, none⟩ (Value.string nm)).setCell ⟨w.heap.size, 1, none⟩ (Value.slice none 0 0)) w.heap.size 28 #[.string nm, .slice none 0 0] := (hb41.set_ 0 _).set_ 1 _
      have hcF : Ch [R] w ((w1.setCell ⟨w.heap.size, 0, none⟩ (Value.string nm)).setCell ⟨w.heap.size, 1, none⟩ (Value.slice none 0 0)) := ((hcA.of_nil.trans hc1).set (.inr (Nat.le_refl _)) _).set (.inr (Nat.le_refl _)) _
      have hRF : Rdr ((w1.setCell ⟨w.heap.size, 0, none⟩ (Value.string nm)).setCell ⟨w.heap.size, 1, none⟩ (Value.slice none 0 0)) R s i1 := Blk.far (Blk.far hR1 (by simp; omega) _) (by simp; omega) _
      generalize ((w1.setCell ⟨w.heap.size, 0, none⟩ (Value.string nm)).setCell ⟨w.heap.size, 1, none⟩ (Value.slice none 0 0)) = wF at *
      have r0 := hbF.cell 0
      have r1 := hbF.cell 1
      have hp := HP.out
      rw [if_neg (by simp)] at hp
      have HP2 := Lib.hid hp; clear hp
      refine bodyPost_ret (results_cell_row (p := 4) (ty := 28) (by kernel_rfl) _ _ w.heap.size 28 _ _ _ rfl hbF Tryz.underlying28 rfl (by kernel_rfl)) rfl ?_
      rw [HP2.out]
      exact ⟨_, rfl, ⟨[], Sl.nil _ _ _, by simp [Tm.args, TmsR]⟩, hRF, hcF⟩
    | true =>
      go_wp2_with (rw [← hwA]; go_at_call 75; refine hsn.mono ?_; rintro e w1 ⟨rfl, hR1, hc1⟩; clear hsn; have hb41 := hb4.ch hc1 (by simp; omega); have hb51 := hb5.ch hc1 (by simp; omega))
      have hi1 : i < i1 := hq.2.2 (by trivial)
      go_loopw [6] (fun _ wr => ∃ (k g : Nat) (v : Value) (acc : List Tm), i1 ≤ k ∧ k ≤ s.size ∧ 2 * (s.size - k) + 2 ≤ g ∧ g ≤ f ∧ Rdr wr R s k ∧ Ch [R] w wr ∧ Blk wr w.heap.size 28 #[.string ⟨#[]⟩, .slice none 0 0] ∧ Blk wr (w.heap.size + 1) 28 #[.string nm, v] ∧ OwnT wr (w.heap.size + 2) v acc ∧ acc.length ≤ k ∧ Hid (pArgs s f i1 = (acc ++ (pArgs s g k).1, (pArgs s g k).2)))
        (fun _ wr => s.size - (match wr.cell? ⟨R, 1, none⟩ with | some v => (intOf v).toNat | none => 0))
      case atStart => exact ⟨i1, f, _, [], Nat.le_refl _, hq.2.1, by omega, Nat.le_refl _, hR1, hcA.of_nil.trans hc1, hb41, hb51, OwnT.nil _ _, Nat.zero_le _, rfl⟩
      case round =>
        obtain ⟨k, g, v, acc, hik, hk, hg, hgf, hR, hB, hr4, hr5, ho, hacc, HX⟩ := hrel
        have c0 := Later.cell (hR.cell 0)
        have c1 := Later.cell (hR.cell 1)
        by_cases hlt : k < s.size
        · go_wp2
          refine wp_region_later (by kernel_rfl) (lexB_of (by kernel_rfl)) ?_
          repeat (go_big_quiet_step (fail))
          refine wpQuiet_nil ?_
          intro w2 hw2
          have hR2 := hR.ch hw2 (by simp)
          have hwd := word_ R s k w2 hR2 hs hk
          obtain ⟨wd, k1, hwe⟩ : ∃ wd k1, pWord s k = (wd, k1) := ⟨_, _, rfl⟩
          have hk1 := pWord_le hk
          have HW := Lib.hid hwe
          rw [hwe] at hwd hk1
          simp only at hwd hk1
          clear hwe
          go_wp2_with (go_at_call 37; refine hwd.mono ?_; rintro e w3 ⟨rfl, hR3, hc3⟩; clear hwd)
          obtain ⟨css, hown, htms⟩ := ho
          have hcl := htms.len
          have ho2 := (hown.ch hw2 (by simp)).ch hc3 (by intro b hb hm; have := (hown.lt hb).1; simp at hm; omega)
          have hB3 := (hB.trans hw2.of_nil).trans hc3
          have hlv : ∀ b, v.ownBlock = some b → w.heap.size + 2 ≤ b ∧ b < wr.heap.size := fun b hb => hown.lt hb
          have hsz3 : wr.heap.size ≤ w3.heap.size := Nat.le_trans hw2.size hc3.size
          have hr43 := (hr4.ch hw2 (by simp)).ch hc3 (by simp; omega)
          have hr53 := (hr5.ch hw2 (by simp)).ch hc3 (by simp; omega)
          obtain ⟨g, rfl⟩ : ∃ g', g = g' + 1 := ⟨g - 1, by omega⟩
          have hcall := HIH.out g (by omega) R k1 s wd w3.drew hR3 hs hk1.2 (by unfold fuel; omega)
          have hname := pTerm_name s g k1 wd
          have hk2 := pTerm_le s g k1 wd hk1.2
          obtain ⟨tm, k2, htm⟩ : ∃ tm k2, pTerm s g k1 wd = (tm, k2) := ⟨_, _, rfl⟩
          rw [htm] at hcall hname hk2
          simp only at hcall hname hk2
          have HTM := Lib.hid htm; clear htm
          have HNM := Lib.hid hname; clear hname
          have HLV := Lib.hid hlv; clear hlv
          have HCL := Lib.hid hcl; clear hcl
          have x1 := hr53.cell 1
          have hr5l := hr5.lt
          go_region_law (first
            | (go_simp; go_at_call 74; refine hcall.mono ?_; rintro e w4 ⟨va, rfl, hva, hR4, hc4⟩; obtain ⟨a5, c5, rfl, hl5, hm5⟩ := hva.form; have hr54 := (Blk.drew hr53).ch hc4 (by simp; omega); have x4 := hr54.cell 1; have x5 := (hr54.alloc (.cells #[.string wd, .slice a5 tm.args.length c5] 28)).cell 1)
            | (refine step_append_sl rfl _ _ _ rfl elT (base := w.heap.size + 2) (v := v) rfl (((Own.ch ho2 ((Ch.refl [] w3).drew) (by simp)).ch hc4 (by intro b hb hm; have := (HLV.out b hb).1; simp at hm; omega)).ch ((Ch.refl [] w4).alloc _) (by simp)) rfl (Sl.one w4 2 28 [.string wd, .slice a5 tm.args.length c5] rfl (by simp [Value.oneCell'])) (by have := HCL.out; simp; omega) (by have := hc4.size; simp at this; simp; omega) ?_; intro v6 w6 ho6 hc6 hat6 hn6; clear hn6; obtain ⟨a7, c7, rfl⟩ := ho6.form'; have hr56 := (hr54.alloc (.cells #[.string wd, .slice a5 tm.args.length c5] 28)).ch hc6 (by intro hm; cases hvo : v.ownBlock with | none => rw [hvo] at hm; cases hm | some g6 => rw [hvo] at hm; have := (HLV.out g6 hvo).1; simp at hm; omega); have x6 := hr56.cell 1; have y6 := hr56.frozen 1))
          all_goals
            have hcA4 : Ch [R] wr (w4.alloc (.cells #[.string wd, .slice a5 tm.args.length c5] 28)) := (((hw2.of_nil (S := [R])).trans hc3).drew.trans hc4).alloc _
            have hownA : Own (w4.alloc (.cells #[.string wd, .slice a5 tm.args.length c5] 28)) (w.heap.size + 2) 28 2 v css := hown.ch hcA4 (by intro b hb hm; have := (HLV.out b hb).1; simp at hm; omega)
            have hsz4 : w3.heap.size ≤ w4.heap.size := hc4.size
            have htmsA := TmsR.imp (q := fun b => w.heap.size + 2 ≤ b ∧ v.ownBlock ≠ some b) hcA4.size (fun b hb hp => ⟨hp, hcA4.block b hb (by intro hm; have := hp.1; simp at hm; omega)⟩) htms
            have hvaA : SlT (fun b => w.heap.size + 2 ≤ b ∧ v.ownBlock ≠ some b) (w4.alloc (.cells #[.string wd, .slice a5 tm.args.length c5] 28)) (.slice a5 tm.args.length c5) tm.args :=
              (hva.ch0 ((Ch.refl _ _).alloc _)).weak fun b _ hb => ⟨by have : w3.heap.size ≤ b := hb; omega, fun e => by have := (HLV.out b e).2; have : w3.heap.size ≤ b := hb; omega⟩
            have hoT := OwnT.add hownA htmsA hvaA hc6 hat6 ho6
            rw [← HNM.out] at hoT
            have hlv6 : ∀ b, b ∈ v.ownBlock.toList → w.heap.size + 2 ≤ b := by
              intro b hb
              cases hvo : v.ownBlock with
              | none => rw [hvo] at hb; cases hb
              | some g6 => rw [hvo] at hb; simp at hb; subst hb; exact (HLV.out b hvo).1
            have hR6 : Rdr w6 R s k2 := (Blk.alloc hR4 _).ch hc6 (fun hm => by have := hlv6 _ hm; omega)
            have hr46 := ((((hr43.drew).ch hc4 (by simp; omega)).alloc (.cells #[.string wd, .slice a5 tm.args.length c5] 28)).ch hc6 (fun hm => by have := hlv6 _ hm; omega))
            have hB6 : Ch [R] w w6 := (((hB3.drew).trans hc4).alloc _).step hc6 (fun x hx => .inr (by have := hlv6 _ hx; omega))
            have hcS : Ch [w.heap.size + 1] w6 (w6.setCell ⟨w.heap.size + 1, 1, none⟩ (.slice a7 (css.length + 1) c7)) := (Ch.refl _ _).set (by simp) _
            have hlv7 : (css ++ [[Value.string wd, Value.slice a5 tm.args.length c5]]).length = css.length + 1 := by simp
            rw [hlv7] at hoT
            have hoF := hoT.ch hcS (by simp)
            have hRF : Rdr (w6.setCell ⟨w.heap.size + 1, 1, none⟩ (.slice a7 (css.length + 1) c7)) R s k2 := Blk.far hR6 (by simp; omega) _
            have hr4F := hr46.far (p := ⟨w.heap.size + 1, 1, none⟩) (by simp) (.slice a7 (css.length + 1) c7)
            have hr5F : Blk (w6.setCell ⟨w.heap.size + 1, 1, none⟩ (.slice a7 (css.length + 1) c7)) (w.heap.size + 1) 28 #[.string nm, .slice a7 (css.length + 1) c7] := hr56.set_ 1 _
            have hBF : Ch [R] w (w6.setCell ⟨w.heap.size + 1, 1, none⟩ (.slice a7 (css.length + 1) c7)) := hB6.set (.inr (by simp)) _
            generalize (w6.setCell ⟨w.heap.size + 1, 1, none⟩ (.slice a7 (css.length + 1) c7)) = wF at *
            generalize css.length + 1 = nF at *
            have hacc' : (acc ++ [tm]).length ≤ k2 + 1 := by simp; omega
            have hq3 := pSign_le (c := 44) hk2.2
            have hs44 := sign_ R s k2 44 wF hRF hs hk2.2
            obtain ⟨q3, k3, hq3e⟩ : ∃ q3 k3, pSign s k2 44 = (q3, k3) := ⟨_, _, rfl⟩
            have HQ3 := Lib.hid hq3e
            rw [hq3e] at hq3 hs44
            simp only at hq3 hs44
            clear hq3e hoT hr56 hr54 hr53 x1 x4 x5 x6 y6 hat6 ho6 hvaA htmsA hownA hcA4 hva htms hown ho2 hcall c0 c1 hcS hR6 hr46 hB6 hR4 hc4 hR3 hc3 hr43 hB3 hR2
            have HPA : Hid (pArgs s f i1 = if q3 = true then ((acc ++ [tm]) ++ (pArgs s g k3).1, (pArgs s g k3).2) else (acc ++ [tm], k3)) := by
              unfold Hid
              rw [HX.out]
              conv => lhs; unfold pArgs
              rw [if_pos hlt, HW.out]
              simp only
              rw [HTM.out]
              simp only
              rw [HQ3.out]
              simp only
              cases q3 <;> simp
            cases q3 with
            | true =>
              go_wp2_with (go_at_call 75; refine hs44.mono ?_; rintro e w8 ⟨rfl, hR8, hc8⟩; clear hs44)
              have hr48 := hr4F.ch hc8 (by simp; omega)
              have hr58 := hr5F.ch hc8 (by simp; omega)
              have ho8 := hoF.ch hc8 (by intro x hx; simp at hx; omega)
              have e1 := hR.cell 1
              have e2 := hR8.cell 1
              have hk3 := hq3.2.2 (by trivial)
              go_roundw
              case rel => exact ⟨k3, g, _, acc ++ [tm], by omega, hq3.2.1, by omega, by omega, hR8, hBF.trans hc8, hr48, hr58, ho8, by omega, by unfold Hid; rw [HPA.out]; simp⟩
              case measure =>
                rw [e1, e2]
                show s.size - ((k3 : Int)).toNat < s.size - ((k : Int)).toNat
                omega
            | false =>
              have HPA2 : Hid (pArgs s f i1 = (acc ++ [tm], k3)) := by have := HPA.out; unfold Hid; simpa using this
              have hs41 := fun wz hz => sign_ R s k3 41 wz hz hs hq3.2.1
              have htm := HP.out
              rw [if_pos (by trivial), HPA2.out] at htm
              simp only at htm
              generalize (pSign s k3 41).2 = k5 at *
              generalize (pSign s k3 41).1 = q5 at *
              have HTT := Lib.hid htm; clear htm
              go_wp2_with (first
                | (go_at_call 75; refine hs44.mono ?_; rintro e w8 ⟨rfl, hR8, hc8⟩; clear hs44; have hr48 := hr4F.ch hc8 (by simp; omega); have hr58 := hr5F.ch hc8 (by simp; omega); have ho8 := hoF.ch hc8 (by intro x hx; simp at hx; omega); have hB8 := hBF.trans hc8; clear hr4F hr5F hoF hBF hRF hc8)
                | (go_at_call 75; refine (hs41 _ hR8).mono ?_; rintro e w9 ⟨rfl, hR9, hc9⟩; clear hs41; have hr49 := hr48.ch hc9 (by simp; omega); have hr59 := hr58.ch hc9 (by simp; omega); have a0 := hr59.cell 0; have a1 := hr59.cell 1; have b0 := hr49.cell 0; have b1 := hr49.cell 1; have f0 := hr49.frozen 0; have f1 := hr49.frozen 1))
              have hbF : Blk ((w9.setCell ⟨w.heap.size, 0, none⟩ (Value.string nm)).setCell ⟨w.heap.size, 1, none⟩ (Value.slice a7 nF c7)) w.heap.size 28 #[.string nm, .slice a7 nF c7] := (hr49.set_ 0 _).set_ 1 _
              have hB9 := hB8.trans hc9
              have hcF : Ch [R] w ((w9.setCell ⟨w.heap.size, 0, none⟩ (Value.string nm)).setCell ⟨w.heap.size, 1, none⟩ (Value.slice a7 nF c7)) := (hB9.set (.inr (Nat.le_refl _)) _).set (.inr (Nat.le_refl _)) _
              have hcG : Ch [w.heap.size] w9 ((w9.setCell ⟨w.heap.size, 0, none⟩ (Value.string nm)).setCell ⟨w.heap.size, 1, none⟩ (Value.slice a7 nF c7)) := ((Ch.refl _ _).set (by simp) _).set (by simp) _
              have hoG := (ho8.ch hc9 (by intro x hx; simp at hx; omega)).ch hcG (by simp)
              have hRG : Rdr ((w9.setCell ⟨w.heap.size, 0, none⟩ (Value.string nm)).setCell ⟨w.heap.size, 1, none⟩ (Value.slice a7 nF c7)) R s k5 := Blk.far (Blk.far hR9 (by simp; omega) _) (by simp; omega) _
              refine bodyPost_ret (results_cell_row (p := 4) (ty := 28) (by kernel_rfl) _ _ w.heap.size 28 _ _ _ rfl hbF Tryz.underlying28 rfl (by kernel_rfl)) rfl ?_
              rw [HTT.out]
              exact ⟨_, rfl, hoG.slt.weak (fun b _ hb => by omega), hRG, hcF⟩
        · have hks : k = s.size := by omega
          subst hks
          go_wp2
          refine wp_region_later (by kernel_rfl) (lexB_of (by kernel_rfl)) ?_
          repeat (go_big_quiet_step (fail))
          refine wpQuiet_nil ?_
          intro w2 hw2
          have hPA : Hid (pArgs s f i1 = (acc, s.size)) := by
            unfold Hid
            rw [HX.out]
            cases g with
            | zero => omega
            | succ g =>
              conv => lhs; unfold pArgs
              rw [if_neg (by omega)]
              simp
          have hR8 : Rdr w2 R s s.size := hR.ch hw2 (by simp)
          have hr48 := hr4.ch hw2 (by simp)
          have hr58 := hr5.ch hw2 (by simp)
          have ho8 := ho.ch hw2 (by simp)
          have hB8 := hB.trans hw2.of_nil
          have hvf : ∃ a7 nF c7, v = .slice a7 nF c7 := by obtain ⟨css, hown, _⟩ := ho; obtain ⟨a7, c7, e⟩ := hown.form'; exact ⟨_, _, _, e⟩
          obtain ⟨a7, nF, c7, rfl⟩ := hvf
          have hs41 := fun wz hz => sign_ R s s.size 41 wz hz hs (Nat.le_refl _)
          have htm := HP.out
          rw [if_pos (by trivial), hPA.out] at htm
          simp only at htm
          generalize (pSign s s.size 41).2 = k5 at *
          generalize (pSign s s.size 41).1 = q5 at *
          have HTT := Lib.hid htm; clear htm
          go_wp2_with (go_at_call 75; refine (hs41 _ hR8).mono ?_; rintro e w9 ⟨rfl, hR9, hc9⟩; clear hs41; have hr49 := hr48.ch hc9 (by simp; omega); have hr59 := hr58.ch hc9 (by simp; omega); have a0 := hr59.cell 0; have a1 := hr59.cell 1; have b0 := hr49.cell 0; have b1 := hr49.cell 1; have f0 := hr49.frozen 0; have f1 := hr49.frozen 1)
          have hbF : Blk ((w9.setCell ⟨w.heap.size, 0, none⟩ (Value.string nm)).setCell ⟨w.heap.size, 1, none⟩ (Value.slice a7 nF c7)) w.heap.size 28 #[.string nm, .slice a7 nF c7] := (hr49.set_ 0 _).set_ 1 _
          have hB9 := hB8.trans hc9
          have hcF : Ch [R] w ((w9.setCell ⟨w.heap.size, 0, none⟩ (Value.string nm)).setCell ⟨w.heap.size, 1, none⟩ (Value.slice a7 nF c7)) := (hB9.set (.inr (Nat.le_refl _)) _).set (.inr (Nat.le_refl _)) _
          have hcG : Ch [w.heap.size] w9 ((w9.setCell ⟨w.heap.size, 0, none⟩ (Value.string nm)).setCell ⟨w.heap.size, 1, none⟩ (Value.slice a7 nF c7)) := ((Ch.refl _ _).set (by simp) _).set (by simp) _
          have hoG := (ho8.ch hc9 (by intro x hx; simp at hx; omega)).ch hcG (by simp)
          have hRG : Rdr ((w9.setCell ⟨w.heap.size, 0, none⟩ (Value.string nm)).setCell ⟨w.heap.size, 1, none⟩ (Value.slice a7 nF c7)) R s k5 := Blk.far (Blk.far hR9 (by simp; omega) _) (by simp; omega) _
          refine bodyPost_ret (results_cell_row (p := 4) (ty := 28) (by kernel_rfl) _ _ w.heap.size 28 _ _ _ rfl hbF Tryz.underlying28 rfl (by kernel_rfl)) rfl ?_
          rw [HTT.out]
          exact ⟨_, rfl, hoG.slt.weak (fun b _ hb => by omega), hRG, hcF⟩
end

section
open Go.RowKit

/-- a row of the call's own whose elements stand to the list's as R says; R is told where its blocks lie -/
def OwnG {α : Type} (R : (Nat → Prop) → World → α → List Value → Prop) (e : TypeId) (k : Nat) (w : World) (base : Nat) (v : Value) (xs : List α) : Prop :=
  ∃ css, Own w base e k v css ∧ css.length = xs.length ∧ ∀ (i : Nat) (cs : List Value) (x : α), css[i]? = some cs → xs[i]? = some x → R (fun b => base ≤ b ∧ v.ownBlock ≠ some b) w x cs
/-- R hangs on the blocks alone -/
def Imp {α : Type} (R : (Nat → Prop) → World → α → List Value → Prop) : Prop :=
  ∀ (p q : Nat → Prop) (w w' : World) (x : α) (cs : List Value), w.heap.size ≤ w'.heap.size → (∀ b, b < w.heap.size → p b → q b ∧ w'.heap[b]? = w.heap[b]?) → R p w x cs → R q w' x cs
theorem imp_li : Imp LiR := fun _ _ _ _ _ _ hs hk h => LiR.imp hs hk h
theorem imp_ru : Imp RuR := fun _ _ _ _ _ _ hs hk h => RuR.imp hs hk h
section
variable {α : Type} {R : (Nat → Prop) → World → α → List Value → Prop} {e : TypeId} {k : Nat}
theorem OwnG.nil (w : World) (base : Nat) : OwnG R e k w base (.slice none 0 0) [] := ⟨[], Own.nil _ _ _ _, rfl, by simp⟩
theorem OwnG.ch {S : List Nat} {w w' : World} {base : Nat} {v : Value} {xs : List α} (hI : Imp R) (h : OwnG R e k w base v xs) (hc : Ch S w w') (hS : ∀ x ∈ S, x < base ∨ w.heap.size ≤ x) : OwnG R e k w' base v xs := by
  obtain ⟨css, h2, hl, h3⟩ := h
  refine ⟨css, h2.ch hc (fun b hb hm => ?_), hl, fun i cs x h4 h5 => hI _ _ _ _ _ _ hc.size (fun b hb hp => ⟨hp, hc.block b hb (fun hm => ?_)⟩) (h3 i cs x h4 h5)⟩
  · have := h2.lt hb; rcases hS b hm with h | h <;> omega
  · rcases hS b hm with h | h <;> omega
theorem OwnG.slg {w : World} {base : Nat} {v : Value} {xs : List α} (hI : Imp R) (h : OwnG R e k w base v xs) : SlG (R (fun b => base ≤ b)) k (fun b => base ≤ b) w v xs := by
  obtain ⟨css, h2, hl, h3⟩ := h
  exact ⟨css, h2.sl.weak (fun b _ hb => hb.1), hl, fun i cs x h4 h5 => hI _ _ _ _ _ _ (Nat.le_refl _) (fun b _ hp => ⟨hp.1, rfl⟩) (h3 i cs x h4 h5)⟩
theorem OwnG.add {w1 w2 : World} {base : Nat} {v v' : Value} {xs : List α} {css : List (List Value)} {y : α} {cy : List Value} (hI : Imp R) (hl : css.length = xs.length)
    (h2 : ∀ (i : Nat) (cs : List Value) (x : α), css[i]? = some cs → xs[i]? = some x → R (fun b => base ≤ b ∧ v.ownBlock ≠ some b) w1 x cs)
    (hg : R (fun b => base ≤ b ∧ v.ownBlock ≠ some b) w1 y cy) (hc : Ch v.ownBlock.toList w1 w2) (hat : v'.ownBlock = v.ownBlock ∨ v'.ownBlock = some w1.heap.size) (ho : Own w2 base e k v' (css ++ [cy])) : OwnG R e k w2 base v' (xs ++ [y]) := by
  have key : ∀ b, b < w1.heap.size → (base ≤ b ∧ v.ownBlock ≠ some b) → (base ≤ b ∧ v'.ownBlock ≠ some b) ∧ w2.heap[b]? = w1.heap[b]? := by
    intro b hb hp
    refine ⟨⟨hp.1, fun e => ?_⟩, hc.block b hb (fun hm => ?_)⟩
    · rcases hat with h | h
      · exact hp.2 (h ▸ e)
      · rw [h] at e; injection e with e; omega
    · cases hv : v.ownBlock with
      | none => rw [hv] at hm; cases hm
      | some g' => rw [hv] at hm; simp at hm; subst hm; exact hp.2 hv
  refine ⟨_, ho, by simp [hl], fun i cs x h4 h5 => ?_⟩
  rcases Nat.lt_or_ge i css.length with hi | hi
  · rw [List.getElem?_append_left hi] at h4
    rw [List.getElem?_append_left (by omega)] at h5
    exact hI _ _ _ _ _ _ hc.size key (h2 i cs x h4 h5)
  · rw [List.getElem?_append_right hi] at h4
    rw [List.getElem?_append_right (by omega), ← hl] at h5
    cases hd : i - css.length with
    | zero =>
      rw [hd] at h4 h5
      simp at h4 h5
      subst h4 h5
      exact hI _ _ _ _ _ _ hc.size key hg
    | succ m => rw [hd] at h4; simp at h4
theorem OwnG.len {w : World} {base : Nat} {v : Value} {xs : List α} (h : OwnG R e k w base v xs) : ∃ a c, v = .slice a xs.length c := by
  obtain ⟨css, h2, hl, _⟩ := h
  obtain ⟨a, c, rfl⟩ := h2.form'
  exact ⟨a, c, by rw [hl]⟩
end

theorem not_eq (s : ByteArray) : (s.toList == [110, 111, 116]) = decide (s = bNot) := by
  have : bNot.toList = [110, 111, 116] := by rw [ByteArray.toList_eq]; rfl
  rw [← this, beqS]
theorem emp_eq (s : ByteArray) : (s.toList == []) = decide (s = ⟨#[]⟩) := by
  have h := beqS s ⟨#[]⟩
  have : (⟨#[]⟩ : ByteArray).toList = [] := by rw [ByteArray.toList_eq]
  rw [this] at h
  exact h

theorem rule_fin {R kz B5 : Nat} {s nm : ByteArray} {w wz : World} {va vb : Value} {hd : Tm} {body : List Li} (hr4 : Blk wz w.heap.size 31 #[.string ⟨#[]⟩, .slice none 0 0, .slice none 0 0]) (hB : Ch [R] w wz) (hRl : R < w.heap.size) (hR : Rdr wz R s kz)
    (hB5 : w.heap.size < B5) (hva : SlT (fun b => w.heap.size + 1 ≤ b ∧ b < B5) wz va hd.args) (hbo : OwnG LiR 48 3 wz (B5 + 1) vb body) (_hd' : hd = .mk nm hd.args) (a : Act) (h4 : a.tmps.getD 4 undef = .pointer (some ⟨w.heap.size, 0, none⟩)) (h5 : a.defers = []) :
    bodyPost Tryz.prog Tryz.f38 (fun e w' => ∃ va vb, e = .returned (.agg #[.string nm, va, vb]) ∧ SlT (fun b => w.heap.size ≤ b) w' va hd.args ∧ SlLi (fun b => w.heap.size ≤ b) w' vb body ∧ Rdr w' R s kz ∧ Ch [R] w w') .ret a
      (((wz.setCell ⟨w.heap.size, 0, none⟩ (.string nm)).setCell ⟨w.heap.size, 1, none⟩ va).setCell ⟨w.heap.size, 2, none⟩ vb) := by
  have hbF : Blk (((wz.setCell ⟨w.heap.size, 0, none⟩ (.string nm)).setCell ⟨w.heap.size, 1, none⟩ va).setCell ⟨w.heap.size, 2, none⟩ vb) w.heap.size 31 #[.string nm, va, vb] := ((hr4.set_ 0 _).set_ 1 _).set_ 2 _
  have hcF : Ch [w.heap.size] wz (((wz.setCell ⟨w.heap.size, 0, none⟩ (.string nm)).setCell ⟨w.heap.size, 1, none⟩ va).setCell ⟨w.heap.size, 2, none⟩ vb) := (((Ch.refl _ _).set (by simp) _).set (by simp) _).set (by simp) _
  have hcG : Ch [R] w (((wz.setCell ⟨w.heap.size, 0, none⟩ (.string nm)).setCell ⟨w.heap.size, 1, none⟩ va).setCell ⟨w.heap.size, 2, none⟩ vb) := ((hB.set (.inr (Nat.le_refl _)) _).set (.inr (Nat.le_refl _)) _).set (.inr (Nat.le_refl _)) _
  refine bodyPost_ret (results_cell_row (p := 4) (ty := 31) (by kernel_rfl) _ _ w.heap.size 31 _ _ _ h4 hbF Tryz.underlying31 rfl (by kernel_rfl)) h5 ?_
  refine ⟨va, vb, rfl, (hva.ch hcF (by intro b _ hb; simp; omega)).weak (fun b _ hb => by omega), ?_, hR.ch hcF (by simp; omega), hcG⟩
  exact SlLi.weak (OwnG.slg imp_li (hbo.ch imp_li hcF (by simp; omega))) (fun b _ hb => by omega)

set_option maxRecDepth 100000 in
set_option maxHeartbeats 4000000 in
theorem rule_ (R i : Nat) (s nm : ByteArray) (w : World) (h : Rdr w R s i) (hs : s.size ≤ 1000000000) (hi : i ≤ s.size) :
    Calls Tryz.prog 38 #[.pointer (some ⟨R, 0, none⟩), .string nm] w fun e w' => ∃ va vb, e = .returned (.agg #[.string nm, va, vb]) ∧ SlT (fun b => w.heap.size ≤ b) w' va (pRule s i nm).1.head.args ∧ SlLi (fun b => w.heap.size ≤ b) w' vb (pRule s i nm).1.body ∧ Rdr w' R s (pRule s i nm).2 ∧ Ch [R] w w' := by
  have hRlt := h.lt
  obtain ⟨wA, hwA⟩ : ∃ wA, wA = (w.alloc (Obj.cells #[Value.string { data := #[] }, Value.slice none 0 0, Value.slice none 0 0] 31)) := ⟨_, rfl⟩
  have hRA : Rdr wA R s i := by rw [hwA]; exact (Blk.alloc h _)
  have hb4 : Blk wA w.heap.size 31 #[.string ⟨#[]⟩, .slice none 0 0, .slice none 0 0] := by rw [hwA]; exact Blk.new _ _ _
  have hcA : Ch [] w wA := by rw [hwA]; exact (Ch.refl _ _).alloc _
  have hszA : wA.heap.size = w.heap.size + 1 := by rw [hwA]; simp
  have htc := term_ (fuel s 0) R i s nm wA hRA hs hi (by unfold fuel; omega)
  have hname := pTerm_name s (fuel s 0) i nm
  have hle := pTerm_le s (fuel s 0) i nm hi
  have HP : Hid (pRule s i nm = (⟨(pTerm s (fuel s 0) i nm).1, (pBody s (s.size + 1) (pTerm s (fuel s 0) i nm).2).1⟩, (pBody s (s.size + 1) (pTerm s (fuel s 0) i nm).2).2)) := rfl
  obtain ⟨hd, i1, htm⟩ : ∃ tm k2, pTerm s (fuel s 0) i nm = (tm, k2) := ⟨_, _, rfl⟩
  rw [htm] at htc hname hle HP
  simp only at htc hname hle HP
  have HNM := Lib.hid hname; clear hname htm
  go_enter Tryz.func38, Tryz.ntmps38
  go_wp2_with (rw [← hwA]; go_at_call 74; refine htc.mono ?_; rintro e w1 ⟨va, rfl, hva, hR1, hc1⟩; clear htc; obtain ⟨ax, cx, rfl, hl1, hm1⟩ := hva.form)
  have hsz1 : wA.heap.size ≤ w1.heap.size := hc1.size
  have hb4B := (hb4.ch hc1 (by simp; omega)).alloc (.cells #[.string nm, .slice ax hd.args.length cx, .slice none 0 0] 31)
  have hb5B := Blk.new w1 31 #[.string nm, .slice ax hd.args.length cx, .slice none 0 0]
  have hvaB : SlT (fun b => w.heap.size + 1 ≤ b ∧ b < w1.heap.size) (w1.alloc (.cells #[.string nm, .slice ax hd.args.length cx, .slice none 0 0] 31)) (.slice ax hd.args.length cx) hd.args :=
    hva.imp (by simp) (fun b hb hp => ⟨⟨by omega, hb⟩, Below.heap_alloc _ _ _ hb⟩)
  have hRB : Rdr (w1.alloc (.cells #[.string nm, .slice ax hd.args.length cx, .slice none 0 0] 31)) R s i1 := Blk.alloc hR1 _
  have hBB : Ch [R] w (w1.alloc (.cells #[.string nm, .slice ax hd.args.length cx, .slice none 0 0] 31)) := (hcA.of_nil.trans hc1).alloc _
  have hszB : (w1.alloc (.cells #[.string nm, .slice ax hd.args.length cx, .slice none 0 0] 31)).heap.size = w1.heap.size + 1 := by simp
  generalize (w1.alloc (.cells #[.string nm, .slice ax hd.args.length cx, .slice none 0 0] 31)) = wB at *
  have hB5 : w.heap.size < w1.heap.size := by omega
  generalize w1.heap.size = B5 at *
  generalize hd.args.length = n1 at *
  clear hva hc1 hR1 hl1 hm1 hsz1 hb4 hcA hRA hwA hszA
  go_loopw [6, 7] (fun _ _ wr => ∃ (k g : Nat) (v : Value) (acc : List Li), i1 ≤ k ∧ k ≤ s.size ∧ (s.size - k) + 1 ≤ g ∧ Rdr wr R s k ∧ Ch [R] w wr ∧ Blk wr w.heap.size 31 #[.string ⟨#[]⟩, .slice none 0 0, .slice none 0 0] ∧ Blk wr B5 31 #[.string nm, .slice ax n1 cx, v] ∧
      SlT (fun b => w.heap.size + 1 ≤ b ∧ b < B5) wr (.slice ax n1 cx) hd.args ∧ OwnG LiR 48 3 wr (B5 + 1) v acc ∧ acc.length ≤ k ∧ Hid (pBody s (s.size + 1) i1 = (acc ++ (pBody s g k).1, (pBody s g k).2)))
    (fun _ _ wr => s.size - (match wr.cell? ⟨R, 1, none⟩ with | some v => (intOf v).toNat | none => 0))
  case atStart => exact ⟨i1, s.size + 1, _, [], Nat.le_refl _, hle.2, by omega, hRB, hBB, hb4B, hb5B, hvaB, OwnG.nil _ _, Nat.zero_le _, rfl⟩
  case round =>
    obtain ⟨k, g, v, acc, hik, hk, hg, hR, hB, hr4, hr5, hvw, ho, hacc, HX⟩ := hrel
    obtain ⟨ab, cb, rfl⟩ := ho.len
    have c0 := hR.cell 0
    have c1 := hR.cell 1
    have hr5l := hr5.lt
    obtain ⟨g, rfl⟩ : ∃ g', g = g' + 1 := ⟨g - 1, by omega⟩
    by_cases hlt : k < s.size
    · have hs46 := sign_ R s k 46 wr.drew hR hs hk
      have hq := pSign_le (c := 46) hk
      have HS : Hid (pBody s (g + 1) k = if (pSign s k 46).1 = true then ([], (pSign s k 46).2)
        else
          (if (pLit s (pWord s (pSign s k 46).2).2).2.1 = ⟨#[]⟩ then ([], (pLit s (pWord s (pSign s k 46).2).2).2.2)
          else
            (⟨(pLit s (pWord s (pSign s k 46).2).2).1, (pTerm s (fuel s 0) (pLit s (pWord s (pSign s k 46).2).2).2.2 (pLit s (pWord s (pSign s k 46).2).2).2.1).1⟩ :: (pBody s g (pTerm s (fuel s 0) (pLit s (pWord s (pSign s k 46).2).2).2.2 (pLit s (pWord s (pSign s k 46).2).2).2.1).2).1,
              (pBody s g (pTerm s (fuel s 0) (pLit s (pWord s (pSign s k 46).2).2).2.2 (pLit s (pWord s (pSign s k 46).2).2).2.1).2).2))) := by
        unfold Hid
        conv => lhs; unfold pBody
        rw [if_pos hlt]
      obtain ⟨q, k1, hqe⟩ : ∃ q k1, pSign s k 46 = (q, k1) := ⟨_, _, rfl⟩
      rw [hqe] at hs46 hq HS
      simp only at hs46 hq HS
      clear hqe
      go_wp2
      refine wp_region_still_tail 11 (by kernel_rfl) (by kernel_rfl) ?_
      simp only [List.take_succ_cons, List.take_zero, List.drop_succ_cons, List.drop_zero]
      repeat still_step
      refine wpStill_nil ?_
      cases q with
      | true =>
        have HPA : Hid (pBody s (s.size + 1) i1 = (acc, k1)) := by unfold Hid; rw [HX.out, HS.out]; simp
        go_wp2_with (go_at_call 75; refine hs46.mono ?_; rintro e w2 ⟨rfl, hR2, hc2⟩; clear hs46; replace hc2 := ((Ch.refl [R] wr).drew).trans hc2; have hr42 := hr4.ch hc2 (by simp; omega); have hr52 := hr5.ch hc2 (by simp; omega); have a0 := hr52.cell 0; have a1 := hr52.cell 1; have a2 := hr52.cell 2; have b0 := hr42.cell 0; have b1 := hr42.cell 1; have b2 := hr42.cell 2; have f0 := hr42.frozen 0; have f1 := hr42.frozen 1; have f2 := hr42.frozen 2)
        have hB2 := hB.trans hc2
        have hva2 := SlT.ch hvw hc2 (by intro b _ hb; simp; omega)
        have hbo2 := OwnG.ch imp_li ho hc2 (by simp; omega)
        rw [HP.out, HPA.out]
        exact rule_fin hr42 hB2 hRlt hR2 hB5 hva2 hbo2 HNM.out _ rfl rfl
      | false =>
        have hW1 := fun wz hz => word_ R s k1 wz hz hs hq.2.1
        have h12 := pWord_le hq.2.1
        obtain ⟨wd0, k2, hp1⟩ : ∃ a b, pWord s k1 = (a, b) := ⟨_, _, rfl⟩
        rw [hp1] at hW1 h12 HS
        simp only at hW1 h12 HS
        have hW2 := fun wz hz => word_ R s k2 wz hz hs h12.2
        have h23 := pWord_le h12.2
        have v23 := pWord_adv h12.2
        obtain ⟨wd, k3, hp2⟩ : ∃ a b, pWord s k2 = (a, b) := ⟨_, _, rfl⟩
        rw [hp2] at hW2 h23 v23
        simp only at hW2 h23 v23
        have hW3 := fun wz hz => word_ R s k3 wz hz hs h23.2
        have h34 := pWord_le h23.2
        obtain ⟨we, k4, hp3⟩ : ∃ a b, pWord s k3 = (a, b) := ⟨_, _, rfl⟩
        rw [hp3] at hW3 h34
        simp only at hW3 h34
        have HL : Hid (pLit s k2 = if wd = bNot then (true, we, k4) else (false, wd, k3)) := by
          unfold Hid pLit
          rw [hp2]
          simp only
          rw [hp3]
        clear hp1 hp2 hp3
        have HV := Lib.hid v23; clear v23
        by_cases hnot : wd = bNot
        · have n0 : (wd.toList == [110, 111, 116]) = true := by rw [not_eq]; simpa using hnot
          have HV2 : k2 < k3 := HV.out (by rw [hnot]; intro h; have := congrArg ByteArray.size h; exact absurd this (by decide))
          have HL2 : Hid (pLit s k2 = (true, we, k4)) := by unfold Hid; rw [HL.out, if_pos hnot]
          clear hnot HL HV
          by_cases hemp : we = ⟨#[]⟩
          · have e0 : (we.toList == []) = true := by rw [emp_eq]; simpa using hemp
            clear hemp
            go_wp2_with (first
              | (go_at_call 75; refine hs46.mono ?_; rintro e w2 ⟨rfl, hR2, hc2⟩; clear hs46; replace hc2 := ((Ch.refl [R] wr).drew).trans hc2)
              | (go_at_call 37; refine (hW1 _ hR2).mono ?_; rintro e w3 ⟨rfl, hR3, hc3⟩; clear hW1)
              | (go_at_call 37; refine (hW2 _ hR3).mono ?_; rintro e w4 ⟨rfl, hR4, hc4⟩; clear hW2)
              | (go_at_call 37; refine (hW3 _ hR4).mono ?_; rintro e w5 ⟨rfl, hR5, hc5⟩; clear hW3; have hcX : Ch [R] wr w5 := ((hc2.trans hc3).trans hc4).trans hc5; have hr42 := hr4.ch hcX (by simp; omega); have hr52 := hr5.ch hcX (by simp; omega); have a0 := hr52.cell 0; have a1 := hr52.cell 1; have a2 := hr52.cell 2; have b0 := hr42.cell 0; have b1 := hr42.cell 1; have b2 := hr42.cell 2; have f0 := hr42.frozen 0; have f1 := hr42.frozen 1; have f2 := hr42.frozen 2))
            have HPA : Hid (pBody s (s.size + 1) i1 = (acc, k4)) := by
              have he : we = ⟨#[]⟩ := by rw [emp_eq] at e0; simpa using e0
              unfold Hid; rw [HX.out, HS.out, HL2.out]; simp [he]
            rw [HP.out, HPA.out]
            exact rule_fin hr42 (hB.trans hcX) hRlt hR5 hB5 (hvw.ch hcX (by intro b _ hb; simp; omega)) (ho.ch imp_li hcX (by simp; omega)) HNM.out _ rfl rfl
          · have e0 : (we.toList == []) = false := by rw [emp_eq]; simpa using hemp
            have hadv : k1 < k4 := by omega
            clear hemp
            go_wp2_with (first
              | (go_at_call 75; refine hs46.mono ?_; rintro e w2 ⟨rfl, hR2, hc2⟩; clear hs46; replace hc2 := ((Ch.refl [R] wr).drew).trans hc2)
              | (go_at_call 37; refine (hW1 _ hR2).mono ?_; rintro e w3 ⟨rfl, hR3, hc3⟩; clear hW1)
              | (go_at_call 37; refine (hW2 _ hR3).mono ?_; rintro e w4 ⟨rfl, hR4, hc4⟩; clear hW2)
              | (go_at_call 37; refine (hW3 _ hR4).mono ?_; rintro e w5 ⟨rfl, hR5, hc5⟩; clear hW3; have hcX : Ch [R] wr w5 := ((hc2.trans hc3).trans hc4).trans hc5; have hr42 := hr4.ch hcX (by simp; omega); have hr52 := hr5.ch hcX (by simp; omega)))
            have hcall := term_ (fuel s 0) R k4 s we w5.drew hR5 hs h34.2 (by unfold fuel; omega)
            have hname := pTerm_name s (fuel s 0) k4 we
            have hk6 := pTerm_le s (fuel s 0) k4 we h34.2
            obtain ⟨tm, k6, htm⟩ : ∃ tm k6, pTerm s (fuel s 0) k4 we = (tm, k6) := ⟨_, _, rfl⟩
            rw [htm] at hcall hname hk6
            simp only at hcall hname hk6
            have HTM := Lib.hid htm; clear htm
            have HNT := Lib.hid hname; clear hname
            obtain ⟨css, hown, hcl, hli⟩ := ho
            have HCL := Lib.hid hcl; clear hcl
            have hlv : ∀ b, (Value.slice ab acc.length cb).ownBlock = some b → B5 + 1 ≤ b ∧ b < wr.heap.size := fun b hb => hown.lt hb
            have hszX := hcX.size
            have hownX := hown.ch hcX (by intro b hb hm; have := (hlv b hb).1; simp at hm; omega)
            have HLV := Lib.hid hlv; clear hlv
            have x1 := hr52.cell 2
            go_region_law (first
              | (go_simp; go_at_call 74; refine hcall.mono ?_; rintro e w6 ⟨va6, rfl, hva6, hR6, hc6⟩; obtain ⟨a6, c6, rfl, hl6, hm6⟩ := hva6.form; replace hc6 := ((Ch.refl [R] w5).drew).trans hc6; have hr56 := hr52.ch hc6 (by simp; omega); have x6 := hr56.cell 2; have x7 := (hr56.alloc (.cells #[.bool true, .string we, .slice a6 tm.args.length c6] 48)).cell 2)
              | (refine step_append_sl rfl _ _ _ rfl elB (base := B5 + 1) (v := .slice ab acc.length cb) rfl ((hownX.ch hc6 (by intro b hb hm; have := (HLV.out b hb).1; simp at hm; omega)).ch ((Ch.refl [] w6).alloc _) (by simp)) rfl (Sl.one w6 3 48 [.bool true, .string we, .slice a6 tm.args.length c6] rfl (by simp [Value.oneCell'])) (by have := HCL.out; simp; omega) (by have := hc6.size; simp; omega) ?_; intro v8 w8 ho8 hc8 hat8 hn8; clear hn8; obtain ⟨a8, c8, rfl⟩ := ho8.form'; have hr58 := (hr56.alloc (.cells #[.bool true, .string we, .slice a6 tm.args.length c6] 48)).ch hc8 (by intro hm; cases hvo : (Value.slice ab acc.length cb).ownBlock with | none => rw [hvo] at hm; cases hm | some g6 => rw [hvo] at hm; have := (HLV.out g6 hvo).1; simp at hm; omega); have x8 := hr58.cell 2; have y8 := hr58.frozen 2))
            all_goals
              have hcA : Ch [R] wr (w6.alloc (.cells #[.bool true, .string we, .slice a6 tm.args.length c6] 48)) := (hcX.trans hc6).alloc _
              have hlv6 : ∀ b, b ∈ (Value.slice ab acc.length cb).ownBlock.toList → B5 + 1 ≤ b := by
                intro b hb
                cases hvo : (Value.slice ab acc.length cb).ownBlock with
                | none => rw [hvo] at hb; cases hb
                | some g6 => rw [hvo] at hb; simp at hb; subst hb; exact (HLV.out b hvo).1
              have hliA : ∀ (i : Nat) (cs : List Value) (x : Li), css[i]? = some cs → acc[i]? = some x → LiR (fun b => B5 + 1 ≤ b ∧ (Value.slice ab acc.length cb).ownBlock ≠ some b) (w6.alloc (.cells #[.bool true, .string we, .slice a6 tm.args.length c6] 48)) x cs :=
                fun i cs x h4 h5 => imp_li _ _ _ _ _ _ hcA.size (fun b hb hp => ⟨hp, hcA.block b hb (by intro hm; have := hp.1; simp at hm; omega)⟩) (hli i cs x h4 h5)
              have hvaA : SlT (fun b => B5 + 1 ≤ b ∧ (Value.slice ab acc.length cb).ownBlock ≠ some b) (w6.alloc (.cells #[.bool true, .string we, .slice a6 tm.args.length c6] 48)) (.slice a6 tm.args.length c6) tm.args :=
                (hva6.ch0 ((Ch.refl _ _).alloc _)).weak fun b _ hb => ⟨by have : w5.heap.size ≤ b := hb; omega, fun e => by have := (HLV.out b e).2; have : w5.heap.size ≤ b := hb; omega⟩
              have hoT := OwnG.add (y := (⟨true, tm⟩ : Li)) imp_li HCL.out hliA ⟨_, by rw [HNT.out]; rfl, hvaA⟩ hc8 hat8 ho8
              have hR8 : Rdr w8 R s k6 := (Blk.alloc hR6 _).ch hc8 (fun hm => by have := hlv6 _ hm; omega)
              have hr48 := ((hr42.ch hc6 (by simp; omega)).alloc (.cells #[.bool true, .string we, .slice a6 tm.args.length c6] 48)).ch hc8 (fun hm => by have := hlv6 _ hm; omega)
              have hB8 : Ch [R] w w8 := (hB.trans hcA).step hc8 (fun x hx => .inr (by have := hlv6 _ hx; omega))
              have hv8 := (SlT.ch hvw hcA (by intro b _ hb; simp; omega)).ch hc8 (by intro b _ hb hm; have := hlv6 _ hm; omega)
              have hlv7 : (css ++ [[Value.bool true, Value.string we, Value.slice a6 tm.args.length c6]]).length = css.length + 1 := by simp
              rw [hlv7] at hoT
              have hcS : Ch [B5] w8 (w8.setCell ⟨B5, 2, none⟩ (.slice a8 (css.length + 1) c8)) := (Ch.refl _ _).set (by simp) _
              have hoF := OwnG.ch imp_li hoT hcS (by simp)
              have hRF : Rdr (w8.setCell ⟨B5, 2, none⟩ (.slice a8 (css.length + 1) c8)) R s k6 := hR8.ch hcS (by simp; omega)
              have hr4F := hr48.ch hcS (by simp; omega)
              have hr5F : Blk (w8.setCell ⟨B5, 2, none⟩ (.slice a8 (css.length + 1) c8)) B5 31 #[.string nm, .slice ax n1 cx, .slice a8 (css.length + 1) c8] := hr58.set_ 2 _
              have hBF : Ch [R] w (w8.setCell ⟨B5, 2, none⟩ (.slice a8 (css.length + 1) c8)) := hB8.step hcS (by simp; omega)
              have hvF := hv8.ch hcS (by intro b _ hb; simp; omega)
              have e1 := hR.cell 1
              have e2 := hRF.cell 1
              have HPA : Hid (pBody s (s.size + 1) i1 = ((acc ++ [⟨true, tm⟩]) ++ (pBody s g k6).1, (pBody s g k6).2)) := by
                have he : we ≠ ⟨#[]⟩ := by rw [emp_eq] at e0; simpa using e0
                unfold Hid; rw [HX.out, HS.out, HL2.out]
                simp only [he, if_false, HTM.out]
                simp
              generalize (w8.setCell ⟨B5, 2, none⟩ (.slice a8 (css.length + 1) c8)) = wF at *
              clear hcall x1 x6 x7 x8 y8 hat8 ho8 hvaA hliA hli hcA hoT hr58 hr56 hr52 hr42 hva6
              go_wp2
              go_roundw
              case rel => exact ⟨k6, g, _, acc ++ [⟨true, tm⟩], by omega, hk6.2, by omega, hRF, hBF, hr4F, hr5F, hvF, hoF, by simp; omega, HPA⟩
              case measure =>
                rw [e1, e2]
                show s.size - ((k6 : Int)).toNat < s.size - ((k : Int)).toNat
                omega
        · have n0 : (wd.toList == [110, 111, 116]) = false := by rw [not_eq]; simpa using hnot
          have HL2 : Hid (pLit s k2 = (false, wd, k3)) := by unfold Hid; rw [HL.out, if_neg hnot]
          clear hnot HL
          by_cases hemp : wd = ⟨#[]⟩
          · have e0 : (wd.toList == []) = true := by rw [emp_eq]; simpa using hemp
            clear hemp
            go_wp2_with (first
              | (go_at_call 75; refine hs46.mono ?_; rintro e w2 ⟨rfl, hR2, hc2⟩; clear hs46; replace hc2 := ((Ch.refl [R] wr).drew).trans hc2)
              | (go_at_call 37; refine (hW1 _ hR2).mono ?_; rintro e w3 ⟨rfl, hR3, hc3⟩; clear hW1)
              | (go_at_call 37; refine (hW2 _ hR3).mono ?_; rintro e w4 ⟨rfl, hR4, hc4⟩; clear hW2; have hcX : Ch [R] wr w4 := (hc2.trans hc3).trans hc4; have hr42 := hr4.ch hcX (by simp; omega); have hr52 := hr5.ch hcX (by simp; omega); have a0 := hr52.cell 0; have a1 := hr52.cell 1; have a2 := hr52.cell 2; have b0 := hr42.cell 0; have b1 := hr42.cell 1; have b2 := hr42.cell 2; have f0 := hr42.frozen 0; have f1 := hr42.frozen 1; have f2 := hr42.frozen 2))
            have HPA : Hid (pBody s (s.size + 1) i1 = (acc, k3)) := by
              have he : wd = ⟨#[]⟩ := by rw [emp_eq] at e0; simpa using e0
              unfold Hid; rw [HX.out, HS.out, HL2.out]; simp [he]
            rw [HP.out, HPA.out]
            exact rule_fin hr42 (hB.trans hcX) hRlt hR4 hB5 (hvw.ch hcX (by intro b _ hb; simp; omega)) (ho.ch imp_li hcX (by simp; omega)) HNM.out _ rfl rfl
          · have e0 : (wd.toList == []) = false := by rw [emp_eq]; simpa using hemp
            have hadv : k1 < k3 := by have := HV.out hemp; omega
            clear hemp
            go_wp2_with (first
              | (go_at_call 75; refine hs46.mono ?_; rintro e w2 ⟨rfl, hR2, hc2⟩; clear hs46; replace hc2 := ((Ch.refl [R] wr).drew).trans hc2)
              | (go_at_call 37; refine (hW1 _ hR2).mono ?_; rintro e w3 ⟨rfl, hR3, hc3⟩; clear hW1)
              | (go_at_call 37; refine (hW2 _ hR3).mono ?_; rintro e w4 ⟨rfl, hR4, hc4⟩; clear hW2; have hcX : Ch [R] wr w4 := (hc2.trans hc3).trans hc4; have hr42 := hr4.ch hcX (by simp; omega); have hr52 := hr5.ch hcX (by simp; omega)))
            have hcall := term_ (fuel s 0) R k3 s wd w4.drew hR4 hs h23.2 (by unfold fuel; omega)
            have hname := pTerm_name s (fuel s 0) k3 wd
            have hk6 := pTerm_le s (fuel s 0) k3 wd h23.2
            obtain ⟨tm, k6, htm⟩ : ∃ tm k6, pTerm s (fuel s 0) k3 wd = (tm, k6) := ⟨_, _, rfl⟩
            rw [htm] at hcall hname hk6
            simp only at hcall hname hk6
            have HTM := Lib.hid htm; clear htm
            have HNT := Lib.hid hname; clear hname
            obtain ⟨css, hown, hcl, hli⟩ := ho
            have HCL := Lib.hid hcl; clear hcl
            have hlv : ∀ b, (Value.slice ab acc.length cb).ownBlock = some b → B5 + 1 ≤ b ∧ b < wr.heap.size := fun b hb => hown.lt hb
            have hszX := hcX.size
            have hownX := hown.ch hcX (by intro b hb hm; have := (hlv b hb).1; simp at hm; omega)
            have HLV := Lib.hid hlv; clear hlv
            have x1 := hr52.cell 2
            go_region_law (first
              | (go_simp; go_at_call 74; refine hcall.mono ?_; rintro e w6 ⟨va6, rfl, hva6, hR6, hc6⟩; obtain ⟨a6, c6, rfl, hl6, hm6⟩ := hva6.form; replace hc6 := ((Ch.refl [R] w4).drew).trans hc6; have hr56 := hr52.ch hc6 (by simp; omega); have x6 := hr56.cell 2; have x7 := (hr56.alloc (.cells #[.bool false, .string wd, .slice a6 tm.args.length c6] 48)).cell 2)
              | (refine step_append_sl rfl _ _ _ rfl elB (base := B5 + 1) (v := .slice ab acc.length cb) rfl ((hownX.ch hc6 (by intro b hb hm; have := (HLV.out b hb).1; simp at hm; omega)).ch ((Ch.refl [] w6).alloc _) (by simp)) rfl (Sl.one w6 3 48 [.bool false, .string wd, .slice a6 tm.args.length c6] rfl (by simp [Value.oneCell'])) (by have := HCL.out; simp; omega) (by have := hc6.size; simp; omega) ?_; intro v8 w8 ho8 hc8 hat8 hn8; clear hn8; obtain ⟨a8, c8, rfl⟩ := ho8.form'; have hr58 := (hr56.alloc (.cells #[.bool false, .string wd, .slice a6 tm.args.length c6] 48)).ch hc8 (by intro hm; cases hvo : (Value.slice ab acc.length cb).ownBlock with | none => rw [hvo] at hm; cases hm | some g6 => rw [hvo] at hm; have := (HLV.out g6 hvo).1; simp at hm; omega); have x8 := hr58.cell 2; have y8 := hr58.frozen 2))
            all_goals
              have hcA : Ch [R] wr (w6.alloc (.cells #[.bool false, .string wd, .slice a6 tm.args.length c6] 48)) := (hcX.trans hc6).alloc _
              have hlv6 : ∀ b, b ∈ (Value.slice ab acc.length cb).ownBlock.toList → B5 + 1 ≤ b := by
                intro b hb
                cases hvo : (Value.slice ab acc.length cb).ownBlock with
                | none => rw [hvo] at hb; cases hb
                | some g6 => rw [hvo] at hb; simp at hb; subst hb; exact (HLV.out b hvo).1
              have hliA : ∀ (i : Nat) (cs : List Value) (x : Li), css[i]? = some cs → acc[i]? = some x → LiR (fun b => B5 + 1 ≤ b ∧ (Value.slice ab acc.length cb).ownBlock ≠ some b) (w6.alloc (.cells #[.bool false, .string wd, .slice a6 tm.args.length c6] 48)) x cs :=
                fun i cs x h4 h5 => imp_li _ _ _ _ _ _ hcA.size (fun b hb hp => ⟨hp, hcA.block b hb (by intro hm; have := hp.1; simp at hm; omega)⟩) (hli i cs x h4 h5)
              have hvaA : SlT (fun b => B5 + 1 ≤ b ∧ (Value.slice ab acc.length cb).ownBlock ≠ some b) (w6.alloc (.cells #[.bool false, .string wd, .slice a6 tm.args.length c6] 48)) (.slice a6 tm.args.length c6) tm.args :=
                (hva6.ch0 ((Ch.refl _ _).alloc _)).weak fun b _ hb => ⟨by have : w4.heap.size ≤ b := hb; omega, fun e => by have := (HLV.out b e).2; have : w4.heap.size ≤ b := hb; omega⟩
              have hoT := OwnG.add (y := (⟨false, tm⟩ : Li)) imp_li HCL.out hliA ⟨_, by rw [HNT.out]; rfl, hvaA⟩ hc8 hat8 ho8
              have hR8 : Rdr w8 R s k6 := (Blk.alloc hR6 _).ch hc8 (fun hm => by have := hlv6 _ hm; omega)
              have hr48 := ((hr42.ch hc6 (by simp; omega)).alloc (.cells #[.bool false, .string wd, .slice a6 tm.args.length c6] 48)).ch hc8 (fun hm => by have := hlv6 _ hm; omega)
              have hB8 : Ch [R] w w8 := (hB.trans hcA).step hc8 (fun x hx => .inr (by have := hlv6 _ hx; omega))
              have hv8 := (SlT.ch hvw hcA (by intro b _ hb; simp; omega)).ch hc8 (by intro b _ hb hm; have := hlv6 _ hm; omega)
              have hlv7 : (css ++ [[Value.bool false, Value.string wd, Value.slice a6 tm.args.length c6]]).length = css.length + 1 := by simp
              rw [hlv7] at hoT
              have hcS : Ch [B5] w8 (w8.setCell ⟨B5, 2, none⟩ (.slice a8 (css.length + 1) c8)) := (Ch.refl _ _).set (by simp) _
              have hoF := OwnG.ch imp_li hoT hcS (by simp)
              have hRF : Rdr (w8.setCell ⟨B5, 2, none⟩ (.slice a8 (css.length + 1) c8)) R s k6 := hR8.ch hcS (by simp; omega)
              have hr4F := hr48.ch hcS (by simp; omega)
              have hr5F : Blk (w8.setCell ⟨B5, 2, none⟩ (.slice a8 (css.length + 1) c8)) B5 31 #[.string nm, .slice ax n1 cx, .slice a8 (css.length + 1) c8] := hr58.set_ 2 _
              have hBF : Ch [R] w (w8.setCell ⟨B5, 2, none⟩ (.slice a8 (css.length + 1) c8)) := hB8.step hcS (by simp; omega)
              have hvF := hv8.ch hcS (by intro b _ hb; simp; omega)
              have e1 := hR.cell 1
              have e2 := hRF.cell 1
              have HPA : Hid (pBody s (s.size + 1) i1 = ((acc ++ [⟨false, tm⟩]) ++ (pBody s g k6).1, (pBody s g k6).2)) := by
                have he : wd ≠ ⟨#[]⟩ := by rw [emp_eq] at e0; simpa using e0
                unfold Hid; rw [HX.out, HS.out, HL2.out]
                simp only [he, if_false, HTM.out]
                simp
              generalize (w8.setCell ⟨B5, 2, none⟩ (.slice a8 (css.length + 1) c8)) = wF at *
              clear hcall x1 x6 x7 x8 y8 hat8 ho8 hvaA hliA hli hcA hoT hr58 hr56 hr52 hr42 hva6
              go_wp2
              go_roundw
              case rel => exact ⟨k6, g, _, acc ++ [⟨false, tm⟩], by omega, hk6.2, by omega, hRF, hBF, hr4F, hr5F, hvF, hoF, by simp; omega, HPA⟩
              case measure =>
                rw [e1, e2]
                show s.size - ((k6 : Int)).toNat < s.size - ((k : Int)).toNat
                omega
    · have hks : k = s.size := by omega
      subst hks
      have HPA : Hid (pBody s (s.size + 1) i1 = (acc, s.size)) := by
        unfold Hid
        rw [HX.out]
        conv => lhs; unfold pBody
        rw [if_neg (by omega)]
        simp
      have l0 := Later.cell c0
      have l1 := Later.cell c1
      go_wp2
      refine wp_region_later (by kernel_rfl) (lexB_of (by kernel_rfl)) ?_
      repeat (go_big_quiet_step (fail))
      refine wpQuiet_nil ?_
      intro w2 hw2
      have hr42 := hr4.ch hw2 (by simp)
      have hr52 := hr5.ch hw2 (by simp)
      have a0 := hr52.cell 0; have a1 := hr52.cell 1; have a2 := hr52.cell 2; have b0 := hr42.cell 0; have b1 := hr42.cell 1; have b2 := hr42.cell 2; have f0 := hr42.frozen 0; have f1 := hr42.frozen 1; have f2 := hr42.frozen 2
      go_wp2
      rw [HP.out, HPA.out]
      exact rule_fin hr42 (hB.trans hw2.of_nil) hRlt (hR.ch hw2 (by simp)) hB5 (hvw.ch hw2 (by simp)) (ho.ch imp_li hw2 (by simp)) HNM.out _ rfl rfl
end

section
open Go.RowKit

theorem pTerm_nm (s : ByteArray) (f i : Nat) (nm : ByteArray) : (pTerm s f i nm).1.name = nm := by rw [pTerm_name]; rfl
theorem pBody_le (s : ByteArray) : ∀ (f i : Nat), i ≤ s.size → i ≤ (pBody s f i).2 ∧ (pBody s f i).2 ≤ s.size
  | 0, i, h => by simp [pBody, h]
  | f + 1, i, h => by
    have h1 := pSign_le (c := 46) h
    have hE := pBody_le s f
    unfold pBody
    generalize pSign s i 46 = A at *
    have h2 := pWord_le h1.2.1
    generalize pWord s A.2 = B at *
    have h3 := pLit_le h2.2
    generalize pLit s B.2 = C at *
    have h4 := pTerm_le s (fuel s 0) C.2.2 C.2.1 h3.2
    generalize pTerm s (fuel s 0) C.2.2 C.2.1 = D at *
    have h5 := hE D.2 h4.2
    generalize pBody s f D.2 = E at *
    split
    · split
      · exact ⟨h1.1, h1.2.1⟩
      · split
        · exact ⟨by simp only; omega, h3.2⟩
        · exact ⟨by simp only; omega, h5.2⟩
    · exact ⟨Nat.le_refl _, h⟩
theorem pRule_le (s : ByteArray) (i : Nat) (nm : ByteArray) (h : i ≤ s.size) : i ≤ (pRule s i nm).2 ∧ (pRule s i nm).2 ≤ s.size := by
  have h1 := pTerm_le s (fuel s 0) i nm h
  have h2 := pBody_le s (s.size + 1) _ h1.2
  unfold pRule
  exact ⟨Nat.le_trans h1.1 h2.1, h2.2⟩
theorem pRule_nm (s : ByteArray) (i : Nat) (nm : ByteArray) : (pRule s i nm).1.head.name = nm := pTerm_nm _ _ _ _

set_option maxRecDepth 100000 in
set_option maxHeartbeats 4000000 in
theorem read_ (s : ByteArray) (w : World) (hs : s.size ≤ 1000000000) :
    Calls Tryz.prog 12 #[.string s] w fun e w' => ∃ v, e = .returned v ∧ SlR (fun b => w.heap.size ≤ b) w' v (pRead s (s.size + 1) 0) ∧ Ch [] w w' := by
  go_enter Tryz.func12, Tryz.ntmps12
  go_wp2
  have hRA : Rdr (w.alloc (.cells #[.string s, .int .i64 0] 78)) w.heap.size s 0 := Blk.new _ _ _
  have hcA : Ch [] w (w.alloc (.cells #[.string s, .int .i64 0] 78)) := (Ch.refl _ _).alloc _
  have hsA : (w.alloc (.cells #[.string s, .int .i64 0] 78)).heap.size = w.heap.size + 1 := by simp
  generalize (w.alloc (.cells #[.string s, .int .i64 0] 78)) = wA at *
  go_loopw [4, 5] (fun v _ wr => ∃ (k g : Nat) (acc : List Ru), k ≤ s.size ∧ (s.size - k) + 1 ≤ g ∧ Rdr wr w.heap.size s k ∧ Ch [] w wr ∧ OwnG RuR 31 3 wr (w.heap.size + 1) v acc ∧ acc.length ≤ k ∧ Hid (pRead s (s.size + 1) 0 = acc ++ pRead s g k))
    (fun _ _ wr => s.size - (match wr.cell? ⟨w.heap.size, 1, none⟩ with | some v => (intOf v).toNat | none => 0))
  case atStart => exact ⟨0, s.size + 1, [], Nat.zero_le _, by omega, hRA, hcA, OwnG.nil _ _, Nat.zero_le _, rfl⟩
  case round =>
    obtain ⟨k, g, acc, hk, hg, hR, hB, ho, hacc, HX⟩ := hrel
    obtain ⟨g, rfl⟩ : ∃ g', g = g' + 1 := ⟨g - 1, by omega⟩
    have hwd := word_ w.heap.size s k wr hR hs hk
    have hk1 := pWord_le hk
    have hadv := pWord_adv hk
    have HS : Hid (pRead s (g + 1) k = if (pWord s k).1 = ⟨#[]⟩ then [] else (pRule s (pWord s k).2 (pWord s k).1).1 :: pRead s g (pRule s (pWord s k).2 (pWord s k).1).2) := rfl
    obtain ⟨wd, k1, hwe⟩ : ∃ a b, pWord s k = (a, b) := ⟨_, _, rfl⟩
    rw [hwe] at hwd hk1 hadv HS
    simp only at hwd hk1 hadv HS
    clear hwe
    have e1 := hR.cell 1
    by_cases hemp : wd = ⟨#[]⟩
    · have e0 : (wd.toList == []) = true := by rw [emp_eq]; simpa using hemp
      have HPA : Hid (pRead s (s.size + 1) 0 = acc) := by unfold Hid; rw [HX.out, HS.out, if_pos hemp]; simp
      clear hemp hadv
      go_wp2_with (go_at_call 37; refine hwd.mono ?_; rintro e w1 ⟨rfl, hR1, hc1⟩; clear hwd)
      go_ret
      rw [HPA.out]
      have ho1 := OwnG.ch imp_ru ho hc1 (by simp)
      exact ⟨_, rfl, SlR.weak (OwnG.slg imp_ru ho1) (fun b _ hb => by omega), hB.step hc1 (by simp)⟩
    · have e0 : (wd.toList == []) = false := by rw [emp_eq]; simpa using hemp
      have hlt := hadv hemp
      have hrc := fun wz hz => rule_ w.heap.size k1 s wd wz hz hs hk1.2
      have hk2 := pRule_le s k1 wd hk1.2
      have hnm := pRule_nm s k1 wd
      have HPA : Hid (pRead s (s.size + 1) 0 = (acc ++ [(pRule s k1 wd).1]) ++ pRead s g (pRule s k1 wd).2) := by unfold Hid; rw [HX.out, HS.out, if_neg hemp]; simp
      obtain ⟨ru, k2, hre⟩ : ∃ a b, pRule s k1 wd = (a, b) := ⟨_, _, rfl⟩
      rw [hre] at hrc hk2 hnm HPA
      simp only at hrc hk2 hnm HPA
      have HNM := Lib.hid hnm
      clear hemp hadv hre hnm
      obtain ⟨css, hown, hcl, hli⟩ := ho
      have HCL := Lib.hid hcl; clear hcl
      obtain ⟨a0, c0, rfl⟩ := hown.form'
      have hlv : ∀ b, (Value.slice a0 css.length c0).ownBlock = some b → w.heap.size + 1 ≤ b ∧ b < wr.heap.size := fun b hb => hown.lt hb
      have HLV := Lib.hid hlv; clear hlv
      have hRl := hR.lt
      go_wp2_with (first
        | (go_at_call 37; refine hwd.mono ?_; rintro e w1 ⟨rfl, hR1, hc1⟩; clear hwd)
        | (go_at_call 38; refine (hrc _ hR1).mono ?_; rintro e w2 ⟨va, vb, rfl, hva, hvb, hR2, hc2⟩; clear hrc; obtain ⟨a2, c2, rfl, hl2, hm2⟩ := hva.form; obtain ⟨a3, c3, rfl, hl3, hm3⟩ := hvb.form; have hc12 := hc1.trans hc2)
        | (at_builtin; refine wpList_append_sl rfl _ _ _ rfl elR (base := w.heap.size + 1) (v := .slice a0 css.length c0) rfl ((hown.ch hc12 (by intro b hb hm; have := (HLV.out b hb).1; simp at hm; omega)).ch ((Ch.refl [] w2).alloc _) (by simp)) rfl (Sl.one w2 3 31 [.string wd, .slice a2 ru.head.args.length c2, .slice a3 ru.body.length c3] rfl (by simp [Value.oneCell'])) (by have := HCL.out; simp; omega) (by have := hc12.size; simp; omega) ?_; intro v4 w4 ho4 hc4 hat4 hn4; clear hn4))
      have hsz := hc12.size
      have hcA2 : Ch [w.heap.size] wr (w2.alloc (.cells #[.string wd, .slice a2 ru.head.args.length c2, .slice a3 ru.body.length c3] 31)) := hc12.alloc _
      have hlv6 : ∀ b, b ∈ (Value.slice a0 css.length c0).ownBlock.toList → w.heap.size + 1 ≤ b := by
        intro b hb
        cases hvo : (Value.slice a0 css.length c0).ownBlock with
        | none => rw [hvo] at hb; cases hb
        | some g6 => rw [hvo] at hb; simp at hb; subst hb; exact (HLV.out b hvo).1
      have key : ∀ b, wr.heap.size ≤ b → w.heap.size + 1 ≤ b ∧ (Value.slice a0 css.length c0).ownBlock ≠ some b := fun b hb => ⟨by omega, fun e => by have := (HLV.out b e).2; omega⟩
      have hz1 : wr.heap.size ≤ w1.heap.size := hc1.size
      have hliA : ∀ (i : Nat) (cs : List Value) (x : Ru), css[i]? = some cs → acc[i]? = some x → RuR (fun b => w.heap.size + 1 ≤ b ∧ (Value.slice a0 css.length c0).ownBlock ≠ some b) (w2.alloc (.cells #[.string wd, .slice a2 ru.head.args.length c2, .slice a3 ru.body.length c3] 31)) x cs :=
        fun i cs x h4 h5 => imp_ru _ _ _ _ _ _ hcA2.size (fun b hb hp => ⟨hp, hcA2.block b hb (by intro hm; have := hp.1; simp at hm; omega)⟩) (hli i cs x h4 h5)
      have hvaA := (hva.ch0 ((Ch.refl _ _).alloc (.cells #[.string wd, .slice a2 ru.head.args.length c2, .slice a3 ru.body.length c3] 31))).weak fun b _ hb => key b (by omega)
      have hvbA := (hvb.ch0 ((Ch.refl _ _).alloc (.cells #[.string wd, .slice a2 ru.head.args.length c2, .slice a3 ru.body.length c3] 31))).weak fun b _ hb => key b (by omega)
      have hoT := OwnG.add (y := ru) imp_ru HCL.out hliA ⟨_, _, by rw [HNM.out], hvaA, hvbA⟩ hc4 hat4 ho4
      have hR4 : Rdr w4 w.heap.size s k2 := (Blk.alloc hR2 _).ch hc4 (fun hm => by have := hlv6 _ hm; omega)
      have hB4 : Ch [] w w4 := (hB.step hcA2 (by simp)).step hc4 (fun x hx => .inr (by have := hlv6 _ hx; omega))
      have e2 := hR4.cell 1
      go_roundw
      case rel => exact ⟨k2, g, acc ++ [ru], hk2.2, by omega, hR4, hB4, hoT, by simp; omega, HPA⟩
      case measure =>
        rw [e1, e2]
        show s.size - ((k2 : Int)).toNat < s.size - ((k : Int)).toNat
        omega
end
end Go.Proofs.YtgljjapglgcpdaaGreatDoor
