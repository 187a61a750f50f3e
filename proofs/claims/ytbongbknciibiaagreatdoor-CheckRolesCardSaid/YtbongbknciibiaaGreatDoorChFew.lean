
/-
  The contracts of law11's few, fewRules; a rule as an argument, opened; law11.CheckRule.
-/
import Derived.Test.YtbongbknciibiaaGreatDoorChRef3
import Derived.Test.YtbongbknciibiaaGreatDoorOpenR
namespace Go.Proofs.YtbongbknciibiaaGreatDoor
open Go.ChangeShapes Go.WideShapes Go.ChangeAt Go.RowKit

def smB (t : Tm) : Bool := decide (pParts 60 t 60 ≤ 60)
def fewB (r : Ru) : Bool := decide (r.body.length ≤ 12) && (smB r.head && r.body.all (fun x => smB x.atom))
theorem smB_sz {t : Tm} (h : smB t = true) : t.sz ≤ 60 := by
  have h1 : pParts 60 t 60 ≤ 60 := by simpa [smB] using h
  have := (pParts_small 60 t 60 h1).1
  omega
theorem few_ok {r : Ru} (h : fewB r = true) (hN : NiceR reachBytes maxLen r) : RuOk reachBytes maxLen r := by
  simp only [fewB, Bool.and_eq_true, decide_eq_true_eq, List.all_eq_true] at h
  obtain ⟨h1, h2, h3⟩ := h
  refine ⟨fun t ht => ?_, fun t ht => ?_, by omega, by decide⟩
  · simp only [atomsOf, List.mem_cons, List.mem_map] at ht
    rcases ht with rfl | ⟨x, hx, rfl⟩
    · exact hN.1
    · exact hN.2 x hx
  · simp only [atomsOf, List.mem_cons, List.mem_map] at ht
    rcases ht with rfl | ⟨x, hx, rfl⟩
    · have := smB_sz h2; omega
    · have := smB_sz (h3 x hx); omega

set_option maxRecDepth 100000 in
set_option maxHeartbeats 4000000 in
theorem few_ (r : Ru) (p : Nat → Prop) (vh vb : Value) (w : World) (hh : SlT p w vh r.head.args) (hb : SlLi p w vb r.body) :
    Calls Tryz.prog 12 #[.agg #[.string r.head.name, vh, vb]] w fun e w' => e = .returned (.bool (fewB r)) ∧ Ch [] w w' := by
  have HF := Lib.hid (show fewB r = (decide (r.body.length ≤ 12) && (smB r.head && r.body.all (fun x => smB x.atom))) from rfl)
  generalize fewB r = R at *
  obtain ⟨hd, body⟩ := r
  simp only at hh hb HF ⊢
  have hsh : ∀ wz, Ch [] w wz → Calls Tryz.prog 28 #[.agg #[.string hd.name, vh], .int .i64 (60 : Nat)] wz fun e w' => e = .returned (.bool (smB hd)) ∧ Ch [] wz w' := fun wz (hz : Ch [] w wz) => small_ hd p vh wz 60 (hh.ch0 hz) (by omega)
  obtain ⟨ah, ch, rfl, _, _⟩ := hh.form
  obtain ⟨a, c, rfl, hlc, hmx⟩ := hb.form
  unfold maxLen at hmx
  generalize hd.args.length = hL at *
  have hbx := Blk.new w 31 #[.string hd.name, .slice ah hL ch, .slice a body.length c]
  have hcA : Ch [] w (w.alloc (.cells #[.string hd.name, .slice ah hL ch, .slice a body.length c] 31)) := (Ch.refl _ _).alloc _
  generalize hwA : (w.alloc (.cells #[.string hd.name, .slice ah hL ch, .slice a body.length c] 31)) = wA at *
  have b0 := hbx.cell 0
  have b1 := hbx.cell 1
  have b2 := hbx.cell 2
  by_cases hbig : 12 < body.length
  · have d1 : decide ((12 : Int) < (body.length : Int)) = true := decide_eq_true (by omega)
    have HX : Hid (R = false) := by unfold Hid; rw [HF.out, decide_eq_false (by omega)]; rfl
    clear hbig
    go_enter Tryz.func12, Tryz.ntmps12
    go_wp2
    go_ret
    exact ⟨by rw [HX.out]; rfl, hcA⟩
  · have d1 : decide ((12 : Int) < (body.length : Int)) = false := decide_eq_false (by omega)
    have HF2 : Hid (R = (smB hd && body.all (fun x => smB x.atom))) := by unfold Hid; rw [HF.out, decide_eq_true (by omega)]; rfl
    clear hbig HF
    cases hs : smB hd with
    | false =>
      rw [hs] at hsh
      have HX : Hid (R = false) := by unfold Hid; rw [HF2.out, hs]; rfl
      clear hs
      go_enter Tryz.func12, Tryz.ntmps12
      go_wp2_with (go_at_call 28; refine (hsh _ hcA).mono ?_; rintro e w1 ⟨rfl, hc1⟩; clear hsh)
      go_ret
      exact ⟨by rw [HX.out]; rfl, hcA.trans hc1⟩
    | true =>
      rw [hs] at hsh
      have HF3 : Hid (R = body.all (fun x => smB x.atom)) := by unfold Hid; rw [HF2.out, hs]; rfl
      clear hs HF2
      go_enter Tryz.func12, Tryz.ntmps12
      go_wp2_with (go_at_call 28; refine (hsh _ hcA).mono ?_; rintro e w1 ⟨rfl, hc1⟩; clear hsh)
      have hC1 := hcA.trans hc1
      have hbx1 := hbx.ch hc1 (by simp)
      clear b0 b1 b2 hwA hbx
      go_loopw [3] (fun i wr => ∃ k : Nat, k ≤ body.length ∧ i = .int .i64 k ∧ Ch [] w1 wr ∧ Hid (∀ j (hj : j < body.length), j < k → smB body[j].atom = true)) (fun i _ => body.length - (intOf i).toNat)
      case atStart => exact ⟨0, Nat.zero_le _, rfl, Ch.refl _ _, fun j _ h => absurd h (Nat.not_lt_zero _)⟩
      case round =>
        obtain ⟨k, hk, rfl, hB, HN⟩ := hrel
        have hbr2 := (hbx1.ch hB (by simp)).cell 2
        by_cases hlt : k < body.length
        · obtain ⟨b', o, a', c', rfl, hp, c0, c1, c2, hT⟩ := (hb.ch0 (hC1.trans hB)).at_ hlt
          have hcall : Calls Tryz.prog 28 #[.agg #[.string body[k].atom.name, .slice a' body[k].atom.args.length c'], .int .i64 (60 : Nat)] wr fun e w' => e = .returned (.bool (smB body[k].atom)) ∧ Ch [] wr w' := small_ body[k].atom _ _ wr 60 hT (by omega)
          have j1 : decide (k < body.length) = true := decide_eq_true hlt
          have HG0 := Lib.hid (show smB body[k].atom = true → ∀ j (hj : j < body.length), j < k + 1 → smB body[j].atom = true from fun h0 j hj h1 => by
            rcases Nat.lt_succ_iff_lt_or_eq.1 h1 with h2 | h2
            · exact HN.out j hj h2
            · subst h2; exact h0)
          have HG1 := Lib.hid (show smB body[k].atom = false → R = false from fun h0 => by
            rw [HF3.out, List.all_eq_false]
            exact ⟨_, List.getElem_mem hlt, by rw [h0]; simp⟩)
          clear hT
          generalize body[k] = x at *
          obtain ⟨xn, xa⟩ := x
          simp only at hcall HG0 HG1 c0 c1 c2
          cases hs : smB xa with
          | true =>
            rw [hs] at hcall
            have HX := Lib.hid (HG0.out hs)
            clear hs HG0 HG1
            go_wp2_with (go_at_call 28; refine hcall.mono ?_; rintro e w3 ⟨rfl, hc3⟩; clear hcall)
            go_roundw
            case rel => exact ⟨k + 1, by omega, by go_num, hB.trans hc3, HX⟩
            case measure => simp [intOf]; omega
          | false =>
            rw [hs] at hcall
            have HX := Lib.hid (HG1.out hs)
            clear hs HG0 HG1
            go_wp2_with (go_at_call 28; refine hcall.mono ?_; rintro e w3 ⟨rfl, hc3⟩; clear hcall)
            go_ret
            exact ⟨by rw [HX.out]; rfl, (hC1.trans hB).trans hc3⟩
        · have HX : Hid (R = true) := by
            unfold Hid
            rw [HF3.out, List.all_eq_true]
            intro x hx
            obtain ⟨j, hj, rfl⟩ := List.getElem_of_mem hx
            exact HN.out j hj (by omega)
          have j1 : decide (k < body.length) = false := decide_eq_false hlt
          go_wp2
          go_ret
          exact ⟨by rw [HX.out]; rfl, hC1.trans hB⟩

set_option maxRecDepth 100000 in
set_option maxHeartbeats 4000000 in
theorem fewRules_ (p : Nat → Prop) (v : Value) (l : List Ru) (most : Nat) (w : World) (h : SlR p w v l) :
    Calls Tryz.prog 15 #[v, .int .i64 (most : Int)] w fun e w' => e = .returned (.bool (decide (l.length ≤ most) && l.all fewB)) ∧ Ch [] w w' := by
  have HF := Lib.hid (show (decide (l.length ≤ most) && l.all fewB) = (decide (l.length ≤ most) && l.all fewB) from rfl)
  generalize hR : (decide (l.length ≤ most) && l.all fewB) = R at *
  have HF : Hid (R = (decide (l.length ≤ most) && l.all fewB)) := hR.symm
  clear hR
  obtain ⟨a, c, rfl, hlc, hm⟩ := h.form
  unfold maxLen at hm
  by_cases hbig : most < l.length
  · have d1 : decide (most < l.length) = true := decide_eq_true hbig
    have HX : Hid (R = false) := by unfold Hid; rw [HF.out, decide_eq_false (by omega)]; rfl
    clear hbig
    go_enter Tryz.func15, Tryz.ntmps15
    go_wp2
    go_ret
    exact ⟨by rw [HX.out]; rfl, Ch.refl _ _⟩
  · have d1 : decide (most < l.length) = false := decide_eq_false hbig
    have HF3 : Hid (R = l.all fewB) := by unfold Hid; rw [HF.out, decide_eq_true (by omega)]; rfl
    clear hbig HF
    go_enter Tryz.func15, Tryz.ntmps15
    go_wp2
    go_loopw [5] (fun i wr => ∃ k : Nat, k ≤ l.length ∧ i = .int .i64 k ∧ Ch [] w wr ∧ Hid (∀ j (hj : j < l.length), j < k → fewB l[j] = true)) (fun i _ => l.length - (intOf i).toNat)
    case atStart => exact ⟨0, Nat.zero_le _, rfl, Ch.refl _ _, fun j _ h => absurd h (Nat.not_lt_zero _)⟩
    case round =>
      obtain ⟨k, hk, rfl, hB, HN⟩ := hrel
      by_cases hlt : k < l.length
      · obtain ⟨bb, o, a', c', a'', c'', rfl, hp, c0, c1, c2, hT, hL⟩ := (h.ch0 hB).at_ hlt
        have hcall := few_ l[k] _ _ _ wr hT hL
        have j1 : decide (k < l.length) = true := decide_eq_true hlt
        have HG0 := Lib.hid (show fewB l[k] = true → ∀ j (hj : j < l.length), j < k + 1 → fewB l[j] = true from fun h0 j hj h1 => by
          rcases Nat.lt_succ_iff_lt_or_eq.1 h1 with h2 | h2
          · exact HN.out j hj h2
          · subst h2; exact h0)
        have HG1 := Lib.hid (show fewB l[k] = false → R = false from fun h0 => by
          rw [HF3.out, List.all_eq_false]
          exact ⟨_, List.getElem_mem hlt, by rw [h0]; simp⟩)
        clear hT hL
        generalize l[k] = x at *
        cases hs : fewB x with
        | true =>
          rw [hs] at hcall
          have HX := Lib.hid (HG0.out hs)
          clear hs HG0 HG1
          go_wp2_with (go_at_call 12; refine hcall.mono ?_; rintro e w3 ⟨rfl, hc3⟩; clear hcall)
          go_roundw
          case rel => exact ⟨k + 1, by omega, by go_num, hB.trans hc3, HX⟩
          case measure => simp [intOf]; omega
        | false =>
          rw [hs] at hcall
          have HX := Lib.hid (HG1.out hs)
          clear hs HG0 HG1
          go_wp2_with (go_at_call 12; refine hcall.mono ?_; rintro e w3 ⟨rfl, hc3⟩; clear hcall)
          go_ret
          exact ⟨by rw [HX.out]; rfl, hB.trans hc3⟩
      · have HX : Hid (R = true) := by
          unfold Hid
          rw [HF3.out, List.all_eq_true]
          intro x hx
          obtain ⟨j, hj, rfl⟩ := List.getElem_of_mem hx
          exact HN.out j hj (by omega)
        have j1 : decide (k < l.length) = false := decide_eq_false hlt
        go_wp2
        go_ret
        exact ⟨by rw [HX.out]; rfl, hB⟩

section
variable {H : Type} {enc : TypeId × Value → H} {W : World}
set_option maxRecDepth 100000 in
theorem open_r {base : Nat} {v : Value} {d : DataW H} {ps : List MemPlace} (hval : Value.okWide Tryz.prog W .any base 31 v) (h : DataW.Trod enc Tryz.prog W 0 (fun _ => true) true 31 v d ps) (hw : WOk 31 d) :
    ∃ (r : Ru) (va vb : Value), v = .agg #[.string r.head.name, va, vb] ∧ SlT (fun _ => True) W va r.head.args ∧ SlLi (fun _ => True) W vb r.body ∧ NiceR reachBytes maxLen r := by
  obtain ⟨cs, rfl, hsz⟩ := okWide_struct Tryz.underlying31 hval
  obtain ⟨fuel, hf⟩ := h
  obtain ⟨r, ⟨va, vb, e, h1, h2⟩, h3⟩ := trod_Ru (show DataW.trod enc Tryz.prog W 0 (fun _ => true) true fuel 31 cs.toList = some (d, ps) from hf) hw
  refine ⟨r, va, vb, ?_, h1, h2, h3⟩
  obtain ⟨l⟩ := cs
  simp only at e
  rw [e]
end

set_option maxRecDepth 100000 in
set_option maxHeartbeats 8000000 in
theorem lawRule_ (r : Ru) (p : Nat → Prop) (vh vb : Value) (w : World) (hK : KwAt w) (hh : SlT p w vh r.head.args) (hb : SlLi p w vb r.body) (hN : NiceR reachBytes maxLen r) :
    Calls Tryz.prog 4 #[.agg #[.string r.head.name, vh, vb]] w fun e w' => e = .returned (.bool true) ∧ Ch [] w w' := by
  have hfew := fun wz (hz : Ch [] w wz) => few_ r p vh vb wz (hh.ch0 hz) (hb.ch0 hz)
  have HOK := Lib.hid (show fewB r = true → RuOk reachBytes maxLen r from fun h => few_ok h hN)
  clear hN
  have hc1 := Lib.hid (fun (hO : RuOk reachBytes maxLen r) wz (hz : Ch [] w wz) => chRule_ r p vh vb wz reachBytes maxLen (hK.ch hz) (hh.ch0 hz) (hb.ch0 hz) hO)
  have hc2 := Lib.hid (fun (hO : RuOk reachBytes maxLen r) wz (hz : Ch [] w wz) => refRule_ r p vh vb wz reachBytes maxLen (hh.ch0 hz) (hb.ch0 hz) hO)
  have hc3 := fun wz (hz : Ch [] w wz) => law11awake wz (hK.ch hz)
  obtain ⟨ah, ch, rfl, _, _⟩ := hh.form
  obtain ⟨a, c, rfl, hlc, hmx⟩ := hb.form
  generalize hal : r.head.args.length = al at *
  generalize hbl : r.body.length = bl at *
  clear hal hbl
  have hbx := Blk.new w 31 #[.string r.head.name, .slice ah al ch, .slice a bl c]
  have hcA : Ch [] w (w.alloc (.cells #[.string r.head.name, .slice ah al ch, .slice a bl c] 31)) := (Ch.refl _ _).alloc _
  generalize hwA : (w.alloc (.cells #[.string r.head.name, .slice ah al ch, .slice a bl c] 31)) = wA at *
  have b0 := hbx.cell 0
  have b1 := hbx.cell 1
  have b2 := hbx.cell 2
  cases hf : fewB r with
  | false =>
    rw [hf] at hfew
    go_enter Tryz.func4, Tryz.ntmps4
    go_wp2_with (first
      | (go_at_call 12; refine (hfew _ hcA).mono ?_; rintro e w1 ⟨rfl, hd1⟩; clear hfew)
      | (go_at_call 11; refine (hc3 _ (hcA.trans hd1)).mono ?_; rintro e w2 ⟨rfl, hd2⟩))
    go_ret
    exact ⟨rfl, (hcA.trans hd1).trans hd2⟩
  | true =>
    have hO := HOK.out hf
    rw [hf] at hfew
    have hr1 := hc1.out hO
    have hr2 := hc2.out hO
    clear hf HOK hc1 hc2 hO
    generalize ruleE r = E at *
    generalize r.head.name = nm at *
    go_enter Tryz.func4, Tryz.ntmps4
    go_wp2_with (first
      | (go_at_call 12; refine (hfew _ hcA).mono ?_; rintro e w1 ⟨rfl, hd1⟩; clear hfew))
    have hb1 := hbx.ch hd1 (by simp)
    have l0 := Later.cell (hb1.cell 0)
    have l1 := Later.cell (hb1.cell 1)
    have l2 := Later.cell (hb1.cell 2)
    have k1 := fun y : Later w1 => later_call (hr1 y.w ((hcA.trans hd1).trans y.ch))
    have k2 := fun y : Later w1 => later_call (hr2 y.w ((hcA.trans hd1).trans y.ch))
    have k3 := fun y : Later w1 => later_call (hc3 y.w ((hcA.trans hd1).trans y.ch))
    have e1 : (E == E) = true := by simp
    clear hr1 hr2 hc3 b0 b1 b2
    refine wp_region_later (by kernel_rfl) (lexB_of (by kernel_rfl)) ?_
    repeat (go_big_quiet_step (first | exact k1 _ | exact k2 _ | exact k3 _))
    refine wpQuiet_nil ?_
    intro w3 hw3
    go_wp2
    go_ret
    exact ⟨rfl, (hcA.trans hd1).trans hw3⟩
end Go.Proofs.YtbongbknciibiaaGreatDoor
