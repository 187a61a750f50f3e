
/-
  law11.CheckParts: for every description that can be read.
-/
import Derived.Test.YtbongbknciibiaaGreatDoorChFew
namespace Go.Proofs.YtbongbknciibiaaGreatDoor
open Go.RowKit

/-- rules whose elements stand for themselves -/
def RowQ (w : World) (css : List (List Value)) (l : List Ru) : Prop := css.length = l.length ∧ ∀ (i : Nat) (cs : List Value) (x : Ru), css[i]? = some cs → l[i]? = some x → RuR (fun _ => True) w x cs
theorem RowQ.ch0 {w w' : World} {css : List (List Value)} {l : List Ru} (h : RowQ w css l) (hc : Ch [] w w') : RowQ w' css l :=
  ⟨h.1, fun i cs x h1 h2 => RuR.imp hc.size (fun b hb hp => ⟨hp, hc.block b hb (by simp)⟩) (h.2 i cs x h1 h2)⟩
theorem SlR.rowq {p : Nat → Prop} {w : World} {v : Value} {l : List Ru} (h : SlR p w v l) : ∃ css, Sl p w 3 v css ∧ RowQ w css l := by
  obtain ⟨css, h1, h2, h3⟩ := h
  exact ⟨css, h1, h2, fun i cs x h4 h5 => RuR.imp (Nat.le_refl _) (fun b _ _ => ⟨trivial, rfl⟩) (h3 i cs x h4 h5)⟩
theorem RowQ.app {w : World} {c1 c2 : List (List Value)} {l m : List Ru} (h1 : RowQ w c1 l) (h2 : RowQ w c2 m) : RowQ w (c1 ++ c2) (l ++ m) := by
  refine ⟨by simp [h1.1, h2.1], fun i cs x h3 h4 => ?_⟩
  have hl := h1.1
  rcases Nat.lt_or_ge i c1.length with hi | hi
  · rw [List.getElem?_append_left hi] at h3
    rw [List.getElem?_append_left (by omega)] at h4
    exact h1.2 i cs x h3 h4
  · rw [List.getElem?_append_right hi] at h3
    rw [List.getElem?_append_right (by omega), ← hl] at h4
    exact h2.2 _ cs x h3 h4
theorem RowQ.sl {w : World} {base : Nat} {e : TypeId} {v : Value} {css : List (List Value)} {l : List Ru} (h : RowQ w css l) (ho : Own w base e 3 v css) : SlR (fun _ => True) w v l :=
  ⟨css, ho.sl.weak (fun _ _ _ => trivial), h.1, h.2⟩

set_option maxRecDepth 100000 in
set_option maxHeartbeats 8000000 in
theorem lawParts_ (l : List Ru) (F : Nat) (p : Nat → Prop) (v : Value) (w : World) (hK : KwAt w) (h : SlR p w v l) (hN : ∀ r ∈ l, NiceR reachBytes maxLen r) (hF : F ≤ 255) :
    Calls Tryz.prog 7 #[v, .int .u8 (F : Int)] w fun e w' => e = .returned (.bool true) ∧ Ch [] w w' := by
  have hfew : ∀ wz, Ch [] w wz → Calls Tryz.prog 15 #[v, .int .i64 (60 : Nat)] wz fun e w' => e = .returned (.bool (decide (l.length ≤ 60) && l.all fewB)) ∧ Ch [] wz w' := fun wz hz => fewRules_ p v l 60 wz (h.ch0 hz)
  have haw := fun wz (hz : Ch [] w wz) => law11awake wz (hK.ch hz)
  have HOK := Lib.hid (show (decide (l.length ≤ 60) && l.all fewB) = true → (∀ r ∈ l, RuOk reachBytes maxLen r) ∧ l.length ≤ 60 from fun hq => by
    rw [Bool.and_eq_true, decide_eq_true_eq, List.all_eq_true] at hq
    exact ⟨fun r hr => few_ok (hq.2 r hr) (hN r hr), hq.1⟩)
  clear hN
  have hru := Lib.hid (fun (hO : ∀ r ∈ l, RuOk reachBytes maxLen r) (hl : l.length ≤ 60) wz (hz : Ch [] w wz) => chRules_ p v l wz reachBytes maxLen (hK.ch hz) (h.ch0 hz) hO (by omega))
  obtain ⟨a, c, rfl, hlc, hm⟩ := h.form
  unfold maxLen at hm
  have HK := Lib.hid hK
  cases hf : (decide (l.length ≤ 60) && l.all fewB) with
  | false =>
    rw [hf] at hfew
    clear hf HOK hru
    go_enter Tryz.func7, Tryz.ntmps7
    go_wp2_with (first
      | (go_at_call 15; refine (hfew _ (Ch.refl _ _)).mono ?_; rintro e w1 ⟨rfl, hd1⟩; clear hfew)
      | (go_at_call 11; refine (haw _ hd1).mono ?_; rintro e w2 ⟨rfl, hd2⟩))
    go_ret
    exact ⟨rfl, hd1.trans hd2⟩
  | true =>
    rw [hf] at hfew
    obtain ⟨hO, hl60⟩ := HOK.out hf
    have hr1 := hru.out hO hl60
    clear hf HOK hru
    have HO := Lib.hid hO; clear hO
    by_cases hl0 : l.length = 0
    · have e0 : ((l.length : Int) == 0) = true := by rw [hl0]; rfl
      clear hr1 hl0
      go_enter Tryz.func7, Tryz.ntmps7
      go_wp2_with (first
        | (go_at_call 15; refine (hfew _ (Ch.refl _ _)).mono ?_; rintro e w1 ⟨rfl, hd1⟩; clear hfew)
        | (go_at_call 11; refine (haw _ hd1).mono ?_; rintro e w2 ⟨rfl, hd2⟩))
      all_goals
        go_ret
        exact ⟨rfl, hd1.trans hd2⟩
    · have e0 : ((l.length : Int) == 0) = false := by rw [beq_eq_false_iff_ne]; omega
      have HP := Lib.hid (fun (hz : (rulesE l).2 = 0) => rulesE_ok hz)
      have HPP := Lib.hid (fun (i : Nat) (hi : i < l.length) (hz : (rulesE l).2 = 0) => rulesE_part hi hz)
      generalize (rulesE l).1 = E0 at *
      generalize (rulesE l).2 = E at *
      by_cases hz : E = 0
      · subst hz
        obtain ⟨_, hall, _⟩ := HP.out rfl
        have HALL := Lib.hid hall; clear hall
        obtain ⟨b, o, rfl⟩ : ∃ b o, a = some ⟨b, o, none⟩ := by obtain ⟨b, o, _, _, _, _, e, _⟩ := h.at_ (i := 0) (by omega); exact ⟨b, o, e⟩
        obtain ⟨I, hI⟩ : ∃ I, I = F % l.length := ⟨_, rfl⟩
        have hIl : I < l.length := by rw [hI]; exact Nat.mod_lt _ (by omega)
        have hI1 : (F : Int) % (l.length : Int) = (I : Int) := by rw [hI]; omega
        have hI2 : (F : Int).tmod (l.length : Int) = (I : Int) := by rw [Int.tmod_eq_emod_of_nonneg (by omega)]; exact hI1
        have HI1 := Lib.hid hI1
        have HI2 := Lib.hid hI2
        clear hI hI1 hI2
        go_enter Tryz.func7, Tryz.ntmps7
        go_wp2_with (first
          | (go_at_call 15; refine (hfew _ (Ch.refl _ _)).mono ?_; rintro e w1 ⟨rfl, hd1⟩; clear hfew)
          | (go_at_call 16; refine (hr1 _ hd1).mono ?_; rintro e w2 ⟨rfl, hd2⟩; clear hr1))
        have hB2 := hd1.trans hd2
        go_loopw [7] (fun i wr => ∃ k : Nat, k ≤ l.length ∧ i = .int .i64 k ∧ Ch [] w wr) (fun i _ => l.length - (intOf i).toNat)
        case atStart => exact ⟨0, Nat.zero_le _, rfl, hB2⟩
        case round =>
          obtain ⟨k, hk, rfl, hB⟩ := hrel
          by_cases hlt : k < l.length
          · obtain ⟨bb, oo, a', c', a'', c'', e1, hp, c0, c1, c2, hT, hL⟩ := (h.ch0 hB).at_ hlt
            injection e1 with e1
            injection e1 with e1 e2
            subst e1 e2
            have hcall := chRule_ l[k] _ _ _ wr reachBytes maxLen (HK.out.ch hB) hT hL (HO.out _ (List.getElem_mem hlt))
            rw [HALL.out _ (List.getElem_mem hlt)] at hcall
            have j1 : decide (k < l.length) = true := decide_eq_true hlt
            clear hT hL
            generalize l[k] = x at *
            go_wp2_with (go_at_call 13; refine hcall.mono ?_; rintro e w3 ⟨rfl, hc3⟩; clear hcall)
            go_roundw
            case rel => exact ⟨k + 1, by omega, by go_num, hB.trans hc3⟩
            case measure => simp [intOf]; omega
          · have j1 : decide (k < l.length) = false := decide_eq_false hlt
            have hI1 := HI1.out
            have hI2 := HI2.out
            have hll : (0 : Int) < (l.length : Int) := by omega
            have hll2 : 0 < l.length := by omega
            obtain ⟨bb, oo, a', c', a'', c'', e1, hp, c0, c1, c2, hT, hL⟩ := (h.ch0 hB).at_ hIl
            injection e1 with e1
            injection e1 with e1 e2
            subst e1 e2
            clear hT hL c1 c2
            have er := role_eq l[I].head.name
            by_cases hn : l[I].head.name = bRole
            · rw [decide_eq_true hn] at er
              clear hn
              generalize l[I] = x at *
              go_wp2_with (first
                | (go_at_call 11; refine (haw _ hB).mono ?_; rintro e w4 ⟨rfl, hd4⟩))
              go_ret
              exact ⟨rfl, hB.trans hd4⟩
            · rw [decide_eq_false hn] at er
              have HRP := Lib.hid (HPP.out I hIl (by trivial) hn)
              clear hn HPP
              generalize l[I] = x at *
              go_wp2
              obtain ⟨J, hJ⟩ : ∃ J, J = I + 1 := ⟨_, rfl⟩
              have hw1 : IntKind.i64.wrap ((I : Int) + 1) = (J : Int) := by rw [hJ]; simp [IntKind.wrap, IntKind.signed, IntKind.bits]; omega
              have hp1 : (0 : Int) ≤ (J : Int) := by omega
              have hp2 : (J : Int) ≤ (l.length : Int) := by omega
              have hp3 : J ≤ c := by omega
              have hp4 : (I : Int) ≤ (c : Int) := by omega
              have hp5 : I ≤ c := by omega
              have hp6 : J ≤ l.length := by omega
              have hs1 := h.take_ (B := I) (by omega)
              have hs2 := h.sub_ (A := J) (B := l.length) (by omega) (Nat.le_refl _)
              have HJ := Lib.hid hJ
              clear h
              rw [List.take_length] at hs2
              obtain ⟨cs1, hsl1, hro1⟩ := hs1.rowq
              have hln1 : cs1.length = I := by rw [hro1.1, List.length_take]; omega
              have HLN1 := Lib.hid hln1; clear hln1 hs1
              rcases (show J < c ∨ c = J by omega) with hcc | hcc
              · have hne : ¬ c = J := by omega
                clear hJ
                rw [if_neg hne] at hs2
                simp only [Option.map_some, add_off] at hs2
                obtain ⟨cs2, hsl2, hro2⟩ := hs2.rowq
                have hln2 : cs2.length ≤ 60 := by rw [hro2.1, List.length_drop]; omega
                have HLN2 := Lib.hid hln2; clear hln2 hs2
                go_region_held3 (fun _ => True) (trivial) (first
                  | (refine step_append_sl rfl _ _ _ rfl elR (base := wr.heap.size) (v := .slice (some ⟨wr.heap.size, 0, none⟩) 0 0) (css := []) rfl ((Own.empty_ wr wr.heap.size _ _ (Nat.le_refl _)).ch ((Ch.refl [] _).drew) (by simp)) rfl (hsl1.ch0 (hB.trans (((Ch.refl [] wr).alloc (.cells #[] 31)).drew))) (by have := HLN1.out; simp; omega) (by simp <;> omega) ?_; intro v5 w5 ho5 hc5 hat5 hn5; clear hn5; have z5 : Ch [] wr w5 := (((Ch.refl [] wr).alloc (.cells #[] 31)).drew).step hc5 (by simp [Value.ownBlock]))
                  | (refine step_append_sl rfl _ _ _ rfl elR (base := wr.heap.size) (v := v5) (css := [] ++ cs1) rfl ho5 rfl (hsl2.ch0 (hB.trans z5)) (by have := HLN1.out; have := HLN2.out; simp; omega) (by have := z5.size; omega) ?_; intro v6 w6 ho6 hc6 hat6 hn6; clear hn6; have z6 : Ch [] wr w6 := z5.step hc6 (by intro zz hz; right; cases hvo : v5.ownBlock with | none => rw [hvo] at hz; cases hz | some g6 => rw [hvo] at hz; simp at hz; subst hz; exact (ho5.lt hvo).1)))
                all_goals
                  have hB6 := hB.trans z6
                  have hJ := HJ.out
                  have hrest : SlR (fun _ => True) w6 v6 (l.take I ++ l.drop J) := RowQ.sl ((hro1.ch0 hB6).app (hro2.ch0 hB6)) (by simpa using ho6)
                  have hru := chRules_ _ v6 _ w6 reachBytes maxLen (HK.out.ch hB6) hrest (fun r hr => HO.out r (by
                    rcases List.mem_append.1 hr with h1 | h1
                    · exact List.mem_of_mem_take h1
                    · exact List.mem_of_mem_drop h1)) (by rw [List.length_append, List.length_take, List.length_drop]; omega)
                  have hrp := HRP.out
                  rw [← hJ] at hrp
                  rw [hrp] at hru
                  clear hrest ho6 ho5 hc5 hc6 hat5 hat6 hw1 hp1 hp2 hp3 hp4 hp5 hp6 hsl1 hsl2 hro1 hro2
                  go_wp2_with (first
                    | (go_at_call 16; refine hru.mono ?_; rintro e w7 ⟨rfl, hc7⟩; clear hru)
                    | (go_at_call 11; refine (haw _ (hB6.trans hc7)).mono ?_; rintro e w8 ⟨rfl, hc8⟩))
                  go_ret
                  exact ⟨rfl, (hB6.trans hc7).trans hc8⟩
              · clear hJ
                subst hcc
                rw [if_pos rfl, Nat.sub_self] at hs2
                obtain ⟨cs2, hsl2, hro2⟩ := hs2.rowq
                have hsl2' := hsl2
                rw [show l.length - c = 0 by omega] at hsl2'
                have hln2 : cs2.length ≤ 60 := by rw [hro2.1, List.length_drop]; omega
                have HLN2 := Lib.hid hln2; clear hln2 hs2
                go_region_held3 (fun _ => True) (trivial) (first
                  | (refine step_append_sl rfl _ _ _ rfl elR (base := wr.heap.size) (v := .slice (some ⟨wr.heap.size, 0, none⟩) 0 0) (css := []) rfl ((Own.empty_ wr wr.heap.size _ _ (Nat.le_refl _)).ch ((Ch.refl [] _).drew) (by simp)) rfl (hsl1.ch0 (hB.trans (((Ch.refl [] wr).alloc (.cells #[] 31)).drew))) (by have := HLN1.out; simp; omega) (by simp <;> omega) ?_; intro v5 w5 ho5 hc5 hat5 hn5; clear hn5; have z5 : Ch [] wr w5 := (((Ch.refl [] wr).alloc (.cells #[] 31)).drew).step hc5 (by simp [Value.ownBlock]))
                  | (refine step_append_sl rfl _ _ _ rfl elR (base := wr.heap.size) (v := v5) (css := [] ++ cs1) rfl ho5 rfl (hsl2.ch0 (hB.trans z5)) (by have := HLN1.out; have := HLN2.out; simp; omega) (by have := z5.size; omega) ?_; intro v6 w6 ho6 hc6 hat6 hn6; clear hn6; have z6 : Ch [] wr w6 := z5.step hc6 (by intro zz hz; right; cases hvo : v5.ownBlock with | none => rw [hvo] at hz; cases hz | some g6 => rw [hvo] at hz; simp at hz; subst hz; exact (ho5.lt hvo).1))
                  | (refine step_append_sl rfl _ _ _ rfl elR (base := wr.heap.size) (v := v5) (css := [] ++ cs1) rfl ho5 rfl (hsl2'.ch0 (hB.trans z5)) (by have := HLN1.out; have := HLN2.out; simp; omega) (by have := z5.size; omega) ?_; intro v6 w6 ho6 hc6 hat6 hn6; clear hn6; have z6 : Ch [] wr w6 := z5.step hc6 (by intro zz hz; right; cases hvo : v5.ownBlock with | none => rw [hvo] at hz; cases hz | some g6 => rw [hvo] at hz; simp at hz; subst hz; exact (ho5.lt hvo).1)))
                all_goals
                  have hB6 := hB.trans z6
                  have hJ := HJ.out
                  have hrest : SlR (fun _ => True) w6 v6 (l.take I ++ l.drop c) := RowQ.sl ((hro1.ch0 hB6).app (hro2.ch0 hB6)) (by simpa using ho6)
                  have hru := chRules_ _ v6 _ w6 reachBytes maxLen (HK.out.ch hB6) hrest (fun r hr => HO.out r (by
                    rcases List.mem_append.1 hr with h1 | h1
                    · exact List.mem_of_mem_take h1
                    · exact List.mem_of_mem_drop h1)) (by rw [List.length_append, List.length_take, List.length_drop]; omega)
                  have hrp := HRP.out
                  rw [← hJ] at hrp
                  rw [hrp] at hru
                  clear hrest ho6 ho5 hc5 hc6 hat5 hat6 hw1 hp1 hp2 hp3 hp4 hp5 hp6 hsl1 hsl2 hro1 hro2
                  go_wp2_with (first
                    | (go_at_call 16; refine hru.mono ?_; rintro e w7 ⟨rfl, hc7⟩; clear hru)
                    | (go_at_call 11; refine (haw _ (hB6.trans hc7)).mono ?_; rintro e w8 ⟨rfl, hc8⟩))
                  go_ret
                  exact ⟨rfl, (hB6.trans hc7).trans hc8⟩
      · have e1 : (E != 0) = true := by simpa using hz
        clear hz HP HPP
        go_enter Tryz.func7, Tryz.ntmps7
        go_wp2_with (first
          | (go_at_call 15; refine (hfew _ (Ch.refl _ _)).mono ?_; rintro e w1 ⟨rfl, hd1⟩; clear hfew)
          | (go_at_call 16; refine (hr1 _ hd1).mono ?_; rintro e w2 ⟨rfl, hd2⟩; clear hr1)
          | (go_at_call 11; refine (haw _ (hd1.trans hd2)).mono ?_; rintro e w3 ⟨rfl, hd3⟩))
        go_ret
        exact ⟨rfl, (hd1.trans hd2).trans hd3⟩
theorem lawParts2_ (l : List Ru) (f : Int) (p : Nat → Prop) (v : Value) (w : World) (hK : KwAt w) (h : SlR p w v l) (hN : ∀ r ∈ l, NiceR reachBytes maxLen r) (hf : (Lit.int .u8 f).wf = true) :
    Calls Tryz.prog 7 #[v, .int .u8 f] w fun e w' => e = .returned (.bool true) ∧ Ch [] w w' := by
  have h1 := bounds_u8 hf
  obtain ⟨F, rfl⟩ : ∃ F : Nat, f = F := ⟨f.toNat, by omega⟩
  exact lawParts_ l F p v w hK h hN (by omega)
end Go.Proofs.YtbongbknciibiaaGreatDoor
