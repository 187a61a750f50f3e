/-
  The contract of the reference's Order.
-/
import Derived.Test.YtbjdikeaolibpaaStrOrd
namespace Go.Proofs.Ytbjdikeaolibpaa
open Go.RowKit

/-- rows that are listed -/
def OutI (w : World) (base : Nat) (v : Value) (out : List (List Int)) (us : List Value) : Prop :=
  us.length = out.length ∧ Own w base 73 1 v (us.map fun u => [u]) ∧ ∀ (i : Nat) (u : Value) (x : List Int), us[i]? = some u → out[i]? = some x → SlI (fun b => base ≤ b ∧ v.ownBlock ≠ some b) w u x
section
variable {w w' : World} {base : Nat} {v v' gv : Value} {out : List (List Int)} {us : List Value} {g : List Int}
theorem OutI.ch0 (h : OutI w base v out us) (hc : Ch [] w w') : OutI w' base v out us := by
  obtain ⟨h1, h2, h3⟩ := h
  exact ⟨h1, h2.ch0_ hc, fun i u x hu hx => (h3 i u x hu hx).ch0 hc⟩
theorem OutI.slii (h : OutI w base v out us) : SlII (fun b => base ≤ b) w v out :=
  ⟨us, h.1, h.2.1.sl.weak (fun _b _ hb => hb.1), fun i u x hu hx => (h.2.2 i u x hu hx).weak (fun _b _ hb => hb.1)⟩
theorem OutI.add (h : OutI w base v out us) (hg : SlI (fun b => base ≤ b ∧ v.ownBlock ≠ some b) w gv g) (hc : Ch v.ownBlock.toList w w')
    (hat : v'.ownBlock = v.ownBlock ∨ v'.ownBlock = some w.heap.size) (ho : Own w' base 73 1 v' ((us.map fun u => [u]) ++ [[gv]])) : OutI w' base v' (out ++ [g]) (us ++ [gv]) := by
  have key : ∀ (u : Value) (x : List Int), SlI (fun b => base ≤ b ∧ v.ownBlock ≠ some b) w u x → SlI (fun b => base ≤ b ∧ v'.ownBlock ≠ some b) w' u x := by
    intro u x hs
    refine Sl.imp hs hc.size fun b hb hp => ⟨⟨hp.1, fun e => ?_⟩, hc.block b hb (fun hm => ?_)⟩
    · rcases hat with h1 | h1
      · exact hp.2 (h1 ▸ e)
      · rw [h1] at e; injection e with e; omega
    · cases hv : v.ownBlock with
      | none => rw [hv] at hm; cases hm
      | some g' => rw [hv] at hm; simp at hm; subst hm; exact hp.2 hv
  refine ⟨by simp [h.1], by simpa using ho, fun i u x hu hx => ?_⟩
  rcases Nat.lt_or_ge i us.length with hi | hi
  · rw [List.getElem?_append_left hi] at hu
    rw [List.getElem?_append_left (by rw [← h.1]; exact hi)] at hx
    exact key _ _ (h.2.2 i u x hu hx)
  · rw [List.getElem?_append_right hi] at hu
    rw [List.getElem?_append_right (by rw [← h.1]; exact hi)] at hx
    rw [h.1] at hu
    cases hd : i - out.length with
    | zero =>
      rw [hd] at hu hx
      simp at hu hx
      subst hu hx
      exact key _ _ hg
    | succ m => rw [hd] at hu; simp at hu
end
theorem orderOf_take (lv : List Lv) (l : List Ru) (k : Nat) (h : k < (topOf lv + 1).toNat) : (orderOf lv l).take (k + 1) = (orderOf lv l).take k ++ [rowOf lv l k] := by
  have hk : k < (orderOf lv l).length := by rw [orderOf_len]; exact h
  rw [take_snoc _ k hk]
  congr 2
  have := orderOf_get lv l k
  rw [List.getElem?_eq_getElem hk, if_pos h] at this
  injection this

set_option maxRecDepth 100000 in
set_option maxHeartbeats 4000000 in
theorem ref10Order (p) (v : Value) (l : List Ru) (w : World) (h : SlR p w v l) (hf : Fit l) :
    Calls Try.prog 25 #[v] w fun r w' => ∃ v' n o, r = .returned (.tuple #[v', .int .i64 n]) ∧ LvAns (edgesOf l) (relsOf l) o ∧ OrdRes w.heap.size w' l v' n o ∧ Ch [] w w' := by
  have hL := ref10Levels p v l w h hf
  have hn1 := relsOf_len hf
  have HF := Lib.hid hf.1
  have HE := Lib.hid (ends_of l)
  generalize relsOf l = N at *
  generalize edgesOf l = es at *
  obtain ⟨a, c, rfl, hlc, hm⟩ := h.form
  unfold maxLen at hm
  go_enter Try.func25, Try.ntmps25
  go_wp2_with (go_at_call 20; refine hL.mono ?_; clear hL; rintro e w1 ⟨v1, n1, o, rfl, ho, hr, hc1⟩; rcases o with _ | lv; all_goals (obtain ⟨hr, rfl⟩ := hr); all_goals (try (obtain ⟨a1, c1, rfl, hl1, hm1⟩ := SlL.form hr)))
  · go_ret2
    exact ⟨_, _, none, rfl, ho, ⟨rfl, rfl⟩, hc1⟩
  · have hs1 := hc1.size
    unfold maxLen at hm1
    obtain ⟨ht1, ht2, ht3, ht4⟩ := ho.top HE.out
    have HT2 := Lib.hid (topOf_take_le lv N.length ht2)
    have HT5 := Lib.hid ht2
    have hlN : lv.length ≤ 101000 := by omega
    have HO := Lib.hid ho
    have ht0 := (topOf_ge lv (-1)).1
    clear ht2 ht3 ht4 ho
    go_loop [6, 7] (fun m i => ∃ k : Nat, k ≤ lv.length ∧ i = .int .i64 k ∧ m = .int .i64 (topOf (lv.take k))) (fun _ i => lv.length - (intOf i).toNat)
    case atStart => exact ⟨0, Nat.zero_le _, rfl, rfl⟩
    case round =>
      obtain ⟨k, hk, rfl, rfl⟩ := hrel
      by_cases hlt : k < lv.length
      · obtain ⟨b, o, rfl, hp, c0, c1'⟩ := hr.at_ hlt
        have HS := Lib.hid (topOf_snoc lv k hlt)
        have htk := HT2.out k
        have hxk := HT5.out _ (List.getElem_mem hlt)
        generalize topOf (lv.take k) = m0 at *
        generalize lv[k] = x at *
        go_wp2
        go_round
        case rel => exact ⟨k + 1, by omega, by go_num, by rw [HS.out]⟩
        case measure => simp [intOf]; omega
      · have : k = lv.length := by omega
        subst this
        rw [List.take_length]
        obtain ⟨T, hT⟩ : ∃ T : Nat, T = (topOf lv + 1).toNat := ⟨_, rfl⟩
        have ht0' : -1 ≤ topOf lv := ht0
        have HOT := Lib.hid (fun k (h : k < T) => orderOf_take lv l k (by rw [← hT]; exact h))
        have HOL : Hid ((orderOf lv l).length = T) := by unfold Hid; rw [orderOf_len, hT]
        have HRL := Lib.hid (rowOf_len lv l)
        have hTT : topOf lv = (T : Int) - 1 := by omega
        have hT2 : T ≤ 101000 := by omega
        clear hT ht0' ht0
        rw [hTT]
        clear hTT
        go_wp2
        go_loopw [8, 9] (fun ov nv wr => ∃ (k : Nat) (us : List Value), k ≤ T ∧ nv = .int .i64 k ∧ Ch [] w1 wr ∧ Hid (OutI wr w1.heap.size ov ((orderOf lv l).take k) us)) (fun _ nv _ => T - (intOf nv).toNat)
        case atStart => exact ⟨0, [], Nat.zero_le _, rfl, Ch.refl _ _, ⟨rfl, Own.nil _ _ _ _, by simp⟩⟩
        case round =>
          obtain ⟨n, us, hn, rfl, hB, HU⟩ := hrel
          by_cases hlt : n < T
          · have hd : decide ((n : Int) ≤ (T : Int) - 1) = true := by simp; omega
            go_wp2
            obtain ⟨wo, hwo⟩ : ∃ wo : World, wo = wr := ⟨_, rfl⟩
            have HU0 : Hid (OutI wo w1.heap.size u8 ((orderOf lv l).take n) us) := by rw [hwo]; exact HU
            have hB0 : Ch [] w1 wo := by rw [hwo]; exact hB
            have hBB : Ch [] wo wr := by rw [hwo]; exact Ch.refl _ _
            have hown0 : Own wr wo.heap.size 3 1 (.slice none 0 0) ((rowOf lv (l.take 0) n).map encI) := by rw [List.take_zero]; exact Own.nil _ _ _ _
            clear hwo HU hB
            go_loopw [10, 11] (fun rv i wq => ∃ m : Nat, m ≤ l.length ∧ i = .int .i64 m ∧ Ch [] wo wq ∧ Own wq wo.heap.size 3 1 rv ((rowOf lv (l.take m) n).map encI)) (fun _ i _ => l.length - (intOf i).toNat)
            case atStart => exact ⟨0, Nat.zero_le _, rfl, hBB, hown0⟩
            case round =>
              obtain ⟨m, hm2, rfl, hB2, hrow⟩ := hrel
              by_cases hltm : m < l.length
              · obtain ⟨b, o, a', c', a'', c'', rfl, hp, c0, c1', c2, hx1, hx2⟩ := h.at_ hltm
                clear hx1 hx2 c1' c2
                have c0 := cell_ch c0 (hc1.trans (hB0.trans hB2)) (by simp)
                have HSN := Lib.hid (rowOf_snoc lv l n m hltm)
                have hrl := rowOf_len lv (l.take m) n
                rw [List.length_take] at hrl
                have hcall := ref10Of _ _ lv l[m].head.name wr (hr.ch0 (hB0.trans hB2))
                generalize l[m].head.name = nm at *
                generalize rowOf lv (l.take m) n = r0 at *
                have hlr : (r0.map encI).length = r0.length := by simp
                by_cases hq : ofL lv nm = n
                · have HR : Hid (rowOf lv (l.take (m + 1)) n = r0 ++ [(m : Int)]) := by unfold Hid; rw [HSN.out, if_pos hq]
                  rw [hq] at hcall
                  clear hq HSN
                  go_wp2_with (first
                    | (go_at_call 23; refine hcall.mono ?_; clear hcall; rintro e w3 ⟨rfl, rfl⟩)
                    | (at_builtin; refine wpList_append_sl rfl _ _ _ rfl elI (base := wo.heap.size) (v := u10) (css := r0.map encI) rfl (hrow.ch0_ ((Ch.refl [] wr).alloc _)) rfl (Sl.one wr 1 _ [.int .i64 (m : Int)] rfl (by simp [Value.oneCell'])) (by have := HF.out; rw [hlr]; simp; omega) (by have := hB2.size; simp; omega) ?_; intro v5 w5 ho5 hc5 hat5 hn5; clear hn5))
                  go_roundw
                  case rel =>
                    refine ⟨m + 1, by omega, by go_num, (hB2.alloc _).step hc5 (fun y hy => .inr ?_), by rw [HR.out, List.map_append]; exact ho5⟩
                    cases hub : u10.ownBlock with
                    | none => rw [hub] at hy; cases hy
                    | some g => rw [hub] at hy; simp at hy; subst hy; exact (hrow.lt hub).1
                  case measure => simp [intOf]; omega
                · have HR : Hid (rowOf lv (l.take (m + 1)) n = r0) := by unfold Hid; rw [HSN.out, if_neg hq]
                  have hd2 : (ofL lv nm == (n : Int)) = false := by simpa using hq
                  clear hq HSN
                  go_wp2_with (go_at_call 23; refine hcall.mono ?_; clear hcall; rintro e w3 ⟨rfl, rfl⟩)
                  go_roundw
                  case rel => exact ⟨m + 1, by omega, by go_num, hB2, by rw [HR.out]; exact hrow⟩
                  case measure => simp [intOf]; omega
              · have : m = l.length := by omega
                subst this
                rw [List.take_length] at hrow
                obtain ⟨a10, c10, rfl⟩ := hrow.form'
                have hU2 := HU0.out.ch0 hB2
                have hul : us.length = n := by rw [hU2.1, List.length_take, HOL.out]; omega
                have hrsl : SlI (fun b => wo.heap.size ≤ b ∧ (Value.slice a10 ((rowOf lv l n).map encI).length c10).ownBlock = some b) wr (Value.slice a10 ((rowOf lv l n).map encI).length c10) (rowOf lv l n) := hrow.sl
                have hob : ∀ b, u8.ownBlock = some b → b < wo.heap.size := fun b hb => (HU0.out.2.1.lt hb).2
                have hrs2 := hrsl.weak (q := fun b => w1.heap.size ≤ b ∧ u8.ownBlock ≠ some b) (fun b _ hb => ⟨by have := hB0.size; omega, fun e => by have := hob b e; omega⟩)
                have HU2 := Lib.hid hU2
                have HRS := Lib.hid hrs2
                have hown8 := hU2.2.1
                have ho8 := HOT.out n hlt
                have HO8 := Lib.hid ho8
                clear hrsl hrs2 hU2 ho8
                rw [List.length_map] at *
                go_wp2_with (at_builtin; refine wpList_append_sl rfl _ _ _ rfl elII (base := w1.heap.size) (v := u8) (css := us.map fun u => [u]) rfl (hown8.ch0_ ((Ch.refl [] wr).alloc _)) rfl (Sl.one wr 1 _ [.slice a10 (rowOf lv l n).length c10] rfl (by simp [Value.oneCell'])) (by rw [List.length_map, hul]; simp; omega) (by have := hB2.size; have := hB0.size; simp; omega) ?_; intro v5 w5 ho5 hc5 hat5 hn5; clear hn5)
                go_roundw
                case rel =>
                  refine ⟨n + 1, us ++ [_], by omega, by go_num, ((hB0.trans hB2).alloc _).step hc5 (fun y hy => .inr ?_), by unfold Hid; rw [HO8.out]; exact (HU2.out.ch0 ((Ch.refl [] wr).alloc _)).add (HRS.out.ch0 ((Ch.refl [] wr).alloc _)) hc5 hat5 ho5⟩
                  cases hub : u8.ownBlock with
                  | none => rw [hub] at hy; cases hy
                  | some g => rw [hub] at hy; simp at hy; subst hy; exact (HU0.out.2.1.lt hub).1
                case measure => simp [intOf]; omega
          · have : n = T := by omega
            subst this
            have hd : decide ((n : Int) ≤ (n : Int) - 1) = false := by simp; omega
            go_wp2
            go_ret2
            have hall := HU.out.slii
            rw [List.take_of_length_le (by rw [HOL.out]; exact Nat.le_refl _)] at hall
            have hfin : SlII (fun b => w.heap.size ≤ b) wr u8 (orderOf lv l) := hall.weak_ (fun b hb => by omega)
            exact ⟨_, _, some lv, rfl, HO.out, ⟨hfin, rfl⟩, hc1.trans hB⟩
end Go.Proofs.Ytbjdikeaolibpaa
