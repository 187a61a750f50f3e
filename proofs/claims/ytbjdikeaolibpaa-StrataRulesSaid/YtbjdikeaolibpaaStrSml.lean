/-
  Contracts of law10.place and of plain.Lists at equal lists.
-/
import Derived.Test.YtbjdikeaolibpaaSmall
import Derived.Test.YtbjdikeaolibpaaEqs
import Derived.Test.YtbjdikeaolibpaaLex
namespace Go.Proofs.Ytbjdikeaolibpaa
open Go.RowKit

set_option maxHeartbeats 400000 in
theorem intsSame (p q) (v u : Value) (xs : List Int) (w : World) (h : SlI p w v xs) (h' : SlI q w u xs) :
    Calls Try.prog 60 #[v, u] w fun e w' => e = .returned (.bool true) ∧ Ch [] w w' := by
  have := plainInts p q v u xs xs w h h'
  rwa [show eqI xs xs = true from by simp [eqI]] at this

set_option maxHeartbeats 400000 in
theorem listsSame (p q) (v u : Value) (l : List (List Int)) (w : World) (h : SlII p w v l) (h' : SlII q w u l) :
    Calls Try.prog 26 #[v, u] w fun e w' => e = .returned (.bool true) ∧ Ch [] w w' := by
  obtain ⟨a, c, rfl, hlc, hm⟩ := h.form
  obtain ⟨a', c', rfl, hlc', hm'⟩ := h'.form
  unfold maxLen at hm hm'
  go_enter Try.func26, Try.ntmps26
  go_wp2
  go_loopw [13] (fun i wr => ∃ k : Nat, k ≤ l.length ∧ i = .int .i64 k ∧ Ch [] w wr) (fun i _ => l.length - (intOf i).toNat)
  case atStart => exact ⟨0, Nat.zero_le _, rfl, Ch.refl _ _⟩
  case round =>
    obtain ⟨k, hk, rfl, hB⟩ := hrel
    by_cases hlt : k < l.length
    · have hr := h.ch0 hB
      have hr' := h'.ch0 hB
      obtain ⟨b, o, a2, c2, rfl, hp, c0, hrow⟩ := hr.at_ hlt
      obtain ⟨b', o', a2', c2', rfl, hp', d0, hrow'⟩ := hr'.at_ hlt
      have c0 := Later.cell c0
      have d0 := Later.cell d0
      have hcall := fun y : Later wr => later_call (intsSame _ _ _ _ _ y.w (hrow.ch0 y.ch) (hrow'.ch0 y.ch))
      go_wp2
      refine wp_region_later (by kernel_rfl) (lexB_of (by kernel_rfl)) ?_
      repeat (go_big_quiet_step (exact hcall _))
      refine wpQuiet_nil ?_
      intro w1 hw1
      have hB1 := hB.trans hw1
      go_wp2
      go_roundw
      case rel => exact ⟨k + 1, by omega, by go_num, hB1⟩
      case measure => simp [intOf]; omega
    · go_wp2
      go_ret
      exact ⟨rfl, hB⟩

theorem rowI_le (n i : Int) : ∀ (r : List Int) (a : Int × Nat), (rowI n i a r).2 ≤ a.2 + r.length
  | [], a => by simp [rowI]
  | x :: r, a => by
    have := rowI_le n i r (if x = n then (i, a.2 + 1) else a)
    simp only [rowI, List.foldl_cons, List.length_cons] at this ⊢
    split at this <;> split <;> simp_all <;> omega
set_option maxHeartbeats 400000 in
theorem law10place (p) (v : Value) (l : List (List Int)) (n : Int) (w : World) (h : SlII p w v l) (hbig : ∀ k, (placeI (l.take k) n).2 ≤ 1000000000) (hrow : ∀ r ∈ l, r.length ≤ 1000000000) :
    Calls Try.prog 35 #[v, .int .i64 n] w fun r w' => r = .returned (.tuple #[.int .i64 (placeI l n).1, .int .i64 (placeI l n).2]) ∧ w = w' := by
  obtain ⟨a, c, rfl, hlc, hm⟩ := h.form
  unfold maxLen at hm
  have HB := Lib.hid hbig; clear hbig
  have HR := Lib.hid hrow; clear hrow
  go_enter Try.func35, Try.ntmps35
  go_wp2
  go_loop [6, 7, 8] (fun at' many i => ∃ k : Nat, k ≤ l.length ∧ i = .int .i64 k ∧ at' = .int .i64 (placeI (l.take k) n).1 ∧ many = .int .i64 (placeI (l.take k) n).2) (fun _ _ i => l.length - (intOf i).toNat)
  case atStart => exact ⟨0, Nat.zero_le _, rfl, rfl, rfl⟩
  case round =>
    obtain ⟨k, hk, rfl, rfl, rfl⟩ := hrel
    by_cases hlt : k < l.length
    · obtain ⟨b, o, a', c', rfl, hp, c0, hrow⟩ := h.at_ hlt
      have hr := HR.out l[k] (List.getElem_mem hlt)
      have hb := HB.out k
      have HS := Lib.hid (placeI_snoc l n k hlt)
      generalize placeI (l.take k) n = n0 at *
      go_wp2
      go_loop [6, 7, 9] (fun at' many j => ∃ m : Nat, m ≤ l[k].length ∧ j = .int .i64 m ∧ at' = .int .i64 (rowI n k n0 (l[k].take m)).1 ∧ many = .int .i64 (rowI n k n0 (l[k].take m)).2) (fun _ _ j => l[k].length - (intOf j).toNat)
      case atStart => exact ⟨0, Nat.zero_le _, rfl, rfl, rfl⟩
      case round =>
        obtain ⟨m, hm, rfl, rfl, rfl⟩ := hrel
        by_cases hlt2 : m < l[k].length
        · obtain ⟨b2, o2, rfl, hp2, d0⟩ := hrow.at_ hlt2
          have hle := rowI_le n k (l[k].take m) n0
          rw [List.length_take] at hle
          have HS2 := Lib.hid (rowI_snoc n k n0 l[k] m hlt2)
          generalize rowI n k n0 (l[k].take m) = n1 at *
          by_cases he : l[k][m] = n
          · have hd : (l[k][m] == n) = true := by simpa using he
            have HE : Hid (rowI n k n0 (l[k].take (m + 1)) = ((k : Int), n1.2 + 1)) := by unfold Hid; rw [HS2.out, if_pos he]
            go_wp2
            go_round
            case rel => exact ⟨m + 1, by omega, by go_num, by rw [HE.out], by rw [HE.out]; go_num⟩
            case measure => simp [intOf]; omega
          · have hd : (l[k][m] == n) = false := by simpa using he
            have HE : Hid (rowI n k n0 (l[k].take (m + 1)) = n1) := by unfold Hid; rw [HS2.out, if_neg he]
            go_wp2
            go_round
            case rel => exact ⟨m + 1, by omega, by go_num, by rw [HE.out], by rw [HE.out]⟩
            case measure => simp [intOf]; omega
        · have : m = l[k].length := by omega
          subst this
          rw [List.take_length]
          go_wp2
          go_round
          case rel => exact ⟨k + 1, by omega, by go_num, by rw [HS.out], by rw [HS.out]⟩
          case measure => simp [intOf]; omega
    · have : k = l.length := by omega
      subst this
      rw [List.take_length]
      go_wp2
      go_ret2
      exact ⟨rfl, rfl⟩
end Go.Proofs.Ytbjdikeaolibpaa
