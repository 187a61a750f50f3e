/-
  Contracts of small functions over lists of lists.
-/
import Derived.Test.YtbjdikeaolibpaaSmall
import Derived.Test.YtbjdikeaolibpaaEqs
namespace Go.Proofs.Ytbjdikeaolibpaa
open Go.RowKit
attribute [local go_sem ↓] run_eql_ed run_neq_ed run_eql_lv run_neq_lv

set_option maxHeartbeats 400000 in
theorem law09has (p) (v : Value) (xs : List Ed) (e : Ed) (w : World) (h : SlE p w v xs) :
    Calls Try.prog 52 #[v, .agg #[.string e.f, .string e.t, .bool e.n]] w fun r w' => r = .returned (.bool (hasE xs e)) ∧ Ch [] w w' := by
  obtain ⟨a, c, rfl, hlc, hm⟩ := h.form
  unfold maxLen at hm
  go_enter Try.func52, Try.ntmps52
  go_wp2
  go_loopw [5] (fun i wr => ∃ k : Nat, k ≤ xs.length ∧ i = .int .i64 k ∧ Ch [] w wr ∧ Blk wr w.heap.size 65 #[.string e.f, .string e.t, .bool e.n] ∧ Hid (hasE (xs.take k) e = false)) (fun i wr => xs.length - (intOf i).toNat)
  case atStart => exact ⟨0, Nat.zero_le _, rfl, (Ch.refl _ _).alloc _, Blk.new _ _ _, by simp [hasE, Hid]⟩
  case round =>
    obtain ⟨k, hk, rfl, hB, hbox, HN⟩ := hrel
    by_cases hlt : k < xs.length
    · obtain ⟨b, o, rfl, hp, c0, c1, c2⟩ := h.at_ hlt
      have c0 := Later.cell (cell_ch c0 hB (by simp))
      have c1 := Later.cell (cell_ch c1 hB (by simp))
      have c2 := Later.cell (cell_ch c2 hB (by simp))
      have d0 := Later.cell (hbox.cell 0)
      have d1 := Later.cell (hbox.cell 1)
      have d2 := Later.cell (hbox.cell 2)
      have HS := Lib.hid (hasE_snoc xs e k hlt)
      have hat := Lib.hid (hasE_at xs e k hlt)
      go_wp2
      refine wp_region_later (by kernel_rfl) (by kernel_rfl) ?_
      repeat (go_big_quiet_step (fail))
      refine wpQuiet_nil ?_
      intro w1 hw1
      have hB1 := hB.trans hw1
      have hbox1 := hbox.ch hw1 (by simp)
      go_wp2
      · have ht : (edB xs[k].f xs[k].t xs[k].n e.f e.t e.n) = true := by assumption
        rw [edB_eq, decide_eq_true_eq] at ht
        go_ret
        exact ⟨by rw [hat.out ht]; rfl, hB1⟩
      · have ht : (edB xs[k].f xs[k].t xs[k].n e.f e.t e.n) = false := by assumption
        rw [edB_eq] at ht
        go_roundw
        case rel => exact ⟨k + 1, by omega, by go_num, hB1, hbox1, by unfold Hid; rw [HS.out, HN.out, ht]; rfl⟩
        case measure => simp [intOf]; omega
    · go_wp2
      go_ret
      have : k = xs.length := by omega
      subst this
      have hn := HN.out
      rw [List.take_length] at hn
      exact ⟨by rw [hn]; rfl, hB⟩

set_option maxHeartbeats 400000 in
theorem law09place (p) (v : Value) (l : List (List ByteArray)) (s : ByteArray) (w : World) (h : SlSS p w v l) :
    Calls Try.prog 51 #[v, .string s] w fun r w' => r = .returned (.int .i64 (placeS l s)) ∧ w = w' := by
  obtain ⟨a, c, rfl, hlc, hm⟩ := h.form
  unfold maxLen at hm
  go_enter Try.func51, Try.ntmps51
  go_wp2
  go_loop [5] (fun i => ∃ k : Nat, k ≤ l.length ∧ i = .int .i64 k ∧ Hid (∀ i (hi : i < l.length), i < k → hasS l[i] s = false)) (fun i => l.length - (intOf i).toNat)
  case atStart => exact ⟨0, Nat.zero_le _, rfl, by intro i _ h; omega⟩
  case round =>
    obtain ⟨k, hk, rfl, HN⟩ := hrel
    by_cases hlt : k < l.length
    · obtain ⟨b, o, a', c', rfl, hp, c0, hrow⟩ := h.at_ hlt
      have hat := Lib.hid (placeS_at l s k hlt (fun i hi => HN.out i (by omega) hi))
      go_wp2_with (go_at_call 33; refine (ref09Has _ _ _ _ _ hrow).mono ?_; rintro e w' ⟨rfl, rfl⟩)
      · have ht : hasS l[k] s = true := by assumption
        go_ret
        exact ⟨by rw [hat.out ht]; rfl, rfl⟩
      · have ht : hasS l[k] s = false := by assumption
        go_round
        case rel => exact ⟨k + 1, by omega, by go_num, fun i hi hik => by rcases Nat.lt_succ_iff_lt_or_eq.1 hik with h1 | h1; exact HN.out i hi h1; subst h1; exact ht⟩
        case measure => simp [intOf]; omega
    · have hx := Lib.hid (placeS_none l s (fun i hi => HN.out i hi (by omega)))
      go_wp2
      go_ret
      exact ⟨by rw [hx.out]; rfl, rfl⟩

set_option maxHeartbeats 400000 in
theorem law09count (p) (v : Value) (l : List (List ByteArray)) (s : ByteArray) (w : World) (h : SlSS p w v l) (hbig : ∀ k, countS (l.take k) s ≤ 1000000000) (hrow : ∀ r ∈ l, r.length ≤ 1000000000) :
    Calls Try.prog 50 #[v, .string s] w fun r w' => r = .returned (.int .i64 (countS l s)) ∧ w = w' := by
  obtain ⟨a, c, rfl, hlc, hm⟩ := h.form
  unfold maxLen at hm
  have HB := Lib.hid hbig; clear hbig
  have HR := Lib.hid hrow; clear hrow
  go_enter Try.func50, Try.ntmps50
  go_wp2
  go_loop [5, 6] (fun n i => ∃ k : Nat, k ≤ l.length ∧ i = .int .i64 k ∧ n = .int .i64 (countS (l.take k) s)) (fun _ i => l.length - (intOf i).toNat)
  case atStart => exact ⟨0, Nat.zero_le _, rfl, rfl⟩
  case round =>
    obtain ⟨k, hk, rfl, rfl⟩ := hrel
    by_cases hlt : k < l.length
    · obtain ⟨b, o, a', c', rfl, hp, c0, hrow⟩ := h.at_ hlt
      have hr := HR.out l[k] (List.getElem_mem hlt)
      have hb := HB.out k
      have HS := Lib.hid (countS_snoc l s k hlt)
      generalize countS (l.take k) s = n0 at *
      go_wp2
      go_loop [5, 7] (fun n j => ∃ m : Nat, m ≤ l[k].length ∧ j = .int .i64 m ∧ n = .int .i64 (cntRow s n0 (l[k].take m))) (fun _ i => l[k].length - (intOf i).toNat)
      case atStart => exact ⟨0, Nat.zero_le _, rfl, rfl⟩
      case round =>
        obtain ⟨m, hm, rfl, rfl⟩ := hrel
        by_cases hlt2 : m < l[k].length
        · obtain ⟨b2, o2, rfl, hp2, d0⟩ := hrow.at_ hlt2
          have hle := cntRow_le s (l[k].take m) n0
          rw [List.length_take] at hle
          have HS2 := Lib.hid (cntRow_snoc s n0 l[k] m hlt2)
          generalize cntRow s n0 (l[k].take m) = n1 at *
          go_wp2
          all_goals
            go_round
            case rel => exact ⟨m + 1, by omega, by go_num, by rw [HS2.out]; simp only [beqS] at *; simp_all⟩
            case measure => simp [intOf]; omega
        · have : m = l[k].length := by omega
          subst this
          rw [List.take_length]
          go_wp2
          go_round
          case rel => exact ⟨k + 1, by omega, by go_num, by rw [HS.out]⟩
          case measure => simp [intOf]; omega
    · have : k = l.length := by omega
      subst this
      rw [List.take_length]
      go_wp2
      go_ret
      exact ⟨rfl, rfl⟩
end Go.Proofs.Ytbjdikeaolibpaa
