
/-
  Contracts of small functions: comparisons of lists, membership, look-ups in lists of levels.
-/
import Derived.Test.YtbongbknciibiaaGreatDoorFacts
namespace Go.Proofs.YtbongbknciibiaaGreatDoor
open Go.RowKit
attribute [local go_sem ↓] run_eql_ed run_neq_ed run_eql_lv run_neq_lv

set_option maxHeartbeats 400000 in
theorem ref09Has (p) (v : Value) (xs : List ByteArray) (s : ByteArray) (w : World) (h : SlS p w v xs) :
    Calls Tryz.prog 76 #[v, .string s] w fun e w' => e = .returned (.bool (hasS xs s)) ∧ w = w' := by
  obtain ⟨a, c, rfl, hlc, hm⟩ := h.form
  unfold maxLen at hm
  go_enter Tryz.func76, Tryz.ntmps76
  go_wp2
  go_loop [5] (fun i => ∃ k : Nat, k ≤ xs.length ∧ i = .int .i64 k ∧ hasS (xs.take k) s = false) (fun i => xs.length - (intOf i).toNat)
  case atStart => exact ⟨0, Nat.zero_le _, rfl, by simp [hasS]⟩
  case round =>
    obtain ⟨k, hk, rfl, hn⟩ := hrel
    have HN := Lib.hid hn; clear hn
    by_cases hlt : k < xs.length
    · obtain ⟨b, o, rfl, hp, c0⟩ := h.at_ hlt
      have hs := hasS_snoc xs s k hlt
      have HS := Lib.hid hs; clear hs
      have hat := Lib.hid (hasS_at xs s k hlt)
      go_wp2
      · have ht : (xs[k].toList == s.toList) = true := by assumption
        rw [beqS, decide_eq_true_eq] at ht
        go_ret
        exact ⟨by rw [hat.out ht]; rfl, rfl⟩
      · have ht : (xs[k].toList == s.toList) = false := by assumption
        rw [beqS] at ht
        go_round
        case rel => exact ⟨k + 1, by omega, by go_num, by rw [HS.out, HN.out, ht]; rfl⟩
        case measure => simp [intOf]; omega
    · go_wp2
      go_ret
      have : k = xs.length := by omega
      subst this
      have hn := HN.out
      rw [List.take_length] at hn
      exact ⟨by rw [hn]; rfl, rfl⟩

set_option maxHeartbeats 400000 in
theorem ref10Of (p) (v : Value) (xs : List Lv) (s : ByteArray) (w : World) (h : SlL p w v xs) :
    Calls Tryz.prog 114 #[v, .string s] w fun e w' => e = .returned (.int .i64 (ofL xs s)) ∧ w = w' := by
  obtain ⟨a, c, rfl, hlc, hm⟩ := h.form
  unfold maxLen at hm
  go_enter Tryz.func114, Tryz.ntmps114
  go_wp2
  go_loop [5] (fun i => ∃ k : Nat, k ≤ xs.length ∧ i = .int .i64 k ∧ ∀ x ∈ xs.take k, x.s ≠ s) (fun i => xs.length - (intOf i).toNat)
  case atStart => exact ⟨0, Nat.zero_le _, rfl, by simp⟩
  case round =>
    obtain ⟨k, hk, rfl, hn⟩ := hrel
    have HN := Lib.hid hn; clear hn
    by_cases hlt : k < xs.length
    · obtain ⟨b, o, rfl, hp, c0, c1⟩ := h.at_ hlt
      have hs := ofL_snoc xs s k hlt HN.out
      have HS := Lib.hid hs; clear hs
      have HT := Lib.hid (take_snoc xs k hlt)
      go_wp2
      · have ht : (xs[k].s.toList == s.toList) = true := by assumption
        rw [beqS, decide_eq_true_eq] at ht
        go_ret
        exact ⟨by rw [HS.out, if_pos ht]; rfl, rfl⟩
      · have ht : (xs[k].s.toList == s.toList) = false := by assumption
        rw [beqS, decide_eq_false_iff_not] at ht
        go_round
        case rel => exact ⟨k + 1, by omega, by go_num, by rw [HT.out]; intro x hx; rcases List.mem_append.1 hx with h1 | h1; exact HN.out x h1; rw [List.mem_singleton.1 h1]; exact ht⟩
        case measure => simp [intOf]; omega
    · go_wp2
      go_ret
      have : k = xs.length := by omega
      subst this
      have hn := HN.out
      rw [List.take_length] at hn
      exact ⟨by rw [ofL_none xs s hn]; rfl, rfl⟩

set_option maxHeartbeats 400000 in
theorem strataStep (e : Ed) (w : World) :
    Calls Tryz.prog 83 #[.agg #[.string e.f, .string e.t, .bool e.n]] w fun r w' => r = .returned (.int .i64 (if e.n then 1 else 0)) ∧ Ch [] w w' := by
  cases hn : e.n
  all_goals
    go_enter Tryz.func83, Tryz.ntmps83
    go_wp2
    go_ret
    exact ⟨rfl, (Ch.refl _ _).alloc _⟩

set_option maxHeartbeats 400000 in
theorem ref09less (x y : Ed) (w : World) :
    Calls Tryz.prog 84 #[.agg #[.string x.f, .string x.t, .bool x.n], .agg #[.string y.f, .string y.t, .bool y.n]] w fun r w' => r = .returned (.bool (edLess x y)) ∧ Ch [] w w' := by
  go_enter Tryz.func84, Tryz.ntmps84
  go_wp2
  all_goals
    go_ret
    refine ⟨?_, ((Ch.refl _ _).alloc _).alloc _⟩
    simp only [beqS] at *
    simp_all [edLess, sLt]
end Go.Proofs.YtbongbknciibiaaGreatDoor
