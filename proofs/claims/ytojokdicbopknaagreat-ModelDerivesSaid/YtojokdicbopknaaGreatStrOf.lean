
/-
  The contract of strata.Of.
-/
import Derived.Test.YtojokdicbopknaaGreatSmall3
import Derived.Test.YtojokdicbopknaaGreatLex
import Derived.Shelf.Abstract
namespace Go.Proofs.YtojokdicbopknaaGreat
open Go.RowKit

set_option maxHeartbeats 400000 in
theorem strataOf1 (x : Lv) (B : Nat) (s : ByteArray) (w : World) (hb : Blk w B 9 #[.string s]) :
    Calls Tryz.prog 76 #[.agg #[.string x.s, .int .i64 x.n], .pointer (some ⟨B, 0, none⟩)] w fun e w' => e = .returned (.bool (decide (x.s = s))) ∧ Ch [] w w' := by
  have hbB := (hb.alloc (.cells #[.string x.s, .int .i64 x.n] 93)).cell 0
  have hbA := (Blk.new w 93 #[.string x.s, .int .i64 x.n]).cell 0
  go_enter Tryz.func76, Tryz.ntmps76
  go_wp2
  go_ret
  exact ⟨by rw [beqS]; rfl, (Ch.refl _ _).alloc _⟩

/-- what IndexFunc finds -/
def IdxL (xs : List Lv) (s : ByteArray) (r : Int) : Prop := (r = -1 ∧ ofL xs s = -1) ∨ ∃ (k : Nat) (h : k < xs.length), r = k ∧ ofL xs s = xs[k].n

set_option maxHeartbeats 800000 in
theorem indexFuncL (p) (v : Value) (xs : List Lv) (B : Nat) (s : ByteArray) (w : World) (h : SlL p w v xs) (hb : Blk w B 9 #[.string s]) :
    Calls Tryz.prog 75 #[v, .func (.func 76) #[] #[.pointer (some ⟨B, 0, none⟩)]] w fun e w' => ∃ r : Int, e = .returned (.int .i64 r) ∧ IdxL xs s r ∧ Ch [] w w' := by
  obtain ⟨a, c, rfl, hlc, hm⟩ := h.form
  unfold maxLen at hm
  go_enter Tryz.func75, Tryz.ntmps75
  go_wp2
  go_loopw [5, 8] (fun _ i wr => ∃ k : Nat, k ≤ xs.length ∧ i = .int .i64 k ∧ Ch [] w wr ∧ Hid (∀ x ∈ xs.take k, x.s ≠ s)) (fun _ i _ => xs.length - (intOf i).toNat)
  case atStart => exact ⟨0, Nat.zero_le _, rfl, Ch.refl _ _, by simp [Hid]⟩
  case round =>
    obtain ⟨k, hk, rfl, hB, HN⟩ := hrel
    by_cases hlt : k < xs.length
    · obtain ⟨b, o, rfl, hp, c0, c1⟩ := h.at_ hlt
      have c0 := cell_ch c0 hB (by simp)
      have c1 := cell_ch c1 hB (by simp)
      have HS := Lib.hid (ofL_snoc xs s k hlt HN.out)
      have HT := Lib.hid (take_snoc xs k hlt)
      have hcall := strataOf1 xs[k] B s wr (hb.ch hB (by simp))
      cases hq : decide (xs[k].s = s) with
      | true =>
        rw [hq] at hcall
        have HQ := Lib.hid hq; clear hq
        go_wp2_with (go_at_call 76; refine hcall.mono ?_; rintro e w' ⟨rfl, hc⟩)
        go_ret
        exact ⟨_, rfl, .inr ⟨k, hlt, rfl, by rw [HS.out, if_pos (by simpa using HQ.out)]⟩, hB.trans hc⟩
      | false =>
        rw [hq] at hcall
        have HQ := Lib.hid hq; clear hq
        go_wp2_with (go_at_call 76; refine hcall.mono ?_; rintro e w' ⟨rfl, hc⟩)
        go_roundw
        case rel => exact ⟨k + 1, by omega, by go_num, hB.trans hc, by
          unfold Hid
          rw [HT.out]; intro x hx
          rcases List.mem_append.1 hx with h1 | h1
          · exact HN.out x h1
          · rw [List.mem_singleton.1 h1]; simpa using HQ.out⟩
        case measure => simp [intOf]; omega
    · have : k = xs.length := by omega
      subst this
      go_wp2
      go_ret
      have hn := HN.out
      rw [List.take_length] at hn
      exact ⟨_, rfl, .inl ⟨rfl, ofL_none xs s hn⟩, hB⟩

set_option maxRecDepth 10000 in
set_option maxHeartbeats 400000 in
theorem strataOf (p) (v : Value) (xs : List Lv) (s : ByteArray) (w : World) (h : SlL p w v xs) :
    Calls Tryz.prog 53 #[v, .string s] w fun e w' => e = .returned (.int .i64 (ofL xs s)) ∧ Ch [] w w' := by
  have hcall := indexFuncL p v xs w.heap.size s (w.alloc (.cells #[.string s] 9)) (h.ch0 ((Ch.refl [] w).alloc _)) (Blk.new _ _ _)
  obtain ⟨a, c, rfl, hlc, hm⟩ := h.form
  unfold maxLen at hm
  go_enter Tryz.func53, Tryz.ntmps53
  have HX0 : Hid (∀ k : Nat, k < xs.length → a ≠ none) := fun k hk e => by
    obtain ⟨b, o, e1, _⟩ := h.at_ hk
    rw [e] at e1; cases e1
  go_wp2_with (go_at_call 75; refine hcall.mono ?_; clear hcall; rintro e w1 ⟨r, rfl, hx, hc⟩; rcases hx with ⟨rfl, hx⟩ | ⟨k, hk, rfl, hx⟩; rotate_left 1; (obtain ⟨b, o, rfl, hp, c0, c1⟩ := h.at_ hk; have c1 := cell_ch c1 (((Ch.refl [] w).alloc (.cells #[.string s] 9)).trans hc) (by simp)); rotate_left 1)
  · go_ret
    exact ⟨by rw [hx]; rfl, ((Ch.refl [] w).alloc _).trans hc⟩
  · have HX := Lib.hid hx; clear hx
    go_ret
    exact ⟨by rw [HX.out]; rfl, ((Ch.refl [] w).alloc _).trans hc⟩
end Go.Proofs.YtojokdicbopknaaGreat
