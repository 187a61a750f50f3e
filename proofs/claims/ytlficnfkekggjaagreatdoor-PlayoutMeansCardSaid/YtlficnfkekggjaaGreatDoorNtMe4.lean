
/-
  The law of playout's means: what the program and the reference answer is the same.
-/
import Derived.Test.YtlficnfkekggjaaGreatDoorNtMe3
namespace Go.Proofs.YtlficnfkekggjaaGreatDoor
open Go.RowKit Go.Ev Go.Shelf
set_option maxRecDepth 100000 in
set_option maxHeartbeats 2000000 in
theorem lawMeans_ (xs : List Int) (hx : ∀ x ∈ xs, inI64 x) (v : Value) (r n : Int) (hr : inI64 r) (hn : inI64 n) (w : World) (hs : SlI (fun _ => True) w v xs) (hK : KwBlk w) (hA : Awakes 6) :
    Calls Tryz.prog 3 #[v, .int .i64 r, .int .i64 n] w fun e w' => e = .returned (.bool true) ∧ Ch [] w w' := by
  have k1 := fun w h => pmean_ xs hx v r n hr hn w h
  have k2 := fun w h => rmean_ xs hx v r n hr hn w h
  obtain ⟨a, c, rfl, hlc, hcm⟩ := hs.form
  clear hx hr hn hlc hcm
  by_cases c1 : 20 < (xs.length : Int)
  · have d1 : decide (20 < (xs.length : Int)) = true := decide_eq_true c1
    clear k1 k2
    generalize xs.length = len at *
    go_enter Tryz.func3, Tryz.ntmps3
    go_wp2_with (first
      | (go_at_call 6; refine (hA _ hK).mono ?_; rintro e w3 ⟨rfl, hc3⟩))
    go_ret
    exact ⟨rfl, hc3⟩
  · have d1 : decide (20 < (xs.length : Int)) = false := decide_eq_false c1
    generalize meanN xs r n = F at *
    obtain ⟨X, Y, er⟩ := F
    unfold frV at k1 k2
    simp only at k1 k2
    generalize xs.length = len at *
    go_enter Tryz.func3, Tryz.ntmps3
    go_wp2_with (first
      | (go_at_call 7; refine (k1 _ hs).mono ?_; rintro e w1 ⟨rfl, hc1⟩; have hB1 := Blk.new w1 25 #[.int .i64 X, .int .i64 Y])
      | (go_at_call 8; refine (k2 _ (hs.ch0 (hc1.alloc _))).mono ?_; rintro e w3 ⟨rfl, hc3⟩; have hb3 := hB1.ch hc3 (by simp); have y0 : ∀ o, (w3.alloc o).cell? ⟨w1.heap.size, 0, none⟩ = #[Value.int .i64 X, .int .i64 Y][0]? := fun o => (hb3.alloc o).cell 0; have y1 : ∀ o, (w3.alloc o).cell? ⟨w1.heap.size, 1, none⟩ = #[Value.int .i64 X, .int .i64 Y][1]? := fun o => (hb3.alloc o).cell 1)
      | (go_at_call 6; refine (hA _ (hK.ch (((hc1.alloc _).trans hc3).alloc _))).mono ?_; rintro e w5 ⟨rfl, hc5⟩))
    go_ret
    exact ⟨rfl, (((hc1.alloc _).trans hc3).alloc _).trans hc5⟩
end Go.Proofs.YtlficnfkekggjaaGreatDoor
