
/-
  The contracts of check.find$1 and of slices.IndexFunc over keywords.
  The contract of check.find.
  The contract of check.Keyword.
-/
import Derived.Test.YtgljjapglgcpdaaGreatDoorChMis
import Derived.Test.YtgljjapglgcpdaaGreatDoorLex
import Derived.Laws.ResultCell
namespace Go.Proofs.YtgljjapglgcpdaaGreatDoor

section
open Go.RowKit

def encK (k : Kw) : List Value := [.string k.n, .int .i64 k.a, .bool k.h, .bool k.b]
def SlK (p : Nat → Prop) (w : World) (v : Value) (xs : List Kw) : Prop := Sl p w 4 v (xs.map encK)
theorem SlK.at_ {p : Nat → Prop} {w : World} {a : Option Addr} {n c i : Nat} {xs : List Kw} (h : SlK p w (.slice a n c) xs) (hi : i < xs.length) : ∃ b o, a = some ⟨b, o, none⟩ ∧ (p b ∧ b < w.heap.size) ∧
    w.cell? ⟨b, o + i * 4, none⟩ = some (.string xs[i].n) ∧ w.cell? ⟨b, o + i * 4 + 1, none⟩ = some (.int .i64 xs[i].a) ∧ w.cell? ⟨b, o + i * 4 + 2, none⟩ = some (.bool xs[i].h) ∧ w.cell? ⟨b, o + i * 4 + 3, none⟩ = some (.bool xs[i].b) := by
  obtain ⟨b, o, rfl, hp, hc⟩ := Sl.at_ h (i := i) (cs := encK xs[i]) (by simp [hi])
  exact ⟨b, o, rfl, hp, by simpa using hc 0 _ rfl, by simpa [Nat.add_assoc] using hc 1 _ rfl, by simpa [Nat.add_assoc] using hc 2 _ rfl, by simpa [Nat.add_assoc] using hc 3 _ rfl⟩
def idxK (xs : List Kw) (s : ByteArray) : Int := match xs.findIdx? (fun k => decide (k.n = s)) with | some i => (i : Int) | none => -1
theorem idxK_at (xs : List Kw) (s : ByteArray) (k : Nat) (h : k < xs.length) (hn : ∀ i (hi : i < k), (xs[i]'(by omega)).n ≠ s) (hk : xs[k].n = s) : idxK xs s = k := by
  have : xs.findIdx? (fun k => decide (k.n = s)) = some k := by
    rw [List.findIdx?_eq_some_iff_getElem]
    exact ⟨h, by simpa using hk, fun j hj => by simpa using hn j hj⟩
  unfold idxK; rw [this]
theorem idxK_none (xs : List Kw) (s : ByteArray) (hn : ∀ i (hi : i < xs.length), xs[i].n ≠ s) : idxK xs s = -1 := by
  have : xs.findIdx? (fun k => decide (k.n = s)) = none := by
    rw [List.findIdx?_eq_none_iff]
    intro x hx
    obtain ⟨i, hi, rfl⟩ := List.getElem_of_mem hx
    simpa using hn i hi
  unfold idxK; rw [this]

set_option maxHeartbeats 400000 in
theorem find1_ (x : Kw) (B : Nat) (s : ByteArray) (w : World) (hb : Blk w B 9 #[.string s]) :
    Calls Tryz.prog 77 #[.agg #[.string x.n, .int .i64 x.a, .bool x.h, .bool x.b], .pointer (some ⟨B, 0, none⟩)] w fun e w' => e = .returned (.bool (decide (x.n = s))) ∧ Ch [] w w' := by
  have hbB := (hb.alloc (.cells #[.string x.n, .int .i64 x.a, .bool x.h, .bool x.b] 81)).cell 0
  have hbA := (Blk.new w 81 #[.string x.n, .int .i64 x.a, .bool x.h, .bool x.b]).cell 0
  go_enter Tryz.func77, Tryz.ntmps77
  go_wp2
  go_ret
  exact ⟨by rw [beqS]; rfl, (Ch.refl _ _).alloc _⟩

set_option maxRecDepth 100000 in
set_option maxHeartbeats 2000000 in
theorem indexFuncK (p) (v : Value) (xs : List Kw) (B : Nat) (s : ByteArray) (w : World) (h : SlK p w v xs) (hb : Blk w B 9 #[.string s]) :
    Calls Tryz.prog 76 #[v, .func (.func 77) #[] #[.pointer (some ⟨B, 0, none⟩)]] w fun e w' => e = .returned (.int .i64 (idxK xs s)) ∧ Ch [] w w' := by
  have hfm := Sl.form' h
  rw [List.length_map] at hfm
  obtain ⟨a, c, rfl, hlc, hm⟩ := hfm
  unfold maxLen at hm
  go_enter Tryz.func76, Tryz.ntmps76
  go_wp2
  go_loopw [5, 8] (fun _ i wr => ∃ k : Nat, k ≤ xs.length ∧ i = .int .i64 k ∧ Ch [] w wr ∧ Hid (∀ j (hj : j < xs.length), j < k → xs[j].n ≠ s)) (fun _ i _ => xs.length - (intOf i).toNat)
  case atStart => exact ⟨0, Nat.zero_le _, rfl, Ch.refl _ _, fun j _ h => absurd h (Nat.not_lt_zero _)⟩
  case round =>
    obtain ⟨k, hk, rfl, hB, HN⟩ := hrel
    by_cases hlt : k < xs.length
    · obtain ⟨b, o, rfl, hp, c0, c1, c2, c3⟩ := h.at_ hlt
      have c0 := cell_ch c0 hB (by simp)
      have c1 := cell_ch c1 hB (by simp)
      have c2 := cell_ch c2 hB (by simp)
      have c3 := cell_ch c3 hB (by simp)
      have hcall := find1_ xs[k] B s wr (hb.ch hB (by simp))
      by_cases hq : xs[k].n = s
      · have HR := Lib.hid (idxK_at xs s k hlt (fun j hj => HN.out j _ hj) hq)
        rw [decide_eq_true hq] at hcall
        clear hq
        generalize xs[k] = x at *
        go_wp2_with (go_at_call 77; refine hcall.mono ?_; rintro e w' ⟨rfl, hc⟩)
        go_ret
        exact ⟨by rw [HR.out]; rfl, hB.trans hc⟩
      · have HX : Hid (∀ j (hj : j < xs.length), j < k + 1 → xs[j].n ≠ s) := fun j hj h1 => by
          rcases Nat.lt_succ_iff_lt_or_eq.1 h1 with h2 | h2
          · exact HN.out j hj h2
          · subst h2; exact hq
        rw [decide_eq_false hq] at hcall
        clear hq
        generalize xs[k] = x at *
        go_wp2_with (go_at_call 77; refine hcall.mono ?_; rintro e w' ⟨rfl, hc⟩)
        go_roundw
        case rel => exact ⟨k + 1, by omega, by go_num, hB.trans hc, HX⟩
        case measure => simp [intOf]; omega
    · have HR := Lib.hid (idxK_none xs s (fun j hj => HN.out j hj (by omega)))
      go_wp2
      go_ret
      exact ⟨by rw [HR.out]; rfl, hB⟩
end

section
open Go.RowKit

/-- the package's variable check.keywords, as it is laid -/
def KwAt (w : World) : Prop := SlK (fun b => b = 0) w (.slice (some ⟨0, 0, none⟩) 10 10) kws
theorem KwAt.ch {w w' : World} (h : KwAt w) (hc : Ch [] w w') : KwAt w' := Sl.ch0 h hc
def kwV : Option Kw → Value
  | none => .agg #[.string ⟨#[]⟩, .int .i64 0, .bool false, .bool false]
  | some k => .agg #[.string k.n, .int .i64 k.a, .bool k.h, .bool k.b]
theorem idxK_cases (s : ByteArray) : (kwOf s = none ∧ idxK kws s = -1) ∨ ∃ (i : Nat) (h : i < kws.length), idxK kws s = i ∧ kwOf s = some kws[i] := by
  cases h : kws.findIdx? (fun k => decide (k.n = s)) with
  | none =>
    left
    refine ⟨?_, by unfold idxK; rw [h]⟩
    rw [List.findIdx?_eq_none_iff] at h
    unfold kwOf
    rw [List.find?_eq_none]
    intro x hx; simpa using h x hx
  | some k =>
    right
    have h0 := h
    rw [List.findIdx?_eq_some_iff_getElem] at h
    obtain ⟨h1, h2, h3⟩ := h
    refine ⟨k, h1, by unfold idxK; rw [h0], ?_⟩
    unfold kwOf
    rw [List.find?_eq_some_iff_getElem]
    exact ⟨h2, k, h1, rfl, fun j hj => by simpa using h3 j hj⟩


theorem find_fin {w wz : World} {z0 z1 z2 z3 : Value} {n : ByteArray} {m : Int} {h b q : Bool} (hr : Blk wz (w.heap.size + 1) 81 #[z0, z1, z2, z3]) (hB : Ch [] w wz)
    (a : Act) (h2 : a.tmps.getD 2 undef = .pointer (some ⟨w.heap.size + 1, 0, none⟩)) (h3 : a.tmps.getD 3 undef = .bool q) (h5 : a.defers = []) :
    bodyPost Tryz.prog Tryz.f39 (fun e w' => e = .returned (.tuple #[.agg #[.string n, .int .i64 m, .bool h, .bool b], .bool q]) ∧ Ch [] w w') .ret a
      ((((wz.setCell ⟨w.heap.size + 1, 0, none⟩ (.string n)).setCell ⟨w.heap.size + 1, 1, none⟩ (.int .i64 m)).setCell ⟨w.heap.size + 1, 2, none⟩ (.bool h)).setCell ⟨w.heap.size + 1, 3, none⟩ (.bool b)) := by
  have hbF : Blk ((((wz.setCell ⟨w.heap.size + 1, 0, none⟩ (.string n)).setCell ⟨w.heap.size + 1, 1, none⟩ (.int .i64 m)).setCell ⟨w.heap.size + 1, 2, none⟩ (.bool h)).setCell ⟨w.heap.size + 1, 3, none⟩ (.bool b)) (w.heap.size + 1) 81 #[.string n, .int .i64 m, .bool h, .bool b] := (((hr.set_ 0 _).set_ 1 _).set_ 2 _).set_ 3 _
  have hcF : Ch [w.heap.size + 1] wz ((((wz.setCell ⟨w.heap.size + 1, 0, none⟩ (.string n)).setCell ⟨w.heap.size + 1, 1, none⟩ (.int .i64 m)).setCell ⟨w.heap.size + 1, 2, none⟩ (.bool h)).setCell ⟨w.heap.size + 1, 3, none⟩ (.bool b)) := ((((Ch.refl _ _).set (by simp) _).set (by simp) _).set (by simp) _).set (by simp) _
  generalize ((((wz.setCell ⟨w.heap.size + 1, 0, none⟩ (.string n)).setCell ⟨w.heap.size + 1, 1, none⟩ (.int .i64 m)).setCell ⟨w.heap.size + 1, 2, none⟩ (.bool h)).setCell ⟨w.heap.size + 1, 3, none⟩ (.bool b)) = wF at *
  have hrun : (results Tryz.f39 a.tmps).run Tryz.prog wF = .ok (.tuple #[.agg #[.string n, .int .i64 m, .bool h, .bool b], .bool q]) wF := by
    rw [results_cell_tmp (p := 2) (u := 3) (ty := 81) (by kernel_rfl), h2, h3]
    have := run_loadVar_row (P := Tryz.prog) _ (w.heap.size + 1) 81 81 _ _ _ hbF Tryz.underlying81 rfl (by kernel_rfl)
    simp [asAddr, this]
  exact bodyPost_ret hrun h5 ⟨rfl, hB.step hcF (by simp)⟩

set_option maxRecDepth 100000 in
set_option maxHeartbeats 2000000 in
theorem find_ (s : ByteArray) (w : World) (hK : KwAt w) :
    Calls Tryz.prog 39 #[.string s] w fun e w' => e = .returned (.tuple #[kwV (kwOf s), .bool (kwOf s).isSome]) ∧ Ch [] w w' := by
  have hbx := Blk.new w 9 #[.string s]
  have hcA : Ch [] w (w.alloc (.cells #[.string s] 9)) := (Ch.refl _ _).alloc _
  have hsA : (w.alloc (.cells #[.string s] 9)).heap.size = w.heap.size + 1 := by simp
  have hby := Blk.new (w.alloc (.cells #[.string s] 9)) 81 #[.string ⟨#[]⟩, .int .i64 0, .bool false, .bool false]
  rw [hsA] at hby
  have hcl := idxK_cases s
  have hcall := fun wz (hz : Ch [] w wz) (hb : Blk wz w.heap.size 9 #[.string s]) => indexFuncK _ _ kws w.heap.size s wz (hK.ch hz) hb
  clear hsA
  generalize idxK kws s = r at *
  generalize kwOf s = ko at *
  rcases hcl with ⟨rfl, rfl⟩ | ⟨i, hi, rfl, rfl⟩
  · go_enter Tryz.func39, Tryz.ntmps39
    go_wp2_with (go_at_call 76; refine (hcall _ (hcA.alloc _) (hbx.alloc _)).mono ?_; rintro e w1 ⟨rfl, hc1⟩; have hby1 := hby.ch hc1 (by simp); have y0 := hby1.cell 0; have y1 := hby1.cell 1; have y2 := hby1.cell 2; have y3 := hby1.cell 3; have f0 := hby1.frozen 0; have f1 := hby1.frozen 1; have f2 := hby1.frozen 2; have f3 := hby1.frozen 3)
    exact find_fin hby1 ((hcA.alloc _).trans hc1) _ (by rfl) (by rfl) (by rfl)
  · have hi10 : i < 10 := hi
    obtain ⟨b, o, e, hp, c0, c1, c2, c3⟩ := SlK.at_ hK hi
    injection e with e
    injection e with e1 e2
    subst e1 e2
    rw [Nat.zero_add] at c0 c1 c2 c3
    generalize kws[i] = x at *
    go_enter Tryz.func39, Tryz.ntmps39
    go_wp2_with (go_at_call 76; refine (hcall _ (hcA.alloc _) (hbx.alloc _)).mono ?_; rintro e w1 ⟨rfl, hc1⟩; have hcz := (hcA.alloc (.cells #[.string ⟨#[]⟩, .int .i64 0, .bool false, .bool false] 81)).trans hc1; have c0 := cell_ch c0 hcz (by simp); have c1 := cell_ch c1 hcz (by simp); have c2 := cell_ch c2 hcz (by simp); have c3 := cell_ch c3 hcz (by simp); have hby1 := hby.ch hc1 (by simp); have y0 := hby1.cell 0; have y1 := hby1.cell 1; have y2 := hby1.cell 2; have y3 := hby1.cell 3; have f0 := hby1.frozen 0; have f1 := hby1.frozen 1; have f2 := hby1.frozen 2; have f3 := hby1.frozen 3)
    exact find_fin hby1 hcz _ (by rfl) (by rfl) (by rfl)
end

section
open Go.RowKit

def kwA : Option Kw → Int | none => 0 | some k => k.a
set_option maxRecDepth 100000 in
set_option maxHeartbeats 2000000 in
theorem keyword_ (s : ByteArray) (w : World) (hK : KwAt w) :
    Calls Tryz.prog 13 #[.string s] w fun e w' => e = .returned (.tuple #[.int .i64 (kwA (kwOf s)), .bool (kwOf s).isSome]) ∧ Ch [] w w' := by
  have hcall := fun wz (hz : Ch [] w wz) => find_ s wz (hK.ch hz)
  generalize kwOf s = ko at *
  cases ko with
  | none =>
    go_enter Tryz.func13, Tryz.ntmps13
    go_wp2_with (go_at_call 39; refine (hcall _ (Ch.refl _ _)).mono ?_; rintro e w1 ⟨rfl, hc1⟩; simp only [kwV]; have b1 := (Blk.new w1 81 #[.string ⟨#[]⟩, .int .i64 0, .bool false, .bool false]).cell 1)
    go_ret2
    exact ⟨rfl, hc1.alloc _⟩
  | some k =>
    go_enter Tryz.func13, Tryz.ntmps13
    go_wp2_with (go_at_call 39; refine (hcall _ (Ch.refl _ _)).mono ?_; rintro e w1 ⟨rfl, hc1⟩; simp only [kwV]; have b1 := (Blk.new w1 81 #[.string k.n, .int .i64 k.a, .bool k.h, .bool k.b]).cell 1)
    go_ret2
    exact ⟨rfl, hc1.alloc _⟩
end
end Go.Proofs.YtgljjapglgcpdaaGreatDoor
