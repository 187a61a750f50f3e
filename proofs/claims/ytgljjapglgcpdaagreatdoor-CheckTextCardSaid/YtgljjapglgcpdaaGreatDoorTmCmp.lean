
/-
  The order of terms: what term.kindOf, Compare and CompareList answer, xs plain functions.
  The contracts of term.order, strings.Compare, term.kindOf.
  The contracts of term.CompareList and term.Compare.
-/
import Derived.Test.YtgljjapglgcpdaaGreatDoorChNames
import Derived.Lib.Bytealg
import Derived.Test.YtgljjapglgcpdaaGreatDoorLex
import Derived.Laws.ResultCell
import Derived.Test.YtgljjapglgcpdaaGreatDoorFacts
import Derived.Deep.RegionHeld3
import Derived.Deep.DeepCutAuto
import Derived.Deep.Light
namespace Go.Proofs.YtgljjapglgcpdaaGreatDoor

section
section
def ordN (a b : Nat) : Int := if a < b then -1 else if b < a then 1 else 0
def ordS (a b : ByteArray) : Int := if sLt a b = true then -1 else if sLt b a = true then 1 else 0
structure Kd where
  c : Nat
  v : Nat
  a : Nat
  n : ByteArray
def kdOf (t : Tm) : Kd :=
  if t.args.length ≠ 0 then ⟨3, 0, t.args.length, t.name⟩ else if numB t.name = true then ⟨0, numV t.name, 0, ⟨#[]⟩⟩ else if varB t.name = true then ⟨2, 0, 0, t.name⟩ else ⟨1, 0, 0, t.name⟩
def kdEq (x y : Kd) : Bool := decide (x.c = y.c) && (decide (x.v = y.v) && (decide (x.a = y.a) && decide (x.n = y.n)))
def ordK (x y : Kd) : Int := if x.c ≠ y.c then ordN x.c y.c else if x.v ≠ y.v then ordN x.v y.v else if x.a ≠ y.a then ordN x.a y.a else ordS x.n y.n
mutual
def cmpT : Tm → Tm → Int
  | .mk n xs, u => if kdEq (kdOf (.mk n xs)) (kdOf u) = true then cmpTL xs u.args else ordK (kdOf (.mk n xs)) (kdOf u)
def cmpTL : List Tm → List Tm → Int
  | [], [] => 0
  | [], _ :: _ => -1
  | _ :: _, [] => 1
  | a :: xs, b :: ys => if cmpT a b ≠ 0 then cmpT a b else cmpTL xs ys
end
theorem ordN_zero {a b : Nat} : ordN a b = 0 ↔ a = b := by
  unfold ordN
  split
  · omega
  · split <;> omega
theorem ordS_zero {a b : ByteArray} : ordS a b = 0 ↔ a = b := by
  unfold ordS
  constructor
  · intro h
    split at h
    · omega
    · rename_i h1
      split at h
      · omega
      · rename_i h2
        exact sLt_total (by simpa using h1) (by simpa using h2)
  · rintro rfl; simp [sLt_irr]
theorem ordS_bytes (a b : ByteArray) : Lib.compareBytes a.data.toList b.data.toList = ordS a b := by
  have key : ∀ x y : List UInt8, Lib.compareBytes x y = if Op.bytesLess x y = true then -1 else if Op.bytesLess y x = true then 1 else 0 := by
    intro x
    induction x with
    | nil => intro y; cases y <;> simp [Lib.compareBytes, Op.bytesLess]
    | cons a xs ih =>
      intro y
      cases y with
      | nil => simp [Lib.compareBytes, Op.bytesLess]
      | cons b ys =>
        simp only [Lib.compareBytes, Op.bytesLess, ih ys]
        by_cases h1 : a < b
        · simp [h1]
        · by_cases h2 : b < a
          · have h3 : ¬ a = b := fun e => by subst e; exact h1 h2
            simp [h1, h2, h3]
          · have h3 : a = b := by
              rw [UInt8.lt_iff_toNat_lt] at h1 h2
              exact UInt8.toNat_inj.1 (by omega)
            subst h3; simp [h1]
  unfold ordS sLt
  rw [ByteArray.toList_eq, ByteArray.toList_eq]
  exact key _ _
theorem ba_ext {s t : ByteArray} (h : s.size = t.size) (hb : ∀ i, i < s.size → byteAt s i = byteAt t i) : s = t := by
  apply ByteArray.ext
  apply Array.ext
  · exact h
  · intro i h1 h2
    have h1' : i < s.size := h1
    have h2' : i < t.size := h2
    have := hb i h1'
    rw [← byteAt_eq h1', ← byteAt_eq h2'] at this
    exact UInt8.toNat_inj.1 this
theorem numB_iff {s : ByteArray} : numB s = true ↔ 1 ≤ s.size ∧ s.size ≤ 4 ∧ (1 < s.size → byteAt s 0 ≠ 48) ∧ ∀ j, j < s.size → 48 ≤ byteAt s j ∧ byteAt s j ≤ 57 := by
  unfold numB
  simp only [Bool.and_eq_true, decide_eq_true_eq, allC_iff, digC, Bool.not_eq_true', Bool.and_eq_false_iff, decide_eq_false_iff_not, beq_eq_false_iff_ne]
  constructor
  · rintro ⟨h1, h2, h3, h4⟩
    exact ⟨h1, h2, fun h => h3.resolve_right (fun h5 => h5 h), h4⟩
  · rintro ⟨h1, h2, h3, h4⟩
    refine ⟨h1, h2, ?_, h4⟩
    by_cases h : 1 < s.size
    · exact .inl (h3 h)
    · exact .inr h
/-- numerals differ in value -/
theorem numV_inj {s t : ByteArray} (hs : numB s = true) (ht : numB t = true) (h : numV s = numV t) : s = t := by
  rw [numV_yes hs, numV_yes ht] at h
  obtain ⟨s1, s2, s3, s4⟩ := numB_iff.1 hs
  obtain ⟨t1, t2, t3, t4⟩ := numB_iff.1 ht
  have a0 := s4 0; have a1 := s4 1; have a2 := s4 2; have a3 := s4 3
  have b0 := t4 0; have b1 := t4 1; have b2 := t4 2; have b3 := t4 3
  have hn : ∀ n, n = s.size → n = 1 ∨ n = 2 ∨ n = 3 ∨ n = 4 := by omega
  have hm : ∀ n, n = t.size → n = 1 ∨ n = 2 ∨ n = 3 ∨ n = 4 := by omega
  have key : s.size = t.size ∧ ∀ i, i < s.size → byteAt s i = byteAt t i := by
    rcases hn _ rfl with e | e | e | e <;> rcases hm _ rfl with f | f | f | f <;> rw [e] at h a0 a1 a2 a3 s3 ⊢ <;> rw [f] at h b0 b1 b2 b3 t3 ⊢ <;> simp only [valTo] at h
    all_goals first
      | (exfalso; omega)
      | (refine ⟨rfl, fun i hi => ?_⟩
         have hc : i = 0 ∨ i = 1 ∨ i = 2 ∨ i = 3 := by omega
         rcases hc with rfl | rfl | rfl | rfl <;> omega)
  exact ba_ext key.1 key.2
theorem kdEq_iff {x y : Kd} : kdEq x y = true ↔ x.c = y.c ∧ x.v = y.v ∧ x.a = y.a ∧ x.n = y.n := by simp [kdEq]
theorem ordK_ne {x y : Kd} (h : kdEq x y = false) : ordK x y ≠ 0 := by
  intro h0
  have : kdEq x y = true := by
    rw [kdEq_iff]
    unfold ordK at h0
    split at h0
    · rename_i h1; exact absurd (ordN_zero.1 h0) h1
    · rename_i h1
      split at h0
      · rename_i h2; exact absurd (ordN_zero.1 h0) h2
      · rename_i h2
        split at h0
        · rename_i h3; exact absurd (ordN_zero.1 h0) h3
        · rename_i h3
          exact ⟨Decidable.not_not.1 h1, Decidable.not_not.1 h2, Decidable.not_not.1 h3, ordS_zero.1 h0⟩
  rw [h] at this; cases this
theorem kd3 {n : ByteArray} {xs : List Tm} (h : ¬ xs.length = 0) : kdOf (.mk n xs) = ⟨3, 0, xs.length, n⟩ := by
  unfold kdOf
  rw [if_pos (show (Tm.mk n xs).args.length ≠ 0 from h)]
  rfl
theorem kd0 {n : ByteArray} {xs : List Tm} (h : xs.length = 0) : kdOf (.mk n xs) = if numB n = true then ⟨0, numV n, 0, ⟨#[]⟩⟩ else if varB n = true then ⟨2, 0, 0, n⟩ else ⟨1, 0, 0, n⟩ := by
  unfold kdOf
  rw [if_neg (show ¬ (Tm.mk n xs).args.length ≠ 0 from fun h2 => h2 h)]
  rfl
/-- equal kinds: equal names, equally many arguments -/
theorem kdEq_same {n m : ByteArray} {xs ys : List Tm} (h : kdEq (kdOf (.mk n xs)) (kdOf (.mk m ys)) = true) : n = m ∧ xs.length = ys.length := by
  rw [kdEq_iff] at h
  by_cases ha : xs.length = 0 <;> by_cases hb : ys.length = 0
  · rw [kd0 ha, kd0 hb] at h
    refine ⟨?_, by omega⟩
    cases h1 : numB n <;> cases h2 : numB m <;> cases h3 : varB n <;> cases h4 : varB m <;> simp only [h1, h2, h3, h4, if_true, if_false, Bool.false_eq_true] at h
    all_goals first
      | (exfalso; omega)
      | exact h.2.2.2
      | exact numV_inj h1 h2 h.2.1
  · rw [kd0 ha, kd3 hb] at h
    exfalso
    cases h1 : numB n <;> cases h3 : varB n <;> simp only [h1, h3, if_true, if_false, Bool.false_eq_true] at h <;> omega
  · rw [kd3 ha, kd0 hb] at h
    exfalso
    cases h1 : numB m <;> cases h3 : varB m <;> simp only [h1, h3, if_true, if_false, Bool.false_eq_true] at h <;> omega
  · rw [kd3 ha, kd3 hb] at h
    exact ⟨h.2.2.2, h.2.2.1⟩
theorem kdEq_refl (t : Tm) : kdEq (kdOf t) (kdOf t) = true := by rw [kdEq_iff]; simp
mutual
theorem cmpT_zero : ∀ t u : Tm, cmpT t u = 0 ↔ t = u
  | .mk n xs, .mk m ys => by
    unfold cmpT
    by_cases h : kdEq (kdOf (.mk n xs)) (kdOf (.mk m ys)) = true
    · rw [if_pos h]
      obtain ⟨h1, h2⟩ := kdEq_same h
      simp only [Tm.args]
      rw [cmpTL_zero xs ys]
      subst h1
      simp
    · rw [if_neg h]
      constructor
      · intro h0; exact absurd h0 (ordK_ne (by simpa using h))
      · intro e; rw [e] at h; exact absurd (kdEq_refl _) h
theorem cmpTL_zero : ∀ xs ys : List Tm, cmpTL xs ys = 0 ↔ xs = ys
  | [], [] => by simp [cmpTL]
  | [], _ :: _ => by simp [cmpTL]
  | _ :: _, [] => by simp [cmpTL]
  | a :: xs, b :: ys => by
    unfold cmpTL
    have h1 := cmpT_zero a b
    have h2 := cmpTL_zero xs ys
    by_cases h : cmpT a b = 0
    · rw [if_neg (by simpa using h), h2]
      simp [h1.1 h]
    · rw [if_pos h]
      constructor
      · intro h0; exact absurd h0 h
      · intro e; injection e with e _; exact absurd (h1.2 e) h
end
mutual
theorem tmEq_iff : ∀ t u : Tm, tmEq t u = true ↔ t = u
  | .mk n xs, .mk m ys => by
    simp only [tmEq, Bool.and_eq_true, decide_eq_true_eq, tmsEq_iff xs ys]
    simp
theorem tmsEq_iff : ∀ xs ys : List Tm, tmsEq xs ys = true ↔ xs = ys
  | [], [] => by simp [tmsEq]
  | [], _ :: _ => by simp [tmsEq]
  | _ :: _, [] => by simp [tmsEq]
  | a :: xs, b :: ys => by
    simp only [tmsEq, Bool.and_eq_true, tmEq_iff a b, tmsEq_iff xs ys]
    simp
end
theorem cmpT_tmEq (t u : Tm) : decide (cmpT t u = 0) = tmEq t u := by
  rw [Bool.eq_iff_iff, decide_eq_true_eq, cmpT_zero, tmEq_iff]
/-- lists compared: the first difference -/
theorem cmpTL_at : ∀ (xs ys : List Tm) (k : Nat) (h1 : k < xs.length) (h2 : k < ys.length), (∀ j (hj : j < k), cmpT (xs[j]'(by omega)) (ys[j]'(by omega)) = 0) → cmpT xs[k] ys[k] ≠ 0 → cmpTL xs ys = cmpT xs[k] ys[k]
  | a :: xs, b :: ys, 0, h1, h2, _, hk => by
    simp only [List.getElem_cons_zero] at hk ⊢
    unfold cmpTL; rw [if_pos hk]
  | a :: xs, b :: ys, k + 1, h1, h2, hn, hk => by
    have h0 := hn 0 (by omega)
    simp only [List.getElem_cons_zero, List.getElem_cons_succ] at h0 hk ⊢
    unfold cmpTL; rw [if_neg (by simpa using h0)]
    exact cmpTL_at xs ys k (by simpa using h1) (by simpa using h2) (fun j hj => by have := hn (j + 1) (by omega); simpa using this) hk
  | [], _, k, h1, _, _, _ => by simp at h1
  | _ :: _, [], k, _, h2, _, _ => by simp at h2
theorem cmpTL_end : ∀ (xs ys : List Tm), (∀ j (h1 : j < xs.length) (h2 : j < ys.length), cmpT xs[j] ys[j] = 0) → cmpTL xs ys = ordN xs.length ys.length
  | [], [], _ => by simp [cmpTL, ordN]
  | [], _ :: _, _ => by simp [cmpTL, ordN]
  | _ :: _, [], _ => by simp [cmpTL, ordN]
  | a :: xs, b :: ys, hn => by
    have h0 := hn 0 (by simp) (by simp)
    simp only [List.getElem_cons_zero] at h0
    unfold cmpTL; rw [if_neg (by simpa using h0)]
    rw [cmpTL_end xs ys (fun j h1 h2 => by have := hn (j + 1) (by simpa using h1) (by simpa using h2); simpa using this)]
    simp [ordN]
end

section
open Go.RowKit

theorem order_ (a b : Nat) (w : World) : Calls Tryz.prog 80 #[.int .i64 (a : Int), .int .i64 (b : Int)] w fun e w' => e = .returned (.int .i64 (ordN a b)) ∧ w = w' := by
  have HO := Lib.hid (show ordN a b = if a < b then -1 else if b < a then 1 else 0 from rfl)
  generalize ordN a b = r at *
  rcases Nat.lt_trichotomy a b with h | h | h
  · have d1 : decide (a < b) = true := decide_eq_true h
    have HR : Hid (r = -1) := by unfold Hid; rw [HO.out, if_pos h]
    clear h
    go_enter Tryz.func80, Tryz.ntmps80
    go_wp2
    go_ret
    exact ⟨by rw [HR.out]; rfl, rfl⟩
  · subst h
    have HR : Hid (r = 0) := by unfold Hid; rw [HO.out]; simp
    go_enter Tryz.func80, Tryz.ntmps80
    go_wp2
    go_ret
    exact ⟨by rw [HR.out]; rfl, rfl⟩
  · have d1 : decide (a < b) = false := decide_eq_false (by omega)
    have d2 : decide (b < a) = true := decide_eq_true h
    have HR : Hid (r = 1) := by unfold Hid; rw [HO.out, if_neg (by omega), if_pos h]
    clear h
    go_enter Tryz.func80, Tryz.ntmps80
    go_wp2
    go_ret
    exact ⟨by rw [HR.out]; rfl, rfl⟩

set_option maxRecDepth 100000 in
theorem cmpString_ (a b : ByteArray) (w : World) : Calls Tryz.prog 110 #[.string a, .string b] w fun e w' => e = .returned (.int .i64 (ordS a b)) ∧ w = w' := by
  go_enter Tryz.func110, Tryz.ntmps110
  go_wp2
  rw [run_callFunc_extern Tryz.func127 (by kernel_rfl) (by kernel_rfl) (by kernel_rfl) (e := Extern.BytealgCompare.compare) (by kernel_rfl), Lib.run_compareString]
  simp only [Result.andThen]
  rw [Oper.upon_value]
  go_wp2
  go_ret
  exact ⟨by rw [← ordS_bytes]; rfl, rfl⟩
theorem strCompare_ (a b : ByteArray) (w : World) : Calls Tryz.prog 81 #[.string a, .string b] w fun e w' => e = .returned (.int .i64 (ordS a b)) ∧ w = w' := by
  go_enter Tryz.func81, Tryz.ntmps81
  go_wp2_with (go_at_call 110; refine (cmpString_ _ _ _).mono ?_; rintro e w' ⟨rfl, rfl⟩)
  go_ret
  exact ⟨rfl, rfl⟩

def kV (k : Kd) : Value := .agg #[.int .i64 k.c, .int .i64 k.v, .int .i64 k.a, .string k.n]
theorem kind_fin {w wz : World} {z0 z1 z2 z3 : Value} {n : ByteArray} {x y z : Int} {r : Value} (hr : Blk wz (w.heap.size + 1) 132 #[z0, z1, z2, z3]) (hB : Ch [] w wz) (he : r = .agg #[.int .i64 x, .int .i64 y, .int .i64 z, .string n])
    (a : Act) (h2 : a.tmps.getD 2 undef = .pointer (some ⟨w.heap.size + 1, 0, none⟩)) (h5 : a.defers = []) :
    bodyPost Tryz.prog Tryz.f78 (fun e w' => e = .returned r ∧ Ch [] w w') .ret a
      ((((wz.setCell ⟨w.heap.size + 1, 0, none⟩ (.int .i64 x)).setCell ⟨w.heap.size + 1, 1, none⟩ (.int .i64 y)).setCell ⟨w.heap.size + 1, 2, none⟩ (.int .i64 z)).setCell ⟨w.heap.size + 1, 3, none⟩ (.string n)) := by
  subst he
  have hbF : Blk ((((wz.setCell ⟨w.heap.size + 1, 0, none⟩ (.int .i64 x)).setCell ⟨w.heap.size + 1, 1, none⟩ (.int .i64 y)).setCell ⟨w.heap.size + 1, 2, none⟩ (.int .i64 z)).setCell ⟨w.heap.size + 1, 3, none⟩ (.string n)) (w.heap.size + 1) 132 #[.int .i64 x, .int .i64 y, .int .i64 z, .string n] := (((hr.set_ 0 _).set_ 1 _).set_ 2 _).set_ 3 _
  have hcF : Ch [w.heap.size + 1] wz ((((wz.setCell ⟨w.heap.size + 1, 0, none⟩ (.int .i64 x)).setCell ⟨w.heap.size + 1, 1, none⟩ (.int .i64 y)).setCell ⟨w.heap.size + 1, 2, none⟩ (.int .i64 z)).setCell ⟨w.heap.size + 1, 3, none⟩ (.string n)) := ((((Ch.refl _ _).set (by simp) _).set (by simp) _).set (by simp) _).set (by simp) _
  exact bodyPost_ret (results_cell_row (p := 2) (ty := 132) (by kernel_rfl) _ _ (w.heap.size + 1) 132 _ _ _ h2 hbF Tryz.underlying132 rfl (by kernel_rfl)) h5 ⟨rfl, hB.step hcF (by simp)⟩

set_option maxRecDepth 100000 in
set_option maxHeartbeats 2000000 in
theorem kindOf_ (nm : ByteArray) (ags : List Tm) (a : Option Addr) (c : Nat) (w : World) (hs : nm.size ≤ maxLen) :
    Calls Tryz.prog 78 #[.agg #[.string nm, .slice a ags.length c]] w fun e w' => e = .returned (kV (kdOf (.mk nm ags))) ∧ Ch [] w w' := by
  have hk : kV (kdOf (.mk nm ags)) = if ags.length ≠ 0 then kV ⟨3, 0, ags.length, nm⟩ else if numB nm = true then kV ⟨0, numV nm, 0, ⟨#[]⟩⟩ else if varB nm = true then kV ⟨2, 0, 0, nm⟩ else kV ⟨1, 0, 0, nm⟩ := by
    by_cases h : ags.length = 0
    · rw [kd0 h, if_neg (show ¬ (ags.length ≠ 0) from fun h2 => h2 h)]
      split
      · rfl
      · split <;> rfl
    · rw [kd3 h, if_pos h]
  generalize kV (kdOf (.mk nm ags)) = R at *
  have HK := Lib.hid hk; clear hk
  have hnum := fun wz => number_ nm wz hs
  have hvar := fun wz => variableT_ nm wz hs
  generalize ags.length = L at *
  obtain ⟨wA, hwA⟩ : ∃ wA, w.alloc (.cells #[.string nm, .slice a L c] 28) = wA := ⟨_, rfl⟩
  have hbx : Blk wA w.heap.size 28 #[.string nm, .slice a L c] := by rw [← hwA]; exact Blk.new _ _ _
  have hcA : Ch [] w wA := by rw [← hwA]; exact (Ch.refl _ _).alloc _
  have hsA : wA.heap.size = w.heap.size + 1 := by rw [← hwA]; simp
  obtain ⟨wB, hwB⟩ : ∃ wB, wA.alloc (.cells #[.int .i64 0, .int .i64 0, .int .i64 0, .string ⟨#[]⟩] 132) = wB := ⟨_, rfl⟩
  have hby : Blk wB (w.heap.size + 1) 132 #[.int .i64 0, .int .i64 0, .int .i64 0, .string ⟨#[]⟩] := by rw [← hwB, ← hsA]; exact Blk.new _ _ _
  have hbx2 : Blk wB w.heap.size 28 #[.string nm, .slice a L c] := by rw [← hwB]; exact hbx.alloc _
  have hcB : Ch [] w wB := by rw [← hwB]; exact hcA.alloc _
  have b0 := hbx2.cell 0
  have b1 := hbx2.cell 1
  clear hbx hcA
  by_cases hL : L = 0
  · subst hL
    cases hn : numB nm with
    | true =>
      have HR : Hid (R = kV ⟨0, numV nm, 0, ⟨#[]⟩⟩) := by unfold Hid; rw [HK.out, if_neg (by simp), if_pos hn]
      rw [hn] at hnum
      clear hn HK
      generalize numV nm = v at *
      go_enter Tryz.func78, Tryz.ntmps78
      go_wp2_with (go_at_call 86; refine (hnum _).mono ?_; rintro e w1 ⟨rfl, hc1⟩; have hby1 := hby.ch hc1 (by simp); have y0 := hby1.cell 0; have y1 := hby1.cell 1; have y2 := hby1.cell 2; have y3 := hby1.cell 3; have f0 := hby1.frozen 0; have f1 := hby1.frozen 1; have f2 := hby1.frozen 2; have f3 := hby1.frozen 3)
      exact kind_fin hby1 (hcB.trans hc1) HR.out _ (by rfl) (by rfl)
    | false =>
      rw [hn] at hnum
      cases hv : varB nm with
      | true =>
        have HR : Hid (R = kV ⟨2, 0, 0, nm⟩) := by unfold Hid; rw [HK.out, if_neg (by simp), if_neg (by simp [hn]), if_pos hv]
        rw [hv] at hvar
        clear hn hv HK
        generalize numV nm = v at *
        go_enter Tryz.func78, Tryz.ntmps78
        go_wp2_with (first
          | (go_at_call 86; refine (hnum _).mono ?_; rintro e w1 ⟨rfl, hc1⟩; have p0 := (hbx2.ch hc1 (by simp)).cell 0)
          | (go_at_call 54; refine (hvar _).mono ?_; rintro e w2 ⟨rfl, hc2⟩; have hby1 := (hby.ch hc1 (by simp)).ch hc2 (by simp); have q0 := ((hbx2.ch hc1 (by simp)).ch hc2 (by simp)).cell 0; have y0 := hby1.cell 0; have y1 := hby1.cell 1; have y2 := hby1.cell 2; have y3 := hby1.cell 3; have f0 := hby1.frozen 0; have f1 := hby1.frozen 1; have f2 := hby1.frozen 2; have f3 := hby1.frozen 3))
        exact kind_fin hby1 ((hcB.trans hc1).trans hc2) HR.out _ (by rfl) (by rfl)
      | false =>
        have HR : Hid (R = kV ⟨1, 0, 0, nm⟩) := by unfold Hid; rw [HK.out, if_neg (by simp), if_neg (by simp [hn]), if_neg (by simp [hv])]
        rw [hv] at hvar
        clear hn hv HK
        generalize numV nm = v at *
        go_enter Tryz.func78, Tryz.ntmps78
        go_wp2_with (first
          | (go_at_call 86; refine (hnum _).mono ?_; rintro e w1 ⟨rfl, hc1⟩; have p0 := (hbx2.ch hc1 (by simp)).cell 0)
          | (go_at_call 54; refine (hvar _).mono ?_; rintro e w2 ⟨rfl, hc2⟩; have hby1 := (hby.ch hc1 (by simp)).ch hc2 (by simp); have q0 := ((hbx2.ch hc1 (by simp)).ch hc2 (by simp)).cell 0; have y0 := hby1.cell 0; have y1 := hby1.cell 1; have y2 := hby1.cell 2; have y3 := hby1.cell 3; have f0 := hby1.frozen 0; have f1 := hby1.frozen 1; have f2 := hby1.frozen 2; have f3 := hby1.frozen 3))
        exact kind_fin hby1 ((hcB.trans hc1).trans hc2) HR.out _ (by rfl) (by rfl)
  · have d0 : decide (0 < L) = true := decide_eq_true (by omega)
    have d1 : decide ((0 : Int) < (L : Int)) = true := decide_eq_true (by omega)
    have HR : Hid (R = kV ⟨3, 0, L, nm⟩) := by unfold Hid; rw [HK.out, if_pos hL]
    clear hL HK hnum hvar
    have y0 := hby.cell 0
    have y1 := hby.cell 1
    have y2 := hby.cell 2
    have y3 := hby.cell 3
    have f0 := hby.frozen 0
    have f1 := hby.frozen 1
    have f2 := hby.frozen 2
    have f3 := hby.frozen 3
    go_enter Tryz.func78, Tryz.ntmps78
    go_wp2
    exact kind_fin hby hcB HR.out _ (by rfl) (by rfl)
end
end

section
open Go.RowKit

set_option maxRecDepth 100000 in
set_option maxHeartbeats 4000000 in
theorem cmpList_ (xs ys : List Tm) (p q : Nat → Prop) (va vb : Value) (w : World) (h : SlT p w va xs) (h' : SlT q w vb ys)
    (HC : ∀ x ∈ xs, ∀ y ∈ ys, ∀ (p q : Nat → Prop) (va vb : Value) (wz : World), SlT p wz va x.args → SlT q wz vb y.args → Calls Tryz.prog 42 #[.agg #[.string x.name, va], .agg #[.string y.name, vb]] wz fun e w' => e = .returned (.int .i64 (cmpT x y)) ∧ Ch [] wz w') :
    Calls Tryz.prog 79 #[va, vb] w fun e w' => e = .returned (.int .i64 (cmpTL xs ys)) ∧ Ch [] w w' := by
  obtain ⟨a, c, rfl, hlc, hmx⟩ := h.form
  obtain ⟨b, d, rfl, hld, hmy⟩ := h'.form
  unfold maxLen at hmx hmy
  have HCC := Lib.hid HC; clear HC
  go_enter Tryz.func79, Tryz.ntmps79
  go_wp2
  go_loopw [5, 6] (fun i _ wr => ∃ k : Nat, k ≤ xs.length ∧ k ≤ ys.length ∧ i = .int .i64 k ∧ Ch [] w wr ∧ Hid (∀ j (h1 : j < xs.length) (h2 : j < ys.length), j < k → cmpT xs[j] ys[j] = 0)) (fun i _ _ => xs.length - (intOf i).toNat)
  case atStart => exact ⟨0, Nat.zero_le _, Nat.zero_le _, rfl, Ch.refl _ _, fun j _ _ h => absurd h (Nat.not_lt_zero _)⟩
  case round =>
    obtain ⟨k, hk1, hk2, rfl, hB, HN⟩ := hrel
    by_cases hlt : k < xs.length ∧ k < ys.length
    · obtain ⟨h1, h2⟩ := hlt
      obtain ⟨ba, oa, a1, c1, rfl, hp1, d0, d1, hT1⟩ := (h.ch0 hB).at_ h1
      obtain ⟨bb, ob, a2, c2, rfl, hp2, e0, e1, hT2⟩ := (h'.ch0 hB).at_ h2
      have hcall := fun y : Later wr => later_call (HCC.out xs[k] (List.getElem_mem h1) ys[k] (List.getElem_mem h2) _ _ _ _ y.w (hT1.ch0 y.ch) (hT2.ch0 y.ch))
      have HG0 := Lib.hid (show cmpT xs[k] ys[k] = 0 → ∀ j (h1 : j < xs.length) (h2 : j < ys.length), j < k + 1 → cmpT xs[j] ys[j] = 0 from fun h0 j g1 g2 g3 => by
        rcases Nat.lt_succ_iff_lt_or_eq.1 g3 with g4 | g4
        · exact HN.out j g1 g2 g4
        · subst g4; exact h0)
      have HG1 := Lib.hid (show ∀ r, cmpT xs[k] ys[k] = r → r ≠ 0 → cmpTL xs ys = r from fun r hr h0 => by
        rw [← hr] at h0 ⊢
        exact cmpTL_at xs ys k h1 h2 (fun j hj => HN.out j _ _ hj) h0)
      have l0 := Later.cell d0
      have l1 := Later.cell d1
      have l2 := Later.cell e0
      have l3 := Later.cell e1
      have i1 : (k : Int) < (xs.length : Int) := by omega
      have i2 : (k : Int) < (ys.length : Int) := by omega
      have j1 : decide (k < xs.length) = true := decide_eq_true h1
      have j2 : decide (k < ys.length) = true := decide_eq_true h2
      clear d0 d1 e0 e1 hT1 hT2
      generalize xs[k] = x at *
      generalize ys[k] = y at *
      generalize cmpT x y = r at *
      go_wp2
      refine wp_region_later (by kernel_rfl) (lexB_of (by kernel_rfl)) ?_
      repeat (go_big_quiet_step (exact hcall _))
      refine wpQuiet_nil ?_
      intro w3 hw3
      clear hcall l0 l1 l2 l3
      by_cases hz : r = 0
      · subst hz
        have HX := Lib.hid (HG0.out rfl)
        go_wp2
        go_roundw
        case rel => exact ⟨k + 1, by omega, by omega, by go_num, hB.trans hw3, HX⟩
        case measure => simp [intOf]; omega
      · have e1 : (r != 0) = true := by simpa using hz
        have HX := Lib.hid (HG1.out r rfl hz)
        clear hz
        go_wp2
        go_ret
        exact ⟨by rw [HX.out]; rfl, hB.trans hw3⟩
    · have HX : Hid (cmpTL xs ys = ordN xs.length ys.length) := cmpTL_end xs ys (fun j g1 g2 => HN.out j g1 g2 (by omega))
      rcases Nat.lt_or_ge k xs.length with h1 | h1
      · have j1 : decide (k < xs.length) = true := decide_eq_true h1
        have j2 : decide (k < ys.length) = false := decide_eq_false (fun h2 => hlt ⟨h1, h2⟩)
        clear hlt h1
        go_wp2_with (go_at_call 80; refine (order_ _ _ _).mono ?_; rintro e w' ⟨rfl, rfl⟩)
        go_ret
        exact ⟨by rw [HX.out]; rfl, hB⟩
      · have j1 : decide (k < xs.length) = false := decide_eq_false (by omega)
        clear hlt h1
        go_wp2_with (go_at_call 80; refine (order_ _ _ _).mono ?_; rintro e w' ⟨rfl, rfl⟩)
        go_ret
        exact ⟨by rw [HX.out]; rfl, hB⟩

/-- what was there before a call that only lays memory, as rules of the walk -/
theorem Ch.cells {w w' : World} (h : Ch [] w w') : (∀ b o, b < w.heap.size → w'.cell? ⟨b, o, none⟩ = w.cell? ⟨b, o, none⟩) ∧ (∀ b o, b < w.heap.size → w'.frozen? ⟨b, o, none⟩ = w.frozen? ⟨b, o, none⟩) :=
  ⟨fun b o hb => h.below.cell (p := ⟨b, o, none⟩) hb, fun b o hb => h.below.frozen (p := ⟨b, o, none⟩) hb⟩
theorem Blk.new' (w : World) (n : Nat) (t : TypeId) (cs : Array Value) (h : n = w.heap.size) : Blk (w.alloc (.cells cs t)) n t cs := by subst h; exact Blk.new w t cs
/-- a block of four cells -/
def Blk4 (w : World) (g : Nat) (t : TypeId) : Prop := ∃ cs : Array Value, cs.size = 4 ∧ Blk w g t cs
section
variable {w w' : World} {g : Nat} {t : TypeId}
theorem Blk4.new' (w : World) (n : Nat) (t : TypeId) (x y z u : Value) (h : n = w.heap.size) : Blk4 (w.alloc (.cells #[x, y, z, u] t)) n t := ⟨_, rfl, Blk.new' _ _ _ _ h⟩
theorem Blk4.alloc (h : Blk4 w g t) (o : Obj) : Blk4 (w.alloc o) g t := by obtain ⟨cs, h1, h2⟩ := h; exact ⟨cs, h1, h2.alloc o⟩
theorem Blk4.drew (h : Blk4 w g t) : Blk4 w.drew g t := h
theorem Blk4.ch (h : Blk4 w g t) (hc : Ch [] w w') : Blk4 w' g t := by obtain ⟨cs, h1, h2⟩ := h; exact ⟨cs, h1, h2.ch hc (by simp)⟩
theorem Blk4.far4 (h : Blk4 w g t) {b : Nat} (hn : g ≠ b) (a0 a1 a2 a3 : Value) : Blk4 ((((w.setCell ⟨b, 0, none⟩ a0).setCell ⟨b, 1, none⟩ a1).setCell ⟨b, 2, none⟩ a2).setCell ⟨b, 3, none⟩ a3) g t := by
  obtain ⟨cs, h1, h2⟩ := h; exact ⟨cs, h1, (((h2.far hn _).far hn _).far hn _).far hn _⟩
theorem Blk4.set4 {a0 a1 a2 a3 : Value} (h : Blk4 w g t) : Blk ((((w.setCell ⟨g, 0, none⟩ a0).setCell ⟨g, 1, none⟩ a1).setCell ⟨g, 2, none⟩ a2).setCell ⟨g, 3, none⟩ a3) g t #[a0, a1, a2, a3] := by
  obtain ⟨cs, n, h⟩ := h
  have key : ∀ (cs : Array Value) (x y z u : Value), cs.size = 4 → (((cs.setIfInBounds 0 x).setIfInBounds 1 y).setIfInBounds 2 z).setIfInBounds 3 u = #[x, y, z, u] := by
    intro cs x y z u h
    apply Array.ext
    · simp [h]
    · intro i h1 h2
      have : i = 0 ∨ i = 1 ∨ i = 2 ∨ i = 3 := by simp at h2; omega
      rcases this with rfl | rfl | rfl | rfl <;> simp [h]
  have := (((h.set_ 0 a0).set_ 1 a1).set_ 2 a2).set_ 3 a3
  rwa [key _ _ _ _ _ n] at this
theorem Blk.far4 {cs : Array Value} (h : Blk w g t cs) {b : Nat} (hn : g ≠ b) (a0 a1 a2 a3 : Value) : Blk ((((w.setCell ⟨b, 0, none⟩ a0).setCell ⟨b, 1, none⟩ a1).setCell ⟨b, 2, none⟩ a2).setCell ⟨b, 3, none⟩ a3) g t cs :=
  (((h.far hn _).far hn _).far hn _).far hn _
theorem Ch.set4 {a : World} (h : Ch [] a w) {b : Nat} (hn : a.heap.size ≤ b) (a0 a1 a2 a3 : Value) : Ch [] a ((((w.setCell ⟨b, 0, none⟩ a0).setCell ⟨b, 1, none⟩ a1).setCell ⟨b, 2, none⟩ a2).setCell ⟨b, 3, none⟩ a3) :=
  (((h.set (.inr hn) _).set (.inr hn) _).set (.inr hn) _).set (.inr hn) _
end

set_option maxRecDepth 100000 in
set_option maxHeartbeats 8000000 in
theorem compare_ : ∀ (n : Nat) (t u : Tm), t.dep ≤ n → ∀ (B b : Nat), Nice B b t → Nice B b u → B ≤ maxLen → ∀ (p q : Nat → Prop) (va vb : Value) (w : World), SlT p w va t.args → SlT q w vb u.args →
    Calls Tryz.prog 42 #[.agg #[.string t.name, va], .agg #[.string u.name, vb]] w fun e w' => e = .returned (.int .i64 (cmpT t u)) ∧ Ch [] w w' := by
  intro n
  induction n with
  | zero => intro t u ht; cases t; simp [Tm.dep] at ht
  | succ n ih =>
    intro t u ht B b hN1 hN2 hBm p q va vb w h h'
    obtain ⟨nm, xs⟩ := t
    obtain ⟨mm, ys⟩ := u
    simp only [Tm.args, Tm.name, Tm.dep] at h h' ht ⊢
    simp only [Nice] at hN1 hN2
    have hlist := fun wz (hz : Ch [] w wz) => cmpList_ xs ys p q va vb wz (h.ch0 hz) (h'.ch0 hz) (fun x hx y hy p q va vb wz hx1 hy1 => ih x y (by have := deps_mem hx; omega) B b (niceL_mem.1 hN1.2.2 x hx) (niceL_mem.1 hN2.2.2 y hy) hBm p q va vb wz hx1 hy1)
    obtain ⟨a, c, rfl, hlc, hmx⟩ := h.form
    obtain ⟨b, d, rfl, hld, hmy⟩ := h'.form
    have hk1 := fun wz => kindOf_ nm xs a c wz (by omega)
    have hk2 := fun wz => kindOf_ mm ys b d wz (by omega)
    have HE : Hid (cmpT (.mk nm xs) (.mk mm ys) = if kdEq (kdOf (.mk nm xs)) (kdOf (.mk mm ys)) = true then cmpTL xs ys else ordK (kdOf (.mk nm xs)) (kdOf (.mk mm ys))) := by unfold Hid; rw [cmpT]; rfl
    clear ih h h' hN1 hN2
    generalize cmpT (.mk nm xs) (.mk mm ys) = R at *
    generalize cmpTL xs ys = RL at *
    unfold kV at hk1 hk2
    generalize kdOf (.mk nm xs) = K1 at *
    generalize kdOf (.mk mm ys) = K2 at *
    obtain ⟨k1, v1, n1, s1⟩ := K1
    obtain ⟨k2, v2, n2, s2⟩ := K2
    simp only at hk1 hk2
    generalize xs.length = L at *
    generalize ys.length = M at *
    obtain ⟨wA, hwA⟩ : ∃ wA, w.alloc (.cells #[.string nm, .slice a L c] 28) = wA := ⟨_, rfl⟩
    have hbx : Blk wA w.heap.size 28 #[.string nm, .slice a L c] := by rw [← hwA]; exact Blk.new _ _ _
    have hcA : Ch [] w wA := by rw [← hwA]; exact (Ch.refl _ _).alloc _
    have hsA : wA.heap.size = w.heap.size + 1 := by rw [← hwA]; simp
    obtain ⟨wB, hwB⟩ : ∃ wB, wA.alloc (.cells #[.string mm, .slice b M d] 28) = wB := ⟨_, rfl⟩
    have hby : Blk wB wA.heap.size 28 #[.string mm, .slice b M d] := by rw [← hwB]; exact Blk.new _ _ _
    have hbx2 : Blk wB w.heap.size 28 #[.string nm, .slice a L c] := by rw [← hwB]; exact hbx.alloc _
    have hcB : Ch [] w wB := by rw [← hwB]; exact hcA.alloc _
    have b0 := hbx2.cell 0
    have b1 := hbx2.cell 1
    have b2 := hby.cell 0
    have b3 := hby.cell 1
    have hlt1 : w.heap.size < wB.heap.size := hbx2.lt
    have hlt2 : wA.heap.size < wB.heap.size := hby.lt
    clear hbx hsA
    have hS : ∀ wz, Ch [] wB wz → wz.cell? ⟨w.heap.size, 0, none⟩ = some (.string nm) ∧ wz.cell? ⟨w.heap.size, 1, none⟩ = some (.slice a L c) ∧ wz.cell? ⟨wA.heap.size, 0, none⟩ = some (.string mm) ∧ wz.cell? ⟨wA.heap.size, 1, none⟩ = some (.slice b M d) := fun wz hz => ⟨cell_ch b0 hz (by simp), cell_ch b1 hz (by simp), cell_ch b2 hz (by simp), cell_ch b3 hz (by simp)⟩
    go_enter Tryz.func42, Tryz.ntmps42
    go_upto_region 1 with fail
    go_cut [5, 6] (fun s5 s6 wx => ∃ g5 g6 : Nat, s5 = .pointer (some ⟨g5, 0, none⟩) ∧ s6 = .pointer (some ⟨g6, 0, none⟩) ∧ Blk wx g5 132 #[.int .i64 k1, .int .i64 v1, .int .i64 n1, .string s1] ∧ Blk wx g6 132 #[.int .i64 k2, .int .i64 v2, .int .i64 n2, .string s2] ∧ Ch [] wB wx)
    case first =>
      go_region_held3 (fun w' => w'.cell? ⟨w.heap.size, 0, none⟩ = some (.string nm) ∧ w'.cell? ⟨w.heap.size, 1, none⟩ = some (.slice a L c) ∧ w'.cell? ⟨wA.heap.size, 0, none⟩ = some (.string mm) ∧ w'.cell? ⟨wA.heap.size, 1, none⟩ = some (.slice b M d)) ((refine hS _ ?_; (repeat (first | with_reducible exact Ch.refl _ _ | with_reducible refine Ch.drew ?_ | with_reducible refine Ch.alloc ?_ _ | with_reducible refine Ch.trans ?_ (by assumption) | with_reducible refine Ch.set ?_ (.inr (by simp only; omega)) _))))
        (first
          | (go_at_call_of 78 (Value.agg #[Value.string nm, Value.slice a L c]); refine (hk1 _).mono ?_; rintro e w1 ⟨rfl, hc1⟩; obtain ⟨x1, y1⟩ := hc1.cells; have sz1 := hc1.size; (try simp only [World.size_drew, World.size_alloc] at sz1); (try have r1 : wB.heap.size < w1.heap.size := by omega); (try have r2 : wB.heap.size + 1 < w1.heap.size := by omega))
          | (go_at_call_of 78 (Value.agg #[Value.string mm, Value.slice b M d]); refine (hk2 _).mono ?_; rintro e w2 ⟨rfl, hc2⟩; obtain ⟨x2, y2⟩ := hc2.cells; have sz2 := hc2.size; (try simp only [World.size_alloc] at sz2); (try have r3 : wB.heap.size < w2.heap.size := by omega); (try have r4 : wB.heap.size + 1 < w2.heap.size := by omega); (try have r5 : w1.heap.size < w2.heap.size := by omega); (try have r6 : w1.heap.size + 1 < w2.heap.size := by omega)))
      all_goals
        go_wp2_with fail
        go_meet
        go_light
        refine ⟨_, _, rfl, rfl, ?_, ?_, ?_⟩
        · first | ((repeat (first | (with_reducible refine Blk.new' _ _ _ _ ?_ <;> (simp <;> done)) | with_reducible refine Blk.alloc ?_ _ | (with_reducible refine Blk.far4 ?_ ?_ _ _ _ _; rotate_left; omega))); done) | ((repeat (first | (with_reducible refine Blk.new' _ _ _ _ ?_ <;> (simp <;> done)) | with_reducible refine Blk.alloc ?_ _ | (with_reducible refine Blk.far4 ?_ ?_ _ _ _ _; rotate_left; omega))); with_reducible refine Blk4.set4 ?_; (repeat (first | (with_reducible refine Blk4.new' _ _ _ _ _ _ _ ?_ <;> (simp <;> done)) | with_reducible refine Blk4.alloc ?_ _ | with_reducible refine Blk4.drew ?_ | (with_reducible apply Blk4.ch; rotate_left; assumption) | (with_reducible refine Blk4.far4 ?_ ?_ _ _ _ _; rotate_left; omega))); done)
        · first | ((repeat (first | (with_reducible refine Blk.new' _ _ _ _ ?_ <;> (simp <;> done)) | with_reducible refine Blk.alloc ?_ _ | (with_reducible refine Blk.far4 ?_ ?_ _ _ _ _; rotate_left; omega))); done) | ((repeat (first | (with_reducible refine Blk.new' _ _ _ _ ?_ <;> (simp <;> done)) | with_reducible refine Blk.alloc ?_ _ | (with_reducible refine Blk.far4 ?_ ?_ _ _ _ _; rotate_left; omega))); with_reducible refine Blk4.set4 ?_; (repeat (first | (with_reducible refine Blk4.new' _ _ _ _ _ _ _ ?_ <;> (simp <;> done)) | with_reducible refine Blk4.alloc ?_ _ | with_reducible refine Blk4.drew ?_ | (with_reducible apply Blk4.ch; rotate_left; assumption) | (with_reducible refine Blk4.far4 ?_ ?_ _ _ _ _; rotate_left; omega))); done)
        · (repeat (first | with_reducible exact Ch.refl _ _ | (with_reducible refine Ch.set4 ?_ ?_ _ _ _ _; rotate_left; omega) | with_reducible refine Ch.drew ?_ | with_reducible refine Ch.alloc ?_ _ | (with_reducible apply Ch.trans; rotate_left; assumption)))
    case rest =>
      obtain ⟨g5, g6, rfl, rfl, h5, h6, hcw⟩ := hcut
      have u0 := h5.cell 0
      have u1 := h5.cell 1
      have u2 := h5.cell 2
      have u3 := h5.cell 3
      have v0 := h6.cell 0
      have v1' := h6.cell 1
      have v2' := h6.cell 2
      have v3 := h6.cell 3
      have hall := hS _ hcw
      obtain ⟨z0, z1, z2, z3⟩ := hall
      have hli := hlist _ (hcB.trans hcw)
      have hw := hcB.trans hcw
      clear hS hlist hk1 hk2 hwA hwB hcA hbx2 hby b0 b1 b2 b3 h5 h6 hcB
      have HE' : Hid (R = if k1 = k2 ∧ v1 = v2 ∧ n1 = n2 ∧ s1 = s2 then RL else if k1 ≠ k2 then ordN k1 k2 else if v1 ≠ v2 then ordN v1 v2 else if n1 ≠ n2 then ordN n1 n2 else ordS s1 s2) := by
        unfold Hid
        rw [HE.out]
        by_cases h : k1 = k2 ∧ v1 = v2 ∧ n1 = n2 ∧ s1 = s2
        · rw [if_pos h, if_pos (kdEq_iff.2 h)]
        · rw [if_neg h, if_neg (fun h2 => h (kdEq_iff.1 h2))]; rfl
      clear HE
      by_cases e1 : k1 = k2
      · subst e1
        by_cases e2 : v1 = v2
        · subst e2
          by_cases e3 : n1 = n2
          · subst e3
            by_cases e4 : s1 = s2
            · subst e4
              have HX : Hid (R = RL) := by unfold Hid; rw [HE'.out, if_pos ⟨rfl, rfl, rfl, rfl⟩]
              go_wp2_with (go_at_call 79; refine hli.mono ?_; rintro e w5 ⟨rfl, hc5⟩)
              go_ret
              exact ⟨by rw [HX.out]; rfl, hw.trans hc5⟩
            · have HX : Hid (R = ordS s1 s2) := by unfold Hid; rw [HE'.out, if_neg (fun h => e4 h.2.2.2), if_neg (by simp), if_neg (by simp), if_neg (by simp)]
              have q1 : (s1.toList == s2.toList) = false := by rw [beqS]; exact decide_eq_false e4
              clear e4
              go_wp2_with (go_at_call 81; refine (strCompare_ _ _ _).mono ?_; rintro e w5 ⟨rfl, rfl⟩)
              go_ret
              exact ⟨by rw [HX.out]; rfl, hw⟩
          · have HX : Hid (R = ordN n1 n2) := by unfold Hid; rw [HE'.out, if_neg (fun h => e3 h.2.2.1), if_neg (by simp), if_neg (by simp), if_pos e3]
            have q1 : ((n1 : Int) == (n2 : Int)) = false := by rw [beq_eq_false_iff_ne]; omega
            have q2 : ((n1 : Int) != (n2 : Int)) = true := by simp; omega
            clear e3
            go_wp2_with (go_at_call 80; refine (order_ _ _ _).mono ?_; rintro e w5 ⟨rfl, rfl⟩)
            go_ret
            exact ⟨by rw [HX.out]; rfl, hw⟩
        · have HX : Hid (R = ordN v1 v2) := by unfold Hid; rw [HE'.out, if_neg (fun h => e2 h.2.1), if_neg (by simp), if_pos e2]
          have q1 : ((v1 : Int) == (v2 : Int)) = false := by rw [beq_eq_false_iff_ne]; omega
          have q2 : ((v1 : Int) != (v2 : Int)) = true := by simp; omega
          clear e2
          go_wp2_with (go_at_call 80; refine (order_ _ _ _).mono ?_; rintro e w5 ⟨rfl, rfl⟩)
          go_ret
          exact ⟨by rw [HX.out]; rfl, hw⟩
      · have HX : Hid (R = ordN k1 k2) := by unfold Hid; rw [HE'.out, if_neg (fun h => e1 h.1), if_pos e1]
        have q1 : ((k1 : Int) == (k2 : Int)) = false := by rw [beq_eq_false_iff_ne]; omega
        have q2 : ((k1 : Int) != (k2 : Int)) = true := by simp; omega
        clear e1
        go_wp2_with (go_at_call 80; refine (order_ _ _ _).mono ?_; rintro e w5 ⟨rfl, rfl⟩)
        go_ret
        exact ⟨by rw [HX.out]; rfl, hw⟩
end
end Go.Proofs.YtgljjapglgcpdaaGreatDoor
