
/-
  The contracts of the parser's reader: token, is, accept, expect, begins.
  The contracts of the parser's term and compound.
  The contracts of the parser's atom, literal, rule, rules.
  The contract of the parser's rule. PRINTED BY wip/gen/paru.py.
  The contracts of the parser's rules, read, Parse.
-/
import Derived.Test.YtgljjapglgcpdaaGreatDoorChLx
import Derived.Test.YtgljjapglgcpdaaGreatDoorRead
import Derived.Test.YtgljjapglgcpdaaGreatDoorChVld
import Derived.Test.YtgljjapglgcpdaaGreatDoorTmCmp
import Derived.Laws.ResultCell
import Derived.Test.YtgljjapglgcpdaaGreatDoorHeldF
import Derived.Test.YtgljjapglgcpdaaGreatDoorChPrR
namespace Go.Proofs.YtgljjapglgcpdaaGreatDoor

section
section
open Go.RowKit

/-- the reader: its tokens, its place -/
structure Rd (w : World) (R : Nat) (tv : Value) (K : List Tok) (i : Nat) : Prop where
  blk : Blk w R 118 #[tv, .int .i64 (i : Int)]
  tks : SlTk (fun b => b < R) w tv K
section
variable {w w' : World} {R : Nat} {tv : Value} {K : List Tok} {i : Nat}
theorem SlTk.imp {p q : Nat → Prop} {v : Value} {ts : List Tok} (h : SlTk p w v ts) (hs : w.heap.size ≤ w'.heap.size) (hk : ∀ b, b < w.heap.size → p b → q b ∧ w'.heap[b]? = w.heap[b]?) : SlTk q w' v ts := by
  obtain ⟨css, h1, h2⟩ := h
  exact ⟨css, h1.imp hs hk, h2⟩
theorem Rd.ch (h : Rd w R tv K i) (hc : Ch [] w w') : Rd w' R tv K i := ⟨h.blk.ch hc (by simp), h.tks.imp hc.size fun b hb hp => ⟨hp, hc.block b hb (by simp)⟩⟩
theorem Rd.chS {S : List Nat} (h : Rd w R tv K i) (hc : Ch S w w') (hS : ∀ x ∈ S, R < x) : Rd w' R tv K i :=
  ⟨h.blk.ch hc (fun hm => Nat.lt_irrefl _ (hS R hm)), h.tks.imp hc.size fun b hb hp => ⟨hp, hc.block b hb (fun hm => by have := hS b hm; omega)⟩⟩
theorem Rd.next (h : Rd w R tv K i) : Rd (w.setCell ⟨R, 1, none⟩ (.int .i64 ((i + 1 : Nat) : Int))) R tv K (i + 1) :=
  ⟨h.blk.set_ 1 _, h.tks.imp (by simp [World.setCell]) fun b _ hp => ⟨hp, Below.heap_setCell _ _ _ _ (Nat.ne_of_lt hp)⟩⟩
theorem Rd.form (h : Rd w R tv K i) : ∃ a c, tv = .slice a K.length c ∧ K.length ≤ c ∧ c ≤ maxLen := by
  obtain ⟨css, h1, h2⟩ := h.tks
  have := Sl.form' h1
  rwa [h2.1] at this
theorem Rd.at_ (h : Rd w R tv K i) (hi : i < K.length) : ∃ b o c a, tv = .slice (some ⟨b, o, none⟩) K.length c ∧ b < w.heap.size ∧ c ≤ maxLen ∧
    w.cell? ⟨b, o + i * 3, none⟩ = some (.int .i64 K[i].1) ∧ w.cell? ⟨b, o + i * 3 + 1, none⟩ = some (.string K[i].2) ∧ w.cell? ⟨b, o + i * 3 + 2, none⟩ = some (.int .i64 a) := by
  obtain ⟨a, c, rfl, hlc, hm⟩ := h.form
  obtain ⟨css, h1, h2⟩ := h.tks
  have hi' : i < css.length := by rw [h2.1]; exact hi
  obtain ⟨b, o, rfl, hp, hc⟩ := Sl.at_ h1 (List.getElem?_eq_getElem hi')
  obtain ⟨x, hx⟩ := h2.2 i K[i] css[i] (List.getElem?_eq_getElem hi) (List.getElem?_eq_getElem hi')
  rw [hx] at hc
  exact ⟨b, o, c, x, rfl, hp.2, hm, by simpa using hc 0 _ rfl, by simpa [Nat.add_assoc] using hc 1 _ rfl, by simpa [Nat.add_assoc] using hc 2 _ rfl⟩
end

theorem token_fin {w wF : World} {g : Nat} {k a : Int} {s : ByteArray} (hbF : Blk wF g 120 #[.int .i64 k, .string s, .int .i64 a]) (hfin : Ch [] w wF)
    (c : Act) (h2 : c.tmps.getD 2 undef = .pointer (some ⟨g, 0, none⟩)) (h5 : c.defers = []) :
    bodyPost Tryz.prog Tryz.f69 (fun e w' => (∃ a : Int, e = .returned (.agg #[.int .i64 k, .string s, .int .i64 a])) ∧ Ch [] w w') .ret c wF := by
  have hrr := results_cell_row (p := 2) (ty := 120) (fn := Tryz.f69) (by kernel_rfl) c.tmps _ g 120 _ _ _ h2 hbF Tryz.underlying120 rfl (by kernel_rfl)
  exact bodyPost_ret hrr h5 ⟨⟨a, rfl⟩, hfin⟩

set_option maxRecDepth 100000 in
set_option maxHeartbeats 8000000 in
theorem token_ {w : World} {R : Nat} {tv : Value} {K : List Tok} {i : Nat} (h : Rd w R tv K i) (hi : i < K.length) :
    Calls Tryz.prog 69 #[.pointer (some ⟨R, 0, none⟩)] w fun e w' => (∃ a : Int, e = .returned (.agg #[.int .i64 K[i].1, .string K[i].2, .int .i64 a])) ∧ Ch [] w w' := by
  obtain ⟨b, o, c, a, rfl, hb, hc, c0, c1, c2⟩ := h.at_ hi
  generalize K[i] = x at *
  obtain ⟨xk, xs⟩ := x
  simp only at c0 c1 ⊢
  have hbk := h.blk
  clear h
  have hcA : Ch [] w (w.alloc (.cells #[.int .i64 0, .string ⟨#[]⟩, .int .i64 0] 120)) := (Ch.refl _ _).alloc _
  have hbn := Blk.new w 120 #[.int .i64 0, .string ⟨#[]⟩, .int .i64 0]
  generalize hwA : (w.alloc (.cells #[.int .i64 0, .string ⟨#[]⟩, .int .i64 0] 120)) = wA at *
  have c0 := cell_ch c0 hcA (by simp)
  have c1 := cell_ch c1 hcA (by simp)
  have c2 := cell_ch c2 hcA (by simp)
  have hbA := hbk.ch hcA (by simp)
  have r0 := hbA.cell 0
  have r1 := hbA.cell 1
  have n0 := hbn.cell 0
  have n1 := hbn.cell 1
  have n2 := hbn.cell 2
  have f0 := hbn.frozen 0
  have f1 := hbn.frozen 1
  have f2 := hbn.frozen 2
  unfold maxLen at hc
  go_enter Tryz.func69, Tryz.ntmps69
  go_wp2
  go_region
  all_goals
    have hbF := (((hbn.set_ 0 (.int .i64 xk)).set_ 1 (.string xs)).set_ 2 (.int .i64 a)).drew
    have hfin := ((((Ch.refl [w.heap.size] wA).set (p := ⟨w.heap.size, 0, none⟩) (by simp) (.int .i64 xk)).set (p := ⟨w.heap.size, 1, none⟩) (by simp) (.string xs)).set (p := ⟨w.heap.size, 2, none⟩) (by simp) (.int .i64 a)).drew
    have hF := hcA.step hfin (fun x hx => .inr (by simp at hx; omega))
    go_wp2
    exact token_fin hbF hF _ (by rfl) (by rfl)

theorem fld0 (k : Int) (s : ByteArray) (a : Int) (w : World) : (Instr.field 120 (.agg #[.int .i64 k, .string s, .int .i64 a]) 0).run Tryz.prog w = .ok (.int .i64 k) w := by kernel_rfl
theorem fld1 (k : Int) (s : ByteArray) (a : Int) (w : World) : (Instr.field 120 (.agg #[.int .i64 k, .string s, .int .i64 a]) 1).run Tryz.prog w = .ok (.string s) w := by kernel_rfl
/-- is the token this symbol or word -/
def isT (x : Tok) (s : ByteArray) : Bool := (decide (x.1 = 4) || decide (x.1 = 5)) && decide (x.2 = s)
set_option maxRecDepth 100000 in
set_option maxHeartbeats 8000000 in
theorem is_ {w : World} {R : Nat} {tv : Value} {K : List Tok} {i : Nat} (h : Rd w R tv K i) (hi : i < K.length) (s : ByteArray) :
    Calls Tryz.prog 126 #[.pointer (some ⟨R, 0, none⟩), .string s] w fun e w' => e = .returned (.bool (isT K[i] s)) ∧ Ch [] w w' := by
  have htk := token_ h hi
  generalize K[i] = x at *
  obtain ⟨xk, xs⟩ := x
  simp only at htk
  have HI := Lib.hid (show isT (xk, xs) s = ((decide (xk = 4) || decide (xk = 5)) && decide (xs = s)) from rfl)
  generalize isT (xk, xs) s = q at *
  clear h
  have hq : (xs.toList == s.toList) = decide (xs = s) := beqS _ _
  generalize decide (xs = s) = r at *
  by_cases h4 : xk = 4
  · subst h4
    have HQ := Lib.hid (show q = r by rw [HI.out]; simp)
    clear HI
    go_enter Tryz.func126, Tryz.ntmps126
    go_wp2_with (go_at_call 69; refine htk.mono ?_; rintro e w1 ⟨⟨a, rfl⟩, hc1⟩; have hbn := Blk.new w1 120 #[.int .i64 4, .string xs, .int .i64 a]; have n0 := hbn.cell 0; have n1 := hbn.cell 1)
    go_ret
    exact ⟨by rw [HQ.out]; rfl, hc1.alloc _⟩
  · have i4 : (xk == 4) = false := by simpa using h4
    by_cases h5 : xk = 5
    · subst h5
      have HQ := Lib.hid (show q = r by rw [HI.out]; simp)
      clear HI
      go_enter Tryz.func126, Tryz.ntmps126
      go_wp2_with (go_at_call 69; refine htk.mono ?_; rintro e w1 ⟨⟨a, rfl⟩, hc1⟩; have hbn := Blk.new w1 120 #[.int .i64 5, .string xs, .int .i64 a]; have n0 := hbn.cell 0; have n1 := hbn.cell 1)
      go_ret
      exact ⟨by rw [HQ.out]; rfl, hc1.alloc _⟩
    · have i5 : (xk == 5) = false := by simpa using h5
      have HQ := Lib.hid (show q = false by rw [HI.out]; simp [h4, h5])
      clear HI h4 h5
      go_enter Tryz.func126, Tryz.ntmps126
      go_wp2_with (go_at_call 69; refine htk.mono ?_; rintro e w1 ⟨⟨a, rfl⟩, hc1⟩; have hbn := Blk.new w1 120 #[.int .i64 xk, .string xs, .int .i64 a]; have n0 := hbn.cell 0; have n1 := hbn.cell 1)
      go_ret
      exact ⟨by rw [HQ.out]; rfl, hc1.alloc _⟩

set_option maxRecDepth 100000 in
set_option maxHeartbeats 4000000 in
theorem accept_no {w : World} {R : Nat} {tv : Value} {K : List Tok} {i : Nat} (h : Rd w R tv K i) (hi : i < K.length) (s : ByteArray) (hq : isT K[i] s = false) :
    Calls Tryz.prog 107 #[.pointer (some ⟨R, 0, none⟩), .string s] w fun e w' => e = .returned (.bool false) ∧ Rd w' R tv K i ∧ Ch [] w w' := by
  have his := is_ h hi s
  rw [hq] at his
  go_enter Tryz.func107, Tryz.ntmps107
  go_wp2_with (go_at_call 126; refine his.mono ?_; rintro e w1 ⟨rfl, hc1⟩)
  go_ret
  exact ⟨rfl, h.ch hc1, hc1⟩
set_option maxRecDepth 100000 in
set_option maxHeartbeats 4000000 in
theorem accept_yes {w : World} {R : Nat} {tv : Value} {K : List Tok} {i : Nat} (h : Rd w R tv K i) (hi : i < K.length) (s : ByteArray) (hq : isT K[i] s = true) :
    Calls Tryz.prog 107 #[.pointer (some ⟨R, 0, none⟩), .string s] w fun e w' => e = .returned (.bool true) ∧ Rd w' R tv K (i + 1) ∧ Ch [R] w w' := by
  have his := is_ h hi s
  rw [hq] at his
  obtain ⟨av, c, _, hlc, hm⟩ := h.form
  unfold maxLen at hm
  go_enter Tryz.func107, Tryz.ntmps107
  go_wp2_with (go_at_call 126; refine his.mono ?_; rintro e w1 ⟨rfl, hc1⟩; have hr1 := (h.ch hc1).blk; have x0 := hr1.cell 1; have f0 := hr1.frozen 1; have hnx := (h.ch hc1).next)
  go_ret
  exact ⟨rfl, hnx, (hc1.of_nil).set (by simp) _⟩

set_option maxRecDepth 100000 in
theorem expect_ {w : World} {R : Nat} {tv : Value} {K : List Tok} {i : Nat} (h : Rd w R tv K i) (hi : i < K.length) (s : ByteArray) (hq : isT K[i] s = true) :
    Calls Tryz.prog 109 #[.pointer (some ⟨R, 0, none⟩), .string s] w fun e w' => e = .returned (.tuple #[]) ∧ Rd w' R tv K (i + 1) ∧ Ch [R] w w' := by
  have hac := accept_yes h hi s hq
  go_enter Tryz.func109, Tryz.ntmps109
  go_wp2_with (go_at_call 107; refine hac.mono ?_; rintro e w1 ⟨rfl, h1, hc1⟩)
  go_end0
  exact ⟨rfl, h1, hc1⟩

/-! ### what the reader stands before -/
/-- the tokens from i on are a, then r -/
def Bef (K : List Tok) (i : Nat) (a : List Tok) (r : List Tok) : Prop := K.drop i = a ++ r
theorem Bef.lt {K : List Tok} {i : Nat} {x : Tok} {a r : List Tok} (h : Bef K i (x :: a) r) : i < K.length := by
  unfold Bef at h
  have := congrArg List.length h
  simp only [List.length_drop, List.cons_append, List.length_cons] at this
  omega
theorem Bef.get {K : List Tok} {i : Nat} {x : Tok} {a r : List Tok} (h : Bef K i (x :: a) r) : K[i]'h.lt = x := by
  have h1 : (K.drop i)[0]? = some x := by rw [h]; rfl
  rw [List.getElem?_drop, Nat.add_zero, List.getElem?_eq_getElem h.lt] at h1
  exact Option.some.inj h1
theorem Bef.next {K : List Tok} {i : Nat} {x : Tok} {a r : List Tok} (h : Bef K i (x :: a) r) : Bef K (i + 1) a r := by
  unfold Bef at h ⊢
  rw [← List.drop_drop, h]
  rfl
theorem Bef.app {K : List Tok} {i : Nat} {a b r : List Tok} : Bef K i (a ++ b) r ↔ Bef K i a (b ++ r) := by
  unfold Bef; rw [List.append_assoc]
theorem Bef.skip {K : List Tok} {i : Nat} {a r : List Tok} (h : Bef K i a r) : Bef K (i + a.length) [] r := by
  unfold Bef at h ⊢
  rw [← List.drop_drop, h, List.drop_left']
  · rfl
  · rfl
theorem Bef.nil {K : List Tok} {i : Nat} {x : Tok} {r : List Tok} (h : Bef K i [] (x :: r)) : Bef K i [x] r := h
/-- the token behind a term is not a bracket that opens -/
def NoP (r : List Tok) : Prop := ∃ x q, r = x :: q ∧ isT x (bL 40) = false
end
end

section
section
open Go.RowKit

/-- what a function that reads a term promises -/
def PC (f : Nat) (l : Nat) (t : Tm) : Prop := ∀ (w : World) (R : Nat) (tv : Value) (K : List Tok) (i : Nat) (rest : List Tok) (lev : Int), Rd w R tv K i → Bef K i (tkT t) rest → NoP rest → 0 < lev → lev + (l : Int) = 5 →
  Calls Tryz.prog f #[.pointer (some ⟨R, 0, none⟩), .int .i64 lev] w fun e w' => ∃ v', e = .returned (.agg #[.string t.name, v']) ∧ SlT (fun b => w.heap.size ≤ b) w' v' t.args ∧ Rd w' R tv K (i + (tkT t).length) ∧ Ch [R] w w'

/-- the tokens of arguments from one of them on -/
def remT : List Tm → List Tok | [] => [] | a :: r => tkT a ++ (tkC r ++ [(4, bL 41)])
theorem tkC_cons (b : Tm) (r : List Tm) : tkC (b :: r) ++ [(4, bL 41)] = (4, bL 44) :: remT (b :: r) := by
  simp only [tkC, remT, List.cons_append, List.append_assoc]
theorem tkT_args (nm : ByteArray) (ags : List Tm) (h : ags ≠ []) : tkT (.mk nm ags) = (1, nm) :: (4, bL 40) :: remT ags := by
  cases ags with
  | nil => exact absurd rfl h
  | cons a r => rfl
theorem wrapI {n : Int} (h1 : -1000 ≤ n) (h2 : n ≤ 1000) : IntKind.i64.wrap n = n := by
  rw [IntKind.wrap_i64]; omega
theorem compound_fin {w wz : World} {B1 R : Nat} {nm : ByteArray} {tv va : Value} {K : List Tok} {i : Nat} {ags : List Tm} {z0 z1 : Value} (hr4 : Blk wz B1 28 #[z0, z1]) (hB : Ch [R] w wz) (hl : B1 = w.heap.size) (hlt : R < w.heap.size)
    (a : Act) (h4 : a.tmps.getD 4 undef = .pointer (some ⟨B1, 0, none⟩)) (h5 : a.defers = [])
    (hin : SlT (fun b => w.heap.size + 1 ≤ b) wz va ags) (hR : Rd wz R tv K i) :
    bodyPost Tryz.prog Tryz.f125 (fun e w' => ∃ v', e = .returned (.agg #[.string nm, v']) ∧ SlT (fun b => w.heap.size ≤ b) w' v' ags ∧ Rd w' R tv K i ∧ Ch [R] w w') .ret a
      ((wz.setCell ⟨B1, 0, none⟩ (.string nm)).setCell ⟨B1, 1, none⟩ va) := by
  have hbF := (hr4.set_ 0 (.string nm)).set_ 1 va
  have hcF : Ch [B1] wz ((wz.setCell ⟨B1, 0, none⟩ (.string nm)).setCell ⟨B1, 1, none⟩ va) := ((Ch.refl _ _).set (by simp) _).set (by simp) _
  refine bodyPost_ret (results_cell_row (p := 4) (ty := 28) (by kernel_rfl) _ _ B1 28 _ _ _ h4 hbF Tryz.underlying28 rfl (by kernel_rfl)) h5 ?_
  exact ⟨va, rfl, (hin.ch hcF (by intro b _ hb; simp; omega)).weak (fun b _ hb => by omega), hR.chS hcF (by simp; omega), hB.step hcF (by simp; omega)⟩

set_option maxRecDepth 100000 in
set_option maxHeartbeats 4000000 in
theorem compound_ (l : Nat) (ih : ∀ t, vldT l t = true → PC 141 l t) (t : Tm) (hv : vldT (l + 1) t = true) (hn : nameB t.name = true) : PC 125 (l + 1) t := by
  intro w R tv K i rest lev hR hB hP hlev0 hlev
  obtain ⟨nm, ags⟩ := t
  have hv' : (decide (ags.length ≤ 4) && (if ags.length = 0 then leafB nm else ags.all (vldT l) && nameB nm)) = true := hv
  simp only [Bool.and_eq_true, decide_eq_true_eq] at hv'
  obtain ⟨hl4, hall⟩ := hv'
  simp only [Tm.args, Tm.name] at hn ⊢
  have hRlt := hR.blk.lt
  have hcA : Ch [] w (w.alloc (.cells #[.string ⟨#[]⟩, .slice none 0 0] 28)) := (Ch.refl _ _).alloc _
  have hb1 := Blk.new w 28 #[.string ⟨#[]⟩, .slice none 0 0]
  have hsA : (w.alloc (.cells #[.string ⟨#[]⟩, .slice none 0 0] 28)).heap.size = w.heap.size + 1 := by simp
  generalize hwA : w.alloc (.cells #[.string ⟨#[]⟩, .slice none 0 0] 28) = wA at *
  have hRA := hR.ch hcA
  by_cases h0 : ags = []
  · subst h0
    have hk := kind_name hn
    have hB1 : Bef K i [(1, nm)] rest := by simpa [tkT, hk] using hB
    have htk := token_ hRA hB1.lt
    rw [hB1.get] at htk
    obtain ⟨x, q, rfl, hx⟩ := hP
    have hB2 : Bef K (i + 1) [x] q := hB1.next
    have hil : i + 1 < K.length := hB2.lt
    have HLT := Lib.hid hil
    have HGT : Hid (isT (K[i + 1]'hB2.lt) (bL 40) = false) := by unfold Hid; rw [hB2.get]; exact hx
    have hmx : K.length ≤ maxLen := by obtain ⟨_, c, _, h1, h2⟩ := hR.form; omega
    unfold maxLen at hmx
    have HSA := Lib.hid hsA
    have hf1 := fld1
    clear hsA hall hl4
    go_enter Tryz.func125, Tryz.ntmps125
    go_wp2_with (first
      | (go_at_call 69; refine htk.mono ?_; rintro e w1 ⟨⟨at_, rfl⟩, hc1⟩; have hb2 := Blk.new w1 28 #[.string nm, .slice none 0 0]; have hR2 := (hRA.ch hc1).ch ((Ch.refl [] w1).alloc (.cells #[.string nm, .slice none 0 0] 28)); have x0 := hR2.blk.cell 1; have f0 := hR2.blk.frozen 1; have hac := accept_no hR2.next HLT.out (bL 40) HGT.out; have hsz1 := hc1.size; have hb1A := ((hb1.ch hc1 (by simp)).alloc (.cells #[.string nm, .slice none 0 0] 28)).far (p := ⟨R, 1, none⟩) (by simp; omega) (.int .i64 ((i + 1 : Nat) : Int)); have hb2A := hb2.far (p := ⟨R, 1, none⟩) (by have := HSA.out; simp; omega) (.int .i64 ((i + 1 : Nat) : Int)))
      | (go_at_call 107; refine hac.mono ?_; rintro e w2 ⟨rfl, hR3, hc3⟩; have hb1F := hb1A.ch hc3 (by simp); have hb2F := hb2A.ch hc3 (by simp); have y0 := hb2F.cell 0; have y1 := hb2F.cell 1; have z0 := hb1F.cell 0; have z1 := hb1F.cell 1; have g0 := hb1F.frozen 0; have g1 := hb1F.frozen 1; have hcW := ((hcA.trans (hc1.alloc (.cells #[.string nm, .slice none 0 0] 28))).of_nil.set (S := [R]) (p := ⟨R, 1, none⟩) (by simp) (.int .i64 ((i + 1 : Nat) : Int))).call hc3))
    refine compound_fin hb1F hcW rfl hRlt _ (by rfl) (by rfl) ?_ hR3
    exact ⟨[], Sl.nil _ _ _, by simp [TmsR]⟩
  · have hne0 : ags.length ≠ 0 := by simpa using h0
    rw [if_neg hne0, Bool.and_eq_true, List.all_eq_true] at hall
    have hall' := hall.1
    rw [tkT_args nm ags h0] at hB
    have htk := token_ hRA hB.lt
    rw [hB.get] at htk
    have hB2 := hB.next
    have hil : i + 1 < K.length := hB2.lt
    have HLT := Lib.hid hil
    have HGT : Hid (isT (K[i + 1]'hil) (bL 40) = true) := by unfold Hid; rw [hB2.get]; decide
    have HLN := Lib.hid (show (tkT (.mk nm ags)).length = 2 + (remT ags).length by rw [tkT_args nm ags h0]; simp only [List.length_cons]; omega)
    have hB3 := hB2.next
    have hmx : K.length ≤ maxLen := by obtain ⟨_, c, _, h1, h2⟩ := hR.form; omega
    unfold maxLen at hmx
    have HSA := Lib.hid hsA
    have hf1 := fld1
    have HALL := Lib.hid hall'
    have HIH := Lib.hid ih
    have HLV := Lib.hid hlev
    have hpos : 0 < ags.length := by omega
    clear hsA hall hall' ih h0 hn hB hB2 hv hlev
    go_enter Tryz.func125, Tryz.ntmps125
    go_wp2_with (first
      | (go_at_call 69; refine htk.mono ?_; rintro e w1 ⟨⟨at_, rfl⟩, hc1⟩; have hb2 := Blk.new w1 28 #[.string nm, .slice none 0 0]; have hR2 := (hRA.ch hc1).ch ((Ch.refl [] w1).alloc (.cells #[.string nm, .slice none 0 0] 28)); have x0 := hR2.blk.cell 1; have f0 := hR2.blk.frozen 1; have hac := accept_yes hR2.next HLT.out (bL 40) HGT.out; have hsz1 := hc1.size; have hb1A := ((hb1.ch hc1 (by simp)).alloc (.cells #[.string nm, .slice none 0 0] 28)).far (p := ⟨R, 1, none⟩) (by simp; omega) (.int .i64 ((i + 1 : Nat) : Int)); have hb2A := hb2.far (p := ⟨R, 1, none⟩) (by have := HSA.out; simp; omega) (.int .i64 ((i + 1 : Nat) : Int)))
      | (go_at_call 107; refine hac.mono ?_; rintro e w2 ⟨rfl, hR3, hc3⟩; have hb1F := hb1A.ch hc3 (by simp; omega); have hb2F := hb2A.ch hc3 (by have := HSA.out; simp; omega); have hcW := ((hcA.trans (hc1.alloc (.cells #[.string nm, .slice none 0 0] 28))).of_nil.set (S := [R]) (p := ⟨R, 1, none⟩) (by simp) (.int .i64 ((i + 1 : Nat) : Int))).trans hc3))
    have hl1 := hb1F.lt
    have hl2 := hb2F.lt
    have HB12 := Lib.hid (show w.heap.size < w1.heap.size by have := HSA.out; omega)
    clear hac hb1A hb2A x0 f0 hR2 hb2 htk
    generalize w1.heap.size = B2 at *
    obtain ⟨base, hbase⟩ : ∃ base, base = w2.heap.size := ⟨_, rfl⟩
    have HBS := Lib.hid (show B2 < base ∧ base ≤ w2.heap.size by omega)
    clear hbase hl1 hl2 hsz1
    go_loopw [21] (fun _ wr => ∃ (k i' : Nat) (v : Value), k < ags.length ∧ Ch [R] w wr ∧ Hid (base ≤ wr.heap.size) ∧ Rd wr R tv K i' ∧ Bef K i' (remT (ags.drop k)) rest ∧ Hid (i' + (remT (ags.drop k)).length = i + (tkT (.mk nm ags)).length) ∧ Blk wr w.heap.size 28 #[.string ⟨#[]⟩, .slice none 0 0] ∧ Blk wr B2 28 #[.string nm, v] ∧ OwnT wr base v (ags.take k)) (fun _ wr => K.length - (intOf ((wr.cell? ⟨R, 1, none⟩).getD undef)).toNat)
    case atStart => exact ⟨0, i + 2, _, hpos, hcW, HBS.out.2, hR3, hB3, by unfold Hid; rw [HLN.out, List.drop_zero]; omega, hb1F, hb2F, OwnT.nil _ _⟩
    case round =>
      obtain ⟨k, i', v, hk, hC, HSZ, hRd, hBef, HLE, hr1, hr2, ho⟩ := hrel
      obtain ⟨css, hown, htms⟩ := ho
      have hcl : css.length = k := by rw [htms.len]; simp; omega
      have HCL := Lib.hid hcl
      have hc4 : css.length ≤ 4 := by omega
      have HK := Lib.hid hk
      obtain ⟨av, cv, rfl⟩ := hown.form'
      have HLVB := Lib.hid (show ∀ b, (Value.slice av css.length cv).ownBlock = some b → base ≤ b ∧ b < wr.heap.size from fun b hb => hown.lt hb)
      have HMEM := Lib.hid (show ∀ b, b ∈ (Value.slice av css.length cv).ownBlock.toList → base ≤ b from fun b hb => by
        cases hvo : (Value.slice av css.length cv).ownBlock with
        | none => rw [hvo] at hb; cases hb
        | some g => rw [hvo] at hb; have := (hown.lt hvo).1; simp at hb; omega)
      have j4 : ((css.length : Int) == 4) = false := by simp only [beq_eq_false_iff_ne, ne_eq]; omega
      have HTS := Lib.hid (take_snoc ags k hk)
      have hdr : ags.drop k = ags[k] :: ags.drop (k + 1) := List.drop_eq_getElem_cons hk
      rw [hdr] at hBef
      have hHLE := HLE.out
      rw [hdr] at hHLE
      have hxv := HALL.out _ (List.getElem_mem hk)
      generalize ags[k] = x at *
      have hB1 : Bef K i' (tkT x) ((tkC (ags.drop (k + 1)) ++ [(4, bL 41)]) ++ rest) := Bef.app.1 hBef
      have hNoP : NoP ((tkC (ags.drop (k + 1)) ++ [(4, bL 41)]) ++ rest) := by
        cases ags.drop (k + 1) with
        | nil => exact ⟨(4, bL 41), rest, rfl, by decide⟩
        | cons b r => rw [tkC_cons]; exact ⟨(4, bL 44), _, rfl, by decide⟩
      have hBN := hB1.skip
      have hcall := (HIH.out x hxv) wr.drew R tv K i' _ (lev + 1) (hRd.ch ((Ch.refl [] wr).drew)) hB1 hNoP (by omega) (by have := HLV.out; omega)
      have hlv1 : lev ≤ 4 := by have := HLV.out; omega
      have hw1 : wrap64 (lev + 1) = lev + 1 := by unfold wrap64; omega
      have hw2 : IntKind.i64.wrap (lev + 1) = lev + 1 := wrapI (by omega) (by omega)
      have x1 := hr2.cell 1
      have hBR : R < w.heap.size ∧ R < B2 ∧ R < base := by have := HBS.out; have := HB12.out; omega
      have HBR := Lib.hid hBR
      have htl : (tkC (ags.drop (k + 1)) ++ [(4, bL 41)]).length + (tkT x).length = (remT (x :: ags.drop (k + 1))).length := by simp only [remT, List.length_append]; omega
      have HLE2 := Lib.hid (show i' + (tkT x).length + (tkC (ags.drop (k + 1)) ++ [(4, bL 41)]).length = i + (tkT (.mk nm ags)).length by omega)
      clear hBR htl hcl hdr hHLE HLE hxv hBef hB1 hNoP hk
      go_wp2
      go_region_law (first
        | (go_simp; (try rw [hw2]); go_at_call 141; refine hcall.mono ?_; rintro e w4 ⟨va, rfl, hva, hR4, hc4'⟩; obtain ⟨a5, c5, rfl, hl5, hm5⟩ := hva.form; have hr54 := (Blk.drew hr2).ch hc4' (by have := HBR.out; simp; omega); have x4 := hr54.cell 1; have x5 := (hr54.alloc (.cells #[.string x.name, .slice a5 x.args.length c5] 28)).cell 1)
        | (refine step_append_sl rfl _ _ _ rfl elT (base := base) (v := .slice av css.length cv) rfl (((Own.ch hown ((Ch.refl [] wr).drew) (by simp)).ch hc4' (fun b hb hm => by have := (HLVB.out b hb).1; have := HBR.out; simp at hm; omega)).ch ((Ch.refl [] w4).alloc _) (by simp)) rfl (Sl.one w4 2 28 [.string x.name, .slice a5 x.args.length c5] rfl (by simp [Value.oneCell'])) (by simp; omega) (by have h8 : wr.heap.size ≤ w4.heap.size := hc4'.size; have := HSZ.out; simp; omega) ?_; intro v6 w6 ho6 hc6 hat6 hn6; clear hn6; obtain ⟨a7, c7, rfl⟩ := ho6.form'; have hr56 := (hr54.alloc (.cells #[.string x.name, .slice a5 x.args.length c5] 28)).ch hc6 (fun hm => by have := HMEM.out _ hm; have := HBS.out; omega); have x6 := hr56.cell 1; have y6 := hr56.frozen 1))
      all_goals
        have hsz4 : wr.heap.size ≤ w4.heap.size := hc4'.size
        have hcA4 : Ch [R] wr (w4.alloc (.cells #[.string x.name, .slice a5 x.args.length c5] 28)) := (((Ch.refl [R] wr).drew).trans hc4').alloc _
        have hRo : ∀ b, (Value.slice av css.length cv).ownBlock = some b → b ∉ [R] := fun b hb hm => by have := (HLVB.out b hb).1; have := HBR.out; simp at hm; omega
        have hownA := hown.ch hcA4 hRo
        have htmsA := TmsR.imp (q := fun b => base ≤ b ∧ (Value.slice av css.length cv).ownBlock ≠ some b) hcA4.size (fun b hb hp => ⟨hp, hcA4.block b hb (by have := HBR.out; simp; omega)⟩) htms
        have hvaA : SlT (fun b => base ≤ b ∧ (Value.slice av css.length cv).ownBlock ≠ some b) (w4.alloc (.cells #[.string x.name, .slice a5 x.args.length c5] 28)) (.slice a5 x.args.length c5) x.args :=
          (hva.ch0 ((Ch.refl _ _).alloc _)).weak fun b _ hb => ⟨by have h9 : wr.heap.size ≤ b := hb; have := HSZ.out; omega, fun e => by have := (HLVB.out b e).2; have h9 : wr.heap.size ≤ b := hb; omega⟩
        have hoT := OwnT.add hownA htmsA hvaA hc6 hat6 ho6
        have hR6 : Rd w6 R tv K (i' + (tkT x).length) := (hR4.ch ((Ch.refl _ _).alloc (.cells #[.string x.name, .slice a5 x.args.length c5] 28))).chS hc6 (fun b hb => by have := HMEM.out b hb; have := HBR.out; omega)
        have hr16 := (((Blk.drew hr1).ch hc4' (by have := HBR.out; simp; omega)).alloc (.cells #[.string x.name, .slice a5 x.args.length c5] 28)).ch hc6 (fun hm => by have := HMEM.out _ hm; have := HBS.out; have := HB12.out; omega)
        have hB6 : Ch [R] w w6 := (hC.trans hcA4).step hc6 (fun b hb => .inr (by have := HMEM.out b hb; have := HBS.out; have := HB12.out; omega))
        have hcS : Ch [B2] w6 (w6.setCell ⟨B2, 1, none⟩ (.slice a7 (css.length + 1) c7)) := (Ch.refl _ _).set (by simp) _
        have hlv7 : (css ++ [[Value.string x.name, Value.slice a5 x.args.length c5]]).length = css.length + 1 := by simp
        rw [hlv7] at hoT
        have hoF := hoT.ch hcS (by have := HBS.out; simp; omega)
        have hxx : (Tm.mk x.name x.args) = x := by cases x; rfl
        rw [hxx, ← HTS.out] at hoF
        have hRF := hR6.chS hcS (by have := HBR.out; simp; omega)
        have hr1F := hr16.far (p := ⟨B2, 1, none⟩) (by have := HB12.out; simp; omega) (.slice a7 (css.length + 1) c7)
        have hr2F : Blk (w6.setCell ⟨B2, 1, none⟩ (.slice a7 (css.length + 1) c7)) B2 28 #[.string nm, .slice a7 (css.length + 1) c7] := hr56.set_ 1 _
        have hBF : Ch [R] w (w6.setCell ⟨B2, 1, none⟩ (.slice a7 (css.length + 1) c7)) := hB6.set (.inr (by have := HB12.out; simp; omega)) _
        have hszF : Hid (base ≤ (w6.setCell ⟨B2, 1, none⟩ (.slice a7 (css.length + 1) c7)).heap.size) := by have h1 := hcA4.size; have h2 := hc6.size; have h3 := hcS.size; have := HSZ.out; unfold Hid; omega
        have hr1c := hRd.blk.cell 1
        generalize (w6.setCell ⟨B2, 1, none⟩ (.slice a7 (css.length + 1) c7)) = wF at *
        generalize css.length + 1 = nF at *
        clear hoT hr56 hr54 x1 x4 x5 x6 y6 hat6 ho6 hvaA htmsA hownA hcA4 hva htms hown hcall hcS hr16 hB6 hc4' hxx hc6 hRo hR6 hR4
        have HRC := Lib.hid hr1c
        clear hr1c
        by_cases hlast : k + 1 < ags.length
        · have hd2 : ags.drop (k + 1) = ags[k + 1] :: ags.drop (k + 1 + 1) := List.drop_eq_getElem_cons hlast
          have htc : tkC (ags.drop (k + 1)) ++ [(4, bL 41)] = (4, bL 44) :: remT (ags.drop (k + 1)) := by rw [hd2]; exact tkC_cons _ _
          have hle3 := HLE2.out
          rw [htc] at hBN hle3
          have hBc : Bef K (i' + (tkT x).length) [(4, bL 44)] (remT (ags.drop (k + 1)) ++ rest) := hBN
          have hac := accept_yes hRF hBc.lt (bL 44) (by rw [hBc.get]; decide)
          have hIl := hBc.lt
          have hBn : Bef K (i' + (tkT x).length + 1) (remT (ags.drop (k + 1))) rest := hBc.next
          have HLE3 := Lib.hid hle3
          clear hBN hle3 htc hd2 hBc
          go_wp2_with (go_at_call 107; refine hac.mono ?_; rintro e w8 ⟨rfl, hR8, hc8⟩; clear hac)
          have hq8 := hR8.blk.cell 1
          go_roundw
          case rel =>
            refine ⟨k + 1, i' + (tkT x).length + 1, _, hlast, hBF.trans hc8, by have := hszF.out; have := hc8.size; unfold Hid; omega, hR8, hBn, ?_, hr1F.ch hc8 (by have := HBR.out; simp; omega), hr2F.ch hc8 (by have := HBR.out; simp; omega), hoF.ch hc8 (by have := HBR.out; simp; omega)⟩
            have := HLE3.out
            simp only [List.length_cons] at this
            unfold Hid; omega
          case measure =>
            rw [hq8, HRC.out]
            simp [intOf]
            omega
        · have hk1 : k + 1 = ags.length := by have := HK.out; omega
          have hd2 : ags.drop (k + 1) = [] := List.drop_of_length_le (by omega)
          have hle3 := HLE2.out
          rw [hd2] at hBN hle3
          rw [hk1, List.take_length] at hoF
          have hBc : Bef K (i' + (tkT x).length) [(4, bL 41)] rest := hBN
          have hac := accept_no hRF hBc.lt (bL 44) (by rw [hBc.get]; decide)
          have HIL := Lib.hid hBc.lt
          have HG2 : Hid (isT (K[i' + (tkT x).length]'HIL.out) (bL 41) = true) := by unfold Hid; rw [hBc.get]; decide
          have HI : Hid (i' + (tkT x).length + 1 = i + (tkT (.mk nm ags)).length) := by
            simp only [tkC, List.nil_append, List.length_cons, List.length_nil] at hle3
            unfold Hid; omega
          clear hBN hle3 hd2 hBc hk1 hlast
          go_wp2_with (first
            | (go_at_call 107; refine hac.mono ?_; rintro e w8 ⟨rfl, hR8, hc8⟩; clear hac; have hex := expect_ hR8 HIL.out (bL 41) HG2.out)
            | (go_at_call 109; refine hex.mono ?_; rintro e w9 ⟨rfl, hR9, hc9⟩; clear hex; have hb2F := (hr2F.ch hc8 (by simp)).ch hc9 (by have := HBR.out; simp; omega); have hb1F := (hr1F.ch hc8 (by simp)).ch hc9 (by have := HBR.out; simp; omega); have y0 := hb2F.cell 0; have y1 := hb2F.cell 1; have z0 := hb1F.cell 0; have z1 := hb1F.cell 1; have g0 := hb1F.frozen 0; have g1 := hb1F.frozen 1))
          have hcW9 := (hBF.trans hc8.of_nil).trans hc9
          have hin9 := ((hoF.ch hc8 (by simp)).ch hc9 (by have := HBR.out; simp; omega)).slt
          rw [HI.out] at hR9
          exact compound_fin hb1F hcW9 rfl hRlt _ (by rfl) (by rfl) (hin9.weak (fun b _ hb => by have := HBS.out; have := HB12.out; omega)) hR9

theorem term_fin {w wz : World} {B1 R : Nat} {nm : ByteArray} {tv va : Value} {K : List Tok} {i : Nat} {ags : List Tm} {z0 z1 : Value} (hr4 : Blk wz B1 28 #[z0, z1]) (hB : Ch [R] w wz) (hl : B1 = w.heap.size) (hlt : R < w.heap.size)
    (a : Act) (h4 : a.tmps.getD 4 undef = .pointer (some ⟨B1, 0, none⟩)) (h5 : a.defers = [])
    (hin : SlT (fun b => w.heap.size + 1 ≤ b) wz va ags) (hR : Rd wz R tv K i) :
    bodyPost Tryz.prog Tryz.f141 (fun e w' => ∃ v', e = .returned (.agg #[.string nm, v']) ∧ SlT (fun b => w.heap.size ≤ b) w' v' ags ∧ Rd w' R tv K i ∧ Ch [R] w w') .ret a
      ((wz.setCell ⟨B1, 0, none⟩ (.string nm)).setCell ⟨B1, 1, none⟩ va) := by
  have hbF := (hr4.set_ 0 (.string nm)).set_ 1 va
  have hcF : Ch [B1] wz ((wz.setCell ⟨B1, 0, none⟩ (.string nm)).setCell ⟨B1, 1, none⟩ va) := ((Ch.refl _ _).set (by simp) _).set (by simp) _
  refine bodyPost_ret (results_cell_row (p := 4) (ty := 28) (by kernel_rfl) _ _ B1 28 _ _ _ h4 hbF Tryz.underlying28 rfl (by kernel_rfl)) h5 ?_
  exact ⟨va, rfl, (hin.ch hcF (by intro b _ hb; simp; omega)).weak (fun b _ hb => by omega), hR.chS hcF (by simp; omega), hB.step hcF (by simp; omega)⟩

theorem tkT_first (t : Tm) (h : nameB t.name = true ∨ t.args = []) : ∃ q, tkT t = (kindB t.name, t.name) :: q := by
  obtain ⟨nm, ags⟩ := t
  cases ags with
  | nil => exact ⟨[], rfl⟩
  | cons a r =>
    rcases h with h | h
    · simp only [Tm.name] at h ⊢
      exact ⟨_, by rw [kind_name h]; rfl⟩
    · cases h

set_option maxRecDepth 100000 in
set_option maxHeartbeats 8000000 in
theorem term_step (l : Nat) (t : Tm) (hv : vldT (l + 1) t = true) (hcomp : nameB t.name = true → PC 125 (l + 1) t) : PC 141 (l + 1) t := by
  intro w R tv K i rest lev hR hB hP hlev0 hlev
  obtain ⟨nm, ags⟩ := t
  have hv' : (decide (ags.length ≤ 4) && (if ags.length = 0 then leafB nm else ags.all (vldT l) && nameB nm)) = true := hv
  simp only [Bool.and_eq_true, decide_eq_true_eq] at hv'
  obtain ⟨hl4, hall⟩ := hv'
  simp only [Tm.args, Tm.name] at hcomp ⊢
  have hRlt := hR.blk.lt
  have hcA : Ch [] w (w.alloc (.cells #[.string ⟨#[]⟩, .slice none 0 0] 28)) := (Ch.refl _ _).alloc _
  have hb1 := Blk.new w 28 #[.string ⟨#[]⟩, .slice none 0 0]
  have hsA : (w.alloc (.cells #[.string ⟨#[]⟩, .slice none 0 0] 28)).heap.size = w.heap.size + 1 := by simp
  generalize hwA : w.alloc (.cells #[.string ⟨#[]⟩, .slice none 0 0] 28) = wA at *
  have hRA := hR.ch hcA
  have hlev4 : lev ≤ 4 := by omega
  have hmx : K.length ≤ maxLen := by obtain ⟨_, c, _, h1, h2⟩ := hR.form; omega
  unfold maxLen at hmx
  have HSA := Lib.hid hsA
  have HLV := Lib.hid hlev
  clear hsA hlev
  cases hn : nameB nm with
  | true =>
    obtain ⟨q, hq⟩ := tkT_first (.mk nm ags) (.inl hn)
    simp only [Tm.name] at hq
    rw [kind_name hn] at hq
    have hB1 := hB
    rw [hq] at hB1
    have htk := token_ hRA hB1.lt
    rw [hB1.get] at htk
    have HC := Lib.hid (hcomp hn)
    have HB := Lib.hid hB
    have HP := Lib.hid hP
    clear hq hB1 hB hP hall hv hcomp
    go_enter Tryz.func141, Tryz.ntmps141
    go_wp2_with (first
      | (go_at_call 69; refine htk.mono ?_; rintro e w1 ⟨⟨at_, rfl⟩, hc1⟩; have hb2 := Blk.new w1 120 #[.int .i64 1, .string nm, .int .i64 at_]; have hc2 := hc1.alloc (.cells #[.int .i64 1, .string nm, .int .i64 at_] 120); have x0 := hb2.cell 0; have x1 := hb2.cell 1; have hcall := HC.out _ R tv K i rest lev (hRA.ch hc2) HB.out HP.out hlev0 HLV.out)
      | (go_at_call 125; refine hcall.mono ?_; rintro e w4 ⟨va, rfl, hva, hR4, hc4⟩; obtain ⟨a5, c5, rfl, hl5, hm5⟩ := hva.form; have hb1F := (hb1.ch hc2 (by simp)).ch hc4 (by simp; omega); have z0 := hb1F.cell 0; have z1 := hb1F.cell 1; have g0 := hb1F.frozen 0; have g1 := hb1F.frozen 1))
    have hsz2 := hc2.size
    exact term_fin hb1F ((hcA.trans hc2).of_nil.trans hc4) rfl hRlt _ (by rfl) (by rfl) (hva.weak (fun b _ hb => by have := HSA.out; omega)) hR4
  | false =>
    have h0 : ags = [] := by
      by_cases h0 : ags.length = 0
      · exact List.eq_nil_of_length_eq_zero h0
      · rw [if_neg h0, hn] at hall; simp at hall
    subst h0
    have hall : leafB nm = true := by simpa using hall
    have hk := kind_leaf hall
    have hk1 : kindB nm ≠ 1 := by
      unfold kindB
      rw [if_neg (by rw [leaf_word hall]; simp), if_neg (by rw [hn]; simp)]
      split
      · decide
      · split <;> decide
    have hB1 : Bef K i [(kindB nm, nm)] rest := hB
    have htk := token_ hRA hB1.lt
    have hil := hB1.lt
    rw [hB1.get] at htk
    have HLEN := Lib.hid (show (tkT (.mk nm [])).length = 1 from rfl)
    have hk23 : kindB nm = 2 ∨ kindB nm = 3 := by
      rcases hk.2 with h | h | h
      · exact absurd h hk1
      · exact .inl h
      · exact .inr h
    simp only at htk
    generalize kindB nm = kd at *
    clear hB1 hB hP hall hv hcomp hk hk1
    rcases hk23 with rfl | rfl
    · go_enter Tryz.func141, Tryz.ntmps141
      go_wp2_with (go_at_call 69; refine htk.mono ?_; rintro e w1 ⟨⟨at_, rfl⟩, hc1⟩; have hb2 := Blk.new w1 120 #[.int .i64 2, .string nm, .int .i64 at_]; have x0 := hb2.cell 0; have hc2 := hc1.alloc (.cells #[.int .i64 2, .string nm, .int .i64 at_] 120); have hR2 := hRA.ch hc2; have r0 := hR2.blk.cell 1; have q0 := hR2.blk.frozen 1; have hsz1 := hc1.size; have hb2A := hb2.far (p := ⟨R, 1, none⟩) (by have := HSA.out; simp; omega) (.int .i64 ((i : Int) + 1)); have x1 := hb2A.cell 1; have hb1F := (hb1.ch hc2 (by simp)).far (p := ⟨R, 1, none⟩) (by simp; omega) (.int .i64 ((i : Int) + 1)); have z0 := hb1F.cell 0; have z1 := hb1F.cell 1; have g0 := hb1F.frozen 0; have g1 := hb1F.frozen 1)
      have hcW := (hcA.trans hc2).of_nil.set (S := [R]) (p := ⟨R, 1, none⟩) (by simp) (.int .i64 ((i : Int) + 1))
      have hRn := hR2.next
      rw [HLEN.out]
      exact term_fin hb1F hcW rfl hRlt _ (by rfl) (by rfl) ⟨[], Sl.nil _ _ _, by simp [TmsR]⟩ hRn
    · go_enter Tryz.func141, Tryz.ntmps141
      go_wp2_with (go_at_call 69; refine htk.mono ?_; rintro e w1 ⟨⟨at_, rfl⟩, hc1⟩; have hb2 := Blk.new w1 120 #[.int .i64 3, .string nm, .int .i64 at_]; have x0 := hb2.cell 0; have hc2 := hc1.alloc (.cells #[.int .i64 3, .string nm, .int .i64 at_] 120); have hR2 := hRA.ch hc2; have r0 := hR2.blk.cell 1; have q0 := hR2.blk.frozen 1; have hsz1 := hc1.size; have hb2A := hb2.far (p := ⟨R, 1, none⟩) (by have := HSA.out; simp; omega) (.int .i64 ((i : Int) + 1)); have x1 := hb2A.cell 1; have hb1F := (hb1.ch hc2 (by simp)).far (p := ⟨R, 1, none⟩) (by simp; omega) (.int .i64 ((i : Int) + 1)); have z0 := hb1F.cell 0; have z1 := hb1F.cell 1; have g0 := hb1F.frozen 0; have g1 := hb1F.frozen 1)
      have hcW := (hcA.trans hc2).of_nil.set (S := [R]) (p := ⟨R, 1, none⟩) (by simp) (.int .i64 ((i : Int) + 1))
      have hRn := hR2.next
      rw [HLEN.out]
      exact term_fin hb1F hcW rfl hRlt _ (by rfl) (by rfl) ⟨[], Sl.nil _ _ _, by simp [TmsR]⟩ hRn

theorem paTerm_ : ∀ (l : Nat) (t : Tm), vldT l t = true → PC 141 l t
  | 0, _, h => by simp [vldT] at h
  | l + 1, t, h => term_step l t h fun hn => compound_ l (fun t ht => paTerm_ l t ht) t h hn
theorem paComp_ (l : Nat) (t : Tm) (h : vldT (l + 1) t = true) (hn : nameB t.name = true) : PC 125 (l + 1) t := compound_ l (fun t ht => paTerm_ l t ht) t h hn
end
end

section
section
open Go.RowKit

theorem atom_fin {w wz : World} {B1 R : Nat} {nm : ByteArray} {tv va : Value} {K : List Tok} {i : Nat} {ags : List Tm} {z0 z1 : Value} (hr4 : Blk wz B1 28 #[z0, z1]) (hB : Ch [R] w wz) (hl : B1 = w.heap.size) (hlt : R < w.heap.size)
    (a : Act) (h4 : a.tmps.getD 2 undef = .pointer (some ⟨B1, 0, none⟩)) (h5 : a.defers = [])
    (hin : SlT (fun b => w.heap.size + 1 ≤ b) wz va ags) (hR : Rd wz R tv K i) :
    bodyPost Tryz.prog Tryz.f106 (fun e w' => ∃ v', e = .returned (.agg #[.string nm, v']) ∧ SlT (fun b => w.heap.size ≤ b) w' v' ags ∧ Rd w' R tv K i ∧ Ch [R] w w') .ret a
      ((wz.setCell ⟨B1, 0, none⟩ (.string nm)).setCell ⟨B1, 1, none⟩ va) := by
  have hbF := (hr4.set_ 0 (.string nm)).set_ 1 va
  have hcF : Ch [B1] wz ((wz.setCell ⟨B1, 0, none⟩ (.string nm)).setCell ⟨B1, 1, none⟩ va) := ((Ch.refl _ _).set (by simp) _).set (by simp) _
  refine bodyPost_ret (results_cell_row (p := 2) (ty := 28) (by kernel_rfl) _ _ B1 28 _ _ _ h4 hbF Tryz.underlying28 rfl (by kernel_rfl)) h5 ?_
  exact ⟨va, rfl, (hin.ch hcF (by intro b _ hb; simp; omega)).weak (fun b _ hb => by omega), hR.chS hcF (by simp; omega), hB.step hcF (by simp; omega)⟩

set_option maxRecDepth 100000 in
set_option maxHeartbeats 8000000 in
theorem paAtom_ (t : Tm) (hv : atmV t = true) (w : World) (R : Nat) (tv : Value) (K : List Tok) (i : Nat) (rest : List Tok) (hR : Rd w R tv K i) (hB : Bef K i (tkT t) rest) (hP : NoP rest) :
    Calls Tryz.prog 106 #[.pointer (some ⟨R, 0, none⟩)] w fun e w' => ∃ v', e = .returned (.agg #[.string t.name, v']) ∧ SlT (fun b => w.heap.size ≤ b) w' v' t.args ∧ Rd w' R tv K (i + (tkT t).length) ∧ Ch [R] w w' := by
  simp only [atmV, Bool.and_eq_true] at hv
  have HC := Lib.hid (paComp_ 3 t hv.1 hv.2)
  have hRlt := hR.blk.lt
  have hcA : Ch [] w (w.alloc (.cells #[.string ⟨#[]⟩, .slice none 0 0] 28)) := (Ch.refl _ _).alloc _
  have hb1 := Blk.new w 28 #[.string ⟨#[]⟩, .slice none 0 0]
  have hsA : (w.alloc (.cells #[.string ⟨#[]⟩, .slice none 0 0] 28)).heap.size = w.heap.size + 1 := by simp
  generalize hwA : w.alloc (.cells #[.string ⟨#[]⟩, .slice none 0 0] 28) = wA at *
  have hRA := hR.ch hcA
  have HSA := Lib.hid hsA
  clear hsA
  obtain ⟨q, hq⟩ := tkT_first t (.inl hv.2)
  rw [kind_name hv.2] at hq
  have hB1 := hB
  rw [hq] at hB1
  have htk := token_ hRA hB1.lt
  rw [hB1.get] at htk
  have HB := Lib.hid hB
  have HP := Lib.hid hP
  have hf0 := fld0
  clear hq hB1 hB hP hv
  go_enter Tryz.func106, Tryz.ntmps106
  go_wp2_with (first
    | (go_at_call 69; refine htk.mono ?_; rintro e w1 ⟨⟨at_, rfl⟩, hc1⟩; have hcall := HC.out _ R tv K i rest 1 (hRA.ch hc1) HB.out HP.out (by omega) (by omega))
    | (go_at_call 125; refine hcall.mono ?_; rintro e w4 ⟨va, rfl, hva, hR4, hc4⟩; obtain ⟨a5, c5, rfl, hl5, hm5⟩ := hva.form; have hb1F := (hb1.ch hc1 (by simp)).ch hc4 (by simp; omega); have z0 := hb1F.cell 0; have z1 := hb1F.cell 1; have g0 := hb1F.frozen 0; have g1 := hb1F.frozen 1))
  have hsz2 := hc1.size
  exact atom_fin hb1F ((hcA.trans hc1).of_nil.trans hc4) rfl hRlt _ (by rfl) (by rfl) (hva.weak (fun b _ hb => by have := HSA.out; omega)) hR4

theorem lit_fin {w wz : World} {B1 R : Nat} {nm : ByteArray} {b : Bool} {tv va : Value} {K : List Tok} {i : Nat} {ags : List Tm} {z0 z1 z2 : Value} (hr4 : Blk wz B1 48 #[z0, z1, z2]) (hB : Ch [R] w wz) (hl : B1 = w.heap.size) (hlt : R < w.heap.size)
    (a : Act) (h4 : a.tmps.getD 4 undef = .pointer (some ⟨B1, 0, none⟩)) (h5 : a.defers = [])
    (hin : SlT (fun b => w.heap.size + 1 ≤ b) wz va ags) (hR : Rd wz R tv K i) :
    bodyPost Tryz.prog Tryz.f108 (fun e w' => ∃ v', e = .returned (.agg #[.bool b, .string nm, v']) ∧ SlT (fun b => w.heap.size ≤ b) w' v' ags ∧ Rd w' R tv K i ∧ Ch [R] w w') .ret a
      (((wz.setCell ⟨B1, 0, none⟩ (.bool b)).setCell ⟨B1, 1, none⟩ (.string nm)).setCell ⟨B1, 2, none⟩ va) := by
  have hbF := ((hr4.set_ 0 (.bool b)).set_ 1 (.string nm)).set_ 2 va
  have hcF : Ch [B1] wz (((wz.setCell ⟨B1, 0, none⟩ (.bool b)).setCell ⟨B1, 1, none⟩ (.string nm)).setCell ⟨B1, 2, none⟩ va) := (((Ch.refl _ _).set (by simp) _).set (by simp) _).set (by simp) _
  refine bodyPost_ret (results_cell_row (p := 4) (ty := 48) (by kernel_rfl) _ _ B1 48 _ _ _ h4 hbF Tryz.underlying48 rfl (by kernel_rfl)) h5 ?_
  exact ⟨va, rfl, (hin.ch hcF (by intro b _ hb; simp; omega)).weak (fun b _ hb => by omega), hR.chS hcF (by simp; omega), hB.step hcF (by simp; omega)⟩

set_option maxRecDepth 100000 in
set_option maxHeartbeats 8000000 in
theorem paLit_ (x : Li) (hv : atmV x.atom = true) (o : Nat) (ho : o < 8) (w : World) (R : Nat) (tv : Value) (K : List Tok) (i : Nat) (rest : List Tok) (hR : Rd w R tv K i) (hB : Bef K i (tkLi x) rest) (hP : NoP rest) :
    Calls Tryz.prog 108 #[.pointer (some ⟨R, 0, none⟩), .int .i64 (o : Int)] w fun e w' => ∃ v', e = .returned (.agg #[.bool x.nt, .string x.atom.name, v']) ∧ SlT (fun b => w.heap.size ≤ b) w' v' x.atom.args ∧ Rd w' R tv K (i + (tkLi x).length) ∧ Ch [R] w w' := by
  obtain ⟨nt, t⟩ := x
  simp only at hv ⊢
  have hRlt := hR.blk.lt
  have hcA : Ch [] w (w.alloc (.cells #[.bool false, .string ⟨#[]⟩, .slice none 0 0] 48)) := (Ch.refl _ _).alloc _
  have hb1 := Blk.new w 48 #[.bool false, .string ⟨#[]⟩, .slice none 0 0]
  have hsA : (w.alloc (.cells #[.bool false, .string ⟨#[]⟩, .slice none 0 0] 48)).heap.size = w.heap.size + 1 := by simp
  generalize hwA : w.alloc (.cells #[.bool false, .string ⟨#[]⟩, .slice none 0 0] 48) = wA at *
  have hRA := hR.ch hcA
  have HSA := Lib.hid hsA
  clear hsA
  have j8 : ((o : Int) == 8) = false := by simp only [beq_eq_false_iff_ne, ne_eq]; omega
  have HP := Lib.hid hP
  have HV := Lib.hid hv
  cases nt with
  | false =>
    have hBt : Bef K i (tkT t) rest := hB
    have HLN := Lib.hid (show (tkLi ⟨false, t⟩).length = (tkT t).length from rfl)
    have hn : nameB t.name = true := by simp only [atmV, Bool.and_eq_true] at hv; exact hv.2
    obtain ⟨q, hq⟩ := tkT_first t (.inl hn)
    rw [kind_name hn] at hq
    have hB1 := hBt
    rw [hq] at hB1
    have hac := accept_no hRA hB1.lt sNot (by rw [hB1.get]; rfl)
    have HB := Lib.hid hBt
    clear hq hB1 hB hBt hP hv hn
    go_enter Tryz.func108, Tryz.ntmps108
    go_wp2_with (first
      | (go_at_call 107; refine hac.mono ?_; rintro e w1 ⟨rfl, hR1, hc1⟩; have hcall := paAtom_ t HV.out w1 R tv K i rest hR1 HB.out HP.out)
      | (go_at_call 106; refine hcall.mono ?_; rintro e w4 ⟨va, rfl, hva, hR4, hc4⟩; obtain ⟨a5, c5, rfl, hl5, hm5⟩ := hva.form; have hb1F := (hb1.ch hc1 (by simp)).ch hc4 (by simp; omega); have z0 := hb1F.cell 0; have z1 := hb1F.cell 1; have z2 := hb1F.cell 2; have g0 := hb1F.frozen 0; have g1 := hb1F.frozen 1; have g2 := hb1F.frozen 2))
    have hsz2 := hc1.size
    rw [HLN.out]
    exact lit_fin hb1F ((hcA.trans hc1).of_nil.trans hc4) rfl hRlt _ (by rfl) (by rfl) (hva.weak (fun b _ hb => by have := HSA.out; omega)) hR4
  | true =>
    have hB1 : Bef K i ((5, sNot) :: tkT t) rest := hB
    have HLN := Lib.hid (show i + (tkLi ⟨true, t⟩).length = i + 1 + (tkT t).length by simp only [tkLi, if_true, List.length_cons]; omega)
    have hac := accept_yes hRA hB1.lt sNot (by rw [hB1.get]; decide)
    have HB := Lib.hid hB1.next
    clear hB1 hB hP hv
    go_enter Tryz.func108, Tryz.ntmps108
    go_wp2_with (first
      | (go_at_call 107; refine hac.mono ?_; rintro e w1 ⟨rfl, hR1, hc1⟩; have hcall := paAtom_ t HV.out w1 R tv K (i + 1) rest hR1 HB.out HP.out)
      | (go_at_call 106; refine hcall.mono ?_; rintro e w4 ⟨va, rfl, hva, hR4, hc4⟩; obtain ⟨a5, c5, rfl, hl5, hm5⟩ := hva.form; have hb1F := (hb1.ch hc1 (by simp; omega)).ch hc4 (by simp; omega); have z0 := hb1F.cell 0; have z1 := hb1F.cell 1; have z2 := hb1F.cell 2; have g0 := hb1F.frozen 0; have g1 := hb1F.frozen 1; have g2 := hb1F.frozen 2))
    have hsz2 := hc1.size
    rw [HLN.out]
    exact lit_fin hb1F ((hcA.of_nil.trans hc1).trans hc4) rfl hRlt _ (by rfl) (by rfl) (hva.weak (fun b _ hb => by have := HSA.out; omega)) hR4
end
end

section
section
open Go.RowKit

theorem paRule_fin {R i B2 : Nat} {nm : ByteArray} {tv : Value} {K : List Tok} {w wz : World} {va vb z0 z1 z2 : Value} {ags : List Tm} {body : List Li} (hr4 : Blk wz w.heap.size 31 #[z0, z1, z2]) (hB : Ch [R] w wz) (hRl : R < w.heap.size) (hR : Rd wz R tv K i)
    (hB2 : w.heap.size < B2) (hva : SlT (fun b => w.heap.size + 1 ≤ b) wz va ags) (hbo : OwnG LiR 48 3 wz (B2 + 1) vb body) (a : Act) (h4 : a.tmps.getD 2 undef = .pointer (some ⟨w.heap.size, 0, none⟩)) (h5 : a.defers = []) :
    bodyPost Tryz.prog Tryz.f71 (fun e w' => ∃ va vb, e = .returned (.agg #[.string nm, va, vb]) ∧ SlT (fun b => w.heap.size ≤ b) w' va ags ∧ SlLi (fun b => w.heap.size ≤ b) w' vb body ∧ Rd w' R tv K i ∧ Ch [R] w w') .ret a
      (((wz.setCell ⟨w.heap.size, 0, none⟩ (.string nm)).setCell ⟨w.heap.size, 1, none⟩ va).setCell ⟨w.heap.size, 2, none⟩ vb) := by
  have hbF := ((hr4.set_ 0 (.string nm)).set_ 1 va).set_ 2 vb
  have hcF : Ch [w.heap.size] wz (((wz.setCell ⟨w.heap.size, 0, none⟩ (.string nm)).setCell ⟨w.heap.size, 1, none⟩ va).setCell ⟨w.heap.size, 2, none⟩ vb) := (((Ch.refl _ _).set (by simp) _).set (by simp) _).set (by simp) _
  refine bodyPost_ret (results_cell_row (p := 2) (ty := 31) (by kernel_rfl) _ _ w.heap.size 31 _ _ _ h4 hbF Tryz.underlying31 rfl (by kernel_rfl)) h5 ?_
  refine ⟨va, vb, rfl, (hva.ch hcF (by intro b _ hb; simp; omega)).weak (fun b _ hb => by omega), ?_, hR.chS hcF (by simp; omega), hB.step hcF (by simp)⟩
  exact SlLi.weak (OwnG.slg imp_li (hbo.ch imp_li hcF (by simp; omega))) (fun b _ hb => by omega)
theorem noP_body (b : List Li) (r : List Tok) : NoP ((tkBody b ++ [(4, bL 46)]) ++ r) := by
  cases b with
  | nil => exact ⟨(4, bL 46), r, rfl, by decide⟩
  | cons x l => exact ⟨(5, sIf), _, rfl, by decide⟩
theorem noP_B (b : List Li) (r : List Tok) : NoP ((tkB b ++ [(4, bL 46)]) ++ r) := by
  cases b with
  | nil => exact ⟨(4, bL 46), r, rfl, by decide⟩
  | cons x l => exact ⟨(5, sAnd), _, rfl, by decide⟩

/-- where the reading of a rule stands: the reader at i, its body acc so far -/
structure PRS (w : World) (R B2 : Nat) (tv : Value) (K : List Tok) (hd : Tm) (ah : Option Addr) (ch : Nat) (wr : World) (i : Nat) (v : Value) (acc : List Li) : Prop where
  c : Ch [R] w wr
  rd : Rd wr R tv K i
  r1 : Blk wr w.heap.size 31 #[.string ⟨#[]⟩, .slice none 0 0, .slice none 0 0]
  r2 : Blk wr B2 31 #[.string hd.name, .slice ah hd.args.length ch, v]
  o : OwnG LiR 48 3 wr (B2 + 1) v acc
  va : SlT (fun b => w.heap.size + 1 ≤ b ∧ b < B2) wr (.slice ah hd.args.length ch) hd.args

theorem PRS.ch {w wr w3 : World} {R B2 : Nat} {tv : Value} {K : List Tok} {hd : Tm} {ah : Option Addr} {ch i j : Nat} {v : Value} {acc : List Li} (h : PRS w R B2 tv K hd ah ch wr i v acc)
    (hb : R < w.heap.size ∧ w.heap.size < B2) (hc : Ch [R] wr w3) (hR : Rd w3 R tv K j) : PRS w R B2 tv K hd ah ch w3 j v acc :=
  ⟨h.c.trans hc, hR, h.r1.ch hc (by simp; omega), h.r2.ch hc (by simp; omega), h.o.ch imp_li hc (by simp; omega), h.va.ch hc (fun b _ hb2 hm => by simp at hm; omega)⟩
set_option maxHeartbeats 2000000 in
theorem PRS.add {w wr w4 w6 : World} {R B2 : Nat} {tv v va4 v7 : Value} {K : List Tok} {hd : Tm} {ah : Option Addr} {ch i j : Nat} {acc : List Li} {css : List (List Value)} {x : Li} (h : PRS w R B2 tv K hd ah ch wr i v acc)
    (hb : R < w.heap.size ∧ w.heap.size < B2) (hown : Own wr (B2 + 1) 48 3 v css) (hcl : css.length = acc.length)
    (hli : ∀ (i : Nat) (cs : List Value) (y : Li), css[i]? = some cs → acc[i]? = some y → LiR (fun b => B2 + 1 ≤ b ∧ v.ownBlock ≠ some b) wr y cs)
    (hva4 : SlT (fun b => wr.drew.heap.size ≤ b) w4 va4 x.atom.args) (hR4 : Rd w4 R tv K j) (hc4' : Ch [R] wr.drew w4)
    (hc6 : Ch v.ownBlock.toList (w4.alloc (.cells #[.bool x.nt, .string x.atom.name, va4] 48)) w6) (hat6 : v7.ownBlock = v.ownBlock ∨ v7.ownBlock = some (w4.alloc (.cells #[.bool x.nt, .string x.atom.name, va4] 48)).heap.size)
    (ho6 : Own w6 (B2 + 1) 48 3 v7 (css ++ [[.bool x.nt, .string x.atom.name, va4]])) : PRS w R B2 tv K hd ah ch (w6.setCell ⟨B2, 2, none⟩ v7) j v7 (acc ++ [x]) := by
  have hc4 : Ch [R] wr w4 := ((Ch.refl [R] wr).drew).trans hc4'
  have hA : Ch [R] wr (w4.alloc (.cells #[.bool x.nt, .string x.atom.name, va4] 48)) := hc4.alloc _
  have hlv : ∀ b, v.ownBlock = some b → B2 + 1 ≤ b ∧ b < wr.heap.size := fun b hb => hown.lt hb
  have hmem : ∀ b, b ∈ v.ownBlock.toList → B2 + 1 ≤ b := fun b hb => by
    cases hvo : v.ownBlock with
    | none => rw [hvo] at hb; cases hb
    | some g => rw [hvo] at hb; have := (hlv g hvo).1; simp at hb; omega
  have hva5 : SlT (fun b => wr.heap.size ≤ b) w4 va4 x.atom.args := hva4
  have hB2 := h.r2.lt
  have hoT := OwnG.add (y := x) imp_li hcl (fun i cs y h4 h5 => imp_li _ _ _ _ _ _ hA.size (fun b hb hp => ⟨hp, hA.block b hb (by intro hm; have := hp.1; simp at hm; omega)⟩) (hli i cs y h4 h5))
    ⟨_, rfl, (hva5.ch0 ((Ch.refl _ _).alloc _)).weak (q := fun b => B2 + 1 ≤ b ∧ v.ownBlock ≠ some b) fun b _ hb => ⟨by omega, fun e => by have := (hlv b e).2; omega⟩⟩ hc6 hat6 ho6
  have hR6 : Rd w6 R tv K j := (hR4.ch ((Ch.refl _ _).alloc (.cells #[.bool x.nt, .string x.atom.name, va4] 48))).chS hc6 (fun b hb => by have := hmem b hb; omega)
  have hn : ∀ g, g ≤ B2 → g ∉ v.ownBlock.toList := fun g hg hm => by have := hmem g hm; omega
  have hcS : Ch [B2] w6 (w6.setCell ⟨B2, 2, none⟩ v7) := (Ch.refl _ _).set (by simp) _
  exact ⟨((h.c.trans hA).step hc6 (fun b hb => .inr (by have := hmem b hb; omega))).step hcS (by simp; omega), hR6.chS hcS (by simp; omega),
    ((h.r1.ch hA (by simp; omega)).ch hc6 (hn _ (by omega))).far (by simp; omega) _, ((h.r2.ch hA (by simp; omega)).ch hc6 (hn _ (Nat.le_refl _))).set_ 2 _,
    OwnG.ch imp_li hoT hcS (by simp), ((h.va.ch hA (fun b _ hb hm => by simp at hm; omega)).ch hc6 (fun b _ hb hm => by have := hmem b hm; omega)).ch hcS (fun b _ hb hm => by simp at hm; omega)⟩
set_option maxRecDepth 100000 in
set_option maxHeartbeats 16000000 in
theorem paRule_ (x0 : Ru) (hv : ruV x0 = true) (w : World) (R : Nat) (tv : Value) (K : List Tok) (i : Nat) (rest : List Tok) (hR : Rd w R tv K i) (hB : Bef K i (tkRu x0) rest) :
    Calls Tryz.prog 71 #[.pointer (some ⟨R, 0, none⟩)] w fun e w' => ∃ va vb, e = .returned (.agg #[.string x0.head.name, va, vb]) ∧ SlT (fun b => w.heap.size ≤ b) w' va x0.head.args ∧ SlLi (fun b => w.heap.size ≤ b) w' vb x0.body ∧ Rd w' R tv K (i + (tkRu x0).length) ∧ Ch [R] w w' := by
  obtain ⟨hd, body⟩ := x0
  simp only [ruV, Bool.and_eq_true, decide_eq_true_eq, List.all_eq_true] at hv
  obtain ⟨hl8, hvh, hvb⟩ := hv
  simp only
  have hRlt := hR.blk.lt
  have hcA : Ch [] w (w.alloc (.cells #[.string ⟨#[]⟩, .slice none 0 0, .slice none 0 0] 31)) := (Ch.refl _ _).alloc _
  have hb1 := Blk.new w 31 #[.string ⟨#[]⟩, .slice none 0 0, .slice none 0 0]
  have hsA : (w.alloc (.cells #[.string ⟨#[]⟩, .slice none 0 0, .slice none 0 0] 31)).heap.size = w.heap.size + 1 := by simp
  generalize hwA : w.alloc (.cells #[.string ⟨#[]⟩, .slice none 0 0, .slice none 0 0] 31) = wA at *
  have hRA := hR.ch hcA
  have HSA := Lib.hid hsA
  clear hsA
  have hBt : Bef K i (tkT hd) ((tkBody body ++ [(4, bL 46)]) ++ rest) := Bef.app.1 hB
  have hat := paAtom_ hd hvh wA R tv K i _ hRA hBt (noP_body body rest)
  have HBN := Lib.hid hBt.skip
  have HLN := Lib.hid (show i + (tkRu ⟨hd, body⟩).length = i + (tkT hd).length + (tkBody body ++ [(4, bL 46)]).length by simp only [tkRu, List.length_append]; omega)
  have HVB := Lib.hid hvb
  clear hB hBt hvh hvb
  generalize i + (tkT hd).length = i1 at *
  by_cases h0 : body = []
  · subst h0
    have hBd : Bef K i1 [(4, bL 46)] rest := HBN.out
    have HIL := Lib.hid hBd.lt
    have HG1 : Hid (isT (K[i1]'HIL.out) sIf = false) := by unfold Hid; rw [hBd.get]; decide
    have HG2 : Hid (isT (K[i1]'HIL.out) (bL 46) = true) := by unfold Hid; rw [hBd.get]; decide
    clear hBd HBN HVB
    go_enter Tryz.func71, Tryz.ntmps71
    go_wp2_with (first
      | (go_at_call 106; refine hat.mono ?_; rintro e w1 ⟨va, rfl, hva, hR1, hc1⟩; clear hat; obtain ⟨ah, ch, rfl, _, _⟩ := hva.form; have hb2 := Blk.new w1 31 #[.string hd.name, .slice ah hd.args.length ch, .slice none 0 0]; have hc2 : Ch [] w1 (w1.alloc (.cells #[.string hd.name, .slice ah hd.args.length ch, .slice none 0 0] 31)) := (Ch.refl _ _).alloc _; have hac := accept_no (hR1.ch hc2) HIL.out sIf HG1.out)
      | (go_at_call 107; refine hac.mono ?_; rintro e w3 ⟨rfl, hR3, hc3⟩; clear hac; have hex := expect_ hR3 HIL.out (bL 46) HG2.out)
      | (go_at_call 109; refine hex.mono ?_; rintro e w4 ⟨rfl, hR4, hc4⟩; clear hex; have hsz1 := hc1.size; have hb2F := (hb2.ch hc3 (by simp)).ch hc4 (by have := HSA.out; simp; omega); have hb1F := (((hb1.ch hc1 (by simp; omega)).ch hc2 (by simp)).ch hc3 (by simp)).ch hc4 (by simp; omega); have y0 := hb2F.cell 0; have y1 := hb2F.cell 1; have y2 := hb2F.cell 2; have z0 := hb1F.cell 0; have z1 := hb1F.cell 1; have z2 := hb1F.cell 2; have g0 := hb1F.frozen 0; have g1 := hb1F.frozen 1; have g2 := hb1F.frozen 2))
    have hcW := (((hcA.of_nil.trans hc1).trans hc2.of_nil).trans hc3.of_nil).trans hc4
    have hvaW := (((hva.ch0 hc2).ch0 hc3).ch hc4 (fun b _ hb hm => by have h9 : wA.heap.size ≤ b := hb; have := HSA.out; simp at hm; omega)).weak (q := fun b => w.heap.size + 1 ≤ b) (fun b _ hb => by have h9 : wA.heap.size ≤ b := hb; have := HSA.out; omega)
    rw [show i + (tkRu ⟨hd, []⟩).length = i1 + 1 from HLN.out]
    exact paRule_fin (B2 := w.heap.size + 1) hb1F hcW hRlt hR4 (by omega) hvaW (OwnG.nil _ _) _ (by rfl) (by rfl)
  · obtain ⟨x, r, rfl⟩ : ∃ x r, body = x :: r := by
      cases body with
      | nil => exact absurd rfl h0
      | cons x r => exact ⟨x, r, rfl⟩
    have hBd : Bef K i1 ((5, sIf) :: (tkLi x ++ tkB r ++ [(4, bL 46)])) rest := HBN.out
    have HIL := Lib.hid hBd.lt
    have HG1 : Hid (isT (K[i1]'HIL.out) sIf = true) := by unfold Hid; rw [hBd.get]; decide
    have hBx : Bef K (i1 + 1) (tkLi x) ((tkB r ++ [(4, bL 46)]) ++ rest) := by
      have h9 := hBd.next
      rw [List.append_assoc] at h9
      exact Bef.app.1 h9
    have HBX := Lib.hid hBx
    have HBR0 := Lib.hid hBx.skip
    have HLT := Lib.hid (show i + (tkRu ⟨hd, x :: r⟩).length = i1 + 1 + (tkLi x).length + (tkB r ++ [(4, bL 46)]).length by
      rw [HLN.out]; simp only [tkBody, List.length_append, List.length_cons]; omega)
    clear hBd hBx HBN HLN h0
    go_enter Tryz.func71, Tryz.ntmps71
    go_wp2_with (first
      | (go_at_call 106; refine hat.mono ?_; rintro e w1 ⟨va, rfl, hva, hR1, hc1⟩; clear hat; obtain ⟨ah, ch, rfl, _, _⟩ := hva.form; have hb2 := Blk.new w1 31 #[.string hd.name, .slice ah hd.args.length ch, .slice none 0 0]; have hc2 : Ch [] w1 (w1.alloc (.cells #[.string hd.name, .slice ah hd.args.length ch, .slice none 0 0] 31)) := (Ch.refl _ _).alloc _; have hac := accept_yes (hR1.ch hc2) HIL.out sIf HG1.out)
      | (go_at_call 107; refine hac.mono ?_; rintro e wr ⟨rfl, hR3, hc3⟩; clear hac))
    have hsz1 := hc1.size
    have HBR := Lib.hid (show R < w.heap.size ∧ w.heap.size < w1.heap.size by have := HSA.out; omega)
    have hva1 : SlT (fun b => w.heap.size + 1 ≤ b ∧ b < w1.heap.size) w1 (.slice ah hd.args.length ch) hd.args := hva.weak fun b hb hp => ⟨by have h9 : wA.heap.size ≤ b := hp; have := HSA.out; omega, hb⟩
    have hP : PRS w R w1.heap.size tv K hd ah ch wr (i1 + 1) (.slice none 0 0) [] := ⟨((hcA.of_nil.trans hc1).trans hc2.of_nil).trans hc3, hR3, ((hb1.ch hc1 (by simp; omega)).ch hc2 (by simp)).ch hc3 (by simp; omega), hb2.ch hc3 (by have := HBR.out; simp; omega), OwnG.nil _ _, (hva1.ch0 hc2).ch hc3 (fun b _ hb hm => by have := HBR.out; simp at hm; omega)⟩
    have hcall := paLit_ x (HVB.out x (by simp)) 0 (by omega) wr.drew R tv K (i1 + 1) _ (hR3.ch ((Ch.refl [] wr).drew)) HBX.out (noP_B r rest)
    generalize w1.heap.size = B2 at *
    generalize (Value.slice none 0 0) = v at hP
    clear hb1 hb2 hc1 hc2 hc3 hva1 hR1 hR3 hcA hRA hsz1 hR hva
    obtain ⟨css, hown, hcl, hli⟩ := hP.o
    have HCL := Lib.hid hcl
    have hc8 : css.length ≤ 8 := by rw [hcl]; simp at *; try omega
    obtain ⟨av, cv, rfl⟩ := hown.form'
    have HLV := Lib.hid (show ∀ b, (Value.slice av css.length cv).ownBlock = some b → B2 + 1 ≤ b ∧ b < wr.heap.size from fun b hb => hown.lt hb)
    have HRo : Hid (∀ b, (Value.slice av css.length cv).ownBlock = some b → b ∉ [R]) := fun b hb hm => by have := (HLV.out b hb).1; have := HBR.out; simp at hm; omega
    have HMEM := Lib.hid (show ∀ b, b ∈ (Value.slice av css.length cv).ownBlock.toList → B2 + 1 ≤ b from fun b hb => by
      cases hvo : (Value.slice av css.length cv).ownBlock with
      | none => rw [hvo] at hb; cases hb
      | some g => rw [hvo] at hb; have := (hown.lt hvo).1; simp at hb; omega)
    have hr2 := hP.r2
    have HB2 := Lib.hid hr2.lt
    have x1 := hr2.cell 2
    clear hcl
    refine wp_region_F (S := (fun w' => w'.cell? ⟨B2, 2, none⟩ = some (.slice av css.length cv))) (f := 7) (by kernel_rfl) ?_ (fun hHeld => ?_)
    focus ((try dsimp only); go_keep)
    refine wpF_take (i := 0) (oi := ⟨some 9, _, _, _, _, _⟩) (v := ?_) rfl (by kernel_rfl) (fun _ _ _ h => h) (by rfl) (by assumption) ?_ ?_
    rotate_left
    focus (intro wq hSw; (try dsimp only at hSw); go_simp; (try with_reducible rfl); done)
    (try simp only [Act.put, List.setIfInBounds_toArray, List.set_cons_zero, List.set_cons_succ])
    refine wpF_take (i := 1) (oi := ⟨some 10, _, _, _, _, _⟩) (v := ?_) rfl (by kernel_rfl) (fun _ _ _ h => h) (by rfl) (by assumption) ?_ ?_
    rotate_left
    focus (intro wq hSw; (try dsimp only at hSw); go_simp; (try with_reducible rfl); done)
    (try simp only [Act.put, List.setIfInBounds_toArray, List.set_cons_zero, List.set_cons_succ])
    refine wpF_take (i := 2) (oi := ⟨some 11, _, _, _, _, _⟩) (v := ?_) rfl (by kernel_rfl) (fun _ _ _ h => h) (by rfl) (by assumption) ?_ ?_
    rotate_left
    focus (intro wq hSw; (try dsimp only at hSw); go_simp; (try with_reducible rfl); done)
    (try simp only [Act.put, List.setIfInBounds_toArray, List.set_cons_zero, List.set_cons_succ])
    refine wpF_one (i := 3) (o := ⟨some 12, _, _, _, _, _⟩) rfl (by kernel_rfl) (fun K hK => ?_)
    (go_simp; go_at_call 108; refine hcall.mono ?_; rintro e w4 ⟨va4, rfl, hva4, hR4, hc4⟩; obtain ⟨a5, c5, rfl, hl5, hm5⟩ := hva4.form; have hr54 := (Blk.drew hr2).ch hc4 (by have := HBR.out; simp; omega); have x4 := hr54.cell 2; have x5 := (hr54.alloc (.cells #[.bool x.nt, .string x.atom.name, .slice a5 x.atom.args.length c5] 48)).cell 2)
    (try go_wp2_with fail)
    refine hK.out _ _ ?_ (fun hHeld => ?_)
    focus ((try dsimp only); go_keep)
    clear hK K
    (try simp only [Act.put, List.setIfInBounds_toArray, List.set_cons_zero, List.set_cons_succ])
    refine wpF_one (i := 4) (o := ⟨some 13, _, _, _, _, _⟩) rfl (by kernel_rfl) (fun K hK => ?_)
    go_simp
    refine hK.out _ _ ?_ (fun hHeld => ?_)
    focus ((try dsimp only); go_keep)
    clear hK K
    (try simp only [Act.put, List.setIfInBounds_toArray, List.set_cons_zero, List.set_cons_succ])
    refine wpF_one (i := 5) (o := ⟨some 14, _, _, _, _, _⟩) rfl (by kernel_rfl) (fun K hK => ?_)
    (refine step_append_sl rfl _ _ _ rfl elB (base := B2 + 1) (v := .slice av css.length cv) rfl (((Own.ch hown ((Ch.refl [] wr).drew) (by simp)).ch hc4 (HRo.out)).ch ((Ch.refl [] w4).alloc _) (by simp)) rfl (Sl.one w4 3 48 [.bool x.nt, .string x.atom.name, .slice a5 x.atom.args.length c5] rfl (by simp [Value.oneCell'])) (by simp; omega) (by have h8 : wr.heap.size ≤ w4.heap.size := hc4.size; have := HB2.out; simp; omega) ?_; intro v6 w6 ho6 hc6 hat6 hn6; clear hn6; obtain ⟨a7, c7, rfl⟩ := ho6.form'; have hr56 := (hr54.alloc (.cells #[.bool x.nt, .string x.atom.name, .slice a5 x.atom.args.length c5] 48)).ch hc6 (fun hm => by have := HMEM.out _ hm; omega); have x6 := hr56.cell 2; have y6 := hr56.frozen 2)
    refine hK.out _ _ ?_ (fun hHeld => ?_)
    focus ((try dsimp only); go_keep)
    clear hK K
    (try simp only [Act.put, List.setIfInBounds_toArray, List.set_cons_zero, List.set_cons_succ])
    refine wpF_take (i := 6) (oi := ⟨some 15, _, _, _, _, _⟩) (v := ?_) rfl (by kernel_rfl) (fun _ _ _ h => h) (by rfl) (by assumption) ?_ ?_
    rotate_left
    focus (intro wq hSw; (try dsimp only at hSw); go_simp; (try with_reducible rfl); done)
    (try simp only [Act.put, List.setIfInBounds_toArray, List.set_cons_zero, List.set_cons_succ])
    refine wpF_last (o := ⟨none, _, _, _, _, _⟩) rfl (by kernel_rfl) (fun K hK => ?_)
    go_simp
    refine hK.out _ _ ?_
    clear hK K
    (try simp only [Act.put, List.setIfInBounds_toArray, List.set_cons_zero, List.set_cons_succ])
    have hPF := PRS.add hP HBR.out hown HCL.out hli hva4 hR4 hc4 hc6 hat6 ho6
    have hlv7 : (css ++ [[Value.bool x.nt, Value.string x.atom.name, Value.slice a5 x.atom.args.length c5]]).length = css.length + 1 := by simp
    rw [hlv7] at hPF
    clear hlv7 hr54 x1 x4 x5 x6 y6 hr56 hr2 hat6 ho6 hva4 hli hown hcall hc4 hc6 hR4 hP HLV HRo HMEM HB2 HCL
    generalize (w6.setCell ⟨B2, 2, none⟩ (.slice a7 (css.length + 1) c7)) = wF at *
    have hro := hPF.rd.blk.cell 1
    have HRC := Lib.hid hro
    clear hro
    go_wp2
    go_loopw [16] (fun _ wr => ∃ (k i' : Nat) (v : Value), k ≤ r.length ∧ PRS w R B2 tv K hd ah ch wr i' v (x :: r.take k) ∧ Bef K i' (tkB (r.drop k) ++ [(4, bL 46)]) rest ∧ Hid (i' + (tkB (r.drop k) ++ [(4, bL 46)]).length = i + (tkRu ⟨hd, x :: r⟩).length)) (fun _ wr => K.length - (intOf ((wr.cell? ⟨R, 1, none⟩).getD undef)).toNat)
    case atStart => exact ⟨0, i1 + 1 + (tkLi x).length, _, Nat.zero_le _, hPF, HBR0.out, by unfold Hid; rw [HLT.out, List.drop_zero]⟩
    case round =>
      clear hPF HRC
      obtain ⟨k, i', v, hk, hP, hBef, HLE⟩ := hrel
      have HRC := Lib.hid (hP.rd.blk.cell 1)
      by_cases hlt : k < r.length
      · have hdr : r.drop k = r[k] :: r.drop (k + 1) := List.drop_eq_getElem_cons hlt
        have HTS := Lib.hid (take_snoc r k hlt)
        have hxv := HVB.out r[k] (by simp)
        have hle := HLE.out
        rw [hdr] at hBef hle
        generalize r[k] = y at *
        have hBa : Bef K i' ((5, sAnd) :: (tkLi y ++ tkB (r.drop (k + 1)) ++ [(4, bL 46)])) rest := hBef
        have hac := accept_yes hP.rd hBa.lt sAnd (by rw [hBa.get]; decide)
        have HIL2 := Lib.hid hBa.lt
        have hBy : Bef K (i' + 1) (tkLi y) ((tkB (r.drop (k + 1)) ++ [(4, bL 46)]) ++ rest) := by
          have h9 := hBa.next
          rw [List.append_assoc] at h9
          exact Bef.app.1 h9
        have HBY := Lib.hid hBy
        have HBZ := Lib.hid hBy.skip
        have HLT2 := Lib.hid (show i' + 1 + (tkLi y).length + (tkB (r.drop (k + 1)) ++ [(4, bL 46)]).length = i + (tkRu ⟨hd, x :: r⟩).length by
          rw [← hle]; simp only [tkB, List.length_append, List.length_cons]; omega)
        clear hdr hle hBef hBa hBy HLE
        generalize hwo : wr = wo at *
        clear hwo
        go_wp2_with (go_at_call 107; refine hac.mono ?_; rintro e wr ⟨rfl, hR3, hc3⟩; clear hac)
        have hP := hP.ch HBR.out hc3 hR3
        have hll : (x :: r.take k).length ≤ 7 := by simp at *; omega
        obtain ⟨css, hown, hcl, hli⟩ := hP.o
        have HCL := Lib.hid hcl
        have hc8 : css.length ≤ 8 := by rw [hcl]; simp at *; try omega
        obtain ⟨av, cv, rfl⟩ := hown.form'
        have HLV := Lib.hid (show ∀ b, (Value.slice av css.length cv).ownBlock = some b → B2 + 1 ≤ b ∧ b < wr.heap.size from fun b hb => hown.lt hb)
        have HRo : Hid (∀ b, (Value.slice av css.length cv).ownBlock = some b → b ∉ [R]) := fun b hb hm => by have := (HLV.out b hb).1; have := HBR.out; simp at hm; omega
        have HMEM := Lib.hid (show ∀ b, b ∈ (Value.slice av css.length cv).ownBlock.toList → B2 + 1 ≤ b from fun b hb => by
          cases hvo : (Value.slice av css.length cv).ownBlock with
          | none => rw [hvo] at hb; cases hb
          | some g => rw [hvo] at hb; have := (hown.lt hvo).1; simp at hb; omega)
        have hr2 := hP.r2
        have HB2 := Lib.hid hr2.lt
        have x1 := hr2.cell 2
        clear hcl
        have hcall := paLit_ y hxv css.length (by have := HCL.out; omega) wr.drew R tv K (i' + 1) _ (hR3.ch ((Ch.refl [] wr).drew)) HBY.out (noP_B (r.drop (k + 1)) rest)
        refine wp_region_F (S := (fun w' => w'.cell? ⟨B2, 2, none⟩ = some (.slice av css.length cv))) (f := 10) (by kernel_rfl) ?_ (fun hHeld => ?_)
        focus ((try dsimp only); go_keep)
        refine wpF_take (i := 0) (oi := ⟨some 18, _, _, _, _, _⟩) (v := ?_) rfl (by kernel_rfl) (fun _ _ _ h => h) (by rfl) (by assumption) ?_ ?_
        rotate_left
        focus (intro wq hSw; (try dsimp only at hSw); go_simp; (try with_reducible rfl); done)
        (try simp only [Act.put, List.setIfInBounds_toArray, List.set_cons_zero, List.set_cons_succ])
        refine wpF_take (i := 1) (oi := ⟨some 19, _, _, _, _, _⟩) (v := ?_) rfl (by kernel_rfl) (fun _ _ _ h => h) (by rfl) (by assumption) ?_ ?_
        rotate_left
        focus (intro wq hSw; (try dsimp only at hSw); go_simp; (try with_reducible rfl); done)
        (try simp only [Act.put, List.setIfInBounds_toArray, List.set_cons_zero, List.set_cons_succ])
        refine wpF_take (i := 2) (oi := ⟨some 20, _, _, _, _, _⟩) (v := ?_) rfl (by kernel_rfl) (fun _ _ _ h => h) (by rfl) (by assumption) ?_ ?_
        rotate_left
        focus (intro wq hSw; (try dsimp only at hSw); go_simp; (try with_reducible rfl); done)
        (try simp only [Act.put, List.setIfInBounds_toArray, List.set_cons_zero, List.set_cons_succ])
        refine wpF_take (i := 3) (oi := ⟨some 21, _, _, _, _, _⟩) (v := ?_) rfl (by kernel_rfl) (fun _ _ _ h => h) (by rfl) (by assumption) ?_ ?_
        rotate_left
        focus (intro wq hSw; (try dsimp only at hSw); go_simp; (try with_reducible rfl); done)
        (try simp only [Act.put, List.setIfInBounds_toArray, List.set_cons_zero, List.set_cons_succ])
        refine wpF_take (i := 4) (oi := ⟨some 22, _, _, _, _, _⟩) (v := ?_) rfl (by kernel_rfl) (fun _ _ _ h => h) (by rfl) (by assumption) ?_ ?_
        rotate_left
        focus (intro wq hSw; (try dsimp only at hSw); go_simp; (try with_reducible rfl); done)
        (try simp only [Act.put, List.setIfInBounds_toArray, List.set_cons_zero, List.set_cons_succ])
        refine wpF_take (i := 5) (oi := ⟨some 23, _, _, _, _, _⟩) (v := ?_) rfl (by kernel_rfl) (fun _ _ _ h => h) (by rfl) (by assumption) ?_ ?_
        rotate_left
        focus (intro wq hSw; (try dsimp only at hSw); go_simp; (try with_reducible rfl); done)
        (try simp only [Act.put, List.setIfInBounds_toArray, List.set_cons_zero, List.set_cons_succ])
        refine wpF_one (i := 6) (o := ⟨some 24, _, _, _, _, _⟩) rfl (by kernel_rfl) (fun K hK => ?_)
        (go_simp; go_at_call 108; refine hcall.mono ?_; rintro e w4 ⟨va4, rfl, hva4, hR4, hc4⟩; obtain ⟨a5, c5, rfl, hl5, hm5⟩ := hva4.form; have hr54 := (Blk.drew hr2).ch hc4 (by have := HBR.out; simp; omega); have x4 := hr54.cell 2; have x5 := (hr54.alloc (.cells #[.bool y.nt, .string y.atom.name, .slice a5 y.atom.args.length c5] 48)).cell 2)
        (try go_wp2_with fail)
        refine hK.out _ _ ?_ (fun hHeld => ?_)
        focus ((try dsimp only); go_keep)
        clear hK K
        (try simp only [Act.put, List.setIfInBounds_toArray, List.set_cons_zero, List.set_cons_succ])
        refine wpF_one (i := 7) (o := ⟨some 25, _, _, _, _, _⟩) rfl (by kernel_rfl) (fun K hK => ?_)
        go_simp
        refine hK.out _ _ ?_ (fun hHeld => ?_)
        focus ((try dsimp only); go_keep)
        clear hK K
        (try simp only [Act.put, List.setIfInBounds_toArray, List.set_cons_zero, List.set_cons_succ])
        refine wpF_one (i := 8) (o := ⟨some 26, _, _, _, _, _⟩) rfl (by kernel_rfl) (fun K hK => ?_)
        (refine step_append_sl rfl _ _ _ rfl elB (base := B2 + 1) (v := .slice av css.length cv) rfl (((Own.ch hown ((Ch.refl [] wr).drew) (by simp)).ch hc4 (HRo.out)).ch ((Ch.refl [] w4).alloc _) (by simp)) rfl (Sl.one w4 3 48 [.bool y.nt, .string y.atom.name, .slice a5 y.atom.args.length c5] rfl (by simp [Value.oneCell'])) (by simp; omega) (by have h8 : wr.heap.size ≤ w4.heap.size := hc4.size; have := HB2.out; simp; omega) ?_; intro v6 w6 ho6 hc6 hat6 hn6; clear hn6; obtain ⟨a7, c7, rfl⟩ := ho6.form'; have hr56 := (hr54.alloc (.cells #[.bool y.nt, .string y.atom.name, .slice a5 y.atom.args.length c5] 48)).ch hc6 (fun hm => by have := HMEM.out _ hm; omega); have x6 := hr56.cell 2; have y6 := hr56.frozen 2)
        refine hK.out _ _ ?_ (fun hHeld => ?_)
        focus ((try dsimp only); go_keep)
        clear hK K
        (try simp only [Act.put, List.setIfInBounds_toArray, List.set_cons_zero, List.set_cons_succ])
        refine wpF_take (i := 9) (oi := ⟨some 27, _, _, _, _, _⟩) (v := ?_) rfl (by kernel_rfl) (fun _ _ _ h => h) (by rfl) (by assumption) ?_ ?_
        rotate_left
        focus (intro wq hSw; (try dsimp only at hSw); go_simp; (try with_reducible rfl); done)
        (try simp only [Act.put, List.setIfInBounds_toArray, List.set_cons_zero, List.set_cons_succ])
        refine wpF_last (o := ⟨none, _, _, _, _, _⟩) rfl (by kernel_rfl) (fun K hK => ?_)
        go_simp
        refine hK.out _ _ ?_
        clear hK K
        (try simp only [Act.put, List.setIfInBounds_toArray, List.set_cons_zero, List.set_cons_succ])
        have hPF := PRS.add hP HBR.out hown HCL.out hli hva4 hR4 hc4 hc6 hat6 ho6
        have hlv7 : (css ++ [[Value.bool y.nt, Value.string y.atom.name, Value.slice a5 y.atom.args.length c5]]).length = css.length + 1 := by simp
        rw [hlv7] at hPF
        clear hlv7 hr54 x1 x4 x5 x6 y6 hr56 hr2 hat6 ho6 hva4 hli hown hcall hc4 hc6 hR4 hP HLV HRo HMEM HB2 HCL
        generalize (w6.setCell ⟨B2, 2, none⟩ (.slice a7 (css.length + 1) c7)) = wF at *
        have hq8 := hPF.rd.blk.cell 1
        go_wp2
        go_roundw
        case rel =>
          rw [show (x :: r.take k) ++ [y] = x :: r.take (k + 1) by rw [HTS.out]; rfl] at hPF
          exact ⟨k + 1, i' + 1 + (tkLi y).length, _, hlt, hPF, HBZ.out, HLT2.out⟩
        case measure =>
          rw [hq8, HRC.out]
          have := HIL2.out
          simp [intOf]
          omega
      · have hk1 : k = r.length := by omega
        have hd2 : r.drop k = [] := List.drop_of_length_le (by omega)
        have hle := HLE.out
        rw [hd2] at hBef hle
        rw [hk1, List.take_length] at hP
        obtain ⟨av, cv, rfl⟩ := hP.o.len
        have hBd : Bef K i' [(4, bL 46)] rest := hBef
        have hac := accept_no hP.rd hBd.lt sAnd (by rw [hBd.get]; decide)
        have HIL2 := Lib.hid hBd.lt
        have HG2 : Hid (isT (K[i']'HIL2.out) (bL 46) = true) := by unfold Hid; rw [hBd.get]; decide
        have HI : Hid (i' + 1 = i + (tkRu ⟨hd, x :: r⟩).length) := hle
        clear hBef hle hd2 hBd hk1 hlt HLE
        go_wp2_with (first
          | (go_at_call 107; refine hac.mono ?_; rintro e w8 ⟨rfl, hR8, hc8⟩; clear hac; have hex := expect_ hR8 HIL2.out (bL 46) HG2.out)
          | (go_at_call 109; refine hex.mono ?_; rintro e w9 ⟨rfl, hR9, hc9⟩; clear hex; have hP9 := (hP.ch HBR.out hc8.of_nil hR8).ch HBR.out hc9 hR9; have y0 := hP9.r2.cell 0; have y1 := hP9.r2.cell 1; have y2 := hP9.r2.cell 2; have z0 := hP9.r1.cell 0; have z1 := hP9.r1.cell 1; have z2 := hP9.r1.cell 2; have g0 := hP9.r1.frozen 0; have g1 := hP9.r1.frozen 1; have g2 := hP9.r1.frozen 2))
        have hR9' := hP9.rd
        rw [HI.out] at hR9'
        exact paRule_fin hP9.r1 hP9.c hRlt hR9' HBR.out.2 (hP9.va.weak (fun b _ hb => hb.1)) hP9.o _ (by rfl) (by rfl)
end
end

section
section
open Go.RowKit

theorem tkRu_first (x : Ru) (h : ruV x = true) : ∃ q, tkRu x = (1, x.head.name) :: q := by
  simp only [ruV, atmV, Bool.and_eq_true] at h
  obtain ⟨q, hq⟩ := tkT_first x.head (.inl h.2.1.2)
  rw [kind_name h.2.1.2] at hq
  exact ⟨_, by unfold tkRu; rw [hq]; rfl⟩
set_option maxRecDepth 100000 in
set_option maxHeartbeats 4000000 in
theorem paRules_ (l : List Ru) (hV : ∀ r ∈ l, ruV r = true) (hlen : l.length ≤ 128) (w : World) (R : Nat) (tv : Value) (K : List Tok) (hR : Rd w R tv K 0) (hB : Bef K 0 (tkRs l) [(0, ⟨#[]⟩)]) :
    Calls Tryz.prog 35 #[.pointer (some ⟨R, 0, none⟩)] w fun e w' => ∃ v, e = .returned v ∧ SlR (fun b => w.heap.size ≤ b) w' v l ∧ Rd w' R tv K (tkRs l).length ∧ Ch [R] w w' := by
  have hRlt := hR.blk.lt
  go_enter Tryz.func35, Tryz.ntmps35
  go_wp2
  go_loopw [3, 4] (fun v _ wr => ∃ (k i : Nat), k ≤ l.length ∧ Rd wr R tv K i ∧ Bef K i (tkRs (l.drop k)) [(0, ⟨#[]⟩)] ∧ Hid (i + (tkRs (l.drop k)).length = (tkRs l).length) ∧ Ch [R] w wr ∧ OwnG RuR 31 3 wr w.heap.size v (l.take k))
    (fun _ _ wr => K.length - (intOf ((wr.cell? ⟨R, 1, none⟩).getD undef)).toNat)
  case atStart => exact ⟨0, 0, Nat.zero_le _, hR, hB, by simp [Hid], Ch.refl _ _, OwnG.nil _ _⟩
  case round =>
    obtain ⟨k, i, hk, hRd, hBef, HLE, hC, ho⟩ := hrel
    have HRC := Lib.hid (hRd.blk.cell 1)
    have hsz := hC.size
    by_cases hlt : k < l.length
    · have hdr : l.drop k = l[k] :: l.drop (k + 1) := List.drop_eq_getElem_cons hlt
      have HTS := Lib.hid (take_snoc l k hlt)
      have hxv := hV l[k] (List.getElem_mem hlt)
      have hle := HLE.out
      rw [hdr] at hBef hle
      generalize l[k] = y at *
      have hBa : Bef K i (tkRu y) (tkRs (l.drop (k + 1)) ++ [(0, ⟨#[]⟩)]) := Bef.app.1 hBef
      obtain ⟨q, hq⟩ := tkRu_first y hxv
      have hB1 := hBa
      rw [hq] at hB1
      have htk := token_ hRd hB1.lt
      have HIL := Lib.hid hB1.lt
      rw [hB1.get] at htk
      have hrc := fun wz (hz : Ch [] wr wz) => paRule_ y hxv wz R tv K i _ (hRd.ch hz) hBa
      have HBZ := Lib.hid hBa.skip
      have HPOS : Hid (0 < (tkRu y).length) := by unfold Hid; rw [hq]; simp
      have HLT2 := Lib.hid (show i + (tkRu y).length + (tkRs (l.drop (k + 1))).length = (tkRs l).length by
        rw [← hle]; simp only [tkRs, List.length_append]; omega)
      obtain ⟨css, hown, hcl, hli⟩ := ho
      have HCL := Lib.hid hcl
      have j0 : ((css.length : Int) == 128) = false := by simp only [beq_eq_false_iff_ne, ne_eq]; rw [hcl, List.length_take]; omega
      obtain ⟨a0, c0, rfl⟩ := hown.form'
      have HLV := Lib.hid (show ∀ b, (Value.slice a0 css.length c0).ownBlock = some b → w.heap.size ≤ b ∧ b < wr.heap.size from fun b hb => hown.lt hb)
      have HRo : Hid (∀ b, (Value.slice a0 css.length c0).ownBlock = some b → b ∉ [R]) := fun b hb hm => by have := (HLV.out b hb).1; simp at hm; omega
      have hf0 := fld0
      clear hdr hle hBef hBa hq hB1 hcl HLE
      go_wp2_with (first
        | (go_at_call 69; refine htk.mono ?_; rintro e w1 ⟨⟨at_, rfl⟩, hc1⟩; clear htk; have hrc1 := hrc w1 hc1; clear hrc)
        | (go_at_call 71; refine hrc1.mono ?_; rintro e w2 ⟨va, vb, rfl, hva, hvb, hR2, hc2⟩; clear hrc1; obtain ⟨a2, c2, rfl, hl2, hm2⟩ := hva.form; obtain ⟨a3, c3, rfl, hl3, hm3⟩ := hvb.form; have hc12 := hc1.of_nil.trans hc2)
        | (at_builtin; refine wpList_append_sl rfl _ _ _ rfl elR (base := w.heap.size) (v := .slice a0 css.length c0) rfl ((hown.ch hc12 HRo.out).ch ((Ch.refl [] w2).alloc _) (by simp)) rfl (Sl.one w2 3 31 [.string y.head.name, .slice a2 y.head.args.length c2, .slice a3 y.body.length c3] rfl (by simp [Value.oneCell'])) (by have := HCL.out; simp at this; simp; omega) (by have := hc12.size; simp; omega) ?_; intro v4 w4 ho4 hc4 hat4 hn4; clear hn4))
      have hsz12 := hc12.size
      have hcA2 : Ch [R] wr (w2.alloc (.cells #[.string y.head.name, .slice a2 y.head.args.length c2, .slice a3 y.body.length c3] 31)) := hc12.alloc _
      have hlv6 : ∀ b, b ∈ (Value.slice a0 css.length c0).ownBlock.toList → w.heap.size ≤ b := by
        intro b hb
        cases hvo : (Value.slice a0 css.length c0).ownBlock with
        | none => rw [hvo] at hb; cases hb
        | some g6 => rw [hvo] at hb; simp at hb; subst hb; exact (HLV.out b hvo).1
      have hz1 : wr.heap.size ≤ w1.heap.size := hc1.size
      have key : ∀ b, wr.heap.size ≤ b → w.heap.size ≤ b ∧ (Value.slice a0 css.length c0).ownBlock ≠ some b := fun b hb => ⟨by omega, fun e => by have := (HLV.out b e).2; omega⟩
      have hliA : ∀ (i : Nat) (cs : List Value) (x : Ru), css[i]? = some cs → (l.take k)[i]? = some x → RuR (fun b => w.heap.size ≤ b ∧ (Value.slice a0 css.length c0).ownBlock ≠ some b) (w2.alloc (.cells #[.string y.head.name, .slice a2 y.head.args.length c2, .slice a3 y.body.length c3] 31)) x cs :=
        fun i cs x h4 h5 => imp_ru _ _ _ _ _ _ hcA2.size (fun b hb hp => ⟨hp, hcA2.block b hb (by intro hm; have := hp.1; simp at hm; omega)⟩) (hli i cs x h4 h5)
      have hvaA := (hva.ch0 ((Ch.refl _ _).alloc (.cells #[.string y.head.name, .slice a2 y.head.args.length c2, .slice a3 y.body.length c3] 31))).weak fun b _ hb => key b (by have h9 : w1.heap.size ≤ b := hb; omega)
      have hvbA := (hvb.ch0 ((Ch.refl _ _).alloc (.cells #[.string y.head.name, .slice a2 y.head.args.length c2, .slice a3 y.body.length c3] 31))).weak fun b _ hb => key b (by have h9 : w1.heap.size ≤ b := hb; omega)
      have hoT := OwnG.add (y := y) imp_ru HCL.out hliA ⟨_, _, rfl, hvaA, hvbA⟩ hc4 hat4 ho4
      rw [← HTS.out] at hoT
      have hR4 : Rd w4 R tv K (i + (tkRu y).length) := (hR2.ch ((Ch.refl _ _).alloc _)).chS hc4 (fun b hb => by have := hlv6 b hb; omega)
      have hB4 : Ch [R] w w4 := (hC.trans hcA2).step hc4 (fun x hx => .inr (by have := hlv6 _ hx; omega))
      have hq8 := hR4.blk.cell 1
      go_roundw
      case rel => exact ⟨k + 1, i + (tkRu y).length, hlt, hR4, HBZ.out, HLT2.out, hB4, hoT⟩
      case measure =>
        rw [hq8, HRC.out]
        have := HIL.out
        have := HPOS.out
        simp [intOf]
        omega
    · have hk1 : k = l.length := by omega
      have hd2 : l.drop k = [] := List.drop_of_length_le (by omega)
      have hle := HLE.out
      rw [hd2] at hBef hle
      rw [hk1, List.take_length] at ho
      have hBd : Bef K i [(0, ⟨#[]⟩)] [] := hBef
      have htk := token_ hRd hBd.lt
      rw [hBd.get] at htk
      have HI : Hid (i = (tkRs l).length) := hle
      have hf0 := fld0
      clear hBef hle hd2 hBd hk1 hlt HLE
      go_wp2_with (go_at_call 69; refine htk.mono ?_; rintro e w1 ⟨⟨at_, rfl⟩, hc1⟩; clear htk)
      go_ret
      have hR1 := hRd.ch hc1
      rw [HI.out] at hR1
      exact ⟨_, rfl, OwnG.slg imp_ru (OwnG.ch imp_ru ho hc1 (by simp)), hR1, hC.trans hc1.of_nil⟩

theorem passert_no (W : World) : (Instr.typeAssert .nilIface 20 115 true).run Tryz.prog W = .ok (.tuple #[.agg #[.int .i64 0, .int .i64 0], .bool false]) W := by kernel_rfl
set_option maxRecDepth 100000 in
theorem pdoor_idle (a b c : Addr) (w : World) :
    CallsD Tryz.prog 68 #[.pointer (some a), .pointer (some b), .pointer (some c)] .returning w fun e u' w' => e = .returned (.tuple #[]) ∧ u' = .returning ∧ Ch [] w w' := by
  have hta := passert_no w
  have hbn := Blk.new w 115 #[.int .i64 0, .int .i64 0]
  have hbs := hbn.set_ 0 (.int .i64 0)
  have n0 := hbn.cell 0
  have n1 := hbs.cell 1
  have f0 := hbn.frozen 0
  have f1 := hbs.frozen 1
  refine callsD_of_wpS Tryz.func68 rfl fun c₀ cs hu => ?_
  simp only [Tryz.ntmps68, List.size_toArray, List.length_cons, List.length_nil, Nat.reduceAdd, Nat.reduceSub, Array.replicate_succ, Array.replicate_zero, List.push_toArray, List.append_toArray, List.nil_append, List.cons_append]
  apply wpS_seq
  apply wpS_region
  simp [wpOpsS, go_sem, recoverD, hu, Exit.thenS, hta, n0, f0]
  apply wpS_seq
  apply wpS_region
  simp [wpOpsS, go_sem, Exit.thenS]
  refine wpS_cond (t := false) (by simp [Act.eval]) ?_
  simp only [Bool.false_eq_true, if_false]
  refine wpS_of_wp (wp_skip ?_)
  cases c₀
  simp_all [bodyPostS, results]
  exact (Ch.refl _ _).alloc _

theorem tk_start {w1 : World} {n : Nat} {tv : Value} {K : List Tok} (htv : SlTk (fun b => n + 3 ≤ b) w1 tv K) :
    SlTk (fun b => n + 3 ≤ b ∧ b < w1.heap.size) (((w1.setCell ⟨n + 1, 0, none⟩ (.int .i64 0)).setCell ⟨n + 1 + 1, 0, none⟩ (.int .i64 0)).alloc (.cells #[tv, .int .i64 0] 118)) tv K := by
  have hc : Ch [n + 1, n + 2] w1 (((w1.setCell ⟨n + 1, 0, none⟩ (.int .i64 0)).setCell ⟨n + 1 + 1, 0, none⟩ (.int .i64 0)).alloc (.cells #[tv, .int .i64 0] 118)) := (((Ch.refl _ _).set (by simp) _).set (by simp) _).alloc _
  exact htv.imp hc.size fun b hb hp => ⟨⟨hp, hb⟩, hc.block b hb (by simp; omega)⟩
theorem rd_start {w1 : World} {n : Nat} {tv : Value} {K : List Tok} (htv : SlTk (fun b => n + 3 ≤ b) w1 tv K) :
    Rd (((w1.setCell ⟨n + 1, 0, none⟩ (.int .i64 0)).setCell ⟨n + 1 + 1, 0, none⟩ (.int .i64 0)).alloc (.cells #[tv, .int .i64 0] 118)) w1.heap.size tv K 0 := by
  refine ⟨?_, (tk_start htv).imp (Nat.le_refl _) fun b _ hp => ⟨hp.2, rfl⟩⟩
  have := Blk.new ((w1.setCell ⟨n + 1, 0, none⟩ (.int .i64 0)).setCell ⟨n + 1 + 1, 0, none⟩ (.int .i64 0)) 118 #[tv, .int .i64 0]
  simpa using this
theorem rd_stored {W w2 : World} {n R i : Nat} {tv v : Value} {K : List Tok} (htv : SlTk (fun b => n + 3 ≤ b ∧ b < R) W tv K) (hR : Rd w2 R tv K i) (hc : Ch [R] W w2) (hn : n < R) : Rd (w2.setCell ⟨n, 0, none⟩ v) R tv K i := by
  have hc2 : Ch [R, n] W (w2.setCell ⟨n, 0, none⟩ v) := (hc.mono (by simp)).set (by simp) _
  exact ⟨hR.blk.far (by simp; omega) _, htv.imp hc2.size fun b hb hp => ⟨hp.2, hc2.block b hb (by simp; omega)⟩⟩
set_option maxRecDepth 100000 in
set_option maxHeartbeats 4000000 in
theorem paRead_ (l : List Ru) (hV : ∀ r ∈ l, ruV r = true) (hlen : l.length ≤ 128) (s : ByteArray) (w : World) (hW : LwAt w) (hL : Lx (bs s) (tkRs l)) (hs : s.size ≤ 16384) :
    Calls Tryz.prog 34 #[.string s, .func (.func 35) #[] #[]] w fun e w' => (∃ v, e = .returned (.tuple #[v, .int .i64 0, .int .i64 0]) ∧ SlR (fun b => w.heap.size ≤ b) w' v l) ∧ Ch [] w w' := by
  have hmf : ∀ (fn : Fn) (first cap : Array Value) (w : World), (Instr.makeFunc fn first cap).run Tryz.prog w = .ok (.func fn first cap) w := fun _ _ _ _ => rfl
  have hf0 := fld0
  have h1 := Blk.new w 22 #[.slice none 0 0]
  have h1' := h1.alloc (.cells #[.int .i64 0] 3)
  have h1'' := h1'.alloc (.cells #[.int .i64 0] 32)
  have h2 := Blk.new (w.alloc (.cells #[.slice none 0 0] 22)) 3 #[.int .i64 0]
  have h2' := h2.alloc (.cells #[.int .i64 0] 32)
  have h3 := Blk.new ((w.alloc (.cells #[.slice none 0 0] 22)).alloc (.cells #[.int .i64 0] 3)) 32 #[.int .i64 0]
  have hc3 : Ch [] w (((w.alloc (.cells #[.slice none 0 0] 22)).alloc (.cells #[.int .i64 0] 3)).alloc (.cells #[.int .i64 0] 32)) := (((Ch.refl _ _).alloc _).alloc _).alloc _
  have hs3 : (((w.alloc (.cells #[.slice none 0 0] 22)).alloc (.cells #[.int .i64 0] 3)).alloc (.cells #[.int .i64 0] 32)).heap.size = w.heap.size + 3 := by simp
  rw [show (w.alloc (.cells #[.slice none 0 0] 22)).heap.size = w.heap.size + 1 by simp] at h2'
  rw [show ((w.alloc (.cells #[.slice none 0 0] 22)).alloc (.cells #[.int .i64 0] 3)).heap.size = w.heap.size + 2 by simp] at h3
  generalize hwA : ((w.alloc (.cells #[.slice none 0 0] 22)).alloc (.cells #[.int .i64 0] 3)).alloc (.cells #[.int .i64 0] 32) = wA at *
  have HSA := Lib.hid hs3
  have hlx := lex_ s (tkRs l) wA (hW.ch hc3) hL hs
  have hBK : Bef (tkRs l ++ [(0, (⟨#[]⟩ : ByteArray))]) 0 (tkRs l) [(0, (⟨#[]⟩ : ByteArray))] := rfl
  have hLK : (tkRs l).length < (tkRs l ++ [(0, (⟨#[]⟩ : ByteArray))]).length := by simp
  have HGK : Hid ((tkRs l ++ [(0, (⟨#[]⟩ : ByteArray))])[(tkRs l).length]'hLK = (0, (⟨#[]⟩ : ByteArray))) := by unfold Hid; simp
  generalize (tkRs l ++ [(0, (⟨#[]⟩ : ByteArray))]) = K at hlx hBK hLK HGK
  clear h1 h1' h2 hs3
  go_enter_defers Tryz.func34, Tryz.ntmps34
  go_wp2_with (first
    | (go_at_call 67; refine hlx.mono ?_; rintro e w1 ⟨⟨tv, rfl, htv⟩, hc1⟩; clear hlx; obtain ⟨at_, ct, rfl, hlt, hmt⟩ : ∃ a c, tv = .slice a K.length c ∧ K.length ≤ c ∧ c ≤ maxLen := (by obtain ⟨css, q1, q2⟩ := htv; have := Sl.form' q1; rwa [q2.1] at this); have a1 := h1''.ch hc1 (by simp); have a2 := h2'.ch hc1 (by simp); have a3 := h3.ch hc1 (by simp); have x1 := a1.cell 0; have x2 := a2.cell 0; have x3 := a3.cell 0; have y2 := a2.frozen 0; have y3 := a3.frozen 0; have htA : SlTk (fun b => w.heap.size + 3 ≤ b) w1 (.slice at_ K.length ct) K := (by have := htv; rw [HSA.out] at this; exact this); have hz1 := hc1.size; have hcx : Ch [w.heap.size + 1, w.heap.size + 2] w1 (((w1.setCell ⟨w.heap.size + 1, 0, none⟩ (.int .i64 0)).setCell ⟨w.heap.size + 1 + 1, 0, none⟩ (.int .i64 0)).alloc (.cells #[.slice at_ K.length ct, .int .i64 0] 118)) := (((Ch.refl _ _).set (by simp) _).set (by simp) _).alloc _; have hRS := rd_start htA; have hTS := tk_start htA; have hrs := paRules_ l hV hlen _ _ _ _ hRS hBK)
    | (go_at_call 35; refine hrs.mono ?_; rintro e w2 ⟨v2, rfl, hv2, hR2, hc2⟩; clear hrs; obtain ⟨a2', c2', rfl, hl2, hm2⟩ := hv2.form; have b1 := (a1.ch hcx (by simp)).ch hc2 (by have := HSA.out; simp; omega); have b2 := ((((a2.set_ 0 (.int .i64 0)).far (p := ⟨w.heap.size + 1 + 1, 0, none⟩) (by simp) (.int .i64 0)).alloc (.cells #[.slice at_ K.length ct, .int .i64 0] 118))).ch hc2 (by have := HSA.out; simp; omega); have b3 := ((((a3.far (p := ⟨w.heap.size + 1, 0, none⟩) (by simp) (.int .i64 0)).set_ 0 (.int .i64 0)).alloc (.cells #[.slice at_ K.length ct, .int .i64 0] 118))).ch hc2 (by have := HSA.out; simp; omega); have z1 := b1.cell 0; have f1 := b1.frozen 0; have htk := token_ (rd_stored (v := .slice a2' l.length c2') hTS hR2 hc2 (by have := HSA.out; omega)) hLK; rw [HGK.out] at htk)
    | (go_at_call 69; refine htk.mono ?_; rintro e w4 ⟨⟨at2, rfl⟩, hc4⟩; clear htk; have d1 := (b1.set_ 0 (.slice a2' l.length c2')).ch hc4 (by simp); have d2 := (b2.far (p := ⟨w.heap.size, 0, none⟩) (by simp) (.slice a2' l.length c2')).ch hc4 (by simp); have d3 := (b3.far (p := ⟨w.heap.size, 0, none⟩) (by simp) (.slice a2' l.length c2')).ch hc4 (by simp); have e1 := d1.cell 0; have g1 := d1.frozen 0; have d2' := d2.far (p := ⟨w.heap.size, 0, none⟩) (by simp) (.slice a2' l.length c2'); have d3' := (d3.far (p := ⟨w.heap.size, 0, none⟩) (by simp) (.slice a2' l.length c2')).far (p := ⟨w.heap.size + 1, 0, none⟩) (by simp) (.int .i64 0); have e2 := d2'.cell 0; have g2 := d2'.frozen 0; have e3 := d3'.cell 0; have g3 := d3'.frozen 0))
  have hz2 := hc2.size
  have hz4 := hc4.size
  have hc12 : Ch [w.heap.size + 1, w.heap.size + 2, w1.heap.size] w1 w2 := (hcx.mono (by simp)).trans (hc2.mono (by simp))
  have hcw4 : Ch [] w w4 := (((hc3.trans hc1).step hc12 (fun x hx => .inr (by have := HSA.out; simp at hx; omega))).set (p := ⟨w.heap.size, 0, none⟩) (.inr (Nat.le_refl _)) (.slice a2' l.length c2')).trans hc4
  have hcw5 := ((hcw4.set (p := ⟨w.heap.size, 0, none⟩) (.inr (Nat.le_refl _)) (.slice a2' l.length c2')).set (p := ⟨w.heap.size + 1, 0, none⟩) (.inr (by simp)) (.int .i64 0)).set (p := ⟨w.heap.size + 1 + 1, 0, none⟩) (.inr (by simp; omega)) (.int .i64 0)
  have m1 := ((d1.set_ 0 (.slice a2' l.length c2')).far (p := ⟨w.heap.size + 1, 0, none⟩) (by simp) (.int .i64 0)).far (p := ⟨w.heap.size + 1 + 1, 0, none⟩) (by simp; omega) (.int .i64 0)
  have m2 := (d2'.set_ 0 (.int .i64 0)).far (p := ⟨w.heap.size + 1 + 1, 0, none⟩) (by simp) (.int .i64 0)
  have m3 := d3'.set_ 0 (.int .i64 0)
  have hcS : Ch [w.heap.size] w2 w4 := ((Ch.refl _ _).set (p := ⟨w.heap.size, 0, none⟩) (by simp) (.slice a2' l.length c2')).trans hc4.of_nil
  have hcS5 := (((hcS.mono (S' := [w.heap.size, w.heap.size + 1, w.heap.size + 2]) (by simp)).set (p := ⟨w.heap.size, 0, none⟩) (by simp) (.slice a2' l.length c2')).set (p := ⟨w.heap.size + 1, 0, none⟩) (by simp) (.int .i64 0)).set (p := ⟨w.heap.size + 1 + 1, 0, none⟩) (by simp) (.int .i64 0)
  have hv5 := (hv2.ch hcS5 (fun b _ hb hm => by have := HSA.out; have h9 := Nat.le_trans hcx.size hb; simp at hm; omega)).weak (q := fun b => w.heap.size ≤ b) (fun b _ hb => by have := HSA.out; have h9 := Nat.le_trans hcx.size hb; omega)
  generalize (((w4.setCell ⟨w.heap.size, 0, none⟩ (.slice a2' l.length c2')).setCell ⟨w.heap.size + 1, 0, none⟩ (.int .i64 0)).setCell ⟨w.heap.size + 1 + 1, 0, none⟩ (.int .i64 0)) = w5 at *
  refine leaves_cons (f := 68) (args := #[.pointer (some ⟨w.heap.size, 0, none⟩), .pointer (some ⟨w.heap.size + 1, 0, none⟩), .pointer (some ⟨w.heap.size + 1 + 1, 0, none⟩)]) (by simp) (by simp [go_sem]) ?_
  refine (pdoor_idle _ _ _ _).mono ?_
  rintro e u' w6 ⟨rfl, rfl, hc6⟩
  have q1 := (m1.ch hc6 (by simp)).cell 0
  have q2 := (m2.ch hc6 (by simp)).cell 0
  have q3 := (m3.ch hc6 (by simp)).cell 0
  simp [Leaves, settle, results, Tryz.results34, go_sem, q1, q2, q3]
  exact ⟨hv5.ch0 hc6, hcw5.trans hc6⟩

/-- a text of valid rules is read as these rules -/
theorem paParse_ (l : List Ru) (hV : ∀ r ∈ l, ruV r = true) (hlen : l.length ≤ 128) (s : ByteArray) (w : World) (hW : LwAt w) (hL : Lx (bs s) (tkRs l)) (hs : s.size ≤ 16384) :
    Calls Tryz.prog 10 #[.string s] w fun e w' => (∃ v, e = .returned (.tuple #[v, .int .i64 0, .int .i64 0]) ∧ SlR (fun b => w.heap.size ≤ b) w' v l) ∧ Ch [] w w' := by
  have hrd := paRead_ l hV hlen s w hW hL hs
  go_enter Tryz.func10, Tryz.ntmps10
  go_wp2_with (go_at_call 34; refine hrd.mono ?_; rintro e w1 ⟨⟨v, rfl, hv⟩, hc1⟩)
  go_ret3
  exact ⟨⟨v, rfl, hv⟩, hc1⟩
end
end
end Go.Proofs.YtgljjapglgcpdaaGreatDoor
