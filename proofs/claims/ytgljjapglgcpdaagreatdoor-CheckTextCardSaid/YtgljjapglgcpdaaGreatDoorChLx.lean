
/-
  The contracts of the lexer's functions: blank, inRun, Word, kind, skip.
  Tokens in memory; the contract of the lexer's closure that adds one.
  The contract of lexer.Lex at a text that has tokens.
-/
import Derived.Test.YtgljjapglgcpdaaGreatDoorChTxt
import Derived.Test.YtgljjapglgcpdaaGreatDoorChVars
import Derived.Test.YtgljjapglgcpdaaGreatDoorChNames
import Derived.Test.YtgljjapglgcpdaaGreatDoorMaps
import Derived.Test.YtgljjapglgcpdaaGreatDoorStep
import Derived.Test.YtgljjapglgcpdaaGreatDoorFacts
import Derived.Deep.RegionLaw
import Derived.Test.YtgljjapglgcpdaaGreatDoorBldL
import Derived.OwnWalk
namespace Go.Proofs.YtgljjapglgcpdaaGreatDoor

section
section
open Go.RowKit

set_option maxRecDepth 100000 in
theorem lxBlank_ (c : Nat) (w : World) : Calls Tryz.prog 100 #[.int .u8 (c : Int)] w fun e w' => e = .returned (.bool (blankC c)) ∧ w' = w := by
  by_cases h1 : c = 32
  · subst h1
    go_enter Tryz.func100, Tryz.ntmps100
    go_wp2
    go_ret
    exact ⟨rfl, rfl⟩
  · by_cases h2 : c = 9
    · subst h2
      go_enter Tryz.func100, Tryz.ntmps100
      go_wp2
      go_ret
      exact ⟨rfl, rfl⟩
    · by_cases h3 : c = 10
      · subst h3
        go_enter Tryz.func100, Tryz.ntmps100
        go_wp2
        go_ret
        exact ⟨rfl, rfl⟩
      · by_cases h4 : c = 13
        · subst h4
          go_enter Tryz.func100, Tryz.ntmps100
          go_wp2
          go_ret
          exact ⟨rfl, rfl⟩
        · have HR : Hid (blankC c = false) := by unfold Hid blankC; simp [h1, h2, h3, h4]
          have i1 : ((c : Int) == 32) = false := by simp; omega
          have i2 : ((c : Int) == 9) = false := by simp; omega
          have i3 : ((c : Int) == 10) = false := by simp; omega
          have i4 : ((c : Int) == 13) = false := by simp; omega
          clear h1 h2 h3 h4
          go_enter Tryz.func100, Tryz.ntmps100
          go_wp2
          go_ret
          exact ⟨by rw [HR.out]; rfl, rfl⟩

set_option maxRecDepth 100000 in
set_option maxHeartbeats 2000000 in
theorem lxRun_ (c : Nat) (w : World) : Calls Tryz.prog 103 #[.int .u8 (c : Int)] w fun e w' => e = .returned (.bool (runC c)) ∧ w' = w := by
  rcases Nat.lt_or_ge c 97 with p1 | p1
  · rcases Nat.lt_or_ge c 65 with p3 | p3
    · rcases Nat.lt_or_ge c 48 with p5 | p5
      · by_cases p7 : c = 45
        · subst p7
          go_enter Tryz.func103, Tryz.ntmps103
          go_wp2
          go_ret
          exact ⟨rfl, rfl⟩
        · have HR : Hid (runC c = false) := by unfold Hid; simp [runC, lowC, uppC, digC]; omega
          have i1 : decide ((97 : Int) ≤ (c : Int)) = false := decide_eq_false (by omega)
          have i2 : decide ((65 : Int) ≤ (c : Int)) = false := decide_eq_false (by omega)
          have i3 : decide ((48 : Int) ≤ (c : Int)) = false := decide_eq_false (by omega)
          have i4 : ((c : Int) == 45) = false := by simp; omega
          clear p1 p3 p5 p7
          go_enter Tryz.func103, Tryz.ntmps103
          go_wp2
          go_ret
          exact ⟨by rw [HR.out]; rfl, rfl⟩
      · rcases Nat.lt_or_ge 57 c with p6 | p6
        · have HR : Hid (runC c = false) := by unfold Hid; simp [runC, lowC, uppC, digC]; omega
          have i1 : decide ((97 : Int) ≤ (c : Int)) = false := decide_eq_false (by omega)
          have i2 : decide ((65 : Int) ≤ (c : Int)) = false := decide_eq_false (by omega)
          have i3 : decide ((48 : Int) ≤ (c : Int)) = true := decide_eq_true (by omega)
          have i5 : decide ((c : Int) ≤ 57) = false := decide_eq_false (by omega)
          have i4 : ((c : Int) == 45) = false := by simp; omega
          clear p1 p3 p5 p6
          go_enter Tryz.func103, Tryz.ntmps103
          go_wp2
          go_ret
          exact ⟨by rw [HR.out]; rfl, rfl⟩
        · have HR : Hid (runC c = true) := by unfold Hid; simp [runC, lowC, uppC, digC]; omega
          have i1 : decide ((97 : Int) ≤ (c : Int)) = false := decide_eq_false (by omega)
          have i2 : decide ((65 : Int) ≤ (c : Int)) = false := decide_eq_false (by omega)
          have i3 : decide ((48 : Int) ≤ (c : Int)) = true := decide_eq_true (by omega)
          have i5 : decide ((c : Int) ≤ 57) = true := decide_eq_true (by omega)
          clear p1 p3 p5 p6
          go_enter Tryz.func103, Tryz.ntmps103
          go_wp2
          go_ret
          exact ⟨by rw [HR.out]; rfl, rfl⟩
    · rcases Nat.lt_or_ge 90 c with p6 | p6
      · have HR : Hid (runC c = false) := by unfold Hid; simp [runC, lowC, uppC, digC]; omega
        have i1 : decide ((97 : Int) ≤ (c : Int)) = false := decide_eq_false (by omega)
        have i2 : decide ((65 : Int) ≤ (c : Int)) = true := decide_eq_true (by omega)
        have i6 : decide ((c : Int) ≤ 90) = false := decide_eq_false (by omega)
        have i3 : decide ((48 : Int) ≤ (c : Int)) = true := decide_eq_true (by omega)
        have i5 : decide ((c : Int) ≤ 57) = false := decide_eq_false (by omega)
        have i4 : ((c : Int) == 45) = false := by simp; omega
        clear p1 p3 p6
        go_enter Tryz.func103, Tryz.ntmps103
        go_wp2
        go_ret
        exact ⟨by rw [HR.out]; rfl, rfl⟩
      · have HR : Hid (runC c = true) := by unfold Hid; simp [runC, lowC, uppC, digC]; omega
        have i1 : decide ((97 : Int) ≤ (c : Int)) = false := decide_eq_false (by omega)
        have i2 : decide ((65 : Int) ≤ (c : Int)) = true := decide_eq_true (by omega)
        have i6 : decide ((c : Int) ≤ 90) = true := decide_eq_true (by omega)
        clear p1 p3 p6
        go_enter Tryz.func103, Tryz.ntmps103
        go_wp2
        go_ret
        exact ⟨by rw [HR.out]; rfl, rfl⟩
  · rcases Nat.lt_or_ge 122 c with p6 | p6
    · have HR : Hid (runC c = false) := by unfold Hid; simp [runC, lowC, uppC, digC]; omega
      have i1 : decide ((97 : Int) ≤ (c : Int)) = true := decide_eq_true (by omega)
      have i7 : decide ((c : Int) ≤ 122) = false := decide_eq_false (by omega)
      have i2 : decide ((65 : Int) ≤ (c : Int)) = true := decide_eq_true (by omega)
      have i6 : decide ((c : Int) ≤ 90) = false := decide_eq_false (by omega)
      have i3 : decide ((48 : Int) ≤ (c : Int)) = true := decide_eq_true (by omega)
      have i5 : decide ((c : Int) ≤ 57) = false := decide_eq_false (by omega)
      have i4 : ((c : Int) == 45) = false := by simp; omega
      clear p1 p6
      go_enter Tryz.func103, Tryz.ntmps103
      go_wp2
      go_ret
      exact ⟨by rw [HR.out]; rfl, rfl⟩
    · have HR : Hid (runC c = true) := by unfold Hid; simp [runC, lowC, uppC, digC]; omega
      have i1 : decide ((97 : Int) ≤ (c : Int)) = true := decide_eq_true (by omega)
      have i7 : decide ((c : Int) ≤ 122) = true := decide_eq_true (by omega)
      clear p1 p6
      go_enter Tryz.func103, Tryz.ntmps103
      go_wp2
      go_ret
      exact ⟨by rw [HR.out]; rfl, rfl⟩

/-- the package's variable lexer.words, as it is laid -/
def LwAt (w : World) : Prop := SlS (fun b => b = 2) w (.slice (some ⟨2, 0, none⟩) 3 3) [sIf, sAnd, sNot]
theorem LwAt.ch {w w' : World} (h : LwAt w) (hc : Ch [] w w') : LwAt w' := Sl.ch0 h hc
theorem wordB_has (s : ByteArray) : hasS [sIf, sAnd, sNot] s = wordB s := by
  rw [Bool.eq_iff_iff]
  simp only [hasS, wordB, decide_eq_true_eq, List.mem_cons, List.not_mem_nil, or_false, Bool.or_eq_true]
theorem lxWord_ (s : ByteArray) (w : World) (hL : LwAt w) : Calls Tryz.prog 123 #[.string s] w fun e w' => e = .returned (.bool (wordB s)) ∧ w' = w := by
  have hcon := containsS_ _ _ _ s w hL
  go_enter Tryz.func123, Tryz.ntmps123
  go_wp2_with (go_at_call 55; refine hcon.mono ?_; rintro e w2 ⟨rfl, rfl⟩)
  go_ret
  exact ⟨by rw [wordB_has]; rfl, rfl⟩

set_option maxRecDepth 100000 in
set_option maxHeartbeats 2000000 in
theorem lxKind_ (s : ByteArray) (w : World) (hL : LwAt w) (hs : s.size ≤ maxLen) : Calls Tryz.prog 104 #[.string s] w fun e w' => e = .returned (.int .i64 (kindB s)) ∧ Ch [] w w' := by
  have HK := Lib.hid (show kindB s = if wordB s = true then 5 else if nameB s = true then 1 else if numB s = true then 2 else if varB s = true then 3 else 0 from rfl)
  have hnum := number_ s w hs
  have hword := fun wz (hz : Ch [] w wz) => lxWord_ s wz (hL.ch hz)
  have hname := fun wz => name_ s wz hs
  have hvar := fun wz => variableT_ s wz hs
  generalize kindB s = K at *
  generalize wordB s = q1 at *
  generalize nameB s = q2 at *
  generalize numB s = q3 at *
  generalize varB s = q4 at *
  cases q1
  · cases q2
    · cases q3
      · cases q4
        all_goals
          have HR := HK.out
          simp only [if_true, Bool.false_eq_true, if_false] at HR
          subst HR
          clear HK
          go_enter Tryz.func104, Tryz.ntmps104
          go_wp2_with (first
            | (go_at_call 86; refine hnum.mono ?_; rintro e w1 ⟨rfl, hc1⟩)
            | (go_at_call 123; refine (hword _ hc1).mono ?_; rintro e w2 ⟨rfl, rfl⟩)
            | (go_at_call 22; refine (hname _).mono ?_; rintro e w3 ⟨rfl, hc3⟩)
            | (go_at_call 54; refine (hvar _).mono ?_; rintro e w4 ⟨rfl, hc4⟩))
          go_ret
          exact ⟨rfl, (hc1.trans hc3).trans hc4⟩
      · have HR := HK.out
        simp only [if_true, Bool.false_eq_true, if_false] at HR
        subst HR
        clear HK
        go_enter Tryz.func104, Tryz.ntmps104
        go_wp2_with (first
          | (go_at_call 86; refine hnum.mono ?_; rintro e w1 ⟨rfl, hc1⟩)
          | (go_at_call 123; refine (hword _ hc1).mono ?_; rintro e w2 ⟨rfl, rfl⟩)
          | (go_at_call 22; refine (hname _).mono ?_; rintro e w3 ⟨rfl, hc3⟩))
        go_ret
        exact ⟨rfl, hc1.trans hc3⟩
    · have HR := HK.out
      simp only [if_true, Bool.false_eq_true, if_false] at HR
      subst HR
      clear HK
      go_enter Tryz.func104, Tryz.ntmps104
      go_wp2_with (first
        | (go_at_call 86; refine hnum.mono ?_; rintro e w1 ⟨rfl, hc1⟩)
        | (go_at_call 123; refine (hword _ hc1).mono ?_; rintro e w2 ⟨rfl, rfl⟩)
        | (go_at_call 22; refine (hname _).mono ?_; rintro e w3 ⟨rfl, hc3⟩))
      go_ret
      exact ⟨rfl, hc1.trans hc3⟩
  · have HR := HK.out
    simp only [if_true] at HR
    subst HR
    clear HK
    go_enter Tryz.func104, Tryz.ntmps104
    go_wp2_with (first
      | (go_at_call 86; refine hnum.mono ?_; rintro e w1 ⟨rfl, hc1⟩)
      | (go_at_call 123; refine (hword _ hc1).mono ?_; rintro e w2 ⟨rfl, rfl⟩))
    go_ret
    exact ⟨rfl, hc1⟩

/-- skip over a run: t is the run, r what follows -/
theorem bs_get {s : ByteArray} {i : Nat} (h : i < s.size) : (bs s)[i]'(by rw [bs_size]; exact h) = s[i] := by
  have h1 := bs_at h
  rw [List.getElem?_eq_getElem (by rw [bs_size]; exact h)] at h1
  exact Option.some.inj h1
set_option maxRecDepth 100000 in
set_option maxHeartbeats 2000000 in
theorem lxSkip_ (s : ByteArray) (at_ e_ : Nat) (w : World) (h1 : at_ ≤ e_) (h2 : e_ ≤ s.size) (hs : s.size ≤ maxLen) (hrun : ∀ (j : Nat) (hj : j < s.size), at_ ≤ j → j < e_ → runC s[j].toNat = true) (hend : ∀ (hj : e_ < s.size), runC s[e_].toNat = false) :
    Calls Tryz.prog 101 #[.string s, .int .i64 (at_ : Int), .func (.func 103) #[] #[]] w fun e w' => e = .returned (.int .i64 (e_ : Int)) ∧ w' = w := by
  unfold maxLen at hs
  have HRUN := Lib.hid hrun
  have HEND := Lib.hid hend
  clear hrun hend
  go_enter Tryz.func101, Tryz.ntmps101
  go_wp2
  go_loopw [1] (fun i wr => ∃ k : Nat, at_ ≤ k ∧ k ≤ e_ ∧ i = .int .i64 k ∧ wr = w) (fun i _ => e_ - (intOf i).toNat)
  case atStart => exact ⟨at_, Nat.le_refl _, h1, rfl, rfl⟩
  case round =>
    obtain ⟨k, hk1, hk2, rfl, rfl⟩ := hrel
    by_cases hlt : k < s.size
    · have j1 : decide (k < s.size) = true := decide_eq_true hlt
      have hrc := lxRun_ s[k].toNat wr
      by_cases he : k < e_
      · rw [HRUN.out k hlt hk1 he] at hrc
        go_wp2_with (go_at_call 103; refine hrc.mono ?_; rintro e w1 ⟨rfl, rfl⟩)
        go_roundw
        case rel => exact ⟨k + 1, by omega, by omega, by go_num, trivial⟩
        case measure => simp [intOf]; omega
      · have hke : k = e_ := by omega
        subst hke
        rw [HEND.out hlt] at hrc
        go_wp2_with (go_at_call 103; refine hrc.mono ?_; rintro e w1 ⟨rfl, rfl⟩)
        go_ret
        exact ⟨rfl, rfl⟩
    · have hke : k = e_ := by omega
      have j1 : decide (k < s.size) = false := decide_eq_false hlt
      go_wp2
      go_ret
      exact ⟨rfl, rfl⟩
end
end

section
section
open Go.RowKit

/-- a token's cells: its place is not told -/
def tkR (x : Tok) (cs : List Value) : Prop := ∃ a : Int, cs = [.int .i64 x.1, .string x.2, .int .i64 a]
def TkL (ts : List Tok) (css : List (List Value)) : Prop := css.length = ts.length ∧ ∀ (i : Nat) (x : Tok) (cs : List Value), ts[i]? = some x → css[i]? = some cs → tkR x cs
theorem TkL.nil : TkL [] [] := ⟨rfl, by simp⟩
theorem TkL.snoc {ts : List Tok} {css : List (List Value)} (h : TkL ts css) {x : Tok} {cs : List Value} (hx : tkR x cs) : TkL (ts ++ [x]) (css ++ [cs]) := by
  refine ⟨by simp [h.1], fun i y c h1 h2 => ?_⟩
  by_cases hi : i < ts.length
  · rw [List.getElem?_append_left hi] at h1
    rw [List.getElem?_append_left (by rw [h.1]; exact hi)] at h2
    exact h.2 i y c h1 h2
  · rw [List.getElem?_append_right (by omega)] at h1
    rw [List.getElem?_append_right (by rw [h.1]; omega), h.1] at h2
    cases hz : i - ts.length with
    | zero =>
      rw [hz] at h1 h2
      simp only [List.getElem?_cons_zero, Option.some.injEq] at h1 h2
      subst h1 h2; exact hx
    | succ n => rw [hz] at h1; simp at h1
def SlTk (p : Nat → Prop) (w : World) (v : Value) (ts : List Tok) : Prop := ∃ css, Sl p w 3 v css ∧ TkL ts css
theorem elTk : Elem Tryz.prog 111 120 3 32 := Elem.mk' Tryz.underlying111 (by kernel_rfl) (by decide) (by decide)

set_option maxRecDepth 100000 in
set_option maxHeartbeats 8000000 in
theorem lxAdd_ (K : Int) (i j : Nat) (s : ByteArray) (Bo Bs base : Nat) (v : Value) (css : List (List Value)) (w : World) (hij : i ≤ j) (hj : j ≤ s.size) (_hs : s.size ≤ 1000000)
    (ho : Blk w Bo 111 #[v]) (hb : Blk w Bs 9 #[.string s]) (hown : Own w base 120 3 v css) (hbase : base ≤ w.heap.size) (hBo : Bo < base) (hlen : css.length ≤ 1000000) :
    Calls Tryz.prog 99 #[.int .i64 K, .int .i64 (i : Int), .int .i64 (j : Int), .pointer (some ⟨Bo, 0, none⟩), .pointer (some ⟨Bs, 0, none⟩)] w fun e w' =>
      e = .returned (.tuple #[]) ∧ ∃ v', Blk w' Bo 111 #[v'] ∧ Own w' base 120 3 v' (css ++ [[.int .i64 K, .string (s.extract i j), .int .i64 (i : Int)]]) ∧ Ch (Bo :: v.ownBlock.toList) w w' := by
  have o0 := ho.cell 0
  have s0 := hb.cell 0
  have o1 := (ho.alloc (.cells #[.int .i64 K, .string (s.extract i j), .int .i64 (i : Int)] 120)).cell 0
  have hownA : Own (w.alloc (.cells #[.int .i64 K, .string (s.extract i j), .int .i64 (i : Int)] 120)).drew base 120 3 v css := (hown.ch0' ((Ch.refl [] w).alloc _)).ch0' (Ch.refl [] _).drew
  have hrA : Blk (w.alloc (.cells #[.int .i64 K, .string (s.extract i j), .int .i64 (i : Int)] 120)).drew Bo 111 #[v] := (ho.alloc _).drew
  have hcA : Ch [] w (w.alloc (.cells #[.int .i64 K, .string (s.extract i j), .int .i64 (i : Int)] 120)).drew := ((Ch.refl _ w).alloc _).drew
  have hnm : Bo ∉ v.ownBlock.toList := fun hm => by
    cases hvo : v.ownBlock with
    | none => rw [hvo] at hm; cases hm
    | some g => rw [hvo] at hm; have := (hown.lt hvo).1; simp at hm; omega
  go_enter Tryz.func99, Tryz.ntmps99
  go_region_law (first
    | (refine step_append_sl rfl _ _ _ rfl elTk (base := base) (v := v) rfl hownA rfl (Sl.one w.drew 3 120 [.int .i64 K, .string (s.extract i j), .int .i64 (i : Int)] rfl (by simp [Value.oneCell'])) (by simp; omega) (by simp; omega) ?_; intro v6 w6 ho6 hc6 hat6 hn6; clear hn6; obtain ⟨a7, c7, rfl⟩ := ho6.form'; have hr6 := hrA.ch hc6 hnm; have x6 := hr6.cell 0; have y6 := hr6.frozen 0))
  all_goals
    have hlv : (css ++ [[Value.int IntKind.i64 K, Value.string (s.extract i j), Value.int IntKind.i64 (i : Int)]]).length = css.length + 1 := by simp
    rw [hlv] at ho6
    go_wp2
    go_end0
    refine ⟨rfl, _, hr6.set_ 0 _, ho6.ch (S := [Bo]) ((Ch.refl _ _).set (by simp) _) (fun g hg hm => ?_), ?_⟩
    · have := (ho6.lt hg).1; simp at hm; omega
    · have h1 : Ch (Bo :: v.ownBlock.toList) w w6 := hcA.of_nil.step hc6 (fun x hx => .inl (by simp [hx]))
      exact h1.set (by simp) _
end
end

section
section
open Go.RowKit

theorem bs_extract (s : ByteArray) (a b : Nat) : bs (s.extract a b) = ((bs s).drop a).take (b - a) := by
  unfold bs
  rw [ByteArray.data_extract, Array.toList_extract, List.extract_eq_take_drop]
theorem eq_of_bs {s t : ByteArray} (h : bs s = bs t) : s = t := by
  unfold bs at h
  exact ByteArray.ext (Array.toList_inj.1 h)
theorem drop_cons {s : ByteArray} {k : Nat} (h : k < s.size) : (bs s).drop k = s[k] :: (bs s).drop (k + 1) := by
  rw [List.drop_eq_getElem_cons (by rw [bs_size]; exact h), bs_get h]
theorem lx_step {s : ByteArray} {k : Nat} {rest : List Tok} (h : Lx ((bs s).drop k) rest) (hk : k < s.size) :
    (blankC s[k].toNat = true ∧ Lx ((bs s).drop (k + 1)) rest) ∨
    (∃ (e_ : Nat) (rest' : List Tok), k < e_ ∧ e_ ≤ s.size ∧ (∀ (j : Nat) (hj : j < s.size), k ≤ j → j < e_ → runC s[j].toNat = true) ∧ (∀ (hj : e_ < s.size), runC s[e_].toNat = false) ∧
      kindB (s.extract k e_) ≠ 0 ∧ rest = (kindB (s.extract k e_), s.extract k e_) :: rest' ∧ Lx ((bs s).drop e_) rest') ∨
    (symC s[k].toNat = true ∧ ∃ rest' : List Tok, rest = (4, s.extract k (k + 1)) :: rest' ∧ Lx ((bs s).drop (k + 1)) rest') := by
  have hd := drop_cons hk
  generalize hL : (bs s).drop k = L at h
  cases h with
  | nil => rw [hd] at hL; cases hL
  | blank c r ts hc hr =>
    rw [hd] at hL
    injection hL with e1 e2
    subst e1 e2
    exact .inl ⟨hc, hr⟩
  | sym c r ts hc hr =>
    have hx : s.extract k (k + 1) = ⟨#[c]⟩ := by
      refine eq_of_bs ?_
      rw [bs_extract, hL, show k + 1 - k = 1 by omega]
      rfl
    rw [hd] at hL
    injection hL with e1 e2
    subst e1 e2
    exact .inr (.inr ⟨hc, ts, by rw [hx], hr⟩)
  | run t r ts hne hall hst hkd hr =>
    have hlen := congrArg List.length hL
    rw [List.length_drop, bs_size, List.length_append] at hlen
    have htl : 0 < t.length := by cases t with | nil => exact absurd rfl hne | cons a b => simp
    have hx : s.extract k (k + t.length) = ⟨t.toArray⟩ := by
      refine eq_of_bs ?_
      rw [bs_extract, hL, show k + t.length - k = t.length by omega, List.take_left']
      · rfl
      · rfl
    have hr' : (bs s).drop (k + t.length) = r := by
      rw [← List.drop_drop, hL, List.drop_left']
      rfl
    refine .inr (.inl ⟨k + t.length, ts, by omega, by omega, fun j hj h1 h2 => ?_, fun hj => ?_, by rw [hx]; exact hkd, by rw [hx], by rw [hr']; exact hr⟩)
    · refine hall _ ?_
      have h3 : t[j - k]? = some s[j] := by
        have h4 : ((bs s).drop k)[j - k]? = some s[j] := by
          rw [List.getElem?_drop, show k + (j - k) = j by omega, bs_at hj]
        rw [hL, List.getElem?_append_left (by omega)] at h4
        exact h4
      exact List.mem_of_getElem? h3
    · refine hst _ ?_
      rw [← hr', drop_cons hj]; rfl
theorem lx_nil {rest : List Tok} (h : Lx [] rest) : rest = [] := by
  generalize hL : ([] : List UInt8) = L at h
  cases h with
  | nil => rfl
  | blank c r ts hc hr => cases hL
  | sym c r ts hc hr => cases hL
  | run t r ts hne hall hst hkd hr =>
    cases t with
    | nil => exact absurd rfl hne
    | cons a b => cases hL
theorem run_not {c : Nat} (h : runC c = true) : blankC c = false ∧ (c == 35) = false := by
  have : 45 ≤ c := by
    simp only [runC, lowC, uppC, digC, Bool.or_eq_true, Bool.and_eq_true, decide_eq_true_eq, beq_iff_eq] at h
    omega
  constructor
  · unfold blankC; simp; omega
  · simp; omega
theorem ne35 {c : Nat} (h : (c == 35) = false) : ((c : Int) == 35) = false := by
  have : c ≠ 35 := by simpa using h
  simp only [beq_eq_false_iff_ne, ne_eq]; omega
theorem sym_cases {c : Nat} (h : symC c = true) : c = 40 ∨ c = 41 ∨ c = 44 ∨ c = 46 := by
  simpa [symC] using h
theorem idxSym {c : Nat} (h : symC c = true) (w : World) : Calls Tryz.prog 105 #[.string ⟨#[40, 41, 44, 46]⟩, .int .u8 (c : Int)] w fun e w' => (∃ n : Nat, e = .returned (.int .i64 (n : Int))) ∧ w' = w := by
  refine (idxByte _ _ w).mono ?_
  rintro e w' ⟨rfl, rfl⟩
  refine ⟨?_, rfl⟩
  rcases sym_cases h with rfl | rfl | rfl | rfl
  · exact ⟨0, rfl⟩
  · exact ⟨1, rfl⟩
  · exact ⟨2, rfl⟩
  · exact ⟨3, rfl⟩

theorem extract_size (s : ByteArray) (a b : Nat) : (s.extract a b).size ≤ s.size := by
  rw [← bs_size, bs_extract, List.length_take, List.length_drop, bs_size]; omega
theorem extract_end (s : ByteArray) : s.extract s.size s.size = ⟨#[]⟩ := by
  refine eq_of_bs ?_
  rw [bs_extract, Nat.sub_self, List.take_zero]
  rfl
theorem sym_not {c : Nat} (h : symC c = true) : blankC c = false ∧ (c == 35) = false ∧ runC c = false := by
  rcases sym_cases h with rfl | rfl | rfl | rfl <;> exact ⟨rfl, rfl, rfl⟩

set_option maxRecDepth 100000 in
set_option maxHeartbeats 16000000 in
theorem lex_ (s : ByteArray) (ts : List Tok) (w : World) (hW : LwAt w) (hL : Lx (bs s) ts) (hs : s.size ≤ 16384) :
    Calls Tryz.prog 67 #[.string s] w fun e w' => (∃ v, e = .returned (.tuple #[v, .int .i64 0, .int .i64 0]) ∧ SlTk (fun b => w.heap.size ≤ b) w' v (ts ++ [(0, ⟨#[]⟩)])) ∧ Ch [] w w' := by
  have hbs := Blk.new w 9 #[.string s]
  have hcA : Ch [] w (w.alloc (.cells #[.string s] 9)) := (Ch.refl _ _).alloc _
  have hsA : (w.alloc (.cells #[.string s] 9)).heap.size = w.heap.size + 1 := by simp
  generalize hwA : w.alloc (.cells #[.string s] 9) = wA at *
  have hbo := Blk.new wA 111 #[.slice none 0 0]
  have hcB := hcA.alloc (.cells #[.slice none 0 0] 111)
  have hsB : (wA.alloc (.cells #[.slice none 0 0] 111)).heap.size = w.heap.size + 2 := by simp [hsA]
  have hbsB := hbs.alloc (.cells #[.slice none 0 0] 111)
  generalize hwB : wA.alloc (.cells #[.slice none 0 0] 111) = wB at *
  have HSB := Lib.hid hsB
  have HSA := Lib.hid hsA
  clear hsA hsB
  have z0 := hbs.cell 0
  have z1 := hbsB.cell 0
  have j0 : decide (16384 < s.size) = false := decide_eq_false (by omega)
  have hmf : ∀ (fn : Fn) (first cap : Array Value) (w : World), (Instr.makeFunc fn first cap).run Tryz.prog w = .ok (.func fn first cap) w := fun _ _ _ _ => rfl
  go_enter Tryz.func67, Tryz.ntmps67
  go_wp2
  clear z0 z1
  go_loopw [7, 8, 9, 10] (fun atv _ _ _ wr => ∃ (k : Nat) (dn rest : List Tok) (v : Value) (css : List (List Value)), k ≤ s.size ∧ atv = .int .i64 k ∧ Hid (ts = dn ++ rest) ∧ Lx ((bs s).drop k) rest ∧ dn.length ≤ k ∧ Ch [] w wr ∧ Hid (w.heap.size + 2 ≤ wr.heap.size) ∧ Blk wr w.heap.size 9 #[.string s] ∧ Blk wr wA.heap.size 111 #[v] ∧ Own wr (w.heap.size + 2) 120 3 v css ∧ TkL dn css) (fun i _ _ _ _ => s.size - (intOf i).toNat)
  case atStart => exact ⟨0, [], ts, _, [], Nat.zero_le _, rfl, rfl, hL, Nat.le_refl _, hcB, Nat.le_of_eq HSB.out.symm, hbsB, hbo, Own.nil _ _ _ _, TkL.nil⟩
  case round =>
    obtain ⟨k, dn, rest, v, css, hk, rfl, HTS, hLx, hdn, hC, HSZ, hrs, hro, hown, htk⟩ := hrel
    have r0 := hrs.cell 0
    have HMEM := Lib.hid (show ∀ x ∈ (wA.heap.size :: v.ownBlock.toList), w.heap.size + 1 ≤ x from fun x hx => by
      rcases List.mem_cons.1 hx with rfl | hx
      · have := HSA.out; omega
      · cases hvo : v.ownBlock with
        | none => rw [hvo] at hx; cases hx
        | some g => rw [hvo] at hx; have := (hown.lt hvo).1; simp at hx; omega)
    by_cases hlt : k < s.size
    · have j1 : decide (k < s.size) = true := decide_eq_true hlt
      rcases lx_step hLx hlt with ⟨hbl, hnx⟩ | ⟨e_, rest', h1, h2, h3, h4, h5, h6, hnx⟩ | ⟨hsy, rest', h6, hnx⟩
      · have hb := lxBlank_ s[k].toNat wr
        rw [hbl] at hb
        clear hbl
        go_wp2_with (go_at_call 100; refine hb.mono ?_; rintro e w1 ⟨rfl, rfl⟩)
        go_roundw
        case rel => exact ⟨k + 1, dn, rest, v, css, by omega, by go_num, HTS, hnx, by omega, hC, HSZ, hrs, hro, hown, htk⟩
        case measure => simp [intOf]; omega
      · have hrun := h3 k hlt (Nat.le_refl _) h1
        obtain ⟨n1, n2⟩ := run_not hrun
        have hb := lxBlank_ s[k].toNat wr
        rw [n1] at hb
        have hr := lxRun_ s[k].toNat wr
        rw [hrun] at hr
        have j2 : ((s[k].toNat : Int) == 35) = false := ne35 n2
        have hsk := lxSkip_ s k e_ wr (by omega) h2 (by unfold maxLen; omega) h3 h4
        have hxs := extract_size s k e_
        have hkd := lxKind_ (s.extract k e_) wr (hW.ch hC) (by unfold maxLen; omega)
        have j3 : (kindB (s.extract k e_) == 0) = false := by simpa using h5
        have hadd := fun wz (hz : Ch [] wr wz) => lxAdd_ (kindB (s.extract k e_)) k e_ s wA.heap.size w.heap.size (w.heap.size + 2) v css wz (by omega) h2 (by omega) (hro.ch hz (by simp)) (hrs.ch hz (by simp)) (hown.ch0' hz) (by have := HSZ.out; have := hz.size; omega) (by have := HSA.out; omega) (by rw [htk.1]; omega)
        have HKD := Lib.hid (show tkR (kindB (s.extract k e_), s.extract k e_) [.int .i64 (kindB (s.extract k e_)), .string (s.extract k e_), .int .i64 (k : Int)] from ⟨_, rfl⟩)
        have HR := Lib.hid h6
        clear h3 h4 h5 h6 n1 n2 hrun hxs
        generalize kindB (s.extract k e_) = K at *
        go_wp2_with (first
          | (go_at_call 100; refine hb.mono ?_; rintro e w1 ⟨rfl, rfl⟩; clear hb)
          | (go_at_call 103; refine hr.mono ?_; rintro e w1 ⟨rfl, rfl⟩; clear hr)
          | (go_at_call 101; refine hsk.mono ?_; rintro e w1 ⟨rfl, rfl⟩; clear hsk)
          | (go_at_call 104; refine hkd.mono ?_; rintro e w2 ⟨rfl, hc2⟩; clear hkd; have hadd2 := hadd w2 hc2; clear hadd)
          | (go_at_call 99; refine hadd2.mono ?_; rintro e w3 ⟨rfl, v3, hro3, hown3, hc3⟩; clear hadd2))
        refine ⟨⟨e_, dn ++ [(K, s.extract k e_)], rest', v3, _, by omega, rfl, ?_, hnx, by simp; omega, (hC.trans hc2).step hc3 (fun x hx => .inr (by have := HMEM.out x hx; omega)), ?_, (hrs.ch hc2 (by simp)).ch hc3 (fun hm => by have := HMEM.out _ hm; omega), hro3, hown3, htk.snoc HKD.out⟩, ?_⟩
        · unfold Hid; rw [HTS.out, HR.out, List.append_assoc]; rfl
        · have h7 := HSZ.out; have h9 := hc3.size; have h8 := hc2.size; unfold Hid; omega
        · simp [intOf]; omega
      · obtain ⟨n1, n2, n3⟩ := sym_not hsy
        have hb := lxBlank_ s[k].toNat wr
        rw [n1] at hb
        have hr := lxRun_ s[k].toNat wr
        rw [n3] at hr
        have j2 : ((s[k].toNat : Int) == 35) = false := ne35 n2
        have hix := idxSym hsy wr
        have hadd := lxAdd_ 4 k (k + 1) s wA.heap.size w.heap.size (w.heap.size + 2) v css wr (by omega) (by omega) (by omega) hro hrs hown (by have := HSZ.out; omega) (by have := HSA.out; omega) (by rw [htk.1]; omega)
        have HKD := Lib.hid (show tkR (4, s.extract k (k + 1)) [.int .i64 4, .string (s.extract k (k + 1)), .int .i64 (k : Int)] from ⟨_, rfl⟩)
        have HR := Lib.hid h6
        clear h6 n1 n2 n3 hsy
        go_wp2_with (first
          | (go_at_call 100; refine hb.mono ?_; rintro e w1 ⟨rfl, rfl⟩; clear hb)
          | (go_at_call 103; refine hr.mono ?_; rintro e w1 ⟨rfl, rfl⟩; clear hr)
          | (go_at_call 105; refine hix.mono ?_; rintro e w1 ⟨⟨q, rfl⟩, rfl⟩; clear hix; have j5 : decide ((0 : Int) ≤ (q : Int)) = true := decide_eq_true (by omega))
          | (go_at_call 99; refine hadd.mono ?_; rintro e w3 ⟨rfl, v3, hro3, hown3, hc3⟩; clear hadd))
        refine ⟨⟨k + 1, dn ++ [(4, s.extract k (k + 1))], rest', v3, _, by omega, by go_num, ?_, hnx, by simp; omega, (hC).step hc3 (fun x hx => .inr (by have := HMEM.out x hx; omega)), ?_, (hrs).ch hc3 (fun hm => by have := HMEM.out _ hm; omega), hro3, hown3, htk.snoc HKD.out⟩, ?_⟩
        · unfold Hid; rw [HTS.out, HR.out, List.append_assoc]; rfl
        · have h7 := HSZ.out; have h9 := hc3.size; unfold Hid; omega
        · simp [intOf]; omega
    · have hke : k = s.size := by omega
      subst hke
      have hrest : rest = [] := by
        rw [List.drop_of_length_le (by rw [bs_size]; omega)] at hLx
        exact lx_nil hLx
      have j1 : decide (s.size < s.size) = false := decide_eq_false hlt
      have hxe := extract_end s
      have hadd := lxAdd_ 0 s.size s.size s wA.heap.size w.heap.size (w.heap.size + 2) v css wr (Nat.le_refl _) (Nat.le_refl _) (by omega) hro hrs hown (by have := HSZ.out; omega) (by have := HSA.out; omega) (by rw [htk.1]; omega)
      rw [hxe] at hadd
      have HRE := Lib.hid hrest
      clear hxe hrest
      go_wp2_with (go_at_call 99; refine hadd.mono ?_; rintro e w3 ⟨rfl, v3, hro3, hown3, hc3⟩; clear hadd; have y0 := hro3.cell 0)
      go_ret3
      refine ⟨⟨_, rfl, _, hown3.sl.weak (fun b _ hb => by have := hb.1; omega), ?_⟩, hC.step hc3 (fun x hx => .inr (by have := HMEM.out x hx; omega))⟩
      have := htk.snoc (x := (0, ⟨#[]⟩)) (cs := [.int .i64 0, .string ⟨#[]⟩, .int .i64 (s.size : Int)]) ⟨_, rfl⟩
      rw [HTS.out, HRE.out, List.append_nil]
      exact this
end
end
end Go.Proofs.YtgljjapglgcpdaaGreatDoor
