
/-
  The contracts of term.write, term.Text, printer.Literal, printer.Rule.
-/
import Derived.Test.YtgljjapglgcpdaaGreatDoorBldL
import Derived.Test.YtgljjapglgcpdaaGreatDoorChTxt
import Derived.Lib.OthersKept
import Derived.Test.YtgljjapglgcpdaaGreatDoorMaps
import Derived.Test.YtgljjapglgcpdaaGreatDoorFacts
namespace Go.Proofs.YtgljjapglgcpdaaGreatDoor

section
open Go.RowKit

/-- the text of terms between commas -/
def txP : List Tm → List UInt8 | [] => [] | a :: r => bs (txT a) ++ bs (txC r)
theorem txC_snoc : ∀ (r : List Tm) (x : Tm), bs (txC (r ++ [x])) = bs (txC r) ++ (44 :: bs (txT x))
  | [], x => by
    simp only [List.nil_append, txC, bs_app, bs_nil, List.append_nil]
    rfl
  | b :: r, x => by
    have := txC_snoc r x
    simp only [List.cons_append, txC, bs_app, this, List.append_assoc]
theorem txP_snoc (r : List Tm) (x : Tm) (h : r ≠ []) : txP (r ++ [x]) = txP r ++ (44 :: bs (txT x)) := by
  cases r with
  | nil => exact absurd rfl h
  | cons a r => simp only [List.cons_append, txP, txC_snoc, List.append_assoc]
theorem txC_app : ∀ (r s : List Tm), bs (txC (r ++ s)) = bs (txC r) ++ bs (txC s)
  | [], s => by simp only [List.nil_append, txC, bs_nil]
  | b :: r, s => by
    have := txC_app r s
    simp only [List.cons_append, txC, bs_app, this, List.append_assoc]
theorem txP_le (r s : List Tm) : (txP r).length ≤ (txP (r ++ s)).length := by
  cases r with
  | nil => simp [txP]
  | cons a r => simp only [List.cons_append, txP, txC_app, List.length_append]; omega
theorem txT_mk (nm : ByteArray) (ags : List Tm) (h : ags ≠ []) : bs (txT (.mk nm ags)) = bs nm ++ (40 :: (txP ags ++ [41])) := by
  cases ags with
  | nil => exact absurd rfl h
  | cons a r =>
    simp only [txT, txP, bs_app, List.append_assoc]
    rfl
theorem txT_nil (nm : ByteArray) : bs (txT (.mk nm [])) = bs nm := by simp only [txT]

/-- so many bytes lie in the builder; below it nothing has turned; the others are kept -/
structure Wr (B b : Nat) (l : List UInt8) (a w : World) : Prop where
  is : IsB B b (Lib.byteCells l) w
  below : Below B a w
  kept : Lib.OthersKept 5 (some b) a w
  le : B ≤ a.heap.size
section
variable {B b : Nat} {l : List UInt8} {a w w' : World}
theorem Wr.size (h : Wr B b l a w) : B ≤ w.heap.size := Nat.le_trans h.le h.below.size
theorem Wr.alloc (h : Wr B b l a w) (o : Obj) : Wr B b l a (w.alloc o) := ⟨h.is.alloc o, h.below.alloc h.size o, h.kept.alloc o, h.le⟩
theorem Wr.of (h : IsB B b (Lib.byteCells l) w) (hB : B ≤ w.heap.size) : Wr B b l w w := ⟨h, Below.refl _ _, Lib.OthersKept.refl _ _ _, hB⟩
theorem Wr.blk {g : Nat} {t : TypeId} {cs : Array Value} (h : Wr B b l a w) (hb : Blk a g t cs) (hne : g ≠ b) (ht : t ≠ 5) : Blk w g t cs :=
  h.kept g _ hb (fun e => hne (Option.some.inj e)) (fun c fz e => ht (by injection e))
theorem Wr.trans {l' : List UInt8} (h : Wr B b l a w) (k : Wr B b l' w w') : Wr B b l' a w' := ⟨k.is, h.below.trans k.below, h.kept.trans k.kept, h.le⟩
theorem Wr.lt (h : Wr B b l a w) : b < w.heap.size := h.is.elim (fun x => x.lt) (fun x => x.lt)
theorem wrStr (s : ByteArray) (h : IsB B b (Lib.byteCells l) w) (hlen : l.length + s.size ≤ 140737488355328) (hBw : B ≤ w.heap.size) :
    Calls Tryz.prog 29 #[.pointer (some ⟨b, 0, none⟩), .string s] w fun e w' => e = .returned (.tuple #[.int .i64 s.size, .nilIface]) ∧ Wr B b (l ++ bs s) w w' := by
  refine (bWrite B b _ s w h (by rw [Lib.byteCells_length]; exact hlen) hBw).mono ?_
  rintro e w1 ⟨rfl, h1, h2, h3⟩
  refine ⟨rfl, .inr ?_, h2, h3, hBw⟩
  rw [Lib.byteCells_append]; exact h1
theorem wrByte (c : UInt8) (h : IsB B b (Lib.byteCells l) w) (hlen : l.length + 1 ≤ 140737488355328) (hBw : B ≤ w.heap.size) :
    Calls Tryz.prog 31 #[.pointer (some ⟨b, 0, none⟩), .int .u8 c.toNat] w fun e w' => e = .returned .nilIface ∧ Wr B b (l ++ [c]) w w' := by
  refine (bByte B b _ _ w h (by rw [Lib.byteCells_length]; exact hlen) hBw).mono ?_
  rintro e w1 ⟨rfl, h1, h2, h3⟩
  refine ⟨rfl, .inr ?_, h2, h3, hBw⟩
  rw [Lib.byteCells_append]; exact h1
theorem SlT.below {B : Nat} {v : Value} {ts : List Tm} (h : SlT (· < B) w v ts) (hb : Below B w w') : SlT (· < B) w' v ts := h.imp hb.size fun k _ hp => ⟨hp, hb.block k hp⟩
end

set_option maxRecDepth 100000 in
set_option maxHeartbeats 4000000 in
theorem write_ : ∀ (n : Nat) (t : Tm), t.dep ≤ n → ∀ (B b : Nat) (l : List UInt8) (v : Value) (w : World), IsB B b (Lib.byteCells l) w → B ≤ w.heap.size → SlT (· < B) w v t.args → l.length + (bs (txT t)).length ≤ 140737488355328 →
    Calls Tryz.prog 97 #[.pointer (some ⟨b, 0, none⟩), .agg #[.string t.name, v]] w fun e w' => e = .returned (.tuple #[]) ∧ Wr B b (l ++ bs (txT t)) w w' := by
  intro n
  induction n with
  | zero => intro t h; obtain ⟨nm, ags⟩ := t; simp only [Tm.dep] at h; omega
  | succ n ih =>
    intro t hd B b l v w hB hBw h hlen
    obtain ⟨nm, ags⟩ := t
    obtain ⟨a, c, rfl, hlc, hmx⟩ := h.form
    simp only [Tm.args, Tm.name] at h hlc hmx ⊢
    have HIH := Lib.hid ih; clear ih
    unfold maxLen at hmx
    have hbx := Blk.new w 28 #[.string nm, .slice a ags.length c]
    have hW0 : Wr B b l w w := Wr.of hB hBw
    have hWA := hW0.alloc (.cells #[.string nm, .slice a ags.length c] 28)
    have hlt := hW0.lt
    have hneb : w.heap.size ≠ b := by omega
    generalize hwA : (w.alloc (.cells #[.string nm, .slice a ags.length c] 28)) = wA at *
    have b0 := hbx.cell 0
    have b1 := hbx.cell 1
    by_cases h0 : ags = []
    · subst h0
      rw [txT_nil] at hlen ⊢
      have hs : l.length + nm.size ≤ 140737488355328 := by rw [← bs_size nm]; exact hlen
      have hcall := wrStr nm hWA.is hs hWA.size
      clear hlen h
      simp only [List.length_nil] at *
      go_enter Tryz.func97, Tryz.ntmps97
      go_wp2_with (go_at_call 29; refine hcall.mono ?_; rintro e w1 ⟨rfl, hw1⟩; have d1 := (hw1.blk hbx hneb (by decide)).cell 1)
      ((try simp only [Exit.inBlock, Exit.then]); refine bodyPost_ret (results_none rfl _ _ _) rfl ?_)
      exact ⟨rfl, hWA.trans hw1⟩
    · have e0 : ((ags.length : Int) == 0) = false := by
        have : ags.length ≠ 0 := by simpa using h0
        simpa using this
      have htx := txT_mk nm ags h0
      rw [htx] at hlen ⊢
      have hln : l.length + (nm.size + (1 + ((txP ags).length + 1))) ≤ 140737488355328 := by
        have := hlen
        simp only [List.length_append, List.length_cons, List.length_nil, bs_size] at this
        omega
      clear hlen htx
      have hcall := wrStr nm hWA.is (by omega) hWA.size
      have HL := Lib.hid hln
      have HD : Hid (∀ x ∈ ags, x.dep ≤ n) := fun x hx => by
        have h1 := hd
        simp only [Tm.dep] at h1
        have := deps_mem hx
        omega
      clear hd hln
      have hfin : l ++ (bs nm ++ 40 :: (txP ags ++ [41])) = (((l ++ bs nm) ++ [40]) ++ txP ags) ++ [41] := by simp
      rw [hfin]; clear hfin
      generalize hm : (l ++ bs nm) ++ [40] = m at *
      have HM : Hid (m.length = l.length + nm.size + 1) := by unfold Hid; rw [← hm]; simp only [List.length_append, List.length_cons, List.length_nil, bs_size]
      go_enter Tryz.func97, Tryz.ntmps97
      go_wp2_with (first
        | (go_at_call 29; refine hcall.mono ?_; rintro e w1 ⟨rfl, hw1⟩; have d1 := (hw1.blk hbx hneb (by decide)).cell 1; have hb1 := wrByte 40 hw1.is (by have := HL.out; simp only [List.length_append, bs_size]; omega) hw1.size)
        | (go_at_call 31; refine hb1.mono ?_; rintro e w2 ⟨rfl, hw2⟩; have d2 := ((hw1.trans hw2).blk hbx hneb (by decide)).cell 1))
      rw [hm] at hw2
      have hWs : Wr B b m w w2 := hWA.trans (hw1.trans hw2)
      have hbs := (hw1.trans hw2).blk hbx hneb (by decide)
      clear hm hcall b0 b1 d1 d2 hb1
      go_loopw [4, 5, 19] (fun _ _ i wr => ∃ k : Nat, k ≤ ags.length ∧ i = .int .i64 k ∧ Wr B b (m ++ txP (ags.take k)) w2 wr) (fun _ _ i _ => ags.length - (intOf i).toNat)
      case atStart => exact ⟨0, Nat.zero_le _, rfl, by simpa [txP] using Wr.of hWs.is hWs.size⟩
      case round =>
        obtain ⟨k, hk, rfl, hR⟩ := hrel
        have hbr := hR.blk hbs hneb (by decide)
        have b0 := hbr.cell 0
        have b1 := hbr.cell 1
        by_cases hlt : k < ags.length
        · obtain ⟨bk, o, a', c', rfl, hp, c0, c1, hT⟩ := (SlT.below h ((hW0.trans hWs).trans hR).below).at_ hlt
          have hxd := HD.out _ (List.getElem_mem hlt)
          have j1 : decide (k < ags.length) = true := decide_eq_true hlt
          have HS : Hid (if k = 0 then txP (ags.take (k + 1)) = bs (txT ags[k]) else txP (ags.take (k + 1)) = txP (ags.take k) ++ (44 :: bs (txT ags[k]))) := by
            unfold Hid
            rw [take_snoc ags k hlt]
            split
            · rename_i hz
              subst hz
              simp only [List.take_zero, List.nil_append, txP, txC, bs_nil, List.append_nil]
            · exact txP_snoc _ _ (by intro e; have := congrArg List.length e; simp only [List.length_take, List.length_nil] at this; omega)
          have HP : Hid ((txP (ags.take (k + 1))).length ≤ (txP ags).length) := by
            have := txP_le (ags.take (k + 1)) (ags.drop (k + 1))
            rwa [List.take_append_drop] at this
          generalize ags[k] = x at *
          have hRN := hR.alloc (.cells #[.string x.name, .slice a' x.args.length c'] 28)
          have hbn := Blk.new wr 28 #[.string x.name, .slice a' x.args.length c']
          have b10 := hbn.cell 0
          have b11 := hbn.cell 1
          have hltb := hR.lt
          have hne2 : wr.heap.size ≠ b := by omega
          have hTN := SlT.below hT ((Below.refl B wr).alloc hR.size (.cells #[.string x.name, .slice a' x.args.length c'] 28))
          by_cases hk0 : k = 0
          · subst hk0
            simp only [Nat.zero_mul, Nat.add_zero] at c0 c1
            have HT := HS.out
            rw [if_pos rfl] at HT
            have HT := Lib.hid HT
            clear HS
            have hcall := HIH.out x hxd B b _ _ _ hRN.is hRN.size hTN (by have h1 := HL.out; have h2 := HM.out; have h3 := HP.out; rw [HT.out] at h3; simp only [List.take_zero, txP, List.append_nil]; omega)
            go_wp2_with (go_at_call 97; refine hcall.mono ?_; rintro e w3 ⟨rfl, hw3⟩; clear hcall)
            go_roundw
            case rel =>
              refine ⟨1, by omega, by go_num, ?_⟩
              have := hRN.trans hw3
              rw [HT.out]
              simpa only [List.take_zero, txP, List.append_nil] using this
            case measure => simp [intOf]; omega
          · have HT := HS.out
            rw [if_neg hk0] at HT
            have HT := Lib.hid HT
            clear HS
            have hlen3 : Hid (m.length + ((txP (ags.take k)).length + (1 + (bs (txT x)).length)) ≤ 140737488355328) := by
              have h1 := HL.out; have h2 := HM.out; have h3 := HP.out
              rw [HT.out] at h3
              simp only [List.length_append, List.length_cons] at h3
              unfold Hid; omega
            have j2 : decide ((0 : Int) < (k : Int)) = true := decide_eq_true (by omega)
            have hb1 := wrByte 44 hRN.is (by have := hlen3.out; simp only [List.length_append]; omega) hRN.size
            go_wp2_with (first
              | (go_at_call 31; refine hb1.mono ?_; rintro e w3 ⟨rfl, hw3⟩; have hbn3 := hw3.blk hbn hne2 (by decide); have d10 := hbn3.cell 0; have d11 := hbn3.cell 1; have hcall := HIH.out x hxd B b _ _ _ hw3.is hw3.size (SlT.below hTN hw3.below) (by have := hlen3.out; simp only [List.length_append, List.length_cons, List.length_nil]; omega))
              | (go_at_call 97; refine hcall.mono ?_; rintro e w4 ⟨rfl, hw4⟩; clear hcall))
            go_roundw
            case rel =>
              refine ⟨k + 1, by omega, by go_num, ?_⟩
              have := (hRN.trans hw3).trans hw4
              rw [HT.out]
              simpa only [List.append_assoc, List.cons_append, List.nil_append] using this
            case measure => simp [intOf]; omega
        · have hke : k = ags.length := by omega
          have j1 : decide (k < ags.length) = false := decide_eq_false hlt
          have hTk : ags.take k = ags := List.take_of_length_le (by omega)
          rw [hTk] at hR
          clear hTk
          have hb1 := wrByte 41 hR.is (by have h1 := HL.out; have h2 := HM.out; simp only [List.length_append]; omega) hR.size
          go_wp2_with (go_at_call 31; refine hb1.mono ?_; rintro e w3 ⟨rfl, hw3⟩)
          go_end0
          exact ⟨rfl, hWs.trans (hR.trans hw3)⟩

theorem isB_new (w : World) : IsB w.heap.size w.heap.size (Lib.byteCells []) (w.alloc (.cells #[.pointer none, .slice none 0 0] 62)) :=
  .inl ⟨Nat.le_refl _, _, heap_alloc_new w _, World.ownsRowF_of (World.ownsRow_nil _ _ _ _), by simp [Value.ownBlock]⟩

set_option maxRecDepth 100000 in
set_option maxHeartbeats 4000000 in
theorem text_ (t : Tm) (p : Nat → Prop) (v : Value) (w : World) (h : SlT p w v t.args) (hl : (bs (txT t)).length ≤ 140737488355328) :
    Calls Tryz.prog 65 #[.agg #[.string t.name, v]] w fun e w' => e = .returned (.string (txT t)) ∧ Ch [] w w' := by
  obtain ⟨a, c, rfl, hlc, hmx⟩ := h.form
  have hbx := Blk.new w 28 #[.string t.name, .slice a t.args.length c]
  have hcA : Ch [] w (w.alloc (.cells #[.string t.name, .slice a t.args.length c] 28)) := (Ch.refl _ _).alloc _
  generalize hwA : (w.alloc (.cells #[.string t.name, .slice a t.args.length c] 28)) = wA at *
  have hcB : Ch [] wA (wA.alloc (.cells #[.pointer none, .slice none 0 0] 62)) := (Ch.refl _ _).alloc _
  have hbB := hbx.ch hcB (by simp)
  have b0 := hbB.cell 0
  have b1 := hbB.cell 1
  have hT : SlT (· < wA.heap.size) (wA.alloc (.cells #[.pointer none, .slice none 0 0] 62)) (.slice a t.args.length c) t.args :=
    h.imp (Nat.le_trans hcA.size hcB.size) fun k hk _ => ⟨Nat.lt_of_lt_of_le hk hcA.size, ((hcA.trans hcB).block k hk (by simp))⟩
  have hcall := write_ t.dep t (Nat.le_refl _) wA.heap.size wA.heap.size [] (.slice a t.args.length c) _ (isB_new wA) hcB.size hT (by simpa using hl)
  rw [List.nil_append] at hcall
  clear h hT
  generalize t.args.length = n at *
  generalize t.name = nm at *
  obtain ⟨T, hTx⟩ : ∃ T, txT t = T := ⟨_, rfl⟩
  rw [hTx] at hcall ⊢
  clear hTx hl
  go_enter Tryz.func65, Tryz.ntmps65
  go_wp2_with (first
    | (go_at_call 97; refine hcall.mono ?_; rintro e w1 ⟨rfl, hw1⟩; have hst := bString wA.heap.size wA.heap.size (bs T) w1 hw1.is hw1.size)
    | (go_at_call 33; refine hst.mono ?_; rintro e w2 ⟨rfl, _, hb2, _⟩))
  go_ret
  exact ⟨rfl, hcA.trans (hcB.below.mono (Nat.le_refl _) |>.trans (hw1.below) |>.trans hb2 |> Ch.of_below)⟩

set_option maxRecDepth 100000 in
set_option maxHeartbeats 4000000 in
theorem literal_ (x : Li) (p : Nat → Prop) (v : Value) (w : World) (h : SlT p w v x.atom.args) (hl : (bs (txT x.atom)).length ≤ 140737488355328) :
    Calls Tryz.prog 64 #[.agg #[.bool x.nt, .string x.atom.name, v]] w fun e w' => e = .returned (.string (txLi x)) ∧ Ch [] w w' := by
  obtain ⟨nt, t⟩ := x
  have hcall := fun wz (hz : Ch [] w wz) => text_ t p v wz (h.ch0 hz) hl
  obtain ⟨a, c, rfl, hlc, hmx⟩ := h.form
  have HT := Lib.hid (show txLi ⟨nt, t⟩ = if nt = true then sNot_ ++ txT t else txT t from rfl)
  generalize txLi ⟨nt, t⟩ = R at *
  have hTs : ¬ 9223372036854775807 < 4 + (txT t).size := by rw [bs_size] at hl; simp only at hl; omega
  clear h hl
  simp only at hcall ⊢
  generalize t.args.length = n at *
  generalize t.name = nm at *
  generalize txT t = T at *
  have hbx := Blk.new w 48 #[.bool nt, .string nm, .slice a n c]
  have hcA : Ch [] w (w.alloc (.cells #[.bool nt, .string nm, .slice a n c] 48)) := (Ch.refl _ _).alloc _
  generalize hwA : (w.alloc (.cells #[.bool nt, .string nm, .slice a n c] 48)) = wA at *
  have b0 := hbx.cell 0
  have b1 := hbx.cell 1
  have b2 := hbx.cell 2
  cases nt
  all_goals
    have HR0 := HT.out
    simp only [if_true, Bool.false_eq_true, if_false] at HR0
    have HR := Lib.hid HR0
    clear HR0
    clear HT
    go_enter Tryz.func64, Tryz.ntmps64
    go_wp2_with (go_at_call 65; refine (hcall _ hcA).mono ?_; rintro e w1 ⟨rfl, hc1⟩)
    go_ret
    exact ⟨by rw [HR.out]; rfl, hcA.trans hc1⟩

theorem join_T : ∀ (r : List Li), Lib.joinTail (bs sAnd_) (r.map fun y => bs (txLi y)) = bs (txB r)
  | [] => rfl
  | y :: r => by
    have ih := join_T r
    simp only [List.map_cons, Lib.joinTail, List.flatten_cons, txB, bs_app] at ih ⊢
    rw [ih, List.append_assoc]
theorem join_B (x : Li) (r : List Li) : Lib.join ((x :: r).map fun y => bs (txLi y)) (bs sAnd_) = bs (txLi x) ++ bs (txB r) := by
  rw [List.map_cons, Lib.join_cons, join_T]

theorem txRu_size (r : Ru) : (txRu r).size = (txT r.head).size + ((txBody r.body).size + 1) := by
  simp only [txRu, ByteArray.size_append]; rfl
set_option maxRecDepth 100000 in
set_option maxHeartbeats 8000000 in
theorem prRule_ (r : Ru) (p : Nat → Prop) (vh vb : Value) (w : World) (hh : SlT p w vh r.head.args) (hb : SlLi p w vb r.body) (hl : (txRu r).size ≤ 1000000000) (hx : ∀ x ∈ r.body, (txLi x).size ≤ 1000000000) (hlen : r.body.length ≤ 1000) :
    Calls Tryz.prog 30 #[.agg #[.string r.head.name, vh, vb]] w fun e w' => e = .returned (.string (txRu r)) ∧ Ch [] w w' := by
  have hsz := txRu_size r
  obtain ⟨hd, body⟩ := r
  have HX := Lib.hid (show ∀ x ∈ body, (bs (txT x.atom)).length ≤ 140737488355328 from fun x hm => by
    have := hx x hm
    unfold txLi at this
    rw [bs_size]
    split at this
    · rw [ByteArray.size_append] at this; omega
    · omega)
  clear hx
  have HR := Lib.hid (show txRu ⟨hd, body⟩ = txT hd ++ (txBody body ++ bL 46) from rfl)
  generalize txRu ⟨hd, body⟩ = R at *
  simp only at hsz hh hb hlen ⊢
  have htext := fun wz (hz : Ch [] w wz) => text_ hd p vh wz (hh.ch0 hz) (by rw [bs_size]; omega)
  obtain ⟨ah, ch, rfl, _, _⟩ := hh.form
  obtain ⟨a, c, rfl, hlc, hmx⟩ := hb.form
  unfold maxLen at hmx
  clear hh
  generalize hd.args.length = hL at *
  generalize hd.name = hn at *
  obtain ⟨TH, hTH⟩ : ∃ T, txT hd = T := ⟨_, rfl⟩
  rw [hTH] at htext HR hsz
  clear hTH
  have HSZ := Lib.hid (show TH.size + ((txBody body).size + 1) ≤ 1000000000 by omega)
  clear hsz hl
  have hbx := Blk.new w 31 #[.string hn, .slice ah hL ch, .slice a body.length c]
  have hcA : Ch [] w (w.alloc (.cells #[.string hn, .slice ah hL ch, .slice a body.length c] 31)) := (Ch.refl _ _).alloc _
  generalize hwA : (w.alloc (.cells #[.string hn, .slice ah hL ch, .slice a body.length c] 31)) = wA at *
  have b2 := hbx.cell 2
  go_enter Tryz.func30, Tryz.ntmps30
  go_wp2
  clear b2
  go_loopw [3, 5, 10] (fun sv _ i wr => ∃ (k : Nat), k ≤ body.length ∧ i = .int .i64 k ∧ Ch [] wA wr ∧ Own wr wA.heap.size 9 1 sv (((body.take k).map txLi).map encS)) (fun _ _ i _ => body.length - (intOf i).toNat)
  case atStart => exact ⟨0, Nat.zero_le _, rfl, Ch.refl _ _, by simpa using Own.nil wA wA.heap.size 9 1⟩
  case round =>
    obtain ⟨k, hk, rfl, hB, hown⟩ := hrel
    have hbr := hbx.ch hB (by simp)
    have b0 := hbr.cell 0
    have b1 := hbr.cell 1
    by_cases hlt : k < body.length
    · obtain ⟨bk, o, a', c', rfl, hp, c0, c1, c2, hT⟩ := (hb.ch0 (hcA.trans hB)).at_ hlt
      have HTS := Lib.hid (take_snoc body k hlt)
      have hxl := HX.out _ (List.getElem_mem hlt)
      have j1 : decide (k < body.length) = true := decide_eq_true hlt
      generalize body[k] = x at *
      have hbl := Blk.new wr 48 #[.bool x.nt, .string x.atom.name, .slice a' x.atom.args.length c']
      have l0 := hbl.cell 0
      have l1 := hbl.cell 1
      have l2 := hbl.cell 2
      have hcL : Ch [] wr (wr.alloc (.cells #[.bool x.nt, .string x.atom.name, .slice a' x.atom.args.length c'] 48)) := (Ch.refl _ _).alloc _
      have hcall := literal_ x _ _ _ (hT.ch0 hcL) hxl
      have hszB := hB.size
      have hszL := hcL.size
      clear hT hxl
      go_wp2_with (first
        | (go_at_call 64; refine hcall.mono ?_; rintro e w3 ⟨rfl, hc3⟩; clear hcall; have hsz3 := hc3.size)
        | (at_builtin; (refine wpList_append_sl rfl _ _ _ rfl elS (base := wA.heap.size) (v := u3) (css := ((body.take k).map txLi).map encS) rfl ((hown.ch0' (hcL.trans hc3)).ch0' ((Ch.refl [] w3).alloc _)) rfl (Sl.one w3 1 9 [.string (txLi x)] rfl (by simp [Value.oneCell'])) (by simp; omega) (by simp; omega) ?_; intro v6 w6 ho6 hc6 hat6 hn6; clear hn6)))
      go_roundw
      case rel =>
        refine ⟨k + 1, by omega, by go_num, (hB.trans (hcL.trans (hc3.alloc _))).step hc6 (fun y hy => ?_), ?_⟩
        · simp at hy; exact .inr (hown.lt hy).1
        · rw [HTS.out, List.map_append, List.map_append]; exact ho6
      case measure => simp [intOf]; omega
    · have j1 : decide (k < body.length) = false := decide_eq_false hlt
      rw [List.take_of_length_le (by omega)] at hown
      have hcall := htext wr (hcA.trans hB)
      by_cases h0 : body = []
      · subst h0
        obtain ⟨a5, c5, rfl⟩ := hown.form'
        simp only [List.map_nil, List.length_nil]
        have HS := HSZ.out
        have t1 : ¬ 9223372036854775807 < TH.size + 1 := by omega
        clear HSZ HS hown
        go_wp2_with (go_at_call 65; refine hcall.mono ?_; rintro e w3 ⟨rfl, hc3⟩)
        go_ret
        exact ⟨by rw [HR.out]; rfl, hcA.trans (hB.trans hc3)⟩
      · have hne : (body.map txLi).map encS ≠ [] := by simpa using h0
        obtain ⟨x, r, hxr⟩ : ∃ x r, body = x :: r := by
          cases body with
          | nil => exact absurd rfl h0
          | cons x r => exact ⟨x, r, rfl⟩
        have hJ : Lib.join ((body.map txLi).map (·.data.toList)) (⟨#[32, 97, 110, 100, 32]⟩ : ByteArray).data.toList = bs (txLi x) ++ bs (txB r) := by
          rw [← join_B, hxr, List.map_map]; rfl
        have hJs : txBody body = sIf_ ++ (txLi x ++ txB r) := by rw [hxr]; rfl
        have hz := HSZ.out
        rw [hJs] at hz
        simp only [ByteArray.size_append] at hz
        have hs4 : sIf_.size = 4 := rfl
        have hjl : (Lib.join ((body.map txLi).map (·.data.toList)) (⟨#[32, 97, 110, 100, 32]⟩ : ByteArray).data.toList).length ≤ 140737488355328 := by
          rw [hJ, List.length_append, bs_size, bs_size]; omega
        have hjm : (⟨(bs (txLi x) ++ bs (txB r)).toArray⟩ : ByteArray) = txLi x ++ txB r := by rw [← bs_app]; rfl
        have hjoin := fun wz g o cp h1 h2 h3 => joinSome g o cp (body.map txLi) ⟨#[32, 97, 110, 100, 32]⟩ wz h1 h2 (by simp; omega) h3 hjl
        rw [hJ, hjm, List.length_map] at hjoin
        rw [hJs] at HR
        have hown3 := fun wz (hz : Ch [] wr wz) => (hown.ch0' hz).sl.row hne
        obtain ⟨g, o, cp, rfl, hcp, _⟩ := hown.sl.row hne
        have hlen' : ((body.map txLi).map encS).length = body.length := by simp
        rw [hlen'] at hown3 hcp ⊢
        have hjo : ∀ wz, Ch [] wr wz → Calls Tryz.prog 66 #[.slice (some ⟨g, o, none⟩) body.length cp, .string ⟨#[32, 97, 110, 100, 32]⟩] wz fun e w' => e = .returned (.string (txLi x ++ txB r)) ∧ Below wz.heap.size wz w' := fun wz hz => by
          obtain ⟨g', o', cp', e, h1, h2, h3, h4⟩ := hown3 wz hz
          injection e with e1 e2 e3
          injection e1 with e1
          injection e1 with e1 e4
          subst e1 e3 e4
          refine hjoin wz g o cp (fun j y hy => ?_) h3.2 h1
          have := (h4 j [.string y] (by rw [List.getElem?_map, hy]; rfl)).2 0 _ rfl
          simpa using this
        generalize txLi x ++ txB r = J at *
        have HJS := Lib.hid (show TH.size + (4 + J.size) + 1 ≤ 1000000000 by have := HSZ.out; rw [hJs] at this; simp only [ByteArray.size_append] at this; omega)
        have HRR := HR
        have hpos : 0 < body.length := by rw [hxr]; simp
        have j2 : decide ((0 : Int) < (body.length : Int)) = true := decide_eq_true (by omega)
        have t1 : ¬ 9223372036854775807 < 4 + J.size := by have := HJS.out; omega
        have t2 : ¬ 9223372036854775807 < TH.size + (4 + J.size) := by have := HJS.out; omega
        have t3 : ¬ 9223372036854775807 < TH.size + (4 + J.size) + 1 := by have := HJS.out; omega
        clear hxr hJ hJs hz hs4 hjl hjm hjoin hown3 hlen' HSZ hown hne h0
        go_wp2_with (first
          | (go_at_call 65; refine hcall.mono ?_; rintro e w3 ⟨rfl, hc3⟩; have hj3 := hjo w3 hc3)
          | (go_at_call 66; refine hj3.mono ?_; rintro e w4 ⟨rfl, hc4⟩))
        go_ret
        exact ⟨by rw [show R = TH ++ (sIf_ ++ J) ++ bL 46 by rw [HRR.out]; simp only [ByteArray.append_assoc]]; rfl, hcA.trans (hB.trans (hc3.trans (Ch.of_below hc4)))⟩
end
end Go.Proofs.YtgljjapglgcpdaaGreatDoor
