
/-
  Contracts of the reference of layer 9.
  The contracts of the reference's Least and Levels.
-/
import Derived.Test.YtojokdicbopknaaGreatSmall3
import Derived.Test.YtojokdicbopknaaGreatOrder
import Derived.Test.YtojokdicbopknaaGreatStrPlain
import Derived.Test.YtojokdicbopknaaGreatRefEdges
import Derived.Test.YtojokdicbopknaaGreatFacts
import Derived.Test.YtojokdicbopknaaGreatLex
namespace Go.Proofs.YtojokdicbopknaaGreat

section
open Go.RowKit
attribute [local go_sem ↓] run_eql_ed run_neq_ed run_eql_lv run_neq_lv

set_option maxRecDepth 100000 in
set_option maxHeartbeats 800000 in
theorem ref09Insert (p) (v : Value) (xs : List ByteArray) (s : ByteArray) (w : World) (h : SlS p w v xs) (hlen : xs.length ≤ 1000000) :
    Calls Tryz.prog 56 #[v, .string s] w fun r w' => ∃ v', r = .returned v' ∧ SlS (fun b => p b ∨ w.heap.size ≤ b) w' v' (insS xs s) ∧ Ch [] w w' := by
  obtain ⟨a, c, rfl, hlc, hm⟩ := h.form
  unfold maxLen at hm
  have hle := belowS_le xs s
  have HI := Lib.hid (insS_eq xs s)
  have HL := Lib.hid (belowS_lt xs s)
  have HA := Lib.hid (belowS_at xs s)
  generalize belowS xs s = B at *
  go_enter Tryz.func56, Tryz.ntmps56
  go_wp2
  go_loop [5] (fun i => ∃ k : Nat, k ≤ B ∧ i = .int .i64 k) (fun i => xs.length - (intOf i).toNat)
  case atStart => exact ⟨0, Nat.zero_le _, rfl⟩
  case round =>
    obtain ⟨k, hk, rfl⟩ := hrel
    by_cases hlt : k < B
    · have hlt2 : k < xs.length := by omega
      obtain ⟨b, o, rfl, hp, c0⟩ := h.at_ hlt2
      have ht : Op.bytesLess xs[k].toList s.toList = true := HL.out k hlt2 hlt
      go_wp2
      go_round
      case rel => exact ⟨k + 1, by omega, by go_num⟩
      case measure => simp [intOf]; omega
    · have hkB : k = B := by omega
      subst hkB
      have h1 := SlS.take h (m := k) hle
      have h2 := SlS.drop h (m := k) hle
      have hlt1 : (xs.take k).length = k := by simp [Nat.min_eq_left hle]
      have hld1 : (xs.drop k).length = xs.length - k := by simp
      have hd2 : ∀ (v1 : Value) (w1 w2 : World), Ch [] w w1 → (v1.ownBlock = none ∨ v1.ownBlock = some w.heap.size) → Ch v1.ownBlock.toList (w1.alloc (.cells #[.string s] 9)) w2 → SlS p w2 (.slice (if c = k then a else a.map (·.add k)) (xs.length - k) (c - k)) (xs.drop k) := by
        intro v1 w1 w2 hc1 hat1 hc2
        refine Sl.ch0 h2 ((hc1.alloc _).step hc2 ?_)
        rcases hat1 with e | e <;> rw [e] <;> simp
      have fin : ∀ (v1 v2 : Value) (w1 w2 w3 : World), Ch [] w w1 → (v1.ownBlock = none ∨ v1.ownBlock = some w.heap.size) → Ch v1.ownBlock.toList (w1.alloc (.cells #[.string s] 9)) w2 →
          (v2.ownBlock = v1.ownBlock ∨ v2.ownBlock = some (w1.alloc (.cells #[.string s] 9)).heap.size) → Ch v2.ownBlock.toList w2 w3 → Ch [] w w3 := by
        intro v1 v2 w1 w2 w3 hc1 hat1 hc2 hat2 hc3
        have hs1 := hc1.size
        refine ((hc1.alloc _).step hc2 ?_).step hc3 ?_
        · rcases hat1 with e | e <;> rw [e] <;> simp
        · rcases hat2 with e | e <;> rw [e]
          · rcases hat1 with e | e <;> rw [e] <;> simp
          · simp; omega
      by_cases hlt2 : k < xs.length
      · obtain ⟨b, o, rfl, hp, c0⟩ := h.at_ hlt2
        have ht : Op.bytesLess xs[k].toList s.toList = false := HA.out hlt2
        have hc : c ≠ k := by omega
        by_cases heq : xs[k] = s
        · have he : (xs[k].toList == s.toList) = true := by rw [beqS]; simpa using heq
          have hx : insS xs s = xs := by have := HI.out; rw [dif_pos hlt2, if_pos heq] at this; exact this
          have HX := Lib.hid hx; clear hx heq
          go_wp2
          go_ret
          exact ⟨_, rfl, by rw [HX.out]; exact h.weak (fun _ _ hp => .inl hp), Ch.refl _ _⟩
        · have he : (xs[k].toList == s.toList) = false := by rw [beqS]; simpa using heq
          have hx : insS xs s = xs.take k ++ [s] ++ xs.drop k := by have := HI.out; rw [dif_pos hlt2, if_neg heq] at this; exact this
          have HX := Lib.hid hx; clear hx heq
          rw [if_neg hc] at hd2
          simp only [Option.map_some, add_off] at hd2
          go_wp2_with (first
            | (at_builtin; refine wpList_append_sl rfl (.tmp 34) (.tmp 37) _ rfl elS (base := w.heap.size) (v := .slice none 0 0) (css := []) rfl (Own.nil _ _ _ _) rfl h1 (by simp; omega) (Nat.le_refl _) ?_; intro v1 w1 ho1 hc1 hat1 hn1; clear hn1)
            | (at_builtin; refine wpList_append_sl rfl (.tmp 39) (.tmp 41) _ rfl elS (base := w.heap.size) (v := v1) rfl (ho1.ch ((Ch.refl [] w1).alloc _) (by simp)) rfl (Sl.one w1 1 _ [.string s] rfl (by simp [Value.oneCell'])) (by simp; omega) (by simp; have := hc1.size; omega) ?_; intro v2 w2 ho2 hc2 hat2 hn2; clear hn2)
            | (at_builtin; refine wpList_append_sl rfl (.tmp 43) (.tmp 46) _ rfl elS (base := w.heap.size) (v := v2) rfl ho2 rfl (hd2 v1 w1 w2 hc1 hat1 hc2) (by simp; omega) (by have := hc1.size; have := hc2.size; simp at this; omega) ?_; intro v3 w3 ho3 hc3 hat3 hn3; clear hn3))
          go_ret
          refine ⟨_, rfl, ?_, fin v1 v2 w1 w2 w3 hc1 hat1 hc2 hat2 hc3⟩
          rw [HX.out]
          have := ho3.sl
          refine Sl.weak (p := fun b => w.heap.size ≤ b ∧ v3.ownBlock = some b) ?_ (fun _ _ hp => .inr hp.1)
          simpa [encS] using this
      · have hx : insS xs s = xs.take k ++ [s] ++ xs.drop k := by have := HI.out; rw [dif_neg hlt2] at this; exact this
        have HX := Lib.hid hx; clear hx
        · go_wp2_with (first
            | (at_builtin; refine wpList_append_sl rfl (.tmp 34) (.tmp 37) _ rfl elS (base := w.heap.size) (v := .slice none 0 0) (css := []) rfl (Own.nil _ _ _ _) rfl h1 (by simp; omega) (Nat.le_refl _) ?_; intro v1 w1 ho1 hc1 hat1 hn1; clear hn1)
            | (at_builtin; refine wpList_append_sl rfl (.tmp 39) (.tmp 41) _ rfl elS (base := w.heap.size) (v := v1) rfl (ho1.ch ((Ch.refl [] w1).alloc _) (by simp)) rfl (Sl.one w1 1 _ [.string s] rfl (by simp [Value.oneCell'])) (by simp; omega) (by simp; have := hc1.size; omega) ?_; intro v2 w2 ho2 hc2 hat2 hn2; clear hn2)
            | (at_builtin; refine wpList_append_sl rfl (.tmp 43) (.tmp 46) _ rfl elS (base := w.heap.size) (v := v2) rfl ho2 rfl (hd2 v1 w1 w2 hc1 hat1 hc2) (by simp; omega) (by have := hc1.size; have := hc2.size; simp at this; omega) ?_; intro v3 w3 ho3 hc3 hat3 hn3; clear hn3))
          all_goals go_ret
          all_goals refine ⟨_, rfl, ?_, fin v1 v2 w1 w2 w3 hc1 hat1 hc2 hat2 hc3⟩
          all_goals rw [HX.out]
          all_goals have := ho3.sl
          all_goals refine Sl.weak (p := fun b => w.heap.size ≤ b ∧ v3.ownBlock = some b) ?_ (fun _ _ hp => .inr hp.1)
          all_goals simpa [encS] using this

/-- what a round over the edges keeps: all that is listed is reached, and, as long as nothing was added, what leads on from the edges gone through is listed -/
def ReachInv (es : List Ed) (a : ByteArray) (k : Nat) (o : List ByteArray) : Prop := ∀ (i : Nat) (hi : i < es.length), i < k → (es[i].f = a ∨ es[i].f ∈ o) → es[i].t ∈ o
def AllRch (es : List Ed) (a : ByteArray) (o : List ByteArray) : Prop := Asc sLt o ∧ ∀ s ∈ o, Rch es a s

theorem AllRch.add {es : List Ed} {a : ByteArray} {o : List ByteArray} (h : AllRch es a o) {e : Ed} (he : e ∈ es) (hs : e.f = a ∨ e.f ∈ o) : AllRch es a (insS o e.t) :=
  ⟨asc_insS _ _ h.1, fun x hx => by
    rcases (mem_insS _ _ _).1 hx with e1 | h1
    · subst e1
      rcases hs with hs | hs
      · exact .one he hs
      · exact .step (h.2 _ hs) he rfl
    · exact h.2 x h1⟩
theorem ReachInv.snoc {es : List Ed} {a : ByteArray} {k : Nat} {o : List ByteArray} (h : ReachInv es a k o) (hk : k < es.length) (hc : (es[k].f = a ∨ es[k].f ∈ o) → es[k].t ∈ o) : ReachInv es a (k + 1) o := by
  intro i hi hik hs
  rcases Nat.lt_succ_iff_lt_or_eq.1 hik with h1 | h1
  · exact h i hi h1 hs
  · subst h1; exact hc hs
theorem SlS.lenV {p : Nat → Prop} {w : World} {v : Value} {xs : List ByteArray} (h : SlS p w v xs) : lenV v = xs.length := by
  obtain ⟨a, c, rfl, _⟩ := h.form
  rfl

end

section
open Go.RowKit

def LsRes (base : Nat) (w : World) (v : Value) (b : Bool) : Option (List Lv) → Prop
  | none => v = .slice none 0 0 ∧ b = false
  | some lv => SlL (fun b => base ≤ b) w v lv ∧ b = true
theorem mem_take_last {N : List ByteArray} (hn : N.Nodup) {j : Nat} (hj : j < N.length) : N[j] ∉ N.take j := fun h => by
  obtain ⟨i, hi, e⟩ := List.mem_iff_getElem.1 h
  rw [List.length_take] at hi
  rw [List.getElem_take] at e
  have := (List.getElem_inj hn).1 e
  omega

set_option maxRecDepth 100000 in
set_option maxHeartbeats 4000000 in
theorem ref10Least (p q) (v u : Value) (es : List Ed) (N : List ByteArray) (w : World) (h : SlE p w v es) (h' : SlS q w u N) (hnd : N.Nodup) (hE : Ends es N) (_hes : es.length ≤ 1000000) (hNl : N.length ≤ 1000000) :
    Calls Tryz.prog 34 #[v, u] w fun r w' => ∃ v' b o, r = .returned (.tuple #[v', .bool b]) ∧ LvAns es N o ∧ LsRes w.heap.size w' v' b o ∧ Ch [] w w' := by
  obtain ⟨a, c, rfl, hlc, hm⟩ := h.form
  obtain ⟨a', c', rfl, hlc', hm'⟩ := h'.form
  unfold maxLen at hm hm'
  have HE := Lib.hid hE; clear hE
  have HND := Lib.hid hnd; clear hnd
  go_enter Tryz.func34, Tryz.ntmps34
  go_wp2
  go_loopw [6, 7] (fun o i wr => ∃ k : Nat, k ≤ N.length ∧ i = .int .i64 k ∧ Ch [] w wr ∧ Own wr w.heap.size 93 2 o ((lvList (N.take k) fun _ => 0).map Lv.enc)) (fun _ i _ => N.length - (intOf i).toNat)
  case atStart => exact ⟨0, Nat.zero_le _, rfl, Ch.refl _ _, Own.nil _ _ _ _⟩
  case round =>
    obtain ⟨k, hk, rfl, hB, ho⟩ := hrel
    by_cases hlt : k < N.length
    · obtain ⟨b, o, rfl, hp, c0⟩ := h'.at_ hlt
      have c0 := cell_ch c0 hB (by simp)
      have HS := Lib.hid (lvList_snoc N (fun _ => 0) k hlt)
      have hll : (lvList (N.take k) fun _ => 0).length = k := by simp [lvList]; omega
      generalize hlv : (lvList (N.take k) fun _ => 0) = lv0 at *
      clear hlv
      generalize N[k] = x at *
      go_wp2_with (at_builtin; refine wpList_append_sl rfl _ _ _ rfl elL (base := w.heap.size) (v := u6) (css := lv0.map Lv.enc) rfl (ho.ch ((Ch.refl [] wr).alloc _) (by simp)) rfl (Sl.one wr 2 _ [.string x, .int .i64 0] rfl (by simp [Value.oneCell'])) (by simp; omega) (by have := hB.size; simp; omega) ?_; intro v6 w6 ho6 hc6 hat6 hn6; clear hn6)
      go_roundw
      case rel => exact ⟨k + 1, by omega, by go_num, (hB.alloc _).step hc6 (fun y hy => .inr (by
        cases hu : u6.ownBlock with
        | none => rw [hu] at hy; cases hy
        | some g => rw [hu] at hy; simp at hy; subst hy; exact (ho.lt hu).1)), by rw [HS.out]; exact ho6⟩
      case measure => simp [intOf]; omega
    · have : k = N.length := by omega
      subst this
      rw [List.take_length] at ho
      obtain ⟨a1, c1, hf1⟩ := ho.form'
      have hll : ((lvList N fun _ => 0).map Lv.enc).length = N.length := by simp [lvList]
      rw [hll] at hf1
      subst hf1
      clear hll
      go_wp2
      go_loopw [8] (fun m wr => ∃ (b : Bool) (f : LvF), m = .bool b ∧ Ch [] w wr ∧ Own wr w.heap.size 93 2 (.slice a1 N.length c1) ((lvList N f).map Lv.enc) ∧ Hid (Lower es f) ∧ Hid (∀ s, f s ≤ N.length) ∧ Hid (b = false → Strat es f)) (fun m wr => (N.length * N.length - sumL wr (.slice a1 N.length c1)) + boolN m)
      case atStart => exact ⟨true, fun _ => 0, rfl, hB, ho, Lower.zero es, fun s => Nat.zero_le _, fun h => by cases h⟩
      case round =>
        obtain ⟨b, f, rfl, hB, ho, HL, HF, HS⟩ := hrel
        have HM0 := Lib.hid (sumL_eq (p := fun b => w.heap.size ≤ b ∧ (Value.slice a1 N.length c1).ownBlock = some b) ho.sl)
        cases b with
        | true =>
          go_wp2
          obtain ⟨wo, rfl⟩ : ∃ wo : World, wo = wr := ⟨_, rfl⟩
          go_loopw [8, 9] (fun m i wq => ∃ (k : Nat) (b : Bool) (f2 : LvF), m = .bool b ∧ k ≤ es.length ∧ i = .int .i64 k ∧ Ch [] w wq ∧ Own wq w.heap.size 93 2 (.slice a1 N.length c1) ((lvList N f2).map Lv.enc) ∧ Hid (Lower es f2) ∧ Hid (∀ s, f2 s ≤ N.length) ∧ Hid (b = false → Strat (es.take k) f2) ∧ Hid (sumF N f + boolN (.bool b) ≤ sumF N f2)) (fun _ i _ => es.length - (intOf i).toNat)
          case atStart => exact ⟨0, false, f, rfl, Nat.zero_le _, rfl, hB, ho, HL, HF, fun _ => by intro e he; simp at he, by simp [boolN, Hid]⟩
          case round =>
            obtain ⟨k, b, f2, rfl, hk, rfl, hB2, ho2, HL2, HF2, HS2, HU2⟩ := hrel
            by_cases hlt : k < es.length
            · obtain ⟨bb, o, rfl, hp, c0r, c1', c2⟩ := h.at_ hlt
              have c0 := cell_ch c0r hB2 (by simp)
              have c1' := cell_ch c1' hB2 (by simp)
              have c2 := cell_ch c2 hB2 (by simp)
              have hmem := List.getElem_mem hlt
              have hend := HE.out _ hmem
              have HT := Lib.hid (take_snoc es k hlt)
              obtain ⟨x, hx⟩ : ∃ x, es[k] = x := ⟨_, rfl⟩
              rw [hx] at c0r c0 c1' c2 hmem hend HT
              clear hx
              have HME := Lib.hid hmem; clear hmem
              have HEN := Lib.hid hend; clear hend
              have hle := HF2.out x.t
              have hof := ofL_list f2 N x.t
              rw [if_pos HEN.out.2] at hof
              have hsl2 : SlL (fun b => w.heap.size ≤ b ∧ (Value.slice a1 N.length c1).ownBlock = some b) wr (.slice a1 N.length c1) (lvList N f2) := ho2.sl
              have hcall := ref10Of _ _ _ x.t _ hsl2
              rw [hof] at hcall
              clear hof hsl2
              obtain ⟨nd, hnd⟩ : ∃ nd : Nat, nd = f2 x.t + stepN x := ⟨_, rfl⟩
              have hndN : nd ≤ N.length + 1 := by unfold stepN at hnd; split at hnd <;> omega
              have HNN := Lib.hid hnd
              have hxn : (x.n = true ∧ IntKind.i64.wrap ((f2 x.t : Int) + 1) = (nd : Int)) ∨ (x.n = false ∧ f2 x.t = nd) := by
                unfold stepN at hnd
                cases hq : x.n with
                | true =>
                  rw [hq, if_pos rfl] at hnd
                  refine .inl ⟨rfl, ?_⟩
                  simp [IntKind.wrap, IntKind.signed, IntKind.bits]; omega
                | false => rw [hq] at hnd; simp at hnd; exact .inr ⟨rfl, hnd.symm⟩
              clear hnd
              rcases hxn with ⟨hxn, hw⟩ | ⟨hxn, hw⟩
              all_goals
                rw [hxn] at c2
                go_wp2_with (go_at_call 35; refine hcall.mono ?_; rintro e w' ⟨rfl, rfl⟩; try rw [hw])
                obtain ⟨w2, rfl⟩ : ∃ w2 : World, w2 = wr := ⟨_, rfl⟩
                go_loopw [8, 11] (fun m i wq => ∃ (j : Nat) (b2 : Bool), m = .bool b2 ∧ j ≤ N.length ∧ i = .int .i64 j ∧ Ch [] w wq ∧ Own wq w.heap.size 93 2 (.slice a1 N.length c1) ((mixL N f2 (lift f2 x) j).map Lv.enc) ∧ Hid (b2 = (b || decide (x.f ∈ N.take j ∧ f2 x.f < nd)))) (fun _ i _ => N.length - (intOf i).toNat)
                case atStart => exact ⟨0, b, rfl, Nat.zero_le _, rfl, hB2, by rw [mixL_zero]; exact ho2, by simp [Hid]⟩
                case round =>
                  obtain ⟨j, b2, rfl, hj, rfl, hB3, ho3, HB3⟩ := hrel
                  by_cases hltj : j < N.length
                  · obtain ⟨b1, o1, hq1, hp1, d0⟩ := h'.at_ hltj
                    have hnotin := mem_take_last HND.out hltj
                    have HT3 := Lib.hid (take_snoc N j hltj)
                    have hkeep := mixL_keep N f2 (lift f2 x) j hltj
                    have hset := mixL_set N f2 (lift f2 x) j hltj
                    have hget : ((mixL N f2 (lift f2 x) j).map Lv.enc)[j]? = some [.string N[j], .int .i64 (f2 N[j])] := by
                      rw [List.getElem?_map, List.getElem?_eq_getElem (by rw [mixL_len]; exact hltj), mixL_at]; rfl
                    have HG := Lib.hid hget
                    obtain ⟨g, HO⟩ : ∃ g, Hid (a1 = some ⟨g, 0, none⟩) := by
                      rcases ho3.form with ⟨_, h0⟩ | ⟨g, c, h0, _⟩
                      · rw [h0] at hget; simp at hget
                      · injection h0 with h0; exact ⟨g, h0⟩
                    clear hget d0 hq1
                    obtain ⟨y, hy⟩ : ∃ y, N[j] = y := ⟨_, rfl⟩
                    rw [hy] at hnotin HT3 hkeep hset HG
                    clear hy
                    have HS3 := Lib.hid hset; clear hset
                    have HK3 := Lib.hid hkeep; clear hkeep
                    have HNI := Lib.hid hnotin; clear hnotin
                    have hown := ho3
                    rw [HO.out] at hown
                    have eq1 := HO.out
                    subst eq1
                    clear hown HO
                    have HP3 := Lib.hid (ho3.lt (b := g) rfl)
                    have e0 := Later.cell (ho3.cells_ (i := j) (j := 0) HG.out rfl)
                    have e1 := Later.cell (ho3.cells_ (i := j) (j := 1) HG.out rfl)
                    have c0 := Later.cell (cell_ch c0r hB3 (by simp))
                    simp only [Nat.add_zero] at e0
                    have hlf : lift f2 x y = if y = x.f ∧ f2 y < nd then nd else f2 y := by rw [HNN.out]; rfl
                    by_cases hyx : y = x.f
                    · have hye : (y.toList == x.f.toList) = true := by rw [beqS]; simpa using hyx
                      have HYX := Lib.hid hyx; clear hyx
                      have HLF := Lib.hid hlf; clear hlf
                      cases hdd : decide (f2 y < nd)
                      rotate_left 1
                      · have HDD := Lib.hid (of_decide_eq_true hdd)
                        go_wp2
                        refine wp_region_later (by kernel_rfl) (lexB_of (by kernel_rfl)) ?_
                        repeat (go_big_quiet_step (fail))
                        refine wpQuiet_nil ?_
                        intro w3 hw3
                        have ho4 := ho3.ch hw3 (by simp)
                        have hfz := ho4.frozen_ (j * 2 + 1)
                        have g1 := ho4.cells_ (i := j) (j := 1) HG.out rfl
                        go_wp2
                        go_roundw
                        case rel => exact ⟨j + 1, true, rfl, by omega, by go_num, (hB3.trans hw3).set (.inr HP3.out.1) _, by
                          have := ho4.set_ j 1 (u := .int .i64 (nd : Int)) HG.out (by omega) rfl
                          rw [← HS3.out, HLF.out, if_pos ⟨HYX.out, HDD.out⟩]
                          exact this, by
                          unfold Hid
                          have h1 := HYX.out
                          have h2 := HDD.out
                          rw [HT3.out]
                          have : decide (x.f ∈ N.take j ++ [y] ∧ f2 x.f < nd) = true := by
                            rw [decide_eq_true_eq]; exact ⟨by simp [h1], by rw [← h1]; exact h2⟩
                          rw [this, Bool.or_true]⟩
                        case measure => simp [intOf]; omega
                      · have HDD := Lib.hid (of_decide_eq_false hdd)
                        go_wp2
                        refine wp_region_later (by kernel_rfl) (lexB_of (by kernel_rfl)) ?_
                        repeat (go_big_quiet_step (fail))
                        refine wpQuiet_nil ?_
                        intro w3 hw3
                        go_wp2
                        go_roundw
                        case rel => exact ⟨j + 1, b2, rfl, by omega, by go_num, hB3.trans hw3, by rw [HK3.out (by rw [HLF.out, if_neg (fun h => HDD.out h.2)])]; exact ho3.ch hw3 (by simp), by
                          unfold Hid
                          rw [HB3.out, HT3.out]
                          congr 1
                          rw [decide_eq_decide]
                          have h1 := HYX.out
                          have h2 := HDD.out
                          rw [h1] at h2
                          constructor
                          · rintro ⟨_, h⟩; exact absurd h h2
                          · rintro ⟨_, h⟩; exact absurd h h2⟩
                        case measure => simp [intOf]; omega
                    · have hye : (y.toList == x.f.toList) = false := by rw [beqS]; simpa using hyx
                      go_wp2
                      refine wp_region_later (by kernel_rfl) (lexB_of (by kernel_rfl)) ?_
                      repeat (go_big_quiet_step (fail))
                      refine wpQuiet_nil ?_
                      intro w3 hw3
                      go_wp2
                      go_roundw
                      case rel => exact ⟨j + 1, b2, rfl, by omega, by go_num, hB3.trans hw3, by rw [HK3.out (by rw [hlf, if_neg (fun h => hyx h.1)])]; exact ho3.ch hw3 (by simp), by
                        unfold Hid
                        rw [HB3.out, HT3.out]
                        congr 1
                        rw [decide_eq_decide, List.mem_append, List.mem_singleton]
                        constructor
                        · rintro ⟨h, h'⟩; exact ⟨.inl h, h'⟩
                        · rintro ⟨h | h, h'⟩; exact ⟨h, h'⟩; exact absurd h.symm hyx⟩
                      case measure => simp [intOf]; omega
                  · have : j = N.length := by omega
                    subst this
                    rw [mixL_all] at ho3
                    rw [List.take_length] at HB3
                    by_cases hbig : N.length < nd
                    · go_wp2
                      go_ret2
                      exact ⟨_, _, none, rfl, .inr ⟨no_strat HE.out HL2.out HME.out (by have := HNN.out; omega), rfl⟩, ⟨rfl, rfl⟩, hB3⟩
                    · go_wp2
                      go_roundw
                      case rel =>
                        refine ⟨k + 1, b2, lift f2 x, rfl, by omega, by go_num, hB3, ho3, HL2.out.lift HME.out, lift_le f2 x _ HF2.out (by have := HNN.out; omega), ?_, ?_⟩
                        · intro hb2
                          have h1 := HB3.out
                          rw [hb2, eq_comm, Bool.or_eq_false_iff, decide_eq_false_iff_not] at h1
                          have h2 : ¬ f2 x.f < f2 x.t + stepN x := fun h => h1.2 ⟨HEN.out.1, by rw [HNN.out]; exact h⟩
                          rw [lift_same h2]
                          intro e he
                          rw [HT.out] at he
                          rcases List.mem_append.1 he with he | he
                          · exact HS2.out h1.1 e he
                          · rw [List.mem_singleton.1 he]; omega
                        · have h0 := HU2.out
                          have hge := sumF_mono N f2 (lift f2 x) (lift_ge f2 x)
                          have h1 := HB3.out
                          unfold Hid
                          cases b with
                          | true =>
                            rw [Bool.true_or] at h1
                            rw [h1]; omega
                          | false =>
                            rw [Bool.false_or] at h1
                            by_cases hc : x.f ∈ N ∧ f2 x.f < nd
                            · have := sumF_lt N f2 (lift f2 x) (lift_ge f2 x) x.f hc.1 (by unfold lift; rw [if_pos ⟨rfl, by rw [← HNN.out]; exact hc.2⟩, ← HNN.out]; exact hc.2)
                              simp only [boolN] at h0
                              have hb : boolN (.bool b2) ≤ 1 := by cases b2 <;> simp [boolN]
                              omega
                            · rw [decide_eq_false hc] at h1
                              rw [h1]; omega
                      case measure => simp [intOf]; omega
            · have : k = es.length := by omega
              subst this
              rw [List.take_length] at HS2
              have hnew := sumL_eq (p := fun b => w.heap.size ≤ b ∧ (Value.slice a1 N.length c1).ownBlock = some b) ho2.sl
              have hsle := sumF_le N f2 N.length HF2.out
              have HNW := Lib.hid hnew; clear hnew
              have HSL := Lib.hid hsle; clear hsle
              go_wp2
              go_roundw
              case rel => exact ⟨b, f2, rfl, hB2, ho2, HL2, HF2, HS2⟩
              case measure =>
                rw [HM0.out, HNW.out]
                have h0 := HU2.out
                have h1 := HSL.out
                have h2 : boolN (.bool true) = 1 := rfl
                rw [h2]
                cases b with
                | true => rw [h2] at h0 ⊢; omega
                | false =>
                  have h3 : boolN (.bool false) = 0 := rfl
                  rw [h3] at h0 ⊢; omega
        | false =>
          go_wp2
          go_ret2
          exact ⟨_, .inr ⟨rfl, some (lvList N f), .inl ⟨f, HS.out (by simp), HL.out, rfl⟩, ⟨(show SlL _ _ _ _ from ho.sl).weak (fun b _ hb => hb.1), rfl⟩, hB⟩⟩

end
end Go.Proofs.YtojokdicbopknaaGreat
