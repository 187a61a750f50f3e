/-
  Contracts of the reference of layer 9.
-/
import Derived.Test.YtbjdikeaolibpaaSmall3
import Derived.Test.YtbjdikeaolibpaaOrder
namespace Go.Proofs.Ytbjdikeaolibpaa
open Go.RowKit
attribute [local go_sem ↓] run_eql_ed run_neq_ed run_eql_lv run_neq_lv

set_option maxRecDepth 100000 in
set_option maxHeartbeats 800000 in
theorem ref09Insert (p) (v : Value) (xs : List ByteArray) (s : ByteArray) (w : World) (h : SlS p w v xs) (hlen : xs.length ≤ 1000000) :
    Calls Try.prog 49 #[v, .string s] w fun r w' => ∃ v', r = .returned v' ∧ SlS (fun b => p b ∨ w.heap.size ≤ b) w' v' (insS xs s) ∧ Ch [] w w' := by
  obtain ⟨a, c, rfl, hlc, hm⟩ := h.form
  unfold maxLen at hm
  have hle := belowS_le xs s
  have HI := Lib.hid (insS_eq xs s)
  have HL := Lib.hid (belowS_lt xs s)
  have HA := Lib.hid (belowS_at xs s)
  generalize belowS xs s = B at *
  go_enter Try.func49, Try.ntmps49
  go_wp2
  go_loop [5] (fun i => ∃ k : Nat, k ≤ B ∧ i = .int .i64 k) (fun i => xs.length - (intOf i).toNat)
  case atStart => exact ⟨0, Nat.zero_le _, rfl⟩
  case round =>
    obtain ⟨k, hk, rfl⟩ := hrel
    by_cases hlt : k < B
    · have hlt2 : k < xs.length := by omega
      obtain ⟨b, o, rfl, hp, c0⟩ := h.at_ hlt2
      have ht : Op.bytesLess xs[k].toList s.toList = true := HL.out k hlt2 hlt
      go_wp2
      go_round
      case rel => exact ⟨k + 1, by omega, by go_num⟩
      case measure => simp [intOf]; omega
    · have hkB : k = B := by omega
      subst hkB
      have h1 := SlS.take h (m := k) hle
      have h2 := SlS.drop h (m := k) hle
      have hlt1 : (xs.take k).length = k := by simp [Nat.min_eq_left hle]
      have hld1 : (xs.drop k).length = xs.length - k := by simp
      have hd2 : ∀ (v1 : Value) (w1 w2 : World), Ch [] w w1 → (v1.ownBlock = none ∨ v1.ownBlock = some w.heap.size) → Ch v1.ownBlock.toList (w1.alloc (.cells #[.string s] 9)) w2 → SlS p w2 (.slice (if c = k then a else a.map (·.add k)) (xs.length - k) (c - k)) (xs.drop k) := by
        intro v1 w1 w2 hc1 hat1 hc2
        refine Sl.ch0 h2 ((hc1.alloc _).step hc2 ?_)
        rcases hat1 with e | e <;> rw [e] <;> simp
      have fin : ∀ (v1 v2 : Value) (w1 w2 w3 : World), Ch [] w w1 → (v1.ownBlock = none ∨ v1.ownBlock = some w.heap.size) → Ch v1.ownBlock.toList (w1.alloc (.cells #[.string s] 9)) w2 →
          (v2.ownBlock = v1.ownBlock ∨ v2.ownBlock = some (w1.alloc (.cells #[.string s] 9)).heap.size) → Ch v2.ownBlock.toList w2 w3 → Ch [] w w3 := by
        intro v1 v2 w1 w2 w3 hc1 hat1 hc2 hat2 hc3
        have hs1 := hc1.size
        refine ((hc1.alloc _).step hc2 ?_).step hc3 ?_
        · rcases hat1 with e | e <;> rw [e] <;> simp
        · rcases hat2 with e | e <;> rw [e]
          · rcases hat1 with e | e <;> rw [e] <;> simp
          · simp; omega
      by_cases hlt2 : k < xs.length
      · obtain ⟨b, o, rfl, hp, c0⟩ := h.at_ hlt2
        have ht : Op.bytesLess xs[k].toList s.toList = false := HA.out hlt2
        have hc : c ≠ k := by omega
        by_cases heq : xs[k] = s
        · have he : (xs[k].toList == s.toList) = true := by rw [beqS]; simpa using heq
          have hx : insS xs s = xs := by have := HI.out; rw [dif_pos hlt2, if_pos heq] at this; exact this
          have HX := Lib.hid hx; clear hx heq
          go_wp2
          go_ret
          exact ⟨_, rfl, by rw [HX.out]; exact h.weak (fun _ _ hp => .inl hp), Ch.refl _ _⟩
        · have he : (xs[k].toList == s.toList) = false := by rw [beqS]; simpa using heq
          have hx : insS xs s = xs.take k ++ [s] ++ xs.drop k := by have := HI.out; rw [dif_pos hlt2, if_neg heq] at this; exact this
          have HX := Lib.hid hx; clear hx heq
          rw [if_neg hc] at hd2
          simp only [Option.map_some, add_off] at hd2
          go_wp2_with (first
            | (at_builtin; refine wpList_append_sl rfl (.tmp 34) (.tmp 37) _ rfl elS (base := w.heap.size) (v := .slice none 0 0) (css := []) rfl (Own.nil _ _ _ _) rfl h1 (by simp; omega) (Nat.le_refl _) ?_; intro v1 w1 ho1 hc1 hat1 hn1; clear hn1)
            | (at_builtin; refine wpList_append_sl rfl (.tmp 39) (.tmp 41) _ rfl elS (base := w.heap.size) (v := v1) rfl (ho1.ch ((Ch.refl [] w1).alloc _) (by simp)) rfl (Sl.one w1 1 _ [.string s] rfl (by simp [Value.oneCell'])) (by simp; omega) (by simp; have := hc1.size; omega) ?_; intro v2 w2 ho2 hc2 hat2 hn2; clear hn2)
            | (at_builtin; refine wpList_append_sl rfl (.tmp 43) (.tmp 46) _ rfl elS (base := w.heap.size) (v := v2) rfl ho2 rfl (hd2 v1 w1 w2 hc1 hat1 hc2) (by simp; omega) (by have := hc1.size; have := hc2.size; simp at this; omega) ?_; intro v3 w3 ho3 hc3 hat3 hn3; clear hn3))
          go_ret
          refine ⟨_, rfl, ?_, fin v1 v2 w1 w2 w3 hc1 hat1 hc2 hat2 hc3⟩
          rw [HX.out]
          have := ho3.sl
          refine Sl.weak (p := fun b => w.heap.size ≤ b ∧ v3.ownBlock = some b) ?_ (fun _ _ hp => .inr hp.1)
          simpa [encS] using this
      · have hx : insS xs s = xs.take k ++ [s] ++ xs.drop k := by have := HI.out; rw [dif_neg hlt2] at this; exact this
        have HX := Lib.hid hx; clear hx
        · go_wp2_with (first
            | (at_builtin; refine wpList_append_sl rfl (.tmp 34) (.tmp 37) _ rfl elS (base := w.heap.size) (v := .slice none 0 0) (css := []) rfl (Own.nil _ _ _ _) rfl h1 (by simp; omega) (Nat.le_refl _) ?_; intro v1 w1 ho1 hc1 hat1 hn1; clear hn1)
            | (at_builtin; refine wpList_append_sl rfl (.tmp 39) (.tmp 41) _ rfl elS (base := w.heap.size) (v := v1) rfl (ho1.ch ((Ch.refl [] w1).alloc _) (by simp)) rfl (Sl.one w1 1 _ [.string s] rfl (by simp [Value.oneCell'])) (by simp; omega) (by simp; have := hc1.size; omega) ?_; intro v2 w2 ho2 hc2 hat2 hn2; clear hn2)
            | (at_builtin; refine wpList_append_sl rfl (.tmp 43) (.tmp 46) _ rfl elS (base := w.heap.size) (v := v2) rfl ho2 rfl (hd2 v1 w1 w2 hc1 hat1 hc2) (by simp; omega) (by have := hc1.size; have := hc2.size; simp at this; omega) ?_; intro v3 w3 ho3 hc3 hat3 hn3; clear hn3))
          all_goals go_ret
          all_goals refine ⟨_, rfl, ?_, fin v1 v2 w1 w2 w3 hc1 hat1 hc2 hat2 hc3⟩
          all_goals rw [HX.out]
          all_goals have := ho3.sl
          all_goals refine Sl.weak (p := fun b => w.heap.size ≤ b ∧ v3.ownBlock = some b) ?_ (fun _ _ hp => .inr hp.1)
          all_goals simpa [encS] using this

set_option maxHeartbeats 400000 in
theorem ref09Heads (p) (v : Value) (l : List Ru) (w : World) (h : SlR p w v l) (hf : Fit l) :
    Calls Try.prog 40 #[v] w fun r w' => ∃ v', r = .returned v' ∧ SlS (fun b => w.heap.size ≤ b) w' v' (headsOf l) ∧ Ch [] w w' := by
  obtain ⟨a, c, rfl, hlc, hm⟩ := h.form
  unfold maxLen at hm
  have HF := Lib.hid hf; clear hf
  go_enter Try.func40, Try.ntmps40
  go_wp2
  go_loopw [3, 4] (fun o i wr => ∃ k : Nat, k ≤ l.length ∧ i = .int .i64 k ∧ Ch [] w wr ∧ SlS (fun b => w.heap.size ≤ b) wr o (headsOf (l.take k))) (fun _ i _ => l.length - (intOf i).toNat)
  case atStart => exact ⟨0, Nat.zero_le _, rfl, Ch.refl _ _, Sl.nil _ _ _⟩
  case round =>
    obtain ⟨k, hk, rfl, hB, ho⟩ := hrel
    by_cases hlt : k < l.length
    · obtain ⟨b, o, a', c', a'', c'', rfl, hp, c0, c1, c2, hT, hL⟩ := h.at_ hlt
      have c0 := cell_ch c0 hB (by simp)
      have HS := Lib.hid (headsOf_snoc l k hlt)
      have hlen := (HF.out).heads k
      generalize headsOf (l.take k) = o0 at *
      go_wp2_with (first | (go_at_call 49; refine (ref09Insert _ _ _ _ _ ho (by omega)).mono ?_; rintro e w1 ⟨v1, rfl, hv1, hB1⟩))
      · have ht : (!l[k].head.name.toList == [100, 105, 115, 116, 105, 110, 99, 116]) = true := by assumption
        rw [dis_eq] at ht
        have hs0 := hB.size
        go_roundw
        case rel => exact ⟨k + 1, by omega, by go_num, hB.trans hB1, by rw [HS.out, if_neg (by simpa using ht)]; exact hv1.weak (fun b _ hb => by rcases hb with h1 | h1 <;> omega)⟩
        case measure => simp [intOf]; omega
      · have ht : (!l[k].head.name.toList == [100, 105, 115, 116, 105, 110, 99, 116]) = false := by assumption
        rw [dis_eq] at ht
        go_roundw
        case rel => exact ⟨k + 1, by omega, by go_num, hB, by rw [HS.out, if_pos (by simpa using ht)]; exact ho⟩
        case measure => simp [intOf]; omega
    · have : k = l.length := by omega
      subst this
      rw [List.take_length] at ho
      go_wp2
      go_ret
      exact ⟨_, rfl, ho, hB⟩

set_option maxHeartbeats 400000 in
theorem ref09Relations (p) (v : Value) (l : List Ru) (w : World) (h : SlR p w v l) (hf : Fit l) :
    Calls Try.prog 38 #[v] w fun r w' => ∃ v', r = .returned v' ∧ SlS (fun b => w.heap.size ≤ b) w' v' (relsOf l) ∧ Ch [] w w' := by
  obtain ⟨a, c, rfl, hlc, hm⟩ := h.form
  unfold maxLen at hm
  have HF := Lib.hid hf; clear hf
  have hheads := (HF.out).heads l.length
  rw [List.take_length] at hheads
  have hll := (HF.out).1
  go_enter Try.func38, Try.ntmps38
  go_wp2_with (go_at_call 40; refine (ref09Heads _ _ _ _ h HF.out).mono ?_; rintro e w0 ⟨v0, rfl, hv0, hB0⟩)
  go_loopw [3, 4] (fun o i wr => ∃ k : Nat, k ≤ l.length ∧ i = .int .i64 k ∧ Ch [] w wr ∧ SlS (fun b => w.heap.size ≤ b) wr o ((l.take k).foldl (fun o r => bodyOf o r.body) (headsOf l))) (fun _ i _ => l.length - (intOf i).toNat)
  case atStart => exact ⟨0, Nat.zero_le _, rfl, hB0, by simpa using hv0⟩
  case round =>
    obtain ⟨k, hk, rfl, hB, ho⟩ := hrel
    by_cases hlt : k < l.length
    · obtain ⟨b, o, a', c', a'', c'', rfl, hp, c0, c1, c2, hT, hL⟩ := h.at_ hlt
      have HS := Lib.hid (rels_snoc (headsOf l) l k hlt)
      have hlen := rels_len (l.take k) (headsOf l) (HF.out.take k).2
      rw [List.length_take] at hlen
      have hbl := HF.out.2 _ (List.getElem_mem hlt)
      generalize (l.take k).foldl (fun o r => bodyOf o r.body) (headsOf l) = o0 at *
      go_wp2
      go_loopw [3, 5, 6] (fun o i _ wq => ∃ m : Nat, m ≤ l[k].body.length ∧ i = .int .i64 m ∧ Ch [] w wq ∧ SlS (fun b => w.heap.size ≤ b) wq o (bodyOf o0 (l[k].body.take m))) (fun _ i _ _ => l[k].body.length - (intOf i).toNat)
      case atStart => exact ⟨0, Nat.zero_le _, rfl, hB, ho⟩
      case round =>
        obtain ⟨m, hm, rfl, hB2, ho2⟩ := hrel
        have c2 := cell_ch c2 hB2 (by simp)
        by_cases hlt2 : m < l[k].body.length
        · obtain ⟨b2, o2, a2, c2', rfl, hp2, d0, d1, d2, hT2⟩ := hL.at_ hlt2
          have d1 := cell_ch d1 hB2 (by simp)
          have HS2 := Lib.hid (bodyOf_snoc o0 l[k].body m hlt2)
          have hlen2 := bodyOf_len (l[k].body.take m) o0
          rw [List.length_take] at hlen2
          generalize bodyOf o0 (l[k].body.take m) = o1 at *
          go_wp2_with (go_at_call 49; refine (ref09Insert _ _ _ _ _ ho2 (by omega)).mono ?_; rintro e w1 ⟨v1, rfl, hv1, hB1⟩)
          · have ht : (!l[k].body[m].atom.name.toList == [100, 105, 115, 116, 105, 110, 99, 116]) = true := by assumption
            rw [dis_eq] at ht
            have hs0 := hB2.size
            go_roundw
            case rel => exact ⟨m + 1, by omega, by go_num, hB2.trans hB1, by rw [HS2.out, if_neg (by simpa using ht)]; exact hv1.weak (fun b _ hb => by rcases hb with h1 | h1 <;> omega)⟩
            case measure => simp [intOf]; omega
          · have ht : (!l[k].body[m].atom.name.toList == [100, 105, 115, 116, 105, 110, 99, 116]) = false := by assumption
            rw [dis_eq] at ht
            go_roundw
            case rel => exact ⟨m + 1, by omega, by go_num, hB2, by rw [HS2.out, if_pos (by simpa using ht)]; exact ho2⟩
            case measure => simp [intOf]; omega
        · have : m = l[k].body.length := by omega
          subst this
          rw [List.take_length] at ho2
          go_wp2
          go_roundw
          case rel => exact ⟨k + 1, by omega, by go_num, hB2, by rw [HS.out]; exact ho2⟩
          case measure => simp [intOf]; omega
    · have : k = l.length := by omega
      subst this
      rw [List.take_length] at ho
      go_wp2
      go_ret
      exact ⟨_, rfl, ho, hB⟩

/-- what a round over the edges keeps: all that is listed is reached, and, as long as nothing was added, what leads on from the edges gone through is listed -/
def ReachInv (es : List Ed) (a : ByteArray) (k : Nat) (o : List ByteArray) : Prop := ∀ (i : Nat) (hi : i < es.length), i < k → (es[i].f = a ∨ es[i].f ∈ o) → es[i].t ∈ o
def AllRch (es : List Ed) (a : ByteArray) (o : List ByteArray) : Prop := Asc sLt o ∧ ∀ s ∈ o, Rch es a s

theorem AllRch.add {es : List Ed} {a : ByteArray} {o : List ByteArray} (h : AllRch es a o) {e : Ed} (he : e ∈ es) (hs : e.f = a ∨ e.f ∈ o) : AllRch es a (insS o e.t) :=
  ⟨asc_insS _ _ h.1, fun x hx => by
    rcases (mem_insS _ _ _).1 hx with e1 | h1
    · subst e1
      rcases hs with hs | hs
      · exact .one he hs
      · exact .step (h.2 _ hs) he rfl
    · exact h.2 x h1⟩
theorem ReachInv.snoc {es : List Ed} {a : ByteArray} {k : Nat} {o : List ByteArray} (h : ReachInv es a k o) (hk : k < es.length) (hc : (es[k].f = a ∨ es[k].f ∈ o) → es[k].t ∈ o) : ReachInv es a (k + 1) o := by
  intro i hi hik hs
  rcases Nat.lt_succ_iff_lt_or_eq.1 hik with h1 | h1
  · exact h i hi h1 hs
  · subst h1; exact hc hs
theorem SlS.lenV {p : Nat → Prop} {w : World} {v : Value} {xs : List ByteArray} (h : SlS p w v xs) : lenV v = xs.length := by
  obtain ⟨a, c, rfl, _⟩ := h.form
  rfl

set_option maxHeartbeats 800000 in
theorem ref09Reach (p) (v : Value) (es : List Ed) (s : ByteArray) (w : World) (h : SlE p w v es) (hf : es.length ≤ 100000) :
    Calls Try.prog 44 #[v, .string s] w fun r w' => ∃ v', r = .returned v' ∧ SlS (fun b => w.heap.size ≤ b) w' v' (reachOf es s) ∧ Ch [] w w' := by
  obtain ⟨a, c, rfl, hlc, hm⟩ := h.form
  unfold maxLen at hm
  go_enter Try.func44, Try.ntmps44
  go_wp2
  go_loopw [5, 6, 7] (fun o m _ wr => ∃ (more : Bool) (out : List ByteArray), m = .bool more ∧ Ch [] w wr ∧ SlS (fun b => w.heap.size ≤ b) wr o out ∧ lenV o = out.length ∧ Hid (AllRch es s out) ∧ Hid (more = false → ReachInv es s es.length out))
    (fun o m _ _ => 2 * (es.length - lenV o) + (match m with | .bool true => 1 | _ => 0))
  case atStart => exact ⟨true, [], rfl, Ch.refl _ _, Sl.nil _ _ _, rfl, ⟨List.Pairwise.nil, by simp⟩, by intro h; cases h⟩
  case round =>
    obtain ⟨more, out, rfl, hB, ho, hlo, HA, HC⟩ := hrel
    have HLO := Lib.hid hlo; clear hlo
    have hle := reach_len HA.out.1 (fun x hx => (HA.out.2 x hx).target)
    cases more with
    | false =>
      have hx := reachOf_eq HA.out.1 HA.out.2 (fun e he => by
        obtain ⟨i, hi, rfl⟩ := List.mem_iff_getElem.1 he
        exact HC.out rfl i hi hi)
      have HX := Lib.hid hx; clear hx
      go_wp2
      go_ret
      exact ⟨_, rfl, by rw [← HX.out]; exact ho, hB⟩
    | true =>
      go_wp2
      go_loopw [5, 6, 7] (fun o m i wq => ∃ (k : Nat) (mr : Bool) (out' : List ByteArray), k ≤ es.length ∧ i = .int .i64 k ∧ m = .bool mr ∧ Ch [] w wq ∧ SlS (fun b => w.heap.size ≤ b) wq o out' ∧ lenV o = out'.length ∧ Hid (AllRch es s out') ∧ Hid (mr = false → ReachInv es s k out') ∧ out.length + (if mr then 1 else 0) ≤ out'.length)
        (fun _ _ i _ => es.length - (intOf i).toNat)
      case atStart => exact ⟨0, false, out, Nat.zero_le _, rfl, rfl, hB, ho, HLO.out, HA, fun _ i _ h => by omega, by simp⟩
      case round =>
        obtain ⟨k, mr, out', hk, rfl, rfl, hB2, ho2, hlo2, HA2, HC2, hmr⟩ := hrel
        have HLO2 := Lib.hid hlo2; clear hlo2
        have HMR := Lib.hid hmr; clear hmr
        have hle2 := reach_len HA2.out.1 (fun x hx => (HA2.out.2 x hx).target)
        by_cases hlt : k < es.length
        · obtain ⟨b, o, rfl, hp, c0, c1, c2⟩ := h.at_ hlt
          have c0 := cell_ch c0 hB2 (by simp)
          have c1 := cell_ch c1 hB2 (by simp)
          go_wp2_with (first | (go_at_call 33; refine (ref09Has _ _ _ _ _ ho2).mono ?_; rintro e w1 ⟨rfl, rfl⟩) | (go_at_call 49; refine (ref09Insert _ _ _ _ _ ho2 (by omega)).mono ?_; rintro e w1 ⟨v1, rfl, hv1, hB1⟩))
          · have h1 : es[k].f.toList = s.toList := by assumption
            have h2 : (!hasS out' es[k].t) = true := by assumption
            rw [toL_iff] at h1
            have h3 : es[k].t ∉ out' := by simpa [hasS] using h2
            have hs0 := hB2.size
            go_roundw
            case rel => exact ⟨k + 1, true, insS out' es[k].t, by omega, by go_num, rfl, hB2.trans hB1, hv1.weak (fun b _ hb => by rcases hb with h1 | h1 <;> omega), hv1.lenV, HA2.out.add (List.getElem_mem hlt) (.inl h1), (fun h => nomatch h), by rw [insS_new h3]; have := HMR.out; simp at this ⊢; split at this <;> omega⟩
            case measure => simp [intOf]; omega
          · have h2 : (!hasS out' es[k].t) = false := by assumption
            have h3 : es[k].t ∈ out' := by simpa [hasS] using h2
            go_roundw
            case rel => exact ⟨k + 1, mr, out', by omega, by go_num, rfl, hB2, ho2, HLO2.out, HA2, fun h => (HC2.out h).snoc hlt (fun _ => h3), HMR.out⟩
            case measure => simp [intOf]; omega
          · have h1 : hasS out' es[k].f = true := by assumption
            have h2 : (!hasS out' es[k].t) = true := by assumption
            have h1 : es[k].f ∈ out' := by simpa [hasS] using h1
            have h3 : es[k].t ∉ out' := by simpa [hasS] using h2
            have hs0 := hB2.size
            go_roundw
            case rel => exact ⟨k + 1, true, insS out' es[k].t, by omega, by go_num, rfl, hB2.trans hB1, hv1.weak (fun b _ hb => by rcases hb with h1 | h1 <;> omega), hv1.lenV, HA2.out.add (List.getElem_mem hlt) (.inr h1), (fun h => nomatch h), by rw [insS_new h3]; have := HMR.out; simp at this ⊢; split at this <;> omega⟩
            case measure => simp [intOf]; omega
          · have h2 : (!hasS out' es[k].t) = false := by assumption
            have h3 : es[k].t ∈ out' := by simpa [hasS] using h2
            go_roundw
            case rel => exact ⟨k + 1, mr, out', by omega, by go_num, rfl, hB2, ho2, HLO2.out, HA2, fun h => (HC2.out h).snoc hlt (fun _ => h3), HMR.out⟩
            case measure => simp [intOf]; omega
          · have h1 : ¬es[k].f.toList = s.toList := by assumption
            have h2 : ¬hasS out' es[k].f = true := by assumption
            rw [toL_iff] at h1
            have h4 : es[k].f ∉ out' := by simpa [hasS] using h2
            go_roundw
            case rel => exact ⟨k + 1, mr, out', by omega, by go_num, rfl, hB2, ho2, HLO2.out, HA2, fun h => (HC2.out h).snoc hlt (fun h5 => by rcases h5 with h5 | h5; exact absurd h5 h1; exact absurd h5 h4), HMR.out⟩
            case measure => simp [intOf]; omega
        · have hke : k = es.length := by omega
          subst hke
          go_wp2
          go_roundw
          case rel => exact ⟨mr, out', rfl, hB2, ho2, HLO2.out, HA2, HC2⟩
          case measure =>
            have h1 := HLO.out
            have h2 := HLO2.out
            have h3 := HMR.out
            rw [h1, h2]
            cases mr <;> simp at h3 ⊢ <;> omega

set_option maxHeartbeats 400000 in
theorem ref09Recursive (p) (v : Value) (es : List Ed) (s : ByteArray) (w : World) (h : SlE p w v es) (hf : es.length ≤ 100000) :
    Calls Try.prog 46 #[v, .string s] w fun r w' => r = .returned (.bool (hasS (reachOf es s) s)) ∧ Ch [] w w' := by
  go_enter Try.func46, Try.ntmps46
  go_wp2_with (first | (go_at_call 44; refine (ref09Reach _ _ _ _ _ h hf).mono ?_; rintro e w1 ⟨v1, rfl, hv1, hB1⟩) | (go_at_call 33; refine (ref09Has _ _ _ _ _ hv1).mono ?_; rintro e w2 ⟨rfl, rfl⟩))
  go_ret
  exact ⟨rfl, hB1⟩
end Go.Proofs.Ytbjdikeaolibpaa
