/-
  The contract of strata.Cycle.
-/
import Derived.Test.YtbjdikeaolibpaaStrPlain
import Derived.Test.YtbjdikeaolibpaaStrDist
import Derived.Test.YtbjdikeaolibpaaEdSort
import Derived.Test.YtbjdikeaolibpaaLex
import Derived.Deep.RegionHeld3
namespace Go.Proofs.Ytbjdikeaolibpaa
open Go.RowKit Go.MapKept

/-- what the search for the best edge holds -/
def BestAt (o : Option (Nat × Ed)) (n : Nat) (st : Ed) : Prop := match o with
  | none => n = 0
  | some x => 1 ≤ n ∧ n = x.1 ∧ st = x.2
theorem BestAt.pos {o : Option (Nat × Ed)} {n : Nat} {st : Ed} (h : BestAt o n st) (hn : n ≠ 0) : o = some (n, st) := by
  cases o with
  | none => exact absurd h hn
  | some x => obtain ⟨_, h2, h3⟩ := h; rw [h2, h3]
theorem BestAt.zero {o : Option (Nat × Ed)} {st : Ed} (h : BestAt o 0 st) : o = none := by
  cases o with
  | none => rfl
  | some x => obtain ⟨h1, _, _⟩ := h; omega
theorem better_skip {es : List Ed} {o : Option (Nat × Ed)} {e : Ed} (h : e.n = false) : better es o e = o := by
  unfold better; rw [if_neg (by rw [h]; simp)]
theorem better_none {es : List Ed} {o : Option (Nat × Ed)} {e : Ed} (h : dst es e.t e.f = none) : better es o e = o := by
  unfold better; rw [h]; simp
theorem BestAt.take {es : List Ed} {o : Option (Nat × Ed)} {e : Ed} {n d : Nat} {st : Ed} (h : BestAt o n st) (he : e.n = true) (hd : dst es e.t e.f = some d) (hc : n = 0 ∨ d + 1 < n) : BestAt (better es o e) (d + 1) e := by
  unfold better
  rw [if_pos he, hd]
  cases o with
  | none => exact ⟨by simp, rfl, rfl⟩
  | some x =>
    obtain ⟨h1, h2, h3⟩ := h
    simp only
    rw [if_pos (by omega)]
    exact ⟨by simp, rfl, rfl⟩
theorem BestAt.keep {es : List Ed} {o : Option (Nat × Ed)} {e : Ed} {n d : Nat} {st : Ed} (h : BestAt o n st) (he : e.n = true) (hd : dst es e.t e.f = some d) (hc : ¬ (n = 0 ∨ d + 1 < n)) : BestAt (better es o e) n st := by
  unfold better
  rw [if_pos he, hd]
  cases o with
  | none => exact absurd (.inl h) hc
  | some x =>
    obtain ⟨h1, h2, h3⟩ := h
    simp only
    rw [if_neg (by omega)]
    exact ⟨h1, h2, h3⟩

theorem Own.one_ (w : World) (base : Nat) (e : TypeId) (k : Nat) (cs : List Value) (hb : base ≤ w.heap.size) (hk : cs.length = k) (h1 : ∀ u ∈ cs, u.oneCell' = true) : Own (w.alloc (.cells cs.toArray e)) base e k (.slice (some ⟨w.heap.size, 0, none⟩) 1 1) [cs] :=
  ⟨⟨by simp [hk], .inr ⟨w.heap.size, 1, cs.toArray, rfl, hb, heap_alloc_new w _, Nat.le_refl _, by decide, by simp [hk], by simp [← hk]⟩⟩, by simpa [hk] using h1⟩
theorem Own.ch0' {w w' : World} {base k : Nat} {e : TypeId} {v : Value} {css : List (List Value)} (h : Own w base e k v css) (hc : Ch [] w w') : Own w' base e k v css := h.ch hc (by simp)
theorem nxtAt_take {es l : List Ed} {to a y : ByteArray} {d k : Nat} (h : nxtAt es (l.take k) to a d = some y) : nxtAt es l to a d = some y := by
  unfold nxtAt at h ⊢
  conv => lhs; rw [← List.take_append_drop k l]
  rw [List.find?_append]
  cases hf : List.find? (fun e => decide (e.f = a ∧ dst es e.t to = some d)) (l.take k) with
  | none => rw [hf] at h; cases h
  | some e => rw [hf] at h; simpa using h

set_option maxRecDepth 100000 in
set_option maxHeartbeats 4000000 in
theorem strataCycle (p) (v : Value) (l : List Ru) (w : World) (h : SlR p w v l) (hf : Fit l) :
    Calls Try.prog 28 #[v] w fun r w' => ∃ v', r = .returned v' ∧ SlS (fun b => w.heap.size ≤ b) w' v' (cycOf (edgesOf l)) ∧ Ch [] w w' := by
  have hD := depEdges p v l w h hf
  have hel := edgesOf_len hf l.length
  rw [List.take_length] at hel
  generalize edgesOf l = es at *
  obtain ⟨a, c, rfl, hlc, hm⟩ := h.form
  unfold maxLen at hm
  go_enter Try.func28, Try.ntmps28
  go_wp2
  go_step3
  go_wp2_with (go_at_call 42; refine hD.mono ?_; rintro e w1 ⟨v1, rfl, h1, hc1⟩; clear hD; obtain ⟨a1, c1, rfl, hl1, hm1⟩ := h1.form)
  unfold maxLen at hm1
  have hs1 := hc1.size
  go_loopw [4, 22] (fun bv i wr => ∃ (k n : Nat) (st : Ed), k ≤ es.length ∧ i = .int .i64 k ∧ bv = .int .i64 n ∧ Ch [] w1 wr ∧ Blk wr w1.heap.size 65 #[.string st.f, .string st.t, .bool st.n] ∧ Hid (BestAt (bestOf es (es.take k)) n st) ∧ n ≤ 100001) (fun _ i _ => es.length - (intOf i).toNat)
  case atStart => exact ⟨0, 0, ⟨⟨#[]⟩, ⟨#[]⟩, false⟩, Nat.zero_le _, rfl, rfl, (Ch.refl _ _).alloc _, Blk.new _ _ _, rfl, by omega⟩
  case round =>
    obtain ⟨k, n, st, hk, rfl, rfl, hB, hst, HB, hn1⟩ := hrel
    by_cases hlt : k < es.length
    · obtain ⟨b, o, rfl, hp, c0, c1', c2⟩ := h1.at_ hlt
      have c0 := cell_ch c0 hB (by simp)
      have c1' := cell_ch c1' hB (by simp)
      have c2 := cell_ch c2 hB (by simp)
      have HS := Lib.hid (bestOf_snoc es es k hlt)
      obtain ⟨x, hx⟩ : ∃ x, es[k] = x := ⟨_, rfl⟩
      rw [hx] at c0 c1' c2 HS
      clear hx
      generalize bestOf es (es.take k) = o0 at *
      cases hneg : x.n with
      | false =>
        have HNG := Lib.hid hneg
        have b2 := (Blk.new wr 65 #[.string x.f, .string x.t, .bool x.n]).cell 2
        rw [hneg] at b2 c2
        go_wp2
        go_roundw
        case rel => exact ⟨k + 1, n, st, by omega, by go_num, rfl, hB.alloc _, hst.alloc _, by unfold Hid; rw [HS.out, better_skip HNG.out]; exact HB.out, hn1⟩
        case measure => simp [intOf]; omega
      | true =>
        have HNG := Lib.hid hneg
        rw [hneg] at c2
        clear hneg
        obtain ⟨wA, hwA⟩ : ∃ wA, wA = wr.alloc (.cells #[.string x.f, .string x.t, .bool true] 65) := ⟨_, rfl⟩
        have hbox : Blk wA wr.heap.size 65 #[.string x.f, .string x.t, .bool true] := by rw [hwA]; exact Blk.new _ _ _
        have hcA : Ch [] wr wA := by rw [hwA]; exact (Ch.refl _ _).alloc _
        have b0 := hbox.cell 0
        have b1 := hbox.cell 1
        have b2 := hbox.cell 2
        have hstA := hst.ch hcA (by simp)
        have hcall := fun wz hz => strataDistances _ _ es x.f wz ((h1.ch0 hB).ch0 hz) (by omega)
        have hdl := fun d => dst_le (es := es) (a := x.t) (b := x.f) (n := d)
        cases hd : dst es x.t x.f with
        | none =>
          have HD := Lib.hid hd; clear hd
          clear hdl
          go_wp2
          rw [← hwA]
          clear hwA
          go_region_held3 (fun w' => w'.cell? ⟨wr.heap.size, 0, none⟩ = some (.string x.f) ∧ w'.cell? ⟨wr.heap.size, 1, none⟩ = some (.string x.t)) (go_keep) (first
            | (go_at_call 61; refine (hcall _ (hcA.drew)).mono ?_; rintro e w3 ⟨B, kv, rfl, hlB, hM, HDK, hc3⟩; have z3 : Ch [] wA w3 := (((Ch.refl [] wA).drew).trans hc3); have z0 := cell_ch b0 z3 (by simp); have z1 := cell_ch b1 z3 (by simp); have hv := HDK.out.vals x.t; rw [HD.out] at hv; have l3 := look_i2 hM x.t; simp only [hv, encN, Option.map_none, Option.getD_none, Option.isSome_none] at l3; clear hv))
          go_wp2
          go_roundw
          case rel => exact ⟨k + 1, n, st, by omega, by go_num, rfl, hB.trans (hcA.trans z3), hstA.ch z3 (by simp), by unfold Hid; rw [HS.out, better_none HD.out]; exact HB.out, hn1⟩
          case measure => simp [intOf]; omega
        | some d =>
          have hdl2 := hdl d hd
          have HD := Lib.hid hd; clear hd
          clear hdl
          obtain ⟨dd, hdd⟩ : ∃ dd : Nat, dd = d + 1 := ⟨_, rfl⟩
          have hw : IntKind.i64.wrap ((d : Int) + 1) = (dd : Int) := by rw [hdd]; simp [IntKind.wrap, IntKind.signed, IntKind.bits]; omega
          have hddl : dd ≤ 100001 := by omega
          have HDD := Lib.hid hdd; clear hdd hdl2
          go_wp2
          rw [← hwA]
          clear hwA
          go_region_held3 (fun w' => w'.cell? ⟨wr.heap.size, 0, none⟩ = some (.string x.f) ∧ w'.cell? ⟨wr.heap.size, 1, none⟩ = some (.string x.t)) (go_keep) (first
            | (go_at_call 61; refine (hcall _ (hcA.drew)).mono ?_; rintro e w3 ⟨B, kv, rfl, hlB, hM, HDK, hc3⟩; have z3 : Ch [] wA w3 := (((Ch.refl [] wA).drew).trans hc3); have z0 := cell_ch b0 z3 (by simp); have z1 := cell_ch b1 z3 (by simp); have hv := HDK.out.vals x.t; rw [HD.out] at hv; have l3 := look_i2 hM x.t; simp only [hv, encN, Option.map_some, Option.getD_some, Option.isSome_some] at l3; clear hv))
          have hbox3 := hbox.ch z3 (by simp)
          have hst3 := hstA.ch z3 (by simp)
          have e0 := hbox3.cell 0
          have e1 := hbox3.cell 1
          have e2 := hbox3.cell 2
          have f0 := hst3.frozen 0
          have f1 := hst3.frozen 1
          have f2 := hst3.frozen 2
          have g0 := hst3.cell 0
          have g1 := hst3.cell 1
          have g2 := hst3.cell 2
          go_wp2
          all_goals first
            | (have HC : Hid (¬ (n = 0 ∨ d + 1 < n)) := (by
                unfold Hid
                rw [← HDD.out]
                have h1 := ‹¬ n = 0›
                have h2 := ‹((n : Int) == 0) = false ∧ ¬ dd < n›
                rintro (h | h)
                · exact h1 h
                · exact h2.2 h)
               go_roundw
               case rel => exact ⟨k + 1, n, st, by omega, by go_num, rfl, hB.trans (hcA.trans z3), hstA.ch z3 (by simp), by unfold Hid; rw [HS.out]; exact HB.out.keep HNG.out HD.out HC.out, hn1⟩
               case measure => simp [intOf]; omega)
            | skip
          all_goals
            have HC : Hid (n = 0 ∨ d + 1 < n) := by
              unfold Hid
              rw [← HDD.out]
              first
                | exact .inl ‹n = 0›
                | (have h2 := ‹((n : Int) == 0) = true ∨ dd < n›
                   rcases h2 with h | h
                   · refine .inl ?_; have : (n : Int) = 0 := by simpa using h
                     omega
                   · exact .inr h)
            go_region
            go_wp2
            go_roundw
            case rel => exact ⟨k + 1, dd, x, by omega, by go_num, rfl, ((((hB.trans (hcA.trans z3)).set (.inr (Nat.le_refl _)) _).set (.inr (Nat.le_refl _)) _).set (.inr (Nat.le_refl _)) _).drew, by
              have := (((hst3.set_ 0 (.string x.f)).set_ 1 (.string x.t)).set_ 2 (.bool true)).drew
              rw [HNG.out]
              simpa using this, by unfold Hid; rw [HS.out, HDD.out]; exact HB.out.take HNG.out HD.out HC.out, hddl⟩
            case measure => simp [intOf]; omega
    · have : k = es.length := by omega
      subst this
      rw [List.take_length] at HB
      by_cases hn0 : n = 0
      · subst hn0
        have hcy : cycOf es = [] := by unfold cycOf; rw [HB.out.zero]; rfl
        have HCY := Lib.hid hcy; clear hcy
        go_wp2
        rw [Exit.noGoto_ret]
        go_ret
        exact ⟨_, rfl, by rw [HCY.out]; exact Sl.nil _ _ _, hc1.trans hB⟩
      · have hbo := HB.out.pos hn0
        have hok := best_ok es es
        rw [hbo] at hok
        obtain ⟨k1, k2, k3, k4⟩ := hok
        simp only at k1 k2 k3 k4
        obtain ⟨d, rfl⟩ : ∃ d, n = d + 1 := ⟨n - 1, by omega⟩
        rw [Nat.add_sub_cancel] at k4
        have HCY : Hid (cycOf es = st.f :: walkOf es st.f d st.t) := by unfold Hid cycOf; rw [hbo]; rfl
        have HK4 := Lib.hid k4
        clear hbo k1 k2 k3 k4 HB
        have hB1 := hc1.trans hB
        have s0 := hst.cell 0
        have s1 := hst.cell 1
        obtain ⟨wA, hwA⟩ : ∃ wA, wA = wr.alloc (.cells #[.string st.f] 9) := ⟨_, rfl⟩
        have hcA : Ch [] wr wA := by rw [hwA]; exact (Ch.refl _ _).alloc _
        have hownA : Own wA w1.heap.size 9 1 (.slice (some ⟨wr.heap.size, 0, none⟩) 1 1) [[.string st.f]] := by rw [hwA]; exact Own.one_ wr w1.heap.size 9 1 [.string st.f] hB.size rfl (by simp [Value.oneCell'])
        have hszA : wr.heap.size < wA.heap.size := by rw [hwA]; simp
        have s0 := cell_ch s0 hcA (by simp)
        have s1 := cell_ch s1 hcA (by simp)
        have hcall := strataDistances _ _ es st.f wA ((h1.ch0 hB).ch0 hcA) (by omega)
        subst hwA
        go_wp2_with (go_at_call 61; refine hcall.mono ?_; rintro e w3 ⟨B, kv, rfl, hlB, hM, HDK, hc3⟩; have s1 := cell_ch s1 hc3 (by simp))
        go_step3
        go_wp2
        have hs3 := hc3.size
        have hMl := hM.lt
        have hown3 := hownA.ch0' hc3
        have HW0 : Hid (atW es st.f d st.t 0 = st.t) := atW_zero HK4.out
        have HWD := Lib.hid (fun j (hj : j ≤ d) => atW_dst HK4.out hj)
        have HWS := Lib.hid (fun j (hj : j < d) => atW_succ HK4.out hj)
        have HWT := Lib.hid (fun j (hj : j < d) => walk_take (es := es) (to := st.f) (a := st.t) hj)
        have HWA := Lib.hid (walk_all (es := es) (to := st.f) (a := st.t) d)
        have HDM := Lib.hid (fun j => by have := walk_len (es := es) (to := st.f) d st.t; exact (List.length_take (i := j) (l := walkOf es st.f d st.t)).trans (by rw [this]))
        have h3e := (h1.ch0 hB).ch0 (hcA.trans hc3)
        have hB3 : Ch [] w1 w3 := hB.trans (hcA.trans hc3)
        have hownB : (Value.slice (some ⟨wr.heap.size, 0, none⟩) 1 1).ownBlock ≠ some B := fun e => by
          simp [Value.ownBlock] at e; omega
        generalize hW : walkOf es st.f d st.t = W at *
        have HWW := Lib.hid hW; clear hW
        clear hcall s0 s1 hst hownA hszA
        go_loopw [10, 12] (fun ov av wq => ∃ (j : Nat), j ≤ d ∧ av = .string (atW es st.f d st.t j) ∧ Ch [] w1 wq ∧ MapAt wq encB B kv ∧ ov.ownBlock ≠ some B ∧ Own wq w1.heap.size 9 1 ov ((st.f :: W.take j).map encS)) (fun ov _ _ => d + 1 - lenV ov)
        case atStart => exact ⟨0, Nat.zero_le _, by rw [HW0.out], hB3, hM, hownB, by rw [List.take_zero]; exact hown3⟩
        case round =>
          obtain ⟨j, hj, rfl, hB4, hM4, hnB4, ho4⟩ := hrel
          obtain ⟨a10, c10, rfl⟩ := ho4.form'
          have hlen : ((st.f :: W.take j).map encS).length = j + 1 := by have := HDM.out j; rw [List.length_map, List.length_cons, this]; omega
          rw [hlen] at hnB4 ho4 ⊢
          by_cases hjd : j < d
          · have hat := HWD.out j hj
            have hsucc := HWS.out j hjd
            have htk := HWT.out j hjd
            have HSU := Lib.hid hsucc; clear hsucc
            have HTK := Lib.hid htk; clear htk
            generalize atW es st.f d st.t j = y at *
            have HAT := Lib.hid hat
            have hvy := HDK.out.vals y
            rw [hat] at hvy
            obtain ⟨m, hm1⟩ : ∃ m, m = d - j := ⟨_, rfl⟩
            obtain ⟨m', hm2⟩ : ∃ m', m' = d - j - 1 := ⟨_, rfl⟩
            have hmm : m = m' + 1 := by omega
            have hmle : m' ≤ d := by omega
            rw [← hm1] at hvy hat
            rw [hmm] at hat
            have HNS := Lib.hid (nxtAt_all hat)
            have HM2 := Lib.hid hm2
            have hdd : d ≤ 100000 := by omega
            have HLEN := Lib.hid hlen; clear hlen
            have hw : IntKind.i64.wrap ((m : Int) - 1) = (m' : Int) := by rw [hmm]; simp [IntKind.wrap, IntKind.signed, IntKind.bits]; omega
            have HVY := Lib.hid hvy
            clear hm1 hm2 hmm hat hvy
            go_wp2_with (at_builtin; refine wpList_append_sl rfl _ _ _ rfl elS (base := w1.heap.size) (v := .slice a10 (j + 1) c10) (css := (st.f :: W.take j).map encS) rfl (ho4.ch ((Ch.refl [] wr).alloc _) (by simp)) rfl (Sl.one wr 1 _ [.string y] rfl (by simp [Value.oneCell'])) (by rw [HLEN.out]; simp; omega) (by have := hB4.size; simp; omega) ?_; intro v5 w5 ho5 hc5 hat5 hn5; clear hn5)
            have hM5 : MapAt w5 encB B kv := (hM4.alloc (.cells #[.string y] 9)).ch hc5 (fun hx => by
              cases hu : (Value.slice a10 (j + 1) c10).ownBlock with
              | none => rw [hu] at hx; cases hx
              | some g => rw [hu] at hx; simp at hx; subst hx; exact hnB4 hu)
            have hnB5 : v5.ownBlock ≠ some B := fun e => by
              rcases hat5 with h5 | h5
              · exact hnB4 (h5 ▸ e)
              · rw [h5] at e; injection e with e; have := hM4.lt; simp at e; omega
            have hB5 : Ch [] w1 w5 := (hB4.alloc (.cells #[.string y] 9)).step hc5 (fun z hz => .inr (by
              cases hu : (Value.slice a10 (j + 1) c10).ownBlock with
              | none => rw [hu] at hz; cases hz
              | some g => rw [hu] at hz; simp at hz; subst hz; exact (ho4.lt hu).1))
            have ho5' : Own w5 w1.heap.size 9 1 v5 ((st.f :: W.take (j + 1)).map encS) := by
              rw [HTK.out]
              have e : (st.f :: (W.take j ++ [y])).map encS = (st.f :: W.take j).map encS ++ [[.string y]] := by simp [encS]
              rw [e]; exact ho5
            have hl5 : lenV v5 = j + 2 := by
              obtain ⟨a6, c6, e6⟩ := ho5'.form'
              have := HDM.out (j + 1)
              rw [e6]; simp only [lenV]; rw [List.length_map, List.length_cons, this]; omega
            have HL5 := Lib.hid hl5
            clear hc5 hat5 ho5 hM4 hB4 ho4 hnB4 hl5
            obtain ⟨wo, hwo⟩ : ∃ wo : World, wo = w5 := ⟨_, rfl⟩
            have hBo : Ch [] wo w5 := by rw [hwo]; exact Ch.refl _ _
            rw [← hwo] at hM5 hB5 ho5'
            clear hwo
            go_loopw [12, 75] (fun av i wq => ∃ k : Nat, av = .string y ∧ k ≤ es.length ∧ i = .int .i64 k ∧ Ch [] wo wq ∧ Hid (nxtAt es (es.take k) st.f y m' = none)) (fun _ i _ => es.length - (intOf i).toNat)
            case atStart => exact ⟨0, rfl, Nat.zero_le _, rfl, hBo, rfl⟩
            case round =>
              obtain ⟨k, rfl, hk, rfl, hB6, HN6⟩ := hrel
              by_cases hlt : k < es.length
              · obtain ⟨b, o, rfl, hp, c0, c1', c2⟩ := h1.at_ hlt
                have hB56 := hB5.trans hB6
                have c0 := cell_ch c0 hB56 (by simp)
                have c1' := cell_ch c1' hB56 (by simp)
                have c2 := cell_ch c2 hB56 (by simp)
                have HS6 := Lib.hid (nxtAt_snoc es es st.f y m' k hlt)
                have HT6 := Lib.hid (fun z => nxtAt_take (es := es) (l := es) (to := st.f) (a := y) (d := m') (k := k + 1) (y := z))
                obtain ⟨x, hx⟩ : ∃ x, es[k] = x := ⟨_, rfl⟩
                rw [hx] at c0 c1' c2 HS6
                clear hx
                have b0 := (Blk.new wr 65 #[.string x.f, .string x.t, .bool x.n]).cell 0
                have b1 := (Blk.new wr 65 #[.string x.f, .string x.t, .bool x.n]).cell 1
                have hM6 := (hM5.ch hB6 (by simp)).alloc (.cells #[.string x.f, .string x.t, .bool x.n] 65)
                have l2 := look_i2 hM6 x.t
                have l4 := look_i hM6 y
                have hv2 := HDK.out.vals x.t
                have hv4 := HVY.out
                simp only [hv4, encN, Option.map_some, Option.getD_some] at l4
                clear hv4
                by_cases hmt : x.f = y ∧ dst es x.t st.f = some m'
                · obtain ⟨hf, hd⟩ := hmt
                  simp only [hv2, hd, encN, Option.map_some, Option.getD_some, Option.isSome_some] at l2
                  have hft : (x.f.toList == y.toList) = true := by rw [beqS]; simpa using hf
                  have hnx : nxtAt es (es.take (k + 1)) st.f y m' = some x.t := by rw [HS6.out, HN6.out, if_pos ⟨hf, hd⟩]; rfl
                  have hnx2 : nxt es st.f y m' = x.t := by
                    have h2 := HT6.out _ hnx
                    rw [HNS.out] at h2
                    injection h2
                  have HNX : Hid (atW es st.f d st.t (j + 1) = x.t) := by unfold Hid; rw [HSU.out, ← HM2.out, hnx2]
                  clear hf hd hv2 hnx hnx2
                  go_wp2
                  go_roundw
                  case rel => exact ⟨j + 1, by omega, by rw [HNX.out], (hB5.trans hB6).alloc _, hM6, hnB5, (ho5'.ch0' hB6).ch0' ((Ch.refl [] wr).alloc _)⟩
                  case measure => rw [HL5.out]; simp only [lenV]; omega
                · have hnx : nxtAt es (es.take (k + 1)) st.f y m' = none := by rw [HS6.out, HN6.out, if_neg hmt]; rfl
                  have HNX := Lib.hid hnx; clear hnx
                  cases hd : dst es x.t st.f with
                  | none =>
                    simp only [hv2, hd, encN, Option.map_none, Option.getD_none, Option.isSome_none] at l2
                    clear hv2 hmt hd
                    go_wp2
                    all_goals
                      go_roundw
                      case rel => exact ⟨k + 1, rfl, by omega, by go_num, hB6.alloc _, HNX⟩
                      case measure => simp [intOf]; omega
                  | some d2 =>
                    simp only [hv2, hd, encN, Option.map_some, Option.getD_some, Option.isSome_some] at l2
                    by_cases hf : x.f = y
                    · have hft : (x.f.toList == y.toList) = true := by rw [beqS]; simpa using hf
                      have hdm : d2 ≠ m' := fun e => hmt ⟨hf, by rw [hd, e]⟩
                      have hdd2 : decide (d2 = m') = false := by simpa using hdm
                      have hdi : ((d2 : Int) == (m' : Int)) = false := by simp; omega
                      clear hv2 hmt hd hf hdm
                      go_wp2
                      all_goals
                        go_roundw
                        case rel => exact ⟨k + 1, rfl, by omega, by go_num, hB6.alloc _, HNX⟩
                        case measure => simp [intOf]; omega
                    · have hft : (x.f.toList == y.toList) = false := by rw [beqS]; simpa using hf
                      clear hv2 hmt hd hf
                      go_wp2
                      all_goals
                        go_roundw
                        case rel => exact ⟨k + 1, rfl, by omega, by go_num, hB6.alloc _, HNX⟩
                        case measure => simp [intOf]; omega
              · exfalso
                have : k = es.length := by omega
                subst this
                have h1 := HN6.out
                rw [List.take_length, HNS.out] at h1
                cases h1
          · have : j = d := by omega
            subst this
            rw [HWA.out] at ho4
            go_wp2
            rw [Exit.noGoto_ret]
            go_ret
            exact ⟨_, rfl, by rw [HCY.out]; exact (show SlS _ _ _ _ from ho4.sl).weak (fun b _ hb => by have := hb.1; omega), hc1.trans hB4⟩
end Go.Proofs.Ytbjdikeaolibpaa
